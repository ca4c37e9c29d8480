/- Slices that came in, as lists: small words of this seat's own. -/
import Derived.Test.YtcejgnnkjomjlaaRows
import Derived.WalkKit
import Derived.WalkSpells
import Derived.WalkLawsBesides
import Derived.Lib.Hide
import Derived.ProofKit
import Derived.OpenShut
import Derived.SizedLaws
import Derived.Deep.RegionHeld3
import Derived.Deep.RegionWith
import Derived.Deep.DeepCutAuto
import Derived.Deep.QuietTactic
import Derived.BigQuiet
import Derived.IntWalk
import Derived.StillTailTactics

namespace Go.Proofs.Ytcejgnnkjomjlaa
open Go.RowKit

theorem ret_int {k : IntKind} {a b : Int} (h : a = b) : Ending.returned (.int k a) = .returned (.int k b) := by rw [h]
theorem ret_bool {a b : Bool} (h : a = b) : Ending.returned (.bool a) = .returned (.bool b) := by rw [h]
theorem below1 (w : World) (o : Obj) : Below w.heap.size w (w.alloc o) := (Below.refl _ _).alloc (Nat.le_refl _) o

/-- a slice's value leads, below n₀, to these numbers -/
def RI (n₀ : Nat) (w : World) (k : IntKind) (a : Option Addr) (len : Nat) (zs : List Int) : Prop :=
  zs.length = len ∧ (∀ x ∈ zs, (Lit.int k x).wf = true) ∧ (0 < len → ∃ b off, a = some ⟨b, off, none⟩ ∧ b < n₀ ∧ ∀ j, j < len → w.cell? ⟨b, off + j, none⟩ = some (.int k (zs[j]?.getD 0)))

theorem RI.below {n₀ : Nat} {w w' : World} {k : IntKind} {a : Option Addr} {len : Nat} {zs : List Int} (h : RI n₀ w k a len zs) (hb : Below n₀ w w') : RI n₀ w' k a len zs := by
  refine ⟨h.1, h.2.1, fun hp => ?_⟩
  obtain ⟨b, off, ha, hlt, hc⟩ := h.2.2 hp
  exact ⟨b, off, ha, hlt, fun j hj => (hb.cell (p := ⟨b, off + j, none⟩) hlt).trans (hc j hj)⟩

theorem getD_wf {k : IntKind} {zs : List Int} (h : ∀ x ∈ zs, (Lit.int k x).wf = true) (j : Nat) (hj : j < zs.length) : (Lit.int k (zs[j]?.getD 0)).wf = true := by
  rw [List.getElem?_eq_getElem hj]
  exact h _ (List.getElem_mem hj)

def IsRow (k : IntKind) (w : World) (a : Option Addr) (len cap : Nat) (zs : List Int) : Prop :=
  (a = none ∧ len = 0 ∧ cap = 0 ∧ zs = []) ∨
  ∃ x, a = some x ∧ len ≤ cap ∧ cap ≤ maxLen ∧ zs.length = cap ∧ (∀ i, i < zs.length → w.cell? (x.add i) = some (.int k (zs.getD i 0))) ∧ ∀ n ∈ zs, (Lit.int k n).wf = true

theorem IsRow.len_le {k : IntKind} {w : World} {a : Option Addr} {len cap : Nat} {zs : List Int} (h : IsRow k w a len cap zs) : len ≤ cap := by
  rcases h with ⟨_, rfl, rfl, _⟩ | ⟨_, _, h, _⟩
  · exact Nat.le_refl _
  · exact h

theorem IsRow.ri {k : IntKind} {w : World} {a : Option Addr} {len cap : Nat} {zs : List Int} (h : IsRow k w a len cap zs) : RI w.heap.size w k a len (zs.take len) := by
  rcases h with ⟨rfl, rfl, rfl, rfl⟩ | ⟨x, rfl, hl, hm, hz, hc, hw⟩
  · exact ⟨rfl, by simp, fun h => absurd h (by omega)⟩
  · refine ⟨by simp; omega, fun y hy => hw y (List.mem_of_mem_take hy), fun hp => ?_⟩
    obtain ⟨b, off, rfl, hc'⟩ := ints_at hc (by omega)
    refine ⟨b, off, rfl, ?_, fun j hj => ?_⟩
    · exact World.block_lt_of_cell? _ _ (hc' 0 (by omega))
    · rw [hc' j (by omega), List.getD_eq_getElem?_getD, List.getElem?_take_of_lt hj]

/-! ### Blocks, whole -/
/-- block b holds just these cells, of elements of type T, and may be written -/
def Blk (w : World) (b : Nat) (cs : Array Value) (T : Nat) : Prop := w.heap[b]? = some (.cells cs T (0, 0))
theorem Blk.lt {w : World} {b : Nat} {cs : Array Value} {T : Nat} (h : Blk w b cs T) : b < w.heap.size := lt_of_block h
theorem Blk.cell {w : World} {b : Nat} {cs : Array Value} {T : Nat} (h : Blk w b cs T) (i : Nat) {v : Value} (hv : cs[i]? = some v) : w.cell? ⟨b, i, none⟩ = some v := by
  unfold Blk at h
  simp [World.cell?, h, hv]
theorem Blk.frozen {w : World} {b : Nat} {cs : Array Value} {T : Nat} (h : Blk w b cs T) (i : Nat) : w.frozen? ⟨b, i, none⟩ = false := by
  unfold Blk at h
  simp [World.frozen?, h]
theorem Blk.new (w : World) (cs : Array Value) (T : Nat) : Blk (w.alloc (.cells cs T)) w.heap.size cs T := by
  show (w.heap.push _)[w.heap.size]? = _
  simp
theorem Blk.alloc {w : World} {b : Nat} {cs : Array Value} {T : Nat} (h : Blk w b cs T) (o : Obj) : Blk (w.alloc o) b cs T :=
  (Below.heap_alloc w o b h.lt).trans h
theorem Blk.below {w w' : World} {b n : Nat} {cs : Array Value} {T : Nat} (h : Blk w b cs T) (hb : Below n w w') (hn : b < n) : Blk w' b cs T :=
  (hb.block b hn).trans h
theorem Blk.set {w : World} {b : Nat} {cs : Array Value} {T : Nat} (h : Blk w b cs T) (i : Nat) (v : Value) : Blk (w.setCell ⟨b, i, none⟩ v) b (cs.setIfInBounds i v) T := by
  have hlt := h.lt
  unfold Blk at h ⊢
  have h' : w.heap[b] = .cells cs T (0, 0) := by simpa [Array.getElem?_eq_getElem hlt] using h
  show (w.heap.modify b _)[b]? = _
  rw [Array.getElem?_eq_getElem (by simpa using hlt), Array.getElem_modify_self, h']
  rfl
theorem Blk.other {w : World} {b : Nat} {cs : Array Value} {T : Nat} (h : Blk w b cs T) {a : Addr} (hne : b ≠ a.block) (v : Value) : Blk (w.setCell a v) b cs T :=
  (Below.heap_setCell w a v b hne).trans h

/-! ### 'Below' from the heap's own size on: the steps of a walk -/
theorem bel_alloc {a w : World} (h : Below a.heap.size a w) (o : Obj) : Below a.heap.size a (w.alloc o) := h.alloc h.size o
theorem bel_drewN {a w : World} (h : Below a.heap.size a w) (n : Nat) : Below a.heap.size a (w.drewN n) := ⟨h.os, h.tape, h.output, h.size, h.block⟩
theorem bel_drew {a w : World} (h : Below a.heap.size a w) : Below a.heap.size a w.drew := ⟨h.os, h.tape, h.output, h.size, h.block⟩
theorem bel_set {a w : World} (h : Below a.heap.size a w) {b i : Nat} (hp : a.heap.size ≤ b) (v : Value) : Below a.heap.size a (w.setCell ⟨b, i, none⟩ v) := h.setCell (p := ⟨b, i, none⟩) hp v
theorem bel_trans {a w w' : World} (h : Below a.heap.size a w) (k : Below w.heap.size w w') : Below a.heap.size a w' := h.trans (k.mono h.size)

/-- w' is w but for the blocks in S, and for new ones -/
structure Chg (S : Nat → Prop) (w w' : World) : Prop where
  os : w'.os = w.os
  tape : w'.tape = w.tape
  output : w'.output = w.output
  size : w.heap.size ≤ w'.heap.size
  block : ∀ k, k < w.heap.size → ¬ S k → w'.heap[k]? = w.heap[k]?
theorem Chg.refl (S : Nat → Prop) (w : World) : Chg S w w := ⟨rfl, rfl, rfl, Nat.le_refl _, fun _ _ _ => rfl⟩
theorem Chg.trans {S : Nat → Prop} {a b c : World} (h : Chg S a b) (k : Chg S b c) : Chg S a c :=
  ⟨k.os.trans h.os, k.tape.trans h.tape, k.output.trans h.output, Nat.le_trans h.size k.size, fun i hi hs => (k.block i (Nat.lt_of_lt_of_le hi h.size) hs).trans (h.block i hi hs)⟩
theorem Chg.mono {S S' : Nat → Prop} {a b : World} (h : Chg S a b) (hs : ∀ k, k < a.heap.size → S k → S' k) : Chg S' a b :=
  ⟨h.os, h.tape, h.output, h.size, fun i hi hn => h.block i hi (fun x => hn (hs i hi x))⟩
theorem Chg.of_below {w w' : World} (h : Below w.heap.size w w') (S : Nat → Prop) : Chg S w w' := ⟨h.os, h.tape, h.output, h.size, fun k hk _ => h.block k hk⟩
theorem Chg.below {S : Nat → Prop} {w w' : World} {n : Nat} (h : Chg S w w') (hn : n ≤ w.heap.size) (hs : ∀ k, k < w.heap.size → S k → n ≤ k) : Below n w w' :=
  ⟨h.os, h.tape, h.output, h.size, fun k hk => h.block k (by omega) (fun x => by have := hs k (by omega) x; omega)⟩
theorem Chg.alloc {S : Nat → Prop} {a w : World} (h : Chg S a w) (o : Obj) : Chg S a (w.alloc o) := h.trans (Chg.of_below (below1 w o) S)
theorem Chg.set {S : Nat → Prop} {a w : World} (h : Chg S a w) {p : Addr} (hp : S p.block) (v : Value) : Chg S a (w.setCell p v) :=
  h.trans ⟨rfl, rfl, rfl, by simp [World.setCell], fun k _ hn => Below.heap_setCell _ _ _ _ (fun e => hn (e ▸ hp))⟩
theorem Chg.drewN {S : Nat → Prop} {a w : World} (h : Chg S a w) (n : Nat) : Chg S a (w.drewN n) := ⟨h.os, h.tape, h.output, h.size, h.block⟩
theorem Blk.chg {S : Nat → Prop} {w w' : World} {b : Nat} {cs : Array Value} {T : Nat} (h : Blk w b cs T) (hc : Chg S w w') (hn : ¬ S b) : Blk w' b cs T :=
  (hc.block b h.lt hn).trans h

section
open Go.ChangeShapes Go.WideShapes
/-- the reach of a row, at a slice of whole numbers: its length times an element's bytes -/
theorem reach_ints {H : Type} {enc : TypeId × Value → H} {P : Program} {W : World} {base : Nat} {spare : Nat → Bool} {held : Bool} {t e B : Nat} {k : IntKind} {a : Option Addr} {len cap : Nat} {d : DataW H} {ps : List MemPlace} {ts : List TypeId} {ds : List (DataW H)} {j : Nat}
    (hsz : (DataW.weightsEach P ts ds).all (· ≤ reachBytes) = true) (ht : ts[j]? = some t) (hd : ds[j]? = some d) (hu : P.underlying t = some (.slice e)) (he : P.underlying e = some (.int k)) (hc : P.cellsOf e = 1) (hB : P.bytesOf e = B)
    (h : DataW.Trod enc P W base spare held t (.slice a len cap) d ps) : len * B ≤ 140737488351232 := by
  obtain ⟨fuel, hf⟩ := h
  rcases open_ints hu he hc hf with ⟨hcs, _⟩ | ⟨x, l, c, zs, hcs, _, hl, _, hz, hx, _, _⟩
  · simp [Value.cells] at hcs
    obtain ⟨rfl, rfl, rfl⟩ := hcs
    omega
  · simp [Value.cells] at hcs
    obtain ⟨rfl, rfl, rfl⟩ := hcs
    have hx1 := congrArg Prod.fst hx
    simp only at hx1
    subst hx1
    have hw := sized_slice hsz ht hd hu
    rw [hB] at hw
    refine Nat.le_trans (Nat.mul_le_mul_right _ ?_) hw
    have : len ≤ zs.length := by rw [hz]; split <;> omega
    simp [lits]
    omega
end

end Go.Proofs.Ytcejgnnkjomjlaa

/- Records, and which of two is before the other one. -/
namespace Go.Proofs.Ytcejgnnkjomjlaa
open Go.RowKit

structure R4 where
  u : Int
  v : Int
  w : Int
  t : Int
abbrev R4.val (r : R4) : Value := .agg #[.int .u64 r.u, .int .u64 r.v, .int .i64 r.w, .int .i64 r.t]
structure R4.Ok (r : R4) : Prop where
  u : 0 ≤ r.u ∧ r.u ≤ 18446744073709551615
  v : 0 ≤ r.v ∧ r.v ≤ 18446744073709551615
  w : -9223372036854775808 ≤ r.w ∧ r.w ≤ 9223372036854775807
  t : -9223372036854775808 ≤ r.t ∧ r.t ≤ 9223372036854775807

def ltW (a b : R4) : Bool := decide (a.w < b.w)
def ltT (a b : R4) : Bool := decide (a.t < b.t)
def lo_ (a : R4) : Int := if a.v < a.u then a.v else a.u
def hi_ (a : R4) : Int := if a.v < a.u then a.u else a.v
def ltP (a b : R4) : Bool := decide (lo_ a < lo_ b ∨ lo_ a = lo_ b ∧ hi_ a < hi_ b)

theorem lt1_any (a b : R4) (w : World) : Calls Try.prog 43 #[a.val, b.val] w fun e w' => e = .returned (.bool (ltW a b)) ∧ Below w.heap.size w w' := by
  go_enter Try.func43, Try.ntmps43
  go_wp2
  go_ret
  exact ⟨rfl, bel_alloc (bel_alloc (Below.refl _ _) _) _⟩
theorem lt2_any (a b : R4) (w : World) : Calls Try.prog 44 #[a.val, b.val] w fun e w' => e = .returned (.bool (ltT a b)) ∧ Below w.heap.size w w' := by
  go_enter Try.func44, Try.ntmps44
  go_wp2
  go_ret
  exact ⟨rfl, bel_alloc (bel_alloc (Below.refl _ _) _) _⟩

theorem isnan_any (x : Int) (w : World) : Calls Try.prog 48 #[.int .u64 x] w fun e w' => e = .returned (.bool false) ∧ w = w' := by
  go_enter Try.func48, Try.ntmps48
  go_wp2
  go_ret
  exact ⟨ret_bool (by simp), rfl⟩
def cmpZ (x y : Int) : Int := if x < y then -1 else if y < x then 1 else 0
theorem compare_any (x y : Int) (w : World) : Calls Try.prog 47 #[.int .u64 x, .int .u64 y] w fun e w' => e = .returned (.int .i64 (cmpZ x y)) ∧ w = w' := by
  unfold cmpZ
  by_cases h : x < y
  · have hd : decide (x < y) = true := decide_eq_true h
    rw [if_pos h]
    go_enter Try.func47, Try.ntmps47
    go_wp2_with (go_at_call 48; refine (isnan_any _ _).mono ?_; rintro e w' ⟨rfl, rfl⟩)
    go_ret
    exact ⟨rfl, rfl⟩
  · have hd : decide (x < y) = false := decide_eq_false h
    rw [if_neg h]
    by_cases h2 : y < x
    · have hd2 : decide (y < x) = true := decide_eq_true h2
      rw [if_pos h2]
      go_enter Try.func47, Try.ntmps47
      go_wp2_with (go_at_call 48; refine (isnan_any _ _).mono ?_; rintro e w' ⟨rfl, rfl⟩)
      go_ret
      exact ⟨rfl, rfl⟩
    · have hd2 : decide (y < x) = false := decide_eq_false h2
      rw [if_neg h2]
      go_enter Try.func47, Try.ntmps47
      go_wp2_with (go_at_call 48; refine (isnan_any _ _).mono ?_; rintro e w' ⟨rfl, rfl⟩)
      go_ret
      exact ⟨rfl, rfl⟩

def orZ (x y : Int) : Int := if x = 0 then y else x
theorem or_any (b : Nat) (x y : Int) (w : World) (hb : Blk w b #[.int .i64 x, .int .i64 y] 3) : Calls Try.prog 46 #[.slice (some ⟨b, 0, none⟩) 2 2] w fun e w' => e = .returned (.int .i64 (orZ x y)) ∧ w = w' := by
  have c0 := hb.cell 0 (v := .int .i64 x) rfl
  have c1 := hb.cell 1 (v := .int .i64 y) rfl
  clear hb
  unfold orZ
  by_cases h : x = 0
  · rw [if_pos h]
    subst h
    by_cases h2 : y = 0
    · subst h2
      go_enter Try.func46, Try.ntmps46
      go_wp2
      go_loop [8] (fun v8 => ∃ k : Nat, k ≤ 2 ∧ v8 = .int .i64 (k : Int)) (fun v8 => 2 - (intOf v8).toNat)
      case atStart => exact ⟨0, by omega, rfl⟩
      case round =>
        obtain ⟨k, hk, rfl⟩ := hrel
        match k, hk with
        | 0, _ =>
          go_wp2
          go_round
          case rel => exact ⟨1, by omega, rfl⟩
          case measure => simp [intOf]
        | 1, _ =>
          go_wp2
          go_round
          case rel => exact ⟨2, by omega, rfl⟩
          case measure => simp [intOf]
        | 2, _ =>
          go_wp2
          go_ret
          exact ⟨rfl, rfl⟩
    · have hy : (y != 0) = true := by simpa using h2
      go_enter Try.func46, Try.ntmps46
      go_wp2
      go_loop [8] (fun v8 => ∃ k : Nat, k ≤ 1 ∧ v8 = .int .i64 (k : Int)) (fun v8 => 2 - (intOf v8).toNat)
      case atStart => exact ⟨0, by omega, rfl⟩
      case round =>
        obtain ⟨k, hk, rfl⟩ := hrel
        match k, hk with
        | 0, _ =>
          go_wp2
          go_round
          case rel => exact ⟨1, by omega, rfl⟩
          case measure => simp [intOf]
        | 1, _ =>
          go_wp2
          go_ret
          exact ⟨rfl, rfl⟩
  · rw [if_neg h]
    have hx : (x != 0) = true := by simpa using h
    clear h
    go_enter Try.func46, Try.ntmps46
    go_wp2
    go_loop [8] (fun v8 => v8 = .int .i64 (0 : Int)) (fun v8 => 2 - (intOf v8).toNat)
    case atStart => exact rfl
    case round =>
      subst hrel
      go_wp2
      go_ret
      exact ⟨rfl, rfl⟩

end Go.Proofs.Ytcejgnnkjomjlaa

/- The order by pairs. -/
namespace Go.Proofs.Ytcejgnnkjomjlaa
open Go.RowKit

abbrev R4.cs (r : R4) : Array Value := #[.int .u64 r.u, .int .u64 r.v, .int .i64 r.w, .int .i64 r.t]
theorem or_lt (x y z t : Int) : decide (orZ (cmpZ x y) (cmpZ z t) < 0) = decide (x < y ∨ x = y ∧ z < t) := by
  unfold orZ cmpZ
  by_cases h1 : x < y
  · simp [h1]
  · by_cases h2 : y < x
    · have : ¬ x = y := by omega
      simp [h1, h2, this]
    · have : x = y := by omega
      subst this
      by_cases h3 : z < t
      · simp [h3]
      · by_cases h4 : t < z <;> simp [h3, h4]
theorem compare_still (x y : Int) (w : World) : Calls Try.prog 47 #[.int .u64 x, .int .u64 y] w fun e w' => e = .returned (.int .i64 (cmpZ x y)) ∧ w' = w :=
  (compare_any x y w).mono fun _ _ h => ⟨h.1, h.2.symm⟩

set_option maxHeartbeats 1000000 in
theorem lt3_11 (a b : R4) (w : World) (ha : a.v < a.u) (hb : b.v < b.u) : Calls Try.prog 45 #[a.val, b.val] w fun e w' => e = .returned (.bool (ltP a b)) ∧ Below w.heap.size w w' := by
  have hfin : ltP a b = decide (orZ (cmpZ a.v b.v) (cmpZ a.u b.u) < 0) := by
    have e1 : lo_ a = a.v := by unfold lo_; split <;> omega
    have e2 : hi_ a = a.u := by unfold hi_; split <;> omega
    have e3 : lo_ b = b.v := by unfold lo_; split <;> omega
    have e4 : hi_ b = b.u := by unfold hi_; split <;> omega
    rw [or_lt]; unfold ltP; rw [e1, e2, e3, e4]
  replace hfin := Lib.hid hfin
  have B0 := (Blk.new w a.cs 24).alloc (.cells b.cs 24)
  have B1 := Blk.new (w.alloc (.cells a.cs 24)) b.cs 24
  rw [World.size_alloc] at B1
  have hbl : Below w.heap.size w ((w.alloc (.cells a.cs 24)).alloc (.cells b.cs 24)) := bel_alloc (bel_alloc (Below.refl _ _) _) _
  replace hbl := Lib.hid hbl
  replace B0 := Lib.hid B0
  replace B1 := Lib.hid B1
  go_enter Try.func45, Try.ntmps45
  go_wp2_with fail
  generalize (w.alloc (.cells a.cs 24)).alloc (.cells b.cs 24) = W at *
  have c0 := B0.out.cell 0 (v := .int .u64 a.u) rfl
  have c1 := B0.out.cell 1 (v := .int .u64 a.v) rfl
  have c2 := B1.out.cell 0 (v := .int .u64 b.u) rfl
  have c3 := B1.out.cell 1 (v := .int .u64 b.v) rfl
  refine wp_region_still_tail 22 (by kernel_rfl) (by kernel_rfl) ?_
  simp only [List.take_succ_cons, List.take_zero, List.drop_succ_cons, List.drop_zero]
  change wpStill _ _ W.drew _ _ _
  repeat (first | still_step | still_call (compare_still _ _ _))
  refine wpStill_nil ?_
  change wpList _ _ _ _ _ W.drew
  go_wp2_with (go_at_call 46; refine (or_any W.heap.size (cmpZ a.v b.v) (cmpZ a.u b.u) _ ?_).mono ?_; exact Blk.new W _ 3; rintro e w1 ⟨rfl, rfl⟩)
  go_ret
  exact ⟨ret_bool hfin.out.symm, by first | exact bel_drew (bel_alloc hbl.out _) | exact bel_alloc (bel_drew hbl.out) _⟩
set_option maxHeartbeats 1000000 in
theorem lt3_12 (a b : R4) (w : World) (ha : a.v < a.u) (hb : b.u < b.v) : Calls Try.prog 45 #[a.val, b.val] w fun e w' => e = .returned (.bool (ltP a b)) ∧ Below w.heap.size w w' := by
  have hfin : ltP a b = decide (orZ (cmpZ a.v b.u) (cmpZ a.u b.v) < 0) := by
    have e1 : lo_ a = a.v := by unfold lo_; split <;> omega
    have e2 : hi_ a = a.u := by unfold hi_; split <;> omega
    have e3 : lo_ b = b.u := by unfold lo_; split <;> omega
    have e4 : hi_ b = b.v := by unfold hi_; split <;> omega
    rw [or_lt]; unfold ltP; rw [e1, e2, e3, e4]
  replace hfin := Lib.hid hfin
  have B0 := (Blk.new w a.cs 24).alloc (.cells b.cs 24)
  have B1 := Blk.new (w.alloc (.cells a.cs 24)) b.cs 24
  rw [World.size_alloc] at B1
  have hbl : Below w.heap.size w ((w.alloc (.cells a.cs 24)).alloc (.cells b.cs 24)) := bel_alloc (bel_alloc (Below.refl _ _) _) _
  replace hbl := Lib.hid hbl
  replace B0 := Lib.hid B0
  replace B1 := Lib.hid B1
  go_enter Try.func45, Try.ntmps45
  go_wp2_with fail
  generalize (w.alloc (.cells a.cs 24)).alloc (.cells b.cs 24) = W at *
  have c0 := B0.out.cell 0 (v := .int .u64 a.u) rfl
  have c1 := B0.out.cell 1 (v := .int .u64 a.v) rfl
  have c2 := B1.out.cell 0 (v := .int .u64 b.u) rfl
  have c3 := B1.out.cell 1 (v := .int .u64 b.v) rfl
  refine wp_region_still_tail 22 (by kernel_rfl) (by kernel_rfl) ?_
  simp only [List.take_succ_cons, List.take_zero, List.drop_succ_cons, List.drop_zero]
  change wpStill _ _ W.drew _ _ _
  repeat (first | still_step | still_call (compare_still _ _ _))
  refine wpStill_nil ?_
  change wpList _ _ _ _ _ W.drew
  go_wp2_with (go_at_call 46; refine (or_any W.heap.size (cmpZ a.v b.u) (cmpZ a.u b.v) _ ?_).mono ?_; exact Blk.new W _ 3; rintro e w1 ⟨rfl, rfl⟩)
  go_ret
  exact ⟨ret_bool hfin.out.symm, by first | exact bel_drew (bel_alloc hbl.out _) | exact bel_alloc (bel_drew hbl.out) _⟩
set_option maxHeartbeats 1000000 in
theorem lt3_13 (a b : R4) (w : World) (ha : a.v < a.u) (hb : ¬ b.v < b.u ∧ ¬ b.u < b.v) : Calls Try.prog 45 #[a.val, b.val] w fun e w' => e = .returned (.bool (ltP a b)) ∧ Below w.heap.size w w' := by
  have hfin : ltP a b = decide (orZ (cmpZ a.v b.u) (cmpZ a.u b.u) < 0) := by
    have e1 : lo_ a = a.v := by unfold lo_; split <;> omega
    have e2 : hi_ a = a.u := by unfold hi_; split <;> omega
    have e3 : lo_ b = b.u := by unfold lo_; split <;> omega
    have e4 : hi_ b = b.u := by unfold hi_; split <;> omega
    rw [or_lt]; unfold ltP; rw [e1, e2, e3, e4]
  replace hfin := Lib.hid hfin
  obtain ⟨hb1, hb2⟩ := hb
  have B0 := (Blk.new w a.cs 24).alloc (.cells b.cs 24)
  have B1 := Blk.new (w.alloc (.cells a.cs 24)) b.cs 24
  rw [World.size_alloc] at B1
  have hbl : Below w.heap.size w ((w.alloc (.cells a.cs 24)).alloc (.cells b.cs 24)) := bel_alloc (bel_alloc (Below.refl _ _) _) _
  replace hbl := Lib.hid hbl
  replace B0 := Lib.hid B0
  replace B1 := Lib.hid B1
  go_enter Try.func45, Try.ntmps45
  go_wp2_with fail
  generalize (w.alloc (.cells a.cs 24)).alloc (.cells b.cs 24) = W at *
  have c0 := B0.out.cell 0 (v := .int .u64 a.u) rfl
  have c1 := B0.out.cell 1 (v := .int .u64 a.v) rfl
  have c2 := B1.out.cell 0 (v := .int .u64 b.u) rfl
  have c3 := B1.out.cell 1 (v := .int .u64 b.v) rfl
  refine wp_region_still_tail 22 (by kernel_rfl) (by kernel_rfl) ?_
  simp only [List.take_succ_cons, List.take_zero, List.drop_succ_cons, List.drop_zero]
  change wpStill _ _ W.drew _ _ _
  repeat (first | still_step | still_call (compare_still _ _ _))
  refine wpStill_nil ?_
  change wpList _ _ _ _ _ W.drew
  go_wp2_with (go_at_call 46; refine (or_any W.heap.size (cmpZ a.v b.u) (cmpZ a.u b.u) _ ?_).mono ?_; exact Blk.new W _ 3; rintro e w1 ⟨rfl, rfl⟩)
  go_ret
  exact ⟨ret_bool hfin.out.symm, by first | exact bel_drew (bel_alloc hbl.out _) | exact bel_alloc (bel_drew hbl.out) _⟩
set_option maxHeartbeats 1000000 in
theorem lt3_21 (a b : R4) (w : World) (ha : a.u < a.v) (hb : b.v < b.u) : Calls Try.prog 45 #[a.val, b.val] w fun e w' => e = .returned (.bool (ltP a b)) ∧ Below w.heap.size w w' := by
  have hfin : ltP a b = decide (orZ (cmpZ a.u b.v) (cmpZ a.v b.u) < 0) := by
    have e1 : lo_ a = a.u := by unfold lo_; split <;> omega
    have e2 : hi_ a = a.v := by unfold hi_; split <;> omega
    have e3 : lo_ b = b.v := by unfold lo_; split <;> omega
    have e4 : hi_ b = b.u := by unfold hi_; split <;> omega
    rw [or_lt]; unfold ltP; rw [e1, e2, e3, e4]
  replace hfin := Lib.hid hfin
  have B0 := (Blk.new w a.cs 24).alloc (.cells b.cs 24)
  have B1 := Blk.new (w.alloc (.cells a.cs 24)) b.cs 24
  rw [World.size_alloc] at B1
  have hbl : Below w.heap.size w ((w.alloc (.cells a.cs 24)).alloc (.cells b.cs 24)) := bel_alloc (bel_alloc (Below.refl _ _) _) _
  replace hbl := Lib.hid hbl
  replace B0 := Lib.hid B0
  replace B1 := Lib.hid B1
  go_enter Try.func45, Try.ntmps45
  go_wp2_with fail
  generalize (w.alloc (.cells a.cs 24)).alloc (.cells b.cs 24) = W at *
  have c0 := B0.out.cell 0 (v := .int .u64 a.u) rfl
  have c1 := B0.out.cell 1 (v := .int .u64 a.v) rfl
  have c2 := B1.out.cell 0 (v := .int .u64 b.u) rfl
  have c3 := B1.out.cell 1 (v := .int .u64 b.v) rfl
  refine wp_region_still_tail 22 (by kernel_rfl) (by kernel_rfl) ?_
  simp only [List.take_succ_cons, List.take_zero, List.drop_succ_cons, List.drop_zero]
  change wpStill _ _ W.drew _ _ _
  repeat (first | still_step | still_call (compare_still _ _ _))
  refine wpStill_nil ?_
  change wpList _ _ _ _ _ W.drew
  go_wp2_with (go_at_call 46; refine (or_any W.heap.size (cmpZ a.u b.v) (cmpZ a.v b.u) _ ?_).mono ?_; exact Blk.new W _ 3; rintro e w1 ⟨rfl, rfl⟩)
  go_ret
  exact ⟨ret_bool hfin.out.symm, by first | exact bel_drew (bel_alloc hbl.out _) | exact bel_alloc (bel_drew hbl.out) _⟩
set_option maxHeartbeats 1000000 in
theorem lt3_22 (a b : R4) (w : World) (ha : a.u < a.v) (hb : b.u < b.v) : Calls Try.prog 45 #[a.val, b.val] w fun e w' => e = .returned (.bool (ltP a b)) ∧ Below w.heap.size w w' := by
  have hfin : ltP a b = decide (orZ (cmpZ a.u b.u) (cmpZ a.v b.v) < 0) := by
    have e1 : lo_ a = a.u := by unfold lo_; split <;> omega
    have e2 : hi_ a = a.v := by unfold hi_; split <;> omega
    have e3 : lo_ b = b.u := by unfold lo_; split <;> omega
    have e4 : hi_ b = b.v := by unfold hi_; split <;> omega
    rw [or_lt]; unfold ltP; rw [e1, e2, e3, e4]
  replace hfin := Lib.hid hfin
  have B0 := (Blk.new w a.cs 24).alloc (.cells b.cs 24)
  have B1 := Blk.new (w.alloc (.cells a.cs 24)) b.cs 24
  rw [World.size_alloc] at B1
  have hbl : Below w.heap.size w ((w.alloc (.cells a.cs 24)).alloc (.cells b.cs 24)) := bel_alloc (bel_alloc (Below.refl _ _) _) _
  replace hbl := Lib.hid hbl
  replace B0 := Lib.hid B0
  replace B1 := Lib.hid B1
  go_enter Try.func45, Try.ntmps45
  go_wp2_with fail
  generalize (w.alloc (.cells a.cs 24)).alloc (.cells b.cs 24) = W at *
  have c0 := B0.out.cell 0 (v := .int .u64 a.u) rfl
  have c1 := B0.out.cell 1 (v := .int .u64 a.v) rfl
  have c2 := B1.out.cell 0 (v := .int .u64 b.u) rfl
  have c3 := B1.out.cell 1 (v := .int .u64 b.v) rfl
  refine wp_region_still_tail 22 (by kernel_rfl) (by kernel_rfl) ?_
  simp only [List.take_succ_cons, List.take_zero, List.drop_succ_cons, List.drop_zero]
  change wpStill _ _ W.drew _ _ _
  repeat (first | still_step | still_call (compare_still _ _ _))
  refine wpStill_nil ?_
  change wpList _ _ _ _ _ W.drew
  go_wp2_with (go_at_call 46; refine (or_any W.heap.size (cmpZ a.u b.u) (cmpZ a.v b.v) _ ?_).mono ?_; exact Blk.new W _ 3; rintro e w1 ⟨rfl, rfl⟩)
  go_ret
  exact ⟨ret_bool hfin.out.symm, by first | exact bel_drew (bel_alloc hbl.out _) | exact bel_alloc (bel_drew hbl.out) _⟩
set_option maxHeartbeats 1000000 in
theorem lt3_23 (a b : R4) (w : World) (ha : a.u < a.v) (hb : ¬ b.v < b.u ∧ ¬ b.u < b.v) : Calls Try.prog 45 #[a.val, b.val] w fun e w' => e = .returned (.bool (ltP a b)) ∧ Below w.heap.size w w' := by
  have hfin : ltP a b = decide (orZ (cmpZ a.u b.u) (cmpZ a.v b.u) < 0) := by
    have e1 : lo_ a = a.u := by unfold lo_; split <;> omega
    have e2 : hi_ a = a.v := by unfold hi_; split <;> omega
    have e3 : lo_ b = b.u := by unfold lo_; split <;> omega
    have e4 : hi_ b = b.u := by unfold hi_; split <;> omega
    rw [or_lt]; unfold ltP; rw [e1, e2, e3, e4]
  replace hfin := Lib.hid hfin
  obtain ⟨hb1, hb2⟩ := hb
  have B0 := (Blk.new w a.cs 24).alloc (.cells b.cs 24)
  have B1 := Blk.new (w.alloc (.cells a.cs 24)) b.cs 24
  rw [World.size_alloc] at B1
  have hbl : Below w.heap.size w ((w.alloc (.cells a.cs 24)).alloc (.cells b.cs 24)) := bel_alloc (bel_alloc (Below.refl _ _) _) _
  replace hbl := Lib.hid hbl
  replace B0 := Lib.hid B0
  replace B1 := Lib.hid B1
  go_enter Try.func45, Try.ntmps45
  go_wp2_with fail
  generalize (w.alloc (.cells a.cs 24)).alloc (.cells b.cs 24) = W at *
  have c0 := B0.out.cell 0 (v := .int .u64 a.u) rfl
  have c1 := B0.out.cell 1 (v := .int .u64 a.v) rfl
  have c2 := B1.out.cell 0 (v := .int .u64 b.u) rfl
  have c3 := B1.out.cell 1 (v := .int .u64 b.v) rfl
  refine wp_region_still_tail 22 (by kernel_rfl) (by kernel_rfl) ?_
  simp only [List.take_succ_cons, List.take_zero, List.drop_succ_cons, List.drop_zero]
  change wpStill _ _ W.drew _ _ _
  repeat (first | still_step | still_call (compare_still _ _ _))
  refine wpStill_nil ?_
  change wpList _ _ _ _ _ W.drew
  go_wp2_with (go_at_call 46; refine (or_any W.heap.size (cmpZ a.u b.u) (cmpZ a.v b.u) _ ?_).mono ?_; exact Blk.new W _ 3; rintro e w1 ⟨rfl, rfl⟩)
  go_ret
  exact ⟨ret_bool hfin.out.symm, by first | exact bel_drew (bel_alloc hbl.out _) | exact bel_alloc (bel_drew hbl.out) _⟩
set_option maxHeartbeats 1000000 in
theorem lt3_31 (a b : R4) (w : World) (ha : ¬ a.v < a.u ∧ ¬ a.u < a.v) (hb : b.v < b.u) : Calls Try.prog 45 #[a.val, b.val] w fun e w' => e = .returned (.bool (ltP a b)) ∧ Below w.heap.size w w' := by
  have hfin : ltP a b = decide (orZ (cmpZ a.u b.v) (cmpZ a.u b.u) < 0) := by
    have e1 : lo_ a = a.u := by unfold lo_; split <;> omega
    have e2 : hi_ a = a.u := by unfold hi_; split <;> omega
    have e3 : lo_ b = b.v := by unfold lo_; split <;> omega
    have e4 : hi_ b = b.u := by unfold hi_; split <;> omega
    rw [or_lt]; unfold ltP; rw [e1, e2, e3, e4]
  replace hfin := Lib.hid hfin
  obtain ⟨ha1, ha2⟩ := ha
  have B0 := (Blk.new w a.cs 24).alloc (.cells b.cs 24)
  have B1 := Blk.new (w.alloc (.cells a.cs 24)) b.cs 24
  rw [World.size_alloc] at B1
  have hbl : Below w.heap.size w ((w.alloc (.cells a.cs 24)).alloc (.cells b.cs 24)) := bel_alloc (bel_alloc (Below.refl _ _) _) _
  replace hbl := Lib.hid hbl
  replace B0 := Lib.hid B0
  replace B1 := Lib.hid B1
  go_enter Try.func45, Try.ntmps45
  go_wp2_with fail
  generalize (w.alloc (.cells a.cs 24)).alloc (.cells b.cs 24) = W at *
  have c0 := B0.out.cell 0 (v := .int .u64 a.u) rfl
  have c1 := B0.out.cell 1 (v := .int .u64 a.v) rfl
  have c2 := B1.out.cell 0 (v := .int .u64 b.u) rfl
  have c3 := B1.out.cell 1 (v := .int .u64 b.v) rfl
  refine wp_region_still_tail 22 (by kernel_rfl) (by kernel_rfl) ?_
  simp only [List.take_succ_cons, List.take_zero, List.drop_succ_cons, List.drop_zero]
  change wpStill _ _ W.drew _ _ _
  repeat (first | still_step | still_call (compare_still _ _ _))
  refine wpStill_nil ?_
  change wpList _ _ _ _ _ W.drew
  go_wp2_with (go_at_call 46; refine (or_any W.heap.size (cmpZ a.u b.v) (cmpZ a.u b.u) _ ?_).mono ?_; exact Blk.new W _ 3; rintro e w1 ⟨rfl, rfl⟩)
  go_ret
  exact ⟨ret_bool hfin.out.symm, by first | exact bel_drew (bel_alloc hbl.out _) | exact bel_alloc (bel_drew hbl.out) _⟩
set_option maxHeartbeats 1000000 in
theorem lt3_32 (a b : R4) (w : World) (ha : ¬ a.v < a.u ∧ ¬ a.u < a.v) (hb : b.u < b.v) : Calls Try.prog 45 #[a.val, b.val] w fun e w' => e = .returned (.bool (ltP a b)) ∧ Below w.heap.size w w' := by
  have hfin : ltP a b = decide (orZ (cmpZ a.u b.u) (cmpZ a.u b.v) < 0) := by
    have e1 : lo_ a = a.u := by unfold lo_; split <;> omega
    have e2 : hi_ a = a.u := by unfold hi_; split <;> omega
    have e3 : lo_ b = b.u := by unfold lo_; split <;> omega
    have e4 : hi_ b = b.v := by unfold hi_; split <;> omega
    rw [or_lt]; unfold ltP; rw [e1, e2, e3, e4]
  replace hfin := Lib.hid hfin
  obtain ⟨ha1, ha2⟩ := ha
  have B0 := (Blk.new w a.cs 24).alloc (.cells b.cs 24)
  have B1 := Blk.new (w.alloc (.cells a.cs 24)) b.cs 24
  rw [World.size_alloc] at B1
  have hbl : Below w.heap.size w ((w.alloc (.cells a.cs 24)).alloc (.cells b.cs 24)) := bel_alloc (bel_alloc (Below.refl _ _) _) _
  replace hbl := Lib.hid hbl
  replace B0 := Lib.hid B0
  replace B1 := Lib.hid B1
  go_enter Try.func45, Try.ntmps45
  go_wp2_with fail
  generalize (w.alloc (.cells a.cs 24)).alloc (.cells b.cs 24) = W at *
  have c0 := B0.out.cell 0 (v := .int .u64 a.u) rfl
  have c1 := B0.out.cell 1 (v := .int .u64 a.v) rfl
  have c2 := B1.out.cell 0 (v := .int .u64 b.u) rfl
  have c3 := B1.out.cell 1 (v := .int .u64 b.v) rfl
  refine wp_region_still_tail 22 (by kernel_rfl) (by kernel_rfl) ?_
  simp only [List.take_succ_cons, List.take_zero, List.drop_succ_cons, List.drop_zero]
  change wpStill _ _ W.drew _ _ _
  repeat (first | still_step | still_call (compare_still _ _ _))
  refine wpStill_nil ?_
  change wpList _ _ _ _ _ W.drew
  go_wp2_with (go_at_call 46; refine (or_any W.heap.size (cmpZ a.u b.u) (cmpZ a.u b.v) _ ?_).mono ?_; exact Blk.new W _ 3; rintro e w1 ⟨rfl, rfl⟩)
  go_ret
  exact ⟨ret_bool hfin.out.symm, by first | exact bel_drew (bel_alloc hbl.out _) | exact bel_alloc (bel_drew hbl.out) _⟩
set_option maxHeartbeats 1000000 in
theorem lt3_33 (a b : R4) (w : World) (ha : ¬ a.v < a.u ∧ ¬ a.u < a.v) (hb : ¬ b.v < b.u ∧ ¬ b.u < b.v) : Calls Try.prog 45 #[a.val, b.val] w fun e w' => e = .returned (.bool (ltP a b)) ∧ Below w.heap.size w w' := by
  have hfin : ltP a b = decide (orZ (cmpZ a.u b.u) (cmpZ a.u b.u) < 0) := by
    have e1 : lo_ a = a.u := by unfold lo_; split <;> omega
    have e2 : hi_ a = a.u := by unfold hi_; split <;> omega
    have e3 : lo_ b = b.u := by unfold lo_; split <;> omega
    have e4 : hi_ b = b.u := by unfold hi_; split <;> omega
    rw [or_lt]; unfold ltP; rw [e1, e2, e3, e4]
  replace hfin := Lib.hid hfin
  obtain ⟨ha1, ha2⟩ := ha
  obtain ⟨hb1, hb2⟩ := hb
  have B0 := (Blk.new w a.cs 24).alloc (.cells b.cs 24)
  have B1 := Blk.new (w.alloc (.cells a.cs 24)) b.cs 24
  rw [World.size_alloc] at B1
  have hbl : Below w.heap.size w ((w.alloc (.cells a.cs 24)).alloc (.cells b.cs 24)) := bel_alloc (bel_alloc (Below.refl _ _) _) _
  replace hbl := Lib.hid hbl
  replace B0 := Lib.hid B0
  replace B1 := Lib.hid B1
  go_enter Try.func45, Try.ntmps45
  go_wp2_with fail
  generalize (w.alloc (.cells a.cs 24)).alloc (.cells b.cs 24) = W at *
  have c0 := B0.out.cell 0 (v := .int .u64 a.u) rfl
  have c1 := B0.out.cell 1 (v := .int .u64 a.v) rfl
  have c2 := B1.out.cell 0 (v := .int .u64 b.u) rfl
  have c3 := B1.out.cell 1 (v := .int .u64 b.v) rfl
  refine wp_region_still_tail 22 (by kernel_rfl) (by kernel_rfl) ?_
  simp only [List.take_succ_cons, List.take_zero, List.drop_succ_cons, List.drop_zero]
  change wpStill _ _ W.drew _ _ _
  repeat (first | still_step | still_call (compare_still _ _ _))
  refine wpStill_nil ?_
  change wpList _ _ _ _ _ W.drew
  go_wp2_with (go_at_call 46; refine (or_any W.heap.size (cmpZ a.u b.u) (cmpZ a.u b.u) _ ?_).mono ?_; exact Blk.new W _ 3; rintro e w1 ⟨rfl, rfl⟩)
  go_ret
  exact ⟨ret_bool hfin.out.symm, by first | exact bel_drew (bel_alloc hbl.out _) | exact bel_alloc (bel_drew hbl.out) _⟩

theorem three (a : R4) : a.v < a.u ∨ a.u < a.v ∨ ¬ a.v < a.u ∧ ¬ a.u < a.v := by omega
theorem lt3_any (a b : R4) (w : World) : Calls Try.prog 45 #[a.val, b.val] w fun e w' => e = .returned (.bool (ltP a b)) ∧ Below w.heap.size w w' := by
  rcases three a with ha | ha | ha <;> rcases three b with hb | hb | hb
  · exact lt3_11 a b w ha hb
  · exact lt3_12 a b w ha hb
  · exact lt3_13 a b w ha hb
  · exact lt3_21 a b w ha hb
  · exact lt3_22 a b w ha hb
  · exact lt3_23 a b w ha hb
  · exact lt3_31 a b w ha hb
  · exact lt3_32 a b w ha hb
  · exact lt3_33 a b w ha hb

end Go.Proofs.Ytcejgnnkjomjlaa

/- Keys: which order they mean, and what is refused. -/
namespace Go.Proofs.Ytcejgnnkjomjlaa
open Go.RowKit

/-- the order of a key -/
def keyLt (k : Int) : R4 → R4 → Bool := if k = 1 then ltW else if k = 2 then ltT else ltP
/-- the function that is the order of a key -/
def keyFn (k : Int) : Nat := if k = 1 then 43 else if k = 2 then 44 else 45

theorem before_1 (w : World) : Calls Try.prog 38 #[.int .i64 1] w fun e w' => e = .returned (.func (.func 43) #[] #[]) ∧ w = w' := by
  go_enter Try.func38, Try.ntmps38
  go_wp2
  go_ret
  exact ⟨rfl, rfl⟩
theorem before_2 (w : World) : Calls Try.prog 38 #[.int .i64 2] w fun e w' => e = .returned (.func (.func 44) #[] #[]) ∧ w = w' := by
  go_enter Try.func38, Try.ntmps38
  go_wp2
  go_ret
  exact ⟨rfl, rfl⟩
theorem before_3 (w : World) : Calls Try.prog 38 #[.int .i64 3] w fun e w' => e = .returned (.func (.func 45) #[] #[]) ∧ w = w' := by
  go_enter Try.func38, Try.ntmps38
  go_wp2
  go_ret
  exact ⟨rfl, rfl⟩
theorem before_no (k : Int) (w : World) (h1 : k ≠ 1) (h2 : k ≠ 2) (h3 : k ≠ 3) : Calls Try.prog 38 #[.int .i64 k] w fun e w' => e = .returned .nilFunc ∧ w = w' := by
  have e1 : (k == 1) = false := by simpa using h1
  have e2 : (k == 2) = false := by simpa using h2
  have e3 : (k == 3) = false := by simpa using h3
  clear h1 h2 h3
  go_enter Try.func38, Try.ntmps38
  go_wp2
  go_ret
  exact ⟨rfl, rfl⟩

theorem eq_nil (w : World) : Sem.run Try.prog (binOp BinOp.eql 50 Value.nilFunc Value.nilFunc) w = .ok (.bool true) w := by kernel_rfl
theorem eq_fn (f : Fn) (a b : Array Value) (w : World) : Sem.run Try.prog (binOp BinOp.eql 50 (Value.func f a b) Value.nilFunc) w = .ok (.bool false) w := by kernel_rfl

theorem check_no (n k : Int) (w : World) (h1 : k ≠ 1) (h2 : k ≠ 2) (h3 : k ≠ 3) : Calls Try.prog 29 #[.int .i64 n, .int .i64 k] w fun e w' => e = .returned (.tuple #[.nilFunc, .int .i64 2]) ∧ w = w' := by
  have hb := Lib.hid (before_no k w h1 h2 h3)
  clear h1 h2 h3
  have hq1 := eq_nil
  have hq2 := eq_fn
  go_enter Try.func29, Try.ntmps29
  go_wp2_with fail
  refine hb.out.mono ?_
  rintro e w' ⟨rfl, rfl⟩
  go_wp2_with fail
  go_ret2
  exact ⟨rfl, rfl⟩
theorem check_long1 (n : Int) (w : World) (h : 65536 < n) : Calls Try.prog 29 #[.int .i64 n, .int .i64 1] w fun e w' => e = .returned (.tuple #[.nilFunc, .int .i64 16]) ∧ w = w' := by
  have hd : decide (65536 < n) = true := decide_eq_true h
  have hq1 := eq_nil
  have hq2 := eq_fn
  go_enter Try.func29, Try.ntmps29
  go_wp2_with fail
  refine (before_1 _).mono ?_
  rintro e w' ⟨rfl, rfl⟩
  go_wp2_with fail
  go_ret2
  exact ⟨rfl, rfl⟩
theorem check_ok1 (n : Int) (w : World) (h : n ≤ 65536) : Calls Try.prog 29 #[.int .i64 n, .int .i64 1] w fun e w' => e = .returned (.tuple #[.func (.func 43) #[] #[], .int .i64 0]) ∧ w = w' := by
  have hd : decide (65536 < n) = false := decide_eq_false (by omega)
  have hq1 := eq_nil
  have hq2 := eq_fn
  go_enter Try.func29, Try.ntmps29
  go_wp2_with fail
  refine (before_1 _).mono ?_
  rintro e w' ⟨rfl, rfl⟩
  go_wp2_with fail
  go_ret2
  exact ⟨rfl, rfl⟩
theorem check_long2 (n : Int) (w : World) (h : 65536 < n) : Calls Try.prog 29 #[.int .i64 n, .int .i64 2] w fun e w' => e = .returned (.tuple #[.nilFunc, .int .i64 16]) ∧ w = w' := by
  have hd : decide (65536 < n) = true := decide_eq_true h
  have hq1 := eq_nil
  have hq2 := eq_fn
  go_enter Try.func29, Try.ntmps29
  go_wp2_with fail
  refine (before_2 _).mono ?_
  rintro e w' ⟨rfl, rfl⟩
  go_wp2_with fail
  go_ret2
  exact ⟨rfl, rfl⟩
theorem check_ok2 (n : Int) (w : World) (h : n ≤ 65536) : Calls Try.prog 29 #[.int .i64 n, .int .i64 2] w fun e w' => e = .returned (.tuple #[.func (.func 44) #[] #[], .int .i64 0]) ∧ w = w' := by
  have hd : decide (65536 < n) = false := decide_eq_false (by omega)
  have hq1 := eq_nil
  have hq2 := eq_fn
  go_enter Try.func29, Try.ntmps29
  go_wp2_with fail
  refine (before_2 _).mono ?_
  rintro e w' ⟨rfl, rfl⟩
  go_wp2_with fail
  go_ret2
  exact ⟨rfl, rfl⟩
theorem check_long3 (n : Int) (w : World) (h : 65536 < n) : Calls Try.prog 29 #[.int .i64 n, .int .i64 3] w fun e w' => e = .returned (.tuple #[.nilFunc, .int .i64 16]) ∧ w = w' := by
  have hd : decide (65536 < n) = true := decide_eq_true h
  have hq1 := eq_nil
  have hq2 := eq_fn
  go_enter Try.func29, Try.ntmps29
  go_wp2_with fail
  refine (before_3 _).mono ?_
  rintro e w' ⟨rfl, rfl⟩
  go_wp2_with fail
  go_ret2
  exact ⟨rfl, rfl⟩
theorem check_ok3 (n : Int) (w : World) (h : n ≤ 65536) : Calls Try.prog 29 #[.int .i64 n, .int .i64 3] w fun e w' => e = .returned (.tuple #[.func (.func 45) #[] #[], .int .i64 0]) ∧ w = w' := by
  have hd : decide (65536 < n) = false := decide_eq_false (by omega)
  have hq1 := eq_nil
  have hq2 := eq_fn
  go_enter Try.func29, Try.ntmps29
  go_wp2_with fail
  refine (before_3 _).mono ?_
  rintro e w' ⟨rfl, rfl⟩
  go_wp2_with fail
  go_ret2
  exact ⟨rfl, rfl⟩

end Go.Proofs.Ytcejgnnkjomjlaa

/- Less, and the reference's. -/
namespace Go.Proofs.Ytcejgnnkjomjlaa
open Go.RowKit

theorem known_any (k : Int) (w : World) : Calls Try.prog 30 #[.int .i64 k] w fun e w' => e = .returned (.bool (decide (1 ≤ k) && decide (k ≤ 3))) ∧ w = w' := by
  by_cases h : 1 ≤ k
  · have hd : decide (1 ≤ k) = true := decide_eq_true h
    go_enter Try.func30, Try.ntmps30
    go_wp2
    go_ret
    exact ⟨ret_bool (by simp [h]), rfl⟩
  · have hd : decide (1 ≤ k) = false := decide_eq_false h
    go_enter Try.func30, Try.ntmps30
    go_wp2
    go_ret
    exact ⟨rfl, rfl⟩

theorem pair_any (r : R4) (w : World) : Calls Try.prog 39 #[r.val] w fun e w' => e = .returned (.tuple #[.int .u64 (lo_ r), .int .u64 (hi_ r)]) ∧ Below w.heap.size w w' := by
  have B0 := Blk.new w r.cs 24
  have hbl := Lib.hid (below1 w (.cells r.cs 24))
  have c0 := B0.cell 0 (v := .int .u64 r.u) rfl
  have c1 := B0.cell 1 (v := .int .u64 r.v) rfl
  clear B0
  unfold lo_ hi_
  by_cases h : r.v < r.u
  · have hd : decide (r.u ≤ r.v) = false := decide_eq_false (by omega)
    rw [if_pos h, if_pos h]
    go_enter Try.func39, Try.ntmps39
    go_wp2_with fail
    generalize w.alloc (.cells r.cs 24) = W at *
    go_quiet (fail)
    go_wp2_with fail
    go_ret2
    exact ⟨rfl, bel_drewN hbl.out _⟩
  · have hd : decide (r.u ≤ r.v) = true := decide_eq_true (by omega)
    rw [if_neg h, if_neg h]
    go_enter Try.func39, Try.ntmps39
    go_wp2_with fail
    generalize w.alloc (.cells r.cs 24) = W at *
    go_quiet (fail)
    go_wp2_with fail
    go_ret2
    exact ⟨rfl, bel_drewN hbl.out _⟩

theorem two_boxes (w : World) (a b : R4) : Blk ((w.alloc (.cells a.cs 24)).alloc (.cells b.cs 24)) w.heap.size a.cs 24 ∧ Blk ((w.alloc (.cells a.cs 24)).alloc (.cells b.cs 24)) (w.heap.size + 1) b.cs 24 ∧ Below w.heap.size w ((w.alloc (.cells a.cs 24)).alloc (.cells b.cs 24)) := by
  refine ⟨(Blk.new w a.cs 24).alloc _, ?_, bel_alloc (bel_alloc (Below.refl _ _) _) _⟩
  have := Blk.new (w.alloc (.cells a.cs 24)) b.cs 24
  rw [World.size_alloc] at this
  exact this
theorem ltP_cases (a b : R4) : ltP a b = (decide (lo_ a < lo_ b) || (lo_ a == lo_ b && decide (hi_ a < hi_ b))) := by
  unfold ltP
  by_cases h1 : lo_ a < lo_ b
  · simp [h1]
  · by_cases h2 : lo_ a = lo_ b
    · by_cases h3 : hi_ a < hi_ b <;> simp [h2, h3]
    · simp [h1, h2]

theorem rbefore_1 (a b : R4) (w : World) : Calls Try.prog 31 #[a.val, b.val, .int .i64 1] w fun e w' => e = .returned (.bool (ltW a b)) ∧ Below w.heap.size w w' := by
  go_enter Try.func31, Try.ntmps31
  go_wp2
  go_ret
  exact ⟨rfl, bel_alloc (bel_alloc (Below.refl _ _) _) _⟩
theorem rbefore_2 (a b : R4) (w : World) : Calls Try.prog 31 #[a.val, b.val, .int .i64 2] w fun e w' => e = .returned (.bool (ltT a b)) ∧ Below w.heap.size w w' := by
  go_enter Try.func31, Try.ntmps31
  go_wp2
  go_ret
  exact ⟨rfl, bel_alloc (bel_alloc (Below.refl _ _) _) _⟩
set_option maxHeartbeats 1000000 in
theorem rbefore_3 (a b : R4) (k : Int) (h1 : k ≠ 1) (h2 : k ≠ 2) (w : World) : Calls Try.prog 31 #[a.val, b.val, .int .i64 k] w fun e w' => e = .returned (.bool (ltP a b)) ∧ Below w.heap.size w w' := by
  have e1 : (k == 1) = false := by simpa using h1
  have e2 : (k == 2) = false := by simpa using h2
  have hB := Lib.hid (two_boxes w a b)
  have hL := Lib.hid (ltP_cases a b)
  have c0 := hB.out.1.cell 0 (v := .int .u64 a.u) rfl
  have c1 := hB.out.1.cell 1 (v := .int .u64 a.v) rfl
  have c2 := hB.out.1.cell 2 (v := .int .i64 a.w) rfl
  have c3 := hB.out.1.cell 3 (v := .int .i64 a.t) rfl
  clear h1 h2
  go_enter Try.func31, Try.ntmps31
  go_wp2_with fail
  generalize (w.alloc (.cells a.cs 24)).alloc (.cells b.cs 24) = W at *
  refine (pair_any a _).mono ?_
  rintro e w1 ⟨rfl, hb1⟩
  have B1 := hB.out.2.1.below hb1 hB.out.2.1.lt
  have d0 := B1.cell 0 (v := .int .u64 b.u) rfl
  have d1 := B1.cell 1 (v := .int .u64 b.v) rfl
  have d2 := B1.cell 2 (v := .int .i64 b.w) rfl
  have d3 := B1.cell 3 (v := .int .i64 b.t) rfl
  have hbl := Lib.hid (bel_trans hB.out.2.2 hb1)
  clear B1 hb1 c0 c1 c2 c3
  go_wp2_with fail
  refine (pair_any b _).mono ?_
  rintro e w2 ⟨rfl, hb2⟩
  have hbl2 := Lib.hid (bel_trans hbl.out hb2)
  clear hb2 d0 d1 d2 d3
  obtain ⟨x, hx⟩ : ∃ x, lo_ a = x := ⟨_, rfl⟩
  obtain ⟨y, hy⟩ : ∃ x, hi_ a = x := ⟨_, rfl⟩
  obtain ⟨z, hz⟩ : ∃ x, lo_ b = x := ⟨_, rfl⟩
  obtain ⟨t, ht⟩ : ∃ x, hi_ b = x := ⟨_, rfl⟩
  have hL := hL.out
  rw [hx, hy, hz, ht] at hL ⊢
  replace hL := Lib.hid hL
  clear hx hy hz ht
  by_cases g1 : x < z
  · have f1 : decide (x < z) = true := decide_eq_true g1
    go_wp2_with fail
    go_ret
    exact ⟨ret_bool (by rw [hL.out]; simp [g1]), hbl2.out⟩
  · have f1 : decide (x < z) = false := decide_eq_false g1
    by_cases g2 : x = z
    · subst g2
      have f2 : (x == x) = true := by simp
      go_wp2_with fail
      go_ret
      exact ⟨ret_bool (by rw [hL.out]; simp), hbl2.out⟩
    · have f2 : (x == z) = false := by simpa using g2
      go_wp2_with fail
      go_ret
      exact ⟨ret_bool (by rw [hL.out]; simp [g1, g2]), hbl2.out⟩

end Go.Proofs.Ytcejgnnkjomjlaa
