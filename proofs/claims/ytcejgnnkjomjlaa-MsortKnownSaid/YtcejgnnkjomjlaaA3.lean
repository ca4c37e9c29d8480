/- Plain laws of one merging, element by element. -/
import Derived.Test.YtcejgnnkjomjlaaA2

namespace Go.Proofs.Ytcejgnnkjomjlaa

section
variable {α : Type} {lt : α → α → Bool}
theorem mrg_length (A B : List α) : (mrg lt A B).length = A.length + B.length := by
  suffices h : ∀ n, ∀ A B : List α, A.length + B.length = n → (mrg lt A B).length = n from h _ A B rfl
  intro n
  induction n with
  | zero =>
    intro A B h
    cases A with
    | nil => rw [mrg_nil_left]; simpa using h
    | cons x A => simp at h
  | succ n ih =>
    intro A B h
    cases A with
    | nil => rw [mrg_nil_left]; simpa using h
    | cons x A =>
      cases B with
      | nil => rw [mrg_nil_right]; simpa using h
      | cons y B =>
        simp only [List.length_cons] at h
        cases e : lt y x with
        | true => rw [mrg_yes e, List.length_cons, ih (x :: A) B (by simp; omega)]
        | false => rw [mrg_no e, List.length_cons, ih A (y :: B) (by simp; omega)]
theorem mcn_le (A B : List α) : mcn lt A B ≤ A.length * B.length := by
  suffices h : ∀ n, ∀ A B : List α, A.length + B.length = n → mcn lt A B ≤ A.length * B.length from h _ A B rfl
  intro n
  induction n with
  | zero =>
    intro A B h
    cases A with
    | nil => rw [mcn_nil_left]; omega
    | cons x A => simp at h
  | succ n ih =>
    intro A B h
    cases A with
    | nil => rw [mcn_nil_left]; omega
    | cons x A =>
      cases B with
      | nil => rw [mcn_nil_right]; omega
      | cons y B =>
        simp only [List.length_cons] at h
        cases e : lt y x with
        | true =>
          have := ih (x :: A) B (by simp; omega)
          rw [mcn_yes e]
          simp only [List.length_cons, Nat.mul_add, Nat.mul_one] at *
          omega
        | false =>
          have := ih A (y :: B) (by simp; omega)
          rw [mcn_no e]
          simp only [List.length_cons, Nat.add_mul, Nat.one_mul] at *
          omega

/-- a merging of A and B: pre is written, A' and B' are left -/
structure Mg (lt : α → α → Bool) (A B : List α) (A' B' pre : List α) (cnt : Nat) : Prop where
  out : pre ++ mrg lt A' B' = mrg lt A B
  cnt : cnt + mcn lt A' B' = mcn lt A B
theorem Mg.zero (A B : List α) : Mg lt A B A B [] 0 := ⟨rfl, by omega⟩
theorem Mg.len {A B A' B' pre : List α} {cnt : Nat} (h : Mg lt A B A' B' pre cnt) : pre.length + (A'.length + B'.length) = A.length + B.length := by
  have := congrArg List.length h.out
  rw [List.length_append, mrg_length, mrg_length] at this
  exact this
/-- the next one is of B -/
def FromB (lt : α → α → Bool) (y : α) (A' : List α) : Prop := A' = [] ∨ ∃ x A'', A' = x :: A'' ∧ lt y x = true
def FromA (lt : α → α → Bool) (x : α) (B' : List α) : Prop := B' = [] ∨ ∃ y B'', B' = y :: B'' ∧ lt y x = false
theorem Mg.fromB {A B A' B' pre : List α} {cnt : Nat} {y : α} (h : Mg lt A B A' (y :: B') pre cnt) (hy : FromB lt y A') : Mg lt A B A' B' (pre ++ [y]) (cnt + A'.length) := by
  rcases hy with rfl | ⟨x, A'', rfl, e⟩
  · refine ⟨?_, ?_⟩
    · rw [← h.out, mrg_nil_left, mrg_nil_left]; simp
    · rw [← h.cnt, mcn_nil_left, mcn_nil_left]; simp
  · refine ⟨?_, ?_⟩
    · rw [← h.out, mrg_yes e]; simp
    · rw [← h.cnt, mcn_yes e]; simp; omega
theorem Mg.fromA {A B A' B' pre : List α} {cnt : Nat} {x : α} (h : Mg lt A B (x :: A') B' pre cnt) (hx : FromA lt x B') : Mg lt A B A' B' (pre ++ [x]) cnt := by
  rcases hx with rfl | ⟨y, B'', rfl, e⟩
  · refine ⟨?_, ?_⟩
    · rw [← h.out, mrg_nil_right, mrg_nil_right]; simp
    · rw [← h.cnt, mcn_nil_right, mcn_nil_right]
  · refine ⟨?_, ?_⟩
    · rw [← h.out, mrg_no e]; simp
    · rw [← h.cnt, mcn_no e]
theorem Mg.le {A B A' B' pre : List α} {cnt : Nat} (h : Mg lt A B A' B' pre cnt) : cnt ≤ A.length * B.length := by
  have := h.cnt
  have := mcn_le (lt := lt) A B
  omega
theorem Mg.done {A B A' B' pre : List α} {cnt : Nat} (h : Mg lt A B A' B' pre cnt) (hn : A.length + B.length ≤ pre.length) : pre = mrg lt A B ∧ cnt = mcn lt A B := by
  have hl := h.len
  have h1 : A' = [] := List.eq_nil_of_length_eq_zero (by omega)
  have h2 : B' = [] := List.eq_nil_of_length_eq_zero (by omega)
  subst h1; subst h2
  have ho := h.out
  have hc := h.cnt
  rw [mrg_nil_left, List.append_nil] at ho
  rw [mcn_nil_left] at hc
  exact ⟨ho, by omega⟩

/-- one more element is written -/
theorem over_snoc (T : List α) (o : Nat) (pre : List α) (x : α) (h : o + pre.length < T.length) : (over T o pre).set (o + pre.length) x = over T o (pre ++ [x]) := by
  unfold over
  have hl : (T.take o ++ pre).length = o + pre.length := by simp; omega
  rw [List.set_append_right _ _ (by omega), hl, Nat.sub_self]
  rw [List.drop_eq_getElem_cons (by omega), List.set_cons_zero]
  simp
  rfl
theorem over_nil (T : List α) (o : Nat) : over T o [] = T := by simp [over]
end

end Go.Proofs.Ytcejgnnkjomjlaa

/- Merging two lists of records. -/
namespace Go.Proofs.Ytcejgnnkjomjlaa
open Go.RowKit

/-- a slice's value leads, below n₀ and outside block g, to these records -/
def RX (n₀ g : Nat) (w : World) (a : Option Addr) (len : Nat) (l : List R4) : Prop :=
  l.length = len ∧ (0 < len → ∃ b off, a = some ⟨b, off, none⟩ ∧ b < n₀ ∧ b ≠ g ∧ ∀ i r, l[i]? = some r → ∀ j, j < 4 → w.cell? ⟨b, off + (i * 4 + j), none⟩ = (cells4 r)[j]?)

theorem chg_cell {S : Nat → Prop} {w w' : World} (h : Chg S w w') {b : Nat} (hb : b < w.heap.size) (hs : ¬ S b) (o : Nat) : w'.cell? ⟨b, o, none⟩ = w.cell? ⟨b, o, none⟩ := by
  have e := h.block b hb hs
  simp only [World.cell?, e]
theorem RX.chg {n₀ g : Nat} {w w' : World} {a : Option Addr} {len : Nat} {l : List R4} (h : RX n₀ g w a len l) (hc : Chg (· = g) w w') (hn : n₀ ≤ w.heap.size) : RX n₀ g w' a len l := by
  refine ⟨h.1, fun hp => ?_⟩
  obtain ⟨b, off, ha, hlt, hne, hcell⟩ := h.2 hp
  refine ⟨b, off, ha, hlt, hne, fun i r hr j hj => ?_⟩
  rw [chg_cell hc (by omega) hne, hcell i r hr j hj]
theorem RX.head {n₀ g : Nat} {w : World} {a : Option Addr} {len : Nat} {x : R4} {l : List R4} (h : RX n₀ g w a len (x :: l)) :
    ∃ b off, a = some ⟨b, off, none⟩ ∧ b < n₀ ∧ b ≠ g ∧ w.cell? ⟨b, off, none⟩ = some (.int .u64 x.u) ∧ w.cell? ⟨b, off + 1, none⟩ = some (.int .u64 x.v) ∧ w.cell? ⟨b, off + 2, none⟩ = some (.int .i64 x.w) ∧ w.cell? ⟨b, off + 3, none⟩ = some (.int .i64 x.t) := by
  obtain ⟨b, off, ha, hlt, hne, hcell⟩ := h.2 (by have := h.1; simp at this; omega)
  have hc := hcell 0 x rfl
  exact ⟨b, off, ha, hlt, hne, hc 0 (by omega), hc 1 (by omega), hc 2 (by omega), hc 3 (by omega)⟩
theorem RX.tail {n₀ g : Nat} {w : World} {b off : Nat} {len cap : Nat} {x : R4} {l : List R4} (h : RX n₀ g w (some ⟨b, off, none⟩) len (x :: l)) (hcap : len ≤ cap) :
    RX n₀ g w (if cap = 1 then some ⟨b, off, none⟩ else some ⟨b, off + 4, none⟩) (len - 1) l := by
  have hl := h.1
  simp only [List.length_cons] at hl
  refine ⟨by omega, fun hp => ?_⟩
  obtain ⟨b', off', ha, hlt, hne, hcell⟩ := h.2 (by omega)
  injection ha with ha
  injection ha with h1 h2
  subst h1; subst h2
  rw [if_neg (by omega)]
  refine ⟨b, off + 4, rfl, hlt, hne, fun i r hr j hj => ?_⟩
  rw [show off + 4 + (i * 4 + j) = off + ((i + 1) * 4 + j) by omega]
  exact hcell (i + 1) r (by simpa using hr) j hj

/-- what is called tells which of two records is before the other one -/
structure Tells (F : Nat) (lt : R4 → R4 → Bool) : Prop where
  enter : ∀ (args : Array Value) (w : World), (callFunc F args).run Try.prog w = .ok (.enter F args) w
  tells : ∀ a b w, Calls Try.prog F #[a.val, b.val] w fun e w' => e = .returned (.bool (lt a b)) ∧ Below w.heap.size w w'

theorem set_four {w : World} {g : Nat} {l : List R4} {tl : Array Value} {i : Nat} (r : R4) (h : Blk w g (RwR l tl) 24) (hi : i < l.length) :
    Blk ((((w.setCell ⟨g, i * 4, none⟩ (.int .u64 r.u)).setCell ⟨g, i * 4 + 1, none⟩ (.int .u64 r.v)).setCell ⟨g, i * 4 + 2, none⟩ (.int .i64 r.w)).setCell ⟨g, i * 4 + 3, none⟩ (.int .i64 r.t)) g (RwR (l.set i r) tl) 24 := by
  have := (((h.set (i * 4) (.int .u64 r.u)).set (i * 4 + 1) (.int .u64 r.v)).set (i * 4 + 2) (.int .i64 r.w)).set (i * 4 + 3) (.int .i64 r.t)
  rw [RwR.set tl r hi] at this
  exact this

theorem slice_tail {len cap : Nat} (h : 0 < len) (b off : Nat) (W : World) : (Instr.slice 31 (.slice (some ⟨b, off, none⟩) len cap) (some (.int .i64 1)) none none).run Try.prog W = .ok (.slice (if cap = 1 then some ⟨b, off, none⟩ else some ⟨b, off + 4, none⟩) (len - 1) (cap - 1)) W := by
  have hs : ∀ W : World, (sizeOf (Try.prog.elem 31)).run Try.prog W = .ok 4 W := fun W => by kernel_rfl
  rw [run_slice_l (P := Try.prog) W 31 (some ⟨b, off, none⟩) len cap (by kernel_rfl) .i64 1 (by omega) (by omega), hs]
  simp [Result.andThen, sliced, Addr.add]

theorem put4 {w W : World} {g : Nat} {l : List R4} {tl : Array Value} {i p : Nat} (r : R4) (h : Blk w g (RwR l tl) 24) (hi : i < l.length) (hp : p = i * 4)
    (hW : W = ((((w.setCell ⟨g, p, none⟩ (.int .u64 r.u)).setCell ⟨g, p + 1, none⟩ (.int .u64 r.v)).setCell ⟨g, p + 2, none⟩ (.int .i64 r.w)).setCell ⟨g, p + 3, none⟩ (.int .i64 r.t)).drew) :
    Blk W g (RwR (l.set i r) tl) 24 ∧ Chg (· = g) w W := by
  subst hp
  have h4 := set_four r h hi
  have c1 := Chg.set (S := (· = g)) (Chg.refl (· = g) w) (p := ⟨g, i * 4, none⟩) rfl (.int .u64 r.u)
  have c2 := Chg.set (S := (· = g)) c1 (p := ⟨g, i * 4 + 1, none⟩) rfl (.int .u64 r.v)
  have c3 := Chg.set (S := (· = g)) c2 (p := ⟨g, i * 4 + 2, none⟩) rfl (.int .i64 r.w)
  have c4 := Chg.set (S := (· = g)) c3 (p := ⟨g, i * 4 + 3, none⟩) rfl (.int .i64 r.t)
  generalize (((w.setCell ⟨g, i * 4, none⟩ (.int .u64 r.u)).setCell ⟨g, i * 4 + 1, none⟩ (.int .u64 r.v)).setCell ⟨g, i * 4 + 2, none⟩ (.int .i64 r.w)).setCell ⟨g, i * 4 + 3, none⟩ (.int .i64 r.t) = X at *
  subst hW
  exact ⟨h4, Chg.drewN c4 1⟩

set_option maxHeartbeats 16000000 in
theorem merge_rec {F : Nat} {lt : R4 → R4 → Bool} (hF : Tells F lt) (w : World) (g o n c la ca lb cb : Nat) (T A B : List R4) (tl : Array Value) (ao bo : Option Addr)
    (hB : Blk w g (RwR T tl) 24) (hra : RX w.heap.size g w ao la A) (hrb : RX w.heap.size g w bo lb B) (hla : la ≤ ca) (hlb : lb ≤ cb) (hn : la + lb = n) (ho : o + n ≤ T.length) (hm : T.length ≤ 70000) :
    Calls Try.prog 37 #[.slice (some ⟨g, o * 4, none⟩) n c, .slice ao la ca, .slice bo lb cb, .func (.func F) #[] #[]] w fun e w' =>
      e = .returned (.int .i64 (mcn lt A B : Nat)) ∧ Blk w' g (RwR (over T o (mrg lt A B)) tl) 24 ∧ Chg (· = g) w w' := by
  have hlA := hra.1
  have hlB := hrb.1
  have hprod : A.length * B.length ≤ 70000 * 70000 := Nat.mul_le_mul (by omega) (by omega)
  replace hB := Lib.hid hB
  replace hra := Lib.hid hra
  replace hrb := Lib.hid hrb
  have hen := hF.enter
  replace hF := Lib.hid hF.tells
  replace hlA := Lib.hid hlA
  replace hlB := Lib.hid hlB
  replace hprod := Lib.hid hprod
  replace hn := Lib.hid hn
  have hnm : n ≤ 70000 := by omega
  have hgl := Lib.hid hB.out.lt
  go_enter Try.func37, Try.ntmps37
  go_wp2_with fail
  go_loopw [1, 2, 8, 12] (fun v1 v2 v8 v12 wr => ∃ (k la' ca' lb' cb' cnt : Nat) (ao' bo' : Option Addr) (A' B' pre : List R4),
      v1 = .slice ao' la' ca' ∧ v2 = .slice bo' lb' cb' ∧ v8 = .int .i64 (cnt : Int) ∧ v12 = .int .i64 (k : Int) ∧ k ≤ n ∧ pre.length = k ∧ la' ≤ ca' ∧ lb' ≤ cb' ∧
      Mg lt A B A' B' pre cnt ∧ RX w.heap.size g wr ao' la' A' ∧ RX w.heap.size g wr bo' lb' B' ∧ Blk wr g (RwR (over T o pre) tl) 24 ∧ Chg (· = g) w wr)
    (fun _ _ _ v12 _ => n - (intOf v12).toNat)
  case atStart => exact ⟨0, la, ca, lb, cb, 0, ao, bo, A, B, [], rfl, rfl, rfl, rfl, by omega, rfl, hla, hlb, Mg.zero A B, hra.out, hrb.out, by rw [over_nil]; exact hB.out, Chg.refl _ _⟩
  case round =>
    obtain ⟨k, la', ca', lb', cb', cnt, ao', bo', A', B', pre, rfl, rfl, rfl, rfl, hk, hpre, hla', hlb', hmg, hra', hrb', hB', hch⟩ := hrel
    have hsz := Lib.hid hch.size
    by_cases hlt : k < n
    · have hk1 : decide ((k : Int) < (n : Int)) = true := decide_eq_true (by omega)
      have hml := hmg.len
      rw [hlA.out, hlB.out, hn.out, hpre] at hml
      match A', B' with
      | [], [] => simp at hml; omega
      | [], y :: B' =>
        have hla0 := hra'.1
        have hlb0 := hrb'.1
        simp only [List.length_cons, List.length_nil] at hla0 hlb0 hml
        obtain ⟨bb, bx, rfl, hbb, hbg, b0, b1, b2, b3⟩ := hrb'.head
        have p1 : decide ((0 : Int) < (lb' : Int)) = true := decide_eq_true (by omega)
        have p4 : 0 < lb' := by omega
        obtain rfl : la' = 0 := by omega
        have e0 : ∃ r0, (over T o pre)[o + k]? = some r0 := by
          rw [List.getElem?_eq_getElem (by rw [over_length (by omega)]; omega)]; exact ⟨_, rfl⟩
        obtain ⟨r0, e0⟩ := e0
        have hov : ((over T o pre).set (o + k) y) = over T o (pre ++ [y]) := by rw [← hpre]; exact over_snoc T o pre y (by omega)
        have hol : o + k < (over T o pre).length := by rw [over_length (by omega)]; omega
        have hmg1 := hmg.fromB (Or.inl rfl)
        have hle := hmg1.le
        rw [List.length_nil] at hle hmg1
        have hcb : (cnt : Int) ≤ 4900000000 := by have := hprod.out; omega
        replace hB' := Lib.hid hB'
        replace hch := Lib.hid hch
        replace hra' := Lib.hid hra'
        replace hrb' := Lib.hid hrb'
        replace hmg1 := Lib.hid hmg1
        replace hpre := Lib.hid hpre
        replace hml := Lib.hid hml
        replace hla0 := Lib.hid hla0
        replace hlb0 := Lib.hid hlb0
        replace e0 := Lib.hid e0
        replace hov := Lib.hid hov
        replace hol := Lib.hid hol
        replace hle := Lib.hid hle
        clear hmg
        go_wp2_with fail
        go_region
        obtain ⟨w1, hw1⟩ : ∃ w1, wr.drew = w1 := ⟨_, rfl⟩
        have hch1 : Chg (· = g) wr w1 := hw1 ▸ Chg.drewN (Chg.refl _ _) 1
        have hB1 := hB'.out.below (n := wr.heap.size) (hw1 ▸ bel_drew (Below.refl _ _)) hB'.out.lt
        rw [hw1]
        clear hw1
        have hra1 := hra'.out.chg hch1 hsz.out
        have hrb1 := hrb'.out.chg hch1 hsz.out
        obtain ⟨bb1, bx1, hbe, -, -, d0, d1, d2, d3⟩ := hrb1.head
        injection hbe with hbe
        injection hbe with hbe1 hbe2
        subst hbe1; subst hbe2
        obtain ⟨g0, g1, g2, g3⟩ := RwR.four hB1 e0.out
        have f0 := hB1.frozen ((o + k) * 4)
        have f1 := hB1.frozen ((o + k) * 4 + 1)
        have f2 := hB1.frozen ((o + k) * 4 + 2)
        have f3 := hB1.frozen ((o + k) * 4 + 3)
        have hadr : o * 4 + k * 4 = (o + k) * 4 := by omega
        rw [← hadr] at g0 g1 g2 g3 f0 f1 f2 f3
        have hsl := slice_tail (cap := cb') p4 bb bx
        have htl := hrb1.tail hlb'
        obtain ⟨nb, hnb⟩ : ∃ nb, (if cb' = 1 then some (⟨bb, bx, none⟩ : Addr) else some ⟨bb, bx + 4, none⟩) = nb := ⟨_, rfl⟩
        rw [hnb] at hsl htl
        clear hnb
        replace htl := Lib.hid htl
        replace hch1 := Lib.hid hch1
        replace hB1 := Lib.hid hB1
        replace hrb1 := Lib.hid hrb1
        replace hra1 := Lib.hid hra1
        replace hadr := Lib.hid hadr
        clear b0 b1 b2 b3
        go_wp2_with fail
        go_region
        go_wp2_with fail
        go_roundw
        case rel =>
          obtain ⟨P1, P2⟩ := put4 y hB1.out hol.out hadr.out rfl
          rw [hov.out] at P1
          have hs1 : w.heap.size ≤ w1.heap.size := Nat.le_trans hsz.out hch1.out.size
          have hpl : (pre ++ [y]).length = k + 1 := by rw [List.length_append, hpre.out]; rfl
          exact ⟨k + 1, 0, ca', lb' - 1, cb' - 1, cnt + 0, ao', nb, [], B', pre ++ [y], by first | rfl | go_num, by first | rfl | go_num, by go_num, by go_num, by omega, hpl, by omega, by omega, hmg1.out, hra1.out.chg P2 hs1, htl.out.chg P2 hs1, P1, (hch.out.trans hch1.out).trans P2⟩
        case measure => simp [intOf]; omega
      | x :: A', [] =>
        have hla0 := hra'.1
        have hlb0 := hrb'.1
        simp only [List.length_cons, List.length_nil] at hla0 hlb0 hml
        obtain ⟨ab, ax, rfl, hab, hag, a0, a1, a2, a3⟩ := hra'.head
        obtain rfl : lb' = 0 := by omega
        have p1 : decide ((0 : Int) < ((0 : Nat) : Int)) = false := by simp
        have p2 : ((la' : Int) == 0) = false := by simp; omega
        have p3 : 0 < la' := by omega
        have e0 : ∃ r0, (over T o pre)[o + k]? = some r0 := by
          rw [List.getElem?_eq_getElem (by rw [over_length (by omega)]; omega)]; exact ⟨_, rfl⟩
        obtain ⟨r0, e0⟩ := e0
        have hov : ((over T o pre).set (o + k) x) = over T o (pre ++ [x]) := by rw [← hpre]; exact over_snoc T o pre x (by omega)
        have hol : o + k < (over T o pre).length := by rw [over_length (by omega)]; omega
        have hmg1 := hmg.fromA (Or.inl rfl)
        replace hB' := Lib.hid hB'
        replace hch := Lib.hid hch
        replace hra' := Lib.hid hra'
        replace hrb' := Lib.hid hrb'
        replace hmg1 := Lib.hid hmg1
        replace hpre := Lib.hid hpre
        replace hml := Lib.hid hml
        replace hla0 := Lib.hid hla0
        replace hlb0 := Lib.hid hlb0
        replace e0 := Lib.hid e0
        replace hov := Lib.hid hov
        replace hol := Lib.hid hol
        clear hmg
        go_wp2_with fail
        go_region
        obtain ⟨w1, hw1⟩ : ∃ w1, wr.drew = w1 := ⟨_, rfl⟩
        have hch1 : Chg (· = g) wr w1 := hw1 ▸ Chg.drewN (Chg.refl _ _) 1
        have hB1 := hB'.out.below (n := wr.heap.size) (hw1 ▸ bel_drew (Below.refl _ _)) hB'.out.lt
        rw [hw1]
        clear hw1
        have hra1 := hra'.out.chg hch1 hsz.out
        have hrb1 := hrb'.out.chg hch1 hsz.out
        obtain ⟨bb1, bx1, hbe, -, -, d0, d1, d2, d3⟩ := hra1.head
        injection hbe with hbe
        injection hbe with hbe1 hbe2
        subst hbe1; subst hbe2
        obtain ⟨g0, g1, g2, g3⟩ := RwR.four hB1 e0.out
        have f0 := hB1.frozen ((o + k) * 4)
        have f1 := hB1.frozen ((o + k) * 4 + 1)
        have f2 := hB1.frozen ((o + k) * 4 + 2)
        have f3 := hB1.frozen ((o + k) * 4 + 3)
        have hadr : o * 4 + k * 4 = (o + k) * 4 := by omega
        rw [← hadr] at g0 g1 g2 g3 f0 f1 f2 f3
        have hsl := slice_tail (cap := ca') p3 ab ax
        have htl := hra1.tail hla'
        obtain ⟨nb, hnb⟩ : ∃ nb, (if ca' = 1 then some (⟨ab, ax, none⟩ : Addr) else some ⟨ab, ax + 4, none⟩) = nb := ⟨_, rfl⟩
        rw [hnb] at hsl htl
        clear hnb
        replace htl := Lib.hid htl
        replace hch1 := Lib.hid hch1
        replace hB1 := Lib.hid hB1
        replace hrb1 := Lib.hid hrb1
        replace hra1 := Lib.hid hra1
        replace hadr := Lib.hid hadr
        clear a0 a1 a2 a3
        go_wp2_with fail
        go_region
        go_wp2_with fail
        go_roundw
        case rel =>
          obtain ⟨P1, P2⟩ := put4 x hB1.out hol.out hadr.out rfl
          rw [hov.out] at P1
          have hs1 : w.heap.size ≤ w1.heap.size := Nat.le_trans hsz.out hch1.out.size
          have hpl : (pre ++ [x]).length = k + 1 := by rw [List.length_append, hpre.out]; rfl
          exact ⟨k + 1, la' - 1, ca' - 1, 0, cb', cnt, nb, bo', A', [], pre ++ [x], by first | rfl | go_num, by first | rfl | go_num, by go_num, by go_num, by omega, hpl, by omega, by omega, hmg1.out, htl.out.chg P2 hs1, hrb1.out.chg P2 hs1, P1, (hch.out.trans hch1.out).trans P2⟩
        case measure => simp [intOf]; omega
      | x :: A', y :: B' =>
        cases hlt2 : lt y x with
        | true =>
          have hla0 := hra'.1
          have hlb0 := hrb'.1
          simp only [List.length_cons] at hla0 hlb0 hml
          obtain ⟨ab, ax, rfl, hab, hag, a0, a1, a2, a3⟩ := hra'.head
          obtain ⟨bb, bx, rfl, hbb, hbg, b0, b1, b2, b3⟩ := hrb'.head
          have p1 : decide ((0 : Int) < (lb' : Int)) = true := decide_eq_true (by omega)
          have p4 : 0 < lb' := by omega
          have p2 : ((la' : Int) == 0) = false := by simp; omega
          have p3 : 0 < la' := by omega
          have e0 : ∃ r0, (over T o pre)[o + k]? = some r0 := by
            rw [List.getElem?_eq_getElem (by rw [over_length (by omega)]; omega)]; exact ⟨_, rfl⟩
          obtain ⟨r0, e0⟩ := e0
          have hov : ((over T o pre).set (o + k) y) = over T o (pre ++ [y]) := by rw [← hpre]; exact over_snoc T o pre y (by omega)
          have hol : o + k < (over T o pre).length := by rw [over_length (by omega)]; omega
          have hmg1 := hmg.fromB (Or.inr ⟨x, A', rfl, hlt2⟩)
          have hle := hmg1.le
          rw [show (x :: A').length = la' by simp; omega] at hle hmg1
          have hcb : (cnt : Int) + (la' : Int) ≤ 4900000000 := by have := hprod.out; omega
          replace hB' := Lib.hid hB'
          replace hch := Lib.hid hch
          replace hra' := Lib.hid hra'
          replace hrb' := Lib.hid hrb'
          replace hmg1 := Lib.hid hmg1
          replace hpre := Lib.hid hpre
          replace hml := Lib.hid hml
          replace hla0 := Lib.hid hla0
          replace hlb0 := Lib.hid hlb0
          replace e0 := Lib.hid e0
          replace hov := Lib.hid hov
          replace hol := Lib.hid hol
          replace hle := Lib.hid hle
          clear hmg
          go_wp2_with fail
          refine wp_region_still_tail 15 (by kernel_rfl) (by kernel_rfl) ?_
          simp only [List.take_succ_cons, List.take_zero, List.drop_succ_cons, List.drop_zero]
          change wpStill _ _ wr.drew _ _ _
          repeat (first | still_step)
          refine wpStill_nil ?_
          change wpList _ _ _ _ _ wr.drew
          go_wp2_with fail
          refine (hF.out y x _).mono ?_
          rintro e w1 ⟨rfl, hb1⟩
          have hch1 : Chg (· = g) wr w1 := (Chg.drewN (Chg.refl _ _) 1).trans (Chg.of_below hb1 _)
          have hB1 := hB'.out.below (n := wr.heap.size) (bel_trans (bel_drew (Below.refl _ _)) hb1) hB'.out.lt
          clear hb1
          have hra1 := hra'.out.chg hch1 hsz.out
          have hrb1 := hrb'.out.chg hch1 hsz.out
          obtain ⟨bb1, bx1, hbe, -, -, d0, d1, d2, d3⟩ := hrb1.head
          injection hbe with hbe
          injection hbe with hbe1 hbe2
          subst hbe1; subst hbe2
          obtain ⟨g0, g1, g2, g3⟩ := RwR.four hB1 e0.out
          have f0 := hB1.frozen ((o + k) * 4)
          have f1 := hB1.frozen ((o + k) * 4 + 1)
          have f2 := hB1.frozen ((o + k) * 4 + 2)
          have f3 := hB1.frozen ((o + k) * 4 + 3)
          have hadr : o * 4 + k * 4 = (o + k) * 4 := by omega
          rw [← hadr] at g0 g1 g2 g3 f0 f1 f2 f3
          have hsl := slice_tail (cap := cb') p4 bb bx
          have htl := hrb1.tail hlb'
          obtain ⟨nb, hnb⟩ : ∃ nb, (if cb' = 1 then some (⟨bb, bx, none⟩ : Addr) else some ⟨bb, bx + 4, none⟩) = nb := ⟨_, rfl⟩
          rw [hnb] at hsl htl
          clear hnb
          replace htl := Lib.hid htl
          replace hch1 := Lib.hid hch1
          replace hB1 := Lib.hid hB1
          replace hrb1 := Lib.hid hrb1
          replace hra1 := Lib.hid hra1
          replace hadr := Lib.hid hadr
          clear a0 a1 a2 a3 b0 b1 b2 b3
          go_wp2_with fail
          go_region
          go_wp2_with fail
          go_roundw
          case rel =>
            obtain ⟨P1, P2⟩ := put4 y hB1.out hol.out hadr.out rfl
            rw [hov.out] at P1
            have hs1 : w.heap.size ≤ w1.heap.size := Nat.le_trans hsz.out hch1.out.size
            have hpl : (pre ++ [y]).length = k + 1 := by rw [List.length_append, hpre.out]; rfl
            exact ⟨k + 1, la', ca', lb' - 1, cb' - 1, cnt + la', some ⟨ab, ax, none⟩, nb, x :: A', B', pre ++ [y], by first | rfl | go_num, by first | rfl | go_num, by go_num, by go_num, by omega, hpl, by omega, by omega, hmg1.out, hra1.out.chg P2 hs1, htl.out.chg P2 hs1, P1, (hch.out.trans hch1.out).trans P2⟩
          case measure => simp [intOf]; omega
        | false =>
          have hla0 := hra'.1
          have hlb0 := hrb'.1
          simp only [List.length_cons] at hla0 hlb0 hml
          obtain ⟨ab, ax, rfl, hab, hag, a0, a1, a2, a3⟩ := hra'.head
          obtain ⟨bb, bx, rfl, hbb, hbg, b0, b1, b2, b3⟩ := hrb'.head
          have p1 : decide ((0 : Int) < (lb' : Int)) = true := decide_eq_true (by omega)
          have p4 : 0 < lb' := by omega
          have p2 : ((la' : Int) == 0) = false := by simp; omega
          have p3 : 0 < la' := by omega
          have e0 : ∃ r0, (over T o pre)[o + k]? = some r0 := by
            rw [List.getElem?_eq_getElem (by rw [over_length (by omega)]; omega)]; exact ⟨_, rfl⟩
          obtain ⟨r0, e0⟩ := e0
          have hov : ((over T o pre).set (o + k) x) = over T o (pre ++ [x]) := by rw [← hpre]; exact over_snoc T o pre x (by omega)
          have hol : o + k < (over T o pre).length := by rw [over_length (by omega)]; omega
          have hmg1 := hmg.fromA (Or.inr ⟨y, B', rfl, hlt2⟩)
          replace hB' := Lib.hid hB'
          replace hch := Lib.hid hch
          replace hra' := Lib.hid hra'
          replace hrb' := Lib.hid hrb'
          replace hmg1 := Lib.hid hmg1
          replace hpre := Lib.hid hpre
          replace hml := Lib.hid hml
          replace hla0 := Lib.hid hla0
          replace hlb0 := Lib.hid hlb0
          replace e0 := Lib.hid e0
          replace hov := Lib.hid hov
          replace hol := Lib.hid hol
          clear hmg
          go_wp2_with fail
          refine wp_region_still_tail 15 (by kernel_rfl) (by kernel_rfl) ?_
          simp only [List.take_succ_cons, List.take_zero, List.drop_succ_cons, List.drop_zero]
          change wpStill _ _ wr.drew _ _ _
          repeat (first | still_step)
          refine wpStill_nil ?_
          change wpList _ _ _ _ _ wr.drew
          go_wp2_with fail
          refine (hF.out y x _).mono ?_
          rintro e w1 ⟨rfl, hb1⟩
          have hch1 : Chg (· = g) wr w1 := (Chg.drewN (Chg.refl _ _) 1).trans (Chg.of_below hb1 _)
          have hB1 := hB'.out.below (n := wr.heap.size) (bel_trans (bel_drew (Below.refl _ _)) hb1) hB'.out.lt
          clear hb1
          have hra1 := hra'.out.chg hch1 hsz.out
          have hrb1 := hrb'.out.chg hch1 hsz.out
          obtain ⟨bb1, bx1, hbe, -, -, d0, d1, d2, d3⟩ := hra1.head
          injection hbe with hbe
          injection hbe with hbe1 hbe2
          subst hbe1; subst hbe2
          obtain ⟨g0, g1, g2, g3⟩ := RwR.four hB1 e0.out
          have f0 := hB1.frozen ((o + k) * 4)
          have f1 := hB1.frozen ((o + k) * 4 + 1)
          have f2 := hB1.frozen ((o + k) * 4 + 2)
          have f3 := hB1.frozen ((o + k) * 4 + 3)
          have hadr : o * 4 + k * 4 = (o + k) * 4 := by omega
          rw [← hadr] at g0 g1 g2 g3 f0 f1 f2 f3
          have hsl := slice_tail (cap := ca') p3 ab ax
          have htl := hra1.tail hla'
          obtain ⟨nb, hnb⟩ : ∃ nb, (if ca' = 1 then some (⟨ab, ax, none⟩ : Addr) else some ⟨ab, ax + 4, none⟩) = nb := ⟨_, rfl⟩
          rw [hnb] at hsl htl
          clear hnb
          replace htl := Lib.hid htl
          replace hch1 := Lib.hid hch1
          replace hB1 := Lib.hid hB1
          replace hrb1 := Lib.hid hrb1
          replace hra1 := Lib.hid hra1
          replace hadr := Lib.hid hadr
          clear a0 a1 a2 a3 b0 b1 b2 b3
          go_wp2_with fail
          go_region
          go_wp2_with fail
          go_roundw
          case rel =>
            obtain ⟨P1, P2⟩ := put4 x hB1.out hol.out hadr.out rfl
            rw [hov.out] at P1
            have hs1 : w.heap.size ≤ w1.heap.size := Nat.le_trans hsz.out hch1.out.size
            have hpl : (pre ++ [x]).length = k + 1 := by rw [List.length_append, hpre.out]; rfl
            exact ⟨k + 1, la' - 1, ca' - 1, lb', cb', cnt, nb, some ⟨bb, bx, none⟩, A', y :: B', pre ++ [x], by first | rfl | go_num, by first | rfl | go_num, by go_num, by go_num, by omega, hpl, by omega, by omega, hmg1.out, htl.out.chg P2 hs1, hrb1.out.chg P2 hs1, P1, (hch.out.trans hch1.out).trans P2⟩
          case measure => simp [intOf]; omega
    · obtain rfl : k = n := by omega
      obtain ⟨e1, e2⟩ := hmg.done (by rw [hlA.out, hlB.out, hpre, hn.out]; omega)
      subst e1; subst e2
      replace hB' := Lib.hid hB'
      replace hch := Lib.hid hch
      clear hmg hra' hrb' hpre
      have hk1 : decide ((k : Int) < (k : Int)) = false := by simp
      go_wp2_with fail
      go_ret
      exact ⟨rfl, hB'.out, hch.out⟩

end Go.Proofs.Ytcejgnnkjomjlaa

/- Copies of rows, pieces of rows: records and ints. -/
namespace Go.Proofs.Ytcejgnnkjomjlaa
open Go.RowKit

theorem add_none (b off j : Nat) : (⟨b, off, none⟩ : Addr).add j = ⟨b, off + j, none⟩ := by
  unfold Addr.add
  split
  · rename_i h; rw [h]; rfl
  · rfl
/-! rows of whole numbers -/
theorem int_info : (Try.prog.info? 3).map (fun i => (i.zero, i.size, i.bytes)) = some (some (.int .i64 0), 1, 8) := by kernel_rfl
def flatI (l : List Int) : List Value := l.map (Value.int .i64)
theorem flatI_length (l : List Int) : (flatI l).length = l.length * 1 := by simp [flatI]
def RwI (l : List Int) (tl : Array Value) : Array Value := (flatI l).toArray ++ tl
theorem RwI.at {l : List Int} {i : Nat} {r : Int} (tl : Array Value) (h : l[i]? = some r) : (RwI l tl)[i]? = some (.int .i64 r) := by
  have hi : i < l.length := by
    rcases Nat.lt_or_ge i l.length with h' | h'
    · exact h'
    · rw [List.getElem?_eq_none h'] at h; cases h
  unfold RwI
  rw [Array.getElem?_append_left (by simp [flatI]; omega)]
  simp only [List.getElem?_toArray, flatI, List.getElem?_map, h, Option.map_some]
theorem RwI.set {l : List Int} {i : Nat} (tl : Array Value) (r : Int) (hi : i < l.length) : (RwI l tl).setIfInBounds i (.int .i64 r) = RwI (l.set i r) tl := by
  apply Array.ext_getElem?
  intro k
  by_cases hk : k < l.length
  · by_cases e : i = k
    · subst e
      rw [RwI.at tl (List.getElem?_set_self hk), Array.getElem?_setIfInBounds_self_of_lt (by simp [RwI, flatI]; omega)]
    · rw [Array.getElem?_setIfInBounds_ne e, RwI.at tl (List.getElem?_eq_getElem hk), RwI.at tl (by rw [List.getElem?_set_ne e, List.getElem?_eq_getElem hk])]
  · rw [Array.getElem?_setIfInBounds_ne (by omega)]
    unfold RwI
    rw [Array.getElem?_append_right (by simp [flatI]; omega), Array.getElem?_append_right (by simp [flatI]; omega)]
    simp [flatI]
theorem flatI_one (l : List Int) : ∀ u ∈ flatI l, u.oneCell' = true := by
  intro u hu
  obtain ⟨x, _, rfl⟩ := List.mem_map.1 hu
  rfl
theorem flat_one (l : List R4) : ∀ u ∈ flat l, u.oneCell' = true := by
  intro u hu
  obtain ⟨r, _, hr⟩ := List.mem_flatMap.1 hu
  simp only [cells4, List.mem_cons, List.not_mem_nil, or_false] at hr
  rcases hr with rfl | rfl | rfl | rfl <;> rfl
theorem own_rwI {w : World} {base : Nat} {v : Value} {n : Nat} {l : List Int} (h : w.ownsRow base 3 1 v n (flatI l)) (hv : v ≠ .slice none 0 0) :
    ∃ g cap tl, v = .slice (some ⟨g, 0, none⟩) n cap ∧ base ≤ g ∧ n ≤ cap ∧ Blk w g (RwI l tl) 3 := by
  obtain ⟨hl, h⟩ := h
  rcases h with ⟨h1, _⟩ | ⟨g, cap, cur, h1, h2, h3, h4, h5, h6, h7⟩
  · exact absurd h1 hv
  · refine ⟨g, cap, (cur.toList.drop (n * 1)).toArray, h1, h2, h4, ?_⟩
    unfold Blk
    rw [h3]
    have : cur = RwI l (cur.toList.drop (n * 1)).toArray := by
      unfold RwI
      apply Array.ext'
      rw [Array.toList_append]
      show _ = _ ++ _
      rw [← h7, List.take_append_drop]
    rw [← this]

/-- what a slice leads to, below n₀ -/
def RdR (n₀ : Nat) (w : World) (a : Option Addr) (len : Nat) (l : List R4) : Prop :=
  l.length = len ∧ (0 < len → ∃ b off, a = some ⟨b, off, none⟩ ∧ b < n₀ ∧ ∀ i r, l[i]? = some r → ∀ j, j < 4 → w.cell? ⟨b, off + (i * 4 + j), none⟩ = (cells4 r)[j]?)
def RdI (n₀ : Nat) (w : World) (a : Option Addr) (len : Nat) (l : List Int) : Prop :=
  l.length = len ∧ (0 < len → ∃ b off, a = some ⟨b, off, none⟩ ∧ b < n₀ ∧ ∀ i r, l[i]? = some r → w.cell? ⟨b, off + i, none⟩ = some (.int .i64 r))
theorem RdR.below {n₀ : Nat} {w w' : World} {a : Option Addr} {len : Nat} {l : List R4} (h : RdR n₀ w a len l) (hb : Below n₀ w w') : RdR n₀ w' a len l := by
  refine ⟨h.1, fun hp => ?_⟩
  obtain ⟨b, off, ha, hlt, hc⟩ := h.2 hp
  exact ⟨b, off, ha, hlt, fun i r hr j hj => (hb.cell (p := ⟨b, off + (i * 4 + j), none⟩) hlt).trans (hc i r hr j hj)⟩
theorem RdR.mono {n₀ n₁ : Nat} {w : World} {a : Option Addr} {len : Nat} {l : List R4} (h : RdR n₀ w a len l) (hn : n₀ ≤ n₁) : RdR n₁ w a len l := by
  refine ⟨h.1, fun hp => ?_⟩
  obtain ⟨b, off, ha, hlt, hc⟩ := h.2 hp
  exact ⟨b, off, ha, by omega, hc⟩
theorem rd_flatR {w : World} {b off j : Nat} {l : List R4} {u : Value} (h : ∀ i r, l[i]? = some r → ∀ j, j < 4 → w.cell? ⟨b, off + (i * 4 + j), none⟩ = (cells4 r)[j]?) (hu : (flat l)[j]? = some u) : w.cell? ⟨b, off + j, none⟩ = some u := by
  have hj : j < l.length * 4 := by
    rcases Nat.lt_or_ge j (l.length * 4) with h | h
    · exact h
    · rw [List.getElem?_eq_none (by rw [flat_length]; exact h)] at hu; cases hu
  obtain ⟨q, t, ht, rfl⟩ : ∃ q t, t < 4 ∧ j = q * 4 + t := ⟨j / 4, j % 4, by omega, by omega⟩
  have hq : l[q]? = some (l[q]'(by omega)) := List.getElem?_eq_getElem (by omega)
  rw [flat_at hq t ht] at hu
  rw [h q _ hq t ht, hu]
theorem rd_flatI {w : World} {b off j : Nat} {l : List Int} {u : Value} (h : ∀ i r, l[i]? = some r → w.cell? ⟨b, off + i, none⟩ = some (.int .i64 r)) (hu : (flatI l)[j]? = some u) : w.cell? ⟨b, off + j, none⟩ = some u := by
  unfold flatI at hu
  rw [List.getElem?_map] at hu
  cases hl : l[j]? with
  | none => rw [hl] at hu; cases hu
  | some r => rw [hl, Option.map_some] at hu; rw [h j r hl, hu]

/-- a value is a slice of a row of one's own that holds this list -/
def MadeR (n₀ : Nat) (w : World) (v : Value) (l : List R4) : Prop :=
  ∃ a cap, v = .slice a l.length cap ∧ l.length ≤ cap ∧ (0 < l.length → ∃ g tl, a = some ⟨g, 0, none⟩ ∧ n₀ ≤ g ∧ Blk w g (RwR l tl) 24)
theorem MadeR.below {n₀ : Nat} {w w' : World} {v : Value} {l : List R4} (h : MadeR n₀ w v l) (hb : Below w.heap.size w w') : MadeR n₀ w' v l := by
  obtain ⟨a, cap, hv, hc, hg⟩ := h
  refine ⟨a, cap, hv, hc, fun hp => ?_⟩
  obtain ⟨g, tl, ha, hn, hB⟩ := hg hp
  exact ⟨g, tl, ha, hn, hB.below hb hB.lt⟩
theorem MadeR.lower {n₀ n₁ : Nat} {w : World} {v : Value} {l : List R4} (h : MadeR n₀ w v l) (hn : n₁ ≤ n₀) : MadeR n₁ w v l := by
  obtain ⟨a, cap, hv, hc, hg⟩ := h
  refine ⟨a, cap, hv, hc, fun hp => ?_⟩
  obtain ⟨g, tl, ha, hn', hB⟩ := hg hp
  exact ⟨g, tl, ha, by omega, hB⟩

set_option maxHeartbeats 2000000 in
theorem clone_genR (ad : Addr) (n c : Nat) (l : List R4) (w : World) (hn : l.length = n) (hm : n ≤ 70000) (hc : ∀ j u, (flat l)[j]? = some u → (w.alloc (.cells #[] 24)).cell? (ad.add j) = some u) :
    Calls Try.prog 40 #[.slice (some ad) n c] w fun e w' => (∃ g cap tl, e = .returned (.slice (some ⟨g, 0, none⟩) n cap) ∧ n ≤ cap ∧ w.heap.size ≤ g ∧ Blk w' g (RwR l tl) 24) ∧ Below w.heap.size w w' := by
  obtain ⟨i0, hi0, hz0, hz1, hz2⟩ := info_parts rec_info
  have hown : (w.alloc (.cells #[] 24)).ownsRow w.heap.size 24 4 (.slice (some ⟨w.heap.size, 0, none⟩) 0 0) 0 [] :=
    World.ownsRow_lit (size := 4) w #[] 0 (Nat.le_refl _) (by simp [maxLen]) rfl
  have h1 : ∀ u ∈ flat l, u.oneCell' = true := flat_one l
  replace hc := Lib.hid hc
  replace hown := Lib.hid hown
  replace hn := Lib.hid hn
  have hnil := fun (wx : World) => Lib.run_eql_slice_nil (P := Try.prog) wx 31 24 (some ad) n c 0 0 Try.underlying31
  go_enter Try.func40, Try.ntmps40
  go_wp2_with (first
    | (at_builtin
       refine wpList_append_own_at _ rfl _ _ 31 rfl w.heap.size 24 i0 _ 4 32 Try.underlying31 hi0 hz0 hz1 hz2 rfl (by omega) _ 0 [] rfl hown.out ad n c (flat l) rfl (by rw [flat_length, hn.out]) hc.out h1 (by simp only [maxLen]; omega) (by omega) (by simp) ?_
       intro v1 w1 hown1 hg1 hlast hat1))
  go_ret
  simp only [Nat.zero_add, List.nil_append] at hown1
  obtain ⟨g, cap, tl, rfl, hg, hcap, hblk⟩ := own_rwR hown1 (fun e => by have := (hlast.1 e).1; cases this)
  exact ⟨⟨g, cap, tl, rfl, hcap, hg, hblk⟩, (bel_alloc (Below.refl _ _) _).grown hg1 (by simp) (fun k e => by have e' : some w.heap.size = some k := e; injection e' with e'; omega)⟩

theorem clone_noneR (c : Nat) (w : World) : Calls Try.prog 40 #[.slice none 0 c] w fun e w' => e = .returned (.slice none 0 0) ∧ w = w' := by
  have hnil := fun (wx : World) => Lib.run_eql_slice_nil (P := Try.prog) wx 31 24 none 0 c 0 0 Try.underlying31
  go_enter Try.func40, Try.ntmps40
  go_wp2
  go_ret
  exact ⟨rfl, rfl⟩
theorem clone_anyR (a : Option Addr) (n c : Nat) (l : List R4) (w : World) (hr : RdR w.heap.size w a n l) (hm : n ≤ 70000) :
    Calls Try.prog 40 #[.slice a n c] w fun e w' => (∃ v, e = .returned v ∧ MadeR w.heap.size w' v l) ∧ Below w.heap.size w w' := by
  cases a with
  | none =>
    have hl := hr.1
    have h0 : n = 0 := by
      rcases Nat.eq_zero_or_pos n with h | h
      · exact h
      · obtain ⟨b, off, e, _⟩ := hr.2 h; cases e
    subst h0
    obtain rfl := List.eq_nil_of_length_eq_zero hl
    refine (clone_noneR c w).mono ?_
    rintro e w' ⟨rfl, rfl⟩
    exact ⟨⟨_, rfl, none, 0, rfl, Nat.le_refl _, fun h => absurd h (by simp)⟩, Below.refl _ _⟩
  | some ad =>
    refine (clone_genR ad n c l w hr.1 hm ?_).mono ?_
    · intro j u hu
      have hp : 0 < n := by
        have := hr.1
        rcases Nat.eq_zero_or_pos n with h | h
        · rw [h] at this
          obtain rfl := List.eq_nil_of_length_eq_zero this
          simp [flat] at hu
        · exact h
      obtain ⟨b, off, e, hb, hcell⟩ := hr.2 hp
      injection e with e
      subst e
      rw [add_none, (below1 w _).cell (p := ⟨b, off + j, none⟩) hb]
      exact rd_flatR hcell hu
    · rintro e w' ⟨⟨g, cap, tl, rfl, hcap, hg, hB⟩, hb⟩
      have hl := hr.1
      subst hl
      exact ⟨⟨_, rfl, _, _, rfl, hcap, fun _ => ⟨g, tl, rfl, hg, hB⟩⟩, hb⟩

theorem size_ofR (W : World) : (sizeOf (Try.prog.elem 31)).run Try.prog W = .ok 4 W := by kernel_rfl
/-- a piece of a row -/
theorem slice_lhR {lo hi n cap : Nat} (h1 : lo ≤ hi) (h2 : hi ≤ cap) (b : Nat) (W : World) : (Instr.slice 31 (.slice (some ⟨b, 0, none⟩) n cap) (some (.int .i64 (lo : Int))) (some (.int .i64 (hi : Int))) none).run Try.prog W =
    .ok (.slice (if cap = lo then some ⟨b, 0, none⟩ else some ⟨b, lo * 4, none⟩) (hi - lo) (cap - lo)) W := by
  rw [run_slice_lh (P := Try.prog) W 31 (some ⟨b, 0, none⟩) n cap (by kernel_rfl) .i64 .i64 lo hi (by omega) (by omega) (by omega), size_ofR]
  simp [Result.andThen, sliced]
  split
  · rfl
  · simp [Addr.add]
    try omega

/-- a value is a slice of a row of one's own that holds this list -/
def MadeI (n₀ : Nat) (w : World) (v : Value) (l : List Int) : Prop :=
  ∃ a cap, v = .slice a l.length cap ∧ l.length ≤ cap ∧ (0 < l.length → ∃ g tl, a = some ⟨g, 0, none⟩ ∧ n₀ ≤ g ∧ Blk w g (RwI l tl) 3)
theorem MadeI.below {n₀ : Nat} {w w' : World} {v : Value} {l : List Int} (h : MadeI n₀ w v l) (hb : Below w.heap.size w w') : MadeI n₀ w' v l := by
  obtain ⟨a, cap, hv, hc, hg⟩ := h
  refine ⟨a, cap, hv, hc, fun hp => ?_⟩
  obtain ⟨g, tl, ha, hn, hB⟩ := hg hp
  exact ⟨g, tl, ha, hn, hB.below hb hB.lt⟩
theorem MadeI.lower {n₀ n₁ : Nat} {w : World} {v : Value} {l : List Int} (h : MadeI n₀ w v l) (hn : n₁ ≤ n₀) : MadeI n₁ w v l := by
  obtain ⟨a, cap, hv, hc, hg⟩ := h
  refine ⟨a, cap, hv, hc, fun hp => ?_⟩
  obtain ⟨g, tl, ha, hn', hB⟩ := hg hp
  exact ⟨g, tl, ha, by omega, hB⟩

set_option maxHeartbeats 2000000 in
theorem clone_genI (ad : Addr) (n c : Nat) (l : List Int) (w : World) (hn : l.length = n) (hm : n ≤ 70000) (hc : ∀ j u, (flatI l)[j]? = some u → (w.alloc (.cells #[] 3)).cell? (ad.add j) = some u) :
    Calls Try.prog 41 #[.slice (some ad) n c] w fun e w' => (∃ g cap tl, e = .returned (.slice (some ⟨g, 0, none⟩) n cap) ∧ n ≤ cap ∧ w.heap.size ≤ g ∧ Blk w' g (RwI l tl) 3) ∧ Below w.heap.size w w' := by
  obtain ⟨i0, hi0, hz0, hz1, hz2⟩ := info_parts int_info
  have hown : (w.alloc (.cells #[] 3)).ownsRow w.heap.size 3 1 (.slice (some ⟨w.heap.size, 0, none⟩) 0 0) 0 [] :=
    World.ownsRow_lit (size := 1) w #[] 0 (Nat.le_refl _) (by simp [maxLen]) rfl
  have h1 : ∀ u ∈ flatI l, u.oneCell' = true := flatI_one l
  replace hc := Lib.hid hc
  replace hown := Lib.hid hown
  replace hn := Lib.hid hn
  have hnil := fun (wx : World) => Lib.run_eql_slice_nil (P := Try.prog) wx 35 3 (some ad) n c 0 0 Try.underlying35
  go_enter Try.func41, Try.ntmps41
  go_wp2_with (first
    | (at_builtin
       refine wpList_append_own_at _ rfl _ _ 35 rfl w.heap.size 3 i0 _ 1 8 Try.underlying35 hi0 hz0 hz1 hz2 rfl (by omega) _ 0 [] rfl hown.out ad n c (flatI l) rfl (by rw [flatI_length, hn.out]) hc.out h1 (by simp only [maxLen]; omega) (by omega) (by simp) ?_
       intro v1 w1 hown1 hg1 hlast hat1))
  go_ret
  simp only [Nat.zero_add, List.nil_append] at hown1
  obtain ⟨g, cap, tl, rfl, hg, hcap, hblk⟩ := own_rwI hown1 (fun e => by have := (hlast.1 e).1; cases this)
  exact ⟨⟨g, cap, tl, rfl, hcap, hg, hblk⟩, (bel_alloc (Below.refl _ _) _).grown hg1 (by simp) (fun k e => by have e' : some w.heap.size = some k := e; injection e' with e'; omega)⟩

theorem clone_noneI (c : Nat) (w : World) : Calls Try.prog 41 #[.slice none 0 c] w fun e w' => e = .returned (.slice none 0 0) ∧ w = w' := by
  have hnil := fun (wx : World) => Lib.run_eql_slice_nil (P := Try.prog) wx 35 3 none 0 c 0 0 Try.underlying35
  go_enter Try.func41, Try.ntmps41
  go_wp2
  go_ret
  exact ⟨rfl, rfl⟩
theorem clone_anyI (a : Option Addr) (n c : Nat) (l : List Int) (w : World) (hr : RdI w.heap.size w a n l) (hm : n ≤ 70000) :
    Calls Try.prog 41 #[.slice a n c] w fun e w' => (∃ v, e = .returned v ∧ MadeI w.heap.size w' v l) ∧ Below w.heap.size w w' := by
  cases a with
  | none =>
    have hl := hr.1
    have h0 : n = 0 := by
      rcases Nat.eq_zero_or_pos n with h | h
      · exact h
      · obtain ⟨b, off, e, _⟩ := hr.2 h; cases e
    subst h0
    obtain rfl := List.eq_nil_of_length_eq_zero hl
    refine (clone_noneI c w).mono ?_
    rintro e w' ⟨rfl, rfl⟩
    exact ⟨⟨_, rfl, none, 0, rfl, Nat.le_refl _, fun h => absurd h (by simp)⟩, Below.refl _ _⟩
  | some ad =>
    refine (clone_genI ad n c l w hr.1 hm ?_).mono ?_
    · intro j u hu
      have hp : 0 < n := by
        have := hr.1
        rcases Nat.eq_zero_or_pos n with h | h
        · rw [h] at this
          obtain rfl := List.eq_nil_of_length_eq_zero this
          simp [flatI] at hu
        · exact h
      obtain ⟨b, off, e, hb, hcell⟩ := hr.2 hp
      injection e with e
      subst e
      rw [add_none, (below1 w _).cell (p := ⟨b, off + j, none⟩) hb]
      exact rd_flatI hcell hu
    · rintro e w' ⟨⟨g, cap, tl, rfl, hcap, hg, hB⟩, hb⟩
      have hl := hr.1
      subst hl
      exact ⟨⟨_, rfl, _, _, rfl, hcap, fun _ => ⟨g, tl, rfl, hg, hB⟩⟩, hb⟩

theorem size_ofI (W : World) : (sizeOf (Try.prog.elem 35)).run Try.prog W = .ok 1 W := by kernel_rfl
/-- a piece of a row -/
theorem slice_lhI {lo hi n cap : Nat} (h1 : lo ≤ hi) (h2 : hi ≤ cap) (b : Nat) (W : World) : (Instr.slice 35 (.slice (some ⟨b, 0, none⟩) n cap) (some (.int .i64 (lo : Int))) (some (.int .i64 (hi : Int))) none).run Try.prog W =
    .ok (.slice (if cap = lo then some ⟨b, 0, none⟩ else some ⟨b, lo, none⟩) (hi - lo) (cap - lo)) W := by
  rw [run_slice_lh (P := Try.prog) W 35 (some ⟨b, 0, none⟩) n cap (by kernel_rfl) .i64 .i64 lo hi (by omega) (by omega) (by omega), size_ofI]
  simp [Result.andThen, sliced]
  split
  · rfl
  · simp [Addr.add]
    try omega

end Go.Proofs.Ytcejgnnkjomjlaa

/- Plain laws of a pass of merges. -/
namespace Go.Proofs.Ytcejgnnkjomjlaa
section
variable {α : Type} {lt : α → α → Bool}
theorem isum_le (l : List α) (w t : Nat) : isum lt l w t ≤ t * (l.length * l.length) := by
  induction t with
  | zero => simp [isum]
  | succ t ih =>
    have h1 := inv_le (lt := lt) (pc l (t * w) w)
    have h2 : (pc l (t * w) w).length ≤ l.length := by rw [pc_length]; omega
    have h3 := Nat.mul_le_mul h2 h2
    show _ + _ ≤ _
    rw [Nat.add_mul, Nat.one_mul]
    omega
/-- the merges of a pass: the first t of double width are made, p pairs are counted so far -/
structure Pass (lt : α → α → Bool) (wd t : Nat) (L T l : List α) (p : Nat) : Prop where
  mid : Mid lt wd t T l
  cnt : p + isum lt l wd (2 * t) = isum lt l (2 * wd) t + isum lt l wd l.length
theorem Pass.zero {wd : Nat} {L T l : List α} {p : Nat} (hT : T.length = l.length) (hp : p = isum lt l wd l.length) : Pass lt wd 0 L T l p :=
  ⟨Mid.zero hT, by simp [isum, hp]⟩
theorem Pass.step (hw : Weak lt) {wd t : Nat} {L T l : List α} {p : Nat} (h : Pass lt wd t L T l p) (hL : Bk lt wd L l) (ht : t * (2 * wd) < l.length) :
    Pass lt wd (t + 1) L (over T (t * (2 * wd)) (mrg lt (pc L (t * (2 * wd)) wd) (pc L (t * (2 * wd) + wd) wd))) l (p + mcn lt (pc L (t * (2 * wd)) wd) (pc L (t * (2 * wd) + wd) wd)) := by
  refine ⟨h.mid.step hw hL ht, ?_⟩
  have := isum_step hw (t := t) hL
  have := h.cnt
  omega
theorem Pass.bound {wd t : Nat} {L T l : List α} {p : Nat} (h : Pass lt wd t L T l p) (ht : t ≤ l.length) : p ≤ 2 * (l.length * (l.length * l.length)) := by
  have h1 := isum_le (lt := lt) l (2 * wd) t
  have h2 := isum_le (lt := lt) l wd l.length
  have h3 : t * (l.length * l.length) ≤ l.length * (l.length * l.length) := Nat.mul_le_mul_right _ ht
  have := h.cnt
  omega
theorem Pass.done {wd t : Nat} {L T l : List α} {p : Nat} (h : Pass lt wd t L T l p) (hw : 0 < wd) (ht : l.length ≤ t * (2 * wd)) (htl : t ≤ l.length) : Bk lt (2 * wd) T l ∧ p = isum lt l (2 * wd) l.length := by
  refine ⟨h.mid.done ht, ?_⟩
  have e1 : isum lt l (2 * wd) l.length = isum lt l (2 * wd) t := isum_out ht htl
  have h2 : l.length ≤ 2 * t * wd := by rw [Nat.mul_comm 2 t, Nat.mul_assoc]; exact ht
  have h3 : l.length ≤ l.length * wd := Nat.le_mul_of_pos_right _ hw
  have e2 : isum lt l wd (2 * t) = isum lt l wd l.length := by
    rcases Nat.le_total (2 * t) l.length with h | h
    · exact (isum_out h2 h).symm
    · exact isum_out h3 h
  have := h.cnt
  omega
theorem Bk.last {wd : Nat} {L l : List α} (h : Bk lt wd L l) (hw : l.length ≤ wd) (hl : 0 < l.length) : L = isort lt l ∧ isum lt l wd l.length = inv lt l :=
  ⟨h.done hw, isum_whole hw hl⟩
theorem pc_lo {L : List α} {i wd n : Nat} (hL : L.length = n) (_hi : i < n) : (pc L i wd).length = min (i + wd) n - i := by rw [pc_length, hL]; omega
theorem pc_hi {L : List α} {i wd n : Nat} (hL : L.length = n) (_hi : i < n) : (pc L (i + wd) wd).length = min (i + 2 * wd) n - min (i + wd) n := by rw [pc_length, hL]; omega
theorem chunk_count {wd t n : Nat} (hw : 0 < wd) (h : t * (2 * wd) < n + 2 * wd) : t ≤ n := by
  rcases Nat.lt_or_ge n t with h1 | h1
  · have h2 : (n + 1) * (2 * wd) ≤ t * (2 * wd) := Nat.mul_le_mul_right _ (by omega)
    rw [Nat.add_mul, Nat.one_mul] at h2
    have h3 : n ≤ n * (2 * wd) := Nat.le_mul_of_pos_right _ (by omega)
    omega
  · exact h1
theorem pc_mem {L : List α} {i w : Nat} {x : α} (h : x ∈ pc L i w) : x ∈ L := List.mem_of_mem_drop (List.mem_of_mem_take h)
theorem Bk.mem {w : Nat} {L l : List α} (h : Bk lt w L l) (hw : 0 < w) : ∀ x ∈ L, x ∈ l := by
  intro x hx
  obtain ⟨i, hi, rfl⟩ := List.mem_iff_getElem.1 hx
  have hm : L[i] ∈ pc L (i / w * w) w := by
    have e : i / w * w + i % w = i := by rw [Nat.mul_comm]; exact Nat.div_add_mod i w
    have hlt : i % w < w := Nat.mod_lt _ hw
    have : (pc L (i / w * w) w)[i % w]? = some L[i] := by
      unfold pc
      rw [List.getElem?_take_of_lt hlt, List.getElem?_drop, e, List.getElem?_eq_getElem hi]
    exact List.mem_of_getElem? this
  rw [h.at_] at hm
  exact pc_mem ((isort_perm _).mem_iff.1 hm)
end
end Go.Proofs.Ytcejgnnkjomjlaa

/- Sorting rows of records by merging. -/
namespace Go.Proofs.Ytcejgnnkjomjlaa
open Go.RowKit

theorem pieceR {w : World} {gf g n₀ n lo hi capf wd : Nat} {L : List R4} {tl : Array Value} (h : Blk w gf (RwR L tl) 24) (_hL : L.length = n) (hlo : lo ≤ hi) (hhi : hi ≤ n) (hcap : n ≤ capf) (hlt : gf < n₀) (hne : gf ≠ g) (hp : (pc L lo wd).length = hi - lo) :
    RX n₀ g w (if capf = lo then some ⟨gf, 0, none⟩ else some ⟨gf, lo * 4, none⟩) (hi - lo) (pc L lo wd) := by
  refine ⟨hp, fun hpos => ?_⟩
  rw [if_neg (by omega)]
  refine ⟨gf, lo * 4, rfl, hlt, hne, fun i r hr j hj => ?_⟩
  have hl : L[lo + i]? = some r := by
    unfold pc at hr
    rw [List.getElem?_take] at hr
    split at hr
    · rw [List.getElem?_drop] at hr; exact hr
    · cases hr
  rw [show lo * 4 + (i * 4 + j) = (lo + i) * 4 + j by omega]
  have := RwR.at tl hl j hj
  have hx : ∃ v, (cells4 r)[j]? = some v := by
    match j, hj with
    | 0, _ => exact ⟨_, rfl⟩
    | 1, _ => exact ⟨_, rfl⟩
    | 2, _ => exact ⟨_, rfl⟩
    | 3, _ => exact ⟨_, rfl⟩
  obtain ⟨v, hv⟩ := hx
  rw [hv] at this ⊢
  exact h.cell _ this

theorem pc_midR {L : List R4} {i wd n mid : Nat} (hL : L.length = n) (_hi : i < n) (hm : mid = min (i + wd) n) : pc L mid wd = pc L (i + wd) wd := by
  rcases Nat.lt_or_ge n (i + wd) with h | h
  · rw [pc_out (by omega), pc_out (by omega)]
  · rw [show mid = i + wd by omega]
theorem cubeR {n : Nat} (h : n ≤ 65536) : n * (n * n) ≤ 281474976710656 :=
  Nat.le_trans (Nat.mul_le_mul h (Nat.mul_le_mul h h)) (by omega)
set_option maxHeartbeats 16000000 in
theorem sorted_posR {F : Nat} {lt : R4 → R4 → Bool} (hF : Tells F lt) (hw : Weak lt) (w : World) (a : Option Addr) (n c : Nat) (l : List R4) (hr : RdR w.heap.size w a n l) (hm : n ≤ 65536) (hn : 0 < n) :
    Calls Try.prog 32 #[.slice a n c, .func (.func F) #[] #[]] w fun e w' => ∃ v, e = .returned (.tuple #[v, .int .i64 (inv lt l : Nat)]) ∧ MadeR w.heap.size w' v (isort lt l) ∧ Below w.heap.size w w' := by
  have hln := hr.1
  have hcl : ∀ W, Below w.heap.size w W → Calls Try.prog 40 #[.slice a n c] W fun e w' => (∃ v, e = .returned v ∧ MadeR W.heap.size w' v l) ∧ Below W.heap.size W w' :=
    fun W hb => clone_anyR a n c l W ((hr.below hb).mono hb.size) (by omega)
  have hmk := fun W => make_rec n (by omega) W
  have hsl := fun lo hi cap h1 h2 b W => slice_lhR (lo := lo) (hi := hi) (n := n) (cap := cap) h1 h2 b W
  replace hcl := Lib.hid hcl
  replace hln := Lib.hid hln
  replace hsl := Lib.hid hsl
  replace hF := Lib.hid hF
  clear hr
  go_enter Try.func32, Try.ntmps32
  go_wp2_with fail
  go_cut [6, 7] (fun v6 v7 wx => ∃ (gf capf gt : Nat) (tlf : Array Value), v6 = .slice (some ⟨gf, 0, none⟩) n capf ∧ v7 = .slice (some ⟨gt, 0, none⟩) n n ∧ n ≤ capf ∧ gf ≠ gt ∧ w.heap.size ≤ gf ∧ w.heap.size ≤ gt ∧ Blk wx gf (RwR l tlf) 24 ∧ Blk wx gt (RwR (List.replicate n R4.zero) #[]) 24 ∧ Below w.heap.size w wx)
  case first =>
    have hbl := Lib.hid (Below.refl w.heap.size w)
    go_region_with (go_at_call 40; refine (hcl.out _ ?_).mono ?_; (first | exact bel_drew (Below.refl _ _) | exact bel_drew (below1 _ _) | exact bel_alloc (bel_drew (Below.refl _ _)) _ | exact Below.refl _ _ | exact below1 _ _); rintro e w1 ⟨⟨v1, rfl, hv1⟩, hb1⟩; replace hv1 := Lib.hid hv1; replace hb1 := Lib.hid hb1)
    all_goals
      obtain ⟨a1, cap1, rfl, hcap1, hg1⟩ := hv1.out
      rw [hln.out] at hcap1 hg1
      obtain ⟨gf, tlf, rfl, hgf, hB1⟩ := hg1 hn
      replace hB1 := Lib.hid hB1
      replace hgf := Lib.hid hgf
      clear hg1 hv1
      go_wp2_with fail
      go_meet
      first
        | exact ⟨gf, cap1, w1.heap.size, tlf, by rw [hln.out], rfl, hcap1, by have := hB1.out.lt; omega, hgf.out, hb1.out.size, hB1.out.alloc _, Blk.new _ _ _, bel_alloc (bel_trans (bel_drew hbl.out) hb1.out) _⟩
        | (have h0 : w.heap.size + 1 ≤ gf := Nat.le_trans (Nat.le_of_eq (World.size_alloc w (.cells (RwR (List.replicate n R4.zero) #[]) 24)).symm) hgf.out
           have h2 : Blk (w.alloc (.cells (RwR (List.replicate n R4.zero) #[]) 24)).drew w.heap.size (RwR (List.replicate n R4.zero) #[]) 24 := Blk.new w (RwR (List.replicate n R4.zero) #[]) 24
           have h3 := h2.below hb1.out h2.lt
           exact ⟨gf, cap1, w.heap.size, tlf, by rw [hln.out], rfl, hcap1, by omega, by omega, Nat.le_refl _, hB1.out, h3, bel_trans (bel_drew (bel_alloc hbl.out _)) hb1.out⟩)
  case rest =>
    obtain ⟨gf0, capf0, gt0, tlf0, rfl, rfl, hcf0, hne0, hgf0, hgt0, hBf0, hBt0, hb0⟩ := hcut
    replace hBf0 := Lib.hid hBf0
    replace hBt0 := Lib.hid hBt0
    replace hb0 := Lib.hid hb0
    clear hcl hmk
    generalize wc = U at *
    go_wp2_with fail
    go_loopw [5, 6, 7, 8] (fun v5 v6 v7 v8 wr => ∃ (wd p gf gt capf capt : Nat) (L T : List R4) (tlf tlt : Array Value),
        v5 = .int .i64 (p : Int) ∧ v6 = .slice (some ⟨gf, 0, none⟩) n capf ∧ v7 = .slice (some ⟨gt, 0, none⟩) n capt ∧ v8 = .int .i64 (wd : Int) ∧ 0 < wd ∧ wd ≤ 131072 ∧ n ≤ capf ∧ n ≤ capt ∧ gf ≠ gt ∧ w.heap.size ≤ gf ∧ w.heap.size ≤ gt ∧
        Blk wr gf (RwR L tlf) 24 ∧ Blk wr gt (RwR T tlt) 24 ∧ T.length = l.length ∧ Bk lt wd L l ∧ p = isum lt l wd l.length ∧ Below w.heap.size w wr)
      (fun _ _ _ v8 _ => n - (intOf v8).toNat)
    case atStart => exact ⟨1, 0, gf0, gt0, capf0, n, l, _, tlf0, _, rfl, rfl, rfl, rfl, by omega, by omega, hcf0, Nat.le_refl _, hne0, hgf0, hgt0, hBf0.out, hBt0.out, by rw [List.length_replicate, hln.out], Bk.one l, (isum_one l _).symm, hb0.out⟩
    case round =>
      clear hcf0 hne0 hgf0 hgt0 hBf0 hBt0 hb0
      obtain ⟨wd, p, gf, gt, capf, capt, L, T, tlf, tlt, rfl, rfl, rfl, rfl, hw0, hw1, hcf, hct, hne, hgf, hgt, hBf, hBt, hTl, hBk, hp, hb⟩ := hrel
      replace hBf := Lib.hid hBf
      replace hBt := Lib.hid hBt
      replace hb := Lib.hid hb
      replace hTl := Lib.hid hTl
      replace hBk := Lib.hid hBk
      replace hp := Lib.hid hp
      by_cases hlt : wd < n
      · have hd : decide ((wd : Int) < (n : Int)) = true := decide_eq_true (by omega)
        obtain ⟨wo, rfl⟩ : ∃ wo : World, wo = wr := ⟨_, rfl⟩
        go_wp2_with fail
        go_loopw [5, 9] (fun v5 v9 wr => ∃ (t i q : Nat) (T' : List R4), v5 = .int .i64 (q : Int) ∧ v9 = .int .i64 (i : Int) ∧ i = t * (2 * wd) ∧ i < n + 2 * wd ∧ Pass lt wd t L T' l q ∧
            Blk wr gf (RwR L tlf) 24 ∧ Blk wr gt (RwR T' tlt) 24 ∧ Below w.heap.size w wr)
          (fun _ v9 _ => n - (intOf v9).toNat)
        case atStart => exact ⟨0, 0, p, T, rfl, rfl, by simp, by omega, Pass.zero hTl.out hp.out, hBf.out, hBt.out, hb.out⟩
        case round =>
          obtain ⟨t, i, q, T', rfl, rfl, hi, hin, hP, hBf, hBt, hb⟩ := hrel
          replace hBf := Lib.hid hBf
          replace hBt := Lib.hid hBt
          replace hb := Lib.hid hb
          by_cases hli : i < n
          · have hd2 : decide ((i : Int) < (n : Int)) = true := decide_eq_true (by omega)
            obtain ⟨mid, hmid⟩ : ∃ mid, mid = min (i + wd) n := ⟨_, rfl⟩
            obtain ⟨en, hen⟩ : ∃ en, en = min (i + 2 * wd) n := ⟨_, rfl⟩
            have htn : t ≤ n := chunk_count hw0 (by omega)
            have hLn : L.length = n := hBk.out.len.trans hln.out
            have hTn : T'.length = n := hP.mid.len.trans hln.out
            have hpa : (pc L i wd).length = mid - i := by rw [pc_lo hLn hli]; omega
            have hpb : (pc L (i + wd) wd).length = en - mid := by rw [pc_hi hLn hli]; omega
            have hbd := hP.bound (by rw [hln.out]; exact htn)
            have hst := hP.step hw hBk.out (by rw [hln.out, ← hi]; exact hli)
            have htn1 : t + 1 ≤ n := by have := Nat.le_mul_of_pos_right t (show 0 < 2 * wd by omega); omega
            have hbd2 := hst.bound (by rw [hln.out]; exact htn1)
            rw [← hi] at hst hbd2
            have hcube : n * (n * n) ≤ 281474976710656 := cubeR hm
            rw [hln.out] at hbd hbd2
            obtain ⟨M, hM⟩ : ∃ M, mcn lt (pc L i wd) (pc L (i + wd) wd) = M := ⟨_, rfl⟩
            rw [hM] at hst hbd2
            have hqb : (q : Int) + (M : Int) ≤ 562949953421312 := by omega
            have hinx : (t + 1) * (2 * wd) = i + 2 * wd := by rw [hi, Nat.add_mul, Nat.one_mul]
            replace hLn := Lib.hid hLn
            replace hTn := Lib.hid hTn
            replace hpa := Lib.hid hpa
            replace hpb := Lib.hid hpb
            replace hst := Lib.hid hst
            replace hM := Lib.hid hM
            replace hi := Lib.hid hi
            replace hinx := Lib.hid hinx
            have hr1 : ∀ (ts : Array TypeId) (t : TypeId) (W : World), (Builtin.min_ ts t #[.int .i64 ((i : Int) + (wd : Int)), .int .i64 (n : Int)]).run Try.prog W = .ok (.int .i64 (mid : Int)) W := by
              intro ts t W
              rw [run_min_int2]
              congr 2
              split <;> omega
            have hr2 : ∀ (ts : Array TypeId) (t : TypeId) (W : World), (Builtin.min_ ts t #[.int .i64 ((i : Int) + 2 * (wd : Int)), .int .i64 (n : Int)]).run Try.prog W = .ok (.int .i64 (en : Int)) W := by
              intro ts t W
              rw [run_min_int2]
              congr 2
              split <;> omega
            have m1 : i ≤ mid ∧ mid ≤ en ∧ en ≤ n ∧ i < en := by omega
            obtain ⟨m1, m2, m3, m4⟩ := m1
            replace hmid := Lib.hid hmid
            replace hen := Lib.hid hen
            have hs1 := fun W => hsl.out i en capt (by omega) (by omega) gt W
            have hs2 := fun W => hsl.out i mid capf (by omega) (by omega) gf W
            have hs3 := fun W => hsl.out mid en capf (by omega) (by omega) gf W
            have hx1 := fun W (h : Blk W gf (RwR L tlf) 24) (hl : gf < W.heap.size) => pieceR (g := gt) (n₀ := W.heap.size) (lo := i) (hi := mid) (wd := wd) h hLn.out m1 (by omega) hcf hl hne hpa.out
            have hx2 := fun W (h : Blk W gf (RwR L tlf) 24) (hl : gf < W.heap.size) => pieceR (g := gt) (n₀ := W.heap.size) (lo := mid) (hi := en) (wd := wd) h hLn.out m2 m3 hcf hl hne (by rw [pc_midR hLn.out hli hmid.out]; exact hpb.out)
            rw [if_neg (by omega)] at hs1
            obtain ⟨a2, ha2⟩ : ∃ x, (if capf = i then some (⟨gf, 0, none⟩ : Addr) else some ⟨gf, i * 4, none⟩) = x := ⟨_, rfl⟩
            obtain ⟨a3, ha3⟩ : ∃ x, (if capf = mid then some (⟨gf, 0, none⟩ : Addr) else some ⟨gf, mid * 4, none⟩) = x := ⟨_, rfl⟩
            rw [ha2] at hs2 hx1
            rw [ha3] at hs3 hx2
            have hpm := pc_midR hLn.out hli hmid.out (wd := wd)
            have hcall : ∀ W, Below wr.heap.size wr W → Calls Try.prog 37 #[.slice (some ⟨gt, i * 4, none⟩) (en - i) (capt - i), .slice a2 (mid - i) (capf - i), .slice a3 (en - mid) (capf - mid), .func (.func F) #[] #[]] W fun e w' =>
                e = .returned (.int .i64 (M : Int)) ∧ Blk w' gt (RwR (over T' i (mrg lt (pc L i wd) (pc L (i + wd) wd))) tlt) 24 ∧ Chg (· = gt) W w' := by
              intro W hW
              have b1 := hBf.out.below hW hBf.out.lt
              have b2 := hBt.out.below hW hBt.out.lt
              refine (merge_rec hF.out W gt i (en - i) (capt - i) (mid - i) (capf - i) (en - mid) (capf - mid) T' (pc L i wd) (pc L mid wd) tlt a2 a3 b2 (hx1 W b1 b1.lt) (hx2 W b1 b1.lt) (by omega) (by omega) (by omega) (by rw [hTn.out]; omega) (by rw [hTn.out]; omega)).mono ?_
              rintro e w' ⟨rfl, h1, h2⟩
              rw [hpm] at h1
              refine ⟨?_, h1, h2⟩
              rw [hpm, hM.out]
            replace hcall := Lib.hid hcall
            have hbw := Lib.hid (Below.refl wr.heap.size wr)
            clear hbd hbd2 hcube hP ha2 ha3 hx1 hx2 hpm
            go_wp2_with fail
            go_region_with (go_at_call 37; refine (hcall.out _ ?_).mono ?_; (first | exact bel_drew hbw.out | exact hbw.out); rintro e w1 ⟨rfl, hB1, hC1⟩; replace hB1 := Lib.hid hB1; replace hC1 := Lib.hid hC1)
            all_goals
              go_wp2_with fail
              go_roundw
              case rel =>
                have hC2 : Chg (· = gt) wr w1 := Chg.trans (Chg.drewN (Chg.refl _ wr) 1) hC1.out
                exact ⟨t + 1, i + 2 * wd, q + M, _, by go_num, by go_num, hinx.out.symm, by omega, hst.out, hBf.out.chg hC2 hne, hB1.out, hb.out.trans (hC2.below (by have := hb.out.size; omega) (fun k _ e => by omega))⟩
              case measure => simp [intOf]; omega
          · have hd2 : decide ((i : Int) < (n : Int)) = false := decide_eq_false (by omega)
            have htn : t ≤ n := chunk_count hw0 (by omega)
            have hPT := hP.mid.len
            obtain ⟨hBk', hq⟩ := hP.done hw0 (by rw [hln.out]; omega) (by rw [hln.out]; exact htn)
            replace hBk' := Lib.hid hBk'
            replace hq := Lib.hid hq
            replace hPT := Lib.hid hPT
            replace hi := Lib.hid hi
            clear hP
            go_wp2_with fail
            go_roundw
            case rel => exact ⟨2 * wd, q, gt, gf, capt, capf, T', L, tlt, tlf, rfl, rfl, rfl, by go_num, by omega, by omega, hct, hcf, fun e => hne e.symm, hgt, hgf, hBt.out, hBf.out, hBk.out.len, hBk'.out, hq.out, hb.out⟩
            case measure => simp [intOf]; omega
      · have hd : decide ((wd : Int) < (n : Int)) = false := decide_eq_false (by omega)
        obtain ⟨hL, hiv⟩ := hBk.out.last (by rw [hln.out]; omega) (by rw [hln.out]; exact hn)
        have hpe := hp.out
        rw [hiv] at hpe
        have hB := hBf.out
        rw [hL] at hB
        have hlen : (isort lt l).length = n := by rw [(isort_perm l).length_eq, hln.out]
        subst hpe
        replace hB := Lib.hid hB
        replace hlen := Lib.hid hlen
        clear hL hiv hp hBf hBk
        go_wp2_with fail
        go_ret2
        exact ⟨_, rfl, ⟨some ⟨gf, 0, none⟩, capf, by rw [hlen.out]; rfl, by rw [hlen.out]; exact hcf, fun _ => ⟨gf, tlf, rfl, hgf, hB.out⟩⟩, hb.out⟩

end Go.Proofs.Ytcejgnnkjomjlaa
