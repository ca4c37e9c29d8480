/- Counters that are read: lengths, totals, prefixes. -/
import Derived.Test.YtooppkpaahmnhaaDwn
import Derived.Deep.QuietTactic
import Derived.BigQuiet
import Derived.Deep.RegionWith
import Derived.Deep.RegionHeld3
import Derived.Sort.CutIn
import Derived.IntWalk
namespace Go.Proofs.Ytooppkpaahmnhaa
open Go.RowKit Go.Shelf
attribute [local go_sem] Oper.semAt_some

theorem wpIn_noPanic {F : Fence} {n : Nat} {P : Program} {c : Code} {Q : Exit → Act → World → Prop} {a : Act} {w : World} (h : c.wpIn F n P (NoPanic Q) a w) : c.wpIn F n P Q a w := wpIn_mono h NoPanic.imp

theorem own_blk {N b T : Nat} {A B : World} {row : Option Nat} {cs : Array Value} (h : Blk A b cs T) (hg : A.grownBy B row) (hr : ∀ r, row = some r → N ≤ r ∧ ∃ o : Obj, A.heap[r]? = some o ∧ o.isCells = false) (hb : b < N) : Blk B b cs T :=
  (hg.block b h.lt (fun e => by have := (hr b e.symm).1; omega)).trans h

/-- a table's own cells -/
abbrev Hd (cv : Option Addr) (n cc : Nat) (nv : Option Addr) (nc : Nat) (tot : Int) : Array Value := #[.bool true, .slice cv n cc, .slice nv (n + 1) nc, .int .i64 tot]

theorem len_nil (w : World) : Calls Try.prog 26 #[.pointer none] w fun e w' => e = .returned (.int .i64 0) ∧ w = w' := by
  go_enter Try.func26, Try.ntmps26
  go_wp2
  go_ret
  exact ⟨rfl, rfl⟩
theorem len_yes (c : Nat) (hd : Array Value) (cv : Option Addr) (n cc : Nat) (w : World) (h : Blk w c hd 59) (h1 : hd[1]? = some (.slice cv n cc)) : Calls Try.prog 26 #[.pointer (some ⟨c, 0, none⟩)] w fun e w' => e = .returned (.int .i64 (n : Int)) ∧ w = w' := by
  have c1 := h.cell 1 h1
  clear h h1
  go_enter Try.func26, Try.ntmps26
  go_wp2
  go_ret
  exact ⟨rfl, rfl⟩

theorem wrap_i64_eq (n : Int) : IntKind.i64.wrap n = wrap64 n := Go.IntWalk.i64_left n
theorem wrap_add (a b : Int) : wrap64 (wrap64 a + b) = wrap64 (a + b) := by unfold wrap64; omega

/-- the sum of nodes, as it wraps -/
def psum {N : Nat} (ns : List Int) (xs : List (Upto N)) : Int := (xs.map fun x => ns[x.1]?.getD 0).sum
theorem psum_snoc {N : Nat} (ns : List Int) (xs : List (Upto N)) (x : Upto N) : psum ns (xs ++ [x]) = psum ns xs + ns[x.1]?.getD 0 := by simp [psum]

theorem psum_ps {N : Nat} {ns : List Int} {xs : List (Upto N)} {ps : List Nat} (h : xs.map (·.1) = ps) : psum ns xs = (ps.map fun j => ns[j]?.getD 0).sum := by
  subst h; simp [psum, Function.comp_def]

def clipN (k : Int) (n : Nat) : Nat := (min k (n : Int)).toNat

set_option maxRecDepth 100000 in
set_option maxHeartbeats 4000000 in
theorem prefix_low (c n nb cc nc : Nat) (cv : Option Addr) (tot k : Int) (ns : List Int) (ps : List Nat) (w : World) (_hn : n ≤ 65536) (hc : Blk w c (Hd cv n cc (some ⟨nb, 0, none⟩) nc tot) 59)
    (hnb : nb < w.heap.size) (hns : ∀ j, j ≤ n → w.cell? ⟨nb, j, none⟩ = some (.int .i64 (ns[j]?.getD 0))) (hz : k ≤ (n : Int))
    (hit : ∀ W B m, 1 ≤ m → Blk W B #[.int .i64 k] 3 → Iter Fence.wide m Try.prog 39 #[.pointer (some ⟨B, 0, none⟩)] (encU (N := n)) (· = B) B (fun xs => xs.map (·.1) = ps) W) :
    Calls Try.prog 15 #[.pointer (some ⟨c, 0, none⟩), .int .i64 k] w fun e w' => e = .returned (.int .i64 (wrap64 ((ps.map fun j => ns[j]?.getD 0).sum))) ∧ Below w.heap.size w w' := by
  refine (callsIn_wide (n := 9)).1 ?_
  have hcl := hc.lt
  have b2 := Blk.new w #[.pointer (some ⟨c, 0, none⟩)] 24
  have b2' := b2.alloc (.cells #[.int .i64 0] 2)
  have b5 := Blk.new (w.alloc (.cells #[.pointer (some ⟨c, 0, none⟩)] 24)) #[.int .i64 0] 2
  rw [World.size_alloc] at b5
  have hc2 := (hc.alloc (.cells #[.pointer (some ⟨c, 0, none⟩)] 24)).alloc (.cells #[.int .i64 0] 2)
  have hbl : Below w.heap.size w ((w.alloc (.cells #[.pointer (some ⟨c, 0, none⟩)] 24)).alloc (.cells #[.int .i64 0] 2)) := bel_alloc (bel_alloc (Below.refl _ _) _) _
  have hsz : ((w.alloc (.cells #[.pointer (some ⟨c, 0, none⟩)] 24)).alloc (.cells #[.int .i64 0] 2)).heap.size = w.heap.size + 2 := by simp
  refine callsIn_of_wp_marks Try.func15 rfl trivial ?_ rfl
  simp only [Try.ntmps15, List.size_toArray, List.length_cons, List.length_nil, Nat.reduceAdd, Nat.reduceSub, Array.replicate_succ, Array.replicate_zero, List.push_toArray, List.append_toArray, List.nil_append, List.cons_append]
  gi_wp2_with fail
  generalize (w.alloc (.cells #[.pointer (some ⟨c, 0, none⟩)] 24)).alloc (.cells #[.int .i64 0] 2) = W at *
  have t2 := b2'.cell 0 (v := .pointer (some ⟨c, 0, none⟩)) rfl
  have H2 := Lib.hid b2'
  have H5 := Lib.hid b5
  have HC := Lib.hid hc2
  have HN := Lib.hid hns
  have HCd := Lib.hid (p := Blk W.drew c (Hd cv n cc (some ⟨nb, 0, none⟩) nc tot) 59) hc2
  have HI := Lib.hid hit
  have HS := Lib.hid hsz
  have HW0 := Lib.hid hc
  clear b2 b2' b5 hc hc2 hns hit hsz
  gi_cut [12] from 7 (fun s12 wx => s12 = .func (.func 39) #[] #[.pointer (some ⟨W.heap.size, 0, none⟩)] ∧ wx = (W.alloc (.cells #[.int .i64 k] 3)).drew)
  case first =>
    refine wpIn_noPanic ?_
    gi_region_with (first
      | (refine ⟨trivial, ?_⟩; gi_at_call 26; refine (callsIn_wide.2 (len_yes c _ cv n cc W.drew HCd.out rfl)).mono ?_; rintro e w1 ⟨rfl, rfl⟩)
      | (refine ⟨trivial, ?_⟩; gi_at_call 28; refine (callsIn_wide.2 (callsIn_wide.1 (down_any _ _ _))).mono ?_; rintro e w1 ⟨rfl, rfl⟩))
    all_goals refine NoPanic.normal ?_
    all_goals (gi_wp2_with fail; gi_meet; exact ⟨rfl, rfl⟩)
  case rest =>
    obtain ⟨rfl, rfl⟩ := hcut
    gi_wp2_with fail
    have hB3 : Blk (W.alloc (.cells #[.int .i64 k] 3)).drew W.heap.size #[.int .i64 k] 3 := Blk.new W #[.int .i64 k] 3
    have hB5 : Blk (W.alloc (.cells #[.int .i64 k] 3)).drew (w.heap.size + 1) #[.int .i64 0] 2 := H5.out.alloc _
    have hB2 : Blk (W.alloc (.cells #[.int .i64 k] 3)).drew w.heap.size #[.pointer (some ⟨c, 0, none⟩)] 24 := H2.out.alloc _
    have hV : Below w.heap.size w (W.alloc (.cells #[.int .i64 k] 3)).drew := bel_drew (bel_alloc hbl _)
    have hVs : (W.alloc (.cells #[.int .i64 k] 3)).drew.heap.size = w.heap.size + 3 := by have := HS.out; show (W.alloc _).heap.size = _; simp; omega
    generalize (W.alloc (.cells #[.int .i64 k] 3)).drew = V at *
    have HV := Lib.hid hVs
    clear hVs
    have hB5' : Blk V (w.heap.size + 1) #[.int .i64 (wrap64 (psum ns ([] : List (Upto n))))] 2 := by rw [show wrap64 (psum ns ([] : List (Upto n))) = 0 by simp [psum, wrap64]]; exact hB5
    have hc0 : Blk w c (Hd cv n cc (some ⟨nb, 0, none⟩) nc tot) 59 := HW0.out
    refine wpIn_iter (F := Fence.wide) rfl (by omega) (gf := 39) (lb := #[.pointer (some ⟨W.heap.size, 0, none⟩)]) rfl trivial (enters_of Try.func39 (by kernel_rfl) rfl) (HI.out V W.heap.size _ (by omega) hB3)
      (fun b e => by have := HS.out; have := HV.out; rw [e]; omega) (by have := HS.out; have := HV.out; omega) (fun _ => rfl)
      (fun pre V' => Blk V' (w.heap.size + 1) #[.int .i64 (wrap64 (psum ns pre))] 2 ∧ Blk V' w.heap.size #[.pointer (some ⟨c, 0, none⟩)] 24 ∧ Below w.heap.size w V')
      ?own ?ownB ⟨hB5', hB2, hV⟩
      (fun x => { tmps := #[.pointer (some ⟨c, 0, none⟩), .int .i64 k, .pointer (some ⟨w.heap.size, 0, none⟩), undef, .int .i64 0, .pointer (some ⟨w.heap.size + 1, 0, none⟩), .int .i64 (x.1 : Int),
        u7, u8, u9, u10, u11, .func (.func 39) #[] #[.pointer (some ⟨W.heap.size, 0, none⟩)], .int .i64 (x.1 : Int),
        u14, u15, u16, u17, u18, u19, u20, u21, u22, u23], defers := [] }) ?assign ?body ?done
    case own =>
      intro s A B row hs hg hr
      have h1 := HS.out
      have h2 := HV.out
      exact ⟨own_blk hs.1 hg hr (by omega), own_blk hs.2.1 hg hr (by omega), hs.2.2.grown hg hs.2.2.size (fun k e => by have := (hr k e).1; omega)⟩
    case ownB =>
      intro pre A v hs
      have h1 := HS.out
      have h2 := HV.out
      exact ⟨hs.1.other (by show _ ≠ W.heap.size; omega) _, hs.2.1.other (by show _ ≠ W.heap.size; omega) _, hs.2.2.setCell (p := ⟨W.heap.size, 0, none⟩) (by show _ ≤ W.heap.size; omega) _⟩
    case assign =>
      intro l x A K hK
      dsimp only [encU]
      gi_wp2
      exact hK
    case body =>
      rintro l pre x A ⟨h5, h2, hA⟩
      have q2 := h2.cell 0 (v := .pointer (some ⟨c, 0, none⟩)) rfl
      have q5 := h5.cell 0 (v := .int .i64 (wrap64 (psum ns pre))) rfl
      have f5 := h5.frozen 0
      have qc := (hc0.below hA hcl).cell 2 (v := .slice (some ⟨nb, 0, none⟩) (n + 1) nc) rfl
      have qn := (hA.cell (p := ⟨nb, x.1, none⟩) hnb).trans (HN.out x.1 x.2)
      have hx1 := x.2
      have hx2 : (x.1 : Int) < (n : Int) + 1 := by omega
      have hw := wrap_add (psum ns pre) (ns[x.1]?.getD 0)
      rw [← psum_snoc] at hw
      have HW1 := Lib.hid hw
      have h5' := Lib.hid h5
      have h2' := Lib.hid h2
      have hA' := Lib.hid hA
      clear hw h5 h2 hA
      gi_wp2_with fail
      gi_region_with (fail)
      all_goals
        refine ⟨((KeepsOthers.setCell _ _ _).trans (KeepsOthers.drew _)).from _, fun b e => ?_, ?_, ?_, ?_⟩
        · have h1 := HS.out
          subst e
          show (A.setCell _ _).heap[_]? = _
          exact Below.heap_setCell _ _ _ _ (by show _ ≠ w.heap.size + 1; omega)
        · have := h5'.out.set 0 (.int .i64 (wrap64 (psum ns (pre ++ [x]))))
          rw [wrap_i64_eq, HW1.out]
          exact this
        · exact (h2'.out.other (by show _ ≠ w.heap.size + 1; omega) _)
        · exact bel_drew (bel_set hA'.out (by omega) _)
    case done =>
      rintro D xs A hD hS ⟨h5, h2, hA⟩ hK
      have q5 := h5.cell 0 (v := .int .i64 (wrap64 (psum ns xs))) rfl
      gi_wp2
      refine ⟨by simp, .inl ⟨_, _, rfl, run_takeDeferred hK, ?_⟩⟩
      have hlt := (Array.getElem?_eq_some_iff.1 hK).1
      refine ⟨_, results_tmp rfl _ _ _, by rw [← psum_ps hS]; rfl, hA.trans (belowK_b (w := w) (Nat.le_refl _) A D _ _ (by have := HV.out; omega) hK rfl rfl)⟩

set_option maxRecDepth 100000 in
set_option maxHeartbeats 4000000 in
theorem prefix_high (c n nb cc nc : Nat) (cv : Option Addr) (tot k : Int) (ns : List Int) (ps : List Nat) (w : World) (_hn : n ≤ 65536) (hc : Blk w c (Hd cv n cc (some ⟨nb, 0, none⟩) nc tot) 59)
    (hnb : nb < w.heap.size) (hns : ∀ j, j ≤ n → w.cell? ⟨nb, j, none⟩ = some (.int .i64 (ns[j]?.getD 0))) (hz : (n : Int) < k)
    (hit : ∀ W B m, 1 ≤ m → Blk W B #[.int .i64 (n : Int)] 3 → Iter Fence.wide m Try.prog 39 #[.pointer (some ⟨B, 0, none⟩)] (encU (N := n)) (· = B) B (fun xs => xs.map (·.1) = ps) W) :
    Calls Try.prog 15 #[.pointer (some ⟨c, 0, none⟩), .int .i64 k] w fun e w' => e = .returned (.int .i64 (wrap64 ((ps.map fun j => ns[j]?.getD 0).sum))) ∧ Below w.heap.size w w' := by
  refine (callsIn_wide (n := 9)).1 ?_
  have hcl := hc.lt
  have b2 := Blk.new w #[.pointer (some ⟨c, 0, none⟩)] 24
  have b2' := b2.alloc (.cells #[.int .i64 0] 2)
  have b5 := Blk.new (w.alloc (.cells #[.pointer (some ⟨c, 0, none⟩)] 24)) #[.int .i64 0] 2
  rw [World.size_alloc] at b5
  have hc2 := (hc.alloc (.cells #[.pointer (some ⟨c, 0, none⟩)] 24)).alloc (.cells #[.int .i64 0] 2)
  have hbl : Below w.heap.size w ((w.alloc (.cells #[.pointer (some ⟨c, 0, none⟩)] 24)).alloc (.cells #[.int .i64 0] 2)) := bel_alloc (bel_alloc (Below.refl _ _) _) _
  have hsz : ((w.alloc (.cells #[.pointer (some ⟨c, 0, none⟩)] 24)).alloc (.cells #[.int .i64 0] 2)).heap.size = w.heap.size + 2 := by simp
  refine callsIn_of_wp_marks Try.func15 rfl trivial ?_ rfl
  simp only [Try.ntmps15, List.size_toArray, List.length_cons, List.length_nil, Nat.reduceAdd, Nat.reduceSub, Array.replicate_succ, Array.replicate_zero, List.push_toArray, List.append_toArray, List.nil_append, List.cons_append]
  gi_wp2_with fail
  generalize (w.alloc (.cells #[.pointer (some ⟨c, 0, none⟩)] 24)).alloc (.cells #[.int .i64 0] 2) = W at *
  have t2 := b2'.cell 0 (v := .pointer (some ⟨c, 0, none⟩)) rfl
  have H2 := Lib.hid b2'
  have H5 := Lib.hid b5
  have HC := Lib.hid hc2
  have HN := Lib.hid hns
  have HCd := Lib.hid (p := Blk W.drew c (Hd cv n cc (some ⟨nb, 0, none⟩) nc tot) 59) hc2
  have HI := Lib.hid hit
  have HS := Lib.hid hsz
  have HW0 := Lib.hid hc
  clear b2 b2' b5 hc hc2 hns hit hsz
  gi_cut [12] from 7 (fun s12 wx => s12 = .func (.func 39) #[] #[.pointer (some ⟨W.heap.size, 0, none⟩)] ∧ wx = (W.alloc (.cells #[.int .i64 (n : Int)] 3)).drew)
  case first =>
    refine wpIn_noPanic ?_
    gi_region_with (first
      | (refine ⟨trivial, ?_⟩; gi_at_call 26; refine (callsIn_wide.2 (len_yes c _ cv n cc W.drew HCd.out rfl)).mono ?_; rintro e w1 ⟨rfl, rfl⟩)
      | (refine ⟨trivial, ?_⟩; gi_at_call 28; refine (callsIn_wide.2 (callsIn_wide.1 (down_any _ _ _))).mono ?_; rintro e w1 ⟨rfl, rfl⟩))
    all_goals refine NoPanic.normal ?_
    all_goals (gi_wp2_with fail; gi_meet; exact ⟨rfl, rfl⟩)
  case rest =>
    obtain ⟨rfl, rfl⟩ := hcut
    gi_wp2_with fail
    have hB3 : Blk (W.alloc (.cells #[.int .i64 (n : Int)] 3)).drew W.heap.size #[.int .i64 (n : Int)] 3 := Blk.new W #[.int .i64 (n : Int)] 3
    have hB5 : Blk (W.alloc (.cells #[.int .i64 (n : Int)] 3)).drew (w.heap.size + 1) #[.int .i64 0] 2 := H5.out.alloc _
    have hB2 : Blk (W.alloc (.cells #[.int .i64 (n : Int)] 3)).drew w.heap.size #[.pointer (some ⟨c, 0, none⟩)] 24 := H2.out.alloc _
    have hV : Below w.heap.size w (W.alloc (.cells #[.int .i64 (n : Int)] 3)).drew := bel_drew (bel_alloc hbl _)
    have hVs : (W.alloc (.cells #[.int .i64 (n : Int)] 3)).drew.heap.size = w.heap.size + 3 := by have := HS.out; show (W.alloc _).heap.size = _; simp; omega
    generalize (W.alloc (.cells #[.int .i64 (n : Int)] 3)).drew = V at *
    have HV := Lib.hid hVs
    clear hVs
    have hB5' : Blk V (w.heap.size + 1) #[.int .i64 (wrap64 (psum ns ([] : List (Upto n))))] 2 := by rw [show wrap64 (psum ns ([] : List (Upto n))) = 0 by simp [psum, wrap64]]; exact hB5
    have hc0 : Blk w c (Hd cv n cc (some ⟨nb, 0, none⟩) nc tot) 59 := HW0.out
    refine wpIn_iter (F := Fence.wide) rfl (by omega) (gf := 39) (lb := #[.pointer (some ⟨W.heap.size, 0, none⟩)]) rfl trivial (enters_of Try.func39 (by kernel_rfl) rfl) (HI.out V W.heap.size _ (by omega) hB3)
      (fun b e => by have := HS.out; have := HV.out; rw [e]; omega) (by have := HS.out; have := HV.out; omega) (fun _ => rfl)
      (fun pre V' => Blk V' (w.heap.size + 1) #[.int .i64 (wrap64 (psum ns pre))] 2 ∧ Blk V' w.heap.size #[.pointer (some ⟨c, 0, none⟩)] 24 ∧ Below w.heap.size w V')
      ?own ?ownB ⟨hB5', hB2, hV⟩
      (fun x => { tmps := #[.pointer (some ⟨c, 0, none⟩), .int .i64 k, .pointer (some ⟨w.heap.size, 0, none⟩), undef, .int .i64 0, .pointer (some ⟨w.heap.size + 1, 0, none⟩), .int .i64 (x.1 : Int),
        u7, u8, u9, u10, u11, .func (.func 39) #[] #[.pointer (some ⟨W.heap.size, 0, none⟩)], .int .i64 (x.1 : Int),
        u14, u15, u16, u17, u18, u19, u20, u21, u22, u23], defers := [] }) ?assign ?body ?done
    case own =>
      intro s A B row hs hg hr
      have h1 := HS.out
      have h2 := HV.out
      exact ⟨own_blk hs.1 hg hr (by omega), own_blk hs.2.1 hg hr (by omega), hs.2.2.grown hg hs.2.2.size (fun k e => by have := (hr k e).1; omega)⟩
    case ownB =>
      intro pre A v hs
      have h1 := HS.out
      have h2 := HV.out
      exact ⟨hs.1.other (by show _ ≠ W.heap.size; omega) _, hs.2.1.other (by show _ ≠ W.heap.size; omega) _, hs.2.2.setCell (p := ⟨W.heap.size, 0, none⟩) (by show _ ≤ W.heap.size; omega) _⟩
    case assign =>
      intro l x A K hK
      dsimp only [encU]
      gi_wp2
      exact hK
    case body =>
      rintro l pre x A ⟨h5, h2, hA⟩
      have q2 := h2.cell 0 (v := .pointer (some ⟨c, 0, none⟩)) rfl
      have q5 := h5.cell 0 (v := .int .i64 (wrap64 (psum ns pre))) rfl
      have f5 := h5.frozen 0
      have qc := (hc0.below hA hcl).cell 2 (v := .slice (some ⟨nb, 0, none⟩) (n + 1) nc) rfl
      have qn := (hA.cell (p := ⟨nb, x.1, none⟩) hnb).trans (HN.out x.1 x.2)
      have hx1 := x.2
      have hx2 : (x.1 : Int) < (n : Int) + 1 := by omega
      have hw := wrap_add (psum ns pre) (ns[x.1]?.getD 0)
      rw [← psum_snoc] at hw
      have HW1 := Lib.hid hw
      have h5' := Lib.hid h5
      have h2' := Lib.hid h2
      have hA' := Lib.hid hA
      clear hw h5 h2 hA
      gi_wp2_with fail
      gi_region_with (fail)
      all_goals
        refine ⟨((KeepsOthers.setCell _ _ _).trans (KeepsOthers.drew _)).from _, fun b e => ?_, ?_, ?_, ?_⟩
        · have h1 := HS.out
          subst e
          show (A.setCell _ _).heap[_]? = _
          exact Below.heap_setCell _ _ _ _ (by show _ ≠ w.heap.size + 1; omega)
        · have := h5'.out.set 0 (.int .i64 (wrap64 (psum ns (pre ++ [x]))))
          rw [wrap_i64_eq, HW1.out]
          exact this
        · exact (h2'.out.other (by show _ ≠ w.heap.size + 1; omega) _)
        · exact bel_drew (bel_set hA'.out (by omega) _)
    case done =>
      rintro D xs A hD hS ⟨h5, h2, hA⟩ hK
      have q5 := h5.cell 0 (v := .int .i64 (wrap64 (psum ns xs))) rfl
      gi_wp2
      refine ⟨by simp, .inl ⟨_, _, rfl, run_takeDeferred hK, ?_⟩⟩
      have hlt := (Array.getElem?_eq_some_iff.1 hK).1
      refine ⟨_, results_tmp rfl _ _ _, by rw [← psum_ps hS]; rfl, hA.trans (belowK_b (w := w) (Nat.le_refl _) A D _ _ (by have := HV.out; omega) hK rfl rfl)⟩

end Go.Proofs.Ytooppkpaahmnhaa
