/- MsortKnown: the walk. -/
import Derived.Test.YtcejgnnkjomjlaaLst
namespace Go.Proofs.Ytcejgnnkjomjlaa
open Go.RowKit

theorem ex_uni (w : World) : Calls Try.prog 28 #[] w fun e w' => (∃ v, e = .returned v ∧ VR w' v ex4) ∧ Below w.heap.size w w' :=
  (example_any w).mono fun e w' h => by
    obtain ⟨⟨a, c, he, hc, hr⟩, hb⟩ := h
    exact ⟨⟨_, he, a, c, rfl, hc, hr⟩, hb⟩
def s4 : List R4 := [⟨7, 8, -1, 3⟩, ⟨3, 4, 2, 1⟩, ⟨1, 2, 5, 0⟩, ⟨5, 6, 5, 2⟩]
theorem x_err : errK ex4.length 1 = 0 := by decide
theorem x_sort : sortK 1 ex4 = s4 := by
  unfold sortK
  rw [if_pos x_err]
  rfl
theorem x_less1 : lessB 3 ⟨2, 1, 0, 0⟩ ⟨1, 2, 9, 9⟩ = false := by decide
theorem x_less2 : lessB 3 ⟨1, 2, 9, 9⟩ ⟨3, 1, 0, 0⟩ = true := by decide
theorem x_errL : errL 3 = 0 := by decide
def n9 : R4 := ⟨9, 9, 2, 0⟩
theorem x_errM : errM 1 s4 [n9] = 0 := by decide
theorem x_mrg : mrgK 1 s4 [n9] = [⟨7, 8, -1, 3⟩, ⟨3, 4, 2, 1⟩, n9, ⟨1, 2, 5, 0⟩, ⟨5, 6, 5, 2⟩] := by
  unfold mrgK
  rw [if_pos x_errM, mrg_sorted (weak_key 1) (by decide) (by decide)]
  rfl
theorem x_err8 : errM 1 (ex4.take 2) [] = 8 := by decide
theorem x_err2 : errM 4 (ex4.take 2) [] = 2 := by decide

theorem vr_of_blk {w : World} {g n : Nat} {l : List R4} (h : Blk w g (RwR l #[]) 24) (hn : l.length = n) : VR w (.slice (some ⟨g, 0, none⟩) n n) l := by
  subst hn
  have hm : MadeR 0 w (.slice (some ⟨g, 0, none⟩) l.length l.length) l := ⟨_, _, rfl, Nat.le_refl _, fun _ => ⟨g, #[], rfl, Nat.zero_le _, h⟩⟩
  exact hm.rd
theorem vr_one (w : World) : VR (w.alloc (.cells #[.int .u64 9, .int .u64 9, .int .i64 2, .int .i64 0] 24)) (.slice (some ⟨w.heap.size, 0, none⟩) 1 1) [n9] :=
  vr_of_blk (l := [n9]) (Blk.new w _ 24) rfl
theorem vr_long (w : World) (L : List R4) (hL : L.length = 65537) : VR (w.alloc (.cells (RwR L #[]) 24)) (.slice (some ⟨w.heap.size, 0, none⟩) 65537 65537) L :=
  vr_of_blk (Blk.new w _ 24) hL
theorem vr_tail {w : World} {D : Nat} {L : List R4} (h : VR w (.slice (some ⟨D, 0, none⟩) 65537 65537) L) (hL : L.length = 65537) : VR w (.slice (some ⟨D, 4, none⟩) 65536 65536) (L.drop 1) := by
  have := h.drop (i := 1) hL (by omega)
  rw [if_neg (by omega), Option.map_some, add_none] at this
  exact this
theorem errK_fine {n : Nat} {k : Int} (h : n ≤ 65536) (hk : 1 ≤ k ∧ k ≤ 3) : errK n k = 0 := by
  unfold errK
  rw [if_pos hk, if_neg (by omega)]
theorem errK_long {n : Nat} {k : Int} (h : 65536 < n) (hk : 1 ≤ k ∧ k ≤ 3) : errK n k = 16 := by
  unfold errK
  rw [if_pos hk, if_pos h]
theorem errK_bad {n : Nat} {k : Int} (hk : ¬ (1 ≤ k ∧ k ≤ 3)) : errK n k = 2 := by
  unfold errK
  rw [if_neg hk]
theorem tail_long (D : Nat) (W : World) : (Instr.slice 31 (.slice (some ⟨D, 0, none⟩) 65537 65537) (some (.int .i64 1)) none none).run Try.prog W = .ok (.slice (some ⟨D, 4, none⟩) 65536 65536) W := by
  have := slice_tail (len := 65537) (cap := 65537) (by omega) D 0 W
  rw [if_neg (by omega)] at this
  exact this
theorem head_long (D : Nat) (W : World) : (Instr.slice 31 (.slice (some ⟨D, 0, none⟩) 65537 65537) none (some (.int .i64 1)) none).run Try.prog W = .ok (.slice (some ⟨D, 0, none⟩) 1 65537) W :=
  slice_to (some ⟨D, 0, none⟩) 65537 65537 1 (by omega) W

set_option maxRecDepth 100000 in
set_option maxHeartbeats 32000000 in
theorem msortknown_walk (w : World) : Calls Try.prog 11 #[] w fun e w' => e = .returned (.bool true) ∧ Below w.heap.size w w' := by
  have hB := Lib.hid (Below.refl w.heap.size w)
  have hmk0 : ∀ W, (Instr.makeSlice 31 (.int .i64 65537) (.int .i64 65537)).run Try.prog W = .ok (.slice (some ⟨W.heap.size, 0, none⟩) 65537 65537) (W.alloc (.cells (RwR (List.replicate 65537 R4.zero) #[]) 24)) := fun W => make_rec 65537 (by omega) W
  obtain ⟨L, hmk, hLl⟩ : ∃ L : List R4, (∀ W, (Instr.makeSlice 31 (.int .i64 65537) (.int .i64 65537)).run Try.prog W = .ok (.slice (some ⟨W.heap.size, 0, none⟩) 65537 65537) (W.alloc (.cells (RwR L #[]) 24))) ∧ L.length = 65537 := ⟨_, hmk0, List.length_replicate⟩
  clear hmk0
  have hst := tail_long
  have hsh := head_long
  replace hLl := Lib.hid hLl
  go_enter Try.func11, Try.ntmps11
  go_wp2_with fail
  refine (ex_uni _).mono ?_
  rintro e w1 ⟨⟨vx, rfl, hX⟩, hb1⟩
  replace hX := Lib.hid hX
  replace hB := Lib.hid (bel_trans hB.out hb1)
  clear hb1
  go_wp2_with fail
  refine (sort_uni _ _ ex4 1 hX.out).mono ?_
  rintro e w2 ⟨⟨v1, rfl, hS⟩, hb2⟩
  replace hX := Lib.hid (hX.out.below hb2)
  replace hS := Lib.hid hS
  replace hB := Lib.hid (bel_trans hB.out hb2)
  clear hb2
  rw [x_err]
  rw [x_sort] at hS
  clear hX
  have hS0 := hS.out
  obtain ⟨aS, cS, rfl, hcS, -⟩ := hS0
  go_wp2_with fail
  refine (less_any ⟨2, 1, 0, 0⟩ ⟨1, 2, 9, 9⟩ 3 _).mono ?_
  rintro e w3 ⟨rfl, hb3⟩
  replace hS := Lib.hid (hS.out.below hb3)
  replace hB := Lib.hid (bel_trans hB.out hb3)
  clear hb3
  rw [x_less1, x_errL]
  go_wp2_with fail
  refine (less_any ⟨1, 2, 9, 9⟩ ⟨3, 1, 0, 0⟩ 3 _).mono ?_
  rintro e w4 ⟨rfl, hb4⟩
  replace hS := Lib.hid (hS.out.below hb4)
  replace hB := Lib.hid (bel_trans hB.out hb4)
  clear hb4
  rw [x_less2, x_errL]
  obtain ⟨bS, oS, e0, s0, -⟩ := hS.out.cells (i := 0) (x := ⟨7, 8, -1, 3⟩) rfl
  subst e0
  obtain ⟨b', o', e1, s1, -⟩ := hS.out.cells (i := 1) (x := ⟨3, 4, 2, 1⟩) rfl
  injection e1 with e1; injection e1 with f1 f2; subst f1; subst f2
  obtain ⟨b', o', e1, s2, -⟩ := hS.out.cells (i := 2) (x := ⟨1, 2, 5, 0⟩) rfl
  injection e1 with e1; injection e1 with f1 f2; subst f1; subst f2
  obtain ⟨b', o', e1, s3, -⟩ := hS.out.cells (i := 3) (x := ⟨5, 6, 5, 2⟩) rfl
  injection e1 with e1; injection e1 with f1 f2; subst f1; subst f2
  simp only [Nat.zero_mul, Nat.one_mul, Nat.add_zero, show 2 * 4 = 8 from rfl, show 3 * 4 = 12 from rfl] at s0 s1 s2 s3
  go_wp2_with fail
  refine (merge_uni _ _ _ s4 [n9] 1 ⟨by decide, by decide⟩ (hS.out.below (below1 _ _)) (vr_one _)).mono ?_
  rintro e w5 ⟨⟨vm, rfl, hM⟩, hb5⟩
  rw [x_errM]
  rw [x_mrg] at hM
  replace hB := Lib.hid (bel_trans (bel_alloc hB.out _) hb5)
  clear hb5 hS s0 s1 s2 s3 hcS
  obtain ⟨aM, cM, rfl, hcM, -⟩ := id hM
  obtain ⟨bM, oM, e0, -⟩ := hM.cells (i := 0) (x := ⟨7, 8, -1, 3⟩) rfl
  subst e0
  obtain ⟨b', o', e1, s1, -⟩ := hM.cells (i := 1) (x := ⟨3, 4, 2, 1⟩) rfl
  injection e1 with e1; injection e1 with f1 f2; subst f1; subst f2
  obtain ⟨b', o', e1, s2, -⟩ := hM.cells (i := 2) (x := n9) rfl
  injection e1 with e1; injection e1 with f1 f2; subst f1; subst f2
  obtain ⟨b', o', e1, s3, -⟩ := hM.cells (i := 3) (x := ⟨1, 2, 5, 0⟩) rfl
  injection e1 with e1; injection e1 with f1 f2; subst f1; subst f2
  simp only [Nat.one_mul, show 2 * 4 = 8 from rfl, show 3 * 4 = 12 from rfl, n9] at s1 s2 s3
  clear hM hcM
  go_wp2_with fail
  refine (example_any _).mono ?_
  rintro e w6 ⟨⟨ax, cx, rfl, hcx, hrx⟩, hb6⟩
  have hX : VR w6 (.slice ax 4 cx) ex4 := ⟨ax, cx, rfl, hcx, hrx⟩
  have hT := Lib.hid (hX.take (i := 2) rfl (by omega))
  have hsl : ∀ W, (Instr.slice 31 (.slice ax 4 cx) none (some (.int .i64 2)) none).run Try.prog W = .ok (.slice ax 2 cx) W := slice_to ax 4 cx 2 (by omega)
  replace hB := Lib.hid (bel_trans hB.out hb6)
  clear hb6 hX hrx s1 s2 s3
  go_wp2_with fail
  refine (merge_uni _ _ _ (ex4.take 2) [] 1 ⟨by decide, by decide⟩ hT.out (VR.nil _)).mono ?_
  rintro e w7 ⟨⟨vn, rfl, -⟩, hb7⟩
  rw [x_err8]
  replace hB := Lib.hid (bel_trans hB.out hb7)
  clear hb7 hT hsl hcx
  go_wp2_with fail
  refine (example_any _).mono ?_
  rintro e w8 ⟨⟨ay, cy, rfl, hcy, hry⟩, hb8⟩
  have hX : VR w8 (.slice ay 4 cy) ex4 := ⟨ay, cy, rfl, hcy, hry⟩
  have hT := Lib.hid (hX.take (i := 2) rfl (by omega))
  have hsl : ∀ W, (Instr.slice 31 (.slice ay 4 cy) none (some (.int .i64 2)) none).run Try.prog W = .ok (.slice ay 2 cy) W := slice_to ay 4 cy 2 (by omega)
  replace hB := Lib.hid (bel_trans hB.out hb8)
  clear hb8 hX hry
  go_wp2_with fail
  refine (merge_uni _ _ _ (ex4.take 2) [] 4 ⟨by decide, by decide⟩ hT.out (VR.nil _)).mono ?_
  rintro e w9 ⟨⟨vo, rfl, -⟩, hb9⟩
  rw [x_err2]
  replace hB := Lib.hid (bel_trans hB.out hb9)
  clear hb9 hT hsl hcy
  go_wp2_with fail
  have hLV := vr_long w9 L hLl.out
  replace hB := Lib.hid (bel_alloc hB.out (.cells (RwR L #[]) 24))
  generalize w9.alloc (.cells (RwR L #[]) 24) = U at *
  generalize w9.heap.size = D at *
  replace hLV := Lib.hid hLV
  have hLT := Lib.hid (vr_tail hLV.out hLl.out)
  clear hmk
  refine (sort_uni _ _ (L.drop 1) 2 hLT.out).mono ?_
  rintro e w10 ⟨⟨vz, rfl, hz⟩, hb10⟩
  rw [errK_fine (by have := hLl.out; rw [List.length_drop]; omega) (by omega)]
  obtain ⟨az, cz, rfl, -, -⟩ := hz
  have hzl : (sortK 2 (L.drop 1)).length = 65536 := by
    have h0 : errK (L.drop 1).length 2 = 0 := errK_fine (by have := hLl.out; rw [List.length_drop]; omega) (by omega)
    unfold sortK; rw [if_pos h0, (isort_perm _).length_eq, List.length_drop, hLl.out]
  rw [hzl]
  clear hzl
  replace hLV := Lib.hid (hLV.out.below hb10)
  replace hLT := Lib.hid (hLT.out.below hb10)
  replace hB := Lib.hid (bel_trans hB.out hb10)
  clear hb10
  go_wp2_with fail
  refine (sort_uni _ _ L 2 hLV.out).mono ?_
  rintro e w11 ⟨⟨va, rfl, -⟩, hb11⟩
  rw [errK_long (by have := hLl.out; omega) (by omega)]
  replace hLV := Lib.hid (hLV.out.below hb11)
  replace hLT := Lib.hid (hLT.out.below hb11)
  replace hB := Lib.hid (bel_trans hB.out hb11)
  clear hb11
  go_wp2_with fail
  refine (perm_uni _ _ L 0 hLV.out).mono ?_
  rintro e w12 ⟨⟨vb, rfl, -⟩, hb12⟩
  rw [errK_bad (by omega)]
  replace hLV := Lib.hid (hLV.out.below hb12)
  replace hLT := Lib.hid (hLT.out.below hb12)
  replace hB := Lib.hid (bel_trans hB.out hb12)
  clear hb12
  have hTK := hLV.out.take (i := 1) hLl.out (by omega)
  have hl1 : (L.drop 1).length = 65536 := by rw [List.length_drop, hLl.out]
  have hl2 : (L.take 1).length = 1 := by rw [List.length_take, hLl.out]; omega
  have hEM : errM 3 (L.drop 1) (L.take 1) = 16 := by
    have h0 : errK ((L.drop 1).length + (L.take 1).length) 3 = 16 := errK_long (by omega) (by omega)
    unfold errM
    rw [h0, if_neg (by omega)]
  have hmc : Calls Try.prog 26 #[.slice (some ⟨D, 4, none⟩) 65536 65536, .slice (some ⟨D, 0, none⟩) 1 65537, .int .i64 3] w12.drew fun e w' => (∃ v', e = .returned (.tuple #[v', .int .i64 16])) ∧ Below w12.heap.size w12 w' := by
    have := merge_uni w12.drew _ _ (L.drop 1) (L.take 1) 3 ⟨by omega, by omega⟩ (hLT.out.below (bel_drew (Below.refl _ _))) (hTK.below (bel_drew (Below.refl _ _)))
    rw [hEM] at this
    exact this.mono fun e w' h => ⟨h.1.imp fun v hv => hv.1, bel_trans (bel_drew (Below.refl _ _)) h.2⟩
  replace hmc := Lib.hid hmc
  clear hTK hl1 hl2 hEM
  go_wp2_with fail
  go_region_with (go_at_call 26; refine hmc.out.mono ?_; rintro e w13 ⟨⟨v13, rfl⟩, hb13⟩; replace hb13 := Lib.hid hb13)
  clear hmc hst hsh
  replace hLV := Lib.hid (hLV.out.below hb13.out)
  replace hB := Lib.hid (bel_trans hB.out hb13.out)
  clear hb13 hLT
  go_wp2_with fail
  refine (srt_uni _ _ L 3 hLV.out).mono ?_
  rintro e w14 ⟨rfl, hb14⟩
  rw [errK_long (by have := hLl.out; omega) (by omega)]
  replace hLV := Lib.hid (hLV.out.below hb14)
  replace hB := Lib.hid (bel_trans hB.out hb14)
  clear hb14
  go_wp2_with fail
  refine (invs_uni _ _ L 3 hLV.out).mono ?_
  rintro e w15 ⟨rfl, hb15⟩
  rw [errK_long (by have := hLl.out; omega) (by omega)]
  replace hB := Lib.hid (bel_trans hB.out hb15)
  clear hb15 hLV
  go_wp2_with fail
  refine (works_any _).mono ?_
  rintro e w16 ⟨rfl, hb16⟩
  replace hB := Lib.hid (bel_trans hB.out hb16)
  clear hb16
  go_wp2_with fail
  go_ret
  exact ⟨rfl, hB.out⟩
theorem msortknown_row (w : World) : Calls Try.prog 11 #[] w fun e w' => e = .returned (.bool true) ∧ Below w.heap.size w w' := msortknown_walk w
end Go.Proofs.Ytcejgnnkjomjlaa
