/- MsortMerges: the walk. -/
import Derived.Test.YtcejgnnkjomjlaaLch
namespace Go.Proofs.Ytcejgnnkjomjlaa
open Go.RowKit

theorem sortK_len (k : Int) (l : List R4) {n : Nat} (h : l.length ≤ n) : (sortK k l).length ≤ n := by
  unfold sortK
  split
  · rw [(isort_perm _).length_eq]; exact h
  · simp

set_option maxHeartbeats 8000000 in
theorem msortmerges_not (w : World) (a : Option Addr) (n cap : Nat) (A : List R4) (hn : A.length = n) (hV1 : VR w (.slice a n cap) A) (b : Option Addr) (m cb : Nat) (B : List R4) (hmB : B.length = m) (hV2 : VR w (.slice b m cb) B) (k : Int) (h1 : ¬ 100 < n) (h2 : ¬ 100 < m) :
    Calls Try.prog 8 #[.slice a n cap, .slice b m cb, .int .i64 k, .bool false] w fun e w' => e = .returned (.bool true) ∧ Below w.heap.size w w' := by
  have hB := Lib.hid (Below.refl w.heap.size w)
  have hd : decide ((100 : Int) < (n : Int)) = false := decide_eq_false (by omega)
  have hd2 : decide ((100 : Int) < (m : Int)) = false := decide_eq_false (by omega)
  have hA00 : A.length ≤ 100 := by omega
  have hB00 : B.length ≤ 100 := by omega
  have hA : A.length ≤ 70000 := by omega
  have hA0 : A.length ≤ 100 := by omega
  have hB0 : B.length ≤ 70000 := by omega
  replace hV1 := Lib.hid hV1
  replace hV2 := Lib.hid hV2
  replace hn := Lib.hid hn
  replace hmB := Lib.hid hmB
  clear h1 h2
  go_enter Try.func8, Try.ntmps8
  go_wp2_with fail
  refine (copied_uni _ _ A hA hV1.out).mono ?_
  rintro e w1 ⟨⟨vx, rfl, hX⟩, hb1⟩
  replace hV1 := Lib.hid (hV1.out.below hb1)
  replace hV2 := Lib.hid (hV2.out.below hb1)
  replace hX := Lib.hid hX
  replace hB := Lib.hid (bel_trans hB.out hb1)
  clear hb1
  go_wp2_with fail
  refine (copied_uni _ _ B hB0 hV2.out).mono ?_
  rintro e w2 ⟨⟨vy, rfl, hY⟩, hb2⟩
  replace hV1 := Lib.hid (hV1.out.below hb2)
  replace hV2 := Lib.hid (hV2.out.below hb2)
  replace hX := Lib.hid (hX.out.below hb2)
  replace hY := Lib.hid hY
  replace hB := Lib.hid (bel_trans hB.out hb2)
  clear hb2
  clear hV1 hV2
  go_wp2_with fail
  refine (copied_uni _ _ A hA hX.out).mono ?_
  rintro e w1 ⟨⟨vu, rfl, hU⟩, hb1⟩
  replace hX := Lib.hid (hX.out.below hb1)
  replace hY := Lib.hid (hY.out.below hb1)
  replace hU := Lib.hid hU
  replace hB := Lib.hid (bel_trans hB.out hb1)
  clear hb1
  go_wp2_with fail
  refine (copied_uni _ _ B hB0 hY.out).mono ?_
  rintro e w2 ⟨⟨vv, rfl, hW⟩, hb2⟩
  replace hX := Lib.hid (hX.out.below hb2)
  replace hY := Lib.hid (hY.out.below hb2)
  replace hU := Lib.hid (hU.out.below hb2)
  replace hW := Lib.hid hW
  replace hB := Lib.hid (bel_trans hB.out hb2)
  clear hb2
  go_wp2_with fail
  refine (merge_uni _ _ _ A B k ⟨hA, hB0⟩ hX.out hY.out).mono ?_
  rintro e w3 ⟨⟨vm, rfl, hM⟩, hb3⟩
  replace hX := Lib.hid (hX.out.below hb3)
  replace hY := Lib.hid (hY.out.below hb3)
  replace hU := Lib.hid (hU.out.below hb3)
  replace hW := Lib.hid (hW.out.below hb3)
  replace hM := Lib.hid hM
  replace hB := Lib.hid (bel_trans hB.out hb3)
  clear hb3
  go_wp2_with fail
  refine (rmerge_uni _ _ _ A B k ⟨hA, hB0⟩ hU.out hW.out).mono ?_
  rintro e w4 ⟨⟨vr, rfl, hR⟩, hb4⟩
  replace hX := Lib.hid (hX.out.below hb4)
  replace hY := Lib.hid (hY.out.below hb4)
  replace hU := Lib.hid (hU.out.below hb4)
  replace hW := Lib.hid (hW.out.below hb4)
  replace hM := Lib.hid (hM.out.below hb4)
  replace hR := Lib.hid hR
  replace hB := Lib.hid (bel_trans hB.out hb4)
  clear hb4
  obtain ⟨EM, hEM⟩ : ∃ E, errM k A B = E := ⟨_, rfl⟩
  rw [hEM]
  clear hEM
  have h2 : (EM == EM) = true := by simp
  go_wp2_with fail
  refine (same_uni _ _ _ (mrgK k A B) (Nat.le_trans (mrgK_length k A B) (by have := hA0; have := hB00; omega)) hM.out hR.out).mono ?_
  rintro e w5 ⟨rfl, hb5⟩
  replace hX := Lib.hid (hX.out.below hb5)
  replace hY := Lib.hid (hY.out.below hb5)
  replace hU := Lib.hid (hU.out.below hb5)
  replace hW := Lib.hid (hW.out.below hb5)
  replace hM := Lib.hid (hM.out.below hb5)
  replace hR := Lib.hid (hR.out.below hb5)
  replace hB := Lib.hid (bel_trans hB.out hb5)
  clear hb5
  go_wp2_with fail
  refine (same_uni _ _ _ A hA hX.out hU.out).mono ?_
  rintro e w6 ⟨rfl, hb6⟩
  replace hX := Lib.hid (hX.out.below hb6)
  replace hY := Lib.hid (hY.out.below hb6)
  replace hU := Lib.hid (hU.out.below hb6)
  replace hW := Lib.hid (hW.out.below hb6)
  replace hM := Lib.hid (hM.out.below hb6)
  replace hR := Lib.hid (hR.out.below hb6)
  replace hB := Lib.hid (bel_trans hB.out hb6)
  clear hb6
  go_wp2_with fail
  refine (same_uni _ _ _ B hB0 hY.out hW.out).mono ?_
  rintro e w7 ⟨rfl, hb7⟩
  replace hX := Lib.hid (hX.out.below hb7)
  replace hY := Lib.hid (hY.out.below hb7)
  replace hU := Lib.hid (hU.out.below hb7)
  replace hW := Lib.hid (hW.out.below hb7)
  replace hM := Lib.hid (hM.out.below hb7)
  replace hR := Lib.hid (hR.out.below hb7)
  replace hB := Lib.hid (bel_trans hB.out hb7)
  clear hb7
  go_wp2_with fail
  refine (works_any _).mono ?_
  rintro e w8 ⟨rfl, hb8⟩
  replace hX := Lib.hid (hX.out.below hb8)
  replace hY := Lib.hid (hY.out.below hb8)
  replace hU := Lib.hid (hU.out.below hb8)
  replace hW := Lib.hid (hW.out.below hb8)
  replace hM := Lib.hid (hM.out.below hb8)
  replace hR := Lib.hid (hR.out.below hb8)
  replace hB := Lib.hid (bel_trans hB.out hb8)
  clear hb8
  go_wp2_with fail
  go_ret
  exact ⟨rfl, hB.out⟩
set_option maxHeartbeats 8000000 in
theorem msortmerges_e1 (w : World) (a : Option Addr) (n cap : Nat) (A : List R4) (hn : A.length = n) (hV1 : VR w (.slice a n cap) A) (b : Option Addr) (m cb : Nat) (B : List R4) (hmB : B.length = m) (hV2 : VR w (.slice b m cb) B) (k : Int) (h1 : ¬ 100 < n) (h2 : ¬ 100 < m) (hE : errK A.length k ≠ 0) :
    Calls Try.prog 8 #[.slice a n cap, .slice b m cb, .int .i64 k, .bool true] w fun e w' => e = .returned (.bool true) ∧ Below w.heap.size w w' := by
  have hB := Lib.hid (Below.refl w.heap.size w)
  have hd : decide ((100 : Int) < (n : Int)) = false := decide_eq_false (by omega)
  have hd2 : decide ((100 : Int) < (m : Int)) = false := decide_eq_false (by omega)
  have hA00 : A.length ≤ 100 := by omega
  have hB00 : B.length ≤ 100 := by omega
  have hA : A.length ≤ 70000 := by omega
  have hA0 : A.length ≤ 100 := by omega
  have hB0 : B.length ≤ 70000 := by omega
  replace hV1 := Lib.hid hV1
  replace hV2 := Lib.hid hV2
  replace hn := Lib.hid hn
  replace hmB := Lib.hid hmB
  clear h1 h2
  have hE1 : (errK A.length k == 0) = false := by simpa using hE
  have hS10 : (sortK k A).length ≤ 100 := sortK_len k A hA0
  have hS20 : (sortK k B).length ≤ 100 := sortK_len k B hB00
  have hS1 : (sortK k A).length ≤ 70000 := by omega
  have hS2 : (sortK k B).length ≤ 70000 := by omega
  obtain ⟨E1, hq1⟩ : ∃ E, errK A.length k = E := ⟨_, rfl⟩
  obtain ⟨E2, hq2⟩ : ∃ E, errK B.length k = E := ⟨_, rfl⟩
  rw [hq1] at hE1 hE
  clear hE
  go_enter Try.func8, Try.ntmps8
  go_wp2_with fail
  refine (copied_uni _ _ A hA hV1.out).mono ?_
  rintro e w1 ⟨⟨vx, rfl, hX⟩, hb1⟩
  replace hV1 := Lib.hid (hV1.out.below hb1)
  replace hV2 := Lib.hid (hV2.out.below hb1)
  replace hX := Lib.hid hX
  replace hB := Lib.hid (bel_trans hB.out hb1)
  clear hb1
  go_wp2_with fail
  refine (copied_uni _ _ B hB0 hV2.out).mono ?_
  rintro e w2 ⟨⟨vy, rfl, hY⟩, hb2⟩
  replace hV1 := Lib.hid (hV1.out.below hb2)
  replace hV2 := Lib.hid (hV2.out.below hb2)
  replace hX := Lib.hid (hX.out.below hb2)
  replace hY := Lib.hid hY
  replace hB := Lib.hid (bel_trans hB.out hb2)
  clear hb2
  go_wp2_with fail
  refine (rsort_uni _ _ A k hA hV1.out).mono ?_
  rw [hq1]; rintro e w11 ⟨⟨vc, rfl, hC⟩, hb11⟩
  replace hV1 := Lib.hid (hV1.out.below hb11)
  replace hV2 := Lib.hid (hV2.out.below hb11)
  replace hX := Lib.hid (hX.out.below hb11)
  replace hY := Lib.hid (hY.out.below hb11)
  replace hC := Lib.hid hC
  replace hB := Lib.hid (bel_trans hB.out hb11)
  clear hb11
  go_wp2_with fail
  refine (rsort_uni _ _ B k hB0 hV2.out).mono ?_
  rw [hq2]; rintro e w12 ⟨⟨vd, rfl, hD⟩, hb12⟩
  replace hV1 := Lib.hid (hV1.out.below hb12)
  replace hV2 := Lib.hid (hV2.out.below hb12)
  replace hX := Lib.hid (hX.out.below hb12)
  replace hY := Lib.hid (hY.out.below hb12)
  replace hC := Lib.hid (hC.out.below hb12)
  replace hD := Lib.hid hD
  replace hB := Lib.hid (bel_trans hB.out hb12)
  clear hb12
  clear hV1 hV2
  go_wp2_with fail
  refine (copied_uni _ _ A hA hX.out).mono ?_
  rintro e w1 ⟨⟨vu, rfl, hU⟩, hb1⟩
  replace hX := Lib.hid (hX.out.below hb1)
  replace hY := Lib.hid (hY.out.below hb1)
  replace hU := Lib.hid hU
  replace hB := Lib.hid (bel_trans hB.out hb1)
  clear hb1
  go_wp2_with fail
  refine (copied_uni _ _ B hB0 hY.out).mono ?_
  rintro e w2 ⟨⟨vv, rfl, hW⟩, hb2⟩
  replace hX := Lib.hid (hX.out.below hb2)
  replace hY := Lib.hid (hY.out.below hb2)
  replace hU := Lib.hid (hU.out.below hb2)
  replace hW := Lib.hid hW
  replace hB := Lib.hid (bel_trans hB.out hb2)
  clear hb2
  go_wp2_with fail
  refine (merge_uni _ _ _ A B k ⟨hA, hB0⟩ hX.out hY.out).mono ?_
  rintro e w3 ⟨⟨vm, rfl, hM⟩, hb3⟩
  replace hX := Lib.hid (hX.out.below hb3)
  replace hY := Lib.hid (hY.out.below hb3)
  replace hU := Lib.hid (hU.out.below hb3)
  replace hW := Lib.hid (hW.out.below hb3)
  replace hM := Lib.hid hM
  replace hB := Lib.hid (bel_trans hB.out hb3)
  clear hb3
  go_wp2_with fail
  refine (rmerge_uni _ _ _ A B k ⟨hA, hB0⟩ hU.out hW.out).mono ?_
  rintro e w4 ⟨⟨vr, rfl, hR⟩, hb4⟩
  replace hX := Lib.hid (hX.out.below hb4)
  replace hY := Lib.hid (hY.out.below hb4)
  replace hU := Lib.hid (hU.out.below hb4)
  replace hW := Lib.hid (hW.out.below hb4)
  replace hM := Lib.hid (hM.out.below hb4)
  replace hR := Lib.hid hR
  replace hB := Lib.hid (bel_trans hB.out hb4)
  clear hb4
  obtain ⟨EM, hEM⟩ : ∃ E, errM k A B = E := ⟨_, rfl⟩
  rw [hEM]
  clear hEM
  have h2 : (EM == EM) = true := by simp
  go_wp2_with fail
  refine (same_uni _ _ _ (mrgK k A B) (Nat.le_trans (mrgK_length k A B) (by have := hA0; have := hB00; omega)) hM.out hR.out).mono ?_
  rintro e w5 ⟨rfl, hb5⟩
  replace hX := Lib.hid (hX.out.below hb5)
  replace hY := Lib.hid (hY.out.below hb5)
  replace hU := Lib.hid (hU.out.below hb5)
  replace hW := Lib.hid (hW.out.below hb5)
  replace hM := Lib.hid (hM.out.below hb5)
  replace hR := Lib.hid (hR.out.below hb5)
  replace hB := Lib.hid (bel_trans hB.out hb5)
  clear hb5
  go_wp2_with fail
  refine (same_uni _ _ _ A hA hX.out hU.out).mono ?_
  rintro e w6 ⟨rfl, hb6⟩
  replace hX := Lib.hid (hX.out.below hb6)
  replace hY := Lib.hid (hY.out.below hb6)
  replace hU := Lib.hid (hU.out.below hb6)
  replace hW := Lib.hid (hW.out.below hb6)
  replace hM := Lib.hid (hM.out.below hb6)
  replace hR := Lib.hid (hR.out.below hb6)
  replace hB := Lib.hid (bel_trans hB.out hb6)
  clear hb6
  go_wp2_with fail
  refine (same_uni _ _ _ B hB0 hY.out hW.out).mono ?_
  rintro e w7 ⟨rfl, hb7⟩
  replace hX := Lib.hid (hX.out.below hb7)
  replace hY := Lib.hid (hY.out.below hb7)
  replace hU := Lib.hid (hU.out.below hb7)
  replace hW := Lib.hid (hW.out.below hb7)
  replace hM := Lib.hid (hM.out.below hb7)
  replace hR := Lib.hid (hR.out.below hb7)
  replace hB := Lib.hid (bel_trans hB.out hb7)
  clear hb7
  go_wp2_with fail
  refine (works_any _).mono ?_
  rintro e w8 ⟨rfl, hb8⟩
  replace hX := Lib.hid (hX.out.below hb8)
  replace hY := Lib.hid (hY.out.below hb8)
  replace hU := Lib.hid (hU.out.below hb8)
  replace hW := Lib.hid (hW.out.below hb8)
  replace hM := Lib.hid (hM.out.below hb8)
  replace hR := Lib.hid (hR.out.below hb8)
  replace hB := Lib.hid (bel_trans hB.out hb8)
  clear hb8
  go_wp2_with fail
  go_ret
  exact ⟨rfl, hB.out⟩
set_option maxHeartbeats 8000000 in
theorem msortmerges_e2 (w : World) (a : Option Addr) (n cap : Nat) (A : List R4) (hn : A.length = n) (hV1 : VR w (.slice a n cap) A) (b : Option Addr) (m cb : Nat) (B : List R4) (hmB : B.length = m) (hV2 : VR w (.slice b m cb) B) (k : Int) (h1 : ¬ 100 < n) (h2 : ¬ 100 < m) (hE : errK A.length k = 0) (hE' : errK B.length k ≠ 0) :
    Calls Try.prog 8 #[.slice a n cap, .slice b m cb, .int .i64 k, .bool true] w fun e w' => e = .returned (.bool true) ∧ Below w.heap.size w w' := by
  have hB := Lib.hid (Below.refl w.heap.size w)
  have hd : decide ((100 : Int) < (n : Int)) = false := decide_eq_false (by omega)
  have hd2 : decide ((100 : Int) < (m : Int)) = false := decide_eq_false (by omega)
  have hA00 : A.length ≤ 100 := by omega
  have hB00 : B.length ≤ 100 := by omega
  have hA : A.length ≤ 70000 := by omega
  have hA0 : A.length ≤ 100 := by omega
  have hB0 : B.length ≤ 70000 := by omega
  replace hV1 := Lib.hid hV1
  replace hV2 := Lib.hid hV2
  replace hn := Lib.hid hn
  replace hmB := Lib.hid hmB
  clear h1 h2
  have hE1 : (errK A.length k == 0) = true := by simpa using hE
  have hE2 : (errK B.length k == 0) = false := by simpa using hE'
  have hS10 : (sortK k A).length ≤ 100 := sortK_len k A hA0
  have hS20 : (sortK k B).length ≤ 100 := sortK_len k B hB00
  have hS1 : (sortK k A).length ≤ 70000 := by omega
  have hS2 : (sortK k B).length ≤ 70000 := by omega
  obtain ⟨E1, hq1⟩ : ∃ E, errK A.length k = E := ⟨_, rfl⟩
  obtain ⟨E2, hq2⟩ : ∃ E, errK B.length k = E := ⟨_, rfl⟩
  rw [hq1] at hE1 hE
  rw [hq2] at hE2 hE'
  clear hE hE'
  go_enter Try.func8, Try.ntmps8
  go_wp2_with fail
  refine (copied_uni _ _ A hA hV1.out).mono ?_
  rintro e w1 ⟨⟨vx, rfl, hX⟩, hb1⟩
  replace hV1 := Lib.hid (hV1.out.below hb1)
  replace hV2 := Lib.hid (hV2.out.below hb1)
  replace hX := Lib.hid hX
  replace hB := Lib.hid (bel_trans hB.out hb1)
  clear hb1
  go_wp2_with fail
  refine (copied_uni _ _ B hB0 hV2.out).mono ?_
  rintro e w2 ⟨⟨vy, rfl, hY⟩, hb2⟩
  replace hV1 := Lib.hid (hV1.out.below hb2)
  replace hV2 := Lib.hid (hV2.out.below hb2)
  replace hX := Lib.hid (hX.out.below hb2)
  replace hY := Lib.hid hY
  replace hB := Lib.hid (bel_trans hB.out hb2)
  clear hb2
  go_wp2_with fail
  refine (rsort_uni _ _ A k hA hV1.out).mono ?_
  rw [hq1]; rintro e w11 ⟨⟨vc, rfl, hC⟩, hb11⟩
  replace hV1 := Lib.hid (hV1.out.below hb11)
  replace hV2 := Lib.hid (hV2.out.below hb11)
  replace hX := Lib.hid (hX.out.below hb11)
  replace hY := Lib.hid (hY.out.below hb11)
  replace hC := Lib.hid hC
  replace hB := Lib.hid (bel_trans hB.out hb11)
  clear hb11
  go_wp2_with fail
  refine (rsort_uni _ _ B k hB0 hV2.out).mono ?_
  rw [hq2]; rintro e w12 ⟨⟨vd, rfl, hD⟩, hb12⟩
  replace hV1 := Lib.hid (hV1.out.below hb12)
  replace hV2 := Lib.hid (hV2.out.below hb12)
  replace hX := Lib.hid (hX.out.below hb12)
  replace hY := Lib.hid (hY.out.below hb12)
  replace hC := Lib.hid (hC.out.below hb12)
  replace hD := Lib.hid hD
  replace hB := Lib.hid (bel_trans hB.out hb12)
  clear hb12
  clear hV1 hV2
  go_wp2_with fail
  refine (copied_uni _ _ A hA hX.out).mono ?_
  rintro e w1 ⟨⟨vu, rfl, hU⟩, hb1⟩
  replace hX := Lib.hid (hX.out.below hb1)
  replace hY := Lib.hid (hY.out.below hb1)
  replace hU := Lib.hid hU
  replace hB := Lib.hid (bel_trans hB.out hb1)
  clear hb1
  go_wp2_with fail
  refine (copied_uni _ _ B hB0 hY.out).mono ?_
  rintro e w2 ⟨⟨vv, rfl, hW⟩, hb2⟩
  replace hX := Lib.hid (hX.out.below hb2)
  replace hY := Lib.hid (hY.out.below hb2)
  replace hU := Lib.hid (hU.out.below hb2)
  replace hW := Lib.hid hW
  replace hB := Lib.hid (bel_trans hB.out hb2)
  clear hb2
  go_wp2_with fail
  refine (merge_uni _ _ _ A B k ⟨hA, hB0⟩ hX.out hY.out).mono ?_
  rintro e w3 ⟨⟨vm, rfl, hM⟩, hb3⟩
  replace hX := Lib.hid (hX.out.below hb3)
  replace hY := Lib.hid (hY.out.below hb3)
  replace hU := Lib.hid (hU.out.below hb3)
  replace hW := Lib.hid (hW.out.below hb3)
  replace hM := Lib.hid hM
  replace hB := Lib.hid (bel_trans hB.out hb3)
  clear hb3
  go_wp2_with fail
  refine (rmerge_uni _ _ _ A B k ⟨hA, hB0⟩ hU.out hW.out).mono ?_
  rintro e w4 ⟨⟨vr, rfl, hR⟩, hb4⟩
  replace hX := Lib.hid (hX.out.below hb4)
  replace hY := Lib.hid (hY.out.below hb4)
  replace hU := Lib.hid (hU.out.below hb4)
  replace hW := Lib.hid (hW.out.below hb4)
  replace hM := Lib.hid (hM.out.below hb4)
  replace hR := Lib.hid hR
  replace hB := Lib.hid (bel_trans hB.out hb4)
  clear hb4
  obtain ⟨EM, hEM⟩ : ∃ E, errM k A B = E := ⟨_, rfl⟩
  rw [hEM]
  clear hEM
  have h2 : (EM == EM) = true := by simp
  go_wp2_with fail
  refine (same_uni _ _ _ (mrgK k A B) (Nat.le_trans (mrgK_length k A B) (by have := hA0; have := hB00; omega)) hM.out hR.out).mono ?_
  rintro e w5 ⟨rfl, hb5⟩
  replace hX := Lib.hid (hX.out.below hb5)
  replace hY := Lib.hid (hY.out.below hb5)
  replace hU := Lib.hid (hU.out.below hb5)
  replace hW := Lib.hid (hW.out.below hb5)
  replace hM := Lib.hid (hM.out.below hb5)
  replace hR := Lib.hid (hR.out.below hb5)
  replace hB := Lib.hid (bel_trans hB.out hb5)
  clear hb5
  go_wp2_with fail
  refine (same_uni _ _ _ A hA hX.out hU.out).mono ?_
  rintro e w6 ⟨rfl, hb6⟩
  replace hX := Lib.hid (hX.out.below hb6)
  replace hY := Lib.hid (hY.out.below hb6)
  replace hU := Lib.hid (hU.out.below hb6)
  replace hW := Lib.hid (hW.out.below hb6)
  replace hM := Lib.hid (hM.out.below hb6)
  replace hR := Lib.hid (hR.out.below hb6)
  replace hB := Lib.hid (bel_trans hB.out hb6)
  clear hb6
  go_wp2_with fail
  refine (same_uni _ _ _ B hB0 hY.out hW.out).mono ?_
  rintro e w7 ⟨rfl, hb7⟩
  replace hX := Lib.hid (hX.out.below hb7)
  replace hY := Lib.hid (hY.out.below hb7)
  replace hU := Lib.hid (hU.out.below hb7)
  replace hW := Lib.hid (hW.out.below hb7)
  replace hM := Lib.hid (hM.out.below hb7)
  replace hR := Lib.hid (hR.out.below hb7)
  replace hB := Lib.hid (bel_trans hB.out hb7)
  clear hb7
  go_wp2_with fail
  refine (works_any _).mono ?_
  rintro e w8 ⟨rfl, hb8⟩
  replace hX := Lib.hid (hX.out.below hb8)
  replace hY := Lib.hid (hY.out.below hb8)
  replace hU := Lib.hid (hU.out.below hb8)
  replace hW := Lib.hid (hW.out.below hb8)
  replace hM := Lib.hid (hM.out.below hb8)
  replace hR := Lib.hid (hR.out.below hb8)
  replace hB := Lib.hid (bel_trans hB.out hb8)
  clear hb8
  go_wp2_with fail
  go_ret
  exact ⟨rfl, hB.out⟩
set_option maxHeartbeats 8000000 in
theorem msortmerges_ok (w : World) (a : Option Addr) (n cap : Nat) (A : List R4) (hn : A.length = n) (hV1 : VR w (.slice a n cap) A) (b : Option Addr) (m cb : Nat) (B : List R4) (hmB : B.length = m) (hV2 : VR w (.slice b m cb) B) (k : Int) (h1 : ¬ 100 < n) (h2 : ¬ 100 < m) (hE : errK A.length k = 0) (hE' : errK B.length k = 0) :
    Calls Try.prog 8 #[.slice a n cap, .slice b m cb, .int .i64 k, .bool true] w fun e w' => e = .returned (.bool true) ∧ Below w.heap.size w w' := by
  have hB := Lib.hid (Below.refl w.heap.size w)
  have hd : decide ((100 : Int) < (n : Int)) = false := decide_eq_false (by omega)
  have hd2 : decide ((100 : Int) < (m : Int)) = false := decide_eq_false (by omega)
  have hA00 : A.length ≤ 100 := by omega
  have hB00 : B.length ≤ 100 := by omega
  have hA : A.length ≤ 70000 := by omega
  have hA0 : A.length ≤ 100 := by omega
  have hB0 : B.length ≤ 70000 := by omega
  replace hV1 := Lib.hid hV1
  replace hV2 := Lib.hid hV2
  replace hn := Lib.hid hn
  replace hmB := Lib.hid hmB
  clear h1 h2
  have hE1 : (errK A.length k == 0) = true := by simpa using hE
  have hE2 : (errK B.length k == 0) = true := by simpa using hE'
  have hS10 : (sortK k A).length ≤ 100 := sortK_len k A hA0
  have hS20 : (sortK k B).length ≤ 100 := sortK_len k B hB00
  have hS1 : (sortK k A).length ≤ 70000 := by omega
  have hS2 : (sortK k B).length ≤ 70000 := by omega
  obtain ⟨E1, hq1⟩ : ∃ E, errK A.length k = E := ⟨_, rfl⟩
  obtain ⟨E2, hq2⟩ : ∃ E, errK B.length k = E := ⟨_, rfl⟩
  rw [hq1] at hE1 hE
  rw [hq2] at hE2 hE'
  clear hE hE'
  go_enter Try.func8, Try.ntmps8
  go_wp2_with fail
  refine (copied_uni _ _ A hA hV1.out).mono ?_
  rintro e w1 ⟨⟨vx, rfl, hX⟩, hb1⟩
  replace hV1 := Lib.hid (hV1.out.below hb1)
  replace hV2 := Lib.hid (hV2.out.below hb1)
  replace hX := Lib.hid hX
  replace hB := Lib.hid (bel_trans hB.out hb1)
  clear hb1
  go_wp2_with fail
  refine (copied_uni _ _ B hB0 hV2.out).mono ?_
  rintro e w2 ⟨⟨vy, rfl, hY⟩, hb2⟩
  replace hV1 := Lib.hid (hV1.out.below hb2)
  replace hV2 := Lib.hid (hV2.out.below hb2)
  replace hX := Lib.hid (hX.out.below hb2)
  replace hY := Lib.hid hY
  replace hB := Lib.hid (bel_trans hB.out hb2)
  clear hb2
  go_wp2_with fail
  refine (rsort_uni _ _ A k hA hV1.out).mono ?_
  rw [hq1]; rintro e w11 ⟨⟨vc, rfl, hC⟩, hb11⟩
  replace hV1 := Lib.hid (hV1.out.below hb11)
  replace hV2 := Lib.hid (hV2.out.below hb11)
  replace hX := Lib.hid (hX.out.below hb11)
  replace hY := Lib.hid (hY.out.below hb11)
  replace hC := Lib.hid hC
  replace hB := Lib.hid (bel_trans hB.out hb11)
  clear hb11
  go_wp2_with fail
  refine (rsort_uni _ _ B k hB0 hV2.out).mono ?_
  rw [hq2]; rintro e w12 ⟨⟨vd, rfl, hD⟩, hb12⟩
  replace hV1 := Lib.hid (hV1.out.below hb12)
  replace hV2 := Lib.hid (hV2.out.below hb12)
  replace hX := Lib.hid (hX.out.below hb12)
  replace hY := Lib.hid (hY.out.below hb12)
  replace hC := Lib.hid (hC.out.below hb12)
  replace hD := Lib.hid hD
  replace hB := Lib.hid (bel_trans hB.out hb12)
  clear hb12
  clear hV1 hV2
  go_wp2_with fail
  refine (copied_uni _ _ (sortK k A) hS1 hC.out).mono ?_
  rintro e w1 ⟨⟨vu, rfl, hU⟩, hb1⟩
  replace hC := Lib.hid (hC.out.below hb1)
  replace hD := Lib.hid (hD.out.below hb1)
  replace hU := Lib.hid hU
  replace hB := Lib.hid (bel_trans hB.out hb1)
  clear hb1
  go_wp2_with fail
  refine (copied_uni _ _ (sortK k B) hS2 hD.out).mono ?_
  rintro e w2 ⟨⟨vv, rfl, hW⟩, hb2⟩
  replace hC := Lib.hid (hC.out.below hb2)
  replace hD := Lib.hid (hD.out.below hb2)
  replace hU := Lib.hid (hU.out.below hb2)
  replace hW := Lib.hid hW
  replace hB := Lib.hid (bel_trans hB.out hb2)
  clear hb2
  go_wp2_with fail
  refine (merge_uni _ _ _ (sortK k A) (sortK k B) k ⟨hS1, hS2⟩ hC.out hD.out).mono ?_
  rintro e w3 ⟨⟨vm, rfl, hM⟩, hb3⟩
  replace hC := Lib.hid (hC.out.below hb3)
  replace hD := Lib.hid (hD.out.below hb3)
  replace hU := Lib.hid (hU.out.below hb3)
  replace hW := Lib.hid (hW.out.below hb3)
  replace hM := Lib.hid hM
  replace hB := Lib.hid (bel_trans hB.out hb3)
  clear hb3
  go_wp2_with fail
  refine (rmerge_uni _ _ _ (sortK k A) (sortK k B) k ⟨hS1, hS2⟩ hU.out hW.out).mono ?_
  rintro e w4 ⟨⟨vr, rfl, hR⟩, hb4⟩
  replace hC := Lib.hid (hC.out.below hb4)
  replace hD := Lib.hid (hD.out.below hb4)
  replace hU := Lib.hid (hU.out.below hb4)
  replace hW := Lib.hid (hW.out.below hb4)
  replace hM := Lib.hid (hM.out.below hb4)
  replace hR := Lib.hid hR
  replace hB := Lib.hid (bel_trans hB.out hb4)
  clear hb4
  obtain ⟨EM, hEM⟩ : ∃ E, errM k (sortK k A) (sortK k B) = E := ⟨_, rfl⟩
  rw [hEM]
  clear hEM
  have h2 : (EM == EM) = true := by simp
  go_wp2_with fail
  refine (same_uni _ _ _ (mrgK k (sortK k A) (sortK k B)) (Nat.le_trans (mrgK_length k (sortK k A) (sortK k B)) (by have := hS10; have := hS20; omega)) hM.out hR.out).mono ?_
  rintro e w5 ⟨rfl, hb5⟩
  replace hC := Lib.hid (hC.out.below hb5)
  replace hD := Lib.hid (hD.out.below hb5)
  replace hU := Lib.hid (hU.out.below hb5)
  replace hW := Lib.hid (hW.out.below hb5)
  replace hM := Lib.hid (hM.out.below hb5)
  replace hR := Lib.hid (hR.out.below hb5)
  replace hB := Lib.hid (bel_trans hB.out hb5)
  clear hb5
  go_wp2_with fail
  refine (same_uni _ _ _ (sortK k A) hS1 hC.out hU.out).mono ?_
  rintro e w6 ⟨rfl, hb6⟩
  replace hC := Lib.hid (hC.out.below hb6)
  replace hD := Lib.hid (hD.out.below hb6)
  replace hU := Lib.hid (hU.out.below hb6)
  replace hW := Lib.hid (hW.out.below hb6)
  replace hM := Lib.hid (hM.out.below hb6)
  replace hR := Lib.hid (hR.out.below hb6)
  replace hB := Lib.hid (bel_trans hB.out hb6)
  clear hb6
  go_wp2_with fail
  refine (same_uni _ _ _ (sortK k B) hS2 hD.out hW.out).mono ?_
  rintro e w7 ⟨rfl, hb7⟩
  replace hC := Lib.hid (hC.out.below hb7)
  replace hD := Lib.hid (hD.out.below hb7)
  replace hU := Lib.hid (hU.out.below hb7)
  replace hW := Lib.hid (hW.out.below hb7)
  replace hM := Lib.hid (hM.out.below hb7)
  replace hR := Lib.hid (hR.out.below hb7)
  replace hB := Lib.hid (bel_trans hB.out hb7)
  clear hb7
  go_wp2_with fail
  refine (works_any _).mono ?_
  rintro e w8 ⟨rfl, hb8⟩
  replace hC := Lib.hid (hC.out.below hb8)
  replace hD := Lib.hid (hD.out.below hb8)
  replace hU := Lib.hid (hU.out.below hb8)
  replace hW := Lib.hid (hW.out.below hb8)
  replace hM := Lib.hid (hM.out.below hb8)
  replace hR := Lib.hid (hR.out.below hb8)
  replace hB := Lib.hid (bel_trans hB.out hb8)
  clear hb8
  go_wp2_with fail
  go_ret
  exact ⟨rfl, hB.out⟩

theorem msortmerges_big1 (w : World) (a : Option Addr) (n cap : Nat) (b : Option Addr) (m cb : Nat) (k : Int) (q : Bool) (h1 : 100 < n) :
    Calls Try.prog 8 #[.slice a n cap, .slice b m cb, .int .i64 k, .bool q] w fun e w' => e = .returned (.bool true) ∧ Below w.heap.size w w' := by
  have hB := Lib.hid (Below.refl w.heap.size w)
  have hd : decide ((100 : Int) < (n : Int)) = true := decide_eq_true (by omega)
  go_enter Try.func8, Try.ntmps8
  go_wp2_with fail
  go_ret
  exact ⟨rfl, hB.out⟩
theorem msortmerges_big2 (w : World) (a : Option Addr) (n cap : Nat) (b : Option Addr) (m cb : Nat) (k : Int) (q : Bool) (h1 : ¬ 100 < n) (h2 : 100 < m) :
    Calls Try.prog 8 #[.slice a n cap, .slice b m cb, .int .i64 k, .bool q] w fun e w' => e = .returned (.bool true) ∧ Below w.heap.size w w' := by
  have hB := Lib.hid (Below.refl w.heap.size w)
  have hd : decide ((100 : Int) < (n : Int)) = false := decide_eq_false (by omega)
  have hd2 : decide ((100 : Int) < (m : Int)) = true := decide_eq_true (by omega)
  go_enter Try.func8, Try.ntmps8
  go_wp2_with fail
  go_ret
  exact ⟨rfl, hB.out⟩
theorem msortmerges_row (w : World) (a : Option Addr) (len cap : Nat) (G : Nat → Nat → Int) (hc : len ≤ cap) (_hm : cap ≤ maxLen) (h : RT w.heap.size w recK a len G)
    (b : Option Addr) (m cb : Nat) (G2 : Nat → Nat → Int) (hc2 : m ≤ cb) (_hm2 : cb ≤ maxLen) (h' : RT w.heap.size w recK b m G2) (k : Int) (_hk : (Lit.int .i64 k).wf = true) (q : Bool) :
    Calls Try.prog 8 #[.slice a len cap, .slice b m cb, .int .i64 k, .bool q] w fun e w' => e = .returned (.bool true) ∧ Below w.heap.size w w' := by
  by_cases h1 : 100 < len
  · exact msortmerges_big1 w a len cap b m cb k q h1
  by_cases h2 : 100 < m
  · exact msortmerges_big2 w a len cap b m cb k q h1 h2
  obtain ⟨A, hA, hV1⟩ := open_recs hc h
  obtain ⟨B, hB, hV2⟩ := open_recs hc2 h'
  cases q with
  | false => exact msortmerges_not w a len cap A hA hV1 b m cb B hB hV2 k h1 h2
  | true =>
    by_cases hE : errK A.length k = 0
    · by_cases hE' : errK B.length k = 0
      · exact msortmerges_ok w a len cap A hA hV1 b m cb B hB hV2 k h1 h2 hE hE'
      · exact msortmerges_e2 w a len cap A hA hV1 b m cb B hB hV2 k h1 h2 hE hE'
    · exact msortmerges_e1 w a len cap A hA hV1 b m cb B hB hV2 k h1 h2 hE
end Go.Proofs.Ytcejgnnkjomjlaa
