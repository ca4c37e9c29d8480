/- MsortSorts: the walk. -/
import Derived.Test.YtcejgnnkjomjlaaUni
namespace Go.Proofs.Ytcejgnnkjomjlaa
open Go.RowKit Go.Proofs.YtcejgnnkjomjlaaW.PrintWords

theorem RdI.hop {w w' : World} {a : Option Addr} {n : Nat} {l : List Int} (h : RdI w.heap.size w a n l) (hb : Below w.heap.size w w') : RdI w'.heap.size w' a n l := (h.below hb).mono hb.size

theorem permK_length (k : Int) (l : List R4) (h : l.length ≤ 70000) : (permK k l).length ≤ 70000 := by
  unfold permK
  split
  · rw [(isort_perm _).length_eq, idxs_length]; exact h
  · simp
set_option maxHeartbeats 8000000 in
theorem msortsorts_walk (w : World) (a : Option Addr) (n cap : Nat) (l : List R4) (k : Int) (hn : l.length = n) (hV : VR w (.slice a n cap) l) :
    Calls Try.prog 4 #[.slice a n cap, .int .i64 k] w fun e w' => e = .returned (.bool true) ∧ Below w.heap.size w w' := by
  have hB := Lib.hid (Below.refl w.heap.size w)
  by_cases h200 : 200 < n
  · have hd : decide ((200 : Int) < (n : Int)) = true := decide_eq_true (by omega)
    clear hn hV
    go_enter Try.func4, Try.ntmps4
    go_wp2_with fail
    go_ret
    exact ⟨rfl, hB.out⟩
  have hd : decide ((200 : Int) < (n : Int)) = false := decide_eq_false (by omega)
  have hm : l.length ≤ 70000 := by omega
  obtain ⟨E, hE⟩ : ∃ E, errK l.length k = E := ⟨_, rfl⟩
  replace hV := Lib.hid hV
  replace hn := Lib.hid hn
  go_enter Try.func4, Try.ntmps4
  go_wp2_with fail
  refine (copied_uni _ _ l hm hV.out).mono ?_
  rintro e w1 ⟨⟨vin, rfl, hI⟩, hb1⟩
  replace hV := Lib.hid (hV.out.below hb1)
  replace hI := Lib.hid hI
  replace hB := Lib.hid (bel_trans hB.out hb1)
  clear hb1
  go_wp2_with fail
  refine (sort_uni _ _ l k hI.out).mono ?_
  rintro e w2 ⟨⟨va, rfl, hA⟩, hb2⟩
  replace hV := Lib.hid (hV.out.below hb2)
  replace hI := Lib.hid (hI.out.below hb2)
  replace hA := Lib.hid hA
  replace hB := Lib.hid (bel_trans hB.out hb2)
  clear hb2
  go_wp2_with fail
  refine (rsort_uni _ _ l k hm hV.out).mono ?_
  rintro e w3 ⟨⟨vb, rfl, hC⟩, hb3⟩
  replace hV := Lib.hid (hV.out.below hb3)
  replace hI := Lib.hid (hI.out.below hb3)
  replace hA := Lib.hid (hA.out.below hb3)
  replace hC := Lib.hid hC
  replace hB := Lib.hid (bel_trans hB.out hb3)
  clear hb3
  go_wp2_with fail
  refine (perm_uni _ _ l k hI.out).mono ?_
  rintro e w4 ⟨⟨vp, rfl, hP⟩, hb4⟩
  replace hV := Lib.hid (hV.out.below hb4)
  replace hI := Lib.hid (hI.out.below hb4)
  replace hA := Lib.hid (hA.out.below hb4)
  replace hC := Lib.hid (hC.out.below hb4)
  replace hP := Lib.hid hP
  replace hB := Lib.hid (bel_trans hB.out hb4)
  clear hb4
  go_wp2_with fail
  refine (rperm_uni _ _ l k hm hV.out).mono ?_
  rintro e w5 ⟨⟨vq, rfl, hQ⟩, hb5⟩
  replace hV := Lib.hid (hV.out.below hb5)
  replace hI := Lib.hid (hI.out.below hb5)
  replace hA := Lib.hid (hA.out.below hb5)
  replace hC := Lib.hid (hC.out.below hb5)
  replace hP := Lib.hid (hP.out.below hb5)
  replace hQ := Lib.hid hQ
  replace hB := Lib.hid (bel_trans hB.out hb5)
  clear hb5
  rw [hE]
  obtain ⟨P, hPe⟩ : ∃ P, permK k l = P := ⟨_, rfl⟩
  have hPl := permK_length k l hm
  rw [hPe] at hP hQ hPl
  clear hPe
  obtain ⟨ap, cp, rfl, hcp, hrp⟩ := hP.out
  obtain ⟨aq, cq, rfl, hcq, hrq⟩ := hQ.out
  clear hP hQ
  replace hrp := Lib.hid hrp
  replace hrq := Lib.hid hrq
  obtain ⟨m, hmP⟩ : ∃ m, P.length = m := ⟨_, rfl⟩
  rw [hmP] at hrp hrq hcp hcq hPl ⊢
  have hee : (E != E) = false := by simp
  have hmm : ((m : Int) != (m : Int)) = false := by simp
  go_wp2_with fail
  refine (same_uni _ _ _ (sortK k l) (sortK_length k l hm) hA.out hC.out).mono ?_
  rintro e w6 ⟨rfl, hb6⟩
  have hbl := hb6
  replace hV := Lib.hid (hV.out.below hb6)
  replace hI := Lib.hid (hI.out.below hb6)
  replace hA := Lib.hid (hA.out.below hb6)
  replace hC := Lib.hid (hC.out.below hb6)
  replace hB := Lib.hid (bel_trans hB.out hb6)
  clear hb6
  replace hrp := Lib.hid (hrp.out.hop hbl)
  replace hrq := Lib.hid (hrq.out.hop hbl)
  clear hbl
  go_wp2_with fail
  refine (same_uni _ _ _ l hm hI.out hV.out).mono ?_
  rintro e w7 ⟨rfl, hb7⟩
  have hbl := hb7
  replace hV := Lib.hid (hV.out.below hb7)
  replace hI := Lib.hid (hI.out.below hb7)
  replace hA := Lib.hid (hA.out.below hb7)
  replace hC := Lib.hid (hC.out.below hb7)
  replace hB := Lib.hid (bel_trans hB.out hb7)
  clear hb7
  replace hrp := Lib.hid (hrp.out.hop hbl)
  replace hrq := Lib.hid (hrq.out.hop hbl)
  clear hbl
  clear hV hA hC hI hee hmm hE
  go_wp2_with fail
  go_loopw [14] (fun v71 wr => ∃ q : Nat, v71 = .int .i64 (q : Int) ∧ q ≤ m ∧ RdI wr.heap.size wr ap m P ∧ RdI wr.heap.size wr aq m P ∧ Below w.heap.size w wr) (fun v71 _ => m - (intOf v71).toNat)
  case atStart => exact ⟨0, rfl, by omega, hrp.out, hrq.out, hB.out⟩
  case round =>
    clear hrp hrq hB
    obtain ⟨q, rfl, hq, hrp, hrq, hB⟩ := hrel
    replace hB := Lib.hid hB
    by_cases hlt : q < m
    · have hd2 : decide ((q : Int) < (m : Int)) = true := decide_eq_true (by omega)
      obtain ⟨z, hz⟩ : ∃ z, P[q]? = some z := ⟨_, List.getElem?_eq_getElem (by rw [hrp.1]; exact hlt)⟩
      obtain ⟨b1, o1, rfl, _, c1⟩ := hrp.2 (by omega)
      obtain ⟨b2, o2, rfl, _, c2⟩ := hrq.2 (by omega)
      have d1 := c1 q z hz
      have d2 := c2 q z hz
      have hzz : (z != z) = false := by simp
      replace hrp := Lib.hid hrp
      replace hrq := Lib.hid hrq
      clear hz c1 c2
      go_wp2_with fail
      go_quiet (fail)
      go_wp2_with fail
      go_roundw
      case rel => exact ⟨q + 1, by go_num, by omega, hrp.out.hop (bel_drewN (Below.refl _ _) _), hrq.out.hop (bel_drewN (Below.refl _ _) _), bel_drewN hB.out _⟩
      case measure => simp [intOf]; omega
    · have hd2 : decide ((q : Int) < (m : Int)) = false := decide_eq_false (by omega)
      clear hrp hrq
      go_wp2_with fail
      refine (works_any _).mono ?_
      rintro e w9 ⟨rfl, hb9⟩
      replace hb9 := Lib.hid (bel_trans hB.out hb9)
      go_wp2_with fail
      go_ret
      exact ⟨rfl, hb9.out⟩

theorem open_recs {w : World} {G : Nat → Nat → Int} {a : Option Addr} {len cap : Nat} (hc : len ≤ cap) (h : RT w.heap.size w recK a len G) : ∃ l, l.length = len ∧ VR w (.slice a len cap) l := by
  refine ⟨recs len G, recs_length len G, a, cap, by rw [recs_length], by rw [recs_length]; exact hc, by rw [recs_length]; exact h.rd⟩
theorem msortsorts_row (w : World) (a : Option Addr) (len cap : Nat) (G : Nat → Nat → Int) (hc : len ≤ cap) (_hm : cap ≤ maxLen) (h : RT w.heap.size w recK a len G) (k : Int) (_hk : (Lit.int .i64 k).wf = true) :
    Calls Try.prog 4 #[.slice a len cap, .int .i64 k] w fun e w' => e = .returned (.bool true) ∧ Below w.heap.size w w' := by
  obtain ⟨l, hl, hv⟩ := open_recs hc h
  exact msortsorts_walk w a len cap l k hl hv
end Go.Proofs.Ytcejgnnkjomjlaa
