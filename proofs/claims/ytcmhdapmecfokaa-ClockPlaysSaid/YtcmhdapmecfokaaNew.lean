/- Clocks of the program and of the document agree; the walk of ClockNews. -/
import Derived.Test.YtcmhdapmecfokaaRu
import Derived.Test.YtcmhdapmecfokaaNil
namespace Go.Proofs.Ytcmhdapmecfokaa
open Go.RowKit

set_option maxHeartbeats 1000000 in
theorem agree_nil (t : Int) (w : World) : Calls Try.prog 19 #[.pointer none, .pointer none, .int .i64 t] w fun e w' => e = .returned (.bool true) ∧ w = w' := by
  have HV := Lib.hid (valid_nil w)
  go_enter Try.func19, Try.ntmps19
  go_wp2_with fail
  refine (expiry_nil _ t _ HV).mono ?_
  rintro e w' ⟨rfl, rfl⟩
  go_wp2_with fail
  refine (rexpiry_nil t _).mono ?_
  rintro e w' ⟨rfl, rfl⟩
  go_wp2_with fail
  refine (now_nil _ _ HV).mono ?_
  rintro e w' ⟨rfl, rfl⟩
  go_wp2_with fail
  refine (rnow_nil _).mono ?_
  rintro e w' ⟨rfl, rfl⟩
  go_wp2_with fail
  refine (window_nil _ _ HV).mono ?_
  rintro e w' ⟨rfl, rfl⟩
  go_wp2_with fail
  refine (rwindow_nil _).mono ?_
  rintro e w' ⟨rfl, rfl⟩
  go_wp2_with fail
  refine (live_nil _ t _ HV).mono ?_
  rintro e w' ⟨rfl, rfl⟩
  go_wp2_with fail
  refine (rlive_nil t _).mono ?_
  rintro e w' ⟨rfl, rfl⟩
  go_wp2_with fail
  refine (check_nil _ t _ HV).mono ?_
  rintro e w' ⟨rfl, rfl⟩
  go_wp2_with fail
  refine (rcheck_nil t _).mono ?_
  rintro e w' ⟨rfl, rfl⟩
  go_wp2
  go_ret
  exact ⟨rfl, rfl⟩

set_option maxHeartbeats 2000000 in
theorem agree_yes (b d : Nat) (s now t : Int) (w : World) (hs : 0 < s ∧ s ≤ 9223372036854775807) (hn : 0 ≤ now ∧ now + s ≤ 9223372036854775807) (ht : -9223372036854775808 ≤ t ∧ t ≤ 9223372036854775807)
    (h : CK w b s now) (k : RK w d s now) : Calls Try.prog 19 #[.pointer (some ⟨b, 0, none⟩), .pointer (some ⟨d, 0, none⟩), .int .i64 t] w fun e w' => e = .returned (.bool true) ∧ Below w.heap.size w w' := by
  have hl := h.lt
  have kl := k.lt
  obtain ⟨x1, X1⟩ : ∃ x, xpy s t = x := ⟨_, rfl⟩
  obtain ⟨x2, X2⟩ : ∃ x, xpe s t = x := ⟨_, rfl⟩
  obtain ⟨x3, X3⟩ : ∃ x, liv s now t = x := ⟨_, rfl⟩
  obtain ⟨x4, X4⟩ : ∃ x, chk s now t = x := ⟨_, rfl⟩
  have p1 := fun W (h : CK W b s now) => k_expiry b s now t W hs ht h
  have p2 := fun W (h : CK W b s now) => k_live b s now t W hs ht h
  have p3 := fun W (h : CK W b s now) => k_check b s now t W hs ht h
  have r1 := fun W (h : RK W d s now) => rexpiry_yes d s now t W hs ht h
  have r2 := fun W (h : RK W d s now) => rlive_yes d s now t W hs hn ht h
  have r3 := fun W (h : RK W d s now) => rcheck_yes d s now t W hs ht h
  simp only [X1, X2, X3, X4] at p1 p2 p3 r1 r2 r3
  have P1 := Lib.hid p1
  have P2 := Lib.hid p2
  have P3 := Lib.hid p3
  have R1 := Lib.hid r1
  have R2 := Lib.hid r2
  have R3 := Lib.hid r3
  have H := Lib.hid h
  have K := Lib.hid k
  clear p1 p2 p3 r1 r2 r3 X1 X2 X3 X4 h k
  go_enter Try.func19, Try.ntmps19
  go_wp2_with fail
  refine (P1.out _ H.out).mono ?_
  rintro e w' ⟨rfl, rfl⟩
  go_wp2_with fail
  refine (R1.out _ K.out).mono ?_
  rintro e w1 ⟨rfl, hb1⟩
  have H1 := Lib.hid (H.out.below hb1 hl)
  have K1 := Lib.hid (K.out.below hb1 kl)
  go_wp2_with fail
  refine (k_now b s now _ hs H1.out).mono ?_
  rintro e w' ⟨rfl, rfl⟩
  go_wp2_with fail
  refine (rnow_yes d s now _ K1.out).mono ?_
  rintro e w' ⟨rfl, rfl⟩
  go_wp2_with fail
  refine (k_window b s now _ hs H1.out).mono ?_
  rintro e w' ⟨rfl, rfl⟩
  go_wp2_with fail
  refine (rwindow_yes d s now _ K1.out).mono ?_
  rintro e w' ⟨rfl, rfl⟩
  go_wp2_with fail
  refine (P2.out _ H1.out).mono ?_
  rintro e w' ⟨rfl, rfl⟩
  go_wp2_with fail
  refine (R2.out _ K1.out).mono ?_
  rintro e w2 ⟨rfl, hb2⟩
  have H2 := Lib.hid (H1.out.below hb2 H1.out.lt)
  have K2 := Lib.hid (K1.out.below hb2 K1.out.lt)
  go_wp2_with fail
  refine (P3.out _ H2.out).mono ?_
  rintro e w' ⟨rfl, rfl⟩
  go_wp2_with fail
  refine (R3.out _ K2.out).mono ?_
  rintro e w3 ⟨rfl, hb3⟩
  go_wp2
  go_ret
  exact ⟨rfl, bel_trans (bel_trans hb1 hb2) hb3⟩

set_option maxHeartbeats 1000000 in
/-- ClockNews returns true at every input; nothing that existed has changed. -/
theorem news_walk (w : World) (n : Int) (w0 : (Lit.int .i64 n).wf = true) (t : Int) (w1 : (Lit.int .i64 t).wf = true) : Calls Try.prog 6 #[.int .i64 n, .int .i64 t] w fun e w' => e = .returned (.bool true) ∧ Below w.heap.size w w' := by
  have hn := bounds_i64 w0
  have ht := bounds_i64 w1
  clear w0 w1
  by_cases h : n < 1
  · go_enter Try.func6, Try.ntmps6
    go_wp2_with fail
    refine (new_no n _ h).mono ?_
    rintro e w' ⟨rfl, rfl⟩
    go_wp2_with fail
    refine (rnew_no n _ h).mono ?_
    rintro e w' ⟨rfl, rfl⟩
    go_wp2_with fail
    refine (agree_nil t _).mono ?_
    rintro e w' ⟨rfl, rfl⟩
    go_wp2_with fail
    refine (works_any _).mono ?_
    rintro e w' ⟨rfl, hb⟩
    go_wp2
    go_ret
    exact ⟨rfl, hb⟩
  · go_enter Try.func6, Try.ntmps6
    go_wp2_with fail
    refine (k_new n _ (by omega)).mono ?_
    rintro e w1 ⟨B, rfl, hB, _, hb1⟩
    have HB := Lib.hid hB
    clear hB
    go_wp2_with fail
    refine (rnew_yes n _ (by omega)).mono ?_
    rintro e w2 ⟨D, rfl, hD, _, hb2⟩
    have HB2 := Lib.hid (HB.out.below hb2 HB.out.lt)
    have HD := Lib.hid hD
    clear hD
    go_wp2_with fail
    refine (agree_yes B D n 0 t _ ⟨by omega, hn.2⟩ ⟨by omega, by omega⟩ ht HB2.out HD.out).mono ?_
    rintro e w3 ⟨rfl, hb3⟩
    go_wp2_with fail
    refine (works_any _).mono ?_
    rintro e w' ⟨rfl, hb⟩
    go_wp2
    go_ret
    exact ⟨rfl, bel_trans (bel_trans (bel_trans hb1 hb2) hb3) hb⟩

end Go.Proofs.Ytcmhdapmecfokaa
