/- FenwickOver: the walk. -/
import Derived.Test.YtooppkpaahmnhaaPlo
namespace Go.Proofs.Ytooppkpaahmnhaa
open Go.RowKit Go.Shelf
attribute [local go_sem] Oper.semAt_some

theorem u8_range {x : Int} (h : (Lit.int .u8 x).wf = true) : 0 ≤ x ∧ x ≤ 255 := by
  have := h
  simp [Lit.wf, IntKind.min, IntKind.max, IntKind.signed, IntKind.bits] at this
  omega
theorem i64_range {x : Int} (h : (Lit.int .i64 x).wf = true) : -9223372036854775808 ≤ x ∧ x ≤ 9223372036854775807 := by
  have := h
  simp [Lit.wf, IntKind.min, IntKind.max, IntKind.signed, IntKind.bits] at this
  omega

set_option maxRecDepth 100000 in
set_option maxHeartbeats 4000000 in
theorem over_walk_neg (w : World) (n i k d : Int) (hn : (Lit.int .u8 n).wf = true) (hi : (Lit.int .u8 i).wf = true) (hk : (Lit.int .u8 k).wf = true) (hd : (Lit.int .i64 d).wf = true) (hneg : d < 0) :
    Calls Try.prog 8 #[.int .u8 n, .int .u8 i, .int .u8 k, .int .i64 d] w fun e w' => e = .returned (.bool true) ∧ Below w.heap.size w w' := by
  obtain ⟨n0, n1⟩ := u8_range hn
  obtain ⟨i0, i1⟩ := u8_range hi
  obtain ⟨k0, k1⟩ := u8_range hk
  obtain ⟨d0, d1⟩ := i64_range hd
  have hdd : decide (d < 0) = true := decide_eq_true hneg
  clear hn hi hk hd
  go_enter Try.func8, Try.ntmps8
  go_wp2_with fail
  obtain ⟨m, hM⟩ := Int.eq_ofNat_of_zero_le (show 0 ≤ 1 + n % 50 by omega)
  have m1 : 1 ≤ m := by omega
  have m2 : m ≤ 50 := by omega
  rw [hM]
  clear hM n0 n1
  refine (new_own m _ (by omega)).mono ?_
  rintro e w1 ⟨c, cb, nb, rfl, o1⟩
  replace o1 := Lib.hid o1
  have m3 : (1 : Int) ≤ (m : Int) := by omega
  go_wp2_with fail
  go_quiet (fail)
  obtain ⟨a, hA⟩ := Int.eq_ofNat_of_zero_le (show 0 ≤ i % (m : Int) from Int.emod_nonneg _ (by omega))
  obtain ⟨b, hB⟩ := Int.eq_ofNat_of_zero_le (show 0 ≤ k % (m : Int) from Int.emod_nonneg _ (by omega))
  have ha : a < m := by have := Int.emod_lt_of_pos i (show (0 : Int) < (m : Int) by omega); omega
  have hb : b < m := by have := Int.emod_lt_of_pos k (show (0 : Int) < (m : Int) by omega); omega
  rw [hA, hB]
  clear hA hB
  go_wp2_with fail
  obtain ⟨D, hD⟩ : ∃ D, -(d + 1) = D := ⟨_, rfl⟩
  have D0 : 0 ≤ D := by omega
  have D1 : D ≤ 9223372036854775807 := by omega
  rw [hD]
  clear hD d0 d1
  obtain ⟨x1, x2, x3, x4, x5, e1, f1, e2, f2, e3, e4, f4, e5, f5, e6, f6, e7, hfd, e8, f8, e9, f9, f10, e10⟩ := over_plain m a b D m2 ha hb D0 D1
  unfold most at *
  replace e1 := Lib.hid e1; replace f1 := Lib.hid f1; replace e2 := Lib.hid e2; replace f2 := Lib.hid f2; replace e3 := Lib.hid e3; replace e4 := Lib.hid e4; replace f4 := Lib.hid f4; replace e5 := Lib.hid e5
  replace f5 := Lib.hid f5; replace e6 := Lib.hid e6; replace f6 := Lib.hid f6; replace e7 := Lib.hid e7; replace hfd := Lib.hid hfd; replace e8 := Lib.hid e8; replace f8 := Lib.hid f8; replace e9 := Lib.hid e9; replace f9 := Lib.hid f9; replace f10 := Lib.hid f10; replace e10 := Lib.hid e10
  refine (add_own (o1.out.keep (bel_drewN (Below.refl _ _) _)) (a : Int) D ⟨by omega, by omega⟩).mono ?_
  rintro e w2 ⟨rfl, o2⟩
  rw [e1.out]; rw [f1.out] at o2
  replace o2 := Lib.hid o2
  go_wp2_with fail
  refine (add_own o2.out (b : Int) _ ⟨by omega, by omega⟩).mono ?_
  rintro e w3 ⟨rfl, o3⟩
  rw [e2.out]; rw [f2.out] at o3
  replace o3 := Lib.hid o3
  go_wp2_with fail
  refine (total_own o3.out).mono ?_
  rintro e w4 ⟨rfl, o4⟩
  rw [e3.out]
  replace o4 := Lib.hid o4
  go_wp2_with fail
  refine (add_own o4.out (a : Int) 1 (by omega)).mono ?_
  rintro e w5 ⟨rfl, o5⟩
  rw [e4.out]; rw [f4.out] at o5
  replace o5 := Lib.hid o5
  go_wp2_with fail
  refine (add_own o5.out (b : Int) _ (by omega)).mono ?_
  rintro e w6 ⟨rfl, o6⟩
  rw [e5.out]; rw [f5.out] at o6
  replace o6 := Lib.hid o6
  go_wp2_with fail
  refine (add_own o6.out (m : Int) 1 (by omega)).mono ?_
  rintro e w7 ⟨rfl, o7⟩
  rw [e6.out]; rw [f6.out] at o7
  replace o7 := Lib.hid o7
  go_wp2_with fail
  refine (total_own o7.out).mono ?_
  rintro e w8 ⟨rfl, o8⟩
  rw [e3.out]
  replace o8 := Lib.hid o8
  go_wp2_with fail
  refine (prefix_own o8.out (m : Int)).mono ?_
  rintro e w9 ⟨rfl, o9⟩
  rw [Int.toNat_natCast, e7.out]
  replace o9 := Lib.hid o9
  go_wp2_with fail
  refine (find_own o9.out _).mono ?_
  rintro e w10 ⟨i10, ok10, rfl, hf10, o10⟩
  replace o10 := Lib.hid o10
  obtain ⟨j, rfl, rfl, hj⟩ : ∃ j : Nat, i10 = (j : Int) ∧ ok10 = true ∧ min a b ≤ j ∧ j ≤ max a b := by
    rcases hf10 with ⟨_, _, h⟩ | ⟨j, h1, h2, _, _, _, h3, h4⟩
    · have := e3.out; omega
    · exact ⟨j, h2, h1, hfd.out j h3 h4⟩
  clear hf10
  have j1 : decide ((j : Int) < min (a : Int) (b : Int)) = false := decide_eq_false (by omega)
  have j2 : decide (max (a : Int) (b : Int) < (j : Int)) = false := decide_eq_false (by omega)
  go_wp2_with fail
  all_goals
    refine (find_own o10.out _).mono ?_
    rintro e w11 ⟨i11, ok11, rfl, hf11, o11⟩
    replace o11 := Lib.hid o11
    obtain ⟨rfl, rfl⟩ := found_no hf11 (.inr (by rw [e3.out]; omega))
    clear hf11
    go_wp2_with fail
    refine (add_own o11.out (a : Int) (-D) ⟨by omega, by omega⟩).mono ?_
    rintro e w12 ⟨rfl, o12⟩
    rw [e8.out]; rw [f8.out] at o12
    replace o12 := Lib.hid o12
    go_wp2_with fail
    refine (add_own o12.out 0 D ⟨by omega, by omega⟩).mono ?_
    rintro e w13 ⟨rfl, o13⟩
    rw [e9.out]; rw [f9.out] at o13
    replace o13 := Lib.hid o13
    go_wp2_with fail
    refine (add_own o13.out 0 (-9223372036854775807) (by omega)).mono ?_
    rintro e w14 ⟨rfl, o14⟩
    rw [f10.out] at o14
    replace o14 := Lib.hid o14
    rcases e10.out with h | ⟨h, hg⟩
    · rw [h]
      clear h
      go_wp2_with fail
      refine (works_any _).mono ?_
      rintro e w15 ⟨rfl, hb15⟩
      replace hb15 := Lib.hid hb15
      go_wp2_with fail
      go_ret
      exact ⟨rfl, bel_trans o14.out.bel hb15.out⟩
    · rw [h]
      clear h
      go_wp2_with fail
      refine (get_own o14.out 0).mono ?_
      rintro e w15 ⟨rfl, o15⟩
      replace o15 := Lib.hid o15
      obtain ⟨g, hgg⟩ : ∃ g, getZ x5 0 = g := ⟨_, rfl⟩
      rw [hgg] at hg ⊢
      clear hgg
      have hgd : (g == (9223372036854775807 : Int)) = false := by simp; omega
      go_wp2_with fail
      refine (works_any _).mono ?_
      rintro e w16 ⟨rfl, hb16⟩
      replace hb16 := Lib.hid hb16
      go_wp2_with fail
      go_ret
      exact ⟨rfl, bel_trans o15.out.bel hb16.out⟩

set_option maxRecDepth 100000 in
set_option maxHeartbeats 4000000 in
theorem over_walk_pos (w : World) (n i k d : Int) (hn : (Lit.int .u8 n).wf = true) (hi : (Lit.int .u8 i).wf = true) (hk : (Lit.int .u8 k).wf = true) (hd : (Lit.int .i64 d).wf = true) (hneg : ¬ d < 0) :
    Calls Try.prog 8 #[.int .u8 n, .int .u8 i, .int .u8 k, .int .i64 d] w fun e w' => e = .returned (.bool true) ∧ Below w.heap.size w w' := by
  obtain ⟨n0, n1⟩ := u8_range hn
  obtain ⟨i0, i1⟩ := u8_range hi
  obtain ⟨k0, k1⟩ := u8_range hk
  obtain ⟨d0, d1⟩ := i64_range hd
  have hdd : decide (d < 0) = false := decide_eq_false hneg
  clear hn hi hk hd
  go_enter Try.func8, Try.ntmps8
  go_wp2_with fail
  obtain ⟨m, hM⟩ := Int.eq_ofNat_of_zero_le (show 0 ≤ 1 + n % 50 by omega)
  have m1 : 1 ≤ m := by omega
  have m2 : m ≤ 50 := by omega
  rw [hM]
  clear hM n0 n1
  refine (new_own m _ (by omega)).mono ?_
  rintro e w1 ⟨c, cb, nb, rfl, o1⟩
  replace o1 := Lib.hid o1
  have m3 : (1 : Int) ≤ (m : Int) := by omega
  go_wp2_with fail
  go_quiet (fail)
  obtain ⟨a, hA⟩ := Int.eq_ofNat_of_zero_le (show 0 ≤ i % (m : Int) from Int.emod_nonneg _ (by omega))
  obtain ⟨b, hB⟩ := Int.eq_ofNat_of_zero_le (show 0 ≤ k % (m : Int) from Int.emod_nonneg _ (by omega))
  have ha : a < m := by have := Int.emod_lt_of_pos i (show (0 : Int) < (m : Int) by omega); omega
  have hb : b < m := by have := Int.emod_lt_of_pos k (show (0 : Int) < (m : Int) by omega); omega
  rw [hA, hB]
  clear hA hB
  go_wp2_with fail
  obtain ⟨D, hD⟩ : ∃ D, d = D := ⟨_, rfl⟩
  have D0 : 0 ≤ D := by omega
  have D1 : D ≤ 9223372036854775807 := by omega
  have hD := hD.symm; subst hD
  
  obtain ⟨x1, x2, x3, x4, x5, e1, f1, e2, f2, e3, e4, f4, e5, f5, e6, f6, e7, hfd, e8, f8, e9, f9, f10, e10⟩ := over_plain m a b D m2 ha hb D0 D1
  unfold most at *
  replace e1 := Lib.hid e1; replace f1 := Lib.hid f1; replace e2 := Lib.hid e2; replace f2 := Lib.hid f2; replace e3 := Lib.hid e3; replace e4 := Lib.hid e4; replace f4 := Lib.hid f4; replace e5 := Lib.hid e5
  replace f5 := Lib.hid f5; replace e6 := Lib.hid e6; replace f6 := Lib.hid f6; replace e7 := Lib.hid e7; replace hfd := Lib.hid hfd; replace e8 := Lib.hid e8; replace f8 := Lib.hid f8; replace e9 := Lib.hid e9; replace f9 := Lib.hid f9; replace f10 := Lib.hid f10; replace e10 := Lib.hid e10
  refine (add_own (o1.out.keep (bel_drewN (Below.refl _ _) _)) (a : Int) D ⟨by omega, by omega⟩).mono ?_
  rintro e w2 ⟨rfl, o2⟩
  rw [e1.out]; rw [f1.out] at o2
  replace o2 := Lib.hid o2
  go_wp2_with fail
  refine (add_own o2.out (b : Int) _ ⟨by omega, by omega⟩).mono ?_
  rintro e w3 ⟨rfl, o3⟩
  rw [e2.out]; rw [f2.out] at o3
  replace o3 := Lib.hid o3
  go_wp2_with fail
  refine (total_own o3.out).mono ?_
  rintro e w4 ⟨rfl, o4⟩
  rw [e3.out]
  replace o4 := Lib.hid o4
  go_wp2_with fail
  refine (add_own o4.out (a : Int) 1 (by omega)).mono ?_
  rintro e w5 ⟨rfl, o5⟩
  rw [e4.out]; rw [f4.out] at o5
  replace o5 := Lib.hid o5
  go_wp2_with fail
  refine (add_own o5.out (b : Int) _ (by omega)).mono ?_
  rintro e w6 ⟨rfl, o6⟩
  rw [e5.out]; rw [f5.out] at o6
  replace o6 := Lib.hid o6
  go_wp2_with fail
  refine (add_own o6.out (m : Int) 1 (by omega)).mono ?_
  rintro e w7 ⟨rfl, o7⟩
  rw [e6.out]; rw [f6.out] at o7
  replace o7 := Lib.hid o7
  go_wp2_with fail
  refine (total_own o7.out).mono ?_
  rintro e w8 ⟨rfl, o8⟩
  rw [e3.out]
  replace o8 := Lib.hid o8
  go_wp2_with fail
  refine (prefix_own o8.out (m : Int)).mono ?_
  rintro e w9 ⟨rfl, o9⟩
  rw [Int.toNat_natCast, e7.out]
  replace o9 := Lib.hid o9
  go_wp2_with fail
  refine (find_own o9.out _).mono ?_
  rintro e w10 ⟨i10, ok10, rfl, hf10, o10⟩
  replace o10 := Lib.hid o10
  obtain ⟨j, rfl, rfl, hj⟩ : ∃ j : Nat, i10 = (j : Int) ∧ ok10 = true ∧ min a b ≤ j ∧ j ≤ max a b := by
    rcases hf10 with ⟨_, _, h⟩ | ⟨j, h1, h2, _, _, _, h3, h4⟩
    · have := e3.out; omega
    · exact ⟨j, h2, h1, hfd.out j h3 h4⟩
  clear hf10
  have j1 : decide ((j : Int) < min (a : Int) (b : Int)) = false := decide_eq_false (by omega)
  have j2 : decide (max (a : Int) (b : Int) < (j : Int)) = false := decide_eq_false (by omega)
  go_wp2_with fail
  all_goals
    refine (find_own o10.out _).mono ?_
    rintro e w11 ⟨i11, ok11, rfl, hf11, o11⟩
    replace o11 := Lib.hid o11
    obtain ⟨rfl, rfl⟩ := found_no hf11 (.inr (by rw [e3.out]; omega))
    clear hf11
    go_wp2_with fail
    refine (add_own o11.out (a : Int) (-D) ⟨by omega, by omega⟩).mono ?_
    rintro e w12 ⟨rfl, o12⟩
    rw [e8.out]; rw [f8.out] at o12
    replace o12 := Lib.hid o12
    go_wp2_with fail
    refine (add_own o12.out 0 D ⟨by omega, by omega⟩).mono ?_
    rintro e w13 ⟨rfl, o13⟩
    rw [e9.out]; rw [f9.out] at o13
    replace o13 := Lib.hid o13
    go_wp2_with fail
    refine (add_own o13.out 0 (-9223372036854775807) (by omega)).mono ?_
    rintro e w14 ⟨rfl, o14⟩
    rw [f10.out] at o14
    replace o14 := Lib.hid o14
    rcases e10.out with h | ⟨h, hg⟩
    · rw [h]
      clear h
      go_wp2_with fail
      refine (works_any _).mono ?_
      rintro e w15 ⟨rfl, hb15⟩
      replace hb15 := Lib.hid hb15
      go_wp2_with fail
      go_ret
      exact ⟨rfl, bel_trans o14.out.bel hb15.out⟩
    · rw [h]
      clear h
      go_wp2_with fail
      refine (get_own o14.out 0).mono ?_
      rintro e w15 ⟨rfl, o15⟩
      replace o15 := Lib.hid o15
      obtain ⟨g, hgg⟩ : ∃ g, getZ x5 0 = g := ⟨_, rfl⟩
      rw [hgg] at hg ⊢
      clear hgg
      have hgd : (g == (9223372036854775807 : Int)) = false := by simp; omega
      go_wp2_with fail
      refine (works_any _).mono ?_
      rintro e w16 ⟨rfl, hb16⟩
      replace hb16 := Lib.hid hb16
      go_wp2_with fail
      go_ret
      exact ⟨rfl, bel_trans o15.out.bel hb16.out⟩

theorem over_walk (w : World) (n : Int) (hn : (Lit.int .u8 n).wf = true) (i : Int) (hi : (Lit.int .u8 i).wf = true) (k : Int) (hk : (Lit.int .u8 k).wf = true) (d : Int) (hd : (Lit.int .i64 d).wf = true) :
    Calls Try.prog 8 #[.int .u8 n, .int .u8 i, .int .u8 k, .int .i64 d] w fun e w' => e = .returned (.bool true) ∧ Below w.heap.size w w' := by
  by_cases h : d < 0
  · exact over_walk_neg w n i k d hn hi hk hd h
  · exact over_walk_pos w n i k d hn hi hk hd h

end Go.Proofs.Ytooppkpaahmnhaa
