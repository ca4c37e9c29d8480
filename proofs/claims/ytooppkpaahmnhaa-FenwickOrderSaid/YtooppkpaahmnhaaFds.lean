/- FenwickFinds: the walk. -/
import Derived.Test.YtooppkpaahmnhaaFil
namespace Go.Proofs.Ytooppkpaahmnhaa
open Go.RowKit Go.Shelf
attribute [local go_sem] Oper.semAt_some

theorem sums_small {us : List Int} (h : ∀ x ∈ us, 0 ≤ x ∧ x ≤ 65535) (hl : us.length ≤ 65536) (k : Nat) : 0 ≤ pre us k ∧ pre us k ≤ 4294967296 := by
  have := take_sum_le h (min k us.length)
  rw [← pre_clip]
  unfold pre
  omega

set_option maxRecDepth 100000 in
set_option maxHeartbeats 4000000 in
theorem finds_walk (w : World) (a : Option Addr) (len cap : Nat) (zs : List Int) (hz : IsRow .u16 w a len cap zs) (_hy : len * 2 ≤ 140737488351232) (x : Int) (_hx : (Lit.int .i64 x).wf = true) :
    Calls Try.prog 3 #[.slice a len cap, .int .i64 x] w fun e w' => e = .returned (.bool true) ∧ Below w.heap.size w w' := by
  have hr := hz.ri
  have hm : len ≤ 9223372036854775807 := by omega
  clear hz
  generalize zs.take len = us at hr
  by_cases hl : 300 < len
  · have hld : decide ((300 : Int) < (len : Int)) = true := decide_eq_true (by omega)
    go_enter Try.func3, Try.ntmps3
    go_wp2_with fail
    refine (works_any _).mono ?_
    rintro e w8 ⟨rfl, hb8⟩
    have hb8 := Lib.hid hb8
    go_wp2_with fail
    go_ret
    exact ⟨rfl, hb8.out⟩
  have hld : decide ((300 : Int) < (len : Int)) = false := decide_eq_false (by omega)
  have hus : ∀ x ∈ us, 0 ≤ x ∧ x ≤ 65535 := fun x hx => u16_range (hr.2.1 x hx)
  have hlen : us.length = len := hr.1
  have hsm := sums_small hus (by omega)
  have HR := Lib.hid hr
  have Hlen := Lib.hid hlen
  have Hus := Lib.hid hus
  have hsm := Lib.hid hsm
  clear hr hlen hus
  go_enter Try.func3, Try.ntmps3
  go_wp2_with fail
  refine (filled_any a len cap us _ HR.out (by omega)).mono ?_
  rintro e w1 ⟨c, cb, nb, rfl, o1⟩
  have o1 := Lib.hid o1
  go_wp2_with fail
  go_loopw [6] (fun v6 wr => ∃ k : Nat, k ≤ len ∧ v6 = .int .i64 (k : Int) ∧ Own w wr c cb nb us) (fun v6 _ => len - (intOf v6).toNat)
  case atStart => exact ⟨0, by omega, rfl, o1.out⟩
  case round =>
    obtain ⟨k, hk, rfl, ho⟩ := hrel
    have HO := Lib.hid ho
    clear ho
    by_cases hlt : k < len
    · have hk0 : (0 : Int) ≤ (k : Int) := by omega
      have hk1 : (k : Int) < (len : Int) := by omega
      have hu := Hus.out _ (List.getElem_mem (show k < us.length by rw [Hlen.out]; exact hlt))
      obtain ⟨b, off, rfl, hbl, hc⟩ := HR.out.2.2 (by omega)
      have c1 := (HO.out.bel.cell (p := ⟨b, off + k, none⟩) hbl).trans (hc k hlt)
      obtain ⟨u, hu'⟩ : ∃ u, us[k]?.getD 0 = u := ⟨_, rfl⟩
      rw [show us[k]'(by rw [Hlen.out]; exact hlt) = u by rw [← hu', List.getElem?_eq_getElem]; rfl] at hu
      rw [hu'] at c1
      have hps : pre us (k + 1) = pre us k + u := by rw [pre_succ, hu']
      have hps := Lib.hid hps
      clear hu' hc
      by_cases hu0 : u = 0
      · have hz0 : (u == (0 : Int)) = true := by simp [hu0]
        clear hu0
        go_wp2_with fail
        go_roundw
        case rel => exact ⟨k + 1, by omega, by go_num, HO.out⟩
        case measure => simp [intOf]; omega
      · have hz0 : (u == (0 : Int)) = false := by simp [hu0]
        obtain ⟨p0, hp0⟩ : ∃ p0, pre us k = p0 := ⟨_, rfl⟩
        obtain ⟨p1, hp1⟩ : ∃ p1, pre us (k + 1) = p1 := ⟨_, rfl⟩
        have b0 := hsm.out k
        have b1 := hsm.out (k + 1)
        rw [hp0] at b0
        rw [hp1] at b1
        have hp0 := Lib.hid hp0
        have hp1 := Lib.hid hp1
        have hpp : p1 = p0 + u := by rw [← hp0.out, ← hp1.out]; exact hps.out
        have hpp := Lib.hid hpp
        go_wp2_with fail
        refine (prefix_own HO.out _).mono ?_
        rintro e w2 ⟨rfl, o2⟩
        rw [show ((k : Int)).toNat = k by omega, hp0.out]
        have o2 := Lib.hid o2
        go_wp2_with fail
        refine (find_own o2.out _).mono ?_
        rintro e w3 ⟨i3, ok3, rfl, hf3, o3⟩
        obtain ⟨rfl, rfl⟩ := found_yes o2.out.ok hf3 (k := k) (by rw [hp0.out]; omega) (by rw [hp1.out]; have := hpp.out; omega)
        have o3 := Lib.hid o3
        clear hf3
        go_wp2_with fail
        refine (prefix_own o3.out _).mono ?_
        rintro e w4 ⟨rfl, o4⟩
        rw [show ((k : Int) + 1).toNat = k + 1 by omega, hp1.out]
        have o4 := Lib.hid o4
        go_wp2_with fail
        refine (find_own o4.out _).mono ?_
        rintro e w5 ⟨i5, ok5, rfl, hf5, o5⟩
        obtain ⟨rfl, rfl⟩ := found_yes o4.out.ok hf5 (k := k) (by rw [hp0.out]; have := hpp.out; omega) (by rw [hp1.out]; omega)
        have o5 := Lib.hid o5
        clear hf5
        go_wp2_with fail
        go_roundw
        case rel => exact ⟨k + 1, by omega, by go_num, o5.out⟩
        case measure => simp [intOf]; omega
    · have hk1 : ¬ (k : Int) < (len : Int) := by omega
      go_wp2_with fail
      refine (find_own HO.out x).mono ?_
      rintro e w3 ⟨i3, ok3, rfl, hf3, o3⟩
      have o3 := Lib.hid o3
      obtain ⟨S, hS⟩ : ∃ S, us.sum = S := ⟨_, rfl⟩
      have hS0 : 0 ≤ S := by rw [← hS, ← pre_all us (Nat.le_refl _)]; exact (hsm.out _).1
      have hS := Lib.hid hS
      rcases hf3 with ⟨rfl, rfl, hx⟩ | ⟨j, rfl, rfl, hx0, hx1, hj, hj0, hj1⟩
      · rw [hS.out] at hx
        by_cases hx0 : x < 0
        · have hxd : decide ((0 : Int) ≤ x) = false := decide_eq_false (by omega)
          have o4 := o3
          clear hx
          go_wp2_with fail
          refine (total_own o4.out).mono ?_
          rintro e w5 ⟨rfl, o5⟩
          rw [hS.out]
          have o5 := Lib.hid o5
          go_wp2_with fail
          refine (find_own o5.out S).mono ?_
          rintro e w6 ⟨i6, ok6, rfl, hf6, o6⟩
          obtain ⟨rfl, rfl⟩ := found_no hf6 (.inr (by rw [hS.out]; omega))
          have o6 := Lib.hid o6
          clear hf6
          go_wp2_with fail
          refine (find_own o6.out (-1)).mono ?_
          rintro e w7 ⟨i7, ok7, rfl, hf7, o7⟩
          obtain ⟨rfl, rfl⟩ := found_no hf7 (.inl (by omega))
          have o7 := Lib.hid o7
          clear hf7
          go_wp2_with fail
          refine (works_any _).mono ?_
          rintro e w8 ⟨rfl, hb8⟩
          have hb8 := Lib.hid hb8
          go_wp2_with fail
          go_ret
          exact ⟨rfl, bel_trans o7.out.bel hb8.out⟩
        · have hxd : decide ((0 : Int) ≤ x) = true := decide_eq_true (by omega)
          have hxs : decide (x < S) = false := decide_eq_false (by omega)
          clear hx
          go_wp2_with fail
          refine (total_own o3.out).mono ?_
          rintro e w4 ⟨rfl, o4⟩
          rw [hS.out]
          have o4 := Lib.hid o4
          go_wp2_with fail
          refine (total_own o4.out).mono ?_
          rintro e w5 ⟨rfl, o5⟩
          rw [hS.out]
          have o5 := Lib.hid o5
          go_wp2_with fail
          refine (find_own o5.out S).mono ?_
          rintro e w6 ⟨i6, ok6, rfl, hf6, o6⟩
          obtain ⟨rfl, rfl⟩ := found_no hf6 (.inr (by rw [hS.out]; omega))
          have o6 := Lib.hid o6
          clear hf6
          go_wp2_with fail
          refine (find_own o6.out (-1)).mono ?_
          rintro e w7 ⟨i7, ok7, rfl, hf7, o7⟩
          obtain ⟨rfl, rfl⟩ := found_no hf7 (.inl (by omega))
          have o7 := Lib.hid o7
          clear hf7
          go_wp2_with fail
          refine (works_any _).mono ?_
          rintro e w8 ⟨rfl, hb8⟩
          have hb8 := Lib.hid hb8
          go_wp2_with fail
          go_ret
          exact ⟨rfl, bel_trans o7.out.bel hb8.out⟩
      · rw [hS.out] at hx1
        have hxd : decide ((0 : Int) ≤ x) = true := decide_eq_true (by omega)
        have hxs : decide (x < S) = true := decide_eq_true (by omega)
        obtain ⟨q0, hq0⟩ : ∃ q, pre us j = q := ⟨_, rfl⟩
        obtain ⟨q1, hq1⟩ : ∃ q, pre us (j + 1) = q := ⟨_, rfl⟩
        rw [hq0] at hj0
        rw [hq1] at hj1
        have hjd : decide (q0 ≤ x) = true := decide_eq_true hj0
        have hjd1 : decide (x < q1) = true := decide_eq_true hj1
        have hjl : (j : Int) ≤ 300 := by have := Hlen.out; omega
        have hj00 : (0 : Int) ≤ (j : Int) := by omega
        have hq0 := Lib.hid hq0
        have hq1 := Lib.hid hq1
        clear hj hj0 hj1 hx0 hx1
        go_wp2_with fail
        refine (total_own o3.out).mono ?_
        rintro e w4 ⟨rfl, o4⟩
        rw [hS.out]
        have o4 := Lib.hid o4
        go_wp2_with fail
        refine (total_own o4.out).mono ?_
        rintro e w5 ⟨rfl, o5⟩
        rw [hS.out]
        have o5 := Lib.hid o5
        go_wp2_with fail
        refine (find_own o5.out S).mono ?_
        rintro e w6 ⟨i6, ok6, rfl, hf6, o6⟩
        obtain ⟨rfl, rfl⟩ := found_no hf6 (.inr (by rw [hS.out]; omega))
        have o6 := Lib.hid o6
        clear hf6
        go_wp2_with fail
        refine (find_own o6.out (-1)).mono ?_
        rintro e w7 ⟨i7, ok7, rfl, hf7, o7⟩
        obtain ⟨rfl, rfl⟩ := found_no hf7 (.inl (by omega))
        have o7 := Lib.hid o7
        clear hf7
        go_wp2_with fail
        refine (prefix_own o7.out _).mono ?_
        rintro e w10 ⟨rfl, o10⟩
        rw [show ((j : Int)).toNat = j by omega, hq0.out]
        have o10 := Lib.hid o10
        go_wp2_with fail
        refine (prefix_own o10.out _).mono ?_
        rintro e w11 ⟨rfl, o11⟩
        rw [show ((j : Int) + 1).toNat = j + 1 by omega, hq1.out]
        have o11 := Lib.hid o11
        go_wp2_with fail
        refine (works_any _).mono ?_
        rintro e w8 ⟨rfl, hb8⟩
        have hb8 := Lib.hid hb8
        go_wp2_with fail
        go_ret
        exact ⟨rfl, bel_trans o11.out.bel hb8.out⟩

end Go.Proofs.Ytooppkpaahmnhaa
