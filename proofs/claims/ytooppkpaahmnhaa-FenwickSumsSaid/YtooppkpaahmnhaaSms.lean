/- FenwickSums: the walk. -/
import Derived.Test.YtooppkpaahmnhaaFds
import Derived.Deep.DeepCutAuto
namespace Go.Proofs.Ytooppkpaahmnhaa
open Go.RowKit Go.Shelf
attribute [local go_sem] Oper.semAt_some

theorem rangeZ_le {xs : List Int} (a b : Nat) (h : a ≤ b) : rangeZ xs (a : Int) (b : Int) = pre xs b - pre xs a := by
  unfold rangeZ
  by_cases e : (b : Int) ≤ (a : Int)
  · rw [if_pos e, show a = b by omega]; omega
  · rw [if_neg e, Int.toNat_natCast, Int.toNat_natCast]
theorem rangeZ_ge {xs : List Int} (a b : Nat) (h : a ≤ b) : rangeZ xs (b : Int) (a : Int) = 0 := by
  unfold rangeZ
  rw [if_pos (by omega)]

set_option maxRecDepth 100000 in
set_option maxHeartbeats 8000000 in
theorem sums_walk (w : World) (a : Option Addr) (len cap : Nat) (zs : List Int) (hz : IsRow .u16 w a len cap zs) (_hy : len * 2 ≤ 140737488351232) (x : Int) (hx : (Lit.int .u16 x).wf = true) (y : Int) (hy : (Lit.int .u16 y).wf = true) (z : Int) (hz2 : (Lit.int .u16 z).wf = true) :
    Calls Try.prog 6 #[.slice a len cap, .int .u16 x, .int .u16 y, .int .u16 z] w fun e w' => e = .returned (.bool true) ∧ Below w.heap.size w w' := by
  have hr := hz.ri
  have hm : len ≤ 9223372036854775807 := by omega
  obtain ⟨x0, x1⟩ := u16_range hx
  obtain ⟨y0, y1⟩ := u16_range hy
  obtain ⟨z0, z1⟩ := u16_range hz2
  clear hz hx hy hz2
  generalize zs.take len = us at hr
  by_cases hl : 300 < len
  · have hld : decide ((300 : Int) < (len : Int)) = true := decide_eq_true (by omega)
    go_enter Try.func6, Try.ntmps6
    go_wp2_with fail
    refine (works_any _).mono ?_
    rintro e w8 ⟨rfl, hb8⟩
    replace hb8 := Lib.hid hb8
    go_wp2_with fail
    go_ret
    exact ⟨rfl, hb8.out⟩
  have hld : decide ((300 : Int) < (len : Int)) = false := decide_eq_false (by omega)
  have hus : ∀ x ∈ us, 0 ≤ x ∧ x ≤ 65535 := fun x hx => u16_range (hr.2.1 x hx)
  have hlen : us.length = len := hr.1
  have hsm := sums_small hus (by omega)
  have HR := Lib.hid hr
  have Hlen := Lib.hid hlen
  have Hus := Lib.hid hus
  replace hsm := Lib.hid hsm
  clear hr hlen hus
  go_enter Try.func6, Try.ntmps6
  go_wp2_with fail
  refine (filled_any a len cap us _ HR.out (by omega)).mono ?_
  rintro e w1 ⟨c, cb, nb, rfl, o1⟩
  replace o1 := Lib.hid o1
  go_wp2_with fail
  go_loopw [10, 11] (fun v10 v11 wr => ∃ k : Nat, k ≤ len ∧ v10 = .int .i64 (pre us k) ∧ v11 = .int .i64 (k : Int) ∧ Own w wr c cb nb us) (fun _ v11 _ => len - (intOf v11).toNat)
  case atStart => exact ⟨0, by omega, by rw [pre_zero], rfl, o1.out⟩
  case round =>
    obtain ⟨k, hk, rfl, rfl, ho⟩ := hrel
    by_cases hlt : k < len
    · have hk0 : (0 : Int) ≤ (k : Int) := by omega
      have hk1 : (k : Int) < (len : Int) := by omega
      have hkl : k < us.length := by rw [Hlen.out]; exact hlt
      have hu := Hus.out _ (List.getElem_mem hkl)
      obtain ⟨b, off, rfl, hbl, hc⟩ := HR.out.2.2 (by omega)
      obtain ⟨u, hu'⟩ : ∃ u, us[k]?.getD 0 = u := ⟨_, rfl⟩
      have hcell : ∀ W, Below w.heap.size w W → W.cell? ⟨b, off + k, none⟩ = some (.int .u16 u) := fun W hb => (hb.cell (p := ⟨b, off + k, none⟩) hbl).trans (by rw [← hu']; exact hc k hlt)
      rw [show us[k]'hkl = u by rw [← hu', List.getElem?_eq_getElem]; rfl] at hu
      have hps : pre us (k + 1) = pre us k + u := by rw [pre_succ, hu']
      have b0 := hsm.out k
      have b1 := hsm.out (k + 1)
      obtain ⟨p0, hp0⟩ : ∃ p0, pre us k = p0 := ⟨_, rfl⟩
      rw [hps, hp0] at b1
      rw [hp0] at hps b0 ⊢
      have hgk : getZ us (k : Int) = u := by unfold getZ; rw [if_neg (by omega), Int.toNat_natCast, hu']
      have hkn : ((k : Int)).toNat = k := by omega
      replace hcell := Lib.hid hcell
      replace hp0 := Lib.hid hp0
      replace hps := Lib.hid hps
      replace hgk := Lib.hid hgk
      replace hkn := Lib.hid hkn
      have c0 := hcell.out wr ho.bel
      have c1 := hcell.out wr.drew (bel_drew ho.bel)
      have o2 := Lib.hid (ho.keep (bel_drew (Below.refl _ _)))
      replace ho := Lib.hid ho
      clear hu' hc hkl
      have hw : IntKind.i64.wrap u = u := by rw [wrap_i64_eq]; exact w64 (by omega) (by omega)
      go_wp2_with fail
      go_upto_region 10 with fail
      go_cut [45] (fun v wx => v = .bool false ∧ Own w wx c cb nb us)
      case first =>
        go_region_held3 (fun w' => w'.cell? ⟨b, off + k, none⟩ = some (.int .u16 u)) (first | assumption | exact hcell.out _ (by assumption)) (first
          | (go_at_call 15; refine (prefix_own o2.out _).mono ?_; rintro e w3 ⟨rfl, o3⟩; rw [hkn.out, hp0.out]; have c3 := hcell.out w3 o3.bel; replace o3 := Lib.hid o3)
          | (go_at_call 20; refine (get_own o3.out _).mono ?_; rintro e w4 ⟨rfl, o4⟩; rw [hgk.out]; have c4 := hcell.out w4 o4.bel; replace o4 := Lib.hid o4))
        all_goals (go_wp2_with fail; go_meet; exact ⟨rfl, o4.out⟩)
      case rest =>
        obtain ⟨rfl, o5⟩ := hcut
        have c5 := hcell.out _ o5.bel
        replace o5 := Lib.hid o5
        clear hw
        go_wp2_with fail
        go_roundw
        case rel => exact ⟨k + 1, by omega, by rw [hps.out], by go_num, o5.out⟩
        case measure => simp [intOf]; omega
    · have hk1 : ¬ (k : Int) < (len : Int) := by omega
      obtain rfl : k = len := by omega
      have hq : pre us k = us.sum := pre_all us (by rw [Hlen.out]; exact Nat.le_refl _)
      obtain ⟨S, hS⟩ : ∃ S, us.sum = S := ⟨_, rfl⟩
      have hS0 := hsm.out k
      rw [hq, hS] at hS0
      rw [hq, hS]
      rw [hS] at hq
      have hkn : ((k : Int)).toNat = k := by omega
      replace hkn := Lib.hid hkn
      replace hq := Lib.hid hq
      replace hS := Lib.hid hS
      replace ho := Lib.hid ho
      clear hlt
      have hwx : IntKind.i64.wrap x = x := by rw [wrap_i64_eq]; exact w64 (by omega) (by omega)
      have hwy : IntKind.i64.wrap y = y := by rw [wrap_i64_eq]; exact w64 (by omega) (by omega)
      have hwz : IntKind.i64.wrap z = z := by rw [wrap_i64_eq]; exact w64 (by omega) (by omega)
      have hkp : (0 : Int) < (k : Int) + 1 := by omega
      go_wp2_with fail
      go_upto_region 14 with fail
      go_cut [13, 14, 15] (fun v13 v14 v15 wx => ∃ A B D : Nat, A ≤ k ∧ B ≤ k ∧ D ≤ k ∧ v13 = .int .i64 (A : Int) ∧ v14 = .int .i64 (B : Int) ∧ v15 = .int .i64 (D : Int) ∧ Own w wx c cb nb us)
      case first =>
        go_quiet (fail)
        go_wp2_with fail
        go_meet
        have hmod : ∀ x : Int, 0 ≤ x → ∃ A : Nat, A ≤ k ∧ x % ((k : Int) + 1) = (A : Int) := fun x hx => by
          refine ⟨(x % ((k : Int) + 1)).toNat, ?_, ?_⟩
          · have := Int.emod_lt_of_pos x (show (0 : Int) < (k : Int) + 1 by omega); omega
          · have := Int.emod_nonneg x (show ((k : Int) + 1) ≠ 0 by omega); omega
        clear hwx hwy hwz
        obtain ⟨A, a1, a2⟩ := hmod x x0
        obtain ⟨B, b1, b2⟩ := hmod y y0
        obtain ⟨D, d1, d2⟩ := hmod z z0
        exact ⟨A, B, D, a1, b1, d1, by rw [← a2], by rw [← b2], by rw [← d2], ho.out.keep (bel_drewN (Below.refl _ _) _)⟩
      case rest =>
      clear hwx hwy hwz
      obtain ⟨A, B, D, a1, b1, d1, rfl, rfl, rfl, o2⟩ := hcut
      replace o2 := Lib.hid o2
      go_upto_region 15 with fail
      go_cut [13, 14] (fun v13 v14 wx' => ∃ A' B' : Nat, A' ≤ B' ∧ B' ≤ k ∧ v13 = .int .i64 (A' : Int) ∧ v14 = .int .i64 (B' : Int) ∧ Own w wx' c cb nb us)
      case first =>
        by_cases h : B < A
        · go_wp2_with fail
          all_goals (go_meet; exact ⟨B, A, by omega, a1, rfl, rfl, o2.out⟩)
        · by_cases h2 : A < B
          · go_wp2_with fail
            all_goals (go_meet; exact ⟨A, B, by omega, b1, rfl, rfl, o2.out⟩)
          · obtain rfl : A = B := by omega
            go_wp2_with fail
            all_goals (go_meet; exact ⟨A, A, by omega, a1, rfl, rfl, o2.out⟩)
      case rest =>
      clear a1 b1 o2
      obtain ⟨A', B', hab, b1, rfl, rfl, o2⟩ := hcut
      replace o2 := Lib.hid o2
      go_upto_region 16 with fail
      go_cut [14, 15] (fun v14 v15 wx' => ∃ B2 D2 : Nat, B2 ≤ D2 ∧ A' ≤ D2 ∧ D2 ≤ k ∧ v14 = .int .i64 (B2 : Int) ∧ v15 = .int .i64 (D2 : Int) ∧ Own w wx' c cb nb us)
      case first =>
        by_cases h : D < B'
        · go_wp2_with fail
          all_goals (go_meet; exact ⟨D, B', by omega, by omega, b1, rfl, rfl, o2.out⟩)
        · by_cases h2 : B' < D
          · go_wp2_with fail
            all_goals (go_meet; exact ⟨B', D, by omega, by omega, d1, rfl, rfl, o2.out⟩)
          · obtain rfl : B' = D := by omega
            go_wp2_with fail
            all_goals (go_meet; exact ⟨B', B', by omega, by omega, b1, rfl, rfl, o2.out⟩)
      case rest =>
      clear b1 d1 o2 hab
      obtain ⟨B2, D2, hbd, had, d1, rfl, rfl, o2⟩ := hcut
      replace o2 := Lib.hid o2
      go_upto_region 17 with fail
      go_cut [13, 14] (fun v13 v14 wx' => ∃ A3 B3 : Nat, A3 ≤ B3 ∧ B3 ≤ D2 ∧ v13 = .int .i64 (A3 : Int) ∧ v14 = .int .i64 (B3 : Int) ∧ Own w wx' c cb nb us)
      case first =>
        by_cases h : B2 < A'
        · go_wp2_with fail
          all_goals (go_meet; exact ⟨B2, A', by omega, had, rfl, rfl, o2.out⟩)
        · by_cases h2 : A' < B2
          · go_wp2_with fail
            all_goals (go_meet; exact ⟨A', B2, by omega, hbd, rfl, rfl, o2.out⟩)
          · obtain rfl : A' = B2 := by omega
            go_wp2_with fail
            all_goals (go_meet; exact ⟨A', A', by omega, had, rfl, rfl, o2.out⟩)
      case rest =>
      clear hbd had o2
      obtain ⟨A3, B3, hab, hbd, rfl, rfl, o2⟩ := hcut
      have g1 := Lib.hid (rangeZ_le (xs := us) A3 B3 hab)
      have g2 := Lib.hid (rangeZ_le (xs := us) B3 D2 hbd)
      have g3 := Lib.hid (rangeZ_le (xs := us) A3 D2 (by omega))
      have g4 := Lib.hid (rangeZ_ge (xs := us) A3 B3 hab)
      have n1 := Lib.hid (Int.toNat_natCast A3)
      have n2 := Lib.hid (Int.toNat_natCast B3)
      have s1 := hsm.out A3
      have s2 := hsm.out B3
      have s3 := hsm.out D2
      obtain ⟨pa, hpa⟩ : ∃ q, pre us A3 = q := ⟨_, rfl⟩
      obtain ⟨pb, hpb⟩ : ∃ q, pre us B3 = q := ⟨_, rfl⟩
      obtain ⟨pd, hpd⟩ : ∃ q, pre us D2 = q := ⟨_, rfl⟩
      rw [hpa] at s1
      rw [hpb] at s2
      rw [hpd] at s3
      replace hpa := Lib.hid hpa
      replace hpb := Lib.hid hpb
      replace hpd := Lib.hid hpd
      have hsub : pb - pa + (pd - pb) = pd - pa := by omega
      replace hsub := Lib.hid hsub
      replace o2 := Lib.hid o2
      clear hab hbd d1
      go_wp2_with fail
      refine (prefix_own o2.out _).mono ?_
      rintro e w3 ⟨rfl, o3⟩
      rw [hkn.out, hq.out]
      replace o3 := Lib.hid o3
      go_wp2_with fail
      refine (total_own o3.out).mono ?_
      rintro e w4 ⟨rfl, o4⟩
      rw [hS.out]
      replace o4 := Lib.hid o4
      go_wp2_with fail
      refine (range_own o4.out _ _).mono ?_
      rintro e w5 ⟨rfl, o5⟩
      rw [g1.out, hpa.out, hpb.out]
      replace o5 := Lib.hid o5
      go_wp2_with fail
      refine (range_own o5.out _ _).mono ?_
      rintro e w6 ⟨rfl, o6⟩
      rw [g2.out, hpd.out, hpb.out]
      replace o6 := Lib.hid o6
      go_wp2_with fail
      refine (range_own o6.out _ _).mono ?_
      rintro e w7 ⟨rfl, o7⟩
      rw [g3.out, hpd.out, hpa.out]
      replace o7 := Lib.hid o7
      go_wp2_with fail
      refine (range_own o7.out _ _).mono ?_
      rintro e w8 ⟨rfl, o8⟩
      rw [g1.out, hpa.out, hpb.out]
      replace o8 := Lib.hid o8
      go_wp2_with fail
      refine (prefix_own o8.out _).mono ?_
      rintro e w9 ⟨rfl, o9⟩
      rw [n2.out, hpb.out]
      replace o9 := Lib.hid o9
      go_wp2_with fail
      refine (prefix_own o9.out _).mono ?_
      rintro e w10 ⟨rfl, o10⟩
      rw [n1.out, hpa.out]
      replace o10 := Lib.hid o10
      go_wp2_with fail
      refine (range_own o10.out _ _).mono ?_
      rintro e w11 ⟨rfl, o11⟩
      rw [g4.out]
      replace o11 := Lib.hid o11
      go_wp2_with fail
      refine (works_any _).mono ?_
      rintro e w12 ⟨rfl, hb12⟩
      replace hb12 := Lib.hid hb12
      go_wp2_with fail
      go_ret
      exact ⟨rfl, bel_trans o11.out.bel hb12.out⟩

end Go.Proofs.Ytooppkpaahmnhaa
