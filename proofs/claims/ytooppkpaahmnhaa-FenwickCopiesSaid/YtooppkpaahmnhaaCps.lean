/- FenwickCopies: the walk. -/
import Derived.Test.YtooppkpaahmnhaaTwo
import Derived.Test.YtooppkpaahmnhaaFds
namespace Go.Proofs.Ytooppkpaahmnhaa
open Go.RowKit Go.Shelf
attribute [local go_sem] Oper.semAt_some

theorem copy_own {w0 w : World} {c cb nb : Nat} {xs : List Int} (h : Own w0 w c cb nb xs) : Calls Try.prog 24 #[.pointer (some ⟨c, 0, none⟩)] w fun e w' => ∃ c' cb' nb', e = .returned (.pointer (some ⟨c', 0, none⟩)) ∧ Two w0 w' c cb nb xs c' cb' nb' xs :=
  (copy_tab w h.tab).mono fun _ _ ⟨⟨c', cb', nb', h1, h2, h3, h4, he⟩, hb⟩ => ⟨c', cb', nb', he, two_new h ⟨h4, ⟨h1, h2, h3⟩, hb⟩⟩

theorem copies_plain {us : List Int} (h : ∀ x ∈ us, 0 ≤ x ∧ x ≤ 65535) (hl : us.length ≤ 300) {k : Nat} (hk : k < us.length) {d : Int} (h0 : 0 ≤ d) (h1 : d ≤ 65535) (ok : Sound us) : ∃ ys zs : List Int,
    addE us (k : Int) d = 0 ∧ addX us (k : Int) d = ys ∧ ys[k]?.getD 0 = us[k]?.getD 0 + d ∧ ys.sum = us.sum + d ∧ pre ys (k + 1) = pre ys k + ys[k]?.getD 0 ∧ (0 ≤ pre ys k ∧ pre ys k ≤ 8589934592) ∧
    addE us (k : Int) (-(us[k]?.getD 0)) = 0 ∧ addX us (k : Int) (-(us[k]?.getD 0)) = zs ∧ zs[k]?.getD 0 = 0 := by
  have hs := (sums_small h (by omega) us.length)
  rw [pre_all us (Nat.le_refl _)] at hs
  have hp := at_pos ok.pos k
  have A := add_fits ok hk (d := d) (by omega) (by omega)
  have B := add_fits ok hk (d := -(us[k]?.getD 0)) (by omega) (by omega)
  refine ⟨_, _, A.e, A.x, A.at_ hk, A.sum, pre_succ _ _, ?_, B.e, B.x, ?_⟩
  · have := pre_nonneg A.ok.pos k; have := pre_le_sum A.ok.pos k; have := A.sum; omega
  · rw [B.at_ hk]; omega

set_option maxRecDepth 100000 in
set_option maxHeartbeats 4000000 in
theorem copies_big (w : World) (a : Option Addr) (len cap : Nat) (i d : Int) (hl : 300 < len) :
    Calls Try.prog 11 #[.slice a len cap, .int .u16 i, .int .u16 d] w fun e w' => e = .returned (.bool true) ∧ Below w.heap.size w w' := by
  have hld : decide ((300 : Int) < (len : Int)) = true := decide_eq_true (by omega)
  go_enter Try.func11, Try.ntmps11
  go_wp2_with fail
  refine (works_any _).mono ?_
  rintro e w8 ⟨rfl, hb8⟩
  replace hb8 := Lib.hid hb8
  go_wp2_with fail
  go_ret
  exact ⟨rfl, hb8.out⟩
set_option maxRecDepth 100000 in
set_option maxHeartbeats 4000000 in
theorem copies_empty (w : World) (a : Option Addr) (cap : Nat) (i d : Int) :
    Calls Try.prog 11 #[.slice a 0 cap, .int .u16 i, .int .u16 d] w fun e w' => e = .returned (.bool true) ∧ Below w.heap.size w w' := by
  go_enter Try.func11, Try.ntmps11
  go_wp2_with fail
  refine (works_any _).mono ?_
  rintro e w8 ⟨rfl, hb8⟩
  replace hb8 := Lib.hid hb8
  go_wp2_with fail
  go_ret
  exact ⟨rfl, hb8.out⟩

set_option maxRecDepth 100000 in
set_option maxHeartbeats 8000000 in
theorem copies_mid (w : World) (a : Option Addr) (len cap : Nat) (us : List Int) (hr : RI w.heap.size w .u16 a len us) (i d : Int) (i0 : 0 ≤ i) (i1 : i ≤ 65535) (d0 : 0 ≤ d) (d1 : d ≤ 65535) (h0 : 0 < len) (h1 : len ≤ 300) :
    Calls Try.prog 11 #[.slice a len cap, .int .u16 i, .int .u16 d] w fun e w' => e = .returned (.bool true) ∧ Below w.heap.size w w' := by
  have hld : decide ((300 : Int) < (len : Int)) = false := decide_eq_false (by omega)
  have hl0 : ((len : Int) == 0) = false := by simp; omega
  have hus : ∀ x ∈ us, 0 ≤ x ∧ x ≤ 65535 := fun x hx => u16_range (hr.2.1 x hx)
  have hlen : us.length = len := hr.1
  obtain ⟨b, off, rfl, hbl, hc⟩ := hr.2.2 h0
  obtain ⟨k, hk⟩ := Int.eq_ofNat_of_zero_le (show 0 ≤ i % (len : Int) from Int.emod_nonneg _ (by omega))
  have hkl : k < len := by have := Int.emod_lt_of_pos i (show (0 : Int) < (len : Int) by omega); omega
  have hkl' : k < us.length := by rw [hlen]; exact hkl
  have hu := hus _ (List.getElem_mem hkl')
  obtain ⟨u, hu'⟩ : ∃ u, us[k]?.getD 0 = u := ⟨_, rfl⟩
  rw [show us[k]'hkl' = u by rw [← hu', List.getElem?_eq_getElem]; rfl] at hu
  have hcell : ∀ W, Below w.heap.size w W → W.cell? ⟨b, off + k, none⟩ = some (.int .u16 u) := fun W hb => (hb.cell (p := ⟨b, off + k, none⟩) hbl).trans (by rw [← hu']; exact hc k hkl)
  have k0 : (0 : Int) ≤ (k : Int) := by omega
  have k1 : (k : Int) < (len : Int) := by omega
  have HR := Lib.hid hr
  have Hlen := Lib.hid hlen
  have Hus := Lib.hid hus
  replace hcell := Lib.hid hcell
  replace hu' := Lib.hid hu'
  replace hk := Lib.hid hk
  have hl1 : (1 : Int) ≤ (len : Int) := by omega
  clear hr hlen hus hc hkl'
  go_enter Try.func11, Try.ntmps11
  go_wp2_with fail
  refine (filled_any _ len cap us _ HR.out (by omega)).mono ?_
  rintro e w1 ⟨c, cb, nb, rfl, o1⟩
  obtain ⟨ys, zs, e1, f1, e2, e3, e4, e5, e6, f6, e7⟩ := copies_plain Hus.out (by rw [Hlen.out]; omega) (k := k) (by rw [Hlen.out]; omega) d0 d1 o1.ok
  rw [hu'.out] at e2 e6 f6
  have hS := sums_small Hus.out (by rw [Hlen.out]; omega) us.length
  rw [pre_all us (Nat.le_refl _)] at hS
  obtain ⟨S, hSS⟩ : ∃ S, us.sum = S := ⟨_, rfl⟩
  rw [hSS] at hS e3
  obtain ⟨q, hq⟩ : ∃ q, pre ys k = q := ⟨_, rfl⟩
  rw [hq, e2] at e4
  rw [hq] at e5
  replace hSS := Lib.hid hSS; replace hq := Lib.hid hq
  replace e1 := Lib.hid e1; replace f1 := Lib.hid f1; replace e2 := Lib.hid e2; replace e3 := Lib.hid e3; replace e4 := Lib.hid e4; replace e6 := Lib.hid e6; replace f6 := Lib.hid f6; replace e7 := Lib.hid e7
  replace o1 := Lib.hid o1
  go_wp2_with fail
  refine (copy_own o1.out).mono ?_
  rintro e w2 ⟨c', cb', nb', rfl, o2⟩
  replace o2 := Lib.hid o2
  go_wp2_with fail
  refine (len_has o2.out.snd.has).mono ?_
  rintro e w3 ⟨rfl, rfl⟩
  rw [Hlen.out]
  go_wp2_with fail
  refine (total_has o2.out.snd.has).mono ?_
  rintro e w3 ⟨rfl, rfl⟩
  rw [hSS.out]
  go_wp2_with fail
  refine (total_has o2.out.fst.has).mono ?_
  rintro e w3 ⟨rfl, rfl⟩
  rw [hSS.out]
  go_wp2_with fail
  rw [hk.out]
  have hdb : -9223372036854775808 ≤ d ∧ d ≤ 9223372036854775807 := by omega
  have hw1 : IntKind.i64.wrap d = d := by rw [wrap_i64_eq]; exact w64 (by omega) (by omega)
  have hw2 : IntKind.i64.wrap u = u := by rw [wrap_i64_eq]; exact w64 (by omega) (by omega)
  have hw3 : IntKind.i64.wrap (u + d) = u + d := by rw [wrap_i64_eq]; exact w64 (by omega) (by omega)
  have hw4 : IntKind.i64.wrap (S + d) = S + d := by rw [wrap_i64_eq]; exact w64 (by omega) (by omega)
  have c2 := hcell.out w2 o2.out.fst.bel
  have c2' := hcell.out w2.drew (bel_drew o2.out.fst.bel)
  go_region_held3 (fun w' => w'.cell? ⟨b, off + k, none⟩ = some (.int .u16 u)) (first | assumption | exact hcell.out _ (by assumption)) (first
    | (go_at_call 22; refine (two_add' (w0 := w) (c := c) (cb := cb) (nb := nb) (xs := us) (cb' := cb') (nb' := nb') (ys := us) ?_ (k : Int) d hdb).mono ?_; exact o2.out.keep (bel_drew (Below.refl _ _)); rintro e w3 ⟨rfl, o3⟩; rw [e1.out]; rw [f1.out] at o3; have c3 := hcell.out w3 o3.fst.bel; replace o3 := Lib.hid o3)
    | (go_at_call_of 20 (some (⟨c, 0, none⟩ : Addr)); refine (get_q o3.out.fst.has (k : Int)).mono ?_; rintro e w4 ⟨rfl, rfl⟩; rw [getZ_nat, hu'.out])
    | (go_at_call_of 20 (some (⟨c', 0, none⟩ : Addr)); refine (get_q o3.out.snd.has (k : Int)).mono ?_; rintro e w4 ⟨rfl, rfl⟩; rw [getZ_nat, e2.out])
    | (go_at_call_of 16 (some (⟨c, 0, none⟩ : Addr)); refine (total_has o3.out.fst.has).mono ?_; rintro e w4 ⟨rfl, rfl⟩; rw [hSS.out])
    | (go_at_call_of 16 (some (⟨c', 0, none⟩ : Addr)); refine (total_has o3.out.snd.has).mono ?_; rintro e w4 ⟨rfl, rfl⟩; rw [e3.out]))
  have c3' := hcell.out w3 o3.out.fst.bel
  go_wp2_with fail
  refine (two_add o3.out (k : Int) _ ⟨by clear hw1 hw2 hw3 hw4; omega, by clear hw1 hw2 hw3 hw4; omega⟩).mono ?_
  rintro e w5 ⟨rfl, o5⟩
  rw [e6.out]; rw [f6.out] at o5
  have o6 := Lib.hid (o5.keep (bel_drew (Below.refl _ _)))
  replace o5 := Lib.hid o5
  clear hw1 hw2 hw3 hw4
  have hwq : IntKind.i64.wrap (q + (u + d) - q) = u + d := by rw [wrap_i64_eq, show q + (u + d) - q = u + d by omega]; exact w64 (by omega) (by omega)
  have hwk : IntKind.i64.wrap ((k : Int) + 1) = (k : Int) + 1 := by rw [wrap_i64_eq]; exact w64 (by omega) (by omega)
  have hkn : ((k : Int) + 1).toNat = k + 1 := by omega
  have hkn0 : ((k : Int)).toNat = k := by omega
  replace hkn := Lib.hid hkn
  replace hkn0 := Lib.hid hkn0
  have hw1 : IntKind.i64.wrap d = d := by rw [wrap_i64_eq]; exact w64 (by omega) (by omega)
  have hw2 : IntKind.i64.wrap u = u := by rw [wrap_i64_eq]; exact w64 (by omega) (by omega)
  have hw3 : IntKind.i64.wrap (u + d) = u + d := by rw [wrap_i64_eq]; exact w64 (by omega) (by omega)
  go_wp2_with fail
  have c5 := hcell.out w5 o5.out.fst.bel
  have c5' := hcell.out w5.drew (bel_drew o5.out.fst.bel)
  go_region_held3 (fun w' => w'.cell? ⟨b, off + k, none⟩ = some (.int .u16 u)) (first | assumption | exact hcell.out _ (by assumption)) (first
    | (go_at_call_of 20 (some (⟨c, 0, none⟩ : Addr)); refine (get_q o6.out.fst.has (k : Int)).mono ?_; rintro e w4 ⟨rfl, rfl⟩; rw [getZ_nat, e7.out])
    | (go_at_call_of 20 (some (⟨c', 0, none⟩ : Addr)); refine (get_q o6.out.snd.has (k : Int)).mono ?_; rintro e w4 ⟨rfl, rfl⟩; rw [getZ_nat, e2.out])
    | (go_at_call 15; refine (prefix_two' o6.out _).mono ?_; rintro e w7 ⟨rfl, o7⟩; (first | rw [hkn.out, e4.out] | rw [hkn0.out, hq.out]); have c7 := hcell.out w7 o7.fst.bel; replace o6 := Lib.hid o7; clear o7)
    | (go_at_call 12; refine (works_any _).mono ?_; rintro e w8 ⟨rfl, hb8⟩; have o8 := o6.out.keep hb8; have c8 := hcell.out w8 o8.fst.bel; replace o6 := Lib.hid o8; clear o8 hb8))
  all_goals
    go_wp2_with fail
    go_ret
    exact ⟨rfl, o6.out.fst.bel⟩

theorem copies_walk (w : World) (a : Option Addr) (len cap : Nat) (zs : List Int) (hz : IsRow .u16 w a len cap zs) (_hy : len * 2 ≤ 140737488351232) (i : Int) (hi : (Lit.int .u16 i).wf = true) (d : Int) (hd : (Lit.int .u16 d).wf = true) :
    Calls Try.prog 11 #[.slice a len cap, .int .u16 i, .int .u16 d] w fun e w' => e = .returned (.bool true) ∧ Below w.heap.size w w' := by
  obtain ⟨i0, i1⟩ := u16_range hi
  obtain ⟨d0, d1⟩ := u16_range hd
  by_cases hl : 300 < len
  · exact copies_big w a len cap i d hl
  by_cases h0 : len = 0
  · subst h0; exact copies_empty w a cap i d
  · exact copies_mid w a len cap _ hz.ri i d i0 i1 d0 d1 (by omega) (by omega)

end Go.Proofs.Ytooppkpaahmnhaa
