/- The reference's additions and copies. -/
import Derived.Test.YtooppkpaahmnhaaRef
import Derived.Maps.AppendAt
namespace Go.Proofs.Ytooppkpaahmnhaa
open Go.RowKit Go.Shelf
attribute [local go_sem] Oper.semAt_some

theorem radd_nil (i d : Int) (w : World) : Calls Try.prog 23 #[.pointer none, .int .i64 i, .int .i64 d] w fun e w' => e = .returned (.int .i64 1) ∧ w = w' := by
  go_enter Try.func23, Try.ntmps23
  go_wp2_with fail
  refine (valid_nil _).mono ?_
  rintro e w' ⟨rfl, rfl⟩
  go_wp2_with fail
  go_ret
  exact ⟨rfl, rfl⟩
theorem radd_low {dd db : Nat} {xs : List Int} {w : World} (h : TabR w dd db xs) (i d : Int) (hi : i < 0) : Calls Try.prog 23 #[.pointer (some ⟨dd, 0, none⟩), .int .i64 i, .int .i64 d] w fun e w' => e = .returned (.int .i64 3) ∧ w = w' := by
  have hv := Lib.hid (valid_yes h)
  have hd : decide (i < 0) = true := decide_eq_true hi
  clear h
  go_enter Try.func23, Try.ntmps23
  go_wp2_with fail
  refine hv.out.mono ?_
  rintro e w' ⟨rfl, rfl⟩
  go_wp2_with fail
  go_ret
  exact ⟨rfl, rfl⟩
theorem radd_high {dd db : Nat} {xs : List Int} {w : World} (h : TabR w dd db xs) (i d : Int) (hi : ¬ i < 0) (hi2 : (xs.length : Int) ≤ i) : Calls Try.prog 23 #[.pointer (some ⟨dd, 0, none⟩), .int .i64 i, .int .i64 d] w fun e w' => e = .returned (.int .i64 3) ∧ w = w' := by
  have hv := Lib.hid (valid_yes h)
  have hd : decide (i < 0) = false := decide_eq_false hi
  have hd2 : decide ((xs.length : Int) ≤ i) = true := decide_eq_true hi2
  obtain ⟨dc, tb, a, b, c⟩ := h
  have c1 := a.cell 1 (v := .slice (some ⟨db, 0, none⟩) xs.length dc) rfl
  clear a b
  go_enter Try.func23, Try.ntmps23
  go_wp2_with fail
  refine hv.out.mono ?_
  rintro e w' ⟨rfl, rfl⟩
  go_wp2_with fail
  go_ret
  exact ⟨rfl, rfl⟩
theorem radd_neg {dd db : Nat} {xs : List Int} {w : World} (h : TabR w dd db xs) (k : Nat) (d : Int) (hk : k < xs.length) (hd : d < 0) (hn : xs[k]?.getD 0 + d < 0) (hlo : -9223372036854775808 ≤ d) : Calls Try.prog 23 #[.pointer (some ⟨dd, 0, none⟩), .int .i64 (k : Int), .int .i64 d] w fun e w' => e = .returned (.int .i64 2) ∧ w = w' := by
  have hv := Lib.hid (valid_yes h)
  have hj : decide ((k : Int) < 0) = false := decide_eq_false (by omega)
  have hj2 : decide ((xs.length : Int) ≤ (k : Int)) = false := decide_eq_false (by omega)
  have hk0 : (0 : Int) ≤ (k : Int) := by omega
  have hk1 : (k : Int) < (xs.length : Int) := by omega
  obtain ⟨dc, tb, a, b, c⟩ := h
  have c1 := a.cell 1 (v := .slice (some ⟨db, 0, none⟩) xs.length dc) rfl
  have c5 := b.cell k (Rw.at tb hk)
  obtain ⟨x, hx⟩ : ∃ x, xs[k]?.getD 0 = x := ⟨_, rfl⟩
  rw [hx] at c5 hn
  have hx0 : 0 ≤ x := by rw [← hx]; exact at_pos c.pos k
  have hdd : decide (d < 0) = true := decide_eq_true hd
  have hnd : decide (x + d < 0) = true := decide_eq_true hn
  clear a b hx
  go_enter Try.func23, Try.ntmps23
  go_wp2_with fail
  refine hv.out.mono ?_
  rintro e w' ⟨rfl, rfl⟩
  go_wp2_with fail
  go_ret
  exact ⟨rfl, rfl⟩
theorem radd_much {dd db : Nat} {xs : List Int} {w : World} (h : TabR w dd db xs) (k : Nat) (d : Int) (hk : k < xs.length) (hd : 0 < d) (hn : 9223372036854775807 < xs.sum + d) : Calls Try.prog 23 #[.pointer (some ⟨dd, 0, none⟩), .int .i64 (k : Int), .int .i64 d] w fun e w' => e = .returned (.int .i64 7) ∧ w = w' := by
  have hv := Lib.hid (valid_yes h)
  have ht := Lib.hid (rtotal_has (.inr ⟨dd, db, rfl, h⟩))
  have hj : decide ((k : Int) < 0) = false := decide_eq_false (by omega)
  have hj2 : decide ((xs.length : Int) ≤ (k : Int)) = false := decide_eq_false (by omega)
  have hk0 : (0 : Int) ≤ (k : Int) := by omega
  have hk1 : (k : Int) < (xs.length : Int) := by omega
  obtain ⟨dc, tb, a, b, c⟩ := h
  have c1 := a.cell 1 (v := .slice (some ⟨db, 0, none⟩) xs.length dc) rfl
  have c5 := b.cell k (Rw.at tb hk)
  obtain ⟨x, hx⟩ : ∃ x, xs[k]?.getD 0 = x := ⟨_, rfl⟩
  rw [hx] at c5
  have hs0 : 0 ≤ xs.sum := by have h1 := pre_nonneg c.pos xs.length; rw [pre_all _ (Nat.le_refl _)] at h1; exact h1
  have hs1 : xs.sum ≤ 9223372036854775807 := c.top
  obtain ⟨S, hS⟩ : ∃ S, xs.sum = S := ⟨_, rfl⟩
  rw [hS] at hs0 hs1 hn
  have hdd : decide (d < 0) = false := decide_eq_false (by omega)
  have hdd2 : decide (0 < d) = true := decide_eq_true hd
  have hnd : decide (9223372036854775807 - S < d) = true := decide_eq_true (by omega)
  replace hS := Lib.hid hS
  clear a b hx
  go_enter Try.func23, Try.ntmps23
  go_wp2_with fail
  refine hv.out.mono ?_
  rintro e w' ⟨rfl, rfl⟩
  go_wp2_with fail
  refine ht.out.mono ?_
  rintro e w' ⟨rfl, rfl⟩
  rw [hS.out]
  go_wp2_with fail
  go_ret
  exact ⟨rfl, rfl⟩

theorem radd_tab {A : World} {dd db k dc : Nat} {xs : List Int} {x d : Int} {tb : Array Value} (hx : xs[k]?.getD 0 = x) (hk : k < xs.length) (hn : 0 ≤ x + d) (hs : xs.sum + d ≤ 9223372036854775807) (ok : Sound xs)
    (h4 : Blk A dd #[.bool true, .slice (some ⟨db, 0, none⟩) xs.length dc] 70) (h5 : Blk A db (Rw (xs.set k (x + d)) tb) 2) : TabR A dd db (xs.set k (x + d)) := by
  subst hx
  exact ⟨dc, tb, by rw [List.length_set]; exact h4, h5, (sound_set ok hk hn hs).1⟩

set_option maxHeartbeats 4000000 in
theorem radd_dn {dd db : Nat} {xs : List Int} {w : World} (h : TabR w dd db xs) (k : Nat) (d : Int) (hk : k < xs.length) (hd : d < 0) (hn : 0 ≤ xs[k]?.getD 0 + d) (hs : xs.sum + d ≤ 9223372036854775807) (hlo : -9223372036854775808 ≤ d ∧ d ≤ 9223372036854775807) : Calls Try.prog 23 #[.pointer (some ⟨dd, 0, none⟩), .int .i64 (k : Int), .int .i64 d] w fun e w' => e = .returned (.int .i64 0) ∧ TabR w' dd db (xs.set k (xs[k]?.getD 0 + d)) ∧ Chg (fun b => b = db) w w' := by
  have hv := Lib.hid (valid_yes h)
  have ht := Lib.hid (rtotal_has (.inr ⟨dd, db, rfl, h⟩))
  have hj : decide ((k : Int) < 0) = false := decide_eq_false (by omega)
  have hj2 : decide ((xs.length : Int) ≤ (k : Int)) = false := decide_eq_false (by omega)
  have hk0 : (0 : Int) ≤ (k : Int) := by omega
  have hk1 : (k : Int) < (xs.length : Int) := by omega
  obtain ⟨dc, tb, a, b, c⟩ := h
  have c1 := a.cell 1 (v := .slice (some ⟨db, 0, none⟩) xs.length dc) rfl
  have c5 := b.cell k (Rw.at tb hk)
  have f5 := b.frozen k
  have hs0 : 0 ≤ xs.sum := by have h1 := pre_nonneg c.pos xs.length; rw [pre_all _ (Nat.le_refl _)] at h1; exact h1
  have hs1 : xs.sum ≤ 9223372036854775807 := c.top
  have hxs := at_le_sum c.pos k
  obtain ⟨x, hx⟩ : ∃ x, xs[k]?.getD 0 = x := ⟨_, rfl⟩
  have hx0 : 0 ≤ x := by rw [← hx]; exact at_pos c.pos k
  have hfin : ∀ W, W.heap = ((w.setCell ⟨db, k, none⟩ (.int .i64 (x + d))).heap) → TabR W dd db (xs.set k (x + d)) := fun W hW => by
    have h5 := b.set k (.int .i64 (x + d))
    rw [Rw.set tb _ hk] at h5
    have h4 := Blk.other a (a := ⟨db, k, none⟩) (by show dd ≠ db; intro e; subst e; have := a.symm.trans b; simp at this) (.int .i64 (x + d))
    refine radd_tab (dc := dc) (tb := tb) hx hk (by rw [← hx]; exact hn) hs c ?_ ?_
    · unfold Blk at h4 ⊢; rw [hW]; exact h4
    · unfold Blk at h5 ⊢; rw [hW]; exact h5
  rw [hx] at c5 hn hxs ⊢
  obtain ⟨S, hS⟩ : ∃ S, xs.sum = S := ⟨_, rfl⟩
  rw [hS] at hs0 hs1 hxs hs
  have hdd : decide (d < 0) = true := decide_eq_true hd
  have hdd2 : decide (0 < d) = false := decide_eq_false (by omega)
  have hnd : decide (x + d < 0) = false := decide_eq_false (by omega)
  have hw : IntKind.i64.wrap (x + d) = x + d := by rw [wrap_i64_eq]; exact w64 (by omega) (by omega)
  replace hS := Lib.hid hS
  replace hfin := Lib.hid hfin
  clear a b hx
  go_enter Try.func23, Try.ntmps23
  go_wp2_with fail
  refine hv.out.mono ?_
  rintro e w' ⟨rfl, rfl⟩
  go_wp2_with fail
  go_region_with (fail)
  all_goals
    go_wp2_with fail
    go_ret
    exact ⟨rfl, hfin.out _ rfl, (Chg.set (S := fun b => b = db) (Chg.refl _ w) (p := ⟨db, k, none⟩) rfl _).trans (Chg.of_below (bel_drew (Below.refl _ _)) _)⟩

set_option maxHeartbeats 4000000 in
theorem radd_no {dd db : Nat} {xs : List Int} {w : World} (h : TabR w dd db xs) (k : Nat) (d : Int) (hk : k < xs.length) (hd : d = 0) (hn : 0 ≤ xs[k]?.getD 0 + d) (hs : xs.sum + d ≤ 9223372036854775807) (hlo : -9223372036854775808 ≤ d ∧ d ≤ 9223372036854775807) : Calls Try.prog 23 #[.pointer (some ⟨dd, 0, none⟩), .int .i64 (k : Int), .int .i64 d] w fun e w' => e = .returned (.int .i64 0) ∧ TabR w' dd db (xs.set k (xs[k]?.getD 0 + d)) ∧ Chg (fun b => b = db) w w' := by
  have hv := Lib.hid (valid_yes h)
  have ht := Lib.hid (rtotal_has (.inr ⟨dd, db, rfl, h⟩))
  have hj : decide ((k : Int) < 0) = false := decide_eq_false (by omega)
  have hj2 : decide ((xs.length : Int) ≤ (k : Int)) = false := decide_eq_false (by omega)
  have hk0 : (0 : Int) ≤ (k : Int) := by omega
  have hk1 : (k : Int) < (xs.length : Int) := by omega
  obtain ⟨dc, tb, a, b, c⟩ := h
  have c1 := a.cell 1 (v := .slice (some ⟨db, 0, none⟩) xs.length dc) rfl
  have c5 := b.cell k (Rw.at tb hk)
  have f5 := b.frozen k
  have hs0 : 0 ≤ xs.sum := by have h1 := pre_nonneg c.pos xs.length; rw [pre_all _ (Nat.le_refl _)] at h1; exact h1
  have hs1 : xs.sum ≤ 9223372036854775807 := c.top
  have hxs := at_le_sum c.pos k
  obtain ⟨x, hx⟩ : ∃ x, xs[k]?.getD 0 = x := ⟨_, rfl⟩
  have hx0 : 0 ≤ x := by rw [← hx]; exact at_pos c.pos k
  have hfin : ∀ W, W.heap = ((w.setCell ⟨db, k, none⟩ (.int .i64 (x + d))).heap) → TabR W dd db (xs.set k (x + d)) := fun W hW => by
    have h5 := b.set k (.int .i64 (x + d))
    rw [Rw.set tb _ hk] at h5
    have h4 := Blk.other a (a := ⟨db, k, none⟩) (by show dd ≠ db; intro e; subst e; have := a.symm.trans b; simp at this) (.int .i64 (x + d))
    refine radd_tab (dc := dc) (tb := tb) hx hk (by rw [← hx]; exact hn) hs c ?_ ?_
    · unfold Blk at h4 ⊢; rw [hW]; exact h4
    · unfold Blk at h5 ⊢; rw [hW]; exact h5
  rw [hx] at c5 hn hxs ⊢
  obtain ⟨S, hS⟩ : ∃ S, xs.sum = S := ⟨_, rfl⟩
  rw [hS] at hs0 hs1 hxs hs
  have hdd : decide (d < 0) = false := decide_eq_false (by omega)
  have hdd2 : decide (0 < d) = false := decide_eq_false (by omega)
  replace hd := Lib.hid hd
  have hw : IntKind.i64.wrap (x + d) = x + d := by rw [wrap_i64_eq]; exact w64 (by omega) (by omega)
  replace hS := Lib.hid hS
  replace hfin := Lib.hid hfin
  clear a b hx
  go_enter Try.func23, Try.ntmps23
  go_wp2_with fail
  refine hv.out.mono ?_
  rintro e w' ⟨rfl, rfl⟩
  go_wp2_with fail
  go_region_with (fail)
  all_goals
    go_wp2_with fail
    go_ret
    exact ⟨rfl, hfin.out _ rfl, (Chg.set (S := fun b => b = db) (Chg.refl _ w) (p := ⟨db, k, none⟩) rfl _).trans (Chg.of_below (bel_drew (Below.refl _ _)) _)⟩

set_option maxHeartbeats 4000000 in
theorem radd_up {dd db : Nat} {xs : List Int} {w : World} (h : TabR w dd db xs) (k : Nat) (d : Int) (hk : k < xs.length) (hd : 0 < d) (hn : 0 ≤ xs[k]?.getD 0 + d) (hs : xs.sum + d ≤ 9223372036854775807) (hlo : -9223372036854775808 ≤ d ∧ d ≤ 9223372036854775807) : Calls Try.prog 23 #[.pointer (some ⟨dd, 0, none⟩), .int .i64 (k : Int), .int .i64 d] w fun e w' => e = .returned (.int .i64 0) ∧ TabR w' dd db (xs.set k (xs[k]?.getD 0 + d)) ∧ Chg (fun b => b = db) w w' := by
  have hv := Lib.hid (valid_yes h)
  have ht := Lib.hid (rtotal_has (.inr ⟨dd, db, rfl, h⟩))
  have hj : decide ((k : Int) < 0) = false := decide_eq_false (by omega)
  have hj2 : decide ((xs.length : Int) ≤ (k : Int)) = false := decide_eq_false (by omega)
  have hk0 : (0 : Int) ≤ (k : Int) := by omega
  have hk1 : (k : Int) < (xs.length : Int) := by omega
  obtain ⟨dc, tb, a, b, c⟩ := h
  have c1 := a.cell 1 (v := .slice (some ⟨db, 0, none⟩) xs.length dc) rfl
  have c5 := b.cell k (Rw.at tb hk)
  have f5 := b.frozen k
  have hs0 : 0 ≤ xs.sum := by have h1 := pre_nonneg c.pos xs.length; rw [pre_all _ (Nat.le_refl _)] at h1; exact h1
  have hs1 : xs.sum ≤ 9223372036854775807 := c.top
  have hxs := at_le_sum c.pos k
  obtain ⟨x, hx⟩ : ∃ x, xs[k]?.getD 0 = x := ⟨_, rfl⟩
  have hx0 : 0 ≤ x := by rw [← hx]; exact at_pos c.pos k
  have hfin : ∀ W, W.heap = ((w.setCell ⟨db, k, none⟩ (.int .i64 (x + d))).heap) → TabR W dd db (xs.set k (x + d)) := fun W hW => by
    have h5 := b.set k (.int .i64 (x + d))
    rw [Rw.set tb _ hk] at h5
    have h4 := Blk.other a (a := ⟨db, k, none⟩) (by show dd ≠ db; intro e; subst e; have := a.symm.trans b; simp at this) (.int .i64 (x + d))
    refine radd_tab (dc := dc) (tb := tb) hx hk (by rw [← hx]; exact hn) hs c ?_ ?_
    · unfold Blk at h4 ⊢; rw [hW]; exact h4
    · unfold Blk at h5 ⊢; rw [hW]; exact h5
  rw [hx] at c5 hn hxs ⊢
  obtain ⟨S, hS⟩ : ∃ S, xs.sum = S := ⟨_, rfl⟩
  rw [hS] at hs0 hs1 hxs hs
  have hdd : decide (d < 0) = false := decide_eq_false (by omega)
  have hdd2 : decide (0 < d) = true := decide_eq_true hd
  have hnd : decide (9223372036854775807 - S < d) = false := decide_eq_false (by omega)
  have hw : IntKind.i64.wrap (x + d) = x + d := by rw [wrap_i64_eq]; exact w64 (by omega) (by omega)
  replace hS := Lib.hid hS
  replace hfin := Lib.hid hfin
  clear a b hx
  go_enter Try.func23, Try.ntmps23
  go_wp2_with fail
  refine hv.out.mono ?_
  rintro e w' ⟨rfl, rfl⟩
  go_wp2_with fail
  refine ht.out.mono ?_
  rintro e w' ⟨rfl, rfl⟩
  rw [hS.out]
  go_wp2_with fail
  go_region_with (fail)
  all_goals
    go_wp2_with fail
    go_ret
    exact ⟨rfl, hfin.out _ rfl, (Chg.set (S := fun b => b = db) (Chg.refl _ w) (p := ⟨db, k, none⟩) rfl _).trans (Chg.of_below (bel_drew (Below.refl _ _)) _)⟩

theorem radd_has {dd db : Nat} {xs : List Int} {w : World} (h : TabR w dd db xs) (i d : Int) (hd : -9223372036854775808 ≤ d ∧ d ≤ 9223372036854775807) :
    Calls Try.prog 23 #[.pointer (some ⟨dd, 0, none⟩), .int .i64 i, .int .i64 d] w fun e w' => e = .returned (.int .i64 (addE xs i d)) ∧ TabR w' dd db (addX xs i d) ∧ Chg (fun b => b = db) w w' := by
  unfold addX
  have hok : Sound xs := h.ok
  by_cases h1 : i < 0
  · rw [show addE xs i d = 3 from if_pos (.inl h1), if_neg (by decide)]
    refine (radd_low h i d h1).mono ?_
    rintro e w' ⟨rfl, rfl⟩
    exact ⟨rfl, h, Chg.refl _ _⟩
  by_cases h2 : (xs.length : Int) ≤ i
  · rw [show addE xs i d = 3 from if_pos (.inr h2), if_neg (by decide)]
    refine (radd_high h i d h1 h2).mono ?_
    rintro e w' ⟨rfl, rfl⟩
    exact ⟨rfl, h, Chg.refl _ _⟩
  obtain ⟨k, rfl⟩ := Int.eq_ofNat_of_zero_le (show 0 ≤ i by omega)
  have hk : k < xs.length := by omega
  have hpos := at_pos hok.pos k
  have hsum := at_le_sum hok.pos k
  have htop := hok.top
  by_cases h3 : d < 0 ∧ xs[k]?.getD 0 + d < 0
  · rw [show addE xs (k : Int) d = 2 by unfold addE; rw [if_neg (by omega), if_pos (by simpa using h3)], if_neg (by decide)]
    refine (radd_neg h k d hk h3.1 h3.2 hd.1).mono ?_
    rintro e w' ⟨rfl, rfl⟩
    exact ⟨rfl, h, Chg.refl _ _⟩
  by_cases h4 : 9223372036854775807 < xs.sum + d
  · rw [show addE xs (k : Int) d = 7 by unfold addE; rw [if_neg (by omega), if_neg (by simpa using h3), if_pos h4], if_neg (by decide)]
    refine (radd_much h k d hk (by omega) h4).mono ?_
    rintro e w' ⟨rfl, rfl⟩
    exact ⟨rfl, h, Chg.refl _ _⟩
  rw [show addE xs (k : Int) d = 0 by unfold addE; rw [if_neg (by omega), if_neg (by simpa using h3), if_neg h4], if_pos rfl, Int.toNat_natCast]
  by_cases h5 : d < 0
  · exact radd_dn h k d hk h5 (by omega) (by omega) hd
  · by_cases h6 : d = 0
    · exact radd_no h k d hk h6 (by omega) (by omega) hd
    · exact radd_up h k d hk (by omega) (by omega) (by omega) hd

set_option maxHeartbeats 4000000 in
theorem rcopy_tab {dd db : Nat} {xs : List Int} {w : World} (h : TabR w dd db xs) : Calls Try.prog 25 #[.pointer (some ⟨dd, 0, none⟩)] w fun e w' => (∃ d' db', e = .returned (.pointer (some ⟨d', 0, none⟩)) ∧ w.heap.size ≤ d' ∧ w.heap.size ≤ db' ∧ TabR w' d' db' xs) ∧ Below w.heap.size w w' := by
  obtain ⟨i0, hi0, hz0, hz1, hz2⟩ := info_parts int_info
  have hv := Lib.hid (valid_yes h)
  obtain ⟨dc, tb, ha, hb, c⟩ := h
  have c1 := ha.cell 1 (v := .slice (some ⟨db, 0, none⟩) xs.length dc) rfl
  have hdl := ha.lt
  have hdn : ¬ dd = w.heap.size := by omega
  have hown : (w.alloc (.cells #[] 2)).ownsRow w.heap.size 2 1 (.slice (some ⟨w.heap.size, 0, none⟩) 0 0) 0 [] :=
    World.ownsRow_lit (size := 1) w #[] 0 (Nat.le_refl _) (by simp [maxLen]) rfl
  have hcells : ∀ j u, (xs.map (Value.int .i64))[j]? = some u → (w.alloc (.cells #[] 2)).cell? ((⟨db, 0, none⟩ : Addr).add j) = some u := by
    intro j u hu
    have hj : j < xs.length := by
      rcases Nat.lt_or_ge j xs.length with h | h
      · exact h
      · rw [List.getElem?_eq_none (by simpa using h)] at hu; cases hu
    have := (hb.alloc (.cells #[] 2)).cell j (Rw.at tb hj)
    have e : (⟨db, 0, none⟩ : Addr).add j = ⟨db, j, none⟩ := by simp [Addr.add]; exact fun h => h.symm
    rw [e, this, ← hu]
    simp [hj]
  have h1 : ∀ u ∈ xs.map (Value.int .i64), u.oneCell' = true := by
    intro u hu
    obtain ⟨x, _, rfl⟩ := List.mem_map.1 hu
    rfl
  have hlen := c.len
  replace hcells := Lib.hid hcells
  replace hown := Lib.hid hown
  clear ha hb
  go_enter Try.func25, Try.ntmps25
  go_wp2_with fail
  refine hv.out.mono ?_
  rintro e w' ⟨rfl, rfl⟩
  go_wp2_with (first
    | (at_builtin
       refine wpList_append_own_at _ rfl _ _ 47 rfl w.heap.size 2 i0 _ 1 8 Try.underlying47 hi0 hz0 hz1 hz2 rfl (by omega) _ 0 [] rfl hown.out ⟨db, 0, none⟩ xs.length dc (xs.map (Value.int .i64)) rfl (by simp) hcells.out h1 (by simp only [maxLen]; omega) (by omega) (by simp) ?_
       intro v1 w1 hown1 hg1 hlast hat1
       simp only [Nat.zero_add, List.nil_append] at hown1
       obtain ⟨g, cap, tl, rfl, hg, hblk⟩ := own_rw hown1 (fun e => by have := (hlast.1 e).1; cases this)
       clear hlast hat1 hown1))
  go_ret
  have hbw : Below w.heap.size w w1 := (bel_alloc (Below.refl _ _) _).grown hg1 (by simp) (fun k e => by have e' : some w.heap.size = some k := e; injection e' with e'; omega)
  exact ⟨⟨w1.heap.size, g, rfl, hbw.size, hg, cap, tl, Blk.new w1 _ 70, hblk.alloc _, c⟩, bel_alloc hbw _⟩
theorem rcopy_nil (w : World) : Calls Try.prog 25 #[.pointer none] w fun e w' => e = .returned (.pointer none) ∧ w = w' := by
  go_enter Try.func25, Try.ntmps25
  go_wp2_with fail
  refine (valid_nil _).mono ?_
  rintro e w' ⟨rfl, rfl⟩
  go_wp2_with fail
  go_ret
  exact ⟨rfl, rfl⟩

end Go.Proofs.Ytooppkpaahmnhaa
