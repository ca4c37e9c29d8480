/- Counters that the call made itself: what each question and each addition does to them. -/
import Derived.Test.YtooppkpaahmnhaaAdh
namespace Go.Proofs.Ytooppkpaahmnhaa
open Go.RowKit Go.Shelf
attribute [local go_sem] Oper.semAt_some

/-- counters that were made since w0; nothing older has changed -/
structure Own (w0 w : World) (c cb nb : Nat) (xs : List Int) : Prop where
  tab : Tab w c cb nb xs
  ge : w0.heap.size ≤ c ∧ w0.heap.size ≤ cb ∧ w0.heap.size ≤ nb
  bel : Below w0.heap.size w0 w
theorem Own.has {w0 w : World} {c cb nb : Nat} {xs : List Int} (h : Own w0 w c cb nb xs) : Has w (some ⟨c, 0, none⟩) xs := .inr (.inr ⟨c, cb, nb, rfl, h.tab⟩)
theorem Own.keep {w0 w w' : World} {c cb nb : Nat} {xs : List Int} (h : Own w0 w c cb nb xs) (hb : Below w.heap.size w w') : Own w0 w' c cb nb xs := ⟨h.tab.bel hb, h.ge, bel_trans h.bel hb⟩
theorem Own.ok {w0 w : World} {c cb nb : Nat} {xs : List Int} (h : Own w0 w c cb nb xs) : Sound xs := h.has.ok

theorem new_own (n : Nat) (w : World) (h : n ≤ 65536) : Calls Try.prog 17 #[.int .i64 (n : Int)] w fun e w' => ∃ c cb nb, e = .returned (.tuple #[.pointer (some ⟨c, 0, none⟩), .int .i64 0]) ∧ Own w w' c cb nb (List.replicate n 0) :=
  (new_yes n w h).mono fun _ _ ⟨⟨c, cb, nb, h1, h2, h3, h4, he⟩, hb⟩ => ⟨c, cb, nb, he, h4, ⟨h1, h2, h3⟩, hb⟩
theorem add_own {w0 w : World} {c cb nb : Nat} {xs : List Int} (h : Own w0 w c cb nb xs) (i d : Int) (hd : -9223372036854775808 ≤ d ∧ d ≤ 9223372036854775807) :
    Calls Try.prog 22 #[.pointer (some ⟨c, 0, none⟩), .int .i64 i, .int .i64 d] w fun e w' => e = .returned (.int .i64 (addE xs i d)) ∧ Own w0 w' c cb nb (addX xs i d) :=
  (add_has i d w h.tab hd).mono fun _ _ ⟨he, h1, h2⟩ => ⟨he, h1, h.ge, h.bel.trans (h2.below h.bel.size (by rintro k _ (e | e | e) <;> subst e <;> first | exact h.ge.1 | exact h.ge.2.1 | exact h.ge.2.2))⟩
theorem get_own {w0 w : World} {c cb nb : Nat} {xs : List Int} (h : Own w0 w c cb nb xs) (i : Int) :
    Calls Try.prog 20 #[.pointer (some ⟨c, 0, none⟩), .int .i64 i] w fun e w' => e = .returned (.int .i64 (getZ xs i)) ∧ Own w0 w' c cb nb xs :=
  (get_has i w h.has).mono fun _ _ ⟨he, hw⟩ => ⟨he, hw ▸ h⟩
theorem total_own {w0 w : World} {c cb nb : Nat} {xs : List Int} (h : Own w0 w c cb nb xs) :
    Calls Try.prog 16 #[.pointer (some ⟨c, 0, none⟩)] w fun e w' => e = .returned (.int .i64 xs.sum) ∧ Own w0 w' c cb nb xs :=
  (total_has h.has).mono fun _ _ ⟨he, hw⟩ => ⟨he, hw ▸ h⟩
theorem len_own {w0 w : World} {c cb nb : Nat} {xs : List Int} (h : Own w0 w c cb nb xs) :
    Calls Try.prog 26 #[.pointer (some ⟨c, 0, none⟩)] w fun e w' => e = .returned (.int .i64 (xs.length : Int)) ∧ Own w0 w' c cb nb xs :=
  (len_has h.has).mono fun _ _ ⟨he, hw⟩ => ⟨he, hw ▸ h⟩
theorem prefix_own {w0 w : World} {c cb nb : Nat} {xs : List Int} (h : Own w0 w c cb nb xs) (k : Int) :
    Calls Try.prog 15 #[.pointer (some ⟨c, 0, none⟩), .int .i64 k] w fun e w' => e = .returned (.int .i64 (pre xs k.toNat)) ∧ Own w0 w' c cb nb xs :=
  (prefix_has k w h.has).mono fun _ _ ⟨he, hw⟩ => ⟨he, h.keep hw⟩
theorem range_own {w0 w : World} {c cb nb : Nat} {xs : List Int} (h : Own w0 w c cb nb xs) (a b : Int) :
    Calls Try.prog 21 #[.pointer (some ⟨c, 0, none⟩), .int .i64 a, .int .i64 b] w fun e w' => e = .returned (.int .i64 (rangeZ xs a b)) ∧ Own w0 w' c cb nb xs :=
  (range_has a b w h.has).mono fun _ _ ⟨he, hw⟩ => ⟨he, h.keep hw⟩
theorem find_own {w0 w : World} {c cb nb : Nat} {xs : List Int} (h : Own w0 w c cb nb xs) (x : Int) :
    Calls Try.prog 14 #[.pointer (some ⟨c, 0, none⟩), .int .i64 x] w fun e w' => ∃ (i : Int) (ok : Bool), e = .returned (.tuple #[.int .i64 i, .bool ok]) ∧ Found xs x i ok ∧ Own w0 w' c cb nb xs :=
  (find_has x w h.has).mono fun _ _ ⟨⟨i, ok, hf, he⟩, hw⟩ => ⟨i, ok, he, hf, h.keep hw⟩

theorem found_yes {xs : List Int} (ok : Sound xs) {x i : Int} {b : Bool} (h : Found xs x i b) {k : Nat} (hk : pre xs k ≤ x) (hk' : x < pre xs (k + 1)) : i = (k : Int) ∧ b = true := by
  have h0 := pre_nonneg ok.pos k
  have h1 := pre_le_sum ok.pos (k + 1)
  rcases h with ⟨_, _, h⟩ | ⟨j, rfl, rfl, _, _, _, h4, h5⟩
  · omega
  · refine ⟨?_, rfl⟩
    have a1 : ¬ j < k := fun h => by have := pre_mono ok.pos (show j + 1 ≤ k from h); omega
    have a2 : ¬ k < j := fun h => by have := pre_mono ok.pos (show k + 1 ≤ j from h); omega
    omega
theorem found_no {xs : List Int} {x i : Int} {b : Bool} (h : Found xs x i b) (hx : x < 0 ∨ xs.sum ≤ x) : i = 0 ∧ b = false := by
  rcases h with ⟨rfl, rfl, _⟩ | ⟨j, rfl, rfl, h1, h2, _⟩
  · exact ⟨rfl, rfl⟩
  · omega

set_option maxRecDepth 100000 in
set_option maxHeartbeats 4000000 in
theorem works_any (w : World) : Calls Try.prog 12 #[] w fun e w' => e = .returned (.bool true) ∧ Below w.heap.size w w' := by
  go_enter Try.func12, Try.ntmps12
  go_wp2_with fail
  refine (new_own 4 w (by decide)).mono ?_
  rintro e w1 ⟨c, cb, nb, rfl, o1⟩
  go_wp2_with fail
  refine (add_own o1 0 3 (by decide)).mono ?_
  clear o1
  rintro e w2 ⟨rfl, o2⟩
  rw [show addE (List.replicate 4 0) 0 3 = 0 by decide]
  rw [show addX (List.replicate 4 0) 0 3 = [3, 0, 0, 0] by decide] at o2
  go_wp2_with fail
  refine (add_own o2 2 5 (by decide)).mono ?_
  clear o2
  rintro e w3 ⟨rfl, o3⟩
  rw [show addE [3, 0, 0, 0] 2 5 = 0 by decide]
  rw [show addX [3, 0, 0, 0] 2 5 = [3, 0, 5, 0] by decide] at o3
  go_wp2_with fail
  refine (add_own o3 3 1 (by decide)).mono ?_
  clear o3
  rintro e w4 ⟨rfl, o4⟩
  rw [show addE [3, 0, 5, 0] 3 1 = 0 by decide]
  rw [show addX [3, 0, 5, 0] 3 1 = [3, 0, 5, 1] by decide] at o4
  go_wp2_with fail
  refine (add_own o4 2 (-6) (by decide)).mono ?_
  clear o4
  rintro e w5 ⟨rfl, o5⟩
  rw [show addE [3, 0, 5, 1] 2 (-6) = 2 by decide]
  rw [show addX [3, 0, 5, 1] 2 (-6) = [3, 0, 5, 1] by decide] at o5
  go_wp2_with fail
  refine (find_own o5 7).mono ?_
  rintro e w6 ⟨i, ok, rfl, hf, o6⟩
  obtain ⟨rfl, rfl⟩ := found_yes o5.ok hf (k := 2) (by decide) (by decide)
  clear hf o5
  go_wp2_with fail
  refine (find_own o6 9).mono ?_
  rintro e w7 ⟨i, ok, rfl, hf, o7⟩
  obtain ⟨rfl, rfl⟩ := found_no hf (.inr (by decide))
  clear hf o6
  go_wp2_with fail
  refine (prefix_own o7 3).mono ?_
  clear o7
  rintro e w8 ⟨rfl, o8⟩
  rw [show pre [3, 0, 5, 1] (3 : Int).toNat = 8 by decide]
  go_wp2_with fail
  refine (range_own o8 (-5) 9).mono ?_
  clear o8
  rintro e w9 ⟨rfl, o9⟩
  rw [show rangeZ [3, 0, 5, 1] (-5) 9 = 9 by decide]
  have o9 := Lib.hid o9
  go_wp2_with fail
  go_ret
  exact ⟨rfl, o9.out.bel⟩

end Go.Proofs.Ytooppkpaahmnhaa
