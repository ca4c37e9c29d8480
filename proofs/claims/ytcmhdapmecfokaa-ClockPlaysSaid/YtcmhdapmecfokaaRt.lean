/- Integers of the reference: what fits in 64 bits; Add. -/
import Derived.Test.YtcmhdapmecfokaaRs
namespace Go.Proofs.Ytcmhdapmecfokaa
open Go.RowKit

def mx : Int := 9223372036854775807

set_option maxHeartbeats 1000000 in
theorem int_far (s : Bool) (a b c : Int) (w : World) (hc : (c != 0) = true) : Calls Try.prog 44 #[Wv s a b c] w fun e w' => e = .returned (.tuple #[.int .i64 0, .bool false]) ∧ Below w.heap.size w w' := by
  go_enter Try.func44, Try.ntmps44
  go_wp2
  go_ret2
  exact ⟨rfl, bel_alloc (Below.refl _ _) _⟩

set_option maxHeartbeats 1000000 in
theorem int_pos (a b : Int) (w : World) (ha : 0 ≤ a ∧ a < 4294967296) (hb : 0 ≤ b ∧ b < 4294967296) (h : b * 4294967296 + a ≤ 9223372036854775807) : Calls Try.prog 44 #[Wv false a b 0] w fun e w' => e = .returned (.tuple #[.int .i64 (b * 4294967296 + a), .bool true]) ∧ Below w.heap.size w w' := by
  go_enter Try.func44, Try.ntmps44
  go_wp2
  go_ret2
  exact ⟨rfl, bel_alloc (Below.refl _ _) _⟩

set_option maxHeartbeats 1000000 in
theorem int_posno (a b : Int) (w : World) (_ha : 0 ≤ a ∧ a < 4294967296) (hb : 0 ≤ b ∧ b < 4294967296) (h : 9223372036854775807 < b * 4294967296 + a) : Calls Try.prog 44 #[Wv false a b 0] w fun e w' => e = .returned (.tuple #[.int .i64 0, .bool false]) ∧ Below w.heap.size w w' := by
  go_enter Try.func44, Try.ntmps44
  go_wp2
  go_ret2
  exact ⟨rfl, bel_alloc (Below.refl _ _) _⟩

set_option maxHeartbeats 1000000 in
theorem int_negno (a b : Int) (w : World) (_ha : 0 ≤ a ∧ a < 4294967296) (hb : 0 ≤ b ∧ b < 4294967296) (h : 9223372036854775808 < b * 4294967296 + a) : Calls Try.prog 44 #[Wv true a b 0] w fun e w' => e = .returned (.tuple #[.int .i64 0, .bool false]) ∧ Below w.heap.size w w' := by
  go_enter Try.func44, Try.ntmps44
  go_wp2
  go_ret2
  exact ⟨rfl, bel_alloc (Below.refl _ _) _⟩

set_option maxHeartbeats 1000000 in
theorem int_neg (a b : Int) (w : World) (_ha : 0 ≤ a ∧ a < 4294967296) (hb : 0 ≤ b ∧ b < 4294967296) (h : b * 4294967296 + a ≤ 9223372036854775808) (h0 : 1 ≤ b * 4294967296 + a) : Calls Try.prog 44 #[Wv true a b 0] w fun e w' => e = .returned (.tuple #[.int .i64 (-(b * 4294967296 + a - 1) - 1), .bool true]) ∧ Below w.heap.size w w' := by
  have h1 : (b * 4294967296 + a == 0) = false := by rw [beq_eq_false_iff_ne]; omega
  go_enter Try.func44, Try.ntmps44
  go_wp2
  go_ret2
  exact ⟨rfl, bel_alloc (Below.refl _ _) _⟩

set_option maxHeartbeats 1000000 in
theorem int_negz (w : World) : Calls Try.prog 44 #[Wv true 0 0 0] w fun e w' => e = .returned (.tuple #[.int .i64 0, .bool true]) ∧ Below w.heap.size w w' := by
  go_enter Try.func44, Try.ntmps44
  go_wp2
  go_ret2
  exact ⟨rfl, bel_alloc (Below.refl _ _) _⟩

theorem ret_pair {a b : Int} {t u : Bool} (h : a = b) (g : t = u) : Ending.returned (.tuple #[.int .i64 a, .bool t]) = .returned (.tuple #[.int .i64 b, .bool u]) := by rw [h, g]

theorem int_any (s : Bool) (a b c x : Int) (w : World) (ha : 0 ≤ a ∧ a < 4294967296) (hb : 0 ≤ b ∧ b < 4294967296) (hc : 0 ≤ c ∧ c ≤ 1) (hx : sg s (a + b * 4294967296 + c * 18446744073709551616) = x) :
    Calls Try.prog 44 #[Wv s a b c] w fun e w' => e = .returned (.tuple #[.int .i64 (if -9223372036854775808 ≤ x ∧ x ≤ 9223372036854775807 then x else 0), .bool (decide (-9223372036854775808 ≤ x ∧ x ≤ 9223372036854775807))]) ∧ Below w.heap.size w w' := by
  by_cases h : c = 0
  · subst h
    cases s
    · have e : a + b * 4294967296 = x := by rw [← hx]; unfold sg; simp
      by_cases h1 : b * 4294967296 + a ≤ 9223372036854775807
      · rw [if_pos (by omega), decide_eq_true (by omega)]
        exact (int_pos a b w ha hb h1).mono fun e' w' ⟨he, hl⟩ => ⟨he.trans (ret_pair (by omega) rfl), hl⟩
      · rw [if_neg (by omega), decide_eq_false (by omega)]
        exact int_posno a b w ha hb (by omega)
    · have e : -(a + b * 4294967296) = x := by rw [← hx]; unfold sg; simp
      by_cases h1 : b * 4294967296 + a ≤ 9223372036854775808
      · by_cases h2 : 1 ≤ b * 4294967296 + a
        · rw [if_pos (by omega), decide_eq_true (by omega)]
          exact (int_neg a b w ha hb h1 h2).mono fun e' w' ⟨he, hl⟩ => ⟨he.trans (ret_pair (by omega) rfl), hl⟩
        · obtain ⟨rfl, rfl⟩ : a = 0 ∧ b = 0 := by omega
          rw [if_pos (by omega), decide_eq_true (by omega)]
          exact (int_negz w).mono fun e' w' ⟨he, hl⟩ => ⟨he.trans (ret_pair (by omega) rfl), hl⟩
      · rw [if_neg (by omega), decide_eq_false (by omega)]
        exact int_negno a b w ha hb (by omega)
  · have hn : ¬ (-9223372036854775808 ≤ x ∧ x ≤ 9223372036854775807) := by
      rw [← hx]; unfold sg
      cases s
      · simp only [Bool.false_eq_true, if_false]; omega
      · simp only [if_true]; omega
    rw [if_neg hn, decide_eq_false hn]
    exact int_far s a b c w (by simpa using h)

set_option maxHeartbeats 1000000 in
theorem fit_any (s : Bool) (a b c x : Int) (w : World) (ha : 0 ≤ a ∧ a < 4294967296) (hb : 0 ≤ b ∧ b < 4294967296) (hc : 0 ≤ c ∧ c ≤ 1) (hx : sg s (a + b * 4294967296 + c * 18446744073709551616) = x) :
    Calls Try.prog 38 #[Wv s a b c] w fun e w' => e = .returned (.tuple #[.int .i64 (if -9223372036854775808 ≤ x ∧ x ≤ 9223372036854775807 then x else 0), .int .i64 (if -9223372036854775808 ≤ x ∧ x ≤ 9223372036854775807 then 0 else 7)]) ∧ Below w.heap.size w w' := by
  have h0 := fun w => int_any s a b c x w ha hb hc hx
  by_cases hi : -9223372036854775808 ≤ x ∧ x ≤ 9223372036854775807
  · simp only [if_pos hi, decide_eq_true hi] at h0 ⊢
    have H0 := Lib.hid h0
    clear h0 hi
    go_enter Try.func38, Try.ntmps38
    go_wp2_with (go_at_call 44; refine (H0.out _).mono ?_; rintro e w1 ⟨rfl, hb1⟩)
    go_ret2
    exact ⟨rfl, bel_trans (bel_alloc (Below.refl _ _) _) hb1⟩
  · simp only [if_neg hi, decide_eq_false hi] at h0 ⊢
    have H0 := Lib.hid h0
    clear h0 hi
    go_enter Try.func38, Try.ntmps38
    go_wp2_with (go_at_call 44; refine (H0.out _).mono ?_; rintro e w1 ⟨rfl, hb1⟩)
    go_ret2
    exact ⟨rfl, bel_trans (bel_alloc (Below.refl _ _) _) hb1⟩

theorem from_any (x : Int) (w : World) (hx : -9223372036854775808 ≤ x ∧ x ≤ 9223372036854775807) : Calls Try.prog 36 #[.int .i64 x] w fun e w' => ∃ s a b, e = .returned (Wv s a b 0) ∧ (0 ≤ a ∧ a < 4294967296) ∧ (0 ≤ b ∧ b < 4294967296) ∧
    sg s (a + b * 4294967296) = x ∧ Below w.heap.size w w' := by
  by_cases h : 0 ≤ x
  · exact (from_pos x w h hx.2).mono fun e w' ⟨he, hl⟩ => ⟨_, _, _, he, by omega, by omega, by unfold sg; simp only [Bool.false_eq_true, if_false]; omega, hl⟩
  · exact (from_neg x w (by omega) hx.1).mono fun e w' ⟨he, hl⟩ => ⟨_, _, _, he, by omega, by omega, by unfold sg; simp only [if_true]; omega, hl⟩

def ovf (x : Int) : Int := if -9223372036854775808 ≤ x ∧ x ≤ 9223372036854775807 then x else 0
def ove (x : Int) : Int := if -9223372036854775808 ≤ x ∧ x ≤ 9223372036854775807 then 0 else 7

theorem fit_ov (s : Bool) (a b c x : Int) (w : World) (ha : 0 ≤ a ∧ a < 4294967296) (hb : 0 ≤ b ∧ b < 4294967296) (hc : 0 ≤ c ∧ c ≤ 1) (hx : sg s (a + b * 4294967296 + c * 18446744073709551616) = x) :
    Calls Try.prog 38 #[Wv s a b c] w fun e w' => e = .returned (.tuple #[.int .i64 (ovf x), .int .i64 (ove x)]) ∧ Below w.heap.size w w' := fit_any s a b c x w ha hb hc hx

set_option maxHeartbeats 1000000 in
theorem radd_any (x y : Int) (w : World) (hx : -9223372036854775808 ≤ x ∧ x ≤ 9223372036854775807) (hy : -9223372036854775808 ≤ y ∧ y ≤ 9223372036854775807) :
    Calls Try.prog 33 #[.int .i64 x, .int .i64 y] w fun e w' => e = .returned (.tuple #[.int .i64 (ovf (x + y)), .int .i64 (ove (x + y))]) ∧ Below w.heap.size w w' := by
  go_enter Try.func33, Try.ntmps33
  go_wp2_with fail
  refine (from_any x _ hx).mono ?_
  rintro e w1 ⟨s, a, b, rfl, ha, hb, hab, hb1⟩
  have HX := Lib.hid hab
  clear hab
  go_wp2_with fail
  refine (from_any y _ hy).mono ?_
  rintro e w2 ⟨t, c, d, rfl, hc, hd, hcd, hb2⟩
  have HY := Lib.hid hcd
  clear hcd
  go_wp2_with fail
  refine (plus_any s t a b c d _ ha hb hc hd).mono ?_
  rintro e w3 ⟨u, p, q, r, rfl, hp, hq, hr, hpq, hb3⟩
  rw [HX.out, HY.out] at hpq
  have HP := Lib.hid hpq
  clear hpq
  go_wp2_with fail
  refine (fit_ov u p q r (x + y) _ hp hq hr HP.out).mono ?_
  rintro e w4 ⟨rfl, hb4⟩
  go_wp2
  go_ret2
  exact ⟨rfl, bel_trans (bel_trans (bel_trans hb1 hb2) hb3) hb4⟩
end Go.Proofs.Ytcmhdapmecfokaa
