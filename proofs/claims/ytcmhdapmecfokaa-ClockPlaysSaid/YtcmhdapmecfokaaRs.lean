/- Integers of the reference: signs, comparison, and what fits. -/
import Derived.Test.YtcmhdapmecfokaaRq
import Derived.Test.YtcmhdapmecfokaaRr
namespace Go.Proofs.Ytcmhdapmecfokaa
open Go.RowKit

set_option maxHeartbeats 1000000 in
theorem negate_any (s : Bool) (a b c : Int) (w : World) : Calls Try.prog 43 #[Wv s a b c] w fun e w' => e = .returned (Wv (!s) a b c) ∧ Below w.heap.size w w' := by
  go_enter Try.func43, Try.ntmps43
  go_wp2
  refine bodyPost_ret (v := Wv (!s) a b c) (by simp [results, Try.results43, go_sem]) rfl ⟨rfl, ?_⟩
  repeat (first | (with_reducible refine bel_alloc ?_ _) | (with_reducible exact Below.refl _ _))

theorem eq56 (a b c : Int) (w : World) : (Op.equalIn 10000 56 (.agg (Dg a b c)) (.agg (Dg 0 0 0))).run Try.prog w = .ok (decide (a = 0 ∧ b = 0 ∧ c = 0)) w := by
  have u3 := Try.underlying55
  have a3 := Try.isAgg55
  have z3 := Try.sizeOf55
  rw [show (10000 : Nat) = 9999 + 1 from rfl, Op.equalIn]
  simp only [Sem.run_bind, run_underlying Try.underlying56, Result.andThen_ok]
  simp only [Std.Legacy.Range.forIn_eq_forIn_range', Std.Legacy.Range.size, Nat.sub_zero, Nat.add_sub_cancel, Nat.div_one, List.range'_succ, List.range'_zero, List.forIn_cons, List.forIn_nil]
  go_simp
  by_cases h1 : a = 0 <;> by_cases h2 : b = 0 <;> by_cases h3 : c = 0 <;> simp [h1, h2, h3]

set_option maxHeartbeats 1000000 in
theorem zero_any (s : Bool) (a b c : Int) (w : World) : Calls Try.prog 45 #[Wv s a b c] w fun e w' => e = .returned (.bool (decide (a = 0 ∧ b = 0 ∧ c = 0))) ∧ Below w.heap.size w w' := by
  have h := eq56 a b c
  go_enter Try.func45, Try.ntmps45
  go_wp2
  go_ret
  refine ⟨ret_bool (show (decide (a = 0) && (decide (b = 0) && decide (c = 0))) = decide (a = 0 ∧ b = 0 ∧ c = 0) by simp), ?_⟩
  repeat (first | (with_reducible refine bel_alloc ?_ _) | (with_reducible exact Below.refl _ _))

/-- a signed number -/
def sg (s : Bool) (m : Int) : Int := if s then -m else m
def sgn (x : Int) : Int := if x < 0 then -1 else if x = 0 then 0 else 1

theorem plus_any (s t : Bool) (a b c d : Int) (w : World) (ha : 0 ≤ a ∧ a < 4294967296) (hb : 0 ≤ b ∧ b < 4294967296) (hc : 0 ≤ c ∧ c < 4294967296) (hd : 0 ≤ d ∧ d < 4294967296) :
    Calls Try.prog 35 #[Wv s a b 0, Wv t c d 0] w fun e w' => ∃ u p q r, e = .returned (Wv u p q r) ∧ (0 ≤ p ∧ p < 4294967296) ∧ (0 ≤ q ∧ q < 4294967296) ∧ (0 ≤ r ∧ r ≤ 1) ∧
      sg u (p + q * 4294967296 + r * 18446744073709551616) = sg s (a + b * 4294967296) + sg t (c + d * 4294967296) ∧ Below w.heap.size w w' := by
  by_cases h : s = t
  · subst h
    refine (plus_same s a b c d w ha hb hc hd).mono fun e w' ⟨he, hbl⟩ => ⟨_, _, _, _, he, by omega, by omega, by omega, ?_, hbl⟩
    unfold sg
    cases s
    · simp only [Bool.false_eq_true, if_false]; omega
    · simp only [if_true]; omega
  · have hst : (s == t) = false := by simpa using h
    have ht : t = !s := by cases s <;> cases t <;> simp_all
    by_cases hle : c + d * 4294967296 ≤ a + b * 4294967296
    · refine (plus_ge s t a b c d w ha hb hc hd hle hst).mono fun e w' ⟨he, hbl⟩ => ⟨_, _, _, _, he, by omega, by omega, by omega, ?_, hbl⟩
      subst ht
      unfold sg
      cases s
      · simp only [Bool.false_eq_true, if_false, Bool.not_false, if_true]; omega
      · simp only [if_true, Bool.not_true, Bool.false_eq_true, if_false]; omega
    · refine (plus_lt s t a b c d w ha hb hc hd (by omega) hst).mono fun e w' ⟨he, hbl⟩ => ⟨_, _, _, _, he, by omega, by omega, by omega, ?_, hbl⟩
      subst ht
      unfold sg
      cases s
      · simp only [Bool.false_eq_true, if_false, Bool.not_false, if_true]; omega
      · simp only [if_true, Bool.not_true, Bool.false_eq_true, if_false]; omega

set_option maxHeartbeats 1000000 in
theorem sign_raw (s : Bool) (a b c z : Int) (w : World) (hz : decide (a = 0 ∧ b = 0 ∧ c = 0) = false) (e : z = if s then -1 else 1) :
    Calls Try.prog 42 #[Wv s a b c] w fun e w' => e = .returned (.int .i64 z) ∧ Below w.heap.size w w' := by
  have hb0 : Below w.heap.size w (w.alloc (.cells #[.bool s, .int .u64 a, .int .u64 b, .int .u64 c, .int .u64 0, .int .u64 0, .int .u64 0] 58)) := bel_alloc (Below.refl _ _) _
  have bA := Blk.new w #[.bool s, .int .u64 a, .int .u64 b, .int .u64 c, .int .u64 0, .int .u64 0, .int .u64 0] 58
  subst e
  go_enter Try.func42, Try.ntmps42
  go_wp2_with fail
  generalize w.alloc (.cells #[.bool s, .int .u64 a, .int .u64 b, .int .u64 c, .int .u64 0, .int .u64 0, .int .u64 0] 58) = W at *
  have hZ := zero_any s a b c W
  rw [hz] at hZ
  refine hZ.mono ?_
  clear hZ
  rintro e w1 ⟨rfl, hb1⟩
  have q0 := (bA.below hb1 bA.lt).cell 0 (v := .bool s) rfl
  clear bA hz
  have hB := bel_trans hb0 hb1
  clear hb0 hb1
  cases s
  · go_wp2
    go_ret
    exact ⟨rfl, hB⟩
  · go_wp2
    go_ret
    exact ⟨rfl, hB⟩

set_option maxHeartbeats 1000000 in
theorem sign_zero (s : Bool) (w : World) : Calls Try.prog 42 #[Wv s 0 0 0] w fun e w' => e = .returned (.int .i64 0) ∧ Below w.heap.size w w' := by
  have hb0 : Below w.heap.size w (w.alloc (.cells #[.bool s, .int .u64 0, .int .u64 0, .int .u64 0, .int .u64 0, .int .u64 0, .int .u64 0] 58)) := bel_alloc (Below.refl _ _) _
  go_enter Try.func42, Try.ntmps42
  go_wp2_with fail
  refine (zero_any s 0 0 0 _).mono ?_
  rintro e w1 ⟨rfl, hb1⟩
  have hB := bel_trans hb0 hb1
  clear hb0 hb1
  go_wp2
  go_ret
  exact ⟨rfl, hB⟩

theorem sign_any (s : Bool) (a b c : Int) (w : World) (ha : 0 ≤ a ∧ a < 4294967296) (hb : 0 ≤ b ∧ b < 4294967296) (hc : 0 ≤ c ∧ c ≤ 1) :
    Calls Try.prog 42 #[Wv s a b c] w fun e w' => e = .returned (.int .i64 (sgn (sg s (a + b * 4294967296 + c * 18446744073709551616)))) ∧ Below w.heap.size w w' := by
  by_cases h : a = 0 ∧ b = 0 ∧ c = 0
  · obtain ⟨rfl, rfl, rfl⟩ := h
    have e : sgn (sg s (0 + 0 * 4294967296 + 0 * 18446744073709551616)) = 0 := by cases s <;> rfl
    rw [e]
    exact sign_zero s w
  · refine sign_raw s a b c _ w (decide_eq_false h) ?_
    unfold sgn sg
    cases s
    · simp only [Bool.false_eq_true, if_false]
      rw [if_neg (by omega), if_neg (by omega)]
    · simp only [if_true]
      rw [if_pos (by omega)]

theorem ps2_keep {A B n : Nat} {x0 x1 x2 x3 x4 x5 x6 y0 y1 y2 y3 y4 y5 y6 : Value} {W w' : World} (hb : Below n W w') (hA : A < n) (hB : B < n)
    (h : W.cell? ⟨A, 0, none⟩ = some (x0) ∧ W.cell? ⟨A, 1, none⟩ = some (x1) ∧ W.cell? ⟨A, 2, none⟩ = some (x2) ∧ W.cell? ⟨A, 3, none⟩ = some (x3) ∧ W.cell? ⟨A, 4, none⟩ = some (x4) ∧ W.cell? ⟨A, 5, none⟩ = some (x5) ∧ W.cell? ⟨A, 6, none⟩ = some (x6) ∧ W.cell? ⟨B, 0, none⟩ = some (y0) ∧ W.cell? ⟨B, 1, none⟩ = some (y1) ∧ W.cell? ⟨B, 2, none⟩ = some (y2) ∧ W.cell? ⟨B, 3, none⟩ = some (y3) ∧ W.cell? ⟨B, 4, none⟩ = some (y4) ∧ W.cell? ⟨B, 5, none⟩ = some (y5) ∧ W.cell? ⟨B, 6, none⟩ = some (y6)) : w'.cell? ⟨A, 0, none⟩ = some (x0) ∧ w'.cell? ⟨A, 1, none⟩ = some (x1) ∧ w'.cell? ⟨A, 2, none⟩ = some (x2) ∧ w'.cell? ⟨A, 3, none⟩ = some (x3) ∧ w'.cell? ⟨A, 4, none⟩ = some (x4) ∧ w'.cell? ⟨A, 5, none⟩ = some (x5) ∧ w'.cell? ⟨A, 6, none⟩ = some (x6) ∧ w'.cell? ⟨B, 0, none⟩ = some (y0) ∧ w'.cell? ⟨B, 1, none⟩ = some (y1) ∧ w'.cell? ⟨B, 2, none⟩ = some (y2) ∧ w'.cell? ⟨B, 3, none⟩ = some (y3) ∧ w'.cell? ⟨B, 4, none⟩ = some (y4) ∧ w'.cell? ⟨B, 5, none⟩ = some (y5) ∧ w'.cell? ⟨B, 6, none⟩ = some (y6) := by
  obtain ⟨h0, h1, h2, h3, h4, h5, h6, h7, h8, h9, h10, h11, h12, h13⟩ := h
  exact ⟨cell_keep hb hA h0, cell_keep hb hA h1, cell_keep hb hA h2, cell_keep hb hA h3, cell_keep hb hA h4, cell_keep hb hA h5, cell_keep hb hA h6, cell_keep hb hB h7, cell_keep hb hB h8, cell_keep hb hB h9, cell_keep hb hB h10, cell_keep hb hB h11, cell_keep hb hB h12, cell_keep hb hB h13⟩

set_option maxHeartbeats 4000000 in
set_option maxRecDepth 100000 in
theorem order_any (s t : Bool) (a b c d : Int) (w : World) (ha : 0 ≤ a ∧ a < 4294967296) (hb : 0 ≤ b ∧ b < 4294967296) (hc : 0 ≤ c ∧ c < 4294967296) (hd : 0 ≤ d ∧ d < 4294967296) :
    Calls Try.prog 37 #[Wv s a b 0, Wv t c d 0] w fun e w' => e = .returned (.int .i64 (sgn (sg s (a + b * 4294967296) - sg t (c + d * 4294967296)))) ∧ Below w.heap.size w w' := by
  have hB0 : Below w.heap.size w ((w.alloc (.cells #[.bool s, .int .u64 a, .int .u64 b, .int .u64 0, .int .u64 0, .int .u64 0, .int .u64 0] 58)).alloc (.cells #[.bool t, .int .u64 c, .int .u64 d, .int .u64 0, .int .u64 0, .int .u64 0, .int .u64 0] 58)) := bel_alloc (bel_alloc (Below.refl _ _) _) _
  have hz : ((w.alloc (.cells #[.bool s, .int .u64 a, .int .u64 b, .int .u64 0, .int .u64 0, .int .u64 0, .int .u64 0] 58)).alloc (.cells #[.bool t, .int .u64 c, .int .u64 d, .int .u64 0, .int .u64 0, .int .u64 0, .int .u64 0] 58)).heap.size = w.heap.size + 2 := by simp
  have bA : Blk ((w.alloc (.cells #[.bool s, .int .u64 a, .int .u64 b, .int .u64 0, .int .u64 0, .int .u64 0, .int .u64 0] 58)).alloc (.cells #[.bool t, .int .u64 c, .int .u64 d, .int .u64 0, .int .u64 0, .int .u64 0, .int .u64 0] 58)) w.heap.size #[.bool s, .int .u64 a, .int .u64 b, .int .u64 0, .int .u64 0, .int .u64 0, .int .u64 0] 58 := (Blk.new _ _ _).alloc _
  have bB : Blk ((w.alloc (.cells #[.bool s, .int .u64 a, .int .u64 b, .int .u64 0, .int .u64 0, .int .u64 0, .int .u64 0] 58)).alloc (.cells #[.bool t, .int .u64 c, .int .u64 d, .int .u64 0, .int .u64 0, .int .u64 0, .int .u64 0] 58)) (w.heap.size + 1) #[.bool t, .int .u64 c, .int .u64 d, .int .u64 0, .int .u64 0, .int .u64 0, .int .u64 0] 58 := by have := Blk.new (w.alloc (.cells #[.bool s, .int .u64 a, .int .u64 b, .int .u64 0, .int .u64 0, .int .u64 0, .int .u64 0] 58)) #[.bool t, .int .u64 c, .int .u64 d, .int .u64 0, .int .u64 0, .int .u64 0, .int .u64 0] 58; simpa using this
  go_enter Try.func37, Try.ntmps37
  go_wp2_with fail
  generalize (w.alloc (.cells #[.bool s, .int .u64 a, .int .u64 b, .int .u64 0, .int .u64 0, .int .u64 0, .int .u64 0] 58)).alloc (.cells #[.bool t, .int .u64 c, .int .u64 d, .int .u64 0, .int .u64 0, .int .u64 0, .int .u64 0] 58) = W at *
  obtain ⟨q0, q1, q2, q3, q4, q5, q6, q7, q8, q9, q10, q11, q12, q13⟩ : W.cell? ⟨w.heap.size, 0, none⟩ = some (.bool s) ∧ W.cell? ⟨w.heap.size, 1, none⟩ = some (.int .u64 a) ∧ W.cell? ⟨w.heap.size, 2, none⟩ = some (.int .u64 b) ∧ W.cell? ⟨w.heap.size, 3, none⟩ = some (.int .u64 0) ∧ W.cell? ⟨w.heap.size, 4, none⟩ = some (.int .u64 0) ∧ W.cell? ⟨w.heap.size, 5, none⟩ = some (.int .u64 0) ∧ W.cell? ⟨w.heap.size, 6, none⟩ = some (.int .u64 0) ∧ W.cell? ⟨w.heap.size + 1, 0, none⟩ = some (.bool t) ∧ W.cell? ⟨w.heap.size + 1, 1, none⟩ = some (.int .u64 c) ∧ W.cell? ⟨w.heap.size + 1, 2, none⟩ = some (.int .u64 d) ∧ W.cell? ⟨w.heap.size + 1, 3, none⟩ = some (.int .u64 0) ∧ W.cell? ⟨w.heap.size + 1, 4, none⟩ = some (.int .u64 0) ∧ W.cell? ⟨w.heap.size + 1, 5, none⟩ = some (.int .u64 0) ∧ W.cell? ⟨w.heap.size + 1, 6, none⟩ = some (.int .u64 0) := ⟨bA.cell 0 rfl, bA.cell 1 rfl, bA.cell 2 rfl, bA.cell 3 rfl, bA.cell 4 rfl, bA.cell 5 rfl, bA.cell 6 rfl, bB.cell 0 rfl, bB.cell 1 rfl, bB.cell 2 rfl, bB.cell 3 rfl, bB.cell 4 rfl, bB.cell 5 rfl, bB.cell 6 rfl⟩
  clear bA bB
  have e0 : sg (!t) (c + d * 4294967296) = -sg t (c + d * 4294967296) := by unfold sg; cases t <;> simp
  have E0 := Lib.hid e0
  clear e0
  go_region_with (first
    | (go_at_call 43; refine (negate_any t c d 0 _).mono ?_; rintro e w1 ⟨rfl, hb1⟩; obtain ⟨r0, r1, r2, r3, r4, r5, r6, r7, r8, r9, r10, r11, r12, r13⟩ := ps2_keep (A := w.heap.size) (B := w.heap.size + 1) hb1 (by show _ < W.heap.size; omega) (by show _ < W.heap.size; omega) ⟨q0, q1, q2, q3, q4, q5, q6, q7, q8, q9, q10, q11, q12, q13⟩)
    | (go_at_call 35; refine (plus_any s (!t) a b c d _ ha hb hc hd).mono ?_; rintro e w2 ⟨u, p, q, r, rfl, hp, hq, hr, hpq, hb2⟩; have HP := Lib.hid hpq; clear hpq)
    | (go_at_call 42; refine (sign_any _ _ _ _ _ hp hq hr).mono ?_; rintro e w3 ⟨rfl, hb3⟩))
  all_goals go_wp2
  all_goals go_ret
  all_goals
    refine ⟨ret_int ?_, bel_trans (bel_trans (bel_trans (bel_drew hB0) hb1) hb2) hb3⟩
    rw [HP.out, E0.out]
    rfl

end Go.Proofs.Ytcmhdapmecfokaa
