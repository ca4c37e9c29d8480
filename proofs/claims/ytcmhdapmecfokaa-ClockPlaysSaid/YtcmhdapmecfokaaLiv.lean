/- The walks of ClockLives and ClockOrders: which edges are live; later edges expire later. -/
import Derived.Test.YtcmhdapmecfokaaWks
import Derived.OpenShut
namespace Go.Proofs.Ytcmhdapmecfokaa
open Go.RowKit

/-- the window that the statements make of any number -/
def spn (n : Int) : Int := if n < 1 then (if -(n + 1) < 1 then 1 else -(n + 1)) else n
theorem spn_pos (n : Int) : 0 < spn n := by unfold spn; split <;> (try split) <;> omega
theorem spn_le (n : Int) (h : -9223372036854775808 ≤ n ∧ n ≤ 9223372036854775807) : spn n ≤ 9223372036854775807 := by unfold spn; split <;> (try split) <;> omega
theorem spn_not (n : Int) : ¬ spn n < 1 := by have := spn_pos n; omega

theorem span_any (n s : Int) (w : World) (hn : -9223372036854775808 ≤ n ∧ n ≤ 9223372036854775807) (hs : spn n = s) : Calls Try.prog 12 #[.int .i64 n] w fun e w' => e = .returned (.int .i64 s) ∧ w = w' := by
  by_cases h1 : n < 1
  · by_cases h2 : -(n + 1) < 1
    · have e : s = 1 := by rw [← hs]; unfold spn; rw [if_pos h1, if_pos h2]
      subst e
      clear hs
      have e2 : n = 0 ∨ n = -1 := by omega
      rcases e2 with rfl | rfl
      · go_enter Try.func12, Try.ntmps12
        go_wp2
        go_ret
        exact ⟨rfl, rfl⟩
      · go_enter Try.func12, Try.ntmps12
        go_wp2
        go_ret
        exact ⟨rfl, rfl⟩
    · have e : s = -(n + 1) := by rw [← hs]; unfold spn; rw [if_pos h1, if_neg h2]
      subst e
      clear hs
      go_enter Try.func12, Try.ntmps12
      go_wp2
      go_ret
      exact ⟨rfl, rfl⟩
  · have e : s = n := by rw [← hs]; unfold spn; rw [if_neg h1]
    subst e
    clear hs
    go_enter Try.func12, Try.ntmps12
    go_wp2
    go_ret
    exact ⟨rfl, rfl⟩

theorem set1 (w : World) (s a v : Int) : (w.alloc (.cells #[.int .i64 s, .int .i64 a] 50)).setCell ⟨w.heap.size, 1, none⟩ (.int .i64 v) = w.alloc (.cells #[.int .i64 s, .int .i64 v] 50) := by
  rw [World.setCell_alloc_at _ _ _ _ _ rfl]; rfl

/-- Advance on a clock in a block that was just made: the time behind it. -/
theorem adv_any (s now to : Int) (w : World) (hs : 0 < s) (hs' : s ≤ 9223372036854775807) (ht : -9223372036854775808 ≤ to ∧ to ≤ 9223372036854775807) :
    Calls Try.prog 13 #[.pointer (some ⟨w.heap.size, 0, none⟩), .int .i64 to] (w.alloc (.cells #[.int .i64 s, .int .i64 now] 50)) fun e w' =>
      e = .returned (.int .i64 (chk s now to)) ∧ w.alloc (.cells #[.int .i64 s, .int .i64 (if chk s now to = 0 then to else now)] 50) = w' := by
  by_cases h : chk s now to = 0
  · rw [if_pos h]
    refine (advance_yes _ s now to _ hs hs' ht (cell0 w s now) (cell1 w s now) (by simp [h]) (frz1 w s now)).mono ?_
    rintro e w' ⟨rfl, rfl⟩
    rw [set1, h]
    exact ⟨rfl, rfl⟩
  · rw [if_neg h]
    exact advance_no _ s now to _ hs hs' ht (cell0 w s now) (cell1 w s now) (by simp [h])

theorem below1 (w : World) (o : Obj) : Below w.heap.size w (w.alloc o) := (Below.refl _ _).alloc (Nat.le_refl _) o
theorem bel_works {w w' : World} {o : Obj} (h : Below (w.alloc o).heap.size (w.alloc o) w') : Below w.heap.size w w' :=
  (below1 w o).trans (h.mono (by simp))

set_option maxHeartbeats 1000000 in
theorem lives_core (n to t s now : Int) (w : World) (hn : -9223372036854775808 ≤ n ∧ n ≤ 9223372036854775807) (hto : -9223372036854775808 ≤ to ∧ to ≤ 9223372036854775807) (ht : -9223372036854775808 ≤ t ∧ t ≤ 9223372036854775807)
    (es : spn n = s) (hs : 0 < s) (hs' : s ≤ 9223372036854775807) (hnow : (if chk s 0 to = 0 then to else 0) = now) :
    Calls Try.prog 3 #[.int .i64 n, .int .i64 to, .int .i64 t] w fun e w' => e = .returned (.bool true) ∧ Below w.heap.size w w' := by
  have a0 := cell0 w s now
  have a1 := cell1 w s now
  have hadv := adv_any s 0 to w hs hs' hto
  rw [hnow] at hadv
  have HS := Lib.hid es
  have HA := Lib.hid hadv
  clear es hadv hnow
  by_cases h1 : 9223372036854775807 < t + s
  · have l : liv s now t = false := by rw [liv, decide_eq_false (by omega)]
    by_cases h2 : t ≤ now
    all_goals
      go_enter Try.func3, Try.ntmps3
      go_wp2_with fail
      refine (span_any n s _ hn HS.out).mono ?_
      rintro e w' ⟨rfl, rfl⟩
      go_wp2_with fail
      refine (new_yes s _ (by omega)).mono ?_
      rintro e w' ⟨rfl, rfl⟩
      go_wp2_with fail
      refine HA.out.mono ?_
      rintro e w' ⟨rfl, rfl⟩
      go_wp2_with fail
      refine (expiry_over _ s t _ hs hs' ht a0 h1).mono ?_
      rintro e w' ⟨rfl, rfl⟩
      go_wp2_with fail
      refine (live_any _ s now t _ hs hs' ht a0 a1).mono ?_
      rintro e w' ⟨rfl, rfl⟩
      go_wp2_with fail
      refine (now_any _ s now _ hs a0 a1).mono ?_
      rintro e w' ⟨rfl, rfl⟩
      go_wp2_with fail
      refine (works_any _).mono ?_
      rintro e w' ⟨rfl, hb⟩
      go_wp2
      go_ret
      exact ⟨rfl, bel_works hb⟩
  · have h1 : t + s ≤ 9223372036854775807 := by omega
    by_cases h2 : t ≤ now
    · by_cases h3 : now < t + s
      · have l : liv s now t = true := by rw [liv, decide_eq_true (by omega)]
        go_enter Try.func3, Try.ntmps3
        go_wp2_with fail
        refine (span_any n s _ hn HS.out).mono ?_
        rintro e w' ⟨rfl, rfl⟩
        go_wp2_with fail
        refine (new_yes s _ (by omega)).mono ?_
        rintro e w' ⟨rfl, rfl⟩
        go_wp2_with fail
        refine HA.out.mono ?_
        rintro e w' ⟨rfl, rfl⟩
        go_wp2_with fail
        refine (expiry_ok _ s t _ hs hs' ht a0 h1).mono ?_
        rintro e w' ⟨rfl, rfl⟩
        go_wp2_with fail
        refine (live_any _ s now t _ hs hs' ht a0 a1).mono ?_
        rintro e w' ⟨rfl, rfl⟩
        go_wp2_with fail
        refine (now_any _ s now _ hs a0 a1).mono ?_
        rintro e w' ⟨rfl, rfl⟩
        go_wp2_with fail
        refine (now_any _ s now _ hs a0 a1).mono ?_
        rintro e w' ⟨rfl, rfl⟩
        go_wp2_with fail
        refine (works_any _).mono ?_
        rintro e w' ⟨rfl, hb⟩
        go_wp2
        go_ret
        exact ⟨rfl, bel_works hb⟩
      · have l : liv s now t = false := by rw [liv, decide_eq_false (by omega)]
        have l3 : decide (now < t + s) = false := decide_eq_false h3
        go_enter Try.func3, Try.ntmps3
        go_wp2_with fail
        refine (span_any n s _ hn HS.out).mono ?_
        rintro e w' ⟨rfl, rfl⟩
        go_wp2_with fail
        refine (new_yes s _ (by omega)).mono ?_
        rintro e w' ⟨rfl, rfl⟩
        go_wp2_with fail
        refine HA.out.mono ?_
        rintro e w' ⟨rfl, rfl⟩
        go_wp2_with fail
        refine (expiry_ok _ s t _ hs hs' ht a0 h1).mono ?_
        rintro e w' ⟨rfl, rfl⟩
        go_wp2_with fail
        refine (live_any _ s now t _ hs hs' ht a0 a1).mono ?_
        rintro e w' ⟨rfl, rfl⟩
        go_wp2_with fail
        refine (now_any _ s now _ hs a0 a1).mono ?_
        rintro e w' ⟨rfl, rfl⟩
        go_wp2_with fail
        refine (now_any _ s now _ hs a0 a1).mono ?_
        rintro e w' ⟨rfl, rfl⟩
        go_wp2_with fail
        refine (works_any _).mono ?_
        rintro e w' ⟨rfl, hb⟩
        go_wp2
        go_ret
        exact ⟨rfl, bel_works hb⟩
    · have l : liv s now t = false := by rw [liv, decide_eq_false (by omega)]
      go_enter Try.func3, Try.ntmps3
      go_wp2_with fail
      refine (span_any n s _ hn HS.out).mono ?_
      rintro e w' ⟨rfl, rfl⟩
      go_wp2_with fail
      refine (new_yes s _ (by omega)).mono ?_
      rintro e w' ⟨rfl, rfl⟩
      go_wp2_with fail
      refine HA.out.mono ?_
      rintro e w' ⟨rfl, rfl⟩
      go_wp2_with fail
      refine (expiry_ok _ s t _ hs hs' ht a0 h1).mono ?_
      rintro e w' ⟨rfl, rfl⟩
      go_wp2_with fail
      refine (live_any _ s now t _ hs hs' ht a0 a1).mono ?_
      rintro e w' ⟨rfl, rfl⟩
      go_wp2_with fail
      refine (now_any _ s now _ hs a0 a1).mono ?_
      rintro e w' ⟨rfl, rfl⟩
      go_wp2_with fail
      refine (works_any _).mono ?_
      rintro e w' ⟨rfl, hb⟩
      go_wp2
      go_ret
      exact ⟨rfl, bel_works hb⟩

/-- ClockLives returns true at every input; nothing that existed has changed. -/
theorem lives_walk (n : Int) (w0 : (Lit.int .i64 n).wf = true) (to : Int) (w1 : (Lit.int .i64 to).wf = true) (t : Int) (w2 : (Lit.int .i64 t).wf = true) (w : World) :
    Calls Try.prog 3 #[.int .i64 n, .int .i64 to, .int .i64 t] w fun e w' => e = .returned (.bool true) ∧ Below w.heap.size w w' :=
  lives_core n to t _ _ w (bounds_i64 w0) (bounds_i64 w1) (bounds_i64 w2) rfl (spn_pos n) (spn_le n (bounds_i64 w0)) rfl


set_option maxHeartbeats 1000000 in
theorem orders_core (n t u s : Int) (w : World) (hn : -9223372036854775808 ≤ n ∧ n ≤ 9223372036854775807) (ht : -9223372036854775808 ≤ t ∧ t ≤ 9223372036854775807) (hu : -9223372036854775808 ≤ u ∧ u ≤ 9223372036854775807)
    (es : spn n = s) (hs : 0 < s) (hs' : s ≤ 9223372036854775807) :
    Calls Try.prog 5 #[.int .i64 n, .int .i64 t, .int .i64 u] w fun e w' => e = .returned (.bool true) ∧ Below w.heap.size w w' := by
  have a0 := cell0 w s 0
  have HS := Lib.hid es
  clear es
  by_cases h : u < t
  · by_cases h1 : 9223372036854775807 < u + s
    · go_enter Try.func5, Try.ntmps5
      go_wp2_with fail
      refine (span_any n s _ hn HS.out).mono ?_
      rintro e w' ⟨rfl, rfl⟩
      go_wp2_with fail
      refine (new_yes s _ (by omega)).mono ?_
      rintro e w' ⟨rfl, rfl⟩
      go_wp2_with fail
      refine (expiry_over _ s u _ hs hs' hu a0 (by omega)).mono ?_
      rintro e w' ⟨rfl, rfl⟩
      go_wp2_with fail
      refine (expiry_over _ s t _ hs hs' ht a0 (by omega)).mono ?_
      rintro e w' ⟨rfl, rfl⟩
      go_wp2_with fail
      refine (works_any _).mono ?_
      rintro e w' ⟨rfl, hb⟩
      go_wp2
      go_ret
      exact ⟨rfl, bel_works hb⟩
    · by_cases h2 : 9223372036854775807 < t + s
      · go_enter Try.func5, Try.ntmps5
        go_wp2_with fail
        refine (span_any n s _ hn HS.out).mono ?_
        rintro e w' ⟨rfl, rfl⟩
        go_wp2_with fail
        refine (new_yes s _ (by omega)).mono ?_
        rintro e w' ⟨rfl, rfl⟩
        go_wp2_with fail
        refine (expiry_ok _ s u _ hs hs' hu a0 (by omega)).mono ?_
        rintro e w' ⟨rfl, rfl⟩
        go_wp2_with fail
        refine (expiry_over _ s t _ hs hs' ht a0 (by omega)).mono ?_
        rintro e w' ⟨rfl, rfl⟩
        go_wp2_with fail
        refine (works_any _).mono ?_
        rintro e w' ⟨rfl, hb⟩
        go_wp2
        go_ret
        exact ⟨rfl, bel_works hb⟩
      · have g1 : (u == t) = false := by rw [beq_eq_false_iff_ne]; omega
        have g2 : (u + s == t + s) = false := by rw [beq_eq_false_iff_ne]; omega
        go_enter Try.func5, Try.ntmps5
        go_wp2_with fail
        refine (span_any n s _ hn HS.out).mono ?_
        rintro e w' ⟨rfl, rfl⟩
        go_wp2_with fail
        refine (new_yes s _ (by omega)).mono ?_
        rintro e w' ⟨rfl, rfl⟩
        go_wp2_with fail
        refine (expiry_ok _ s u _ hs hs' hu a0 (by omega)).mono ?_
        rintro e w' ⟨rfl, rfl⟩
        go_wp2_with fail
        refine (expiry_ok _ s t _ hs hs' ht a0 (by omega)).mono ?_
        rintro e w' ⟨rfl, rfl⟩
        go_wp2_with fail
        refine (works_any _).mono ?_
        rintro e w' ⟨rfl, hb⟩
        go_wp2
        go_ret
        exact ⟨rfl, bel_works hb⟩
  · by_cases h1 : 9223372036854775807 < t + s
    · go_enter Try.func5, Try.ntmps5
      go_wp2_with fail
      refine (span_any n s _ hn HS.out).mono ?_
      rintro e w' ⟨rfl, rfl⟩
      go_wp2_with fail
      refine (new_yes s _ (by omega)).mono ?_
      rintro e w' ⟨rfl, rfl⟩
      go_wp2_with fail
      refine (expiry_over _ s t _ hs hs' ht a0 (by omega)).mono ?_
      rintro e w' ⟨rfl, rfl⟩
      go_wp2_with fail
      refine (expiry_over _ s u _ hs hs' hu a0 (by omega)).mono ?_
      rintro e w' ⟨rfl, rfl⟩
      go_wp2_with fail
      refine (works_any _).mono ?_
      rintro e w' ⟨rfl, hb⟩
      go_wp2
      go_ret
      exact ⟨rfl, bel_works hb⟩
    · by_cases h2 : 9223372036854775807 < u + s
      · go_enter Try.func5, Try.ntmps5
        go_wp2_with fail
        refine (span_any n s _ hn HS.out).mono ?_
        rintro e w' ⟨rfl, rfl⟩
        go_wp2_with fail
        refine (new_yes s _ (by omega)).mono ?_
        rintro e w' ⟨rfl, rfl⟩
        go_wp2_with fail
        refine (expiry_ok _ s t _ hs hs' ht a0 (by omega)).mono ?_
        rintro e w' ⟨rfl, rfl⟩
        go_wp2_with fail
        refine (expiry_over _ s u _ hs hs' hu a0 (by omega)).mono ?_
        rintro e w' ⟨rfl, rfl⟩
        go_wp2_with fail
        refine (works_any _).mono ?_
        rintro e w' ⟨rfl, hb⟩
        go_wp2
        go_ret
        exact ⟨rfl, bel_works hb⟩
      · by_cases h3 : t = u
        · subst h3
          clear hu
          go_enter Try.func5, Try.ntmps5
          go_wp2_with fail
          refine (span_any n s _ hn HS.out).mono ?_
          rintro e w' ⟨rfl, rfl⟩
          go_wp2_with fail
          refine (new_yes s _ (by omega)).mono ?_
          rintro e w' ⟨rfl, rfl⟩
          go_wp2_with fail
          refine (expiry_ok _ s t _ hs hs' ht a0 (by omega)).mono ?_
          rintro e w' ⟨rfl, rfl⟩
          go_wp2_with fail
          refine (expiry_ok _ s t _ hs hs' ht a0 (by omega)).mono ?_
          rintro e w' ⟨rfl, rfl⟩
          go_wp2_with fail
          refine (works_any _).mono ?_
          rintro e w' ⟨rfl, hb⟩
          go_wp2
          go_ret
          exact ⟨rfl, bel_works hb⟩
        · have g1 : (t == u) = false := by rw [beq_eq_false_iff_ne]; omega
          have g2 : (t + s == u + s) = false := by rw [beq_eq_false_iff_ne]; omega
          go_enter Try.func5, Try.ntmps5
          go_wp2_with fail
          refine (span_any n s _ hn HS.out).mono ?_
          rintro e w' ⟨rfl, rfl⟩
          go_wp2_with fail
          refine (new_yes s _ (by omega)).mono ?_
          rintro e w' ⟨rfl, rfl⟩
          go_wp2_with fail
          refine (expiry_ok _ s t _ hs hs' ht a0 (by omega)).mono ?_
          rintro e w' ⟨rfl, rfl⟩
          go_wp2_with fail
          refine (expiry_ok _ s u _ hs hs' hu a0 (by omega)).mono ?_
          rintro e w' ⟨rfl, rfl⟩
          go_wp2_with fail
          refine (works_any _).mono ?_
          rintro e w' ⟨rfl, hb⟩
          go_wp2
          go_ret
          exact ⟨rfl, bel_works hb⟩
theorem orders_walk (n : Int) (w0 : (Lit.int .i64 n).wf = true) (t : Int) (w1 : (Lit.int .i64 t).wf = true) (u : Int) (w2 : (Lit.int .i64 u).wf = true) (w : World) :
    Calls Try.prog 5 #[.int .i64 n, .int .i64 t, .int .i64 u] w fun e w' => e = .returned (.bool true) ∧ Below w.heap.size w w' :=
  orders_core n t u _ w (bounds_i64 w0) (bounds_i64 w1) (bounds_i64 w2) rfl (spn_pos n) (spn_le n (bounds_i64 w0))

end Go.Proofs.Ytcmhdapmecfokaa
