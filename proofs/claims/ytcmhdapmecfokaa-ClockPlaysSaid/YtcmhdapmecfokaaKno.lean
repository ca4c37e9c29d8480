/- The walk of ClockKnown: contracts over whole blocks, then the examples. -/
import Derived.Test.YtcmhdapmecfokaaExp
namespace Go.Proofs.Ytcmhdapmecfokaa
open Go.RowKit

/-- a clock lies in block b -/
abbrev CK (w : World) (b : Nat) (s t : Int) : Prop := Blk w b #[.int .i64 s, .int .i64 t] 50

section
variable (b : Nat) (s now t : Int) (w : World) (hs : 0 < s ∧ s ≤ 9223372036854775807) (ht : -9223372036854775808 ≤ t ∧ t ≤ 9223372036854775807) (h : CK w b s now)
include hs h
theorem k_now : Calls Try.prog 16 #[.pointer (some ⟨b, 0, none⟩)] w fun e w' => e = .returned (.int .i64 now) ∧ w = w' := now_any b s now w hs.1 (h.cell 0 rfl) (h.cell 1 rfl)
theorem k_window : Calls Try.prog 20 #[.pointer (some ⟨b, 0, none⟩)] w fun e w' => e = .returned (.int .i64 s) ∧ w = w' := window_any b s w hs.1 (h.cell 0 rfl)
theorem k_copy : Calls Try.prog 24 #[.pointer (some ⟨b, 0, none⟩)] w fun e w' => e = .returned (.pointer (some ⟨w.heap.size, 0, none⟩)) ∧ w.alloc (.cells #[.int .i64 s, .int .i64 now] 50) = w' := copy_yes b s now w hs.1 (h.cell 0 rfl) (h.cell 1 rfl)
include ht
theorem k_check : Calls Try.prog 21 #[.pointer (some ⟨b, 0, none⟩), .int .i64 t] w fun e w' => e = .returned (.int .i64 (chk s now t)) ∧ w = w' := check_any b s now t w hs.1 hs.2 ht (h.cell 0 rfl) (h.cell 1 rfl)
theorem k_live : Calls Try.prog 15 #[.pointer (some ⟨b, 0, none⟩), .int .i64 t] w fun e w' => e = .returned (.bool (liv s now t)) ∧ w = w' := live_any b s now t w hs.1 hs.2 ht (h.cell 0 rfl) (h.cell 1 rfl)
theorem k_advance : Calls Try.prog 13 #[.pointer (some ⟨b, 0, none⟩), .int .i64 t] w fun e w' => e = .returned (.int .i64 (chk s now t)) ∧ CK w' b s (nxt s now t) ∧ Chg (· = b) w w' := by
  by_cases hc : chk s now t = 0
  · refine (advance_yes b s now t w hs.1 hs.2 ht (h.cell 0 rfl) (h.cell 1 rfl) (by simp [hc]) (h.frozen 1)).mono ?_
    rintro e w' ⟨rfl, rfl⟩
    rw [nxt, if_pos hc, hc]
    exact ⟨rfl, h.set 1 _, (Chg.refl (· = b) _).set (p := ⟨b, 1, none⟩) rfl _⟩
  · refine (advance_no b s now t w hs.1 hs.2 ht (h.cell 0 rfl) (h.cell 1 rfl) (by simp [hc])).mono ?_
    rintro e w' ⟨rfl, rfl⟩
    rw [nxt, if_neg hc]
    exact ⟨rfl, h, Chg.refl _ _⟩
def xpy (s t : Int) : Int := if 9223372036854775807 < t + s then 0 else t + s
def xpe (s t : Int) : Int := if 9223372036854775807 < t + s then 7 else 0
theorem k_expiry : Calls Try.prog 14 #[.pointer (some ⟨b, 0, none⟩), .int .i64 t] w fun e w' => e = .returned (.tuple #[.int .i64 (xpy s t), .int .i64 (xpe s t)]) ∧ w = w' := by
  by_cases hc : 9223372036854775807 < t + s
  · rw [xpy, xpe, if_pos hc, if_pos hc]
    exact expiry_over b s t w hs.1 hs.2 ht (h.cell 0 rfl) hc
  · rw [xpy, xpe, if_neg hc, if_neg hc]
    exact expiry_ok b s t w hs.1 hs.2 ht (h.cell 0 rfl) (by omega)
end

theorem k_new (s : Int) (w : World) (hs : ¬ s < 1) : Calls Try.prog 11 #[.int .i64 s] w fun e w' => ∃ B, e = .returned (.tuple #[.pointer (some ⟨B, 0, none⟩), .int .i64 0]) ∧ CK w' B s 0 ∧ w.heap.size ≤ B ∧ Below w.heap.size w w' := by
  refine (new_yes s w hs).mono ?_
  rintro e w' ⟨rfl, rfl⟩
  exact ⟨_, rfl, Blk.new _ _ _, Nat.le_refl _, below1 _ _⟩
theorem k_copy' (b : Nat) (s now : Int) (w : World) (hs : 0 < s ∧ s ≤ 9223372036854775807) (h : CK w b s now) : Calls Try.prog 24 #[.pointer (some ⟨b, 0, none⟩)] w fun e w' => ∃ B, e = .returned (.pointer (some ⟨B, 0, none⟩)) ∧ CK w' B s now ∧ w.heap.size ≤ B ∧ Below w.heap.size w w' := by
  refine (k_copy b s now w hs h).mono ?_
  rintro e w' ⟨rfl, rfl⟩
  exact ⟨_, rfl, Blk.new _ _ _, Nat.le_refl _, below1 _ _⟩

theorem below_chg {n b : Nat} {w w1 w2 : World} (h : Below n w w1) (hn : n ≤ w1.heap.size) (hb : n ≤ b) (hc : Chg (· = b) w1 w2) : Below n w w2 :=
  h.trans (hc.below hn (fun k _ e => by omega))

theorem kf0 : chk 10 0 4 = 0 := by decide
theorem kf1 : nxt 10 0 4 = 4 := by decide
theorem kf2 : chk 10 4 3 = 10 := by decide
theorem kf3 : nxt 10 4 3 = 4 := by decide
theorem kf4 : chk 10 4 4 = 0 := by decide
theorem kf5 : nxt 10 4 4 = 4 := by decide
theorem kf6 : chk 10 4 9223372036854775798 = 7 := by decide
theorem kf7 : chk 10 4 9223372036854775797 = 0 := by decide
theorem kf8 : chk 10 4 10 = 0 := by decide
theorem kf9 : nxt 10 4 10 = 10 := by decide
theorem kf10 : liv 10 10 0 = false := by decide
theorem kf11 : liv 10 10 1 = true := by decide
theorem kf12 : liv 10 10 10 = true := by decide
theorem kf13 : liv 10 4 0 = true := by decide
theorem kf14 : liv 10 4 5 = false := by decide
theorem kf15 : xpy 10 9223372036854775797 = 9223372036854775807 := by decide
theorem kf16 : xpe 10 9223372036854775797 = 0 := by decide
theorem kf17 : xpy 10 9223372036854775798 = 0 := by decide
theorem kf18 : xpe 10 9223372036854775798 = 7 := by decide
theorem kf19 : liv 10 10 (-9223372036854775808) = false := by decide
theorem kf20 : chk 9223372036854775807 0 0 = 0 := by decide
theorem kf21 : nxt 9223372036854775807 0 0 = 0 := by decide
theorem kf22 : chk 9223372036854775807 0 1 = 7 := by decide
theorem kf23 : nxt 9223372036854775807 0 1 = 0 := by decide
theorem kf24 : chk 9223372036854775807 0 (-1) = 10 := by decide
theorem kf25 : nxt 9223372036854775807 0 (-1) = 0 := by decide
theorem kf26 : xpy 9223372036854775807 (-9223372036854775808) = -1 := by decide
theorem kf27 : xpe 9223372036854775807 (-9223372036854775808) = 0 := by decide
theorem kf28 : liv 9223372036854775807 0 (-9223372036854775806) = true := by decide
theorem kf29 : liv 9223372036854775807 0 (-9223372036854775807) = false := by decide

set_option maxRecDepth 100000 in
set_option maxHeartbeats 4000000 in
/-- ClockKnown returns true; nothing that existed has changed. -/
theorem known_walk (w : World) : Calls Try.prog 10 #[] w fun e w' => e = .returned (.bool true) ∧ Below w.heap.size w w' := by
  have hs : (0 : Int) < 10 ∧ (10 : Int) ≤ 9223372036854775807 := by omega
  have hS : (0 : Int) < 9223372036854775807 ∧ (9223372036854775807 : Int) ≤ 9223372036854775807 := by omega
  go_enter Try.func10, Try.ntmps10
  go_wp2_with fail
  refine (k_new 10 _ (by omega)).mono ?_
  rintro e W1 ⟨B, rfl, hB, g, hb⟩
  have gB : w.heap.size ≤ B := g
  have bel := hb
  have zB := hB.lt
  clear g hb
  go_wp2_with fail
  have H := k_advance B 10 (0) (4) _ hs (by omega) hB
  rw [kf0, kf1] at H
  refine H.mono ?_
  clear H
  rintro e W2 ⟨rfl, h, hc⟩
  replace hB := h
  replace bel := below_chg bel bel.size gB hc
  have z := hc.size
  replace zB := Nat.lt_of_lt_of_le zB z
  clear h hc z
  go_wp2_with fail
  have H := k_advance B 10 (4) (3) _ hs (by omega) hB
  rw [kf2, kf3] at H
  refine H.mono ?_
  clear H
  rintro e W3 ⟨rfl, h, hc⟩
  replace hB := h
  replace bel := below_chg bel bel.size gB hc
  have z := hc.size
  replace zB := Nat.lt_of_lt_of_le zB z
  clear h hc z
  go_wp2_with fail
  have H := k_advance B 10 (4) (4) _ hs (by omega) hB
  rw [kf4, kf5] at H
  refine H.mono ?_
  clear H
  rintro e W4 ⟨rfl, h, hc⟩
  replace hB := h
  replace bel := below_chg bel bel.size gB hc
  have z := hc.size
  replace zB := Nat.lt_of_lt_of_le zB z
  clear h hc z
  go_wp2_with fail
  have H5 := k_check B 10 (4) (9223372036854775798) _ hs (by omega) hB
  rw [kf6] at H5
  refine H5.mono ?_
  clear H5
  rintro e w' ⟨rfl, rfl⟩
  go_wp2_with fail
  have H6 := k_check B 10 (4) (9223372036854775797) _ hs (by omega) hB
  rw [kf7] at H6
  refine H6.mono ?_
  clear H6
  rintro e w' ⟨rfl, rfl⟩
  go_wp2_with fail
  have H7 := k_now B 10 4 _ hs hB
  refine H7.mono ?_
  clear H7
  rintro e w' ⟨rfl, rfl⟩
  go_wp2_with fail
  refine (k_copy' B 10 4 _ hs hB).mono ?_
  rintro e W8 ⟨D, rfl, hD, g, hb⟩
  replace hB := hB.below hb zB
  have nBD : B ≠ D := by omega
  replace zB := Nat.lt_of_lt_of_le zB hb.size
  have gD : w.heap.size ≤ D := Nat.le_trans bel.size g
  replace bel := bel.trans (hb.mono bel.size)
  have zD := hD.lt
  clear g hb
  go_wp2_with fail
  have H := k_advance B 10 (4) (10) _ hs (by omega) hB
  rw [kf8, kf9] at H
  refine H.mono ?_
  clear H
  rintro e W9 ⟨rfl, h, hc⟩
  replace hD := hD.chg hc (by omega)
  replace hB := h
  replace bel := below_chg bel bel.size gB hc
  have z := hc.size
  replace zB := Nat.lt_of_lt_of_le zB z
  replace zD := Nat.lt_of_lt_of_le zD z
  clear h hc z
  go_wp2_with fail
  have H10 := k_live B 10 (10) (0) _ hs (by omega) hB
  rw [kf10] at H10
  refine H10.mono ?_
  clear H10
  rintro e w' ⟨rfl, rfl⟩
  go_wp2_with fail
  have H11 := k_live B 10 (10) (1) _ hs (by omega) hB
  rw [kf11] at H11
  refine H11.mono ?_
  clear H11
  rintro e w' ⟨rfl, rfl⟩
  go_wp2_with fail
  have H12 := k_live B 10 (10) (10) _ hs (by omega) hB
  rw [kf12] at H12
  refine H12.mono ?_
  clear H12
  rintro e w' ⟨rfl, rfl⟩
  go_wp2_with fail
  have H13 := k_now D 10 4 _ hs hD
  refine H13.mono ?_
  clear H13
  rintro e w' ⟨rfl, rfl⟩
  go_wp2_with fail
  have H14 := k_live D 10 (4) (0) _ hs (by omega) hD
  rw [kf13] at H14
  refine H14.mono ?_
  clear H14
  rintro e w' ⟨rfl, rfl⟩
  go_wp2_with fail
  have H15 := k_live D 10 (4) (5) _ hs (by omega) hD
  rw [kf14] at H15
  refine H15.mono ?_
  clear H15
  rintro e w' ⟨rfl, rfl⟩
  go_wp2_with fail
  have H16 := k_window D 10 4 _ hs hD
  refine H16.mono ?_
  clear H16
  rintro e w' ⟨rfl, rfl⟩
  go_wp2_with fail
  have H17 := k_expiry B 10 (10) (9223372036854775797) _ hs (by omega) hB
  rw [kf15] at H17
  rw [kf16] at H17
  refine H17.mono ?_
  clear H17
  rintro e w' ⟨rfl, rfl⟩
  go_wp2_with fail
  have H18 := k_expiry B 10 (10) (9223372036854775798) _ hs (by omega) hB
  rw [kf17] at H18
  rw [kf18] at H18
  refine H18.mono ?_
  clear H18
  rintro e w' ⟨rfl, rfl⟩
  go_wp2_with fail
  have H19 := k_live B 10 (10) (-9223372036854775808) _ hs (by omega) hB
  rw [kf19] at H19
  refine H19.mono ?_
  clear H19
  rintro e w' ⟨rfl, rfl⟩
  go_wp2_with fail
  refine (new_no 0 _ (by omega)).mono ?_
  rintro e w' ⟨rfl, rfl⟩
  go_wp2_with fail
  refine (new_no (-9223372036854775808) _ (by omega)).mono ?_
  rintro e w' ⟨rfl, rfl⟩
  go_wp2_with fail
  refine (k_new 9223372036854775807 _ (by omega)).mono ?_
  rintro e W20 ⟨E, rfl, hE, g, hb⟩
  replace hB := hB.below hb zB
  have nBE : B ≠ E := by omega
  replace zB := Nat.lt_of_lt_of_le zB hb.size
  replace hD := hD.below hb zD
  have nDE : D ≠ E := by omega
  replace zD := Nat.lt_of_lt_of_le zD hb.size
  have gE : w.heap.size ≤ E := Nat.le_trans bel.size g
  replace bel := bel.trans (hb.mono bel.size)
  have zE := hE.lt
  clear g hb
  go_wp2_with fail
  have H := k_advance E 9223372036854775807 (0) (0) _ hS (by omega) hE
  rw [kf20, kf21] at H
  refine H.mono ?_
  clear H
  rintro e W21 ⟨rfl, h, hc⟩
  replace hB := hB.chg hc (by omega)
  replace hD := hD.chg hc (by omega)
  replace hE := h
  replace bel := below_chg bel bel.size gE hc
  have z := hc.size
  replace zB := Nat.lt_of_lt_of_le zB z
  replace zD := Nat.lt_of_lt_of_le zD z
  replace zE := Nat.lt_of_lt_of_le zE z
  clear h hc z
  go_wp2_with fail
  have H := k_advance E 9223372036854775807 (0) (1) _ hS (by omega) hE
  rw [kf22, kf23] at H
  refine H.mono ?_
  clear H
  rintro e W22 ⟨rfl, h, hc⟩
  replace hB := hB.chg hc (by omega)
  replace hD := hD.chg hc (by omega)
  replace hE := h
  replace bel := below_chg bel bel.size gE hc
  have z := hc.size
  replace zB := Nat.lt_of_lt_of_le zB z
  replace zD := Nat.lt_of_lt_of_le zD z
  replace zE := Nat.lt_of_lt_of_le zE z
  clear h hc z
  go_wp2_with fail
  have H := k_advance E 9223372036854775807 (0) (-1) _ hS (by omega) hE
  rw [kf24, kf25] at H
  refine H.mono ?_
  clear H
  rintro e W23 ⟨rfl, h, hc⟩
  replace hB := hB.chg hc (by omega)
  replace hD := hD.chg hc (by omega)
  replace hE := h
  replace bel := below_chg bel bel.size gE hc
  have z := hc.size
  replace zB := Nat.lt_of_lt_of_le zB z
  replace zD := Nat.lt_of_lt_of_le zD z
  replace zE := Nat.lt_of_lt_of_le zE z
  clear h hc z
  go_wp2_with fail
  have H24 := k_expiry E 9223372036854775807 (0) (-9223372036854775808) _ hS (by omega) hE
  rw [kf26] at H24
  rw [kf27] at H24
  refine H24.mono ?_
  clear H24
  rintro e w' ⟨rfl, rfl⟩
  go_wp2_with fail
  have H25 := k_live E 9223372036854775807 (0) (-9223372036854775806) _ hS (by omega) hE
  rw [kf28] at H25
  refine H25.mono ?_
  clear H25
  rintro e w' ⟨rfl, rfl⟩
  go_wp2_with fail
  have H26 := k_live E 9223372036854775807 (0) (-9223372036854775807) _ hS (by omega) hE
  rw [kf29] at H26
  refine H26.mono ?_
  clear H26
  rintro e w' ⟨rfl, rfl⟩
  go_wp2_with fail
  refine (works_any _).mono ?_
  rintro e w' ⟨rfl, hb⟩
  go_wp2
  go_ret
  exact ⟨rfl, bel.trans (hb.mono bel.size)⟩
end Go.Proofs.Ytcmhdapmecfokaa
