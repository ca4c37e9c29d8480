/- The walk of ClockPlays. -/
import Derived.Test.YtcmhdapmecfokaaNew
import Derived.Test.YtcmhdapmecfokaaSs
namespace Go.Proofs.Ytcmhdapmecfokaa
open Go.RowKit

/-- both clocks, in blocks from n₀ on, in one state -/
def Two (n₀ : Nat) (w : World) (B D : Nat) (s now : Int) : Prop := CK w B s now ∧ RK w D s now ∧ n₀ ≤ B ∧ n₀ ≤ D ∧ B ≠ D
theorem Two.below {n₀ B D : Nat} {w w' : World} {s now : Int} (h : Two n₀ w B D s now) (hb : Below w.heap.size w w') : Two n₀ w' B D s now :=
  ⟨h.1.below hb h.1.lt, h.2.1.below hb h.2.1.lt, h.2.2⟩

section
variable (n₀ B D : Nat) (s now t : Int) (w : World) (hs : 0 < s ∧ s ≤ 9223372036854775807) (hn : 0 ≤ now ∧ now + s ≤ 9223372036854775807) (ht : -9223372036854775808 ≤ t ∧ t ≤ 9223372036854775807) (h : Two n₀ w B D s now)
include hs hn ht h
theorem two_agree : Calls Try.prog 19 #[.pointer (some ⟨B, 0, none⟩), .pointer (some ⟨D, 0, none⟩), .int .i64 t] w fun e w' => e = .returned (.bool true) ∧ Two n₀ w' B D s now ∧ Below w.heap.size w w' :=
  (agree_yes B D s now t w hs hn ht h.1 h.2.1).mono fun _ _ ⟨he, hb⟩ => ⟨he, h.below hb, hb⟩
omit hn in
theorem two_check : Calls Try.prog 21 #[.pointer (some ⟨B, 0, none⟩), .int .i64 t] w fun e w' => e = .returned (.int .i64 (chk s now t)) ∧ w = w' := k_check B s now t w hs ht h.1
omit hn in
theorem two_rcheck : Calls Try.prog 23 #[.pointer (some ⟨D, 0, none⟩), .int .i64 t] w fun e w' => e = .returned (.int .i64 (chk s now t)) ∧ Two n₀ w' B D s now ∧ Below w.heap.size w w' :=
  (rcheck_yes D s now t w hs ht h.2.1).mono fun _ _ ⟨he, hb⟩ => ⟨he, h.below hb, hb⟩
omit hn in
theorem two_advance : Calls Try.prog 13 #[.pointer (some ⟨B, 0, none⟩), .int .i64 t] w fun e w' => e = .returned (.int .i64 (chk s now t)) ∧ (CK w' B s (nxt s now t) ∧ RK w' D s now ∧ n₀ ≤ B ∧ n₀ ≤ D ∧ B ≠ D) ∧ Chg (· = B) w w' :=
  (k_advance B s now t w hs ht h.1).mono fun _ _ ⟨he, hk, hc⟩ => ⟨he, ⟨hk, h.2.1.chg hc (fun e => h.2.2.2.2 e.symm), h.2.2⟩, hc⟩
end

theorem half_advance (n₀ B D : Nat) (s now t x : Int) (w : World) (hs : 0 < s ∧ s ≤ 9223372036854775807) (ht : -9223372036854775808 ≤ t ∧ t ≤ 9223372036854775807) (h : CK w B s x ∧ RK w D s now ∧ n₀ ≤ B ∧ n₀ ≤ D ∧ B ≠ D) (hx : nxt s now t = x) :
    Calls Try.prog 22 #[.pointer (some ⟨D, 0, none⟩), .int .i64 t] w fun e w' => e = .returned (.int .i64 (chk s now t)) ∧ Two n₀ w' B D s x ∧ Chg (· = D) w w' :=
  (radvance_yes D s now t w hs ht h.2.1).mono fun _ _ ⟨he, hk, hc⟩ => ⟨he, ⟨h.1.chg hc h.2.2.2.2, hx ▸ hk, h.2.2⟩, hc⟩

theorem below_chg2 {n b : Nat} {w w1 w2 : World} (h : Below n w w1) (hn : n ≤ w.heap.size) (hb : n ≤ b) (hc : Chg (· = b) w1 w2) : Below n w w2 :=
  h.trans (hc.below (Nat.le_trans hn h.size) (fun k _ e => by omega))

set_option maxHeartbeats 8000000 in
set_option maxRecDepth 100000 in
theorem plays_yes (s t u : Int) (a : Option Addr) (len cap : Nat) (G : Nat → Nat → Int) (w : World) (hs : 0 < s ∧ s ≤ 9223372036854775807) (ht : -9223372036854775808 ≤ t ∧ t ≤ 9223372036854775807) (hu : -9223372036854775808 ≤ u ∧ u ≤ 9223372036854775807)
    (hl : RT w.heap.size w [.i64, .i64] a len G) (hlen : len ≤ 200) :
    Calls Try.prog 8 #[.int .i64 s, .slice a len cap, .int .i64 t, .int .i64 u] w fun e w' => e = .returned (.bool true) ∧ Below w.heap.size w w' := by
  obtain ⟨n₀, hn₀⟩ : ∃ n₀, w.heap.size = n₀ := ⟨_, rfl⟩
  rw [hn₀] at hl ⊢
  have HN := Lib.hid hn₀
  clear hn₀
  have hs1 : ¬ s < 1 := by omega
  go_enter Try.func8, Try.ntmps8
  go_wp2_with fail
  refine (k_new s _ (by omega)).mono ?_
  rintro e w1 ⟨B, rfl, hB, gB, hb1⟩
  rw [HN.out] at gB hb1
  have HB := Lib.hid hB
  clear hB
  go_wp2_with fail
  refine (rnew_yes s _ (by omega)).mono ?_
  rintro e w2 ⟨D, rfl, hD, gD, hb2⟩
  have hT : Two n₀ w2 B D s 0 := ⟨HB.out.below hb2 HB.out.lt, hD, gB, Nat.le_trans (HN.out ▸ hb1.size) gD, by have := HB.out.lt; omega⟩
  have hbl : Below n₀ w w2 := hb1.trans (hb2.mono (HN.out ▸ hb1.size))
  have HT := Lib.hid hT
  clear HB hb2 hb1 hD gD gB hT
  go_wp2_with fail
  go_loopw [9, 11, 13] (fun v9 v11 v13 wr => ∃ (k : Nat) (now : Int) (B D : Nat), k ≤ len ∧ v13 = .int .i64 k ∧ v9 = .pointer (some ⟨B, 0, none⟩) ∧ v11 = .pointer (some ⟨D, 0, none⟩) ∧ 0 ≤ now ∧ now + s ≤ 9223372036854775807 ∧
      Hid (Two n₀ wr B D s now) ∧ Below n₀ w wr) (fun _ _ v13 _ => len - (intOf v13).toNat)
  case atStart => exact ⟨0, 0, B, D, by omega, rfl, rfl, rfl, by omega, by omega, HT, hbl⟩
  case round =>
    clear HT hbl
    obtain ⟨k, now, B, D, hk, rfl, rfl, rfl, h0, h1, HT, hbl⟩ := hrel
    have hn0 : n₀ ≤ w.heap.size := by rw [HN.out]; exact Nat.le_refl _
    by_cases hlt : k < len
    · obtain ⟨b, off, rfl, hb, hc⟩ := hl (by omega)
      obtain ⟨hc0, hw0⟩ := hc k hlt 0 .i64 rfl
      obtain ⟨hc1, hw1⟩ := hc k hlt 1 .i64 rfl
      have hx := bounds_i64 hw1
      replace hc0 := (hbl.cell (p := ⟨b, off + k * 2 + 0, none⟩) hb).trans hc0
      replace hc1 := (hbl.cell (p := ⟨b, off + k * 2 + 1, none⟩) hb).trans hc1
      generalize G k 0 = d at *
      generalize G k 1 = x at *
      simp only [Nat.add_zero] at hc0
      have HL := Lib.hid hl
      have hnx := @nxt_le s now x h1
      clear hc hw0 hw1 hl hb
      obtain ⟨m, hm⟩ : ∃ m, nxt s now x = m := ⟨_, rfl⟩
      rw [hm] at hnx
      have HM := Lib.hid hm
      clear hm
      by_cases d0 : d = 0
      · subst d0
        go_wp2_with fail
        refine (two_advance n₀ B D s now x _ hs hx HT.out).mono ?_
        rintro e w1 ⟨rfl, hT1, hg1⟩
        rw [HM.out] at hT1
        have gB := HT.out.2.2.1
        have gD := HT.out.2.2.2.1
        have hb1 := below_chg2 hbl hn0 gB hg1
        have HT1 := Lib.hid hT1
        clear hT1 hg1
        go_wp2_with fail
        refine (half_advance n₀ B D s now x m _ hs hx HT1.out HM.out).mono ?_
        rintro e w2 ⟨rfl, hT2, hg2⟩
        have hb2 := below_chg2 hb1 hn0 gD hg2
        have HT2 := Lib.hid hT2
        clear hT2 hg2
        go_wp2_with fail
        refine (two_agree n₀ B D s m t _ hs ⟨by omega, hnx.2⟩ ht HT2.out).mono ?_
        rintro e w5 ⟨rfl, hT5, hb5⟩
        have HT5 := Lib.hid hT5
        replace hb5 := hb2.trans (hb5.mono (Nat.le_trans hn0 hb2.size))
        clear hT5
        go_wp2_with fail
        refine (two_agree n₀ B D s m u _ hs ⟨by omega, hnx.2⟩ hu HT5.out).mono ?_
        rintro e w6 ⟨rfl, hT6, hb6⟩
        have HT6 := Lib.hid hT6
        replace hb6 := hb5.trans (hb6.mono (Nat.le_trans hn0 hb5.size))
        clear hT6
        go_wp2_with fail
        refine (two_agree n₀ B D s m x _ hs ⟨by omega, hnx.2⟩ hx HT6.out).mono ?_
        rintro e w7 ⟨rfl, hT7, hb7⟩
        have HT7 := Lib.hid hT7
        replace hb7 := hb6.trans (hb7.mono (Nat.le_trans hn0 hb6.size))
        clear hT7
        go_wp2_with fail
        refine (rnow_yes D s m _ HT7.out.2.1).mono ?_
        rintro e w' ⟨rfl, rfl⟩
        go_wp2_with fail
        refine (two_agree n₀ B D s m m _ hs ⟨by omega, hnx.2⟩ (by omega) HT7.out).mono ?_
        rintro e w8 ⟨rfl, hT8, hb8⟩
        have HT8 := Lib.hid hT8
        replace hb8 := hb7.trans (hb8.mono (Nat.le_trans hn0 hb7.size))
        clear hT8
        go_wp2
        go_roundw
        case rel => exact ⟨k + 1, m, B, D, by omega, by go_num, rfl, rfl, by omega, by omega, HT8, hb8⟩
        case measure => simp [intOf]; omega
      · have e0 : (d == 0) = false := by simpa using d0
        by_cases d1 : d = 1
        · subst d1
          go_wp2_with fail
          refine (two_check n₀ B D s now x _ hs hx HT.out).mono ?_
          rintro e w' ⟨rfl, rfl⟩
          go_wp2_with fail
          refine (two_rcheck n₀ B D s now x _ hs hx HT.out).mono ?_
          rintro e w2 ⟨rfl, hT2, hb2⟩
          have HT2 := Lib.hid hT2
          replace hb2 := hbl.trans (hb2.mono (Nat.le_trans hn0 hbl.size))
          clear hT2
          go_wp2_with fail
          refine (two_agree n₀ B D s now t _ hs ⟨h0, h1⟩ ht HT2.out).mono ?_
          rintro e w5 ⟨rfl, hT5, hb5⟩
          have HT5 := Lib.hid hT5
          replace hb5 := hb2.trans (hb5.mono (Nat.le_trans hn0 hb2.size))
          clear hT5
          go_wp2_with fail
          refine (two_agree n₀ B D s now u _ hs ⟨h0, h1⟩ hu HT5.out).mono ?_
          rintro e w6 ⟨rfl, hT6, hb6⟩
          have HT6 := Lib.hid hT6
          replace hb6 := hb5.trans (hb6.mono (Nat.le_trans hn0 hb5.size))
          clear hT6
          go_wp2_with fail
          refine (two_agree n₀ B D s now x _ hs ⟨h0, h1⟩ hx HT6.out).mono ?_
          rintro e w7 ⟨rfl, hT7, hb7⟩
          have HT7 := Lib.hid hT7
          replace hb7 := hb6.trans (hb7.mono (Nat.le_trans hn0 hb6.size))
          clear hT7
          go_wp2_with fail
          refine (rnow_yes D s now _ HT7.out.2.1).mono ?_
          rintro e w' ⟨rfl, rfl⟩
          go_wp2_with fail
          refine (two_agree n₀ B D s now now _ hs ⟨h0, h1⟩ (by omega) HT7.out).mono ?_
          rintro e w8 ⟨rfl, hT8, hb8⟩
          have HT8 := Lib.hid hT8
          replace hb8 := hb7.trans (hb8.mono (Nat.le_trans hn0 hb7.size))
          clear hT8
          go_wp2
          go_roundw
          case rel => exact ⟨k + 1, now, B, D, by omega, by go_num, rfl, rfl, by omega, by omega, HT8, hb8⟩
          case measure => simp [intOf]; omega
        · have e1 : (d == 1) = false := by simpa using d1
          by_cases d2 : d = 2
          · subst d2
            go_wp2_with fail
            refine (k_copy' B s now _ hs HT.out.1).mono ?_
            rintro e w1 ⟨B2, rfl, hB2, gB0, hb1⟩
            have hT1 := HT.out.below hb1
            have gB2 := Nat.le_trans (Nat.le_trans hn0 hbl.size) gB0
            have hq1 := HT.out.1.lt
            have hq2 := HT.out.2.1.lt
            have HT1 := Lib.hid hT1
            have HB2 := Lib.hid hB2
            have hb1' := hbl.trans (hb1.mono (Nat.le_trans hn0 hbl.size))
            have hbx := Lib.hid hb1
            clear hT1 hB2 hb1
            go_wp2_with fail
            refine (rcopy_yes D s now _ HT1.out.2.1).mono ?_
            rintro e w2 ⟨D2, rfl, hD2, gD0, hb2⟩
            have hz := HB2.out.lt
            have hT2 : Two n₀ w2 B2 D2 s now := ⟨HB2.out.below hb2 hz, hD2, gB2, Nat.le_trans (Nat.le_trans hn0 hb1'.size) gD0, by omega⟩
            have hB1 := HT1.out.1.below hb2 HT1.out.1.lt
            have hq3 : B ≠ B2 := by omega
            have hq4 : B ≠ D2 := by have := HT1.out.1.lt; omega
            have hb2' := hb1'.trans (hb2.mono (Nat.le_trans hn0 hb1'.size))
            have gB := HT.out.2.2.1
            have HT2 := Lib.hid hT2
            have HB1 := Lib.hid hB1
            clear hT2 hB1 hb2 hD2 gD0 gB0 gB2 hz
            go_wp2_with fail
            refine (k_advance B s now x _ hs hx HB1.out).mono ?_
            rintro e w3 ⟨rfl, _, hg⟩
            have hT3 : Two n₀ w3 B2 D2 s now := ⟨HT2.out.1.chg hg (fun e => hq3 e.symm), HT2.out.2.1.chg hg (fun e => hq4 e.symm), HT2.out.2.2⟩
            have hb3 := below_chg2 hb2' hn0 gB hg
            have HT3 := Lib.hid hT3
            clear hT3 hg
            go_wp2_with fail
            refine (two_agree n₀ B2 D2 s now t _ hs ⟨h0, h1⟩ ht HT3.out).mono ?_
            rintro e w5 ⟨rfl, hT5, hb5⟩
            have HT5 := Lib.hid hT5
            replace hb5 := hb3.trans (hb5.mono (Nat.le_trans hn0 hb3.size))
            clear hT5
            go_wp2_with fail
            refine (two_agree n₀ B2 D2 s now u _ hs ⟨h0, h1⟩ hu HT5.out).mono ?_
            rintro e w6 ⟨rfl, hT6, hb6⟩
            have HT6 := Lib.hid hT6
            replace hb6 := hb5.trans (hb6.mono (Nat.le_trans hn0 hb5.size))
            clear hT6
            go_wp2_with fail
            refine (two_agree n₀ B2 D2 s now x _ hs ⟨h0, h1⟩ hx HT6.out).mono ?_
            rintro e w7 ⟨rfl, hT7, hb7⟩
            have HT7 := Lib.hid hT7
            replace hb7 := hb6.trans (hb7.mono (Nat.le_trans hn0 hb6.size))
            clear hT7
            go_wp2_with fail
            refine (rnow_yes D2 s now _ HT7.out.2.1).mono ?_
            rintro e w' ⟨rfl, rfl⟩
            go_wp2_with fail
            refine (two_agree n₀ B2 D2 s now now _ hs ⟨h0, h1⟩ (by omega) HT7.out).mono ?_
            rintro e w8 ⟨rfl, hT8, hb8⟩
            have HT8 := Lib.hid hT8
            replace hb8 := hb7.trans (hb8.mono (Nat.le_trans hn0 hb7.size))
            clear hT8
            go_wp2
            go_roundw
            case rel => exact ⟨k + 1, now, B2, D2, by omega, by go_num, rfl, rfl, by omega, by omega, HT8, hb8⟩
            case measure => simp [intOf]; omega
          · have e2 : (d == 2) = false := by simpa using d2
            go_wp2_with fail
            refine (two_agree n₀ B D s now t _ hs ⟨h0, h1⟩ ht HT.out).mono ?_
            rintro e w5 ⟨rfl, hT5, hb5⟩
            have HT5 := Lib.hid hT5
            replace hb5 := hbl.trans (hb5.mono (Nat.le_trans hn0 hbl.size))
            clear hT5
            go_wp2_with fail
            refine (two_agree n₀ B D s now u _ hs ⟨h0, h1⟩ hu HT5.out).mono ?_
            rintro e w6 ⟨rfl, hT6, hb6⟩
            have HT6 := Lib.hid hT6
            replace hb6 := hb5.trans (hb6.mono (Nat.le_trans hn0 hb5.size))
            clear hT6
            go_wp2_with fail
            refine (two_agree n₀ B D s now x _ hs ⟨h0, h1⟩ hx HT6.out).mono ?_
            rintro e w7 ⟨rfl, hT7, hb7⟩
            have HT7 := Lib.hid hT7
            replace hb7 := hb6.trans (hb7.mono (Nat.le_trans hn0 hb6.size))
            clear hT7
            go_wp2_with fail
            refine (rnow_yes D s now _ HT7.out.2.1).mono ?_
            rintro e w' ⟨rfl, rfl⟩
            go_wp2_with fail
            refine (two_agree n₀ B D s now now _ hs ⟨h0, h1⟩ (by omega) HT7.out).mono ?_
            rintro e w8 ⟨rfl, hT8, hb8⟩
            have HT8 := Lib.hid hT8
            replace hb8 := hb7.trans (hb8.mono (Nat.le_trans hn0 hb7.size))
            clear hT8
            go_wp2
            go_roundw
            case rel => exact ⟨k + 1, now, B, D, by omega, by go_num, rfl, rfl, by omega, by omega, HT8, hb8⟩
            case measure => simp [intOf]; omega
    · obtain rfl : k = len := by omega
      go_wp2_with fail
      refine (works_any _).mono ?_
      rintro e w' ⟨rfl, hb⟩
      go_wp2
      go_ret
      exact ⟨rfl, hbl.trans (hb.mono (Nat.le_trans hn0 hbl.size))⟩

set_option maxHeartbeats 8000000 in
set_option maxRecDepth 100000 in
theorem plays_no (s t u : Int) (a : Option Addr) (len cap : Nat) (G : Nat → Nat → Int) (w : World) (hs : s < 1)
    (hl : RT w.heap.size w [.i64, .i64] a len G) (hlen : len ≤ 200) :
    Calls Try.prog 8 #[.int .i64 s, .slice a len cap, .int .i64 t, .int .i64 u] w fun e w' => e = .returned (.bool true) ∧ Below w.heap.size w w' := by
  have HV := Lib.hid (valid_nil w)
  go_enter Try.func8, Try.ntmps8
  go_wp2_with fail
  refine (new_no s _ hs).mono ?_
  rintro e w' ⟨rfl, rfl⟩
  go_wp2_with fail
  refine (rnew_no s _ hs).mono ?_
  rintro e w' ⟨rfl, rfl⟩
  go_wp2_with fail
  go_loop [9, 11, 13] (fun v9 v11 v13 => ∃ (k : Nat), k ≤ len ∧ v13 = .int .i64 k ∧ v9 = .pointer none ∧ v11 = .pointer none) (fun _ _ v13 => len - (intOf v13).toNat)
  case atStart => exact ⟨0, by omega, rfl, rfl, rfl⟩
  case round =>
    obtain ⟨k, hk, rfl, rfl, rfl⟩ := hrel
    by_cases hlt : k < len
    · obtain ⟨b, off, rfl, hb, hc⟩ := hl (by omega)
      obtain ⟨hc0, hw0⟩ := hc k hlt 0 .i64 rfl
      obtain ⟨hc1, hw1⟩ := hc k hlt 1 .i64 rfl
      have hc0 : w.cell? ⟨b, off + k * 2 + 0, none⟩ = _ := hc0
      have hc1 : w.cell? ⟨b, off + k * 2 + 1, none⟩ = _ := hc1
      generalize G k 0 = d at *
      generalize G k 1 = x at *
      simp only [Nat.add_zero] at hc0
      have HL := Lib.hid hl
      clear hc hw0 hw1 hl hb
      by_cases d0 : d = 0
      · subst d0
        go_wp2_with fail
        refine (advance_nil _ x _ HV).mono ?_
        rintro e w' ⟨rfl, rfl⟩
        go_wp2_with fail
        refine (radvance_nil x _).mono ?_
        rintro e w' ⟨rfl, rfl⟩
        go_wp2_with fail
        refine (agree_nil t _).mono ?_
        rintro e w' ⟨rfl, rfl⟩
        go_wp2_with fail
        refine (agree_nil u _).mono ?_
        rintro e w' ⟨rfl, rfl⟩
        go_wp2_with fail
        refine (agree_nil x _).mono ?_
        rintro e w' ⟨rfl, rfl⟩
        go_wp2_with fail
        refine (rnow_nil _).mono ?_
        rintro e w' ⟨rfl, rfl⟩
        go_wp2_with fail
        refine (agree_nil 0 _).mono ?_
        rintro e w' ⟨rfl, rfl⟩
        go_wp2
        go_round
        case rel => exact ⟨k + 1, by omega, by go_num, rfl, rfl⟩
        case measure => simp [intOf]; omega
      · have e0 : (d == 0) = false := by simpa using d0
        by_cases d1 : d = 1
        · subst d1
          go_wp2_with fail
          refine (check_nil _ x _ HV).mono ?_
          rintro e w' ⟨rfl, rfl⟩
          go_wp2_with fail
          refine (rcheck_nil x _).mono ?_
          rintro e w' ⟨rfl, rfl⟩
          go_wp2_with fail
          refine (agree_nil t _).mono ?_
          rintro e w' ⟨rfl, rfl⟩
          go_wp2_with fail
          refine (agree_nil u _).mono ?_
          rintro e w' ⟨rfl, rfl⟩
          go_wp2_with fail
          refine (agree_nil x _).mono ?_
          rintro e w' ⟨rfl, rfl⟩
          go_wp2_with fail
          refine (rnow_nil _).mono ?_
          rintro e w' ⟨rfl, rfl⟩
          go_wp2_with fail
          refine (agree_nil 0 _).mono ?_
          rintro e w' ⟨rfl, rfl⟩
          go_wp2
          go_round
          case rel => exact ⟨k + 1, by omega, by go_num, rfl, rfl⟩
          case measure => simp [intOf]; omega
        · have e1 : (d == 1) = false := by simpa using d1
          by_cases d2 : d = 2
          · subst d2
            go_wp2_with fail
            refine (copy_nil _ _ HV).mono ?_
            rintro e w' ⟨rfl, rfl⟩
            go_wp2_with fail
            refine (rcopy_nil _).mono ?_
            rintro e w' ⟨rfl, rfl⟩
            go_wp2_with fail
            refine (advance_nil _ x _ HV).mono ?_
            rintro e w' ⟨rfl, rfl⟩
            go_wp2_with fail
            refine (agree_nil t _).mono ?_
            rintro e w' ⟨rfl, rfl⟩
            go_wp2_with fail
            refine (agree_nil u _).mono ?_
            rintro e w' ⟨rfl, rfl⟩
            go_wp2_with fail
            refine (agree_nil x _).mono ?_
            rintro e w' ⟨rfl, rfl⟩
            go_wp2_with fail
            refine (rnow_nil _).mono ?_
            rintro e w' ⟨rfl, rfl⟩
            go_wp2_with fail
            refine (agree_nil 0 _).mono ?_
            rintro e w' ⟨rfl, rfl⟩
            go_wp2
            go_round
            case rel => exact ⟨k + 1, by omega, by go_num, rfl, rfl⟩
            case measure => simp [intOf]; omega
          · have e2 : (d == 2) = false := by simpa using d2
            go_wp2_with fail
            refine (agree_nil t _).mono ?_
            rintro e w' ⟨rfl, rfl⟩
            go_wp2_with fail
            refine (agree_nil u _).mono ?_
            rintro e w' ⟨rfl, rfl⟩
            go_wp2_with fail
            refine (agree_nil x _).mono ?_
            rintro e w' ⟨rfl, rfl⟩
            go_wp2_with fail
            refine (rnow_nil _).mono ?_
            rintro e w' ⟨rfl, rfl⟩
            go_wp2_with fail
            refine (agree_nil 0 _).mono ?_
            rintro e w' ⟨rfl, rfl⟩
            go_wp2
            go_round
            case rel => exact ⟨k + 1, by omega, by go_num, rfl, rfl⟩
            case measure => simp [intOf]; omega
    · obtain rfl : k = len := by omega
      go_wp2_with fail
      refine (works_any _).mono ?_
      rintro e w' ⟨rfl, hb⟩
      go_wp2
      go_ret
      exact ⟨rfl, hb⟩

theorem plays_long (s t u : Int) (a : Option Addr) (len cap : Nat) (w : World) (hlen : 200 < len) (hm : len ≤ 9223372036854775807) :
    Calls Try.prog 8 #[.int .i64 s, .slice a len cap, .int .i64 t, .int .i64 u] w fun e w' => e = .returned (.bool true) ∧ Below w.heap.size w w' := by
  go_enter Try.func8, Try.ntmps8
  go_wp2_with fail
  refine (works_any _).mono ?_
  rintro e w' ⟨rfl, hb⟩
  go_wp2
  go_ret
  exact ⟨rfl, hb⟩

theorem steps : IntStruct Try.prog 44 [.i64, .i64] :=
  ⟨_, Try.underlying44, by kernel_rfl, fun i k h => match i, h with
    | 0, h => by cases h; exact ⟨_, rfl, Try.underlying3, rfl, by kernel_rfl⟩
    | 1, h => by cases h; exact ⟨_, rfl, Try.underlying2, rfl, by kernel_rfl⟩
    | n + 2, h => by simp at h⟩

/-- ClockPlays returns true at every input; nothing that existed has changed. -/
theorem plays_walk (w : World) (s : Int) (w0 : (Lit.int .i64 s).wf = true) (a : Option Addr) (len cap : Nat) (G : Nat → Nat → Int) (hlc : len ≤ cap) (hcm : cap ≤ maxLen) (hl : RT w.heap.size w [.i64, .i64] a len G) (t : Int) (w2 : (Lit.int .i64 t).wf = true) (u : Int) (w3 : (Lit.int .i64 u).wf = true) :
    Calls Try.prog 8 #[.int .i64 s, .slice a len cap, .int .i64 t, .int .i64 u] w fun e w' => e = .returned (.bool true) ∧ Below w.heap.size w w' := by
  unfold maxLen at hcm
  by_cases h : 200 < len
  · exact plays_long s t u a len cap w h (by omega)
  · by_cases h1 : s < 1
    · exact plays_no s t u a len cap G w h1 hl (by omega)
    · exact plays_yes s t u a len cap G w ⟨by omega, (bounds_i64 w0).2⟩ (bounds_i64 w2) (bounds_i64 w3) hl (by omega)

end Go.Proofs.Ytcmhdapmecfokaa
