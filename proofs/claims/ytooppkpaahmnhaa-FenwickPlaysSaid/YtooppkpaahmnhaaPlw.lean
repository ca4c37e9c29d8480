/- FenwickPlays: the walk. -/
import Derived.Test.YtooppkpaahmnhaaNws
namespace Go.Proofs.Ytooppkpaahmnhaa
open Go.RowKit Go.Shelf
attribute [local go_sem] Oper.semAt_some

abbrev Ks : List IntKind := [.i64, .i64, .i64, .i64, .i64, .i64]
theorem row_in {G : Nat → Nat → Int} {k : Nat} (h : ∀ i, i < 6 → (Lit.int .i64 (G k i)).wf = true) : InR (G k) := fun i hi => i64_range (h i hi)

set_option maxRecDepth 100000 in
set_option maxHeartbeats 8000000 in
theorem plays_bad (w : World) (n : Int) (a : Option Addr) (len cap : Nat) (G : Nat → Nat → Int) (hl : RT w.heap.size w Ks a len G) (hn : n < 0) (hlen : len ≤ 200) :
    Calls Try.prog 9 #[.int .i64 n, .slice a len cap] w fun e w' => e = .returned (.bool true) ∧ Below w.heap.size w w' := by
  have hd1 : decide (200 < n) = false := decide_eq_false (by omega)
  have hd2 : decide ((200 : Int) < (len : Int)) = false := decide_eq_false (by omega)
  replace hl := Lib.hid hl
  go_enter Try.func9, Try.ntmps9
  go_wp2_with fail
  refine (new_no n _ (.inl hn)).mono ?_
  rintro e w1 ⟨rfl, rfl⟩
  go_wp2_with fail
  refine (rnew_no n _ (.inl hn)).mono ?_
  rintro e w1 ⟨rfl, rfl⟩
  go_wp2_with fail
  go_loopw [5, 7, 9] (fun v5 v7 v9 wr => ∃ (k : Nat) (pc pr : Option Addr) (xs : List Int), k ≤ len ∧ v5 = .pointer pc ∧ v7 = .pointer pr ∧ v9 = .int .i64 (k : Int) ∧ St w wr pc pr xs) (fun _ _ v9 _ => len - (intOf v9).toNat)
  case atStart => exact ⟨0, none, none, [], by omega, rfl, rfl, rfl, .inl ⟨rfl, rfl, rfl, Below.refl _ _⟩⟩
  case round =>
    obtain ⟨k, pc, pr, xs, hk, rfl, rfl, rfl, hS⟩ := hrel
    by_cases hlt : k < len
    · have k0 : (0 : Int) ≤ (k : Int) := by omega
      have k1 : (k : Int) < (len : Int) := by omega
      obtain ⟨b, off, rfl, hb, hc⟩ := hl.out (by omega)
      replace hc := hc k hlt
      have hB : Below w.heap.size w wr := hS.has.2.2
      have hcell : ∀ i, i < 6 → wr.cell? ⟨b, off + k * 6 + i, none⟩ = some (.int .i64 (G k i)) ∧ (Lit.int .i64 (G k i)).wf = true := fun i hi => by
        have := hc i .i64 (by match i, hi with | 0, _ => rfl | 1, _ => rfl | 2, _ => rfl | 3, _ => rfl | 4, _ => rfl | 5, _ => rfl)
        exact ⟨(hB.cell (p := ⟨b, off + k * 6 + i, none⟩) hb).trans this.1, this.2⟩
      have hg := row_in (fun i hi => (hcell i hi).2)
      have c0 : wr.cell? ⟨b, off + k * 6, none⟩ = some (.int .i64 (G k 0)) := (hcell 0 (by omega)).1
      have c1 := (hcell 1 (by omega)).1
      have c2 := (hcell 2 (by omega)).1
      have c3 := (hcell 3 (by omega)).1
      have c4 := (hcell 4 (by omega)).1
      have c5 := (hcell 5 (by omega)).1
      generalize G k = g at *
      have hg2 := hg 2 (by omega)
      replace hg := Lib.hid hg
      have S1 := hS.keep (below1 wr (.cells (Stp g) 35))
      have B1 := Blk.new wr (Stp g) 35
      replace S1 := Lib.hid S1
      replace B1 := Lib.hid B1
      clear hcell hc hS hB
      go_upto_region 11 with fail
      generalize wr.alloc (.cells (Stp g) 35) = W1 at *
      generalize wr.heap.size = B at *
      clear c0 c1 c2 c3 c4 c5 hb
      have s0 := B1.out.cell 0 (v := .int .i64 (g 0)) rfl
      by_cases h0 : g 0 = 0
      · have hd0 : (g 0 == 0) = true := by simp [h0]
        clear h0
        have SD := S1.out.keep (bel_drew (Below.refl W1.heap.size W1))
        have BD : Blk W1.drew B (Stp g) 35 := B1.out
        obtain ⟨E, ys, M, m1, m2, m3⟩ := play_add SD (g 1) (g 2) hg2
        have x1 : W1.cell? ⟨B, 1, none⟩ = some (.int .i64 (g 1)) ∧ W1.cell? ⟨B, 2, none⟩ = some (.int .i64 (g 2)) := ⟨B1.out.cell 1 rfl, B1.out.cell 2 rfl⟩
        have x2 : W1.drew.cell? ⟨B, 1, none⟩ = some (.int .i64 (g 1)) ∧ W1.drew.cell? ⟨B, 2, none⟩ = some (.int .i64 (g 2)) := ⟨B1.out.cell 1 rfl, B1.out.cell 2 rfl⟩
        replace m1 := Lib.hid m1
        replace m2 := Lib.hid m2
        replace m3 := Lib.hid m3
        replace BD := Lib.hid BD
        clear SD
        go_wp2_with fail
        go_region_held3 (fun w' => w'.cell? ⟨B, 1, none⟩ = some (.int .i64 (g 1)) ∧ w'.cell? ⟨B, 2, none⟩ = some (.int .i64 (g 2)))
          (first | assumption)
          (first
            | (go_at_call 22; refine m2.out.mono ?_; rintro e w3 ⟨rfl, hm⟩; have B3 := m1.out _ _ BD.out _ hm; have x3 : w3.cell? ⟨B, 1, none⟩ = some (.int .i64 (g 1)) ∧ w3.cell? ⟨B, 2, none⟩ = some (.int .i64 (g 2)) := ⟨B3.cell 1 rfl, B3.cell 2 rfl⟩; replace hm := Lib.hid hm; replace B3 := Lib.hid B3)
            | (go_at_call 23; refine (m3.out _ hm.out).mono ?_; rintro e w4 ⟨rfl, S4, k4⟩; have B4 := k4 _ _ B3.out; have x4 : w4.cell? ⟨B, 1, none⟩ = some (.int .i64 (g 1)) ∧ w4.cell? ⟨B, 2, none⟩ = some (.int .i64 (g 2)) := ⟨B4.cell 1 rfl, B4.cell 2 rfl⟩; replace S4 := Lib.hid S4; replace B4 := Lib.hid B4; clear k4))
        all_goals
         have S9 := S4
         have B9 := B4
         clear x1 x2 x3 x4 s0
         have hH := S9.out.has
         have s0 := B9.out.cell 0 (v := .int .i64 (g 0)) rfl
         have s1 := B9.out.cell 1 (v := .int .i64 (g 1)) rfl
         have s2 := B9.out.cell 2 (v := .int .i64 (g 2)) rfl
         have s3 := B9.out.cell 3 (v := .int .i64 (g 3)) rfl
         have s4 := B9.out.cell 4 (v := .int .i64 (g 4)) rfl
         have s5 := B9.out.cell 5 (v := .int .i64 (g 5)) rfl
         replace hH := Lib.hid hH
         go_wp2_with fail
         refine (agree_has hH.out.1 hH.out.2.1 hg.out).mono ?_
         rintro e w9 ⟨rfl, hb9⟩
         have S10 := Lib.hid (S9.out.keep hb9)
         clear hb9 s0 s1 s2 s3 s4 s5
         go_wp2_with fail
         go_roundw
         case rel => exact ⟨k + 1, _, _, _, by omega, rfl, rfl, by go_num, S10.out⟩
         case measure => simp [intOf]; omega
      · have hd0 : (g 0 == 0) = false := by simp [h0]
        by_cases h1 : g 0 = 1
        · have hd1 : (g 0 == 1) = true := by simp [h1]
          clear h0 h1
          go_wp2_with fail
          refine (play_copy S1.out).mono ?_
          rintro e w2 ⟨pc', rfl, hb2, hcall⟩
          have B2 := Lib.hid (B1.out.below hb2 B1.out.lt)
          replace hcall := Lib.hid hcall
          clear hb2 s0
          go_wp2_with fail
          refine hcall.out.mono ?_
          rintro e w3 ⟨pr', rfl, hb3, S3⟩
          have B9 := Lib.hid (B2.out.below hb3 B2.out.lt)
          have S9 := Lib.hid S3
          clear hb3 S3 hcall
          have hH := S9.out.has
          have s0 := B9.out.cell 0 (v := .int .i64 (g 0)) rfl
          have s1 := B9.out.cell 1 (v := .int .i64 (g 1)) rfl
          have s2 := B9.out.cell 2 (v := .int .i64 (g 2)) rfl
          have s3 := B9.out.cell 3 (v := .int .i64 (g 3)) rfl
          have s4 := B9.out.cell 4 (v := .int .i64 (g 4)) rfl
          have s5 := B9.out.cell 5 (v := .int .i64 (g 5)) rfl
          replace hH := Lib.hid hH
          go_wp2_with fail
          refine (agree_has hH.out.1 hH.out.2.1 hg.out).mono ?_
          rintro e w9 ⟨rfl, hb9⟩
          have S10 := Lib.hid (S9.out.keep hb9)
          clear hb9 s0 s1 s2 s3 s4 s5
          go_wp2_with fail
          go_roundw
          case rel => exact ⟨k + 1, _, _, _, by omega, rfl, rfl, by go_num, S10.out⟩
          case measure => simp [intOf]; omega
        · have hd1 : (g 0 == 1) = false := by simp [h1]
          clear h0 h1
          have B9 := B1
          have S9 := S1
          have hH := S9.out.has
          have s0 := B9.out.cell 0 (v := .int .i64 (g 0)) rfl
          have s1 := B9.out.cell 1 (v := .int .i64 (g 1)) rfl
          have s2 := B9.out.cell 2 (v := .int .i64 (g 2)) rfl
          have s3 := B9.out.cell 3 (v := .int .i64 (g 3)) rfl
          have s4 := B9.out.cell 4 (v := .int .i64 (g 4)) rfl
          have s5 := B9.out.cell 5 (v := .int .i64 (g 5)) rfl
          replace hH := Lib.hid hH
          go_wp2_with fail
          refine (agree_has hH.out.1 hH.out.2.1 hg.out).mono ?_
          rintro e w9 ⟨rfl, hb9⟩
          have S10 := Lib.hid (S9.out.keep hb9)
          clear hb9 s0 s1 s2 s3 s4 s5
          go_wp2_with fail
          go_roundw
          case rel => exact ⟨k + 1, _, _, _, by omega, rfl, rfl, by go_num, S10.out⟩
          case measure => simp [intOf]; omega
    · have k1 : ¬ (k : Int) < (len : Int) := by omega
      have hb0 := Lib.hid hS.has.2.2
      clear hS
      go_wp2_with fail
      refine (works_any _).mono ?_
      rintro e w9 ⟨rfl, hb9⟩
      replace hb9 := Lib.hid hb9
      go_wp2_with fail
      go_ret
      exact ⟨rfl, bel_trans hb0.out hb9.out⟩

set_option maxRecDepth 100000 in
set_option maxHeartbeats 8000000 in
theorem plays_good (w : World) (n : Nat) (a : Option Addr) (len cap : Nat) (G : Nat → Nat → Int) (hl : RT w.heap.size w Ks a len G) (hn : n ≤ 200) (hlen : len ≤ 200) :
    Calls Try.prog 9 #[.int .i64 (n : Int), .slice a len cap] w fun e w' => e = .returned (.bool true) ∧ Below w.heap.size w w' := by
  have hd1 : decide ((200 : Int) < (n : Int)) = false := decide_eq_false (by omega)
  have hd2 : decide ((200 : Int) < (len : Int)) = false := decide_eq_false (by omega)
  replace hl := Lib.hid hl
  go_enter Try.func9, Try.ntmps9
  go_wp2_with fail
  refine (new_own n _ (by omega)).mono ?_
  rintro e w1 ⟨c, cb, nb, rfl, o1⟩
  replace o1 := Lib.hid o1
  go_wp2_with fail
  refine (rnew_yes n _ (by omega)).mono ?_
  rintro e w2 ⟨rfl, t2, hb2⟩
  have P := Lib.hid (news_pl o1.out t2 hb2)
  clear t2 hb2
  go_wp2_with fail
  go_loopw [5, 7, 9] (fun v5 v7 v9 wr => ∃ (k : Nat) (pc pr : Option Addr) (xs : List Int), k ≤ len ∧ v5 = .pointer pc ∧ v7 = .pointer pr ∧ v9 = .int .i64 (k : Int) ∧ St w wr pc pr xs) (fun _ _ v9 _ => len - (intOf v9).toNat)
  case atStart => exact ⟨0, _, _, _, by omega, rfl, rfl, rfl, .inr ⟨_, _, _, _, _, rfl, rfl, P.out⟩⟩
  case round =>
    obtain ⟨k, pc, pr, xs, hk, rfl, rfl, rfl, hS⟩ := hrel
    by_cases hlt : k < len
    · have k0 : (0 : Int) ≤ (k : Int) := by omega
      have k1 : (k : Int) < (len : Int) := by omega
      obtain ⟨b, off, rfl, hb, hc⟩ := hl.out (by omega)
      replace hc := hc k hlt
      have hB : Below w.heap.size w wr := hS.has.2.2
      have hcell : ∀ i, i < 6 → wr.cell? ⟨b, off + k * 6 + i, none⟩ = some (.int .i64 (G k i)) ∧ (Lit.int .i64 (G k i)).wf = true := fun i hi => by
        have := hc i .i64 (by match i, hi with | 0, _ => rfl | 1, _ => rfl | 2, _ => rfl | 3, _ => rfl | 4, _ => rfl | 5, _ => rfl)
        exact ⟨(hB.cell (p := ⟨b, off + k * 6 + i, none⟩) hb).trans this.1, this.2⟩
      have hg := row_in (fun i hi => (hcell i hi).2)
      have c0 : wr.cell? ⟨b, off + k * 6, none⟩ = some (.int .i64 (G k 0)) := (hcell 0 (by omega)).1
      have c1 := (hcell 1 (by omega)).1
      have c2 := (hcell 2 (by omega)).1
      have c3 := (hcell 3 (by omega)).1
      have c4 := (hcell 4 (by omega)).1
      have c5 := (hcell 5 (by omega)).1
      generalize G k = g at *
      have hg2 := hg 2 (by omega)
      replace hg := Lib.hid hg
      have S1 := hS.keep (below1 wr (.cells (Stp g) 35))
      have B1 := Blk.new wr (Stp g) 35
      replace S1 := Lib.hid S1
      replace B1 := Lib.hid B1
      clear hcell hc hS hB
      go_upto_region 11 with fail
      generalize wr.alloc (.cells (Stp g) 35) = W1 at *
      generalize wr.heap.size = B at *
      clear c0 c1 c2 c3 c4 c5 hb
      have s0 := B1.out.cell 0 (v := .int .i64 (g 0)) rfl
      by_cases h0 : g 0 = 0
      · have hd0 : (g 0 == 0) = true := by simp [h0]
        clear h0
        have SD := S1.out.keep (bel_drew (Below.refl W1.heap.size W1))
        have BD : Blk W1.drew B (Stp g) 35 := B1.out
        obtain ⟨E, ys, M, m1, m2, m3⟩ := play_add SD (g 1) (g 2) hg2
        have x1 : W1.cell? ⟨B, 1, none⟩ = some (.int .i64 (g 1)) ∧ W1.cell? ⟨B, 2, none⟩ = some (.int .i64 (g 2)) := ⟨B1.out.cell 1 rfl, B1.out.cell 2 rfl⟩
        have x2 : W1.drew.cell? ⟨B, 1, none⟩ = some (.int .i64 (g 1)) ∧ W1.drew.cell? ⟨B, 2, none⟩ = some (.int .i64 (g 2)) := ⟨B1.out.cell 1 rfl, B1.out.cell 2 rfl⟩
        replace m1 := Lib.hid m1
        replace m2 := Lib.hid m2
        replace m3 := Lib.hid m3
        replace BD := Lib.hid BD
        clear SD
        go_wp2_with fail
        go_region_held3 (fun w' => w'.cell? ⟨B, 1, none⟩ = some (.int .i64 (g 1)) ∧ w'.cell? ⟨B, 2, none⟩ = some (.int .i64 (g 2)))
          (first | assumption)
          (first
            | (go_at_call 22; refine m2.out.mono ?_; rintro e w3 ⟨rfl, hm⟩; have B3 := m1.out _ _ BD.out _ hm; have x3 : w3.cell? ⟨B, 1, none⟩ = some (.int .i64 (g 1)) ∧ w3.cell? ⟨B, 2, none⟩ = some (.int .i64 (g 2)) := ⟨B3.cell 1 rfl, B3.cell 2 rfl⟩; replace hm := Lib.hid hm; replace B3 := Lib.hid B3)
            | (go_at_call 23; refine (m3.out _ hm.out).mono ?_; rintro e w4 ⟨rfl, S4, k4⟩; have B4 := k4 _ _ B3.out; have x4 : w4.cell? ⟨B, 1, none⟩ = some (.int .i64 (g 1)) ∧ w4.cell? ⟨B, 2, none⟩ = some (.int .i64 (g 2)) := ⟨B4.cell 1 rfl, B4.cell 2 rfl⟩; replace S4 := Lib.hid S4; replace B4 := Lib.hid B4; clear k4))
        all_goals
         have S9 := S4
         have B9 := B4
         clear x1 x2 x3 x4 s0
         have hH := S9.out.has
         have s0 := B9.out.cell 0 (v := .int .i64 (g 0)) rfl
         have s1 := B9.out.cell 1 (v := .int .i64 (g 1)) rfl
         have s2 := B9.out.cell 2 (v := .int .i64 (g 2)) rfl
         have s3 := B9.out.cell 3 (v := .int .i64 (g 3)) rfl
         have s4 := B9.out.cell 4 (v := .int .i64 (g 4)) rfl
         have s5 := B9.out.cell 5 (v := .int .i64 (g 5)) rfl
         replace hH := Lib.hid hH
         go_wp2_with fail
         refine (agree_has hH.out.1 hH.out.2.1 hg.out).mono ?_
         rintro e w9 ⟨rfl, hb9⟩
         have S10 := Lib.hid (S9.out.keep hb9)
         clear hb9 s0 s1 s2 s3 s4 s5
         go_wp2_with fail
         go_roundw
         case rel => exact ⟨k + 1, _, _, _, by omega, rfl, rfl, by go_num, S10.out⟩
         case measure => simp [intOf]; omega
      · have hd0 : (g 0 == 0) = false := by simp [h0]
        by_cases h1 : g 0 = 1
        · have hd1 : (g 0 == 1) = true := by simp [h1]
          clear h0 h1
          go_wp2_with fail
          refine (play_copy S1.out).mono ?_
          rintro e w2 ⟨pc', rfl, hb2, hcall⟩
          have B2 := Lib.hid (B1.out.below hb2 B1.out.lt)
          replace hcall := Lib.hid hcall
          clear hb2 s0
          go_wp2_with fail
          refine hcall.out.mono ?_
          rintro e w3 ⟨pr', rfl, hb3, S3⟩
          have B9 := Lib.hid (B2.out.below hb3 B2.out.lt)
          have S9 := Lib.hid S3
          clear hb3 S3 hcall
          have hH := S9.out.has
          have s0 := B9.out.cell 0 (v := .int .i64 (g 0)) rfl
          have s1 := B9.out.cell 1 (v := .int .i64 (g 1)) rfl
          have s2 := B9.out.cell 2 (v := .int .i64 (g 2)) rfl
          have s3 := B9.out.cell 3 (v := .int .i64 (g 3)) rfl
          have s4 := B9.out.cell 4 (v := .int .i64 (g 4)) rfl
          have s5 := B9.out.cell 5 (v := .int .i64 (g 5)) rfl
          replace hH := Lib.hid hH
          go_wp2_with fail
          refine (agree_has hH.out.1 hH.out.2.1 hg.out).mono ?_
          rintro e w9 ⟨rfl, hb9⟩
          have S10 := Lib.hid (S9.out.keep hb9)
          clear hb9 s0 s1 s2 s3 s4 s5
          go_wp2_with fail
          go_roundw
          case rel => exact ⟨k + 1, _, _, _, by omega, rfl, rfl, by go_num, S10.out⟩
          case measure => simp [intOf]; omega
        · have hd1 : (g 0 == 1) = false := by simp [h1]
          clear h0 h1
          have B9 := B1
          have S9 := S1
          have hH := S9.out.has
          have s0 := B9.out.cell 0 (v := .int .i64 (g 0)) rfl
          have s1 := B9.out.cell 1 (v := .int .i64 (g 1)) rfl
          have s2 := B9.out.cell 2 (v := .int .i64 (g 2)) rfl
          have s3 := B9.out.cell 3 (v := .int .i64 (g 3)) rfl
          have s4 := B9.out.cell 4 (v := .int .i64 (g 4)) rfl
          have s5 := B9.out.cell 5 (v := .int .i64 (g 5)) rfl
          replace hH := Lib.hid hH
          go_wp2_with fail
          refine (agree_has hH.out.1 hH.out.2.1 hg.out).mono ?_
          rintro e w9 ⟨rfl, hb9⟩
          have S10 := Lib.hid (S9.out.keep hb9)
          clear hb9 s0 s1 s2 s3 s4 s5
          go_wp2_with fail
          go_roundw
          case rel => exact ⟨k + 1, _, _, _, by omega, rfl, rfl, by go_num, S10.out⟩
          case measure => simp [intOf]; omega
    · have k1 : ¬ (k : Int) < (len : Int) := by omega
      have hb0 := Lib.hid hS.has.2.2
      clear hS
      go_wp2_with fail
      refine (works_any _).mono ?_
      rintro e w9 ⟨rfl, hb9⟩
      replace hb9 := Lib.hid hb9
      go_wp2_with fail
      go_ret
      exact ⟨rfl, bel_trans hb0.out hb9.out⟩

set_option maxRecDepth 100000 in
set_option maxHeartbeats 4000000 in
theorem plays_big (w : World) (n : Int) (a : Option Addr) (len cap : Nat) (h : 200 < n ∨ 200 < len) :
    Calls Try.prog 9 #[.int .i64 n, .slice a len cap] w fun e w' => e = .returned (.bool true) ∧ Below w.heap.size w w' := by
  by_cases h1 : 200 < n
  · have hd1 : decide (200 < n) = true := decide_eq_true h1
    go_enter Try.func9, Try.ntmps9
    go_wp2_with fail
    refine (works_any _).mono ?_
    rintro e w9 ⟨rfl, hb9⟩
    replace hb9 := Lib.hid hb9
    go_wp2_with fail
    go_ret
    exact ⟨rfl, hb9.out⟩
  · have hd1 : decide (200 < n) = false := decide_eq_false h1
    have hd2 : decide ((200 : Int) < (len : Int)) = true := decide_eq_true (by omega)
    go_enter Try.func9, Try.ntmps9
    go_wp2_with fail
    refine (works_any _).mono ?_
    rintro e w9 ⟨rfl, hb9⟩
    replace hb9 := Lib.hid hb9
    go_wp2_with fail
    go_ret
    exact ⟨rfl, hb9.out⟩

theorem plays_walk (w : World) (n : Int) (_hn : (Lit.int .i64 n).wf = true) (a : Option Addr) (len cap : Nat) (G : Nat → Nat → Int) (_hlc : len ≤ cap) (_hcm : cap ≤ maxLen) (hl : RT w.heap.size w Ks a len G) :
    Calls Try.prog 9 #[.int .i64 n, .slice a len cap] w fun e w' => e = .returned (.bool true) ∧ Below w.heap.size w w' := by
  by_cases h : 200 < n ∨ 200 < len
  · exact plays_big w n a len cap h
  · by_cases h0 : n < 0
    · exact plays_bad w n a len cap G hl h0 (by omega)
    · obtain ⟨k, rfl⟩ := Int.eq_ofNat_of_zero_le (show 0 ≤ n by omega)
      exact plays_good w k a len cap G hl (by omega) (by omega)

end Go.Proofs.Ytooppkpaahmnhaa
