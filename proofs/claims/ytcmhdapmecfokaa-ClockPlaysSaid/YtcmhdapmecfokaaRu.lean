/- The reference's clock: its contracts. -/
import Derived.Test.YtcmhdapmecfokaaRt
import Derived.Test.YtcmhdapmecfokaaKno
import Derived.Deep.RegionHeld3
import Derived.Deep.DeepCutAuto
namespace Go.Proofs.Ytcmhdapmecfokaa
open Go.RowKit

theorem plus_out (s t : Bool) (a b c d : Int) (w : World) (ha : 0 ≤ a ∧ a < 4294967296) (hb : 0 ≤ b ∧ b < 4294967296) (hc : 0 ≤ c ∧ c < 4294967296) (hd : 0 ≤ d ∧ d < 4294967296) :
    Calls Try.prog 35 #[Wv s a b 0, Wv t c d 0] w fun e w' => ∃ u p q r, e = .returned (.agg #[.bool u, .int .u64 p, .int .u64 q, .int .u64 r, .int .u64 0, .int .u64 0, .int .u64 0]) ∧ (0 ≤ p ∧ p < 4294967296) ∧ (0 ≤ q ∧ q < 4294967296) ∧ (0 ≤ r ∧ r ≤ 1) ∧
      sg u (p + q * 4294967296 + r * 18446744073709551616) = sg s (a + b * 4294967296) + sg t (c + d * 4294967296) ∧ Below w.heap.size w w' := plus_any s t a b c d w ha hb hc hd
theorem cell_alo {w : World} {a : Addr} {v : Value} (o : Obj) (h : w.cell? a = some v) : (w.alloc o).cell? a = some v := (World.cell?_alloc_lt _ _ _ (World.block_lt_of_cell? _ _ h)).trans h
theorem cell_drw {w : World} {a : Addr} {v : Value} (h : w.cell? a = some v) : w.drew.cell? a = some v := h
theorem Blk.drw {w : World} {b : Nat} {cs : Array Value} {T : Nat} (h : Blk w b cs T) : Blk w.drew b cs T := h
theorem set7_blk {w : World} {b T : Nat} {v0 v1 v2 v3 v4 v5 v6 x0 x1 x2 x3 x4 x5 x6 : Value} (h : Blk w b #[v0, v1, v2, v3, v4, v5, v6] T) : Blk (((((((w.setCell ⟨b, 0, none⟩ x0).setCell ⟨b, 1, none⟩ x1).setCell ⟨b, 2, none⟩ x2).setCell ⟨b, 3, none⟩ x3).setCell ⟨b, 4, none⟩ x4).setCell ⟨b, 5, none⟩ x5).setCell ⟨b, 6, none⟩ x6) b #[x0, x1, x2, x3, x4, x5, x6] T := by
  have := ((((((h.set 0 x0).set 1 x1).set 2 x2).set 3 x3).set 4 x4).set 5 x5).set 6 x6
  simpa using this
theorem set7_bel {a w : World} {b : Nat} {x0 x1 x2 x3 x4 x5 x6 : Value} (h : Below a.heap.size a w) (hb : a.heap.size ≤ b) : Below a.heap.size a (((((((w.setCell ⟨b, 0, none⟩ x0).setCell ⟨b, 1, none⟩ x1).setCell ⟨b, 2, none⟩ x2).setCell ⟨b, 3, none⟩ x3).setCell ⟨b, 4, none⟩ x4).setCell ⟨b, 5, none⟩ x5).setCell ⟨b, 6, none⟩ x6) := bel_set (bel_set (bel_set (bel_set (bel_set (bel_set (bel_set h hb _) hb _) hb _) hb _) hb _) hb _) hb _
theorem cc_keep {a a' : Addr} {v v' : Value} {w w' : World} (hb : Below w.heap.size w w') (h : w.cell? a = some v ∧ w.cell? a' = some v') : w'.cell? a = some v ∧ w'.cell? a' = some v' := ⟨cell_later hb h.1, cell_later hb h.2⟩
theorem cc_alo {a a' : Addr} {v v' : Value} {w : World} {o : Obj} (h : w.cell? a = some v ∧ w.cell? a' = some v') : (w.alloc o).cell? a = some v ∧ (w.alloc o).cell? a' = some v' := ⟨cell_alo o h.1, cell_alo o h.2⟩
/-- a clock of the document lies in block b -/
abbrev RK (w : World) (b : Nat) (s t : Int) : Prop := Blk w b #[.bool true, .int .i64 s, .int .i64 t] 53

theorem rvalid_nil (w : World) : Calls Try.prog 32 #[.pointer none] w fun e w' => e = .returned (.bool false) ∧ w = w' := by
  go_enter Try.func32, Try.ntmps32
  go_wp2
  go_ret
  exact ⟨rfl, rfl⟩

theorem rnew_no (s : Int) (w : World) (hs : s < 1) : Calls Try.prog 18 #[.int .i64 s] w fun e w' => e = .returned (.tuple #[.pointer none, .int .i64 2]) ∧ w = w' := by
  go_enter Try.func18, Try.ntmps18
  go_wp2
  go_ret2
  exact ⟨rfl, rfl⟩

theorem rnew_yes (s : Int) (w : World) (hs : ¬ s < 1) : Calls Try.prog 18 #[.int .i64 s] w fun e w' => ∃ B, e = .returned (.tuple #[.pointer (some ⟨B, 0, none⟩), .int .i64 0]) ∧ RK w' B s 0 ∧ w.heap.size ≤ B ∧ Below w.heap.size w w' := by
  go_enter Try.func18, Try.ntmps18
  go_wp2
  go_ret2
  exact ⟨_, rfl, Blk.new _ _ _, Nat.le_refl _, below1 _ _⟩

section
variable (t : Int) (w : World)
theorem rnow_nil : Calls Try.prog 26 #[.pointer none] w fun e w' => e = .returned (.int .i64 0) ∧ w = w' := by
  go_enter Try.func26, Try.ntmps26
  go_wp2_with (go_at_call 32; refine (rvalid_nil _).mono ?_; rintro e w' ⟨rfl, rfl⟩)
  go_ret
  exact ⟨rfl, rfl⟩
theorem rwindow_nil : Calls Try.prog 30 #[.pointer none] w fun e w' => e = .returned (.int .i64 0) ∧ w = w' := by
  go_enter Try.func30, Try.ntmps30
  go_wp2_with (go_at_call 32; refine (rvalid_nil _).mono ?_; rintro e w' ⟨rfl, rfl⟩)
  go_ret
  exact ⟨rfl, rfl⟩
theorem rcheck_nil : Calls Try.prog 23 #[.pointer none, .int .i64 t] w fun e w' => e = .returned (.int .i64 1) ∧ w = w' := by
  go_enter Try.func23, Try.ntmps23
  go_wp2_with (go_at_call 32; refine (rvalid_nil _).mono ?_; rintro e w' ⟨rfl, rfl⟩)
  go_ret
  exact ⟨rfl, rfl⟩
theorem radvance_nil : Calls Try.prog 22 #[.pointer none, .int .i64 t] w fun e w' => e = .returned (.int .i64 1) ∧ w = w' := by
  go_enter Try.func22, Try.ntmps22
  go_wp2_with (go_at_call 23; refine (rcheck_nil t _).mono ?_; rintro e w' ⟨rfl, rfl⟩)
  go_ret
  exact ⟨rfl, rfl⟩
theorem rexpiry_nil : Calls Try.prog 29 #[.pointer none, .int .i64 t] w fun e w' => e = .returned (.tuple #[.int .i64 0, .int .i64 1]) ∧ w = w' := by
  go_enter Try.func29, Try.ntmps29
  go_wp2_with (go_at_call 32; refine (rvalid_nil _).mono ?_; rintro e w' ⟨rfl, rfl⟩)
  go_ret2
  exact ⟨rfl, rfl⟩
theorem rlive_nil : Calls Try.prog 31 #[.pointer none, .int .i64 t] w fun e w' => e = .returned (.bool false) ∧ w = w' := by
  go_enter Try.func31, Try.ntmps31
  go_wp2_with (go_at_call 32; refine (rvalid_nil _).mono ?_; rintro e w' ⟨rfl, rfl⟩)
  go_ret
  exact ⟨rfl, rfl⟩
theorem rcopy_nil : Calls Try.prog 25 #[.pointer none] w fun e w' => e = .returned (.pointer none) ∧ w = w' := by
  go_enter Try.func25, Try.ntmps25
  go_wp2_with (go_at_call 32; refine (rvalid_nil _).mono ?_; rintro e w' ⟨rfl, rfl⟩)
  go_ret
  exact ⟨rfl, rfl⟩
end

section
variable (b : Nat) (s now t : Int) (w : World) (hs : 0 < s ∧ s ≤ 9223372036854775807) (hn : 0 ≤ now ∧ now + s ≤ 9223372036854775807) (ht : -9223372036854775808 ≤ t ∧ t ≤ 9223372036854775807) (h : RK w b s now)
include h
theorem rvalid_yes : Calls Try.prog 32 #[.pointer (some ⟨b, 0, none⟩)] w fun e w' => e = .returned (.bool true) ∧ w = w' := by
  have c0 := h.cell 0 (v := .bool true) rfl
  clear h
  go_enter Try.func32, Try.ntmps32
  go_wp2
  go_ret
  exact ⟨rfl, rfl⟩
theorem rnow_yes : Calls Try.prog 26 #[.pointer (some ⟨b, 0, none⟩)] w fun e w' => e = .returned (.int .i64 now) ∧ w = w' := by
  have c2 := h.cell 2 (v := .int .i64 now) rfl
  have H := Lib.hid h
  clear h
  go_enter Try.func26, Try.ntmps26
  go_wp2_with (go_at_call 32; refine (rvalid_yes b s now _ H.out).mono ?_; rintro e w' ⟨rfl, rfl⟩)
  go_ret
  exact ⟨rfl, rfl⟩
theorem rwindow_yes : Calls Try.prog 30 #[.pointer (some ⟨b, 0, none⟩)] w fun e w' => e = .returned (.int .i64 s) ∧ w = w' := by
  have c2 := h.cell 1 (v := .int .i64 s) rfl
  have H := Lib.hid h
  clear h
  go_enter Try.func30, Try.ntmps30
  go_wp2_with (go_at_call 32; refine (rvalid_yes b s now _ H.out).mono ?_; rintro e w' ⟨rfl, rfl⟩)
  go_ret
  exact ⟨rfl, rfl⟩
theorem rcopy_yes : Calls Try.prog 25 #[.pointer (some ⟨b, 0, none⟩)] w fun e w' => ∃ B, e = .returned (.pointer (some ⟨B, 0, none⟩)) ∧ RK w' B s now ∧ w.heap.size ≤ B ∧ Below w.heap.size w w' := by
  have c1 := h.cell 1 (v := .int .i64 s) rfl
  have c2 := h.cell 2 (v := .int .i64 now) rfl
  have H := Lib.hid h
  clear h
  go_enter Try.func25, Try.ntmps25
  go_wp2_with (go_at_call 32; refine (rvalid_yes b s now _ H.out).mono ?_; rintro e w' ⟨rfl, rfl⟩)
  go_region
  all_goals (try go_wp2)
  all_goals go_ret
  all_goals exact ⟨_, rfl, Blk.new _ _ _, Nat.le_refl _, bel_alloc (bel_drew (Below.refl _ _)) _⟩
include hs ht
theorem rcheck_yes : Calls Try.prog 23 #[.pointer (some ⟨b, 0, none⟩), .int .i64 t] w fun e w' => e = .returned (.int .i64 (chk s now t)) ∧ Below w.heap.size w w' := by
  have c1 := h.cell 1 (v := .int .i64 s) rfl
  have c2 := h.cell 2 (v := .int .i64 now) rfl
  have H := Lib.hid h
  clear h
  obtain ⟨hs0, hs1⟩ := hs
  by_cases h1 : t < now
  · go_enter Try.func23, Try.ntmps23
    go_wp2_with (go_at_call 32; refine (rvalid_yes b s now _ H.out).mono ?_; rintro e w' ⟨rfl, rfl⟩)
    go_ret
    exact ⟨ret_int (show 10 = chk s now t by rw [chk, if_pos h1]), Below.refl _ _⟩
  · have e2 : ove (t + s) = chk s now t := by
      unfold ove chk
      rw [if_neg h1]
      by_cases h2 : 9223372036854775807 < t + s
      · rw [if_pos h2, if_neg (by omega)]
      · rw [if_neg h2, if_pos (by omega)]
    have E2 := Lib.hid e2
    clear e2
    go_enter Try.func23, Try.ntmps23
    go_wp2_with (first | (go_at_call 32; refine (rvalid_yes b s now _ H.out).mono ?_; rintro e w' ⟨rfl, rfl⟩) | (go_at_call 33; refine (radd_any t s _ ht ⟨by omega, hs1⟩).mono ?_; rintro e w' ⟨rfl, hb1⟩))
    go_ret
    exact ⟨ret_int E2.out, hb1⟩
theorem rexpiry_yes : Calls Try.prog 29 #[.pointer (some ⟨b, 0, none⟩), .int .i64 t] w fun e w' => e = .returned (.tuple #[.int .i64 (xpy s t), .int .i64 (xpe s t)]) ∧ Below w.heap.size w w' := by
  have c1 := h.cell 1 (v := .int .i64 s) rfl
  have H := Lib.hid h
  clear h
  obtain ⟨hs0, hs1⟩ := hs
  have e1 : ovf (t + s) = xpy s t := by
    unfold ovf xpy
    by_cases h2 : 9223372036854775807 < t + s
    · rw [if_pos h2, if_neg (by omega)]
    · rw [if_neg h2, if_pos (by omega)]
  have e2 : ove (t + s) = xpe s t := by
    unfold ove xpe
    by_cases h2 : 9223372036854775807 < t + s
    · rw [if_pos h2, if_neg (by omega)]
    · rw [if_neg h2, if_pos (by omega)]
  have HR := radd_any t s w ht ⟨by omega, hs1⟩
  rw [e1, e2] at HR
  have H1 := Lib.hid HR
  clear e1 e2 HR
  go_enter Try.func29, Try.ntmps29
  go_wp2_with (first | (go_at_call 32; refine (rvalid_yes b s now _ H.out).mono ?_; rintro e w' ⟨rfl, rfl⟩) | (go_at_call 33; refine H1.out.mono ?_; rintro e w' ⟨rfl, hb1⟩))
  go_ret2
  exact ⟨rfl, hb1⟩
theorem radvance_yes : Calls Try.prog 22 #[.pointer (some ⟨b, 0, none⟩), .int .i64 t] w fun e w' => e = .returned (.int .i64 (chk s now t)) ∧ RK w' b s (nxt s now t) ∧ Chg (· = b) w w' := by
  have hc := rcheck_yes b s now t w hs ht h
  have hl := h.lt
  obtain ⟨c, hcc⟩ : ∃ c, chk s now t = c := ⟨_, rfl⟩
  rw [hcc] at hc ⊢
  have HC := Lib.hid hc
  have H := Lib.hid h
  have hnx : nxt s now t = if c = 0 then t else now := by rw [nxt, hcc]
  have HN := Lib.hid hnx
  clear hc h hcc hnx
  by_cases h0 : (c == 0) = true
  · go_enter Try.func22, Try.ntmps22
    go_wp2_with fail
    refine HC.out.mono ?_
    rintro e w1 ⟨rfl, hb1⟩
    have h1 := H.out.below hb1 hl
    have c2 := h1.cell 2 (v := .int .i64 now) rfl
    have f2 := h1.frozen 2
    have H1 := Lib.hid h1
    clear h1
    go_wp2
    go_ret
    refine ⟨rfl, ?_, ?_⟩
    · rw [HN.out, if_pos (by simpa using h0)]
      exact H1.out.set 2 _
    · exact (Chg.of_below hb1 _).trans ((Chg.refl (· = b) _).set (p := ⟨b, 2, none⟩) rfl _)
  · have h0' : (c == 0) = false := by simpa using h0
    clear h0
    go_enter Try.func22, Try.ntmps22
    go_wp2_with fail
    refine HC.out.mono ?_
    rintro e w1 ⟨rfl, hb1⟩
    go_wp2
    go_ret
    refine ⟨rfl, ?_, Chg.of_below hb1 _⟩
    rw [HN.out, if_neg (by simpa using h0')]
    exact H.out.below hb1 hl
include hn
set_option maxHeartbeats 4000000 in
theorem rlive_yes : Calls Try.prog 31 #[.pointer (some ⟨b, 0, none⟩), .int .i64 t] w fun e w' => e = .returned (.bool (liv s now t)) ∧ Below w.heap.size w w' := by
  have hl := h.lt
  have c1 := h.cell 1 (v := .int .i64 s) rfl
  have c2 := h.cell 2 (v := .int .i64 now) rfl
  have H := Lib.hid h
  clear h
  obtain ⟨hs0, hs1⟩ := hs
  by_cases h1 : now < t
  · go_enter Try.func31, Try.ntmps31
    go_wp2_with (go_at_call 32; refine (rvalid_yes b s now _ H.out).mono ?_; rintro e w' ⟨rfl, rfl⟩)
    go_ret
    exact ⟨ret_bool (show false = liv s now t by rw [liv, decide_eq_false (by omega)]), Below.refl _ _⟩
  · go_enter Try.func31, Try.ntmps31
    go_upto_region 3 with (go_at_call 32; refine (rvalid_yes b s now _ H.out).mono ?_; rintro e w' ⟨rfl, rfl⟩)
    go_cut [5] (fun s5 wx => ∃ D u p q r, s5 = .pointer (some ⟨D, 0, none⟩) ∧ Blk wx D #[.bool u, .int .u64 p, .int .u64 q, .int .u64 r, .int .u64 0, .int .u64 0, .int .u64 0] 58 ∧ (0 ≤ p ∧ p < 4294967296) ∧ (0 ≤ q ∧ q < 4294967296) ∧ (0 ≤ r ∧ r ≤ 1) ∧
      sg u (p + q * 4294967296 + r * 18446744073709551616) = t + s ∧ Below w.heap.size w wx)
    case first =>
      go_region_with (first
        | (go_at_call_of 36 (Value.int IntKind.i64 t); refine (from_any t _ ht).mono ?_; rintro e w1 ⟨u1, a1, a2, rfl, ha1, ha2, hva, hb1⟩; have HVA := Lib.hid hva; clear hva; (first | have g1 := cell_later hb1 c1 | have g1 := cell_later hb1 (cell_drw (cell_alo _ c1))); have l1 := World.block_lt_of_cell? _ _ g1; try have k1 := (Blk.drw (Blk.new w #[.bool false, .int .u64 0, .int .u64 0, .int .u64 0, .int .u64 0, .int .u64 0, .int .u64 0] 58)).below hb1 (by simp))
        | (go_at_call_of 36 (Value.int IntKind.i64 s); refine (from_any s _ (by omega)).mono ?_; rintro e w2 ⟨u2, d1, d2, rfl, hd1, hd2, hvd, hb2⟩; have HVD := Lib.hid hvd; clear hvd; (try have k2 := k1.below hb2 k1.lt); (try have k2 := (Blk.new w1 #[.bool false, .int .u64 0, .int .u64 0, .int .u64 0, .int .u64 0, .int .u64 0, .int .u64 0] 58).below hb2 (by simp)))
        | (go_at_call 35; refine (plus_out _ _ _ _ _ _ _ ha1 ha2 hd1 hd2).mono ?_; rintro e w3 ⟨u3, p, q, r, rfl, hp, hq, hr, hpq, hb3⟩; have HP := Lib.hid hpq; clear hpq; (try have k3 := k2.below hb3 k2.lt); (try have k3 := (Blk.new w2 #[.bool false, .int .u64 0, .int .u64 0, .int .u64 0, .int .u64 0, .int .u64 0, .int .u64 0] 58).below hb3 (by simp)); try (have z0 := k3.cell 0 (v := .bool false) rfl; have f0 := k3.frozen 0; have z1 := k3.cell 1 (v := .int .u64 0) rfl; have f1 := k3.frozen 1; have z2 := k3.cell 2 (v := .int .u64 0) rfl; have f2 := k3.frozen 2; have z3 := k3.cell 3 (v := .int .u64 0) rfl; have f3 := k3.frozen 3; have z4 := k3.cell 4 (v := .int .u64 0) rfl; have f4 := k3.frozen 4; have z5 := k3.cell 5 (v := .int .u64 0) rfl; have f5 := k3.frozen 5; have z6 := k3.cell 6 (v := .int .u64 0) rfl; have f6 := k3.frozen 6)))
      all_goals
        go_wp2_with fail
        go_meet
        have hB1 : Below w.heap.size w w1 := by first | (with_reducible exact bel_trans (bel_drew (Below.refl _ _)) hb1) | (with_reducible exact bel_trans (bel_drew (bel_alloc (Below.refl _ _) _)) hb1)
        have hB2 : Below w.heap.size w w2 := by first | (with_reducible exact bel_trans hB1 hb2) | (with_reducible exact bel_trans (bel_alloc hB1 _) hb2)
        have hB3 : Below w.heap.size w w3 := by first | (with_reducible exact bel_trans hB2 hb3) | (with_reducible exact bel_trans (bel_alloc hB2 _) hb3)
        have s1 := hB1.size
        have s2 := hB2.size
        have hX := HP.out
        rw [HVA.out, HVD.out] at hX
        clear HP HVA HVD c1 c2 g1
        first
        | (with_reducible exact ⟨_, u3, p, q, r, rfl, Blk.new _ _ _, hp, hq, hr, hX, bel_alloc hB3 _⟩)
        | (with_reducible exact ⟨_, u3, p, q, r, rfl, set7_blk k3, hp, hq, hr, hX, set7_bel hB3 s2⟩)
        | (with_reducible exact ⟨_, u3, p, q, r, rfl, set7_blk k3, hp, hq, hr, hX, set7_bel hB3 s1⟩)
        | (with_reducible exact ⟨_, u3, p, q, r, rfl, set7_blk k3, hp, hq, hr, hX, set7_bel hB3 (Nat.le_refl _)⟩)
    case rest =>
      obtain ⟨D, u, p, q, r, rfl, hD, hp, hq, hr, hsum, hbl⟩ := hcut
      have hr0 : r = 0 := by
        unfold sg at hsum
        cases u
        · simp only [Bool.false_eq_true, if_false] at hsum; omega
        · simp only [if_true] at hsum; omega
      subst hr0
      rw [show p + q * 4294967296 + 0 * 18446744073709551616 = p + q * 4294967296 by omega] at hsum
      have HS := Lib.hid hsum
      have d2 := cell_later hbl c2
      clear hsum c1 c2 hr
      have q0 := hD.cell 0 (v := .bool u) rfl
      have q1 := hD.cell 1 (v := .int .u64 p) rfl
      have q2 := hD.cell 2 (v := .int .u64 q) rfl
      have q3 := hD.cell 3 (v := .int .u64 0) rfl
      have q4 := hD.cell 4 (v := .int .u64 0) rfl
      have q5 := hD.cell 5 (v := .int .u64 0) rfl
      have q6 := hD.cell 6 (v := .int .u64 0) rfl
      clear hD
      go_wp2_with fail
      go_region_with (first
        | (go_at_call 36; refine (from_any now _ (by omega)).mono ?_; rintro e w1 ⟨u1, a1, a2, rfl, ha1, ha2, hva, hb1⟩; have HVA := Lib.hid hva; clear hva; have e2 := cell_later hb1 d2; have r0 := cell_later hb1 q0; have r1 := cell_later hb1 q1; have r2 := cell_later hb1 q2; have r3 := cell_later hb1 q3; have r4 := cell_later hb1 q4; have r5 := cell_later hb1 q5; have r6 := cell_later hb1 q6)
        | (go_at_call 37; refine (order_any _ _ _ _ _ _ _ ha1 ha2 hp hq).mono ?_; rintro e w2 ⟨rfl, hb2⟩; rw [HVA.out, HS.out]))
      all_goals go_wp2
      all_goals go_ret
      all_goals
        refine ⟨ret_bool ?_, bel_trans (bel_trans (bel_drew hbl) hb1) hb2⟩
        show decide (sgn (now - (t + s)) < 0) = liv s now t
        rw [liv, decide_eq_decide]
        unfold sgn
        split <;> (try split) <;> omega
end
end Go.Proofs.Ytcmhdapmecfokaa
