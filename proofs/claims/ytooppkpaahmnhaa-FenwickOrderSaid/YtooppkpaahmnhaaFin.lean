/- The search of a unit. -/
import Derived.Test.YtooppkpaahmnhaaFnd
namespace Go.Proofs.Ytooppkpaahmnhaa
open Go.RowKit Go.Shelf
attribute [local go_sem] Oper.semAt_some

theorem total_q {W : World} {p : Option Addr} {xs : List Int} (h : Has W p xs) (n : Nat) : Calls Try.prog 16 #[.pointer p] (W.drewN n) fun e w' => e = .returned (.int .i64 xs.sum) ∧ w' = W.drewN n :=
  (total_has (h.bel (bel_drewN (Below.refl _ _) n))).mono fun _ _ h => ⟨h.1, h.2.symm⟩

set_option maxRecDepth 100000 in
set_option maxHeartbeats 4000000 in
theorem find_low (p : Option Addr) (x : Int) (w : World) (hx : x < 0) :
    Calls Try.prog 14 #[.pointer p, .int .i64 x] w fun e w' => e = .returned (.tuple #[.int .i64 0, .bool false]) ∧ Below w.heap.size w w' := by
  have hxd : decide (x < 0) = true := decide_eq_true hx
  have b2 := (Blk.new w #[.pointer p] 24).alloc (.cells #[.int .i64 x] 2)
  have b3 := Blk.new (w.alloc (.cells #[.pointer p] 24)) #[.int .i64 x] 2
  have hbl : Below w.heap.size w ((w.alloc (.cells #[.pointer p] 24)).alloc (.cells #[.int .i64 x] 2)) := bel_alloc (bel_alloc (Below.refl _ _) _) _
  rw [World.size_alloc] at b3
  have t2 := b2.cell 0 (v := .pointer p) rfl
  have t3 := b3.cell 0 (v := .int .i64 x) rfl
  have hbl := Lib.hid hbl
  clear b2 b3
  go_enter Try.func14, Try.ntmps14
  go_wp2_with fail
  go_quiet (fail)
  go_wp2_with fail
  go_ret2
  exact ⟨rfl, bel_drewN hbl.out _⟩

set_option maxRecDepth 100000 in
set_option maxHeartbeats 4000000 in
theorem find_high {p : Option Addr} {xs : List Int} (x : Int) (w : World) (hp : Has w p xs) (hx : ¬ x < 0) (hs : xs.sum ≤ x) :
    Calls Try.prog 14 #[.pointer p, .int .i64 x] w fun e w' => e = .returned (.tuple #[.int .i64 0, .bool false]) ∧ Below w.heap.size w w' := by
  have hxd : decide (x < 0) = false := decide_eq_false hx
  have hsd : decide (xs.sum ≤ x) = true := decide_eq_true hs
  have b2 := (Blk.new w #[.pointer p] 24).alloc (.cells #[.int .i64 x] 2)
  have b3 := Blk.new (w.alloc (.cells #[.pointer p] 24)) #[.int .i64 x] 2
  have hbl : Below w.heap.size w ((w.alloc (.cells #[.pointer p] 24)).alloc (.cells #[.int .i64 x] 2)) := bel_alloc (bel_alloc (Below.refl _ _) _) _
  rw [World.size_alloc] at b3
  have HP := Lib.hid (hp.bel hbl)
  have t2 := b2.cell 0 (v := .pointer p) rfl
  have t3 := b3.cell 0 (v := .int .i64 x) rfl
  have hbl := Lib.hid hbl
  clear b2 b3 hp
  go_enter Try.func14, Try.ntmps14
  go_wp2_with fail
  generalize (w.alloc (.cells #[.pointer p] 24)).alloc (.cells #[.int .i64 x] 2) = W at *
  go_quiet (first | (go_at_call 16; refine Calls.quiet_of_same (total_q (HP.out) _)))
  go_wp2_with fail
  go_ret2
  exact ⟨rfl, bel_drewN hbl.out _⟩

set_option maxRecDepth 100000 in
set_option maxHeartbeats 4000000 in
theorem find_yes {c cb nb : Nat} {xs : List Int} (x : Int) (w : World) (hp : Tab w c cb nb xs) (hx : 0 ≤ x) (hs : x < xs.sum) :
    Calls Try.prog 14 #[.pointer (some ⟨c, 0, none⟩), .int .i64 x] w fun e w' => (∃ k : Nat, k < xs.length ∧ pre xs k ≤ x ∧ x < pre xs (k + 1) ∧ e = .returned (.tuple #[.int .i64 (k : Int), .bool true])) ∧ Below w.heap.size w w' := by
  have hmf : ∀ (fn : Fn) (first cap : Array Value) (w : World), (Instr.makeFunc fn first cap).run Try.prog w = .ok (.func fn first cap) w := fun _ _ _ _ => rfl
  have hok : Sound xs := by obtain ⟨cc, nc, tb, tn, h⟩ := hp; exact h.ok
  have hlt : c < w.heap.size ∧ nb < w.heap.size := by obtain ⟨cc, nc, tb, tn, h⟩ := hp; exact ⟨h.hd.lt, h.nds.lt⟩
  have hxd : decide (x < 0) = false := decide_eq_false (by omega)
  have hsd : decide (xs.sum ≤ x) = false := decide_eq_false (by omega)
  have b2 := (Blk.new w #[.pointer (some ⟨c, 0, none⟩)] 24).alloc (.cells #[.int .i64 x] 2)
  have b3 := Blk.new (w.alloc (.cells #[.pointer (some ⟨c, 0, none⟩)] 24)) #[.int .i64 x] 2
  have hbl : Below w.heap.size w ((w.alloc (.cells #[.pointer (some ⟨c, 0, none⟩)] 24)).alloc (.cells #[.int .i64 x] 2)) := bel_alloc (bel_alloc (Below.refl _ _) _) _
  have hsz : ((w.alloc (.cells #[.pointer (some ⟨c, 0, none⟩)] 24)).alloc (.cells #[.int .i64 x] 2)).heap.size = w.heap.size + 2 := by simp
  rw [World.size_alloc] at b3
  have HP := Lib.hid (hp.bel hbl)
  have t2 := b2.cell 0 (v := .pointer (some ⟨c, 0, none⟩)) rfl
  have t3 := b3.cell 0 (v := .int .i64 x) rfl
  have hbl := Lib.hid hbl
  have hsz := Lib.hid hsz
  have H2 := Lib.hid b2
  have H3 := Lib.hid b3
  have hx := Lib.hid hx
  have hs := Lib.hid hs
  have HP0 := Lib.hid hp
  clear b2 b3 hp
  go_enter Try.func14, Try.ntmps14
  go_wp2_with fail
  generalize (w.alloc (.cells #[.pointer (some ⟨c, 0, none⟩)] 24)).alloc (.cells #[.int .i64 x] 2) = W at *
  go_quiet (first | (go_at_call 16; refine Calls.quiet_of_same (total_q (.inr (.inr ⟨c, cb, nb, rfl, HP.out⟩)) _)))
  go_wp2_with fail
  go_loopw [8] (fun v8 wr => ∃ at_ : Nat, ((∃ e, e ≤ 16 ∧ v8 = .int .i64 ((2 ^ e : Nat) : Int) ∧ Fi xs x at_ (2 ^ (e + 1))) ∨ (v8 = .int .i64 0 ∧ Fi xs x at_ (2 ^ 0))) ∧
      Blk wr (w.heap.size + 2) #[.int .i64 (at_ : Int)] 3 ∧ Blk wr (w.heap.size + 1) #[.int .i64 (x - pre xs at_)] 2 ∧ Blk wr w.heap.size #[.pointer (some ⟨c, 0, none⟩)] 24 ∧ Below w.heap.size w wr)
    (fun v8 wr => (intOf v8).toNat)
  case atStart =>
    have hv : Below w.heap.size w ((W.drewN nq).alloc (.cells #[.int .i64 0] 3)) := bel_alloc (bel_drewN hbl.out _) _
    have k6 : Blk ((W.drewN nq).alloc (.cells #[.int .i64 0] 3)) (w.heap.size + 2) #[.int .i64 0] 3 := by rw [← hsz.out]; exact Blk.new (W.drewN nq) _ 3
    refine ⟨0, .inl ⟨16, Nat.le_refl _, rfl, fi_start hx.out hok.len⟩, ?_, ?_, ?_, ?_⟩
    · first | exact k6 | (rw [hsz.out]; exact k6.set 0 _) | (have := k6.set 0 (.int .i64 0); exact this)
    · rw [pre_zero, Int.sub_zero]; first | exact (show Blk (W.drewN nq) _ _ _ from H3.out).alloc _ | exact Blk.other ((show Blk (W.drewN nq) _ _ _ from H3.out).alloc _) (by show w.heap.size + 1 ≠ W.heap.size; have := hsz.out; omega) _
    · first | exact (show Blk (W.drewN nq) _ _ _ from H2.out).alloc _ | exact Blk.other ((show Blk (W.drewN nq) _ _ _ from H2.out).alloc _) (by show w.heap.size ≠ W.heap.size; have := hsz.out; omega) _
    · first | exact hv | exact bel_set (b := W.heap.size) hv (by have := hsz.out; omega) _
  case round =>
    obtain ⟨at_, he, h6, h3, h2, hb⟩ := hrel
    have HB := Lib.hid hb
    have H6' := Lib.hid h6
    have H3' := Lib.hid h3
    have H2' := Lib.hid h2
    have HPw : Tab wr c cb nb xs := HP0.out.bel hb
    have HPw := Lib.hid HPw
    rcases he with ⟨e, he, rfl, hF⟩ | ⟨rfl, hF⟩
    · have hp2 : (0 : Int) < ((2 ^ e : Nat) : Int) := by have := Nat.two_pow_pos e; omega
      have HF := Lib.hid hF
      clear hF h6 h3 h2 hb
      obtain ⟨b, hbe⟩ : ∃ b, ((2 ^ e : Nat) : Int) = b := ⟨_, rfl⟩
      rw [hbe] at hp2 ⊢
      have hbe := Lib.hid hbe
      go_wp2_with fail
      have hst := find_step c cb nb _ _ _ at_ e x xs wr HPw.out H6'.out H2'.out H3'.out ⟨by omega, by have := hlt.2; omega, by have := hlt.1; omega, by omega⟩ he ⟨hx.out, by have := hs.out; have := hok.top; omega⟩ HF.out
      rw [hbe.out] at hst
      refine hst.mono ?_
      clear hst
      rintro en w3 ⟨⟨v, rfl⟩, a', hF3, k6, k3, hc3⟩
      have hk6 := Lib.hid k6
      have hk3 := Lib.hid k3
      have hF3 := Lib.hid hF3
      have hc3 := Lib.hid hc3
      clear k6 k3
      go_wp2_with fail
      have hb3 : Below w.heap.size w w3 := HB.out.trans (hc3.out.below HB.out.size (by rintro k _ (h | h) <;> omega))
      refine ⟨⟨a', ?_, hk6.out, hk3.out, H2'.out.chg hc3.out (by rintro (h | h) <;> omega), hb3⟩, ?_⟩
      · have hbb := hbe.out
        cases e with
        | zero => exact .inr ⟨by rw [show b / 2 = 0 by rw [← hbb]; rfl], hF3.out⟩
        | succ e =>
          refine .inl ⟨e, by omega, ?_, hF3.out⟩
          rw [show b / 2 = ((2 ^ e : Nat) : Int) by rw [← hbb, Nat.pow_succ]; omega]
      · simp [intOf]; omega
    · have h6 := h6.cell 0 (v := .int .i64 (at_ : Int)) rfl
      go_wp2_with fail
      go_ret2
      exact ⟨⟨at_, (fi_end hF hs.out).1, (fi_end hF hs.out).2.1, (fi_end hF hs.out).2.2, rfl⟩, HB.out⟩

theorem find_has {p : Option Addr} {xs : List Int} (x : Int) (w : World) (hp : Has w p xs) :
    Calls Try.prog 14 #[.pointer p, .int .i64 x] w fun e w' => (∃ (i : Int) (ok : Bool), Found xs x i ok ∧ e = .returned (.tuple #[.int .i64 i, .bool ok])) ∧ Below w.heap.size w w' := by
  by_cases hx : x < 0
  · refine (find_low p x w hx).mono ?_
    rintro e w' ⟨rfl, hb⟩
    exact ⟨⟨0, false, .inl ⟨rfl, rfl, .inl hx⟩, rfl⟩, hb⟩
  · by_cases hs : xs.sum ≤ x
    · refine (find_high x w hp hx hs).mono ?_
      rintro e w' ⟨rfl, hb⟩
      exact ⟨⟨0, false, .inl ⟨rfl, rfl, .inr hs⟩, rfl⟩, hb⟩
    · have hno : xs ≠ [] := by rintro rfl; simp at hs; omega
      rcases hp with ⟨_, h⟩ | ⟨_, _, _, h⟩ | ⟨c, cb, nb, rfl, h⟩
      · exact absurd h hno
      · exact absurd h hno
      · refine (find_yes x w h (by omega) (by omega)).mono ?_
        rintro e w' ⟨⟨k, h1, h2, h3, rfl⟩, hb⟩
        exact ⟨⟨k, true, .inr ⟨k, rfl, rfl, by omega, by omega, h1, h2, h3⟩, rfl⟩, hb⟩

end Go.Proofs.Ytooppkpaahmnhaa
