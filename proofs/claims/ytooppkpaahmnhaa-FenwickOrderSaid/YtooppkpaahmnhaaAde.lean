/- Additions that are refused. -/
import Derived.Test.YtooppkpaahmnhaaChk
namespace Go.Proofs.Ytooppkpaahmnhaa
open Go.RowKit Go.Shelf
attribute [local go_sem] Oper.semAt_some

set_option maxRecDepth 100000 in
set_option maxHeartbeats 4000000 in
theorem add_nil  (i d : Int) (w : World)  :
    Calls Try.prog 22 #[.pointer none, .int .i64 i, .int .i64 d] w fun e w' => e = .returned (.int .i64 1) ∧ Below w.heap.size w w' := by
  have b2 := (Blk.new w #[.pointer none] 24).alloc (.cells #[.int .i64 d] 2)
  have b3 := Blk.new (w.alloc (.cells #[.pointer none] 24)) #[.int .i64 d] 2
  have hbl : Below w.heap.size w ((w.alloc (.cells #[.pointer none] 24)).alloc (.cells #[.int .i64 d] 2)) := bel_alloc (bel_alloc (Below.refl _ _) _) _
  rw [World.size_alloc] at b3
  have t2 := b2.cell 0 (v := .pointer none) rfl
  have t3 := b3.cell 0 (v := .int .i64 d) rfl
  have hbl := Lib.hid hbl
  clear b2 b3
  go_enter Try.func22, Try.ntmps22
  go_wp2_with fail
  go_ret
  exact ⟨rfl, by first | exact hbl.out | exact bel_drewN hbl.out _⟩

set_option maxRecDepth 100000 in
set_option maxHeartbeats 4000000 in
theorem add_zero (c : Nat) (i d : Int) (w : World) (hc : Blk w c Hz 59) :
    Calls Try.prog 22 #[.pointer (some ⟨c, 0, none⟩), .int .i64 i, .int .i64 d] w fun e w' => e = .returned (.int .i64 1) ∧ Below w.heap.size w w' := by
  have b2 := (Blk.new w #[.pointer (some ⟨c, 0, none⟩)] 24).alloc (.cells #[.int .i64 d] 2)
  have b3 := Blk.new (w.alloc (.cells #[.pointer (some ⟨c, 0, none⟩)] 24)) #[.int .i64 d] 2
  have hbl : Below w.heap.size w ((w.alloc (.cells #[.pointer (some ⟨c, 0, none⟩)] 24)).alloc (.cells #[.int .i64 d] 2)) := bel_alloc (bel_alloc (Below.refl _ _) _) _
  rw [World.size_alloc] at b3
  have t2 := b2.cell 0 (v := .pointer (some ⟨c, 0, none⟩)) rfl
  have t3 := b3.cell 0 (v := .int .i64 d) rfl
  have hbl := Lib.hid hbl
  have c0 := (hc.below hbl.out hc.lt).cell 0 (v := .bool false) rfl
  clear b2 b3 hc
  go_enter Try.func22, Try.ntmps22
  go_wp2_with fail
  go_ret
  exact ⟨rfl, by first | exact hbl.out | exact bel_drewN hbl.out _⟩

set_option maxRecDepth 100000 in
set_option maxHeartbeats 4000000 in
theorem add_low {c cb nb : Nat} {xs : List Int} (i d : Int) (w : World) (hp : Tab w c cb nb xs) (hi : i < 0) :
    Calls Try.prog 22 #[.pointer (some ⟨c, 0, none⟩), .int .i64 i, .int .i64 d] w fun e w' => e = .returned (.int .i64 3) ∧ Below w.heap.size w w' := by
  have b2 := (Blk.new w #[.pointer (some ⟨c, 0, none⟩)] 24).alloc (.cells #[.int .i64 d] 2)
  have b3 := Blk.new (w.alloc (.cells #[.pointer (some ⟨c, 0, none⟩)] 24)) #[.int .i64 d] 2
  have hbl : Below w.heap.size w ((w.alloc (.cells #[.pointer (some ⟨c, 0, none⟩)] 24)).alloc (.cells #[.int .i64 d] 2)) := bel_alloc (bel_alloc (Below.refl _ _) _) _
  rw [World.size_alloc] at b3
  have t2 := b2.cell 0 (v := .pointer (some ⟨c, 0, none⟩)) rfl
  have t3 := b3.cell 0 (v := .int .i64 d) rfl
  have hbl := Lib.hid hbl
  obtain ⟨cc, nc, tb, tn, hp⟩ := hp
  have hb0 := hp.hd.below hbl.out hp.hd.lt
  have c0 := hb0.cell 0 (v := .bool true) rfl
  have c1 := hb0.cell 1 (v := .slice (some ⟨cb, 0, none⟩) xs.length cc) rfl
  have c3 := hb0.cell 3 (v := .int .i64 xs.sum) rfl
  have hid : decide (i < 0) = true := decide_eq_true hi
  clear b2 b3 hp hb0
  go_enter Try.func22, Try.ntmps22
  go_wp2_with fail
  go_ret
  exact ⟨rfl, by first | exact hbl.out | exact bel_drewN hbl.out _⟩

set_option maxRecDepth 100000 in
set_option maxHeartbeats 4000000 in
theorem add_high {c cb nb : Nat} {xs : List Int} (i d : Int) (w : World) (hp : Tab w c cb nb xs) (hi : ¬ i < 0) (hi2 : (xs.length : Int) ≤ i) :
    Calls Try.prog 22 #[.pointer (some ⟨c, 0, none⟩), .int .i64 i, .int .i64 d] w fun e w' => e = .returned (.int .i64 3) ∧ Below w.heap.size w w' := by
  have b2 := (Blk.new w #[.pointer (some ⟨c, 0, none⟩)] 24).alloc (.cells #[.int .i64 d] 2)
  have b3 := Blk.new (w.alloc (.cells #[.pointer (some ⟨c, 0, none⟩)] 24)) #[.int .i64 d] 2
  have hbl : Below w.heap.size w ((w.alloc (.cells #[.pointer (some ⟨c, 0, none⟩)] 24)).alloc (.cells #[.int .i64 d] 2)) := bel_alloc (bel_alloc (Below.refl _ _) _) _
  rw [World.size_alloc] at b3
  have t2 := b2.cell 0 (v := .pointer (some ⟨c, 0, none⟩)) rfl
  have t3 := b3.cell 0 (v := .int .i64 d) rfl
  have hbl := Lib.hid hbl
  obtain ⟨cc, nc, tb, tn, hp⟩ := hp
  have hb0 := hp.hd.below hbl.out hp.hd.lt
  have c0 := hb0.cell 0 (v := .bool true) rfl
  have c1 := hb0.cell 1 (v := .slice (some ⟨cb, 0, none⟩) xs.length cc) rfl
  have c3 := hb0.cell 3 (v := .int .i64 xs.sum) rfl
  have hid : decide (i < 0) = false := decide_eq_false hi
  have hid2 : decide ((xs.length : Int) ≤ i) = true := decide_eq_true hi2
  clear b2 b3 hp hb0
  go_enter Try.func22, Try.ntmps22
  go_wp2_with fail
  go_ret
  exact ⟨rfl, by first | exact hbl.out | exact bel_drewN hbl.out _⟩

set_option maxRecDepth 100000 in
set_option maxHeartbeats 4000000 in
theorem add_neg {c cb nb : Nat} {xs : List Int} (d : Int) (w : World) (k : Nat) (hp : Tab w c cb nb xs) (hk : k < xs.length) (hd : d < 0) (hn : xs[k]?.getD 0 + d < 0) (hlo : -9223372036854775808 ≤ d) :
    Calls Try.prog 22 #[.pointer (some ⟨c, 0, none⟩), .int .i64 (k : Int), .int .i64 d] w fun e w' => e = .returned (.int .i64 2) ∧ Below w.heap.size w w' := by
  have b2 := (Blk.new w #[.pointer (some ⟨c, 0, none⟩)] 24).alloc (.cells #[.int .i64 d] 2)
  have b3 := Blk.new (w.alloc (.cells #[.pointer (some ⟨c, 0, none⟩)] 24)) #[.int .i64 d] 2
  have hbl : Below w.heap.size w ((w.alloc (.cells #[.pointer (some ⟨c, 0, none⟩)] 24)).alloc (.cells #[.int .i64 d] 2)) := bel_alloc (bel_alloc (Below.refl _ _) _) _
  rw [World.size_alloc] at b3
  have t2 := b2.cell 0 (v := .pointer (some ⟨c, 0, none⟩)) rfl
  have t3 := b3.cell 0 (v := .int .i64 d) rfl
  have hbl := Lib.hid hbl
  obtain ⟨cc, nc, tb, tn, hp⟩ := hp
  have hb0 := hp.hd.below hbl.out hp.hd.lt
  have c0 := hb0.cell 0 (v := .bool true) rfl
  have c1 := hb0.cell 1 (v := .slice (some ⟨cb, 0, none⟩) xs.length cc) rfl
  have c3 := hb0.cell 3 (v := .int .i64 xs.sum) rfl
  have hj : decide ((k : Int) < 0) = false := decide_eq_false (by omega)
  have hj2 : decide ((xs.length : Int) ≤ (k : Int)) = false := decide_eq_false (by omega)
  have hk0 : (0 : Int) ≤ (k : Int) := by omega
  have hk1 : (k : Int) < (xs.length : Int) := by omega
  have c5 := (hp.row.below hbl.out hp.row.lt).cell k (Rw.at tb hk)
  obtain ⟨x, hx⟩ : ∃ x, xs[k]?.getD 0 = x := ⟨_, rfl⟩
  rw [hx] at c5 hn
  have hx0 : 0 ≤ x := by rw [← hx]; exact at_pos hp.ok.pos k
  have hw : IntKind.i64.wrap (x + d) = x + d := by rw [wrap_i64_eq]; exact w64 (by omega) (by omega)
  have hdd : decide (d < 0) = true := decide_eq_true hd
  have hnd : decide (x + d < 0) = true := decide_eq_true hn
  clear hd hn
  clear b2 b3 hp hb0 hx
  go_enter Try.func22, Try.ntmps22
  go_wp2_with fail
  go_quiet (fail)
  go_wp2_with fail
  go_ret
  exact ⟨rfl, by first | exact hbl.out | exact bel_drewN hbl.out _⟩

set_option maxRecDepth 100000 in
set_option maxHeartbeats 4000000 in
theorem add_much {c cb nb : Nat} {xs : List Int} (d : Int) (w : World) (k : Nat) (hp : Tab w c cb nb xs) (hk : k < xs.length) (hd : ¬ d < 0) (hn : 9223372036854775807 < xs.sum + d) (hlo : d ≤ 9223372036854775807) :
    Calls Try.prog 22 #[.pointer (some ⟨c, 0, none⟩), .int .i64 (k : Int), .int .i64 d] w fun e w' => e = .returned (.int .i64 7) ∧ Below w.heap.size w w' := by
  have b2 := (Blk.new w #[.pointer (some ⟨c, 0, none⟩)] 24).alloc (.cells #[.int .i64 d] 2)
  have b3 := Blk.new (w.alloc (.cells #[.pointer (some ⟨c, 0, none⟩)] 24)) #[.int .i64 d] 2
  have hbl : Below w.heap.size w ((w.alloc (.cells #[.pointer (some ⟨c, 0, none⟩)] 24)).alloc (.cells #[.int .i64 d] 2)) := bel_alloc (bel_alloc (Below.refl _ _) _) _
  rw [World.size_alloc] at b3
  have t2 := b2.cell 0 (v := .pointer (some ⟨c, 0, none⟩)) rfl
  have t3 := b3.cell 0 (v := .int .i64 d) rfl
  have hbl := Lib.hid hbl
  obtain ⟨cc, nc, tb, tn, hp⟩ := hp
  have hb0 := hp.hd.below hbl.out hp.hd.lt
  have c0 := hb0.cell 0 (v := .bool true) rfl
  have c1 := hb0.cell 1 (v := .slice (some ⟨cb, 0, none⟩) xs.length cc) rfl
  have c3 := hb0.cell 3 (v := .int .i64 xs.sum) rfl
  have hj : decide ((k : Int) < 0) = false := decide_eq_false (by omega)
  have hj2 : decide ((xs.length : Int) ≤ (k : Int)) = false := decide_eq_false (by omega)
  have hk0 : (0 : Int) ≤ (k : Int) := by omega
  have hk1 : (k : Int) < (xs.length : Int) := by omega
  have c5 := (hp.row.below hbl.out hp.row.lt).cell k (Rw.at tb hk)
  obtain ⟨x, hx⟩ : ∃ x, xs[k]?.getD 0 = x := ⟨_, rfl⟩
  rw [hx] at c5 
  have hs0 : 0 ≤ xs.sum ∧ xs.sum ≤ 9223372036854775807 := by
    have h1 := pre_nonneg hp.ok.pos xs.length; rw [pre_all _ (Nat.le_refl _)] at h1; exact ⟨h1, hp.ok.top⟩
  have hdd : decide (d < 0) = false := decide_eq_false hd
  have hcall : ∀ W : World, Calls Try.prog 35 #[.int .i64 xs.sum, .int .i64 d] W fun e w' => e = .returned (.tuple #[.int .i64 0, .int .i64 7]) ∧ w' = W :=
    fun W => (cadd_over xs.sum d W (by omega) (by omega) (.inr hn)).mono fun _ _ h => ⟨h.1, h.2.symm⟩
  have hcall := Lib.hid hcall
  clear hd hn hs0
  clear b2 b3 hp hb0 hx
  go_enter Try.func22, Try.ntmps22
  go_wp2_with fail
  go_quiet (fail)
  go_wp2_with fail
  go_region_with (first | (go_at_call 35; refine (hcall.out _).mono ?_; rintro e w1 ⟨rfl, rfl⟩))
  all_goals
   go_wp2_with fail
   go_ret
   exact ⟨rfl, by first | exact hbl.out | exact bel_drewN hbl.out _ | exact bel_drew (bel_drewN hbl.out _)⟩

end Go.Proofs.Ytooppkpaahmnhaa
