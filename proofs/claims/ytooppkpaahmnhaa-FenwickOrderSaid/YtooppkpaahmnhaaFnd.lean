/- The search of a unit. -/
import Derived.Test.YtooppkpaahmnhaaPrg
namespace Go.Proofs.Ytooppkpaahmnhaa
open Go.RowKit Go.Shelf
attribute [local go_sem] Oper.semAt_some

set_option maxRecDepth 100000 in
set_option maxHeartbeats 4000000 in
theorem find_go (c nb nc n B6 B2 B3 k : Nat) (at_ by_ y v z : Int) (hd : Array Value) (w : World) (hc : Blk w c hd 59) (hh : hd[2]? = some (.slice (some ⟨nb, 0, none⟩) (n + 1) nc))
    (h6 : Blk w B6 #[.int .i64 at_] 3) (h2 : Blk w B2 #[.pointer (some ⟨c, 0, none⟩)] 24) (h3 : Blk w B3 #[.int .i64 y] 2) (hn : B3 ≠ B6 ∧ B3 ≠ nb ∧ B3 ≠ c ∧ B3 ≠ B2)
    (hw : IntKind.i64.wrap (at_ + by_) = (k : Int)) (hk : k < n + 1) (hv : w.cell? ⟨nb, k, none⟩ = some (.int .i64 v)) (hle : decide (v ≤ y) = true) (hz : IntKind.i64.wrap (y - v) = z) :
    Calls Try.prog 27 #[.int .i64 by_, .pointer (some ⟨B6, 0, none⟩), .pointer (some ⟨B2, 0, none⟩), .pointer (some ⟨B3, 0, none⟩)] w fun en w' =>
      (∃ v, en = .returned v) ∧ Blk w' B6 #[.int .i64 (k : Int)] 3 ∧ Blk w' B3 #[.int .i64 z] 2 ∧ Chg (fun b => b = B6 ∨ b = B3) w w' := by
  have c1 := h6.cell 0 (v := .int .i64 at_) rfl
  have f1 := h6.frozen 0
  have c2 := h2.cell 0 (v := .pointer (some ⟨c, 0, none⟩)) rfl
  have c3 := h3.cell 0 (v := .int .i64 y) rfl
  have f3 := h3.frozen 0
  have c4 := hc.cell 2 hh
  have H6 := Lib.hid h6
  have H3 := Lib.hid h3
  have HN := Lib.hid hn
  have hk0 : (0 : Int) ≤ (k : Int) := by omega
  have hk1 : (k : Int) < (n : Int) + 1 := by omega
  have hkd : decide ((k : Int) < (n : Int) + 1) = true := decide_eq_true hk1
  clear h6 h2 h3 hn hc hh
  go_enter Try.func27, Try.ntmps27
  go_wp2_with fail
  go_quiet (fail)
  go_wp2_with fail
  go_region_with (fail)
  all_goals
    have h6' : Blk ((w.drewN (nq + 1)).setCell ⟨B3, 0, none⟩ (.int .i64 z)) B6 #[.int .i64 at_] 3 := (show Blk (w.drewN (nq + 1)) _ _ _ from H6.out).other (fun e => HN.out.1 e.symm) _
    have h3' : Blk ((w.drewN (nq + 1)).setCell ⟨B3, 0, none⟩ (.int .i64 z)) B3 #[.int .i64 z] 2 := (show Blk (w.drewN (nq + 1)) _ _ _ from H3.out).set 0 _
    have hch : Chg (fun b => b = B6 ∨ b = B3) w ((w.drewN (nq + 1)).setCell ⟨B3, 0, none⟩ (.int .i64 z)) := ((Chg.refl _ w).drewN _).set (.inr rfl) _
    have q6 := h6'.cell 0 (v := .int .i64 at_) rfl
    have g6 := h6'.frozen 0
    have h6' := Lib.hid h6'
    have h3' := Lib.hid h3'
    have hch := Lib.hid hch
    go_wp2_with fail
    go_end0
    exact ⟨⟨_, rfl⟩, h6'.out.set 0 _, h3'.out.other HN.out.1 _, hch.out.set (.inl rfl) _⟩

set_option maxRecDepth 100000 in
set_option maxHeartbeats 4000000 in
theorem find_stay (c nb nc n B6 B2 B3 k : Nat) (at_ by_ y v z : Int) (hd : Array Value) (w : World) (hc : Blk w c hd 59) (hh : hd[2]? = some (.slice (some ⟨nb, 0, none⟩) (n + 1) nc))
    (h6 : Blk w B6 #[.int .i64 at_] 3) (h2 : Blk w B2 #[.pointer (some ⟨c, 0, none⟩)] 24) (h3 : Blk w B3 #[.int .i64 y] 2) (hn : B3 ≠ B6 ∧ B3 ≠ nb ∧ B3 ≠ c ∧ B3 ≠ B2)
    (hw : IntKind.i64.wrap (at_ + by_) = (k : Int)) (hk : k < n + 1) (hv : w.cell? ⟨nb, k, none⟩ = some (.int .i64 v)) (hle : decide (v ≤ y) = false) :
    Calls Try.prog 27 #[.int .i64 by_, .pointer (some ⟨B6, 0, none⟩), .pointer (some ⟨B2, 0, none⟩), .pointer (some ⟨B3, 0, none⟩)] w fun en w' =>
      (∃ v, en = .returned v) ∧ Below w.heap.size w w' := by
  have c1 := h6.cell 0 (v := .int .i64 at_) rfl
  have f1 := h6.frozen 0
  have c2 := h2.cell 0 (v := .pointer (some ⟨c, 0, none⟩)) rfl
  have c3 := h3.cell 0 (v := .int .i64 y) rfl
  have f3 := h3.frozen 0
  have c4 := hc.cell 2 hh
  have H6 := Lib.hid h6
  have H3 := Lib.hid h3
  have HN := Lib.hid hn
  have hk0 : (0 : Int) ≤ (k : Int) := by omega
  have hk1 : (k : Int) < (n : Int) + 1 := by omega
  have hkd : decide ((k : Int) < (n : Int) + 1) = true := decide_eq_true hk1
  clear h6 h2 h3 hn hc hh
  go_enter Try.func27, Try.ntmps27
  go_wp2_with fail
  go_quiet (fail)
  go_wp2_with fail
  go_end0
  exact ⟨⟨_, rfl⟩, bel_drewN (Below.refl _ _) _⟩

set_option maxRecDepth 100000 in
set_option maxHeartbeats 4000000 in
theorem find_out (c nb nc n B6 B2 B3 k : Nat) (at_ by_ y v z : Int) (hd : Array Value) (w : World) (hc : Blk w c hd 59) (hh : hd[2]? = some (.slice (some ⟨nb, 0, none⟩) (n + 1) nc))
    (h6 : Blk w B6 #[.int .i64 at_] 3) (h2 : Blk w B2 #[.pointer (some ⟨c, 0, none⟩)] 24) (h3 : Blk w B3 #[.int .i64 y] 2) (hn : B3 ≠ B6 ∧ B3 ≠ nb ∧ B3 ≠ c ∧ B3 ≠ B2)
    (hw : IntKind.i64.wrap (at_ + by_) = (k : Int)) (hk : n < k) :
    Calls Try.prog 27 #[.int .i64 by_, .pointer (some ⟨B6, 0, none⟩), .pointer (some ⟨B2, 0, none⟩), .pointer (some ⟨B3, 0, none⟩)] w fun en w' =>
      (∃ v, en = .returned v) ∧ Below w.heap.size w w' := by
  have c1 := h6.cell 0 (v := .int .i64 at_) rfl
  have f1 := h6.frozen 0
  have c2 := h2.cell 0 (v := .pointer (some ⟨c, 0, none⟩)) rfl
  have c3 := h3.cell 0 (v := .int .i64 y) rfl
  have f3 := h3.frozen 0
  have c4 := hc.cell 2 hh
  have H6 := Lib.hid h6
  have H3 := Lib.hid h3
  have HN := Lib.hid hn
  have hk1 : ¬ (k : Int) < (n : Int) + 1 := by omega
  have hkd : decide ((k : Int) < (n : Int) + 1) = false := decide_eq_false hk1
  clear h6 h2 h3 hn hc hh
  go_enter Try.func27, Try.ntmps27
  go_wp2_with fail
  go_quiet (fail)
  go_wp2_with fail
  go_end0
  exact ⟨⟨_, rfl⟩, bel_drewN (Below.refl _ _) _⟩

theorem find_step (c cb nb B6 B2 B3 at_ e : Nat) (x : Int) (xs : List Int) (w : World) (hp : Tab w c cb nb xs) (h6 : Blk w B6 #[.int .i64 (at_ : Int)] 3) (h2 : Blk w B2 #[.pointer (some ⟨c, 0, none⟩)] 24)
    (h3 : Blk w B3 #[.int .i64 (x - pre xs at_)] 2) (hn : B3 ≠ B6 ∧ B3 ≠ nb ∧ B3 ≠ c ∧ B3 ≠ B2) (he : e ≤ 16) (hx0 : 0 ≤ x ∧ x ≤ 9223372036854775807) (hF : Fi xs x at_ (2 ^ (e + 1))) :
    Calls Try.prog 27 #[.int .i64 ((2 ^ e : Nat) : Int), .pointer (some ⟨B6, 0, none⟩), .pointer (some ⟨B2, 0, none⟩), .pointer (some ⟨B3, 0, none⟩)] w fun en w' =>
      (∃ v, en = .returned v) ∧ ∃ a' : Nat, Fi xs x a' (2 ^ e) ∧ Blk w' B6 #[.int .i64 (a' : Int)] 3 ∧ Blk w' B3 #[.int .i64 (x - pre xs a')] 2 ∧ Chg (fun b => b = B6 ∨ b = B3) w w' := by
  obtain ⟨cc, nc, tb, tn, hp⟩ := hp
  have hlen := hp.ok.len
  have hle : at_ ≤ xs.length := hF.2.1
  have hpp := Nat.two_pow_pos e
  have hpw : 2 ^ e ≤ 65536 := Nat.pow_le_pow_right (n := 2) (i := e) (j := 16) (by decide) he
  have hw : IntKind.i64.wrap ((at_ : Int) + ((2 ^ e : Nat) : Int)) = ((at_ + 2 ^ e : Nat) : Int) := by rw [wrap_i64_eq, w64 (by omega) (by omega)]; omega
  have hs := hp.ok.pos
  have hst : ∀ w' : World, Below w.heap.size w w' → Fi xs x at_ (2 ^ e) → ∃ a' : Nat, Fi xs x a' (2 ^ e) ∧ Blk w' B6 #[.int .i64 (a' : Int)] 3 ∧ Blk w' B3 #[.int .i64 (x - pre xs a')] 2 ∧ Chg (fun b => b = B6 ∨ b = B3) w w' :=
    fun w' hb hf => ⟨at_, hf, h6.below hb h6.lt, h3.below hb h3.lt, Chg.of_below hb _⟩
  by_cases hk : at_ + 2 ^ e ≤ xs.length
  · have c5 := hp.nds.cell (at_ + 2 ^ e) (Rw.at tn (by rw [nodes_length]; omega))
    rw [nodes_getD xs hk, fi_node hF] at c5
    have r1 := pre_nonneg hs (at_ + 2 ^ e)
    have r2 := pre_nonneg hs at_
    by_cases hx : pre xs (at_ + 2 ^ e) ≤ x
    · refine (find_go c nb nc xs.length B6 B2 B3 (at_ + 2 ^ e) at_ _ (x - pre xs at_) (pre xs (at_ + 2 ^ e) - pre xs at_) (x - pre xs (at_ + 2 ^ e)) _ w hp.hd rfl h6 h2 h3 hn hw (by omega) c5 (decide_eq_true (by omega))
        (by rw [wrap_i64_eq, w64 (by omega) (by omega)]; omega)).mono ?_
      rintro en w' ⟨hv, k1, k2, k3⟩
      exact ⟨hv, _, fi_go hF hk hx, k1, k2, k3⟩
    · refine (find_stay c nb nc xs.length B6 B2 B3 (at_ + 2 ^ e) at_ _ (x - pre xs at_) (pre xs (at_ + 2 ^ e) - pre xs at_) 0 _ w hp.hd rfl h6 h2 h3 hn hw (by omega) c5 (decide_eq_false (by omega))).mono ?_
      rintro en w' ⟨hv, hb⟩
      exact ⟨hv, hst w' hb (fi_stay hF (.inr (by omega)))⟩
  · refine (find_out c nb nc xs.length B6 B2 B3 (at_ + 2 ^ e) at_ _ (x - pre xs at_) 0 0 _ w hp.hd rfl h6 h2 h3 hn hw (by omega)).mono ?_
    rintro en w' ⟨hv, hb⟩
    exact ⟨hv, hst w' hb (fi_stay hF (.inl (by omega)))⟩

/-- what Find answers -/
def Found (xs : List Int) (x : Int) (i : Int) (ok : Bool) : Prop :=
  (ok = false ∧ i = 0 ∧ (x < 0 ∨ xs.sum ≤ x)) ∨ ∃ k : Nat, ok = true ∧ i = (k : Int) ∧ 0 ≤ x ∧ x < xs.sum ∧ k < xs.length ∧ pre xs k ≤ x ∧ x < pre xs (k + 1)

end Go.Proofs.Ytooppkpaahmnhaa
