/- Prefixes and ranges of any counters. -/
import Derived.Test.YtooppkpaahmnhaaPno
namespace Go.Proofs.Ytooppkpaahmnhaa
open Go.RowKit Go.Shelf
attribute [local go_sem] Oper.semAt_some

theorem Iter.mono {α : Type} {F : Fence} {n : Nat} {P : Program} {gf : Nat} {lb : Array Value} {encs : α → Array Value} {bs : Nat → Prop} {B : Nat} {S S' : List α → Prop} {w : World} (h : Iter F n P gf lb encs bs B S w) (hs : ∀ xs, S xs → S' xs) : Iter F n P gf lb encs bs B S' w :=
  fun l J W h1 h2 h3 h4 => (h l J W h1 h2 h3 h4).mono fun _ _ ⟨hv, xs, hx, hj⟩ => ⟨hv, xs, hs xs hx, hj⟩

theorem down_none (N B m : Nat) (z : Int) (w : World) (hz : z ≤ 0) (hB : Blk w B #[.int .i64 z] 3) :
    Iter Fence.wide m Try.prog 39 #[.pointer (some ⟨B, 0, none⟩)] (encU (N := N)) (· = B) B (fun xs => xs.map (·.1) = []) w :=
  (down_no _ B m z w hz hB).mono fun xs h => by subst h; rfl

theorem pre_w {xs : List Int} (h : Sound xs) (k : Nat) : wrap64 (pre xs k) = pre xs k := by
  have h1 := pre_nonneg h.pos k; have h2 := pre_le_sum h.pos k; have h3 := h.top
  exact w64 (by omega) (by omega)

theorem prefix_tab {c cb nb : Nat} {xs : List Int} (k : Int) (w : World) (hp : Tab w c cb nb xs) :
    Calls Try.prog 15 #[.pointer (some ⟨c, 0, none⟩), .int .i64 k] w fun e w' => e = .returned (.int .i64 (pre xs k.toNat)) ∧ Below w.heap.size w w' := by
  obtain ⟨cc, nc, tb, tn, hp⟩ := hp
  have hns : ∀ j, j ≤ xs.length → w.cell? ⟨nb, j, none⟩ = some (.int .i64 ((nodes xs)[j]?.getD 0)) := fun j hj => hp.nds.cell j (Rw.at tn (by rw [nodes_length]; omega))
  by_cases h : k ≤ (xs.length : Int)
  · by_cases h0 : k ≤ 0
    · refine (prefix_low c xs.length nb cc nc _ _ k (nodes xs) [] w hp.ok.len hp.hd hp.nds.lt hns h (fun W B m _ hB => down_none _ B m k W h0 hB)).mono ?_
      rintro e w' ⟨rfl, hb⟩
      refine ⟨?_, hb⟩
      rw [show k.toNat = 0 by omega, pre_zero]
      simp [wrap64]
    · obtain ⟨j, rfl⟩ := Int.eq_ofNat_of_zero_le (show 0 ≤ k by omega)
      refine (prefix_low c xs.length nb cc nc _ _ (j : Int) (nodes xs) (dpath j) w hp.ok.len hp.hd hp.nds.lt hns h (fun W B m hm hB => down_iter _ B j m W (by omega) hp.ok.len hm hB)).mono ?_
      rintro e w' ⟨rfl, hb⟩
      refine ⟨?_, hb⟩
      rw [path_nodes xs (by omega), pre_w hp.ok]
      rfl
  · refine (prefix_high c xs.length nb cc nc _ _ k (nodes xs) (dpath xs.length) w hp.ok.len hp.hd hp.nds.lt hns (by omega) (fun W B m hm hB => down_iter _ B xs.length m W (Nat.le_refl _) hp.ok.len hm hB)).mono ?_
    rintro e w' ⟨rfl, hb⟩
    refine ⟨?_, hb⟩
    rw [path_nodes xs (Nat.le_refl _), pre_w hp.ok, pre_all xs (Nat.le_refl _), pre_all xs (show xs.length ≤ k.toNat by omega)]

theorem prefix_has {p : Option Addr} {xs : List Int} (k : Int) (w : World) (hp : Has w p xs) :
    Calls Try.prog 15 #[.pointer p, .int .i64 k] w fun e w' => e = .returned (.int .i64 (pre xs k.toNat)) ∧ Below w.heap.size w w' := by
  have hno : xs = [] → Calls Try.prog 15 #[.pointer p, .int .i64 k] w fun e w' => e = .returned (.int .i64 (pre xs k.toNat)) ∧ Below w.heap.size w w' := by
    intro h
    subst h
    rw [pre_nil]
    by_cases h0 : k ≤ 0
    · exact prefix_no1 p k w hp h0
    · exact prefix_no2 p k w hp (by omega)
  rcases id hp with ⟨_, h⟩ | ⟨_, _, _, h⟩ | ⟨c, cb, nb, rfl, h⟩
  · exact hno h
  · exact hno h
  · exact prefix_tab k w h

/-- the sum of the counters from a to b - 1 -/
def rangeZ (xs : List Int) (a b : Int) : Int := if b ≤ a then 0 else pre xs b.toNat - pre xs a.toNat

theorem range_no (p : Option Addr) (a b : Int) (w : World) (h : b ≤ a) : Calls Try.prog 21 #[.pointer p, .int .i64 a, .int .i64 b] w fun e w' => e = .returned (.int .i64 0) ∧ Below w.heap.size w w' := by
  have hi : decide (b ≤ a) = true := decide_eq_true h
  go_enter Try.func21, Try.ntmps21
  go_wp2
  go_ret
  exact ⟨rfl, Below.refl _ _⟩
theorem range_yes {p : Option Addr} {xs : List Int} (a b : Int) (w : World) (hp : Has w p xs) (h : a < b) : Calls Try.prog 21 #[.pointer p, .int .i64 a, .int .i64 b] w fun e w' => e = .returned (.int .i64 (pre xs b.toNat - pre xs a.toNat)) ∧ Below w.heap.size w w' := by
  have hi : decide (b ≤ a) = false := decide_eq_false (by omega)
  have hw : IntKind.i64.wrap (pre xs b.toNat - pre xs a.toNat) = pre xs b.toNat - pre xs a.toNat := by
    have h1 := pre_nonneg hp.ok.pos a.toNat; have h2 := pre_le_sum hp.ok.pos a.toNat
    have h3 := pre_nonneg hp.ok.pos b.toNat; have h4 := pre_le_sum hp.ok.pos b.toNat
    have := hp.ok.top
    rw [wrap_i64_eq]; exact w64 (by omega) (by omega)
  have HP := Lib.hid hp
  have hw := Lib.hid hw
  clear hp
  go_enter Try.func21, Try.ntmps21
  go_wp2_with fail
  refine (prefix_has b w HP.out).mono ?_
  rintro e w1 ⟨rfl, hb⟩
  go_wp2_with fail
  refine (prefix_has a w1 (HP.out.bel hb)).mono ?_
  rintro e w2 ⟨rfl, hb2⟩
  go_wp2_with fail
  go_ret
  exact ⟨ret_int (by first | rfl | exact hw.out), bel_trans hb hb2⟩
theorem range_has {p : Option Addr} {xs : List Int} (a b : Int) (w : World) (hp : Has w p xs) : Calls Try.prog 21 #[.pointer p, .int .i64 a, .int .i64 b] w fun e w' => e = .returned (.int .i64 (rangeZ xs a b)) ∧ Below w.heap.size w w' := by
  unfold rangeZ
  by_cases h : b ≤ a
  · rw [if_pos h]; exact range_no p a b w h
  · rw [if_neg h]; exact range_yes a b w hp (by omega)

end Go.Proofs.Ytooppkpaahmnhaa
