/- Keys, whichever. -/
import Derived.Test.YtcejgnnkjomjlaaA4
import Derived.Conc.MuLone
import Derived.Laws.EntriesVeiled

namespace Go.Proofs.Ytcejgnnkjomjlaa
open Go.RowKit

theorem enter43 (args : Array Value) (w : World) : (callFunc 43 args).run Try.prog w = .ok (.enter 43 args) w := Go.MuLone.run_callFunc_enter Try.func43 (by kernel_rfl) rfl args w
theorem enter44 (args : Array Value) (w : World) : (callFunc 44 args).run Try.prog w = .ok (.enter 44 args) w := Go.MuLone.run_callFunc_enter Try.func44 (by kernel_rfl) rfl args w
theorem enter45 (args : Array Value) (w : World) : (callFunc 45 args).run Try.prog w = .ok (.enter 45 args) w := Go.MuLone.run_callFunc_enter Try.func45 (by kernel_rfl) rfl args w
theorem tells_key (k : Int) : Tells (keyFn k) (keyLt k) := by
  unfold keyFn keyLt
  by_cases h1 : k = 1
  · rw [if_pos h1, if_pos h1]; exact ⟨enter43, lt1_any⟩
  · rw [if_neg h1, if_neg h1]
    by_cases h2 : k = 2
    · rw [if_pos h2, if_pos h2]; exact ⟨enter44, lt2_any⟩
    · rw [if_neg h2, if_neg h2]; exact ⟨enter45, lt3_any⟩
theorem key_cases {k : Int} (h : 1 ≤ k ∧ k ≤ 3) : k = 1 ∨ k = 2 ∨ k = 3 := by omega
theorem check_ok (n k : Int) (w : World) (h : 1 ≤ k ∧ k ≤ 3) (hn : n ≤ 65536) : Calls Try.prog 29 #[.int .i64 n, .int .i64 k] w fun e w' => e = .returned (.tuple #[.func (.func (keyFn k)) #[] #[], .int .i64 0]) ∧ w = w' := by
  rcases key_cases h with rfl | rfl | rfl
  · exact check_ok1 n w hn
  · exact check_ok2 n w hn
  · exact check_ok3 n w hn
theorem check_long (n k : Int) (w : World) (h : 1 ≤ k ∧ k ≤ 3) (hn : 65536 < n) : Calls Try.prog 29 #[.int .i64 n, .int .i64 k] w fun e w' => e = .returned (.tuple #[.nilFunc, .int .i64 16]) ∧ w = w' := by
  rcases key_cases h with rfl | rfl | rfl
  · exact check_long1 n w hn
  · exact check_long2 n w hn
  · exact check_long3 n w hn
theorem check_bad (n k : Int) (w : World) (h : ¬ (1 ≤ k ∧ k ≤ 3)) : Calls Try.prog 29 #[.int .i64 n, .int .i64 k] w fun e w' => e = .returned (.tuple #[.nilFunc, .int .i64 2]) ∧ w = w' :=
  check_no n k w (by omega) (by omega) (by omega)
/-- the error of a number of records and a key -/
def errK (n : Nat) (k : Int) : Int := if 1 ≤ k ∧ k ≤ 3 then (if 65536 < n then 16 else 0) else 2
theorem check_err (n : Nat) (k : Int) (w : World) (h : errK n k ≠ 0) : Calls Try.prog 29 #[.int .i64 (n : Int), .int .i64 k] w fun e w' => e = .returned (.tuple #[.nilFunc, .int .i64 (errK n k)]) ∧ w = w' := by
  unfold errK at *
  by_cases hk : 1 ≤ k ∧ k ≤ 3
  · rw [if_pos hk] at *
    by_cases hn : 65536 < n
    · rw [if_pos hn]; exact check_long n k w hk (by omega)
    · rw [if_neg hn] at h; exact absurd rfl h
  · rw [if_neg hk] at *; exact check_bad n k w hk
theorem errK_zero {n : Nat} {k : Int} (h : errK n k = 0) : (1 ≤ k ∧ k ≤ 3) ∧ n ≤ 65536 := by
  unfold errK at h
  split at h
  · rename_i hk
    split at h
    · exact absurd h (by omega)
    · exact ⟨hk, by omega⟩
  · exact absurd h (by omega)
theorem check_fine (n : Nat) (k : Int) (w : World) (h : errK n k = 0) : Calls Try.prog 29 #[.int .i64 (n : Int), .int .i64 k] w fun e w' => e = .returned (.tuple #[.func (.func (keyFn k)) #[] #[], .int .i64 0]) ∧ w = w' :=
  check_ok n k w (errK_zero h).1 (by have := (errK_zero h).2; omega)

/-! Sort and Inversions -/
theorem sort_err (w : World) (a : Option Addr) (n c : Nat) (k : Int) (h : errK n k ≠ 0) : Calls Try.prog 16 #[.slice a n c, .int .i64 k] w fun e w' => e = .returned (.tuple #[.slice none 0 0, .int .i64 (errK n k)]) ∧ w = w' := by
  have hc := Lib.hid (check_err n k w h)
  have hd : (errK n k != 0) = true := by simpa using h
  generalize errK n k = E at *
  clear h
  go_enter Try.func16, Try.ntmps16
  go_wp2_with fail
  refine hc.out.mono ?_
  rintro e w1 ⟨rfl, rfl⟩
  go_wp2_with fail
  go_ret2
  exact ⟨rfl, rfl⟩
theorem sort_ok (w : World) (a : Option Addr) (n c : Nat) (l : List R4) (k : Int) (hr : RdR w.heap.size w a n l) (h : errK n k = 0) :
    Calls Try.prog 16 #[.slice a n c, .int .i64 k] w fun e w' => ∃ v, e = .returned (.tuple #[v, .int .i64 0]) ∧ MadeR w.heap.size w' v (isort (keyLt k) l) ∧ Below w.heap.size w w' := by
  have hc := Lib.hid (check_fine n k w h)
  have hs := Lib.hid (sorted_anyR (tells_key k) (weak_key k) w a n c l hr (errK_zero h).2)
  clear h hr
  go_enter Try.func16, Try.ntmps16
  go_wp2_with fail
  refine hc.out.mono ?_
  rintro e w1 ⟨rfl, rfl⟩
  go_wp2_with fail
  refine hs.out.mono ?_
  rintro e w2 ⟨v, rfl, hv, hb⟩
  obtain ⟨a1, c1, rfl, hrest⟩ := hv
  replace hrest := Lib.hid hrest
  replace hb := Lib.hid hb
  go_wp2_with fail
  go_ret2
  exact ⟨_, rfl, ⟨a1, c1, rfl, hrest.out⟩, hb.out⟩
theorem invs_err (w : World) (a : Option Addr) (n c : Nat) (k : Int) (h : errK n k ≠ 0) : Calls Try.prog 23 #[.slice a n c, .int .i64 k] w fun e w' => e = .returned (.tuple #[.int .i64 0, .int .i64 (errK n k)]) ∧ w = w' := by
  have hc := Lib.hid (check_err n k w h)
  have hd : (errK n k != 0) = true := by simpa using h
  generalize errK n k = E at *
  clear h
  go_enter Try.func23, Try.ntmps23
  go_wp2_with fail
  refine hc.out.mono ?_
  rintro e w1 ⟨rfl, rfl⟩
  go_wp2_with fail
  go_ret2
  exact ⟨rfl, rfl⟩
theorem invs_ok (w : World) (a : Option Addr) (n c : Nat) (l : List R4) (k : Int) (hr : RdR w.heap.size w a n l) (h : errK n k = 0) :
    Calls Try.prog 23 #[.slice a n c, .int .i64 k] w fun e w' => e = .returned (.tuple #[.int .i64 (inv (keyLt k) l : Nat), .int .i64 0]) ∧ Below w.heap.size w w' := by
  have hc := Lib.hid (check_fine n k w h)
  have hs := Lib.hid (sorted_anyR (tells_key k) (weak_key k) w a n c l hr (errK_zero h).2)
  clear h hr
  go_enter Try.func23, Try.ntmps23
  go_wp2_with fail
  refine hc.out.mono ?_
  rintro e w1 ⟨rfl, rfl⟩
  go_wp2_with fail
  refine hs.out.mono ?_
  rintro e w2 ⟨v, rfl, hv, hb⟩
  obtain ⟨a1, c1, rfl, hrest⟩ := hv
  replace hb := Lib.hid hb
  clear hrest
  go_wp2_with fail
  go_ret2
  exact ⟨rfl, hb.out⟩
end Go.Proofs.Ytcejgnnkjomjlaa

/- Whether rows are in order. -/
namespace Go.Proofs.Ytcejgnnkjomjlaa
open Go.RowKit

theorem nbr_idx {α : Type} {lt : α → α → Bool} (l : List α) : nbr lt l = true ↔ ∀ i x y, l[i]? = some x → l[i + 1]? = some y → lt y x = false := by
  induction l with
  | nil => simp [nbr]
  | cons a l ih =>
    cases l with
    | nil => simp [nbr]
    | cons b l =>
      simp only [nbr, Bool.and_eq_true, Bool.not_eq_true', ih]
      constructor
      · rintro ⟨h1, h2⟩ i x y hx hy
        cases i with
        | zero =>
          simp at hx hy
          subst hx; subst hy; exact h1
        | succ i => exact h2 i x y (by simpa using hx) (by simpa using hy)
      · intro h
        exact ⟨h 0 a b rfl rfl, fun i x y hx hy => h (i + 1) x y (by simpa using hx) (by simpa using hy)⟩
theorem nbr_false {α : Type} {lt : α → α → Bool} {l : List α} {i : Nat} {x y : α} (hx : l[i]? = some x) (hy : l[i + 1]? = some y) (h : lt y x = true) : nbr lt l = false := by
  cases e : nbr lt l with
  | false => rfl
  | true => have := (nbr_idx l).1 e i x y hx hy; rw [h] at this; cases this

theorem rd_four {w : World} {b off i : Nat} {l : List R4} {r : R4} (h : ∀ i r, l[i]? = some r → ∀ j, j < 4 → w.cell? ⟨b, off + (i * 4 + j), none⟩ = (cells4 r)[j]?) (hr : l[i]? = some r) :
    w.cell? ⟨b, off + i * 4, none⟩ = some (.int .u64 r.u) ∧ w.cell? ⟨b, off + i * 4 + 1, none⟩ = some (.int .u64 r.v) ∧ w.cell? ⟨b, off + i * 4 + 2, none⟩ = some (.int .i64 r.w) ∧ w.cell? ⟨b, off + i * 4 + 3, none⟩ = some (.int .i64 r.t) :=
  ⟨h i r hr 0 (by omega), h i r hr 1 (by omega), h i r hr 2 (by omega), h i r hr 3 (by omega)⟩

set_option maxHeartbeats 4000000 in
theorem inorder_any {F : Nat} {lt : R4 → R4 → Bool} (hF : Tells F lt) (w : World) (a : Option Addr) (n c : Nat) (l : List R4) (hr : RdR w.heap.size w a n l) (hm : n ≤ 70000) :
    Calls Try.prog 36 #[.slice a n c, .func (.func F) #[] #[]] w fun e w' => e = .returned (.bool (nbr lt l)) ∧ Below w.heap.size w w' := by
  have hl := Lib.hid hr.1
  replace hr := Lib.hid hr
  have hen := hF.enter
  replace hF := Lib.hid hF.tells
  go_enter Try.func36, Try.ntmps36
  go_wp2_with fail
  go_loopw [5] (fun v5 wr => ∃ j : Nat, v5 = .int .i64 ((j : Int) + 1) ∧ (j : Int) ≤ 70000 ∧ (∀ i x y, i < j → l[i]? = some x → l[i + 1]? = some y → lt y x = false) ∧ Below w.heap.size w wr) (fun v5 _ => n - (intOf v5).toNat)
  case atStart => exact ⟨0, rfl, by omega, fun i x y h => absurd h (by omega), Below.refl _ _⟩
  case round =>
    obtain ⟨j, rfl, hj, hall, hb⟩ := hrel
    replace hall := Lib.hid hall
    replace hb := Lib.hid hb
    by_cases hlt : j + 1 < n
    · have hd : decide ((j : Int) + 1 < (n : Int)) = true := decide_eq_true (by omega)
      have hk0 : (0 : Int) ≤ (j : Int) + 1 := by omega
      have hk1 : (j : Int) + 1 < (n : Int) := by omega
      have hk2 : ((j : Int) + 1).toNat = j + 1 := by omega
      have hk3 : (j : Int) < (n : Int) := by omega
      obtain ⟨b, off, rfl, hbl, hcell⟩ := (hr.out.below hb.out).2 (by omega)
      have hx : ∃ x, l[j]? = some x := ⟨_, List.getElem?_eq_getElem (by rw [hl.out]; omega)⟩
      have hy : ∃ y, l[j + 1]? = some y := ⟨_, List.getElem?_eq_getElem (by rw [hl.out]; omega)⟩
      obtain ⟨x, hx⟩ := hx
      obtain ⟨y, hy⟩ := hy
      obtain ⟨x0, x1, x2, x3⟩ := rd_four hcell hx
      obtain ⟨y0, y1, y2, y3⟩ := rd_four hcell hy
      replace hx := Lib.hid hx
      replace hy := Lib.hid hy
      clear hcell
      have hw1 : IntKind.i64.wrap (j : Int) = (j : Int) := IntWalk.i64_in _ (by omega)
      go_wp2_with fail
      refine wp_region_still_tail 10 (by kernel_rfl) (by kernel_rfl) ?_
      simp only [List.take_succ_cons, List.take_zero, List.drop_succ_cons, List.drop_zero]
      change wpStill _ _ wr.drew _ _ _
      repeat (first | still_step)
      refine wpStill_nil ?_
      change wpList _ _ _ _ _ wr.drew
      go_wp2_with fail
      refine (hF.out y x _).mono ?_
      rintro e w1 ⟨rfl, hb1⟩
      have hb2 := Lib.hid (bel_trans (bel_drew hb.out) hb1)
      clear hb1
      cases hlt2 : lt y x with
      | true =>
        have hn := Lib.hid (nbr_false hx.out hy.out hlt2)
        go_wp2_with fail
        go_ret
        exact ⟨ret_bool hn.out.symm, hb2.out⟩
      | false =>
        clear hw1
        have hall2 : ∀ i x y, i < j + 1 → l[i]? = some x → l[i + 1]? = some y → lt y x = false := by
          intro i x' y' hi hx' hy'
          by_cases hij : i < j
          · exact hall.out i x' y' hij hx' hy'
          · obtain rfl : i = j := by omega
            rw [hx.out] at hx'
            rw [hy.out] at hy'
            injection hx' with hx'
            injection hy' with hy'
            subst hx'; subst hy'
            exact hlt2
        replace hall2 := Lib.hid hall2
        go_wp2_with fail
        go_roundw
        case rel => exact ⟨j + 1, by go_num, by omega, hall2.out, hb2.out⟩
        case measure => simp [intOf]; omega
    · have hd : decide ((j : Int) + 1 < (n : Int)) = false := decide_eq_false (by omega)
      have hn : nbr lt l = true := (nbr_idx l).2 fun i x y hx hy => hall.out i x y (by
        have : i + 1 < l.length := by
          rcases Nat.lt_or_ge (i + 1) l.length with h | h
          · exact h
          · rw [List.getElem?_eq_none h] at hy; cases hy
        rw [hl.out] at this; omega) hx hy
      replace hn := Lib.hid hn
      go_wp2_with fail
      go_ret
      exact ⟨ret_bool hn.out.symm, hb.out⟩
end Go.Proofs.Ytcejgnnkjomjlaa

/- Sorted and Merge. -/
namespace Go.Proofs.Ytcejgnnkjomjlaa
open Go.RowKit

theorem srt_err (w : World) (a : Option Addr) (n c : Nat) (k : Int) (h : errK n k ≠ 0) : Calls Try.prog 21 #[.slice a n c, .int .i64 k] w fun e w' => e = .returned (.tuple #[.bool false, .int .i64 (errK n k)]) ∧ w = w' := by
  have hc := Lib.hid (check_err n k w h)
  have hd : (errK n k == 0) = false := by simpa using h
  generalize errK n k = E at *
  clear h
  go_enter Try.func21, Try.ntmps21
  go_wp2_with fail
  refine hc.out.mono ?_
  rintro e w1 ⟨rfl, rfl⟩
  go_wp2_with fail
  go_ret2
  exact ⟨rfl, rfl⟩
theorem srt_ok (w : World) (a : Option Addr) (n c : Nat) (l : List R4) (k : Int) (hr : RdR w.heap.size w a n l) (h : errK n k = 0) :
    Calls Try.prog 21 #[.slice a n c, .int .i64 k] w fun e w' => e = .returned (.tuple #[.bool (nbr (keyLt k) l), .int .i64 0]) ∧ Below w.heap.size w w' := by
  have hc := Lib.hid (check_fine n k w h)
  have hs := Lib.hid (inorder_any (tells_key k) w a n c l hr (by have := (errK_zero h).2; omega))
  clear h hr
  go_enter Try.func21, Try.ntmps21
  go_wp2_with fail
  refine hc.out.mono ?_
  rintro e w1 ⟨rfl, rfl⟩
  go_wp2_with fail
  refine hs.out.mono ?_
  rintro e w2 ⟨rfl, hb⟩
  replace hb := Lib.hid hb
  go_wp2_with fail
  go_ret2
  exact ⟨rfl, hb.out⟩

theorem RdR.rx {n₀ n₁ g : Nat} {w : World} {a : Option Addr} {len : Nat} {l : List R4} (h : RdR n₀ w a len l) (hn : n₀ ≤ n₁) (hg : n₀ ≤ g) : RX n₁ g w a len l := by
  refine ⟨h.1, fun hp => ?_⟩
  obtain ⟨b, off, ha, hlt, hc⟩ := h.2 hp
  exact ⟨b, off, ha, by omega, by omega, hc⟩
theorem over_all {α : Type} {T M : List α} (h : M.length = T.length) : over T 0 M = M := by
  unfold over
  rw [List.take_zero, List.nil_append, List.drop_of_length_le (by omega), List.append_nil]

theorem mg_err (w : World) (a b : Option Addr) (la ca lb cb : Nat) (k : Int) (h : errK (la + lb) k ≠ 0) (hm1 : la ≤ 70000) (hm2 : lb ≤ 70000) : Calls Try.prog 26 #[.slice a la ca, .slice b lb cb, .int .i64 k] w fun e w' => e = .returned (.tuple #[.slice none 0 0, .int .i64 (errK (la + lb) k)]) ∧ w = w' := by
  have hc := check_err (la + lb) k w h
  rw [Int.natCast_add] at hc
  replace hc := Lib.hid hc
  have hd : (errK (la + lb) k != 0) = true := by simpa using h
  generalize errK (la + lb) k = E at *
  clear h
  go_enter Try.func26, Try.ntmps26
  go_wp2_with fail
  refine hc.out.mono ?_
  rintro e w1 ⟨rfl, rfl⟩
  go_wp2_with fail
  go_ret2
  exact ⟨rfl, rfl⟩
theorem mg_ord1 (w : World) (a b : Option Addr) (la ca lb cb : Nat) (A _B : List R4) (k : Int) (ha : RdR w.heap.size w a la A) (h : errK (la + lb) k = 0) (hn : nbr (keyLt k) A = false) :
    Calls Try.prog 26 #[.slice a la ca, .slice b lb cb, .int .i64 k] w fun e w' => e = .returned (.tuple #[.slice none 0 0, .int .i64 8]) ∧ Below w.heap.size w w' := by
  have hm := (errK_zero h).2
  have hm1 : la ≤ 65536 := by omega
  have hm2 : lb ≤ 65536 := by omega
  have hc := check_fine (la + lb) k w h
  rw [Int.natCast_add] at hc
  replace hc := Lib.hid hc
  have hs := inorder_any (tells_key k) w a la ca A ha (by omega)
  rw [hn] at hs
  replace hs := Lib.hid hs
  clear h ha hn hm
  go_enter Try.func26, Try.ntmps26
  go_wp2_with fail
  refine hc.out.mono ?_
  rintro e w1 ⟨rfl, rfl⟩
  go_wp2_with fail
  refine hs.out.mono ?_
  rintro e w2 ⟨rfl, hb⟩
  replace hb := Lib.hid hb
  go_wp2_with fail
  go_ret2
  exact ⟨rfl, hb.out⟩
theorem mg_ord2 (w : World) (a b : Option Addr) (la ca lb cb : Nat) (A B : List R4) (k : Int) (ha : RdR w.heap.size w a la A) (hb : RdR w.heap.size w b lb B) (h : errK (la + lb) k = 0) (hn : nbr (keyLt k) A = true) (hn2 : nbr (keyLt k) B = false) :
    Calls Try.prog 26 #[.slice a la ca, .slice b lb cb, .int .i64 k] w fun e w' => e = .returned (.tuple #[.slice none 0 0, .int .i64 8]) ∧ Below w.heap.size w w' := by
  have hm := (errK_zero h).2
  have hm1 : la ≤ 65536 := by omega
  have hm2 : lb ≤ 65536 := by omega
  have hc := check_fine (la + lb) k w h
  rw [Int.natCast_add] at hc
  replace hc := Lib.hid hc
  have hs := inorder_any (tells_key k) w a la ca A ha (by omega)
  rw [hn] at hs
  replace hs := Lib.hid hs
  have hs2 := fun W (hW : Below w.heap.size w W) => inorder_any (tells_key k) W b lb cb B ((hb.below hW).mono hW.size) (by omega)
  rw [hn2] at hs2
  replace hs2 := Lib.hid hs2
  clear h ha hb hn hn2 hm
  go_enter Try.func26, Try.ntmps26
  go_wp2_with fail
  refine hc.out.mono ?_
  rintro e w1 ⟨rfl, rfl⟩
  go_wp2_with fail
  refine hs.out.mono ?_
  rintro e w2 ⟨rfl, hb⟩
  replace hb := Lib.hid hb
  go_wp2_with fail
  refine (hs2.out _ hb.out).mono ?_
  rintro e w3 ⟨rfl, hb3⟩
  replace hb3 := Lib.hid hb3
  go_wp2_with fail
  go_ret2
  exact ⟨rfl, bel_trans hb.out hb3.out⟩
theorem mg_ok (w : World) (a b : Option Addr) (la ca lb cb : Nat) (A B : List R4) (k : Int) (ha : RdR w.heap.size w a la A) (hb : RdR w.heap.size w b lb B) (hca : la ≤ ca) (hcb : lb ≤ cb) (h : errK (la + lb) k = 0) (hn : nbr (keyLt k) A = true) (hn2 : nbr (keyLt k) B = true) :
    Calls Try.prog 26 #[.slice a la ca, .slice b lb cb, .int .i64 k] w fun e w' => ∃ v, e = .returned (.tuple #[v, .int .i64 0]) ∧ MadeR w.heap.size w' v (mrg (keyLt k) A B) ∧ Below w.heap.size w w' := by
  have hm := (errK_zero h).2
  have hm1 : la ≤ 65536 := by omega
  have hm2 : lb ≤ 65536 := by omega
  have hc := check_fine (la + lb) k w h
  rw [Int.natCast_add] at hc
  replace hc := Lib.hid hc
  have hs := inorder_any (tells_key k) w a la ca A ha (by omega)
  rw [hn] at hs
  replace hs := Lib.hid hs
  have hs2 := fun W (hW : Below w.heap.size w W) => inorder_any (tells_key k) W b lb cb B ((hb.below hW).mono hW.size) (by omega)
  rw [hn2] at hs2
  replace hs2 := Lib.hid hs2
  have hmk := fun W => make_rec (la + lb) (by omega) W
  rw [Int.natCast_add] at hmk
  have hml : (mrg (keyLt k) A B).length = la + lb := by rw [mrg_length, ha.1, hb.1]
  have hmg : ∀ W g, Below w.heap.size w W → w.heap.size ≤ g → Blk W g (RwR (List.replicate (la + lb) R4.zero) #[]) 24 → Calls Try.prog 37 #[.slice (some ⟨g, 0, none⟩) (la + lb) (la + lb), .slice a la ca, .slice b lb cb, .func (.func (keyFn k)) #[] #[]] W fun e w' =>
      e = .returned (.int .i64 (mcn (keyLt k) A B : Nat)) ∧ Blk w' g (RwR (mrg (keyLt k) A B) #[]) 24 ∧ Chg (· = g) W w' := by
    intro W g hW hg hB
    have := merge_rec (tells_key k) W g 0 (la + lb) (la + lb) la ca lb cb (List.replicate (la + lb) R4.zero) A B #[] a b hB ((ha.below hW).rx hW.size hg) ((hb.below hW).rx hW.size hg) hca hcb rfl (by simp) (by simp; omega)
    rw [over_all (by rw [hml, List.length_replicate]), Nat.zero_mul] at this
    exact this
  replace hmg := Lib.hid hmg
  replace hml := Lib.hid hml
  clear h ha hb hn hn2 hm
  go_enter Try.func26, Try.ntmps26
  go_wp2_with fail
  refine hc.out.mono ?_
  rintro e w1 ⟨rfl, rfl⟩
  go_wp2_with fail
  refine hs.out.mono ?_
  rintro e w2 ⟨rfl, hb⟩
  replace hb := Lib.hid hb
  go_wp2_with fail
  refine (hs2.out _ hb.out).mono ?_
  rintro e w3 ⟨rfl, hb3⟩
  replace hb3 := Lib.hid (bel_trans hb.out hb3)
  go_wp2_with fail
  refine (hmg.out _ _ (bel_alloc hb3.out _) hb3.out.size (Blk.new _ _ _)).mono ?_
  rintro e w4 ⟨rfl, hB4, hC4⟩
  have hsz := hb3.out.size
  have hb4 : Below w.heap.size w w4 := (bel_alloc hb3.out _).trans (hC4.below (n := w.heap.size) (by rw [World.size_alloc]; omega) (fun i _ e => by omega))
  replace hB4 := Lib.hid hB4
  replace hb4 := Lib.hid hb4
  clear hC4
  go_wp2_with fail
  go_ret2
  exact ⟨_, rfl, ⟨some ⟨w3.heap.size, 0, none⟩, la + lb, by rw [hml.out]; rfl, by rw [hml.out]; exact Nat.le_refl _, fun _ => ⟨w3.heap.size, #[], rfl, hsz, hB4.out⟩⟩, hb4.out⟩
end Go.Proofs.Ytcejgnnkjomjlaa

/- Perm: indexes, sorted. -/
namespace Go.Proofs.Ytcejgnnkjomjlaa
open Go.RowKit

/-- which of two indexes' records is before the other one -/
def ltIdx (lt : R4 → R4 → Bool) (l : List R4) (i j : Int) : Bool := lt (l[i.toNat]?.getD R4.zero) (l[j.toNat]?.getD R4.zero)
theorem weak_ltIdx {lt : R4 → R4 → Bool} (h : Weak lt) (l : List R4) : Weak (ltIdx lt l) := weak_idx h (fun i : Int => l[i.toNat]?.getD R4.zero)

set_option maxHeartbeats 4000000 in
theorem tells_idx {F : Nat} {lt : R4 → R4 → Bool} (hF : Tells F lt) (W0 : World) (fb lb : Nat) (a : Option Addr) (n c : Nat) (l : List R4) (hm : n ≤ 70000)
    (hf : Blk W0 fb #[.func (.func F) #[] #[]] 50) (hl : Blk W0 lb #[.slice a n c] 31) (hr : RdR W0.heap.size W0 a n l) : TellsI W0 n fb lb (ltIdx lt l) := by
  refine ⟨fun i j w hw hi hj => ?_⟩
  have c0 := (hf.below hw hf.lt).cell 0 (v := .func (.func F) #[] #[]) rfl
  have c1 := (hl.below hw hl.lt).cell 0 (v := .slice a n c) rfl
  have hlen := hr.1
  obtain ⟨x, hx⟩ : ∃ x, l[i.toNat]? = some x := ⟨_, List.getElem?_eq_getElem (by omega)⟩
  obtain ⟨y, hy⟩ : ∃ x, l[j.toNat]? = some x := ⟨_, List.getElem?_eq_getElem (by omega)⟩
  obtain ⟨b, off, rfl, hbl, hcell⟩ := (hr.below hw).2 (by omega)
  obtain ⟨x0, x1, x2, x3⟩ := rd_four hcell hx
  obtain ⟨y0, y1, y2, y3⟩ := rd_four hcell hy
  have hres : ltIdx lt l i j = lt x y := by unfold ltIdx; rw [hx, hy]; rfl
  rw [hres]
  have hen := hF.enter
  replace hF := Lib.hid hF.tells
  obtain ⟨i0, i1⟩ := hi
  obtain ⟨j0, j1⟩ := hj
  have hbl0 := Lib.hid (bel_drew (Below.refl w.heap.size w))
  clear hx hy hcell hres hf hl hr hlen hw
  go_enter Try.func34, Try.ntmps34
  go_wp2_with fail
  refine wp_region_still_tail 9 (by kernel_rfl) (by kernel_rfl) ?_
  simp only [List.take_succ_cons, List.take_zero, List.drop_succ_cons, List.drop_zero]
  change wpStill _ _ w.drew _ _ _
  repeat (first | still_step)
  refine wpStill_nil ?_
  change wpList _ _ _ _ _ w.drew
  go_wp2_with fail
  refine (hF.out x y _).mono ?_
  rintro e w1 ⟨rfl, hb1⟩
  replace hb1 := Lib.hid (bel_trans hbl0.out hb1)
  go_wp2_with fail
  go_ret
  exact ⟨rfl, hb1.out⟩

/-- the indexes of n elements -/
def idxs (n : Nat) : List Int := (List.range n).map (fun (i : Nat) => (i : Int))
theorem idxs_length (n : Nat) : (idxs n).length = n := by simp [idxs]
theorem idxs_mem {n : Nat} {x : Int} (h : x ∈ idxs n) : 0 ≤ x ∧ x < (n : Int) := by
  obtain ⟨i, hi, rfl⟩ := List.mem_map.1 h
  have := List.mem_range.1 hi
  omega
def fillI (n k : Nat) : List Int := idxs k ++ List.replicate (n - k) 0
theorem fillI_zero (n : Nat) : fillI n 0 = List.replicate n 0 := by simp [fillI, idxs]
theorem fillI_all (n : Nat) : fillI n n = idxs n := by simp [fillI]
theorem fillI_length {n k : Nat} (h : k ≤ n) : (fillI n k).length = n := by simp [fillI, idxs]; omega
theorem fillI_set {n k : Nat} (h : k < n) : (fillI n k).set k (k : Int) = fillI n (k + 1) := by
  have e : n - k = (n - (k + 1)) + 1 := by omega
  unfold fillI
  rw [e, List.replicate_succ, List.set_append_right _ _ (by rw [idxs_length]; exact Nat.le_refl _), idxs_length, Nat.sub_self, List.set_cons_zero]
  unfold idxs
  rw [List.range_succ, List.map_append, List.append_assoc]
  rfl
theorem fillI_at {n k : Nat} (h : k < n) : ∃ z, (fillI n k)[k]? = some z := ⟨_, List.getElem?_eq_getElem (by rw [fillI_length (by omega)]; exact h)⟩

theorem perm_err (w : World) (a : Option Addr) (n c : Nat) (k : Int) (h : errK n k ≠ 0) : Calls Try.prog 18 #[.slice a n c, .int .i64 k] w fun e w' => e = .returned (.tuple #[.slice none 0 0, .int .i64 (errK n k)]) ∧ Below w.heap.size w w' := by
  have hc := Lib.hid fun W => check_err n k W h
  have hd : (errK n k != 0) = true := by simpa using h
  generalize errK n k = E at *
  have hbl := Lib.hid (Below.refl w.heap.size w)
  clear h
  go_enter Try.func18, Try.ntmps18
  go_wp2_with fail
  refine (hc.out _).mono ?_
  rintro e w1 ⟨rfl, rfl⟩
  go_wp2_with fail
  go_ret2
  exact ⟨rfl, by first | exact bel_set (bel_alloc (bel_alloc hbl.out _) _) (by simp) _ | exact bel_alloc (bel_alloc hbl.out _) _⟩

set_option maxHeartbeats 8000000 in
theorem perm_ok (w : World) (a : Option Addr) (n c : Nat) (l : List R4) (k : Int) (hr : RdR w.heap.size w a n l) (h : errK n k = 0) :
    Calls Try.prog 18 #[.slice a n c, .int .i64 k] w fun e w' => ∃ v, e = .returned (.tuple #[v, .int .i64 0]) ∧ MadeI w.heap.size w' v (isort (ltIdx (keyLt k) l) (idxs n)) ∧ Below w.heap.size w w' := by
  have hm := (errK_zero h).2
  have hc := Lib.hid fun W => check_fine n k W h
  have hmk := fun W => make_int n (by omega) W
  have hbl := Lib.hid (Below.refl w.heap.size w)
  replace hr := Lib.hid hr
  clear h
  go_enter Try.func18, Try.ntmps18
  go_wp2_with fail
  refine (hc.out _).mono ?_
  rintro e w1 ⟨rfl, rfl⟩
  go_wp2_with fail
  have A1 := ((Blk.new w #[.slice a n c] 31).alloc (.cells #[.func (.func (keyFn k)) #[] #[]] 50)).alloc (.cells (RwI (List.replicate n 0) #[]) 3)
  have A2 := (Blk.new (w.alloc (.cells #[.slice a n c] 31)) #[.func (.func (keyFn k)) #[] #[]] 50).alloc (.cells (RwI (List.replicate n 0) #[]) 3)
  have A3 := Blk.new ((w.alloc (.cells #[.slice a n c] 31)).alloc (.cells #[.func (.func (keyFn k)) #[] #[]] 50)) (RwI (List.replicate n 0) #[]) 3
  have hB := bel_alloc (bel_alloc (bel_alloc hbl.out (.cells #[.slice a n c] 31)) (.cells #[.func (.func (keyFn k)) #[] #[]] 50)) (.cells (RwI (List.replicate n 0) #[]) 3)
  simp only [World.size_alloc] at A2 A3
  generalize ((w.alloc (.cells #[.slice a n c] 31)).alloc (.cells #[.func (.func (keyFn k)) #[] #[]] 50)).alloc (.cells (RwI (List.replicate n 0) #[]) 3) = U at *
  obtain ⟨D, hD⟩ : ∃ D, w.heap.size + 1 + 1 = D := ⟨_, rfl⟩
  rw [hD] at A3 ⊢
  replace hD := Lib.hid hD
  replace A1 := Lib.hid A1
  replace A2 := Lib.hid A2
  replace A3 := Lib.hid A3
  replace hB := Lib.hid hB
  clear hmk
  go_loopw [27] (fun v27 wr => ∃ q : Nat, v27 = .int .i64 (q : Int) ∧ q ≤ n ∧ Blk wr w.heap.size #[.slice a n c] 31 ∧ Blk wr (w.heap.size + 1) #[.func (.func (keyFn k)) #[] #[]] 50 ∧ Blk wr D (RwI (fillI n q) #[]) 3 ∧ Below w.heap.size w wr) (fun v27 _ => n - (intOf v27).toNat)
  case atStart => exact ⟨0, rfl, by omega, A1.out, A2.out, by rw [fillI_zero]; exact A3.out, hB.out⟩
  case round =>
    clear A1 A2 A3 hB
    obtain ⟨q, rfl, hq, A1, A2, A3, hB⟩ := hrel
    replace A1 := Lib.hid A1
    replace A2 := Lib.hid A2
    replace hB := Lib.hid hB
    have hne1 : w.heap.size ≠ D := by have := hD.out; omega
    have hne2 : w.heap.size + 1 ≠ D := by have := hD.out; omega
    by_cases hlt : q < n
    · have hd : decide ((q : Int) < (n : Int)) = true := decide_eq_true (by omega)
      obtain ⟨z, hz⟩ := fillI_at hlt
      have c0 := A3.cell q (RwI.at #[] hz)
      have f0 := A3.frozen q
      have hnew := A3.set q (.int .i64 (q : Int))
      rw [RwI.set #[] _ (by rw [fillI_length (by omega)]; exact hlt), fillI_set hlt] at hnew
      replace hnew := Lib.hid hnew
      clear A3 hz
      go_wp2_with fail
      go_roundw
      case rel => exact ⟨q + 1, by go_num, by omega, A1.out.other (a := ⟨D, q, none⟩) hne1 _, A2.out.other (a := ⟨D, q, none⟩) hne2 _, hnew.out, bel_set hB.out (by have := hD.out; omega) _⟩
      case measure => simp [intOf]; omega
    · obtain rfl : q = n := by omega
      have hd : decide ((q : Int) < (q : Int)) = false := by simp
      rw [fillI_all] at A3
      have hri : RdI wr.heap.size wr (some ⟨D, 0, none⟩) q (idxs q) := ⟨idxs_length q, fun _ => ⟨D, 0, rfl, A3.lt, fun i r hr => by rw [Nat.zero_add]; exact A3.cell i (RwI.at #[] hr)⟩⟩
      have ht := tells_idx (tells_key k) wr (w.heap.size + 1) w.heap.size a q c l (by omega) A2.out A1.out ((hr.out.below hB.out).mono hB.out.size)
      have hs := Lib.hid (sorted_anyI ht (weak_ltIdx (weak_key k) l) wr (some ⟨D, 0, none⟩) q q (idxs q) hri (by omega) (Below.refl _ _) (fun x hx => idxs_mem hx))
      clear A3 hri ht
      go_wp2_with fail
      refine hs.out.mono ?_
      rintro e w2 ⟨v, rfl, hv, hb2⟩
      obtain ⟨a1, c1, rfl, hrest⟩ := hv
      have hb3 := Lib.hid (bel_trans hB.out hb2)
      have hrest2 : MadeI w.heap.size w2 (.slice a1 (isort (ltIdx (keyLt k) l) (idxs q)).length c1) (isort (ltIdx (keyLt k) l) (idxs q)) := MadeI.lower ⟨a1, c1, rfl, hrest⟩ hB.out.size
      replace hrest2 := Lib.hid hrest2
      clear hrest hb2
      go_wp2_with fail
      go_ret2
      exact ⟨_, rfl, hrest2.out, hb3.out⟩
end Go.Proofs.Ytcejgnnkjomjlaa
