/- Plain laws of additions: what is refused, and what is left behind. -/
import Derived.Test.YtooppkpaahmnhaaFil
namespace Go.Proofs.Ytooppkpaahmnhaa
open Go.RowKit Go.Shelf

structure Added (xs : List Int) (k : Nat) (d : Int) (ys : List Int) : Prop where
  e : addE xs (k : Int) d = 0
  x : addX xs (k : Int) d = ys
  def_ : ys = xs.set k (xs[k]?.getD 0 + d)
  ok : Sound ys
  sum : ys.sum = xs.sum + d
  len : ys.length = xs.length

theorem sound_set {xs : List Int} (ok : Sound xs) {k : Nat} (hk : k < xs.length) {d : Int} (h1 : 0 ≤ xs[k]?.getD 0 + d) (h2 : xs.sum + d ≤ 9223372036854775807) : Sound (xs.set k (xs[k]?.getD 0 + d)) ∧ (xs.set k (xs[k]?.getD 0 + d)).sum = xs.sum + d := by
  have hsum : (xs.set k (xs[k]?.getD 0 + d)).sum = xs.sum + d := by rw [sum_set xs hk]; omega
  refine ⟨⟨by rw [List.length_set]; exact ok.len, fun y hy => ?_, by rw [hsum]; exact h2⟩, hsum⟩
  rcases List.mem_or_eq_of_mem_set hy with h | h
  · exact ok.pos y h
  · omega
theorem add_fits {xs : List Int} (ok : Sound xs) {k : Nat} (hk : k < xs.length) {d : Int} (h1 : 0 ≤ xs[k]?.getD 0 + d) (h2 : xs.sum + d ≤ 9223372036854775807) : Added xs k d (xs.set k (xs[k]?.getD 0 + d)) := by
  have he : addE xs (k : Int) d = 0 := by
    unfold addE
    rw [Int.toNat_natCast, if_neg (by omega), if_neg (by omega), if_neg (by omega)]
  obtain ⟨h3, h4⟩ := sound_set ok hk h1 h2
  exact ⟨he, by unfold addX; rw [if_pos he, Int.toNat_natCast], rfl, h3, h4, by simp⟩
theorem Added.at_ {xs ys : List Int} {k : Nat} {d : Int} (h : Added xs k d ys) (hk : k < xs.length) : ys[k]?.getD 0 = xs[k]?.getD 0 + d := by
  rw [h.def_, List.getElem?_set_self hk]; rfl
theorem Added.other {xs ys : List Int} {k j : Nat} {d : Int} (h : Added xs k d ys) (hj : j ≠ k) : ys[j]?.getD 0 = xs[j]?.getD 0 := by
  rw [h.def_, List.getElem?_set_ne (fun e => hj e.symm)]
theorem add_over7 {xs : List Int} (ok : Sound xs) {k : Nat} (hk : k < xs.length) {d : Int} (h1 : 0 ≤ d) (h2 : 9223372036854775807 < xs.sum + d) : addE xs (k : Int) d = 7 ∧ addX xs (k : Int) d = xs := by
  have he : addE xs (k : Int) d = 7 := by
    unfold addE
    rw [if_neg (by omega), if_neg (by omega), if_pos h2]
  exact ⟨he, by unfold addX; rw [if_neg (by omega)]⟩
theorem add_out {xs : List Int} {k d : Int} (hk : (xs.length : Int) ≤ k) : addE xs k d = 3 ∧ addX xs k d = xs := by
  have he : addE xs k d = 3 := by unfold addE; rw [if_pos (.inr hk)]
  exact ⟨he, by unfold addX; rw [if_neg (by omega)]⟩
theorem add_less {xs : List Int} {k : Nat} (hk : k < xs.length) {d : Int} (h1 : d < 0) (h2 : xs[k]?.getD 0 + d < 0) : addE xs (k : Int) d = 2 ∧ addX xs (k : Int) d = xs := by
  have he : addE xs (k : Int) d = 2 := by
    unfold addE
    rw [Int.toNat_natCast, if_neg (by omega), if_pos ⟨h1, h2⟩]
  exact ⟨he, by unfold addX; rw [if_neg (by omega)]⟩

theorem pre_same {xs ys : List Int} {k : Nat} (h : ∀ j, j < k → xs[j]?.getD 0 = ys[j]?.getD 0) : pre xs k = pre ys k := by
  induction k with
  | zero => rw [pre_zero, pre_zero]
  | succ k ih => rw [pre_succ, pre_succ, ih (fun j hj => h j (by omega)), h k (by omega)]
theorem pre_zeros (n k : Nat) : pre (List.replicate n 0) k = 0 := by rw [pre, List.take_replicate, sum_zeros]
theorem zeros_at (n k : Nat) : (List.replicate n (0 : Int))[k]?.getD 0 = 0 := by
  rw [List.getElem?_replicate]; split <;> rfl
theorem pre_added {xs ys : List Int} {k : Nat} {d : Int} (h : Added xs k d ys) (hk : k < xs.length) : ∀ j, pre ys j = pre xs j + if k < j then d else 0 := by
  intro j
  induction j with
  | zero => rw [pre_zero, pre_zero]; simp
  | succ j ih =>
    rw [pre_succ, pre_succ, ih]
    by_cases e : j = k
    · subst e; rw [h.at_ hk, if_neg (by omega), if_pos (by omega)]; omega
    · rw [h.other e]
      by_cases h2 : k < j
      · rw [if_pos h2, if_pos (by omega)]; omega
      · rw [if_neg h2, if_neg (by omega)]; omega

def most : Int := 9223372036854775807

theorem over_plain (m a b : Nat) (D : Int) (hm : m ≤ 50) (ha : a < m) (hb : b < m) (h0 : 0 ≤ D) (h1 : D ≤ most) : ∃ x1 x2 x3 x4 x5 : List Int,
    addE (List.replicate m 0) (a : Int) D = 0 ∧ addX (List.replicate m 0) (a : Int) D = x1 ∧ addE x1 (b : Int) (most - D) = 0 ∧ addX x1 (b : Int) (most - D) = x2 ∧ x2.sum = most ∧
    addE x2 (a : Int) 1 = 7 ∧ addX x2 (a : Int) 1 = x2 ∧ addE x2 (b : Int) most = 7 ∧ addX x2 (b : Int) most = x2 ∧ addE x2 (m : Int) 1 = 3 ∧ addX x2 (m : Int) 1 = x2 ∧ pre x2 m = most ∧
    (∀ j : Nat, pre x2 j ≤ most - 1 → most - 1 < pre x2 (j + 1) → min a b ≤ j ∧ j ≤ max a b) ∧
    addE x2 (a : Int) (-D) = 0 ∧ addX x2 (a : Int) (-D) = x3 ∧ addE x3 0 D = 0 ∧ addX x3 0 D = x4 ∧ addX x4 0 (-most) = x5 ∧ (addE x4 0 (-most) = 0 ∨ addE x4 0 (-most) = 2 ∧ getZ x5 0 < most) := by
  unfold most at *
  have s0 := sound_zeros m (by omega)
  have l0 : (List.replicate m (0 : Int)).length = m := by simp
  have z0 := sum_zeros m
  have A1 := add_fits s0 (k := a) (by omega) (d := D) (by rw [zeros_at]; omega) (by omega)
  generalize (List.replicate m (0 : Int)).set a _ = x1 at A1
  have n1 := A1.at_ (by omega)
  rw [zeros_at] at n1
  have A2 := add_fits A1.ok (k := b) (by rw [A1.len]; omega) (d := 9223372036854775807 - D) (by have := at_pos A1.ok.pos b; omega) (by have := A1.sum; omega)
  generalize x1.set b _ = x2 at A2
  have hl2 : x2.length = m := by rw [A2.len, A1.len, l0]
  have hs2 : x2.sum = 9223372036854775807 := by have := A1.sum; have := A2.sum; omega
  have o1 := add_over7 A2.ok (k := a) (by omega) (d := 1) (by omega) (by omega)
  have o2 := add_over7 A2.ok (k := b) (by omega) (d := 9223372036854775807) (by omega) (by omega)
  have o3 := add_out (xs := x2) (k := (m : Int)) (d := 1) (by omega)
  have hpa : D ≤ x2[a]?.getD 0 := by
    by_cases e : a = b
    · subst e; rw [A2.at_ (by rw [A1.len]; omega), n1]; omega
    · rw [A2.other e, n1]; omega
  have A3 := add_fits A2.ok (k := a) (by omega) (d := -D) (by omega) (by omega)
  generalize x2.set a _ = x3 at A3
  have hl3 : x3.length = m := by rw [A3.len, hl2]
  have A4 := add_fits A3.ok (k := 0) (by omega) (d := D) (by have := at_pos A3.ok.pos 0; omega) (by have := A3.sum; omega)
  generalize x3.set 0 _ = x4 at A4
  refine ⟨x1, x2, x3, x4, addX x4 0 (-9223372036854775807), A1.e, A1.x, A2.e, A2.x, hs2, o1.1, o1.2, o2.1, o2.2, o3.1, o3.2, by rw [pre_all x2 (by omega), hs2], ?_, A3.e, A3.x, A4.e, A4.x, rfl, ?_⟩
  · intro j h2 h3
    rw [pre_added A2 (by rw [A1.len]; omega), pre_added A1 (by omega), pre_zeros] at h2 h3
    constructor
    · apply Classical.byContradiction
      intro h
      rw [if_neg (by omega), if_neg (by omega)] at h3
      omega
    · apply Classical.byContradiction
      intro h
      rw [if_pos (by omega), if_pos (by omega)] at h2
      omega
  · have hl4 : x4.length = m := by rw [A4.len, hl3]
    have hp4 := at_pos A4.ok.pos 0
    have hs4 := A4.ok.top
    by_cases h : x4[0]?.getD 0 + -9223372036854775807 < 0
    · have := add_less (xs := x4) (k := 0) (by omega) (d := -9223372036854775807) (by omega) h
      refine .inr ⟨this.1, ?_⟩
      rw [show addX x4 0 (-9223372036854775807) = x4 from this.2]
      unfold getZ
      rw [if_neg (by omega)]
      show x4[0]?.getD 0 < _
      omega
    · exact .inl (add_fits A4.ok (k := 0) (by omega) (d := -9223372036854775807) (by omega) (by have := A4.sum; omega)).e

end Go.Proofs.Ytooppkpaahmnhaa
