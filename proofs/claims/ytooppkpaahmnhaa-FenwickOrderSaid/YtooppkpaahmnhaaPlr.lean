/- Plain laws for the order of additions. -/
import Derived.Test.YtooppkpaahmnhaaTwo
import Derived.Test.YtooppkpaahmnhaaMkk
import Derived.Test.YtooppkpaahmnhaaSs
import Derived.Test.YtooppkpaahmnhaaOvr
namespace Go.Proofs.Ytooppkpaahmnhaa
open Go.RowKit Go.Shelf

/-- what the addition number k adds to the counter number j, if it is above 0 -/
def term (m : Nat) (G : Nat → Nat → Int) (j k : Nat) : Int := if 0 < G k 1 ∧ (G k 0 % (m : Int)).toNat = j then G k 1 else 0
def tsum (m : Nat) (G : Nat → Nat → Int) (j : Nat) : Nat → Int
  | 0 => 0
  | k + 1 => tsum m G j k + term m G j k

/-- counters that are sums of given numbers, and not too great -/
structure Cs (m : Nat) (f : Nat → Int) (k : Nat) (xs : List Int) : Prop where
  len : xs.length = m
  at_ : ∀ j, j < m → xs[j]?.getD 0 = f j
  sum : xs.sum ≤ 32767 * (k : Int)
  ok : Sound xs

theorem Cs.new (m : Nat) (hm : m ≤ 65536) : Cs m (fun _ => 0) 0 (List.replicate m 0) :=
  ⟨by simp, fun j _ => zeros_at m j, by rw [sum_zeros]; omega, sound_zeros m hm⟩
theorem Cs.eq {m k l : Nat} {f : Nat → Int} {xs ys : List Int} (h : Cs m f k xs) (h' : Cs m f l ys) : xs = ys := by
  apply List.ext_getElem
  · rw [h.len, h'.len]
  · intro j h1 h2
    have e1 := h.at_ j (by rw [← h.len]; exact h1)
    have e2 := h'.at_ j (by rw [← h.len]; exact h1)
    rw [List.getElem?_eq_getElem h1] at e1
    rw [List.getElem?_eq_getElem h2] at e2
    exact e1.trans e2.symm
theorem Cs.congr {m k : Nat} {f g : Nat → Int} {xs : List Int} (h : Cs m f k xs) (hg : ∀ j, j < m → f j = g j) : Cs m g k xs :=
  ⟨h.len, fun j hj => (h.at_ j hj).trans (hg j hj), h.sum, h.ok⟩
theorem Cs.skip {m k : Nat} {f : Nat → Int} {xs : List Int} (h : Cs m f k xs) : Cs m f (k + 1) xs :=
  ⟨h.len, h.at_, by have := h.sum; omega, h.ok⟩
/-- one addition above 0 -/
theorem Cs.add {m k : Nat} {f : Nat → Int} {xs : List Int} (h : Cs m f k xs) (hk : k ≤ 1000) {i : Nat} (hi : i < m) {d : Int} (h0 : 0 < d) (h1 : d ≤ 32767) :
    addE xs (i : Int) d = 0 ∧ addX xs (i : Int) d = xs.set i (xs[i]?.getD 0 + d) ∧ Cs m (fun j => if i = j then f j + d else f j) (k + 1) (addX xs (i : Int) d) := by
  have hs := h.sum
  have hp := at_pos h.ok.pos i
  have A := add_fits h.ok (k := i) (by rw [h.len]; exact hi) (d := d) (by omega) (by omega)
  refine ⟨A.e, A.x, ?_, ?_, ?_, ?_⟩
  · rw [A.x, List.length_set, h.len]
  · intro j hj
    rw [A.x]
    by_cases e : i = j
    · subst e; rw [if_pos rfl, A.at_ (by rw [h.len]; exact hi), h.at_ i hi]
    · rw [if_neg e, A.other (fun h => e h.symm), h.at_ j hj]
  · rw [A.x, A.sum]; omega
  · rw [A.x]; exact A.ok

/-- one step of the second loop -/
theorem minus_step {xs : List Int} (ok : Sound xs) {i : Nat} (hi : i < xs.length) {d : Int} (h0 : d < 0) :
    (xs[i]?.getD 0 + d < 0 ∧ addE xs (i : Int) d = 2 ∧ addX xs (i : Int) d = xs) ∨
    (0 ≤ xs[i]?.getD 0 + d ∧ addE xs (i : Int) d = 0 ∧ addX xs (i : Int) d = xs.set i (xs[i]?.getD 0 + d) ∧ Sound (xs.set i (xs[i]?.getD 0 + d))) := by
  by_cases h : xs[i]?.getD 0 + d < 0
  · have := add_less hi h0 h
    exact .inl ⟨h, this.1, this.2⟩
  · have ht := ok.top
    have A := add_fits ok hi (d := d) (by omega) (by omega)
    exact .inr ⟨by omega, A.e, A.x, A.ok⟩

end Go.Proofs.Ytooppkpaahmnhaa
