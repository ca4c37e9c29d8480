/- Plain facts on lowest bits: which nodes of the tree of sums a counter lies in. -/
import Derived.WalkKit
import Derived.Laws.BitsAllLaws
namespace Go.Proofs.Ytooppkpaahmnhaa
open Go.RowKit

/-- the lowest bit of a number -/
def lo (k : Nat) : Nat := if h : k = 0 then 0 else if k % 2 = 1 then 1 else 2 * lo (k / 2)
termination_by k
decreasing_by omega

theorem lo_zero : lo 0 = 0 := by rw [lo, dif_pos rfl]
theorem lo_odd (a : Nat) : lo (2 * a + 1) = 1 := by
  rw [lo, dif_neg (by omega), if_pos (by omega)]
theorem lo_even (a : Nat) (h : 0 < a) : lo (2 * a) = 2 * lo a := by
  rw [lo, dif_neg (by omega), if_neg (by omega), show 2 * a / 2 = a by omega]

theorem halves (k : Nat) : (∃ a, k = 2 * a) ∨ ∃ a, k = 2 * a + 1 := by
  rcases Nat.mod_two_eq_zero_or_one k with h | h
  · exact .inl ⟨k / 2, by omega⟩
  · exact .inr ⟨k / 2, by omega⟩

theorem lo_bounds : ∀ (k : Nat), 0 < k → 0 < lo k ∧ lo k ≤ k := by
  intro k
  induction k using Nat.strongRecOn with
  | ind k ih =>
    intro hk
    rcases halves k with ⟨a, rfl⟩ | ⟨a, rfl⟩
    · have := ih a (by omega) (by omega)
      rw [lo_even a (by omega)]
      omega
    · rw [lo_odd]; omega

/-- node m holds counter number k - 1 -/
def Cov (m k : Nat) : Prop := m - lo m < k ∧ k ≤ m

theorem cov_step : ∀ (k m : Nat), 0 < k → (Cov m k ↔ m = k ∨ Cov m (k + lo k)) := by
  intro k
  induction k using Nat.strongRecOn with
  | ind k ih =>
    intro m hk
    unfold Cov at *
    rcases halves k with ⟨a, rfl⟩ | ⟨a, rfl⟩
    · rw [lo_even a (by omega)]
      rcases halves m with ⟨b, rfl⟩ | ⟨b, rfl⟩
      · by_cases hb : b = 0
        · subst hb; rw [Nat.mul_zero, lo_zero]; omega
        · rw [lo_even b (by omega)]
          have := ih a (by omega) b (by omega)
          omega
      · rw [lo_odd]
        omega
    · rw [lo_odd]
      rcases halves m with ⟨b, rfl⟩ | ⟨b, rfl⟩
      · by_cases hb : b = 0
        · subst hb; rw [Nat.mul_zero, lo_zero]; omega
        · rw [lo_even b (by omega)]
          omega
      · rw [lo_odd]
        omega

theorem cov_self (k : Nat) (hk : 0 < k) : Cov k k := by
  have := lo_bounds k hk
  unfold Cov; omega
theorem cov_next_not (k : Nat) (hk : 0 < k) : ¬ Cov k (k + lo k) := by
  have := lo_bounds k hk
  unfold Cov; omega

theorem land_step (x y : Nat) : x &&& y = 2 * ((x / 2) &&& (y / 2)) + (if x % 2 = 1 ∧ y % 2 = 1 then 1 else 0) := by
  have h1 : (x &&& y) / 2 = (x / 2) &&& (y / 2) := Nat.and_div_two
  have h2 : (x &&& y) % 2 = 1 ↔ x % 2 = 1 ∧ y % 2 = 1 := by
    have := Nat.testBit_and x y 0
    simp only [Nat.testBit_zero] at this
    rw [← decide_eq_true_iff (p := (x &&& y) % 2 = 1), this]
    simp
  rw [← h1]
  split
  · rename_i h; have := h2.2 h; omega
  · rename_i h; have : ¬ (x &&& y) % 2 = 1 := fun e => h (h2.1 e); omega

theorem and_pred : ∀ (k : Nat), 0 < k → k &&& (k - 1) = k - lo k := by
  intro k
  induction k using Nat.strongRecOn with
  | ind k ih =>
    intro hk
    rw [land_step]
    rcases halves k with ⟨a, rfl⟩ | ⟨a, rfl⟩
    · rw [lo_even a (by omega), if_neg (by omega), show 2 * a / 2 = a by omega, show (2 * a - 1) / 2 = a - 1 by omega, ih a (by omega) (by omega)]
      omega
    · rw [lo_odd, if_neg (by omega), show (2 * a + 1) / 2 = a by omega, show (2 * a + 1 - 1) / 2 = a by omega, Nat.and_self]
      omega

theorem and_comp : ∀ (n a : Nat), a < 2 ^ n → a &&& (2 ^ n - 1 - a) = 0 := by
  intro n
  induction n with
  | zero => intro a h; simp at h; subst h; simp
  | succ n ih =>
    intro a h
    have hp : 2 ^ (n + 1) = 2 * 2 ^ n := by rw [Nat.pow_succ]; omega
    rw [hp] at h ⊢
    rw [land_step]
    have := ih (a / 2) (by omega)
    rw [show (2 * 2 ^ n - 1 - a) / 2 = 2 ^ n - 1 - a / 2 by omega, this, if_neg (by omega)]

theorem and_neg : ∀ (n k : Nat), 0 < k → k < 2 ^ n → k &&& (2 ^ n - k) = lo k := by
  intro n
  induction n with
  | zero => intro k h1 h2; simp at h2; omega
  | succ n ih =>
    intro k h1 h2
    have hp : 2 ^ (n + 1) = 2 * 2 ^ n := by rw [Nat.pow_succ]; omega
    rw [hp] at h2 ⊢
    rw [land_step]
    rcases halves k with ⟨a, rfl⟩ | ⟨a, rfl⟩
    · rw [lo_even a (by omega), if_neg (by omega), show 2 * a / 2 = a by omega, show (2 * 2 ^ n - 2 * a) / 2 = 2 ^ n - a by omega, ih a (by omega) (by omega)]
      omega
    · rw [lo_odd, if_pos (by omega), show (2 * a + 1) / 2 = a by omega, show (2 * 2 ^ n - (2 * a + 1)) / 2 = 2 ^ n - 1 - a by omega, and_comp n a (by omega)]

theorem bits_down (k : Nat) (h0 : 0 < k) (h1 : k < 4294967296) : bits .and .i64 (k : Int) ((k : Int) - 1) = ((k - lo k : Nat) : Int) := by
  have hb := lo_bounds k h0
  rw [show ((k : Int) - 1) = ((k - 1 : Nat) : Int) by omega, (bits_nat .i64 63 (by decide) (fun n a b => by rw [IntKind.wrap_i64]; omega) k (k - 1) (by omega) (by omega)).1, and_pred k h0]

theorem bits_low (k : Nat) (h0 : 0 < k) (h1 : k < 4294967296) : bits .and .i64 (k : Int) (-(k : Int)) = ((lo k : Nat) : Int) := by
  have hb := lo_bounds k h0
  have e : bits .and .i64 (k : Int) (-(k : Int)) = IntKind.i64.wrap ((BitVec.ofInt 64 (k : Int) &&& BitVec.ofInt 64 (-(k : Int))).toNat : Int) := rfl
  have e1 : (BitVec.ofInt 64 (k : Int)).toNat = k := by
    rw [BitVec.ofInt_natCast, BitVec.toNat_ofNat, Nat.mod_eq_of_lt (by omega)]
  have e2 : (BitVec.ofInt 64 (-(k : Int))).toNat = 2 ^ 64 - k := by
    rw [BitVec.toNat_ofInt]
    have : (-(k : Int)) % ((2 ^ 64 : Nat) : Int) = ((2 ^ 64 - k : Nat) : Int) := by omega
    rw [this, Int.toNat_natCast]
  rw [e, BitVec.toNat_and, e1, e2, and_neg 64 k h0 (by omega), IntKind.wrap_i64]
  omega

end Go.Proofs.Ytooppkpaahmnhaa
