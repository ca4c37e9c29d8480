/- Sums that are checked. -/
import Derived.Test.YtooppkpaahmnhaaMak
import Derived.Laws.BitsAllLaws
namespace Go.Proofs.Ytooppkpaahmnhaa
open Go.RowKit Go.Shelf
attribute [local go_sem] Oper.semAt_some

theorem wrap_bv (x : BitVec 64) : IntKind.i64.wrap (x.toNat : Int) = x.toInt := by
  rw [IntKind.wrap_i64, BitVec.toInt_eq_toNat_cond]
  have := x.isLt
  split <;> omega

theorem msb_int (a : Int) (h : -9223372036854775808 ≤ a ∧ a ≤ 9223372036854775807) : (BitVec.ofInt 64 a).msb = decide (a < 0) := by
  rw [BitVec.msb_eq_toInt, BitVec.toInt_ofInt]
  congr 1
  rw [eq_iff_iff]
  rw [Int.bmod_def]
  split <;> omega

theorem bits_i64 (op : BinOp) (a b : Int) : bits op .i64 a b = (match op with
  | .and => (BitVec.ofInt 64 a &&& BitVec.ofInt 64 b).toInt
  | .or => (BitVec.ofInt 64 a ||| BitVec.ofInt 64 b).toInt
  | .xor => (BitVec.ofInt 64 a ^^^ BitVec.ofInt 64 b).toInt
  | .andNot => (BitVec.ofInt 64 a &&& ~~~ BitVec.ofInt 64 b).toInt
  | _ => bits op .i64 a b) := by
  cases op <;> first | rfl | (exact wrap_bv _)

theorem bits_over (a b s : Int) (ha : -9223372036854775808 ≤ a ∧ a ≤ 9223372036854775807) (hb : -9223372036854775808 ≤ b ∧ b ≤ 9223372036854775807) (hs : -9223372036854775808 ≤ s ∧ s ≤ 9223372036854775807) :
    bits .and .i64 (bits .xor .i64 a s) (bits .xor .i64 b s) < 0 ↔ ((a < 0 ↔ 0 ≤ s) ∧ (b < 0 ↔ 0 ≤ s)) := by
  rw [bits_i64 .and, bits_i64 .xor a, bits_i64 .xor b]
  simp only [BitVec.ofInt_toInt]
  have h : ∀ x : BitVec 64, x.toInt < 0 ↔ x.msb = true := fun x => by rw [BitVec.msb_eq_toInt]; simp
  rw [h, BitVec.msb_and, BitVec.msb_xor, BitVec.msb_xor, msb_int a ha, msb_int b hb, msb_int s hs]
  by_cases h1 : a < 0 <;> by_cases h2 : b < 0 <;> by_cases h3 : s < 0 <;> simp [h1, h2, h3] <;> omega

theorem add_over (a b : Int) (ha : -9223372036854775808 ≤ a ∧ a ≤ 9223372036854775807) (hb : -9223372036854775808 ≤ b ∧ b ≤ 9223372036854775807) :
    bits .and .i64 (bits .xor .i64 a (wrap64 (a + b))) (bits .xor .i64 b (wrap64 (a + b))) < 0 ↔ (a + b < -9223372036854775808 ∨ 9223372036854775807 < a + b) := by
  rw [bits_over a b _ ha hb (by unfold wrap64; omega)]
  unfold wrap64
  omega


theorem cadd_ok (a b : Int) (w : World) (ha : -9223372036854775808 ≤ a ∧ a ≤ 9223372036854775807) (hb : -9223372036854775808 ≤ b ∧ b ≤ 9223372036854775807)
    (hs : -9223372036854775808 ≤ a + b ∧ a + b ≤ 9223372036854775807) : Calls Try.prog 35 #[.int .i64 a, .int .i64 b] w fun e w' => e = .returned (.tuple #[.int .i64 (a+b), .int .i64 0]) ∧ w = w' := by
  have h0 : ¬ bits .and .i64 (bits .xor .i64 a (a + b)) (bits .xor .i64 b (a + b)) < 0 := by
    rw [bits_over a b _ ha hb hs]; omega
  go_enter Try.func35, Try.ntmps35
  go_wp2
  go_ret2
  exact ⟨rfl, rfl⟩

theorem cadd_over (a b : Int) (w : World) (ha : -9223372036854775808 ≤ a ∧ a ≤ 9223372036854775807) (hb : -9223372036854775808 ≤ b ∧ b ≤ 9223372036854775807)
    (hs : a + b < -9223372036854775808 ∨ 9223372036854775807 < a + b) : Calls Try.prog 35 #[.int .i64 a, .int .i64 b] w fun e w' => e = .returned (.tuple #[.int .i64 0, .int .i64 7]) ∧ w = w' := by
  have h0 : bits .and .i64 (bits .xor .i64 a (wrap64 (a + b))) (bits .xor .i64 b (wrap64 (a + b))) < 0 := (add_over a b ha hb).2 hs
  clear hs
  go_enter Try.func35, Try.ntmps35
  go_wp2
  go_ret2
  exact ⟨rfl, rfl⟩

end Go.Proofs.Ytooppkpaahmnhaa
