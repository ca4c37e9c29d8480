/- The contracts of the functions of package clock (plain facts on bits first). -/
import Derived.Test.YtcmhdapmecfokaaRows
import Derived.WalkKit
import Derived.WalkSpells
import Derived.WalkLawsBesides
import Derived.Lib.Hide
import Derived.Laws.BitsAllLaws
namespace Go.Proofs.Ytcmhdapmecfokaa
open Go.RowKit

theorem wrap_bv (x : BitVec 64) : IntKind.i64.wrap (x.toNat : Int) = x.toInt := by
  rw [IntKind.wrap_i64, BitVec.toInt_eq_toNat_cond]
  have := x.isLt
  split <;> omega

theorem msb_int (a : Int) (h : -9223372036854775808 ≤ a ∧ a ≤ 9223372036854775807) : (BitVec.ofInt 64 a).msb = decide (a < 0) := by
  rw [BitVec.msb_eq_toInt, BitVec.toInt_ofInt]
  congr 1
  rw [eq_iff_iff]
  rw [Int.bmod_def]
  split <;> omega

theorem bits_i64 (op : BinOp) (a b : Int) : bits op .i64 a b = (match op with
  | .and => (BitVec.ofInt 64 a &&& BitVec.ofInt 64 b).toInt
  | .or => (BitVec.ofInt 64 a ||| BitVec.ofInt 64 b).toInt
  | .xor => (BitVec.ofInt 64 a ^^^ BitVec.ofInt 64 b).toInt
  | .andNot => (BitVec.ofInt 64 a &&& ~~~ BitVec.ofInt 64 b).toInt
  | _ => bits op .i64 a b) := by
  cases op <;> first | rfl | (exact wrap_bv _)

theorem bits_over (a b s : Int) (ha : -9223372036854775808 ≤ a ∧ a ≤ 9223372036854775807) (hb : -9223372036854775808 ≤ b ∧ b ≤ 9223372036854775807) (hs : -9223372036854775808 ≤ s ∧ s ≤ 9223372036854775807) :
    bits .and .i64 (bits .xor .i64 a s) (bits .xor .i64 b s) < 0 ↔ ((a < 0 ↔ 0 ≤ s) ∧ (b < 0 ↔ 0 ≤ s)) := by
  rw [bits_i64 .and, bits_i64 .xor a, bits_i64 .xor b]
  simp only [BitVec.ofInt_toInt]
  have h : ∀ x : BitVec 64, x.toInt < 0 ↔ x.msb = true := fun x => by rw [BitVec.msb_eq_toInt]; simp
  rw [h, BitVec.msb_and, BitVec.msb_xor, BitVec.msb_xor, msb_int a ha, msb_int b hb, msb_int s hs]
  by_cases h1 : a < 0 <;> by_cases h2 : b < 0 <;> by_cases h3 : s < 0 <;> simp [h1, h2, h3] <;> omega

theorem add_over (a b : Int) (ha : -9223372036854775808 ≤ a ∧ a ≤ 9223372036854775807) (hb : -9223372036854775808 ≤ b ∧ b ≤ 9223372036854775807) :
    bits .and .i64 (bits .xor .i64 a (wrap64 (a + b))) (bits .xor .i64 b (wrap64 (a + b))) < 0 ↔ (a + b < -9223372036854775808 ∨ 9223372036854775807 < a + b) := by
  rw [bits_over a b _ ha hb (by unfold wrap64; omega)]
  unfold wrap64
  omega


/-- what Check answers -/
def chk (s now to : Int) : Int := if to < now then 10 else if 9223372036854775807 < to + s then 7 else 0
/-- whether an edge is live -/
def liv (s now t : Int) : Bool := decide (t + s ≤ 9223372036854775807 ∧ t ≤ now ∧ now < t + s)

theorem ret_int {k : IntKind} {a b : Int} (h : a = b) : Ending.returned (.int k a) = .returned (.int k b) := by rw [h]
theorem ret_bool {a b : Bool} (h : a = b) : Ending.returned (.bool a) = .returned (.bool b) := by rw [h]
abbrev In64 (a : Int) : Prop := -9223372036854775808 ≤ a ∧ a ≤ 9223372036854775807

theorem cadd_ok (a b : Int) (w : World) (ha : -9223372036854775808 ≤ a ∧ a ≤ 9223372036854775807) (hb : -9223372036854775808 ≤ b ∧ b ≤ 9223372036854775807)
    (hs : -9223372036854775808 ≤ a + b ∧ a + b ≤ 9223372036854775807) : Calls Try.prog 34 #[.int .i64 a, .int .i64 b] w fun e w' => e = .returned (.tuple #[.int .i64 (a+b), .int .i64 0]) ∧ w = w' := by
  have h0 : ¬ bits .and .i64 (bits .xor .i64 a (a + b)) (bits .xor .i64 b (a + b)) < 0 := by
    rw [bits_over a b _ ha hb hs]; omega
  go_enter Try.func34, Try.ntmps34
  go_wp2
  go_ret2
  exact ⟨rfl, rfl⟩

theorem cadd_over (a b : Int) (w : World) (ha : -9223372036854775808 ≤ a ∧ a ≤ 9223372036854775807) (hb : -9223372036854775808 ≤ b ∧ b ≤ 9223372036854775807)
    (hs : a + b < -9223372036854775808 ∨ 9223372036854775807 < a + b) : Calls Try.prog 34 #[.int .i64 a, .int .i64 b] w fun e w' => e = .returned (.tuple #[.int .i64 0, .int .i64 7]) ∧ w = w' := by
  have h0 : bits .and .i64 (bits .xor .i64 a (wrap64 (a + b))) (bits .xor .i64 b (wrap64 (a + b))) < 0 := (add_over a b ha hb).2 hs
  clear hs
  go_enter Try.func34, Try.ntmps34
  go_wp2
  go_ret2
  exact ⟨rfl, rfl⟩

theorem valid_nil (w : World) : Calls Try.prog 27 #[.pointer none] w fun e w' => e = .returned (.bool false) ∧ w = w' := by
  go_enter Try.func27, Try.ntmps27
  go_wp2
  go_ret
  exact ⟨rfl, rfl⟩

theorem valid_yes (b : Nat) (s : Int) (w : World) (hs : 0 < s) (h : w.cell? ⟨b, 0, none⟩ = some (.int .i64 s)) : Calls Try.prog 27 #[.pointer (some ⟨b, 0, none⟩)] w fun e w' => e = .returned (.bool true) ∧ w = w' := by
  go_enter Try.func27, Try.ntmps27
  go_wp2
  go_ret
  exact ⟨by simp, rfl⟩

theorem valid_no (b : Nat) (w : World) (h : w.cell? ⟨b, 0, none⟩ = some (.int .i64 0)) : Calls Try.prog 27 #[.pointer (some ⟨b, 0, none⟩)] w fun e w' => e = .returned (.bool false) ∧ w = w' := by
  go_enter Try.func27, Try.ntmps27
  go_wp2
  go_ret
  exact ⟨rfl, rfl⟩

theorem new_no (s : Int) (w : World) (hs : s < 1) : Calls Try.prog 11 #[.int .i64 s] w fun e w' => e = .returned (.tuple #[.pointer none, .int .i64 2]) ∧ w = w' := by
  go_enter Try.func11, Try.ntmps11
  go_wp2
  go_ret2
  exact ⟨rfl, rfl⟩

theorem new_yes (s : Int) (w : World) (hs : ¬ s < 1) : Calls Try.prog 11 #[.int .i64 s] w fun e w' => e = .returned (.tuple #[.pointer (some ⟨w.heap.size, 0, none⟩), .int .i64 0]) ∧ w.alloc (.cells #[.int .i64 s, .int .i64 0] 50) = w' := by
  go_enter Try.func11, Try.ntmps11
  go_wp2
  go_ret2
  exact ⟨rfl, rfl⟩

section
variable (b : Nat) (s now t : Int) (w : World) (hs : 0 < s) (hs' : s ≤ 9223372036854775807) (ht : -9223372036854775808 ≤ t ∧ t ≤ 9223372036854775807)
  (c0 : w.cell? ⟨b, 0, none⟩ = some (.int .i64 s)) (c1 : w.cell? ⟨b, 1, none⟩ = some (.int .i64 now))

include hs hs' ht in
theorem end_ok (h : t + s ≤ 9223372036854775807) : Calls Try.prog 28 #[.int .i64 s, .int .i64 t] w fun e w' => e = .returned (.tuple #[.int .i64 (t + s), .int .i64 0]) ∧ w = w' := by
  go_enter Try.func28, Try.ntmps28
  go_wp2_with (go_at_call 34; refine (cadd_ok _ _ _ ht (by omega) (by omega)).mono ?_; rintro e w' ⟨rfl, rfl⟩)
  go_ret2
  exact ⟨rfl, rfl⟩

include hs hs' ht in
theorem end_over (h : 9223372036854775807 < t + s) : Calls Try.prog 28 #[.int .i64 s, .int .i64 t] w fun e w' => e = .returned (.tuple #[.int .i64 0, .int .i64 7]) ∧ w = w' := by
  go_enter Try.func28, Try.ntmps28
  go_wp2_with (go_at_call 34; refine (cadd_over _ _ _ ht (by omega) (by omega)).mono ?_; rintro e w' ⟨rfl, rfl⟩)
  go_ret2
  exact ⟨rfl, rfl⟩

include hs c0 c1 in
theorem now_any : Calls Try.prog 16 #[.pointer (some ⟨b, 0, none⟩)] w fun e w' => e = .returned (.int .i64 now) ∧ w = w' := by
  go_enter Try.func16, Try.ntmps16
  go_wp2_with (go_at_call 27; refine (valid_yes _ _ _ hs c0).mono ?_; rintro e w' ⟨rfl, rfl⟩)
  go_ret
  exact ⟨rfl, rfl⟩

include hs c0 in
theorem window_any : Calls Try.prog 20 #[.pointer (some ⟨b, 0, none⟩)] w fun e w' => e = .returned (.int .i64 s) ∧ w = w' := by
  go_enter Try.func20, Try.ntmps20
  go_wp2_with (go_at_call 27; refine (valid_yes _ _ _ hs c0).mono ?_; rintro e w' ⟨rfl, rfl⟩)
  go_ret
  exact ⟨rfl, rfl⟩

include hs hs' ht c0 c1 in
theorem check_any : Calls Try.prog 21 #[.pointer (some ⟨b, 0, none⟩), .int .i64 t] w fun e w' => e = .returned (.int .i64 (chk s now t)) ∧ w = w' := by
  by_cases h1 : t < now
  · go_enter Try.func21, Try.ntmps21
    go_wp2_with (go_at_call 27; refine (valid_yes _ _ _ hs c0).mono ?_; rintro e w' ⟨rfl, rfl⟩)
    go_ret
    exact ⟨ret_int (show 10 = chk s now t by rw [chk, if_pos h1]), rfl⟩
  · by_cases h2 : 9223372036854775807 < t + s
    · go_enter Try.func21, Try.ntmps21
      go_wp2_with (first | (go_at_call 27; refine (valid_yes _ _ _ hs c0).mono ?_; rintro e w' ⟨rfl, rfl⟩) | (go_at_call 28; refine (end_over _ _ _ hs hs' ht h2).mono ?_; rintro e w' ⟨rfl, rfl⟩))
      go_ret
      exact ⟨ret_int (show 7 = chk s now t by rw [chk, if_neg (by omega), if_pos h2]), rfl⟩
    · go_enter Try.func21, Try.ntmps21
      go_wp2_with (first | (go_at_call 27; refine (valid_yes _ _ _ hs c0).mono ?_; rintro e w' ⟨rfl, rfl⟩) | (go_at_call 28; refine (end_ok _ _ _ hs hs' ht (by omega)).mono ?_; rintro e w' ⟨rfl, rfl⟩))
      go_ret
      exact ⟨ret_int (show 0 = chk s now t by rw [chk, if_neg (by omega), if_neg (by omega)]), rfl⟩

include hs hs' ht c0 c1 in
theorem advance_no (h : (chk s now t != 0) = true) : Calls Try.prog 13 #[.pointer (some ⟨b, 0, none⟩), .int .i64 t] w fun e w' => e = .returned (.int .i64 (chk s now t)) ∧ w = w' := by
  go_enter Try.func13, Try.ntmps13
  go_wp2_with (go_at_call 21; refine (check_any _ _ _ _ _ hs hs' ht c0 c1).mono ?_; rintro e w' ⟨rfl, rfl⟩)
  go_ret
  exact ⟨rfl, rfl⟩

include hs hs' ht c0 c1 in
theorem advance_yes (h : (chk s now t != 0) = false) (hf : w.frozen? ⟨b, 1, none⟩ = false) : Calls Try.prog 13 #[.pointer (some ⟨b, 0, none⟩), .int .i64 t] w fun e w' => e = .returned (.int .i64 0) ∧ w.setCell ⟨b, 1, none⟩ (.int .i64 t) = w' := by
  go_enter Try.func13, Try.ntmps13
  go_wp2_with (go_at_call 21; refine (check_any _ _ _ _ _ hs hs' ht c0 c1).mono ?_; rintro e w' ⟨rfl, rfl⟩)
  go_ret
  exact ⟨rfl, rfl⟩

include hs hs' ht c0 in
theorem expiry_ok (h : t + s ≤ 9223372036854775807) : Calls Try.prog 14 #[.pointer (some ⟨b, 0, none⟩), .int .i64 t] w fun e w' => e = .returned (.tuple #[.int .i64 (t + s), .int .i64 0]) ∧ w = w' := by
  go_enter Try.func14, Try.ntmps14
  go_wp2_with (first | (go_at_call 27; refine (valid_yes _ _ _ hs c0).mono ?_; rintro e w' ⟨rfl, rfl⟩) | (go_at_call 28; refine (end_ok _ _ _ hs hs' ht h).mono ?_; rintro e w' ⟨rfl, rfl⟩))
  go_ret2
  exact ⟨rfl, rfl⟩

include hs hs' ht c0 in
theorem expiry_over (h : 9223372036854775807 < t + s) : Calls Try.prog 14 #[.pointer (some ⟨b, 0, none⟩), .int .i64 t] w fun e w' => e = .returned (.tuple #[.int .i64 0, .int .i64 7]) ∧ w = w' := by
  go_enter Try.func14, Try.ntmps14
  go_wp2_with (first | (go_at_call 27; refine (valid_yes _ _ _ hs c0).mono ?_; rintro e w' ⟨rfl, rfl⟩) | (go_at_call 28; refine (end_over _ _ _ hs hs' ht h).mono ?_; rintro e w' ⟨rfl, rfl⟩))
  go_ret2
  exact ⟨rfl, rfl⟩

include hs hs' ht c0 c1 in
theorem live_any : Calls Try.prog 15 #[.pointer (some ⟨b, 0, none⟩), .int .i64 t] w fun e w' => e = .returned (.bool (liv s now t)) ∧ w = w' := by
  by_cases h1 : 9223372036854775807 < t + s
  · go_enter Try.func15, Try.ntmps15
    go_wp2_with (go_at_call 14; refine (expiry_over _ _ _ _ hs hs' ht c0 h1).mono ?_; rintro e w' ⟨rfl, rfl⟩)
    go_ret
    exact ⟨ret_bool (show false = liv s now t by rw [liv, decide_eq_false (by omega)]), rfl⟩
  · by_cases h2 : t ≤ now
    · go_enter Try.func15, Try.ntmps15
      go_wp2_with (go_at_call 14; refine (expiry_ok _ _ _ _ hs hs' ht c0 (by omega)).mono ?_; rintro e w' ⟨rfl, rfl⟩)
      go_ret
      exact ⟨ret_bool (show decide (now < t + s) = liv s now t by rw [liv, decide_eq_decide]; omega), rfl⟩
    · go_enter Try.func15, Try.ntmps15
      go_wp2_with (go_at_call 14; refine (expiry_ok _ _ _ _ hs hs' ht c0 (by omega)).mono ?_; rintro e w' ⟨rfl, rfl⟩)
      go_ret
      exact ⟨ret_bool (show false = liv s now t by rw [liv, decide_eq_false (by omega)]), rfl⟩

include hs c0 c1 in
theorem copy_yes : Calls Try.prog 24 #[.pointer (some ⟨b, 0, none⟩)] w fun e w' => e = .returned (.pointer (some ⟨w.heap.size, 0, none⟩)) ∧ w.alloc (.cells #[.int .i64 s, .int .i64 now] 50) = w' := by
  go_enter Try.func24, Try.ntmps24
  go_wp2_with (go_at_call 27; refine (valid_yes _ _ _ hs c0).mono ?_; rintro e w' ⟨rfl, rfl⟩)
  go_ret
  exact ⟨rfl, rfl⟩

end

end Go.Proofs.Ytcmhdapmecfokaa
