/- The contracts of package seepageref01 that the clock's reference reaches: integers of some digits to the base 2^32. -/
import Derived.Test.YtcmhdapmecfokaaBase
import Derived.Deep.QuietTactic
import Derived.BigQuiet
import Derived.Deep.RegionWith
import Derived.StillTailTactics
import Derived.LoopN
namespace Go.Proofs.Ytcmhdapmecfokaa
open Go.RowKit

/-! ### 'Below' from the heap's own size on: the steps of a walk -/
theorem bel_alloc {a w : World} (h : Below a.heap.size a w) (o : Obj) : Below a.heap.size a (w.alloc o) := h.alloc h.size o
theorem bel_drewN {a w : World} (h : Below a.heap.size a w) (n : Nat) : Below a.heap.size a (w.drewN n) := ⟨h.os, h.tape, h.output, h.size, h.block⟩
theorem bel_drew {a w : World} (h : Below a.heap.size a w) : Below a.heap.size a w.drew := ⟨h.os, h.tape, h.output, h.size, h.block⟩
theorem bel_set {a w : World} (h : Below a.heap.size a w) {b i : Nat} (hp : a.heap.size ≤ b) (v : Value) : Below a.heap.size a (w.setCell ⟨b, i, none⟩ v) := h.setCell (p := ⟨b, i, none⟩) hp v
theorem bel_trans {a w w' : World} (h : Below a.heap.size a w) (k : Below w.heap.size w w') : Below a.heap.size a w' := h.trans (k.mono h.size)

/-- an integer's six digits, of which the last three are 0 -/
abbrev Dg (a b c : Int) : Array Value := #[.int .u64 a, .int .u64 b, .int .u64 c, .int .u64 0, .int .u64 0, .int .u64 0]
abbrev Wv (neg : Bool) (a b c : Int) : Value := .agg #[.bool neg, .int .u64 a, .int .u64 b, .int .u64 c, .int .u64 0, .int .u64 0, .int .u64 0]

set_option maxHeartbeats 1000000 in
theorem from_pos (x : Int) (w : World) (h0 : 0 ≤ x) (h1 : x ≤ 9223372036854775807) : Calls Try.prog 36 #[.int .i64 x] w fun e w' => e = .returned (Wv false (x % 4294967296) (x / 4294967296) 0) ∧ Below w.heap.size w w' := by
  go_enter Try.func36, Try.ntmps36
  go_wp2
  have e1 : decide (x < 0) = false := decide_eq_false (by omega)
  refine bodyPost_ret (v := Wv false (x % 4294967296) (x / 4294967296) 0) (by simp [results, Try.results36, go_sem]; omega) rfl ⟨rfl, ?_⟩
  exact ((Below.refl _ _).alloc (Nat.le_refl _) _).alloc (by simp) _

set_option maxHeartbeats 1000000 in
theorem more_any (a b c d : Int) (w : World) (ha : 0 ≤ a ∧ a < 4294967296) (hb : 0 ≤ b ∧ b < 4294967296) (hc : 0 ≤ c ∧ c < 4294967296) (hd : 0 ≤ d ∧ d < 4294967296) :
   Calls Try.prog 39 #[.agg (Dg a b 0), .agg (Dg c d 0)] w fun e w' => e = .returned (.agg (Dg ((a + c) % 4294967296) ((b + d + (a + c) / 4294967296) % 4294967296) ((b + d + (a + c) / 4294967296) / 4294967296))) ∧ Below w.heap.size w w' := by
  go_enter Try.func39, Try.ntmps39
  go_wp2
  refine wp_loop_rounds 7 ?_
  rw [rounds_succ]
  go_wp2
  go_quiet (fail)
  go_wp2
  rw [rounds_succ]
  go_wp2
  go_quiet (fail)
  go_wp2
  rw [rounds_succ]
  go_wp2
  go_quiet (fail)
  go_wp2
  rw [rounds_succ]
  go_wp2
  go_quiet (fail)
  go_wp2
  rw [rounds_succ]
  go_wp2
  go_quiet (fail)
  go_wp2
  rw [rounds_succ]
  go_wp2
  go_quiet (fail)
  go_wp2
  rw [rounds_succ]
  go_wp2
  refine bodyPost_ret (v := .agg #[.int .u64 ((a + c) % 4294967296), .int .u64 ((b + d + (a + c) / 4294967296) % 4294967296), .int .u64 ((b + d + (a + c) / 4294967296) / 4294967296 % 4294967296),
    .int .u64 ((b + d + (a + c) / 4294967296) / 4294967296 / 4294967296 % 4294967296), .int .u64 ((b + d + (a + c) / 4294967296) / 4294967296 / 4294967296 / 4294967296 % 4294967296),
    .int .u64 ((b + d + (a + c) / 4294967296) / 4294967296 / 4294967296 / 4294967296 / 4294967296 % 4294967296)]) (by simp [results, Try.results39, go_sem]) rfl ⟨?_, ?_⟩
  · generalize hX : (b + d + (a + c) / 4294967296) = X
    have h2 : X < 8589934592 := by omega
    have h3 : 0 ≤ X := by omega
    have e1 : X / 4294967296 % 4294967296 = X / 4294967296 := by omega
    have e2 : X / 4294967296 / 4294967296 = 0 := by omega
    rw [e1, e2]
    rfl
  · repeat (first | (with_reducible refine bel_alloc ?_ _) | (with_reducible refine bel_drewN ?_ _) | (with_reducible refine bel_drew ?_) | ((with_reducible refine bel_set ?_ ?_ _); rotate_left 1; (omega)) | (with_reducible exact Below.refl _ _))


/-- the magnitude that two digits tell -/
def mg (a b : Int) : Int := a + b * 4294967296

set_option maxHeartbeats 1000000 in
theorem from_neg (x : Int) (w : World) (h0 : x < 0) (h1 : -9223372036854775808 ≤ x) : Calls Try.prog 36 #[.int .i64 x] w fun e w' => e = .returned (Wv true ((-x) % 4294967296) ((-x) / 4294967296) 0) ∧ Below w.heap.size w w' := by
  go_enter Try.func36, Try.ntmps36
  go_wp2
  refine bodyPost_ret (v := Wv true ((-(x + 1) + 1) % 4294967296) ((-(x + 1) + 1) / 4294967296) 0) (by simp [results, Try.results36, go_sem]) rfl ⟨?_, ?_⟩
  · rw [show -(x + 1) + 1 = -x by omega]
  · exact ((Below.refl _ _).alloc (Nat.le_refl _) _).alloc (by simp) _

set_option maxHeartbeats 2000000 in
theorem less_any (a b c d : Int) (w : World) (ha : 0 ≤ a ∧ a < 4294967296) (hb : 0 ≤ b ∧ b < 4294967296) (hc : 0 ≤ c ∧ c < 4294967296) (hd : 0 ≤ d ∧ d < 4294967296) (hle : c + d * 4294967296 ≤ a + b * 4294967296) :
   Calls Try.prog 41 #[.agg (Dg a b 0), .agg (Dg c d 0)] w fun e w' => e = .returned (.agg (Dg ((a + 4294967296 - c) % 4294967296) ((b + 4294967296 - d - (1 - (a + 4294967296 - c) / 4294967296)) % 4294967296) 0)) ∧ Below w.heap.size w w' := by
  have hX : (b + 4294967296 - d - (1 - (a + 4294967296 - c) / 4294967296)) / 4294967296 = 1 := by omega
  go_enter Try.func41, Try.ntmps41
  go_wp2
  refine wp_loop_rounds 7 ?_
  rw [rounds_succ]
  go_wp2
  go_quiet (fail)
  go_wp2
  rw [rounds_succ]
  go_wp2
  go_quiet (fail)
  go_wp2
  rw [rounds_succ]
  go_wp2
  go_quiet (fail)
  go_wp2
  rw [rounds_succ]
  go_wp2
  go_quiet (fail)
  go_wp2
  rw [rounds_succ]
  go_wp2
  go_quiet (fail)
  go_wp2
  rw [rounds_succ]
  go_wp2
  go_quiet (fail)
  go_wp2
  rw [rounds_succ]
  go_wp2
  refine bodyPost_ret (v := .agg (Dg ((a + 4294967296 - c) % 4294967296) ((b + 4294967296 - d - (1 - (a + 4294967296 - c) / 4294967296)) % 4294967296) 0)) (by simp [results, Try.results41, go_sem]) rfl ⟨rfl, ?_⟩
  repeat (first | (with_reducible refine bel_alloc ?_ _) | (with_reducible refine bel_drewN ?_ _) | (with_reducible refine bel_drew ?_) | ((with_reducible refine bel_set ?_ ?_ _); rotate_left 1; (omega)) | (with_reducible exact Below.refl _ _))


set_option maxHeartbeats 2000000 in
theorem size_lt1 (a b c d : Int) (w : World) (h : b < d) :
   Calls Try.prog 40 #[.agg (Dg a b 0), .agg (Dg c d 0)] w fun e w' => e = .returned (.int .i64 (-1)) ∧ Below w.heap.size w w' := by
  go_enter Try.func40, Try.ntmps40
  go_wp2
  refine wp_loop_rounds 7 ?_
  rw [rounds_succ]
  go_wp2
  go_quiet (fail)
  go_wp2
  go_quiet (fail)
  go_wp2
  rw [rounds_succ]
  go_wp2
  go_quiet (fail)
  go_wp2
  go_quiet (fail)
  go_wp2
  rw [rounds_succ]
  go_wp2
  go_quiet (fail)
  go_wp2
  go_quiet (fail)
  go_wp2
  rw [rounds_succ]
  go_wp2
  go_quiet (fail)
  go_wp2
  go_quiet (fail)
  go_wp2
  rw [rounds_succ]
  go_wp2
  go_quiet (fail)
  go_wp2
  go_ret
  refine ⟨rfl, ?_⟩
  repeat (first | (with_reducible refine bel_alloc ?_ _) | (with_reducible refine bel_drewN ?_ _) | (with_reducible refine bel_drew ?_) | ((with_reducible refine bel_set ?_ ?_ _); rotate_left 1; (omega)) | (with_reducible exact Below.refl _ _))

set_option maxHeartbeats 2000000 in
theorem size_gt1 (a b c d : Int) (w : World) (h : d < b) :
   Calls Try.prog 40 #[.agg (Dg a b 0), .agg (Dg c d 0)] w fun e w' => e = .returned (.int .i64 (1)) ∧ Below w.heap.size w w' := by
  go_enter Try.func40, Try.ntmps40
  go_wp2
  refine wp_loop_rounds 7 ?_
  rw [rounds_succ]
  go_wp2
  go_quiet (fail)
  go_wp2
  go_quiet (fail)
  go_wp2
  rw [rounds_succ]
  go_wp2
  go_quiet (fail)
  go_wp2
  go_quiet (fail)
  go_wp2
  rw [rounds_succ]
  go_wp2
  go_quiet (fail)
  go_wp2
  go_quiet (fail)
  go_wp2
  rw [rounds_succ]
  go_wp2
  go_quiet (fail)
  go_wp2
  go_quiet (fail)
  go_wp2
  rw [rounds_succ]
  go_wp2
  go_quiet (fail)
  go_wp2
  go_quiet (fail)
  go_wp2
  go_ret
  refine ⟨rfl, ?_⟩
  repeat (first | (with_reducible refine bel_alloc ?_ _) | (with_reducible refine bel_drewN ?_ _) | (with_reducible refine bel_drew ?_) | ((with_reducible refine bel_set ?_ ?_ _); rotate_left 1; (omega)) | (with_reducible exact Below.refl _ _))

set_option maxHeartbeats 2000000 in
theorem size_lt0 (a b c d : Int) (w : World) (h : a < c) (h0 : ¬ b < d) (h1 : ¬ d < b) :
   Calls Try.prog 40 #[.agg (Dg a b 0), .agg (Dg c d 0)] w fun e w' => e = .returned (.int .i64 (-1)) ∧ Below w.heap.size w w' := by
  go_enter Try.func40, Try.ntmps40
  go_wp2
  refine wp_loop_rounds 7 ?_
  rw [rounds_succ]
  go_wp2
  go_quiet (fail)
  go_wp2
  go_quiet (fail)
  go_wp2
  rw [rounds_succ]
  go_wp2
  go_quiet (fail)
  go_wp2
  go_quiet (fail)
  go_wp2
  rw [rounds_succ]
  go_wp2
  go_quiet (fail)
  go_wp2
  go_quiet (fail)
  go_wp2
  rw [rounds_succ]
  go_wp2
  go_quiet (fail)
  go_wp2
  go_quiet (fail)
  go_wp2
  rw [rounds_succ]
  go_wp2
  go_quiet (fail)
  go_wp2
  go_quiet (fail)
  go_wp2
  rw [rounds_succ]
  go_wp2
  go_quiet (fail)
  go_wp2
  go_ret
  refine ⟨rfl, ?_⟩
  repeat (first | (with_reducible refine bel_alloc ?_ _) | (with_reducible refine bel_drewN ?_ _) | (with_reducible refine bel_drew ?_) | ((with_reducible refine bel_set ?_ ?_ _); rotate_left 1; (omega)) | (with_reducible exact Below.refl _ _))

set_option maxHeartbeats 2000000 in
theorem size_gt0 (a b c d : Int) (w : World) (h : c < a) (h0 : ¬ b < d) (h1 : ¬ d < b) :
   Calls Try.prog 40 #[.agg (Dg a b 0), .agg (Dg c d 0)] w fun e w' => e = .returned (.int .i64 (1)) ∧ Below w.heap.size w w' := by
  go_enter Try.func40, Try.ntmps40
  go_wp2
  refine wp_loop_rounds 7 ?_
  rw [rounds_succ]
  go_wp2
  go_quiet (fail)
  go_wp2
  go_quiet (fail)
  go_wp2
  rw [rounds_succ]
  go_wp2
  go_quiet (fail)
  go_wp2
  go_quiet (fail)
  go_wp2
  rw [rounds_succ]
  go_wp2
  go_quiet (fail)
  go_wp2
  go_quiet (fail)
  go_wp2
  rw [rounds_succ]
  go_wp2
  go_quiet (fail)
  go_wp2
  go_quiet (fail)
  go_wp2
  rw [rounds_succ]
  go_wp2
  go_quiet (fail)
  go_wp2
  go_quiet (fail)
  go_wp2
  rw [rounds_succ]
  go_wp2
  go_quiet (fail)
  go_wp2
  go_quiet (fail)
  go_wp2
  go_ret
  refine ⟨rfl, ?_⟩
  repeat (first | (with_reducible refine bel_alloc ?_ _) | (with_reducible refine bel_drewN ?_ _) | (with_reducible refine bel_drew ?_) | ((with_reducible refine bel_set ?_ ?_ _); rotate_left 1; (omega)) | (with_reducible exact Below.refl _ _))

set_option maxHeartbeats 2000000 in
theorem size_eq (a b c d : Int) (w : World) (h : ¬ a < c) (h2 : ¬ c < a) (h0 : ¬ b < d) (h1 : ¬ d < b) :
   Calls Try.prog 40 #[.agg (Dg a b 0), .agg (Dg c d 0)] w fun e w' => e = .returned (.int .i64 (0)) ∧ Below w.heap.size w w' := by
  go_enter Try.func40, Try.ntmps40
  go_wp2
  refine wp_loop_rounds 7 ?_
  rw [rounds_succ]
  go_wp2
  go_quiet (fail)
  go_wp2
  go_quiet (fail)
  go_wp2
  rw [rounds_succ]
  go_wp2
  go_quiet (fail)
  go_wp2
  go_quiet (fail)
  go_wp2
  rw [rounds_succ]
  go_wp2
  go_quiet (fail)
  go_wp2
  go_quiet (fail)
  go_wp2
  rw [rounds_succ]
  go_wp2
  go_quiet (fail)
  go_wp2
  go_quiet (fail)
  go_wp2
  rw [rounds_succ]
  go_wp2
  go_quiet (fail)
  go_wp2
  go_quiet (fail)
  go_wp2
  rw [rounds_succ]
  go_wp2
  go_quiet (fail)
  go_wp2
  go_quiet (fail)
  go_wp2
  rw [rounds_succ]
  go_wp2
  go_ret
  refine ⟨rfl, ?_⟩
  repeat (first | (with_reducible refine bel_alloc ?_ _) | (with_reducible refine bel_drewN ?_ _) | (with_reducible refine bel_drew ?_) | ((with_reducible refine bel_set ?_ ?_ _); rotate_left 1; (omega)) | (with_reducible exact Below.refl _ _))

end Go.Proofs.Ytcmhdapmecfokaa
