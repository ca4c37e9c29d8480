/- Sums of integers of different signs. -/
import Derived.Test.YtcmhdapmecfokaaRp
import Derived.Deep.RegionWith
namespace Go.Proofs.Ytcmhdapmecfokaa
open Go.RowKit

set_option maxHeartbeats 8000000 in
set_option maxRecDepth 100000 in
theorem plus_lt (s t : Bool) (a b c d : Int) (w : World) (ha : 0 ≤ a ∧ a < 4294967296) (hb : 0 ≤ b ∧ b < 4294967296) (hc : 0 ≤ c ∧ c < 4294967296) (hd : 0 ≤ d ∧ d < 4294967296)
    (h : a + b * 4294967296 < c + d * 4294967296) (hst : (s == t) = false) :
   Calls Try.prog 35 #[Wv s a b 0, Wv t c d 0] w fun e w' => e = .returned (Wv t ((c + 4294967296 - a) % 4294967296) ((d + 4294967296 - b - (1 - (c + 4294967296 - a) / 4294967296)) % 4294967296) 0) ∧ Below w.heap.size w w' := by
  have hB0 : Below w.heap.size w (((w.alloc (.cells #[.bool s, .int .u64 a, .int .u64 b, .int .u64 0, .int .u64 0, .int .u64 0, .int .u64 0] 58)).alloc (.cells #[.bool t, .int .u64 c, .int .u64 d, .int .u64 0, .int .u64 0, .int .u64 0, .int .u64 0] 58)).alloc (.cells #[.bool false, .int .u64 0, .int .u64 0, .int .u64 0, .int .u64 0, .int .u64 0, .int .u64 0] 58)) := bel_alloc (bel_alloc (bel_alloc (Below.refl _ _) _) _) _
  have hz : (((w.alloc (.cells #[.bool s, .int .u64 a, .int .u64 b, .int .u64 0, .int .u64 0, .int .u64 0, .int .u64 0] 58)).alloc (.cells #[.bool t, .int .u64 c, .int .u64 d, .int .u64 0, .int .u64 0, .int .u64 0, .int .u64 0] 58)).alloc (.cells #[.bool false, .int .u64 0, .int .u64 0, .int .u64 0, .int .u64 0, .int .u64 0, .int .u64 0] 58)).heap.size = w.heap.size + 3 := by simp
  have bA : Blk (((w.alloc (.cells #[.bool s, .int .u64 a, .int .u64 b, .int .u64 0, .int .u64 0, .int .u64 0, .int .u64 0] 58)).alloc (.cells #[.bool t, .int .u64 c, .int .u64 d, .int .u64 0, .int .u64 0, .int .u64 0, .int .u64 0] 58)).alloc (.cells #[.bool false, .int .u64 0, .int .u64 0, .int .u64 0, .int .u64 0, .int .u64 0, .int .u64 0] 58)) (w.heap.size) #[.bool s, .int .u64 a, .int .u64 b, .int .u64 0, .int .u64 0, .int .u64 0, .int .u64 0] 58 := ((Blk.new _ _ _).alloc _).alloc _
  have bB : Blk (((w.alloc (.cells #[.bool s, .int .u64 a, .int .u64 b, .int .u64 0, .int .u64 0, .int .u64 0, .int .u64 0] 58)).alloc (.cells #[.bool t, .int .u64 c, .int .u64 d, .int .u64 0, .int .u64 0, .int .u64 0, .int .u64 0] 58)).alloc (.cells #[.bool false, .int .u64 0, .int .u64 0, .int .u64 0, .int .u64 0, .int .u64 0, .int .u64 0] 58)) (w.heap.size + 1) #[.bool t, .int .u64 c, .int .u64 d, .int .u64 0, .int .u64 0, .int .u64 0, .int .u64 0] 58 := by have := (Blk.new (w.alloc (.cells #[.bool s, .int .u64 a, .int .u64 b, .int .u64 0, .int .u64 0, .int .u64 0, .int .u64 0] 58)) #[.bool t, .int .u64 c, .int .u64 d, .int .u64 0, .int .u64 0, .int .u64 0, .int .u64 0] 58).alloc (.cells #[.bool false, .int .u64 0, .int .u64 0, .int .u64 0, .int .u64 0, .int .u64 0, .int .u64 0] 58); simpa using this
  have bR : Blk (((w.alloc (.cells #[.bool s, .int .u64 a, .int .u64 b, .int .u64 0, .int .u64 0, .int .u64 0, .int .u64 0] 58)).alloc (.cells #[.bool t, .int .u64 c, .int .u64 d, .int .u64 0, .int .u64 0, .int .u64 0, .int .u64 0] 58)).alloc (.cells #[.bool false, .int .u64 0, .int .u64 0, .int .u64 0, .int .u64 0, .int .u64 0, .int .u64 0] 58)) (w.heap.size + 1 + 1) #[.bool false, .int .u64 0, .int .u64 0, .int .u64 0, .int .u64 0, .int .u64 0, .int .u64 0] 58 := by have := Blk.new ((w.alloc (.cells #[.bool s, .int .u64 a, .int .u64 b, .int .u64 0, .int .u64 0, .int .u64 0, .int .u64 0] 58)).alloc (.cells #[.bool t, .int .u64 c, .int .u64 d, .int .u64 0, .int .u64 0, .int .u64 0, .int .u64 0] 58)) #[.bool false, .int .u64 0, .int .u64 0, .int .u64 0, .int .u64 0, .int .u64 0, .int .u64 0] 58; simpa using this
  go_enter Try.func35, Try.ntmps35
  go_wp2_with fail
  generalize ((w.alloc (.cells #[.bool s, .int .u64 a, .int .u64 b, .int .u64 0, .int .u64 0, .int .u64 0, .int .u64 0] 58)).alloc (.cells #[.bool t, .int .u64 c, .int .u64 d, .int .u64 0, .int .u64 0, .int .u64 0, .int .u64 0] 58)).alloc (.cells #[.bool false, .int .u64 0, .int .u64 0, .int .u64 0, .int .u64 0, .int .u64 0, .int .u64 0] 58) = W at *
  refine (size_lt a b c d _ h ha hc).mono ?_
  rintro e W2 ⟨rfl, hbs⟩
  replace bA := bA.below hbs (by omega)
  replace bB := bB.below hbs (by omega)
  replace bR := bR.below hbs (by omega)
  replace hB0 := bel_trans hB0 hbs
  have hz2 := hbs.size
  replace hz : w.heap.size + 3 ≤ W2.heap.size := by omega
  clear hbs hz2
  have q0 := bA.cell 0 (v := .bool s) rfl
  have q7 := bB.cell 0 (v := .bool t) rfl
  go_wp2_with fail
  clear q0 q7
  have hS0 : W2.cell? ⟨w.heap.size, 0, none⟩ = some (.bool s) ∧ W2.cell? ⟨w.heap.size, 1, none⟩ = some (.int .u64 a) ∧ W2.cell? ⟨w.heap.size, 2, none⟩ = some (.int .u64 b) ∧ W2.cell? ⟨w.heap.size, 3, none⟩ = some (.int .u64 0) ∧ W2.cell? ⟨w.heap.size, 4, none⟩ = some (.int .u64 0) ∧ W2.cell? ⟨w.heap.size, 5, none⟩ = some (.int .u64 0) ∧ W2.cell? ⟨w.heap.size, 6, none⟩ = some (.int .u64 0) ∧ W2.cell? ⟨w.heap.size + 1, 0, none⟩ = some (.bool t) ∧ W2.cell? ⟨w.heap.size + 1, 1, none⟩ = some (.int .u64 c) ∧ W2.cell? ⟨w.heap.size + 1, 2, none⟩ = some (.int .u64 d) ∧ W2.cell? ⟨w.heap.size + 1, 3, none⟩ = some (.int .u64 0) ∧ W2.cell? ⟨w.heap.size + 1, 4, none⟩ = some (.int .u64 0) ∧ W2.cell? ⟨w.heap.size + 1, 5, none⟩ = some (.int .u64 0) ∧ W2.cell? ⟨w.heap.size + 1, 6, none⟩ = some (.int .u64 0) ∧ W2.cell? ⟨w.heap.size + 1 + 1, 0, none⟩ = some (.bool false) ∧ W2.cell? ⟨w.heap.size + 1 + 1, 1, none⟩ = some (.int .u64 0) ∧ W2.cell? ⟨w.heap.size + 1 + 1, 2, none⟩ = some (.int .u64 0) ∧ W2.cell? ⟨w.heap.size + 1 + 1, 3, none⟩ = some (.int .u64 0) ∧ W2.cell? ⟨w.heap.size + 1 + 1, 4, none⟩ = some (.int .u64 0) ∧ W2.cell? ⟨w.heap.size + 1 + 1, 5, none⟩ = some (.int .u64 0) ∧ W2.cell? ⟨w.heap.size + 1 + 1, 6, none⟩ = some (.int .u64 0) ∧ W2.frozen? ⟨w.heap.size + 1 + 1, 0, none⟩ = false ∧ W2.frozen? ⟨w.heap.size + 1 + 1, 1, none⟩ = false ∧ W2.frozen? ⟨w.heap.size + 1 + 1, 2, none⟩ = false ∧ W2.frozen? ⟨w.heap.size + 1 + 1, 3, none⟩ = false ∧ W2.frozen? ⟨w.heap.size + 1 + 1, 4, none⟩ = false ∧ W2.frozen? ⟨w.heap.size + 1 + 1, 5, none⟩ = false ∧ W2.frozen? ⟨w.heap.size + 1 + 1, 6, none⟩ = false := ⟨bA.cell 0 rfl, bA.cell 1 rfl, bA.cell 2 rfl, bA.cell 3 rfl, bA.cell 4 rfl, bA.cell 5 rfl, bA.cell 6 rfl, bB.cell 0 rfl, bB.cell 1 rfl, bB.cell 2 rfl, bB.cell 3 rfl, bB.cell 4 rfl, bB.cell 5 rfl, bB.cell 6 rfl, bR.cell 0 rfl, bR.cell 1 rfl, bR.cell 2 rfl, bR.cell 3 rfl, bR.cell 4 rfl, bR.cell 5 rfl, bR.cell 6 rfl, bR.frozen 0, bR.frozen 1, bR.frozen 2, bR.frozen 3, bR.frozen 4, bR.frozen 5, bR.frozen 6⟩
  clear bA bB bR
  obtain ⟨q0, q1, q2, q3, q4, q5, q6, q7, q8, q9, q10, q11, q12, q13, q14, q15, q16, q17, q18, q19, q20, q21, q22, q23, q24, q25, q26, q27⟩ := hS0
  go_region_with ((go_at_call 41; refine (less_any c d a b _ hc hd ha hb (by omega)).mono ?_; rintro e w1 ⟨rfl, hbx⟩; obtain ⟨r0, r1, r2, r3, r4, r5, r6, r7, r8, r9, r10, r11, r12, r13, r14, r15, r16, r17, r18, r19, r20, r21, r22, r23, r24, r25, r26, r27⟩ := ps_keep (A := w.heap.size) (B := w.heap.size + 1) (R := w.heap.size + 1 + 1) hbx (by show _ < W2.heap.size; omega) (by show _ < W2.heap.size; omega) (by show _ < W2.heap.size; omega) ⟨q0, q1, q2, q3, q4, q5, q6, q7, q8, q9, q10, q11, q12, q13, q14, q15, q16, q17, q18, q19, q20, q21, q22, q23, q24, q25, q26, q27⟩))
  all_goals go_wp2
  all_goals
    refine bodyPost_ret (v := Wv t ((c + 4294967296 - a) % 4294967296) ((d + 4294967296 - b - (1 - (c + 4294967296 - a) / 4294967296)) % 4294967296) 0) (by simp [results, Try.results35, go_sem, r14, r15, r16, r17, r18, r19, r20]) rfl ⟨rfl, ?_⟩
    have hB1 := bel_trans (bel_drew hB0) hbx
    repeat (first | ((with_reducible refine bel_set ?_ ?_ _); rotate_left 1; (omega)) | (with_reducible exact hB1))

end Go.Proofs.Ytcmhdapmecfokaa
