/- The chapter's examples hold: works returns true, and nothing that existed has changed. -/
import Derived.Test.YtcmhdapmecfokaaClk
namespace Go.Proofs.Ytcmhdapmecfokaa
open Go.RowKit

theorem cell0 (w : World) (s t : Int) : (w.alloc (.cells #[.int .i64 s, .int .i64 t] 50)).cell? ⟨w.heap.size, 0, none⟩ = some (.int .i64 s) := by
  rw [World.cell?_alloc_at _ _ _ _ rfl]; rfl
theorem cell1 (w : World) (s t : Int) : (w.alloc (.cells #[.int .i64 s, .int .i64 t] 50)).cell? ⟨w.heap.size, 1, none⟩ = some (.int .i64 t) := by
  rw [World.cell?_alloc_at _ _ _ _ rfl]; rfl
theorem frz1 (w : World) (s t : Int) : (w.alloc (.cells #[.int .i64 s, .int .i64 t] 50)).frozen? ⟨w.heap.size, 1, none⟩ = false := World.frozen?_alloc_at _ _ _ _ rfl

set_option maxHeartbeats 1000000 in
theorem works_any (w : World) : Calls Try.prog 17 #[] w fun e w' => e = .returned (.bool true) ∧ Below w.heap.size w w' := by
  have e1 : liv 10 0 0 = true := by decide
  have e2 : liv 10 0 (-9) = true := by decide
  have e3 : liv 10 0 (-10) = false := by decide
  have e4 : liv 10 0 1 = false := by decide
  have e5 : (chk 10 0 4 != 0) = false := by decide
  have e6 : (chk 10 4 3 != 0) = true := by decide
  have e7 : chk 10 4 3 = 10 := by decide
  have e8 : chk 10 4 9223372036854775798 = 7 := by decide
  have a0 := cell0 w 10 0
  have a1 := cell1 w 10 0
  have b0 := cell0 w 10 4
  have b1 := cell1 w 10 4
  have f1 := frz1 w 10 0
  go_enter Try.func17, Try.ntmps17
  go_wp2_with fail
  refine (new_yes 10 w (by omega)).mono ?_
  rintro e w' ⟨rfl, rfl⟩
  go_wp2_with fail
  refine (expiry_ok _ 10 (-3) _ (by omega) (by omega) (by omega) a0 (by omega)).mono ?_
  rintro e w' ⟨rfl, rfl⟩
  go_wp2_with fail
  refine (live_any _ 10 0 0 _ (by omega) (by omega) (by omega) a0 a1).mono ?_
  rintro e w' ⟨rfl, rfl⟩
  go_wp2_with fail
  refine (live_any _ 10 0 (-9) _ (by omega) (by omega) (by omega) a0 a1).mono ?_
  rintro e w' ⟨rfl, rfl⟩
  go_wp2_with fail
  refine (live_any _ 10 0 (-10) _ (by omega) (by omega) (by omega) a0 a1).mono ?_
  rintro e w' ⟨rfl, rfl⟩
  go_wp2_with fail
  refine (live_any _ 10 0 1 _ (by omega) (by omega) (by omega) a0 a1).mono ?_
  rintro e w' ⟨rfl, rfl⟩
  go_wp2_with fail
  refine (advance_yes _ 10 0 4 _ (by omega) (by omega) (by omega) a0 a1 e5 f1).mono ?_
  rintro e w' ⟨rfl, rfl⟩
  go_wp2_with fail
  refine (advance_no _ 10 4 3 _ (by omega) (by omega) (by omega) b0 b1 e6).mono ?_
  rintro e w' ⟨rfl, rfl⟩
  go_wp2_with fail
  refine (now_any _ 10 4 _ (by omega) b0 b1).mono ?_
  rintro e w' ⟨rfl, rfl⟩
  go_wp2_with fail
  refine (check_any _ 10 4 9223372036854775798 _ (by omega) (by omega) (by omega) b0 b1).mono ?_
  rintro e w' ⟨rfl, rfl⟩
  go_wp2
  go_ret
  exact ⟨rfl, (Below.refl _ _).alloc (Nat.le_refl _) _⟩

end Go.Proofs.Ytcmhdapmecfokaa
