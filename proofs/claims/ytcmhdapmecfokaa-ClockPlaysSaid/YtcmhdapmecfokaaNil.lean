/- The walks of ClockNil and ClockKnown. -/
import Derived.Test.YtcmhdapmecfokaaLiv
import Derived.Test.YtcmhdapmecfokaaBase
namespace Go.Proofs.Ytcmhdapmecfokaa
open Go.RowKit

section
variable (p : Option Addr) (t : Int) (w : World) (hv : Hid (Calls Try.prog 27 #[.pointer p] w fun e w' => e = .returned (.bool false) ∧ w = w'))
include hv
theorem now_nil : Calls Try.prog 16 #[.pointer p] w fun e w' => e = .returned (.int .i64 0) ∧ w = w' := by
  go_enter Try.func16, Try.ntmps16
  go_wp2_with (go_at_call 27; refine hv.out.mono ?_; rintro e w' ⟨rfl, rfl⟩)
  go_ret
  exact ⟨rfl, rfl⟩
theorem window_nil : Calls Try.prog 20 #[.pointer p] w fun e w' => e = .returned (.int .i64 0) ∧ w = w' := by
  go_enter Try.func20, Try.ntmps20
  go_wp2_with (go_at_call 27; refine hv.out.mono ?_; rintro e w' ⟨rfl, rfl⟩)
  go_ret
  exact ⟨rfl, rfl⟩
theorem check_nil : Calls Try.prog 21 #[.pointer p, .int .i64 t] w fun e w' => e = .returned (.int .i64 1) ∧ w = w' := by
  go_enter Try.func21, Try.ntmps21
  go_wp2_with (go_at_call 27; refine hv.out.mono ?_; rintro e w' ⟨rfl, rfl⟩)
  go_ret
  exact ⟨rfl, rfl⟩
theorem advance_nil : Calls Try.prog 13 #[.pointer p, .int .i64 t] w fun e w' => e = .returned (.int .i64 1) ∧ w = w' := by
  go_enter Try.func13, Try.ntmps13
  go_wp2_with (go_at_call 21; refine (check_nil p t _ hv).mono ?_; rintro e w' ⟨rfl, rfl⟩)
  go_ret
  exact ⟨rfl, rfl⟩
theorem expiry_nil : Calls Try.prog 14 #[.pointer p, .int .i64 t] w fun e w' => e = .returned (.tuple #[.int .i64 0, .int .i64 1]) ∧ w = w' := by
  go_enter Try.func14, Try.ntmps14
  go_wp2_with (go_at_call 27; refine hv.out.mono ?_; rintro e w' ⟨rfl, rfl⟩)
  go_ret2
  exact ⟨rfl, rfl⟩
theorem live_nil : Calls Try.prog 15 #[.pointer p, .int .i64 t] w fun e w' => e = .returned (.bool false) ∧ w = w' := by
  go_enter Try.func15, Try.ntmps15
  go_wp2_with (go_at_call 14; refine (expiry_nil p t _ hv).mono ?_; rintro e w' ⟨rfl, rfl⟩)
  go_ret
  exact ⟨rfl, rfl⟩
theorem copy_nil : Calls Try.prog 24 #[.pointer p] w fun e w' => e = .returned (.pointer none) ∧ w = w' := by
  go_enter Try.func24, Try.ntmps24
  go_wp2_with (go_at_call 27; refine hv.out.mono ?_; rintro e w' ⟨rfl, rfl⟩)
  go_ret
  exact ⟨rfl, rfl⟩
end

theorem two_new (w : World) (a b : Obj) : Below w.heap.size w ((w.alloc a).alloc b) := ((Below.refl _ _).alloc (Nat.le_refl _) a).alloc (by simp) b

set_option maxHeartbeats 1000000 in
/-- ClockNil returns true at every input; nothing that existed has changed. -/
theorem nil_walk (w : World) (t : Int) (_w0 : (Lit.int .i64 t).wf = true) : Calls Try.prog 9 #[.int .i64 t] w fun e w' => e = .returned (.bool true) ∧ Below w.heap.size w w' := by
  go_enter Try.func9, Try.ntmps9
  go_wp2_with fail
  have hB := two_new w (.cells #[.int .i64 0, .int .i64 0] 50) (.cells #[.pointer none, .pointer (some ⟨w.heap.size, 0, none⟩)] 22)
  have c0 : ((w.alloc (.cells #[.int .i64 0, .int .i64 0] 50)).alloc (.cells #[.pointer none, .pointer (some ⟨w.heap.size, 0, none⟩)] 22)).cell? ⟨w.heap.size, 0, none⟩ = some (.int .i64 0) := by
    rw [World.cell?_alloc_past _ _ _ (by simp), World.cell?_alloc_at _ _ _ _ rfl]; rfl
  have d0 : ((w.alloc (.cells #[.int .i64 0, .int .i64 0] 50)).alloc (.cells #[.pointer none, .pointer (some ⟨w.heap.size, 0, none⟩)] 22)).cell? ⟨w.heap.size + 1, 0, none⟩ = some (.pointer none) := by
    rw [World.cell?_alloc_at _ _ _ _ (by simp)]; rfl
  have d1 : ((w.alloc (.cells #[.int .i64 0, .int .i64 0] 50)).alloc (.cells #[.pointer none, .pointer (some ⟨w.heap.size, 0, none⟩)] 22)).cell? ⟨w.heap.size + 1, 1, none⟩ = some (.pointer (some ⟨w.heap.size, 0, none⟩)) := by
    rw [World.cell?_alloc_at _ _ _ _ (by simp)]; rfl
  generalize (w.alloc (.cells #[.int .i64 0, .int .i64 0] 50)).alloc (.cells #[.pointer none, .pointer (some ⟨w.heap.size, 0, none⟩)] 22) = W at *
  have H1 := Lib.hid (valid_nil W)
  have H2 := Lib.hid (valid_no w.heap.size W c0)
  clear c0
  go_loop [5] (fun v5 => ∃ k : Nat, k ≤ 2 ∧ v5 = .int .i64 k) (fun v5 => 2 - (intOf v5).toNat)
  case atStart => exact ⟨0, by omega, rfl⟩
  case round =>
    obtain ⟨k, hk, rfl⟩ := hrel
    have hk' : k = 0 ∨ k = 1 ∨ k = 2 := by omega
    rcases hk' with rfl | rfl | rfl
    · have HV := H1
      go_wp2_with fail
      refine (expiry_nil _ t _ HV).mono ?_
      rintro e w' ⟨rfl, rfl⟩
      go_wp2_with fail
      refine (check_nil _ t _ HV).mono ?_
      rintro e w' ⟨rfl, rfl⟩
      go_wp2_with fail
      refine (advance_nil _ t _ HV).mono ?_
      rintro e w' ⟨rfl, rfl⟩
      go_wp2_with fail
      refine (now_nil _ _ HV).mono ?_
      rintro e w' ⟨rfl, rfl⟩
      go_wp2_with fail
      refine (window_nil _ _ HV).mono ?_
      rintro e w' ⟨rfl, rfl⟩
      go_wp2_with fail
      refine (live_nil _ t _ HV).mono ?_
      rintro e w' ⟨rfl, rfl⟩
      go_wp2_with fail
      refine (copy_nil _ _ HV).mono ?_
      rintro e w' ⟨rfl, rfl⟩
      go_wp2
      go_round
      case rel => exact ⟨1, by omega, rfl⟩
      case measure => simp [intOf]
    · have HV := H2
      go_wp2_with fail
      refine (expiry_nil _ t _ HV).mono ?_
      rintro e w' ⟨rfl, rfl⟩
      go_wp2_with fail
      refine (check_nil _ t _ HV).mono ?_
      rintro e w' ⟨rfl, rfl⟩
      go_wp2_with fail
      refine (advance_nil _ t _ HV).mono ?_
      rintro e w' ⟨rfl, rfl⟩
      go_wp2_with fail
      refine (now_nil _ _ HV).mono ?_
      rintro e w' ⟨rfl, rfl⟩
      go_wp2_with fail
      refine (window_nil _ _ HV).mono ?_
      rintro e w' ⟨rfl, rfl⟩
      go_wp2_with fail
      refine (live_nil _ t _ HV).mono ?_
      rintro e w' ⟨rfl, rfl⟩
      go_wp2_with fail
      refine (copy_nil _ _ HV).mono ?_
      rintro e w' ⟨rfl, rfl⟩
      go_wp2
      go_round
      case rel => exact ⟨2, by omega, rfl⟩
      case measure => simp [intOf]
    · go_wp2_with fail
      refine (works_any _).mono ?_
      rintro e w' ⟨rfl, hb⟩
      go_wp2
      go_ret
      exact ⟨rfl, hB.trans (hb.mono hB.size)⟩

end Go.Proofs.Ytcmhdapmecfokaa
