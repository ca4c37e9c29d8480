/- New counters. -/
import Derived.Test.YtooppkpaahmnhaaFin
import Derived.Laws.MakeOwn
namespace Go.Proofs.Ytooppkpaahmnhaa
open Go.RowKit Go.Shelf
attribute [local go_sem] Oper.semAt_some

theorem make_ints (m : Nat) (hm : m ≤ 70000) (W : World) : (Instr.makeSlice 47 (.int .i64 (m : Int)) (.int .i64 (m : Int))).run Try.prog W = .ok (.slice (some ⟨W.heap.size, 0, none⟩) m m) (W.alloc (.cells (Rw (List.replicate m 0) #[]) 2)) := by
  have hz : (Try.prog.info? 2).map (fun i => (i.zero, i.size, i.bytes)) = some (some (.int .i64 0), 1, 8) := by kernel_rfl
  cases hi : Try.prog.info? 2 with
  | none => rw [hi] at hz; cases hz
  | some i =>
    rw [hi] at hz
    simp only [Option.map_some, Option.some.injEq, Prod.mk.injEq] at hz
    obtain ⟨h1, h2, h3⟩ := hz
    rw [run_make W 47 2 i (.int .i64 0) (by kernel_rfl) hi h1 .i64 .i64 m m (by omega) (by omega) (by rw [h3]; omega) (by omega), h2]
    have hc : madeCells (Value.int .i64 0).cells m = Rw (List.replicate m 0) #[] := by
      apply Array.ext
      · simp [madeCells, Rw]
      · intro j h1 h2
        simp [madeCells, Rw, Value.cells, Nat.mod_one]
    simp [hc]
theorem sum_zeros (n : Nat) : (List.replicate n (0 : Int)).sum = 0 := by
  induction n with
  | zero => rfl
  | succ n ih => rw [List.replicate_succ, List.sum_cons, ih]; rfl
theorem sound_zeros (n : Nat) (h : n ≤ 65536) : Sound (List.replicate n 0) :=
  ⟨by simpa using h, fun x hx => by rw [List.eq_of_mem_replicate hx]; exact Int.le_refl 0, by rw [sum_zeros]; omega⟩
theorem nodes_zeros (n : Nat) : nodes (List.replicate n 0) = List.replicate (n + 1) 0 := by
  have hp : ∀ k, pre (List.replicate n 0) k = 0 := fun k => by rw [pre, List.take_replicate, sum_zeros]
  apply List.ext_getElem
  · simp [nodes]
  · intro k h1 h2
    simp [nodes, node, hp]
theorem tab_new1 (W : World) (n : Nat) (h : n ≤ 65536) : Tab (((W.alloc (.cells (Rw (List.replicate n 0) #[]) 2)).alloc (.cells (Rw (List.replicate (n + 1) 0) #[]) 2)).alloc (.cells #[.bool true, .slice (some ⟨W.heap.size, 0, none⟩) n n, .slice (some ⟨W.heap.size + 1, 0, none⟩) (n + 1) (n + 1), .int .i64 0] 59))
    (W.heap.size + 2) W.heap.size (W.heap.size + 1) (List.replicate n 0) := by
  refine ⟨n, n + 1, #[], #[], ⟨?_, ?_, ?_, by omega, sound_zeros n h⟩⟩
  · rw [sum_zeros, List.length_replicate]
    have := Blk.new ((W.alloc (.cells (Rw (List.replicate n 0) #[]) 2)).alloc (.cells (Rw (List.replicate (n + 1) 0) #[]) 2)) #[.bool true, .slice (some ⟨W.heap.size, 0, none⟩) n n, .slice (some ⟨W.heap.size + 1, 0, none⟩) (n + 1) (n + 1), .int .i64 0] 59
    rwa [World.size_alloc, World.size_alloc] at this
  · exact ((Blk.new W _ 2).alloc _).alloc _
  · rw [nodes_zeros]
    have := (Blk.new (W.alloc (.cells (Rw (List.replicate n 0) #[]) 2)) (Rw (List.replicate (n + 1) 0) #[]) 2)
    rw [World.size_alloc] at this
    exact this.alloc _
theorem tab_new2 (W : World) (n : Nat) (h : n ≤ 65536) : Tab (((W.alloc (.cells (Rw (List.replicate (n + 1) 0) #[]) 2)).alloc (.cells (Rw (List.replicate n 0) #[]) 2)).alloc (.cells #[.bool true, .slice (some ⟨W.heap.size + 1, 0, none⟩) n n, .slice (some ⟨W.heap.size, 0, none⟩) (n + 1) (n + 1), .int .i64 0] 59))
    (W.heap.size + 2) (W.heap.size + 1) W.heap.size (List.replicate n 0) := by
  refine ⟨n, n + 1, #[], #[], ⟨?_, ?_, ?_, by omega, sound_zeros n h⟩⟩
  · rw [sum_zeros, List.length_replicate]
    have := Blk.new ((W.alloc (.cells (Rw (List.replicate (n + 1) 0) #[]) 2)).alloc (.cells (Rw (List.replicate n 0) #[]) 2)) #[.bool true, .slice (some ⟨W.heap.size + 1, 0, none⟩) n n, .slice (some ⟨W.heap.size, 0, none⟩) (n + 1) (n + 1), .int .i64 0] 59
    rwa [World.size_alloc, World.size_alloc] at this
  · have := (Blk.new (W.alloc (.cells (Rw (List.replicate (n + 1) 0) #[]) 2)) (Rw (List.replicate n 0) #[]) 2)
    rw [World.size_alloc] at this
    exact this.alloc _
  · rw [nodes_zeros]; exact ((Blk.new W _ 2).alloc _).alloc _
theorem new_no (n : Int) (w : World) (h : n < 0 ∨ 65536 < n) : Calls Try.prog 17 #[.int .i64 n] w fun e w' => e = .returned (.tuple #[.pointer none, .int .i64 2]) ∧ w = w' := by
  by_cases h0 : n < 0
  · have h0d : decide (n < 0) = true := decide_eq_true h0
    go_enter Try.func17, Try.ntmps17
    go_wp2
    go_ret2
    exact ⟨rfl, rfl⟩
  · have h0d : decide (n < 0) = false := decide_eq_false h0
    have h1d : decide (65536 < n) = true := decide_eq_true (by omega)
    go_enter Try.func17, Try.ntmps17
    go_wp2
    go_ret2
    exact ⟨rfl, rfl⟩

theorem new_yes (n : Nat) (w : World) (h : n ≤ 65536) : Calls Try.prog 17 #[.int .i64 (n : Int)] w fun e w' => (∃ c cb nb, w.heap.size ≤ c ∧ w.heap.size ≤ cb ∧ w.heap.size ≤ nb ∧ Tab w' c cb nb (List.replicate n 0) ∧ e = .returned (.tuple #[.pointer (some ⟨c, 0, none⟩), .int .i64 0])) ∧ Below w.heap.size w w' := by
  have h0d : decide ((n : Int) < 0) = false := decide_eq_false (by omega)
  have h1d : decide (65536 < (n : Int)) = false := decide_eq_false (by omega)
  have hm1 := make_ints n (by omega)
  have hm2 := make_ints (n + 1) (by omega)
  rw [show ((n + 1 : Nat) : Int) = (n : Int) + 1 by omega] at hm2
  have hadd : IntKind.i64.wrap ((n : Int) + 1) = ((n + 1 : Nat) : Int) := by rw [wrap_i64_eq, w64 (by omega) (by omega)]; omega
  go_enter Try.func17, Try.ntmps17
  go_wp2_with fail
  go_region_with (fail)
  all_goals
    go_wp2_with fail
    go_ret2
    refine ⟨⟨w.heap.size + 2, ?_⟩, bel_alloc (bel_alloc (bel_alloc (bel_drew (Below.refl _ _)) _) _) _⟩
    first
      | exact ⟨w.heap.size, w.heap.size + 1, by omega, by omega, by omega, (tab_new1 w n h).bel (bel_drew (Below.refl _ _)), rfl⟩
      | exact ⟨w.heap.size + 1, w.heap.size, by omega, by omega, by omega, (tab_new2 w n h).bel (bel_drew (Below.refl _ _)), rfl⟩
end Go.Proofs.Ytooppkpaahmnhaa
