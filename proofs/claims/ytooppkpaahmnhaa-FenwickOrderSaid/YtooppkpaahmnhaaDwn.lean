/- The iterators down and up: their contracts. -/
import Derived.Test.YtooppkpaahmnhaaItr
import Derived.Test.YtooppkpaahmnhaaBit
namespace Go.Proofs.Ytooppkpaahmnhaa
open Go.RowKit Go.Shelf
attribute [local go_sem] Oper.semAt_some

/-- the nodes that make up the first k counters -/
def dpath (k : Nat) : List Nat := if _h : k = 0 then [] else k :: dpath (k - lo k)
termination_by k
decreasing_by have := lo_bounds k (by omega); omega
theorem dpath_zero : dpath 0 = [] := by rw [dpath, dif_pos rfl]
theorem dpath_pos (k : Nat) (h : 0 < k) : dpath k = k :: dpath (k - lo k) := by rw [dpath, dif_neg (by omega)]

def Upto (N : Nat) : Type := { k : Nat // k ≤ N }
def encU {N : Nat} (x : Upto N) : Array Value := #[.int .i64 (x.1 : Int)]

theorem down_any (c : Option Addr) (k : Int) (w : World) : CallsIn Fence.wide 3 Try.prog 28 #[.pointer c, .int .i64 k] w fun e w' => e = .returned (.func (.func 39) #[] #[.pointer (some ⟨w.heap.size, 0, none⟩)]) ∧ w.alloc (.cells #[.int .i64 k] 3) = w' := by
  have hmf : ∀ (fn : Fn) (first cap : Array Value) (w : World), (Instr.makeFunc fn first cap).run Try.prog w = .ok (.func fn first cap) w := fun _ _ _ _ => rfl
  refine callsIn_wide.2 ?_
  go_enter Try.func28, Try.ntmps28
  go_wp2
  go_ret
  exact ⟨rfl, rfl⟩

set_option maxRecDepth 100000 in
set_option maxHeartbeats 2000000 in
theorem down_iter (N B k0 m : Nat) (w : World) (hk0 : k0 ≤ N) (hN : N ≤ 65536) (hm : 1 ≤ m) (hB : Blk w B #[.int .i64 (k0 : Int)] 3) :
    Iter Fence.wide m Try.prog 39 #[.pointer (some ⟨B, 0, none⟩)] (encU (N := N)) (· = B) B (fun xs => xs.map (·.1) = dpath k0) w := by
  intro l J W hW hJ hY h0
  have hB' : Blk W B #[.int .i64 (k0 : Int)] 3 := (hW B rfl).trans hB
  refine callsIn_of_wp Try.func39 rfl trivial ?_ rfl
  simp only [Try.ntmps39, List.size_toArray, List.length_cons, List.length_nil, Nat.reduceAdd, Nat.reduceSub, Array.replicate_succ, Array.replicate_zero, List.push_toArray, List.append_toArray, List.nil_append, List.cons_append]
  gi_wp2
  gi_loopw [] (fun wr => ∃ (pre : List (Upto N)) (k : Nat), Blk wr B #[.int .i64 (k : Int)] 3 ∧ k ≤ N ∧ pre.map (·.1) ++ dpath k = dpath k0 ∧ J pre wr)
    (fun wr => match wr.cell? ⟨B, 0, none⟩ with | some v => (intOf v).toNat | none => 0)
  case atStart => exact ⟨[], k0, hB', hk0, rfl, h0⟩
  case round =>
    obtain ⟨pre, k, hb, hk, hp, hj⟩ := hrel
    have c0 := hb.cell 0 (v := .int .i64 (k : Int)) rfl
    have f0 := hb.frozen 0
    have HB := Lib.hid hb
    have HP := Lib.hid hp
    clear hb hp
    by_cases h : 0 < k
    · obtain ⟨fn, tmps, assign, body, hy, hR⟩ := hY pre ⟨k, hk⟩ wr hj
      dsimp only [encU] at hy
      gi_wp2
      refine hR.mono ?_
      rintro e W3 ⟨rfl, hJ3, hk3⟩
      have hb3 : Blk W3 B #[.int .i64 (k : Int)] 3 := (hk3 B rfl).trans HB.out
      have c3 := hb3.cell 0 (v := .int .i64 (k : Int)) rfl
      have f3 := hb3.frozen 0
      have hbit := bits_down k h (by omega)
      have hlo := lo_bounds k h
      have HB3 := Lib.hid hb3
      clear hb3 hk3
      gi_wp2
      go_roundw
      case rel =>
        refine ⟨pre ++ [⟨k, hk⟩], k - lo k, HB3.out.set 0 _, by omega, ?_, hJ _ _ _ hJ3⟩
        have := HP.out
        rw [dpath_pos k h] at this
        rw [← this, List.map_append, List.append_assoc]
        rfl
      case measure =>
        have e1 := (HB3.out.set 0 (.int .i64 ((k - lo k : Nat) : Int))).cell 0 (v := .int .i64 ((k - lo k : Nat) : Int)) rfl
        rw [e1, c0]
        simp [intOf]
        omega
    · obtain rfl : k = 0 := by omega
      replace c0 : wr.cell? ⟨B, 0, none⟩ = some (.int .i64 0) := c0
      gi_wp2
      refine ⟨fun _ h => (by cases h), ?_⟩
      gi_wp2
      go_end0
      refine ⟨⟨_, rfl⟩, pre, ?_, hj⟩
      have := HP.out
      rw [dpath_zero, List.append_nil] at this
      exact this

/-- the nodes, up to the last one, that hold counter number k - 1 -/
def upath (n k : Nat) : List Nat := if _h : 0 < k ∧ k ≤ n then k :: upath n (k + lo k) else []
termination_by n + 1 - k
decreasing_by have := lo_bounds k (by omega); omega
theorem upath_end (n k : Nat) (h : ¬ (0 < k ∧ k ≤ n)) : upath n k = [] := by rw [upath, dif_neg h]
theorem upath_go (n k : Nat) (h : 0 < k ∧ k ≤ n) : upath n k = k :: upath n (k + lo k) := by rw [upath, dif_pos h]

theorem up_any (c : Option Addr) (k : Int) (w : World) : CallsIn Fence.wide 3 Try.prog 36 #[.pointer c, .int .i64 k] w fun e w' => e = .returned (.func (.func 41) #[] #[.pointer (some ⟨w.heap.size + 1, 0, none⟩), .pointer (some ⟨w.heap.size, 0, none⟩)]) ∧ (w.alloc (.cells #[.pointer c] 24)).alloc (.cells #[.int .i64 k] 3) = w' := by
  have hmf : ∀ (fn : Fn) (first cap : Array Value) (w : World), (Instr.makeFunc fn first cap).run Try.prog w = .ok (.func fn first cap) w := fun _ _ _ _ => rfl
  refine callsIn_wide.2 ?_
  go_enter Try.func36, Try.ntmps36
  go_wp2
  go_ret
  exact ⟨rfl, rfl⟩

set_option maxRecDepth 100000 in
set_option maxHeartbeats 2000000 in
theorem up_iter (N B C c i m : Nat) (hd : Array Value) (nv : Option Addr) (nc : Nat) (w : World) (hi : i < N) (hN : N ≤ 65536) (hm : 1 ≤ m) (hB : Blk w B #[.int .i64 (i : Int)] 3) (hC : Blk w C #[.pointer (some ⟨c, 0, none⟩)] 24) (hc : Blk w c hd 59) (hd2 : hd[2]? = some (.slice nv (N + 1) nc)) (_hne : B ≠ C) (_hne2 : B ≠ c) :
    Iter Fence.wide m Try.prog 41 #[.pointer (some ⟨B, 0, none⟩), .pointer (some ⟨C, 0, none⟩)] (encU (N := N)) (fun b => b = B ∨ b = C ∨ b = c) B (fun xs => xs.map (·.1) = upath N (i + 1)) w := by
  intro l J W hW hJ hY h0
  have hB' : Blk W B #[.int .i64 (i : Int)] 3 := (hW B (.inl rfl)).trans hB
  have hC' : Blk W C #[.pointer (some ⟨c, 0, none⟩)] 24 := (hW C (.inr (.inl rfl))).trans hC
  have hc' : Blk W c hd 59 := (hW c (.inr (.inr rfl))).trans hc
  have b0 := hB'.cell 0 (v := .int .i64 (i : Int)) rfl
  refine callsIn_of_wp Try.func41 rfl trivial ?_ rfl
  simp only [Try.ntmps41, List.size_toArray, List.length_cons, List.length_nil, Nat.reduceAdd, Nat.reduceSub, Array.replicate_succ, Array.replicate_zero, List.push_toArray, List.append_toArray, List.nil_append, List.cons_append]
  gi_wp2
  gi_loopw [4] (fun v4 wr => ∃ (pre : List (Upto N)) (k : Nat), v4 = .int .i64 (k : Int) ∧ Blk wr C #[.pointer (some ⟨c, 0, none⟩)] 24 ∧ Blk wr c hd 59 ∧ 0 < k ∧ k ≤ 2 * N ∧ pre.map (·.1) ++ upath N k = upath N (i + 1) ∧ J pre wr)
    (fun v4 _ => 2 * N + 1 - (intOf v4).toNat)
  case atStart => exact ⟨[], i + 1, by simp, hC', hc', by omega, by omega, rfl, h0⟩
  case round =>
    clear b0
    obtain ⟨pre, k, rfl, hb1, hb2, hk0, hk, hp, hj⟩ := hrel
    have c0 := hb1.cell 0 (v := .pointer (some ⟨c, 0, none⟩)) rfl
    have c2 := hb2.cell 2 hd2
    have HB1 := Lib.hid hb1
    have HB2 := Lib.hid hb2
    have HP := Lib.hid hp
    have hlo := lo_bounds k hk0
    clear hb1 hb2 hp hd2
    by_cases h : k ≤ N
    · obtain ⟨fn, tmps, assign, body, hy, hR⟩ := hY pre ⟨k, h⟩ wr hj
      dsimp only [encU] at hy
      gi_wp2
      refine hR.mono ?_
      rintro e W3 ⟨rfl, hJ3, hk3⟩
      have HB3 := Lib.hid (p := Blk W3 C _ 24) ((hk3 C (.inr (.inl rfl))).trans HB1.out)
      have HB4 := Lib.hid (p := Blk W3 c _ 59) ((hk3 c (.inr (.inr rfl))).trans HB2.out)
      have hbit := bits_low k hk0 (by omega)
      clear hk3
      gi_wp2
      go_roundw
      case rel =>
        refine ⟨pre ++ [⟨k, h⟩], k + lo k, by simp, HB3.out, HB4.out, by omega, by omega, ?_, hJ3⟩
        have := HP.out
        rw [upath_go N k ⟨hk0, h⟩] at this
        rw [← this, List.map_append, List.append_assoc]
        rfl
      case measure => simp [intOf]; omega
    · gi_wp2
      refine ⟨fun _ h => (by cases h), ?_⟩
      gi_wp2
      go_end0
      refine ⟨⟨_, rfl⟩, pre, ?_, hj⟩
      have := HP.out
      rw [upath_end N k (by omega), List.append_nil] at this
      exact this

end Go.Proofs.Ytooppkpaahmnhaa
