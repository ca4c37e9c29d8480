/- Slices of whole numbers that the call makes. -/
import Derived.Test.YtooppkpaahmnhaaFds
namespace Go.Proofs.Ytooppkpaahmnhaa
open Go.RowKit Go.Shelf

/-- a row of numbers of some kind, and nothing behind it -/
def RwK (k : IntKind) (l : List Int) : Array Value := (l.map (Value.int k)).toArray
theorem RwK.at {k : IntKind} {l : List Int} {j : Nat} (h : j < l.length) : (RwK k l)[j]? = some (.int k (l[j]?.getD 0)) := by
  unfold RwK; simp [h]
theorem RwK.set {k : IntKind} {l : List Int} {j : Nat} (v : Int) : (RwK k l).setIfInBounds j (.int k v) = RwK k (l.set j v) := by
  unfold RwK
  apply Array.ext_getElem?
  intro i
  by_cases hj : i = j
  · subst hj
    by_cases hl : i < l.length
    · rw [Array.getElem?_setIfInBounds_self_of_lt (by simpa using hl)]
      simp [hl]
    · rw [Array.getElem?_eq_none (by simpa using hl), Array.getElem?_eq_none (by simpa using hl)]
  · rw [Array.getElem?_setIfInBounds_ne (fun e => hj e.symm)]
    simp [List.getElem?_set_ne (fun e => hj e.symm), List.getElem?_map]

theorem make_k (t e bytes : Nat) (k : IntKind) (hu : Try.prog.underlying t = some (.slice e)) (hz : (Try.prog.info? e).map (fun i => (i.zero, i.size, i.bytes)) = some (some (.int k 0), 1, bytes)) (hb : bytes ≤ 8) (m : Nat) (hm : m ≤ 70000) (W : World) :
    (Instr.makeSlice t (.int .i64 (m : Int)) (.int .i64 (m : Int))).run Try.prog W = .ok (.slice (some ⟨W.heap.size, 0, none⟩) m m) (W.alloc (.cells (RwK k (List.replicate m 0)) e)) := by
  cases hi : Try.prog.info? e with
  | none => rw [hi] at hz; cases hz
  | some i =>
    rw [hi] at hz
    simp only [Option.map_some, Option.some.injEq, Prod.mk.injEq] at hz
    obtain ⟨h1, h2, h3⟩ := hz
    have hbm : bytes * m ≤ 8 * 70000 := Nat.mul_le_mul hb hm
    have hbz : (bytes : Int) * (m : Int) ≤ 281474976710656 := by
      have e : ((bytes : Int) * (m : Int)) = ((bytes * m : Nat) : Int) := by simp
      rw [e]; omega
    rw [run_make W t e i (.int k 0) hu hi h1 .i64 .i64 m m (by omega) (by omega) (by rw [h3]; exact hbz) (by omega), h2]
    have hc : madeCells (Value.int k 0).cells m = RwK k (List.replicate m 0) := by
      apply Array.ext
      · simp [madeCells, RwK]
      · intro j h1 h2
        simp [madeCells, RwK, Value.cells, Nat.mod_one]
    simp [hc]
theorem make_u16 (m : Nat) (hm : m ≤ 70000) (W : World) : (Instr.makeSlice 22 (.int .i64 (m : Int)) (.int .i64 (m : Int))).run Try.prog W = .ok (.slice (some ⟨W.heap.size, 0, none⟩) m m) (W.alloc (.cells (RwK .u16 (List.replicate m 0)) 26)) :=
  make_k 22 26 2 .u16 (by kernel_rfl) (by kernel_rfl) (by omega) m hm W
theorem make_int (m : Nat) (hm : m ≤ 70000) (W : World) : (Instr.makeSlice 32 (.int .i64 (m : Int)) (.int .i64 (m : Int))).run Try.prog W = .ok (.slice (some ⟨W.heap.size, 0, none⟩) m m) (W.alloc (.cells (RwK .i64 (List.replicate m 0)) 3)) :=
  make_k 32 3 8 .i64 (by kernel_rfl) (by kernel_rfl) (by omega) m hm W
theorem make_i64 (m : Nat) (hm : m ≤ 70000) (W : World) : (Instr.makeSlice 47 (.int .i64 (m : Int)) (.int .i64 (m : Int))).run Try.prog W = .ok (.slice (some ⟨W.heap.size, 0, none⟩) m m) (W.alloc (.cells (RwK .i64 (List.replicate m 0)) 2)) :=
  make_k 47 2 8 .i64 (by kernel_rfl) (by kernel_rfl) (by omega) m hm W

/-! small digits -/
def dig (us : List Int) (k : Nat) : List Int := (us.take k).map (· % 16) ++ List.replicate (us.length - k) 0
theorem dig_zero (us : List Int) : dig us 0 = List.replicate us.length 0 := by simp [dig]
theorem dig_all (us : List Int) : dig us us.length = us.map (· % 16) := by simp [dig]
theorem dig_length (us : List Int) {k : Nat} (h : k ≤ us.length) : (dig us k).length = us.length := by simp [dig]; omega
theorem dig_set (us : List Int) {k : Nat} (h : k < us.length) : (dig us k).set k (us[k]?.getD 0 % 16) = dig us (k + 1) := by
  have e : us.length - k = (us.length - (k + 1)) + 1 := by omega
  unfold dig
  rw [e, List.replicate_succ, List.set_append_right _ _ (by simp; omega)]
  rw [show k - ((us.take k).map (· % 16)).length = 0 by simp; omega, List.set_cons_zero, List.take_add_one, List.map_append, List.append_assoc, List.getElem?_eq_getElem h]
  rfl

/-! how many of the first units lie in each counter -/
def cntAt (vs : List Int) (x : Int) (j : Nat) : Int := max 0 (min (x - pre vs j) (vs[j]?.getD 0))
def cnt (vs : List Int) (x : Int) : List Int := (List.range vs.length).map (cntAt vs x)
theorem cnt_length (vs : List Int) (x : Int) : (cnt vs x).length = vs.length := by simp [cnt]
theorem cnt_get (vs : List Int) (x : Int) {j : Nat} (h : j < vs.length) : (cnt vs x)[j]?.getD 0 = cntAt vs x j := by
  simp [cnt, List.getElem?_map, List.getElem?_range h]
theorem cnt_zero {vs : List Int} (h : ∀ v ∈ vs, 0 ≤ v) : cnt vs 0 = List.replicate vs.length 0 := by
  apply List.ext_getElem
  · simp [cnt]
  · intro j h1 h2
    simp only [cnt, List.getElem_map, List.getElem_range, List.getElem_replicate, cntAt]
    have := pre_nonneg h j
    have := at_pos h j
    omega
theorem cnt_step {vs : List Int} (h : ∀ v ∈ vs, 0 ≤ v) {x : Int} {i : Nat} (_hi : i < vs.length) (h1 : pre vs i ≤ x) (h2 : x < pre vs (i + 1)) : (cnt vs x).set i (cntAt vs x i + 1) = cnt vs (x + 1) := by
  apply List.ext_getElem
  · simp [cnt]
  · intro j hj1 hj2
    have hj : j < vs.length := by simpa [cnt] using hj2
    rw [List.getElem_set]
    have ps := pre_succ vs i
    by_cases e : i = j
    · subst e
      rw [if_pos rfl]
      simp only [cnt, List.getElem_map, List.getElem_range, cntAt]
      omega
    · rw [if_neg e]
      simp only [cnt, List.getElem_map, List.getElem_range, cntAt]
      have pj := pre_succ vs j
      have vp := at_pos h j
      by_cases hlt : i < j
      · have := pre_mono h (show i + 1 ≤ j by omega); omega
      · have := pre_mono h (show j + 1 ≤ i by omega); omega
theorem cnt_full {vs : List Int} (h : ∀ v ∈ vs, 0 ≤ v) {j : Nat} : cntAt vs vs.sum j = vs[j]?.getD 0 := by
  unfold cntAt
  have := pre_succ vs j
  have := pre_le_sum h (j + 1)
  have := at_pos h j
  omega
theorem cnt_range {vs : List Int} (h : ∀ v ∈ vs, 0 ≤ v ∧ v ≤ 65535) (x : Int) (j : Nat) : 0 ≤ cntAt vs x j ∧ cntAt vs x j ≤ 65535 := by
  unfold cntAt
  by_cases hj : j < vs.length
  · have := h _ (List.getElem_mem hj)
    rw [List.getElem?_eq_getElem hj]; simp only [Option.getD_some]; omega
  · rw [List.getElem?_eq_none (by omega)]; simp only [Option.getD_none]; omega

theorem Own.base {w w1 W : World} {c cb nb : Nat} {xs : List Int} (h : Own w1 W c cb nb xs) (hb : Below w.heap.size w w1) : Own w W c cb nb xs := by
  have := hb.size
  have := h.ge
  exact ⟨h.tab, by omega, bel_trans hb h.bel⟩

end Go.Proofs.Ytooppkpaahmnhaa
