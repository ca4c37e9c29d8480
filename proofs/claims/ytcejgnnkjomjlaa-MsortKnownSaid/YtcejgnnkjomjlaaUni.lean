/- The functions of the chapter and of the reference, at whatever input. -/
import Derived.Test.YtcejgnnkjomjlaaA6
namespace Go.Proofs.Ytcejgnnkjomjlaa
open Go.RowKit Go.Proofs.YtcejgnnkjomjlaaW.PrintWords
open Go.Proofs.Ytcejgnnkjomjlaa.PMsortMerges

/-- a value is a slice of these records -/
def VR (w : World) (v : Value) (l : List R4) : Prop := ∃ a c, v = .slice a l.length c ∧ l.length ≤ c ∧ RdR w.heap.size w a l.length l
def VI (w : World) (v : Value) (l : List Int) : Prop := ∃ a c, v = .slice a l.length c ∧ l.length ≤ c ∧ RdI w.heap.size w a l.length l
theorem VR.below {w w' : World} {v : Value} {l : List R4} (h : VR w v l) (hb : Below w.heap.size w w') : VR w' v l := by
  obtain ⟨a, c, hv, hc, hr⟩ := h
  exact ⟨a, c, hv, hc, (hr.below hb).mono hb.size⟩
theorem VI.below {w w' : World} {v : Value} {l : List Int} (h : VI w v l) (hb : Below w.heap.size w w') : VI w' v l := by
  obtain ⟨a, c, hv, hc, hr⟩ := h
  exact ⟨a, c, hv, hc, (hr.below hb).mono hb.size⟩
theorem VR.nil (w : World) : VR w (.slice none 0 0) [] := ⟨none, 0, rfl, Nat.le_refl _, rfl, fun h => absurd h (by simp)⟩
theorem VI.nil (w : World) : VI w (.slice none 0 0) [] := ⟨none, 0, rfl, Nat.le_refl _, rfl, fun h => absurd h (by simp)⟩

def sortK (k : Int) (l : List R4) : List R4 := if errK l.length k = 0 then isort (keyLt k) l else []
def permK (k : Int) (l : List R4) : List Int := if errK l.length k = 0 then isort (ltIdx (keyLt k) l) (idxs l.length) else []
def srtK (k : Int) (l : List R4) : Bool := if errK l.length k = 0 then nbr (keyLt k) l else false
def invK (k : Int) (l : List R4) : Nat := if errK l.length k = 0 then inv (keyLt k) l else 0
def errM (k : Int) (A B : List R4) : Int := if errK (A.length + B.length) k = 0 then (if nbr (keyLt k) A && nbr (keyLt k) B then 0 else 8) else errK (A.length + B.length) k
def mrgK (k : Int) (A B : List R4) : List R4 := if errM k A B = 0 then mrg (keyLt k) A B else []
theorem sortK_length (k : Int) (l : List R4) (h : l.length ≤ 70000) : (sortK k l).length ≤ 70000 := by
  unfold sortK
  split
  · rw [(isort_perm _).length_eq]; exact h
  · simp
theorem mrgK_length (k : Int) (A B : List R4) : (mrgK k A B).length ≤ A.length + B.length := by
  unfold mrgK
  split
  · rw [mrg_length]; exact Nat.le_refl _
  · simp

theorem sort_uni (w : World) (v : Value) (l : List R4) (k : Int) (hv : VR w v l) : Calls Try.prog 16 #[v, .int .i64 k] w fun e w' => (∃ v', e = .returned (.tuple #[v', .int .i64 (errK l.length k)]) ∧ VR w' v' (sortK k l)) ∧ Below w.heap.size w w' := by
  obtain ⟨a, c, rfl, hc, hr⟩ := hv
  by_cases h : errK l.length k = 0
  · refine (sort_ok w a l.length c l k hr h).mono ?_
    rintro e w' ⟨v', rfl, hv', hb⟩
    refine ⟨⟨v', by rw [h], ?_⟩, hb⟩
    unfold sortK; rw [if_pos h]; exact hv'.rd
  · refine (sort_err w a l.length c k h).mono ?_
    rintro e w' ⟨rfl, rfl⟩
    refine ⟨⟨_, rfl, ?_⟩, Below.refl _ _⟩
    unfold sortK; rw [if_neg h]; exact VR.nil _
theorem rsort_uni (w : World) (v : Value) (l : List R4) (k : Int) (hm : l.length ≤ 70000) (hv : VR w v l) : Calls Try.prog 17 #[v, .int .i64 k] w fun e w' => (∃ v', e = .returned (.tuple #[v', .int .i64 (errK l.length k)]) ∧ VR w' v' (sortK k l)) ∧ Below w.heap.size w w' := by
  obtain ⟨a, c, rfl, hc, hr⟩ := hv
  obtain ⟨K, hK⟩ : ∃ K, seepageref05_Sort.f K (l.map toS) k = some ((sortK k l).map toS, errK l.length k) := by
    by_cases h : errK l.length k = 0
    · unfold sortK; rw [if_pos h, h]; exact sort_f l k h
    · unfold sortK; rw [if_neg h]; exact ⟨0, sort_f_err l k h 0⟩
  have := seepageref05_Sort.calls K a c (l.map toS) k _ _ w (hr.kd hm) (by rw [List.length_map]; exact hc) hK
  rw [List.length_map] at this
  refine this.mono ?_
  rintro e w' ⟨v', rfl, hv', hb⟩
  exact ⟨⟨v', rfl, kd_rd hv'⟩, hb⟩
theorem perm_uni (w : World) (v : Value) (l : List R4) (k : Int) (hv : VR w v l) : Calls Try.prog 18 #[v, .int .i64 k] w fun e w' => (∃ v', e = .returned (.tuple #[v', .int .i64 (errK l.length k)]) ∧ VI w' v' (permK k l)) ∧ Below w.heap.size w w' := by
  obtain ⟨a, c, rfl, hc, hr⟩ := hv
  by_cases h : errK l.length k = 0
  · refine (perm_ok w a l.length c l k hr h).mono ?_
    rintro e w' ⟨v', rfl, hv', hb⟩
    refine ⟨⟨v', by rw [h], ?_⟩, hb⟩
    unfold permK; rw [if_pos h]; exact hv'.rd
  · refine (perm_err w a l.length c k h).mono ?_
    rintro e w' ⟨rfl, hb⟩
    refine ⟨⟨_, rfl, ?_⟩, hb⟩
    unfold permK; rw [if_neg h]; exact VI.nil _
theorem rperm_uni (w : World) (v : Value) (l : List R4) (k : Int) (hm : l.length ≤ 70000) (hv : VR w v l) : Calls Try.prog 19 #[v, .int .i64 k] w fun e w' => (∃ v', e = .returned (.tuple #[v', .int .i64 (errK l.length k)]) ∧ VI w' v' (permK k l)) ∧ Below w.heap.size w w' := by
  obtain ⟨a, c, rfl, hc, hr⟩ := hv
  obtain ⟨K, hK⟩ : ∃ K, seepageref05_Perm.f K (l.map toS) k = some (permK k l, errK l.length k) := by
    by_cases h : errK l.length k = 0
    · unfold permK; rw [if_pos h, h]; exact perm_f l k h
    · unfold permK; rw [if_neg h]; exact ⟨0, perm_f_err l k h 0⟩
  have := seepageref05_Perm.calls K a c (l.map toS) k _ _ w (hr.kd hm) (by rw [List.length_map]; exact hc) hK
  rw [List.length_map] at this
  refine this.mono ?_
  rintro e w' ⟨v', rfl, hv', hb⟩
  exact ⟨⟨v', rfl, kd_rdI hv'⟩, hb⟩
theorem srt_uni (w : World) (v : Value) (l : List R4) (k : Int) (hv : VR w v l) : Calls Try.prog 21 #[v, .int .i64 k] w fun e w' => e = .returned (.tuple #[.bool (srtK k l), .int .i64 (errK l.length k)]) ∧ Below w.heap.size w w' := by
  obtain ⟨a, c, rfl, hc, hr⟩ := hv
  unfold srtK
  by_cases h : errK l.length k = 0
  · rw [if_pos h, h]; exact srt_ok w a l.length c l k hr h
  · rw [if_neg h]
    exact (srt_err w a l.length c k h).mono fun e w' hh => ⟨hh.1, hh.2 ▸ Below.refl _ _⟩
theorem rsrt_uni (w : World) (v : Value) (l : List R4) (k : Int) (hm : l.length ≤ 70000) (hv : VR w v l) : Calls Try.prog 22 #[v, .int .i64 k] w fun e w' => e = .returned (.tuple #[.bool (srtK k l), .int .i64 (errK l.length k)]) ∧ Below w.heap.size w w' := by
  obtain ⟨a, c, rfl, hc, hr⟩ := hv
  obtain ⟨K, hK⟩ : ∃ K, seepageref05_Sorted.f K (l.map toS) k = some (srtK k l, errK l.length k) := by
    by_cases h : errK l.length k = 0
    · unfold srtK; rw [if_pos h, h]; exact sorted_f l k h
    · unfold srtK; rw [if_neg h]; exact ⟨0, sorted_f_err l k h 0⟩
  have := seepageref05_Sorted.calls K a c (l.map toS) k _ _ w (hr.kd hm) (by rw [List.length_map]; exact hc) hK
  rw [List.length_map] at this
  exact this
theorem invs_uni (w : World) (v : Value) (l : List R4) (k : Int) (hv : VR w v l) : Calls Try.prog 23 #[v, .int .i64 k] w fun e w' => e = .returned (.tuple #[.int .i64 (invK k l : Nat), .int .i64 (errK l.length k)]) ∧ Below w.heap.size w w' := by
  obtain ⟨a, c, rfl, hc, hr⟩ := hv
  unfold invK
  by_cases h : errK l.length k = 0
  · rw [if_pos h, h]; exact invs_ok w a l.length c l k hr h
  · rw [if_neg h]
    exact (invs_err w a l.length c k h).mono fun e w' hh => ⟨hh.1, hh.2 ▸ Below.refl _ _⟩
theorem rinvs_uni (w : World) (v : Value) (l : List R4) (k : Int) (hm : l.length ≤ 70000) (hv : VR w v l) : Calls Try.prog 24 #[v, .int .i64 k] w fun e w' => e = .returned (.tuple #[.int .i64 (invK k l : Nat), .int .i64 (errK l.length k)]) ∧ Below w.heap.size w w' := by
  obtain ⟨a, c, rfl, hc, hr⟩ := hv
  obtain ⟨K, hK⟩ : ∃ K, seepageref05_Inversions.f K (l.map toS) k = some (((invK k l : Nat) : Int), errK l.length k) := by
    by_cases h : errK l.length k = 0
    · unfold invK; rw [if_pos h, h]; exact invs_f l k h
    · unfold invK; rw [if_neg h]; exact ⟨0, invs_f_err l k h 0⟩
  have := seepageref05_Inversions.calls K a c (l.map toS) k _ _ w (hr.kd hm) (by rw [List.length_map]; exact hc) hK
  rw [List.length_map] at this
  exact this
theorem merge_uni (w : World) (v v2 : Value) (A B : List R4) (k : Int) (hm : A.length ≤ 70000 ∧ B.length ≤ 70000) (hv : VR w v A) (hv2 : VR w v2 B) : Calls Try.prog 26 #[v, v2, .int .i64 k] w fun e w' => (∃ v', e = .returned (.tuple #[v', .int .i64 (errM k A B)]) ∧ VR w' v' (mrgK k A B)) ∧ Below w.heap.size w w' := by
  obtain ⟨a, c, rfl, hc, hr⟩ := hv
  obtain ⟨a2, c2, rfl, hc2, hr2⟩ := hv2
  by_cases h : errK (A.length + B.length) k = 0
  · cases hA : nbr (keyLt k) A with
    | false =>
      refine (mg_ord1 w a a2 A.length c B.length c2 A B k hr h hA).mono ?_
      rintro e w' ⟨rfl, hb⟩
      have hE : errM k A B = 8 := by unfold errM; rw [if_pos h, hA]; rfl
      refine ⟨⟨_, by rw [hE], ?_⟩, hb⟩
      unfold mrgK; rw [hE, if_neg (by omega)]; exact VR.nil _
    | true =>
      cases hB : nbr (keyLt k) B with
      | false =>
        refine (mg_ord2 w a a2 A.length c B.length c2 A B k hr hr2 h hA hB).mono ?_
        rintro e w' ⟨rfl, hb⟩
        have hE : errM k A B = 8 := by unfold errM; rw [if_pos h, hA, hB]; rfl
        refine ⟨⟨_, by rw [hE], ?_⟩, hb⟩
        unfold mrgK; rw [hE, if_neg (by omega)]; exact VR.nil _
      | true =>
        refine (mg_ok w a a2 A.length c B.length c2 A B k hr hr2 hc hc2 h hA hB).mono ?_
        rintro e w' ⟨v', rfl, hv', hb⟩
        have hE : errM k A B = 0 := by unfold errM; rw [if_pos h, hA, hB]; rfl
        refine ⟨⟨v', by rw [hE], ?_⟩, hb⟩
        unfold mrgK; rw [if_pos hE]; exact hv'.rd
  · refine (mg_err w a a2 A.length c B.length c2 k h hm.1 hm.2).mono ?_
    rintro e w' ⟨rfl, rfl⟩
    have hE : errM k A B = errK (A.length + B.length) k := by unfold errM; rw [if_neg h]
    refine ⟨⟨_, by rw [hE], ?_⟩, Below.refl _ _⟩
    unfold mrgK; rw [hE, if_neg h]; exact VR.nil _
theorem rmerge_uni (w : World) (v v2 : Value) (A B : List R4) (k : Int) (hm : A.length ≤ 70000 ∧ B.length ≤ 70000) (hv : VR w v A) (hv2 : VR w v2 B) : Calls Try.prog 27 #[v, v2, .int .i64 k] w fun e w' => (∃ v', e = .returned (.tuple #[v', .int .i64 (errM k A B)]) ∧ VR w' v' (mrgK k A B)) ∧ Below w.heap.size w w' := by
  obtain ⟨a, c, rfl, hc, hr⟩ := hv
  obtain ⟨a2, c2, rfl, hc2, hr2⟩ := hv2
  obtain ⟨K, hK⟩ : ∃ K, seepageref05_Merge.f K (A.map toS) (B.map toS) k = some ((mrgK k A B).map toS, errM k A B) := by
    by_cases h : errK (A.length + B.length) k = 0
    · cases hA : nbr (keyLt k) A with
      | false =>
        have hE : errM k A B = 8 := by unfold errM; rw [if_pos h, hA]; rfl
        unfold mrgK; rw [hE, if_neg (by omega)]
        exact merge_f_ord A B k h (.inl hA)
      | true =>
        cases hB : nbr (keyLt k) B with
        | false =>
          have hE : errM k A B = 8 := by unfold errM; rw [if_pos h, hA, hB]; rfl
          unfold mrgK; rw [hE, if_neg (by omega)]
          exact merge_f_ord A B k h (.inr hB)
        | true =>
          have hE : errM k A B = 0 := by unfold errM; rw [if_pos h, hA, hB]; rfl
          unfold mrgK; rw [hE, if_pos rfl]
          exact merge_f A B k h hA hB
    · have hE : errM k A B = errK (A.length + B.length) k := by unfold errM; rw [if_neg h]
      unfold mrgK; rw [hE, if_neg h]
      exact ⟨0, merge_f_err A B k hm h 0⟩
  have := seepageref05_Merge.calls K a c (A.map toS) a2 c2 (B.map toS) k _ _ w (hr.kd hm.1) (by rw [List.length_map]; exact hc) (hr2.kd hm.2) (by rw [List.length_map]; exact hc2) hK
  rw [List.length_map, List.length_map] at this
  refine this.mono ?_
  rintro e w' ⟨v', rfl, hv', hb⟩
  exact ⟨⟨v', rfl, kd_rd hv'⟩, hb⟩
theorem copied_uni (w : World) (v : Value) (l : List R4) (hm : l.length ≤ 70000) (hv : VR w v l) : Calls Try.prog 15 #[v] w fun e w' => (∃ v', e = .returned v' ∧ VR w' v' l) ∧ Below w.heap.size w w' := by
  obtain ⟨a, c, rfl, hc, hr⟩ := hv
  have := seepagelaw05_copied.calls a c (l.map toS) (l.map toS) w (hr.kd hm) (by rw [List.length_map]; exact hc) (copied_f l hm)
  rw [List.length_map] at this
  refine this.mono ?_
  rintro e w' ⟨v', rfl, hv', hb⟩
  exact ⟨⟨v', rfl, kd_rd hv'⟩, hb⟩
theorem same_uni (w : World) (v v2 : Value) (l : List R4) (hm : l.length ≤ 70000) (hv : VR w v l) (hv2 : VR w v2 l) : Calls Try.prog 20 #[v, v2] w fun e w' => e = .returned (.bool true) ∧ Below w.heap.size w w' := by
  obtain ⟨a, c, rfl, hc, hr⟩ := hv
  obtain ⟨a2, c2, rfl, hc2, hr2⟩ := hv2
  obtain ⟨K, hK⟩ := same_f l hm
  have := seepagelaw05_same.calls K a c (l.map toS) a2 c2 (l.map toS) true w (hr.kd hm) (by rw [List.length_map]; exact hc) (hr2.kd hm) (by rw [List.length_map]; exact hc2) hK
  rw [List.length_map] at this
  exact this.mono fun e w' h => ⟨h.1, h.2.below⟩
end Go.Proofs.Ytcejgnnkjomjlaa
