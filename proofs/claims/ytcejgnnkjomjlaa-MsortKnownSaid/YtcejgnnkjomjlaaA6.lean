/- What the printed texts say of rows, in this seat's own words. -/
import Derived.Test.YtcejgnnkjomjlaaA5
import Derived.Test.YtcejgnnkjomjlaaPMsortMergesx
import Derived.Test.YtcejgnnkjomjlaaA1
import Derived.Deep.Slices
import Derived.Lib.SmallJoins

namespace Go.Proofs.Ytcejgnnkjomjlaa
open Go.RowKit Go.Proofs.YtcejgnnkjomjlaaW.PrintWords
open Go.Proofs.Ytcejgnnkjomjlaa.PMsortMerges

def toS (r : R4) : S24 := ⟨r.u, r.v, r.w, r.t⟩
def toR (x : S24) : R4 := ⟨x.f0, x.f1, x.f2, x.f3⟩
theorem toS_toR (x : S24) : toS (toR x) = x := rfl
theorem toR_toS (x : R4) : toR (toS x) = x := rfl
theorem map_toS_toR (l : List S24) : (l.map toR).map toS = l := by
  rw [List.map_map]
  have : toS ∘ toR = id := funext toS_toR
  rw [this, List.map_id]

theorem RdR.kd {n₀ : Nat} {w : World} {a : Option Addr} {n : Nat} {l : List R4} (h : RdR n₀ w a n l) (hn : n ≤ 70000) : Kd.C k24 w a (l.map toS).length (l.map toS) := by
  have hl := h.1
  refine ⟨rfl, by rw [List.length_map]; omega, fun hp => ?_⟩
  rw [List.length_map] at hp
  obtain ⟨b, off, ha, _, hc⟩ := h.2 (by omega)
  refine ⟨_, ha, fun j p hj => ?_⟩
  rw [List.getElem?_map] at hj
  cases hr : l[j]? with
  | none => rw [hr] at hj; cases hj
  | some r =>
    rw [hr, Option.map_some] at hj
    injection hj with hj
    subst hj
    refine ⟨cells4 r, rfl, k24_mk w (toS r), fun i u hu => ?_⟩
    have hi : i < 4 := by
      rcases Nat.lt_or_ge i 4 with h | h
      · exact h
      · rw [List.getElem?_eq_none (by simpa [cells4] using h)] at hu; cases hu
    rw [add_none]
    exact (hc j r hr i hi).trans hu
theorem kd_rd {w : World} {base : Nat} {ok : Nat → Prop} {v : Value} {l : List R4} (h : Kd.R k24 24 w base ok v (l.map toS)) :
    ∃ a c, v = .slice a l.length c ∧ l.length ≤ c ∧ RdR w.heap.size w a l.length l := by
  obtain ⟨A, c, hv, hl, hC⟩ := Kd.R_reads h
  rw [List.length_map] at hv hl hC
  refine ⟨A, c, hv, hl, rfl, fun hp => ?_⟩
  obtain ⟨inner, ho⟩ := Kd.R_own h
  rw [List.length_map] at ho
  obtain ⟨g, cap, hv2, _, hgl⟩ := ho.form hp
  rw [hv] at hv2
  injection hv2 with hA _ _
  subst hA
  obtain ⟨ad, had, hcell⟩ := hC.2.2 hp
  injection had with had
  subst had
  refine ⟨g, 0, rfl, hgl, fun i r hr j hj => ?_⟩
  obtain ⟨cs, hlen, hK, hcs⟩ := hcell i (toS r) (by rw [List.getElem?_map, hr]; rfl)
  rw [k24_open hK] at hcs
  have hx : ∃ v, (cells4 r)[j]? = some v := by
    match j, hj with
    | 0, _ => exact ⟨_, rfl⟩
    | 1, _ => exact ⟨_, rfl⟩
    | 2, _ => exact ⟨_, rfl⟩
    | 3, _ => exact ⟨_, rfl⟩
  obtain ⟨u, hu⟩ := hx
  have := hcs j u hu
  rw [add_none] at this
  rw [hu]; exact this
theorem MadeR.rd {n₀ : Nat} {w : World} {v : Value} {l : List R4} (h : MadeR n₀ w v l) : ∃ a c, v = .slice a l.length c ∧ l.length ≤ c ∧ RdR w.heap.size w a l.length l := by
  obtain ⟨a, cap, hv, hc, hg⟩ := h
  refine ⟨a, cap, hv, hc, rfl, fun hp => ?_⟩
  obtain ⟨g, tl, ha, _, hB⟩ := hg hp
  refine ⟨g, 0, ha, hB.lt, fun i r hr j hj => ?_⟩
  have hx : ∃ v, (cells4 r)[j]? = some v := by
    match j, hj with
    | 0, _ => exact ⟨_, rfl⟩
    | 1, _ => exact ⟨_, rfl⟩
    | 2, _ => exact ⟨_, rfl⟩
    | 3, _ => exact ⟨_, rfl⟩
  obtain ⟨u, hu⟩ := hx
  have := RwR.at tl hr j hj
  rw [hu] at this ⊢
  rw [Nat.zero_add]
  exact hB.cell _ this
theorem MadeI.rd {n₀ : Nat} {w : World} {v : Value} {l : List Int} (h : MadeI n₀ w v l) : ∃ a c, v = .slice a l.length c ∧ l.length ≤ c ∧ RdI w.heap.size w a l.length l := by
  obtain ⟨a, cap, hv, hc, hg⟩ := h
  refine ⟨a, cap, hv, hc, rfl, fun hp => ?_⟩
  obtain ⟨g, tl, ha, _, hB⟩ := hg hp
  exact ⟨g, 0, ha, hB.lt, fun i r hr => by rw [Nat.zero_add]; exact hB.cell _ (RwI.at tl hr)⟩
theorem kd_rdI {w : World} {base : Nat} {ok : Nat → Prop} {v : Value} {l : List Int} (h : Kd.R (Kd.int .i64) 3 w base ok v l) :
    ∃ a c, v = .slice a l.length c ∧ l.length ≤ c ∧ RdI w.heap.size w a l.length l := by
  obtain ⟨A, c, hv, hl, hC⟩ := Kd.R_reads h
  refine ⟨A, c, hv, hl, rfl, fun hp => ?_⟩
  obtain ⟨inner, ho⟩ := Kd.R_own h
  obtain ⟨g, cap, hv2, _, hgl⟩ := ho.form hp
  rw [hv] at hv2
  injection hv2 with hA _ _
  subst hA
  obtain ⟨ad, had, hcell⟩ := hC.2.2 hp
  injection had with had
  subst had
  refine ⟨g, 0, rfl, hgl, fun i r hr => ?_⟩
  obtain ⟨cs, hlen, hK, hcs⟩ := hcell i r hr
  have hK' : cs = [Value.int .i64 r] := hK
  rw [hK'] at hcs
  have := hcs 0 (.int .i64 r) rfl
  rw [add_none] at this
  have e : 0 + (i * (Kd.int .i64).sz + 0) = 0 + i := by
    have : (Kd.int .i64).sz = 1 := rfl
    rw [this]; omega
  rw [e] at this
  exact this
end Go.Proofs.Ytcejgnnkjomjlaa

/- The reference's functions, as printed, in plain words. -/
namespace Go.Proofs.Ytcejgnnkjomjlaa
open Go.RowKit Go.Proofs.YtcejgnnkjomjlaaW.PrintWords
open Go.Proofs.Ytcejgnnkjomjlaa.PMsortMerges

theorem known_f (k : Int) : seepageref05_known.f k = some (decide (1 ≤ k ∧ k ≤ 3)) := by
  unfold seepageref05_known.f
  by_cases h : 1 ≤ k
  · rw [if_pos h]; simp [h]
  · rw [if_neg h]; simp [h]
theorem check_f (n : Nat) (k : Int) : seepageref05_check.f (n : Int) k = some (errK n k) := by
  unfold seepageref05_check.f errK
  rw [known_f]
  simp only [Option.bind_some, decide_eq_true_eq]
  by_cases h : 1 ≤ k ∧ k ≤ 3
  · rw [if_pos h, if_pos h]
    by_cases hn : 65536 < n
    · rw [if_pos (by omega), if_pos hn]
    · rw [if_neg (by omega), if_neg hn]
  · rw [if_neg h, if_neg h]
theorem pair_f (a : R4) : seepageref05_pair.f a.u a.v a.w a.t = some (lo_ a, hi_ a) := by
  unfold seepageref05_pair.f lo_ hi_
  by_cases h : a.v < a.u
  · rw [if_neg (by omega), if_pos h, if_pos h]
  · rw [if_pos (by omega), if_neg h, if_neg h]
theorem before_f (a b : R4) (k : Int) : seepageref05_Before.f a.u a.v a.w a.t b.u b.v b.w b.t k = some (keyLt k a b) := by
  unfold seepageref05_Before.f keyLt
  by_cases h1 : k = 1
  · rw [if_pos h1, if_pos h1]; rfl
  · rw [if_neg h1, if_neg h1]
    by_cases h2 : k = 2
    · rw [if_pos h2, if_pos h2]; rfl
    · rw [if_neg h2, if_neg h2, pair_f, pair_f]
      simp only [Option.bind_some]
      unfold ltP
      by_cases g1 : lo_ a < lo_ b
      · rw [if_pos g1]; simp [g1]
      · rw [if_neg g1]
        by_cases g2 : lo_ a = lo_ b
        · rw [if_pos g2]; simp [g2]
        · rw [if_neg g2]; simp [g1, g2]

def at4 (l : List R4) (i : Int) : R4 := l[i.toNat]?.getD R4.zero
theorem rd_at4 (l : List R4) (i : Int) : rd_T24 (l.map toS) i = toS (at4 l i) := by
  unfold rd_T24 at4
  rw [List.getD_eq_getElem?_getD, List.getElem?_map]
  cases l[i.toNat]? <;> rfl
theorem before_rd (l : List R4) (i j k : Int) : seepageref05_Before.f (rd_T24 (l.map toS) i).f0 (rd_T24 (l.map toS) i).f1 (rd_T24 (l.map toS) i).f2 (rd_T24 (l.map toS) i).f3 (rd_T24 (l.map toS) j).f0 (rd_T24 (l.map toS) j).f1 (rd_T24 (l.map toS) j).f2 (rd_T24 (l.map toS) j).f3 k = some (ltIdx (keyLt k) l i j) := by
  rw [rd_at4, rd_at4]
  exact before_f (at4 l i) (at4 l j) k

/-! insertion, from behind -/
section
variable {α : Type} {lt : α → α → Bool}
theorem insr_over {x : α} {P Q : List α} (h : ∀ p ∈ P, lt x p = false) : insr lt x (P ++ Q) = P ++ insr lt x Q := by
  induction P with
  | nil => rfl
  | cons p P ih =>
    rw [List.cons_append, insr_no (h p (List.mem_cons_self ..)), ih (fun q hq => h q (List.mem_cons_of_mem _ hq))]; rfl
theorem insr_behind (hw : Weak lt) {x : α} {P Q : List α} (hS : Srt lt (P ++ Q)) (hQ : ∀ q ∈ Q, lt x q = true) (hP : ∀ p P', P = P' ++ [p] → lt x p = false) : insr lt x (P ++ Q) = P ++ x :: Q := by
  have hall : ∀ p ∈ P, lt x p = false := by
    rcases List.eq_nil_or_concat P with rfl | ⟨P', p, rfl⟩
    · intro p hp; cases hp
    · have h1 := hP p P' (List.concat_eq_append ..)
      intro q hq
      rw [List.concat_eq_append] at *
      rcases List.mem_append.1 hq with hq | hq
      · have := (List.pairwise_append.1 ((List.pairwise_append.1 hS).1)).2.2 q hq p (by simp)
        exact hw.neg x p q h1 this
      · rw [List.mem_singleton.1 hq]; exact h1
  rw [insr_over hall]
  cases Q with
  | nil => rfl
  | cons q Q => rw [insr_yes (hQ q (List.mem_cons_self ..))]
end

theorem w64 {x : Int} (h : -9223372036854775808 ≤ x ∧ x ≤ 9223372036854775807) : wrap64 x = x := by unfold wrap64; omega
theorem rd_mid (P Q : List Int) (x : Int) : rd (P ++ x :: Q) (P.length : Int) = x := by
  unfold rd
  rw [List.getD_eq_getElem?_getD, Int.toNat_natCast, List.getElem?_append_right (Nat.le_refl _), Nat.sub_self]; rfl

theorem perm_l1 (l : List R4) (k : Int) (i : Nat) (x : Int) (_hl : l.length ≤ 70000) (hx : 0 ≤ x ∧ x < (l.length : Int)) (r : List Int × Int) (S : List Int) (hS : Srt (ltIdx (keyLt k) l) S) (hm : ∀ y ∈ S, 0 ≤ y ∧ y < (l.length : Int)) (hlen : S.length ≤ 70000)
    (hr : ∃ K, seepageref05_Perm.l0 K (l.map toS) k (insr (ltIdx (keyLt k) l) x S) (wrap64 ((i : Int) + 1)) = some r) :
    ∀ (P Q : List Int), S = P ++ Q → (∀ q ∈ Q, ltIdx (keyLt k) l x q = true) → ∃ K, seepageref05_Perm.l1 K (l.map toS) k (P ++ x :: Q) (i : Int) (P.length : Int) = some r := by
  intro P
  generalize hd : P.length = d
  induction d generalizing P with
  | zero =>
    intro Q hPQ hQ
    obtain rfl := List.eq_nil_of_length_eq_zero hd
    obtain ⟨K, hK⟩ := hr
    rw [hPQ, insr_behind (weak_ltIdx (weak_key k) l) (hPQ ▸ hS) hQ (fun p P' h => by simp at h)] at hK
    refine ⟨K + 1, ?_⟩
    simp only [seepageref05_Perm.l1]
    rw [if_neg (by simp)]
    exact hK
  | succ d ih =>
    intro Q hPQ hQ
    obtain ⟨P', p, rfl⟩ : ∃ P' p, P = P' ++ [p] := by
      have hne : P ≠ [] := by intro e; subst e; simp at hd
      exact ⟨P.dropLast, P.getLast hne, (List.dropLast_concat_getLast hne).symm⟩
    have hd' : P'.length = d := by simpa using hd
    have hPm : p ∈ S := by rw [hPQ]; simp
    have hp := hm p hPm
    have hSl : S.length = d + 1 + Q.length := by rw [hPQ, List.length_append, List.length_append, hd', List.length_singleton]
    have e1 : P' ++ [p] ++ x :: Q = P' ++ p :: x :: Q := by simp
    have r1 : rd (P' ++ p :: x :: Q) ((d + 1 : Nat) : Int) = x := by
      rw [← e1, ← hd', show P'.length + 1 = (P' ++ [p]).length by simp]
      exact rd_mid _ _ _
    have r2 : rd (P' ++ p :: x :: Q) (d : Int) = p := by rw [← hd']; exact rd_mid _ _ _
    have w1 : wrap64 (((d + 1 : Nat) : Int) - 1) = (d : Int) := by rw [w64 (by omega)]; omega
    have hlen2 : (P' ++ p :: x :: Q).length = d + 2 + Q.length := by rw [List.length_append, hd', List.length_cons, List.length_cons]; omega
    cases hlt : ltIdx (keyLt k) l x p with
    | true =>
      obtain ⟨K, hK⟩ := ih P' hd' (p :: Q) (by rw [hPQ]; simp) (fun q hq => by
        rcases List.mem_cons.1 hq with rfl | hq
        · exact hlt
        · exact hQ q hq)
      refine ⟨K + 1, ?_⟩
      rw [e1]
      simp only [seepageref05_Perm.l1]
      rw [w1, r1, r2, hlen2, List.length_map, if_pos (by omega), if_pos (by omega), if_pos (by omega), if_pos hx.1, if_pos hx.2, if_pos (by omega), if_pos (by omega), if_pos hp.1, if_pos hp.2, before_rd, hlt]
      simp only [Option.bind_some, if_true]
      have e2 : ((P' ++ p :: x :: Q).set ((d + 1 : Nat) : Int).toNat p).set ((d : Int)).toNat x = P' ++ x :: p :: Q := by
        rw [Int.toNat_natCast, Int.toNat_natCast, List.set_append_right _ _ (by omega), hd', show d + 1 - d = 1 by omega]
        simp only [List.set_cons_succ, List.set_cons_zero]
        rw [List.set_append_right _ _ (by omega), hd', Nat.sub_self, List.set_cons_zero]
      rw [e2]
      exact hK
    | false =>
      obtain ⟨K, hK⟩ := hr
      rw [hPQ, insr_behind (weak_ltIdx (weak_key k) l) (hPQ ▸ hS) hQ (fun q P'' h => by
        have := (List.append_inj' h rfl).2
        injection this with this
        rw [← this]; exact hlt)] at hK
      refine ⟨K + 1, ?_⟩
      rw [e1] at hK ⊢
      simp only [seepageref05_Perm.l1]
      rw [w1, r1, r2, hlen2, List.length_map, if_pos (by omega), if_pos (by omega), if_pos (by omega), if_pos hx.1, if_pos hx.2, if_pos (by omega), if_pos (by omega), if_pos hp.1, if_pos hp.2, before_rd, hlt]
      simp only [Option.bind_some]
      exact hK
theorem idxs_succ (n : Nat) : idxs (n + 1) = idxs n ++ [(n : Int)] := by unfold idxs; rw [List.range_succ, List.map_append]; rfl
theorem perm_l0 (l : List R4) (k : Int) (hl : l.length ≤ 70000) (d : Nat) : ∀ i : Nat, i + d = l.length → ∃ K, seepageref05_Perm.l0 K (l.map toS) k (isort (ltIdx (keyLt k) l) (idxs i)) (i : Int) = some (isort (ltIdx (keyLt k) l) (idxs l.length), 0) := by
  induction d with
  | zero =>
    intro i hi
    obtain rfl : i = l.length := by omega
    refine ⟨1, ?_⟩
    simp only [seepageref05_Perm.l0]
    rw [List.length_map, if_neg (by omega)]
  | succ d ih =>
    intro i hi
    have hlen : (isort (ltIdx (keyLt k) l) (idxs i)).length = i := by rw [(isort_perm _).length_eq, idxs_length]
    have h1 := ih (i + 1) (by omega)
    rw [idxs_succ, isort_snoc] at h1
    have h2 : ∃ K, seepageref05_Perm.l0 K (l.map toS) k (insr (ltIdx (keyLt k) l) (i : Int) (isort (ltIdx (keyLt k) l) (idxs i))) (wrap64 ((i : Int) + 1)) = some (isort (ltIdx (keyLt k) l) (idxs l.length), 0) := by
      rw [w64 (by omega)]; exact h1
    obtain ⟨K, hK⟩ := perm_l1 l k i (i : Int) hl (by omega) _ _ (isort_srt (weak_ltIdx (weak_key k) l) _) (fun y hy => by
        have := idxs_mem ((isort_perm _).mem_iff.1 hy); omega) (by omega) h2 (isort (ltIdx (keyLt k) l) (idxs i)) [] (by simp) (fun q hq => by cases hq)
    rw [hlen] at hK
    refine ⟨K + 1, ?_⟩
    simp only [seepageref05_Perm.l0]
    rw [List.length_map, if_pos (by omega), hlen, if_pos (by omega)]
    exact hK
theorem perm_f (l : List R4) (k : Int) (h : errK l.length k = 0) : ∃ K, seepageref05_Perm.f K (l.map toS) k = some (isort (ltIdx (keyLt k) l) (idxs l.length), 0) := by
  obtain ⟨K, hK⟩ := perm_l0 l k (by have := (errK_zero h).2; omega) l.length 0 (by omega)
  refine ⟨K, ?_⟩
  unfold seepageref05_Perm.f
  rw [List.length_map, check_f, h]
  exact hK
theorem perm_f_err (l : List R4) (k : Int) (h : errK l.length k ≠ 0) (K : Nat) : seepageref05_Perm.f K (l.map toS) k = some ([], errK l.length k) := by
  unfold seepageref05_Perm.f
  rw [List.length_map, check_f]
  simp only [Option.bind_some]
  rw [if_neg h]
/-- more rounds give the same answer -/
theorem up {α : Type} (f : Nat → Option α) (hf : ∀ K, LeO (f K) (f (K + 1))) {K K' : Nat} (h : K ≤ K') {r : α} (hr : f K = some r) : f K' = some r := by
  induction h with
  | refl => exact hr
  | step _ ih => exact hf _ _ ih
end Go.Proofs.Ytcejgnnkjomjlaa

/- The reference's functions, as printed, in plain words: sorting, inversions, merging. -/
namespace Go.Proofs.Ytcejgnnkjomjlaa
open Go.RowKit Go.Proofs.YtcejgnnkjomjlaaW.PrintWords
open Go.Proofs.Ytcejgnnkjomjlaa.PMsortMerges

theorem map_idxs (l : List R4) : (idxs l.length).map (at4 l) = l := by
  apply List.ext_getElem
  · simp [idxs]
  · intro i h1 h2
    simp [idxs, at4, List.getElem?_eq_getElem h2]
/-- the records, by the sorted indexes -/
theorem sort_map (l : List R4) (lt : R4 → R4 → Bool) : (isort (ltIdx lt l) (idxs l.length)).map (at4 l) = isort lt l := by
  have h := isort_map (lt := lt) (at4 l) (idxs l.length)
  rw [map_idxs] at h
  rw [h]; rfl
theorem sort_l0 (l : List R4) (P : List Int) (hl : P.length ≤ 70000) (hP : ∀ y ∈ P, 0 ≤ y ∧ y < (l.length : Int)) (d : Nat) : ∀ i : Nat, i + d = P.length → ∃ K, seepageref05_Sort.l0 K (l.map toS) P (((P.take i).map (at4 l)).map toS) (i : Int) = some ((P.map (at4 l)).map toS, 0) := by
  induction d with
  | zero =>
    intro i hi
    refine ⟨1, ?_⟩
    simp only [seepageref05_Sort.l0]
    rw [if_neg (by omega), List.take_of_length_le (by omega)]
  | succ d ih =>
    intro i hi
    have hlt : i < P.length := by omega
    obtain ⟨K, hK⟩ := ih (i + 1) (by omega)
    have hr : rd P (i : Int) = P[i] := by unfold rd; rw [List.getD_eq_getElem?_getD, Int.toNat_natCast, List.getElem?_eq_getElem hlt]; rfl
    have hp := hP _ (List.getElem_mem hlt)
    refine ⟨K + 1, ?_⟩
    simp only [seepageref05_Sort.l0]
    rw [hr, List.length_map, if_pos (by omega), if_pos (by omega), if_pos hp.1, if_pos hp.2, if_pos (by rw [List.length_map, List.length_map, List.length_take]; omega), rd_at4, w64 (by omega)]
    have e : ((P.take i).map (at4 l)).map toS ++ [(⟨(toS (at4 l P[i])).f0, (toS (at4 l P[i])).f1, (toS (at4 l P[i])).f2, (toS (at4 l P[i])).f3⟩ : S24)] = ((P.take (i + 1)).map (at4 l)).map toS := by
      rw [List.take_succ_eq_append_getElem hlt, List.map_append, List.map_append]; rfl
    rw [e]
    exact hK
theorem sort_f (l : List R4) (k : Int) (h : errK l.length k = 0) : ∃ K, seepageref05_Sort.f K (l.map toS) k = some ((isort (keyLt k) l).map toS, 0) := by
  obtain ⟨K1, h1⟩ := perm_f l k h
  have hm := (errK_zero h).2
  have hlen : (isort (ltIdx (keyLt k) l) (idxs l.length)).length = l.length := by rw [(isort_perm _).length_eq, idxs_length]
  obtain ⟨K2, h2⟩ := sort_l0 l (isort (ltIdx (keyLt k) l) (idxs l.length)) (by omega) (fun y hy => idxs_mem ((isort_perm _).mem_iff.1 hy)) l.length 0 (by omega)
  rw [sort_map] at h2
  obtain ⟨K, g1, g2⟩ : ∃ K, seepageref05_Perm.f K (l.map toS) k = some (isort (ltIdx (keyLt k) l) (idxs l.length), 0) ∧ seepageref05_Sort.l0 K (l.map toS) (isort (ltIdx (keyLt k) l) (idxs l.length)) [] 0 = some ((isort (keyLt k) l).map toS, 0) := by
    refine ⟨max K1 K2, ?_, ?_⟩
    · exact up (fun K => seepageref05_Perm.f K (l.map toS) k) (fun K => seepageref05_Perm.mono _ _ K) (Nat.le_max_left _ _) h1
    · exact up (fun K => seepageref05_Sort.l0 K (l.map toS) (isort (ltIdx (keyLt k) l) (idxs l.length)) [] 0) (fun K => seepageref05_Sort.mono_l K _ _ _ _) (Nat.le_max_right _ _) h2
  refine ⟨K, ?_⟩
  unfold seepageref05_Sort.f
  rw [g1]
  exact g2
theorem sort_f_err (l : List R4) (k : Int) (h : errK l.length k ≠ 0) (K : Nat) : seepageref05_Sort.f K (l.map toS) k = some ([], errK l.length k) := by
  unfold seepageref05_Sort.f
  rw [perm_f_err l k h]
  simp only [Option.bind_some]
  rw [if_neg h]

/-! inversions -/
theorem inv_snoc {α : Type} {lt : α → α → Bool} (A : List α) (y : α) : inv lt (A ++ [y]) = inv lt A + A.countP (fun x => lt y x) := by
  rw [inv_append, crs_cons_right, crs_nil_right]
  simp [inv]
theorem at4_get {l : List R4} {i : Nat} (h : i < l.length) : at4 l (i : Int) = l[i] := by
  unfold at4
  rw [Int.toNat_natCast, List.getElem?_eq_getElem h]; rfl
theorem ltIdx_get {lt : R4 → R4 → Bool} {l : List R4} {i j : Nat} (hi : i < l.length) (hj : j < l.length) : ltIdx lt l (i : Int) (j : Int) = lt l[i] l[j] := by
  unfold ltIdx
  rw [Int.toNat_natCast, Int.toNat_natCast, List.getElem?_eq_getElem hi, List.getElem?_eq_getElem hj]; rfl
theorem inv_l1 (l : List R4) (k : Int) (hl : l.length ≤ 70000) (j : Nat) (hj : j < l.length) (r : Int × Int)
    (hr : ∃ K, seepageref05_Inversions.l0 K (l.map toS) k ((inv (keyLt k) (l.take (j + 1)) : Nat) : Int) (wrap64 ((j : Int) + 1)) = some r) (d : Nat) :
    ∀ i : Nat, i + d = j → ∃ K, seepageref05_Inversions.l1 K (l.map toS) k ((inv (keyLt k) (l.take j) + (l.take i).countP (fun x => keyLt k l[j] x) : Nat) : Int) (j : Int) (i : Int) = some r := by
  induction d with
  | zero =>
    intro i hi
    obtain rfl : i = j := by omega
    obtain ⟨K, hK⟩ := hr
    rw [List.take_succ_eq_append_getElem hj, inv_snoc] at hK
    refine ⟨K + 1, ?_⟩
    simp only [seepageref05_Inversions.l1]
    rw [if_neg (by omega)]
    exact hK
  | succ d ih =>
    intro i hi
    obtain ⟨K, hK⟩ := ih (i + 1) (by omega)
    have hb1 := inv_le (lt := keyLt k) (l.take j)
    have hb2 := List.countP_le_length (p := fun x => keyLt k l[j] x) (l := l.take i)
    have hb3 : (l.take j).length * (l.take j).length ≤ 70000 * 70000 := Nat.mul_le_mul (by rw [List.length_take]; omega) (by rw [List.length_take]; omega)
    rw [List.length_take] at hb2
    rw [List.take_succ_eq_append_getElem (by omega), List.countP_append] at hK
    refine ⟨K + 1, ?_⟩
    simp only [seepageref05_Inversions.l1]
    rw [List.length_map, if_pos (by omega), if_pos (by omega), if_pos (by omega), if_pos (by omega), if_pos (by omega), before_rd, ltIdx_get hj (show i < l.length by omega)]
    simp only [Option.bind_some]
    cases hlt : keyLt k l[j] l[i] with
    | true =>
      rw [if_pos rfl, w64 (by omega), w64 (by omega)]
      have e : [l[i]].countP (fun x => keyLt k l[j] x) = 1 := by simp [hlt]
      rw [e] at hK
      exact hK
    | false =>
      rw [if_neg (by simp), w64 (by omega)]
      have e : [l[i]].countP (fun x => keyLt k l[j] x) = 0 := by simp [hlt]
      rw [e, Nat.add_zero] at hK
      exact hK
theorem inv_l0 (l : List R4) (k : Int) (hl : l.length ≤ 70000) (d : Nat) : ∀ j : Nat, j + d = l.length → ∃ K, seepageref05_Inversions.l0 K (l.map toS) k ((inv (keyLt k) (l.take j) : Nat) : Int) (j : Int) = some (((inv (keyLt k) l : Nat) : Int), 0) := by
  induction d with
  | zero =>
    intro j hj
    refine ⟨1, ?_⟩
    simp only [seepageref05_Inversions.l0]
    rw [List.length_map, if_neg (by omega), List.take_of_length_le (by omega)]
  | succ d ih =>
    intro j hj
    have h1 := ih (j + 1) (by omega)
    obtain ⟨K, hK⟩ := inv_l1 l k hl j (by omega) _ (by rw [w64 (by omega)]; exact h1) j 0 (by omega)
    simp only [List.take_zero, List.countP_nil, Nat.add_zero] at hK
    refine ⟨K + 1, ?_⟩
    simp only [seepageref05_Inversions.l0]
    rw [List.length_map, if_pos (by omega)]
    exact hK
theorem invs_f (l : List R4) (k : Int) (h : errK l.length k = 0) : ∃ K, seepageref05_Inversions.f K (l.map toS) k = some (((inv (keyLt k) l : Nat) : Int), 0) := by
  obtain ⟨K, hK⟩ := inv_l0 l k (by have := (errK_zero h).2; omega) l.length 0 (by omega)
  refine ⟨K, ?_⟩
  unfold seepageref05_Inversions.f
  rw [List.length_map, check_f, h]
  exact hK
theorem invs_f_err (l : List R4) (k : Int) (h : errK l.length k ≠ 0) (K : Nat) : seepageref05_Inversions.f K (l.map toS) k = some (0, errK l.length k) := by
  unfold seepageref05_Inversions.f
  rw [List.length_map, check_f]
  simp only [Option.bind_some]
  rw [if_neg h]
theorem inv_nbr (l : List R4) (k : Int) : (((inv (keyLt k) l : Nat) : Int) == 0) = nbr (keyLt k) l := by
  have h1 := inv_zero_iff (lt := keyLt k) l
  have h2 := nbr_iff (weak_key k) l
  cases h : nbr (keyLt k) l with
  | true =>
    have := h1.2 (h2.1 h)
    rw [this]; rfl
  | false =>
    have : ¬ inv (keyLt k) l = 0 := fun e => by
      have := h2.2 (h1.1 e)
      rw [h] at this; cases this
    simpa using this
theorem sorted_f (l : List R4) (k : Int) (h : errK l.length k = 0) : ∃ K, seepageref05_Sorted.f K (l.map toS) k = some (nbr (keyLt k) l, 0) := by
  obtain ⟨K, hK⟩ := invs_f l k h
  refine ⟨K, ?_⟩
  unfold seepageref05_Sorted.f
  rw [hK]
  simp only [Option.bind_some]
  rw [if_pos trivial, inv_nbr]
theorem sorted_f_err (l : List R4) (k : Int) (h : errK l.length k ≠ 0) (K : Nat) : seepageref05_Sorted.f K (l.map toS) k = some (false, errK l.length k) := by
  unfold seepageref05_Sorted.f
  rw [invs_f_err l k h]
  simp only [Option.bind_some]
  rw [if_neg h]
theorem errK_mono {n m : Nat} {k : Int} (h : errK m k = 0) (hn : n ≤ m) : errK n k = 0 := by
  obtain ⟨h1, h2⟩ := errK_zero h
  unfold errK
  rw [if_pos h1, if_neg (by omega)]
theorem merge_f_err (A B : List R4) (k : Int) (hl : A.length ≤ 70000 ∧ B.length ≤ 70000) (h : errK (A.length + B.length) k ≠ 0) (K : Nat) : seepageref05_Merge.f K (A.map toS) (B.map toS) k = some ([], errK (A.length + B.length) k) := by
  unfold seepageref05_Merge.f
  rw [List.length_map, List.length_map, w64 (by omega), ← Int.natCast_add, check_f]
  simp only [Option.bind_some]
  rw [if_neg h]
theorem merge_f_ord (A B : List R4) (k : Int) (h : errK (A.length + B.length) k = 0) (hn : nbr (keyLt k) A = false ∨ nbr (keyLt k) B = false) : ∃ K, seepageref05_Merge.f K (A.map toS) (B.map toS) k = some ([], 8) := by
  obtain ⟨K1, h1⟩ := sorted_f A k (errK_mono h (by omega))
  obtain ⟨K2, h2⟩ := sorted_f B k (errK_mono h (by omega))
  have hm := (errK_zero h).2
  refine ⟨max K1 K2, ?_⟩
  have g1 := up (fun K => seepageref05_Sorted.f K (A.map toS) k) (fun K => seepageref05_Sorted.mono _ _ K) (Nat.le_max_left K1 K2) h1
  have g2 := up (fun K => seepageref05_Sorted.f K (B.map toS) k) (fun K => seepageref05_Sorted.mono _ _ K) (Nat.le_max_right K1 K2) h2
  unfold seepageref05_Merge.f
  rw [List.length_map, List.length_map, w64 (by omega), ← Int.natCast_add, check_f, h]
  simp only [Option.bind_some]
  rw [if_pos trivial, g1, g2]
  simp only [Option.bind_some]
  rcases hn with hn | hn
  · rw [hn, if_neg (by simp)]
  · rw [hn]
    cases nbr (keyLt k) A with
    | true => rw [if_pos rfl, if_neg (by simp)]
    | false => rw [if_neg (by simp)]
theorem mrg_sorted {α : Type} {lt : α → α → Bool} (hw : Weak lt) {A B : List α} (hA : nbr lt A = true) (hB : nbr lt B = true) : mrg lt A B = isort lt (A ++ B) := by
  have h := mrg_isort hw A B
  rw [isort_of_srt ((nbr_iff hw A).1 hA), isort_of_srt ((nbr_iff hw B).1 hB)] at h
  exact h
theorem merge_f (A B : List R4) (k : Int) (h : errK (A.length + B.length) k = 0) (hA : nbr (keyLt k) A = true) (hB : nbr (keyLt k) B = true) : ∃ K, seepageref05_Merge.f K (A.map toS) (B.map toS) k = some ((mrg (keyLt k) A B).map toS, 0) := by
  obtain ⟨K1, h1⟩ := sorted_f A k (errK_mono h (by omega))
  obtain ⟨K2, h2⟩ := sorted_f B k (errK_mono h (by omega))
  obtain ⟨K3, h3⟩ := sort_f (A ++ B) k (by rw [List.length_append]; exact h)
  have hm := (errK_zero h).2
  have g1 := up (fun K => seepageref05_Sorted.f K (A.map toS) k) (fun K => seepageref05_Sorted.mono _ _ K) (show K1 ≤ max K1 (max K2 K3) by omega) h1
  have g2 := up (fun K => seepageref05_Sorted.f K (B.map toS) k) (fun K => seepageref05_Sorted.mono _ _ K) (show K2 ≤ max K1 (max K2 K3) by omega) h2
  have g3 := up (fun K => seepageref05_Sort.f K ((A ++ B).map toS) k) (fun K => seepageref05_Sort.mono _ _ K) (show K3 ≤ max K1 (max K2 K3) by omega) h3
  refine ⟨max K1 (max K2 K3), ?_⟩
  unfold seepageref05_Merge.f
  rw [List.length_map, List.length_map, w64 (by omega), ← Int.natCast_add, check_f, h]
  simp only [Option.bind_some]
  rw [if_pos trivial, g1, g2]
  simp only [Option.bind_some]
  rw [hA, hB, if_pos rfl, if_pos rfl, if_pos (by simp; omega), if_pos (by simp; omega), List.nil_append, ← List.map_append, g3, mrg_sorted (weak_key k) hA hB]
  rfl

/-! lists that are equal; copies -/
theorem same_l0 (l : List R4) (hl : l.length ≤ 70000) (d : Nat) : ∀ i : Nat, i + d = l.length → ∃ K, seepagelaw05_same.l0 K (l.map toS) (l.map toS) (i : Int) = some true := by
  induction d with
  | zero =>
    intro i hi
    refine ⟨1, ?_⟩
    simp only [seepagelaw05_same.l0]
    rw [List.length_map, if_neg (by omega)]
  | succ d ih =>
    intro i hi
    obtain ⟨K, hK⟩ := ih (i + 1) (by omega)
    refine ⟨K + 1, ?_⟩
    simp only [seepagelaw05_same.l0]
    rw [List.length_map, if_pos (by omega), if_pos (by omega), if_pos (by omega), if_neg (by simp), w64 (by omega)]
    exact hK
theorem same_f (l : List R4) (hl : l.length ≤ 70000) : ∃ K, seepagelaw05_same.f K (l.map toS) (l.map toS) = some true := by
  obtain ⟨K, hK⟩ := same_l0 l hl l.length 0 (by omega)
  refine ⟨K, ?_⟩
  unfold seepagelaw05_same.f
  rw [if_pos rfl]
  exact hK
theorem copied_f (l : List R4) (hl : l.length ≤ 70000) : seepagelaw05_copied.f (l.map toS) = some (l.map toS) := by
  unfold seepagelaw05_copied.f
  simp only [Option.bind_some]
  rw [if_pos (by simp; omega)]; rfl
end Go.Proofs.Ytcejgnnkjomjlaa

/- The chapter's example. -/
namespace Go.Proofs.Ytcejgnnkjomjlaa
open Go.RowKit Go.Proofs.YtcejgnnkjomjlaaW.PrintWords
open Go.Proofs.Ytcejgnnkjomjlaa.PMsortMerges

def ex4 : List R4 := [⟨1, 2, 5, 0⟩, ⟨3, 4, 2, 1⟩, ⟨5, 6, 5, 2⟩, ⟨7, 8, -1, 3⟩]
theorem example_any (w : World) : Calls Try.prog 28 #[] w fun e w' => (∃ a c, e = .returned (.slice a 4 c) ∧ 4 ≤ c ∧ RdR w'.heap.size w' a 4 ex4) ∧ Below w.heap.size w w' := by
  refine (seepagelaw05_example.calls (ex4.map toS) w rfl).mono ?_
  rintro e w' ⟨v, rfl, hv, hb⟩
  obtain ⟨a, c, hv, hc, hr⟩ := kd_rd hv
  exact ⟨⟨a, c, by rw [hv]; rfl, hc, hr⟩, hb⟩
theorem ex_perm : isort (ltIdx (keyLt 1) ex4) (idxs 4) = [3, 1, 0, 2] := by decide
theorem ex_inv : inv (keyLt 1) ex4 = 4 := by decide

set_option maxHeartbeats 4000000 in
theorem works_any (w : World) : Calls Try.prog 14 #[] w fun e w' => e = .returned (.bool true) ∧ Below w.heap.size w w' := by
  have hp : ∀ W (a : Option Addr) (c : Nat), RdR W.heap.size W a 4 ex4 → Calls Try.prog 18 #[.slice a 4 c, .int .i64 1] W fun e w' => ∃ g cp, e = .returned (.tuple #[.slice (some ⟨g, 0, none⟩) 4 cp, .int .i64 0]) ∧
      (w'.cell? ⟨g, 0, none⟩ = some (.int .i64 3) ∧ w'.cell? ⟨g, 1, none⟩ = some (.int .i64 1) ∧ w'.cell? ⟨g, 2, none⟩ = some (.int .i64 0) ∧ w'.cell? ⟨g, 3, none⟩ = some (.int .i64 2)) ∧ W.heap.size ≤ g ∧ g < w'.heap.size ∧ Below W.heap.size W w' := by
    intro W a c hr
    refine (perm_ok W a 4 c ex4 1 hr (by decide)).mono ?_
    rintro e w' ⟨v, rfl, hv, hb⟩
    rw [ex_perm] at hv
    obtain ⟨a', cap, rfl, hc, hg⟩ := hv
    obtain ⟨g, tl, rfl, hg0, hB⟩ := hg (by simp)
    exact ⟨g, cap, rfl, ⟨hB.cell 0 (RwI.at tl rfl), hB.cell 1 (RwI.at tl rfl), hB.cell 2 (RwI.at tl rfl), hB.cell 3 (RwI.at tl rfl)⟩, hg0, hB.lt, hb⟩
  have hi : ∀ W (a : Option Addr) (c : Nat), RdR W.heap.size W a 4 ex4 → Calls Try.prog 23 #[.slice a 4 c, .int .i64 1] W fun e w' => e = .returned (.tuple #[.int .i64 4, .int .i64 0]) ∧ Below W.heap.size W w' := by
    intro W a c hr
    have := invs_ok W a 4 c ex4 1 hr (by decide)
    rw [ex_inv] at this
    exact this
  replace hp := Lib.hid hp
  replace hi := Lib.hid hi
  go_enter Try.func14, Try.ntmps14
  go_wp2_with fail
  refine (example_any _).mono ?_
  rintro e w1 ⟨⟨a1, c1, rfl, hc1, hr1⟩, hb1⟩
  replace hr1 := Lib.hid hr1
  replace hb1 := Lib.hid hb1
  go_wp2_with fail
  refine (hp.out _ a1 c1 hr1.out).mono ?_
  rintro e w2 ⟨g, cp, rfl, hcell, hg0, hgl, hb2⟩
  have hb2' := Lib.hid (bel_trans hb1.out hb2)
  replace hcell := Lib.hid hcell
  clear hb2
  go_wp2_with fail
  refine (example_any _).mono ?_
  rintro e w3 ⟨⟨a3, c3, rfl, hc3, hr3⟩, hb3⟩
  have hcell3 : w3.cell? ⟨g, 0, none⟩ = some (.int .i64 3) ∧ w3.cell? ⟨g, 1, none⟩ = some (.int .i64 1) ∧ w3.cell? ⟨g, 2, none⟩ = some (.int .i64 0) ∧ w3.cell? ⟨g, 3, none⟩ = some (.int .i64 2) :=
    ⟨(hb3.cell (p := ⟨g, 0, none⟩) hgl).trans hcell.out.1, (hb3.cell (p := ⟨g, 1, none⟩) hgl).trans hcell.out.2.1, (hb3.cell (p := ⟨g, 2, none⟩) hgl).trans hcell.out.2.2.1, (hb3.cell (p := ⟨g, 3, none⟩) hgl).trans hcell.out.2.2.2⟩
  have hb3' := Lib.hid (bel_trans hb2'.out hb3)
  have hgl3 : g < w3.heap.size := Nat.lt_of_lt_of_le hgl hb3.size
  replace hr3 := Lib.hid hr3
  replace hcell3 := Lib.hid hcell3
  clear hb3 hcell
  go_wp2_with fail
  refine (hi.out _ a3 c3 hr3.out).mono ?_
  rintro e w4 ⟨rfl, hb4⟩
  have d0 := (hb4.cell (p := ⟨g, 0, none⟩) hgl3).trans hcell3.out.1
  have d1 := (hb4.cell (p := ⟨g, 1, none⟩) hgl3).trans hcell3.out.2.1
  have d2 := (hb4.cell (p := ⟨g, 2, none⟩) hgl3).trans hcell3.out.2.2.1
  have d3 := (hb4.cell (p := ⟨g, 3, none⟩) hgl3).trans hcell3.out.2.2.2
  have hb4' := Lib.hid (bel_trans hb3'.out hb4)
  clear hb4 hcell3
  go_wp2_with fail
  go_ret
  exact ⟨rfl, hb4'.out⟩

/-! Less of whatever key -/
def lessB (k : Int) (a b : R4) : Bool := if 1 ≤ k ∧ k ≤ 3 then keyLt k a b else false
def errL (k : Int) : Int := if 1 ≤ k ∧ k ≤ 3 then 0 else 2
theorem less_any (a b : R4) (k : Int) (w : World) : Calls Try.prog 12 #[a.val, b.val, .int .i64 k] w fun e w' => e = .returned (.tuple #[.bool (lessB k a b), .int .i64 (errL k)]) ∧ Below w.heap.size w w' := by
  unfold lessB errL
  by_cases h : 1 ≤ k ∧ k ≤ 3
  · rw [if_pos h, if_pos h]
    rcases key_cases h with rfl | rfl | rfl
    · exact less_1 a b w
    · exact less_2 a b w
    · exact less_3 a b w
  · rw [if_neg h, if_neg h]
    exact less_no a b k w (by omega) (by omega) (by omega)
theorem rless_any (a b : R4) (k : Int) (w : World) : Calls Try.prog 13 #[a.val, b.val, .int .i64 k] w fun e w' => e = .returned (.tuple #[.bool (lessB k a b), .int .i64 (errL k)]) ∧ Below w.heap.size w w' := by
  unfold lessB errL
  by_cases h : 1 ≤ k ∧ k ≤ 3
  · rw [if_pos h, if_pos h]; exact rless_yes a b k w h
  · rw [if_neg h, if_neg h]; exact rless_no a b k w h

set_option maxHeartbeats 4000000 in
theorem msortless_walk (w : World) (a b : R4) (k : Int) : Calls Try.prog 3 #[a.val, b.val, .int .i64 k] w fun e w' => e = .returned (.bool true) ∧ Below w.heap.size w w' := by
  have hB := two_boxes w a b
  have hl := fun W => less_any a b k W
  have hl2 := fun W => rless_any a b k W
  obtain ⟨r, hr⟩ : ∃ r, lessB k a b = r := ⟨_, rfl⟩
  obtain ⟨E, hE⟩ : ∃ r, errL k = r := ⟨_, rfl⟩
  rw [hr, hE] at hl hl2
  clear hr hE
  have c0 := hB.1.cell 0 (v := .int .u64 a.u) rfl
  have c1 := hB.1.cell 1 (v := .int .u64 a.v) rfl
  have c2 := hB.1.cell 2 (v := .int .i64 a.w) rfl
  have c3 := hB.1.cell 3 (v := .int .i64 a.t) rfl
  have d0 := hB.2.1.cell 0 (v := .int .u64 b.u) rfl
  have d1 := hB.2.1.cell 1 (v := .int .u64 b.v) rfl
  have d2 := hB.2.1.cell 2 (v := .int .i64 b.w) rfl
  have d3 := hB.2.1.cell 3 (v := .int .i64 b.t) rfl
  replace hB := Lib.hid hB
  replace hl := Lib.hid hl
  replace hl2 := Lib.hid hl2
  go_enter Try.func3, Try.ntmps3
  go_wp2_with fail
  generalize (w.alloc (.cells a.cs 24)).alloc (.cells b.cs 24) = W at *
  refine (hl.out _).mono ?_
  rintro e w1 ⟨rfl, hb1⟩
  have e0 := (hb1.cell (p := ⟨w.heap.size, 0, none⟩) (World.block_lt_of_cell? _ _ c0)).trans c0
  have e1 := (hb1.cell (p := ⟨w.heap.size, 1, none⟩) (World.block_lt_of_cell? _ _ c1)).trans c1
  have e2 := (hb1.cell (p := ⟨w.heap.size, 2, none⟩) (World.block_lt_of_cell? _ _ c2)).trans c2
  have e3 := (hb1.cell (p := ⟨w.heap.size, 3, none⟩) (World.block_lt_of_cell? _ _ c3)).trans c3
  have f0 := (hb1.cell (p := ⟨w.heap.size + 1, 0, none⟩) (World.block_lt_of_cell? _ _ d0)).trans d0
  have f1 := (hb1.cell (p := ⟨w.heap.size + 1, 1, none⟩) (World.block_lt_of_cell? _ _ d1)).trans d1
  have f2 := (hb1.cell (p := ⟨w.heap.size + 1, 2, none⟩) (World.block_lt_of_cell? _ _ d2)).trans d2
  have f3 := (hb1.cell (p := ⟨w.heap.size + 1, 3, none⟩) (World.block_lt_of_cell? _ _ d3)).trans d3
  have hb1' := Lib.hid (bel_trans hB.out.2.2 hb1)
  clear hb1 c0 c1 c2 c3 d0 d1 d2 d3
  go_wp2_with fail
  refine (hl2.out _).mono ?_
  rintro e w2 ⟨rfl, hb2⟩
  have hb2' := Lib.hid (bel_trans hb1'.out hb2)
  clear hb2 e0 e1 e2 e3 f0 f1 f2 f3
  have hr : (r == r) = true := by simp
  have hE : (E == E) = true := by simp
  go_wp2_with fail
  refine (works_any _).mono ?_
  rintro e w3 ⟨rfl, hb3⟩
  have hb3' := Lib.hid (bel_trans hb2'.out hb3)
  clear hb3
  go_wp2_with fail
  go_ret
  exact ⟨rfl, hb3'.out⟩
end Go.Proofs.Ytcejgnnkjomjlaa

/- Slices of structs of whole numbers that came in, as tables. -/
namespace Go.Proofs.Ytcejgnnkjomjlaa
open Go.RowKit

/-- the struct type t is of whole numbers of these kinds, a cell each -/
def IntStruct (P : Program) (t : Nat) (ks : List IntKind) : Prop :=
  ∃ fs : Array Field, P.underlying t = some (.struct fs) ∧ P.cellsOf t = ks.length ∧ ∀ i k, ks[i]? = some k → ∃ f : Field, fs[i]? = some f ∧ P.underlying f.type = some (.int k) ∧ f.offset = i ∧ P.cellsOf f.type = 1

/-- a slice's value leads, below n₀, to this table of numbers -/
def RT (n₀ : Nat) (w : World) (ks : List IntKind) (a : Option Addr) (len : Nat) (G : Nat → Nat → Int) : Prop :=
  0 < len → ∃ b off, a = some ⟨b, off, none⟩ ∧ b < n₀ ∧ ∀ j, j < len → ∀ i k, ks[i]? = some k → w.cell? ⟨b, off + j * ks.length + i, none⟩ = some (.int k (G j i)) ∧ (Lit.int k (G j i)).wf = true

theorem RT.below {n₀ : Nat} {w w' : World} {ks : List IntKind} {a : Option Addr} {len : Nat} {G : Nat → Nat → Int} (h : RT n₀ w ks a len G) (hb : Below n₀ w w') : RT n₀ w' ks a len G := fun hp => by
  obtain ⟨b, off, ha, hlt, hc⟩ := h hp
  exact ⟨b, off, ha, hlt, fun j hj i k hk => ⟨(hb.cell (p := ⟨b, off + j * ks.length + i, none⟩) hlt).trans (hc j hj i k hk).1, (hc j hj i k hk).2⟩⟩

theorem IntStruct.cells {H : Type} {enc : TypeId × Value → H} {P : Program} {w : World} {base : Nat} {spare : Nat → Bool} {held : Bool} {fuel t : Nat} {ks : List IntKind} {cs : List Value} {x : DataW H × List MemPlace} (hs : IntStruct P t ks) (h : DataW.trod enc P w base spare held fuel t cs = some x) :
    ∃ g : Nat → Int, ∀ i k, ks[i]? = some k → cs[i]? = some (.int k (g i)) ∧ (Lit.int k (g i)).wf = true := by
  obtain ⟨fs, hu, hc, hf⟩ := hs
  obtain ⟨xs, n, _, rfl, hl, hlen, hx⟩ := DataW.trod_struct hu h
  have hall : ∀ i, i < ks.length → ∃ n : Int, ∀ k, ks[i]? = some k → cs[i]? = some (.int k n) ∧ (Lit.int k n).wf = true := fun i hi => by
    obtain ⟨f, h1, h2, h3, h4⟩ := hf i _ (List.getElem?_eq_getElem hi)
    have := hx i f h1
    rw [h3, h4] at this
    have hlt : i < xs.length := by
      rw [hlen]
      by_cases hc : i < fs.size
      · exact hc
      · rw [Array.getElem?_eq_none (by omega)] at h1; cases h1
    rw [List.getElem?_eq_getElem hlt] at this
    obtain ⟨m, e1, _, e3⟩ := DataW.trod_int h2 this
    refine ⟨m, fun k hk => ?_⟩
    rw [List.getElem?_eq_getElem hi] at hk
    cases hk
    have hd : cs[i]? = (List.take 1 (List.drop i cs))[0]? := by simp
    rw [hd, e1]
    exact ⟨rfl, e3⟩
  obtain ⟨g, hg⟩ := Go.Deep.choose_lt hall
  refine ⟨g, fun i k hk => ?_⟩
  have hi : i < ks.length := by
    by_cases hc : i < ks.length
    · exact hc
    · rw [List.getElem?_eq_none (by omega)] at hk; cases hk
  exact hg i hi k hk

/-- a slice of such structs that came in -/
theorem open_table {H : Type} {enc : TypeId × Value → H} {P : Program} {w : World} {base : Nat} {spare : Nat → Bool} {held : Bool} {t e : Nat} {ks : List IntKind} {a : Option Addr} {len cap : Nat} {d : DataW H} {ps : List MemPlace} (hu : P.underlying t = some (.slice e)) (hs : IntStruct P e ks) (hk0 : 0 < ks.length)
    (h : DataW.Trod enc P w base spare held t (.slice a len cap) d ps) : ∃ G, len ≤ cap ∧ cap ≤ maxLen ∧ RT w.heap.size w ks a len G := by
  obtain ⟨fuel, hf⟩ := h
  rcases Go.Deep.open_slice hu hf with ⟨hcs, _⟩ | ⟨a, len', cap', m, n, D, Pl, hcs, hb, hl, hm, hmm, _, hx⟩
  · simp [Value.cells] at hcs
    obtain ⟨rfl, rfl, rfl⟩ := hcs
    exact ⟨fun _ _ => 0, Nat.le_refl _, by unfold maxLen; omega, fun h => absurd h (by omega)⟩
  · simp [Value.cells] at hcs
    obtain ⟨rfl, rfl, rfl⟩ := hcs
    have hlm : len ≤ m := by rw [hmm]; split <;> omega
    have hall : ∀ j, j < len → ∃ g : Nat → Int, ∀ i k, ks[i]? = some k → w.cell? (a.add (j * ks.length + i)) = some (.int k (g i)) ∧ (Lit.int k (g i)).wf = true := fun j hj => by
      obtain ⟨cs', h1, h2⟩ := hx j (by omega)
      obtain ⟨g, hg⟩ := hs.cells h2
      obtain ⟨fs, _, hc, _⟩ := hs
      rw [hc] at h1
      obtain ⟨_, hlen, hcell⟩ := World.cells?_some h1
      refine ⟨g, fun i k hk => ?_⟩
      have hi : i < ks.length := by
        by_cases hc : i < ks.length
        · exact hc
        · rw [List.getElem?_eq_none (by omega)] at hk; cases hk
      obtain ⟨g1, g2⟩ := hg i k hk
      refine ⟨?_, g2⟩
      rw [← g1, ← hcell i hi]
      congr 1
      unfold Addr.add
      by_cases e1 : j * ks.length = 0
      · rw [e1]; simp
      · by_cases e2 : i = 0
        · subst e2; simp [e1]
        · rw [if_neg (by omega), if_neg e2, if_neg e1]; simp; omega
    obtain ⟨G, hG⟩ := Go.Deep.choose_lt hall
    refine ⟨G, hl, hm, fun hp => ?_⟩
    have h00 := (hG 0 hp 0 _ (List.getElem?_eq_getElem hk0)).1
    obtain ⟨b, off, spot⟩ := a
    have hspot : spot = none := by simpa [Addr.add] using World.cell?_spot h00
    subst hspot
    refine ⟨b, off, rfl, ?_, fun j hj i k hk => ?_⟩
    · have := World.block_lt_of_cell? _ _ h00
      simpa [Addr.add] using this
    · obtain ⟨g1, g2⟩ := hG j hj i k hk
      refine ⟨?_, g2⟩
      rw [← g1]
      congr 1
      unfold Addr.add
      split
      · rename_i e; rw [Nat.add_assoc, e]; rfl
      · simp; omega

end Go.Proofs.Ytcejgnnkjomjlaa

/- Records that came in. -/
namespace Go.Proofs.Ytcejgnnkjomjlaa
open Go.RowKit Go.WideShapes

abbrev recK : List IntKind := [.u64, .u64, .i64, .i64]
theorem rec_struct : IntStruct Try.prog 24 recK := by
  refine ⟨_, Try.underlying24, by kernel_rfl, fun i k h => ?_⟩
  match i, h with
  | 0, h => injection h with h; subst h; exact ⟨_, rfl, by kernel_rfl, rfl, by kernel_rfl⟩
  | 1, h => injection h with h; subst h; exact ⟨_, rfl, by kernel_rfl, rfl, by kernel_rfl⟩
  | 2, h => injection h with h; subst h; exact ⟨_, rfl, by kernel_rfl, rfl, by kernel_rfl⟩
  | 3, h => injection h with h; subst h; exact ⟨_, rfl, by kernel_rfl, rfl, by kernel_rfl⟩
theorem open_rec {H : Type} {enc : TypeId × Value → H} {w : World} {base b0 : Nat} {spare : Nat → Bool} {held : Bool} {r : Reach} {v : Value} {d : DataW H} {p : List MemPlace}
    (hv : Value.okWide Try.prog w r b0 24 v) (h : DataW.Trod enc Try.prog w base spare held 24 v d p) : ∃ r : R4, v = r.val := by
  obtain ⟨cs, rfl, hsz⟩ := okWide_struct Try.underlying24 hv
  obtain ⟨fuel, hf⟩ := h
  obtain ⟨g, hg⟩ := rec_struct.cells hf
  have hc4 : cs.size = 4 := hsz.trans (by kernel_rfl)
  refine ⟨⟨g 0, g 1, g 2, g 3⟩, ?_⟩
  congr 1
  apply Array.ext
  · simpa using hc4
  · intro i h1 h2
    have hi : i < 4 := by omega
    match i, hi with
    | 0, _ => have h := (hg 0 _ rfl).1; simp [Value.cells] at h; simpa [Array.getElem?_eq_getElem h1] using h
    | 1, _ => have h := (hg 1 _ rfl).1; simp [Value.cells] at h; simpa [Array.getElem?_eq_getElem h1] using h
    | 2, _ => have h := (hg 2 _ rfl).1; simp [Value.cells] at h; simpa [Array.getElem?_eq_getElem h1] using h
    | 3, _ => have h := (hg 3 _ rfl).1; simp [Value.cells] at h; simpa [Array.getElem?_eq_getElem h1] using h
theorem msortless_row {H : Type} {enc : TypeId × Value → H} (w : World) {base b0 : Nat} {sp sp' : Nat → Bool} {he he' : Bool} {r r' : Reach} {d : DataW H} {p : List MemPlace} (v : Value)
    (hv : Value.okWide Try.prog w r b0 24 v) (h : DataW.Trod enc Try.prog w base sp he 24 v d p) {d' : DataW H} {p' : List MemPlace} (v' : Value)
    (hv' : Value.okWide Try.prog w r' b0 24 v') (h' : DataW.Trod enc Try.prog w base sp' he' 24 v' d' p') (k : Int) (_hk : (Lit.int .i64 k).wf = true) :
    Calls Try.prog 3 #[v, v', .int .i64 k] w fun e w' => e = .returned (.bool true) ∧ Below w.heap.size w w' := by
  obtain ⟨a, rfl⟩ := open_rec hv h
  obtain ⟨b, rfl⟩ := open_rec hv' h'
  exact msortless_walk w a b k

/-- a table of numbers as records -/
def recs (len : Nat) (G : Nat → Nat → Int) : List R4 := (List.range len).map fun j => ⟨G j 0, G j 1, G j 2, G j 3⟩
theorem recs_length (len : Nat) (G : Nat → Nat → Int) : (recs len G).length = len := by simp [recs]
theorem RT.rd {n₀ : Nat} {w : World} {a : Option Addr} {len : Nat} {G : Nat → Nat → Int} (h : RT n₀ w recK a len G) : RdR n₀ w a len (recs len G) := by
  refine ⟨recs_length len G, fun hp => ?_⟩
  obtain ⟨b, off, ha, hlt, hc⟩ := h hp
  refine ⟨b, off, ha, hlt, fun i r hr j hj => ?_⟩
  have hi : i < len := by
    rcases Nat.lt_or_ge i (recs len G).length with h | h
    · rw [recs_length] at h; exact h
    · rw [List.getElem?_eq_none h] at hr; cases hr
  have hr' : (⟨G i 0, G i 1, G i 2, G i 3⟩ : R4) = r := by
    unfold recs at hr
    rw [List.getElem?_map, List.getElem?_range hi] at hr
    injection hr
  subst hr'
  have e : off + (i * 4 + j) = off + i * recK.length + j := by simp; omega
  rw [e]
  match j, hj with
  | 0, _ => exact (hc i hi 0 _ rfl).1
  | 1, _ => exact (hc i hi 1 _ rfl).1
  | 2, _ => exact (hc i hi 2 _ rfl).1
  | 3, _ => exact (hc i hi 3 _ rfl).1
end Go.Proofs.Ytcejgnnkjomjlaa
