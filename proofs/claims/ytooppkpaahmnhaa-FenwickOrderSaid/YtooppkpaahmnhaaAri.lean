/- Plain laws of sums that are kept in a tree of nodes. -/
import Derived.Test.YtooppkpaahmnhaaPre
namespace Go.Proofs.Ytooppkpaahmnhaa
open Go.RowKit Go.Shelf

/-- the sum of the first counters -/
def pre (xs : List Int) (k : Nat) : Int := (xs.take k).sum
theorem pre_zero (xs : List Int) : pre xs 0 = 0 := by simp [pre]
theorem pre_nil (k : Nat) : pre [] k = 0 := by simp [pre]
theorem pre_succ (xs : List Int) (k : Nat) : pre xs (k + 1) = pre xs k + xs[k]?.getD 0 := by
  unfold pre
  by_cases h : k < xs.length
  · rw [List.take_add_one, List.sum_append, List.getElem?_eq_getElem h]; simp
  · rw [List.take_of_length_le (by omega), List.take_of_length_le (by omega), List.getElem?_eq_none (by omega)]; simp
theorem pre_all (xs : List Int) {k : Nat} (h : xs.length ≤ k) : pre xs k = xs.sum := by rw [pre, List.take_of_length_le h]
theorem pre_clip (xs : List Int) (k : Nat) : pre xs (min k xs.length) = pre xs k := by
  by_cases h : k ≤ xs.length
  · rw [Nat.min_eq_left h]
  · rw [Nat.min_eq_right (by omega), pre_all xs (Nat.le_refl _), pre_all xs (by omega)]
theorem at_pos {xs : List Int} (h : ∀ x ∈ xs, 0 ≤ x) (k : Nat) : 0 ≤ xs[k]?.getD 0 := by
  by_cases hk : k < xs.length
  · rw [List.getElem?_eq_getElem hk]; exact h _ (List.getElem_mem hk)
  · rw [List.getElem?_eq_none (by omega)]; simp
theorem pre_mono {xs : List Int} (h : ∀ x ∈ xs, 0 ≤ x) {a b : Nat} (hab : a ≤ b) : pre xs a ≤ pre xs b := by
  obtain ⟨c, rfl⟩ := Nat.exists_eq_add_of_le hab
  induction c with
  | zero => simp
  | succ c ih => have := at_pos h (a + c); rw [show a + (c + 1) = a + c + 1 by omega, pre_succ]; have := ih (by omega); omega
theorem pre_nonneg {xs : List Int} (h : ∀ x ∈ xs, 0 ≤ x) (a : Nat) : 0 ≤ pre xs a := by
  have := pre_mono h (Nat.zero_le a); rwa [pre_zero] at this
theorem pre_le_sum {xs : List Int} (h : ∀ x ∈ xs, 0 ≤ x) (a : Nat) : pre xs a ≤ xs.sum := by
  rw [← pre_clip, ← pre_all xs (Nat.le_refl _)]; exact pre_mono h (Nat.min_le_right _ _)
theorem at_le_sum {xs : List Int} (h : ∀ x ∈ xs, 0 ≤ x) (k : Nat) : xs[k]?.getD 0 ≤ xs.sum := by
  have h1 := pre_succ xs k; have h2 := pre_nonneg h k; have h3 := pre_le_sum h (k + 1); omega

def node (xs : List Int) (k : Nat) : Int := pre xs k - pre xs (k - lo k)
def nodes (xs : List Int) : List Int := (List.range (xs.length + 1)).map (node xs)
theorem nodes_length (xs : List Int) : (nodes xs).length = xs.length + 1 := by simp [nodes]
theorem nodes_get (xs : List Int) {k : Nat} (h : k ≤ xs.length) : (nodes xs)[k]? = some (node xs k) := by
  simp [nodes, List.getElem?_map, List.getElem?_range (show k < xs.length + 1 by omega)]
theorem nodes_getD (xs : List Int) {k : Nat} (h : k ≤ xs.length) : (nodes xs)[k]?.getD 0 = node xs k := by rw [nodes_get xs h]; rfl
theorem node_range {xs : List Int} (h : ∀ x ∈ xs, 0 ≤ x) (k : Nat) : 0 ≤ node xs k ∧ node xs k ≤ xs.sum := by
  have h1 := pre_mono h (Nat.sub_le k (lo k)); have h2 := pre_nonneg h (k - lo k); have h3 := pre_le_sum h k
  unfold node; omega

theorem path_le : ∀ (k : Nat), ∀ j ∈ dpath k, j ≤ k := by
  intro k
  induction k using Nat.strongRecOn with
  | _ k ih =>
    by_cases h : k = 0
    · subst h; rw [dpath_zero]; simp
    · rw [dpath_pos k (by omega)]
      have hb := lo_bounds k (by omega)
      intro j hj
      rcases List.mem_cons.1 hj with rfl | hj
      · omega
      · have := ih _ (by omega) j hj; omega
theorem path_sum (xs : List Int) : ∀ (k : Nat), ((dpath k).map (node xs)).sum = pre xs k := by
  intro k
  induction k using Nat.strongRecOn with
  | _ k ih =>
    by_cases h : k = 0
    · subst h; rw [dpath_zero, pre_zero]; rfl
    · rw [dpath_pos k (by omega), List.map_cons, List.sum_cons, ih _ (by have := lo_bounds k (by omega); omega)]
      unfold node; omega
theorem path_nodes (xs : List Int) {k : Nat} (h : k ≤ xs.length) : ((dpath k).map fun j => (nodes xs)[j]?.getD 0).sum = pre xs k := by
  rw [← path_sum]
  congr 1
  exact List.map_congr_left fun j hj => nodes_getD xs (Nat.le_trans (path_le k j hj) h)

theorem pre_set (xs : List Int) {i : Nat} (hi : i < xs.length) (v : Int) : ∀ (k : Nat), pre (xs.set i v) k = pre xs k + if i < k then v - xs[i]?.getD 0 else 0 := by
  intro k
  induction k with
  | zero => simp [pre]
  | succ k ih =>
    rw [pre_succ, pre_succ, ih]
    by_cases e : i = k
    · subst e
      rw [List.getElem?_set_self hi, if_neg (by omega), if_pos (by omega)]; simp only [Option.getD_some]; omega
    · rw [List.getElem?_set_ne e]
      by_cases h : i < k
      · rw [if_pos h, if_pos (by omega)]; omega
      · rw [if_neg h, if_neg (by omega)]; omega
theorem sum_set (xs : List Int) {i : Nat} (hi : i < xs.length) (v : Int) : (xs.set i v).sum = xs.sum + (v - xs[i]?.getD 0) := by
  have := pre_set xs hi v xs.length
  rw [pre_all _ (by simp), pre_all _ (Nat.le_refl _), if_pos hi] at this
  exact this

instance (m k : Nat) : Decidable (Cov m k) := by unfold Cov; infer_instance
theorem node_set (xs : List Int) {i : Nat} (hi : i < xs.length) (v : Int) (k : Nat) (_hk : 0 < k) : node (xs.set i v) k = node xs k + if Cov k (i + 1) then v - xs[i]?.getD 0 else 0 := by
  unfold node
  rw [pre_set xs hi, pre_set xs hi]
  by_cases h1 : i < k
  · by_cases h2 : i < k - lo k
    · rw [if_pos h1, if_pos h2, if_neg (fun h : Cov k (i + 1) => by have := h.1; omega)]; omega
    · rw [if_pos h1, if_neg h2, if_pos (show Cov k (i + 1) from ⟨by omega, by omega⟩)]; omega
  · rw [if_neg h1, if_neg (show ¬ i < k - lo k by omega), if_neg (fun h : Cov k (i + 1) => by have := h.2; omega)]; omega
theorem node_zero (xs : List Int) : node xs 0 = 0 := by simp [node]

theorem upath_mem (n k : Nat) : ∀ (j : Nat), 0 < j → (k ∈ upath n j ↔ k ≤ n ∧ Cov k j) := by
  suffices h : ∀ (t j : Nat), n + 1 - j = t → 0 < j → (k ∈ upath n j ↔ k ≤ n ∧ Cov k j) from fun j => h _ j rfl
  intro t
  induction t using Nat.strongRecOn with
  | _ t ih =>
    intro j ht hj
    by_cases hn : j ≤ n
    · rw [upath_go n j ⟨hj, hn⟩, List.mem_cons, ih (n + 1 - (j + lo j)) (by have := lo_bounds j hj; omega) (j + lo j) rfl (by omega), cov_step j k hj]
      have := lo_bounds j hj
      constructor
      · rintro (rfl | ⟨h1, h2⟩)
        · exact ⟨hn, .inl rfl⟩
        · exact ⟨h1, .inr h2⟩
      · rintro ⟨h1, rfl | h2⟩
        · exact .inl rfl
        · exact .inr ⟨h1, h2⟩
    · rw [upath_end n j (by omega)]
      constructor
      · intro h; cases h
      · rintro ⟨h1, h2, h3⟩; omega
theorem upath_nodup (n : Nat) : ∀ (j : Nat), 0 < j → (upath n j).Nodup := by
  suffices h : ∀ (t j : Nat), n + 1 - j = t → 0 < j → (upath n j).Nodup from fun j => h _ j rfl
  intro t
  induction t using Nat.strongRecOn with
  | _ t ih =>
    intro j ht hj
    by_cases hn : j ≤ n
    · have := lo_bounds j hj
      rw [upath_go n j ⟨hj, hn⟩, List.nodup_cons]
      refine ⟨fun hm => ?_, ih (n + 1 - (j + lo j)) (by omega) (j + lo j) rfl (by omega)⟩
      have := ((upath_mem n j (j + lo j) (by omega)).1 hm).2.2
      omega
    · rw [upath_end n j (by omega)]; exact List.nodup_nil

/-- an amount is added to some nodes, as it wraps -/
def bump (d : Int) (ns : List Int) (ks : List Nat) : List Int := ks.foldl (fun ns k => ns.set k (wrap64 (ns[k]?.getD 0 + d))) ns
theorem bump_nil (d : Int) (ns : List Int) : bump d ns [] = ns := rfl
theorem bump_snoc (d : Int) (ns : List Int) (ks : List Nat) (k : Nat) : bump d ns (ks ++ [k]) = (bump d ns ks).set k (wrap64 ((bump d ns ks)[k]?.getD 0 + d)) := by simp [bump]
theorem bump_length (d : Int) (ns : List Int) (ks : List Nat) : (bump d ns ks).length = ns.length := by
  induction ks generalizing ns with
  | nil => rfl
  | cons k ks ih => show (bump d (ns.set k _) ks).length = _; rw [ih]; simp
theorem bump_get (d : Int) (k : Nat) : ∀ (ks : List Nat) (ns : List Int), ks.Nodup → k < ns.length → (bump d ns ks)[k]? = some (if k ∈ ks then wrap64 (ns[k]?.getD 0 + d) else ns[k]?.getD 0) := by
  intro ks
  induction ks with
  | nil => intro ns _ h; rw [bump_nil, List.getElem?_eq_getElem h]; simp
  | cons j ks ih =>
    intro ns hn h
    obtain ⟨hj, hk⟩ := List.nodup_cons.1 hn
    show (bump d (ns.set j _) ks)[k]? = _
    rw [ih _ hk (by simpa using h)]
    by_cases e : j = k
    · subst e
      rw [if_neg hj, if_pos (by simp), List.getElem?_set_self h]; rfl
    · rw [List.getElem?_set_ne e]
      simp [List.mem_cons, show k ≠ j from fun h => e h.symm]
theorem w64 {n : Int} (h0 : -9223372036854775808 ≤ n) (h1 : n ≤ 9223372036854775807) : wrap64 n = n := by unfold wrap64; omega
theorem bump_nodes {xs : List Int} {i : Nat} (hi : i < xs.length) {v d : Int} (hd : v - xs[i]?.getD 0 = d) (h : ∀ x ∈ xs.set i v, 0 ≤ x) (ht : (xs.set i v).sum ≤ 9223372036854775807) :
    bump d (nodes xs) (upath xs.length (i + 1)) = nodes (xs.set i v) := by
  apply List.ext_getElem?
  intro k
  by_cases hk : k ≤ xs.length
  · rw [bump_get d k _ _ (upath_nodup _ _ (by omega)) (by rw [nodes_length]; omega), nodes_get (xs.set i v) (by simpa using hk), nodes_getD xs hk]
    congr 1
    by_cases h0 : k = 0
    · subst h0
      rw [if_neg (fun hm => by have := ((upath_mem _ _ _ (by omega)).1 hm).2.2; omega), node_zero, node_zero]
    · have hr := node_range h k
      rw [node_set xs hi v k (by omega), hd] at *
      by_cases hc : Cov k (i + 1)
      · rw [if_pos hc] at *
        rw [if_pos ((upath_mem _ _ _ (by omega)).2 ⟨hk, hc⟩), w64 (by omega) (by omega)]
      · rw [if_neg hc, if_neg (fun hm => hc ((upath_mem _ _ _ (by omega)).1 hm).2)]; omega
  · rw [List.getElem?_eq_none (by rw [bump_length, nodes_length]; omega), List.getElem?_eq_none (by rw [nodes_length]; simp; omega)]

theorem pow_pos2 (e : Nat) : 0 < 2 ^ e := Nat.two_pow_pos e
theorem lo_pow : ∀ (e a : Nat), lo (a * 2 ^ (e + 1) + 2 ^ e) = 2 ^ e := by
  intro e
  induction e with
  | zero => intro a; rw [show a * 2 ^ (0 + 1) + 2 ^ 0 = 2 * a + 1 by simp [Nat.mul_comm], lo_odd]
  | succ e ih =>
    intro a
    have h := pow_pos2 e
    rw [show a * 2 ^ (e + 1 + 1) + 2 ^ (e + 1) = 2 * (a * 2 ^ (e + 1) + 2 ^ e) by rw [Nat.pow_succ 2 (e + 1), ← Nat.mul_assoc, Nat.pow_succ 2 e]; omega, lo_even _ (by omega), ih, Nat.pow_succ]
    omega

/-- the search is at a counter, and the unit lies in less than so many counters from there on -/
def Fi (xs : List Int) (x : Int) (at_ q : Nat) : Prop := (∃ a, at_ = a * q) ∧ at_ ≤ xs.length ∧ pre xs at_ ≤ x ∧ (xs.length < at_ + q ∨ x < pre xs (at_ + q))
theorem fi_start {xs : List Int} {x : Int} (h0 : 0 ≤ x) (hn : xs.length ≤ 65536) : Fi xs x 0 (2 ^ 17) := by
  refine ⟨⟨0, by simp⟩, by omega, by rw [pre_zero]; exact h0, .inl ?_⟩
  have : (2 : Nat) ^ 17 = 131072 := rfl
  rw [this]; omega
theorem fi_node {xs : List Int} {x : Int} {at_ e : Nat} (h : Fi xs x at_ (2 ^ (e + 1))) : node xs (at_ + 2 ^ e) = pre xs (at_ + 2 ^ e) - pre xs at_ := by
  obtain ⟨⟨a, ha⟩, _⟩ := h
  subst ha
  unfold node
  rw [lo_pow, Nat.add_sub_cancel]
theorem fi_go {xs : List Int} {x : Int} {at_ e : Nat} (h : Fi xs x at_ (2 ^ (e + 1))) (hk : at_ + 2 ^ e ≤ xs.length) (hx : pre xs (at_ + 2 ^ e) ≤ x) : Fi xs x (at_ + 2 ^ e) (2 ^ e) := by
  obtain ⟨⟨a, ha⟩, h1, h2, h3⟩ := h
  refine ⟨⟨2 * a + 1, ?_⟩, hk, hx, ?_⟩
  · rw [ha, Nat.pow_succ, Nat.add_mul, Nat.one_mul]; congr 1; rw [Nat.mul_comm 2 a, Nat.mul_assoc, Nat.mul_comm 2]
  · rw [show at_ + 2 ^ e + 2 ^ e = at_ + 2 ^ (e + 1) by rw [Nat.pow_succ]; omega]; exact h3
theorem fi_stay {xs : List Int} {x : Int} {at_ e : Nat} (h : Fi xs x at_ (2 ^ (e + 1))) (hk : xs.length < at_ + 2 ^ e ∨ x < pre xs (at_ + 2 ^ e)) : Fi xs x at_ (2 ^ e) := by
  obtain ⟨⟨a, ha⟩, h1, h2, h3⟩ := h
  refine ⟨⟨2 * a, ?_⟩, h1, h2, hk⟩
  rw [ha, Nat.pow_succ, Nat.mul_comm 2 a, Nat.mul_assoc, Nat.mul_comm 2]
theorem fi_end {xs : List Int} {x : Int} {at_ : Nat} (h : Fi xs x at_ (2 ^ 0)) (hx : x < xs.sum) : at_ < xs.length ∧ pre xs at_ ≤ x ∧ x < pre xs (at_ + 1) := by
  obtain ⟨_, h1, h2, h3⟩ := h
  rw [show (2 : Nat) ^ 0 = 1 from rfl] at h3
  have hl : at_ < xs.length := by
    rcases Nat.lt_or_ge at_ xs.length with h | h
    · exact h
    · rw [pre_all xs h] at h2; omega
  refine ⟨hl, h2, ?_⟩
  rcases h3 with h3 | h3
  · omega
  · exact h3

end Go.Proofs.Ytooppkpaahmnhaa
