/- Plain laws of stable sorting: insertion, merging, inversions. -/
import Derived.Test.YtcejgnnkjomjlaaA1
import Derived.Maps.AppendAt
import Derived.Laws.OwnMore
import Derived.OwnWalk
import Derived.Laws.MakeOwn

namespace Go.Proofs.Ytcejgnnkjomjlaa

/-- which of two is before the other one: a strict weak order -/
structure Weak {α : Type} (lt : α → α → Bool) : Prop where
  asymm : ∀ a b, lt a b = true → lt b a = false
  neg : ∀ a b c, lt a b = false → lt b c = false → lt a c = false

section
variable {α β : Type} {lt : α → α → Bool}
theorem Weak.irrefl (h : Weak lt) (a : α) : lt a a = false := by
  cases e : lt a a with
  | false => rfl
  | true => have := h.asymm a a e; rw [e] at this; exact this
theorem Weak.trans (h : Weak lt) {a b c : α} (h1 : lt a b = true) (h2 : lt b c = true) : lt a c = true := by
  cases e : lt a c with
  | true => rfl
  | false =>
    have := h.neg a c b e (h.asymm b c h2)
    rw [h1] at this; exact absurd this (by simp)

/-- x is put ahead of the first one that it is before -/
def insr (lt : α → α → Bool) (x : α) : List α → List α
  | [] => [x]
  | y :: ys => if lt x y then x :: y :: ys else y :: insr lt x ys
def isort (lt : α → α → Bool) (l : List α) : List α := l.foldl (fun acc x => insr lt x acc) []
theorem isort_nil : isort lt [] = [] := rfl
theorem isort_snoc (l : List α) (x : α) : isort lt (l ++ [x]) = insr lt x (isort lt l) := by simp [isort]

def mrg (lt : α → α → Bool) : List α → List α → List α
  | [], b => b
  | x :: a, [] => x :: a
  | x :: a, y :: b => if lt y x then y :: mrg lt (x :: a) b else x :: mrg lt a (y :: b)
termination_by a b => a.length + b.length
theorem mrg_nil_left (b : List α) : mrg lt [] b = b := by rw [mrg]
theorem mrg_nil_right (a : List α) : mrg lt a [] = a := by cases a <;> rw [mrg]
theorem mrg_yes {x y : α} {a b : List α} (h : lt y x = true) : mrg lt (x :: a) (y :: b) = y :: mrg lt (x :: a) b := by rw [mrg, if_pos h]
theorem mrg_no {x y : α} {a b : List α} (h : lt y x = false) : mrg lt (x :: a) (y :: b) = x :: mrg lt a (y :: b) := by rw [mrg, if_neg (by simp [h])]
theorem insr_yes {x y : α} {b : List α} (h : lt x y = true) : insr lt x (y :: b) = x :: y :: b := by rw [insr, if_pos h]
theorem insr_no {x y : α} {b : List α} (h : lt x y = false) : insr lt x (y :: b) = y :: insr lt x b := by rw [insr, if_neg (by simp [h])]

theorem mrg_insr (hw : Weak lt) (x : α) : ∀ (n : Nat) (S T : List α), S.length + T.length = n → mrg lt S (insr lt x T) = insr lt x (mrg lt S T) := by
  intro n
  induction n using Nat.strongRecOn with
  | _ n ih =>
    intro S T hn
    cases S with
    | nil => rw [mrg_nil_left, mrg_nil_left]
    | cons s S =>
      cases T with
      | nil =>
        rw [mrg_nil_right]
        show mrg lt (s :: S) [x] = _
        cases e : lt x s with
        | true => rw [mrg_yes e, mrg_nil_right, insr_yes e]
        | false =>
          rw [mrg_no e, insr_no e]
          have := ih (S.length + 0) (by simp at hn; omega) S [] (by simp)
          rw [mrg_nil_right] at this
          rw [← this]; rfl
      | cons t T =>
        simp only [List.length_cons] at hn
        cases e1 : lt x t with
        | true =>
          rw [insr_yes e1]
          cases e2 : lt t s with
          | true =>
            have e3 := hw.trans e1 e2
            rw [mrg_yes e3, mrg_yes e2, insr_yes e1]
          | false =>
            rw [mrg_no (a := S) (b := T) e2]
            cases e3 : lt x s with
            | true => rw [mrg_yes e3, mrg_no e2, insr_yes e3]
            | false =>
              rw [mrg_no e3, insr_no e3]
              have := ih (S.length + (t :: T).length) (by simp; omega) S (t :: T) rfl
              rw [insr_yes e1] at this
              rw [this]
        | false =>
          rw [insr_no e1]
          cases e2 : lt t s with
          | true =>
            rw [mrg_yes e2, mrg_yes e2, insr_no e1]
            have := ih ((s :: S).length + T.length) (by simp; omega) (s :: S) T rfl
            rw [this]
          | false =>
            have e3 := hw.neg x t s e1 e2
            rw [mrg_no e2, mrg_no e2, insr_no e3]
            have := ih (S.length + (t :: T).length) (by simp; omega) S (t :: T) rfl
            rw [insr_no e1] at this
            rw [this]

theorem mrg_isort (hw : Weak lt) (A B : List α) : mrg lt (isort lt A) (isort lt B) = isort lt (A ++ B) := by
  suffices h : ∀ n, ∀ B : List α, B.length = n → mrg lt (isort lt A) (isort lt B) = isort lt (A ++ B) from h _ B rfl
  intro n
  induction n with
  | zero => intro B hB; rw [List.eq_nil_of_length_eq_zero hB, isort_nil, mrg_nil_right, List.append_nil]
  | succ n ih =>
    intro B hB
    obtain ⟨B', x, rfl⟩ : ∃ B' x, B = B' ++ [x] := by
      have hne : B ≠ [] := by intro e; subst e; simp at hB
      exact ⟨B.dropLast, B.getLast hne, (List.dropLast_concat_getLast hne).symm⟩
    rw [isort_snoc, mrg_insr hw x _ _ _ rfl, ih B' (by simpa using hB), ← List.append_assoc, isort_snoc]

theorem insr_perm (x : α) (l : List α) : (insr lt x l).Perm (x :: l) := by
  induction l with
  | nil => exact List.Perm.refl _
  | cons y l ih =>
    rw [insr]
    split
    · exact List.Perm.refl _
    · exact (List.Perm.cons y ih).trans (List.Perm.swap x y l)
theorem isort_perm (l : List α) : (isort lt l).Perm l := by
  suffices h : ∀ n, ∀ l : List α, l.length = n → (isort lt l).Perm l from h _ l rfl
  intro n
  induction n with
  | zero => intro l hl; rw [List.eq_nil_of_length_eq_zero hl]; exact List.Perm.refl _
  | succ n ih =>
    intro l hl
    obtain ⟨l', x, rfl⟩ : ∃ B' x, l = B' ++ [x] := by
      have hne : l ≠ [] := by intro e; subst e; simp at hl
      exact ⟨l.dropLast, l.getLast hne, (List.dropLast_concat_getLast hne).symm⟩
    rw [isort_snoc]
    exact (insr_perm x _).trans ((List.Perm.cons x (ih l' (by simpa using hl))).trans (List.perm_append_singleton x l').symm)

theorem isort_map (f : β → α) (l : List β) : isort lt (l.map f) = (isort (fun a b => lt (f a) (f b)) l).map f := by
  have hi : ∀ x (m : List β), insr lt (f x) (m.map f) = (insr (fun a b => lt (f a) (f b)) x m).map f := by
    intro x m
    induction m with
    | nil => rfl
    | cons y m ih =>
      rw [List.map_cons, insr, insr]
      split
      · rfl
      · rw [ih]; rfl
  suffices h : ∀ (l m : List β), (l.map f).foldl (fun acc x => insr lt x acc) (m.map f) = (l.foldl (fun acc x => insr (fun a b => lt (f a) (f b)) x acc) m).map f from h l []
  intro l
  induction l with
  | nil => intro m; rfl
  | cons x l ih => intro m; rw [List.map_cons, List.foldl_cons, List.foldl_cons, hi, ih]

/-- in order -/
def Srt (lt : α → α → Bool) (l : List α) : Prop := l.Pairwise fun a b => lt b a = false
theorem insr_srt (hw : Weak lt) (x : α) {l : List α} (h : Srt lt l) : Srt lt (insr lt x l) := by
  induction l with
  | nil => simp [insr, Srt]
  | cons y l ih =>
    obtain ⟨h1, h2⟩ := List.pairwise_cons.1 h
    cases e : lt x y with
    | true =>
      rw [insr_yes e]
      refine List.pairwise_cons.2 ⟨fun z hz => ?_, h⟩
      rcases List.mem_cons.1 hz with rfl | hz
      · exact hw.asymm _ _ e
      · exact hw.neg _ _ _ (h1 z hz) (hw.asymm _ _ e)
    | false =>
      rw [insr_no e]
      refine List.pairwise_cons.2 ⟨fun z hz => ?_, ih h2⟩
      rcases List.mem_cons.1 ((insr_perm x l).mem_iff.1 hz) with rfl | hz
      · exact e
      · exact h1 z hz
theorem isort_srt (hw : Weak lt) (l : List α) : Srt lt (isort lt l) := by
  suffices h : ∀ (l m : List α), Srt lt m → Srt lt (l.foldl (fun acc x => insr lt x acc) m) from h l [] (by simp [Srt])
  intro l
  induction l with
  | nil => intro m h; exact h
  | cons x l ih => intro m h; rw [List.foldl_cons]; exact ih _ (insr_srt hw x h)
/-- what is in order stays as it is -/
theorem insr_last {x : α} {l : List α} (h : ∀ y ∈ l, lt x y = false) : insr lt x l = l ++ [x] := by
  induction l with
  | nil => rfl
  | cons y l ih => rw [insr_no (h y (List.mem_cons_self ..)), ih (fun z hz => h z (List.mem_cons_of_mem _ hz))]; rfl
theorem isort_of_srt {l : List α} (h : Srt lt l) : isort lt l = l := by
  suffices hh : ∀ n, ∀ l : List α, l.length = n → Srt lt l → isort lt l = l from hh _ l rfl h
  intro n
  induction n with
  | zero => intro l hl _; rw [List.eq_nil_of_length_eq_zero hl]; rfl
  | succ n ih =>
    intro l hl h
    obtain ⟨l', x, rfl⟩ : ∃ B' x, l = B' ++ [x] := by
      have hne : l ≠ [] := by intro e; subst e; simp at hl
      exact ⟨l.dropLast, l.getLast hne, (List.dropLast_concat_getLast hne).symm⟩
    obtain ⟨h1, _, h3⟩ := List.pairwise_append.1 h
    rw [isort_snoc, ih l' (by simpa using hl) h1]
    exact insr_last fun y hy => h3 y hy x (by simp)
end

end Go.Proofs.Ytcejgnnkjomjlaa

/- Plain laws of inversions. -/
namespace Go.Proofs.Ytcejgnnkjomjlaa

section
variable {α β : Type} {lt : α → α → Bool}

/-- pairs of one of A and one of B that are not in order -/
def crs (lt : α → α → Bool) : List α → List α → Nat
  | [], _ => 0
  | x :: A, B => B.countP (fun y => lt y x) + crs lt A B
/-- pairs of a list that are not in order -/
def inv (lt : α → α → Bool) : List α → Nat
  | [] => 0
  | x :: l => l.countP (fun y => lt y x) + inv lt l

theorem crs_nil_right (A : List α) : crs lt A [] = 0 := by induction A with | nil => rfl | cons x A ih => simp [crs, ih]
theorem crs_append_left (A A' B : List α) : crs lt (A ++ A') B = crs lt A B + crs lt A' B := by
  induction A with
  | nil => simp [crs]
  | cons x A ih => simp only [List.cons_append, crs, ih]; omega
theorem crs_cons_right (A B : List α) (y : α) : crs lt A (y :: B) = A.countP (fun x => lt y x) + crs lt A B := by
  induction A with
  | nil => simp [crs]
  | cons x A ih => simp only [crs, ih, List.countP_cons]; omega
theorem crs_append_right (A B B' : List α) : crs lt A (B ++ B') = crs lt A B + crs lt A B' := by
  induction A with
  | nil => simp [crs]
  | cons x A ih => simp only [crs, ih, List.countP_append]; omega
theorem inv_append (A B : List α) : inv lt (A ++ B) = inv lt A + inv lt B + crs lt A B := by
  induction A with
  | nil => simp [inv, crs]
  | cons x A ih => simp only [List.cons_append, inv, crs, ih, List.countP_append]; omega
theorem crs_perm {A A' B B' : List α} (h : A.Perm A') (h' : B.Perm B') : crs lt A B = crs lt A' B' := by
  have h1 : ∀ A : List α, crs lt A B = crs lt A B' := by
    intro A
    induction A with
    | nil => rfl
    | cons x A ih => simp only [crs, ih, h'.countP_eq]
  rw [h1]
  induction h with
  | nil => rfl
  | cons x _ ih => simp only [crs, ih]
  | swap x y l => simp only [crs]; omega
  | trans _ _ ih1 ih2 => rw [ih1, ih2]

/-- the pairs that a merging counts -/
def mcn (lt : α → α → Bool) : List α → List α → Nat
  | [], _ => 0
  | _ :: _, [] => 0
  | x :: a, y :: b => if lt y x then (a.length + 1) + mcn lt (x :: a) b else mcn lt a (y :: b)
termination_by a b => a.length + b.length
theorem mcn_nil_left (b : List α) : mcn lt [] b = 0 := by rw [mcn]
theorem mcn_nil_right (a : List α) : mcn lt a [] = 0 := by cases a <;> rw [mcn]
theorem mcn_yes {x y : α} {a b : List α} (h : lt y x = true) : mcn lt (x :: a) (y :: b) = (a.length + 1) + mcn lt (x :: a) b := by rw [mcn, if_pos h]
theorem mcn_no {x y : α} {a b : List α} (h : lt y x = false) : mcn lt (x :: a) (y :: b) = mcn lt a (y :: b) := by rw [mcn, if_neg (by simp [h])]

theorem mcn_crs (hw : Weak lt) : ∀ (n : Nat) (A B : List α), A.length + B.length = n → Srt lt A → Srt lt B → mcn lt A B = crs lt A B := by
  intro n
  induction n using Nat.strongRecOn with
  | _ n ih =>
    intro A B hn hA hB
    cases A with
    | nil => rw [mcn_nil_left]; rfl
    | cons x A =>
      cases B with
      | nil => rw [mcn_nil_right, crs_nil_right]
      | cons y B =>
        simp only [List.length_cons] at hn
        obtain ⟨a1, a2⟩ := List.pairwise_cons.1 hA
        obtain ⟨b1, b2⟩ := List.pairwise_cons.1 hB
        cases e : lt y x with
        | true =>
          rw [mcn_yes e, ih ((x :: A).length + B.length) (by simp; omega) _ _ rfl hA b2, crs_cons_right]
          have : (x :: A).countP (fun z => lt y z) = A.length + 1 := by
            rw [List.countP_eq_length.2 (fun z hz => ?_)]
            · rfl
            · rcases List.mem_cons.1 hz with rfl | hz
              · exact e
              · cases e2 : lt y z with
                | true => rfl
                | false =>
                  have := hw.neg y z x e2 (a1 z hz)
                  rw [e] at this; exact absurd this (by simp)
          omega
        | false =>
          rw [mcn_no e, ih (A.length + (y :: B).length) (by simp; omega) _ _ rfl a2 hB]
          show _ = (y :: B).countP (fun z => lt z x) + crs lt A (y :: B)
          have : (y :: B).countP (fun z => lt z x) = 0 := by
            rw [List.countP_eq_zero.2 (fun z hz => ?_)]
            rcases List.mem_cons.1 hz with rfl | hz
            · simp [e]
            · simp [hw.neg z y x (b1 z hz) e]
          omega
theorem mcn_isort (hw : Weak lt) (A B : List α) : mcn lt (isort lt A) (isort lt B) = crs lt A B := by
  rw [mcn_crs hw _ _ _ rfl (isort_srt hw A) (isort_srt hw B)]
  exact crs_perm (isort_perm A) (isort_perm B)

theorem inv_zero_iff (l : List α) : inv lt l = 0 ↔ Srt lt l := by
  induction l with
  | nil => simp [inv, Srt]
  | cons x l ih =>
    unfold Srt at *
    rw [List.pairwise_cons, ← ih]
    show _ + _ = 0 ↔ _
    rw [Nat.add_eq_zero_iff, List.countP_eq_zero]
    simp
theorem inv_map (f : β → α) (l : List β) : inv lt (l.map f) = inv (fun a b => lt (f a) (f b)) l := by
  induction l with
  | nil => rfl
  | cons x l ih => simp only [List.map_cons, inv, ih, List.countP_map]; rfl
theorem crs_le (A B : List α) : crs lt A B ≤ A.length * B.length := by
  induction A with
  | nil => simp [crs]
  | cons x A ih =>
    have := List.countP_le_length (p := fun y => lt y x) (l := B)
    simp only [crs, List.length_cons, Nat.add_mul]; omega
theorem inv_le (l : List α) : inv lt l ≤ l.length * l.length := by
  induction l with
  | nil => simp [inv]
  | cons x l ih =>
    have := List.countP_le_length (p := fun y => lt y x) (l := l)
    simp only [inv, List.length_cons, Nat.add_mul, Nat.mul_add]; omega

/-- neighbours tell whether a list is in order -/
def nbr (lt : α → α → Bool) : List α → Bool
  | [] => true
  | [_] => true
  | x :: y :: l => !lt y x && nbr lt (y :: l)
theorem nbr_iff (hw : Weak lt) (l : List α) : nbr lt l = true ↔ Srt lt l := by
  induction l with
  | nil => simp [nbr, Srt]
  | cons x l ih =>
    cases l with
    | nil => simp [nbr, Srt]
    | cons y l =>
      unfold Srt at *
      rw [List.pairwise_cons, ← ih]
      simp only [nbr, Bool.and_eq_true, Bool.not_eq_true']
      constructor
      · rintro ⟨h1, h2⟩
        refine ⟨fun z hz => ?_, h2⟩
        rcases List.mem_cons.1 hz with rfl | hz
        · exact h1
        · exact hw.neg z y x ((List.pairwise_cons.1 (ih.1 h2)).1 z hz) h1
      · rintro ⟨h1, h2⟩
        exact ⟨h1 y (List.mem_cons_self ..), h2⟩
end

end Go.Proofs.Ytcejgnnkjomjlaa

/- Plain laws of sorting by chunks of doubling width. -/
namespace Go.Proofs.Ytcejgnnkjomjlaa

section
variable {α : Type} {lt : α → α → Bool}
/-- the piece of a list from i on, w elements long -/
def pc (l : List α) (i w : Nat) : List α := (l.drop i).take w
theorem pc_length (l : List α) (i w : Nat) : (pc l i w).length = min w (l.length - i) := by simp [pc]
theorem pc_split (l : List α) (i w v : Nat) : pc l i (w + v) = pc l i w ++ pc l (i + w) v := by
  unfold pc
  rw [List.take_add, List.drop_drop]
theorem pc_all {l : List α} {w : Nat} (h : l.length ≤ w) : pc l 0 w = l := by
  unfold pc; rw [List.drop_zero, List.take_of_length_le h]
theorem pc_out {l : List α} {i w : Nat} (h : l.length ≤ i) : pc l i w = [] := by
  unfold pc; rw [List.drop_of_length_le h, List.take_nil]

/-- each chunk of L is that of l, sorted -/
structure Bk (lt : α → α → Bool) (w : Nat) (L l : List α) : Prop where
  len : L.length = l.length
  at_ : ∀ j, pc L (j * w) w = isort lt (pc l (j * w) w)
theorem Bk.one (l : List α) : Bk lt 1 l l := by
  refine ⟨rfl, fun j => ?_⟩
  have h : (pc l (j * 1) 1).length ≤ 1 := by rw [pc_length]; omega
  match hm : pc l (j * 1) 1, h with
  | [], _ => rfl
  | [x], _ => rfl
theorem Bk.done {w : Nat} {L l : List α} (h : Bk lt w L l) (hw : l.length ≤ w) : L = isort lt l := by
  have := h.at_ 0
  rw [Nat.zero_mul, pc_all (by rw [h.len]; exact hw), pc_all hw] at this
  exact this

/-- the first t chunks of double width are done -/
structure Mid (lt : α → α → Bool) (w t : Nat) (T l : List α) : Prop where
  len : T.length = l.length
  at_ : ∀ j, j < t → pc T (j * (2 * w)) (2 * w) = isort lt (pc l (j * (2 * w)) (2 * w))
theorem Mid.zero {w : Nat} {T l : List α} (h : T.length = l.length) : Mid lt w 0 T l := ⟨h, fun j hj => absurd hj (by omega)⟩
theorem Mid.done {w t : Nat} {T l : List α} (h : Mid lt w t T l) (ht : l.length ≤ t * (2 * w)) : Bk lt (2 * w) T l := by
  refine ⟨h.len, fun j => ?_⟩
  by_cases hj : j < t
  · exact h.at_ j hj
  · have h1 : t * (2 * w) ≤ j * (2 * w) := Nat.mul_le_mul_right _ (by omega)
    rw [pc_out (by rw [h.len]; omega), pc_out (by omega)]; rfl

/-- what is written over a piece of a list -/
def over (T : List α) (i : Nat) (M : List α) : List α := T.take i ++ M ++ T.drop (i + M.length)
theorem over_length {T M : List α} {i : Nat} (h : i + M.length ≤ T.length) : (over T i M).length = T.length := by
  simp [over]; omega
theorem pc_over_self {T M : List α} {i : Nat} (h : i + M.length ≤ T.length) {w : Nat} (hw : M.length = min w (T.length - i)) : pc (over T i M) i w = M := by
  unfold pc over
  rw [List.append_assoc, List.drop_append_of_le_length (by simp; omega), List.drop_take_self, List.nil_append]
  by_cases h2 : w ≤ T.length - i
  · rw [List.take_append_of_le_length (by omega), List.take_of_length_le (by omega)]
  · rw [List.drop_of_length_le (by omega), List.append_nil, List.take_of_length_le (by omega)]
theorem pc_over_before {T M : List α} {i j w : Nat} (h : j + w ≤ i) (hi : i ≤ T.length) : pc (over T i M) j w = pc T j w := by
  unfold pc over
  rw [List.append_assoc, List.drop_append_of_le_length (by simp; omega), List.take_append_of_le_length (by simp; omega), List.drop_take, List.take_take]
  congr 1
  omega

theorem Mid.step (hw : Weak lt) {w t : Nat} {T L l : List α} (h : Mid lt w t T l) (hL : Bk lt w L l) (ht : t * (2 * w) < l.length) :
    Mid lt w (t + 1) (over T (t * (2 * w)) (mrg lt (pc L (t * (2 * w)) w) (pc L (t * (2 * w) + w) w))) l := by
  have e1 : t * (2 * w) = (2 * t) * w := by rw [Nat.mul_comm 2 t, Nat.mul_assoc]
  have e2 : t * (2 * w) + w = (2 * t + 1) * w := by rw [e1, Nat.add_mul, Nat.one_mul]
  have hm : mrg lt (pc L (t * (2 * w)) w) (pc L (t * (2 * w) + w) w) = isort lt (pc l (t * (2 * w)) (2 * w)) := by
    rw [e2, show pc L (t * (2 * w)) w = pc L ((2 * t) * w) w by rw [e1], hL.at_, hL.at_, mrg_isort hw, ← e2, ← e1, Nat.two_mul, pc_split]
  rw [hm]
  have hlen : (isort lt (pc l (t * (2 * w)) (2 * w))).length = min (2 * w) (l.length - t * (2 * w)) := by rw [(isort_perm _).length_eq, pc_length]
  refine ⟨by rw [over_length (by rw [hlen, h.len]; omega), h.len], fun j hj => ?_⟩
  by_cases e : j = t
  · subst e
    exact pc_over_self (by rw [hlen, h.len]; omega) (by rw [hlen, h.len])
  · have h1 : (j + 1) * (2 * w) ≤ t * (2 * w) := Nat.mul_le_mul_right _ (by omega)
    rw [Nat.add_mul, Nat.one_mul] at h1
    rw [pc_over_before h1 (by rw [h.len]; omega)]
    exact h.at_ j (by omega)

/-- the inversions within the first t chunks -/
def isum (lt : α → α → Bool) (l : List α) (w : Nat) : Nat → Nat
  | 0 => 0
  | t + 1 => isum lt l w t + inv lt (pc l (t * w) w)
theorem isum_one (l : List α) (t : Nat) : isum lt l 1 t = 0 := by
  induction t with
  | zero => rfl
  | succ t ih =>
    have h : (pc l (t * 1) 1).length ≤ 1 := by rw [pc_length]; omega
    have : inv lt (pc l (t * 1) 1) = 0 := by
      match hm : pc l (t * 1) 1, h with
      | [], _ => rfl
      | [x], _ => simp [inv]
    show _ + _ = 0
    omega
theorem isum_out {l : List α} {w t u : Nat} (h : l.length ≤ t * w) (hu : t ≤ u) : isum lt l w u = isum lt l w t := by
  obtain ⟨c, rfl⟩ := Nat.exists_eq_add_of_le hu
  induction c with
  | zero => rfl
  | succ c ih =>
    show isum lt l w (t + c) + inv lt (pc l ((t + c) * w) w) = _
    rw [ih (by omega), pc_out (Nat.le_trans h (Nat.mul_le_mul_right _ (by omega)))]
    rfl
theorem isum_whole {l : List α} {w t : Nat} (h : l.length ≤ w) (ht : 0 < t) : isum lt l w t = inv lt l := by
  rw [isum_out (t := 1) (by omega) ht]
  show 0 + inv lt (pc l (0 * w) w) = _
  rw [Nat.zero_mul, pc_all h, Nat.zero_add]
/-- the pairs of a pass, merge by merge -/
theorem isum_step (hw : Weak lt) {w t : Nat} {L l : List α} (hL : Bk lt w L l) :
    isum lt l (2 * w) (t + 1) + isum lt l w (2 * t) + 0 = isum lt l (2 * w) t + isum lt l w (2 * (t + 1)) + mcn lt (pc L (t * (2 * w)) w) (pc L (t * (2 * w) + w) w) := by
  have e1 : t * (2 * w) = (2 * t) * w := by rw [Nat.mul_comm 2 t, Nat.mul_assoc]
  have e2 : t * (2 * w) + w = (2 * t + 1) * w := by rw [e1, Nat.add_mul, Nat.one_mul]
  have hm : mcn lt (pc L (t * (2 * w)) w) (pc L (t * (2 * w) + w) w) = crs lt (pc l ((2 * t) * w) w) (pc l ((2 * t + 1) * w) w) := by
    rw [e2, show pc L (t * (2 * w)) w = pc L ((2 * t) * w) w by rw [e1], hL.at_, hL.at_, mcn_isort hw]
  have hi : inv lt (pc l (t * (2 * w)) (2 * w)) = inv lt (pc l ((2 * t) * w) w) + inv lt (pc l ((2 * t + 1) * w) w) + crs lt (pc l ((2 * t) * w) w) (pc l ((2 * t + 1) * w) w) := by
    rw [show pc l (t * (2 * w)) (2 * w) = pc l ((2 * t) * w) w ++ pc l ((2 * t + 1) * w) w by rw [← e2, ← e1, Nat.two_mul, pc_split], inv_append]
  have hs : isum lt l w (2 * (t + 1)) = isum lt l w (2 * t) + inv lt (pc l ((2 * t) * w) w) + inv lt (pc l ((2 * t + 1) * w) w) := rfl
  have hd : isum lt l (2 * w) (t + 1) = isum lt l (2 * w) t + inv lt (pc l (t * (2 * w)) (2 * w)) := rfl
  omega
end

end Go.Proofs.Ytcejgnnkjomjlaa

/- The three orders are strict weak orders. -/
namespace Go.Proofs.Ytcejgnnkjomjlaa
open Go.RowKit

theorem weak_W : Weak ltW := by
  constructor
  · intro a b h; simp [ltW] at *; omega
  · intro a b c h1 h2; simp [ltW] at *; omega
theorem weak_T : Weak ltT := by
  constructor
  · intro a b h; simp [ltT] at *; omega
  · intro a b c h1 h2; simp [ltT] at *; omega
theorem weak_P : Weak ltP := by
  constructor
  · intro a b h; unfold ltP at *; rw [decide_eq_true_eq] at h; rw [decide_eq_false_iff_not]; omega
  · intro a b c h1 h2; unfold ltP at *; rw [decide_eq_false_iff_not] at *; omega
theorem weak_key (k : Int) : Weak (keyLt k) := by
  unfold keyLt
  split
  · exact weak_W
  · split
    · exact weak_T
    · exact weak_P
theorem weak_idx {α : Type} {lt : α → α → Bool} (h : Weak lt) {β : Type} (f : β → α) : Weak (fun a b => lt (f a) (f b)) :=
  ⟨fun a b => h.asymm (f a) (f b), fun a b c => h.neg (f a) (f b) (f c)⟩

end Go.Proofs.Ytcejgnnkjomjlaa

/- Rows of records in memory. -/
namespace Go.Proofs.Ytcejgnnkjomjlaa
open Go.RowKit

def cells4 (r : R4) : List Value := [.int .u64 r.u, .int .u64 r.v, .int .i64 r.w, .int .i64 r.t]
def flat (l : List R4) : List Value := l.flatMap cells4
theorem flat_cons (r : R4) (l : List R4) : flat (r :: l) = cells4 r ++ flat l := by simp [flat]
theorem flat_append (l l' : List R4) : flat (l ++ l') = flat l ++ flat l' := by simp [flat]
theorem flat_length (l : List R4) : (flat l).length = l.length * 4 := by
  induction l with
  | nil => rfl
  | cons r l ih => rw [flat_cons, List.length_append, ih]; simp [cells4]; omega
theorem flat_at {l : List R4} {i : Nat} {r : R4} (h : l[i]? = some r) (j : Nat) (hj : j < 4) : (flat l)[i * 4 + j]? = (cells4 r)[j]? := by
  induction l generalizing i with
  | nil => simp at h
  | cons x l ih =>
    rw [flat_cons]
    cases i with
    | zero =>
      rw [List.getElem?_cons_zero] at h
      injection h with h
      subst h
      rw [List.getElem?_append_left (by simp [cells4]; omega)]
      simp
    | succ i =>
      rw [List.getElem?_cons_succ] at h
      rw [List.getElem?_append_right (by simp [cells4]; omega), ← ih h]
      congr 1
      simp [cells4]; omega

/-- a row of records, and what lies behind it -/
def RwR (l : List R4) (tl : Array Value) : Array Value := (flat l).toArray ++ tl
theorem RwR.at {l : List R4} {i : Nat} {r : R4} (tl : Array Value) (h : l[i]? = some r) (j : Nat) (hj : j < 4) : (RwR l tl)[i * 4 + j]? = (cells4 r)[j]? := by
  have hi : i < l.length := by
    rcases Nat.lt_or_ge i l.length with h' | h'
    · exact h'
    · rw [List.getElem?_eq_none h'] at h; cases h
  unfold RwR
  rw [Array.getElem?_append_left (by simp [flat_length]; omega)]
  simp only [List.getElem?_toArray]
  exact flat_at h j hj
theorem RwR.four {w : World} {b i : Nat} {l : List R4} {r : R4} {tl : Array Value} {T : Nat} (hb : Blk w b (RwR l tl) T) (h : l[i]? = some r) :
    w.cell? ⟨b, i * 4, none⟩ = some (.int .u64 r.u) ∧ w.cell? ⟨b, i * 4 + 1, none⟩ = some (.int .u64 r.v) ∧ w.cell? ⟨b, i * 4 + 2, none⟩ = some (.int .i64 r.w) ∧ w.cell? ⟨b, i * 4 + 3, none⟩ = some (.int .i64 r.t) :=
  ⟨hb.cell _ (RwR.at tl h 0 (by omega)), hb.cell _ (RwR.at tl h 1 (by omega)), hb.cell _ (RwR.at tl h 2 (by omega)), hb.cell _ (RwR.at tl h 3 (by omega))⟩
theorem RwR.set {l : List R4} {i : Nat} (tl : Array Value) (r : R4) (hi : i < l.length) :
    ((((RwR l tl).setIfInBounds (i * 4) (.int .u64 r.u)).setIfInBounds (i * 4 + 1) (.int .u64 r.v)).setIfInBounds (i * 4 + 2) (.int .i64 r.w)).setIfInBounds (i * 4 + 3) (.int .i64 r.t) = RwR (l.set i r) tl := by
  have hsz : (RwR l tl).size = l.length * 4 + tl.size := by simp [RwR, flat_length]
  apply Array.ext_getElem?
  intro k
  by_cases hk : k < l.length * 4
  · obtain ⟨q, j, hj, rfl⟩ : ∃ q j, j < 4 ∧ k = q * 4 + j := ⟨k / 4, k % 4, by omega, by omega⟩
    have hq : q < l.length := by omega
    by_cases e : q = i
    · subst e
      have hs : (l.set q r)[q]? = some r := List.getElem?_set_self hq
      rw [RwR.at tl hs j hj]
      match j, hj with
      | 0, _ => simp [Array.getElem?_setIfInBounds, hsz, cells4]; omega
      | 1, _ => simp [Array.getElem?_setIfInBounds, hsz, cells4]; omega
      | 2, _ => simp [Array.getElem?_setIfInBounds, hsz, cells4]; omega
      | 3, _ => simp [Array.getElem?_setIfInBounds, hsz, cells4]; omega
    · have hs : (l.set i r)[q]? = some l[q] := by rw [List.getElem?_set_ne (fun h => e h.symm), List.getElem?_eq_getElem hq]
      rw [RwR.at tl hs j hj, Array.getElem?_setIfInBounds_ne (by omega), Array.getElem?_setIfInBounds_ne (by omega), Array.getElem?_setIfInBounds_ne (by omega), Array.getElem?_setIfInBounds_ne (by omega), RwR.at tl (List.getElem?_eq_getElem hq) j hj]
  · rw [Array.getElem?_setIfInBounds_ne (by omega), Array.getElem?_setIfInBounds_ne (by omega), Array.getElem?_setIfInBounds_ne (by omega), Array.getElem?_setIfInBounds_ne (by omega)]
    unfold RwR
    rw [Array.getElem?_append_right (by simp [flat_length]; omega), Array.getElem?_append_right (by simp [flat_length]; omega)]
    simp [flat_length]

end Go.Proofs.Ytcejgnnkjomjlaa

/- Less. -/
namespace Go.Proofs.Ytcejgnnkjomjlaa
open Go.RowKit

set_option maxHeartbeats 1000000 in
theorem less_1 (a b : R4) (w : World) : Calls Try.prog 12 #[a.val, b.val, .int .i64 1] w fun e w' => e = .returned (.tuple #[.bool (ltW a b), .int .i64 0]) ∧ Below w.heap.size w w' := by
  have hB := Lib.hid (two_boxes w a b)
  have c0 := hB.out.1.cell 0 (v := .int .u64 a.u) rfl
  have c1 := hB.out.1.cell 1 (v := .int .u64 a.v) rfl
  have c2 := hB.out.1.cell 2 (v := .int .i64 a.w) rfl
  have c3 := hB.out.1.cell 3 (v := .int .i64 a.t) rfl
  have d0 := hB.out.2.1.cell 0 (v := .int .u64 b.u) rfl
  have d1 := hB.out.2.1.cell 1 (v := .int .u64 b.v) rfl
  have d2 := hB.out.2.1.cell 2 (v := .int .i64 b.w) rfl
  have d3 := hB.out.2.1.cell 3 (v := .int .i64 b.t) rfl
  go_enter Try.func12, Try.ntmps12
  go_wp2_with fail
  generalize (w.alloc (.cells a.cs 24)).alloc (.cells b.cs 24) = W at *
  refine (check_ok1 0 _ (by omega)).mono ?_
  rintro e w1 ⟨rfl, rfl⟩
  go_wp2_with fail
  refine (lt1_any a b _).mono ?_
  rintro e w2 ⟨rfl, hb2⟩
  have hbl := Lib.hid (bel_trans hB.out.2.2 hb2)
  clear hb2
  go_wp2_with fail
  go_ret2
  exact ⟨rfl, hbl.out⟩

set_option maxHeartbeats 1000000 in
theorem less_2 (a b : R4) (w : World) : Calls Try.prog 12 #[a.val, b.val, .int .i64 2] w fun e w' => e = .returned (.tuple #[.bool (ltT a b), .int .i64 0]) ∧ Below w.heap.size w w' := by
  have hB := Lib.hid (two_boxes w a b)
  have c0 := hB.out.1.cell 0 (v := .int .u64 a.u) rfl
  have c1 := hB.out.1.cell 1 (v := .int .u64 a.v) rfl
  have c2 := hB.out.1.cell 2 (v := .int .i64 a.w) rfl
  have c3 := hB.out.1.cell 3 (v := .int .i64 a.t) rfl
  have d0 := hB.out.2.1.cell 0 (v := .int .u64 b.u) rfl
  have d1 := hB.out.2.1.cell 1 (v := .int .u64 b.v) rfl
  have d2 := hB.out.2.1.cell 2 (v := .int .i64 b.w) rfl
  have d3 := hB.out.2.1.cell 3 (v := .int .i64 b.t) rfl
  go_enter Try.func12, Try.ntmps12
  go_wp2_with fail
  generalize (w.alloc (.cells a.cs 24)).alloc (.cells b.cs 24) = W at *
  refine (check_ok2 0 _ (by omega)).mono ?_
  rintro e w1 ⟨rfl, rfl⟩
  go_wp2_with fail
  refine (lt2_any a b _).mono ?_
  rintro e w2 ⟨rfl, hb2⟩
  have hbl := Lib.hid (bel_trans hB.out.2.2 hb2)
  clear hb2
  go_wp2_with fail
  go_ret2
  exact ⟨rfl, hbl.out⟩

set_option maxHeartbeats 1000000 in
theorem less_3 (a b : R4) (w : World) : Calls Try.prog 12 #[a.val, b.val, .int .i64 3] w fun e w' => e = .returned (.tuple #[.bool (ltP a b), .int .i64 0]) ∧ Below w.heap.size w w' := by
  have hB := Lib.hid (two_boxes w a b)
  have c0 := hB.out.1.cell 0 (v := .int .u64 a.u) rfl
  have c1 := hB.out.1.cell 1 (v := .int .u64 a.v) rfl
  have c2 := hB.out.1.cell 2 (v := .int .i64 a.w) rfl
  have c3 := hB.out.1.cell 3 (v := .int .i64 a.t) rfl
  have d0 := hB.out.2.1.cell 0 (v := .int .u64 b.u) rfl
  have d1 := hB.out.2.1.cell 1 (v := .int .u64 b.v) rfl
  have d2 := hB.out.2.1.cell 2 (v := .int .i64 b.w) rfl
  have d3 := hB.out.2.1.cell 3 (v := .int .i64 b.t) rfl
  go_enter Try.func12, Try.ntmps12
  go_wp2_with fail
  generalize (w.alloc (.cells a.cs 24)).alloc (.cells b.cs 24) = W at *
  refine (check_ok3 0 _ (by omega)).mono ?_
  rintro e w1 ⟨rfl, rfl⟩
  go_wp2_with fail
  refine (lt3_any a b _).mono ?_
  rintro e w2 ⟨rfl, hb2⟩
  have hbl := Lib.hid (bel_trans hB.out.2.2 hb2)
  clear hb2
  go_wp2_with fail
  go_ret2
  exact ⟨rfl, hbl.out⟩

theorem less_no (a b : R4) (k : Int) (w : World) (h1 : k ≠ 1) (h2 : k ≠ 2) (h3 : k ≠ 3) : Calls Try.prog 12 #[a.val, b.val, .int .i64 k] w fun e w' => e = .returned (.tuple #[.bool false, .int .i64 2]) ∧ Below w.heap.size w w' := by
  have hB := Lib.hid (two_boxes w a b).2.2
  have hc := Lib.hid (fun W => check_no 0 k W h1 h2 h3)
  clear h1 h2 h3
  go_enter Try.func12, Try.ntmps12
  go_wp2_with fail
  generalize (w.alloc (.cells a.cs 24)).alloc (.cells b.cs 24) = W at *
  refine (hc.out _).mono ?_
  rintro e w1 ⟨rfl, rfl⟩
  go_wp2_with fail
  go_ret2
  exact ⟨rfl, hB.out⟩

theorem rcheck_no (n k : Int) (w : World) (h : ¬ (1 ≤ k ∧ k ≤ 3)) : Calls Try.prog 35 #[.int .i64 n, .int .i64 k] w fun e w' => e = .returned (.int .i64 2) ∧ w = w' := by
  have hb : (decide (1 ≤ k) && decide (k ≤ 3)) = false := by simp; omega
  have hk := Lib.hid (known_any k w)
  rw [hb] at hk
  clear h hb
  go_enter Try.func35, Try.ntmps35
  go_wp2_with fail
  refine hk.out.mono ?_
  rintro e w1 ⟨rfl, rfl⟩
  go_wp2_with fail
  go_ret
  exact ⟨rfl, rfl⟩
theorem rcheck_long (n k : Int) (w : World) (h : 1 ≤ k ∧ k ≤ 3) (hn : 65536 < n) : Calls Try.prog 35 #[.int .i64 n, .int .i64 k] w fun e w' => e = .returned (.int .i64 16) ∧ w = w' := by
  have hb : (decide (1 ≤ k) && decide (k ≤ 3)) = true := by simp; omega
  have hd : decide (65536 < n) = true := decide_eq_true hn
  have hk := Lib.hid (known_any k w)
  rw [hb] at hk
  clear h hb
  go_enter Try.func35, Try.ntmps35
  go_wp2_with fail
  refine hk.out.mono ?_
  rintro e w1 ⟨rfl, rfl⟩
  go_wp2_with fail
  go_ret
  exact ⟨rfl, rfl⟩
theorem rcheck_ok (n k : Int) (w : World) (h : 1 ≤ k ∧ k ≤ 3) (hn : n ≤ 65536) : Calls Try.prog 35 #[.int .i64 n, .int .i64 k] w fun e w' => e = .returned (.int .i64 0) ∧ w = w' := by
  have hb : (decide (1 ≤ k) && decide (k ≤ 3)) = true := by simp; omega
  have hd : decide (65536 < n) = false := decide_eq_false (by omega)
  have hk := Lib.hid (known_any k w)
  rw [hb] at hk
  clear h hb
  go_enter Try.func35, Try.ntmps35
  go_wp2_with fail
  refine hk.out.mono ?_
  rintro e w1 ⟨rfl, rfl⟩
  go_wp2_with fail
  go_ret
  exact ⟨rfl, rfl⟩

end Go.Proofs.Ytcejgnnkjomjlaa

/- The reference's Less. -/
namespace Go.Proofs.Ytcejgnnkjomjlaa
open Go.RowKit

/-- the reference's Before is the order of a key -/
theorem rbefore_key (a b : R4) (k : Int) (w : World) : Calls Try.prog 31 #[a.val, b.val, .int .i64 k] w fun e w' => e = .returned (.bool (keyLt k a b)) ∧ Below w.heap.size w w' := by
  unfold keyLt
  by_cases h1 : k = 1
  · subst h1; exact rbefore_1 a b w
  · rw [if_neg h1]
    by_cases h2 : k = 2
    · subst h2; exact rbefore_2 a b w
    · rw [if_neg h2]; exact rbefore_3 a b k h1 h2 w

set_option maxHeartbeats 1000000 in
theorem rless_yes (a b : R4) (k : Int) (w : World) (h : 1 ≤ k ∧ k ≤ 3) : Calls Try.prog 13 #[a.val, b.val, .int .i64 k] w fun e w' => e = .returned (.tuple #[.bool (keyLt k a b), .int .i64 0]) ∧ Below w.heap.size w w' := by
  have hb : (decide (1 ≤ k) && decide (k ≤ 3)) = true := by simp; omega
  have hk := fun W => known_any k W
  rw [hb] at hk
  replace hk := Lib.hid hk
  have hB := Lib.hid (two_boxes w a b)
  have c0 := hB.out.1.cell 0 (v := .int .u64 a.u) rfl
  have c1 := hB.out.1.cell 1 (v := .int .u64 a.v) rfl
  have c2 := hB.out.1.cell 2 (v := .int .i64 a.w) rfl
  have c3 := hB.out.1.cell 3 (v := .int .i64 a.t) rfl
  have d0 := hB.out.2.1.cell 0 (v := .int .u64 b.u) rfl
  have d1 := hB.out.2.1.cell 1 (v := .int .u64 b.v) rfl
  have d2 := hB.out.2.1.cell 2 (v := .int .i64 b.w) rfl
  have d3 := hB.out.2.1.cell 3 (v := .int .i64 b.t) rfl
  clear h hb
  go_enter Try.func13, Try.ntmps13
  go_wp2_with fail
  generalize (w.alloc (.cells a.cs 24)).alloc (.cells b.cs 24) = W at *
  refine (hk.out _).mono ?_
  rintro e w1 ⟨rfl, rfl⟩
  go_wp2_with fail
  refine (rbefore_key a b k _).mono ?_
  rintro e w2 ⟨rfl, hb2⟩
  have hbl := Lib.hid (bel_trans hB.out.2.2 hb2)
  clear hb2
  go_wp2_with fail
  go_ret2
  exact ⟨rfl, hbl.out⟩
theorem rless_no (a b : R4) (k : Int) (w : World) (h : ¬ (1 ≤ k ∧ k ≤ 3)) : Calls Try.prog 13 #[a.val, b.val, .int .i64 k] w fun e w' => e = .returned (.tuple #[.bool false, .int .i64 2]) ∧ Below w.heap.size w w' := by
  have hb : (decide (1 ≤ k) && decide (k ≤ 3)) = false := by simp; omega
  have hk := fun W => known_any k W
  rw [hb] at hk
  replace hk := Lib.hid hk
  have hB := Lib.hid (two_boxes w a b).2.2
  clear h hb
  go_enter Try.func13, Try.ntmps13
  go_wp2_with fail
  generalize (w.alloc (.cells a.cs 24)).alloc (.cells b.cs 24) = W at *
  refine (hk.out _).mono ?_
  rintro e w1 ⟨rfl, rfl⟩
  go_wp2_with fail
  go_ret2
  exact ⟨rfl, hB.out⟩

end Go.Proofs.Ytcejgnnkjomjlaa

/- Copies of rows of records. -/
namespace Go.Proofs.Ytcejgnnkjomjlaa
open Go.RowKit

theorem rec_info : (Try.prog.info? 24).map (fun i => (i.zero, i.size, i.bytes)) = some (some (.agg #[.int .u64 0, .int .u64 0, .int .i64 0, .int .i64 0]), 4, 32) := by kernel_rfl

theorem own_rwR {w : World} {base : Nat} {v : Value} {n : Nat} {l : List R4} (h : w.ownsRow base 24 4 v n (flat l)) (hv : v ≠ .slice none 0 0) :
    ∃ g cap tl, v = .slice (some ⟨g, 0, none⟩) n cap ∧ base ≤ g ∧ n ≤ cap ∧ Blk w g (RwR l tl) 24 := by
  obtain ⟨hl, h⟩ := h
  rcases h with ⟨h1, _⟩ | ⟨g, cap, cur, h1, h2, h3, h4, h5, h6, h7⟩
  · exact absurd h1 hv
  · refine ⟨g, cap, (cur.toList.drop (n * 4)).toArray, h1, h2, h4, ?_⟩
    unfold Blk
    rw [h3]
    have : cur = RwR l (cur.toList.drop (n * 4)).toArray := by
      unfold RwR
      apply Array.ext'
      rw [Array.toList_append]
      show _ = _ ++ _
      rw [← h7, List.take_append_drop]
    rw [← this]

/-- a slice's value leads, below n₀, to these records -/
def RR (n₀ : Nat) (w : World) (a : Option Addr) (len : Nat) (l : List R4) : Prop :=
  l.length = len ∧ (0 < len → ∃ b off, a = some ⟨b, off, none⟩ ∧ b < n₀ ∧ ∀ i r, l[i]? = some r → ∀ j, j < 4 → w.cell? ⟨b, off + (i * 4 + j), none⟩ = (cells4 r)[j]?)

set_option maxHeartbeats 2000000 in
theorem clone_rec (b off n c : Nat) (l : List R4) (w : World) (hn : l.length = n) (hm : n ≤ 70000) (hc : ∀ i r, l[i]? = some r → ∀ j, j < 4 → w.cell? ⟨b, off + (i * 4 + j), none⟩ = (cells4 r)[j]?) (hbl : b < w.heap.size) :
    Calls Try.prog 40 #[.slice (some ⟨b, off, none⟩) n c] w fun e w' => (∃ g cap tl, e = .returned (.slice (some ⟨g, 0, none⟩) n cap) ∧ n ≤ cap ∧ w.heap.size ≤ g ∧ Blk w' g (RwR l tl) 24) ∧ Below w.heap.size w w' := by
  obtain ⟨i0, hi0, hz0, hz1, hz2⟩ := info_parts rec_info
  have hown : (w.alloc (.cells #[] 24)).ownsRow w.heap.size 24 4 (.slice (some ⟨w.heap.size, 0, none⟩) 0 0) 0 [] :=
    World.ownsRow_lit (size := 4) w #[] 0 (Nat.le_refl _) (by simp [maxLen]) rfl
  have hcells : ∀ j u, (flat l)[j]? = some u → (w.alloc (.cells #[] 24)).cell? ((⟨b, off, none⟩ : Addr).add j) = some u := by
    intro j u hu
    have hj : j < l.length * 4 := by
      rcases Nat.lt_or_ge j (l.length * 4) with h | h
      · exact h
      · rw [List.getElem?_eq_none (by rw [flat_length]; exact h)] at hu; cases hu
    obtain ⟨q, t, ht, rfl⟩ : ∃ q t, t < 4 ∧ j = q * 4 + t := ⟨j / 4, j % 4, by omega, by omega⟩
    have hq : l[q]? = some (l[q]'(by omega)) := List.getElem?_eq_getElem (by omega)
    rw [flat_at hq t ht] at hu
    have e : (⟨b, off, none⟩ : Addr).add (q * 4 + t) = ⟨b, off + (q * 4 + t), none⟩ := by
      unfold Addr.add
      split
      · rename_i h; rw [h]; rfl
      · rfl
    rw [e, ← hu, ← hc q _ hq t ht]
    exact (below1 w _).cell (p := ⟨b, off + (q * 4 + t), none⟩) hbl
  have h1 : ∀ u ∈ flat l, u.oneCell' = true := by
    intro u hu
    obtain ⟨r, _, hr⟩ := List.mem_flatMap.1 hu
    simp only [cells4, List.mem_cons, List.not_mem_nil, or_false] at hr
    rcases hr with rfl | rfl | rfl | rfl <;> rfl
  replace hcells := Lib.hid hcells
  replace hown := Lib.hid hown
  replace hn := Lib.hid hn
  have hnil := fun (wx : World) => Lib.run_eql_slice_nil (P := Try.prog) wx 31 24 (some ⟨b, off, none⟩) n c 0 0 Try.underlying31
  clear hc
  go_enter Try.func40, Try.ntmps40
  go_wp2_with (first
    | (at_builtin
       refine wpList_append_own_at _ rfl _ _ 31 rfl w.heap.size 24 i0 _ 4 32 Try.underlying31 hi0 hz0 hz1 hz2 rfl (by omega) _ 0 [] rfl hown.out ⟨b, off, none⟩ n c (flat l) rfl (by rw [flat_length, hn.out]) hcells.out h1 (by simp only [maxLen]; omega) (by omega) (by simp) ?_
       intro v1 w1 hown1 hg1 hlast hat1))
  go_ret
  simp only [Nat.zero_add, List.nil_append] at hown1
  obtain ⟨g, cap, tl, rfl, hg, hcap, hblk⟩ := own_rwR hown1 (fun e => by have := (hlast.1 e).1; cases this)
  exact ⟨⟨g, cap, tl, rfl, hcap, hg, hblk⟩, (bel_alloc (Below.refl _ _) _).grown hg1 (by simp) (fun k e => by have e' : some w.heap.size = some k := e; injection e' with e'; omega)⟩

theorem clone_recnil (w : World) : Calls Try.prog 40 #[.slice none 0 0] w fun e w' => e = .returned (.slice none 0 0) ∧ w = w' := by
  have hnil := fun (wx : World) => Lib.run_eql_slice_nil (P := Try.prog) wx 31 24 none 0 0 0 0 Try.underlying31
  go_enter Try.func40, Try.ntmps40
  go_wp2
  go_ret
  exact ⟨rfl, rfl⟩

end Go.Proofs.Ytcejgnnkjomjlaa

/- Rows that are made. -/
namespace Go.Proofs.Ytcejgnnkjomjlaa
open Go.RowKit

def R4.zero : R4 := ⟨0, 0, 0, 0⟩
theorem make_rec (m : Nat) (hm : m ≤ 70000) (W : World) : (Instr.makeSlice 31 (.int .i64 (m : Int)) (.int .i64 (m : Int))).run Try.prog W = .ok (.slice (some ⟨W.heap.size, 0, none⟩) m m) (W.alloc (.cells (RwR (List.replicate m R4.zero) #[]) 24)) := by
  obtain ⟨i, hi, h1, h2, h3⟩ := info_parts rec_info
  have hbz : ((32 : Nat) : Int) * (m : Int) ≤ 281474976710656 := by omega
  rw [run_make W 31 24 i (.agg #[.int .u64 0, .int .u64 0, .int .i64 0, .int .i64 0]) Try.underlying31 hi h1 .i64 .i64 m m (by omega) (by omega) (by rw [h3]; exact hbz) (by omega), h2]
  have hfl : ∀ m, flat (List.replicate m R4.zero) = (List.range (m * 4)).map fun j => (cells4 R4.zero)[j % 4]?.getD undef := by
    intro m
    apply List.ext_getElem?
    intro j
    by_cases hj : j < m * 4
    · obtain ⟨q, t, ht, rfl⟩ : ∃ q t, t < 4 ∧ j = q * 4 + t := ⟨j / 4, j % 4, by omega, by omega⟩
      rw [flat_at (r := R4.zero) (by rw [List.getElem?_replicate, if_pos (by omega)]) t ht, List.getElem?_map, List.getElem?_range hj]
      have : (q * 4 + t) % 4 = t := by omega
      rw [Option.map_some, this]
      match t, ht with
      | 0, _ => rfl
      | 1, _ => rfl
      | 2, _ => rfl
      | 3, _ => rfl
    · rw [List.getElem?_eq_none (by rw [flat_length, List.length_replicate]; omega), List.getElem?_eq_none (by simp; omega)]
  have hc : madeCells (Value.agg #[.int .u64 0, .int .u64 0, .int .i64 0, .int .i64 0]).cells (m * 4) = RwR (List.replicate m R4.zero) #[] := by
    unfold RwR
    rw [hfl]
    apply Array.ext
    · simp [madeCells]
    · intro j h1 h2
      have h4 : j % 4 = 0 ∨ j % 4 = 1 ∨ j % 4 = 2 ∨ j % 4 = 3 := by omega
      rcases h4 with h | h | h | h <;> simp [madeCells, Value.cells, cells4, h, R4.zero]
  simp [hc]

end Go.Proofs.Ytcejgnnkjomjlaa
