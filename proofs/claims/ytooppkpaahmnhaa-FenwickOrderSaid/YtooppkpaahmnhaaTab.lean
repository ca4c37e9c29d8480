/- Tables of counters in memory, and what is read from them. -/
import Derived.Test.YtooppkpaahmnhaaAri
namespace Go.Proofs.Ytooppkpaahmnhaa
open Go.RowKit Go.Shelf
attribute [local go_sem] Oper.semAt_some

/-- a row of numbers, and what lies behind it -/
def Rw (l : List Int) (tl : Array Value) : Array Value := (l.map (Value.int .i64)).toArray ++ tl
theorem Rw.at {l : List Int} {k : Nat} (tl : Array Value) (h : k < l.length) : (Rw l tl)[k]? = some (.int .i64 (l[k]?.getD 0)) := by
  unfold Rw
  rw [Array.getElem?_append_left (by simpa using h)]
  simp [h]
theorem Rw.set {l : List Int} {k : Nat} (tl : Array Value) (v : Int) (h : k < l.length) : (Rw l tl).setIfInBounds k (.int .i64 v) = Rw (l.set k v) tl := by
  unfold Rw
  apply Array.ext_getElem?
  intro j
  by_cases hj : j = k
  · subst hj
    rw [Array.getElem?_setIfInBounds_self_of_lt (by simp; omega), Array.getElem?_append_left (by simpa using h)]
    simp [h]
  · rw [Array.getElem?_setIfInBounds_ne (fun e => hj e.symm)]
    by_cases hl : j < l.length
    · rw [Array.getElem?_append_left (by simpa using hl), Array.getElem?_append_left (by simpa using hl)]
      simp [List.getElem?_set_ne (fun e => hj e.symm), List.getElem?_map]
    · rw [Array.getElem?_append_right (by simp; omega), Array.getElem?_append_right (by simp; omega)]
      simp

/-- what the counters of any table are -/
structure Sound (xs : List Int) : Prop where
  len : xs.length ≤ 65536
  pos : ∀ x ∈ xs, 0 ≤ x
  top : xs.sum ≤ 9223372036854775807

/-- a table that New made -/
structure Tb (w : World) (c cb nb : Nat) (xs : List Int) (cc nc : Nat) (tb tn : Array Value) : Prop where
  hd : Blk w c (Hd (some ⟨cb, 0, none⟩) xs.length cc (some ⟨nb, 0, none⟩) nc xs.sum) 59
  row : Blk w cb (Rw xs tb) 2
  nds : Blk w nb (Rw (nodes xs) tn) 2
  ne : cb ≠ nb
  ok : Sound xs
def Tab (w : World) (c cb nb : Nat) (xs : List Int) : Prop := ∃ cc nc tb tn, Tb w c cb nb xs cc nc tb tn
theorem Tb.keep {w w' : World} {c cb nb : Nat} {xs : List Int} {cc nc : Nat} {tb tn : Array Value} (h : Tb w c cb nb xs cc nc tb tn) (h1 : w'.heap[c]? = w.heap[c]?) (h2 : w'.heap[cb]? = w.heap[cb]?) (h3 : w'.heap[nb]? = w.heap[nb]?) : Tb w' c cb nb xs cc nc tb tn :=
  ⟨h1.trans h.hd, h2.trans h.row, h3.trans h.nds, h.ne, h.ok⟩
theorem Tab.chg {S : Nat → Prop} {w w' : World} {c cb nb : Nat} {xs : List Int} (h : Tab w c cb nb xs) (hc : Chg S w w') (h1 : ¬ S c) (h2 : ¬ S cb) (h3 : ¬ S nb) : Tab w' c cb nb xs := by
  obtain ⟨cc, nc, tb, tn, h⟩ := h
  exact ⟨cc, nc, tb, tn, h.keep (hc.block _ h.hd.lt h1) (hc.block _ h.row.lt h2) (hc.block _ h.nds.lt h3)⟩
theorem Tab.below {n : Nat} {w w' : World} {c cb nb : Nat} {xs : List Int} (h : Tab w c cb nb xs) (hb : Below n w w') (h1 : c < n) (h2 : cb < n) (h3 : nb < n) : Tab w' c cb nb xs := by
  obtain ⟨cc, nc, tb, tn, h⟩ := h
  exact ⟨cc, nc, tb, tn, h.keep (hb.block _ h1) (hb.block _ h2) (hb.block _ h3)⟩
theorem Tab.bel {w w' : World} {c cb nb : Nat} {xs : List Int} (h : Tab w c cb nb xs) (hb : Below w.heap.size w w') : Tab w' c cb nb xs := by
  obtain ⟨cc, nc, tb, tn, h'⟩ := id h
  exact h.below hb h'.hd.lt h'.row.lt h'.nds.lt

/-- a table that nobody made -/
abbrev Hz : Array Value := #[.bool false, .slice none 0 0, .slice none 0 0, .int .i64 0]

/-- the counters that a pointer shows: none, if it is nil or its table was not made -/
def Has (w : World) (p : Option Addr) (xs : List Int) : Prop :=
  (p = none ∧ xs = []) ∨ (∃ c, p = some ⟨c, 0, none⟩ ∧ Blk w c Hz 59 ∧ xs = []) ∨ ∃ c cb nb, p = some ⟨c, 0, none⟩ ∧ Tab w c cb nb xs
theorem Has.bel {w w' : World} {p : Option Addr} {xs : List Int} (h : Has w p xs) (hb : Below w.heap.size w w') : Has w' p xs := by
  rcases h with h | ⟨c, h1, h2, h3⟩ | ⟨c, cb, nb, h1, h2⟩
  · exact .inl h
  · exact .inr (.inl ⟨c, h1, h2.below hb h2.lt, h3⟩)
  · exact .inr (.inr ⟨c, cb, nb, h1, h2.bel hb⟩)
theorem Sound.nil : Sound [] := ⟨by simp, by simp, by simp⟩
theorem Has.ok {w : World} {p : Option Addr} {xs : List Int} (h : Has w p xs) : Sound xs := by
  rcases h with ⟨_, h⟩ | ⟨_, _, _, h⟩ | ⟨_, _, _, _, _, _, _, _, h⟩
  · subst h; exact Sound.nil
  · subst h; exact Sound.nil
  · exact h.ok
theorem Has.look {w : World} {p : Option Addr} {xs : List Int} (h : Has w p xs) : (p = none ∧ xs = []) ∨ ∃ c hd cv cc, p = some ⟨c, 0, none⟩ ∧ Blk w c hd 59 ∧ hd[1]? = some (.slice cv xs.length cc) ∧ hd[3]? = some (.int .i64 xs.sum) := by
  rcases h with h | ⟨c, h1, h2, h3⟩ | ⟨c, cb, nb, h1, cc, nc, tb, tn, h2⟩
  · exact .inl h
  · subst h3; exact .inr ⟨c, _, none, 0, h1, h2, rfl, rfl⟩
  · exact .inr ⟨c, _, _, _, h1, h2.hd, rfl, rfl⟩

theorem len_has {w : World} {p : Option Addr} {xs : List Int} (h : Has w p xs) : Calls Try.prog 26 #[.pointer p] w fun e w' => e = .returned (.int .i64 (xs.length : Int)) ∧ w = w' := by
  rcases h.look with ⟨rfl, rfl⟩ | ⟨c, hd, cv, cc, rfl, h1, h2, h3⟩
  · exact len_nil w
  · exact len_yes c hd cv _ cc w h1 h2

theorem total_nil (w : World) : Calls Try.prog 16 #[.pointer none] w fun e w' => e = .returned (.int .i64 0) ∧ w = w' := by
  go_enter Try.func16, Try.ntmps16
  go_wp2
  go_ret
  exact ⟨rfl, rfl⟩
theorem total_yes (c : Nat) (hd : Array Value) (t : Int) (w : World) (h : Blk w c hd 59) (h1 : hd[3]? = some (.int .i64 t)) : Calls Try.prog 16 #[.pointer (some ⟨c, 0, none⟩)] w fun e w' => e = .returned (.int .i64 t) ∧ w = w' := by
  have c1 := h.cell 3 h1
  clear h h1
  go_enter Try.func16, Try.ntmps16
  go_wp2
  go_ret
  exact ⟨rfl, rfl⟩
theorem total_has {w : World} {p : Option Addr} {xs : List Int} (h : Has w p xs) : Calls Try.prog 16 #[.pointer p] w fun e w' => e = .returned (.int .i64 xs.sum) ∧ w = w' := by
  rcases h.look with ⟨rfl, rfl⟩ | ⟨c, hd, cv, cc, rfl, h1, h2, h3⟩
  · exact total_nil w
  · exact total_yes c hd _ w h1 h3

/-- the counter with an index; 0 if there is none -/
def getZ (xs : List Int) (i : Int) : Int := if i < 0 then 0 else xs[i.toNat]?.getD 0

theorem get_low (p : Option Addr) (i : Int) (w : World) (h : i < 0) : Calls Try.prog 20 #[.pointer p, .int .i64 i] w fun e w' => e = .returned (.int .i64 0) ∧ w = w' := by
  have hi : decide (i < 0) = true := decide_eq_true h
  go_enter Try.func20, Try.ntmps20
  go_wp2
  go_ret
  exact ⟨rfl, rfl⟩
theorem get_high {p : Option Addr} {xs : List Int} (i : Int) (w : World) (hp : Has w p xs) (h : 0 ≤ i) (h2 : (xs.length : Int) ≤ i) : Calls Try.prog 20 #[.pointer p, .int .i64 i] w fun e w' => e = .returned (.int .i64 0) ∧ w = w' := by
  have hi : decide (i < 0) = false := decide_eq_false (by omega)
  have hj : decide ((xs.length : Int) ≤ i) = true := decide_eq_true h2
  have hc := Lib.hid (len_has hp)
  go_enter Try.func20, Try.ntmps20
  go_wp2_with fail
  refine hc.out.mono ?_
  rintro e w' ⟨rfl, rfl⟩
  go_wp2
  go_ret
  exact ⟨rfl, rfl⟩
theorem get_in {c cb nb : Nat} {xs : List Int} (i : Nat) (w : World) (hp : Tab w c cb nb xs) (h : i < xs.length) : Calls Try.prog 20 #[.pointer (some ⟨c, 0, none⟩), .int .i64 (i : Int)] w fun e w' => e = .returned (.int .i64 (xs[i]?.getD 0)) ∧ w = w' := by
  have hc := Lib.hid (len_has (.inr (.inr ⟨c, cb, nb, rfl, hp⟩)))
  obtain ⟨cc, nc, tb, tn, hp⟩ := hp
  have hi : decide ((i : Int) < 0) = false := decide_eq_false (by omega)
  have hj : decide ((xs.length : Int) ≤ (i : Int)) = false := decide_eq_false (by omega)
  have h0 : (0 : Int) ≤ (i : Int) := by omega
  have h1 : (i : Int) < (xs.length : Int) := by omega
  have c1 := hp.hd.cell 1 (v := .slice (some ⟨cb, 0, none⟩) xs.length cc) rfl
  have c2 := hp.row.cell i (Rw.at tb h)
  clear hp
  go_enter Try.func20, Try.ntmps20
  go_wp2_with fail
  refine hc.out.mono ?_
  rintro e w' ⟨rfl, rfl⟩
  go_wp2
  go_ret
  exact ⟨ret_int (show xs[i] = _ by rw [List.getElem?_eq_getElem h]; rfl), rfl⟩
theorem get_has {p : Option Addr} {xs : List Int} (i : Int) (w : World) (hp : Has w p xs) : Calls Try.prog 20 #[.pointer p, .int .i64 i] w fun e w' => e = .returned (.int .i64 (getZ xs i)) ∧ w = w' := by
  unfold getZ
  by_cases h : i < 0
  · rw [if_pos h]; exact get_low p i w h
  · rw [if_neg h]
    by_cases h2 : (xs.length : Int) ≤ i
    · rw [List.getElem?_eq_none (by omega)]; exact get_high i w hp (by omega) h2
    · obtain ⟨j, rfl⟩ := Int.eq_ofNat_of_zero_le (show 0 ≤ i by omega)
      rcases hp with ⟨_, rfl⟩ | ⟨_, _, _, rfl⟩ | ⟨c, cb, nb, rfl, h3⟩
      · simp at h2
      · simp at h2
      · exact get_in j w h3 (by omega)

end Go.Proofs.Ytooppkpaahmnhaa
