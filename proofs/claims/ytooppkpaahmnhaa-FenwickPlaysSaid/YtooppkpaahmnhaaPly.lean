/- Scripts: the state, and what each step does to it. -/
import Derived.Test.YtooppkpaahmnhaaAgr
namespace Go.Proofs.Ytooppkpaahmnhaa
open Go.RowKit Go.Shelf
attribute [local go_sem] Oper.semAt_some

theorem Blk.ne_ {w : World} {a b : Nat} {cs cs' : Array Value} {T T' : Nat} (h : Blk w a cs T) (h' : Blk w b cs' T') (hne : T ≠ T') : a ≠ b := by
  rintro rfl
  unfold Blk at h h'
  rw [h] at h'
  injection h' with h'
  injection h' with _ ht
  exact hne ht

/-- counters and the reference's, with what they count, in memory of the law's own -/
structure Pl (w W : World) (c cb nb d db : Nat) (xs ys : List Int) : Prop where
  tab : Tab W c cb nb xs
  r : TabR W d db ys
  ge : w.heap.size ≤ c ∧ w.heap.size ≤ cb ∧ w.heap.size ≤ nb ∧ w.heap.size ≤ d ∧ w.heap.size ≤ db
  bel : Below w.heap.size w W
  apart : db ≠ cb ∧ db ≠ nb
theorem Pl.keep {w W W' : World} {c cb nb d db : Nat} {xs ys : List Int} (h : Pl w W c cb nb d db xs ys) (hb : Below W.heap.size W W') : Pl w W' c cb nb d db xs ys :=
  ⟨h.tab.bel hb, h.r.bel hb, h.ge, bel_trans h.bel hb, h.apart⟩
theorem Pl.add1 {w W W' : World} {c cb nb d db : Nat} {xs ys xs' : List Int} (h : Pl w W c cb nb d db xs ys) (ht : Tab W' c cb nb xs') (hc : Chg (fun b => b = c ∨ b = cb ∨ b = nb) W W') : Pl w W' c cb nb d db xs' ys := by
  obtain ⟨cc, nc, tb, tn, h1⟩ := h.tab
  obtain ⟨dc, tr, h2, h3, h4⟩ := id h.r
  have e1 := h2.ne_ h1.hd (by decide)
  have e2 := h2.ne_ h1.row (by decide)
  have e3 := h2.ne_ h1.nds (by decide)
  have e4 := h3.ne_ h1.hd (by decide)
  have e5 := h.apart
  refine ⟨ht, h.r.keep (hc.block _ h2.lt (by omega)) (hc.block _ h3.lt (by omega)), h.ge, h.bel.trans (hc.below h.bel.size ?_), h.apart⟩
  have := h.ge
  rintro k _ (e | e | e) <;> omega
theorem Pl.add2 {w W W' : World} {c cb nb d db : Nat} {xs ys ys' : List Int} (h : Pl w W c cb nb d db xs ys) (ht : TabR W' d db ys') (hc : Chg (fun b => b = db) W W') : Pl w W' c cb nb d db xs ys' := by
  obtain ⟨cc, nc, tb, tn, h1⟩ := id h.tab
  obtain ⟨dc, tr, h2, h3, h4⟩ := h.r
  have e4 := h3.ne_ h1.hd (by decide)
  have e5 := h.apart
  refine ⟨h.tab.chg hc (by omega) (by omega) (by omega), ht, h.ge, h.bel.trans (hc.below h.bel.size ?_), h.apart⟩
  have := h.ge
  rintro k _ e; omega
theorem Pl.chgB {w W W' : World} {c cb nb d db B : Nat} {xs ys : List Int} {g : Nat → Int} (h : Pl w W c cb nb d db xs ys) (hB : Blk W B (Stp g) 35) (hc : Chg (fun b => b = c ∨ b = cb ∨ b = nb) W W' ∨ Chg (fun b => b = db) W W') : Blk W' B (Stp g) 35 := by
  obtain ⟨cc, nc, tb, tn, h1⟩ := id h.tab
  obtain ⟨dc, tr, h2, h3, h4⟩ := h.r
  have e1 := hB.ne_ h1.hd (by decide)
  have e2 := hB.ne_ h1.row (by decide)
  have e3 := hB.ne_ h1.nds (by decide)
  have e4 := hB.ne_ h3 (by decide)
  rcases hc with hc | hc
  · exact hB.chg hc (by omega)
  · exact hB.chg hc (by omega)
theorem Pl.lt {w W : World} {c cb nb d db : Nat} {xs ys : List Int} (h : Pl w W c cb nb d db xs ys) : c < W.heap.size ∧ cb < W.heap.size ∧ nb < W.heap.size ∧ d < W.heap.size ∧ db < W.heap.size := by
  obtain ⟨cc, nc, tb, tn, h1⟩ := h.tab
  exact ⟨h1.hd.lt, h1.row.lt, h1.nds.lt, h.r.lt.1, h.r.lt.2⟩

/-- both pointers, as a script holds them -/
def St (w W : World) (pc pr : Option Addr) (xs : List Int) : Prop :=
  (pc = none ∧ pr = none ∧ xs = [] ∧ Below w.heap.size w W) ∨ ∃ c cb nb d db, pc = some ⟨c, 0, none⟩ ∧ pr = some ⟨d, 0, none⟩ ∧ Pl w W c cb nb d db xs xs
theorem St.keep {w W W' : World} {pc pr : Option Addr} {xs : List Int} (h : St w W pc pr xs) (hb : Below W.heap.size W W') : St w W' pc pr xs := by
  rcases h with ⟨h1, h2, h3, h4⟩ | ⟨c, cb, nb, d, db, h1, h2, h3⟩
  · exact .inl ⟨h1, h2, h3, bel_trans h4 hb⟩
  · exact .inr ⟨c, cb, nb, d, db, h1, h2, h3.keep hb⟩
theorem St.has {w W : World} {pc pr : Option Addr} {xs : List Int} (h : St w W pc pr xs) : Has W pc xs ∧ HasR W pr xs ∧ Below w.heap.size w W := by
  rcases h with ⟨h1, h2, h3, h4⟩ | ⟨c, cb, nb, d, db, h1, h2, h3⟩
  · exact ⟨.inl ⟨h1, h3⟩, .inl ⟨h2, h3⟩, h4⟩
  · exact ⟨.inr (.inr ⟨c, cb, nb, h1, h3.tab⟩), .inr ⟨d, db, h2, h3.r⟩, h3.bel⟩

theorem news_pl {w w1 w2 : World} {c cb nb : Nat} {xs : List Int} (h : Own w w1 c cb nb xs) (hr : TabR w2 (w1.heap.size + 1) w1.heap.size xs) (hb : Below w1.heap.size w1 w2) : Pl w w2 c cb nb (w1.heap.size + 1) w1.heap.size xs xs := by
  have h1 := h.lt cb (.inr (.inl rfl))
  have h2 := h.lt nb (.inr (.inr rfl))
  have h3 := h.bel.size
  have h4 := h.ge
  exact ⟨h.tab.bel hb, hr, by omega, bel_trans h.bel hb, by omega⟩

theorem play_add {w W : World} {pc pr : Option Addr} {xs : List Int} (h : St w W pc pr xs) (i d : Int) (hd : -9223372036854775808 ≤ d ∧ d ≤ 9223372036854775807) : ∃ (E : Int) (ys : List Int) (M : World → Prop),
    (∀ B g, Blk W B (Stp g) 35 → ∀ W', M W' → Blk W' B (Stp g) 35) ∧
    Calls Try.prog 22 #[.pointer pc, .int .i64 i, .int .i64 d] W (fun e W' => e = .returned (.int .i64 E) ∧ M W') ∧
    ∀ W1, M W1 → Calls Try.prog 23 #[.pointer pr, .int .i64 i, .int .i64 d] W1 (fun e W' => e = .returned (.int .i64 E) ∧ St w W' pc pr ys ∧ ∀ B g, Blk W1 B (Stp g) 35 → Blk W' B (Stp g) 35) := by
  rcases h with ⟨rfl, rfl, rfl, h4⟩ | ⟨c, cb, nb, dd, db, rfl, rfl, hP⟩
  · refine ⟨1, [], fun W' => Below W.heap.size W W', fun B g hB W' hb => hB.below hb hB.lt, add_nil i d W, fun W1 hb => (radd_nil i d W1).mono ?_⟩
    rintro e W' ⟨rfl, rfl⟩
    exact ⟨rfl, .inl ⟨rfl, rfl, rfl, bel_trans h4 hb⟩, fun _ _ h => h⟩
  · refine ⟨addE xs i d, addX xs i d, fun W' => Tab W' c cb nb (addX xs i d) ∧ Chg (fun b => b = c ∨ b = cb ∨ b = nb) W W', fun B g hB W' hb => hP.chgB hB (.inl hb.2), (add_has i d W hP.tab hd), fun W1 hM => ?_⟩
    have hP1 := hP.add1 hM.1 hM.2
    refine (radd_has hP1.r i d hd).mono ?_
    rintro e W' ⟨rfl, h1, h2⟩
    exact ⟨rfl, .inr ⟨c, cb, nb, dd, db, rfl, rfl, hP1.add2 h1 h2⟩, fun B g hB => hP1.chgB hB (.inr h2)⟩

theorem play_copy {w W : World} {pc pr : Option Addr} {xs : List Int} (h : St w W pc pr xs) :
    Calls Try.prog 24 #[.pointer pc] W (fun e W' => ∃ pc', e = .returned (.pointer pc') ∧ Below W.heap.size W W' ∧
      Calls Try.prog 25 #[.pointer pr] W' (fun e W2 => ∃ pr', e = .returned (.pointer pr') ∧ Below W'.heap.size W' W2 ∧ St w W2 pc' pr' xs)) := by
  rcases h with ⟨rfl, rfl, rfl, h4⟩ | ⟨c, cb, nb, dd, db, rfl, rfl, hP⟩
  · refine (copy_nil W).mono ?_
    rintro e W' ⟨rfl, rfl⟩
    refine ⟨none, rfl, Below.refl _ _, (rcopy_nil W).mono ?_⟩
    rintro e W' ⟨rfl, rfl⟩
    exact ⟨none, rfl, Below.refl _ _, .inl ⟨rfl, rfl, rfl, h4⟩⟩
  · refine (copy_tab W hP.tab).mono ?_
    rintro e W1 ⟨⟨c', cb', nb', h1, h2, h3, h4, rfl⟩, hb⟩
    have hP1 := hP.keep hb
    refine ⟨_, rfl, hb, (rcopy_tab hP1.r).mono ?_⟩
    rintro e W2 ⟨⟨d', db', rfl, k1, k2, k3⟩, hb2⟩
    have z1 := hP.bel.size
    have z2 := hb.size
    obtain ⟨_, _, _, _, ht⟩ := id h4
    have q1 := ht.row.lt
    have q2 := ht.nds.lt
    exact ⟨_, rfl, hb2, .inr ⟨c', cb', nb', d', db', rfl, rfl, h4.bel hb2, k3, by omega, bel_trans hP1.bel hb2, by omega⟩⟩

end Go.Proofs.Ytooppkpaahmnhaa
