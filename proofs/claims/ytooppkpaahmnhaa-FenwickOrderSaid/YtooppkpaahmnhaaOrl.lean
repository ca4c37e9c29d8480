/- Two tables of counters and a row of numbers beside them. -/
import Derived.Test.YtooppkpaahmnhaaPlr
namespace Go.Proofs.Ytooppkpaahmnhaa
open Go.RowKit Go.Shelf

theorem two_chg {w0 w w' : World} {c cb nb c' cb' nb' : Nat} {xs ys xs' : List Int} (h : Two w0 w c cb nb xs c' cb' nb' ys) (h1 : Tab w' c cb nb xs') (h2 : Chg (fun b => b = c ∨ b = cb ∨ b = nb) w w') : Two w0 w' c cb nb xs' c' cb' nb' ys := by
  have hb : Below w0.heap.size w w' := h2.below h.fst.bel.size (by rintro k _ hk; exact (h.fst.lt k hk).1)
  refine ⟨⟨h1, h.fst.ge, h.fst.bel.trans hb⟩, ⟨h.snd.tab.chg h2 ?_ ?_ ?_, h.snd.ge, h.snd.bel.trans hb⟩, h.apart⟩
  · exact fun k => h.apart _ k (.inl rfl)
  · exact fun k => h.apart _ k (.inr (.inl rfl))
  · exact fun k => h.apart _ k (.inr (.inr rfl))

structure Ord (w W : World) (c cb nb c' cb' nb' D : Nat) (xs ys ws : List Int) : Prop where
  two : Two w W c cb nb xs c' cb' nb' ys
  blk : Blk W D (RwK .i64 ws) 2
  far : ∀ b, Trio c cb nb b ∨ Trio c' cb' nb' b → b ≠ D
  ge : w.heap.size ≤ D
theorem Ord.keep {w W W' : World} {c cb nb c' cb' nb' D : Nat} {xs ys ws : List Int} (h : Ord w W c cb nb c' cb' nb' D xs ys ws) (hb : Below W.heap.size W W') : Ord w W' c cb nb c' cb' nb' D xs ys ws :=
  ⟨h.two.keep hb, h.blk.below hb h.blk.lt, h.far, h.ge⟩
theorem Ord.swap {w W : World} {c cb nb c' cb' nb' D : Nat} {xs ys ws : List Int} (h : Ord w W c cb nb c' cb' nb' D xs ys ws) : Ord w W c' cb' nb' c cb nb D ys xs ws :=
  ⟨h.two.swap, h.blk, fun b hb => h.far b hb.symm, h.ge⟩
theorem Ord.bel {w W : World} {c cb nb c' cb' nb' D : Nat} {xs ys ws : List Int} (h : Ord w W c cb nb c' cb' nb' D xs ys ws) : Below w.heap.size w W := h.two.fst.bel

theorem blk_ne {W : World} {a b T T' : Nat} {cs cs' : Array Value} (h : Blk W a cs T) (h' : Blk W b cs' T') (hne : T ≠ T') : a ≠ b := by
  rintro rfl
  unfold Blk at h h'
  rw [h] at h'
  injection h' with h'
  injection h' with _ ht
  exact hne ht

theorem ord_add {w W : World} {c cb nb c' cb' nb' D : Nat} {xs ys ws : List Int} (h : Ord w W c cb nb c' cb' nb' D xs ys ws) (i d : Int) (hd : -9223372036854775808 ≤ d ∧ d ≤ 9223372036854775807) :
    Calls Try.prog 22 #[.pointer (some ⟨c, 0, none⟩), .int .i64 i, .int .i64 d] W fun e W' => e = .returned (.int .i64 (addE xs i d)) ∧ Ord w W' c cb nb c' cb' nb' D (addX xs i d) ys ws ∧ ∀ B cs, Blk W B cs 50 → Blk W' B cs 50 := by
  refine (add_has i d W h.two.fst.tab hd).mono ?_
  rintro e W' ⟨he, h1, h2⟩
  refine ⟨he, ⟨two_chg h.two h1 h2, h.blk.chg h2 ?_, h.far, h.ge⟩, fun B cs hB => ?_⟩
  · intro hD
    exact h.far D (.inl hD) rfl
  · obtain ⟨_, _, _, _, ht⟩ := h.two.fst.tab
    have e1 := blk_ne hB ht.hd (by decide)
    have e2 := blk_ne hB ht.row (by decide)
    have e3 := blk_ne hB ht.nds (by decide)
    exact hB.chg h2 (by omega)
theorem ord_add' {w W : World} {c cb nb c' cb' nb' D : Nat} {xs ys ws : List Int} (h : Ord w W c cb nb c' cb' nb' D xs ys ws) (i d : Int) (hd : -9223372036854775808 ≤ d ∧ d ≤ 9223372036854775807) :
    Calls Try.prog 22 #[.pointer (some ⟨c', 0, none⟩), .int .i64 i, .int .i64 d] W fun e W' => e = .returned (.int .i64 (addE ys i d)) ∧ Ord w W' c cb nb c' cb' nb' D xs (addX ys i d) ws ∧ ∀ B cs, Blk W B cs 50 → Blk W' B cs 50 :=
  (ord_add h.swap i d hd).mono fun _ _ ⟨he, h, k⟩ => ⟨he, h.swap, k⟩

theorem ord_set {w W : World} {c cb nb c' cb' nb' D : Nat} {xs ys ws : List Int} (h : Ord w W c cb nb c' cb' nb' D xs ys ws) (i : Nat) (v : Int) :
    Ord w (W.setCell ⟨D, i, none⟩ (.int .i64 v)) c cb nb c' cb' nb' D xs ys (ws.set i v) ∧ ∀ B cs, Blk W B cs 50 → Blk (W.setCell ⟨D, i, none⟩ (.int .i64 v)) B cs 50 := by
  have hc : Chg (fun b => b = D) W (W.setCell ⟨D, i, none⟩ (.int .i64 v)) := Chg.set (S := fun b => b = D) (Chg.refl _ W) (p := ⟨D, i, none⟩) rfl _
  have hb : Below w.heap.size w (W.setCell ⟨D, i, none⟩ (.int .i64 v)) := bel_set h.bel h.ge _
  have f := h.far
  refine ⟨⟨⟨⟨h.two.fst.tab.chg hc (f _ (.inl (.inl rfl))) (f _ (.inl (.inr (.inl rfl)))) (f _ (.inl (.inr (.inr rfl)))), h.two.fst.ge, hb⟩,
    ⟨h.two.snd.tab.chg hc (f _ (.inr (.inl rfl))) (f _ (.inr (.inr (.inl rfl)))) (f _ (.inr (.inr (.inr rfl)))), h.two.snd.ge, hb⟩, h.two.apart⟩, ?_, f, h.ge⟩, fun B cs hB => ?_⟩
  · have := h.blk.set i (.int .i64 v)
    rwa [RwK.set] at this
  · have e := blk_ne hB h.blk (by decide)
    exact hB.chg hc e

theorem ord_new {w w1 w2 : World} {c cb nb c' cb' nb' : Nat} {xs : List Int} (h : Own w w1 c cb nb xs) (h' : Own w1 w2 c' cb' nb' xs) (m : Nat) :
    Ord w (w2.alloc (.cells (RwK .i64 (List.replicate m 0)) 2)) c cb nb c' cb' nb' w2.heap.size xs xs (List.replicate m 0) := by
  have ht := two_new h h'
  refine ⟨ht.keep (below1 w2 _), Blk.new w2 _ 2, fun b hb => ?_, ht.fst.bel.size⟩
  rcases hb with hb | hb
  · have := (ht.fst.lt b hb).2; omega
  · have := (ht.snd.lt b hb).2; omega

end Go.Proofs.Ytooppkpaahmnhaa
