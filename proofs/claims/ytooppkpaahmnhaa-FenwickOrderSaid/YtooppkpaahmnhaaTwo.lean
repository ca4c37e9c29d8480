/- Two tables of counters that the call made: what happens to one does not change the other. -/
import Derived.Test.YtooppkpaahmnhaaPlo
namespace Go.Proofs.Ytooppkpaahmnhaa
open Go.RowKit Go.Shelf

def Trio (c cb nb : Nat) (b : Nat) : Prop := b = c ∨ b = cb ∨ b = nb

structure Two (w0 w : World) (c cb nb : Nat) (xs : List Int) (c' cb' nb' : Nat) (ys : List Int) : Prop where
  fst : Own w0 w c cb nb xs
  snd : Own w0 w c' cb' nb' ys
  apart : ∀ b, Trio c cb nb b → ¬ Trio c' cb' nb' b
theorem Two.swap {w0 w : World} {c cb nb c' cb' nb' : Nat} {xs ys : List Int} (h : Two w0 w c cb nb xs c' cb' nb' ys) : Two w0 w c' cb' nb' ys c cb nb xs :=
  ⟨h.snd, h.fst, fun b h1 h2 => h.apart b h2 h1⟩
theorem Two.keep {w0 w w' : World} {c cb nb c' cb' nb' : Nat} {xs ys : List Int} (h : Two w0 w c cb nb xs c' cb' nb' ys) (hb : Below w.heap.size w w') : Two w0 w' c cb nb xs c' cb' nb' ys :=
  ⟨h.fst.keep hb, h.snd.keep hb, h.apart⟩
theorem Own.lt {w0 w : World} {c cb nb : Nat} {xs : List Int} (h : Own w0 w c cb nb xs) : ∀ b, Trio c cb nb b → w0.heap.size ≤ b ∧ b < w.heap.size := by
  obtain ⟨_, _, _, _, ht⟩ := h.tab
  rintro b (rfl | rfl | rfl)
  · exact ⟨h.ge.1, ht.hd.lt⟩
  · exact ⟨h.ge.2.1, ht.row.lt⟩
  · exact ⟨h.ge.2.2, ht.nds.lt⟩
theorem two_new {w0 w w' : World} {c cb nb c' cb' nb' : Nat} {xs ys : List Int} (h : Own w0 w c cb nb xs) (h' : Own w w' c' cb' nb' ys) : Two w0 w' c cb nb xs c' cb' nb' ys := by
  refine ⟨h.keep h'.bel, ⟨h'.tab, ?_, bel_trans h.bel h'.bel⟩, fun b h1 h2 => ?_⟩
  · have := h'.ge; have := h.bel.size; omega
  · have := (h.lt b h1).2; have := (h'.lt b h2).1; omega
theorem two_add {w0 w : World} {c cb nb c' cb' nb' : Nat} {xs ys : List Int} (h : Two w0 w c cb nb xs c' cb' nb' ys) (i d : Int) (hd : -9223372036854775808 ≤ d ∧ d ≤ 9223372036854775807) :
    Calls Try.prog 22 #[.pointer (some ⟨c, 0, none⟩), .int .i64 i, .int .i64 d] w fun e w' => e = .returned (.int .i64 (addE xs i d)) ∧ Two w0 w' c cb nb (addX xs i d) c' cb' nb' ys := by
  refine (add_has i d w h.fst.tab hd).mono ?_
  rintro e w' ⟨he, h1, h2⟩
  have hb : Below w0.heap.size w w' := h2.below h.fst.bel.size (by rintro k _ hk; exact (h.fst.lt k hk).1)
  refine ⟨he, ⟨h1, h.fst.ge, h.fst.bel.trans hb⟩, ⟨h.snd.tab.chg h2 ?_ ?_ ?_, h.snd.ge, h.snd.bel.trans hb⟩, h.apart⟩
  · exact fun k => h.apart _ k (.inl rfl)
  · exact fun k => h.apart _ k (.inr (.inl rfl))
  · exact fun k => h.apart _ k (.inr (.inr rfl))
theorem two_add' {w0 w : World} {c cb nb c' cb' nb' : Nat} {xs ys : List Int} (h : Two w0 w c cb nb xs c' cb' nb' ys) (i d : Int) (hd : -9223372036854775808 ≤ d ∧ d ≤ 9223372036854775807) :
    Calls Try.prog 22 #[.pointer (some ⟨c', 0, none⟩), .int .i64 i, .int .i64 d] w fun e w' => e = .returned (.int .i64 (addE ys i d)) ∧ Two w0 w' c cb nb xs c' cb' nb' (addX ys i d) :=
  (two_add h.swap i d hd).mono fun _ _ ⟨he, h⟩ => ⟨he, h.swap⟩

theorem get_q {w : World} {p : Option Addr} {xs : List Int} (h : Has w p xs) (i : Int) : Calls Try.prog 20 #[.pointer p, .int .i64 i] w fun e w' => e = .returned (.int .i64 (getZ xs i)) ∧ w = w' := get_has i w h
theorem prefix_two {w0 w : World} {c cb nb c' cb' nb' : Nat} {xs ys : List Int} (h : Two w0 w c cb nb xs c' cb' nb' ys) (k : Int) :
    Calls Try.prog 15 #[.pointer (some ⟨c, 0, none⟩), .int .i64 k] w fun e w' => e = .returned (.int .i64 (pre xs k.toNat)) ∧ Two w0 w' c cb nb xs c' cb' nb' ys :=
  (prefix_has k w h.fst.has).mono fun _ _ ⟨he, hw⟩ => ⟨he, h.keep hw⟩
theorem prefix_two' {w0 w : World} {c cb nb c' cb' nb' : Nat} {xs ys : List Int} (h : Two w0 w c cb nb xs c' cb' nb' ys) (k : Int) :
    Calls Try.prog 15 #[.pointer (some ⟨c', 0, none⟩), .int .i64 k] w fun e w' => e = .returned (.int .i64 (pre ys k.toNat)) ∧ Two w0 w' c cb nb xs c' cb' nb' ys :=
  (prefix_has k w h.snd.has).mono fun _ _ ⟨he, hw⟩ => ⟨he, h.keep hw⟩
theorem getZ_nat (xs : List Int) (k : Nat) : getZ xs (k : Int) = xs[k]?.getD 0 := by
  unfold getZ; rw [if_neg (by omega), Int.toNat_natCast]

end Go.Proofs.Ytooppkpaahmnhaa
