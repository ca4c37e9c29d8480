/- Additions that are made. -/
import Derived.Test.YtooppkpaahmnhaaAde
import Derived.Sort.QuietTacIn
namespace Go.Proofs.Ytooppkpaahmnhaa
open Go.RowKit Go.Shelf
attribute [local go_sem] Oper.semAt_some

theorem Chg.grown {S : Nat → Prop} {a w w' : World} {row : Option Nat} (h : Chg S a w) (hg : w.grownBy w' row) (hr : ∀ k, row = some k → a.heap.size ≤ k) : Chg S a w' :=
  ⟨hg.os.trans h.os, hg.tape.trans h.tape, hg.output.trans h.output, Nat.le_trans h.size hg.size, fun k hk hs => (hg.block k (Nat.lt_of_lt_of_le hk h.size) (fun e => by have := hr k e.symm; omega)).trans (h.block k hk hs)⟩

theorem Chg.setNew {S : Nat → Prop} {a w : World} (h : Chg S a w) {p : Addr} (hp : a.heap.size ≤ p.block) (v : Value) : Chg S a (w.setCell p v) :=
  ⟨h.os, h.tape, h.output, Nat.le_trans h.size (by simp [World.setCell]), fun k hk hs => (Below.heap_setCell _ _ _ _ (by omega)).trans (h.block k hk hs)⟩

theorem Chg.bel {S : Nat → Prop} {a w w' : World} (h : Chg S a w) (hb : Below a.heap.size w w') : Chg S a w' :=
  ⟨hb.os.trans h.os, hb.tape.trans h.tape, hb.output.trans h.output, Nat.le_trans h.size hb.size, fun k hk hs => (hb.block k hk).trans (h.block k hk hs)⟩
theorem add_tab {A : World} {c cb nb k cc nc : Nat} {xs : List Int} {x d : Int} {tb tn : Array Value} (hx : xs[k]?.getD 0 = x) (hk : k < xs.length) (hn : 0 ≤ x + d) (hs : xs.sum + d ≤ 9223372036854775807) (ok : Sound xs) (ne : cb ≠ nb)
    (h1 : Blk A nb (Rw (bump d (nodes xs) (upath xs.length (k + 1))) tn) 2) (h4 : Blk A c (Hd (some ⟨cb, 0, none⟩) xs.length cc (some ⟨nb, 0, none⟩) nc (xs.sum + d)) 59) (h5 : Blk A cb (Rw (xs.set k (x + d)) tb) 2) : Tab A c cb nb (xs.set k (x + d)) := by
  have hsum : (xs.set k (x + d)).sum = xs.sum + d := by rw [sum_set xs hk, hx]; omega
  have hpos : ∀ y ∈ xs.set k (x + d), 0 ≤ y := fun y hy => by
    rcases List.mem_or_eq_of_mem_set hy with h | h
    · exact ok.pos y h
    · omega
  refine ⟨cc, nc, tb, tn, ⟨?_, h5, ?_, ne, ⟨by rw [List.length_set]; exact ok.len, hpos, by rw [hsum]; exact hs⟩⟩⟩
  · rw [hsum, List.length_set]; exact h4
  · rw [← bump_nodes hk (v := x + d) (d := d) (by omega) hpos (by rw [hsum]; exact hs)]; exact h1

end Go.Proofs.Ytooppkpaahmnhaa
