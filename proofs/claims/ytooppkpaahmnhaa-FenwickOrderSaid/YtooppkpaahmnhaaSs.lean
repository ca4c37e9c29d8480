/- Slices of structs of whole numbers that came in, as tables. -/
import Derived.Test.YtooppkpaahmnhaaBase
import Derived.Deep.Slices
namespace Go.Proofs.Ytooppkpaahmnhaa
open Go.RowKit

/-- the struct type t is of whole numbers of these kinds, a cell each -/
def IntStruct (P : Program) (t : Nat) (ks : List IntKind) : Prop :=
  ∃ fs : Array Field, P.underlying t = some (.struct fs) ∧ P.cellsOf t = ks.length ∧ ∀ i k, ks[i]? = some k → ∃ f : Field, fs[i]? = some f ∧ P.underlying f.type = some (.int k) ∧ f.offset = i ∧ P.cellsOf f.type = 1

/-- a slice's value leads, below n₀, to this table of numbers -/
def RT (n₀ : Nat) (w : World) (ks : List IntKind) (a : Option Addr) (len : Nat) (G : Nat → Nat → Int) : Prop :=
  0 < len → ∃ b off, a = some ⟨b, off, none⟩ ∧ b < n₀ ∧ ∀ j, j < len → ∀ i k, ks[i]? = some k → w.cell? ⟨b, off + j * ks.length + i, none⟩ = some (.int k (G j i)) ∧ (Lit.int k (G j i)).wf = true

theorem RT.below {n₀ : Nat} {w w' : World} {ks : List IntKind} {a : Option Addr} {len : Nat} {G : Nat → Nat → Int} (h : RT n₀ w ks a len G) (hb : Below n₀ w w') : RT n₀ w' ks a len G := fun hp => by
  obtain ⟨b, off, ha, hlt, hc⟩ := h hp
  exact ⟨b, off, ha, hlt, fun j hj i k hk => ⟨(hb.cell (p := ⟨b, off + j * ks.length + i, none⟩) hlt).trans (hc j hj i k hk).1, (hc j hj i k hk).2⟩⟩

theorem IntStruct.cells {H : Type} {enc : TypeId × Value → H} {P : Program} {w : World} {base : Nat} {spare : Nat → Bool} {held : Bool} {fuel t : Nat} {ks : List IntKind} {cs : List Value} {x : DataW H × List MemPlace} (hs : IntStruct P t ks) (h : DataW.trod enc P w base spare held fuel t cs = some x) :
    ∃ g : Nat → Int, ∀ i k, ks[i]? = some k → cs[i]? = some (.int k (g i)) ∧ (Lit.int k (g i)).wf = true := by
  obtain ⟨fs, hu, hc, hf⟩ := hs
  obtain ⟨xs, n, _, rfl, hl, hlen, hx⟩ := DataW.trod_struct hu h
  have hall : ∀ i, i < ks.length → ∃ n : Int, ∀ k, ks[i]? = some k → cs[i]? = some (.int k n) ∧ (Lit.int k n).wf = true := fun i hi => by
    obtain ⟨f, h1, h2, h3, h4⟩ := hf i _ (List.getElem?_eq_getElem hi)
    have := hx i f h1
    rw [h3, h4] at this
    have hlt : i < xs.length := by
      rw [hlen]
      by_cases hc : i < fs.size
      · exact hc
      · rw [Array.getElem?_eq_none (by omega)] at h1; cases h1
    rw [List.getElem?_eq_getElem hlt] at this
    obtain ⟨m, e1, _, e3⟩ := DataW.trod_int h2 this
    refine ⟨m, fun k hk => ?_⟩
    rw [List.getElem?_eq_getElem hi] at hk
    cases hk
    have hd : cs[i]? = (List.take 1 (List.drop i cs))[0]? := by simp
    rw [hd, e1]
    exact ⟨rfl, e3⟩
  obtain ⟨g, hg⟩ := Go.Deep.choose_lt hall
  refine ⟨g, fun i k hk => ?_⟩
  have hi : i < ks.length := by
    by_cases hc : i < ks.length
    · exact hc
    · rw [List.getElem?_eq_none (by omega)] at hk; cases hk
  exact hg i hi k hk

/-- a slice of such structs that came in -/
theorem open_table {H : Type} {enc : TypeId × Value → H} {P : Program} {w : World} {base : Nat} {spare : Nat → Bool} {held : Bool} {t e : Nat} {ks : List IntKind} {a : Option Addr} {len cap : Nat} {d : DataW H} {ps : List MemPlace} (hu : P.underlying t = some (.slice e)) (hs : IntStruct P e ks) (hk0 : 0 < ks.length)
    (h : DataW.Trod enc P w base spare held t (.slice a len cap) d ps) : ∃ G, len ≤ cap ∧ cap ≤ maxLen ∧ RT w.heap.size w ks a len G := by
  obtain ⟨fuel, hf⟩ := h
  rcases Go.Deep.open_slice hu hf with ⟨hcs, _⟩ | ⟨a, len', cap', m, n, D, Pl, hcs, hb, hl, hm, hmm, _, hx⟩
  · simp [Value.cells] at hcs
    obtain ⟨rfl, rfl, rfl⟩ := hcs
    exact ⟨fun _ _ => 0, Nat.le_refl _, by unfold maxLen; omega, fun h => absurd h (by omega)⟩
  · simp [Value.cells] at hcs
    obtain ⟨rfl, rfl, rfl⟩ := hcs
    have hlm : len ≤ m := by rw [hmm]; split <;> omega
    have hall : ∀ j, j < len → ∃ g : Nat → Int, ∀ i k, ks[i]? = some k → w.cell? (a.add (j * ks.length + i)) = some (.int k (g i)) ∧ (Lit.int k (g i)).wf = true := fun j hj => by
      obtain ⟨cs', h1, h2⟩ := hx j (by omega)
      obtain ⟨g, hg⟩ := hs.cells h2
      obtain ⟨fs, _, hc, _⟩ := hs
      rw [hc] at h1
      obtain ⟨_, hlen, hcell⟩ := World.cells?_some h1
      refine ⟨g, fun i k hk => ?_⟩
      have hi : i < ks.length := by
        by_cases hc : i < ks.length
        · exact hc
        · rw [List.getElem?_eq_none (by omega)] at hk; cases hk
      obtain ⟨g1, g2⟩ := hg i k hk
      refine ⟨?_, g2⟩
      rw [← g1, ← hcell i hi]
      congr 1
      unfold Addr.add
      by_cases e1 : j * ks.length = 0
      · rw [e1]; simp
      · by_cases e2 : i = 0
        · subst e2; simp [e1]
        · rw [if_neg (by omega), if_neg e2, if_neg e1]; simp; omega
    obtain ⟨G, hG⟩ := Go.Deep.choose_lt hall
    refine ⟨G, hl, hm, fun hp => ?_⟩
    have h00 := (hG 0 hp 0 _ (List.getElem?_eq_getElem hk0)).1
    obtain ⟨b, off, spot⟩ := a
    have hspot : spot = none := by simpa [Addr.add] using World.cell?_spot h00
    subst hspot
    refine ⟨b, off, rfl, ?_, fun j hj i k hk => ?_⟩
    · have := World.block_lt_of_cell? _ _ h00
      simpa [Addr.add] using this
    · obtain ⟨g1, g2⟩ := hG j hj i k hk
      refine ⟨?_, g2⟩
      rw [← g1]
      congr 1
      unfold Addr.add
      split
      · rename_i e; rw [Nat.add_assoc, e]; rfl
      · simp; omega

end Go.Proofs.Ytooppkpaahmnhaa
