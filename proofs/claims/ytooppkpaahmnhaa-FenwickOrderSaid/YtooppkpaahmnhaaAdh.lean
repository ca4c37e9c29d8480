/- One contract for additions. -/
import Derived.Test.YtooppkpaahmnhaaAdk
import Derived.Test.YtooppkpaahmnhaaAdm
import Derived.Test.YtooppkpaahmnhaaCpy
namespace Go.Proofs.Ytooppkpaahmnhaa
open Go.RowKit Go.Shelf

/-- what Add answers -/
def addE (xs : List Int) (i d : Int) : Int :=
  if i < 0 ∨ (xs.length : Int) ≤ i then 3 else if d < 0 ∧ xs[i.toNat]?.getD 0 + d < 0 then 2 else if 9223372036854775807 < xs.sum + d then 7 else 0
/-- the counters behind it -/
def addX (xs : List Int) (i d : Int) : List Int := if addE xs i d = 0 then xs.set i.toNat (xs[i.toNat]?.getD 0 + d) else xs

theorem add_has {c cb nb : Nat} {xs : List Int} (i d : Int) (w : World) (hp : Tab w c cb nb xs) (hd : -9223372036854775808 ≤ d ∧ d ≤ 9223372036854775807) :
    Calls Try.prog 22 #[.pointer (some ⟨c, 0, none⟩), .int .i64 i, .int .i64 d] w fun e w' => e = .returned (.int .i64 (addE xs i d)) ∧ Tab w' c cb nb (addX xs i d) ∧ Chg (fun b => b = c ∨ b = cb ∨ b = nb) w w' := by
  unfold addX
  have hok : Sound xs := by obtain ⟨_, _, _, _, h⟩ := hp; exact h.ok
  by_cases h1 : i < 0
  · rw [show addE xs i d = 3 from if_pos (.inl h1), if_neg (by decide)]
    refine (add_low i d w hp h1).mono ?_
    rintro e w' ⟨rfl, hb⟩
    exact ⟨rfl, hp.bel hb, Chg.of_below hb _⟩
  by_cases h2 : (xs.length : Int) ≤ i
  · rw [show addE xs i d = 3 from if_pos (.inr h2), if_neg (by decide)]
    refine (add_high i d w hp h1 h2).mono ?_
    rintro e w' ⟨rfl, hb⟩
    exact ⟨rfl, hp.bel hb, Chg.of_below hb _⟩
  obtain ⟨k, rfl⟩ := Int.eq_ofNat_of_zero_le (show 0 ≤ i by omega)
  have hk : k < xs.length := by omega
  have hpos := at_pos hok.pos k
  have hsum := at_le_sum hok.pos k
  have htop := hok.top
  by_cases h3 : d < 0 ∧ xs[k]?.getD 0 + d < 0
  · rw [show addE xs (k : Int) d = 2 by unfold addE; rw [if_neg (by omega), if_pos (by simpa using h3)], if_neg (by decide)]
    refine (add_neg d w k hp hk h3.1 h3.2 hd.1).mono ?_
    rintro e w' ⟨rfl, hb⟩
    exact ⟨rfl, hp.bel hb, Chg.of_below hb _⟩
  by_cases h4 : 9223372036854775807 < xs.sum + d
  · rw [show addE xs (k : Int) d = 7 by unfold addE; rw [if_neg (by omega), if_neg (by simpa using h3), if_pos h4], if_neg (by decide)]
    refine (add_much d w k hp hk (by omega) h4 hd.2).mono ?_
    rintro e w' ⟨rfl, hb⟩
    exact ⟨rfl, hp.bel hb, Chg.of_below hb _⟩
  rw [show addE xs (k : Int) d = 0 by unfold addE; rw [if_neg (by omega), if_neg (by simpa using h3), if_neg h4], if_pos rfl, Int.toNat_natCast]
  by_cases h5 : d < 0
  · exact add_dn d w k hp hk (decide_eq_true h5) (by omega) (by omega) hd
  · exact add_up d w k hp hk (decide_eq_false h5) (by omega) (by omega) hd

theorem add_none {p : Option Addr} (i d : Int) (w : World) (hp : p = none ∨ ∃ c, p = some ⟨c, 0, none⟩ ∧ Blk w c Hz 59) :
    Calls Try.prog 22 #[.pointer p, .int .i64 i, .int .i64 d] w fun e w' => e = .returned (.int .i64 1) ∧ Below w.heap.size w w' := by
  rcases hp with rfl | ⟨c, rfl, h⟩
  · exact add_nil i d w
  · exact add_zero c i d w h

end Go.Proofs.Ytooppkpaahmnhaa
