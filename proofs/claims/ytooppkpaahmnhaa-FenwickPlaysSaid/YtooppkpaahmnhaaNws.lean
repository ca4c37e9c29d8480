/- FenwickNews: the walk. -/
import Derived.Test.YtooppkpaahmnhaaPly
namespace Go.Proofs.Ytooppkpaahmnhaa
open Go.RowKit Go.Shelf
attribute [local go_sem] Oper.semAt_some

set_option maxRecDepth 100000 in
set_option maxHeartbeats 4000000 in
theorem news_bad (w : World) (n : Int) (g : Nat → Int) (hg : InR g) (hn : n < 0 ∨ 65536 < n) : Calls Try.prog 5 #[.int .i64 n, .agg (Stp g)] w fun e w' => e = .returned (.bool true) ∧ Below w.heap.size w w' := by
  have B0 : Blk (w.alloc (.cells (Stp g) 35)) w.heap.size (Stp g) 35 := Blk.new w _ 35
  have s0 := B0.cell 0 (v := .int .i64 (g 0)) rfl
  have s1 := B0.cell 1 (v := .int .i64 (g 1)) rfl
  have s2 := B0.cell 2 (v := .int .i64 (g 2)) rfl
  have s3 := B0.cell 3 (v := .int .i64 (g 3)) rfl
  have s4 := B0.cell 4 (v := .int .i64 (g 4)) rfl
  have s5 := B0.cell 5 (v := .int .i64 (g 5)) rfl
  have hb := Lib.hid (below1 w (.cells (Stp g) 35))
  replace hg := Lib.hid hg
  replace hn := Lib.hid hn
  clear B0
  go_enter Try.func5, Try.ntmps5
  go_wp2_with fail
  generalize w.alloc (.cells (Stp g) 35) = W at *
  refine (new_no n _ hn.out).mono ?_
  rintro e w1 ⟨rfl, rfl⟩
  go_wp2_with fail
  refine (rnew_no n _ hn.out).mono ?_
  rintro e w1 ⟨rfl, rfl⟩
  go_wp2_with fail
  refine (agree_has (.inl ⟨rfl, rfl⟩) (.inl ⟨rfl, rfl⟩) hg.out).mono ?_
  rintro e w2 ⟨rfl, hb2⟩
  replace hb2 := Lib.hid hb2
  go_wp2_with fail
  refine (works_any _).mono ?_
  rintro e w3 ⟨rfl, hb3⟩
  replace hb3 := Lib.hid hb3
  go_wp2_with fail
  go_ret
  exact ⟨rfl, bel_trans (bel_trans hb.out hb2.out) hb3.out⟩

set_option maxRecDepth 100000 in
set_option maxHeartbeats 4000000 in
theorem news_good (w : World) (n : Nat) (g : Nat → Int) (hg : InR g) (hn : n ≤ 65536) : Calls Try.prog 5 #[.int .i64 (n : Int), .agg (Stp g)] w fun e w' => e = .returned (.bool true) ∧ Below w.heap.size w w' := by
  have B0 : Blk (w.alloc (.cells (Stp g) 35)) w.heap.size (Stp g) 35 := Blk.new w _ 35
  have hb := Lib.hid (below1 w (.cells (Stp g) 35))
  replace hg := Lib.hid hg
  replace B0 := Lib.hid B0
  go_enter Try.func5, Try.ntmps5
  go_wp2_with fail
  generalize w.alloc (.cells (Stp g) 35) = W at *
  refine (new_own n _ hn).mono ?_
  rintro e w1 ⟨c, cb, nb, rfl, o1⟩
  have B1 := Lib.hid (B0.out.below o1.bel B0.out.lt)
  replace o1 := Lib.hid o1
  go_wp2_with fail
  refine (rnew_yes n _ hn).mono ?_
  rintro e w2 ⟨rfl, t2, hb2⟩
  have P := Lib.hid (news_pl o1.out t2 hb2)
  have B2 := B1.out.below hb2 B1.out.lt
  have s0 := B2.cell 0 (v := .int .i64 (g 0)) rfl
  have s1 := B2.cell 1 (v := .int .i64 (g 1)) rfl
  have s2 := B2.cell 2 (v := .int .i64 (g 2)) rfl
  have s3 := B2.cell 3 (v := .int .i64 (g 3)) rfl
  have s4 := B2.cell 4 (v := .int .i64 (g 4)) rfl
  have s5 := B2.cell 5 (v := .int .i64 (g 5)) rfl
  clear t2 hb2 B2
  go_wp2_with fail
  refine (agree_has (.inr (.inr ⟨c, cb, nb, rfl, P.out.tab⟩)) (.inr ⟨_, _, rfl, P.out.r⟩) hg.out).mono ?_
  rintro e w3 ⟨rfl, hb3⟩
  replace hb3 := Lib.hid hb3
  go_wp2_with fail
  refine (works_any _).mono ?_
  rintro e w4 ⟨rfl, hb4⟩
  replace hb4 := Lib.hid hb4
  go_wp2_with fail
  go_ret
  exact ⟨rfl, bel_trans (bel_trans (bel_trans hb.out P.out.bel) hb3.out) hb4.out⟩

section
open Go.ChangeShapes Go.WideShapes
theorem news_walk {H : Type} {enc : TypeId × Value → H} {w0 : World} {base b0 : Nat} {spare : Nat → Bool} {held : Bool} {r : Reach} {d : DataW H} {p : List MemPlace} (w : World) (n : Int) (_hn : (Lit.int .i64 n).wf = true) (v : Value)
    (hv : Value.okWide Try.prog w0 r b0 35 v) (h : DataW.Trod enc Try.prog w0 base spare held 35 v d p) : Calls Try.prog 5 #[.int .i64 n, v] w fun e w' => e = .returned (.bool true) ∧ Below w.heap.size w w' := by
  obtain ⟨g, rfl, hg⟩ := open_step hv h
  by_cases h0 : n < 0 ∨ 65536 < n
  · exact news_bad w n g hg h0
  · obtain ⟨k, rfl⟩ := Int.eq_ofNat_of_zero_le (show 0 ≤ n by omega)
    exact news_good w k g hg (by omega)
end

end Go.Proofs.Ytooppkpaahmnhaa
