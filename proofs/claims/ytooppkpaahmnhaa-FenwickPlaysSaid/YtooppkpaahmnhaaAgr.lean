/- Counters agree with the reference's; FenwickNews: the walk. -/
import Derived.Test.YtooppkpaahmnhaaRad
import Derived.Test.YtooppkpaahmnhaaNil
import Derived.Deep.DeepCutAuto
namespace Go.Proofs.Ytooppkpaahmnhaa
open Go.RowKit Go.Shelf
attribute [local go_sem] Oper.semAt_some

/-- both counters, and the step, in memory -/
structure Ag (w W : World) (pc pr : Option Addr) (xs : List Int) (g : Nat → Int) : Prop where
  st : Blk W w.heap.size (Stp g) 35
  c : Has W pc xs
  r : HasR W pr xs
  bel : Below w.heap.size w W
theorem Ag.keep {w W W' : World} {pc pr : Option Addr} {xs : List Int} {g : Nat → Int} (h : Ag w W pc pr xs g) (hb : Below W.heap.size W W') : Ag w W' pc pr xs g :=
  ⟨h.st.below hb h.st.lt, h.c.bel hb, h.r.bel hb, bel_trans h.bel hb⟩
theorem Ag.cells {w W : World} {pc pr : Option Addr} {xs : List Int} {g : Nat → Int} (h : Ag w W pc pr xs g) :
    W.cell? ⟨w.heap.size, 1, none⟩ = some (.int .i64 (g 1)) ∧ W.cell? ⟨w.heap.size, 3, none⟩ = some (.int .i64 (g 3)) ∧ W.cell? ⟨w.heap.size, 4, none⟩ = some (.int .i64 (g 4)) :=
  ⟨h.st.cell 1 rfl, h.st.cell 3 rfl, h.st.cell 4 rfl⟩

set_option maxRecDepth 100000 in
set_option maxHeartbeats 8000000 in
theorem agree_has {w : World} {pc pr : Option Addr} {xs : List Int} {g : Nat → Int} (hc : Has w pc xs) (hr : HasR w pr xs) (hg : InR g) :
    Calls Try.prog 19 #[.pointer pc, .pointer pr, .agg (Stp g)] w fun e w' => e = .returned (.bool true) ∧ Below w.heap.size w w' := by
  have A0 : Ag w (w.alloc (.cells (Stp g) 35)) pc pr xs g := ⟨Blk.new w _ 35, hc.bel (below1 w _), hr.bel (below1 w _), below1 w _⟩
  have ok := hc.ok
  have h5 := hg 5 (by omega)
  have c5 := A0.st.cell 5 (v := .int .i64 (g 5)) rfl
  replace A0 := Lib.hid A0
  replace ok := Lib.hid ok
  clear hc hr hg
  go_enter Try.func19, Try.ntmps19
  go_wp2_with fail
  generalize w.alloc (.cells (Stp g) 35) = W at *
  refine (find_has (g 5) _ A0.out.c).mono ?_
  rintro e w1 ⟨⟨i1, b1, hf1, rfl⟩, hb1⟩
  have A1 := Lib.hid (A0.out.keep hb1)
  have c5 := A1.out.st.cell 5 (v := .int .i64 (g 5)) rfl
  replace hf1 := Lib.hid hf1
  clear hb1
  go_wp2_with fail
  refine (rfind_has A1.out.r (g 5) h5).mono ?_
  rintro e w2 ⟨⟨i2, b2, hf2, rfl⟩, rfl⟩
  obtain ⟨rfl, rfl⟩ := found_unique ok.out hf1.out hf2
  clear hf2
  have A2 := Lib.hid (A1.out.keep (bel_drew (Below.refl _ _)))
  have s1 := A1.out.cells
  have s2 := A2.out.cells
  go_wp2_with fail
  go_cut [80] (fun v wx => v = .bool false ∧ Ag w wx pc pr xs g)
  case first =>
    go_region_held3 (fun w' => w'.cell? ⟨w.heap.size, 1, none⟩ = some (.int .i64 (g 1)) ∧ w'.cell? ⟨w.heap.size, 3, none⟩ = some (.int .i64 (g 3)) ∧ w'.cell? ⟨w.heap.size, 4, none⟩ = some (.int .i64 (g 4)))
      (first | assumption)
      (first
        | (go_at_call 20; refine (get_has _ _ A2.out.c).mono ?_; rintro e w3 ⟨rfl, rfl⟩)
        | (go_at_call 30; refine (rget_has A2.out.r _).mono ?_; rintro e w3 ⟨rfl, rfl⟩)
        | (go_at_call 15; refine (prefix_has _ _ A2.out.c).mono ?_; rintro e w3 ⟨rfl, hb3⟩; have A3 := A2.out.keep hb3; have s3 := A3.cells; clear A2; have A2 := Lib.hid A3; clear A3 hb3)
        | (go_at_call 31; refine (rprefix_has A2.out.r _).mono ?_; rintro e w3 ⟨rfl, rfl⟩)
        | (go_at_call 21; refine (range_has _ _ _ A2.out.c).mono ?_; rintro e w4 ⟨rfl, hb3⟩; have A3 := A2.out.keep hb3; have s4 := A3.cells; clear A2; have A2 := Lib.hid A3; clear A3 hb3)
        | (go_at_call 32; refine (rrange_has A2.out.r _ _).mono ?_; rintro e w3 ⟨rfl, rfl⟩))
    all_goals (go_wp2_with fail; go_meet; exact ⟨by simp, A2.out⟩)
  case rest =>
    obtain ⟨rfl, A4⟩ := hcut
    replace A4 := Lib.hid A4
    clear A2 s1 s2 c5
    go_wp2_with fail
    refine (total_has A4.out.c).mono ?_
    rintro e w3 ⟨rfl, rfl⟩
    go_wp2_with fail
    refine (rtotal_has A4.out.r).mono ?_
    rintro e w3 ⟨rfl, rfl⟩
    go_wp2_with fail
    refine (len_has A4.out.c).mono ?_
    rintro e w3 ⟨rfl, rfl⟩
    go_wp2_with fail
    refine (rlen_has A4.out.r).mono ?_
    rintro e w3 ⟨rfl, rfl⟩
    go_wp2_with fail
    go_ret
    exact ⟨ret_bool (by simp), A4.out.bel⟩

end Go.Proofs.Ytooppkpaahmnhaa
