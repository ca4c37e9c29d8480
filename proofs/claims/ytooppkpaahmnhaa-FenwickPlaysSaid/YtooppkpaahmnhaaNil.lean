/- FenwickNil: the walk. -/
import Derived.Test.YtooppkpaahmnhaaFil
import Derived.Test.YtooppkpaahmnhaaSs
import Derived.Test.YtooppkpaahmnhaaOvr
namespace Go.Proofs.Ytooppkpaahmnhaa
open Go.RowKit Go.Shelf
attribute [local go_sem] Oper.semAt_some

theorem step_struct : IntStruct Try.prog 35 [.i64, .i64, .i64, .i64, .i64, .i64] := by
  refine ⟨_, Try.underlying35, by kernel_rfl, fun i k hk => ?_⟩
  match i, hk with
  | 0, hk => cases hk; exact ⟨_, rfl, by kernel_rfl, rfl, by kernel_rfl⟩
  | 1, hk => cases hk; exact ⟨_, rfl, by kernel_rfl, rfl, by kernel_rfl⟩
  | 2, hk => cases hk; exact ⟨_, rfl, by kernel_rfl, rfl, by kernel_rfl⟩
  | 3, hk => cases hk; exact ⟨_, rfl, by kernel_rfl, rfl, by kernel_rfl⟩
  | 4, hk => cases hk; exact ⟨_, rfl, by kernel_rfl, rfl, by kernel_rfl⟩
  | 5, hk => cases hk; exact ⟨_, rfl, by kernel_rfl, rfl, by kernel_rfl⟩
  | n + 6, hk => simp at hk

/-- a step, as six numbers -/
abbrev Stp (g : Nat → Int) : Array Value := #[.int .i64 (g 0), .int .i64 (g 1), .int .i64 (g 2), .int .i64 (g 3), .int .i64 (g 4), .int .i64 (g 5)]
def InR (g : Nat → Int) : Prop := ∀ i, i < 6 → -9223372036854775808 ≤ g i ∧ g i ≤ 9223372036854775807

section
open Go.ChangeShapes Go.WideShapes
theorem open_step {H : Type} {enc : TypeId × Value → H} {w : World} {base b0 : Nat} {spare : Nat → Bool} {held : Bool} {r : Reach} {v : Value} {d : DataW H} {p : List MemPlace}
    (hv : Value.okWide Try.prog w r b0 35 v) (h : DataW.Trod enc Try.prog w base spare held 35 v d p) : ∃ g : Nat → Int, v = .agg (Stp g) ∧ InR g := by
  obtain ⟨cs, rfl, hsz⟩ := okWide_struct Try.underlying35 hv
  obtain ⟨fuel, hf⟩ := h
  obtain ⟨g, hg⟩ := step_struct.cells hf
  have hc6 : cs.size = 6 := hsz.trans (by kernel_rfl)
  refine ⟨g, ?_, fun i hi => ?_⟩
  · congr 1
    apply Array.ext
    · simpa using hc6
    · intro i h1 h2
      have hi : i < 6 := by omega
      have hcs : (Value.agg cs).cells.toList = cs.toList := rfl
      have : cs[i]? = some (.int .i64 (g i)) := by
        match i, hi with
        | 0, _ => exact (by have h := (hg 0 _ rfl).1; simpa [Value.cells] using h)
        | 1, _ => exact (by have h := (hg 1 _ rfl).1; simpa [Value.cells] using h)
        | 2, _ => exact (by have h := (hg 2 _ rfl).1; simpa [Value.cells] using h)
        | 3, _ => exact (by have h := (hg 3 _ rfl).1; simpa [Value.cells] using h)
        | 4, _ => exact (by have h := (hg 4 _ rfl).1; simpa [Value.cells] using h)
        | 5, _ => exact (by have h := (hg 5 _ rfl).1; simpa [Value.cells] using h)
      rw [Array.getElem?_eq_getElem h1] at this
      injection this with this
      rw [this]
      match i, hi with
      | 0, _ => rfl
      | 1, _ => rfl
      | 2, _ => rfl
      | 3, _ => rfl
      | 4, _ => rfl
      | 5, _ => rfl
  · apply i64_range
    match i, hi with
    | 0, _ => exact (hg 0 _ rfl).2
    | 1, _ => exact (hg 1 _ rfl).2
    | 2, _ => exact (hg 2 _ rfl).2
    | 3, _ => exact (hg 3 _ rfl).2
    | 4, _ => exact (hg 4 _ rfl).2
    | 5, _ => exact (hg 5 _ rfl).2
end

/-- the blocks that the law makes -/
structure Nl (w wr : World) (g : Nat → Int) : Prop where
  st : Blk wr w.heap.size (Stp g) 35
  z : Blk wr (w.heap.size + 1) Hz 59
  l : Blk wr (w.heap.size + 2) #[.pointer none, .pointer (some ⟨w.heap.size + 1, 0, none⟩)] 24
  bel : Below w.heap.size w wr
theorem Nl.keep {w wr wr' : World} {g : Nat → Int} (h : Nl w wr g) (hb : Below wr.heap.size wr wr') : Nl w wr' g :=
  ⟨h.st.below hb h.st.lt, h.z.below hb h.z.lt, h.l.below hb h.l.lt, bel_trans h.bel hb⟩
theorem Nl.new (w : World) (g : Nat → Int) : Nl w (((w.alloc (.cells (Stp g) 35)).alloc (.cells Hz 59)).alloc (.cells #[.pointer none, .pointer (some ⟨w.heap.size + 1, 0, none⟩)] 24)) g := by
  refine ⟨((Blk.new w _ 35).alloc _).alloc _, ?_, ?_, bel_alloc (bel_alloc (bel_alloc (Below.refl _ _) _) _) _⟩
  · have := Blk.new (w.alloc (.cells (Stp g) 35)) Hz 59
    rw [World.size_alloc] at this
    exact this.alloc _
  · have := Blk.new ((w.alloc (.cells (Stp g) 35)).alloc (.cells Hz 59)) #[.pointer none, .pointer (some ⟨w.heap.size + 1, 0, none⟩)] 24
    rw [World.size_alloc, World.size_alloc] at this
    exact this

/-- a pointer to no counters -/
def No (w : World) (p : Option Addr) : Prop := p = none ∨ ∃ c, p = some ⟨c, 0, none⟩ ∧ Blk w c Hz 59
theorem No.has {w : World} {p : Option Addr} (h : No w p) : Has w p [] := by
  rcases h with rfl | ⟨c, rfl, h⟩
  · exact .inl ⟨rfl, rfl⟩
  · exact .inr (.inl ⟨c, rfl, h, rfl⟩)
theorem No.keep {w w' : World} {p : Option Addr} (h : No w p) (hb : Below w.heap.size w w') : No w' p := by
  rcases h with rfl | ⟨c, rfl, h⟩
  · exact .inl rfl
  · exact .inr ⟨c, rfl, h.below hb h.lt⟩
theorem copy_no {w : World} {p : Option Addr} (h : No w p) : Calls Try.prog 24 #[.pointer p] w fun e w' => e = .returned (.pointer none) ∧ w = w' := by
  rcases h with rfl | ⟨c, rfl, h⟩
  · exact copy_nil w
  · exact copy_zero c w h
theorem find_no {w : World} {p : Option Addr} (h : No w p) (x : Int) : Calls Try.prog 14 #[.pointer p, .int .i64 x] w fun e w' => e = .returned (.tuple #[.int .i64 0, .bool false]) ∧ Below w.heap.size w w' := by
  refine (find_has x w h.has).mono ?_
  rintro e w' ⟨⟨i, ok, hf, rfl⟩, hb⟩
  obtain ⟨rfl, rfl⟩ := found_no hf (by by_cases hx : x < 0; exact .inl hx; right; show (0 : Int) ≤ x; omega)
  exact ⟨rfl, hb⟩
theorem rangeZ_nil (a b : Int) : rangeZ [] a b = 0 := by unfold rangeZ; rw [pre_nil, pre_nil]; simp
theorem getZ_nil (i : Int) : getZ [] i = 0 := by unfold getZ; simp

set_option maxRecDepth 100000 in
set_option maxHeartbeats 4000000 in
theorem nil_walk1 (w : World) (g : Nat → Int) (hg : InR g) : Calls Try.prog 10 #[.agg (Stp g)] w fun e w' => e = .returned (.bool true) ∧ Below w.heap.size w w' := by
  have N0 := Lib.hid (Nl.new w g)
  replace hg := Lib.hid hg
  go_enter Try.func10, Try.ntmps10
  go_wp2_with fail
  replace N0 := Lib.hid (p := Nl w _ g) N0.out
  generalize ((w.alloc (Obj.cells (Stp g) 35)).alloc (Obj.cells Hz 59)).alloc (Obj.cells #[Value.pointer none, Value.pointer (some { block := w.heap.size + 1, off := 0 })] 24) = W0 at *
  go_loopw [6] (fun v6 wr => ∃ k : Nat, k ≤ 2 ∧ v6 = .int .i64 (k : Int) ∧ Nl w wr g) (fun v6 _ => 2 - (intOf v6).toNat)
  case atStart => exact ⟨0, by omega, rfl, N0.out⟩
  case round =>
    obtain ⟨k, hk, rfl, hN⟩ := hrel
    by_cases hlt : k < 2
    · obtain ⟨p, hp, hc⟩ : ∃ p, No wr p ∧ wr.cell? ⟨w.heap.size + 2, k, none⟩ = some (.pointer p) := by
        match k, hlt with
        | 0, _ => exact ⟨none, .inl rfl, hN.l.cell 0 rfl⟩
        | 1, _ => exact ⟨_, .inr ⟨_, rfl, hN.z⟩, hN.l.cell 1 rfl⟩
      have s1 := hN.st.cell 1 (v := .int .i64 (g 1)) rfl
      have s2 := hN.st.cell 2 (v := .int .i64 (g 2)) rfl
      have s3 := hN.st.cell 3 (v := .int .i64 (g 3)) rfl
      have s4 := hN.st.cell 4 (v := .int .i64 (g 4)) rfl
      have s5 := hN.st.cell 5 (v := .int .i64 (g 5)) rfl
      have k0 : (0 : Int) ≤ (k : Int) := by omega
      have k1 : (k : Int) < 2 := by omega
      replace hN := Lib.hid hN
      replace hp := Lib.hid hp
      go_wp2_with fail
      refine (find_no hp.out (g 5)).mono ?_
      rintro e w1 ⟨rfl, hb1⟩
      have N1 := Lib.hid (hN.out.keep hb1)
      have p1 := Lib.hid (hp.out.keep hb1)
      replace s1 := N1.out.st.cell 1 (v := .int .i64 (g 1)) rfl
      replace s2 := N1.out.st.cell 2 (v := .int .i64 (g 2)) rfl
      clear hb1 s3 s4 s5 hc
      go_wp2_with fail
      have hr2 := hg.out 2 (by omega)
      refine (add_none (g 1) (g 2) _ p1.out).mono ?_
      rintro e w2 ⟨rfl, hb2⟩
      have N2 := Lib.hid (N1.out.keep hb2)
      have p2 := Lib.hid (p1.out.keep hb2)
      replace s1 := N2.out.st.cell 1 (v := .int .i64 (g 1)) rfl
      clear hb2 s2
      go_wp2_with fail
      refine (get_has (g 1) _ p2.out.has).mono ?_
      rintro e w3 ⟨rfl, rfl⟩
      rw [getZ_nil]
      have s3 := N2.out.st.cell 3 (v := .int .i64 (g 3)) rfl
      clear s1
      go_wp2_with fail
      refine (prefix_has (g 3) _ p2.out.has).mono ?_
      rintro e w3 ⟨rfl, hb3⟩
      rw [pre_nil]
      have N3 := Lib.hid (N2.out.keep hb3)
      have p3 := Lib.hid (p2.out.keep hb3)
      replace s3 := N3.out.st.cell 3 (v := .int .i64 (g 3)) rfl
      have s4 := N3.out.st.cell 4 (v := .int .i64 (g 4)) rfl
      clear hb3
      go_wp2_with fail
      refine (range_has (g 3) (g 4) _ p3.out.has).mono ?_
      rintro e w4 ⟨rfl, hb4⟩
      rw [rangeZ_nil]
      have N4 := Lib.hid (N3.out.keep hb4)
      have p4 := Lib.hid (p3.out.keep hb4)
      clear hb4 s3 s4
      go_wp2_with fail
      refine (total_has p4.out.has).mono ?_
      rintro e w5 ⟨rfl, rfl⟩
      go_wp2_with fail
      refine (len_has p4.out.has).mono ?_
      rintro e w5 ⟨rfl, rfl⟩
      go_wp2_with fail
      refine (copy_no p4.out).mono ?_
      rintro e w5 ⟨rfl, rfl⟩
      go_wp2_with fail
      go_roundw
      case rel => exact ⟨k + 1, by omega, by go_num, N4.out⟩
      case measure => simp [intOf]; omega
    · have k1 : ¬ (k : Int) < 2 := by omega
      replace hN := Lib.hid hN
      go_wp2_with fail
      refine (works_any _).mono ?_
      rintro e w5 ⟨rfl, hb⟩
      replace hb := Lib.hid hb
      go_wp2_with fail
      go_ret
      exact ⟨rfl, bel_trans hN.out.bel hb.out⟩

section
open Go.ChangeShapes Go.WideShapes
theorem nil_walk {H : Type} {enc : TypeId × Value → H} {w0 : World} {base b0 : Nat} {spare : Nat → Bool} {held : Bool} {r : Reach} {d : DataW H} {p : List MemPlace} (w : World) (v : Value)
    (hv : Value.okWide Try.prog w0 r b0 35 v) (h : DataW.Trod enc Try.prog w0 base spare held 35 v d p) : Calls Try.prog 10 #[v] w fun e w' => e = .returned (.bool true) ∧ Below w.heap.size w w' := by
  obtain ⟨g, rfl, hg⟩ := open_step hv h
  exact nil_walk1 w g hg
end

end Go.Proofs.Ytooppkpaahmnhaa
