/- Prefixes and ranges of any counters. -/
import Derived.Test.YtooppkpaahmnhaaTab
import Derived.Deep.QuietTactic
import Derived.BigQuiet
import Derived.Deep.RegionWith
import Derived.Deep.RegionHeld3
import Derived.Sort.CutIn
namespace Go.Proofs.Ytooppkpaahmnhaa
open Go.RowKit Go.Shelf
attribute [local go_sem] Oper.semAt_some

set_option maxRecDepth 100000 in
set_option maxHeartbeats 4000000 in
theorem down_no {α : Type} (encs : α → Array Value) (B m : Nat) (z : Int) (w : World) (hz : z ≤ 0) (hB : Blk w B #[.int .i64 z] 3) :
    Iter Fence.wide m Try.prog 39 #[.pointer (some ⟨B, 0, none⟩)] encs (· = B) B (fun xs => xs = []) w := by
  intro l J W hW hJ hY h0
  have hB' : Blk W B #[.int .i64 z] 3 := (hW B rfl).trans hB
  have c0 := hB'.cell 0 (v := .int .i64 z) rfl
  have hz' : ¬ 0 < z := by omega
  have hz2 : decide (0 < z) = false := decide_eq_false hz'
  refine callsIn_of_wp Try.func39 rfl trivial ?_ rfl
  simp only [Try.ntmps39, List.size_toArray, List.length_cons, List.length_nil, Nat.reduceAdd, Nat.reduceSub, Array.replicate_succ, Array.replicate_zero, List.push_toArray, List.append_toArray, List.nil_append, List.cons_append]
  gi_wp2
  gi_loopw [] (fun wr => wr = W) (fun _ => 0)
  case atStart => exact rfl
  case round =>
    subst hrel
    gi_wp2
    refine ⟨fun _ h => (by cases h), ?_⟩
    gi_wp2
    go_end0
    exact ⟨⟨_, rfl⟩, [], rfl, h0⟩


set_option maxRecDepth 100000 in
set_option maxHeartbeats 4000000 in
theorem prefix_no1 (p : Option Addr) (k : Int) (w : World) (hp : Has w p []) (hz : k ≤ 0) :
    Calls Try.prog 15 #[.pointer p, .int .i64 k] w fun e w' => e = .returned (.int .i64 0) ∧ Below w.heap.size w w' := by
  refine (callsIn_wide (n := 9)).1 ?_
  have b2 := Blk.new w #[.pointer p] 24
  have b2' := b2.alloc (.cells #[.int .i64 0] 2)
  have b5 := Blk.new (w.alloc (.cells #[.pointer p] 24)) #[.int .i64 0] 2
  rw [World.size_alloc] at b5
  have hbl : Below w.heap.size w ((w.alloc (.cells #[.pointer p] 24)).alloc (.cells #[.int .i64 0] 2)) := bel_alloc (bel_alloc (Below.refl _ _) _) _
  have hsz : ((w.alloc (.cells #[.pointer p] 24)).alloc (.cells #[.int .i64 0] 2)).heap.size = w.heap.size + 2 := by simp
  refine callsIn_of_wp_marks Try.func15 rfl trivial ?_ rfl
  simp only [Try.ntmps15, List.size_toArray, List.length_cons, List.length_nil, Nat.reduceAdd, Nat.reduceSub, Array.replicate_succ, Array.replicate_zero, List.push_toArray, List.append_toArray, List.nil_append, List.cons_append]
  gi_wp2_with fail
  generalize (w.alloc (.cells #[.pointer p] 24)).alloc (.cells #[.int .i64 0] 2) = W at *
  have t2 := b2'.cell 0 (v := .pointer p) rfl
  have H2 := Lib.hid b2'
  have H5 := Lib.hid b5
  have HCd := Lib.hid (len_has (hp.bel (w' := W.drew) (bel_drew hbl)))
  have HS := Lib.hid hsz
  clear b2 b2' b5 hp hsz
  gi_cut [12] from 7 (fun s12 wx => s12 = .func (.func 39) #[] #[.pointer (some ⟨W.heap.size, 0, none⟩)] ∧ wx = (W.alloc (.cells #[.int .i64 k] 3)).drew)
  case first =>
    refine wpIn_noPanic ?_
    gi_region_with (first
      | (refine ⟨trivial, ?_⟩; gi_at_call 26; refine (callsIn_wide.2 HCd.out).mono ?_; rintro e w1 ⟨rfl, rfl⟩)
      | (refine ⟨trivial, ?_⟩; gi_at_call 28; refine (callsIn_wide.2 (callsIn_wide.1 (down_any _ _ _))).mono ?_; rintro e w1 ⟨rfl, rfl⟩))
    all_goals refine NoPanic.normal ?_
    all_goals (gi_wp2_with fail; gi_meet; exact ⟨rfl, rfl⟩)
  case rest =>
    obtain ⟨rfl, rfl⟩ := hcut
    gi_wp2_with fail
    have hB3 : Blk (W.alloc (.cells #[.int .i64 k] 3)).drew W.heap.size #[.int .i64 k] 3 := Blk.new W #[.int .i64 k] 3
    have hB5 : Blk (W.alloc (.cells #[.int .i64 k] 3)).drew (w.heap.size + 1) #[.int .i64 0] 2 := H5.out.alloc _
    have hB2 : Blk (W.alloc (.cells #[.int .i64 k] 3)).drew w.heap.size #[.pointer p] 24 := H2.out.alloc _
    have hV : Below w.heap.size w (W.alloc (.cells #[.int .i64 k] 3)).drew := bel_drew (bel_alloc hbl _)
    have hVs : (W.alloc (.cells #[.int .i64 k] 3)).drew.heap.size = w.heap.size + 3 := by have := HS.out; show (W.alloc _).heap.size = _; simp; omega
    generalize (W.alloc (.cells #[.int .i64 k] 3)).drew = V at *
    have HV := Lib.hid hVs
    clear hVs
    refine wpIn_iter (F := Fence.wide) rfl (by omega) (gf := 39) (lb := #[.pointer (some ⟨W.heap.size, 0, none⟩)]) rfl trivial (enters_of Try.func39 (by kernel_rfl) rfl) (down_no (α := Empty) (fun x => x.elim) W.heap.size _ k V (by omega) hB3)
      (fun b e => by have := HS.out; have := HV.out; rw [e]; omega) (by have := HS.out; have := HV.out; omega) (fun x => x.elim)
      (fun pre V' => Blk V' (w.heap.size + 1) #[.int .i64 0] 2 ∧ Blk V' w.heap.size #[.pointer p] 24 ∧ Below w.heap.size w V')
      ?own ?ownB ⟨hB5, hB2, hV⟩
      (fun x => x.elim) ?assign ?body ?done
    case own =>
      intro s A B row hs hg hr
      have h1 := HS.out
      have h2 := HV.out
      exact ⟨own_blk hs.1 hg hr (by omega), own_blk hs.2.1 hg hr (by omega), hs.2.2.grown hg hs.2.2.size (fun k e => by have := (hr k e).1; omega)⟩
    case ownB =>
      intro pre A v hs
      have h1 := HS.out
      have h2 := HV.out
      exact ⟨hs.1.other (by show _ ≠ W.heap.size; omega) _, hs.2.1.other (by show _ ≠ W.heap.size; omega) _, hs.2.2.setCell (p := ⟨W.heap.size, 0, none⟩) (by show _ ≤ W.heap.size; omega) _⟩
    case assign => intro l x; exact x.elim
    case body => intro l pre x; exact x.elim
    case done =>
      rintro D xs A hD hS ⟨h5, h2, hA⟩ hK
      have q5 := h5.cell 0 (v := .int .i64 0) rfl
      gi_wp2
      refine ⟨by simp, .inl ⟨_, _, rfl, run_takeDeferred hK, ?_⟩⟩
      have hlt := (Array.getElem?_eq_some_iff.1 hK).1
      refine ⟨_, results_tmp rfl _ _ _, rfl, hA.trans (belowK_b (w := w) (Nat.le_refl _) A D _ _ (by have := HV.out; omega) hK rfl rfl)⟩


set_option maxRecDepth 100000 in
set_option maxHeartbeats 4000000 in
theorem prefix_no2 (p : Option Addr) (k : Int) (w : World) (hp : Has w p []) (hz : 0 < k) :
    Calls Try.prog 15 #[.pointer p, .int .i64 k] w fun e w' => e = .returned (.int .i64 0) ∧ Below w.heap.size w w' := by
  refine (callsIn_wide (n := 9)).1 ?_
  have b2 := Blk.new w #[.pointer p] 24
  have b2' := b2.alloc (.cells #[.int .i64 0] 2)
  have b5 := Blk.new (w.alloc (.cells #[.pointer p] 24)) #[.int .i64 0] 2
  rw [World.size_alloc] at b5
  have hbl : Below w.heap.size w ((w.alloc (.cells #[.pointer p] 24)).alloc (.cells #[.int .i64 0] 2)) := bel_alloc (bel_alloc (Below.refl _ _) _) _
  have hsz : ((w.alloc (.cells #[.pointer p] 24)).alloc (.cells #[.int .i64 0] 2)).heap.size = w.heap.size + 2 := by simp
  refine callsIn_of_wp_marks Try.func15 rfl trivial ?_ rfl
  simp only [Try.ntmps15, List.size_toArray, List.length_cons, List.length_nil, Nat.reduceAdd, Nat.reduceSub, Array.replicate_succ, Array.replicate_zero, List.push_toArray, List.append_toArray, List.nil_append, List.cons_append]
  gi_wp2_with fail
  generalize (w.alloc (.cells #[.pointer p] 24)).alloc (.cells #[.int .i64 0] 2) = W at *
  have t2 := b2'.cell 0 (v := .pointer p) rfl
  have H2 := Lib.hid b2'
  have H5 := Lib.hid b5
  have HCd := Lib.hid (len_has (hp.bel (w' := W.drew) (bel_drew hbl)))
  have HS := Lib.hid hsz
  clear b2 b2' b5 hp hsz
  gi_cut [12] from 7 (fun s12 wx => s12 = .func (.func 39) #[] #[.pointer (some ⟨W.heap.size, 0, none⟩)] ∧ wx = (W.alloc (.cells #[.int .i64 (0 : Int)] 3)).drew)
  case first =>
    refine wpIn_noPanic ?_
    gi_region_with (first
      | (refine ⟨trivial, ?_⟩; gi_at_call 26; refine (callsIn_wide.2 HCd.out).mono ?_; rintro e w1 ⟨rfl, rfl⟩)
      | (refine ⟨trivial, ?_⟩; gi_at_call 28; refine (callsIn_wide.2 (callsIn_wide.1 (down_any _ _ _))).mono ?_; rintro e w1 ⟨rfl, rfl⟩))
    all_goals refine NoPanic.normal ?_
    all_goals (gi_wp2_with fail; gi_meet; exact ⟨rfl, rfl⟩)
  case rest =>
    obtain ⟨rfl, rfl⟩ := hcut
    gi_wp2_with fail
    have hB3 : Blk (W.alloc (.cells #[.int .i64 (0 : Int)] 3)).drew W.heap.size #[.int .i64 (0 : Int)] 3 := Blk.new W #[.int .i64 (0 : Int)] 3
    have hB5 : Blk (W.alloc (.cells #[.int .i64 (0 : Int)] 3)).drew (w.heap.size + 1) #[.int .i64 0] 2 := H5.out.alloc _
    have hB2 : Blk (W.alloc (.cells #[.int .i64 (0 : Int)] 3)).drew w.heap.size #[.pointer p] 24 := H2.out.alloc _
    have hV : Below w.heap.size w (W.alloc (.cells #[.int .i64 (0 : Int)] 3)).drew := bel_drew (bel_alloc hbl _)
    have hVs : (W.alloc (.cells #[.int .i64 (0 : Int)] 3)).drew.heap.size = w.heap.size + 3 := by have := HS.out; show (W.alloc _).heap.size = _; simp; omega
    generalize (W.alloc (.cells #[.int .i64 (0 : Int)] 3)).drew = V at *
    have HV := Lib.hid hVs
    clear hVs
    refine wpIn_iter (F := Fence.wide) rfl (by omega) (gf := 39) (lb := #[.pointer (some ⟨W.heap.size, 0, none⟩)]) rfl trivial (enters_of Try.func39 (by kernel_rfl) rfl) (down_no (α := Empty) (fun x => x.elim) W.heap.size _ 0 V (by omega) hB3)
      (fun b e => by have := HS.out; have := HV.out; rw [e]; omega) (by have := HS.out; have := HV.out; omega) (fun x => x.elim)
      (fun pre V' => Blk V' (w.heap.size + 1) #[.int .i64 0] 2 ∧ Blk V' w.heap.size #[.pointer p] 24 ∧ Below w.heap.size w V')
      ?own ?ownB ⟨hB5, hB2, hV⟩
      (fun x => x.elim) ?assign ?body ?done
    case own =>
      intro s A B row hs hg hr
      have h1 := HS.out
      have h2 := HV.out
      exact ⟨own_blk hs.1 hg hr (by omega), own_blk hs.2.1 hg hr (by omega), hs.2.2.grown hg hs.2.2.size (fun k e => by have := (hr k e).1; omega)⟩
    case ownB =>
      intro pre A v hs
      have h1 := HS.out
      have h2 := HV.out
      exact ⟨hs.1.other (by show _ ≠ W.heap.size; omega) _, hs.2.1.other (by show _ ≠ W.heap.size; omega) _, hs.2.2.setCell (p := ⟨W.heap.size, 0, none⟩) (by show _ ≤ W.heap.size; omega) _⟩
    case assign => intro l x; exact x.elim
    case body => intro l pre x; exact x.elim
    case done =>
      rintro D xs A hD hS ⟨h5, h2, hA⟩ hK
      have q5 := h5.cell 0 (v := .int .i64 0) rfl
      gi_wp2
      refine ⟨by simp, .inl ⟨_, _, rfl, run_takeDeferred hK, ?_⟩⟩
      have hlt := (Array.getElem?_eq_some_iff.1 hK).1
      refine ⟨_, results_tmp rfl _ _ _, rfl, hA.trans (belowK_b (w := w) (Nat.le_refl _) A D _ _ (by have := HV.out; omega) hK rfl rfl)⟩


end Go.Proofs.Ytooppkpaahmnhaa
