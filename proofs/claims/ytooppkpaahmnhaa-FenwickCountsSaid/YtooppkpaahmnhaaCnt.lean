/- FenwickCounts: the walk. -/
import Derived.Test.YtooppkpaahmnhaaMkk
namespace Go.Proofs.Ytooppkpaahmnhaa
open Go.RowKit Go.Shelf
attribute [local go_sem] Oper.semAt_some

theorem own_other {w0 w : World} {c cb nb D : Nat} {xs : List Int} {cs : Array Value} (h : Own w0 w c cb nb xs) (hD : Blk w D cs 3) (i : Nat) (v : Value) (hge : w0.heap.size ≤ D) : Own w0 (w.setCell ⟨D, i, none⟩ v) c cb nb xs := by
  obtain ⟨cc, nc, tb, tn, ht⟩ := h.tab
  have ne_ : ∀ {b : Nat} {ct : Array Value} {T : Nat}, Blk w b ct T → T ≠ 3 → b ≠ D := by
    rintro b ct T hb hT rfl
    unfold Blk at hb hD
    rw [hb] at hD
    injection hD with hD
    injection hD with _ hD
    exact hT hD
  exact ⟨⟨cc, nc, tb, tn, ht.keep (Below.heap_setCell _ _ _ _ (ne_ ht.hd (by decide))) (Below.heap_setCell _ _ _ _ (ne_ ht.row (by decide))) (Below.heap_setCell _ _ _ _ (ne_ ht.nds (by decide)))⟩, h.ge, bel_set h.bel hge _⟩

set_option maxRecDepth 100000 in
set_option maxHeartbeats 8000000 in
theorem counts_walk (w : World) (a : Option Addr) (len cap : Nat) (zs : List Int) (hz : IsRow .u16 w a len cap zs) (_hy : len * 2 ≤ 140737488351232) :
    Calls Try.prog 4 #[.slice a len cap] w fun e w' => e = .returned (.bool true) ∧ Below w.heap.size w w' := by
  have hr := hz.ri
  have hm : len ≤ 9223372036854775807 := by omega
  clear hz
  generalize zs.take len = us at hr
  by_cases hl : 40 < len
  · have hld : decide ((40 : Int) < (len : Int)) = true := decide_eq_true (by omega)
    go_enter Try.func4, Try.ntmps4
    go_wp2_with fail
    refine (works_any _).mono ?_
    rintro e w8 ⟨rfl, hb8⟩
    replace hb8 := Lib.hid hb8
    go_wp2_with fail
    go_ret
    exact ⟨rfl, hb8.out⟩
  have hld : decide ((40 : Int) < (len : Int)) = false := decide_eq_false (by omega)
  have hus : ∀ x ∈ us, 0 ≤ x ∧ x ≤ 65535 := fun x hx => u16_range (hr.2.1 x hx)
  have hlen : us.length = len := hr.1
  have hmk := make_u16 len (by omega)
  have hmk2 := make_int len (by omega)
  have HR := Lib.hid hr
  have Hlen := Lib.hid hlen
  have Hus := Lib.hid hus
  clear hr hlen hus
  go_enter Try.func4, Try.ntmps4
  go_wp2_with fail
  clear hmk
  go_loopw [4] (fun v4 wr => ∃ k : Nat, k ≤ len ∧ v4 = .int .i64 (k : Int) ∧ Blk wr w.heap.size (RwK .u16 (dig us k)) 26 ∧ Below w.heap.size w wr) (fun v4 _ => len - (intOf v4).toNat)
  case atStart => exact ⟨0, by omega, rfl, by rw [dig_zero, Hlen.out]; exact Blk.new w _ 26, below1 w _⟩
  case round =>
    obtain ⟨k, hk, rfl, hB, hb⟩ := hrel
    by_cases hlt : k < len
    · have hk0 : (0 : Int) ≤ (k : Int) := by omega
      have hk1 : (k : Int) < (len : Int) := by omega
      have hkl : k < us.length := by rw [Hlen.out]; exact hlt
      have hu := Hus.out _ (List.getElem_mem hkl)
      obtain ⟨b, off, rfl, hbl, hc⟩ := HR.out.2.2 (by omega)
      have hds := dig_set us hkl
      have c1 := (hb.cell (p := ⟨b, off + k, none⟩) hbl).trans (hc k hlt)
      have c2 := hB.cell k (RwK.at (by rw [dig_length us (by omega)]; exact hkl))
      have f2 := hB.frozen k
      obtain ⟨u, hu'⟩ : ∃ u, us[k]?.getD 0 = u := ⟨_, rfl⟩
      rw [show us[k]'hkl = u by rw [← hu', List.getElem?_eq_getElem]; rfl] at hu
      rw [hu'] at c1 hds
      obtain ⟨y, hy'⟩ : ∃ y, (dig us k)[k]?.getD 0 = y := ⟨_, rfl⟩
      rw [hy'] at c2
      have hnew := hB.set k (.int .u16 (u % 16))
      rw [RwK.set, hds] at hnew
      replace hnew := Lib.hid hnew
      replace hb := Lib.hid hb
      clear hu' hc hds hy' hB hkl
      go_wp2_with fail
      go_roundw
      case rel => exact ⟨k + 1, by omega, by go_num, hnew.out, bel_set hb.out (Nat.le_refl _) _⟩
      case measure => simp [intOf]; omega
    · have hk1 : ¬ (k : Int) < (len : Int) := by omega
      obtain rfl : k = len := by omega
      rw [show dig us k = us.map (· % 16) by rw [← Hlen.out]; exact dig_all us] at hB
      obtain ⟨vs, hvs⟩ : ∃ vs, us.map (· % 16) = vs := ⟨_, rfl⟩
      rw [hvs] at hB
      have hvl : vs.length = k := by rw [← hvs, List.length_map]; exact Hlen.out
      have hv16 : ∀ v ∈ vs, 0 ≤ v ∧ v ≤ 15 := fun v hv => by
        rw [← hvs] at hv
        obtain ⟨x, hx, rfl⟩ := List.mem_map.1 hv
        omega
      have hri : RI wr.heap.size wr .u16 (some ⟨w.heap.size, 0, none⟩) k vs := by
        refine ⟨hvl, fun v hv => ?_, fun _ => ⟨w.heap.size, 0, rfl, hB.lt, fun j hj => ?_⟩⟩
        · have := hv16 v hv
          simp [Lit.wf, IntKind.min, IntKind.max, IntKind.signed, IntKind.bits]
          omega
        · rw [Nat.zero_add]; exact hB.cell j (RwK.at (by omega))
      have hvp : ∀ v ∈ vs, 0 ≤ v ∧ v ≤ 65535 := fun v hv => by have := hv16 v hv; omega
      have hsum := sums_small hvp (by omega) vs.length
      rw [pre_all vs (Nat.le_refl _)] at hsum
      obtain ⟨S, hS⟩ : ∃ S, vs.sum = S := ⟨_, rfl⟩
      rw [hS] at hsum
      replace hS := Lib.hid hS
      replace hvp := Lib.hid hvp
      replace hvl := Lib.hid hvl
      replace hri := Lib.hid hri
      replace hB := Lib.hid hB
      replace hb := Lib.hid hb
      clear hvs hv16 hlt
      go_wp2_with fail
      refine (filled_any _ k k vs _ hri.out (by omega)).mono ?_
      rintro e w1 ⟨c, cb, nb, rfl, o1⟩
      have B1 := Lib.hid (hB.out.below o1.bel hB.out.lt)
      have o2 := Lib.hid (o1.base hb.out)
      have ok := Lib.hid o1.ok
      clear o1
      go_wp2_with fail
      have B2 := (B1.out.alloc (.cells (RwK .i64 (List.replicate k 0)) 3))
      have o3 := o2.out.keep (below1 w1 (.cells (RwK .i64 (List.replicate k 0)) 3))
      have C2 := Blk.new w1 (RwK .i64 (List.replicate k 0)) 3
      rw [show List.replicate k (0 : Int) = cnt vs 0 by rw [cnt_zero ok.out.pos, hvl.out]] at B2 o3 C2 ⊢
      have hsz := o2.out.bel.size
      have hBl := B1.out.lt
      generalize w1.alloc (.cells (RwK .i64 (cnt vs 0)) 3) = W2 at *
      generalize w1.heap.size = D at *
      replace B2 := Lib.hid B2
      replace o3 := Lib.hid o3
      replace C2 := Lib.hid C2
      clear hmk2
      go_loopw [7, 8] (fun v7 v8 wr => ∃ x last : Nat, (x : Int) ≤ S ∧ pre vs last ≤ (x : Int) ∧ (last : Int) ≤ (k : Int) ∧ v7 = .int .i64 (last : Int) ∧ v8 = .int .i64 (x : Int) ∧ Blk wr w.heap.size (RwK .u16 vs) 26 ∧ Blk wr D (RwK .i64 (cnt vs (x : Int))) 3 ∧ Own w wr c cb nb vs) (fun _ v8 _ => S.toNat - (intOf v8).toNat)
      case atStart => exact ⟨0, 0, by omega, by rw [pre_zero]; omega, by omega, rfl, rfl, B2.out, C2.out, o3.out⟩
      case round =>
        obtain ⟨x, last, hxS, hpl, hlk, rfl, rfl, hB, hC, ho⟩ := hrel
        replace hB := Lib.hid hB
        replace hC := Lib.hid hC
        replace ho := Lib.hid ho
        replace hpl := Lib.hid hpl
        go_wp2_with fail
        refine (total_has ho.out.has).mono ?_
        rintro e w3 ⟨rfl, rfl⟩
        rw [hS.out]
        by_cases hlt : (x : Int) < S
        · go_wp2_with fail
          refine (find_has _ _ ho.out.has).mono ?_
          rintro e w4 ⟨⟨i, b4, hf, rfl⟩, hb4⟩
          obtain ⟨j, rfl, rfl, hj, hj1, hj2⟩ : ∃ j : Nat, i = (j : Int) ∧ b4 = true ∧ j < vs.length ∧ pre vs j ≤ (x : Int) ∧ (x : Int) < pre vs (j + 1) := by
            rcases hf with ⟨_, _, h⟩ | ⟨j, h1, h2, _, _, h3, h4, h5⟩
            · have := hS.out; omega
            · exact ⟨j, h2, h1, h3, h4, h5⟩
          have hjl : last ≤ j := by
            apply Classical.byContradiction
            intro h
            have := pre_mono ok.out.pos (show j + 1 ≤ last by omega)
            have := hpl.out
            omega
          have hjk : j < k := by have := hvl.out; omega
          have B4 := hB.out.below hb4 hB.out.lt
          have C4 := hC.out.below hb4 hC.out.lt
          have o4 := ho.out.keep hb4
          have cj := C4.cell j (RwK.at (by rw [cnt_length]; exact hj))
          rw [cnt_get vs _ hj] at cj
          have fj := C4.frozen j
          have hr := cnt_range hvp.out (x : Int) j
          have hnew := C4.set j (.int .i64 (cntAt vs (x : Int) j + 1))
          rw [RwK.set, cnt_step ok.out.pos hj hj1 hj2] at hnew
          have hDB : w.heap.size ≠ D := by omega
          have Bn := B4.other (a := ⟨D, j, none⟩) hDB (.int .i64 (cntAt vs (x : Int) j + 1))
          have on := own_other o4 C4 j (.int .i64 (cntAt vs (x : Int) j + 1)) (by omega)
          obtain ⟨q, hq⟩ : ∃ q, cntAt vs (x : Int) j = q := ⟨_, rfl⟩
          rw [hq] at cj hr hnew Bn on
          replace hj1 := Lib.hid hj1
          replace hnew := Lib.hid hnew
          replace Bn := Lib.hid Bn
          replace on := Lib.hid on
          have j0 : (0 : Int) ≤ (j : Int) := by omega
          have j1 : (j : Int) < (k : Int) := by omega
          clear hf hb4 B4 C4 o4 hq hj hj2
          go_wp2_with fail
          go_roundw
          case rel => exact ⟨x + 1, j, by omega, by have := hj1.out; omega, by omega, rfl, by go_num, Bn.out, hnew.out, on.out⟩
          case measure => simp [intOf]; omega
        · have hxe : (x : Int) = S := by omega
          have hC' := hC.out
          rw [hxe, ← hS.out] at hC'
          replace hC' := Lib.hid hC'
          clear hC hxe
          go_wp2_with fail
          go_loopw [11] (fun v11 w5 => ∃ m : Nat, m ≤ k ∧ v11 = .int .i64 (m : Int) ∧ Blk w5 w.heap.size (RwK .u16 vs) 26 ∧ Blk w5 D (RwK .i64 (cnt vs vs.sum)) 3 ∧ Below w.heap.size w w5) (fun v11 _ => k - (intOf v11).toNat)
          case atStart => exact ⟨0, by omega, rfl, hB.out, hC'.out, ho.out.bel⟩
          case round =>
            obtain ⟨m, hmk, rfl, hB5, hC5, hb5⟩ := hrel
            by_cases hlt2 : m < k
            · have m0 : (0 : Int) ≤ (m : Int) := by omega
              have m1 : (m : Int) < (k : Int) := by omega
              have hmv : m < vs.length := by have := hvl.out; omega
              have q1 := hB5.cell m (RwK.at hmv)
              have q2 := hC5.cell m (RwK.at (by rw [cnt_length]; exact hmv))
              rw [cnt_get vs _ hmv, cnt_full ok.out.pos] at q2
              have hr := hvp.out _ (List.getElem_mem hmv)
              rw [show vs[m]'hmv = vs[m]?.getD 0 by rw [List.getElem?_eq_getElem hmv]; rfl] at hr
              obtain ⟨u, hu⟩ : ∃ u, vs[m]?.getD 0 = u := ⟨_, rfl⟩
              rw [hu] at q1 q2 hr
              replace hB5 := Lib.hid hB5
              replace hC5 := Lib.hid hC5
              replace hb5 := Lib.hid hb5
              have hw : IntKind.i64.wrap u = u := by rw [wrap_i64_eq]; exact w64 (by omega) (by omega)
              clear hu hmv
              go_wp2_with fail
              go_quiet (fail)
              clear hw
              go_wp2_with fail
              go_roundw
              case rel => exact ⟨m + 1, by omega, by go_num, hB5.out, hC5.out, bel_drewN hb5.out _⟩
              case measure => simp [intOf]; omega
            · have m1 : ¬ (m : Int) < (k : Int) := by omega
              replace hb5 := Lib.hid hb5
              clear hB5 hC5
              go_wp2_with fail
              refine (works_any _).mono ?_
              rintro e w8 ⟨rfl, hb8⟩
              replace hb8 := Lib.hid hb8
              go_wp2_with fail
              go_ret
              exact ⟨rfl, bel_trans hb5.out hb8.out⟩

end Go.Proofs.Ytooppkpaahmnhaa
