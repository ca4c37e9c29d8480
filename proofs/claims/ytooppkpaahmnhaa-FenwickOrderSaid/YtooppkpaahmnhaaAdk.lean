/- Additions that are made. -/
import Derived.Test.YtooppkpaahmnhaaAdl
import Derived.Sort.QuietTacIn
namespace Go.Proofs.Ytooppkpaahmnhaa
open Go.RowKit Go.Shelf
attribute [local go_sem] Oper.semAt_some

set_option maxRecDepth 100000 in
set_option maxHeartbeats 8000000 in
theorem add_up {c cb nb : Nat} {xs : List Int} (d : Int) (w : World) (k : Nat) (hp : Tab w c cb nb xs) (hk : k < xs.length) (hdd : decide (d < 0) = false) (hn : 0 ≤ xs[k]?.getD 0 + d) (hs : xs.sum + d ≤ 9223372036854775807) (hlo : -9223372036854775808 ≤ d ∧ d ≤ 9223372036854775807) :
    Calls Try.prog 22 #[.pointer (some ⟨c, 0, none⟩), .int .i64 (k : Int), .int .i64 d] w fun e w' => e = .returned (.int .i64 0) ∧ Tab w' c cb nb (xs.set k (xs[k]?.getD 0 + d)) ∧ Chg (fun b => b = c ∨ b = cb ∨ b = nb) w w' := by
  refine (callsIn_wide (n := 9)).1 ?_
  have b2 := (Blk.new w #[.pointer (some ⟨c, 0, none⟩)] 24).alloc (.cells #[.int .i64 d] 2)
  have b3 := Blk.new (w.alloc (.cells #[.pointer (some ⟨c, 0, none⟩)] 24)) #[.int .i64 d] 2
  have hbl : Below w.heap.size w ((w.alloc (.cells #[.pointer (some ⟨c, 0, none⟩)] 24)).alloc (.cells #[.int .i64 d] 2)) := bel_alloc (bel_alloc (Below.refl _ _) _) _
  rw [World.size_alloc] at b3
  have hsz : ((w.alloc (.cells #[.pointer (some ⟨c, 0, none⟩)] 24)).alloc (.cells #[.int .i64 d] 2)).heap.size = w.heap.size + 2 := by simp
  obtain ⟨cc, nc, tb, tn, hp⟩ := hp
  have hb0 := hp.hd.below hbl hp.hd.lt
  have hr0 := hp.row.below hbl hp.row.lt
  have hn0 := hp.nds.below hbl hp.nds.lt
  have hlt : c < w.heap.size ∧ cb < w.heap.size ∧ nb < w.heap.size := ⟨hp.hd.lt, hp.row.lt, hp.nds.lt⟩
  have hne : c ≠ cb ∧ c ≠ nb ∧ cb ≠ nb := ⟨fun e => by subst e; have := hp.hd.symm.trans hp.row; simp at this, fun e => by subst e; have := hp.hd.symm.trans hp.nds; simp at this, hp.ne⟩
  have hok := hp.ok
  clear hp
  obtain ⟨x, hx⟩ : ∃ x, xs[k]?.getD 0 = x := ⟨_, rfl⟩
  have hx0 : 0 ≤ x := by rw [← hx]; exact at_pos hok.pos k
  have hx1 : x ≤ xs.sum := by rw [← hx]; exact at_le_sum hok.pos k
  have htop := hok.top
  rw [hx] at hn ⊢
  have hw : IntKind.i64.wrap (x + d) = x + d := by rw [wrap_i64_eq]; exact w64 (by omega) (by omega)
  have hj : decide ((k : Int) < 0) = false := decide_eq_false (by omega)
  have hj2 : decide ((xs.length : Int) ≤ (k : Int)) = false := decide_eq_false (by omega)
  have hnd : decide (x + d < 0) = false := decide_eq_false (by omega)
  have hk0 : (0 : Int) ≤ (k : Int) := by omega
  have hk1 : (k : Int) < (xs.length : Int) := by omega
  have hcall : ∀ W : World, Calls Try.prog 35 #[.int .i64 xs.sum, .int .i64 d] W fun e w' => e = .returned (.tuple #[.int .i64 (xs.sum + d), .int .i64 0]) ∧ W = w' :=
    fun W => cadd_ok xs.sum d W (by omega) (by omega) (by omega)
  have t2 := b2.cell 0 (v := .pointer (some ⟨c, 0, none⟩)) rfl
  have t3 := b3.cell 0 (v := .int .i64 d) rfl
  have c0 := hb0.cell 0 (v := .bool true) rfl
  have c1 := hb0.cell 1 (v := .slice (some ⟨cb, 0, none⟩) xs.length cc) rfl
  have c3 := hb0.cell 3 (v := .int .i64 xs.sum) rfl
  have f3 := hb0.frozen 3
  have c5 := hr0.cell k (Rw.at tb hk)
  rw [hx] at c5
  have f5 := hr0.frozen k
  have hbl := Lib.hid hbl
  have hsz := Lib.hid hsz
  have B2 := Lib.hid b2
  have B3 := Lib.hid b3
  have HB := Lib.hid hb0
  have HR := Lib.hid hr0
  have HN := Lib.hid hn0
  have hx := Lib.hid hx
  have hlt := Lib.hid hlt
  have hne := Lib.hid hne
  have hn := Lib.hid hn
  have hs := Lib.hid hs
  have hcall := Lib.hid hcall
  clear b2 b3 hb0 hr0 hn0 hx0 hx1 htop hlo
  refine callsIn_of_wp_marks Try.func22 rfl trivial ?_ rfl
  simp only [Try.ntmps22, List.size_toArray, List.length_cons, List.length_nil, Nat.reduceAdd, Nat.reduceSub, Array.replicate_succ, Array.replicate_zero, List.push_toArray, List.append_toArray, List.nil_append, List.cons_append]
  gi_wp2_with fail
  generalize (w.alloc (.cells #[.pointer (some ⟨c, 0, none⟩)] 24)).alloc (.cells #[.int .i64 d] 2) = W at *
  gi_quiet_th (fail)
  have t2 : (W.drewN nq).cell? ⟨w.heap.size, 0, none⟩ = _ := t2
  have t3 : (W.drewN nq).cell? ⟨w.heap.size + 1, 0, none⟩ = _ := t3
  have c0 : (W.drewN nq).cell? ⟨c, 0, none⟩ = _ := c0
  have c1 : (W.drewN nq).cell? ⟨c, 1, none⟩ = _ := c1
  have c3 : (W.drewN nq).cell? ⟨c, 3, none⟩ = _ := c3
  have f3 : (W.drewN nq).frozen? ⟨c, 3, none⟩ = _ := f3
  have c5 : (W.drewN nq).cell? ⟨cb, k, none⟩ = _ := c5
  have f5 : (W.drewN nq).frozen? ⟨cb, k, none⟩ = _ := f5
  have hbl := Lib.hid (p := Below w.heap.size w (W.drewN nq)) (bel_drewN hbl.out _)
  have hsz := Lib.hid (p := (W.drewN nq).heap.size = w.heap.size + 2) hsz.out
  have B2 := Lib.hid (p := Blk (W.drewN nq) _ _ _) B2.out
  have B3 := Lib.hid (p := Blk (W.drewN nq) _ _ _) B3.out
  have HB := Lib.hid (p := Blk (W.drewN nq) _ _ _) HB.out
  have HR := Lib.hid (p := Blk (W.drewN nq) _ _ _) HR.out
  have HN := Lib.hid (p := Blk (W.drewN nq) _ _ _) HN.out
  generalize W.drewN nq = V at *
  gi_wp2_with fail
  gi_cut [7, 8] from 7 (fun s7 s8 wx => s7 = .int .i64 (xs.sum + d) ∧ s8 = .int .i64 0 ∧ wx = V.drew)
  case first =>
    refine wpIn_noPanic ?_
    gi_region_with (first
      | (refine ⟨trivial, ?_⟩; gi_at_call 35; refine (callsIn_wide.2 (hcall.out _)).mono ?_; rintro e w1 ⟨rfl, rfl⟩))
    all_goals refine NoPanic.normal ?_
    all_goals (gi_wp2_with fail; gi_meet; exact ⟨rfl, rfl, rfl⟩)
  case rest =>
  obtain ⟨rfl, rfl, rfl⟩ := hcut
  have t2 : (V.drew).cell? ⟨w.heap.size, 0, none⟩ = _ := t2
  have c3 : (V.drew).cell? ⟨c, 3, none⟩ = _ := c3
  have f3 : (V.drew).frozen? ⟨c, 3, none⟩ = _ := f3
  obtain ⟨V2, hV2⟩ : ∃ V2, (V.drew).setCell ⟨c, 3, none⟩ (.int .i64 (xs.sum + d)) = V2 := ⟨_, rfl⟩
  have hbl2 : Chg (fun b => b = c ∨ b = cb ∨ b = nb) w V2 := by rw [← hV2]; exact ((Chg.of_below hbl.out _).trans (Chg.of_below (bel_drew (Below.refl _ _)) _)).set (.inl rfl) _
  have hsz2 : V2.heap.size = w.heap.size + 2 := by rw [← hV2]; simpa [World.setCell] using hsz.out
  have b2 : Blk V2 w.heap.size #[.pointer (some ⟨c, 0, none⟩)] 24 := by rw [← hV2]; exact Blk.other (show Blk (V.drew) _ _ _ from B2.out) (by have := hlt.out; show w.heap.size ≠ c; omega) _
  have b3 : Blk V2 (w.heap.size + 1) #[.int .i64 d] 2 := by rw [← hV2]; exact Blk.other (show Blk (V.drew) _ _ _ from B3.out) (by have := hlt.out; show w.heap.size + 1 ≠ c; omega) _
  have hb2 : Blk V2 c (Hd (some ⟨cb, 0, none⟩) xs.length cc (some ⟨nb, 0, none⟩) nc (xs.sum + d)) 59 := by rw [← hV2]; exact Blk.set (show Blk (V.drew) _ _ _ from HB.out) 3 _
  have hr2 : Blk V2 cb (Rw xs tb) 2 := by rw [← hV2]; exact Blk.other (show Blk (V.drew) _ _ _ from HR.out) (fun e => hne.out.1 e.symm) _
  have hn2 : Blk V2 nb (Rw (nodes xs) tn) 2 := by rw [← hV2]; exact Blk.other (show Blk (V.drew) _ _ _ from HN.out) (fun e => hne.out.2.1 e.symm) _
  have hV2 := Lib.hid hV2
  have hbl2 := Lib.hid hbl2
  have hsz2 := Lib.hid hsz2
  have B2' := Lib.hid b2
  have B3' := Lib.hid b3
  have HB' := Lib.hid hb2
  have HR' := Lib.hid hr2
  have HN' := Lib.hid hn2
  clear b2 b3 hb2 hr2 hn2
  gi_wp2_with fail
  clear hV2 t2 t3 c0 c1 c3 f3 c5 f5
  have t2 := B2'.out.cell 0 (v := .pointer (some ⟨c, 0, none⟩)) rfl
  have t3 := B3'.out.cell 0 (v := .int .i64 d) rfl
  have c1 := HB'.out.cell 1 (v := .slice (some ⟨cb, 0, none⟩) xs.length cc) rfl
  have c5 := HR'.out.cell k (Rw.at tb hk)
  rw [hx.out] at c5
  have f5 := HR'.out.frozen k
  gi_cut [60] from 11 (fun s60 wx => wx = (V2.setCell ⟨cb, k, none⟩ (.int .i64 (x + d))).drew)
  case first =>
    refine wpIn_noPanic ?_
    gi_region_with (fail)
    all_goals refine NoPanic.normal ?_
    all_goals (gi_wp2_with fail; gi_meet; exact rfl)
  case rest =>
    obtain ⟨V3, hV3⟩ : ∃ V3, ((V2.setCell ⟨cb, k, none⟩ (.int .i64 (x + d))).drew.alloc (.cells #[.pointer (some ⟨c, 0, none⟩)] 24)).alloc (.cells #[.int .i64 (k : Int)] 3) = V3 := ⟨_, rfl⟩
    have hbl3 : Chg (fun b => b = c ∨ b = cb ∨ b = nb) w V3 := by
      rw [← hV3]; exact (((hbl2.out.set (.inr (.inl rfl)) _).trans (Chg.of_below (bel_drew (Below.refl _ _)) _)).alloc _).alloc _
    have hsz3 : V3.heap.size = w.heap.size + 4 := by
      rw [← hV3, World.size_alloc, World.size_alloc]
      show (V2.setCell _ _).heap.size + 1 + 1 = _
      have := hsz2.out
      simp [World.setCell]; omega
    have b2 : Blk V3 w.heap.size #[.pointer (some ⟨c, 0, none⟩)] 24 := by
      rw [← hV3]; exact Blk.alloc (Blk.alloc (show Blk (V2.setCell ⟨cb, k, none⟩ (.int .i64 (x + d))) _ _ _ from Blk.other B2'.out (by have := hlt.out; show w.heap.size ≠ cb; omega) _) _) _
    have b3 : Blk V3 (w.heap.size + 1) #[.int .i64 d] 2 := by
      rw [← hV3]; exact Blk.alloc (Blk.alloc (show Blk (V2.setCell ⟨cb, k, none⟩ (.int .i64 (x + d))) _ _ _ from Blk.other B3'.out (by have := hlt.out; show w.heap.size + 1 ≠ cb; omega) _) _) _
    have hb3 : Blk V3 c (Hd (some ⟨cb, 0, none⟩) xs.length cc (some ⟨nb, 0, none⟩) nc (xs.sum + d)) 59 := by
      rw [← hV3]; exact Blk.alloc (Blk.alloc (show Blk (V2.setCell ⟨cb, k, none⟩ (.int .i64 (x + d))) _ _ _ from Blk.other HB'.out (by show c ≠ cb; exact hne.out.1) _) _) _
    have hr3 : Blk V3 cb (Rw (xs.set k (x + d)) tb) 2 := by
      rw [← hV3, ← Rw.set tb (x + d) hk]; exact Blk.alloc (Blk.alloc (show Blk (V2.setCell ⟨cb, k, none⟩ (.int .i64 (x + d))) _ _ _ from Blk.set HR'.out k _) _) _
    have hn3 : Blk V3 nb (Rw (nodes xs) tn) 2 := by
      rw [← hV3]; exact Blk.alloc (Blk.alloc (show Blk (V2.setCell ⟨cb, k, none⟩ (.int .i64 (x + d))) _ _ _ from Blk.other HN'.out (by show nb ≠ cb; exact fun e => hne.out.2.2 e.symm) _) _) _
    have hsV : (V2.setCell ⟨cb, k, none⟩ (.int .i64 (x + d))).drew.heap.size = w.heap.size + 2 := by
      have := hsz2.out
      show (V2.setCell _ _).heap.size = _
      simpa [World.setCell] using this
    have hB5 : Blk V3 (w.heap.size + 3) #[.int .i64 (k : Int)] 3 := by
      rw [← hV3]; have := Blk.new ((V2.setCell ⟨cb, k, none⟩ (.int .i64 (x + d))).drew.alloc (.cells #[.pointer (some ⟨c, 0, none⟩)] 24)) #[.int .i64 (k : Int)] 3
      rw [World.size_alloc, hsV] at this; exact this
    have hC5 : Blk V3 (w.heap.size + 2) #[.pointer (some ⟨c, 0, none⟩)] 24 := by
      rw [← hV3]; have := Blk.new (V2.setCell ⟨cb, k, none⟩ (.int .i64 (x + d))).drew #[.pointer (some ⟨c, 0, none⟩)] 24
      rw [hsV] at this; exact this.alloc _
    have t2' : (V2.setCell ⟨cb, k, none⟩ (.int .i64 (x + d))).drew.cell? ⟨w.heap.size, 0, none⟩ = some (.pointer (some ⟨c, 0, none⟩)) :=
      Blk.cell (show Blk (V2.setCell ⟨cb, k, none⟩ (.int .i64 (x + d))) _ _ _ from Blk.other B2'.out (by have := hlt.out; show w.heap.size ≠ cb; omega) _) 0 rfl
    subst hcut
    have hbl3 := Lib.hid hbl3
    have hsz3 := Lib.hid hsz3
    have b2 := Lib.hid b2
    have b3 := Lib.hid b3
    have hb3 := Lib.hid hb3
    have hr3 := Lib.hid hr3
    have hn3 := Lib.hid hn3
    have hB5 := Lib.hid hB5
    have hC5 := Lib.hid hC5
    have hV3 := Lib.hid hV3
    have hsV := Lib.hid hsV
    clear t2 t3 c1 c5 f5
    generalize (V2.setCell ⟨cb, k, none⟩ (.int .i64 (x + d))).drew = U at *
    gi_wp2_with (first | (refine ⟨trivial, ?_⟩; gi_at_call 36; refine (callsIn_wide.2 (callsIn_wide.1 (up_any _ _ _))).mono ?_; rintro e w1 ⟨rfl, rfl⟩))
    have hit := up_iter xs.length (w.heap.size + 2 + 1) (w.heap.size + 2) c k 8 (Hd (some ⟨cb, 0, none⟩) xs.length cc (some ⟨nb, 0, none⟩) nc (xs.sum + d)) (some ⟨nb, 0, none⟩) nc V3 hk hok.len (by omega) hB5.out hC5.out hb3.out rfl (by omega) (by have := hlt.out; omega)
    refine wpIn_iter (F := Fence.wide) rfl (by omega) (gf := 41) (lb := #[.pointer (some ⟨w.heap.size + 2 + 1, 0, none⟩), .pointer (some ⟨w.heap.size + 2, 0, none⟩)]) rfl trivial (enters_of Try.func41 (by kernel_rfl) rfl) hit
      (fun b e => by have := hsz3.out; have := hlt.out; omega) (by have := hsz3.out; omega) (fun _ => rfl)
      (fun ks A => Blk A nb (Rw (bump d (nodes xs) (ks.map (·.1))) tn) 2 ∧ Blk A w.heap.size #[.pointer (some ⟨c, 0, none⟩)] 24 ∧ Blk A (w.heap.size + 1) #[.int .i64 d] 2 ∧ Blk A c (Hd (some ⟨cb, 0, none⟩) xs.length cc (some ⟨nb, 0, none⟩) nc (xs.sum + d)) 59 ∧ Blk A cb (Rw (xs.set k (x + d)) tb) 2 ∧ Chg (fun b => b = c ∨ b = cb ∨ b = nb) w A)
      ?own ?ownB ⟨hn3.out, b2.out, b3.out, hb3.out, hr3.out, hbl3.out⟩
      (fun x => { tmps := #[.pointer (some ⟨c, 0, none⟩), .int .i64 (k : Int), .int .i64 d, .pointer (some ⟨w.heap.size, 0, none⟩), undef, .pointer (some ⟨w.heap.size + 1, 0, none⟩), .int .i64 0, .int .i64 (xs.sum + d), .int .i64 0, .int .i64 (x.1 : Int),
        u10, u11, u12, u13, u14, u15, u16, u17, u18, u19, u20, u21, u22, u23, u24, u25, u26, u27, u28, u29, u30, u31, u32, u33, u34, u35, u36, u37, u38, u39, u40, u41, u42, u43, u44, u45, u46, u47, u48, u49, u50, u51, u52, u53, u54, u55, u56, u57, u58, u59, u60, u61, u62, u63, u64, u65, u66, u67, u68, u69, .pointer (some ⟨c, 0, none⟩), .int .i64 (k : Int), .func (.func 41) #[] #[.pointer (some ⟨w.heap.size + 2 + 1, 0, none⟩), .pointer (some ⟨w.heap.size + 2, 0, none⟩)], .int .i64 (x.1 : Int), u74, u75, u76, u77, u78, u79, u80, u81, u82, u83], defers := [] }) ?assign ?body ?done
    case own =>
      intro s A B row hs hg hr
      have h1 := hsz3.out
      have h2 := hlt.out
      exact ⟨own_blk hs.1 hg hr (by omega), own_blk hs.2.1 hg hr (by omega), own_blk hs.2.2.1 hg hr (by omega), own_blk hs.2.2.2.1 hg hr (by omega), own_blk hs.2.2.2.2.1 hg hr (by omega), hs.2.2.2.2.2.grown hg (fun k e => by have := (hr k e).1; omega)⟩
    case ownB =>
      intro pre A v hs
      have h2 := hlt.out
      refine ⟨hs.1.other (by show _ ≠ w.heap.size + 2 + 1; omega) _, hs.2.1.other (by show _ ≠ w.heap.size + 2 + 1; omega) _, hs.2.2.1.other (by show _ ≠ w.heap.size + 2 + 1; omega) _, hs.2.2.2.1.other (by show _ ≠ w.heap.size + 2 + 1; omega) _, hs.2.2.2.2.1.other (by show _ ≠ w.heap.size + 2 + 1; omega) _, ?_⟩
      have h6 := hs.2.2.2.2.2
      exact h6.setNew (p := ⟨w.heap.size + 2 + 1, 0, none⟩) (by show w.heap.size ≤ w.heap.size + 2 + 1; omega) _
    case assign =>
      intro l x A K hK
      dsimp only [encU]
      gi_wp2
      exact hK
    case body =>
      rintro l ks z A ⟨h1, h2, h3, h4, h5, h6⟩
      have q2 := h2.cell 0 (v := .pointer (some ⟨c, 0, none⟩)) rfl
      have q3 := h3.cell 0 (v := .int .i64 d) rfl
      have q4 := h4.cell 2 (v := .slice (some ⟨nb, 0, none⟩) (xs.length + 1) nc) rfl
      have hzl : z.1 < (bump d (nodes xs) (ks.map (·.1))).length := by rw [bump_length, nodes_length]; have := z.2; omega
      have q1 := h1.cell z.1 (Rw.at tn hzl)
      have f1 := h1.frozen z.1
      have hz1 := z.2
      have hz2 : (z.1 : Int) < (xs.length : Int) + 1 := by omega
      have hnew := h1.set z.1 (.int .i64 (wrap64 ((bump d (nodes xs) (ks.map (·.1)))[z.1]?.getD 0 + d)))
      rw [Rw.set tn _ hzl, ← bump_snoc, show ks.map (·.1) ++ [z.1] = (ks ++ [z]).map (·.1) by simp] at hnew
      obtain ⟨y, hy⟩ : ∃ y, (bump d (nodes xs) (ks.map (·.1)))[z.1]?.getD 0 = y := ⟨_, rfl⟩
      rw [hy] at q1 hnew
      rw [← wrap_i64_eq] at hnew
      have H2 := Lib.hid h2
      have H3 := Lib.hid h3
      have H4 := Lib.hid h4
      have H5 := Lib.hid h5
      have H6 := Lib.hid h6
      have hnew := Lib.hid hnew
      clear h1 h2 h3 h4 h5 h6 hy hzl
      gi_wp2_with fail
      gi_region_with (fail)
      all_goals
        have hl := hlt.out
        have hN := hne.out
        refine ⟨((KeepsOthers.setCell _ _ _).trans (KeepsOthers.drew _)).from _, fun b e => ?_, hnew.out, H2.out.other (by show _ ≠ nb; omega) _, H3.out.other (by show _ ≠ nb; omega) _, H4.out.other (by show _ ≠ nb; omega) _, H5.out.other (by show _ ≠ nb; omega) _, ?_⟩
        · show (A.setCell _ _).heap[_]? = _
          exact Below.heap_setCell _ _ _ _ (by show _ ≠ nb; omega)
        · exact (H6.out.set (p := ⟨nb, z.1, none⟩) (.inr (.inr rfl)) _).trans (Chg.of_below (bel_drew (Below.refl _ _)) _)
    case done =>
      rintro D ks A hD hS ⟨h1, h2, h3, h4, h5, h6⟩ hK
      rw [hS] at h1
      have hl := hlt.out
      have hT := add_tab hx.out hk hn.out hs.out hok hne.out.2.2 h1 h4 h5
      have hT := Lib.hid hT
      have H6 := Lib.hid h6
      clear h1 h2 h3 h4 h5 h6
      gi_wp2
      refine ⟨by simp, .inl ⟨_, _, rfl, run_takeDeferred hK, ?_⟩⟩
      have hsz4 := hsz3.out
      refine ⟨_, results_tmp rfl _ _ _, rfl, ?_, ?_⟩
      · exact hT.out.below (belowK_b (w := w) (Nat.le_refl _) A D _ _ (by omega) hK rfl rfl) (by omega) (by omega) (by omega)
      · exact H6.out.bel (belowK_b (w := w) (Nat.le_refl _) A D _ _ (by omega) hK rfl rfl)

end Go.Proofs.Ytooppkpaahmnhaa
