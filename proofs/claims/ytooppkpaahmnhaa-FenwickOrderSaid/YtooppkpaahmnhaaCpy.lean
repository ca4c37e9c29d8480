/- Copies of counters. -/
import Derived.Test.YtooppkpaahmnhaaAdl
import Derived.Maps.AppendAt
import Derived.Laws.OwnMore
import Derived.OwnWalk
namespace Go.Proofs.Ytooppkpaahmnhaa
open Go.RowKit Go.Shelf
attribute [local go_sem] Oper.semAt_some

theorem int_info : (Try.prog.info? 2).map (fun i => (i.zero, i.size, i.bytes)) = some (some (.int .i64 0), 1, 8) := by kernel_rfl

/-- a row that is one's own, as a block -/
theorem own_rw {w : World} {base : Nat} {v : Value} {n : Nat} {l : List Int} (h : w.ownsRow base 2 1 v n (l.map (Value.int .i64))) (hv : v ≠ .slice none 0 0) :
    ∃ g cap tl, v = .slice (some ⟨g, 0, none⟩) n cap ∧ base ≤ g ∧ Blk w g (Rw l tl) 2 := by
  obtain ⟨hl, h⟩ := h
  rcases h with ⟨h1, _⟩ | ⟨g, cap, cur, h1, h2, h3, h4, h5, h6, h7⟩
  · exact absurd h1 hv
  · refine ⟨g, cap, (cur.toList.drop (n * 1)).toArray, h1, h2, ?_⟩
    unfold Blk
    rw [h3]
    have : cur = Rw l (cur.toList.drop (n * 1)).toArray := by
      unfold Rw
      apply Array.ext'
      rw [Array.toList_append]
      show _ = _ ++ _
      rw [← h7, List.take_append_drop]
    rw [← this]

set_option maxHeartbeats 2000000 in
theorem clone_row (b n c : Nat) (l : List Int) (tb : Array Value) (w : World) (hb : Blk w b (Rw l tb) 2) (hn : l.length = n) (hm : n ≤ 70000) :
    Calls Try.prog 38 #[.slice (some ⟨b, 0, none⟩) n c] w fun e w' => (∃ g cap tl, e = .returned (.slice (some ⟨g, 0, none⟩) n cap) ∧ w.heap.size ≤ g ∧ Blk w' g (Rw l tl) 2) ∧ Below w.heap.size w w' := by
  obtain ⟨i0, hi0, hz0, hz1, hz2⟩ := info_parts int_info
  have hown : (w.alloc (.cells #[] 2)).ownsRow w.heap.size 2 1 (.slice (some ⟨w.heap.size, 0, none⟩) 0 0) 0 [] :=
    World.ownsRow_lit (size := 1) w #[] 0 (Nat.le_refl _) (by simp [maxLen]) rfl
  have hcells : ∀ j u, (l.map (Value.int .i64))[j]? = some u → (w.alloc (.cells #[] 2)).cell? ((⟨b, 0, none⟩ : Addr).add j) = some u := by
    intro j u hu
    have hj : j < l.length := by
      rcases Nat.lt_or_ge j l.length with h | h
      · exact h
      · rw [List.getElem?_eq_none (by simpa using h)] at hu; cases hu
    have := (hb.alloc (.cells #[] 2)).cell j (Rw.at tb hj)
    have e : (⟨b, 0, none⟩ : Addr).add j = ⟨b, j, none⟩ := by simp [Addr.add]; exact fun h => h.symm
    rw [e, this, ← hu]
    simp [hj]
  have h1 : ∀ u ∈ l.map (Value.int .i64), u.oneCell' = true := by
    intro u hu
    obtain ⟨x, _, rfl⟩ := List.mem_map.1 hu
    rfl
  have hcells := Lib.hid hcells
  have hown := Lib.hid hown
  have hn := Lib.hid hn
  clear hb
  have hnil := fun (wx : World) => Lib.run_eql_slice_nil (P := Try.prog) wx 47 2 (some ⟨b, 0, none⟩) n c 0 0 Try.underlying47
  go_enter Try.func38, Try.ntmps38
  go_wp2_with (first
    | (at_builtin
       refine wpList_append_own_at _ rfl _ _ 47 rfl w.heap.size 2 i0 _ 1 8 Try.underlying47 hi0 hz0 hz1 hz2 rfl (by omega) _ 0 [] rfl hown.out ⟨b, 0, none⟩ n c (l.map (Value.int .i64)) rfl (by simp [hn.out]) hcells.out h1 (by simp only [maxLen]; omega) (by omega) (by simp) ?_
       intro v1 w1 hown1 hg1 hlast hat1))
  go_ret
  simp only [Nat.zero_add, List.nil_append] at hown1
  obtain ⟨g, cap, tl, rfl, hg, hblk⟩ := own_rw hown1 (fun e => by have := (hlast.1 e).1; cases this)
  exact ⟨⟨g, cap, tl, rfl, hg, hblk⟩, (bel_alloc (Below.refl _ _) _).grown hg1 (by simp) (fun k e => by have e' : some w.heap.size = some k := e; injection e' with e'; omega)⟩

theorem hdcells {W : World} {c n cc nc : Nat} {cv nv : Option Addr} {tot : Int} (h : Blk W c (Hd cv n cc nv nc tot) 59) :
    W.cell? ⟨c, 1, none⟩ = some (.slice cv n cc) ∧ W.cell? ⟨c, 2, none⟩ = some (.slice nv (n + 1) nc) ∧ W.cell? ⟨c, 3, none⟩ = some (.int .i64 tot) :=
  ⟨h.cell 1 rfl, h.cell 2 rfl, h.cell 3 rfl⟩

theorem copy_nil (w : World) : Calls Try.prog 24 #[.pointer none] w fun e w' => e = .returned (.pointer none) ∧ w = w' := by
  go_enter Try.func24, Try.ntmps24
  go_wp2
  go_ret
  exact ⟨rfl, rfl⟩
theorem copy_zero (c : Nat) (w : World) (hc : Blk w c Hz 59) : Calls Try.prog 24 #[.pointer (some ⟨c, 0, none⟩)] w fun e w' => e = .returned (.pointer none) ∧ w = w' := by
  have c0 := hc.cell 0 (v := .bool false) rfl
  clear hc
  go_enter Try.func24, Try.ntmps24
  go_wp2
  go_ret
  exact ⟨rfl, rfl⟩

theorem Blk.bel' {w w' : World} {b : Nat} {cs : Array Value} {T : Nat} (h : Blk w b cs T) (hb : Below w.heap.size w w') : Blk w' b cs T := h.below hb h.lt

theorem copy_made {w0 w : World} {c cb nb g1 g2 cap1 cap2 cc nc : Nat} {xs : List Int} {tb tn tl1 tl2 : Array Value} (h : Tb w0 c cb nb xs cc nc tb tn) (h1 : Blk w g1 (Rw xs tl1) 2) (h2 : Blk w g2 (Rw (nodes xs) tl2) 2) (hne : g1 ≠ g2) :
    Tab (w.alloc (.cells #[.bool true, .slice (some ⟨g1, 0, none⟩) xs.length cap1, .slice (some ⟨g2, 0, none⟩) (xs.length + 1) cap2, .int .i64 xs.sum] 59)) w.heap.size g1 g2 xs :=
  ⟨cap1, cap2, tl1, tl2, ⟨Blk.new w _ 59, h1.alloc _, h2.alloc _, hne, h.ok⟩⟩

set_option maxRecDepth 100000 in
set_option maxHeartbeats 4000000 in
theorem copy_tab {c cb nb : Nat} {xs : List Int} (w : World) (hp : Tab w c cb nb xs) : Calls Try.prog 24 #[.pointer (some ⟨c, 0, none⟩)] w fun e w' =>
    (∃ c' cb' nb', w.heap.size ≤ c' ∧ w.heap.size ≤ cb' ∧ w.heap.size ≤ nb' ∧ Tab w' c' cb' nb' xs ∧ e = .returned (.pointer (some ⟨c', 0, none⟩))) ∧ Below w.heap.size w w' := by
  obtain ⟨cc, nc, tb, tn, hp⟩ := hp
  have c0 := hp.hd.cell 0 (v := .bool true) rfl
  have c1 := hp.hd.cell 1 (v := .slice (some ⟨cb, 0, none⟩) xs.length cc) rfl
  have c2 := hp.hd.cell 2 (v := .slice (some ⟨nb, 0, none⟩) (xs.length + 1) nc) rfl
  have c3 := hp.hd.cell 3 (v := .int .i64 xs.sum) rfl
  have hk1 : ∀ W, Below w.heap.size w W → Calls Try.prog 38 #[.slice (some ⟨cb, 0, none⟩) xs.length cc] W fun e w' => (∃ g cap tl, e = .returned (.slice (some ⟨g, 0, none⟩) xs.length cap) ∧ W.heap.size ≤ g ∧ Blk w' g (Rw xs tl) 2) ∧ Below W.heap.size W w' :=
    fun W hb => clone_row cb xs.length cc xs tb W (hp.row.below hb hp.row.lt) rfl (by have := hp.ok.len; omega)
  have hk2 : ∀ W, Below w.heap.size w W → Calls Try.prog 38 #[.slice (some ⟨nb, 0, none⟩) (xs.length + 1) nc] W fun e w' => (∃ g cap tl, e = .returned (.slice (some ⟨g, 0, none⟩) (xs.length + 1) cap) ∧ W.heap.size ≤ g ∧ Blk w' g (Rw (nodes xs) tl) 2) ∧ Below W.heap.size W w' :=
    fun W hb => clone_row nb (xs.length + 1) nc (nodes xs) tn W (hp.nds.below hb hp.nds.lt) (nodes_length xs) (by have := hp.ok.len; omega)
  have HP := Lib.hid hp
  have hk1 := Lib.hid hk1
  have hk2 := Lib.hid hk2
  have hbl := Lib.hid (bel_drew (Below.refl w.heap.size w))
  clear hp
  go_enter Try.func24, Try.ntmps24
  go_wp2_with fail
  have hB0 : Blk w c (Hd (some ⟨cb, 0, none⟩) xs.length cc (some ⟨nb, 0, none⟩) nc xs.sum) 59 := HP.out.hd
  have hB1 : Blk w.drew c (Hd (some ⟨cb, 0, none⟩) xs.length cc (some ⟨nb, 0, none⟩) nc xs.sum) 59 := HP.out.hd
  go_region_held3 (fun w' => w'.cell? ⟨c, 1, none⟩ = some (.slice (some ⟨cb, 0, none⟩) xs.length cc) ∧ w'.cell? ⟨c, 2, none⟩ = some (.slice (some ⟨nb, 0, none⟩) (xs.length + 1) nc) ∧ w'.cell? ⟨c, 3, none⟩ = some (.int .i64 xs.sum))
    (first | exact hdcells (by assumption) | exact hdcells (Blk.alloc (by assumption) _))
    (first
      | (go_at_call_of 38 (Value.slice (some ⟨cb, 0, none⟩) xs.length cc); refine (hk1.out _ ?_).mono ?_; (first | exact hbl.out | exact hbA.out); rintro e w1 ⟨⟨g1, cap1, tl1, rfl, hg1, hr1⟩, hb1⟩; have hq1 := Lib.hid (p := _ ∧ _) (And.intro hg1 (And.intro hr1 hb1)); have hbA := Lib.hid (p := Below w.heap.size w w1) (by first | exact hbl.out.trans (hb1.mono (by simp)) | exact bel_trans hbA.out hb1); have hB2 := HP.out.hd.below hbA.out HP.out.hd.lt; clear hg1 hr1 hb1)
      | (go_at_call_of 38 (some (⟨nb, 0, none⟩ : Addr)); refine (hk2.out _ ?_).mono ?_; (first | exact hbl.out | exact hbA.out); rintro e w2 ⟨⟨g2, cap2, tl2, rfl, hg2, hr2⟩, hb2⟩; have hq2 := Lib.hid (p := _ ∧ _) (And.intro hg2 (And.intro hr2 hb2)); have hbA := Lib.hid (p := Below w.heap.size w w2) (by first | exact hbl.out.trans (hb2.mono (by simp)) | exact bel_trans hbA.out hb2); have hB2 := HP.out.hd.below hbA.out HP.out.hd.lt; clear hg2 hr2 hb2))
  all_goals
    go_wp2_with fail
    go_ret
    have hf := hbA.out
    have hq1 := hq1.out
    have hq2 := hq2.out
    have hz : w.drew.heap.size = w.heap.size := rfl
    first
      | exact ⟨⟨w2.heap.size, g1, g2, hf.size, by omega, by have := hq1.2.2.size; omega, (copy_made HP.out (hq1.2.1.bel' hq2.2.2) hq2.2.1 (by have := hq1.2.1.lt; omega)), rfl⟩, bel_alloc hf _⟩
      | exact ⟨⟨w1.heap.size, g1, g2, hf.size, by have := hq2.2.2.size; omega, by omega, (copy_made HP.out hq1.2.1 (hq2.2.1.bel' hq1.2.2) (by have := hq2.2.1.lt; omega)), rfl⟩, bel_alloc hf _⟩

theorem copy_has {p : Option Addr} {xs : List Int} (w : World) (hp : Has w p xs) : Calls Try.prog 24 #[.pointer p] w fun e w' =>
    (∃ p', e = .returned (.pointer p') ∧ Has w' p' xs ∧ (p' = none ∧ xs = [] ∨ ∃ c' cb' nb', p' = some ⟨c', 0, none⟩ ∧ w.heap.size ≤ c' ∧ w.heap.size ≤ cb' ∧ w.heap.size ≤ nb' ∧ Tab w' c' cb' nb' xs)) ∧ Below w.heap.size w w' := by
  rcases hp with ⟨rfl, rfl⟩ | ⟨c, rfl, h, rfl⟩ | ⟨c, cb, nb, rfl, h⟩
  · refine (copy_nil w).mono ?_
    rintro e w' ⟨rfl, rfl⟩
    exact ⟨⟨none, rfl, .inl ⟨rfl, rfl⟩, .inl ⟨rfl, rfl⟩⟩, Below.refl _ _⟩
  · refine (copy_zero c w h).mono ?_
    rintro e w' ⟨rfl, rfl⟩
    exact ⟨⟨none, rfl, .inl ⟨rfl, rfl⟩, .inl ⟨rfl, rfl⟩⟩, Below.refl _ _⟩
  · refine (copy_tab w h).mono ?_
    rintro e w' ⟨⟨c', cb', nb', h1, h2, h3, h4, rfl⟩, hb⟩
    exact ⟨⟨_, rfl, .inr (.inr ⟨c', cb', nb', rfl, h4⟩), .inr ⟨c', cb', nb', rfl, h1, h2, h3, h4⟩⟩, hb⟩

end Go.Proofs.Ytooppkpaahmnhaa
