/- MsortCounts: the walk. -/
import Derived.Test.YtcejgnnkjomjlaaLjo
namespace Go.Proofs.Ytcejgnnkjomjlaa
open Go.RowKit

/-! exchanged neighbours -/
theorem inv_two {α : Type} {lt : α → α → Bool} (x y : α) (B : List α) : inv lt (x :: y :: B) = (if lt y x then 1 else 0) + B.countP (fun z => lt z x) + (B.countP (fun z => lt z y) + inv lt B) := by
  simp only [inv, List.countP_cons]
  cases lt y x <;> simp <;> omega
theorem inv_swap {α : Type} {lt : α → α → Bool} (A B : List α) (x y : α) : inv lt (A ++ y :: x :: B) + (if lt y x then 1 else 0) = inv lt (A ++ x :: y :: B) + (if lt x y then 1 else 0) := by
  rw [inv_append, inv_append, inv_two, inv_two, crs_perm (List.Perm.refl A) (List.Perm.swap x y B)]
  omega
def swp {α : Type} (l : List α) (i : Nat) (x y : α) : List α := (l.set i y).set (i + 1) x
theorem swp_parts {α : Type} (l : List α) (i : Nat) (x y : α) (hx : l[i]? = some x) (hy : l[i + 1]? = some y) : l = l.take i ++ x :: y :: l.drop (i + 2) ∧ swp l i x y = l.take i ++ y :: x :: l.drop (i + 2) := by
  have hi : i + 1 < l.length := by
    rcases Nat.lt_or_ge (i + 1) l.length with h | h
    · exact h
    · rw [List.getElem?_eq_none h] at hy; cases hy
  have e1 : l.drop i = x :: y :: l.drop (i + 2) := by
    rw [List.drop_eq_getElem_cons (by omega), List.drop_eq_getElem_cons (by omega)]
    rw [List.getElem?_eq_getElem (by omega)] at hx hy
    injection hx with hx
    injection hy with hy
    rw [hx, hy]
  have e2 : l = l.take i ++ x :: y :: l.drop (i + 2) := by
    rw [← e1, List.take_append_drop]
  refine ⟨e2, ?_⟩
  have hl : (l.take i).length = i := by rw [List.length_take]; omega
  unfold swp
  generalize l.take i = A at *
  generalize l.drop (i + 2) = B at *
  subst e2
  subst hl
  rw [List.set_append_right _ _ (Nat.le_refl _), Nat.sub_self, List.set_cons_zero, List.set_append_right _ _ (by omega), show A.length + 1 - A.length = 1 by omega]
  rfl
theorem counts_plain (k : Int) (l : List R4) (i : Nat) (x y : R4) (hx : l[i]? = some x) (hy : l[i + 1]? = some y) :
    ((inv (keyLt k) (swp l i x y) : Nat) : Int) = if keyLt k y x then ((inv (keyLt k) l : Nat) : Int) - 1 else if keyLt k x y then ((inv (keyLt k) l : Nat) : Int) + 1 else ((inv (keyLt k) l : Nat) : Int) := by
  obtain ⟨h1, h2⟩ := swp_parts l i x y hx hy
  have h := inv_swap (lt := keyLt k) (l.take i) (l.drop (i + 2)) x y
  rw [← h1, ← h2] at h
  cases hyx : keyLt k y x with
  | true =>
    have hxy := (weak_key k).asymm y x hyx
    rw [hyx, hxy] at h
    simp at h ⊢
    omega
  | false =>
    cases hxy : keyLt k x y with
    | true => rw [hyx, hxy] at h; simp at h ⊢; omega
    | false => rw [hyx, hxy] at h; simp at h ⊢; omega

/-! a copy that is one's own -/
set_option maxHeartbeats 2000000 in
theorem copied_gen (ad : Addr) (n c : Nat) (l : List R4) (w : World) (hn : l.length = n) (hm : n ≤ 70000) (hc : ∀ j u, (flat l)[j]? = some u → (w.alloc (.cells #[] 24)).cell? (ad.add j) = some u) :
    Calls Try.prog 15 #[.slice (some ad) n c] w fun e w' => (∃ g cap tl, e = .returned (.slice (some ⟨g, 0, none⟩) n cap) ∧ n ≤ cap ∧ w.heap.size ≤ g ∧ Blk w' g (RwR l tl) 24) ∧ Below w.heap.size w w' := by
  obtain ⟨i0, hi0, hz0, hz1, hz2⟩ := info_parts rec_info
  have hown : (w.alloc (.cells #[] 24)).ownsRow w.heap.size 24 4 (.slice (some ⟨w.heap.size, 0, none⟩) 0 0) 0 [] :=
    World.ownsRow_lit (size := 4) w #[] 0 (Nat.le_refl _) (by simp [maxLen]) rfl
  have h1 : ∀ u ∈ flat l, u.oneCell' = true := flat_one l
  replace hc := Lib.hid hc
  replace hown := Lib.hid hown
  replace hn := Lib.hid hn
  go_enter Try.func15, Try.ntmps15
  go_wp2_with (first
    | (at_builtin
       refine wpList_append_own_at _ rfl _ _ 31 rfl w.heap.size 24 i0 _ 4 32 Try.underlying31 hi0 hz0 hz1 hz2 rfl (by omega) _ 0 [] rfl hown.out ad n c (flat l) rfl (by rw [flat_length, hn.out]) hc.out h1 (by simp only [maxLen]; omega) (by omega) (by simp) ?_
       intro v1 w1 hown1 hg1 hlast hat1))
  go_ret
  simp only [Nat.zero_add, List.nil_append] at hown1
  obtain ⟨g, cap, tl, rfl, hg, hcap, hblk⟩ := own_rwR hown1 (fun e => by have := (hlast.1 e).1; cases this)
  exact ⟨⟨g, cap, tl, rfl, hcap, hg, hblk⟩, (bel_alloc (Below.refl _ _) _).grown hg1 (by simp) (fun k e => by have e' : some w.heap.size = some k := e; injection e' with e'; omega)⟩
theorem copied_own (w : World) (a : Option Addr) (n cap : Nat) (l : List R4) (hm : n ≤ 70000) (hn : l.length = n) (hp : 0 < n) (hv : VR w (.slice a n cap) l) :
    Calls Try.prog 15 #[.slice a n cap] w fun e w' => (∃ g c' tl, e = .returned (.slice (some ⟨g, 0, none⟩) n c') ∧ n ≤ c' ∧ w.heap.size ≤ g ∧ Blk w' g (RwR l tl) 24) ∧ Below w.heap.size w w' := by
  obtain ⟨a', c', hv, hc, hr⟩ := hv
  injection hv with h1 h2 h3
  subst h1; subst h3
  obtain ⟨b, off, rfl, hlt, hcell⟩ := hr.2 (by omega)
  refine copied_gen _ n cap l w hn hm fun j u hu => ?_
  rw [add_none, (below1 w _).cell (p := ⟨b, off + j, none⟩) hlt]
  exact rd_flatR hcell hu

theorem VR.cells {w : World} {a : Option Addr} {n cap i : Nat} {l : List R4} {x : R4} (h : VR w (.slice a n cap) l) (hx : l[i]? = some x) :
    ∃ b off, a = some ⟨b, off, none⟩ ∧ w.cell? ⟨b, off + i * 4, none⟩ = some (.int .u64 x.u) ∧ w.cell? ⟨b, off + i * 4 + 1, none⟩ = some (.int .u64 x.v) ∧ w.cell? ⟨b, off + i * 4 + 2, none⟩ = some (.int .i64 x.w) ∧ w.cell? ⟨b, off + i * 4 + 3, none⟩ = some (.int .i64 x.t) := by
  obtain ⟨a', c', hv, hc, hr⟩ := h
  injection hv with h1 h2 h3
  subst h1
  obtain ⟨b, off, ha, _, hcell⟩ := hr.2 (by
    rcases Nat.lt_or_ge i l.length with h | h
    · omega
    · rw [List.getElem?_eq_none h] at hx; cases hx)
  exact ⟨b, off, ha, rd_four hcell hx⟩

theorem VR.addr {w : World} {a : Option Addr} {n cap i : Nat} {l : List R4} {x : R4} (h : VR w (.slice a n cap) l) (hx : l[i]? = some x) : ∃ b off, a = some ⟨b, off, none⟩ := by
  obtain ⟨b, off, ha, _⟩ := h.cells hx
  exact ⟨b, off, ha⟩
theorem VR.cells2 {w w' : World} {b off n cap i j : Nat} {l : List R4} {p r : R4} (h : VR w (.slice (some ⟨b, off, none⟩) n cap) l) (hp : l[i]? = some p) (hr : l[j]? = some r) (hb : Below w.heap.size w w') :
    w'.cell? ⟨b, off + i * 4, none⟩ = some (.int .u64 p.u) ∧ w'.cell? ⟨b, off + i * 4 + 1, none⟩ = some (.int .u64 p.v) ∧ w'.cell? ⟨b, off + i * 4 + 2, none⟩ = some (.int .i64 p.w) ∧ w'.cell? ⟨b, off + i * 4 + 3, none⟩ = some (.int .i64 p.t) ∧ w'.cell? ⟨b, off + j * 4, none⟩ = some (.int .u64 r.u) ∧ w'.cell? ⟨b, off + j * 4 + 1, none⟩ = some (.int .u64 r.v) ∧ w'.cell? ⟨b, off + j * 4 + 2, none⟩ = some (.int .i64 r.w) ∧ w'.cell? ⟨b, off + j * 4 + 3, none⟩ = some (.int .i64 r.t) := by
  have h' := h.below hb
  obtain ⟨b1, o1, e, x0, x1, x2, x3⟩ := h'.cells hp
  injection e with e
  injection e with e1 e2
  subst e1; subst e2
  obtain ⟨b1, o1, e, y0, y1, y2, y3⟩ := h'.cells hr
  injection e with e
  injection e with e1 e2
  subst e1; subst e2
  exact ⟨x0, x1, x2, x3, y0, y1, y2, y3⟩
theorem put8 {w W : World} {g : Nat} {l : List R4} {tl : Array Value} {i : Nat} (r p : R4) (h : Blk w g (RwR l tl) 24) (hi : i + 1 < l.length)
    (hW : W = ((((((((w.setCell ⟨g, i * 4, none⟩ (.int .u64 r.u)).setCell ⟨g, i * 4 + 1, none⟩ (.int .u64 r.v)).setCell ⟨g, i * 4 + 2, none⟩ (.int .i64 r.w)).setCell ⟨g, i * 4 + 3, none⟩ (.int .i64 r.t)).setCell ⟨g, (i + 1) * 4, none⟩ (.int .u64 p.u)).setCell ⟨g, (i + 1) * 4 + 1, none⟩ (.int .u64 p.v)).setCell ⟨g, (i + 1) * 4 + 2, none⟩ (.int .i64 p.w)).setCell ⟨g, (i + 1) * 4 + 3, none⟩ (.int .i64 p.t)).drew) :
    Blk W g (RwR (swp l i p r) tl) 24 ∧ Chg (· = g) w W := by
  obtain ⟨h1, k1⟩ := put4 r h (show i < l.length by omega) rfl rfl
  have h1' : Blk ((((w.setCell ⟨g, i * 4, none⟩ (.int .u64 r.u)).setCell ⟨g, i * 4 + 1, none⟩ (.int .u64 r.v)).setCell ⟨g, i * 4 + 2, none⟩ (.int .i64 r.w)).setCell ⟨g, i * 4 + 3, none⟩ (.int .i64 r.t)) g (RwR (l.set i r) tl) 24 := h1
  have k1' : Chg (· = g) w ((((w.setCell ⟨g, i * 4, none⟩ (.int .u64 r.u)).setCell ⟨g, i * 4 + 1, none⟩ (.int .u64 r.v)).setCell ⟨g, i * 4 + 2, none⟩ (.int .i64 r.w)).setCell ⟨g, i * 4 + 3, none⟩ (.int .i64 r.t)) := ⟨k1.os, k1.tape, k1.output, k1.size, k1.block⟩
  generalize (((w.setCell ⟨g, i * 4, none⟩ (.int .u64 r.u)).setCell ⟨g, i * 4 + 1, none⟩ (.int .u64 r.v)).setCell ⟨g, i * 4 + 2, none⟩ (.int .i64 r.w)).setCell ⟨g, i * 4 + 3, none⟩ (.int .i64 r.t) = X at *
  obtain ⟨h2, k2⟩ := put4 p h1' (show i + 1 < (l.set i r).length by rw [List.length_set]; exact hi) rfl rfl
  subst hW
  exact ⟨h2, k1'.trans k2⟩

set_option maxHeartbeats 16000000 in
theorem msortcounts_walk (w : World) (a : Option Addr) (n cap : Nat) (l : List R4) (at_ x : Int) (hat : 0 ≤ at_ ∧ at_ ≤ 255) (hx : 0 ≤ x ∧ x ≤ 255) (hn : l.length = n) (_hncap : n ≤ cap) (hV : VR w (.slice a n cap) l) :
    Calls Try.prog 7 #[.slice a n cap, .int .u8 at_, .int .u8 x] w fun e w' => e = .returned (.bool true) ∧ Below w.heap.size w w' := by
  have hB := Lib.hid (Below.refl w.heap.size w)
  by_cases h200 : 200 < n
  · have hd : decide ((200 : Int) < (n : Int)) = true := decide_eq_true (by omega)
    clear hn hV
    go_enter Try.func7, Try.ntmps7
    go_wp2_with fail
    go_ret
    exact ⟨rfl, hB.out⟩
  have hd : decide ((200 : Int) < (n : Int)) = false := decide_eq_false (by omega)
  have hm : l.length ≤ 70000 := by omega
  have hk0 := fun m (hm : m ≤ 65536) => key3 hx hm
  obtain ⟨k, hk⟩ : ∃ k, x % 3 + 1 = k := ⟨_, rfl⟩
  rw [hk] at hk0
  have h3 := three_any x
  rw [hk] at h3
  have hK := hk0 l.length (by omega)
  have hI : invK k l = inv (keyLt k) l := by unfold invK; rw [if_pos hK]
  have hS : srtK k l = (((inv (keyLt k) l : Nat) : Int) == 0) := by unfold srtK; rw [if_pos hK, inv_nbr]
  obtain ⟨c, hc⟩ : ∃ c : Int, ((inv (keyLt k) l : Nat) : Int) = c := ⟨_, rfl⟩
  have hcb : 0 ≤ c ∧ c ≤ 40000 := by
    have h1 := inv_le (lt := keyLt k) l
    have h2 : l.length * l.length ≤ 200 * 200 := Nat.mul_le_mul (by omega) (by omega)
    omega
  rw [hc] at hS
  have hss : (c == 0) = true ∨ (c == 0) = false := by cases (c == 0) <;> simp
  replace hV := Lib.hid hV
  replace hn := Lib.hid hn
  replace hk0 := Lib.hid hk0
  replace h3 := Lib.hid h3
  replace hK := Lib.hid hK
  replace hI := Lib.hid hI
  replace hS := Lib.hid hS
  replace hc := Lib.hid hc
  clear hk
  go_enter Try.func7, Try.ntmps7
  go_wp2_with fail
  refine (h3.out _ hx).mono ?_
  rintro e w0 ⟨rfl, rfl⟩
  go_wp2_with fail
  refine (invs_uni _ _ l k hV.out).mono ?_
  rintro e w1 ⟨rfl, hb1⟩
  replace hV := Lib.hid (hV.out.below hb1)
  replace hB := Lib.hid (bel_trans hB.out hb1)
  clear hb1
  rw [hK.out]
  go_wp2_with fail
  refine (srt_uni _ _ l k hV.out).mono ?_
  rintro e w2 ⟨rfl, hb2⟩
  replace hV := Lib.hid (hV.out.below hb2)
  replace hB := Lib.hid (bel_trans hB.out hb2)
  clear hb2
  rw [hK.out]
  rw [hI.out, hS.out, hc.out]
  have hbb : ∀ b : Bool, (b != b) = false := fun b => by cases b <;> rfl
  have hq := hbb (c == 0)
  clear hbb
  by_cases hn2 : n < 2
  · have hd2 : decide ((n : Int) < 2) = true := decide_eq_true (by omega)
    go_wp2_with fail
    refine (works_any _).mono ?_
    rintro e w9 ⟨rfl, hb9⟩
    replace hb9 := Lib.hid (bel_trans hB.out hb9)
    go_wp2_with fail
    go_ret
    exact ⟨rfl, hb9.out⟩
  · have hd2 : decide ((n : Int) < 2) = false := decide_eq_false (by omega)
    obtain ⟨i, hi, hin⟩ : ∃ i : Nat, at_ % ((n : Int) - 1) = (i : Int) ∧ i + 1 < n := ⟨(at_ % ((n : Int) - 1)).toNat, by
      have := Int.emod_nonneg at_ (show (n : Int) - 1 ≠ 0 by omega)
      have := Int.emod_lt_of_pos at_ (show (0 : Int) < (n : Int) - 1 by omega)
      omega, by
      have := Int.emod_nonneg at_ (show (n : Int) - 1 ≠ 0 by omega)
      have := Int.emod_lt_of_pos at_ (show (0 : Int) < (n : Int) - 1 by omega)
      omega⟩
    have hnz : ¬ (n : Int) - 1 = 0 := by omega
    have hnp : 0 < (n : Int) - 1 := by omega
    obtain ⟨p, hp⟩ : ∃ p, l[i]? = some p := ⟨_, List.getElem?_eq_getElem (by have := hn.out; omega)⟩
    obtain ⟨r, hr⟩ : ∃ r, l[i + 1]? = some r := ⟨_, List.getElem?_eq_getElem (by have := hn.out; omega)⟩
    replace hp := Lib.hid hp
    replace hr := Lib.hid hr
    go_wp2_with fail
    rw [hi]
    clear hnz hnp hi
    refine (copied_own _ a n cap l (by omega) hn.out (by omega) hV.out).mono ?_
    rintro e w3 ⟨⟨g, c', tl, rfl, hcn, hg, hBk⟩, hb3⟩
    have hgw := Nat.le_trans hB.out.size hg
    obtain ⟨p0, p1, p2, p3⟩ := RwR.four hBk hp.out
    obtain ⟨r0, r1, r2, r3⟩ := RwR.four hBk hr.out
    have f0 := hBk.frozen (i * 4)
    have f1 := hBk.frozen (i * 4 + 1)
    have f2 := hBk.frozen (i * 4 + 2)
    have f3 := hBk.frozen (i * 4 + 3)
    have g0 := hBk.frozen ((i + 1) * 4)
    have g1 := hBk.frozen ((i + 1) * 4 + 1)
    have g2 := hBk.frozen ((i + 1) * 4 + 2)
    have g3 := hBk.frozen ((i + 1) * 4 + 3)
    have hw1 : IntKind.i64.wrap ((i : Int) + 1) = (i : Int) + 1 := IntWalk.i64_in _ (by omega)
    have i0 : (0 : Int) ≤ (i : Int) + 1 := by omega
    have i1 : (i : Int) + 1 < (n : Int) := by omega
    have i2 : ((i : Int) + 1).toNat = i + 1 := by omega
    have i3 : (i : Int) < (n : Int) := by omega
    replace hBk := Lib.hid hBk
    replace hb3 := Lib.hid hb3
    replace hg := Lib.hid hg
    go_wp2_with fail
    go_region
    obtain ⟨P1, P2⟩ := put8 r p hBk.out (show i + 1 < l.length by have := hn.out; omega) rfl
    obtain ⟨W4, hW4⟩ : ∃ W, ((((((((w3.setCell ⟨g, i * 4, none⟩ (.int .u64 r.u)).setCell ⟨g, i * 4 + 1, none⟩ (.int .u64 r.v)).setCell ⟨g, i * 4 + 2, none⟩ (.int .i64 r.w)).setCell ⟨g, i * 4 + 3, none⟩ (.int .i64 r.t)).setCell ⟨g, (i + 1) * 4, none⟩ (.int .u64 p.u)).setCell ⟨g, (i + 1) * 4 + 1, none⟩ (.int .u64 p.v)).setCell ⟨g, (i + 1) * 4 + 2, none⟩ (.int .i64 p.w)).setCell ⟨g, (i + 1) * 4 + 3, none⟩ (.int .i64 p.t)).drew = W := ⟨_, rfl⟩
    rw [hW4] at P1 P2 ⊢
    have hb4 := hb3.out.trans (P2.below (n := w2.heap.size) hb3.out.size (fun _ _ e => by have := hg.out; omega))
    have hVm : VR W4 (.slice (some ⟨g, 0, none⟩) n c') (swp l i p r) := by
      have hsl : (swp l i p r).length = n := by unfold swp; rw [List.length_set, List.length_set]; exact hn.out
      refine ⟨some ⟨g, 0, none⟩, c', by rw [hsl], by rw [hsl]; exact hcn, ?_⟩
      rw [hsl]
      refine ⟨hsl, fun _ => ⟨g, 0, rfl, P1.lt, fun j q hq t ht => ?_⟩⟩
      have hx : ∃ v, (cells4 q)[t]? = some v := by
        match t, ht with
        | 0, _ => exact ⟨_, rfl⟩
        | 1, _ => exact ⟨_, rfl⟩
        | 2, _ => exact ⟨_, rfl⟩
        | 3, _ => exact ⟨_, rfl⟩
      obtain ⟨u, hu⟩ := hx
      have h' := RwR.at tl hq t ht
      rw [hu] at h' ⊢
      rw [Nat.zero_add]
      exact P1.cell _ h'
    replace hV := Lib.hid (hV.out.below hb4)
    replace hB := Lib.hid (bel_trans hB.out hb4)
    replace hVm := Lib.hid hVm
    have hK5 := Lib.hid (hk0.out (swp l i p r).length (by have := hn.out; unfold swp; rw [List.length_set, List.length_set]; omega))
    have hI5 : invK k (swp l i p r) = inv (keyLt k) (swp l i p r) := by unfold invK; rw [if_pos hK5.out]
    have hCp := counts_plain k l i p r hp.out hr.out
    rw [hc.out] at hCp
    have hL : ∀ a b W, Calls Try.prog 12 #[a.val, b.val, .int .i64 k] W fun e w' => e = .returned (.tuple #[.bool (keyLt k a b), .int .i64 0]) ∧ Below W.heap.size W w' := by
      intro a b W
      have h13 : 1 ≤ k ∧ k ≤ 3 := (errK_zero hK5.out).1
      have := less_any a b k W
      unfold lessB errL at this
      rw [if_pos h13, if_pos h13] at this
      exact this
    replace hI5 := Lib.hid hI5
    replace hL := Lib.hid hL
    replace hCp := Lib.hid hCp
    clear hW4 P1 P2 p0 p1 p2 p3 r0 r1 r2 r3 f0 f1 f2 f3 g0 g1 g2 g3 hBk hb3 hg hgw hb4
    go_wp2_with fail
    refine (invs_uni _ _ (swp l i p r) k hVm.out).mono ?_
    rintro e w5 ⟨rfl, hb5⟩
    rw [hI5.out, hK5.out, hCp.out]
    replace hV := Lib.hid (hV.out.below hb5)
    replace hB := Lib.hid (bel_trans hB.out hb5)
    clear hb5 hVm hI5 hCp hK5
    cases hrp : keyLt k r p with
    | true =>
      have hpr := (weak_key k).asymm r p hrp
      simp only [if_true]
      obtain ⟨b, off, rfl⟩ := hV.out.addr hp.out
      have hS5d := hV.out.cells2 hp.out hr.out (bel_drew (Below.refl w5.heap.size w5))
      have hS5 := hV.out.cells2 hp.out hr.out (Below.refl w5.heap.size w5)
      go_wp2_with fail
      go_region_held3 (fun w' => w'.cell? ⟨b, off + i * 4, none⟩ = some (.int .u64 p.u) ∧ w'.cell? ⟨b, off + i * 4 + 1, none⟩ = some (.int .u64 p.v) ∧ w'.cell? ⟨b, off + i * 4 + 2, none⟩ = some (.int .i64 p.w) ∧ w'.cell? ⟨b, off + i * 4 + 3, none⟩ = some (.int .i64 p.t) ∧ w'.cell? ⟨b, off + (i + 1) * 4, none⟩ = some (.int .u64 r.u) ∧ w'.cell? ⟨b, off + (i + 1) * 4 + 1, none⟩ = some (.int .u64 r.v) ∧ w'.cell? ⟨b, off + (i + 1) * 4 + 2, none⟩ = some (.int .i64 r.w) ∧ w'.cell? ⟨b, off + (i + 1) * 4 + 3, none⟩ = some (.int .i64 r.t))
        (first | assumption)
        (first | (go_at_call 12; refine (hL.out p r _).mono ?_; rintro e w6 ⟨rfl, hb6⟩; rw [hpr]; replace hb6 := Lib.hid (bel_trans (bel_drew (Below.refl w5.heap.size w5)) hb6); have hS6 := hV.out.cells2 hp.out hr.out hb6.out))
      have hV6 := hV.out.below hb6.out
      replace hB := Lib.hid (bel_trans hB.out hb6.out)
      clear hS5 hS5d hS6
      have hS6d := hV6.cells2 hp.out hr.out (bel_drew (Below.refl w6.heap.size w6))
      have hS6 := hV6.cells2 hp.out hr.out (Below.refl w6.heap.size w6)
      replace hV6 := Lib.hid hV6
      go_wp2_with fail
      go_region_held3 (fun w' => w'.cell? ⟨b, off + i * 4, none⟩ = some (.int .u64 p.u) ∧ w'.cell? ⟨b, off + i * 4 + 1, none⟩ = some (.int .u64 p.v) ∧ w'.cell? ⟨b, off + i * 4 + 2, none⟩ = some (.int .i64 p.w) ∧ w'.cell? ⟨b, off + i * 4 + 3, none⟩ = some (.int .i64 p.t) ∧ w'.cell? ⟨b, off + (i + 1) * 4, none⟩ = some (.int .u64 r.u) ∧ w'.cell? ⟨b, off + (i + 1) * 4 + 1, none⟩ = some (.int .u64 r.v) ∧ w'.cell? ⟨b, off + (i + 1) * 4 + 2, none⟩ = some (.int .i64 r.w) ∧ w'.cell? ⟨b, off + (i + 1) * 4 + 3, none⟩ = some (.int .i64 r.t))
        (first | assumption)
        (first | (go_at_call 12; refine (hL.out r p _).mono ?_; rintro e w7 ⟨rfl, hb7⟩; rw [hrp]; replace hb7 := Lib.hid (bel_trans (bel_drew (Below.refl w6.heap.size w6)) hb7); have hS7 := hV6.out.cells2 hp.out hr.out hb7.out))
      replace hB := Lib.hid (bel_trans hB.out hb7.out)
      clear hS6 hS6d hS7 hw1
      go_wp2_with fail
      refine (works_any _).mono ?_
      rintro e w9 ⟨rfl, hb9⟩
      replace hb9 := Lib.hid (bel_trans hB.out hb9)
      go_wp2_with fail
      go_ret
      exact ⟨rfl, hb9.out⟩
    | false =>
      cases hpr : keyLt k p r with
      | true =>
        simp only [if_true, if_false, Bool.false_eq_true]
        obtain ⟨b, off, rfl⟩ := hV.out.addr hp.out
        have hS5d := hV.out.cells2 hp.out hr.out (bel_drew (Below.refl w5.heap.size w5))
        have hS5 := hV.out.cells2 hp.out hr.out (Below.refl w5.heap.size w5)
        go_wp2_with fail
        go_region_held3 (fun w' => w'.cell? ⟨b, off + i * 4, none⟩ = some (.int .u64 p.u) ∧ w'.cell? ⟨b, off + i * 4 + 1, none⟩ = some (.int .u64 p.v) ∧ w'.cell? ⟨b, off + i * 4 + 2, none⟩ = some (.int .i64 p.w) ∧ w'.cell? ⟨b, off + i * 4 + 3, none⟩ = some (.int .i64 p.t) ∧ w'.cell? ⟨b, off + (i + 1) * 4, none⟩ = some (.int .u64 r.u) ∧ w'.cell? ⟨b, off + (i + 1) * 4 + 1, none⟩ = some (.int .u64 r.v) ∧ w'.cell? ⟨b, off + (i + 1) * 4 + 2, none⟩ = some (.int .i64 r.w) ∧ w'.cell? ⟨b, off + (i + 1) * 4 + 3, none⟩ = some (.int .i64 r.t))
          (first | assumption)
          (first | (go_at_call 12; refine (hL.out p r _).mono ?_; rintro e w6 ⟨rfl, hb6⟩; rw [hpr]; replace hb6 := Lib.hid (bel_trans (bel_drew (Below.refl w5.heap.size w5)) hb6); have hS6 := hV.out.cells2 hp.out hr.out hb6.out))
        have hV6 := hV.out.below hb6.out
        replace hB := Lib.hid (bel_trans hB.out hb6.out)
        clear hS5 hS5d hS6
        have hS6d := hV6.cells2 hp.out hr.out (bel_drew (Below.refl w6.heap.size w6))
        have hS6 := hV6.cells2 hp.out hr.out (Below.refl w6.heap.size w6)
        replace hV6 := Lib.hid hV6
        go_wp2_with fail
        go_region_held3 (fun w' => w'.cell? ⟨b, off + i * 4, none⟩ = some (.int .u64 p.u) ∧ w'.cell? ⟨b, off + i * 4 + 1, none⟩ = some (.int .u64 p.v) ∧ w'.cell? ⟨b, off + i * 4 + 2, none⟩ = some (.int .i64 p.w) ∧ w'.cell? ⟨b, off + i * 4 + 3, none⟩ = some (.int .i64 p.t) ∧ w'.cell? ⟨b, off + (i + 1) * 4, none⟩ = some (.int .u64 r.u) ∧ w'.cell? ⟨b, off + (i + 1) * 4 + 1, none⟩ = some (.int .u64 r.v) ∧ w'.cell? ⟨b, off + (i + 1) * 4 + 2, none⟩ = some (.int .i64 r.w) ∧ w'.cell? ⟨b, off + (i + 1) * 4 + 3, none⟩ = some (.int .i64 r.t))
          (first | assumption)
          (first | (go_at_call 12; refine (hL.out r p _).mono ?_; rintro e w7 ⟨rfl, hb7⟩; rw [hrp]; replace hb7 := Lib.hid (bel_trans (bel_drew (Below.refl w6.heap.size w6)) hb7); have hS7 := hV6.out.cells2 hp.out hr.out hb7.out))
        replace hB := Lib.hid (bel_trans hB.out hb7.out)
        clear hS6 hS6d hS7 hw1
        go_wp2_with fail
        refine (works_any _).mono ?_
        rintro e w9 ⟨rfl, hb9⟩
        replace hb9 := Lib.hid (bel_trans hB.out hb9)
        go_wp2_with fail
        go_ret
        exact ⟨rfl, hb9.out⟩
      | false =>
        simp only [if_false, Bool.false_eq_true]
        obtain ⟨b, off, rfl⟩ := hV.out.addr hp.out
        have hS5d := hV.out.cells2 hp.out hr.out (bel_drew (Below.refl w5.heap.size w5))
        have hS5 := hV.out.cells2 hp.out hr.out (Below.refl w5.heap.size w5)
        go_wp2_with fail
        go_region_held3 (fun w' => w'.cell? ⟨b, off + i * 4, none⟩ = some (.int .u64 p.u) ∧ w'.cell? ⟨b, off + i * 4 + 1, none⟩ = some (.int .u64 p.v) ∧ w'.cell? ⟨b, off + i * 4 + 2, none⟩ = some (.int .i64 p.w) ∧ w'.cell? ⟨b, off + i * 4 + 3, none⟩ = some (.int .i64 p.t) ∧ w'.cell? ⟨b, off + (i + 1) * 4, none⟩ = some (.int .u64 r.u) ∧ w'.cell? ⟨b, off + (i + 1) * 4 + 1, none⟩ = some (.int .u64 r.v) ∧ w'.cell? ⟨b, off + (i + 1) * 4 + 2, none⟩ = some (.int .i64 r.w) ∧ w'.cell? ⟨b, off + (i + 1) * 4 + 3, none⟩ = some (.int .i64 r.t))
          (first | assumption)
          (first | (go_at_call 12; refine (hL.out p r _).mono ?_; rintro e w6 ⟨rfl, hb6⟩; rw [hpr]; replace hb6 := Lib.hid (bel_trans (bel_drew (Below.refl w5.heap.size w5)) hb6); have hS6 := hV.out.cells2 hp.out hr.out hb6.out))
        have hV6 := hV.out.below hb6.out
        replace hB := Lib.hid (bel_trans hB.out hb6.out)
        clear hS5 hS5d hS6
        have hS6d := hV6.cells2 hp.out hr.out (bel_drew (Below.refl w6.heap.size w6))
        have hS6 := hV6.cells2 hp.out hr.out (Below.refl w6.heap.size w6)
        replace hV6 := Lib.hid hV6
        go_wp2_with fail
        go_region_held3 (fun w' => w'.cell? ⟨b, off + i * 4, none⟩ = some (.int .u64 p.u) ∧ w'.cell? ⟨b, off + i * 4 + 1, none⟩ = some (.int .u64 p.v) ∧ w'.cell? ⟨b, off + i * 4 + 2, none⟩ = some (.int .i64 p.w) ∧ w'.cell? ⟨b, off + i * 4 + 3, none⟩ = some (.int .i64 p.t) ∧ w'.cell? ⟨b, off + (i + 1) * 4, none⟩ = some (.int .u64 r.u) ∧ w'.cell? ⟨b, off + (i + 1) * 4 + 1, none⟩ = some (.int .u64 r.v) ∧ w'.cell? ⟨b, off + (i + 1) * 4 + 2, none⟩ = some (.int .i64 r.w) ∧ w'.cell? ⟨b, off + (i + 1) * 4 + 3, none⟩ = some (.int .i64 r.t))
          (first | assumption)
          (first | (go_at_call 12; refine (hL.out r p _).mono ?_; rintro e w7 ⟨rfl, hb7⟩; rw [hrp]; replace hb7 := Lib.hid (bel_trans (bel_drew (Below.refl w6.heap.size w6)) hb7); have hS7 := hV6.out.cells2 hp.out hr.out hb7.out))
        replace hB := Lib.hid (bel_trans hB.out hb7.out)
        clear hS6 hS6d hS7 hw1
        go_wp2_with fail
        refine (works_any _).mono ?_
        rintro e w9 ⟨rfl, hb9⟩
        replace hb9 := Lib.hid (bel_trans hB.out hb9)
        go_wp2_with fail
        go_ret
        exact ⟨rfl, hb9.out⟩
theorem msortcounts_row (w : World) (a : Option Addr) (len cap : Nat) (G : Nat → Nat → Int) (hc : len ≤ cap) (_hm : cap ≤ maxLen) (h : RT w.heap.size w recK a len G) (at_ : Int) (hat : (Lit.int .u8 at_).wf = true) (x : Int) (hx : (Lit.int .u8 x).wf = true) :
    Calls Try.prog 7 #[.slice a len cap, .int .u8 at_, .int .u8 x] w fun e w' => e = .returned (.bool true) ∧ Below w.heap.size w w' := by
  obtain ⟨l, hl, hv⟩ := open_recs hc h
  exact msortcounts_walk w a len cap l at_ x (u8_range hat) (u8_range hx) hl hc hv
end Go.Proofs.Ytcejgnnkjomjlaa
