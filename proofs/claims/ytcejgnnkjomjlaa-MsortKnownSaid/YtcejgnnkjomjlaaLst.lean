/- MsortStays: the walk. -/
import Derived.Test.YtcejgnnkjomjlaaLke
namespace Go.Proofs.Ytcejgnnkjomjlaa
open Go.RowKit
open Go.Proofs.Ytcejgnnkjomjlaa.PMsortMerges (eqA24)
attribute [local go_sem high] eqA24

/-! equal ones keep their order -/
def Stab (lt : Int → Int → Bool) (a b : Int) : Prop := lt b a = false ∧ (lt a b = true ∨ a < b)
theorem insr_stab {lt : Int → Int → Bool} (hw : Weak lt) {x : Int} {S : List Int} (hS : S.Pairwise (Stab lt)) (hx : ∀ y ∈ S, y < x) : (insr lt x S).Pairwise (Stab lt) := by
  induction S with
  | nil => simp [insr]
  | cons y S ih =>
    obtain ⟨h1, h2⟩ := List.pairwise_cons.1 hS
    cases e : lt x y with
    | true =>
      rw [insr_yes e]
      refine List.pairwise_cons.2 ⟨fun z hz => ?_, hS⟩
      have hz' : lt x z = true := by
        rcases List.mem_cons.1 hz with rfl | hz
        · exact e
        · cases e2 : lt x z with
          | true => rfl
          | false =>
            have := hw.neg x z y e2 (h1 z hz).1
            rw [e] at this; cases this
      exact ⟨hw.asymm _ _ hz', .inl hz'⟩
    | false =>
      rw [insr_no e]
      refine List.pairwise_cons.2 ⟨fun z hz => ?_, ih h2 (fun z hz => hx z (List.mem_cons_of_mem _ hz))⟩
      rcases List.mem_cons.1 ((insr_perm x S).mem_iff.1 hz) with rfl | hz
      · exact ⟨e, .inr (hx y (List.mem_cons_self ..))⟩
      · exact h1 z hz
theorem isort_stab {lt : Int → Int → Bool} (hw : Weak lt) (n : Nat) : (isort lt (idxs n)).Pairwise (Stab lt) := by
  induction n with
  | zero => simp [idxs, isort]
  | succ n ih =>
    rw [idxs_succ, isort_snoc]
    exact insr_stab hw ih fun y hy => (idxs_mem ((isort_perm _).mem_iff.1 hy)).2
theorem idxs_nodup (n : Nat) : (idxs n).Nodup := by
  unfold idxs
  exact List.Pairwise.map _ (fun a b h e => h (by omega)) List.nodup_range

/-- which numbers are among the first i of a list -/
def seenB (P : List Int) (n i : Nat) : List Bool := (List.range n).map fun (q : Nat) => decide ((q : Int) ∈ P.take i)
theorem seenB_zero (P : List Int) (n : Nat) : seenB P n 0 = List.replicate n false := by
  unfold seenB
  apply List.ext_getElem
  · simp
  · intro i h1 h2; simp
theorem seenB_set {P : List Int} {n i : Nat} {p : Int} (hp : P[i]? = some p) (h0 : 0 ≤ p) (_hn : p < (n : Int)) : (seenB P n i).set p.toNat true = seenB P n (i + 1) := by
  have hi : i < P.length := by
    rcases Nat.lt_or_ge i P.length with h | h
    · exact h
    · rw [List.getElem?_eq_none h] at hp; cases hp
  have he : P[i] = p := by rw [List.getElem?_eq_getElem hi] at hp; injection hp
  unfold seenB
  apply List.ext_getElem
  · simp
  · intro q h1 h2
    simp only [List.length_set, List.length_map, List.length_range] at h1
    rw [List.getElem_set]
    simp only [List.getElem_map, List.getElem_range]
    rw [List.take_succ_eq_append_getElem hi, he]
    by_cases e : p.toNat = q
    · rw [if_pos e]
      have : (q : Int) = p := by omega
      simp [this]
    · rw [if_neg e]
      have : ¬ (q : Int) = p := by omega
      simp [this]
theorem seenB_at {P : List Int} {n i : Nat} {p : Int} (hP : P.Nodup) (hp : P[i]? = some p) (h0 : 0 ≤ p) (hn : p < (n : Int)) : (seenB P n i)[p.toNat]? = some false := by
  have hi : i < P.length := by
    rcases Nat.lt_or_ge i P.length with h | h
    · exact h
    · rw [List.getElem?_eq_none h] at hp; cases hp
  have he : P[i] = p := by rw [List.getElem?_eq_getElem hi] at hp; injection hp
  unfold seenB
  rw [List.getElem?_map, List.getElem?_range (by omega), Option.map_some]
  congr 1
  rw [decide_eq_false_iff_not]
  intro h
  have e : ((p.toNat : Nat) : Int) = p := by omega
  rw [e] at h
  have hd : P = P.take i ++ p :: P.drop (i + 1) := by
    rw [← he, ← List.drop_eq_getElem_cons hi, List.take_append_drop]
  rw [hd] at hP
  exact (List.nodup_append.1 hP).2.2 p h p (List.mem_cons_self ..) rfl

theorem VI.cell {w : World} {a : Option Addr} {n cap i : Nat} {l : List Int} {x : Int} (h : VI w (.slice a n cap) l) (hx : l[i]? = some x) : ∃ b off, a = some ⟨b, off, none⟩ ∧ w.cell? ⟨b, off + i, none⟩ = some (.int .i64 x) := by
  obtain ⟨a', c', hv, hc, hr⟩ := h
  injection hv with h1 h2 h3
  subst h1
  obtain ⟨b, off, ha, _, hcell⟩ := hr.2 (by
    rcases Nat.lt_or_ge i l.length with h | h
    · omega
    · rw [List.getElem?_eq_none h] at hx; cases hx)
  exact ⟨b, off, ha, hcell i x hx⟩

theorem split3 {i n : Nat} (hi : i ≤ n) : i = n ∨ (i = 0 ∧ i < n) ∨ ∃ j, i = j + 1 ∧ i < n := by
  rcases Nat.lt_or_ge i n with h | h
  · cases i with
    | zero => exact .inr (.inl ⟨rfl, h⟩)
    | succ j => exact .inr (.inr ⟨j, rfl, h⟩)
  · exact .inl (by omega)
set_option maxRecDepth 100000 in
set_option maxHeartbeats 16000000 in
theorem msortstays_walk (w : World) (a : Option Addr) (n cap : Nat) (l : List R4) (x : Int) (hx : 0 ≤ x ∧ x ≤ 255) (hn : l.length = n) (hV : VR w (.slice a n cap) l) :
    Calls Try.prog 6 #[.slice a n cap, .int .u8 x] w fun e w' => e = .returned (.bool true) ∧ Below w.heap.size w w' := by
  have hB := Lib.hid (Below.refl w.heap.size w)
  by_cases h200 : 200 < n
  · have hd : decide ((200 : Int) < (n : Int)) = true := decide_eq_true (by omega)
    clear hn hV
    go_enter Try.func6, Try.ntmps6
    go_wp2_with fail
    go_ret
    exact ⟨rfl, hB.out⟩
  have hd : decide ((200 : Int) < (n : Int)) = false := decide_eq_false (by omega)
  have hm : l.length ≤ 70000 := by omega
  have hk0 := fun m (hm : m ≤ 65536) => key3 hx hm
  obtain ⟨k, hk⟩ : ∃ k, x % 3 + 1 = k := ⟨_, rfl⟩
  rw [hk] at hk0
  have h3 := three_any x
  rw [hk] at h3
  have hK := hk0 l.length (by omega)
  have hPe : permK k l = isort (ltIdx (keyLt k) l) (idxs l.length) := by unfold permK; rw [if_pos hK]
  have hSe : sortK k l = (permK k l).map (at4 l) := by rw [hPe, sort_map]; unfold sortK; rw [if_pos hK]
  have hSt : (permK k l).Pairwise (Stab (ltIdx (keyLt k) l)) := by rw [hPe]; exact isort_stab (weak_ltIdx (weak_key k) l) _
  have hNd : (permK k l).Nodup := by rw [hPe]; exact (isort_perm _).nodup_iff.2 (idxs_nodup _)
  have hPl : (permK k l).length = n := by rw [hPe, (isort_perm _).length_eq, idxs_length, hn]
  have hPm : ∀ p ∈ permK k l, 0 ≤ p ∧ p < (n : Int) := fun p hp => by rw [hPe] at hp; have := idxs_mem ((isort_perm _).mem_iff.1 hp); omega
  have hSl : (sortK k l).length = n := by rw [hSe, List.length_map, hPl]
  have hL : ∀ a b W, Calls Try.prog 12 #[a.val, b.val, .int .i64 k] W fun e w' => e = .returned (.tuple #[.bool (keyLt k a b), .int .i64 0]) ∧ Below W.heap.size W w' := by
    intro a b W
    have h13 : 1 ≤ k ∧ k ≤ 3 := (errK_zero hK).1
    have := less_any a b k W
    unfold lessB errL at this
    rw [if_pos h13, if_pos h13] at this
    exact this
  have hmk := fun W => make_bool n (by omega) W
  replace hV := Lib.hid hV
  replace hn := Lib.hid hn
  replace h3 := Lib.hid h3
  replace hK := Lib.hid hK
  replace hL := Lib.hid hL
  obtain ⟨P, hPP⟩ : ∃ P, permK k l = P := ⟨_, rfl⟩
  rw [hPP] at hSe hSt hNd hPl hPm
  have hPn : ∀ i, i < n → ∃ pn : Nat, P[i]? = some (pn : Int) ∧ pn < n := fun i hi => by
    have hp := hPm _ (List.getElem_mem (show i < P.length by omega))
    exact ⟨(P[i]'(by omega)).toNat, by rw [List.getElem?_eq_getElem (show i < P.length by omega)]; congr 1; omega, by omega⟩
  have hSat : ∀ (i pn : Nat), P[i]? = some (pn : Int) → (sortK k l)[i]? = l[pn]? := fun i pn h => by
    rw [hSe, List.getElem?_map, h, Option.map_some]
    unfold at4
    rw [Int.toNat_natCast]
    have hlt : pn < l.length := by
      have := hPm _ (List.mem_of_getElem? h); have := hn.out; omega
    rw [List.getElem?_eq_getElem hlt]; rfl
  have hpair : ∀ i (p q : Int), P[i]? = some p → P[i + 1]? = some q → Stab (ltIdx (keyLt k) l) p q := fun i p q h1 h2 => by
    have hi1 : i + 1 < P.length := by
      rcases Nat.lt_or_ge (i + 1) P.length with h | h
      · exact h
      · rw [List.getElem?_eq_none h] at h2; cases h2
    have := List.pairwise_iff_getElem.1 hSt i (i + 1) (by omega) hi1 (by omega)
    rw [List.getElem?_eq_getElem (by omega)] at h1 h2
    injection h1 with h1
    injection h2 with h2
    rw [h1, h2] at this
    exact this
  replace hPn := Lib.hid hPn
  replace hSat := Lib.hid hSat
  replace hpair := Lib.hid hpair
  replace hNd := Lib.hid hNd
  replace hPl := Lib.hid hPl
  replace hSl := Lib.hid hSl
  replace hPP := Lib.hid hPP
  clear hk hk0 hSe hPe hSt hPm
  go_enter Try.func6, Try.ntmps6
  go_wp2_with fail
  refine (h3.out _ hx).mono ?_
  rintro e w0 ⟨rfl, rfl⟩
  go_wp2_with fail
  refine (sort_uni _ _ l k hV.out).mono ?_
  rintro e w1 ⟨⟨vs, rfl, hS⟩, hb1⟩
  replace hV := Lib.hid (hV.out.below hb1)
  replace hS := Lib.hid hS
  replace hB := Lib.hid (bel_trans hB.out hb1)
  clear hb1
  rw [hK.out]
  go_wp2_with fail
  refine (perm_uni _ _ l k hV.out).mono ?_
  rintro e w2 ⟨⟨vp, rfl, hP⟩, hb2⟩
  replace hV := Lib.hid (hV.out.below hb2)
  replace hS := Lib.hid (hS.out.below hb2)
  replace hP := Lib.hid hP
  replace hB := Lib.hid (bel_trans hB.out hb2)
  clear hb2
  rw [hK.out]
  rw [hPP.out] at hP
  obtain ⟨S, hSS⟩ : ∃ S, sortK k l = S := ⟨_, rfl⟩
  rw [hSS] at hS hSl hSat
  clear hSS hPP
  obtain ⟨aS, cS, rfl, hcs, hrs⟩ := hS.out
  obtain ⟨aP, cP, rfl, hcp, hrp⟩ := hP.out
  rw [hSl.out] at hS hcs
  rw [hPl.out] at hP hcp
  rw [hSl.out, hPl.out]
  clear hrs hrp
  have hne : ((n : Int) != (n : Int)) = false := by simp
  go_wp2_with fail
  have hD := Blk.new w2 (RwB (List.replicate n false)) 4
  have hDb := below1 w2 (.cells (RwB (List.replicate n false)) 4)
  generalize w2.alloc (.cells (RwB (List.replicate n false)) 4) = U at *
  replace hD := Lib.hid hD
  replace hDb := Lib.hid hDb
  obtain ⟨D, hDe⟩ : ∃ D, w2.heap.size = D := ⟨_, rfl⟩
  rw [hDe] at hD ⊢
  replace hDe := Lib.hid hDe
  clear hmk hne
  go_loopw [11] (fun v11 wr => ∃ i : Nat, v11 = .int .i64 (i : Int) ∧ i ≤ n ∧ Blk wr D (RwB (seenB P n i)) 4 ∧ Below w2.heap.size w2 wr) (fun v11 _ => n - (intOf v11).toNat)
  case atStart => exact ⟨0, rfl, by omega, by rw [seenB_zero]; exact hD.out, hDb.out⟩
  case round =>
    clear hD hDb
    obtain ⟨i, rfl, hi, hD, hDb⟩ := hrel
    replace hDb := Lib.hid hDb
    rcases split3 hi with rfl | ⟨rfl, hlt⟩ | ⟨i, rfl, hlt⟩
    · have hd2 : decide ((i : Int) < (i : Int)) = false := by simp
      have hbe := Lib.hid (bel_trans hB.out hDb.out)
      clear hD hDb
      go_wp2_with fail
      refine (works_any _).mono ?_
      rintro e w9 ⟨rfl, hb9⟩
      replace hb9 := Lib.hid (bel_trans hbe.out hb9)
      go_wp2_with fail
      go_ret
      exact ⟨rfl, hb9.out⟩
    · have hd2 : decide ((0 : Int) < (n : Int)) = true := decide_eq_true (by omega)
      have hd3 : decide (0 < n) = true := decide_eq_true (by omega)
      obtain ⟨pn, hpn, hpl⟩ := hPn.out 0 (by omega)
      have hz := hSat.out 0 pn hpn
      obtain ⟨z, hlz⟩ : ∃ z, l[pn]? = some z := ⟨_, List.getElem?_eq_getElem (by have := hn.out; omega)⟩
      rw [hlz] at hz
      have hVr := hV.out.below hDb.out
      have hSr := hS.out.below hDb.out
      have hPr := hP.out.below hDb.out
      obtain ⟨bl, ol, rfl, l0, l1, l2, l3⟩ := hVr.cells hlz
      obtain ⟨bs, os, rfl, s0, s1, s2, s3⟩ := hSr.cells hz
      obtain ⟨bp, op, rfl, p0⟩ := hPr.cell hpn
      have cg := hD.cell pn (RwB.at (by have := seenB_at hNd.out hpn (by omega) (show (pn : Int) < (n : Int) by omega); rw [Int.toNat_natCast] at this; exact this))
      have fg := hD.frozen pn
      have hDn := hD.set pn (.bool true)
      rw [RwB.set, show (seenB P n 0).set pn true = seenB P n (0 + 1) by have := seenB_set hpn (by omega) (show (pn : Int) < (n : Int) by omega); rw [Int.toNat_natCast] at this; exact this] at hDn
      have q0 : decide ((pn : Int) < 0) = false := decide_eq_false (by omega)
      have q1 : decide ((n : Int) ≤ (pn : Int)) = false := decide_eq_false (by omega)
      have q2 : decide (n ≤ pn) = false := decide_eq_false (by omega)
      replace hDn := Lib.hid hDn
      replace hpn := Lib.hid hpn
      replace hz := Lib.hid hz
      replace hlz := Lib.hid hlz
      replace hVr := Lib.hid hVr
      replace hSr := Lib.hid hSr
      replace hPr := Lib.hid hPr
      clear hD
      rw [Nat.zero_mul, Nat.add_zero] at s0 s1 s2 s3
      rw [Nat.add_zero] at p0
      go_wp2_with fail
      go_quiet (fail)
      go_wp2_with fail
      go_roundw
      case rel => exact ⟨1, rfl, by omega, hDn.out, bel_set (bel_drewN hDb.out _) (Nat.le_of_eq hDe.out) _⟩
      case measure => simp [intOf]; omega
    · have hd2 : decide ((i : Int) + 1 < (n : Int)) = true := decide_eq_true (by omega)
      have i0 : (0 : Int) ≤ (i : Int) + 1 := by omega
      have i1 : (i : Int) + 1 < (n : Int) := by omega
      have i2 : ((i : Int) + 1).toNat = i + 1 := by omega
      have i3 : (i : Int) < (n : Int) := by omega
      have ei : ((i + 1 : Nat) : Int) = (i : Int) + 1 := by omega
      rw [ei]
      clear ei
      obtain ⟨pn, hpn, hpl⟩ := hPn.out (i + 1) (by omega)
      have hz := hSat.out (i + 1) pn hpn
      obtain ⟨z, hlz⟩ : ∃ z, l[pn]? = some z := ⟨_, List.getElem?_eq_getElem (by have := hn.out; omega)⟩
      rw [hlz] at hz
      have hVr := hV.out.below hDb.out
      have hSr := hS.out.below hDb.out
      have hPr := hP.out.below hDb.out
      obtain ⟨bl, ol, rfl, l0, l1, l2, l3⟩ := hVr.cells hlz
      obtain ⟨bs, os, rfl, s0, s1, s2, s3⟩ := hSr.cells hz
      obtain ⟨bp, op, rfl, p0⟩ := hPr.cell hpn
      have cg := hD.cell pn (RwB.at (by have := seenB_at hNd.out hpn (by omega) (show (pn : Int) < (n : Int) by omega); rw [Int.toNat_natCast] at this; exact this))
      have fg := hD.frozen pn
      have hDn := hD.set pn (.bool true)
      rw [RwB.set, show (seenB P n (i + 1)).set pn true = seenB P n ((i + 1) + 1) by have := seenB_set hpn (by omega) (show (pn : Int) < (n : Int) by omega); rw [Int.toNat_natCast] at this; exact this] at hDn
      have q0 : decide ((pn : Int) < 0) = false := decide_eq_false (by omega)
      have q1 : decide ((n : Int) ≤ (pn : Int)) = false := decide_eq_false (by omega)
      have q2 : decide (n ≤ pn) = false := decide_eq_false (by omega)
      replace hDn := Lib.hid hDn
      replace hpn := Lib.hid hpn
      replace hz := Lib.hid hz
      replace hlz := Lib.hid hlz
      replace hVr := Lib.hid hVr
      replace hSr := Lib.hid hSr
      replace hPr := Lib.hid hPr
      clear hD
      go_wp2_with fail
      go_quiet (fail)
      go_wp2_with fail
      have hb1 : Below w2.heap.size w2 ((wr.drewN nq).setCell ⟨D, pn, none⟩ (.bool true)) := bel_set (bel_drewN hDb.out _) (Nat.le_of_eq hDe.out) _
      have hD1 : Blk ((wr.drewN nq).setCell ⟨D, pn, none⟩ (.bool true)) D (RwB (seenB P n (i + 1 + 1))) 4 := hDn.out
      generalize (wr.drewN nq).setCell ⟨D, pn, none⟩ (.bool true) = W1 at *
      clear hDn l0 l1 l2 l3 s0 s1 s2 s3 p0 cg fg hVr hSr hPr q0 q1 q2
      obtain ⟨qn, hqn, hql⟩ := hPn.out i (by omega)
      have hx0 := hSat.out i qn hqn
      obtain ⟨x0, hlx⟩ : ∃ x, l[qn]? = some x := ⟨_, List.getElem?_eq_getElem (by have := hn.out; omega)⟩
      rw [hlx] at hx0
      have hst := hpair.out i _ _ hqn hpn.out
      unfold Stab ltIdx at hst
      rw [Int.toNat_natCast, Int.toNat_natCast, hlx, hlz.out] at hst
      simp only [Option.getD_some] at hst
      obtain ⟨hzx, hor⟩ := hst
      have hS1 := hS.out.below hb1
      have hP1 := hP.out.below hb1
      have hS1d := hS1.cells2 hx0 hz.out (bel_drew (Below.refl W1.heap.size W1))
      have hS1c := hS1.cells2 hx0 hz.out (Below.refl W1.heap.size W1)
      have hw1 : IntKind.i64.wrap (i : Int) = (i : Int) := IntWalk.i64_in _ (by omega)
      replace hqn := Lib.hid hqn
      replace hx0 := Lib.hid hx0
      replace hlx := Lib.hid hlx
      replace hS1 := Lib.hid hS1
      replace hP1 := Lib.hid hP1
      replace hb1 := Lib.hid hb1
      replace hD1 := Lib.hid hD1
      replace hor := Lib.hid hor
      go_wp2_with fail
      go_region_held3 (fun w' => w'.cell? ⟨bs, os + i * 4, none⟩ = some (.int .u64 x0.u) ∧ w'.cell? ⟨bs, os + i * 4 + 1, none⟩ = some (.int .u64 x0.v) ∧ w'.cell? ⟨bs, os + i * 4 + 2, none⟩ = some (.int .i64 x0.w) ∧ w'.cell? ⟨bs, os + i * 4 + 3, none⟩ = some (.int .i64 x0.t) ∧ w'.cell? ⟨bs, os + (i + 1) * 4, none⟩ = some (.int .u64 z.u) ∧ w'.cell? ⟨bs, os + (i + 1) * 4 + 1, none⟩ = some (.int .u64 z.v) ∧ w'.cell? ⟨bs, os + (i + 1) * 4 + 2, none⟩ = some (.int .i64 z.w) ∧ w'.cell? ⟨bs, os + (i + 1) * 4 + 3, none⟩ = some (.int .i64 z.t))
        (first | assumption)
        (first | (go_at_call 12; refine (hL.out x0 z _).mono ?_; rintro e w8 ⟨rfl, hb8⟩; replace hb8 := Lib.hid (bel_trans (bel_drew (Below.refl W1.heap.size W1)) hb8); have hS8c := hS1.out.cells2 hx0.out hz.out hb8.out))
      have hS8 := hS1.out.below hb8.out
      have hP8 := hP1.out.below hb8.out
      have hD8 := hD1.out.below hb8.out hD1.out.lt
      have hbb8 := hb1.out.trans (hb8.out.mono hb1.out.size)
      clear hS1c hS1d hS8c
      have hS8d := hS8.cells2 hx0.out hz.out (bel_drew (Below.refl w8.heap.size w8))
      have hS8c := hS8.cells2 hx0.out hz.out (Below.refl w8.heap.size w8)
      replace hS8 := Lib.hid hS8
      replace hP8 := Lib.hid hP8
      replace hD8 := Lib.hid hD8
      replace hbb8 := Lib.hid hbb8
      go_wp2_with fail
      go_region_held3 (fun w' => w'.cell? ⟨bs, os + i * 4, none⟩ = some (.int .u64 x0.u) ∧ w'.cell? ⟨bs, os + i * 4 + 1, none⟩ = some (.int .u64 x0.v) ∧ w'.cell? ⟨bs, os + i * 4 + 2, none⟩ = some (.int .i64 x0.w) ∧ w'.cell? ⟨bs, os + i * 4 + 3, none⟩ = some (.int .i64 x0.t) ∧ w'.cell? ⟨bs, os + (i + 1) * 4, none⟩ = some (.int .u64 z.u) ∧ w'.cell? ⟨bs, os + (i + 1) * 4 + 1, none⟩ = some (.int .u64 z.v) ∧ w'.cell? ⟨bs, os + (i + 1) * 4 + 2, none⟩ = some (.int .i64 z.w) ∧ w'.cell? ⟨bs, os + (i + 1) * 4 + 3, none⟩ = some (.int .i64 z.t))
        (first | assumption)
        (first | (go_at_call 12; refine (hL.out z x0 _).mono ?_; rintro e w9 ⟨rfl, hb9⟩; rw [hzx]; replace hb9 := Lib.hid (bel_trans (bel_drew (Below.refl w8.heap.size w8)) hb9); have hS9c := hS8.out.cells2 hx0.out hz.out hb9.out))
      have hD9 := hD8.out.below hb9.out hD8.out.lt
      have hbb9 := hbb8.out.trans (hb9.out.mono hbb8.out.size)
      have hP9 := hP8.out.below hb9.out
      clear hS8c hS8d hS9c
      obtain ⟨b', o', e1, p1⟩ := hP9.cell hpn.out
      injection e1 with e1
      injection e1 with f1 f2
      subst f1; subst f2
      obtain ⟨b', o', e1, p2⟩ := hP9.cell hqn.out
      injection e1 with e1
      injection e1 with f1 f2
      subst f1; subst f2
      replace hD9 := Lib.hid hD9
      replace hbb9 := Lib.hid hbb9
      clear hP9
      cases hxz : keyLt k x0 z with
      | true =>
        go_wp2_with fail
        go_quiet (fail)
        clear hw1
        go_wp2_with fail
        go_roundw
        case rel => exact ⟨i + 1 + 1, by go_num, by omega, hD9.out, bel_drewN hbb9.out _⟩
        case measure => simp [intOf]; omega
      | false =>
        have hlt9 : (qn : Int) < (pn : Int) := by
          rcases hor.out with h | h
          · rw [hxz] at h; cases h
          · exact h
        have q5 : decide ((pn : Int) < (qn : Int)) = false := decide_eq_false (by omega)
        have q6 : decide (pn < qn) = false := decide_eq_false (by omega)
        clear hlt9
        go_wp2_with fail
        go_quiet (fail)
        clear hw1
        go_wp2_with fail
        go_roundw
        case rel => exact ⟨i + 1 + 1, by go_num, by omega, hD9.out, bel_drewN hbb9.out _⟩
        case measure => simp [intOf]; omega
theorem msortstays_row (w : World) (a : Option Addr) (len cap : Nat) (G : Nat → Nat → Int) (hc : len ≤ cap) (_hm : cap ≤ maxLen) (h : RT w.heap.size w recK a len G) (x : Int) (hx : (Lit.int .u8 x).wf = true) :
    Calls Try.prog 6 #[.slice a len cap, .int .u8 x] w fun e w' => e = .returned (.bool true) ∧ Below w.heap.size w w' := by
  obtain ⟨l, hl, hv⟩ := open_recs hc h
  exact msortstays_walk w a len cap l x (u8_range hx) hl hv
end Go.Proofs.Ytcejgnnkjomjlaa
