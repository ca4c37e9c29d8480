/- MsortKeeps: the walk. -/
import Derived.Test.YtcejgnnkjomjlaaLco
namespace Go.Proofs.Ytcejgnnkjomjlaa
open Go.RowKit
open Go.Proofs.Ytcejgnnkjomjlaa.PMsortMerges (eqA24)
attribute [local go_sem high] eqA24

/-! what is left of a list -/
def rem {α : Type} : List α → List Bool → List α
  | x :: s, false :: G => x :: rem s G
  | _ :: s, true :: G => rem s G
  | _, _ => []
theorem rem_start {α : Type} (s : List α) : rem s (List.replicate s.length false) = s := by
  induction s with
  | nil => rfl
  | cons x s ih => rw [List.length_cons, List.replicate_succ, rem, ih]
theorem rem_mem {α : Type} {s : List α} : ∀ {G : List Bool} {x : α}, x ∈ rem s G → ∃ j : Nat, s[j]? = some x ∧ G[j]? = some false := by
  induction s with
  | nil => intro G x h; cases G <;> simp [rem] at h
  | cons y s ih =>
    intro G x h
    cases G with
    | nil => simp [rem] at h
    | cons b G =>
      cases b with
      | true =>
        obtain ⟨j, h1, h2⟩ := ih (G := G) h
        exact ⟨j + 1, by simpa using h1, by simpa using h2⟩
      | false =>
        rcases List.mem_cons.1 h with rfl | h
        · exact ⟨0, rfl, rfl⟩
        · obtain ⟨j, h1, h2⟩ := ih (G := G) h
          exact ⟨j + 1, by simpa using h1, by simpa using h2⟩
theorem rem_set {α : Type} {s : List α} : ∀ {G : List Bool} {x : α} {j : Nat}, s[j]? = some x → G[j]? = some false → (rem s G).Perm (x :: rem s (G.set j true)) := by
  induction s with
  | nil => intro G x j h; simp at h
  | cons y s ih =>
    intro G x j hs hG
    cases G with
    | nil => simp at hG
    | cons b G =>
      cases j with
      | zero =>
        simp at hs hG
        subst hs; subst hG
        exact List.Perm.refl _
      | succ j =>
        have h := ih (G := G) (x := x) (j := j) (by simpa using hs) (by simpa using hG)
        cases b with
        | true => exact h
        | false => exact (List.Perm.cons y h).trans (List.Perm.swap x y _)
def eqR (x y : R4) : Bool := x.u == y.u && (x.v == y.v && (x.w == y.w && (x.t == y.t)))
theorem eqR_iff (x y : R4) : eqR x y = true ↔ x = y := by
  unfold eqR
  cases x; cases y
  simp
theorem eqR_self (x : R4) : eqR x x = true := (eqR_iff x x).2 rfl

def RwB (G : List Bool) : Array Value := (G.map Value.bool).toArray
theorem RwB.at {G : List Bool} {j : Nat} {b : Bool} (h : G[j]? = some b) : (RwB G)[j]? = some (.bool b) := by
  unfold RwB
  rw [List.getElem?_toArray, List.getElem?_map, h]; rfl
theorem RwB.set {G : List Bool} {j : Nat} (b : Bool) : (RwB G).setIfInBounds j (.bool b) = RwB (G.set j b) := by
  unfold RwB
  apply Array.ext'
  simp [List.map_set]
theorem make_bool (m : Nat) (hm : m ≤ 70000) (W : World) : (Instr.makeSlice 44 (.int .i64 (m : Int)) (.int .i64 (m : Int))).run Try.prog W = .ok (.slice (some ⟨W.heap.size, 0, none⟩) m m) (W.alloc (.cells (RwB (List.replicate m false)) 4)) := by
  have := make_scalar 44 4 1 (.bool false) (by kernel_rfl) (by kernel_rfl) (by omega) rfl m hm W
  rw [this]
  unfold RwB
  rw [List.map_replicate]

set_option maxHeartbeats 16000000 in
theorem msortkeeps_walk (w : World) (a : Option Addr) (n cap : Nat) (l : List R4) (x : Int) (hx : 0 ≤ x ∧ x ≤ 255) (hn : l.length = n) (hV : VR w (.slice a n cap) l) :
    Calls Try.prog 9 #[.slice a n cap, .int .u8 x] w fun e w' => e = .returned (.bool true) ∧ Below w.heap.size w w' := by
  have hB := Lib.hid (Below.refl w.heap.size w)
  by_cases h200 : 200 < n
  · have hd : decide ((200 : Int) < (n : Int)) = true := decide_eq_true (by omega)
    clear hn hV
    go_enter Try.func9, Try.ntmps9
    go_wp2_with fail
    go_ret
    exact ⟨rfl, hB.out⟩
  have hd : decide ((200 : Int) < (n : Int)) = false := decide_eq_false (by omega)
  have hm : l.length ≤ 70000 := by omega
  have hk0 := fun m (hm : m ≤ 65536) => key3 hx hm
  obtain ⟨k, hk⟩ : ∃ k, x % 3 + 1 = k := ⟨_, rfl⟩
  rw [hk] at hk0
  have h3 := three_any x
  rw [hk] at h3
  have hK := hk0 l.length (by omega)
  have hSe : sortK k l = isort (keyLt k) l := by unfold sortK; rw [if_pos hK]
  have hSl : (sortK k l).length = n := by rw [hSe, (isort_perm _).length_eq, hn]
  have hSp : (sortK k l).Perm l := by rw [hSe]; exact isort_perm _
  have hK2 := hk0 (sortK k l).length (by omega)
  have hSo : srtK k (sortK k l) = true := by unfold srtK; rw [if_pos hK2, hSe, sorted_nbr]
  have hmk := fun W => make_bool n (by omega) W
  replace hV := Lib.hid hV
  replace hn := Lib.hid hn
  replace h3 := Lib.hid h3
  replace hK := Lib.hid hK
  replace hK2 := Lib.hid hK2
  replace hSo := Lib.hid hSo
  replace hSl := Lib.hid hSl
  replace hSp := Lib.hid hSp
  clear hk hk0 hSe
  go_enter Try.func9, Try.ntmps9
  go_wp2_with fail
  refine (h3.out _ hx).mono ?_
  rintro e w0 ⟨rfl, rfl⟩
  go_wp2_with fail
  refine (sort_uni _ _ l k hV.out).mono ?_
  rintro e w1 ⟨⟨vs, rfl, hS⟩, hb1⟩
  replace hV := Lib.hid (hV.out.below hb1)
  replace hS := Lib.hid hS
  replace hB := Lib.hid (bel_trans hB.out hb1)
  clear hb1
  rw [hK.out]
  go_wp2_with fail
  refine (srt_uni _ _ (sortK k l) k hS.out).mono ?_
  rintro e w2 ⟨rfl, hb2⟩
  replace hV := Lib.hid (hV.out.below hb2)
  replace hS := Lib.hid (hS.out.below hb2)
  replace hB := Lib.hid (bel_trans hB.out hb2)
  clear hb2
  rw [hK2.out, hSo.out]
  obtain ⟨S, hSS⟩ : ∃ S, sortK k l = S := ⟨_, rfl⟩
  rw [hSS] at hS hSl hSp
  clear hSS hSo hK2
  have hS' := hS.out
  obtain ⟨aS, cS, rfl, hcs, hrs⟩ := hS'
  rw [hSl.out] at hS hcs hrs ⊢
  have hne : ((n : Int) != (n : Int)) = false := by simp
  clear hrs
  go_wp2_with fail
  have hD := Blk.new w2 (RwB (List.replicate n false)) 4
  have hDb := below1 w2 (.cells (RwB (List.replicate n false)) 4)
  generalize w2.alloc (.cells (RwB (List.replicate n false)) 4) = U at *
  replace hD := Lib.hid hD
  replace hDb := Lib.hid hDb
  obtain ⟨D, hDe⟩ : ∃ D, w2.heap.size = D := ⟨_, rfl⟩
  rw [hDe] at hD ⊢
  replace hDe := Lib.hid hDe
  clear hmk hne
  go_loopw [11] (fun v11 wr => ∃ (i : Nat) (G : List Bool), v11 = .int .i64 (i : Int) ∧ i ≤ n ∧ G.length = n ∧ (rem S G).Perm (l.drop i) ∧ Blk wr D (RwB G) 4 ∧ Below w2.heap.size w2 wr) (fun v11 _ => n - (intOf v11).toNat)
  case atStart => exact ⟨0, _, rfl, by omega, by rw [List.length_replicate], by have := rem_start S; rw [hSl.out] at this; rw [this, List.drop_zero]; exact hSp.out, hD.out, hDb.out⟩
  case round =>
    clear hD hDb
    obtain ⟨i, G, rfl, hi, hGl, hperm, hD, hDb⟩ := hrel
    replace hGl := Lib.hid hGl
    replace hperm := Lib.hid hperm
    replace hD := Lib.hid hD
    replace hDb := Lib.hid hDb
    by_cases hlt : i < n
    · have hd2 : decide ((i : Int) < (n : Int)) = true := decide_eq_true (by omega)
      obtain ⟨y, hy⟩ : ∃ y, l[i]? = some y := ⟨_, List.getElem?_eq_getElem (by have := hn.out; omega)⟩
      replace hy := Lib.hid hy
      obtain ⟨wo, rfl⟩ : ∃ wo : World, wo = wr := ⟨_, rfl⟩
      go_wp2_with fail
      go_loopw [12, 13] (fun v12 v13 wr => ∃ (j : Nat) (fd : Bool) (G' : List Bool), v12 = .bool fd ∧ v13 = .int .i64 (j : Int) ∧ j ≤ n ∧ G'.length = n ∧
          (fd = false → G' = G ∧ ∀ j' x', j' < j → S[j']? = some x' → G[j']? = some false → ¬ x' = y) ∧ (fd = true → (rem S G').Perm (l.drop (i + 1))) ∧ Blk wr D (RwB G') 4 ∧ Below w2.heap.size w2 wr) (fun _ v13 _ => n - (intOf v13).toNat)
      case atStart => exact ⟨0, false, G, rfl, rfl, by omega, hGl.out, fun _ => ⟨rfl, fun j' x' h => absurd h (by omega)⟩, fun h => (by cases h), hD.out, hDb.out⟩
      case round =>
        clear hD hDb
        obtain ⟨j, fd, G', rfl, rfl, hj, hGl', hF, hT, hD, hDb⟩ := hrel
        replace hF := Lib.hid hF
        replace hT := Lib.hid hT
        replace hGl' := Lib.hid hGl'
        replace hDb := Lib.hid hDb
        cases fd with
        | true =>
          have hT' := Lib.hid (hT.out rfl)
          replace hD := Lib.hid hD
          clear hF hT
          by_cases hlt2 : j < n
          · have hd3 : decide ((j : Int) < (n : Int)) = true := decide_eq_true (by omega)
            go_wp2_with fail
            go_roundw
            case rel => exact ⟨i + 1, G', by go_num, by omega, hGl'.out, hT'.out, hD.out, hDb.out⟩
            case measure => simp [intOf]; omega
          · have hd3 : decide ((j : Int) < (n : Int)) = false := decide_eq_false (by omega)
            go_wp2_with fail
            go_roundw
            case rel => exact ⟨i + 1, G', by go_num, by omega, hGl'.out, hT'.out, hD.out, hDb.out⟩
            case measure => simp [intOf]; omega
        | false =>
          obtain ⟨rfl, hF'⟩ := hF.out rfl
          replace hF' := Lib.hid hF'
          clear hF hT
          by_cases hlt2 : j < n
          · have hd3 : decide ((j : Int) < (n : Int)) = true := decide_eq_true (by omega)
            obtain ⟨z, hz⟩ : ∃ z, S[j]? = some z := ⟨_, List.getElem?_eq_getElem (by have := hSl.out; omega)⟩
            obtain ⟨b, hb⟩ : ∃ b, G'[j]? = some b := ⟨_, List.getElem?_eq_getElem (by have := hGl'.out; omega)⟩
            have cg := hD.cell j (RwB.at hb)
            have fg := hD.frozen j
            replace hD := Lib.hid hD
            replace hz := Lib.hid hz
            replace hb := Lib.hid hb
            have hVr := hV.out.below hDb.out
            have hSr := hS.out.below hDb.out
            obtain ⟨bl, ol, rfl, l0, l1, l2, l3⟩ := hVr.cells hy.out
            obtain ⟨bs, os, rfl, s0, s1, s2, s3⟩ := hSr.cells hz.out
            clear hVr hSr
            cases b with
            | true =>
              go_wp2_with fail
              go_quiet (fail)
              go_wp2_with fail
              go_roundw
              case rel => exact ⟨j + 1, false, G', rfl, by go_num, by omega, hGl'.out, fun _ => ⟨rfl, fun j' x' h1 h2 h3 => by
                by_cases e : j' = j
                · subst e; rw [hb.out] at h3; cases h3
                · exact hF'.out j' x' (by omega) h2 h3⟩, fun h => (by cases h), hD.out, bel_drewN hDb.out _⟩
              case measure => simp [intOf]; omega
            | false =>
              cases he : eqR z y with
              | true =>
                have he' := he
                unfold eqR at he'
                have hzy := (eqR_iff z y).1 he
                subst hzy
                have hdr : l.drop i = z :: l.drop (i + 1) := by
                  have hil : i < l.length := by have := hn.out; omega
                  have h' := hy.out
                  rw [List.getElem?_eq_getElem hil] at h'
                  injection h' with h'
                  rw [List.drop_eq_getElem_cons hil, h']
                have hnew : (rem S (G'.set j true)).Perm (l.drop (i + 1)) := by
                  have h1 := rem_set hz.out hb.out
                  have h2 := h1.symm.trans hperm.out
                  rw [hdr] at h2
                  exact List.Perm.cons_inv h2
                have hDn := hD.out.set j (.bool true)
                rw [RwB.set] at hDn
                replace hnew := Lib.hid hnew
                replace hDn := Lib.hid hDn
                clear he hdr
                go_wp2_with fail
                go_quiet (fail)
                go_wp2_with fail
                go_roundw
                case rel => exact ⟨j + 1, true, _, rfl, by go_num, by omega, by rw [List.length_set]; exact hGl'.out, fun h => (by cases h), fun _ => hnew.out, hDn.out, bel_set (bel_drewN hDb.out _) (Nat.le_of_eq hDe.out) _⟩
                case measure => simp [intOf]; omega
              | false =>
                have he' := he
                unfold eqR at he'
                replace he := Lib.hid he
                go_wp2_with fail
                go_quiet (fail)
                clear he'
                go_wp2_with fail
                go_roundw
                case rel => exact ⟨j + 1, false, G', rfl, by go_num, by omega, hGl'.out, fun _ => ⟨rfl, fun j' x' h1 h2 h3 => by
                  by_cases e : j' = j
                  · subst e
                    rw [hz.out] at h2
                    injection h2 with h2
                    subst h2
                    intro hh
                    have := (eqR_iff z y).2 hh
                    rw [he.out] at this; cases this
                  · exact hF'.out j' x' (by omega) h2 h3⟩, fun h => (by cases h), hD.out, bel_drewN hDb.out _⟩
                case measure => simp [intOf]; omega
          · exfalso
            obtain rfl : j = n := by omega
            have hil : i < l.length := by have := hn.out; omega
            have h' := hy.out
            rw [List.getElem?_eq_getElem hil] at h'
            injection h' with h'
            have hmem : y ∈ rem S G' := hperm.out.mem_iff.2 (by rw [List.drop_eq_getElem_cons hil, h']; exact List.mem_cons_self ..)
            obtain ⟨q, hq1, hq2⟩ := rem_mem hmem
            have hql : q < S.length := by
              rcases Nat.lt_or_ge q S.length with h | h
              · exact h
              · rw [List.getElem?_eq_none h] at hq1; cases hq1
            exact hF'.out q y (by have := hSl.out; omega) hq1 hq2 rfl
    · have hd2 : decide ((i : Int) < (n : Int)) = false := decide_eq_false (by omega)
      have hbe := Lib.hid (bel_trans hB.out hDb.out)
      clear hD hDb
      go_wp2_with fail
      refine (works_any _).mono ?_
      rintro e w9 ⟨rfl, hb9⟩
      replace hb9 := Lib.hid (bel_trans hbe.out hb9)
      go_wp2_with fail
      go_ret
      exact ⟨rfl, hb9.out⟩
theorem msortkeeps_row (w : World) (a : Option Addr) (len cap : Nat) (G : Nat → Nat → Int) (hc : len ≤ cap) (_hm : cap ≤ maxLen) (h : RT w.heap.size w recK a len G) (x : Int) (hx : (Lit.int .u8 x).wf = true) :
    Calls Try.prog 9 #[.slice a len cap, .int .u8 x] w fun e w' => e = .returned (.bool true) ∧ Below w.heap.size w w' := by
  obtain ⟨l, hl, hv⟩ := open_recs hc h
  exact msortkeeps_walk w a len cap l x (u8_range hx) hl hv
end Go.Proofs.Ytcejgnnkjomjlaa
