/- MsortJoins: the walk. -/
import Derived.Test.YtcejgnnkjomjlaaLme
namespace Go.Proofs.Ytcejgnnkjomjlaa
open Go.RowKit

theorem three_any (x : Int) (w : World) (_hx : 0 ≤ x ∧ x ≤ 255) : Calls Try.prog 25 #[.int .u8 x] w fun e w' => e = .returned (.int .i64 (x % 3 + 1)) ∧ w = w' := by
  obtain ⟨h0, h1⟩ := _hx
  go_enter Try.func25, Try.ntmps25
  go_wp2_with fail
  go_ret
  exact ⟨rfl, rfl⟩
theorem key3 {x : Int} (_hx : 0 ≤ x ∧ x ≤ 255) {n : Nat} (hn : n ≤ 65536) : errK n (x % 3 + 1) = 0 := by
  unfold errK
  rw [if_pos (by omega), if_neg (by omega)]

/-- the two pieces of a list -/
theorem VR.take {w : World} {a : Option Addr} {n cap i : Nat} {l : List R4} (h : VR w (.slice a n cap) l) (hn : l.length = n) (hi : i ≤ n) : VR w (.slice a i cap) (l.take i) := by
  obtain ⟨a', c', hv, hc, hr⟩ := h
  injection hv with h1 h2 h3
  subst h1; subst h3
  have hl : (l.take i).length = i := by rw [List.length_take]; omega
  refine ⟨a, cap, by rw [hl], by omega, ?_⟩
  rw [hl]
  refine ⟨hl, fun hp => ?_⟩
  obtain ⟨b, off, ha, hlt, hcell⟩ := hr.2 (by omega)
  exact ⟨b, off, ha, hlt, fun j r hj => hcell j r (by
    rw [List.getElem?_take] at hj
    split at hj
    · exact hj
    · cases hj)⟩
theorem VR.drop {w : World} {a : Option Addr} {n cap i : Nat} {l : List R4} (h : VR w (.slice a n cap) l) (hn : l.length = n) (hi : i ≤ n) : VR w (.slice (if cap = i then a else a.map (·.add (i * 4))) (n - i) (cap - i)) (l.drop i) := by
  obtain ⟨a', c', hv, hc, hr⟩ := h
  injection hv with h1 h2 h3
  subst h1; subst h3
  have hl : (l.drop i).length = n - i := by rw [List.length_drop]; omega
  refine ⟨_, cap - i, by rw [hl], by omega, ?_⟩
  rw [hl]
  refine ⟨hl, fun hp => ?_⟩
  obtain ⟨b, off, ha, hlt, hcell⟩ := hr.2 (by omega)
  subst ha
  rw [if_neg (by omega)]
  refine ⟨b, off + i * 4, by rw [Option.map_some, add_none], hlt, fun j r hj q hq => ?_⟩
  rw [List.getElem?_drop] at hj
  rw [show off + i * 4 + (j * 4 + q) = off + ((i + j) * 4 + q) by omega]
  exact hcell (i + j) r hj q hq
theorem slice_to (a : Option Addr) (n cap i : Nat) (h : i ≤ cap) (W : World) : (Instr.slice 31 (.slice a n cap) none (some (.int .i64 (i : Int))) none).run Try.prog W = .ok (.slice a i cap) W := by
  rw [run_slice_h (P := Try.prog) W 31 a n cap (by kernel_rfl) .i64 i (by omega) (by omega), size_ofR]
  simp [Result.andThen, sliced]
  intro _
  cases a <;> simp [Addr.add]
theorem slice_from (a : Option Addr) (n cap i : Nat) (h : i ≤ n) (W : World) : (Instr.slice 31 (.slice a n cap) (some (.int .i64 (i : Int))) none none).run Try.prog W = .ok (.slice (if cap = i then a else a.map (·.add (i * 4))) (n - i) (cap - i)) W := by
  rw [run_slice_l (P := Try.prog) W 31 a n cap (by kernel_rfl) .i64 i (by omega) (by omega), size_ofR]
  simp [Result.andThen, sliced]

theorem sorted_nbr (k : Int) (l : List R4) : nbr (keyLt k) (isort (keyLt k) l) = true := (nbr_iff (weak_key k) _).2 (isort_srt (weak_key k) l)
theorem joins_plain (k : Int) (A B : List R4) (h : ∀ m, m ≤ 65536 → errK m k = 0) (hl : A.length + B.length ≤ 65536) : errM k (sortK k A) (sortK k B) = 0 ∧ mrgK k (sortK k A) (sortK k B) = sortK k (A ++ B) := by
  have h1 : sortK k A = isort (keyLt k) A := by unfold sortK; rw [if_pos (h _ (by omega))]
  have h2 : sortK k B = isort (keyLt k) B := by unfold sortK; rw [if_pos (h _ (by omega))]
  have h3 : sortK k (A ++ B) = isort (keyLt k) (A ++ B) := by unfold sortK; rw [if_pos (h _ (by rw [List.length_append]; exact hl))]
  have hE : errM k (sortK k A) (sortK k B) = 0 := by
    unfold errM
    rw [h1, h2, if_pos (h _ (by rw [(isort_perm _).length_eq, (isort_perm _).length_eq]; exact hl)), sorted_nbr, sorted_nbr]
    rfl
  refine ⟨hE, ?_⟩
  unfold mrgK
  rw [hE, if_pos rfl, h1, h2, h3, mrg_isort (weak_key k)]

set_option maxHeartbeats 8000000 in
theorem msortjoins_walk (w : World) (a : Option Addr) (n cap : Nat) (l : List R4) (at_ x : Int) (hat : 0 ≤ at_ ∧ at_ ≤ 255) (hx : 0 ≤ x ∧ x ≤ 255) (hn : l.length = n) (hncap : n ≤ cap) (hV : VR w (.slice a n cap) l) :
    Calls Try.prog 10 #[.slice a n cap, .int .u8 at_, .int .u8 x] w fun e w' => e = .returned (.bool true) ∧ Below w.heap.size w w' := by
  have hB := Lib.hid (Below.refl w.heap.size w)
  by_cases h200 : 200 < n
  · have hd : decide ((200 : Int) < (n : Int)) = true := decide_eq_true (by omega)
    clear hn hV
    go_enter Try.func10, Try.ntmps10
    go_wp2_with fail
    go_ret
    exact ⟨rfl, hB.out⟩
  have hd : decide ((200 : Int) < (n : Int)) = false := decide_eq_false (by omega)
  have hm : l.length ≤ 70000 := by omega
  have hk0 := fun m (hm : m ≤ 65536) => key3 hx hm
  obtain ⟨k, hk⟩ : ∃ k, x % 3 + 1 = k := ⟨_, rfl⟩
  rw [hk] at hk0
  have h3 := three_any x
  rw [hk] at h3
  obtain ⟨i, hi, hin⟩ : ∃ i : Nat, at_ % ((n : Int) + 1) = (i : Int) ∧ i ≤ n := ⟨(at_ % ((n : Int) + 1)).toNat, by
    have := Int.emod_nonneg at_ (show (n : Int) + 1 ≠ 0 by omega)
    have := Int.emod_lt_of_pos at_ (show (0 : Int) < (n : Int) + 1 by omega)
    omega, by
    have := Int.emod_nonneg at_ (show (n : Int) + 1 ≠ 0 by omega)
    have := Int.emod_lt_of_pos at_ (show (0 : Int) < (n : Int) + 1 by omega)
    omega⟩
  have hJ := joins_plain k (l.take i) (l.drop i) hk0 (by rw [List.length_take, List.length_drop]; omega)
  rw [List.take_append_drop] at hJ
  have hV1 := hV.take hn hin
  have hV2 := hV.drop hn hin
  have hsl1 := slice_to a n cap i (by omega)
  have hsl2 := slice_from a n cap i hin
  obtain ⟨a2, ha2⟩ : ∃ a2, (if cap = i then a else a.map (·.add (i * 4))) = a2 := ⟨_, rfl⟩
  rw [ha2] at hV2 hsl2
  clear ha2
  replace hV := Lib.hid hV
  replace hJ := Lib.hid hJ
  replace hV1 := Lib.hid hV1
  replace hV2 := Lib.hid hV2
  replace hn := Lib.hid hn
  replace hk0 := Lib.hid hk0
  replace h3 := Lib.hid h3
  clear hk
  go_enter Try.func10, Try.ntmps10
  go_wp2_with fail
  refine (h3.out _ hx).mono ?_
  rintro e w0 ⟨rfl, rfl⟩
  go_wp2_with fail
  refine (sort_uni _ _ (l.take i) k hV1.out).mono ?_
  rintro e w1 ⟨⟨vc, rfl, hC⟩, hb1⟩
  replace hV := Lib.hid (hV.out.below hb1)
  replace hV1 := Lib.hid (hV1.out.below hb1)
  replace hV2 := Lib.hid (hV2.out.below hb1)
  replace hC := Lib.hid hC
  replace hB := Lib.hid (bel_trans hB.out hb1)
  clear hb1
  rw [hk0.out _ (by have := List.length_take_le i l; have := hn.out; omega)]
  go_wp2_with fail
  refine (sort_uni _ _ (l.drop i) k hV2.out).mono ?_
  rintro e w2 ⟨⟨vd, rfl, hD⟩, hb2⟩
  replace hV := Lib.hid (hV.out.below hb2)
  replace hV1 := Lib.hid (hV1.out.below hb2)
  replace hV2 := Lib.hid (hV2.out.below hb2)
  replace hC := Lib.hid (hC.out.below hb2)
  replace hD := Lib.hid hD
  replace hB := Lib.hid (bel_trans hB.out hb2)
  clear hb2
  rw [hk0.out _ (by have := List.length_drop (i := i) (l := l); have := hn.out; omega)]
  go_wp2_with fail
  refine (merge_uni _ _ _ (sortK k (l.take i)) (sortK k (l.drop i)) k ⟨sortK_length k _ (by have := List.length_take_le i l; omega), sortK_length k _ (by have := List.length_drop (i := i) (l := l); omega)⟩ hC.out hD.out).mono ?_
  rintro e w3 ⟨⟨vm, rfl, hM⟩, hb3⟩
  replace hV := Lib.hid (hV.out.below hb3)
  replace hV1 := Lib.hid (hV1.out.below hb3)
  replace hV2 := Lib.hid (hV2.out.below hb3)
  replace hC := Lib.hid (hC.out.below hb3)
  replace hD := Lib.hid (hD.out.below hb3)
  replace hM := Lib.hid hM
  replace hB := Lib.hid (bel_trans hB.out hb3)
  clear hb3
  rw [hJ.out.1]; have hM1 := hM.out; rw [hJ.out.2] at hM1; replace hM1 := Lib.hid hM1; clear hM
  go_wp2_with fail
  refine (sort_uni _ _ l k hV.out).mono ?_
  rintro e w4 ⟨⟨vs, rfl, hS⟩, hb4⟩
  replace hV := Lib.hid (hV.out.below hb4)
  replace hV1 := Lib.hid (hV1.out.below hb4)
  replace hV2 := Lib.hid (hV2.out.below hb4)
  replace hC := Lib.hid (hC.out.below hb4)
  replace hD := Lib.hid (hD.out.below hb4)
  replace hM1 := Lib.hid (hM1.out.below hb4)
  replace hS := Lib.hid hS
  replace hB := Lib.hid (bel_trans hB.out hb4)
  clear hb4
  rw [hk0.out _ (by have := hn.out; omega)]
  go_wp2_with fail
  refine (same_uni _ _ _ (sortK k l) (sortK_length k l hm) hM1.out hS.out).mono ?_
  rintro e w5 ⟨rfl, hb5⟩
  replace hV := Lib.hid (hV.out.below hb5)
  replace hV1 := Lib.hid (hV1.out.below hb5)
  replace hV2 := Lib.hid (hV2.out.below hb5)
  replace hC := Lib.hid (hC.out.below hb5)
  replace hD := Lib.hid (hD.out.below hb5)
  replace hM1 := Lib.hid (hM1.out.below hb5)
  replace hS := Lib.hid (hS.out.below hb5)
  replace hB := Lib.hid (bel_trans hB.out hb5)
  clear hb5
  go_wp2_with fail
  refine (works_any _).mono ?_
  rintro e w6 ⟨rfl, hb6⟩
  replace hV := Lib.hid (hV.out.below hb6)
  replace hV1 := Lib.hid (hV1.out.below hb6)
  replace hV2 := Lib.hid (hV2.out.below hb6)
  replace hC := Lib.hid (hC.out.below hb6)
  replace hD := Lib.hid (hD.out.below hb6)
  replace hM1 := Lib.hid (hM1.out.below hb6)
  replace hS := Lib.hid (hS.out.below hb6)
  replace hB := Lib.hid (bel_trans hB.out hb6)
  clear hb6
  go_wp2_with fail
  go_ret
  exact ⟨rfl, hB.out⟩
theorem u8_range {x : Int} (h : (Lit.int .u8 x).wf = true) : 0 ≤ x ∧ x ≤ 255 := by
  simp [Lit.wf, IntKind.min, IntKind.max, IntKind.signed, IntKind.bits] at h
  omega
theorem msortjoins_row (w : World) (a : Option Addr) (len cap : Nat) (G : Nat → Nat → Int) (hc : len ≤ cap) (_hm : cap ≤ maxLen) (h : RT w.heap.size w recK a len G) (at_ : Int) (hat : (Lit.int .u8 at_).wf = true) (x : Int) (hx : (Lit.int .u8 x).wf = true) :
    Calls Try.prog 10 #[.slice a len cap, .int .u8 at_, .int .u8 x] w fun e w' => e = .returned (.bool true) ∧ Below w.heap.size w w' := by
  obtain ⟨l, hl, hv⟩ := open_recs hc h
  exact msortjoins_walk w a len cap l at_ x (u8_range hat) (u8_range hx) hl hc hv
end Go.Proofs.Ytcejgnnkjomjlaa
