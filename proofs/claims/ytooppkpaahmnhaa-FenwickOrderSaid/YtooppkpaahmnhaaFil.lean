/- Counters with given values. -/
import Derived.Test.YtooppkpaahmnhaaOwn
namespace Go.Proofs.Ytooppkpaahmnhaa
open Go.RowKit Go.Shelf
attribute [local go_sem] Oper.semAt_some

theorem u16_range {x : Int} (h : (Lit.int .u16 x).wf = true) : 0 ≤ x ∧ x ≤ 65535 := by
  have := h
  simp [Lit.wf, IntKind.min, IntKind.max, IntKind.signed, IntKind.bits] at this
  omega

/-- the first counters are filled -/
def fill (us : List Int) (k : Nat) : List Int := us.take k ++ List.replicate (us.length - k) 0
theorem fill_zero (us : List Int) : fill us 0 = List.replicate us.length 0 := by simp [fill]
theorem fill_all (us : List Int) : fill us us.length = us := by simp [fill]
theorem fill_length (us : List Int) {k : Nat} (h : k ≤ us.length) : (fill us k).length = us.length := by simp [fill]; omega
theorem fill_at (us : List Int) {k : Nat} (h : k < us.length) : (fill us k)[k]?.getD 0 = 0 := by
  unfold fill
  rw [List.getElem?_append_right (by simp; omega)]
  rw [List.getElem?_replicate]
  split <;> rfl
theorem fill_set (us : List Int) {k : Nat} (h : k < us.length) : (fill us k).set k (us[k]?.getD 0) = fill us (k + 1) := by
  have e : us.length - k = (us.length - (k + 1)) + 1 := by omega
  unfold fill
  rw [e, List.replicate_succ, List.set_append_right _ _ (by simp; omega)]
  rw [show k - (us.take k).length = 0 by simp; omega, List.set_cons_zero, List.take_add_one, List.append_assoc, List.getElem?_eq_getElem h]
  rfl
theorem take_sum_le {us : List Int} (h : ∀ x ∈ us, 0 ≤ x ∧ x ≤ 65535) (k : Nat) : 0 ≤ (us.take k).sum ∧ (us.take k).sum ≤ 65535 * (k : Int) := by
  induction k with
  | zero => simp
  | succ k ih =>
    rw [List.take_add_one, List.sum_append]
    by_cases hk : k < us.length
    · have := h _ (List.getElem_mem hk)
      rw [List.getElem?_eq_getElem hk]; simp; omega
    · rw [List.getElem?_eq_none (by omega)]; simp; omega
theorem fill_sum (us : List Int) (k : Nat) : (fill us k).sum = (us.take k).sum := by
  unfold fill; rw [List.sum_append, sum_zeros]; omega
theorem fill_add {us : List Int} (h : ∀ x ∈ us, 0 ≤ x ∧ x ≤ 65535) {k : Nat} (hk : k < us.length) (hn : us.length ≤ 65536) :
    addE (fill us k) (k : Int) (us[k]?.getD 0) = 0 ∧ addX (fill us k) (k : Int) (us[k]?.getD 0) = fill us (k + 1) := by
  have hu := h _ (List.getElem_mem hk)
  have hs := take_sum_le h k
  have e : addE (fill us k) (k : Int) (us[k]?.getD 0) = 0 := by
    unfold addE
    rw [fill_length us (by omega), fill_sum, List.getElem?_eq_getElem hk]
    simp only [Option.getD_some]
    rw [if_neg (by omega), if_neg (by omega), if_neg (by omega)]
  refine ⟨e, ?_⟩
  unfold addX
  rw [if_pos e, Int.toNat_natCast, fill_at us hk, Int.zero_add, fill_set us hk]

/-- a pointer to such counters is handed back -/
def Gives (w : World) (us : List Int) (e : Ending) (w' : World) : Prop := ∃ c cb nb, e = .returned (.pointer (some ⟨c, 0, none⟩)) ∧ Own w w' c cb nb us

set_option maxRecDepth 100000 in
set_option maxHeartbeats 4000000 in
theorem filled_any (a : Option Addr) (len cap : Nat) (us : List Int) (w : World) (hr : RI w.heap.size w .u16 a len us) (hl : len ≤ 300) :
    Calls Try.prog 13 #[.slice a len cap] w (Gives w us) := by
  have hus : ∀ x ∈ us, 0 ≤ x ∧ x ≤ 65535 := fun x hx => u16_range (hr.2.1 x hx)
  have hlen : us.length = len := hr.1
  have HR := Lib.hid hr
  have Hlen := Lib.hid hlen
  have Hus := Lib.hid hus
  clear hr hlen hus
  go_enter Try.func13, Try.ntmps13
  go_wp2_with fail
  refine (new_own len w (by omega)).mono ?_
  rintro e w1 ⟨c, cb, nb, rfl, o1⟩
  rw [← Hlen.out, ← fill_zero] at o1
  have o1 := Lib.hid o1
  go_wp2_with fail
  go_loopw [5] (fun v5 wr => ∃ k : Nat, k ≤ len ∧ v5 = .int .i64 (k : Int) ∧ Own w wr c cb nb (fill us k)) (fun v5 _ => len - (intOf v5).toNat)
  case atStart => exact ⟨0, by omega, rfl, o1.out⟩
  case round =>
    obtain ⟨k, hk, rfl, ho⟩ := hrel
    have HO := Lib.hid ho
    clear ho
    by_cases hlt : k < len
    · have hk0 : (0 : Int) ≤ (k : Int) := by omega
      have hk1 : (k : Int) < (len : Int) := by omega
      have hx := fill_add Hus.out (k := k) (by rw [Hlen.out]; exact hlt) (by rw [Hlen.out]; omega)
      have hu := Hus.out _ (List.getElem_mem (show k < us.length by rw [Hlen.out]; exact hlt))
      obtain ⟨b, off, rfl, hbl, hc⟩ := HR.out.2.2 (by omega)
      have c1 := (HO.out.bel.cell (p := ⟨b, off + k, none⟩) hbl).trans (hc k hlt)
      obtain ⟨u, hu'⟩ : ∃ u, us[k]?.getD 0 = u := ⟨_, rfl⟩
      rw [show us[k]'(by rw [Hlen.out]; exact hlt) = u by rw [← hu', List.getElem?_eq_getElem]; rfl] at hu
      rw [hu'] at c1 hx
      have hx := Lib.hid hx
      clear hu' hc
      go_wp2_with fail
      refine (add_own HO.out _ _ ⟨by omega, by omega⟩).mono ?_
      rintro e w2 ⟨rfl, o2⟩
      rw [hx.out.1]
      rw [hx.out.2] at o2
      have o2 := Lib.hid o2
      go_wp2_with fail
      go_roundw
      case rel => exact ⟨k + 1, by omega, by go_num, o2.out⟩
      case measure => simp [intOf]; omega
    · have hk1 : ¬ (k : Int) < (len : Int) := by omega
      go_wp2_with fail
      go_ret
      have := HO.out
      rw [show k = us.length by have := Hlen.out; omega, fill_all] at this
      exact ⟨c, cb, nb, rfl, this⟩

end Go.Proofs.Ytooppkpaahmnhaa
