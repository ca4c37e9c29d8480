/- Merging two lists of indexes. -/
import Derived.Test.YtcejgnnkjomjlaaA3

namespace Go.Proofs.Ytcejgnnkjomjlaa
open Go.RowKit

/-- a slice's value leads, below n₀ and outside block g, to these numbers -/
def RJ (n₀ g : Nat) (w : World) (a : Option Addr) (len : Nat) (l : List Int) : Prop :=
  l.length = len ∧ (0 < len → ∃ b off, a = some ⟨b, off, none⟩ ∧ b < n₀ ∧ b ≠ g ∧ ∀ i r, l[i]? = some r → w.cell? ⟨b, off + i, none⟩ = some (.int .i64 r))
theorem RJ.chg {n₀ g : Nat} {w w' : World} {a : Option Addr} {len : Nat} {l : List Int} (h : RJ n₀ g w a len l) (hc : Chg (· = g) w w') (hn : n₀ ≤ w.heap.size) : RJ n₀ g w' a len l := by
  refine ⟨h.1, fun hp => ?_⟩
  obtain ⟨b, off, ha, hlt, hne, hcell⟩ := h.2 hp
  refine ⟨b, off, ha, hlt, hne, fun i r hr => ?_⟩
  rw [chg_cell hc (by omega) hne, hcell i r hr]
theorem RJ.head {n₀ g : Nat} {w : World} {a : Option Addr} {len : Nat} {x : Int} {l : List Int} (h : RJ n₀ g w a len (x :: l)) :
    ∃ b off, a = some ⟨b, off, none⟩ ∧ b < n₀ ∧ b ≠ g ∧ w.cell? ⟨b, off, none⟩ = some (.int .i64 x) := by
  obtain ⟨b, off, ha, hlt, hne, hcell⟩ := h.2 (by have := h.1; simp at this; omega)
  exact ⟨b, off, ha, hlt, hne, hcell 0 x rfl⟩
theorem RJ.tail {n₀ g : Nat} {w : World} {b off : Nat} {len cap : Nat} {x : Int} {l : List Int} (h : RJ n₀ g w (some ⟨b, off, none⟩) len (x :: l)) (hcap : len ≤ cap) :
    RJ n₀ g w (if cap = 1 then some ⟨b, off, none⟩ else some ⟨b, off + 1, none⟩) (len - 1) l := by
  have hl := h.1
  simp only [List.length_cons] at hl
  refine ⟨by omega, fun hp => ?_⟩
  obtain ⟨b', off', ha, hlt, hne, hcell⟩ := h.2 (by omega)
  injection ha with ha
  injection ha with h1 h2
  subst h1; subst h2
  rw [if_neg (by omega)]
  refine ⟨b, off + 1, rfl, hlt, hne, fun i r hr => ?_⟩
  rw [show off + 1 + i = off + (i + 1) by omega]
  exact hcell (i + 1) r (by simpa using hr)
theorem slice_tailI {len cap : Nat} (h : 0 < len) (b off : Nat) (W : World) : (Instr.slice 35 (.slice (some ⟨b, off, none⟩) len cap) (some (.int .i64 1)) none none).run Try.prog W = .ok (.slice (if cap = 1 then some ⟨b, off, none⟩ else some ⟨b, off + 1, none⟩) (len - 1) (cap - 1)) W := by
  rw [run_slice_l (P := Try.prog) W 35 (some ⟨b, off, none⟩) len cap (by kernel_rfl) .i64 1 (by omega) (by omega), size_ofI]
  simp [Result.andThen, sliced, Addr.add]

/-- what is called tells which of two indexes is before the other one, as long as the world is W0 below its size -/
structure TellsI (W0 : World) (m : Nat) (fb lb : Nat) (lt : Int → Int → Bool) : Prop where
  tells : ∀ i j w, Below W0.heap.size W0 w → 0 ≤ i ∧ i < (m : Int) → 0 ≤ j ∧ j < (m : Int) →
    Calls Try.prog 34 #[.int .i64 i, .int .i64 j, .pointer (some ⟨fb, 0, none⟩), .pointer (some ⟨lb, 0, none⟩)] w fun e w' => e = .returned (.bool (lt i j)) ∧ Below w.heap.size w w'

theorem put1 {w W : World} {g : Nat} {l : List Int} {tl : Array Value} {i p : Nat} (r : Int) (h : Blk w g (RwI l tl) 3) (hi : i < l.length) (hp : p = i) (hW : W = (w.setCell ⟨g, p, none⟩ (.int .i64 r)).drew) :
    Blk W g (RwI (l.set i r) tl) 3 ∧ Chg (· = g) w W := by
  subst hp; subst hW
  have h1 := h.set p (.int .i64 r)
  rw [RwI.set tl r hi] at h1
  exact ⟨h1, Chg.drewN (Chg.set (S := (· = g)) (Chg.refl (· = g) w) (p := ⟨g, p, none⟩) rfl (.int .i64 r)) 1⟩

set_option maxHeartbeats 16000000 in
theorem merge_int {lt : Int → Int → Bool} {m fb lbx : Nat} {W0 : World} (hF : TellsI W0 m fb lbx lt) (w : World) (g o n c la ca lb cb : Nat) (T A B : List Int) (tl : Array Value) (ao bo : Option Addr)
    (hB : Blk w g (RwI T tl) 3) (hra : RJ w.heap.size g w ao la A) (hrb : RJ w.heap.size g w bo lb B) (hla : la ≤ ca) (hlb : lb ≤ cb) (hn : la + lb = n) (ho : o + n ≤ T.length) (hm : T.length ≤ 70000)
    (hW0 : Below W0.heap.size W0 w) (hg0 : W0.heap.size ≤ g) (hmA : ∀ x ∈ A, 0 ≤ x ∧ x < (m : Int)) (hmB : ∀ x ∈ B, 0 ≤ x ∧ x < (m : Int)) :
    Calls Try.prog 42 #[.slice (some ⟨g, o, none⟩) n c, .slice ao la ca, .slice bo lb cb, .func (.func 34) #[] #[.pointer (some ⟨fb, 0, none⟩), .pointer (some ⟨lbx, 0, none⟩)]] w fun e w' =>
      e = .returned (.int .i64 (mcn lt A B : Nat)) ∧ Blk w' g (RwI (over T o (mrg lt A B)) tl) 3 ∧ Chg (· = g) w w' := by
  have hlA := hra.1
  have hlB := hrb.1
  have hprod : A.length * B.length ≤ 70000 * 70000 := Nat.mul_le_mul (by omega) (by omega)
  replace hB := Lib.hid hB
  replace hra := Lib.hid hra
  replace hrb := Lib.hid hrb
  replace hF := Lib.hid hF.tells
  replace hlA := Lib.hid hlA
  replace hlB := Lib.hid hlB
  replace hprod := Lib.hid hprod
  replace hn := Lib.hid hn
  replace hmA := Lib.hid hmA
  replace hmB := Lib.hid hmB
  replace hW0 := Lib.hid hW0
  have hnm : n ≤ 70000 := by omega
  have hgl := Lib.hid hB.out.lt
  go_enter Try.func42, Try.ntmps42
  go_wp2_with fail
  go_loopw [1, 2, 8, 12] (fun v1 v2 v8 v12 wr => ∃ (k la' ca' lb' cb' cnt : Nat) (ao' bo' : Option Addr) (A' B' pre : List Int),
      v1 = .slice ao' la' ca' ∧ v2 = .slice bo' lb' cb' ∧ v8 = .int .i64 (cnt : Int) ∧ v12 = .int .i64 (k : Int) ∧ k ≤ n ∧ pre.length = k ∧ la' ≤ ca' ∧ lb' ≤ cb' ∧
      Mg lt A B A' B' pre cnt ∧ RJ w.heap.size g wr ao' la' A' ∧ RJ w.heap.size g wr bo' lb' B' ∧ Blk wr g (RwI (over T o pre) tl) 3 ∧ Chg (· = g) w wr ∧ (∀ x ∈ A', 0 ≤ x ∧ x < (m : Int)) ∧ (∀ x ∈ B', 0 ≤ x ∧ x < (m : Int)))
    (fun _ _ _ v12 _ => n - (intOf v12).toNat)
  case atStart => exact ⟨0, la, ca, lb, cb, 0, ao, bo, A, B, [], rfl, rfl, rfl, rfl, by omega, rfl, hla, hlb, Mg.zero A B, hra.out, hrb.out, by rw [over_nil]; exact hB.out, Chg.refl _ _, hmA.out, hmB.out⟩
  case round =>
    obtain ⟨k, la', ca', lb', cb', cnt, ao', bo', A', B', pre, rfl, rfl, rfl, rfl, hk, hpre, hla', hlb', hmg, hra', hrb', hB', hch, hmA', hmB'⟩ := hrel
    have hsz := Lib.hid hch.size
    by_cases hlt : k < n
    · have hk1 : decide ((k : Int) < (n : Int)) = true := decide_eq_true (by omega)
      have hml := hmg.len
      rw [hlA.out, hlB.out, hn.out, hpre] at hml
      have hWr := Lib.hid (hW0.out.trans (hch.below (n := W0.heap.size) hW0.out.size (fun _ _ e => by omega)))
      match A', B' with
      | [], [] => simp at hml; omega
      | [], y :: B' =>
        have hla0 := hra'.1
        have hlb0 := hrb'.1
        simp only [List.length_cons, List.length_nil] at hla0 hlb0 hml
        obtain ⟨bb, bx, rfl, hbb, hbg, b0⟩ := hrb'.head
        have p1 : decide ((0 : Int) < (lb' : Int)) = true := decide_eq_true (by omega)
        have p4 : 0 < lb' := by omega
        obtain rfl : la' = 0 := by omega
        have e0 : ∃ r0, (over T o pre)[o + k]? = some r0 := by
          rw [List.getElem?_eq_getElem (by rw [over_length (by omega)]; omega)]; exact ⟨_, rfl⟩
        obtain ⟨r0, e0⟩ := e0
        have hov : ((over T o pre).set (o + k) y) = over T o (pre ++ [y]) := by rw [← hpre]; exact over_snoc T o pre y (by omega)
        have hol : o + k < (over T o pre).length := by rw [over_length (by omega)]; omega
        have hmg1 := hmg.fromB (Or.inl rfl)
        have hle := hmg1.le
        rw [List.length_nil] at hle hmg1
        have hcb : (cnt : Int) ≤ 4900000000 := by have := hprod.out; omega
        replace hB' := Lib.hid hB'
        replace hch := Lib.hid hch
        replace hra' := Lib.hid hra'
        replace hrb' := Lib.hid hrb'
        replace hmg1 := Lib.hid hmg1
        replace hpre := Lib.hid hpre
        replace hml := Lib.hid hml
        replace hla0 := Lib.hid hla0
        replace hlb0 := Lib.hid hlb0
        replace e0 := Lib.hid e0
        replace hov := Lib.hid hov
        replace hol := Lib.hid hol
        replace hmA' := Lib.hid hmA'
        replace hmB' := Lib.hid hmB'
        replace hle := Lib.hid hle
        clear hmg
        go_wp2_with fail
        go_region
        obtain ⟨w1, hw1⟩ : ∃ w1, wr.drew = w1 := ⟨_, rfl⟩
        have hch1 : Chg (· = g) wr w1 := hw1 ▸ Chg.drewN (Chg.refl _ _) 1
        have hB1 := hB'.out.below (n := wr.heap.size) (hw1 ▸ bel_drew (Below.refl _ _)) hB'.out.lt
        rw [hw1]
        clear hw1
        have hra1 := hra'.out.chg hch1 hsz.out
        have hrb1 := hrb'.out.chg hch1 hsz.out
        obtain ⟨bb1, bx1, hbe, -, -, d0⟩ := hrb1.head
        injection hbe with hbe
        injection hbe with hbe1 hbe2
        subst hbe1; subst hbe2
        have g0 := hB1.cell _ (RwI.at tl e0.out)
        have f0 := hB1.frozen (o + k)
        have hsl := slice_tailI (cap := cb') p4 bb bx
        have htl := hrb1.tail hlb'
        obtain ⟨nb, hnb⟩ : ∃ nb, (if cb' = 1 then some (⟨bb, bx, none⟩ : Addr) else some ⟨bb, bx + 1, none⟩) = nb := ⟨_, rfl⟩
        rw [hnb] at hsl htl
        clear hnb
        replace htl := Lib.hid htl
        replace hch1 := Lib.hid hch1
        replace hB1 := Lib.hid hB1
        replace hrb1 := Lib.hid hrb1
        replace hra1 := Lib.hid hra1
        clear b0
        go_wp2_with fail
        go_region
        go_wp2_with fail
        go_roundw
        case rel =>
          obtain ⟨P1, P2⟩ := put1 y hB1.out hol.out rfl rfl
          rw [hov.out] at P1
          have hs1 : w.heap.size ≤ w1.heap.size := Nat.le_trans hsz.out hch1.out.size
          have hpl : (pre ++ [y]).length = k + 1 := by rw [List.length_append, hpre.out]; rfl
          exact ⟨k + 1, 0, ca', lb' - 1, cb' - 1, cnt + 0, ao', nb, [], B', pre ++ [y], by first | rfl | go_num, by first | rfl | go_num, by go_num, by go_num, by omega, hpl, by omega, by omega, hmg1.out, hra1.out.chg P2 hs1, htl.out.chg P2 hs1, P1, (hch.out.trans hch1.out).trans P2, hmA'.out, (fun z hz => hmB'.out z (List.mem_cons_of_mem _ hz))⟩
        case measure => simp [intOf]; omega
      | x :: A', [] =>
        have hla0 := hra'.1
        have hlb0 := hrb'.1
        simp only [List.length_cons, List.length_nil] at hla0 hlb0 hml
        obtain ⟨ab, ax, rfl, hab, hag, a0⟩ := hra'.head
        obtain rfl : lb' = 0 := by omega
        have p1 : decide ((0 : Int) < ((0 : Nat) : Int)) = false := by simp
        have p2 : ((la' : Int) == 0) = false := by simp; omega
        have p3 : 0 < la' := by omega
        have e0 : ∃ r0, (over T o pre)[o + k]? = some r0 := by
          rw [List.getElem?_eq_getElem (by rw [over_length (by omega)]; omega)]; exact ⟨_, rfl⟩
        obtain ⟨r0, e0⟩ := e0
        have hov : ((over T o pre).set (o + k) x) = over T o (pre ++ [x]) := by rw [← hpre]; exact over_snoc T o pre x (by omega)
        have hol : o + k < (over T o pre).length := by rw [over_length (by omega)]; omega
        have hmg1 := hmg.fromA (Or.inl rfl)
        replace hB' := Lib.hid hB'
        replace hch := Lib.hid hch
        replace hra' := Lib.hid hra'
        replace hrb' := Lib.hid hrb'
        replace hmg1 := Lib.hid hmg1
        replace hpre := Lib.hid hpre
        replace hml := Lib.hid hml
        replace hla0 := Lib.hid hla0
        replace hlb0 := Lib.hid hlb0
        replace e0 := Lib.hid e0
        replace hov := Lib.hid hov
        replace hol := Lib.hid hol
        replace hmA' := Lib.hid hmA'
        replace hmB' := Lib.hid hmB'
        clear hmg
        go_wp2_with fail
        go_region
        obtain ⟨w1, hw1⟩ : ∃ w1, wr.drew = w1 := ⟨_, rfl⟩
        have hch1 : Chg (· = g) wr w1 := hw1 ▸ Chg.drewN (Chg.refl _ _) 1
        have hB1 := hB'.out.below (n := wr.heap.size) (hw1 ▸ bel_drew (Below.refl _ _)) hB'.out.lt
        rw [hw1]
        clear hw1
        have hra1 := hra'.out.chg hch1 hsz.out
        have hrb1 := hrb'.out.chg hch1 hsz.out
        obtain ⟨bb1, bx1, hbe, -, -, d0⟩ := hra1.head
        injection hbe with hbe
        injection hbe with hbe1 hbe2
        subst hbe1; subst hbe2
        have g0 := hB1.cell _ (RwI.at tl e0.out)
        have f0 := hB1.frozen (o + k)
        have hsl := slice_tailI (cap := ca') p3 ab ax
        have htl := hra1.tail hla'
        obtain ⟨nb, hnb⟩ : ∃ nb, (if ca' = 1 then some (⟨ab, ax, none⟩ : Addr) else some ⟨ab, ax + 1, none⟩) = nb := ⟨_, rfl⟩
        rw [hnb] at hsl htl
        clear hnb
        replace htl := Lib.hid htl
        replace hch1 := Lib.hid hch1
        replace hB1 := Lib.hid hB1
        replace hrb1 := Lib.hid hrb1
        replace hra1 := Lib.hid hra1
        clear a0
        go_wp2_with fail
        go_region
        go_wp2_with fail
        go_roundw
        case rel =>
          obtain ⟨P1, P2⟩ := put1 x hB1.out hol.out rfl rfl
          rw [hov.out] at P1
          have hs1 : w.heap.size ≤ w1.heap.size := Nat.le_trans hsz.out hch1.out.size
          have hpl : (pre ++ [x]).length = k + 1 := by rw [List.length_append, hpre.out]; rfl
          exact ⟨k + 1, la' - 1, ca' - 1, 0, cb', cnt, nb, bo', A', [], pre ++ [x], by first | rfl | go_num, by first | rfl | go_num, by go_num, by go_num, by omega, hpl, by omega, by omega, hmg1.out, htl.out.chg P2 hs1, hrb1.out.chg P2 hs1, P1, (hch.out.trans hch1.out).trans P2, (fun z hz => hmA'.out z (List.mem_cons_of_mem _ hz)), hmB'.out⟩
        case measure => simp [intOf]; omega
      | x :: A', y :: B' =>
        cases hlt2 : lt y x with
        | true =>
          have hla0 := hra'.1
          have hlb0 := hrb'.1
          simp only [List.length_cons] at hla0 hlb0 hml
          obtain ⟨ab, ax, rfl, hab, hag, a0⟩ := hra'.head
          obtain ⟨bb, bx, rfl, hbb, hbg, b0⟩ := hrb'.head
          have p1 : decide ((0 : Int) < (lb' : Int)) = true := decide_eq_true (by omega)
          have p4 : 0 < lb' := by omega
          have p2 : ((la' : Int) == 0) = false := by simp; omega
          have p3 : 0 < la' := by omega
          have hx0 := hmA' x (List.mem_cons_self ..)
          have hy0 := hmB' y (List.mem_cons_self ..)
          replace hx0 := Lib.hid hx0
          replace hy0 := Lib.hid hy0
          have e0 : ∃ r0, (over T o pre)[o + k]? = some r0 := by
            rw [List.getElem?_eq_getElem (by rw [over_length (by omega)]; omega)]; exact ⟨_, rfl⟩
          obtain ⟨r0, e0⟩ := e0
          have hov : ((over T o pre).set (o + k) y) = over T o (pre ++ [y]) := by rw [← hpre]; exact over_snoc T o pre y (by omega)
          have hol : o + k < (over T o pre).length := by rw [over_length (by omega)]; omega
          have hmg1 := hmg.fromB (Or.inr ⟨x, A', rfl, hlt2⟩)
          have hle := hmg1.le
          rw [show (x :: A').length = la' by simp; omega] at hle hmg1
          have hcb : (cnt : Int) + (la' : Int) ≤ 4900000000 := by have := hprod.out; omega
          replace hB' := Lib.hid hB'
          replace hch := Lib.hid hch
          replace hra' := Lib.hid hra'
          replace hrb' := Lib.hid hrb'
          replace hmg1 := Lib.hid hmg1
          replace hpre := Lib.hid hpre
          replace hml := Lib.hid hml
          replace hla0 := Lib.hid hla0
          replace hlb0 := Lib.hid hlb0
          replace e0 := Lib.hid e0
          replace hov := Lib.hid hov
          replace hol := Lib.hid hol
          replace hmA' := Lib.hid hmA'
          replace hmB' := Lib.hid hmB'
          replace hle := Lib.hid hle
          clear hmg
          go_wp2_with fail
          refine wp_region_still_tail 15 (by kernel_rfl) (by kernel_rfl) ?_
          simp only [List.take_succ_cons, List.take_zero, List.drop_succ_cons, List.drop_zero]
          change wpStill _ _ wr.drew _ _ _
          repeat (first | still_step)
          refine wpStill_nil ?_
          change wpList _ _ _ _ _ wr.drew
          go_wp2_with fail
          refine (hF.out y x _ (hWr.out.trans (Below.mono (bel_drew (Below.refl _ _)) hWr.out.size)) hy0.out hx0.out).mono ?_
          rintro e w1 ⟨rfl, hb1⟩
          have hch1 : Chg (· = g) wr w1 := (Chg.drewN (Chg.refl _ _) 1).trans (Chg.of_below hb1 _)
          have hB1 := hB'.out.below (n := wr.heap.size) (bel_trans (bel_drew (Below.refl _ _)) hb1) hB'.out.lt
          clear hb1
          have hra1 := hra'.out.chg hch1 hsz.out
          have hrb1 := hrb'.out.chg hch1 hsz.out
          obtain ⟨bb1, bx1, hbe, -, -, d0⟩ := hrb1.head
          injection hbe with hbe
          injection hbe with hbe1 hbe2
          subst hbe1; subst hbe2
          have g0 := hB1.cell _ (RwI.at tl e0.out)
          have f0 := hB1.frozen (o + k)
          have hsl := slice_tailI (cap := cb') p4 bb bx
          have htl := hrb1.tail hlb'
          obtain ⟨nb, hnb⟩ : ∃ nb, (if cb' = 1 then some (⟨bb, bx, none⟩ : Addr) else some ⟨bb, bx + 1, none⟩) = nb := ⟨_, rfl⟩
          rw [hnb] at hsl htl
          clear hnb
          replace htl := Lib.hid htl
          replace hch1 := Lib.hid hch1
          replace hB1 := Lib.hid hB1
          replace hrb1 := Lib.hid hrb1
          replace hra1 := Lib.hid hra1
          clear a0 b0
          go_wp2_with fail
          go_region
          go_wp2_with fail
          go_roundw
          case rel =>
            obtain ⟨P1, P2⟩ := put1 y hB1.out hol.out rfl rfl
            rw [hov.out] at P1
            have hs1 : w.heap.size ≤ w1.heap.size := Nat.le_trans hsz.out hch1.out.size
            have hpl : (pre ++ [y]).length = k + 1 := by rw [List.length_append, hpre.out]; rfl
            exact ⟨k + 1, la', ca', lb' - 1, cb' - 1, cnt + la', some ⟨ab, ax, none⟩, nb, x :: A', B', pre ++ [y], by first | rfl | go_num, by first | rfl | go_num, by go_num, by go_num, by omega, hpl, by omega, by omega, hmg1.out, hra1.out.chg P2 hs1, htl.out.chg P2 hs1, P1, (hch.out.trans hch1.out).trans P2, hmA'.out, (fun z hz => hmB'.out z (List.mem_cons_of_mem _ hz))⟩
          case measure => simp [intOf]; omega
        | false =>
          have hla0 := hra'.1
          have hlb0 := hrb'.1
          simp only [List.length_cons] at hla0 hlb0 hml
          obtain ⟨ab, ax, rfl, hab, hag, a0⟩ := hra'.head
          obtain ⟨bb, bx, rfl, hbb, hbg, b0⟩ := hrb'.head
          have p1 : decide ((0 : Int) < (lb' : Int)) = true := decide_eq_true (by omega)
          have p4 : 0 < lb' := by omega
          have p2 : ((la' : Int) == 0) = false := by simp; omega
          have p3 : 0 < la' := by omega
          have hx0 := hmA' x (List.mem_cons_self ..)
          have hy0 := hmB' y (List.mem_cons_self ..)
          replace hx0 := Lib.hid hx0
          replace hy0 := Lib.hid hy0
          have e0 : ∃ r0, (over T o pre)[o + k]? = some r0 := by
            rw [List.getElem?_eq_getElem (by rw [over_length (by omega)]; omega)]; exact ⟨_, rfl⟩
          obtain ⟨r0, e0⟩ := e0
          have hov : ((over T o pre).set (o + k) x) = over T o (pre ++ [x]) := by rw [← hpre]; exact over_snoc T o pre x (by omega)
          have hol : o + k < (over T o pre).length := by rw [over_length (by omega)]; omega
          have hmg1 := hmg.fromA (Or.inr ⟨y, B', rfl, hlt2⟩)
          replace hB' := Lib.hid hB'
          replace hch := Lib.hid hch
          replace hra' := Lib.hid hra'
          replace hrb' := Lib.hid hrb'
          replace hmg1 := Lib.hid hmg1
          replace hpre := Lib.hid hpre
          replace hml := Lib.hid hml
          replace hla0 := Lib.hid hla0
          replace hlb0 := Lib.hid hlb0
          replace e0 := Lib.hid e0
          replace hov := Lib.hid hov
          replace hol := Lib.hid hol
          replace hmA' := Lib.hid hmA'
          replace hmB' := Lib.hid hmB'
          clear hmg
          go_wp2_with fail
          refine wp_region_still_tail 15 (by kernel_rfl) (by kernel_rfl) ?_
          simp only [List.take_succ_cons, List.take_zero, List.drop_succ_cons, List.drop_zero]
          change wpStill _ _ wr.drew _ _ _
          repeat (first | still_step)
          refine wpStill_nil ?_
          change wpList _ _ _ _ _ wr.drew
          go_wp2_with fail
          refine (hF.out y x _ (hWr.out.trans (Below.mono (bel_drew (Below.refl _ _)) hWr.out.size)) hy0.out hx0.out).mono ?_
          rintro e w1 ⟨rfl, hb1⟩
          have hch1 : Chg (· = g) wr w1 := (Chg.drewN (Chg.refl _ _) 1).trans (Chg.of_below hb1 _)
          have hB1 := hB'.out.below (n := wr.heap.size) (bel_trans (bel_drew (Below.refl _ _)) hb1) hB'.out.lt
          clear hb1
          have hra1 := hra'.out.chg hch1 hsz.out
          have hrb1 := hrb'.out.chg hch1 hsz.out
          obtain ⟨bb1, bx1, hbe, -, -, d0⟩ := hra1.head
          injection hbe with hbe
          injection hbe with hbe1 hbe2
          subst hbe1; subst hbe2
          have g0 := hB1.cell _ (RwI.at tl e0.out)
          have f0 := hB1.frozen (o + k)
          have hsl := slice_tailI (cap := ca') p3 ab ax
          have htl := hra1.tail hla'
          obtain ⟨nb, hnb⟩ : ∃ nb, (if ca' = 1 then some (⟨ab, ax, none⟩ : Addr) else some ⟨ab, ax + 1, none⟩) = nb := ⟨_, rfl⟩
          rw [hnb] at hsl htl
          clear hnb
          replace htl := Lib.hid htl
          replace hch1 := Lib.hid hch1
          replace hB1 := Lib.hid hB1
          replace hrb1 := Lib.hid hrb1
          replace hra1 := Lib.hid hra1
          clear a0 b0
          go_wp2_with fail
          go_region
          go_wp2_with fail
          go_roundw
          case rel =>
            obtain ⟨P1, P2⟩ := put1 x hB1.out hol.out rfl rfl
            rw [hov.out] at P1
            have hs1 : w.heap.size ≤ w1.heap.size := Nat.le_trans hsz.out hch1.out.size
            have hpl : (pre ++ [x]).length = k + 1 := by rw [List.length_append, hpre.out]; rfl
            exact ⟨k + 1, la' - 1, ca' - 1, lb', cb', cnt, nb, some ⟨bb, bx, none⟩, A', y :: B', pre ++ [x], by first | rfl | go_num, by first | rfl | go_num, by go_num, by go_num, by omega, hpl, by omega, by omega, hmg1.out, htl.out.chg P2 hs1, hrb1.out.chg P2 hs1, P1, (hch.out.trans hch1.out).trans P2, (fun z hz => hmA'.out z (List.mem_cons_of_mem _ hz)), hmB'.out⟩
          case measure => simp [intOf]; omega
    · obtain rfl : k = n := by omega
      obtain ⟨e1, e2⟩ := hmg.done (by rw [hlA.out, hlB.out, hpre, hn.out]; omega)
      subst e1; subst e2
      replace hB' := Lib.hid hB'
      replace hch := Lib.hid hch
      clear hmg hra' hrb' hpre hmA' hmB'
      have hk1 : decide ((k : Int) < (k : Int)) = false := by simp
      go_wp2_with fail
      go_ret
      exact ⟨rfl, hB'.out, hch.out⟩

end Go.Proofs.Ytcejgnnkjomjlaa

/- Rows of ints that are made. -/
namespace Go.Proofs.Ytcejgnnkjomjlaa
open Go.RowKit

theorem make_scalar (t e bytes : Nat) (z : Value) (hu : Try.prog.underlying t = some (.slice e)) (hz : (Try.prog.info? e).map (fun i => (i.zero, i.size, i.bytes)) = some (some z, 1, bytes)) (hb : bytes ≤ 8) (hzc : z.cells = #[z]) (m : Nat) (hm : m ≤ 70000) (W : World) :
    (Instr.makeSlice t (.int .i64 (m : Int)) (.int .i64 (m : Int))).run Try.prog W = .ok (.slice (some ⟨W.heap.size, 0, none⟩) m m) (W.alloc (.cells (List.replicate m z).toArray e)) := by
  cases hi : Try.prog.info? e with
  | none => rw [hi] at hz; cases hz
  | some i =>
    rw [hi] at hz
    simp only [Option.map_some, Option.some.injEq, Prod.mk.injEq] at hz
    obtain ⟨h1, h2, h3⟩ := hz
    have hbm : bytes * m ≤ 8 * 70000 := Nat.mul_le_mul hb hm
    have hbz : (bytes : Int) * (m : Int) ≤ 281474976710656 := by
      have e : ((bytes : Int) * (m : Int)) = ((bytes * m : Nat) : Int) := by simp
      rw [e]; omega
    rw [run_make W t e i z hu hi h1 .i64 .i64 m m (by omega) (by omega) (by rw [h3]; exact hbz) (by omega), h2]
    have hc : madeCells z.cells m = (List.replicate m z).toArray := by
      rw [hzc]
      apply Array.ext
      · simp [madeCells]
      · intro j h1 h2
        simp [madeCells, Nat.mod_one]
    simp [hc]
theorem make_int (m : Nat) (hm : m ≤ 70000) (W : World) : (Instr.makeSlice 35 (.int .i64 (m : Int)) (.int .i64 (m : Int))).run Try.prog W = .ok (.slice (some ⟨W.heap.size, 0, none⟩) m m) (W.alloc (.cells (RwI (List.replicate m 0) #[]) 3)) := by
  have := make_scalar 35 3 8 (.int .i64 0) (by kernel_rfl) (by kernel_rfl) (by omega) rfl m hm W
  rw [this]
  have e : RwI (List.replicate m 0) #[] = (List.replicate m (Value.int .i64 0)).toArray := by
    unfold RwI flatI
    rw [List.map_replicate, Array.append_empty]
  rw [e]
theorem RdI.below {n₀ : Nat} {w w' : World} {a : Option Addr} {len : Nat} {l : List Int} (h : RdI n₀ w a len l) (hb : Below n₀ w w') : RdI n₀ w' a len l := by
  refine ⟨h.1, fun hp => ?_⟩
  obtain ⟨b, off, ha, hlt, hc⟩ := h.2 hp
  exact ⟨b, off, ha, hlt, fun i r hr => (hb.cell (p := ⟨b, off + i, none⟩) hlt).trans (hc i r hr)⟩
theorem RdI.mono {n₀ n₁ : Nat} {w : World} {a : Option Addr} {len : Nat} {l : List Int} (h : RdI n₀ w a len l) (hn : n₀ ≤ n₁) : RdI n₁ w a len l := by
  refine ⟨h.1, fun hp => ?_⟩
  obtain ⟨b, off, ha, hlt, hc⟩ := h.2 hp
  exact ⟨b, off, ha, by omega, hc⟩
end Go.Proofs.Ytcejgnnkjomjlaa

/- Sorting rows of ints by merging. -/
namespace Go.Proofs.Ytcejgnnkjomjlaa
open Go.RowKit

theorem pieceI {w : World} {gf g n₀ n lo hi capf wd : Nat} {L : List Int} {tl : Array Value} (h : Blk w gf (RwI L tl) 3) (_hL : L.length = n) (hlo : lo ≤ hi) (hhi : hi ≤ n) (hcap : n ≤ capf) (hlt : gf < n₀) (hne : gf ≠ g) (hp : (pc L lo wd).length = hi - lo) :
    RJ n₀ g w (if capf = lo then some ⟨gf, 0, none⟩ else some ⟨gf, lo, none⟩) (hi - lo) (pc L lo wd) := by
  refine ⟨hp, fun hpos => ?_⟩
  rw [if_neg (by omega)]
  refine ⟨gf, lo, rfl, hlt, hne, fun i r hr => ?_⟩
  have hl : L[lo + i]? = some r := by
    unfold pc at hr
    rw [List.getElem?_take] at hr
    split at hr
    · rw [List.getElem?_drop] at hr; exact hr
    · cases hr
  exact h.cell _ (RwI.at tl hl)

theorem pc_midI {L : List Int} {i wd n mid : Nat} (hL : L.length = n) (_hi : i < n) (hm : mid = min (i + wd) n) : pc L mid wd = pc L (i + wd) wd := by
  rcases Nat.lt_or_ge n (i + wd) with h | h
  · rw [pc_out (by omega), pc_out (by omega)]
  · rw [show mid = i + wd by omega]
theorem cubeI {n : Nat} (h : n ≤ 65536) : n * (n * n) ≤ 281474976710656 :=
  Nat.le_trans (Nat.mul_le_mul h (Nat.mul_le_mul h h)) (by omega)
set_option maxHeartbeats 16000000 in
theorem sorted_posI {lt : Int → Int → Bool} {m fb lbx : Nat} {W0 : World} (hF : TellsI W0 m fb lbx lt) (hw : Weak lt) (w : World) (a : Option Addr) (n c : Nat) (l : List Int) (hr : RdI w.heap.size w a n l) (hm : n ≤ 65536) (hn : 0 < n) (hW0 : Below W0.heap.size W0 w) (hml : ∀ x ∈ l, 0 ≤ x ∧ x < (m : Int)) :
    Calls Try.prog 33 #[.slice a n c, .func (.func 34) #[] #[.pointer (some ⟨fb, 0, none⟩), .pointer (some ⟨lbx, 0, none⟩)]] w fun e w' => ∃ v, e = .returned (.tuple #[v, .int .i64 (inv lt l : Nat)]) ∧ MadeI w.heap.size w' v (isort lt l) ∧ Below w.heap.size w w' := by
  have hln := hr.1
  have hcl : ∀ W, Below w.heap.size w W → Calls Try.prog 41 #[.slice a n c] W fun e w' => (∃ v, e = .returned v ∧ MadeI W.heap.size w' v l) ∧ Below W.heap.size W w' :=
    fun W hb => clone_anyI a n c l W ((hr.below hb).mono hb.size) (by omega)
  have hmk := fun W => make_int n (by omega) W
  have hsl := fun lo hi cap h1 h2 b W => slice_lhI (lo := lo) (hi := hi) (n := n) (cap := cap) h1 h2 b W
  replace hcl := Lib.hid hcl
  replace hln := Lib.hid hln
  replace hsl := Lib.hid hsl
  replace hF := Lib.hid hF
  replace hW0 := Lib.hid hW0
  replace hml := Lib.hid hml
  clear hr
  go_enter Try.func33, Try.ntmps33
  go_wp2_with fail
  go_cut [6, 7] (fun v6 v7 wx => ∃ (gf capf gt : Nat) (tlf : Array Value), v6 = .slice (some ⟨gf, 0, none⟩) n capf ∧ v7 = .slice (some ⟨gt, 0, none⟩) n n ∧ n ≤ capf ∧ gf ≠ gt ∧ w.heap.size ≤ gf ∧ w.heap.size ≤ gt ∧ Blk wx gf (RwI l tlf) 3 ∧ Blk wx gt (RwI (List.replicate n (0 : Int)) #[]) 3 ∧ Below w.heap.size w wx)
  case first =>
    have hbl := Lib.hid (Below.refl w.heap.size w)
    go_region_with (go_at_call 41; refine (hcl.out _ ?_).mono ?_; (first | exact bel_drew (Below.refl _ _) | exact bel_drew (below1 _ _) | exact bel_alloc (bel_drew (Below.refl _ _)) _ | exact Below.refl _ _ | exact below1 _ _); rintro e w1 ⟨⟨v1, rfl, hv1⟩, hb1⟩; replace hv1 := Lib.hid hv1; replace hb1 := Lib.hid hb1)
    all_goals
      obtain ⟨a1, cap1, rfl, hcap1, hg1⟩ := hv1.out
      rw [hln.out] at hcap1 hg1
      obtain ⟨gf, tlf, rfl, hgf, hB1⟩ := hg1 hn
      replace hB1 := Lib.hid hB1
      replace hgf := Lib.hid hgf
      clear hg1 hv1
      go_wp2_with fail
      go_meet
      first
        | exact ⟨gf, cap1, w1.heap.size, tlf, by rw [hln.out], rfl, hcap1, by have := hB1.out.lt; omega, hgf.out, hb1.out.size, hB1.out.alloc _, Blk.new _ _ _, bel_alloc (bel_trans (bel_drew hbl.out) hb1.out) _⟩
        | (have h0 : w.heap.size + 1 ≤ gf := Nat.le_trans (Nat.le_of_eq (World.size_alloc w (.cells (RwI (List.replicate n (0 : Int)) #[]) 3)).symm) hgf.out
           have h2 : Blk (w.alloc (.cells (RwI (List.replicate n (0 : Int)) #[]) 3)).drew w.heap.size (RwI (List.replicate n (0 : Int)) #[]) 3 := Blk.new w (RwI (List.replicate n (0 : Int)) #[]) 3
           have h3 := h2.below hb1.out h2.lt
           exact ⟨gf, cap1, w.heap.size, tlf, by rw [hln.out], rfl, hcap1, by omega, by omega, Nat.le_refl _, hB1.out, h3, bel_trans (bel_drew (bel_alloc hbl.out _)) hb1.out⟩)
  case rest =>
    obtain ⟨gf0, capf0, gt0, tlf0, rfl, rfl, hcf0, hne0, hgf0, hgt0, hBf0, hBt0, hb0⟩ := hcut
    replace hBf0 := Lib.hid hBf0
    replace hBt0 := Lib.hid hBt0
    replace hb0 := Lib.hid hb0
    clear hcl hmk
    generalize wc = U at *
    go_wp2_with fail
    go_loopw [5, 6, 7, 8] (fun v5 v6 v7 v8 wr => ∃ (wd p gf gt capf capt : Nat) (L T : List Int) (tlf tlt : Array Value),
        v5 = .int .i64 (p : Int) ∧ v6 = .slice (some ⟨gf, 0, none⟩) n capf ∧ v7 = .slice (some ⟨gt, 0, none⟩) n capt ∧ v8 = .int .i64 (wd : Int) ∧ 0 < wd ∧ wd ≤ 131072 ∧ n ≤ capf ∧ n ≤ capt ∧ gf ≠ gt ∧ w.heap.size ≤ gf ∧ w.heap.size ≤ gt ∧
        Blk wr gf (RwI L tlf) 3 ∧ Blk wr gt (RwI T tlt) 3 ∧ T.length = l.length ∧ Bk lt wd L l ∧ p = isum lt l wd l.length ∧ Below w.heap.size w wr)
      (fun _ _ _ v8 _ => n - (intOf v8).toNat)
    case atStart => exact ⟨1, 0, gf0, gt0, capf0, n, l, _, tlf0, _, rfl, rfl, rfl, rfl, by omega, by omega, hcf0, Nat.le_refl _, hne0, hgf0, hgt0, hBf0.out, hBt0.out, by rw [List.length_replicate, hln.out], Bk.one l, (isum_one l _).symm, hb0.out⟩
    case round =>
      clear hcf0 hne0 hgf0 hgt0 hBf0 hBt0 hb0
      obtain ⟨wd, p, gf, gt, capf, capt, L, T, tlf, tlt, rfl, rfl, rfl, rfl, hw0, hw1, hcf, hct, hne, hgf, hgt, hBf, hBt, hTl, hBk, hp, hb⟩ := hrel
      replace hBf := Lib.hid hBf
      replace hBt := Lib.hid hBt
      replace hb := Lib.hid hb
      replace hTl := Lib.hid hTl
      replace hBk := Lib.hid hBk
      replace hp := Lib.hid hp
      by_cases hlt : wd < n
      · have hd : decide ((wd : Int) < (n : Int)) = true := decide_eq_true (by omega)
        obtain ⟨wo, rfl⟩ : ∃ wo : World, wo = wr := ⟨_, rfl⟩
        go_wp2_with fail
        go_loopw [5, 9] (fun v5 v9 wr => ∃ (t i q : Nat) (T' : List Int), v5 = .int .i64 (q : Int) ∧ v9 = .int .i64 (i : Int) ∧ i = t * (2 * wd) ∧ i < n + 2 * wd ∧ Pass lt wd t L T' l q ∧
            Blk wr gf (RwI L tlf) 3 ∧ Blk wr gt (RwI T' tlt) 3 ∧ Below w.heap.size w wr)
          (fun _ v9 _ => n - (intOf v9).toNat)
        case atStart => exact ⟨0, 0, p, T, rfl, rfl, by simp, by omega, Pass.zero hTl.out hp.out, hBf.out, hBt.out, hb.out⟩
        case round =>
          obtain ⟨t, i, q, T', rfl, rfl, hi, hin, hP, hBf, hBt, hb⟩ := hrel
          replace hBf := Lib.hid hBf
          replace hBt := Lib.hid hBt
          replace hb := Lib.hid hb
          by_cases hli : i < n
          · have hd2 : decide ((i : Int) < (n : Int)) = true := decide_eq_true (by omega)
            obtain ⟨mid, hmid⟩ : ∃ mid, mid = min (i + wd) n := ⟨_, rfl⟩
            obtain ⟨en, hen⟩ : ∃ en, en = min (i + 2 * wd) n := ⟨_, rfl⟩
            have htn : t ≤ n := chunk_count hw0 (by omega)
            have hLn : L.length = n := hBk.out.len.trans hln.out
            have hTn : T'.length = n := hP.mid.len.trans hln.out
            have hpa : (pc L i wd).length = mid - i := by rw [pc_lo hLn hli]; omega
            have hpb : (pc L (i + wd) wd).length = en - mid := by rw [pc_hi hLn hli]; omega
            have hbd := hP.bound (by rw [hln.out]; exact htn)
            have hst := hP.step hw hBk.out (by rw [hln.out, ← hi]; exact hli)
            have htn1 : t + 1 ≤ n := by have := Nat.le_mul_of_pos_right t (show 0 < 2 * wd by omega); omega
            have hbd2 := hst.bound (by rw [hln.out]; exact htn1)
            rw [← hi] at hst hbd2
            have hcube : n * (n * n) ≤ 281474976710656 := cubeI hm
            rw [hln.out] at hbd hbd2
            obtain ⟨M, hM⟩ : ∃ M, mcn lt (pc L i wd) (pc L (i + wd) wd) = M := ⟨_, rfl⟩
            rw [hM] at hst hbd2
            have hqb : (q : Int) + (M : Int) ≤ 562949953421312 := by omega
            have hinx : (t + 1) * (2 * wd) = i + 2 * wd := by rw [hi, Nat.add_mul, Nat.one_mul]
            replace hLn := Lib.hid hLn
            replace hTn := Lib.hid hTn
            replace hpa := Lib.hid hpa
            replace hpb := Lib.hid hpb
            replace hst := Lib.hid hst
            replace hM := Lib.hid hM
            replace hi := Lib.hid hi
            replace hinx := Lib.hid hinx
            have hr1 : ∀ (ts : Array TypeId) (t : TypeId) (W : World), (Builtin.min_ ts t #[.int .i64 ((i : Int) + (wd : Int)), .int .i64 (n : Int)]).run Try.prog W = .ok (.int .i64 (mid : Int)) W := by
              intro ts t W
              rw [run_min_int2]
              congr 2
              split <;> omega
            have hr2 : ∀ (ts : Array TypeId) (t : TypeId) (W : World), (Builtin.min_ ts t #[.int .i64 ((i : Int) + 2 * (wd : Int)), .int .i64 (n : Int)]).run Try.prog W = .ok (.int .i64 (en : Int)) W := by
              intro ts t W
              rw [run_min_int2]
              congr 2
              split <;> omega
            have m1 : i ≤ mid ∧ mid ≤ en ∧ en ≤ n ∧ i < en := by omega
            obtain ⟨m1, m2, m3, m4⟩ := m1
            replace hmid := Lib.hid hmid
            replace hen := Lib.hid hen
            have hs1 := fun W => hsl.out i en capt (by omega) (by omega) gt W
            have hs2 := fun W => hsl.out i mid capf (by omega) (by omega) gf W
            have hs3 := fun W => hsl.out mid en capf (by omega) (by omega) gf W
            have hx1 := fun W (h : Blk W gf (RwI L tlf) 3) (hl : gf < W.heap.size) => pieceI (g := gt) (n₀ := W.heap.size) (lo := i) (hi := mid) (wd := wd) h hLn.out m1 (by omega) hcf hl hne hpa.out
            have hx2 := fun W (h : Blk W gf (RwI L tlf) 3) (hl : gf < W.heap.size) => pieceI (g := gt) (n₀ := W.heap.size) (lo := mid) (hi := en) (wd := wd) h hLn.out m2 m3 hcf hl hne (by rw [pc_midI hLn.out hli hmid.out]; exact hpb.out)
            rw [if_neg (by omega)] at hs1
            obtain ⟨a2, ha2⟩ : ∃ x, (if capf = i then some (⟨gf, 0, none⟩ : Addr) else some ⟨gf, i, none⟩) = x := ⟨_, rfl⟩
            obtain ⟨a3, ha3⟩ : ∃ x, (if capf = mid then some (⟨gf, 0, none⟩ : Addr) else some ⟨gf, mid, none⟩) = x := ⟨_, rfl⟩
            rw [ha2] at hs2 hx1
            rw [ha3] at hs3 hx2
            have hpm := pc_midI hLn.out hli hmid.out (wd := wd)
            have hcall : ∀ W, Below wr.heap.size wr W → Calls Try.prog 42 #[.slice (some ⟨gt, i, none⟩) (en - i) (capt - i), .slice a2 (mid - i) (capf - i), .slice a3 (en - mid) (capf - mid), .func (.func 34) #[] #[.pointer (some ⟨fb, 0, none⟩), .pointer (some ⟨lbx, 0, none⟩)]] W fun e w' =>
                e = .returned (.int .i64 (M : Int)) ∧ Blk w' gt (RwI (over T' i (mrg lt (pc L i wd) (pc L (i + wd) wd))) tlt) 3 ∧ Chg (· = gt) W w' := by
              intro W hW
              have b1 := hBf.out.below hW hBf.out.lt
              have b2 := hBt.out.below hW hBt.out.lt
              refine (merge_int hF.out W gt i (en - i) (capt - i) (mid - i) (capf - i) (en - mid) (capf - mid) T' (pc L i wd) (pc L mid wd) tlt a2 a3 b2 (hx1 W b1 b1.lt) (hx2 W b1 b1.lt) (by omega) (by omega) (by omega) (by rw [hTn.out]; omega) (by rw [hTn.out]; omega) (hW0.out.trans ((hb.out.trans (hW.mono hb.out.size)).mono hW0.out.size)) (by have := hW0.out.size; omega) (fun x hx => hml.out x (hBk.out.mem hw0 x (pc_mem hx))) (fun x hx => hml.out x (hBk.out.mem hw0 x (pc_mem hx)))).mono ?_
              rintro e w' ⟨rfl, h1, h2⟩
              rw [hpm] at h1
              refine ⟨?_, h1, h2⟩
              rw [hpm, hM.out]
            replace hcall := Lib.hid hcall
            have hbw := Lib.hid (Below.refl wr.heap.size wr)
            clear hbd hbd2 hcube hP ha2 ha3 hx1 hx2 hpm
            go_wp2_with fail
            go_region_with (go_at_call 42; refine (hcall.out _ ?_).mono ?_; (first | exact bel_drew hbw.out | exact hbw.out); rintro e w1 ⟨rfl, hB1, hC1⟩; replace hB1 := Lib.hid hB1; replace hC1 := Lib.hid hC1)
            all_goals
              go_wp2_with fail
              go_roundw
              case rel =>
                have hC2 : Chg (· = gt) wr w1 := Chg.trans (Chg.drewN (Chg.refl _ wr) 1) hC1.out
                exact ⟨t + 1, i + 2 * wd, q + M, _, by go_num, by go_num, hinx.out.symm, by omega, hst.out, hBf.out.chg hC2 hne, hB1.out, hb.out.trans (hC2.below (by have := hb.out.size; omega) (fun k _ e => by omega))⟩
              case measure => simp [intOf]; omega
          · have hd2 : decide ((i : Int) < (n : Int)) = false := decide_eq_false (by omega)
            have htn : t ≤ n := chunk_count hw0 (by omega)
            have hPT := hP.mid.len
            obtain ⟨hBk', hq⟩ := hP.done hw0 (by rw [hln.out]; omega) (by rw [hln.out]; exact htn)
            replace hBk' := Lib.hid hBk'
            replace hq := Lib.hid hq
            replace hPT := Lib.hid hPT
            replace hi := Lib.hid hi
            clear hP
            go_wp2_with fail
            go_roundw
            case rel => exact ⟨2 * wd, q, gt, gf, capt, capf, T', L, tlt, tlf, rfl, rfl, rfl, by go_num, by omega, by omega, hct, hcf, fun e => hne e.symm, hgt, hgf, hBt.out, hBf.out, hBk.out.len, hBk'.out, hq.out, hb.out⟩
            case measure => simp [intOf]; omega
      · have hd : decide ((wd : Int) < (n : Int)) = false := decide_eq_false (by omega)
        obtain ⟨hL, hiv⟩ := hBk.out.last (by rw [hln.out]; omega) (by rw [hln.out]; exact hn)
        have hpe := hp.out
        rw [hiv] at hpe
        have hB := hBf.out
        rw [hL] at hB
        have hlen : (isort lt l).length = n := by rw [(isort_perm l).length_eq, hln.out]
        subst hpe
        replace hB := Lib.hid hB
        replace hlen := Lib.hid hlen
        clear hL hiv hp hBf hBk
        go_wp2_with fail
        go_ret2
        exact ⟨_, rfl, ⟨some ⟨gf, 0, none⟩, capf, by rw [hlen.out]; rfl, by rw [hlen.out]; exact hcf, fun _ => ⟨gf, tlf, rfl, hgf, hB.out⟩⟩, hb.out⟩

end Go.Proofs.Ytcejgnnkjomjlaa

/- Sorting any rows. -/
namespace Go.Proofs.Ytcejgnnkjomjlaa
open Go.RowKit

set_option maxHeartbeats 4000000 in
theorem sorted_zeroR (f : Value) (w : World) (a : Option Addr) (c : Nat) :
    Calls Try.prog 32 #[.slice a 0 c, f] w fun e w' => ∃ v, e = .returned (.tuple #[v, .int .i64 0]) ∧ MadeR w.heap.size w' v [] ∧ Below w.heap.size w w' := by
  have hcl : ∀ W, Below w.heap.size w W → Calls Try.prog 40 #[.slice a 0 c] W fun e w' => (∃ v, e = .returned v ∧ MadeR W.heap.size w' v []) ∧ Below W.heap.size W w' :=
    fun W hb => clone_anyR a 0 c [] W ⟨rfl, fun h => absurd h (by omega)⟩ (by omega)
  have hmk : ∀ W, (Instr.makeSlice 31 (.int .i64 0) (.int .i64 0)).run Try.prog W = .ok (.slice (some ⟨W.heap.size, 0, none⟩) 0 0) (W.alloc (.cells (RwR (List.replicate 0 R4.zero) #[]) 24)) := fun W => make_rec 0 (by omega) W
  replace hcl := Lib.hid hcl
  have hbl := Lib.hid (Below.refl w.heap.size w)
  go_enter Try.func32, Try.ntmps32
  go_wp2_with fail
  go_cut [6, 7] (fun v6 v7 wx => (∃ (a1 : Option Addr) (c1 : Nat), v6 = .slice a1 0 c1) ∧ Below w.heap.size w wx)
  case first =>
    go_region_with (go_at_call 40; refine (hcl.out _ ?_).mono ?_; (first | exact bel_drew (Below.refl _ _) | exact bel_drew (below1 _ _) | exact bel_alloc (bel_drew (Below.refl _ _)) _ | exact Below.refl _ _ | exact below1 _ _); rintro e w1 ⟨⟨v1, rfl, hv1⟩, hb1⟩; replace hv1 := Lib.hid hv1; replace hb1 := Lib.hid hb1)
    all_goals
      obtain ⟨a1, cap1, rfl, hcap1, hg1⟩ := hv1.out
      clear hg1 hv1
      go_wp2_with fail
      go_meet
      first
        | exact ⟨⟨a1, cap1, rfl⟩, bel_alloc (bel_trans (bel_drew hbl.out) hb1.out) _⟩
        | exact ⟨⟨a1, cap1, rfl⟩, bel_trans (bel_drew (bel_alloc hbl.out _)) hb1.out⟩
  case rest =>
    obtain ⟨⟨a1, c1, rfl⟩, hb0⟩ := hcut
    replace hb0 := Lib.hid hb0
    clear hcl hmk
    generalize wc = U at *
    go_wp2_with fail
    refine wp_loop_rounds 1 ?_
    rw [rounds_succ]
    go_wp2_with fail
    go_ret2
    exact ⟨_, rfl, ⟨a1, c1, rfl, Nat.zero_le _, fun h => absurd h (by simp)⟩, hb0.out⟩

/-- sorted: the elements in order, and the number of inversions -/
theorem sorted_anyR {F : Nat} {lt : R4 → R4 → Bool} (hF : Tells F lt) (hw : Weak lt) (w : World) (a : Option Addr) (n c : Nat) (l : List R4) (hr : RdR w.heap.size w a n l) (hm : n ≤ 65536) :
    Calls Try.prog 32 #[.slice a n c, .func (.func F) #[] #[]] w fun e w' => ∃ v, e = .returned (.tuple #[v, .int .i64 (inv lt l : Nat)]) ∧ MadeR w.heap.size w' v (isort lt l) ∧ Below w.heap.size w w' := by
  rcases Nat.eq_zero_or_pos n with h | h
  · subst h
    obtain rfl := List.eq_nil_of_length_eq_zero hr.1
    exact sorted_zeroR _ w a c
  · exact sorted_posR hF hw w a n c l hr hm h

set_option maxHeartbeats 4000000 in
theorem sorted_zeroI (f : Value) (w : World) (a : Option Addr) (c : Nat) :
    Calls Try.prog 33 #[.slice a 0 c, f] w fun e w' => ∃ v, e = .returned (.tuple #[v, .int .i64 0]) ∧ MadeI w.heap.size w' v [] ∧ Below w.heap.size w w' := by
  have hcl : ∀ W, Below w.heap.size w W → Calls Try.prog 41 #[.slice a 0 c] W fun e w' => (∃ v, e = .returned v ∧ MadeI W.heap.size w' v []) ∧ Below W.heap.size W w' :=
    fun W hb => clone_anyI a 0 c [] W ⟨rfl, fun h => absurd h (by omega)⟩ (by omega)
  have hmk : ∀ W, (Instr.makeSlice 35 (.int .i64 0) (.int .i64 0)).run Try.prog W = .ok (.slice (some ⟨W.heap.size, 0, none⟩) 0 0) (W.alloc (.cells (RwI (List.replicate 0 (0 : Int)) #[]) 3)) := fun W => make_int 0 (by omega) W
  replace hcl := Lib.hid hcl
  have hbl := Lib.hid (Below.refl w.heap.size w)
  go_enter Try.func33, Try.ntmps33
  go_wp2_with fail
  go_cut [6, 7] (fun v6 v7 wx => (∃ (a1 : Option Addr) (c1 : Nat), v6 = .slice a1 0 c1) ∧ Below w.heap.size w wx)
  case first =>
    go_region_with (go_at_call 41; refine (hcl.out _ ?_).mono ?_; (first | exact bel_drew (Below.refl _ _) | exact bel_drew (below1 _ _) | exact bel_alloc (bel_drew (Below.refl _ _)) _ | exact Below.refl _ _ | exact below1 _ _); rintro e w1 ⟨⟨v1, rfl, hv1⟩, hb1⟩; replace hv1 := Lib.hid hv1; replace hb1 := Lib.hid hb1)
    all_goals
      obtain ⟨a1, cap1, rfl, hcap1, hg1⟩ := hv1.out
      clear hg1 hv1
      go_wp2_with fail
      go_meet
      first
        | exact ⟨⟨a1, cap1, rfl⟩, bel_alloc (bel_trans (bel_drew hbl.out) hb1.out) _⟩
        | exact ⟨⟨a1, cap1, rfl⟩, bel_trans (bel_drew (bel_alloc hbl.out _)) hb1.out⟩
  case rest =>
    obtain ⟨⟨a1, c1, rfl⟩, hb0⟩ := hcut
    replace hb0 := Lib.hid hb0
    clear hcl hmk
    generalize wc = U at *
    go_wp2_with fail
    refine wp_loop_rounds 1 ?_
    rw [rounds_succ]
    go_wp2_with fail
    go_ret2
    exact ⟨_, rfl, ⟨a1, c1, rfl, Nat.zero_le _, fun h => absurd h (by simp)⟩, hb0.out⟩

/-- sorted: the elements in order, and the number of inversions -/
theorem sorted_anyI {lt : Int → Int → Bool} {m fb lbx : Nat} {W0 : World} (hF : TellsI W0 m fb lbx lt) (hw : Weak lt) (w : World) (a : Option Addr) (n c : Nat) (l : List Int) (hr : RdI w.heap.size w a n l) (hm : n ≤ 65536) (hW0 : Below W0.heap.size W0 w) (hml : ∀ x ∈ l, 0 ≤ x ∧ x < (m : Int)) :
    Calls Try.prog 33 #[.slice a n c, .func (.func 34) #[] #[.pointer (some ⟨fb, 0, none⟩), .pointer (some ⟨lbx, 0, none⟩)]] w fun e w' => ∃ v, e = .returned (.tuple #[v, .int .i64 (inv lt l : Nat)]) ∧ MadeI w.heap.size w' v (isort lt l) ∧ Below w.heap.size w w' := by
  rcases Nat.eq_zero_or_pos n with h | h
  · subst h
    obtain rfl := List.eq_nil_of_length_eq_zero hr.1
    exact sorted_zeroI _ w a c
  · exact sorted_posI hF hw w a n c l hr hm h hW0 hml

end Go.Proofs.Ytcejgnnkjomjlaa
