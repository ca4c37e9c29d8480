/- The reference's counters: what each question answers. -/
import Derived.Test.YtooppkpaahmnhaaTwo
namespace Go.Proofs.Ytooppkpaahmnhaa
open Go.RowKit Go.Shelf
attribute [local go_sem] Oper.semAt_some

def TabR (w : World) (d db : Nat) (xs : List Int) : Prop := ∃ dc tb, Blk w d #[.bool true, .slice (some ⟨db, 0, none⟩) xs.length dc] 70 ∧ Blk w db (Rw xs tb) 2 ∧ Sound xs
theorem TabR.keep {w w' : World} {d db : Nat} {xs : List Int} (h : TabR w d db xs) (h1 : w'.heap[d]? = w.heap[d]?) (h2 : w'.heap[db]? = w.heap[db]?) : TabR w' d db xs := by
  obtain ⟨dc, tb, a, b, c⟩ := h
  exact ⟨dc, tb, h1.trans a, h2.trans b, c⟩
theorem TabR.lt {w : World} {d db : Nat} {xs : List Int} (h : TabR w d db xs) : d < w.heap.size ∧ db < w.heap.size := by
  obtain ⟨dc, tb, a, b, c⟩ := h
  exact ⟨a.lt, b.lt⟩
theorem TabR.bel {w w' : World} {d db : Nat} {xs : List Int} (h : TabR w d db xs) (hb : Below w.heap.size w w') : TabR w' d db xs := h.keep (hb.block _ h.lt.1) (hb.block _ h.lt.2)
theorem TabR.ok {w : World} {d db : Nat} {xs : List Int} (h : TabR w d db xs) : Sound xs := by
  obtain ⟨dc, tb, a, b, c⟩ := h; exact c
/-- the counters that a pointer of the reference's shows -/
def HasR (w : World) (p : Option Addr) (xs : List Int) : Prop := (p = none ∧ xs = []) ∨ ∃ d db, p = some ⟨d, 0, none⟩ ∧ TabR w d db xs
theorem HasR.bel {w w' : World} {p : Option Addr} {xs : List Int} (h : HasR w p xs) (hb : Below w.heap.size w w') : HasR w' p xs := by
  rcases h with h | ⟨d, db, h1, h2⟩
  · exact .inl h
  · exact .inr ⟨d, db, h1, h2.bel hb⟩

theorem valid_nil (w : World) : Calls Try.prog 37 #[.pointer none] w fun e w' => e = .returned (.bool false) ∧ w = w' := by
  go_enter Try.func37, Try.ntmps37
  go_wp2
  go_ret
  exact ⟨rfl, rfl⟩
theorem valid_yes {w : World} {d db : Nat} {xs : List Int} (h : TabR w d db xs) : Calls Try.prog 37 #[.pointer (some ⟨d, 0, none⟩)] w fun e w' => e = .returned (.bool true) ∧ w = w' := by
  obtain ⟨dc, tb, a, b, c⟩ := h
  have c0 := a.cell 0 (v := .bool true) rfl
  clear a b
  go_enter Try.func37, Try.ntmps37
  go_wp2
  go_ret
  exact ⟨rfl, rfl⟩

theorem rlen_has {w : World} {p : Option Addr} {xs : List Int} (h : HasR w p xs) : Calls Try.prog 34 #[.pointer p] w fun e w' => e = .returned (.int .i64 (xs.length : Int)) ∧ w = w' := by
  rcases h with ⟨rfl, rfl⟩ | ⟨d, db, rfl, h⟩
  · go_enter Try.func34, Try.ntmps34
    go_wp2_with fail
    refine (valid_nil _).mono ?_
    rintro e w' ⟨rfl, rfl⟩
    go_wp2_with fail
    go_ret
    exact ⟨rfl, rfl⟩
  · have hv := Lib.hid (valid_yes h)
    obtain ⟨dc, tb, a, b, c⟩ := h
    have c1 := a.cell 1 (v := .slice (some ⟨db, 0, none⟩) xs.length dc) rfl
    clear a b
    go_enter Try.func34, Try.ntmps34
    go_wp2_with fail
    refine hv.out.mono ?_
    rintro e w' ⟨rfl, rfl⟩
    go_wp2_with fail
    go_ret
    exact ⟨rfl, rfl⟩

theorem rget_has {w : World} {p : Option Addr} {xs : List Int} (h : HasR w p xs) (i : Int) : Calls Try.prog 30 #[.pointer p, .int .i64 i] w fun e w' => e = .returned (.int .i64 (getZ xs i)) ∧ w = w' := by
  rcases h with ⟨rfl, rfl⟩ | ⟨d, db, rfl, h⟩
  · rw [show getZ [] i = 0 by unfold getZ; simp]
    go_enter Try.func30, Try.ntmps30
    go_wp2_with fail
    refine (valid_nil _).mono ?_
    rintro e w' ⟨rfl, rfl⟩
    go_wp2_with fail
    go_ret
    exact ⟨rfl, rfl⟩
  · have hv := Lib.hid (valid_yes h)
    obtain ⟨dc, tb, a, b, c⟩ := h
    have c1 := a.cell 1 (v := .slice (some ⟨db, 0, none⟩) xs.length dc) rfl
    by_cases h1 : i < 0
    · have hd : decide (i < 0) = true := decide_eq_true h1
      rw [show getZ xs i = 0 from if_pos h1]
      clear a b
      go_enter Try.func30, Try.ntmps30
      go_wp2_with fail
      refine hv.out.mono ?_
      rintro e w' ⟨rfl, rfl⟩
      go_wp2_with fail
      go_ret
      exact ⟨rfl, rfl⟩
    · have hd : decide (i < 0) = false := decide_eq_false h1
      by_cases h2 : (xs.length : Int) ≤ i
      · have hd2 : decide ((xs.length : Int) ≤ i) = true := decide_eq_true h2
        rw [show getZ xs i = 0 by unfold getZ; rw [if_neg h1, List.getElem?_eq_none (by omega)]; rfl]
        clear a b
        go_enter Try.func30, Try.ntmps30
        go_wp2_with fail
        refine hv.out.mono ?_
        rintro e w' ⟨rfl, rfl⟩
        go_wp2_with fail
        go_ret
        exact ⟨rfl, rfl⟩
      · obtain ⟨k, rfl⟩ := Int.eq_ofNat_of_zero_le (show 0 ≤ i by omega)
        have hd2 : decide ((xs.length : Int) ≤ (k : Int)) = false := decide_eq_false h2
        have k0 : (0 : Int) ≤ (k : Int) := by omega
        have k1 : (k : Int) < (xs.length : Int) := by omega
        have c2 := b.cell k (Rw.at tb (by omega))
        obtain ⟨v, hv'⟩ : ∃ v, xs[k]?.getD 0 = v := ⟨_, rfl⟩
        rw [show getZ xs (k : Int) = v by unfold getZ; rw [if_neg h1, Int.toNat_natCast, hv']]
        rw [hv'] at c2
        replace hv' := Lib.hid hv'
        clear a b
        go_enter Try.func30, Try.ntmps30
        go_wp2_with fail
        refine hv.out.mono ?_
        rintro e w' ⟨rfl, rfl⟩
        go_wp2_with fail
        go_ret
        exact ⟨rfl, rfl⟩

def clipZ (k n : Int) : Int := if k < 0 then 0 else if n < k then n else k
theorem clip_any (k n : Int) (w : World) : Calls Try.prog 40 #[.int .i64 k, .int .i64 n] w fun e w' => e = .returned (.int .i64 (clipZ k n)) ∧ w = w' := by
  unfold clipZ
  by_cases h1 : k < 0
  · have hd : decide (k < 0) = true := decide_eq_true h1
    rw [if_pos h1]
    go_enter Try.func40, Try.ntmps40
    go_wp2
    go_ret
    exact ⟨rfl, rfl⟩
  · have hd : decide (k < 0) = false := decide_eq_false h1
    rw [if_neg h1]
    by_cases h2 : n < k
    · have hd2 : decide (n < k) = true := decide_eq_true h2
      rw [if_pos h2]
      go_enter Try.func40, Try.ntmps40
      go_wp2
      go_ret
      exact ⟨rfl, rfl⟩
    · have hd2 : decide (n < k) = false := decide_eq_false h2
      rw [if_neg h2]
      go_enter Try.func40, Try.ntmps40
      go_wp2
      go_ret
      exact ⟨rfl, rfl⟩

theorem clip_nat (k : Int) (n : Nat) : ∃ c : Nat, clipZ k (n : Int) = (c : Int) ∧ c = min k.toNat n := by
  refine ⟨min k.toNat n, ?_, rfl⟩
  unfold clipZ
  split
  · omega
  · split <;> omega
theorem range_clip (xs : List Int) (a b : Int) : rangeZ xs a b = if min a.toNat xs.length ≤ min b.toNat xs.length then pre xs (min b.toNat xs.length) - pre xs (min a.toNat xs.length) else 0 := by
  unfold rangeZ
  by_cases h : b ≤ a
  · rw [if_pos h]
    split
    · rename_i h2
      rw [show min a.toNat xs.length = min b.toNat xs.length by omega]; omega
    · rfl
  · rw [if_neg h, if_pos (by omega), pre_clip, pre_clip]

set_option maxHeartbeats 2000000 in
theorem rrange_has {w : World} {p : Option Addr} {xs : List Int} (h : HasR w p xs) (a b : Int) : Calls Try.prog 32 #[.pointer p, .int .i64 a, .int .i64 b] w fun e w' => e = .returned (.int .i64 (rangeZ xs a b)) ∧ w = w' := by
  rcases h with ⟨rfl, rfl⟩ | ⟨d, db, rfl, h⟩
  · rw [show rangeZ [] a b = 0 by unfold rangeZ; rw [pre_nil, pre_nil]; simp]
    go_enter Try.func32, Try.ntmps32
    go_wp2_with fail
    refine (valid_nil _).mono ?_
    rintro e w' ⟨rfl, rfl⟩
    go_wp2_with fail
    go_ret
    exact ⟨rfl, rfl⟩
  · have hv := Lib.hid (valid_yes h)
    have ok := h.ok
    obtain ⟨dc, tb, ha, hb, _⟩ := h
    have c1 := ha.cell 1 (v := .slice (some ⟨db, 0, none⟩) xs.length dc) rfl
    rw [range_clip]
    obtain ⟨A, hA, hA'⟩ := clip_nat a xs.length
    obtain ⟨B, hB, hB'⟩ := clip_nat b xs.length
    rw [← hA', ← hB']
    obtain ⟨R, hR⟩ : ∃ R, (if A ≤ B then pre xs B - pre xs A else 0) = R := ⟨_, rfl⟩
    rw [hR]
    replace hR := Lib.hid hR
    have hBl : B ≤ xs.length := by omega
    have hAl : A ≤ xs.length := by omega
    have hlen := ok.len
    have htop := ok.top
    have hpos := ok.pos
    replace hA := Lib.hid hA
    replace hB := Lib.hid hB
    replace hpos := Lib.hid hpos
    replace hb := Lib.hid hb
    clear ha hA' hB' ok
    go_enter Try.func32, Try.ntmps32
    go_wp2_with fail
    refine hv.out.mono ?_
    rintro e w' ⟨rfl, rfl⟩
    go_wp2_with fail
    refine (clip_any _ _ _).mono ?_
    rintro e w' ⟨rfl, rfl⟩
    rw [hA.out]
    go_wp2_with fail
    go_loopw [7, 8] (fun v7 v8 wr => wr = w ∧ ∃ k : Nat, A ≤ k ∧ k ≤ max A B ∧ v7 = .int .i64 (pre xs k - pre xs A) ∧ v8 = .int .i64 (k : Int)) (fun _ v8 _ => B - (intOf v8).toNat)
    case atStart => exact ⟨rfl, A, by omega, by omega, by rw [Int.sub_self], rfl⟩
    case round =>
      obtain ⟨rfl, k, hk0, hk1, rfl, rfl⟩ := hrel
      go_wp2_with fail
      refine (clip_any _ _ _).mono ?_
      rintro e w' ⟨rfl, rfl⟩
      rw [hB.out]
      by_cases hlt : k < B
      · have k0 : (0 : Int) ≤ (k : Int) := by omega
        have k1 : (k : Int) < (xs.length : Int) := by omega
        have k2 : (k : Int) < (B : Int) := by omega
        have c2 := hb.out.cell k (Rw.at tb (by omega))
        obtain ⟨v, hv'⟩ : ∃ v, xs[k]?.getD 0 = v := ⟨_, rfl⟩
        have hps : pre xs (k + 1) = pre xs k + v := by rw [pre_succ, hv']
        rw [hv'] at c2
        have p1 := pre_nonneg hpos.out k
        have p2 := pre_le_sum hpos.out (k + 1)
        have p3 := pre_nonneg hpos.out A
        have p4 := pre_mono hpos.out hk0
        have p5 := pre_nonneg hpos.out (k + 1)
        have p6 := pre_mono hpos.out (show A ≤ k + 1 by omega)
        obtain ⟨q, hq⟩ : ∃ q, pre xs k - pre xs A = q := ⟨_, rfl⟩
        have hq1 : pre xs (k + 1) - pre xs A = q + v := by omega
        have q1 : 0 ≤ q + v := by omega
        have q2 : q + v ≤ 9223372036854775807 := by omega
        rw [hq]
        replace hq1 := Lib.hid hq1
        clear hps hq hv' p1 p2 p3 p4 p5 p6
        go_wp2_with fail
        go_roundw
        case rel => exact ⟨by first | trivial | rfl, k + 1, by omega, by omega, by rw [hq1.out], by go_num⟩
        case measure => simp [intOf]; omega
      · have k2 : ¬ (k : Int) < (B : Int) := by omega
        go_wp2_with fail
        go_ret
        refine ⟨ret_int (show pre xs k - pre xs A = R from ?_), rfl⟩
        rw [← hR.out]
        by_cases h : A ≤ B
        · rw [if_pos h, show k = B by omega]
        · rw [if_neg h, show k = A by omega]; omega

theorem rprefix_has {w : World} {p : Option Addr} {xs : List Int} (h : HasR w p xs) (k : Int) : Calls Try.prog 31 #[.pointer p, .int .i64 k] w fun e w' => e = .returned (.int .i64 (pre xs k.toNat)) ∧ w = w' := by
  have hr := rrange_has h 0 k
  rw [show rangeZ xs 0 k = pre xs k.toNat by
    unfold rangeZ
    split
    · rw [show k.toNat = 0 by omega, pre_zero]
    · rw [show (0 : Int).toNat = 0 from rfl, pre_zero]; omega] at hr
  replace hr := Lib.hid hr
  clear h
  go_enter Try.func31, Try.ntmps31
  go_wp2_with fail
  refine hr.out.mono ?_
  rintro e w' ⟨rfl, rfl⟩
  go_wp2_with fail
  go_ret
  exact ⟨rfl, rfl⟩
theorem rtotal_has {w : World} {p : Option Addr} {xs : List Int} (h : HasR w p xs) : Calls Try.prog 33 #[.pointer p] w fun e w' => e = .returned (.int .i64 xs.sum) ∧ w = w' := by
  have hr := rrange_has h 0 (xs.length : Int)
  rw [show rangeZ xs 0 (xs.length : Int) = xs.sum by
    unfold rangeZ
    split
    · rw [← pre_all xs (Nat.le_refl _), show xs.length = 0 by omega, pre_zero]
    · rw [show (0 : Int).toNat = 0 from rfl, pre_zero, Int.toNat_natCast, pre_all xs (Nat.le_refl _)]; omega] at hr
  have hl := Lib.hid (rlen_has h)
  replace hr := Lib.hid hr
  clear h
  go_enter Try.func33, Try.ntmps33
  go_wp2_with fail
  refine hl.out.mono ?_
  rintro e w' ⟨rfl, rfl⟩
  go_wp2_with fail
  refine hr.out.mono ?_
  rintro e w' ⟨rfl, rfl⟩
  go_wp2_with fail
  go_ret
  exact ⟨rfl, rfl⟩

theorem found_unique {xs : List Int} (ok : Sound xs) {x i j : Int} {a b : Bool} (h : Found xs x i a) (h' : Found xs x j b) : i = j ∧ a = b := by
  rcases h' with ⟨rfl, rfl, h'⟩ | ⟨k, rfl, rfl, _, _, _, h3, h4⟩
  · exact found_no h h'
  · exact found_yes ok h h3 h4

def FoundEnd (xs : List Int) (x : Int) (w : World) (e : Ending) (w' : World) : Prop := (∃ (i : Int) (ok : Bool), Found xs x i ok ∧ e = .returned (.tuple #[.int .i64 i, .bool ok])) ∧ w = w'
set_option maxHeartbeats 2000000 in
theorem rfind_has {w : World} {p : Option Addr} {xs : List Int} (h : HasR w p xs) (x : Int) (hx : -9223372036854775808 ≤ x ∧ x ≤ 9223372036854775807) : Calls Try.prog 29 #[.pointer p, .int .i64 x] w (FoundEnd xs x w) := by
  rcases h with ⟨rfl, rfl⟩ | ⟨d, db, rfl, h⟩
  · go_enter Try.func29, Try.ntmps29
    go_wp2_with fail
    refine (valid_nil _).mono ?_
    rintro e w' ⟨rfl, rfl⟩
    go_wp2_with fail
    go_ret2
    exact ⟨⟨0, false, .inl ⟨rfl, rfl, by by_cases h : x < 0; exact .inl h; right; show (0 : Int) ≤ x; omega⟩, rfl⟩, rfl⟩
  · have hv := Lib.hid (valid_yes h)
    have ok := h.ok
    obtain ⟨dc, tb, ha, hb, _⟩ := h
    have c1 := ha.cell 1 (v := .slice (some ⟨db, 0, none⟩) xs.length dc) rfl
    by_cases hx0 : x < 0
    · have hd : decide (x < 0) = true := decide_eq_true hx0
      clear ha hb
      go_enter Try.func29, Try.ntmps29
      go_wp2_with fail
      refine hv.out.mono ?_
      rintro e w' ⟨rfl, rfl⟩
      go_wp2_with fail
      go_ret2
      exact ⟨⟨0, false, .inl ⟨rfl, rfl, .inl hx0⟩, rfl⟩, rfl⟩
    have hd : decide (x < 0) = false := decide_eq_false hx0
    have hlen := ok.len
    have hpos := ok.pos
    replace hpos := Lib.hid hpos
    replace hb := Lib.hid hb
    clear ha ok
    go_enter Try.func29, Try.ntmps29
    go_wp2_with fail
    refine hv.out.mono ?_
    rintro e w' ⟨rfl, rfl⟩
    go_wp2_with fail
    go_loopw [1, 6] (fun v1 v6 wr => wr = w ∧ ∃ k : Nat, k ≤ xs.length ∧ pre xs k ≤ x ∧ v1 = .int .i64 (x - pre xs k) ∧ v6 = .int .i64 (k : Int)) (fun _ v6 _ => xs.length - (intOf v6).toNat)
    case atStart => exact ⟨rfl, 0, by omega, by rw [pre_zero]; omega, by rw [pre_zero, Int.sub_zero], rfl⟩
    case round =>
      obtain ⟨rfl, k, hk1, hpk, rfl, rfl⟩ := hrel
      by_cases hlt : k < xs.length
      · have k0 : (0 : Int) ≤ (k : Int) := by omega
        have k1 : (k : Int) < (xs.length : Int) := by omega
        have c2 := hb.out.cell k (Rw.at tb hlt)
        obtain ⟨v, hv'⟩ : ∃ v, xs[k]?.getD 0 = v := ⟨_, rfl⟩
        have hps : pre xs (k + 1) = pre xs k + v := by rw [pre_succ, hv']
        rw [hv'] at c2
        have p1 := pre_nonneg hpos.out k
        have p2 := pre_nonneg hpos.out (k + 1)
        have p3 := pre_le_sum hpos.out (k + 1)
        obtain ⟨q, hq⟩ : ∃ q, x - pre xs k = q := ⟨_, rfl⟩
        have v0 : 0 ≤ v := by rw [← hv']; exact at_pos hpos.out k
        rw [hq]
        by_cases hlt2 : q < v
        · have hd2 : decide (q < v) = true := decide_eq_true hlt2
          have hfin := Lib.hid (show Found xs x (k : Int) true from .inr ⟨k, rfl, rfl, by omega, by omega, hlt, hpk, by omega⟩)
          clear hps hq hv' p1 p2 p3
          go_wp2_with fail
          go_ret2
          exact ⟨⟨_, _, hfin.out, rfl⟩, rfl⟩
        · have hd2 : decide (q < v) = false := decide_eq_false hlt2
          have hq1 : x - pre xs (k + 1) = q - v := by omega
          have hp' : pre xs (k + 1) ≤ x := by omega
          have q1 : 0 ≤ q - v := by omega
          have q2 : q - v ≤ 9223372036854775807 := by omega
          replace hq1 := Lib.hid hq1
          clear hps hq hv' p1 p2 p3
          go_wp2_with fail
          go_roundw
          case rel => exact ⟨by first | trivial | rfl, k + 1, by omega, hp', by rw [hq1.out], by go_num⟩
          case measure => simp [intOf]; omega
      · have k1 : ¬ (k : Int) < (xs.length : Int) := by omega
        have hfin := Lib.hid (show xs.sum ≤ x by rw [← pre_all xs (Nat.le_refl _), ← show k = xs.length by omega]; exact hpk)
        go_wp2_with fail
        go_ret2
        exact ⟨⟨0, false, .inl ⟨rfl, rfl, .inr hfin.out⟩, rfl⟩, rfl⟩

theorem rnew_no (n : Int) (w : World) (h : n < 0 ∨ 65536 < n) : Calls Try.prog 18 #[.int .i64 n] w fun e w' => e = .returned (.tuple #[.pointer none, .int .i64 2]) ∧ w = w' := by
  by_cases h0 : n < 0
  · have h0d : decide (n < 0) = true := decide_eq_true h0
    go_enter Try.func18, Try.ntmps18
    go_wp2
    go_ret2
    exact ⟨rfl, rfl⟩
  · have h0d : decide (n < 0) = false := decide_eq_false h0
    have h1d : decide (65536 < n) = true := decide_eq_true (by omega)
    go_enter Try.func18, Try.ntmps18
    go_wp2
    go_ret2
    exact ⟨rfl, rfl⟩
theorem rnew_yes (n : Nat) (w : World) (h : n ≤ 65536) : Calls Try.prog 18 #[.int .i64 (n : Int)] w fun e w' => e = .returned (.tuple #[.pointer (some ⟨w.heap.size + 1, 0, none⟩), .int .i64 0]) ∧ TabR w' (w.heap.size + 1) w.heap.size (List.replicate n 0) ∧ Below w.heap.size w w' := by
  have h0d : decide ((n : Int) < 0) = false := decide_eq_false (by omega)
  have h1d : decide (65536 < (n : Int)) = false := decide_eq_false (by omega)
  have hm1 := make_ints n (by omega)
  have ht : TabR ((w.alloc (.cells (Rw (List.replicate n 0) #[]) 2)).alloc (.cells #[.bool true, .slice (some ⟨w.heap.size, 0, none⟩) n n] 70)) (w.heap.size + 1) w.heap.size (List.replicate n 0) := by
    refine ⟨n, #[], ?_, (Blk.new w _ 2).alloc _, sound_zeros n h⟩
    rw [List.length_replicate]
    have := Blk.new (w.alloc (.cells (Rw (List.replicate n 0) #[]) 2)) #[.bool true, .slice (some ⟨w.heap.size, 0, none⟩) n n] 70
    rwa [World.size_alloc] at this
  replace ht := Lib.hid ht
  go_enter Try.func18, Try.ntmps18
  go_wp2_with fail
  go_ret2
  exact ⟨rfl, ht.out, bel_alloc (bel_alloc (Below.refl _ _) _) _⟩

end Go.Proofs.Ytooppkpaahmnhaa
