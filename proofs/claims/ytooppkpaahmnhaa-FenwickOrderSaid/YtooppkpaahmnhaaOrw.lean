/- FenwickOrder: the walk. -/
import Derived.Test.YtooppkpaahmnhaaOrl
import Derived.Deep.DeepCutAuto
namespace Go.Proofs.Ytooppkpaahmnhaa
open Go.RowKit Go.Shelf
attribute [local go_sem] Oper.semAt_some

theorem part_struct : IntStruct Try.prog 50 [.u8, .i16] := by
  refine ⟨_, Try.underlying50, by kernel_rfl, fun i k hk => ?_⟩
  match i, hk with
  | 0, hk => cases hk; exact ⟨_, rfl, by kernel_rfl, rfl, by kernel_rfl⟩
  | 1, hk => cases hk; exact ⟨_, rfl, by kernel_rfl, rfl, by kernel_rfl⟩
  | n + 2, hk => simp at hk
abbrev Kp : List IntKind := [.u8, .i16]
theorem i16_range {x : Int} (h : (Lit.int .i16 x).wf = true) : -32768 ≤ x ∧ x ≤ 32767 := by
  have := h
  simp [Lit.wf, IntKind.min, IntKind.max, IntKind.signed, IntKind.bits] at this
  omega

/-- an addition that came in -/
theorem part_cells {w : World} {a : Option Addr} {len : Nat} {G : Nat → Nat → Int} (hl : RT w.heap.size w Kp a len G) (hp : 0 < len) : ∃ b off, a = some ⟨b, off, none⟩ ∧ ∀ k, k < len → (∀ W, Below w.heap.size w W → W.cell? ⟨b, off + k * 2, none⟩ = some (.int .u8 (G k 0)) ∧ W.cell? ⟨b, off + k * 2 + 1, none⟩ = some (.int .i16 (G k 1))) ∧ 0 ≤ G k 0 ∧ G k 0 ≤ 255 ∧ -32768 ≤ G k 1 ∧ G k 1 ≤ 32767 := by
  obtain ⟨b, off, rfl, hb, hc⟩ := hl hp
  refine ⟨b, off, rfl, fun k hk => ?_⟩
  have h0 := hc k hk 0 .u8 rfl
  have h1 := hc k hk 1 .i16 rfl
  have r0 := u8_range h0.2
  have r1 := i16_range h1.2
  exact ⟨fun W hW => ⟨(hW.cell (p := ⟨b, off + k * 2, none⟩) hb).trans h0.1, (hW.cell (p := ⟨b, off + k * 2 + 1, none⟩) hb).trans h1.1⟩, r0.1, r0.2, r1.1, r1.2⟩

theorem term_pos {m k i : Nat} {G : Nat → Nat → Int} {I d : Int} (hI : G k 0 = I) (hd : G k 1 = d) (hi : I % (m : Int) = (i : Int)) (hp : 0 < d) (j : Nat) :
    (if i = j then tsum m G j k + d else tsum m G j k) = tsum m G j (k + 1) := by
  show _ = tsum m G j k + term m G j k
  unfold term
  rw [hI, hd, hi, Int.toNat_natCast]
  by_cases e : i = j
  · rw [if_pos e, if_pos ⟨hp, e⟩]
  · rw [if_neg e, if_neg (fun h => e h.2)]; omega
theorem term_not {m k : Nat} {G : Nat → Nat → Int} {d : Int} (hd : G k 1 = d) (hp : ¬ 0 < d) (j : Nat) : tsum m G j k = tsum m G j (k + 1) := by
  show _ = tsum m G j k + term m G j k
  unfold term
  rw [hd, if_neg (fun h => hp h.1)]; omega
theorem term_back {m k q len i : Nat} {G : Nat → Nat → Int} {I d : Int} (hq : q = len - 1 - k) (hk : k < len) (hI : G q 0 = I) (hd : G q 1 = d) (hi : I % (m : Int) = (i : Int)) (hp : 0 < d) (j : Nat) :
    (if i = j then tsum m G j len - tsum m G j (len - k) + d else tsum m G j len - tsum m G j (len - k)) = tsum m G j len - tsum m G j (len - (k + 1)) := by
  have h := term_pos hI hd hi hp j
  rw [show len - k = q + 1 by omega, show len - (k + 1) = q by omega]
  split <;> rename_i e
  · rw [if_pos e] at h; omega
  · rw [if_neg e] at h; omega
theorem term_back_not {m k q len : Nat} {G : Nat → Nat → Int} {d : Int} (hq : q = len - 1 - k) (hk : k < len) (hd : G q 1 = d) (hp : ¬ 0 < d) (j : Nat) :
    tsum m G j len - tsum m G j (len - k) = tsum m G j len - tsum m G j (len - (k + 1)) := by
  have h := term_not (m := m) hd hp j
  rw [show len - k = q + 1 by omega, show len - (k + 1) = q by omega]
  omega

theorem boxes (W : World) (x y : Array Value) : Blk (((W.alloc (.cells x 50)).alloc (.cells y 50)).drew) W.heap.size x 50 ∧ Blk (((W.alloc (.cells x 50)).alloc (.cells y 50)).drew) (W.heap.size + 1) y 50 ∧ Below W.heap.size W (((W.alloc (.cells x 50)).alloc (.cells y 50)).drew) := by
  refine ⟨(Blk.new W x 50).alloc _, ?_, bel_drew (bel_alloc (bel_alloc (Below.refl _ _) _) _)⟩
  have := Blk.new (W.alloc (.cells x 50)) y 50
  rw [World.size_alloc] at this
  exact this

set_option maxRecDepth 100000 in
set_option maxHeartbeats 8000000 in
theorem order_mid (w : World) (n : Int) (n0 : 0 ≤ n) (n1 : n ≤ 255) (a : Option Addr) (len cap : Nat) (G : Nat → Nat → Int) (hl : RT w.heap.size w Kp a len G) (hlen : len ≤ 300) :
    Calls Try.prog 7 #[.int .u8 n, .slice a len cap] w fun e w' => e = .returned (.bool true) ∧ Below w.heap.size w w' := by
  have hd2 : decide ((300 : Int) < (len : Int)) = false := decide_eq_false (by omega)
  replace hl := Lib.hid hl
  go_enter Try.func7, Try.ntmps7
  go_wp2_with fail
  obtain ⟨m, hM⟩ := Int.eq_ofNat_of_zero_le (show 0 ≤ 1 + n % 50 by omega)
  have m1 : 1 ≤ m := by omega
  have m2 : m ≤ 50 := by omega
  have hmk := make_i64 m (by omega)
  rw [hM]
  clear hM n0 n1
  refine (new_own m _ (by omega)).mono ?_
  rintro e w1 ⟨c, cb, nb, rfl, o1⟩
  replace o1 := Lib.hid o1
  have m3 : (1 : Int) ≤ (m : Int) := by omega
  go_wp2_with fail
  refine (new_own m _ (by omega)).mono ?_
  rintro e w2 ⟨c', cb', nb', rfl, o2⟩
  have O := Lib.hid (ord_new o1.out o2 m)
  clear o2
  go_wp2_with fail
  replace O := Lib.hid (p := Ord w _ _ _ _ _ _ _ _ _ _ _) O.out
  generalize w2.alloc (.cells (RwK .i64 (List.replicate m 0)) 2) = W2 at *
  generalize w2.heap.size = D at *
  clear hmk
  go_loopw [11] (fun v11 wr => ∃ (k : Nat) (xs ys : List Int), k ≤ len ∧ v11 = .int .i64 (k : Int) ∧ Cs m (fun j => tsum m G j k) k xs ∧ Cs m (fun j => tsum m G j len - tsum m G j (len - k)) k ys ∧ Ord w wr c cb nb c' cb' nb' D xs ys xs) (fun v11 _ => len - (intOf v11).toNat)
  case atStart =>
    refine ⟨0, _, _, by omega, rfl, (Cs.new m (by omega)).congr (fun j _ => rfl), (Cs.new m (by omega)).congr (fun j _ => ?_), O.out⟩
    rw [Nat.sub_zero, Int.sub_self]
  case round =>
    obtain ⟨k, xs, ys, hk, rfl, hX, hY, hO⟩ := hrel
    by_cases hlt : k < len
    · obtain ⟨b, off, rfl, hcell⟩ := part_cells hl.out (by omega)
      obtain ⟨q, hq⟩ : ∃ q : Nat, q = len - 1 - k := ⟨_, rfl⟩
      have hql : q < len := by omega
      obtain ⟨ck, a0, a1, a2, a3⟩ := hcell k hlt
      obtain ⟨cq, b0, b1, b2, b3⟩ := hcell q hql
      have k0 : (0 : Int) ≤ (k : Int) := by omega
      have k1 : (k : Int) < (len : Int) := by omega
      have q0 : (0 : Int) ≤ (q : Int) := by omega
      have q1 : (q : Int) < (len : Int) := by omega
      have x1 := ck wr hO.bel
      have x2 := cq wr hO.bel
      have x3 := ck wr.drew (bel_drew hO.bel)
      have x4 := cq wr.drew (bel_drew hO.bel)
      have hqz : (q : Int) = (len : Int) - 1 - (k : Int) := by omega
      obtain ⟨I, hI⟩ : ∃ v, G k 0 = v := ⟨_, rfl⟩
      obtain ⟨d, hd⟩ : ∃ v, G k 1 = v := ⟨_, rfl⟩
      obtain ⟨J, hJ⟩ : ∃ v, G q 0 = v := ⟨_, rfl⟩
      obtain ⟨f, hf⟩ : ∃ v, G q 1 = v := ⟨_, rfl⟩
      rw [hI] at x1 x3 a0 a1
      rw [hd] at x1 x3 a2 a3
      rw [hJ] at x2 x4 b0 b1
      rw [hf] at x2 x4 b2 b3
      replace hI := Lib.hid hI
      replace hd := Lib.hid hd
      replace hJ := Lib.hid hJ
      replace hf := Lib.hid hf
      replace hX := Lib.hid hX
      replace hY := Lib.hid hY
      replace hO := Lib.hid hO
      replace hq := Lib.hid hq
      have hw1 : IntKind.i64.wrap ((len : Int) - 1) = (len : Int) - 1 := by rw [wrap_i64_eq]; exact w64 (by omega) (by omega)
      have hw2 : IntKind.i64.wrap ((len : Int) - 1 - (k : Int)) = (q : Int) := by rw [wrap_i64_eq, ← hqz]; exact w64 (by omega) (by omega)
      clear hcell ck cq hqz
      obtain ⟨y1, y2⟩ := x1
      obtain ⟨y3, y4⟩ := x2
      have s0 : wr.cell? ⟨b, off + k * 2, none⟩ = some (.int .u8 I) ∧ wr.cell? ⟨b, off + k * 2 + 1, none⟩ = some (.int .i16 d) ∧ wr.cell? ⟨b, off + q * 2, none⟩ = some (.int .u8 J) ∧ wr.cell? ⟨b, off + q * 2 + 1, none⟩ = some (.int .i16 f) := ⟨y1, y2, y3, y4⟩
      have s1 : wr.drew.cell? ⟨b, off + k * 2, none⟩ = some (.int .u8 I) ∧ wr.drew.cell? ⟨b, off + k * 2 + 1, none⟩ = some (.int .i16 d) ∧ wr.drew.cell? ⟨b, off + q * 2, none⟩ = some (.int .u8 J) ∧ wr.drew.cell? ⟨b, off + q * 2 + 1, none⟩ = some (.int .i16 f) := ⟨y1, y2, y3, y4⟩
      go_upto_region 12 with fail
      go_cut [12, 13] (fun v12 v13 wx => ∃ P Q : Nat, v12 = .pointer (some ⟨P, 0, none⟩) ∧ v13 = .pointer (some ⟨Q, 0, none⟩) ∧ Blk wx P #[.int .u8 I, .int .i16 d] 50 ∧ Blk wx Q #[.int .u8 J, .int .i16 f] 50 ∧ Below wr.heap.size wr wx)
      case first =>
        go_region_held3 (fun w' => w'.cell? ⟨b, off + k * 2, none⟩ = some (.int .u8 I) ∧ w'.cell? ⟨b, off + k * 2 + 1, none⟩ = some (.int .i16 d) ∧ w'.cell? ⟨b, off + q * 2, none⟩ = some (.int .u8 J) ∧ w'.cell? ⟨b, off + q * 2 + 1, none⟩ = some (.int .i16 f))
          (first | assumption | go_keep) (fail)
        all_goals
          go_wp2_with fail
          go_meet
          first
            | exact ⟨wr.heap.size, wr.heap.size + 1, rfl, rfl, (boxes wr _ _).1, (boxes wr _ _).2.1, (boxes wr _ _).2.2⟩
            | exact ⟨wr.heap.size + 1, wr.heap.size, rfl, rfl, (boxes wr _ _).2.1, (boxes wr _ _).1, (boxes wr _ _).2.2⟩
      case rest =>
        obtain ⟨P, Q, rfl, rfl, hP, hQ, hb⟩ := hcut
        have O1 := Lib.hid (hO.out.keep hb)
        have p0 := hP.cell 0 (v := .int .u8 I) rfl
        have p1 := hP.cell 1 (v := .int .i16 d) rfl
        replace hP := Lib.hid hP
        replace hQ := Lib.hid hQ
        clear s0 s1 x3 x4 y1 y2 y3 y4 hw1 hw2 hb hO
        obtain ⟨i, hi⟩ := Int.eq_ofNat_of_zero_le (show 0 ≤ I % (m : Int) from Int.emod_nonneg _ (by omega))
        obtain ⟨j, hj⟩ := Int.eq_ofNat_of_zero_le (show 0 ≤ J % (m : Int) from Int.emod_nonneg _ (by omega))
        have im : i < m := by have := Int.emod_lt_of_pos I (show (0 : Int) < (m : Int) by omega); omega
        have jm : j < m := by have := Int.emod_lt_of_pos J (show (0 : Int) < (m : Int) by omega); omega
        have hti : I.tmod (m : Int) = (i : Int) := by rw [Int.tmod_eq_emod_of_nonneg a0]; exact hi
        have htj : J.tmod (m : Int) = (j : Int) := by rw [Int.tmod_eq_emod_of_nonneg b0]; exact hj
        replace hti := Lib.hid hti
        replace htj := Lib.hid htj
        replace hi := Lib.hid hi
        replace hj := Lib.hid hj
        generalize wc = U at *
        have hdec : decide (0 < d) = true ∨ decide (0 < d) = false := by by_cases h : 0 < d <;> simp [h]
        go_upto_if 72 with fail
        go_cut [83] (fun _ wx => ∃ xs' : List Int, Cs m (fun j => tsum m G j (k + 1)) (k + 1) xs' ∧ Ord w wx c cb nb c' cb' nb' D xs' ys xs' ∧ Blk wx P #[.int .u8 I, .int .i16 d] 50 ∧ Blk wx Q #[.int .u8 J, .int .i16 f] 50)
        case first =>
          by_cases hpos : 0 < d
          · have hX1 := hX.out.add (by omega) im hpos a3
            have t1 : U.cell? ⟨P, 0, none⟩ = some (.int .u8 I) ∧ U.cell? ⟨P, 1, none⟩ = some (.int .i16 d) := ⟨p0, p1⟩
            have t2 : U.drew.cell? ⟨P, 0, none⟩ = some (.int .u8 I) ∧ U.drew.cell? ⟨P, 1, none⟩ = some (.int .i16 d) := ⟨p0, p1⟩
            have OD := Lib.hid (O1.out.keep (bel_drew (Below.refl U.heap.size U)))
            have PD := Lib.hid (p := Blk U.drew P #[.int .u8 I, .int .i16 d] 50) hP.out
            have QD := Lib.hid (p := Blk U.drew Q #[.int .u8 J, .int .i16 f] 50) hQ.out
            replace hX1 := Lib.hid hX1
            have hdb : -9223372036854775808 ≤ d ∧ d ≤ 9223372036854775807 := by omega
            go_upto_region 14 with fail
            have hwI : IntKind.i64.wrap I = I := by rw [wrap_i64_eq]; exact w64 (by omega) (by omega)
            have hwd : IntKind.i64.wrap d = d := by rw [wrap_i64_eq]; exact w64 (by omega) (by omega)
            have hwi : IntKind.i64.wrap (i : Int) = (i : Int) := by rw [wrap_i64_eq]; exact w64 (by omega) (by omega)
            have hti1 := hti.out
            have hmn : ¬ m = 0 := by clear hwI hwd hwi hti1; omega
            have hmz : ((m : Int) == 0) = false := by simp [hmn]
            go_cut [83] (fun v wx => v = .bool false ∧ Ord w wx c cb nb c' cb' nb' D (addX xs (i : Int) d) ys xs ∧ Blk wx P #[.int .u8 I, .int .i16 d] 50 ∧ Blk wx Q #[.int .u8 J, .int .i16 f] 50)
            case first =>
              go_region_held3 (fun w' => w'.cell? ⟨P, 0, none⟩ = some (.int .u8 I) ∧ w'.cell? ⟨P, 1, none⟩ = some (.int .i16 d))
                (first | assumption)
                (first
                  | (go_at_call 22; refine (ord_add OD.out (i : Int) d hdb).mono ?_; rintro e U2 ⟨rfl, o2, k2⟩; rw [hX1.out.1]; have P2 := k2 _ _ PD.out; have t3 : U2.cell? ⟨P, 0, none⟩ = some (.int .u8 I) ∧ U2.cell? ⟨P, 1, none⟩ = some (.int .i16 d) := ⟨P2.cell 0 rfl, P2.cell 1 rfl⟩; have Q2 := k2 _ _ QD.out; replace o2 := Lib.hid o2; replace P2 := Lib.hid P2; replace Q2 := Lib.hid Q2; clear k2))
              all_goals (go_wp2_with fail; go_meet; exact ⟨rfl, o2.out, P2.out, Q2.out⟩)
            case rest =>
              obtain ⟨rfl, o2, P2, Q2⟩ := hcut
              clear hwI hwd hwi hti1 hmn hmz t1 t2 PD QD
              generalize wc = U3 at *
              obtain ⟨v0, hv0⟩ : ∃ v, xs[i]?.getD 0 = v := ⟨_, rfl⟩
              have hil : i < xs.length := by rw [hX.out.len]; exact im
              have vb0 : 0 ≤ v0 := by rw [← hv0]; exact at_pos hX.out.ok.pos i
              have vb1 : v0 ≤ 32767 * (k : Int) := by rw [← hv0]; exact Int.le_trans (at_le_sum hX.out.ok.pos i) hX.out.sum
              have cw := o2.blk.cell i (RwK.at hil)
              have fw := o2.blk.frozen i
              rw [hv0] at cw
              have p0 := P2.cell 0 (v := .int .u8 I) rfl
              have p1 := P2.cell 1 (v := .int .i16 d) rfl
              have hset := ord_set o2 i (v0 + d)
              rw [← hv0, ← hX1.out.2.1, hv0] at hset
              have P3 := hset.2 _ _ P2
              have Q3 := hset.2 _ _ Q2
              have o3 := hset.1
              have i0 : (0 : Int) ≤ (i : Int) := by omega
              have i1 : (i : Int) < (m : Int) := by omega
              have hwv : IntKind.i64.wrap (v0 + d) = v0 + d := by rw [wrap_i64_eq]; exact w64 (by omega) (by omega)
              have hwI : IntKind.i64.wrap I = I := by rw [wrap_i64_eq]; exact w64 (by omega) (by omega)
              have hwd : IntKind.i64.wrap d = d := by rw [wrap_i64_eq]; exact w64 (by omega) (by omega)
              have hwi : IntKind.i64.wrap (i : Int) = (i : Int) := by rw [wrap_i64_eq]; exact w64 (by omega) (by omega)
              have hmn : ¬ m = 0 := by clear hwI hwd hwi hwv; omega
              have hmz : ((m : Int) == 0) = false := by simp [hmn]
              have hti1 := hti.out
              replace P3 := Lib.hid P3
              replace Q3 := Lib.hid Q3
              replace o3 := Lib.hid o3
              clear hset P2 Q2 o2 hv0 hil
              go_upto_region 16 with fail
              go_cut [95] (fun _ wx => Ord w wx c cb nb c' cb' nb' D (addX xs (i : Int) d) ys (addX xs (i : Int) d) ∧ Blk wx P #[.int .u8 I, .int .i16 d] 50 ∧ Blk wx Q #[.int .u8 J, .int .i16 f] 50)
              case first =>
                go_region_with (fail)
                all_goals (go_wp2_with fail; go_meet; exact ⟨o3.out.keep (bel_drew (Below.refl _ _)), P3.out, Q3.out⟩)
              case rest =>
                obtain ⟨o4, P4, Q4⟩ := hcut
                replace o4 := Lib.hid o4
                replace P4 := Lib.hid P4
                replace Q4 := Lib.hid Q4
                clear hwI hwd hwi hti1 hmn hmz hwv cw fw
                go_wp2_with fail
                go_meet
                exact ⟨_, hX1.out.2.2.congr (fun j hj => term_pos hI.out hd.out hi.out hpos j), o4.out, P4.out, Q4.out⟩
          · go_wp2_with fail
            go_meet
            exact ⟨_, hX.out.skip.congr (fun j hj => term_not hd.out (by omega) j), O1.out, hP.out, hQ.out⟩
        case rest =>
          obtain ⟨xs', hX', o5, P5, Q5⟩ := hcut
          clear p0 p1 O1 hX hP hti hi P5
          generalize wc = U5 at *
          have q0' := Q5.cell 0 (v := .int .u8 J) rfl
          have q1' := Q5.cell 1 (v := .int .i16 f) rfl
          have r1 : U5.cell? ⟨Q, 0, none⟩ = some (.int .u8 J) ∧ U5.cell? ⟨Q, 1, none⟩ = some (.int .i16 f) := ⟨q0', q1'⟩
          have r2 : U5.drew.cell? ⟨Q, 0, none⟩ = some (.int .u8 J) ∧ U5.drew.cell? ⟨Q, 1, none⟩ = some (.int .i16 f) := ⟨q0', q1'⟩
          have OD := Lib.hid (o5.keep (bel_drew (Below.refl U5.heap.size U5)))
          replace hX' := Lib.hid hX'
          replace o5 := Lib.hid o5
          have Q5D := Lib.hid (p := Blk U5.drew Q #[.int .u8 J, .int .i16 f] 50) Q5
          clear Q5
          by_cases hpf : 0 < f
          · have hY1 := hY.out.add (by omega) jm hpf b3
            have hfb : -9223372036854775808 ≤ f ∧ f ≤ 9223372036854775807 := by omega
            replace hY1 := Lib.hid hY1
            have hwJ : IntKind.i64.wrap J = J := by rw [wrap_i64_eq]; exact w64 (by omega) (by omega)
            have hwf : IntKind.i64.wrap f = f := by rw [wrap_i64_eq]; exact w64 (by omega) (by omega)
            have hwj : IntKind.i64.wrap (j : Int) = (j : Int) := by rw [wrap_i64_eq]; exact w64 (by omega) (by omega)
            have hmn : ¬ m = 0 := by clear hwJ hwf hwj; omega
            have hmz : ((m : Int) == 0) = false := by simp [hmn]
            have htj1 := htj.out
            go_upto_region 17 with fail
            go_cut [112] (fun v wx => v = .bool false ∧ Ord w wx c cb nb c' cb' nb' D xs' (addX ys (j : Int) f) xs')
            case first =>
              go_region_held3 (fun w' => w'.cell? ⟨Q, 0, none⟩ = some (.int .u8 J) ∧ w'.cell? ⟨Q, 1, none⟩ = some (.int .i16 f))
                (first | assumption)
                (first
                  | (go_at_call 22; refine (ord_add' OD.out (j : Int) f hfb).mono ?_; rintro e U6 ⟨rfl, o6, k6⟩; rw [hY1.out.1]; have Q6 := k6 _ _ Q5D.out; have r3 : U6.cell? ⟨Q, 0, none⟩ = some (.int .u8 J) ∧ U6.cell? ⟨Q, 1, none⟩ = some (.int .i16 f) := ⟨Q6.cell 0 rfl, Q6.cell 1 rfl⟩; replace o6 := Lib.hid o6; clear k6 Q6))
              all_goals (go_wp2_with fail; go_meet; exact ⟨rfl, o6.out⟩)
            case rest =>
              obtain ⟨rfl, o7⟩ := hcut
              replace o7 := Lib.hid o7
              clear hwJ hwf hwj hmn hmz htj1 r1 r2 q0' q1'
              go_wp2_with fail
              go_roundw
              case rel => exact ⟨k + 1, _, _, by omega, by go_num, hX'.out, hY1.out.2.2.congr (fun t ht => term_back hq.out (by omega) hJ.out hf.out hj.out hpf t), o7.out⟩
              case measure => simp [intOf]; omega
          · have hfd : decide (0 < f) = false := decide_eq_false hpf
            go_upto_region 17 with fail
            go_cut [112] (fun v wx => v = .bool false ∧ Ord w wx c cb nb c' cb' nb' D xs' ys xs')
            case first =>
              go_quiet (fail)
              go_wp2_with fail
              go_meet
              exact ⟨by simp, o5.out.keep (bel_drewN (Below.refl _ _) _)⟩
            case rest =>
              obtain ⟨rfl, o7⟩ := hcut
              replace o7 := Lib.hid o7
              clear r1 r2 q0' q1'
              go_wp2_with fail
              go_roundw
              case rel => exact ⟨k + 1, _, _, by omega, by go_num, hX'.out, hY.out.skip.congr (fun t ht => term_back_not hq.out (by omega) hf.out (by omega) t), o7.out⟩
              case measure => simp [intOf]; omega
    · have k1 : ¬ (k : Int) < (len : Int) := by omega
      obtain rfl : k = len := by omega
      have hXY : xs = ys := hX.eq (hY.congr (fun j _ => by rw [Nat.sub_self]; show tsum m G j k - 0 = _; omega))
      subst hXY
      have hxl := hX.len
      replace hO := Lib.hid hO
      clear hX hY hlt
      go_wp2_with fail
      go_loopw [14] (fun v14 wr2 => ∃ (t : Nat) (xs : List Int), t ≤ k ∧ v14 = .int .i64 (t : Int) ∧ xs.length = m ∧ Ord w wr2 c cb nb c' cb' nb' D xs xs xs) (fun v14 _ => k - (intOf v14).toNat)
      case atStart => exact ⟨0, _, by omega, rfl, hxl, hO.out⟩
      case round =>
        clear hO hxl
        obtain ⟨t, zs, ht, rfl, hzl, hO⟩ := hrel
        by_cases hlt : t < k
        · obtain ⟨b, off, rfl, hcell⟩ := part_cells hl.out (by omega)
          obtain ⟨ck, a0, a1, a2, a3⟩ := hcell t hlt
          have t0 : (0 : Int) ≤ (t : Int) := by omega
          have t1 : (t : Int) < (k : Int) := by omega
          have x1 := ck wr hO.bel
          obtain ⟨I, hI⟩ : ∃ v, G t 0 = v := ⟨_, rfl⟩
          obtain ⟨d, hd⟩ : ∃ v, G t 1 = v := ⟨_, rfl⟩
          rw [hI] at x1 a0 a1
          rw [hd] at x1 a2 a3
          obtain ⟨y1, y2⟩ := x1
          obtain ⟨i, hi⟩ := Int.eq_ofNat_of_zero_le (show 0 ≤ I % (m : Int) from Int.emod_nonneg _ (by omega))
          have im : i < m := by have := Int.emod_lt_of_pos I (show (0 : Int) < (m : Int) by omega); omega
          have hti : I.tmod (m : Int) = (i : Int) := by rw [Int.tmod_eq_emod_of_nonneg a0]; exact hi
          replace hO := Lib.hid hO
          replace hzl := Lib.hid hzl
          have hdb : -9223372036854775808 ≤ d ∧ d ≤ 9223372036854775807 := by omega
          clear hcell ck hI hd hi
          have hwI : IntKind.i64.wrap I = I := by rw [wrap_i64_eq]; exact w64 (by omega) (by omega)
          have hwd : IntKind.i64.wrap d = d := by rw [wrap_i64_eq]; exact w64 (by omega) (by omega)
          have hwi : IntKind.i64.wrap (i : Int) = (i : Int) := by rw [wrap_i64_eq]; exact w64 (by omega) (by omega)
          have hmn : ¬ m = 0 := by clear hwI hwd hwi hti; omega
          have hmz : ((m : Int) == 0) = false := by simp [hmn]
          go_upto_region 22 with fail
          go_cut [15, 16] (fun v15 v16 wx => v15 = .int .i64 (i : Int) ∧ v16 = .int .i64 d ∧ Ord w wx c cb nb c' cb' nb' D zs zs zs)
          case first =>
            go_quiet (fail)
            go_wp2_with fail
            go_meet
            exact ⟨rfl, rfl, hO.out.keep (bel_drewN (Below.refl _ _) _)⟩
          case rest =>
            obtain ⟨rfl, rfl, o2⟩ := hcut
            clear hwI hwd hwi hmn hmz y1 y2 hti hO
            generalize wc = U at *
            have i0 : (0 : Int) ≤ (i : Int) := by omega
            have i1 : (i : Int) < (m : Int) := by omega
            by_cases hneg : d < 0
            · have hdd : decide (0 ≤ d) = false := decide_eq_false (by omega)
              have hil : i < zs.length := by rw [hzl.out]; exact im
              have cw := o2.blk.cell i (RwK.at hil)
              have fw := o2.blk.frozen i
              obtain ⟨v0, hv0⟩ : ∃ v, zs[i]?.getD 0 = v := ⟨_, rfl⟩
              have vb0 : 0 ≤ v0 := by rw [← hv0]; exact at_pos o2.two.fst.ok.pos i
              have vb1 : v0 ≤ 9223372036854775807 := by rw [← hv0]; exact Int.le_trans (at_le_sum o2.two.fst.ok.pos i) o2.two.fst.ok.top
              have hms := minus_step o2.two.fst.ok hil hneg
              rw [hv0] at cw hms
              have hset := (ord_set o2 i (v0 + d)).1
              replace hset := Lib.hid hset
              replace hv0 := Lib.hid hv0
              replace o2 := Lib.hid o2
              rcases hms with ⟨g1, g2, g3⟩ | ⟨g1, g2, g3, _⟩
              · have hgd : decide (v0 + d < 0) = true := decide_eq_true g1
                replace g2 := Lib.hid g2
                replace g3 := Lib.hid g3
                go_wp2_with fail
                refine (ord_add o2.out (i : Int) d hdb).mono ?_
                rintro e U2 ⟨rfl, o3, _⟩
                rw [g2.out]
                rw [g3.out] at o3
                replace o3 := Lib.hid o3
                go_wp2_with fail
                refine (ord_add' o3.out (i : Int) d hdb).mono ?_
                rintro e U3 ⟨rfl, o4, _⟩
                rw [g2.out]
                rw [g3.out] at o4
                replace o4 := Lib.hid o4
                clear cw fw
                go_wp2_with fail
                go_roundw
                case rel => exact ⟨t + 1, _, by omega, by go_num, hzl.out, o4.out⟩
                case measure => simp [intOf]; omega
              · have hgd : decide (v0 + d < 0) = false := decide_eq_false (by omega)
                replace g2 := Lib.hid g2
                replace g3 := Lib.hid g3
                go_wp2_with fail
                refine (ord_add hset.out (i : Int) d hdb).mono ?_
                rintro e U2 ⟨rfl, o3, _⟩
                rw [g2.out]
                rw [g3.out] at o3
                replace o3 := Lib.hid o3
                go_wp2_with fail
                refine (ord_add' o3.out (i : Int) d hdb).mono ?_
                rintro e U3 ⟨rfl, o4, _⟩
                rw [g2.out]
                rw [g3.out] at o4
                replace o4 := Lib.hid o4
                clear cw fw
                go_wp2_with fail
                go_roundw
                case rel => exact ⟨t + 1, _, by omega, by go_num, by rw [List.length_set]; exact hzl.out, o4.out⟩
                case measure => simp [intOf]; omega
            · have hdd : decide (0 ≤ d) = true := decide_eq_true (by omega)
              replace o2 := Lib.hid o2
              go_wp2_with fail
              go_roundw
              case rel => exact ⟨t + 1, _, by omega, by go_num, hzl.out, o2.out⟩
              case measure => simp [intOf]; omega
        · have t1 : ¬ (t : Int) < (k : Int) := by omega
          replace hO := Lib.hid hO
          replace hzl := Lib.hid hzl
          go_wp2_with fail
          go_loopw [17] (fun v17 w3 => ∃ r : Nat, r ≤ m ∧ v17 = .int .i64 (r : Int) ∧ Ord w w3 c cb nb c' cb' nb' D zs zs zs) (fun v17 _ => m - (intOf v17).toNat)
          case atStart => exact ⟨0, by omega, rfl, hO.out⟩
          case round =>
            clear hO
            obtain ⟨r, hr, rfl, o2⟩ := hrel
            by_cases hlt3 : r < m
            · have r0 : (0 : Int) ≤ (r : Int) := by omega
              have r1 : (r : Int) < (m : Int) := by omega
              have hrl : r < zs.length := by rw [hzl.out]; exact hlt3
              have hgz : getZ zs (r : Int) = zs[r]?.getD 0 := getZ_nat zs r
              obtain ⟨v0, hv0⟩ : ∃ v, zs[r]?.getD 0 = v := ⟨_, rfl⟩
              have hcw : ∀ W, Ord w W c cb nb c' cb' nb' D zs zs zs → W.cell? ⟨D, r, none⟩ = some (.int .i64 v0) := fun W h => by rw [← hv0]; exact h.blk.cell r (RwK.at hrl)
              rw [hv0] at hgz
              have c1 := hcw _ o2
              have OD := o2.keep (bel_drew (Below.refl wr.heap.size wr))
              have c2 := hcw _ OD
              replace OD := Lib.hid OD
              replace hgz := Lib.hid hgz
              replace hcw := Lib.hid hcw
              clear hv0 hrl o2
              go_wp2_with fail
              go_cut [194] (fun v wx => v = .bool false ∧ Ord w wx c cb nb c' cb' nb' D zs zs zs)
              case first =>
                go_region_held3 (fun w' => w'.cell? ⟨D, r, none⟩ = some (.int .i64 v0))
                  (first | assumption)
                  (first
                    | (go_at_call_of 20 (some (⟨c, 0, none⟩ : Addr)); refine (get_has _ _ OD.out.two.fst.has).mono ?_; rintro e w4 ⟨rfl, rfl⟩; rw [hgz.out])
                    | (go_at_call_of 20 (some (⟨c', 0, none⟩ : Addr)); refine (get_has _ _ OD.out.two.snd.has).mono ?_; rintro e w4 ⟨rfl, rfl⟩; rw [hgz.out])
                    | (go_at_call_of 15 (some (⟨c, 0, none⟩ : Addr)); refine (prefix_has _ _ OD.out.two.fst.has).mono ?_; rintro e w5 ⟨rfl, hb5⟩; have O5 := OD.out.keep hb5; have c5 := hcw.out _ O5; clear OD; have OD := Lib.hid O5; clear O5 hb5)
                    | (go_at_call_of 15 (some (⟨c', 0, none⟩ : Addr)); refine (prefix_has _ _ OD.out.two.snd.has).mono ?_; rintro e w6 ⟨rfl, hb5⟩; have O5 := OD.out.keep hb5; have c6 := hcw.out _ O5; clear OD; have OD := Lib.hid O5; clear O5 hb5))
                all_goals (go_wp2_with fail; go_meet; exact ⟨by simp, OD.out⟩)
              case rest =>
                obtain ⟨rfl, o4⟩ := hcut
                replace o4 := Lib.hid o4
                clear c1 c2 OD
                go_wp2_with fail
                go_roundw
                case rel => exact ⟨r + 1, by omega, by go_num, o4.out⟩
                case measure => simp [intOf]; omega
            · have r1 : ¬ (r : Int) < (m : Int) := by omega
              replace o2 := Lib.hid o2
              go_wp2_with fail
              refine (total_has o2.out.two.fst.has).mono ?_
              rintro e w4 ⟨rfl, rfl⟩
              go_wp2_with fail
              refine (total_has o2.out.two.snd.has).mono ?_
              rintro e w4 ⟨rfl, rfl⟩
              go_wp2_with fail
              refine (works_any _).mono ?_
              rintro e w5 ⟨rfl, hb5⟩
              replace hb5 := Lib.hid hb5
              go_wp2_with fail
              go_ret
              exact ⟨ret_bool (by simp), bel_trans o2.out.bel hb5.out⟩

set_option maxRecDepth 100000 in
set_option maxHeartbeats 4000000 in
theorem order_walk (w : World) (n : Int) (hn : (Lit.int .u8 n).wf = true) (a : Option Addr) (len cap : Nat) (G : Nat → Nat → Int) (_hlc : len ≤ cap) (_hcm : cap ≤ maxLen) (hl : RT w.heap.size w Kp a len G) :
    Calls Try.prog 7 #[.int .u8 n, .slice a len cap] w fun e w' => e = .returned (.bool true) ∧ Below w.heap.size w w' := by
  obtain ⟨n0, n1⟩ := u8_range hn
  by_cases h : 300 < len
  · have hd2 : decide ((300 : Int) < (len : Int)) = true := decide_eq_true (by omega)
    go_enter Try.func7, Try.ntmps7
    go_wp2_with fail
    refine (works_any _).mono ?_
    rintro e w9 ⟨rfl, hb9⟩
    replace hb9 := Lib.hid hb9
    go_wp2_with fail
    go_ret
    exact ⟨rfl, hb9.out⟩
  · exact order_mid w n n0 n1 a len cap G hl (by omega)

end Go.Proofs.Ytooppkpaahmnhaa
