/- The walks of ClockExpires and ClockRises: loops over times. -/
import Derived.Test.YtcmhdapmecfokaaLiv
import Derived.Test.YtcmhdapmecfokaaBase
namespace Go.Proofs.Ytcmhdapmecfokaa
open Go.RowKit

theorem chk_zero {s now to : Int} (h : chk s now to = 0) : now ≤ to ∧ to + s ≤ 9223372036854775807 := by
  unfold chk at h
  split at h
  · omega
  · split at h <;> omega

/-- the time behind Advance -/
def nxt (s now to : Int) : Int := if chk s now to = 0 then to else now
theorem nxt_le {s now to : Int} (h : now + s ≤ 9223372036854775807) : now ≤ nxt s now to ∧ nxt s now to + s ≤ 9223372036854775807 := by
  unfold nxt
  split
  · rename_i h1; exact chk_zero h1
  · omega

/-- gone: it has expired -/
def Gone (s now t : Int) (g : Bool) : Prop := g = true → t ≤ now ∧ t + s ≤ now
theorem gone_next {s now m t : Int} {g p q : Bool} (h : Gone s now t g) (hp : liv s now t = p) (hq : liv s m t = q) (hm : now ≤ m) :
    Gone s m t (if p && !q then true else g) := by
  intro e
  cases g
  · cases p
    · simp at e
    · cases q
      · rw [liv, decide_eq_true_iff] at hp
        rw [liv, decide_eq_false_iff_not] at hq
        omega
      · simp at e
  · have := h rfl
    omega

set_option maxHeartbeats 2000000 in
theorem expires_core (n t s : Int) (a : Option Addr) (len cap : Nat) (zs : List Int) (w : World) (hn : -9223372036854775808 ≤ n ∧ n ≤ 9223372036854775807) (ht : -9223372036854775808 ≤ t ∧ t ≤ 9223372036854775807)
    (hz : RI w.heap.size w .i64 a len zs) (hlen : len ≤ 200)
    (es : spn n = s) (hs : 0 < s) (hs' : s ≤ 9223372036854775807) :
    Calls Try.prog 4 #[.int .i64 n, .int .i64 t, .slice a len cap] w fun e w' => e = .returned (.bool true) ∧ Below w.heap.size w w' := by
  have a0 := cell0 w s 0
  have a1 := cell1 w s 0
  have HS := Lib.hid es
  clear es
  go_enter Try.func4, Try.ntmps4
  go_wp2_with fail
  refine (span_any n s _ hn HS.out).mono ?_
  rintro e w' ⟨rfl, rfl⟩
  go_wp2_with fail
  refine (new_yes s _ (by omega)).mono ?_
  rintro e w' ⟨rfl, rfl⟩
  go_wp2_with fail
  refine (live_any _ s 0 t _ hs hs' ht a0 a1).mono ?_
  rintro e w' ⟨rfl, rfl⟩
  clear a0 a1
  go_wp2_with fail
  go_loopw [9, 10, 11] (fun v9 v10 v11 wr => ∃ (k : Nat) (now : Int) (g : Bool), k ≤ len ∧ v11 = .int .i64 k ∧ v9 = .bool (liv s now t) ∧ v10 = .bool g ∧ 0 ≤ now ∧ now + s ≤ 9223372036854775807 ∧
      Gone s now t g ∧ wr = w.alloc (.cells #[.int .i64 s, .int .i64 now] 50)) (fun _ _ v11 _ => len - (intOf v11).toNat)
  case atStart => exact ⟨0, 0, false, by omega, rfl, rfl, rfl, by omega, by omega, fun h => (by cases h), rfl⟩
  case round =>
    obtain ⟨k, now, g, hk, rfl, rfl, rfl, h0, h1, hg, rfl⟩ := hrel
    by_cases hlt : k < len
    · obtain ⟨b, off, rfl, hb, hc⟩ := hz.2.2 (by omega)
      have hx : (w.alloc (.cells #[.int .i64 s, .int .i64 now] 50)).cell? ⟨b, off + k, none⟩ = some (.int .i64 (zs[k]?.getD 0)) := by
        rw [World.cell?_alloc_past _ _ _ hb]; exact hc k hlt
      have hr := bounds_i64 (getD_wf hz.2.1 k (by rw [hz.1]; exact hlt))
      obtain ⟨x, hxe⟩ : ∃ x, zs[k]?.getD 0 = x := ⟨_, rfl⟩
      rw [hxe] at hx hr
      clear hxe hc
      have hadv := adv_any s now x w hs hs' hr
      obtain ⟨m, hm⟩ : ∃ m, nxt s now x = m := ⟨_, rfl⟩
      have hm2 := nxt_le (s := s) (now := now) (to := x) h1
      rw [show (if chk s now x = 0 then x else now) = m from hm] at hadv
      rw [hm] at hm2
      have HA := Lib.hid hadv
      clear hadv hm
      obtain ⟨m1, m2⟩ := hm2
      have a0 := cell0 w s now
      have a1 := cell1 w s now
      have b0 := cell0 w s m
      have b1 := cell1 w s m
      have l1 : liv s now now = true := by rw [liv, decide_eq_true (by omega)]
      have l2 : liv s m now = decide (m < now + s) := by rw [liv, decide_eq_decide]; omega
      go_wp2_with fail
      refine (now_any _ s now _ hs a0 a1).mono ?_
      rintro e w' ⟨rfl, rfl⟩
      go_wp2_with fail
      refine (expiry_ok _ s now _ hs hs' (by omega) a0 (by omega)).mono ?_
      rintro e w' ⟨rfl, rfl⟩
      go_wp2_with fail
      refine (live_any _ s now now _ hs hs' (by omega) a0 a1).mono ?_
      rintro e w' ⟨rfl, rfl⟩
      go_wp2_with fail
      refine HA.out.mono ?_
      rintro e w' ⟨rfl, rfl⟩
      go_wp2_with fail
      refine (live_any _ s m now _ hs hs' (by omega) b0 b1).mono ?_
      rintro e w' ⟨rfl, rfl⟩
      go_wp2_with fail
      refine (now_any _ s m _ hs b0 b1).mono ?_
      rintro e w' ⟨rfl, rfl⟩
      go_wp2_with fail
      refine (live_any _ s m t _ hs hs' (by omega) b0 b1).mono ?_
      rintro e w' ⟨rfl, rfl⟩
      cases g
      all_goals
        cases hP : liv s now t
        all_goals
          cases hQ : liv s m t
      all_goals
        first
        | (exfalso
           have hg2 := hg rfl
           have hq := hQ
           rw [liv, decide_eq_true_iff] at hq
           omega)
        | (go_wp2
           go_roundw
           case rel => exact ⟨k + 1, m, _, by omega, by go_num, by rw [hQ], rfl, by omega, by omega, gone_next hg hP hQ m1, rfl⟩
           case measure => simp [intOf]; omega)
    · obtain rfl : k = len := by omega
      go_wp2_with fail
      refine (works_any _).mono ?_
      rintro e w' ⟨rfl, hb⟩
      go_wp2
      go_ret
      exact ⟨rfl, bel_works hb⟩

theorem expires_long (n t : Int) (a : Option Addr) (len cap : Nat) (w : World) (hlen : 200 < len) (hm : len ≤ 9223372036854775807) :
    Calls Try.prog 4 #[.int .i64 n, .int .i64 t, .slice a len cap] w fun e w' => e = .returned (.bool true) ∧ Below w.heap.size w w' := by
  go_enter Try.func4, Try.ntmps4
  go_wp2_with fail
  refine (works_any _).mono ?_
  rintro e w' ⟨rfl, hb⟩
  go_wp2
  go_ret
  exact ⟨rfl, hb⟩

/-- ClockExpires returns true at every input; nothing that existed has changed. -/
theorem expires_walk (w_ : World) (n : Int) (w0 : (Lit.int .i64 n).wf = true) (t : Int) (w1 : (Lit.int .i64 t).wf = true) (a : Option Addr) (len cap : Nat) (zs : List Int) (hz : IsRow .i64 w_ a len cap zs) (y : len * 8 ≤ 140737488351232) :
    Calls Try.prog 4 #[.int .i64 n, .int .i64 t, .slice a len cap] w_ fun e w' => e = .returned (.bool true) ∧ Below w_.heap.size w_ w' := by
  by_cases hl : 200 < len
  · exact expires_long n t a len cap w_ hl (by omega)
  · exact expires_core n t _ a len cap _ w_ (bounds_i64 w0) (bounds_i64 w1) hz.ri (by omega) rfl (spn_pos n) (spn_le n (bounds_i64 w0))

set_option maxHeartbeats 2000000 in
theorem rises_core (n s : Int) (a : Option Addr) (len cap : Nat) (zs : List Int) (w : World) (hn : -9223372036854775808 ≤ n ∧ n ≤ 9223372036854775807)
    (hz : RI w.heap.size w .i64 a len zs) (hlen : len ≤ 200)
    (es : spn n = s) (hs : 0 < s) (hs' : s ≤ 9223372036854775807) :
    Calls Try.prog 7 #[.int .i64 n, .slice a len cap] w fun e w' => e = .returned (.bool true) ∧ Below w.heap.size w w' := by
  have a0 := cell0 w s 0
  have a1 := cell1 w s 0
  have HS := Lib.hid es
  clear es
  go_enter Try.func7, Try.ntmps7
  go_wp2_with fail
  refine (span_any n s _ hn HS.out).mono ?_
  rintro e w' ⟨rfl, rfl⟩
  go_wp2_with fail
  refine (new_yes s _ (by omega)).mono ?_
  rintro e w' ⟨rfl, rfl⟩
  go_wp2_with fail
  refine (now_any _ s 0 _ hs a0 a1).mono ?_
  rintro e w' ⟨rfl, rfl⟩
  go_wp2_with fail
  refine (window_any _ s _ hs a0).mono ?_
  rintro e w' ⟨rfl, rfl⟩
  go_wp2_with fail
  refine (span_any n s _ hn HS.out).mono ?_
  rintro e w' ⟨rfl, rfl⟩
  clear a0 a1
  go_wp2_with fail
  go_loopw [7, 8] (fun v7 v8 wr => ∃ (k : Nat) (now : Int), k ≤ len ∧ v8 = .int .i64 k ∧ v7 = .int .i64 now ∧ 0 ≤ now ∧ now + s ≤ 9223372036854775807 ∧
      wr = w.alloc (.cells #[.int .i64 s, .int .i64 now] 50)) (fun _ v8 _ => len - (intOf v8).toNat)
  case atStart => exact ⟨0, 0, by omega, rfl, rfl, by omega, by omega, rfl⟩
  case round =>
    obtain ⟨k, now, hk, rfl, rfl, h0, h1, rfl⟩ := hrel
    by_cases hlt : k < len
    · obtain ⟨b, off, rfl, hb, hc⟩ := hz.2.2 (by omega)
      obtain ⟨x, hxe⟩ : ∃ x, zs[k]?.getD 0 = x := ⟨_, rfl⟩
      have hr := bounds_i64 (getD_wf hz.2.1 k (by rw [hz.1]; exact hlt))
      have hcx := hc k hlt
      rw [hxe] at hr hcx
      have hcell : ∀ v, (w.alloc (.cells #[.int .i64 s, .int .i64 v] 50)).cell? ⟨b, off + k, none⟩ = some (.int .i64 x) := fun v => by
        rw [World.cell?_alloc_past _ _ _ hb]; exact hcx
      have hx := hcell now
      have a0 := cell0 w s now
      have a1 := cell1 w s now
      have e0 : chk s now now = 0 := by unfold chk; rw [if_neg (by omega), if_neg (by omega)]
      have HA := Lib.hid (adv_any s now x w hs hs' hr)
      have HB := Lib.hid (adv_any s now now w hs hs' (by omega))
      have hA := HA.out
      rw [show chk s now now = 0 from e0, if_pos rfl] at HB
      clear hc hxe hcx
      by_cases c1 : x < now
      · have e1 : chk s now x = 10 := by unfold chk; rw [if_pos c1]
        have d1 : decide (x < now) = true := decide_eq_true c1
        rw [e1, if_neg (by omega)] at hA
        clear HA hcell
        have HA := Lib.hid hA
        clear hA
        go_wp2_with fail
        refine (check_any _ s now x _ hs hs' hr a0 a1).mono ?_
        rintro e w' ⟨rfl, rfl⟩
        go_wp2_with fail
        refine HA.out.mono ?_
        rintro e w' ⟨rfl, rfl⟩
        go_wp2_with fail
        refine (now_any _ s now _ hs a0 a1).mono ?_
        rintro e w' ⟨rfl, rfl⟩
        go_wp2_with fail
        refine (check_any _ s now now _ hs hs' (by omega) a0 a1).mono ?_
        rintro e w' ⟨rfl, rfl⟩
        go_wp2_with fail
        refine HB.out.mono ?_
        rintro e w' ⟨rfl, rfl⟩
        go_wp2_with fail
        refine (now_any _ s now _ hs a0 a1).mono ?_
        rintro e w' ⟨rfl, rfl⟩
        go_wp2
        go_roundw
        case rel => exact ⟨k + 1, now, by omega, by go_num, rfl, by omega, by omega, rfl⟩
        case measure => simp [intOf]; omega
      · have d1 : decide (x < now) = false := decide_eq_false c1
        by_cases c2 : 9223372036854775807 < x + s
        · have e1 : chk s now x = 7 := by unfold chk; rw [if_neg c1, if_pos c2]
          rw [e1, if_neg (by omega)] at hA
          clear HA hcell
          have HA := Lib.hid hA
          clear hA
          go_wp2_with fail
          refine (check_any _ s now x _ hs hs' hr a0 a1).mono ?_
          rintro e w' ⟨rfl, rfl⟩
          go_wp2_with fail
          refine HA.out.mono ?_
          rintro e w' ⟨rfl, rfl⟩
          go_wp2_with fail
          refine (now_any _ s now _ hs a0 a1).mono ?_
          rintro e w' ⟨rfl, rfl⟩
          go_wp2_with fail
          refine (check_any _ s now now _ hs hs' (by omega) a0 a1).mono ?_
          rintro e w' ⟨rfl, rfl⟩
          go_wp2_with fail
          refine HB.out.mono ?_
          rintro e w' ⟨rfl, rfl⟩
          go_wp2_with fail
          refine (now_any _ s now _ hs a0 a1).mono ?_
          rintro e w' ⟨rfl, rfl⟩
          go_wp2
          go_roundw
          case rel => exact ⟨k + 1, now, by omega, by go_num, rfl, by omega, by omega, rfl⟩
          case measure => simp [intOf]; omega
        · have e1 : chk s now x = 0 := by unfold chk; rw [if_neg c1, if_neg c2]
          have e2 : chk s x x = 0 := by unfold chk; rw [if_neg (by omega), if_neg (by omega)]
          rw [e1, if_pos rfl] at hA
          have hy := hcell x
          have b0 := cell0 w s x
          have b1 := cell1 w s x
          have hB := adv_any s x x w hs hs' hr
          rw [e2, if_pos rfl] at hB
          clear HA hcell HB
          have HA := Lib.hid hA
          have HB := Lib.hid hB
          clear hA hB
          go_wp2_with fail
          refine (check_any _ s now x _ hs hs' hr a0 a1).mono ?_
          rintro e w' ⟨rfl, rfl⟩
          go_wp2_with fail
          refine HA.out.mono ?_
          rintro e w' ⟨rfl, rfl⟩
          go_wp2_with fail
          refine (now_any _ s x _ hs b0 b1).mono ?_
          rintro e w' ⟨rfl, rfl⟩
          go_wp2_with fail
          refine (check_any _ s x x _ hs hs' (by omega) b0 b1).mono ?_
          rintro e w' ⟨rfl, rfl⟩
          go_wp2_with fail
          refine HB.out.mono ?_
          rintro e w' ⟨rfl, rfl⟩
          go_wp2_with fail
          refine (now_any _ s x _ hs b0 b1).mono ?_
          rintro e w' ⟨rfl, rfl⟩
          go_wp2
          go_roundw
          case rel => exact ⟨k + 1, x, by omega, by go_num, rfl, by omega, by omega, rfl⟩
          case measure => simp [intOf]; omega
    · obtain rfl : k = len := by omega
      go_wp2_with fail
      refine (works_any _).mono ?_
      rintro e w' ⟨rfl, hb⟩
      go_wp2
      go_ret
      exact ⟨rfl, bel_works hb⟩

theorem rises_long (n : Int) (a : Option Addr) (len cap : Nat) (w : World) (hlen : 200 < len) (hm : len ≤ 9223372036854775807) :
    Calls Try.prog 7 #[.int .i64 n, .slice a len cap] w fun e w' => e = .returned (.bool true) ∧ Below w.heap.size w w' := by
  go_enter Try.func7, Try.ntmps7
  go_wp2_with fail
  refine (works_any _).mono ?_
  rintro e w' ⟨rfl, hb⟩
  go_wp2
  go_ret
  exact ⟨rfl, hb⟩

/-- ClockRises returns true at every input; nothing that existed has changed. -/
theorem rises_walk (w_ : World) (n : Int) (w0 : (Lit.int .i64 n).wf = true) (a : Option Addr) (len cap : Nat) (zs : List Int) (hz : IsRow .i64 w_ a len cap zs) (y : len * 8 ≤ 140737488351232) :
    Calls Try.prog 7 #[.int .i64 n, .slice a len cap] w_ fun e w' => e = .returned (.bool true) ∧ Below w_.heap.size w_ w' := by
  by_cases hl : 200 < len
  · exact rises_long n a len cap w_ hl (by omega)
  · exact rises_core n _ a len cap _ w_ (bounds_i64 w0) hz.ri (by omega) rfl (spn_pos n) (spn_le n (bounds_i64 w0))

end Go.Proofs.Ytcmhdapmecfokaa
