/- MsortChecks: the walk. -/
import Derived.Test.YtcejgnnkjomjlaaLso
namespace Go.Proofs.Ytcejgnnkjomjlaa
open Go.RowKit

set_option maxHeartbeats 8000000 in
theorem msortchecks_walk (w : World) (a : Option Addr) (n cap : Nat) (l : List R4) (k : Int) (hn : l.length = n) (hV : VR w (.slice a n cap) l) :
    Calls Try.prog 5 #[.slice a n cap, .int .i64 k] w fun e w' => e = .returned (.bool true) ∧ Below w.heap.size w w' := by
  have hB := Lib.hid (Below.refl w.heap.size w)
  by_cases h200 : 200 < n
  · have hd : decide ((200 : Int) < (n : Int)) = true := decide_eq_true (by omega)
    clear hn hV
    go_enter Try.func5, Try.ntmps5
    go_wp2_with fail
    go_ret
    exact ⟨rfl, hB.out⟩
  have hd : decide ((200 : Int) < (n : Int)) = false := decide_eq_false (by omega)
  have hm : l.length ≤ 70000 := by omega
  obtain ⟨E, hE⟩ : ∃ E, errK l.length k = E := ⟨_, rfl⟩
  replace hV := Lib.hid hV
  replace hn := Lib.hid hn
  go_enter Try.func5, Try.ntmps5
  go_wp2_with fail
  refine (srt_uni _ _ l k hV.out).mono ?_
  rintro e w1 ⟨rfl, hb1⟩
  replace hV := Lib.hid (hV.out.below hb1)
  replace hB := Lib.hid (bel_trans hB.out hb1)
  clear hb1
  go_wp2_with fail
  refine (rsrt_uni _ _ l k hm hV.out).mono ?_
  rintro e w2 ⟨rfl, hb2⟩
  replace hV := Lib.hid (hV.out.below hb2)
  replace hB := Lib.hid (bel_trans hB.out hb2)
  clear hb2
  go_wp2_with fail
  refine (invs_uni _ _ l k hV.out).mono ?_
  rintro e w3 ⟨rfl, hb3⟩
  replace hV := Lib.hid (hV.out.below hb3)
  replace hB := Lib.hid (bel_trans hB.out hb3)
  clear hb3
  go_wp2_with fail
  refine (rinvs_uni _ _ l k hm hV.out).mono ?_
  rintro e w4 ⟨rfl, hb4⟩
  replace hV := Lib.hid (hV.out.below hb4)
  replace hB := Lib.hid (bel_trans hB.out hb4)
  clear hb4
  rw [hE]
  obtain ⟨s, hs⟩ : ∃ s, srtK k l = s := ⟨_, rfl⟩
  obtain ⟨v, hv⟩ : ∃ v : Int, ((invK k l : Nat) : Int) = v := ⟨_, rfl⟩
  rw [hs, hv]
  clear hs hv hE hV
  have h1 : (s == s) = true := by simp
  have h2 : (E == E) = true := by simp
  have h3 : (v == v) = true := by simp
  go_wp2_with fail
  refine (works_any _).mono ?_
  rintro e w5 ⟨rfl, hb5⟩
  replace hB := Lib.hid (bel_trans hB.out hb5)
  clear hb5
  go_wp2_with fail
  go_ret
  exact ⟨rfl, hB.out⟩
theorem msortchecks_row (w : World) (a : Option Addr) (len cap : Nat) (G : Nat → Nat → Int) (hc : len ≤ cap) (_hm : cap ≤ maxLen) (h : RT w.heap.size w recK a len G) (k : Int) (_hk : (Lit.int .i64 k).wf = true) :
    Calls Try.prog 5 #[.slice a len cap, .int .i64 k] w fun e w' => e = .returned (.bool true) ∧ Below w.heap.size w w' := by
  obtain ⟨l, hl, hv⟩ := open_recs hc h
  exact msortchecks_walk w a len cap l k hl hv
end Go.Proofs.Ytcejgnnkjomjlaa
