import Derived.Test.YthkjnpbbgfagkaaDoorAwk
import Derived.Test.YthkjnpbbgfagkaaDoorSame
set_option linter.unusedVariables false
set_option linter.unusedSimpArgs false
namespace Go.Proofs.YthkjnpbbgfagkaaDoor
open Go.RowKit Go.Maps

set_option maxRecDepth 100000 in
set_option maxHeartbeats 1000000 in
theorem Reads_any (A : Option Addr) (n c : Nat) (bs : List UInt8) (w : World) (hs : Sl 1 w A n (bys bs)) (hc : n ≤ c) (ht : Tab w) (h0 : 0 < w.heap.size) :
    Calls Tryd.prog 4 #[.slice A n c] w fun e w' => e = .returned (.bool true) ∧ Below w.heap.size w w' := by
  have hm := hs.max
  go_enter Tryd.func4, Tryd.ntmps4
  by_cases hn : n ≤ 2000
  · go_wp2_with fail
    refine (All_any _ _ _ _ _ hs (by omega) hc ht h0).mono ?_
    rintro e w1 ⟨v1, rfl, hown1, hb1⟩
    generalize hR : allR n bs = R at hown1
    have HR := Lib.hid hR
    clear hR
    have hs1 := hs.below hb1
    have HB1 := Lib.hid hb1
    clear hb1
    obtain ⟨A1, k1, rfl, hk1, hl1, _, _⟩ := own_sl hown1
    clear hown1
    go_wp2_with fail
    refine (RAll_any _ _ _ _ _ hs1 (by omega) hc).mono ?_
    rintro e w2 ⟨v2, rfl, hown2, hb2⟩
    rw [HR.out] at hown2 ⊢
    have hl2 := hl1.below hb2
    have HB2 := Lib.hid (HB1.out.trans (hb2.mono HB1.out.size))
    clear hb2 hl1 hs1
    obtain ⟨A2, k2, rfl, hk2, hl3, _, _⟩ := own_sl hown2
    clear hown2
    go_wp2_with fail
    refine (same_any _ _ _ _ _ _ _ _ _ hl2 hl3).mono ?_
    rintro e w3 ⟨rfl, hb3⟩
    rw [decide_eq_true rfl]
    have HB3 := Lib.hid (HB2.out.trans (hb3.mono HB2.out.size))
    clear hb3 hl2 hl3
    go_wp2_with fail
    refine (awake_any _ (ht.below h0 HB3.out) (Nat.lt_of_lt_of_le h0 HB3.out.size)).mono ?_
    rintro e w4 ⟨rfl, hb4⟩
    have HB4 := Lib.hid (HB3.out.trans (hb4.mono HB3.out.size))
    clear hb4
    go_wp2_with fail
    go_ret
    exact ⟨rfl, HB4.out⟩
  · go_wp2_with fail
    refine (awake_any _ ht h0).mono ?_
    rintro e w4 ⟨rfl, hb4⟩
    have HB4 := Lib.hid hb4
    clear hb4
    go_wp2_with fail
    go_ret
    exact ⟨rfl, HB4.out⟩
end Go.Proofs.YthkjnpbbgfagkaaDoor
