import Derived.Test.YthkjnpbbgfagkaaDoorAwk
import Derived.Test.YthkjnpbbgfagkaaDoorRSho
set_option linter.unusedVariables false
set_option linter.unusedSimpArgs false
namespace Go.Proofs.YthkjnpbbgfagkaaDoor
open Go.RowKit Go.Maps

set_option maxRecDepth 100000 in
set_option maxHeartbeats 1000000 in
theorem Opens_any (A : Option Addr) (n c : Nat) (l : List Rec) (w : World) (hs : Sl 4 w A n (encs l)) (ht : Tab w) (h0 : 0 < w.heap.size) :
    Calls Tryd.prog 5 #[.slice A n c] w fun e w' => e = .returned (.bool true) ∧ Below w.heap.size w w' := by
  have HL := Lib.hid hs.recs
  go_enter Tryd.func5, Tryd.ntmps5
  by_cases hl : lightR l
  · have hn : n ≤ 40 := by have := hl.1; have := HL.out; omega
    have HLL := Lib.hid (decide_eq_true hl)
    clear hl
    go_wp2_with fail
    refine (light_any _ _ _ _ _ hs).mono ?_
    rintro e w1 ⟨rfl, hb1⟩
    rw [HLL.out]
    have hs1 := hs.below hb1
    have HB1 := Lib.hid hb1
    clear hb1
    go_wp2_with fail
    refine (mine_any _ _ _ _ _ hs1 (by omega)).mono ?_
    rintro e w2 ⟨v2, rfl, hown2, hb2⟩
    obtain ⟨A2, k2, rfl, hk2, hl2, _, _⟩ := own_sl hown2
    have hs2 := hs1.below hb2
    have HB2 := Lib.hid (HB1.out.trans (hb2.mono HB1.out.size))
    clear hb2 hown2
    go_wp2_with fail
    refine (Opn_any _ _ _ _ _ hl2 (by omega)).mono ?_
    rintro e w3 ⟨v3, rfl, hown3, hb3⟩
    obtain ⟨A3, k3, rfl, hk3, hl3, _, _⟩ := own_sl hown3
    have hs3 := hs2.below hb3
    have HB3 := Lib.hid (HB2.out.trans (hb3.mono HB2.out.size))
    clear hb3 hown3 hl2
    go_wp2_with fail
    refine (ROpenL_any _ _ _ _ _ hs3 (by omega)).mono ?_
    rintro e w4 ⟨v4, rfl, hown4, hb4⟩
    obtain ⟨A4, k4, rfl, hk4, hl4, _, _⟩ := own_sl hown4
    have hs4 := hs3.below hb4
    have hl5 := hl3.below hb4
    have HB4 := Lib.hid (HB3.out.trans (hb4.mono HB3.out.size))
    clear hb4 hown4 hl3
    go_wp2_with fail
    refine (same_any _ _ _ _ _ _ _ _ _ hl5 hl4).mono ?_
    rintro e w5 ⟨rfl, hb5⟩
    rw [decide_eq_true rfl]
    have hs5 := hs4.below hb5
    have HB5 := Lib.hid (HB4.out.trans (hb5.mono HB4.out.size))
    clear hb5 hl4 hl5
    go_wp2_with fail
    refine (mine_any _ _ _ _ _ hs5 (by omega)).mono ?_
    rintro e w6 ⟨v6, rfl, hown6, hb6⟩
    obtain ⟨A6, k6, rfl, hk6, hl6, _, _⟩ := own_sl hown6
    have hs6 := hs5.below hb6
    have HB6 := Lib.hid (HB5.out.trans (hb6.mono HB5.out.size))
    clear hb6 hown6
    go_wp2_with fail
    refine (Sho_any _ _ _ _ _ hl6 (by omega)).mono ?_
    rintro e w7 ⟨v7, rfl, hown7, hb7⟩
    obtain ⟨A7, k7, rfl, hk7, hl7, _, _⟩ := own_sl hown7
    have hs7 := hs6.below hb7
    have HB7 := Lib.hid (HB6.out.trans (hb7.mono HB6.out.size))
    clear hb7 hown7 hl6
    go_wp2_with fail
    refine (RSho_any _ _ _ _ _ hs7 (by omega)).mono ?_
    rintro e w8 ⟨v8, rfl, hown8, hb8⟩
    obtain ⟨A8, k8, rfl, hk8, hl8, _, _⟩ := own_sl hown8
    have hl9 := hl7.below hb8
    have HB8 := Lib.hid (HB7.out.trans (hb8.mono HB7.out.size))
    clear hb8 hown8 hl7
    go_wp2_with fail
    refine (same_any _ _ _ _ _ _ _ _ _ hl9 hl8).mono ?_
    rintro e w9 ⟨rfl, hb9⟩
    rw [decide_eq_true rfl]
    have HB9 := Lib.hid (HB8.out.trans (hb9.mono HB8.out.size))
    clear hb9 hl8 hl9 hs1 hs2 hs3 hs4 hs5 hs6 hs7
    go_wp2_with fail
    refine (awake_any _ (ht.below h0 HB9.out) (Nat.lt_of_lt_of_le h0 HB9.out.size)).mono ?_
    rintro e wA ⟨rfl, hbA⟩
    have HBA := Lib.hid (HB9.out.trans (hbA.mono HB9.out.size))
    clear hbA
    go_wp2_with fail
    go_ret
    exact ⟨rfl, HBA.out⟩
  · have HLL := Lib.hid (decide_eq_false hl)
    clear hl
    go_wp2_with fail
    refine (light_any _ _ _ _ _ hs).mono ?_
    rintro e w1 ⟨rfl, hb1⟩
    rw [HLL.out]
    have HB1 := Lib.hid hb1
    clear hb1
    go_wp2_with fail
    refine (awake_any _ (ht.below h0 HB1.out) (Nat.lt_of_lt_of_le h0 HB1.out.size)).mono ?_
    rintro e wA ⟨rfl, hbA⟩
    have HBA := Lib.hid (HB1.out.trans (hbA.mono HB1.out.size))
    clear hbA
    go_wp2_with fail
    go_ret
    exact ⟨rfl, HBA.out⟩
end Go.Proofs.YthkjnpbbgfagkaaDoor
