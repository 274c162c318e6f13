import Derived.Test.YthkjnpbbgfagkaaDoorL6A
set_option linter.unusedVariables false
set_option linter.unusedSimpArgs false
namespace Go.Proofs.YthkjnpbbgfagkaaDoor
open Go.RowKit Go.Maps
attribute [local go_sem] max2_I min2_I max_two_I min_two_I

set_option maxRecDepth 100000 in
set_option maxHeartbeats 2000000 in
theorem Torn_any (A : Option Addr) (n c : Nat) (l : List Rec) (cut : Int) (w : World) (hs : Sl 4 w A n (encs l)) (ht : Tab w) (h0 : 0 < w.heap.size) :
    Calls Tryd.prog 6 #[.slice A n c, .int .i64 cut] w fun e w' => e = .returned (.bool true) ∧ Below w.heap.size w w' := by
  have HL := Lib.hid hs.recs
  obtain ⟨i0, hi, hz0, hz1, hz2⟩ := info_parts info23
  obtain ⟨j0, ji, jz0, jz1, jz2⟩ := info_parts info5
  go_enter Tryd.func6, Tryd.ntmps6
  by_cases hl : lightR l
  · have hn : n ≤ 40 := by have := hl.1; have := HL.out; omega
    have HLL := Lib.hid (decide_eq_true hl)
    clear hl
    go_wp2_with fail
    refine (light_any _ _ _ _ _ hs).mono ?_
    rintro e w1 ⟨rfl, hb1⟩
    rw [HLL.out]
    have hs1 := hs.below hb1
    have HB1 := Lib.hid hb1
    clear hb1
    go_wp2_with fail
    refine (bytes_any _ _ _ _ _ hs1 hn).mono ?_
    rintro e w2 ⟨v2, v2', rfl, hown2, hown2', hb2⟩
    have HB2 := Lib.hid (HB1.out.trans (hb2.mono HB1.out.size))
    have hbl := bytL_len l
    have hml := mayL_len l
    rw [HL.out] at hbl hml
    obtain ⟨q, hq, hqL⟩ := cut_nat cut (bytL l).length
    obtain ⟨j, hj, hall, hNq, hnext⟩ := torn (mayL l) q q (mayL_may l) hqL (Nat.le_refl _)
    have hbt := bytL_take (l := l) (j)
    have hmt := mayL_take (l := l) (j)
    have hbt1 := bytL_take (l := l) (j + 1)
    have hbe : j = (mayL l).length → (flat ((mayL l).take j)).length = (bytL l).length := fun e => by rw [e, List.take_length]; rfl
    rw [← bytL_flat] at hall
    have hNl : (flat ((mayL l).take j)).length ≤ 274 * n := by rw [← hbt]; have := bytL_len ((mayL l).take j); rw [List.length_take] at this; omega
    have htl : ((mayL l).take j).length = j := by rw [List.length_take]; omega
    have htl1 : j < (mayL l).length → ((mayL l).take (j + 1)).length = j + 1 := fun h => by rw [List.length_take]; omega
    generalize bytL l = B at *
    generalize mayL l = own at *
    generalize hN : (flat (own.take j)).length = N at *
    have HQ := Lib.hid hq
    have HALL := Lib.hid hall
    have HBT := Lib.hid hbt
    have HMT := Lib.hid hmt
    have HBT1 := Lib.hid hbt1
    have HBE := Lib.hid hbe
    have HNX := Lib.hid hnext
    have HN := Lib.hid hN
    have HTL := Lib.hid htl
    have HTL1 := Lib.hid htl1
    obtain ⟨A2, k2, rfl, hk2, hl2, _, _⟩ := own_sl hown2
    obtain ⟨A3, k3, rfl, hk3, hl3, _, _⟩ := own_sl hown2'
    clear hq hall hbt hmt hbt1 hbe hnext hN htl htl1 hown2 hown2' hb2 hs1
    have hsc : ∀ w : World, (Instr.slice 27 (.slice A2 B.length k2) none (some (.int .i64 (mxI 0 (mnI cut B.length)))) none).run Tryd.prog w = .ok (.slice (subAt A2 0 k2 1) q k2) w := fun w => run_slice_to under27 elem27 ji jz1 _ _ _ _ (by omega) _ _ HQ.out
    have hsj : ∀ w : World, (Instr.slice 25 (.slice A3 own.length k3) none (some (.int .i64 j)) none).run Tryd.prog w = .ok (.slice (subAt A3 0 k3 4) j k3) w := fun w => run_slice_to under25 elem25 hi hz1 _ _ _ _ (by omega) _ _ rfl
    have hp2 := hl2.pre1 hqL k2
    have hT2 := ht.below h0 HB2.out
    have h02 : 0 < w2.heap.size := Nat.lt_of_lt_of_le h0 HB2.out.size
    clear hl2
    go_wp2_with fail
    rw [HQ.out]
    refine (All_any _ _ _ _ _ hp2 (by omega) (by omega) hT2 h02).mono ?_
    rintro e w3 ⟨v3, rfl, hown3, hb3⟩
    rw [HALL.out] at hown3 ⊢
    simp only [HTL.out, HN.out] at hown3 ⊢
    have hl4 := hl3.below hb3
    have HB3 := Lib.hid (HB2.out.trans (hb3.mono HB2.out.size))
    obtain ⟨A4, k4, rfl, hk4, hl5, _, _⟩ := own_sl hown3
    clear hown3 hb3 hp2 hT2 hl3
    have hp4 := hl4.pre4 hj k3
    go_wp2_with fail
    refine (same_any _ _ _ _ _ _ _ _ _ hl5 hp4).mono ?_
    rintro e w4 ⟨rfl, hb4⟩
    rw [decide_eq_true rfl]
    have hl6 := hl4.below hb4
    have hp5 := hp4.below hb4
    have HB4 := Lib.hid (HB3.out.trans (hb4.mono HB3.out.size))
    clear hb4 hl5 hl4 hp4
    go_wp2_with fail
    refine (bytes_any _ _ _ _ _ hp5 (by omega)).mono ?_
    rintro e w5 ⟨v5, v5', rfl, hown5, hown5', hb5⟩
    rw [HBT.out, HN.out] at hown5
    have hl7 := hl6.below hb5
    have HB5 := Lib.hid (HB4.out.trans (hb5.mono HB4.out.size))
    obtain ⟨A5, k5, rfl, hk5, _, _, _⟩ := own_sl hown5
    clear hown5 hown5' hb5 hl6 hp5
    by_cases hjo : j = own.length
    · have hNB := HBE.out hjo
      subst hjo
      subst hNB
      go_wp2_with fail
      refine (awake_any _ (ht.below h0 HB5.out) (Nat.lt_of_lt_of_le h0 HB5.out.size)).mono ?_
      rintro e wA ⟨rfl, hbA⟩
      have HBA := Lib.hid (HB5.out.trans (hbA.mono HB5.out.size))
      clear hbA
      go_wp2_with fail
      go_ret
      exact ⟨rfl, HBA.out⟩
    · have hjl : j < own.length := by omega
      clear hjo
      have hp7 := hl7.pre4 (j := j + 1) (by omega) k3
      have hsj1 : ∀ w : World, (Instr.slice 25 (.slice A3 own.length k3) none (some (.int .i64 (j + 1))) none).run Tryd.prog w = .ok (.slice (subAt A3 0 k3 4) (j + 1) k3) w := fun w => run_slice_to under25 elem25 hi hz1 _ _ _ _ (by omega) _ _ (by omega)
      have hcn := HNX.out hjl
      have hbb := bytL_len (own.take (j + 1))
      rw [HBT1.out, HTL1.out hjl] at hbb
      generalize hM : (flat (own.take (j + 1))).length = M at hcn hbb
      have HM := Lib.hid hM
      clear hM hsj
      go_wp2_with fail
      refine (bytes_any _ _ _ _ _ hp7 (by omega)).mono ?_
      rintro e w6 ⟨v6, v6', rfl, hown6, hown6', hb6⟩
      rw [HBT1.out, HM.out] at hown6
      have HB6 := Lib.hid (HB5.out.trans (hb6.mono HB5.out.size))
      obtain ⟨A6, k6, rfl, hk6, _, _, _⟩ := own_sl hown6
      clear hown6 hown6' hb6 hl7 hp7
      go_wp2_with fail
      refine (awake_any _ (ht.below h0 HB6.out) (Nat.lt_of_lt_of_le h0 HB6.out.size)).mono ?_
      rintro e wA ⟨rfl, hbA⟩
      have HBA := Lib.hid (HB6.out.trans (hbA.mono HB6.out.size))
      clear hbA
      go_wp2_with fail
      go_ret
      exact ⟨rfl, HBA.out⟩
  · have HLL := Lib.hid (decide_eq_false hl)
    clear hl
    go_wp2_with fail
    refine (light_any _ _ _ _ _ hs).mono ?_
    rintro e w1 ⟨rfl, hb1⟩
    rw [HLL.out]
    have HB1 := Lib.hid hb1
    clear hb1
    go_wp2_with fail
    refine (awake_any _ (ht.below h0 HB1.out) (Nat.lt_of_lt_of_le h0 HB1.out.size)).mono ?_
    rintro e wA ⟨rfl, hbA⟩
    have HBA := Lib.hid (HB1.out.trans (hbA.mono HB1.out.size))
    clear hbA
    go_wp2_with fail
    go_ret
    exact ⟨rfl, HBA.out⟩
end Go.Proofs.YthkjnpbbgfagkaaDoor
