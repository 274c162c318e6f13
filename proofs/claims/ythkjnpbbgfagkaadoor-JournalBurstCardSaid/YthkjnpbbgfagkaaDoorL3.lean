import Derived.Test.YthkjnpbbgfagkaaDoorAwk
set_option linter.unusedVariables false
set_option linter.unusedSimpArgs false
namespace Go.Proofs.YthkjnpbbgfagkaaDoor
open Go.RowKit Go.Maps

theorem one_sl (w : World) (r : Rec) (T : TypeId) : Sl 4 (w.alloc (.cells (encR r).toArray T)) (some ⟨w.heap.size, 0, none⟩) 1 (encs [r]) :=
  ⟨by rw [encs_len]; rfl, by omega, .inr ⟨_, 0, rfl, fun j u hj => by rw [World.cell?_alloc_new]; simpa [encs] using hj⟩⟩

set_option maxRecDepth 100000 in
set_option maxHeartbeats 1000000 in
theorem Puts_not (r : Rec) (w : World) (ht : Tab w) (h0 : 0 < w.heap.size) (hl : ¬ lightR [r]) :
    Calls Tryd.prog 3 #[.agg (encR r).toArray] w fun e w' => e = .returned (.bool true) ∧ Below w.heap.size w w' := by
  have HL := Lib.hid (decide_eq_false hl)
  have hb0 : Below w.heap.size w (w.alloc (.cells (encR r).toArray 23)) := (Below.refl _ _).alloc (Nat.le_refl _) _
  have hs := one_sl (w.alloc (.cells (encR r).toArray 23)) r 23
  have hb1 := hb0.alloc hb0.size (.cells (encR r).toArray 23)
  clear hl
  obtain ⟨k, p, m, s⟩ := r
  simp only [encR, World.size_alloc] at hs hb0 hb1 ⊢
  go_enter Tryd.func3, Tryd.ntmps3
  go_wp2_with fail
  refine (light_any _ _ _ _ _ hs).mono ?_
  rintro e w1 ⟨rfl, hb2⟩
  rw [HL.out]
  have hbC := hb1.trans (hb2.mono hb1.size)
  have hT := ht.below h0 hbC
  have h01 : 0 < w1.heap.size := Nat.lt_of_lt_of_le h0 hbC.size
  clear hb1 hb2 hs hb0
  go_wp2_with fail
  refine (awake_any _ hT h01).mono ?_
  rintro e w2 ⟨rfl, hb3⟩
  have hbD := hbC.trans (hb3.mono hbC.size)
  clear hb3 hbC hT
  go_wp2_with fail
  go_ret
  exact ⟨rfl, hbD⟩

set_option maxRecDepth 100000 in
set_option maxHeartbeats 1000000 in
theorem Puts_no (r : Rec) (w : World) (ht : Tab w) (h0 : 0 < w.heap.size) (hl : lightR [r]) (hm : ¬ May r) :
    Calls Tryd.prog 3 #[.agg (encR r).toArray] w fun e w' => e = .returned (.bool true) ∧ Below w.heap.size w w' := by
  have HL := Lib.hid (decide_eq_true hl)
  have HM := Lib.hid hm
  have hb0 : Below w.heap.size w (w.alloc (.cells (encR r).toArray 23)) := (Below.refl _ _).alloc (Nat.le_refl _) _
  have hs := one_sl (w.alloc (.cells (encR r).toArray 23)) r 23
  have hb1 := hb0.alloc hb0.size (.cells (encR r).toArray 23)
  have hx0 := (Box4.mk_alloc w r 23).below ((Below.refl _ _).alloc (Nat.le_refl _) (.cells (encR r).toArray 23))
  clear hl hm
  obtain ⟨k, p, m, s⟩ := r
  simp only [encR, World.size_alloc] at hs hb0 hb1 hx0 ⊢
  go_enter Tryd.func3, Tryd.ntmps3
  go_wp2_with fail
  refine (light_any _ _ _ _ _ hs).mono ?_
  rintro e w1 ⟨rfl, hb2⟩
  rw [HL.out]
  have hbC := hb1.trans (hb2.mono hb1.size)
  have hx1 := hx0.below hb2
  have hs2 := one_sl w1 ⟨k, p, m, s⟩ 23
  have hbD := hbC.alloc hbC.size (.cells (encR ⟨k, p, m, s⟩).toArray 23)
  have hx2 := hx1.below ((Below.refl _ _).alloc (Nat.le_refl _) (.cells (encR ⟨k, p, m, s⟩).toArray 23))
  obtain ⟨y0, y1, y2, y3⟩ := hx1
  have hsz1 := hbC.size
  simp only [encR] at hs2 hbD hx2
  clear hb1 hb2 hs hb0 hx0
  go_wp2_with fail
  refine (mine_any _ _ _ _ _ hs2 (by omega)).mono ?_
  rintro e w2 ⟨v2, rfl, hown2, hb3⟩
  obtain ⟨A2, k2, rfl, hk2, hs3, _, _⟩ := own_sl hown2
  obtain ⟨b', o', k', p', m', s', rfl, hr, c0, c1, c2, c3⟩ := hs3.row4 (i := 0) (by omega)
  simp only [List.getElem?_cons_zero, Option.some.injEq, Rec.mk.injEq] at hr
  obtain ⟨rfl, rfl, rfl, rfl⟩ := hr
  simp only [Nat.zero_mul, Nat.add_zero] at c0 c1 c2 c3
  have hbE := hbD.trans (hb3.mono hbD.size)
  have hx3 := hx2.below hb3
  clear hown2 hs3 hbC hbD y0 y1 y2 y3 hx2 hb3
  go_wp2_with fail
  refine (JPut_no ⟨k, p, m, s⟩ _ HM.out).mono ?_
  rintro e w3 ⟨rfl, hb4⟩
  have hbF := hbE.trans (hb4.mono hbE.size)
  obtain ⟨y0, y1, y2, y3⟩ := hx3.below hb4
  clear hbE hb4 c0 c1 c2 c3
  go_wp2_with fail
  refine (RPut34_no ⟨k, p, m, s⟩ _ HM.out).mono ?_
  rintro e w4 ⟨rfl, hb5⟩
  have hbG := hbF.trans (hb5.mono hbF.size)
  clear hbF hb5 y0 y1 y2 y3
  have hcv := run_conv_str (P := Tryd.prog) (src := 27) Tryd.underlying27 Tryd.underlying5 (dst := 9) Tryd.underlying9 (c := 0) (bs := []) (Sl.nil 1 w4 none)
  have hT := ht.below h0 hbG
  have h01 : 0 < w4.heap.size := Nat.lt_of_lt_of_le h0 hbG.size
  go_wp2_with fail
  refine (awake_any _ hT h01).mono ?_
  rintro e w6 ⟨rfl, hb6⟩
  have hbI := hbG.trans (hb6.mono hbG.size)
  clear hb6 hbG hT hcv
  go_wp2_with fail
  go_ret
  exact ⟨rfl, hbI⟩

set_option maxRecDepth 100000 in
set_option maxHeartbeats 1000000 in
theorem Puts_yest (r : Rec) (w : World) (ht : Tab w) (h0 : 0 < w.heap.size) (hl : ¬ lightR [r]) :
    Calls Tryd.prog 3 #[.agg (encR r).toArray] w fun e w' => e = .returned (.bool true) ∧ Below w.heap.size w w' := by
  have HL := Lib.hid (decide_eq_false hl)
  have hb0 : Below w.heap.size w (w.alloc (.cells (encR r).toArray 23)) := (Below.refl _ _).alloc (Nat.le_refl _) _
  have hs := one_sl (w.alloc (.cells (encR r).toArray 23)) r 23
  have hb1 := hb0.alloc hb0.size (.cells (encR r).toArray 23)
  clear hl
  obtain ⟨k, p, m, s⟩ := r
  simp only [encR, World.size_alloc] at hs hb0 hb1 ⊢
  go_enter Tryd.func3, Tryd.ntmps3
  go_wp2_with fail
  refine (light_any _ _ _ _ _ hs).mono ?_
  rintro e w1 ⟨rfl, hb2⟩
  rw [HL.out]
  have hbC := hb1.trans (hb2.mono hb1.size)
  have hT := ht.below h0 hbC
  have h01 : 0 < w1.heap.size := Nat.lt_of_lt_of_le h0 hbC.size
  clear hb1 hb2 hs hb0
  go_wp2_with fail
  refine (awake_any _ hT h01).mono ?_
  rintro e w2 ⟨rfl, hb3⟩
  have hbD := hbC.trans (hb3.mono hbC.size)
  clear hb3 hbC hT
  go_wp2_with fail
  go_ret
  exact ⟨rfl, hbD⟩

set_option maxRecDepth 100000 in
set_option maxHeartbeats 1000000 in
theorem Puts_yes (r : Rec) (w : World) (ht : Tab w) (h0 : 0 < w.heap.size) (hl : lightR [r]) (hm : May r) :
    Calls Tryd.prog 3 #[.agg (encR r).toArray] w fun e w' => e = .returned (.bool true) ∧ Below w.heap.size w w' := by
  have HL := Lib.hid (decide_eq_true hl)
  have HM := Lib.hid hm
  have hb0 : Below w.heap.size w (w.alloc (.cells (encR r).toArray 23)) := (Below.refl _ _).alloc (Nat.le_refl _) _
  have hs := one_sl (w.alloc (.cells (encR r).toArray 23)) r 23
  have hb1 := hb0.alloc hb0.size (.cells (encR r).toArray 23)
  have hx0 := (Box4.mk_alloc w r 23).below ((Below.refl _ _).alloc (Nat.le_refl _) (.cells (encR r).toArray 23))
  clear hl hm
  obtain ⟨k, p, m, s⟩ := r
  simp only [encR, World.size_alloc] at hs hb0 hb1 hx0 ⊢
  go_enter Tryd.func3, Tryd.ntmps3
  go_wp2_with fail
  refine (light_any _ _ _ _ _ hs).mono ?_
  rintro e w1 ⟨rfl, hb2⟩
  rw [HL.out]
  have hbC := hb1.trans (hb2.mono hb1.size)
  have hx1 := hx0.below hb2
  have hs2 := one_sl w1 ⟨k, p, m, s⟩ 23
  have hbD := hbC.alloc hbC.size (.cells (encR ⟨k, p, m, s⟩).toArray 23)
  have hx2 := hx1.below ((Below.refl _ _).alloc (Nat.le_refl _) (.cells (encR ⟨k, p, m, s⟩).toArray 23))
  obtain ⟨y0, y1, y2, y3⟩ := hx1
  have hsz1 := hbC.size
  simp only [encR] at hs2 hbD hx2
  clear hb1 hb2 hs hb0 hx0
  go_wp2_with fail
  refine (mine_any _ _ _ _ _ hs2 (by omega)).mono ?_
  rintro e w2 ⟨v2, rfl, hown2, hb3⟩
  obtain ⟨A2, k2, rfl, hk2, hs3, _, _⟩ := own_sl hown2
  obtain ⟨b', o', k', p', m', s', rfl, hr, c0, c1, c2, c3⟩ := hs3.row4 (i := 0) (by omega)
  simp only [List.getElem?_cons_zero, Option.some.injEq, Rec.mk.injEq] at hr
  obtain ⟨rfl, rfl, rfl, rfl⟩ := hr
  simp only [Nat.zero_mul, Nat.add_zero] at c0 c1 c2 c3
  have hbE := hbD.trans (hb3.mono hbD.size)
  have hx3 := hx2.below hb3
  clear hown2 hs3 hbC hbD y0 y1 y2 y3 hx2 hb3
  go_wp2_with fail
  refine (JPut_yes ⟨k, p, m, s⟩ _ HM.out (ht.below h0 hbE) (Nat.lt_of_lt_of_le h0 hbE.size)).mono ?_
  rintro e w3 ⟨v3, rfl, hown3, hb4⟩
  have hbF := hbE.trans (hb4.mono hbE.size)
  obtain ⟨A3, k3, rfl, hk3, hs4, _, _⟩ := own_sl hown3
  clear hown3
  obtain ⟨y0, y1, y2, y3⟩ := hx3.below hb4
  clear hbE hb4 c0 c1 c2 c3
  go_wp2_with fail
  refine (RPut34_yes ⟨k, p, m, s⟩ _ HM.out).mono ?_
  rintro e w4 ⟨v4, rfl, hown4, hb5⟩
  obtain ⟨A4, k4, rfl, hk4, hs5, _, _⟩ := own_sl hown4
  have hs6 := hs4.below hb5
  clear hown4 hs4
  have hbG := hbF.trans (hb5.mono hbF.size)
  clear hbF hb5 y0 y1 y2 y3
  have hcv := run_conv_str (P := Tryd.prog) (src := 27) Tryd.underlying27 Tryd.underlying5 (dst := 9) Tryd.underlying9 (c := k3) hs6
  have hcv2 := run_conv_str (P := Tryd.prog) (src := 27) Tryd.underlying27 Tryd.underlying5 (dst := 9) Tryd.underlying9 (c := k4) hs5
  clear hs5 hs6
  have hT := ht.below h0 hbG
  have h01 : 0 < w4.heap.size := Nat.lt_of_lt_of_le h0 hbG.size
  go_wp2_with fail
  refine (awake_any _ hT h01).mono ?_
  rintro e w6 ⟨rfl, hb6⟩
  have hbI := hbG.trans (hb6.mono hbG.size)
  clear hb6 hbG hT hcv hcv2
  go_wp2_with fail
  go_ret
  exact ⟨rfl, hbI⟩

theorem Puts_any (r : Rec) (w : World) (ht : Tab w) (h0 : 0 < w.heap.size) :
    Calls Tryd.prog 3 #[.agg (encR r).toArray] w fun e w' => e = .returned (.bool true) ∧ Below w.heap.size w w' := by
  by_cases hl : lightR [r]
  · by_cases hm : May r
    · exact Puts_yes r w ht h0 hl hm
    · exact Puts_no r w ht h0 hl hm
  · exact Puts_not r w ht h0 hl
end Go.Proofs.YthkjnpbbgfagkaaDoor
