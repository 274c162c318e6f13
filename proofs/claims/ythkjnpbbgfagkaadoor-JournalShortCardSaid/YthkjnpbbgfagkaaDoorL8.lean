import Derived.Test.YthkjnpbbgfagkaaDoorL8A
set_option linter.unusedVariables false
set_option linter.unusedSimpArgs false
namespace Go.Proofs.YthkjnpbbgfagkaaDoor
open Go.RowKit Go.Maps

theorem encs_one (l : List Rec) : ∀ u ∈ encs l, u.oneCell' = true := by
  intro u hu
  obtain ⟨r, _, hr⟩ := List.mem_flatMap.1 hu
  exact encR_one r u hr

set_option maxRecDepth 100000 in
set_option maxHeartbeats 4000000 in
theorem Short_any (A : Option Addr) (n c : Nat) (l : List Rec) (w : World) (hs : Sl 4 w A n (encs l)) (ht : Tab w) (h0 : 0 < w.heap.size) :
    Calls Tryd.prog 8 #[.slice A n c] w fun e w' => e = .returned (.bool true) ∧ Below w.heap.size w w' := by
  have HL := Lib.hid hs.recs
  obtain ⟨i0, hi, hz0, hz1, hz2⟩ := info_parts info31
  go_enter Tryd.func8, Tryd.ntmps8
  by_cases hl : lightR l
  · have hn : n ≤ 40 := by have := hl.1; have := HL.out; omega
    have HLL := Lib.hid (decide_eq_true hl)
    clear hl
    go_wp2_with fail
    refine (light_any _ _ _ _ _ hs).mono ?_
    rintro e w1 ⟨rfl, hb1⟩
    rw [HLL.out]
    have hs1 := hs.below hb1
    have HB1 := Lib.hid hb1
    clear hb1
    go_wp2_with fail
    refine (mine_any _ _ _ _ _ hs1 (by omega)).mono ?_
    rintro e w2 ⟨v2, rfl, hown2, hb2⟩
    obtain ⟨A2, k2, rfl, hk2, hl2, _, _⟩ := own_sl hown2
    have hs2 := hs1.below hb2
    have HB2 := Lib.hid (HB1.out.trans (hb2.mono HB1.out.size))
    clear hb2 hown2
    go_wp2_with fail
    refine (Opn_any _ _ _ _ _ hl2 (by omega)).mono ?_
    rintro e w3 ⟨v3, rfl, hown3, hb3⟩
    obtain ⟨A3, k3, rfl, hk3, hl3, _, _⟩ := own_sl hown3
    have hs3 := hs2.below hb3
    have HB3 := Lib.hid (HB2.out.trans (hb3.mono HB2.out.size))
    clear hb3 hown3 hl2
    go_wp2_with fail
    refine (mine_any _ _ _ _ _ hs3 (by omega)).mono ?_
    rintro e w4 ⟨v4, rfl, hown4, hb4⟩
    obtain ⟨A4, k4, rfl, hk4, hl4, _, _⟩ := own_sl hown4
    have ho4 := hl3.below hb4
    have HB4 := Lib.hid (HB3.out.trans (hb4.mono HB3.out.size))
    clear hb4 hown4 hl3 hs3
    go_wp2_with fail
    refine (Sho_any _ _ _ _ _ hl4 (by omega)).mono ?_
    rintro e w5 ⟨v5, rfl, hown5, hb5⟩
    obtain ⟨A5, k5, rfl, hk5, hl5, _, _⟩ := own_sl hown5
    have ho5 := ho4.below hb5
    have HB5 := Lib.hid (HB4.out.trans (hb5.mono HB4.out.size))
    have HOS := Lib.hid (open_short l)
    have hol := openL_len l
    have hsl := shoL_len (openL l)
    have HNE := Lib.hid (fun i hi => short_needed (l := l) (i := i) hi)
    have HMY := Lib.hid (fun x hx => short_may (l := l) (x := x) hx)
    rw [HL.out] at hol
    generalize hS : shoL (openL l) = S at *
    generalize openL l = O at *
    have HS := Lib.hid hS
    clear hb5 hown5 hl4 ho4 hS
    go_wp2_with fail
    refine (Opn_any _ _ _ _ _ hl5 (by omega)).mono ?_
    rintro e w6 ⟨v6, rfl, hown6, hb6⟩
    rw [HOS.out] at hown6
    obtain ⟨A6, k6, rfl, hk6, hl6, _, _⟩ := own_sl hown6
    have ho6 := ho5.below hb6
    have hz6 := hl5.below hb6
    have HB6 := Lib.hid (HB5.out.trans (hb6.mono HB5.out.size))
    clear hb6 hown6 hl5 ho5
    go_wp2_with fail
    refine (alike_any _ _ _ _ _ _ _ _ _ hl6 ho6).mono ?_
    rintro e w7 ⟨rfl, hb7⟩
    rw [decide_eq_true rfl]
    have ho7 := ho6.below hb7
    have hz7 := hz6.below hb7
    have HB7 := Lib.hid (HB6.out.trans (hb7.mono HB6.out.size))
    clear hb7 hl6 ho6 hz6
    go_wp2_with fail
    refine (Sho_any _ _ _ _ _ hz7 (by omega)).mono ?_
    rintro e w8 ⟨v8, rfl, hown8, hb8⟩
    rw [HOS.out, HS.out] at hown8
    obtain ⟨A8, k8, rfl, hk8, hl8, _, _⟩ := own_sl hown8
    have ho8 := ho7.below hb8
    have hz8 := hz7.below hb8
    have HB8 := Lib.hid (HB7.out.trans (hb8.mono HB7.out.size))
    clear hb8 hown8 ho7 hz7
    go_wp2_with fail
    refine (alike_any _ _ _ _ _ _ _ _ _ hl8 hz8).mono ?_
    rintro e w9 ⟨rfl, hb9⟩
    rw [decide_eq_true rfl]
    have ho9 := ho8.below hb9
    have hz9 := hz8.below hb9
    have HB9 := Lib.hid (HB8.out.trans (hb9.mono HB8.out.size))
    clear hb9 hl8 ho8 hz8
    go_wp2_with fail
    go_loopw [41] (fun a wr => ∃ i : Nat, a = .int .i64 i ∧ i ≤ S.length ∧ Below w9.heap.size w9 wr) (fun a _ => S.length - (intOf a).toNat)
    case atStart => exact ⟨0, rfl, by omega, Below.refl _ _⟩
    case round =>
      obtain ⟨i, rfl, hiS, hbr⟩ := hrel
      rcases Nat.lt_or_ge i S.length with h | h
      · have hor := ho9.below hbr
        have hzr := hz9.below hbr
        have HBR := Lib.hid (HB9.out.trans (hbr.mono HB9.out.size))
        have HBX := Lib.hid hbr
        have ne := HNE.out i h
        have HNI := Lib.hid ne
        have hsa : ∀ w : World, (Instr.slice 32 (.slice A5 S.length k5) none (some (.int .i64 i)) none).run Tryd.prog w = .ok (.slice (subAt A5 0 k5 4) i k5) w := fun w => run_slice_to under32 elem32 hi hz1 _ _ _ _ (by omega) _ _ rfl
        have hsb : ∀ w : World, (Instr.slice 32 (.slice A5 S.length k5) (some (.int .i64 (i + 1))) none none).run Tryd.prog w = .ok (.slice (subAt A5 (i + 1) k5 4) (S.length - (i + 1)) (k5 - (i + 1))) w := fun w => run_slice_from under32 elem32 hi hz1 _ _ _ _ (by omega) _ _ (by omega)
        have hp1 := (hzr.pre4 (j := i) (by omega) k5)
        have hp2 := (hzr.suf4 (lo := i + 1) (c := k5) (by omega) hk5)
        have hbA := (Below.refl wr.heap.size wr).alloc (Nat.le_refl _) (.cells #[] 31)
        have hp1' := (hp1.below hbA).drew
        have hp2' := (hp2.below hbA).drew
        have hown1 := (World.ownsRow_made (base := wr.heap.size) (e := 31) (size := 4) wr #[] 0 (Nat.le_refl _) (by unfold maxLen; omega) (by simp)).drew
        obtain ⟨v1, wA, hap1, hown2, hg1⟩ := run_append_sl (P := Tryd.prog) wr.heap.size 32 32 31 i0 _ 4 48 Tryd.underlying32 hi hz0 hz1 hz2 rfl (by decide) hown1 (c := k5) hp1' (encs_one _) (by omega) (by omega) (by simp)
        have hgA := (hbA.drew).grown hg1 (by simp) (fun k' hk' => (hown1.lt k' hk').1)
        have hp3 := hp2.below hgA
        obtain ⟨v2, wB, hap2, hown3, hg2⟩ := run_append_sl (P := Tryd.prog) wr.heap.size 32 32 31 i0 _ 4 48 Tryd.underlying32 hi hz0 hz1 hz2 rfl (by decide) hown2 (c := k5 - (i + 1)) hp3 (encs_one _) (by omega) (by omega) hgA.size
        have hgB := hgA.grown hg2 hgA.size (fun k' hk' => (hown2.lt k' hk').1)
        have hlen : 0 + i + (S.length - (i + 1)) = (S.take i ++ S.drop (i + 1)).length := by rw [List.length_append, List.length_take, List.length_drop]; omega
        rw [List.nil_append, ← encs_app, hlen] at hown3
        have hle : (S.take i ++ S.drop (i + 1)).length ≤ 80 := by rw [← hlen]; omega
        have hsz : wr.heap.size < wB.heap.size := by have := hgB.size; have := hg1.size; simp at this; have := hg2.size; omega
        have HSI : Hid (∃ r, S[i]? = some r ∧ r ∈ S) := Lib.hid ⟨S[i], List.getElem?_eq_getElem h, List.getElem_mem _⟩
        generalize S.take i ++ S.drop (i + 1) = less at *
        have HO3 := Lib.hid hown3
        have HGB := Lib.hid hgB
        clear ne hbr ho9 hz9 hp1 hp2 hp1' hp2' hp3 hown1 hown2 hown3 hg1 hg2 hgA hgB hbA hlen hi hz0 hz1 hz2
        go_wp2_with fail
        have hw1 : IntKind.i64.wrap ((i : Int) + 1) = (i : Int) + 1 := IntWalk.i64_in _ (by omega)
        have hw2 : 0 ≤ (i : Int) + 1 := by omega
        have hw3 : ((i : Int) + 1).toNat = i + 1 := by omega
        go_region_law (first | (refine step_append_run rfl (.tmp 44) (.tmp 47) 32 32 rfl (by simp [Act.eval, Act.put]) (by simp [Act.eval, Act.put]) hap1 ?_) | (refine step_append_run rfl (.tmp 48) (.tmp 52) 32 32 rfl (by simp [Act.eval, Act.put]) (by simp [Act.eval, Act.put]) hap2 ?_))
        clear hw1 hw2 hw3 hap1 hap2 hsa hsb
        obtain ⟨AB, kB, rfl, hkB, hlB, _, _⟩ := own_sl HO3.out
        have HBB := Lib.hid (HBX.out.trans (HGB.out.mono HBX.out.size))
        have horB := hor.below HGB.out
        have hzrB := hzr.below HGB.out
        have hTB := ht.below h0 (HB9.out.trans (HBB.out.mono HB9.out.size))
        have h0B : 0 < wB.heap.size := by omega
        clear hor hzr
        go_wp2_with fail
        refine (Opn_any _ _ _ _ _ hlB (by omega)).mono ?_
        rintro e wC ⟨vC, rfl, hownC, hbC⟩
        obtain ⟨AC, kC, rfl, hkC, hlC, _, _⟩ := own_sl hownC
        have horC := horB.below hbC
        have hzrC := hzrB.below hbC
        have hTC := hTB.below h0B hbC
        have h0C : 0 < wC.heap.size := Nat.lt_of_lt_of_le h0B hbC.size
        have HBC := Lib.hid (HBB.out.trans (hbC.mono HBB.out.size))
        clear hownC hbC horB hzrB hlB hTB
        go_wp2_with fail
        refine (alike_any _ _ _ _ _ _ _ _ _ hlC horC).mono ?_
        rintro e wD ⟨rfl, hbD⟩
        rw [decide_eq_false HNI.out]
        have hzrD := hzrC.below hbD
        have hTD := hTC.below h0C hbD
        have h0D : 0 < wD.heap.size := Nat.lt_of_lt_of_le h0C hbD.size
        have HBD := Lib.hid (HBC.out.trans (hbD.mono HBC.out.size))
        clear hbD horC hzrC hlC hTC
        obtain ⟨b, o, k, p, m, s, rfl, hr, c0, c1, c2, c3⟩ := hzrD.row4 h
        have HMR := Lib.hid (HMY.out _ (List.mem_of_getElem? hr))
        clear hr hzrD
        go_wp2_with fail
        refine (JPut_yes ⟨k, p, m, s⟩ _ HMR.out hTD h0D).mono ?_
        rintro e wE ⟨vE, rfl, hownE, hbE⟩
        have HBE := Lib.hid (HBD.out.trans (hbE.mono HBD.out.size))
        clear hownE hbE hTD c0 c1 c2 c3
        go_wp2_with fail
        go_roundw
        case rel => exact ⟨i+1, by go_num, by omega, HBE.out⟩
        case measure => simp [intOf]; omega
      · obtain rfl : i = S.length := by omega
        have HBR := Lib.hid (HB9.out.trans (hbr.mono HB9.out.size))
        clear hbr
        go_wp2_with fail
        refine (awake_any _ (ht.below h0 HBR.out) (Nat.lt_of_lt_of_le h0 HBR.out.size)).mono ?_
        rintro e wF ⟨rfl, hbF⟩
        have HBF := Lib.hid (HBR.out.trans (hbF.mono HBR.out.size))
        clear hbF
        go_wp2_with fail
        go_ret
        exact ⟨rfl, HBF.out⟩
  · have HLL := Lib.hid (decide_eq_false hl)
    clear hl
    go_wp2_with fail
    refine (light_any _ _ _ _ _ hs).mono ?_
    rintro e w1 ⟨rfl, hb1⟩
    rw [HLL.out]
    have HB1 := Lib.hid hb1
    clear hb1
    go_wp2_with fail
    refine (awake_any _ (ht.below h0 HB1.out) (Nat.lt_of_lt_of_le h0 HB1.out.size)).mono ?_
    rintro e wA ⟨rfl, hbA⟩
    have HBA := Lib.hid (HB1.out.trans (hbA.mono HB1.out.size))
    clear hbA
    go_wp2_with fail
    go_ret
    exact ⟨rfl, HBA.out⟩
end Go.Proofs.YthkjnpbbgfagkaaDoor
