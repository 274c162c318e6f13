import Derived.Test.YthkjnpbbgfagkaaDoorL8A
set_option linter.unusedVariables false
set_option linter.unusedSimpArgs false
namespace Go.Proofs.YthkjnpbbgfagkaaDoor
open Go.RowKit Go.Maps

theorem str_beq_self (a : ByteArray) : (a.toList == a.toList) = true := by simp

set_option maxRecDepth 100000 in
set_option maxHeartbeats 4000000 in
theorem Apart_any (A : Option Addr) (n c : Nat) (l : List Rec) (q : ByteArray) (w : World) (hs : Sl 4 w A n (encs l)) (ht : Tab w) (h0 : 0 < w.heap.size) :
    Calls Tryd.prog 9 #[.slice A n c, .string q] w fun e w' => e = .returned (.bool true) ∧ Below w.heap.size w w' := by
  have HL := Lib.hid hs.recs
  obtain ⟨i0, hi, hz0, hz1, hz2⟩ := info_parts info23
  obtain ⟨j0, ji, jz0, jz1, jz2⟩ := info_parts info31
  go_enter Tryd.func9, Tryd.ntmps9
  by_cases hl : lightR l
  · have hn : n ≤ 40 := by have := hl.1; have := HL.out; omega
    have HLL := Lib.hid (decide_eq_true hl)
    clear hl
    go_wp2_with fail
    refine (light_any _ _ _ _ _ hs).mono ?_
    rintro e w1 ⟨rfl, hb1⟩
    rw [HLL.out]
    have hs1 := hs.below hb1
    have HB1 := Lib.hid hb1
    clear hb1
    go_wp2_with fail
    refine (bytes_any _ _ _ _ _ hs1 hn).mono ?_
    rintro e w2 ⟨v2, v2', rfl, hown2, hown2', hb2⟩
    obtain ⟨A2, k2, rfl, hk2, _, _, _⟩ := own_sl hown2
    obtain ⟨A3, k3, rfl, hk3, hm2, _, _⟩ := own_sl hown2'
    have hs2 := hs1.below hb2
    have HB2 := Lib.hid (HB1.out.trans (hb2.mono HB1.out.size))
    have hml := mayL_len l
    rw [HL.out] at hml
    clear hb2 hown2 hown2' hs1 hs
    generalize (bytL l).length = BL at *
    go_wp2_with fail
    go_loopw [5, 24] (fun v a wr => ∃ i : Nat, a = .int .i64 i ∧ i ≤ n ∧ wr.ownsRow w2.heap.size 23 4 v (ofP (l.take i) q).length (encs (ofP (l.take i) q)) ∧ Below w2.heap.size w2 wr) (fun _ a _ => n - (intOf a).toNat)
    case atStart => exact ⟨0, rfl, by omega, World.ownsRow_nil _ _ _ _, Below.refl _ _⟩
    case round =>
      obtain ⟨i, rfl, hin, hown, hb⟩ := hrel
      rcases Nat.lt_or_ge i n with h | h
      · obtain ⟨b, o, k, p, m, s, rfl, hr, c0, c1, c2, c3⟩ := (hs2.below hb).row4 h
        have hwl : (ofP (l.take i) q).length ≤ i := by have := ofP_len (l.take i) q; rw [List.length_take] at this; omega
        have HT := Lib.hid (take_snoc hr)
        clear hr
        have hown1 := hown.alloc (.cells (encR ⟨k, p, m, s⟩).toArray 23)
        have hbX := hb.alloc hb.size (.cells (encR ⟨k, p, m, s⟩).toArray 23)
        by_cases hp : p = q
        · have HW := Lib.hid (ofP_yes (l := l.take i) (r := ⟨k, p, m, s⟩) hp)
          obtain ⟨v3, w3, hap3, hown3, _, hb3⟩ := run_append_one (P := Tryd.prog) (w0 := w2) w2.heap.size 25 25 23 i0 _ 4 48 Tryd.underlying25 hi hz0 hz1 hz2 rfl (by decide) hown1 hbX (encR ⟨k, p, m, s⟩) rfl (encR_one _) 1 (by omega) (by omega) hbX.size
          rw [← encs_snoc] at hown3
          have HO3 := Lib.hid hown3
          have HB3 := Lib.hid hb3
          subst hp
          simp only [encR, World.size_alloc] at hap3 ⊢
          clear hown3 hb3 hown1 hbX hown hb hi hz0 hz1 hz2 ji jz0 jz1 jz2
          go_wp2_with (at_builtin; refine halt_in ?_)
          refine Halted.out (wpList_append_run rfl _ _ _ _ rfl rfl rfl hap3 ?_)
          clear hap3
          go_wp2_with fail
          go_roundw
          case rel => exact ⟨i+1, by go_num, by omega, by rw [HT.out, HW.out, List.length_append]; exact HO3.out, HB3.out⟩
          case measure => simp [intOf]; omega
        · have HW := Lib.hid (ofP_no (l := l.take i) (r := ⟨k, p, m, s⟩) hp)
          have hbn := str_bne hp
          have HO := Lib.hid hown1
          have HB := Lib.hid hbX
          clear hown hown1 hbX hb hi hz0 hz1 hz2 hp ji jz0 jz1 jz2
          go_wp2_with fail
          go_roundw
          case rel => exact ⟨i+1, by go_num, by omega, by rw [HT.out, HW.out]; exact HO.out, HB.out⟩
          case measure => simp [intOf]; omega
      · obtain rfl : i = n := by omega
        have htn : l.take i = l := by have := HL.out; exact List.take_of_length_le (by omega)
        rw [htn] at hown
        obtain ⟨A5, k5, rfl, hk5, hp5, _, _⟩ := own_sl hown
        have hol := ofP_len l q
        rw [HL.out] at hol
        have HAP := Lib.hid (open_apart l q)
        have HOM := Lib.hid (open_may l)
        have HB3 := Lib.hid (HB2.out.trans (hb.mono HB2.out.size))
        have hs3 := hs2.below hb
        have hm3 := hm2.below hb
        clear hown hb htn hs2 hm2 hi hz0 hz1 hz2
        go_wp2_with fail
        refine (mine_any _ _ _ _ _ hs3 (by omega)).mono ?_
        rintro e w4 ⟨v4, rfl, hown4, hb4⟩
        obtain ⟨A4, k4, rfl, hk4, hl4, _, _⟩ := own_sl hown4
        have hs4 := hs3.below hb4
        have hm4 := hm3.below hb4
        have hp6 := hp5.below hb4
        have HB4 := Lib.hid (HB3.out.trans (hb4.mono HB3.out.size))
        clear hb4 hown4 hs3 hm3 hp5
        go_wp2_with fail
        refine (Opn_any _ _ _ _ _ hl4 (by omega)).mono ?_
        rintro e w5 ⟨v5, rfl, hown5, hb5⟩
        obtain ⟨A6, k6, rfl, hk6, hl5, _, _⟩ := own_sl hown5
        have hs5 := hs4.below hb5
        have hm5 := hm4.below hb5
        have hp7 := hp6.below hb5
        have HB5 := Lib.hid (HB4.out.trans (hb5.mono HB4.out.size))
        have hoo := openL_len l
        rw [HL.out] at hoo
        generalize hO : openL l = O at *
        have HO' := Lib.hid hO
        have HOL := Lib.hid hl5.recs
        clear hb5 hown5 hs4 hm4 hp6 hl4 hO
        go_wp2_with fail
        go_loopw [10, 41] (fun v a wr => ∃ i : Nat, a = .int .i64 i ∧ i ≤ O.length ∧ wr.ownsRow w5.heap.size 31 4 v (ofP (O.take i) q).length (encs (ofP (O.take i) q)) ∧ Below w5.heap.size w5 wr) (fun _ a _ => O.length - (intOf a).toNat)
        case atStart => exact ⟨0, rfl, by omega, World.ownsRow_nil _ _ _ _, Below.refl _ _⟩
        case round =>
          obtain ⟨j, rfl, hjn, hown, hb⟩ := hrel
          rcases Nat.lt_or_ge j O.length with h | h
          · obtain ⟨b, o, k, p, m, s, rfl, hr, c0, c1, c2, c3⟩ := (hl5.below hb).row4 h
            have hwl : (ofP (O.take j) q).length ≤ j := by have := ofP_len (O.take j) q; rw [List.length_take] at this; omega
            have HT := Lib.hid (take_snoc hr)
            clear hr
            have hown1 := hown.alloc (.cells (encR ⟨k, p, m, s⟩).toArray 31)
            have hbX := hb.alloc hb.size (.cells (encR ⟨k, p, m, s⟩).toArray 31)
            by_cases hp : p = q
            · have HW := Lib.hid (ofP_yes (l := O.take j) (r := ⟨k, p, m, s⟩) hp)
              obtain ⟨v3, w3, hap3, hown3, _, hb3⟩ := run_append_one (P := Tryd.prog) (w0 := w5) w5.heap.size 32 32 31 j0 _ 4 48 Tryd.underlying32 ji jz0 jz1 jz2 rfl (by decide) hown1 hbX (encR ⟨k, p, m, s⟩) rfl (encR_one _) 1 (by omega) (by omega) hbX.size
              rw [← encs_snoc] at hown3
              have HO3 := Lib.hid hown3
              have HB3' := Lib.hid hb3
              subst hp
              simp only [encR, World.size_alloc] at hap3 ⊢
              clear hown3 hb3 hown1 hbX hown hb ji jz0 jz1 jz2
              go_wp2_with (at_builtin; refine halt_in ?_)
              refine Halted.out (wpList_append_run rfl _ _ _ _ rfl rfl rfl hap3 ?_)
              clear hap3
              go_wp2_with fail
              go_roundw
              case rel => exact ⟨j+1, by go_num, by omega, by rw [HT.out, HW.out, List.length_append]; exact HO3.out, HB3'.out⟩
              case measure => simp [intOf]; omega
            · have HW := Lib.hid (ofP_no (l := O.take j) (r := ⟨k, p, m, s⟩) hp)
              have hbn := str_bne hp
              have HO := Lib.hid hown1
              have HB := Lib.hid hbX
              clear hown hown1 hbX hb ji jz0 jz1 jz2 hp
              go_wp2_with fail
              go_roundw
              case rel => exact ⟨j+1, by go_num, by omega, by rw [HT.out, HW.out]; exact HO.out, HB.out⟩
              case measure => simp [intOf]; omega
          · obtain rfl : j = O.length := by omega
            rw [List.take_length] at hown
            obtain ⟨A7, k7, rfl, hk7, ha6, _, _⟩ := own_sl hown
            have HB6 := Lib.hid (HB5.out.trans (hb.mono HB5.out.size))
            have hs6 := hs5.below hb
            have hm6 := hm5.below hb
            have hp8 := hp7.below hb
            clear hown hb hs5 hm5 hp7 hl5 ji jz0 jz1 jz2
            go_wp2_with fail
            refine (mine_any _ _ _ _ _ hp8 (by omega)).mono ?_
            rintro e w7 ⟨v7, rfl, hown7, hb7⟩
            obtain ⟨A8, k8, rfl, hk8, hl7, _, _⟩ := own_sl hown7
            have hs7 := hs6.below hb7
            have hm7 := hm6.below hb7
            have ha7 := ha6.below hb7
            have HB7 := Lib.hid (HB6.out.trans (hb7.mono HB6.out.size))
            clear hb7 hown7 hs6 hm6 hp8 ha6
            go_wp2_with fail
            refine (Opn_any _ _ _ _ _ hl7 (by omega)).mono ?_
            rintro e w8 ⟨v8, rfl, hown8, hb8⟩
            rw [← HAP.out] at hown8
            obtain ⟨A9, k9, rfl, hk9, hl8, _, _⟩ := own_sl hown8
            have hs8 := hs7.below hb8
            have hm8 := hm7.below hb8
            have ha8 := ha7.below hb8
            have HB8 := Lib.hid (HB7.out.trans (hb8.mono HB7.out.size))
            clear hb8 hown8 hs7 hm7 ha7 hl7
            go_wp2_with fail
            refine (alike_any _ _ _ _ _ _ _ _ _ ha8 hl8).mono ?_
            rintro e w9 ⟨rfl, hb9⟩
            rw [decide_eq_true rfl]
            have hs9 := hs8.below hb9
            have hm9 := hm8.below hb9
            have HB9 := Lib.hid (HB8.out.trans (hb9.mono HB8.out.size))
            clear hb9 hs8 hm8 ha8 hl8
            go_wp2_with fail
            refine (mine_any _ _ _ _ _ hm9 (by omega)).mono ?_
            rintro e wA ⟨vA, rfl, hownA, hbA⟩
            obtain ⟨AA, kA, rfl, hkA, hlA, _, _⟩ := own_sl hownA
            have hsA := hs9.below hbA
            have HBA := Lib.hid (HB9.out.trans (hbA.mono HB9.out.size))
            clear hbA hownA hs9 hm9
            go_wp2_with fail
            refine (Opn_any _ _ _ _ _ hlA (by omega)).mono ?_
            rintro e wB ⟨vB, rfl, hownB, hbB⟩
            rw [HOM.out] at hownB
            obtain ⟨AB, kB, rfl, hkB, hlB, _, _⟩ := own_sl hownB
            have hsB := hsA.below hbB
            have HBB := Lib.hid (HBA.out.trans (hbB.mono HBA.out.size))
            clear hbB hownB hsA hlA
            go_wp2_with fail
            refine (mine_any _ _ _ _ _ hsB (by omega)).mono ?_
            rintro e wC ⟨vC, rfl, hownC, hbC⟩
            obtain ⟨AC, kC, rfl, hkC, hlC, _, _⟩ := own_sl hownC
            have hlD := hlB.below hbC
            have HBC := Lib.hid (HBB.out.trans (hbC.mono HBB.out.size))
            clear hbC hownC hsB hlB
            go_wp2_with fail
            refine (Opn_any _ _ _ _ _ hlC (by omega)).mono ?_
            rintro e wD ⟨vD, rfl, hownD, hbD⟩
            rw [HO'.out] at hownD
            obtain ⟨AD, kD, rfl, hkD, hlE, _, _⟩ := own_sl hownD
            have hlF := hlD.below hbD
            have HBD := Lib.hid (HBC.out.trans (hbD.mono HBC.out.size))
            clear hbD hownD hlC hlD
            go_wp2_with fail
            refine (alike_any _ _ _ _ _ _ _ _ _ hlF hlE).mono ?_
            rintro e wE ⟨rfl, hbE⟩
            rw [decide_eq_true rfl]
            have HBE := Lib.hid (HBD.out.trans (hbE.mono HBD.out.size))
            clear hbE hlF hlE
            go_wp2_with fail
            refine (awake_any _ (ht.below h0 HBE.out) (Nat.lt_of_lt_of_le h0 HBE.out.size)).mono ?_
            rintro e wF ⟨rfl, hbF⟩
            have HBF := Lib.hid (HBE.out.trans (hbF.mono HBE.out.size))
            clear hbF
            go_wp2_with fail
            go_ret
            exact ⟨rfl, HBF.out⟩
  · have HLL := Lib.hid (decide_eq_false hl)
    clear hl
    go_wp2_with fail
    refine (light_any _ _ _ _ _ hs).mono ?_
    rintro e w1 ⟨rfl, hb1⟩
    rw [HLL.out]
    have HB1 := Lib.hid hb1
    clear hb1
    go_wp2_with fail
    refine (awake_any _ (ht.below h0 HB1.out) (Nat.lt_of_lt_of_le h0 HB1.out.size)).mono ?_
    rintro e wA ⟨rfl, hbA⟩
    have HBA := Lib.hid (HB1.out.trans (hbA.mono HB1.out.size))
    clear hbA
    go_wp2_with fail
    go_ret
    exact ⟨rfl, HBA.out⟩
end Go.Proofs.YthkjnpbbgfagkaaDoor
