import Derived.Test.YtcagonpnjionhaaPx2c
import Derived.Test.YtcagonpnjionhaaDMc
/-! DropRight, walked: it returns true. -/
set_option linter.unusedVariables false
set_option linter.unusedSimpArgs false
namespace Go.Proofs.Ytcagonpnjionhaa
open Go.RowKit

def zeros (ws : List Int) (i : Nat) : Nat := (List.range i).countP (fun m => decide (ws[m]? = some 0))
theorem zeros_succ (ws : List Int) (i : Nat) : zeros ws (i + 1) = zeros ws i + if ws[i]? = some 0 then 1 else 0 := by
  unfold zeros
  rw [List.range_succ, List.countP_append]
  congr 1
  simp only [List.countP_cons, List.countP_nil, Nat.zero_add, decide_eq_true_eq]
theorem zeros_le (ws : List Int) (i : Nat) : zeros ws i ≤ i := by
  unfold zeros
  have := List.countP_le_length (p := fun m => decide (ws[m]? = some 0)) (l := List.range i)
  rwa [List.length_range] at this
theorem keptU_at {S D : List En} {R : List Ru} (h1 : checkE S = true) (h2 : checkE D = true) {m : Nat} {p : ByteArray} (h3 : findK p D 0 = ((m : Int), true)) : keptU S D R p = ((whyU S D R)[m]?.getD 0, true) := by
  unfold keptU; rw [h1, h2, h3]; rfl
theorem pair_at {l : List ByteArray} (h : l.Pairwise (fun p q => pfxB (splitB q.data.toList) (splitB p.data.toList) = false)) {j i : Nat} {p q : ByteArray} (hj : l[j]? = some q) (hi : l[i]? = some p) (hji : j < i) : pfxB (splitB p.data.toList) (splitB q.data.toList) = false := by
  obtain ⟨h1, e1⟩ := List.getElem?_eq_some_iff.1 hj
  obtain ⟨h2, e2⟩ := List.getElem?_eq_some_iff.1 hi
  have := List.pairwise_iff_getElem.1 h j i h1 h2 hji
  rw [e1, e2] at this
  exact this
set_option maxRecDepth 100000 in
set_option maxHeartbeats 16000000 in
theorem dropRight_any (sA : Option Addr) (sn sc : Nat) (dA : Option Addr) (dn dc : Nat) (rA : Option Addr) (rn rc : Nat) (S D : List En) (R : List Ru) (w : World)
    (hs : Sl 11 w sA sn (encEs S)) (hd : Sl 11 w dA dn (encEs D)) (hr : Sl 4 w rA rn (encUs R)) (hR : ∀ r ∈ R, r.pat.size ≤ 140737488355328) :
    Calls Try.prog 6 #[.slice sA sn sc, .slice dA dn dc, .slice rA rn rc] w fun e w' => e = .returned (.bool true) ∧ Below w.heap.size w w' := by
  obtain ⟨i0, hi0, hz0, hz1, hz2⟩ := info_parts infoS
  have HL := Lib.hid (light_any sA sn sc dA dn dc rA rn rc S D w hs hd)
  have HAW := Lib.hid awake_any
  have HLU := Lib.hid (fun (h : lightU S D rn = true) => show smallE S = true ∧ smallE D = true by unfold lightU at h; simp only [Bool.and_eq_true] at h; exact ⟨h.1, h.2.1⟩)
  have HS := Lib.hid hs
  have HD := Lib.hid hd
  have HR := Lib.hid hr
  have HRP := Lib.hid hR
  generalize lightU S D rn = lt at *
  have HSL := Lib.hid hs.enLen
  have HDL := Lib.hid hd.enLen
  clear hs hd hr hR
  go_enter Try.func6, Try.ntmps6
  go_wp2_with fail
  refine HL.out.mono ?_
  rintro e w1 ⟨rfl, hb1⟩
  have B1 := Lib.hid hb1
  clear hb1 HL
  cases lt with
  | false =>
    go_wp2_with fail
    refine (HAW.out _).mono ?_
    rintro e w9 ⟨rfl, hb9⟩
    have B9 := Lib.hid (B1.out.trans (hb9.mono B1.out.size))
    clear hb9
    go_wp2_with fail
    go_ret
    exact ⟨rfl, B9.out⟩
  | true =>
  obtain ⟨hls, hld⟩ := HLU.out rfl
  obtain ⟨hsp, hsn⟩ := small_paths hls
  obtain ⟨hdp, hdn⟩ := small_paths hld
  rw [HSL.out] at hsn
  rw [HDL.out] at hdn
  have HC1 := Lib.hid (checkL_any sA sn sc S w1 (HS.out.below B1.out) hsp (by omega))
  have HC2 := Lib.hid (fun w' (h : Below w.heap.size w w') => checkL_any dA dn dc D w' (HD.out.below h) hdp (by omega))
  have HW := Lib.hid (fun (w' : World) (h : Below w.heap.size w w') => which_any sA sn sc dA dn dc rA rn rc S D R 2 0 false false false false false false false false false false false false false false false false 0 0 0 w' (HS.out.below h) (HD.out.below h) (HR.out.below h) hsp hdp HRP.out (by omega) (by omega))
  have HK := Lib.hid (fun (p : ByteArray) (w' : World) (h : Below w.heap.size w w') => kept_any sA sn sc dA dn dc rA rn rc S D R p w' (HS.out.below h) (HD.out.below h) (HR.out.below h) hsp hdp HRP.out (by omega) (by omega))
  clear hls hld hsp hdp HLU
  obtain ⟨k1, hk1⟩ : ∃ b, checkE S = b := ⟨_, rfl⟩
  rw [hk1] at HC1
  cases k1 with
  | false =>
    go_wp2_with fail
    refine HC1.out.mono ?_
    rintro e w2 ⟨⟨k, rfl, hk⟩, hb2⟩
    have B2 := Lib.hid (B1.out.trans (hb2.mono B1.out.size))
    have hkn : (k != 0) = true := by simpa using hk
    clear hb2
    go_wp2_with fail
    refine (HAW.out _).mono ?_
    rintro e w9 ⟨rfl, hb9⟩
    have B9 := Lib.hid (B2.out.trans (hb9.mono B2.out.size))
    clear hb9
    go_wp2_with fail
    go_ret
    exact ⟨rfl, B9.out⟩
  | true =>
  go_wp2_with fail
  refine HC1.out.mono ?_
  rintro e w2 ⟨⟨k, rfl, hk⟩, hb2⟩
  have B2 := Lib.hid (B1.out.trans (hb2.mono B1.out.size))
  obtain rfl : k = 0 := by simpa using hk
  clear hb2 hk HC1 B1
  have HC2 := Lib.hid (HC2.out w2 B2.out)
  obtain ⟨k2, hk2⟩ : ∃ b, checkE D = b := ⟨_, rfl⟩
  rw [hk2] at HC2
  cases k2 with
  | false =>
    go_wp2_with fail
    refine HC2.out.mono ?_
    rintro e w3 ⟨⟨k, rfl, hk⟩, hb3⟩
    have B3 := Lib.hid (B2.out.trans (hb3.mono B2.out.size))
    have hkn : (k != 0) = true := by simpa using hk
    clear hb3
    go_wp2_with fail
    refine (HAW.out _).mono ?_
    rintro e w9 ⟨rfl, hb9⟩
    have B9 := Lib.hid (B3.out.trans (hb9.mono B3.out.size))
    clear hb9
    go_wp2_with fail
    go_ret
    exact ⟨rfl, B9.out⟩
  | true =>
  go_wp2_with fail
  refine HC2.out.mono ?_
  rintro e w3 ⟨⟨k, rfl, hk⟩, hb3⟩
  have B3 := Lib.hid (B2.out.trans (hb3.mono B2.out.size))
  obtain rfl : k = 0 := by simpa using hk
  clear hb3 hk HC2 B2
  have hwu : whichU S D R 2 0 = (goneU S D R, 0) := by
    unfold whichU
    rw [if_neg (fun h => by omega)]
    unfold allU
    rw [hk1, hk2]; rfl
  have HW := Lib.hid (HW.out w3 B3.out)
  rw [hwu] at HW
  have HGL := Lib.hid (show (goneU S D R).length ≤ 60 from Nat.le_trans (goneU_len hk2) (by rw [HDL.out]; exact hdn))
  have HGC := Lib.hid (show (goneU S D R).length = zeros (whyU S D R) dn by rw [← HDL.out]; exact gone_count hk2)
  have HGM := Lib.hid (fun p (h : p ∈ goneU S D R) => gone_mem (S := S) (R := R) hk2 h)
  have HGP := Lib.hid (gone_pair (S := S) (R := R) hk2)
  have HKU := Lib.hid (fun (m : Nat) (p : ByteArray) h => keptU_at (R := R) (m := m) (p := p) hk1 hk2 h)
  have HTH := Lib.hid (fun e => thereU_find hk1 e)
  have HFA := Lib.hid (fun (m : Nat) (x : En) (h : D[m]? = some x) => findK_at hk2 h)
  have HPA := Lib.hid (path_of_check hk2)
  have HWL := Lib.hid (show (whyU S D R).length = dn by unfold whyU; rw [whyL_len, HDL.out])
  clear hwu hk1 hk2
  generalize goneU S D R = gs at *
  generalize whyU S D R = ws at *
  go_wp2_with fail
  refine HW.out.mono ?_
  rintro e w4 ⟨⟨gA, gn, gc, rfl, hgn, hgs⟩, hb4⟩
  obtain rfl : gs.length = gn := strsRow hgs
  have B4 := Lib.hid (B3.out.trans (hb4.mono B3.out.size))
  have GS := Lib.hid hgs
  have hgl := HGL.out
  clear hb4 hgs HW B3
  go_wp2_with fail
  go_loopw [52] (fun v wr => ∃ i : Nat, v = .int .i64 i ∧ i ≤ gs.length ∧ Below w.heap.size w wr ∧ Sl 1 wr gA gs.length (strsA gs)) (fun v _ => gs.length - (intOf v).toNat)
  case atStart => exact ⟨0, rfl, Nat.zero_le _, B4.out, GS.out⟩
  case round =>
    clear B4 GS
    obtain ⟨i, rfl, hi, hb, hgs⟩ := hrel
    have HB := Lib.hid hb
    have HG := Lib.hid hgs
    clear hb hgs
    rcases Nat.lt_or_ge i gs.length with h | h
    · obtain ⟨gb0, go0, p, hgA, hgp, hgc⟩ := HG.out.txRow h
      obtain ⟨m, y, hy, rfl, hfk, hwm, hfz⟩ := HGM.out p (List.mem_of_getElem? hgp)
      have HKE := Lib.hid (show keptU S D R y.path = (0, true) by rw [HKU.out m _ hfk, hwm]; rfl)
      obtain ⟨hth, hhd, hsf⟩ := first_zero hfz
      have HHD := Lib.hid hhd
      have HSF := Lib.hid hsf
      have hml : m < dn := by rw [← HDL.out]; exact (List.getElem?_eq_some_iff.1 hy).1
      have hpl := (HPA.out y (List.mem_of_getElem? hy)).1
      have HGY := Lib.hid hgp
      have HY := Lib.hid hy
      have HFK := Lib.hid hfk
      have HTY := Lib.hid (HTH.out y)
      rw [hth] at HTY
      have hi2 : (i : Int) < (gs.length : Int) := by omega
      subst hgA
      clear hgp hfk hwm hfz hth hhd hsf hy
      go_wp2_with fail
      have h1 := find_any dA dn dc D y.path wr (HD.out.below HB.out)
      rw [HFK.out] at h1
      refine h1.mono ?_
      rintro e w5 ⟨rfl, hb5⟩
      clear h1
      have B5 := Lib.hid (HB.out.trans (hb5.mono HB.out.size))
      have G5 := Lib.hid (HG.out.below hb5)
      clear hb5 HG HB hgc
      go_wp2_with fail
      have h2 := HK.out y.path w5 B5.out
      rw [HKE.out] at h2
      refine h2.mono ?_
      rintro e w6 ⟨rfl, hb6⟩
      clear h2
      have B6 := Lib.hid (B5.out.trans (hb6.mono B5.out.size))
      have G6 := Lib.hid (G5.out.below hb6)
      clear hb6 G5 B5
      obtain ⟨db, dof, y', hdA, hy', hsg⟩ := (HD.out.below B6.out).enRow hml
      rw [HY.out] at hy'
      cases hy'
      have y0 := (enCells hsg).1
      have y1 := (enCells hsg).2.1
      have hm1 : (0 : Int) ≤ (m : Int) := by omega
      have hm2 : (m : Int) < (dn : Int) := by omega
      generalize hdk : (y.kind == 2) = dk at *
      subst hdA
      clear hsg
      go_wp2_with fail
      rcases HTY.out with ⟨hfn, _⟩ | ⟨k, s, hks, hfs, hkd⟩
      · have h3 := find_any sA sn sc S y.path w6 (HS.out.below B6.out)
        rw [hfn] at h3
        refine h3.mono ?_
        rintro e w7 ⟨rfl, hb7⟩
        clear h3 hfn y0 y1
        have B7 := Lib.hid (B6.out.trans (hb7.mono B6.out.size))
        have G7 := Lib.hid (G6.out.below hb7)
        clear hb7 G6 B6
        go_wp2_with fail
        have h4 := hidden_any rA rn rc R y.path dk w7 (HR.out.below B7.out) HRP.out (by omega)
        rw [HHD.out] at h4
        refine h4.mono ?_
        rintro e w8 ⟨rfl, hb8⟩
        clear h4
        have B8 := Lib.hid (B7.out.trans (hb8.mono B7.out.size))
        have G8 := Lib.hid (G7.out.below hb8)
        clear hb8 G7 B7
        go_wp2_with fail
        have h5 := safe_any rA rn rc R y.path dk w8 (HR.out.below B8.out) HRP.out (by omega)
        rw [HSF.out] at h5
        refine h5.mono ?_
        rintro e w10 ⟨rfl, hb10⟩
        clear h5
        have B10 := Lib.hid (B8.out.trans (hb10.mono B8.out.size))
        have G10 := Lib.hid (G8.out.below hb10)
        clear hb10 G8 B8
        have hsl : ∀ w : World, (Instr.slice 28 (.slice (some ⟨gb0, go0, none⟩) gs.length gc) none (some (.int .i64 (i : Int))) none).run Try.prog w = .ok (.slice (subAt (some ⟨gb0, go0, none⟩) 0 gc 1) i gc) w := fun w => run_slice_to undSt elemSt hi0 hz1 _ gs.length gc i (by omega) .i64 _ rfl
        go_wp2_with fail
        go_loopw [120] (fun v wr => ∃ j : Nat, v = .int .i64 j ∧ j ≤ i ∧ Below w10.heap.size w10 wr) (fun v _ => i - (intOf v).toNat)
        case atStart => exact ⟨0, rfl, Nat.zero_le _, Below.refl _ _⟩
        case round =>
          obtain ⟨j, rfl, hj, hbj⟩ := hrel
          have HBj := Lib.hid hbj
          have Gj := Lib.hid (G10.out.below hbj)
          have Bj := Lib.hid (B10.out.trans (hbj.mono B10.out.size))
          clear hbj
          rcases Nat.lt_or_ge j i with hji | hji
          · obtain ⟨qb, qo, q, hqA, hq, hqc⟩ := ((Gj.out.strPre (Nat.le_of_lt h)).sub0 (c := gc)).txRow hji
            have hq2 : gs[j]? = some q := by rw [List.getElem?_take, if_pos hji] at hq; exact hq
            have HPR := Lib.hid (pair_at HGP.out hq2 HGY.out hji)
            obtain ⟨m', y', hy', rfl, _⟩ := HGM.out q (List.mem_of_getElem? hq2)
            have hql := (HPA.out y' (List.mem_of_getElem? hy')).1
            have hj2 : (j : Int) < (i : Int) := by omega
            rw [hqA]
            clear hq hq2 hy'
            go_wp2_with fail
            have h6 := under_any y.path y'.path wr (by omega) (by omega)
            rw [HPR.out] at h6
            refine h6.mono ?_
            rintro e w11 ⟨rfl, hb11⟩
            clear h6
            have HB11 := Lib.hid (HBj.out.trans (hb11.mono HBj.out.size))
            clear hb11 Gj Bj HBj hqc
            go_wp2_with fail
            go_roundw
            case rel => exact ⟨j + 1, by go_num, by omega, HB11.out⟩
            case measure => simp [intOf] <;> omega
          · obtain rfl : j = i := by omega
            have hjn : ¬ ((j : Int) < (j : Int)) := by omega
            clear hj hji
            go_wp2_with fail
            go_roundw
            case rel => exact ⟨j + 1, by go_num, by omega, Bj.out, Gj.out⟩
            case measure => simp [intOf] <;> omega
      · have h3 := find_any sA sn sc S y.path w6 (HS.out.below B6.out)
        rw [hfs] at h3
        refine h3.mono ?_
        rintro e w7 ⟨rfl, hb7⟩
        clear h3 hfs y0 y1
        have B7 := Lib.hid (B6.out.trans (hb7.mono B6.out.size))
        have G7 := Lib.hid (G6.out.below hb7)
        clear hb7 G6 B6
        have hkl : k < sn := by rw [← HSL.out]; exact (List.getElem?_eq_some_iff.1 hks).1
        obtain ⟨sb, sof, s', hsA, hs', hsg⟩ := (HS.out.below B7.out).enRow hkl
        rw [hks] at hs'
        cases hs'
        have s0 := (enCells hsg).1
        have s1 := (enCells hsg).2.1
        have hk1 : (0 : Int) ≤ (k : Int) := by omega
        have hk2 : (k : Int) < (sn : Int) := by omega
        have hkd2 : ((s.kind == 2) == dk) = false := hkd.symm
        generalize hsk : (s.kind == 2) = sk at *
        subst hsA
        clear hsg hkd
        have hsd : (sk = true ∧ dk = false) ∨ (sk = false ∧ dk = true) := by cases sk <;> cases dk <;> simp at hkd2 ⊢
        clear hkd2
        rcases hsd with ⟨rfl, rfl⟩ | ⟨rfl, rfl⟩
        · go_wp2_with fail
          have h4 := hidden_any rA rn rc R y.path false w7 (HR.out.below B7.out) HRP.out (by omega)
          rw [HHD.out] at h4
          refine h4.mono ?_
          rintro e w8 ⟨rfl, hb8⟩
          clear h4
          have B8 := Lib.hid (B7.out.trans (hb8.mono B7.out.size))
          have G8 := Lib.hid (G7.out.below hb8)
          clear hb8 G7 B7
          go_wp2_with fail
          have h5 := safe_any rA rn rc R y.path false w8 (HR.out.below B8.out) HRP.out (by omega)
          rw [HSF.out] at h5
          refine h5.mono ?_
          rintro e w10 ⟨rfl, hb10⟩
          clear h5
          have B10 := Lib.hid (B8.out.trans (hb10.mono B8.out.size))
          have G10 := Lib.hid (G8.out.below hb10)
          clear hb10 G8 B8
          have hsl : ∀ w : World, (Instr.slice 28 (.slice (some ⟨gb0, go0, none⟩) gs.length gc) none (some (.int .i64 (i : Int))) none).run Try.prog w = .ok (.slice (subAt (some ⟨gb0, go0, none⟩) 0 gc 1) i gc) w := fun w => run_slice_to undSt elemSt hi0 hz1 _ gs.length gc i (by omega) .i64 _ rfl
          go_wp2_with fail
          go_loopw [120] (fun v wr => ∃ j : Nat, v = .int .i64 j ∧ j ≤ i ∧ Below w10.heap.size w10 wr) (fun v _ => i - (intOf v).toNat)
          case atStart => exact ⟨0, rfl, Nat.zero_le _, Below.refl _ _⟩
          case round =>
            obtain ⟨j, rfl, hj, hbj⟩ := hrel
            have HBj := Lib.hid hbj
            have Gj := Lib.hid (G10.out.below hbj)
            have Bj := Lib.hid (B10.out.trans (hbj.mono B10.out.size))
            clear hbj
            rcases Nat.lt_or_ge j i with hji | hji
            · obtain ⟨qb, qo, q, hqA, hq, hqc⟩ := ((Gj.out.strPre (Nat.le_of_lt h)).sub0 (c := gc)).txRow hji
              have hq2 : gs[j]? = some q := by rw [List.getElem?_take, if_pos hji] at hq; exact hq
              have HPR := Lib.hid (pair_at HGP.out hq2 HGY.out hji)
              obtain ⟨m', y', hy', rfl, _⟩ := HGM.out q (List.mem_of_getElem? hq2)
              have hql := (HPA.out y' (List.mem_of_getElem? hy')).1
              have hj2 : (j : Int) < (i : Int) := by omega
              rw [hqA]
              clear hq hq2 hy'
              go_wp2_with fail
              have h6 := under_any y.path y'.path wr (by omega) (by omega)
              rw [HPR.out] at h6
              refine h6.mono ?_
              rintro e w11 ⟨rfl, hb11⟩
              clear h6
              have HB11 := Lib.hid (HBj.out.trans (hb11.mono HBj.out.size))
              clear hb11 Gj Bj HBj hqc
              go_wp2_with fail
              go_roundw
              case rel => exact ⟨j + 1, by go_num, by omega, HB11.out⟩
              case measure => simp [intOf] <;> omega
            · obtain rfl : j = i := by omega
              have hjn : ¬ ((j : Int) < (j : Int)) := by omega
              clear hj hji
              go_wp2_with fail
              go_roundw
              case rel => exact ⟨j + 1, by go_num, by omega, Bj.out, Gj.out⟩
              case measure => simp [intOf] <;> omega
        · go_wp2_with fail
          have h4 := hidden_any rA rn rc R y.path true w7 (HR.out.below B7.out) HRP.out (by omega)
          rw [HHD.out] at h4
          refine h4.mono ?_
          rintro e w8 ⟨rfl, hb8⟩
          clear h4
          have B8 := Lib.hid (B7.out.trans (hb8.mono B7.out.size))
          have G8 := Lib.hid (G7.out.below hb8)
          clear hb8 G7 B7
          go_wp2_with fail
          have h5 := safe_any rA rn rc R y.path true w8 (HR.out.below B8.out) HRP.out (by omega)
          rw [HSF.out] at h5
          refine h5.mono ?_
          rintro e w10 ⟨rfl, hb10⟩
          clear h5
          have B10 := Lib.hid (B8.out.trans (hb10.mono B8.out.size))
          have G10 := Lib.hid (G8.out.below hb10)
          clear hb10 G8 B8
          have hsl : ∀ w : World, (Instr.slice 28 (.slice (some ⟨gb0, go0, none⟩) gs.length gc) none (some (.int .i64 (i : Int))) none).run Try.prog w = .ok (.slice (subAt (some ⟨gb0, go0, none⟩) 0 gc 1) i gc) w := fun w => run_slice_to undSt elemSt hi0 hz1 _ gs.length gc i (by omega) .i64 _ rfl
          go_wp2_with fail
          go_loopw [120] (fun v wr => ∃ j : Nat, v = .int .i64 j ∧ j ≤ i ∧ Below w10.heap.size w10 wr) (fun v _ => i - (intOf v).toNat)
          case atStart => exact ⟨0, rfl, Nat.zero_le _, Below.refl _ _⟩
          case round =>
            obtain ⟨j, rfl, hj, hbj⟩ := hrel
            have HBj := Lib.hid hbj
            have Gj := Lib.hid (G10.out.below hbj)
            have Bj := Lib.hid (B10.out.trans (hbj.mono B10.out.size))
            clear hbj
            rcases Nat.lt_or_ge j i with hji | hji
            · obtain ⟨qb, qo, q, hqA, hq, hqc⟩ := ((Gj.out.strPre (Nat.le_of_lt h)).sub0 (c := gc)).txRow hji
              have hq2 : gs[j]? = some q := by rw [List.getElem?_take, if_pos hji] at hq; exact hq
              have HPR := Lib.hid (pair_at HGP.out hq2 HGY.out hji)
              obtain ⟨m', y', hy', rfl, _⟩ := HGM.out q (List.mem_of_getElem? hq2)
              have hql := (HPA.out y' (List.mem_of_getElem? hy')).1
              have hj2 : (j : Int) < (i : Int) := by omega
              rw [hqA]
              clear hq hq2 hy'
              go_wp2_with fail
              have h6 := under_any y.path y'.path wr (by omega) (by omega)
              rw [HPR.out] at h6
              refine h6.mono ?_
              rintro e w11 ⟨rfl, hb11⟩
              clear h6
              have HB11 := Lib.hid (HBj.out.trans (hb11.mono HBj.out.size))
              clear hb11 Gj Bj HBj hqc
              go_wp2_with fail
              go_roundw
              case rel => exact ⟨j + 1, by go_num, by omega, HB11.out⟩
              case measure => simp [intOf] <;> omega
            · obtain rfl : j = i := by omega
              have hjn : ¬ ((j : Int) < (j : Int)) := by omega
              clear hj hji
              go_wp2_with fail
              go_roundw
              case rel => exact ⟨j + 1, by go_num, by omega, Bj.out, Gj.out⟩
              case measure => simp [intOf] <;> omega
    · obtain rfl : i = gs.length := by omega
      have hin : ¬ ((gs.length : Int) < (gs.length : Int)) := by omega
      clear hi h HG
      go_wp2_with fail
      go_loopw [8, 131] (fun u v wr => ∃ i : Nat, u = .int .i64 (zeros ws i) ∧ v = .int .i64 i ∧ i ≤ dn ∧ Below w.heap.size w wr) (fun _ v _ => dn - (intOf v).toNat)
      case atStart => exact ⟨0, rfl, rfl, Nat.zero_le _, HB.out⟩
      case round =>
        clear HB
        obtain ⟨i, rfl, rfl, hi, hb⟩ := hrel
        have HB := Lib.hid hb
        clear hb
        rcases Nat.lt_or_ge i dn with h | h
        · obtain ⟨db, dof, x, hdA, hx, hsg⟩ := (HD.out.below HB.out).enRow h
          obtain ⟨k0, k1, k2, k3, k4, k5, k6, k7, k8, k9, k10⟩ := enCells hsg
          obtain ⟨wi, hwi⟩ : ∃ wi, ws[i]? = some wi := ⟨_, List.getElem?_eq_getElem (by rw [HWL.out]; exact h)⟩
          have HKE := Lib.hid (show keptU S D R x.path = (wi, true) by rw [HKU.out i _ (HFA.out i x hx), hwi]; rfl)
          have HZ := Lib.hid (zeros_succ ws i)
          rw [hwi] at HZ
          have hzl := zeros_le ws i
          have hi2 : (i : Int) < (dn : Int) := by omega
          have bA := ((Below.refl wr.heap.size wr).alloc (Nat.le_refl _) (.cells #[.string x.path, .int .i64 x.kind, .int .i64 x.size, .int .i64 x.m0, .int .i64 x.m1, .int .i64 x.m2, .int .i64 x.m3, .int .i64 x.m4, .string x.target, .string x.sum, .int .i64 x.group] 37))
          have B5 := Lib.hid (HB.out.trans (bA.mono HB.out.size))
          clear bA
          subst hdA
          clear hsg hx hwi
          generalize zeros ws i = zi at *
          go_wp2_with fail
          have h2 := HK.out x.path _ B5.out
          rw [HKE.out] at h2
          refine h2.mono ?_
          rintro e w6 ⟨rfl, hb6⟩
          clear h2 k0 k1 k2 k3 k4 k5 k6 k7 k8 k9 k10
          have B6 := Lib.hid (B5.out.trans (hb6.mono B5.out.size))
          clear hb6 B5
          by_cases hz : wi = 0
          · have HZ1 := Lib.hid (show zeros ws (i + 1) = zi + 1 by rw [HZ.out, hz]; rfl)
            have e1 : (wi == 0) = true := by rw [hz]; rfl
            have hwz : IntKind.wrap .i64 ((zi : Int) + 1) = (zi : Int) + 1 := by rw [IntKind.wrap_i64]; omega
            clear hz
            go_wp2_with fail
            go_roundw
            case rel => exact ⟨i + 1, by rw [HZ1.out]; go_num, by go_num, by omega, B6.out⟩
            case measure => simp [intOf] <;> omega
          · have HZ1 := Lib.hid (show zeros ws (i + 1) = zi by rw [HZ.out, if_neg (fun h => hz (Option.some.inj h))]; rfl)
            have e1 : (wi == 0) = false := by rw [beq_eq_false_iff_ne]; exact hz
            clear hz
            go_wp2_with fail
            go_roundw
            case rel => exact ⟨i + 1, by rw [HZ1.out], by go_num, by omega, B6.out⟩
            case measure => simp [intOf] <;> omega
        · obtain rfl : i = dn := by omega
          have hin : ¬ ((i : Int) < (i : Int)) := by omega
          have hzg : zeros ws i = gs.length := HGC.out.symm
          rw [hzg]
          clear hi h
          go_wp2_with fail
          refine (HAW.out _).mono ?_
          rintro e w9 ⟨rfl, hb9⟩
          have B9 := Lib.hid (HB.out.trans (hb9.mono HB.out.size))
          clear hb9
          go_wp2_with fail
          go_ret
          exact ⟨rfl, B9.out⟩
end Go.Proofs.Ytcagonpnjionhaa
