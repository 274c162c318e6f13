import Derived.Test.YtcagonpnjionhaaOxc
import Derived.Test.YtcagonpnjionhaaDMc
/-! The document's Which; DropWhich, walked. -/
set_option linter.unusedVariables false
set_option linter.unusedSimpArgs false
namespace Go.Proofs.Ytcagonpnjionhaa
open Go.RowKit

theorem goingU_paths {D : List En} {ws : List Int} {n : Nat} (hp : ∀ x ∈ D, x.path.size ≤ 2097152) : ∀ p ∈ goingU D ws n, p.size ≤ 2097152 := by
  intro p h
  obtain ⟨m, _, hm⟩ := List.mem_flatMap.1 h
  obtain ⟨y, hy, rfl, _⟩ := tellI_mem hm
  exact hp y (List.mem_of_getElem? hy)
set_option maxRecDepth 100000 in
set_option maxHeartbeats 8000000 in
theorem refWhich_any (sA : Option Addr) (sn sc : Nat) (dA : Option Addr) (dn dc : Nat) (rA : Option Addr) (rn rc : Nat) (S D : List En) (R : List Ru) (del most : Int) (b0 b1 b2 b3 b4 b5 b6 b7 b8 b9 b10 b11 b12 b13 b14 b15 : Bool) (i0 i1 i2 : Int) (w : World)
    (hs : Sl 11 w sA sn (encEs S)) (hd : Sl 11 w dA dn (encEs D)) (hr : Sl 4 w rA rn (encUs R)) (hsp : ∀ x ∈ S, x.path.size ≤ 2097152) (hdp : ∀ x ∈ D, x.path.size ≤ 2097152) (hR : ∀ r ∈ R, r.pat.size ≤ 140737488355328) (hsn : sn ≤ 500) (hdn : dn ≤ 500) (hsc : sn ≤ sc) (hdc : dn ≤ dc) :
    Calls Try.prog 10 #[.slice sA sn sc, .slice dA dn dc, .slice rA rn rc, .agg #[.int .i64 del, .int .i64 most, .bool b0, .bool b1, .bool b2, .bool b3, .bool b4, .bool b5, .bool b6, .bool b7, .bool b8, .bool b9, .bool b10, .bool b11, .bool b12, .bool b13, .bool b14, .bool b15, .int .i64 i0, .int .i64 i1, .int .i64 i2]] w fun e w' => HandsW (whichU S D R del most) e w' ∧ Below w.heap.size w w' := by
  obtain ⟨X, hX⟩ : ∃ X, whichU S D R del most = X := ⟨_, rfl⟩
  have HX : Hid ((if 0 < most ∧ most < ((allU S D R del).length : Int) then ((allU S D R del).take most.toNat, ((allU S D R del).length : Int) - most) else (allU S D R del, 0)) = X) := Lib.hid hX
  rw [hX]
  clear hX
  obtain ⟨j0, hj, jz0, jz1, jz2⟩ := info_parts infoS
  have HALL := Lib.hid (show allU S D R del = if (checkE S && (checkE D && !(del == 0))) = true then goneU S D R else [] from rfl)
  have HNO : Hid ((checkE S && (checkE D && !(del == 0))) = false → X = ([], 0)) := Lib.hid (fun h => by
    have ha : allU S D R del = [] := by rw [HALL.out, h]; rfl
    rw [← HX.out, ha]
    exact if_neg (fun h => by simp at h; omega))
  have hb0 := (Below.refl w.heap.size w).alloc (Nat.le_refl _) (.cells #[.int .i64 del, .int .i64 most, .bool b0, .bool b1, .bool b2, .bool b3, .bool b4, .bool b5, .bool b6, .bool b7, .bool b8, .bool b9, .bool b10, .bool b11, .bool b12, .bool b13, .bool b14, .bool b15, .int .i64 i0, .int .i64 i1, .int .i64 i2] 25)
  have HMY := Lib.hid (refMay_any sA sn sc dA dn dc S D _ (hs.below hb0) (hd.below hb0) hsp hdp hsn hdn hsc hdc)
  have HGO := Lib.hid (fun (h1 : checkE S = true) (h2 : checkE D = true) w' (h : Below w.heap.size w w') => refGoes_any sA sn sc dA dn dc rA rn rc S D R w' (hs.below h) (hd.below h) (hr.below h) hR hdn h1 h2)
  have HN0 := Lib.hid (Blk.new w 25 [.int .i64 del, .int .i64 most, .bool b0, .bool b1, .bool b2, .bool b3, .bool b4, .bool b5, .bool b6, .bool b7, .bool b8, .bool b9, .bool b10, .bool b11, .bool b12, .bool b13, .bool b14, .bool b15, .int .i64 i0, .int .i64 i1, .int .i64 i2])
  have HB0 := Lib.hid hb0
  have HD := Lib.hid hd
  have HDL := Lib.hid hd.enLen
  have HDP := Lib.hid hdp
  have hwl : w.heap.size < (w.alloc (.cells #[.int .i64 del, .int .i64 most, .bool b0, .bool b1, .bool b2, .bool b3, .bool b4, .bool b5, .bool b6, .bool b7, .bool b8, .bool b9, .bool b10, .bool b11, .bool b12, .bool b13, .bool b14, .bool b15, .int .i64 i0, .int .i64 i1, .int .i64 i2] 25)).heap.size := by rw [World.size_alloc]; exact Nat.lt_succ_self _
  clear hs hd hr hsp hdp hR hsn hb0
  have c0 := HN0.out.cell 0
  simp only [List.getElem?_cons_zero] at c0
  go_enter Try.func10, Try.ntmps10
  by_cases hz : del = 0
  · have K' := Lib.hid (show X = ([], 0) from HNO.out (by rw [hz]; simp))
    have e1 : (del == 0) = true := by rw [hz]; rfl
    subst hz
    go_wp2_with fail
    go_ret2
    exact ⟨by rw [K'.out]; exact handsW_nil _, HB0.out⟩
  have e1 : (del == 0) = false := by rw [beq_eq_false_iff_ne]; exact hz
  go_wp2_with fail
  refine HMY.out.mono ?_
  rintro e w2 ⟨rfl, hb2⟩
  have hw2 := Nat.lt_of_lt_of_le hwl hb2.size
  have N2 := Lib.hid (HN0.out.below hb2)
  have B2 := Lib.hid (HB0.out.trans (hb2.mono HB0.out.size))
  clear hb2 HMY HN0 HB0 hwl c0
  cases hck : (checkE S && checkE D) with
  | false =>
    have K := Lib.hid (show X = ([], 0) from HNO.out (by rw [← Bool.and_assoc, hck]; rfl))
    clear hck
    go_wp2_with fail
    go_ret2
    exact ⟨by rw [K.out]; exact handsW_nil _, B2.out⟩
  | true =>
    have hcs : checkE S = true ∧ checkE D = true := by simpa using hck
    have HGA := Lib.hid (show allU S D R del = goneU S D R by rw [HALL.out, ← Bool.and_assoc, hck, e1]; rfl)
    have HORD := Lib.hid (order_gone (S := S) (R := R) hcs.2)
    have HG := Lib.hid (HGO.out hcs.1 hcs.2 w2 B2.out)
    have HWL := Lib.hid (show (whyU S D R).length = dn by unfold whyU; rw [whyL_len, HDL.out])
    have HLEN := Lib.hid (show (goneU S D R).length ≤ 500 from Nat.le_trans (goneU_len hcs.2) (by rw [HDL.out]; exact hdn))
    clear hck hcs HGO hz HALL HNO
    generalize whyU S D R = ws at *
    go_wp2_with fail
    refine HG.out.mono ?_
    rintro e w3 ⟨⟨gA, gc, rfl, hgc, hgs⟩, hb3⟩
    have hw3 := Nat.lt_of_lt_of_le hw2 hb3.size
    have N3 := Lib.hid (N2.out.below hb3)
    have B3 := Lib.hid (B2.out.trans (hb3.mono B2.out.size))
    have GS := Lib.hid hgs
    clear hb3 hgs HG N2 B2
    go_wp2_with fail
    go_loopw [10, 27] (fun u v wr => ∃ i : Nat, v = .int .i64 i ∧ i ≤ dn ∧ wr.ownsRow w3.heap.size 9 1 u (goingU D ws i).length (strsA (goingU D ws i)) ∧ Below w3.heap.size w3 wr) (fun _ v _ => dn - (intOf v).toNat)
    case atStart => exact ⟨0, rfl, Nat.zero_le _, ⟨rfl, .inl ⟨rfl, rfl⟩⟩, Below.refl _ _⟩
    case round =>
      obtain ⟨i, rfl, hi, hrow, hb⟩ := hrel
      have HB := Lib.hid hb
      have hgl := goingU_len D ws i
      obtain ⟨oA, oc, rfl, hoc, hosl⟩ := ownsRow_sl hrow (by omega)
      have hB9 := Lib.hid (B3.out.trans (hb.mono (Nat.le_of_lt hw3)))
      rcases Nat.lt_or_ge i dn with h | h
      · obtain ⟨wi, hwi⟩ : ∃ wi, ws[i]? = some wi := ⟨_, List.getElem?_eq_getElem (by rw [HWL.out]; exact h)⟩
        obtain ⟨b, o, x, hA, hx, hsg⟩ := (HD.out.below hB9.out).enRow h
        have k0 := (enCells hsg).1
        have HSN := Lib.hid (goingU_snoc (ws := ws) hx)
        rw [hwi] at HSN
        have hcell : ∃ b o, gA = some ⟨b, o, none⟩ ∧ wr.cell? ⟨b, o + i, none⟩ = some (.int .i64 wi) := by
          rcases (GS.out.below hb).at_ with h0 | ⟨b, o, rfl, hc⟩
          · have : (ints ws).length = 0 := by rw [h0]; rfl
            unfold ints at this
            rw [List.length_map, HWL.out] at this
            omega
          · exact ⟨b, o, rfl, hc i _ (by unfold ints; rw [List.getElem?_map, hwi]; rfl)⟩
        obtain ⟨gb', go', hgA, hgcell⟩ := hcell
        have hi0 : (0 : Int) ≤ (i : Int) := by omega
        have hi2 : (i : Int) < (dn : Int) := by omega
        have HROW := Lib.hid hrow
        subst hA hgA
        clear hsg hx hwi hosl
        by_cases hz : wi = 0
        · have e2 : (wi == 0) = true := by rw [hz]; rfl
          have HSN := Lib.hid (show goingU D ws (i + 1) = goingU D ws i ++ [x.path] by rw [HSN.out, hz]; rfl)
          clear hz
          generalize goingU D ws i = out at *
          have hg0 := (Below.refl wr.heap.size wr).alloc (Nat.le_refl _) (.cells #[.string x.path] 9)
          have hrA := ownsRow_heap hrow (fun b hb' => hg0.block b (ownsRow_lt hrow hb').2)
          have hsl : Sl 1 (wr.alloc (.cells #[.string x.path] 9)) (some ⟨wr.heap.size, 0, none⟩) 1 [.string x.path] := (Blk.new wr 9 [.string x.path]).sl rfl rfl (by omega)
          have hsz : (wr.alloc (.cells #[.string x.path] 9)).heap.size = wr.heap.size + 1 := World.size_alloc _ _
          have hws := hb.size
          obtain ⟨v', w5, hap, hown, hg, hblk⟩ := run_append_at (c := 1) (w := wr.alloc (.cells #[.string x.path] 9)) w3.heap.size 28 28 9 j0 _ 1 16 Try.underlying28 hj jz0 jz1 jz2 rfl (by decide) hrA hsl (by omega) (by intro u hu; simp at hu; subst hu; rfl) (by omega) (by omega) (by omega)
          have B5 := Lib.hid ((hb.trans (hg0.mono hb.size)).grown hg (by omega) (fun j hj => (ownsRow_lt hrA hj).1))
          have R5 := Lib.hid (show w5.ownsRow w3.heap.size 9 1 v' (goingU D ws (i + 1)).length (strsA (goingU D ws (i + 1))) by
            rw [HSN.out]
            have e2 : strsA (out ++ [x.path]) = strsA out ++ [.string x.path] := by simp [strsA]
            rw [e2, List.length_append]; exact hown)
          clear hown hg hblk hrA hg0 hrow hb hsl
          go_wp2_with (at_builtin; refine halt_in ?_)
          refine Halted.out (wpList_append_run rfl _ _ _ _ rfl rfl rfl hap ?_)
          clear hap HROW k0 hgcell
          go_wp2_with fail
          go_roundw
          case rel => exact ⟨i + 1, by go_num, by omega, R5.out, B5.out⟩
          case measure => simp [intOf] <;> omega
        · have e2 : (wi == 0) = false := by rw [beq_eq_false_iff_ne]; exact hz
          have HSN := Lib.hid (show goingU D ws (i + 1) = goingU D ws i by rw [HSN.out, if_neg (fun h => hz (Option.some.inj h)), List.append_nil])
          have R5 := Lib.hid (show wr.ownsRow w3.heap.size 9 1 (.slice oA (goingU D ws i).length oc) (goingU D ws (i + 1)).length (strsA (goingU D ws (i + 1))) by rw [HSN.out]; exact hrow)
          clear hz hrow hb
          go_wp2_with fail
          go_roundw
          case rel => exact ⟨i + 1, by go_num, by omega, R5.out, HB.out⟩
          case measure => simp [intOf] <;> omega
      · obtain rfl : i = dn := by omega
        have hin : ¬ ((i : Int) < (i : Int)) := by omega
        have hordl : ordO (goingU D ws i) = goneU S D R := by rw [← HORD.out, HDL.out]
        have HO := Lib.hid (refOrder_any oA (goingU D ws i).length oc (goingU D ws i) wr hosl (goingU_paths HDP.out) (by omega))
        rw [hordl] at HO
        have HX := Lib.hid (show (if 0 < most ∧ most < ((goneU S D R).length : Int) then ((goneU S D R).take most.toNat, ((goneU S D R).length : Int) - most) else (goneU S D R, 0)) = X by rw [← HX.out, HGA.out])
        have N9 := Lib.hid (N3.out.below (hb.mono (Nat.le_refl _)))
        generalize goneU S D R = gs at *
        clear hi h hb hrow hosl HGA HORD GS N3 hordl
        go_wp2_with fail
        refine HO.out.mono ?_
        rintro e w6 ⟨⟨vA, vc, rfl, hvc, hvs⟩, hb6⟩
        have hgsl : gs.length = (goingU D ws i).length := strsRow hvs
        rw [← hgsl] at hvc hvs ⊢
        have B9 := Lib.hid (hB9.out.trans (hb6.mono hB9.out.size))
        have HVS := Lib.hid hvs
        have N10 := N9.out.below hb6
        have c0 := N10.cell 0
        have c1 := N10.cell 1
        simp only [List.getElem?_cons_zero, List.getElem?_cons_succ] at c0 c1
        have hle := HLEN.out
        clear hb6 hvs N9 N10 HO hgsl
        rcases Int.lt_or_le 0 most with hm | hm
        · obtain ⟨m, rfl⟩ : ∃ m : Nat, most = (m : Int) := ⟨most.toNat, by omega⟩
          have f1 : decide ((0 : Int) < (m : Int)) = true := decide_eq_true hm
          have f1n : 0 < m := by omega
          have f1d : decide (0 < m) = true := decide_eq_true f1n
          rcases Nat.lt_or_ge m gs.length with hg | hg
          · have K9 := Lib.hid (show X = (gs.take m, (gs.length : Int) - m) by rw [← HX.out]; exact (if_pos ⟨hm, by omega⟩).trans (by rw [Int.toNat_natCast]))
            have f2 : (m : Int) < (gs.length : Int) := by omega
            have f3 : decide ((m : Int) < (gs.length : Int)) = true := decide_eq_true f2
            have f4 : decide (m < gs.length) = true := decide_eq_true hg
            obtain ⟨b9, o9, hA9⟩ : ∃ b9 o9, vA = some ⟨b9, o9, none⟩ := by
              rcases HVS.out.at_ with h1 | ⟨b, o, h1, _⟩
              · have := congrArg List.length h1
                simp [strsA] at this
                subst this
                simp at hg
              · exact ⟨b, o, h1⟩
            subst hA9
            have hmc : (m : Int) ≤ (vc : Int) := by omega
            have hwr : IntKind.wrap .i64 ((gs.length : Int) - m) = (gs.length : Int) - m := by rw [IntKind.wrap_i64]; omega
            have HVP := Lib.hid (HVS.out.strPre (Nat.le_of_lt hg))
            clear hm hle HX
            go_wp2_with fail
            go_quiet (fail)
            go_wp2_with fail
            go_ret2
            exact ⟨⟨_, m, vc, by rw [K9.out]; first | rfl | simp, by omega, by rw [K9.out]; exact (HVP.out.below (below_drewN (Below.refl _ _) _))⟩, below_drewN B9.out _⟩
          · have K9 := Lib.hid (show X = (gs, 0) by rw [← HX.out]; exact if_neg (fun h => by omega))
            have f2 : ¬ (m : Int) < (gs.length : Int) := by omega
            have f3 : decide ((m : Int) < (gs.length : Int)) = false := decide_eq_false f2
            have f5 : ¬ m < gs.length := by omega
            have f4 : decide (m < gs.length) = false := decide_eq_false f5
            clear hm HX hg
            go_wp2_with fail
            go_ret2
            exact ⟨⟨_, _, _, by rw [K9.out]; rfl, hvc, by rw [K9.out]; exact HVS.out⟩, B9.out⟩
        · have K9 := Lib.hid (show X = (gs, 0) by rw [← HX.out]; exact if_neg (fun h => by omega))
          have f2 : ¬ (0 : Int) < most := by omega
          have f1 : decide ((0 : Int) < most) = false := decide_eq_false f2
          clear hm HX
          go_wp2_with fail
          go_ret2
          exact ⟨⟨_, _, _, by rw [K9.out]; rfl, hvc, by rw [K9.out]; exact HVS.out⟩, B9.out⟩
set_option maxRecDepth 100000 in
set_option maxHeartbeats 8000000 in
theorem dropWhich_any (sA : Option Addr) (sn sc : Nat) (dA : Option Addr) (dn dc : Nat) (rA : Option Addr) (rn rc : Nat) (S D : List En) (R : List Ru) (del most : Int) (b0 b1 b2 b3 b4 b5 b6 b7 b8 b9 b10 b11 b12 b13 b14 b15 : Bool) (i0 i1 i2 : Int) (w : World)
    (hs : Sl 11 w sA sn (encEs S)) (hd : Sl 11 w dA dn (encEs D)) (hr : Sl 4 w rA rn (encUs R)) (hR : ∀ r ∈ R, r.pat.size ≤ 140737488355328) (hsc : sn ≤ sc) (hdc : dn ≤ dc) :
    Calls Try.prog 3 #[.slice sA sn sc, .slice dA dn dc, .slice rA rn rc, .agg #[.int .i64 del, .int .i64 most, .bool b0, .bool b1, .bool b2, .bool b3, .bool b4, .bool b5, .bool b6, .bool b7, .bool b8, .bool b9, .bool b10, .bool b11, .bool b12, .bool b13, .bool b14, .bool b15, .int .i64 i0, .int .i64 i1, .int .i64 i2]] w fun e w' => e = .returned (.bool true) ∧ Below w.heap.size w w' := by
  have hb0 := (Below.refl w.heap.size w).alloc (Nat.le_refl _) (.cells #[.int .i64 del, .int .i64 most, .bool b0, .bool b1, .bool b2, .bool b3, .bool b4, .bool b5, .bool b6, .bool b7, .bool b8, .bool b9, .bool b10, .bool b11, .bool b12, .bool b13, .bool b14, .bool b15, .int .i64 i0, .int .i64 i1, .int .i64 i2] 25)
  have HL := Lib.hid (light_any sA sn sc dA dn dc rA rn rc S D _ (hs.below hb0) (hd.below hb0))
  have HAW := Lib.hid awake_any
  have HLU := Lib.hid (fun (h : lightU S D rn = true) => show smallE S = true ∧ smallE D = true by unfold lightU at h; simp only [Bool.and_eq_true] at h; exact ⟨h.1, h.2.1⟩)
  have HN0 := Lib.hid (Blk.new w 25 [.int .i64 del, .int .i64 most, .bool b0, .bool b1, .bool b2, .bool b3, .bool b4, .bool b5, .bool b6, .bool b7, .bool b8, .bool b9, .bool b10, .bool b11, .bool b12, .bool b13, .bool b14, .bool b15, .int .i64 i0, .int .i64 i1, .int .i64 i2])
  have HB0 := Lib.hid hb0
  have HS := Lib.hid hs
  have HD := Lib.hid hd
  have HR := Lib.hid hr
  have HRP := Lib.hid hR
  generalize lightU S D rn = lt at *
  have HSL := Lib.hid hs.enLen
  have HDL := Lib.hid hd.enLen
  clear hs hd hr hR hb0
  go_enter Try.func3, Try.ntmps3
  go_wp2_with fail
  refine HL.out.mono ?_
  rintro e w1 ⟨rfl, hb1⟩
  have B1 := Lib.hid (HB0.out.trans (hb1.mono HB0.out.size))
  have N1 := Lib.hid (HN0.out.below hb1)
  clear hb1 HL HN0 HB0
  cases lt with
  | false =>
    go_wp2_with fail
    refine (HAW.out _).mono ?_
    rintro e w2 ⟨rfl, hb2⟩
    have B2 := Lib.hid (B1.out.trans (hb2.mono B1.out.size))
    clear hb2
    go_wp2_with fail
    go_ret
    exact ⟨rfl, B2.out⟩
  | true =>
  obtain ⟨hls, hld⟩ := HLU.out rfl
  obtain ⟨hsp, hsn⟩ := small_paths hls
  obtain ⟨hdp, hdn⟩ := small_paths hld
  rw [HSL.out] at hsn
  rw [HDL.out] at hdn
  have H1 := Lib.hid (which_any sA sn sc dA dn dc rA rn rc S D R del most b0 b1 b2 b3 b4 b5 b6 b7 b8 b9 b10 b11 b12 b13 b14 b15 i0 i1 i2 w1 (HS.out.below B1.out) (HD.out.below B1.out) (HR.out.below B1.out) hsp hdp HRP.out (by omega) (by omega))
  have H2 := Lib.hid (fun (w' : World) (h : Below w.heap.size w w') => refWhich_any sA sn sc dA dn dc rA rn rc S D R del most b0 b1 b2 b3 b4 b5 b6 b7 b8 b9 b10 b11 b12 b13 b14 b15 i0 i1 i2 w' (HS.out.below h) (HD.out.below h) (HR.out.below h) hsp hdp HRP.out (by omega) (by omega) hsc hdc)
  generalize whichU S D R del most = X at *
  obtain ⟨gs, k⟩ := X
  clear hls hld hsp hsn hdp hdn HLU
  have HSZ := Lib.hid (show (Try.prog.info? 25).map (·.size) = some ([.int .i64 del, .int .i64 most, .bool b0, .bool b1, .bool b2, .bool b3, .bool b4, .bool b5, .bool b6, .bool b7, .bool b8, .bool b9, .bool b10, .bool b11, .bool b12, .bool b13, .bool b14, .bool b15, .int .i64 i0, .int .i64 i1, .int .i64 i2] : List Value).length by kernel_rfl)
  have R1 := Lib.hid (show w1.rangeAt w.heap.size 0 [.int .i64 del, .int .i64 most, .bool b0, .bool b1, .bool b2, .bool b3, .bool b4, .bool b5, .bool b6, .bool b7, .bool b8, .bool b9, .bool b10, .bool b11, .bool b12, .bool b13, .bool b14, .bool b15, .int .i64 i0, .int .i64 i1, .int .i64 i2] from fun j v hj => by rw [Nat.zero_add, N1.out.cell j]; exact hj)
  go_wp2_with (refine wpList_val rfl (run_load_op 25 (.tmp 7) rfl w.heap.size 0 rfl [.int .i64 del, .int .i64 most, .bool b0, .bool b1, .bool b2, .bool b3, .bool b4, .bool b5, .bool b6, .bool b7, .bool b8, .bool b9, .bool b10, .bool b11, .bool b12, .bool b13, .bool b14, .bool b15, .int .i64 i0, .int .i64 i1, .int .i64 i2] _ R1.out Try.underlying25 rfl HSZ.out) ?_)
  refine H1.out.mono ?_
  rintro e w2 ⟨⟨A1, n1, c1', rfl, hn1, hs1⟩, hb2⟩
  obtain rfl : gs.length = n1 := strsRow hs1
  have B2 := Lib.hid (B1.out.trans (hb2.mono B1.out.size))
  have N2 := Lib.hid (N1.out.below hb2)
  have S1 := Lib.hid hs1
  clear hb2 hs1 H1 N1 B1 R1
  have R2 := Lib.hid (show w2.rangeAt w.heap.size 0 [.int .i64 del, .int .i64 most, .bool b0, .bool b1, .bool b2, .bool b3, .bool b4, .bool b5, .bool b6, .bool b7, .bool b8, .bool b9, .bool b10, .bool b11, .bool b12, .bool b13, .bool b14, .bool b15, .int .i64 i0, .int .i64 i1, .int .i64 i2] from fun j v hj => by rw [Nat.zero_add, N2.out.cell j]; exact hj)
  go_wp2_with (refine wpList_val rfl (run_load_op 25 (.tmp 7) rfl w.heap.size 0 rfl [.int .i64 del, .int .i64 most, .bool b0, .bool b1, .bool b2, .bool b3, .bool b4, .bool b5, .bool b6, .bool b7, .bool b8, .bool b9, .bool b10, .bool b11, .bool b12, .bool b13, .bool b14, .bool b15, .int .i64 i0, .int .i64 i1, .int .i64 i2] _ R2.out Try.underlying25 rfl HSZ.out) ?_)
  refine (H2.out w2 B2.out).mono ?_
  rintro e w3 ⟨⟨A2, n2, c2', rfl, hn2, hs2⟩, hb3⟩
  obtain rfl : gs.length = n2 := strsRow hs2
  have B3 := Lib.hid (B2.out.trans (hb3.mono B2.out.size))
  have HT := Lib.hid (texts_any A1 A2 gs.length c1' gs.length c2' gs gs w3 (S1.out.below hb3) hs2)
  rw [decide_eq_true rfl] at HT
  clear hb3 hs2 H2 N2 B2 S1 R2
  go_wp2_with fail
  refine HT.out.mono ?_
  rintro e w4 ⟨rfl, hb4⟩
  have B4 := Lib.hid (B3.out.trans (hb4.mono B3.out.size))
  clear hb4 HT B3
  go_wp2_with fail
  refine (HAW.out _).mono ?_
  rintro e w5 ⟨rfl, hb5⟩
  have B5 := Lib.hid (B4.out.trans (hb5.mono B4.out.size))
  clear hb5 B4
  go_wp2_with fail
  go_ret
  exact ⟨rfl, B5.out⟩
end Go.Proofs.Ytcagonpnjionhaa
