import Derived.Test.YthkjnpbbgfagkaaDoorROpnA
set_option linter.unusedVariables false
set_option linter.unusedSimpArgs false
namespace Go.Proofs.YthkjnpbbgfagkaaDoor
open Go.RowKit Go.Maps

theorem Box4.set {w : World} {b : Nat} {r : Rec} (h : Box4 w b r) {a : Addr} (ha : a.block ≠ b) (u : Value) : Box4 (w.setCell a u) b r := by
  have hne : ∀ k : Nat, (⟨b, k, none⟩ : Addr) ≠ a := fun k e => ha (by rw [← e])
  exact ⟨(World.cell?_setCell_other _ _ _ _ (hne 0).symm).trans h.c0, (World.cell?_setCell_other _ _ _ _ (hne 1).symm).trans h.c1, (World.cell?_setCell_other _ _ _ _ (hne 2).symm).trans h.c2, (World.cell?_setCell_other _ _ _ _ (hne 3).symm).trans h.c3⟩
theorem Box4.drewN {w : World} {b : Nat} {r : Rec} (h : Box4 w b r) (n : Nat) : Box4 (w.drewN n) b r := ⟨h.c0, h.c1, h.c2, h.c3⟩
theorem own_some {w : World} {base : Nat} {e : TypeId} {sz : Nat} {v : Value} {n : Nat} {cs : List Value} (h : w.ownsRow base e sz v n cs) (hn : 0 < n) : ∃ g c, v = .slice (some ⟨g, 0, none⟩) n c ∧ base ≤ g ∧ g < w.heap.size ∧ n ≤ c := by
  rcases h.2 with ⟨rfl, h0⟩ | ⟨g, cap, cur, rfl, hb, hh, h1, h2, h3⟩
  · omega
  · exact ⟨g, cap, rfl, hb, (Array.getElem?_eq_some_iff.1 hh).1, h1⟩

theorem less_ky {k m k' m' : Int} {p p' s s' : ByteArray} (h : Op.bytesLess p'.toList p.toList = false) (hne : ¬ p'.toList = p.toList) : ky ⟨k, p, m, s⟩ < ky ⟨k', p', m', s'⟩ := by
  rw [bytesLess_eq, decide_eq_false_iff_not, ByteArray.toList_eq, ByteArray.toList_eq] at h
  rw [ByteArray.toList_eq, ByteArray.toList_eq] at hne
  exact lt_of_not h hne
theorem not_ky {k m k' m' : Int} {p p' s s' : ByteArray} (h : Op.bytesLess p'.toList p.toList = true) : ¬ ky ⟨k, p, m, s⟩ < ky ⟨k', p', m', s'⟩ := by
  rw [bytesLess_eq, decide_eq_true_iff, ByteArray.toList_eq, ByteArray.toList_eq] at h
  exact fun h2 => List.lt_irrefl _ (List.lt_trans h h2)

set_option maxRecDepth 100000 in
set_option maxHeartbeats 4000000 in
theorem ROpenL_any (A : Option Addr) (n c : Nat) (l : List Rec) (w : World) (hs : Sl 4 w A n (encs l)) (hn : n ≤ 1099511627776) :
    Calls Tryd.prog 20 #[.slice A n c] w fun e w' => ∃ v, e = .returned v ∧ w'.ownsRow w.heap.size 23 4 v (openL l).length (encs (openL l)) ∧ Below w.heap.size w w' := by
  have HL := Lib.hid hs.recs
  obtain ⟨i0, hi, hz0, hz1, hz2⟩ := info_parts info23
  go_enter Tryd.func20, Tryd.ntmps20
  go_wp2_with fail
  go_loopw [3, 10] (fun v a wr => ∃ i : Nat, a = .int .i64 i ∧ i ≤ n ∧ wr.ownsRow w.heap.size 23 4 v (openL (l.take i)).length (encs (openL (l.take i))) ∧ Below w.heap.size w wr) (fun _ a _ => n - (intOf a).toNat)
  case atStart => exact ⟨0, rfl, by omega, World.ownsRow_nil _ _ _ _, Below.refl _ _⟩
  case round =>
    obtain ⟨i, rfl, hin, hown, hb⟩ := hrel
    rcases Nat.lt_or_ge i n with h | h
    · obtain ⟨b, o, k, p, m, s, rfl, hr, c0, c1, c2, c3⟩ := (hs.below hb).row4 h
      have hti : (l.take i).length = i := by rw [List.length_take, HL.out]; omega
      have hal := openL_len (l.take i)
      have hsrt := openL_srt (l.take i)
      rw [hti] at hal
      have hst : openL (l.take (i + 1)) = openStep (openL (l.take i)) ⟨k, p, m, s⟩ := by rw [take_snoc hr, openL_snoc]
      generalize openL (l.take i) = acc at *
      have HST := Lib.hid hst
      have HSR := Lib.hid hsrt
      have hbX := hb.alloc hb.size (.cells (encR ⟨k, p, m, s⟩).toArray 23)
      have hx0 := Box4.mk_alloc wr ⟨k, p, m, s⟩ 23
      have hownA := hown.alloc (.cells (encR ⟨k, p, m, s⟩).toArray 23)
      have hrow := fun k' hk => (hown.lt k' hk).2
      clear hr hti hst hsrt hown hb
      by_cases hm : mayR ⟨k, p, m, s⟩ = true
      · have HM := Lib.hid hm
        clear hm
        simp only [encR] at hbX hownA
        go_wp2_with fail
        refine (RMay_any ⟨k, p, m, s⟩ _).mono ?_
        rintro e w1 ⟨rfl, hb1⟩
        rw [HM.out]
        have hownB := own_below hownA hb1
        have hbY := hbX.trans (hb1.mono hbX.size)
        have hx1 := hx0.below hb1
        have hsz1 : wr.heap.size < w1.heap.size := World.block_lt_of_cell? w1 _ hx1.c0
        clear hownA hbX hb1 hx0
        obtain ⟨y0, y1, y2, y3⟩ := id hx1
        by_cases hk2 : k = 2
        · subst hk2
          have hstep : openStep acc ⟨2, p, m, s⟩ = setN acc p m := by
            have hM : May ⟨2, p, m, s⟩ := by have := HM.out; simpa [mayR] using this
            unfold openStep; rw [if_neg (by simpa using hM), if_pos rfl]
          have HSS := Lib.hid hstep
          clear hstep
          obtain ⟨A2, k2, rfl, hkc, hslA, _, _⟩ := own_sl hownB
          clear hslA
          go_wp2_with fail
          go_loopw [22] (fun a wq => ∃ j : Nat, a = .int .i64 j ∧ j ≤ acc.length ∧ wq.ownsRow w.heap.size 23 4 (.slice A2 acc.length k2) acc.length (encs (setN (acc.take j) p m ++ acc.drop j)) ∧ Below w.heap.size w wq ∧ Box4 wq wr.heap.size ⟨2, p, m, s⟩) (fun a _ => acc.length - (intOf a).toNat)
          case atStart => exact ⟨0, rfl, by omega, by simpa [setN] using hownB, hbY, hx1⟩
          case round =>
            obtain ⟨j, rfl, hj, hownJ, hbJ, hxJ⟩ := hrel
            rcases Nat.lt_or_ge j acc.length with hjl | hjl
            · obtain ⟨g, c', hA, hbg, hgs, hcc⟩ := own_some hownJ (by omega)
              simp only [Value.slice.injEq, true_and] at hA
              obtain ⟨rfl, rfl⟩ := hA
              obtain ⟨A3, k3, hA3, _, hslJ, _, _⟩ := own_sl hownJ
              simp only [Value.slice.injEq, true_and] at hA3
              obtain ⟨rfl, rfl⟩ := hA3
              obtain ⟨b3, o3, k', p', m', s', hA3, hr3, d0, d1, d2, d3⟩ := hslJ.row4 hjl
              simp only [Option.some.injEq, Addr.mk.injEq, and_true] at hA3
              obtain ⟨rfl, rfl⟩ := hA3
              rw [setN_at hjl] at hr3
              simp only [Nat.zero_add] at d0 d1 d2 d3
              have hrg := hrow g (by rfl)
              have HR3 := Lib.hid hr3
              have HOJ := Lib.hid hownJ
              have HBJ := Lib.hid hbJ
              have HXJ := Lib.hid hxJ
              obtain ⟨z0, z1, z2, z3⟩ := hxJ
              clear hr3 hownJ hbJ hslJ hownB hx1 y0 y1 y2 y3 c0 c1 c2 c3
              by_cases hp : p' = p
              · subst hp
                have hfz := HOJ.out.frozenAt (j * 4 + 2)
                go_wp2_with fail
                go_quiet (fail)
                go_wp2_with fail
                go_roundw
                case rel =>
                  have hst2 := World.ownsRow.stored (w := wr.drewN nq) HOJ.out (j * 4 + 2) (.int .i64 m)
                  rw [setN_step_eq m HR3.out rfl] at hst2
                  exact ⟨j+1, by go_num, by omega, hst2.1, (below_drewN HBJ.out _).setCell hbg _, (Box4.drewN HXJ.out _).set (by simp only; omega) _⟩
                case measure => simp [intOf]; omega
              · have hbn := str_bne hp
                have HP := Lib.hid hp
                clear hp
                go_wp2_with fail
                go_quiet (fail)
                go_wp2_with fail
                go_roundw
                case rel => exact ⟨j+1, by go_num, by omega, by rw [← setN_step_ne m HR3.out HP.out]; exact HOJ.out, below_drewN HBJ.out _, Box4.drewN HXJ.out _⟩
                case measure => simp [intOf]; omega
            · obtain rfl : j = acc.length := by omega
              have HOJ := Lib.hid hownJ
              have HBJ := Lib.hid hbJ
              clear hownJ hbJ hxJ hownB hx1 y0 y1 y2 y3 c0 c1 c2 c3
              go_wp2_with fail
              go_roundw
              case rel => exact ⟨i+1, by go_num, by omega, by rw [HST.out, HSS.out, setN_len]; have h5 := HOJ.out; rw [List.take_length, List.drop_length, List.append_nil] at h5; exact h5, HBJ.out⟩
              case measure => simp [intOf]; omega
        · have hMay : May ⟨k, p, m, s⟩ := by have := HM.out; simpa [mayR] using this
          have hrow1 := fun k' hk => (hownB.lt k' hk).2
          obtain ⟨A2, k2, rfl, hkc, hslA, _, _⟩ := own_sl hownB
          by_cases hk1 : k = 1
          · subst hk1
            have hstep : openStep acc ⟨1, p, m, s⟩ = insK ⟨1, p, m, s⟩ (wout acc p) := by
              unfold openStep; rw [if_neg (by simpa using hMay), if_neg (by simp), if_pos rfl]
            have HSS := Lib.hid hstep
            have hwl := wout_len acc p
            have hws := wout_srt HSR.out p
            have HWN := Lib.hid (wout_ne (l := acc) (p := p))
            clear hstep hMay hownB
            go_wp2_with fail
            refine (without_any _ _ _ acc p w1 hslA (by omega)).mono ?_
            rintro e w2 ⟨v2, rfl, hown2, hb2⟩
            generalize wout acc p = acw at *
            have HWS := Lib.hid hws
            have hrow2 := fun k' hk => (hown2.lt k' hk).1
            have hx2 := hx1.below hb2
            obtain ⟨z0, z1, z2, z3⟩ := id hx2
            obtain ⟨v3, w3, hap3, hown3, hg3, hb3⟩ := run_append_one (P := Tryd.prog) (w0 := w1) w1.heap.size 25 25 23 i0 _ 4 48 Tryd.underlying25 hi hz0 hz1 hz2 rfl (by decide) hown2 hb2 (encR ⟨1, p, m, s⟩) rfl (encR_one _) 1 (by omega) (by omega) hb2.size
            rw [← encs_snoc] at hown3
            have hx3 : Box4 w3 wr.heap.size ⟨1, p, m, s⟩ := by
              have hx2' := hx2.below ((Below.refl _ _).alloc (Nat.le_refl _) (.cells (encR ⟨1, p, m, s⟩).toArray 23))
              have hne : ∀ x : Addr, x.block = wr.heap.size → some x.block ≠ v2.ownBlock := fun x hx e => by
                have := hrow2 _ e.symm
                omega
              exact ⟨hg3.cell hx2'.c0 (hne _ rfl), hg3.cell hx2'.c1 (hne _ rfl), hg3.cell hx2'.c2 (hne _ rfl), hg3.cell hx2'.c3 (hne _ rfl)⟩
            obtain ⟨g, c3', rfl, hbg, hgs, hcc⟩ := own_some hown3 (by omega)
            obtain ⟨A5, k5, rfl, hk5, _, _, _⟩ := own_sl hown2
            simp only [encR] at hap3
            clear hws hown2 hb2 hg3 hrow2 hx2 hslA hi hz0 hz1 hz2 y0 y1 y2 y3 c0 c1 c2 c3
            go_wp2_with (at_builtin; refine halt_in ?_)
            refine Halted.out (wpList_append_run rfl _ _ _ _ rfl rfl rfl hap3 ?_)
            clear hap3 z0 z1 z2 z3
            go_wp2_with fail
            go_loopw [7] (fun a wq => ∃ kk : Nat, ∃ y : Rec, a = .int .i64 kk ∧ kk ≤ acw.length ∧ wq.ownsRow w1.heap.size 23 4 (.slice (some ⟨g, 0, none⟩) (acw.length + 1) c3') (acw.length + 1) (encs (acw.take kk ++ y :: acw.drop kk)) ∧ Below w1.heap.size w1 wq ∧ Box4 wq wr.heap.size ⟨1, p, m, s⟩ ∧ (kk < acw.length → ∃ x, acw[kk]? = some x ∧ ky ⟨1, p, m, s⟩ < ky x)) (fun a _ => (intOf a).toNat)
            case atStart => exact ⟨acw.length, ⟨1, p, m, s⟩, rfl, by omega, by rw [List.take_length, List.drop_length]; exact hown3, hb3, hx3, fun h => by omega⟩
            case round =>
              obtain ⟨kk, y, rfl, hkk, hownK, hbK, hxK, hhi⟩ := hrel
              have HHI := Lib.hid hhi
              have HOK := Lib.hid hownK
              have HBK := Lib.hid hbK
              have HXK := Lib.hid hxK
              obtain ⟨z0, z1, z2, z3⟩ := hxK
              obtain ⟨A6, k6, hA6, _, hslK, _, _⟩ := own_sl hownK
              simp only [Value.slice.injEq, true_and] at hA6
              obtain ⟨rfl, rfl⟩ := hA6
              clear hhi hownK hbK hx1 hx3 hb3 hown3
              obtain ⟨b4, o4, k4, p4, m4, s4, hA4, hr4, e0, e1, e2, e3⟩ := hslK.row4 (i := kk) (by omega)
              simp only [Option.some.injEq, Addr.mk.injEq, and_true] at hA4
              obtain ⟨rfl, rfl⟩ := hA4
              simp only [Nat.zero_add] at e0 e1 e2 e3
              clear hr4
              have hf0 := HOK.out.frozenAt (kk * 4)
              have hf1 := HOK.out.frozenAt (kk * 4 + 1)
              have hf2 := HOK.out.frozenAt (kk * 4 + 2)
              have hf3 := HOK.out.frozenAt (kk * 4 + 3)
              rcases kk with _ | q
              · simp only [Nat.zero_mul, Nat.zero_add] at e0 e1 e2 e3 hf0 hf1 hf2 hf3
                clear hslK
                go_wp2_with fail
                go_quiet (fail)
                go_wp2_with fail
                go_roundw
                case rel =>
                  have h5 := own_set4 (w := wr.drewN nq) HOK.out (0 * 4) (.int .i64 1) (.string p) (.int .i64 m) (.string s)
                  have h6 := room_last (acc := acw) (k := 0) (x := ⟨1, p, m, s⟩) (y := y) (by omega)
                  simp only at h6
                  rw [h6] at h5
                  have hE := room_end (acc := acw) (r := ⟨1, p, m, s⟩) (k := 0) HWS.out HWN.out hkk (.inl rfl) HHI.out
                  have hl : (acw.take (0) ++ ⟨1, p, m, s⟩ :: acw.drop (0)).length = acw.length + 1 := by simp
                  exact ⟨i+1, by go_num, by omega, by rw [HST.out, HSS.out, hE, hl]; exact own_base_mono h5 hbY.size, hbY.trans ((((((below_drewN HBK.out nq).setCell hbg _).setCell hbg _).setCell hbg _).setCell hbg _).mono hbY.size)⟩
                case measure => simp [intOf]; omega
              · obtain ⟨b3, o3, k', p', m', s', hA3, hr3, d0, d1, d2, d3⟩ := hslK.row4 (i := q) (by omega)
                simp only [Option.some.injEq, Addr.mk.injEq, and_true] at hA3
                obtain ⟨rfl, rfl⟩ := hA3
                rw [room_at (by omega)] at hr3
                simp only [Nat.zero_add] at d0 d1 d2 d3
                have HR3 := Lib.hid hr3
                clear hslK hr3
                have hpn : (p'.toList == p.toList) = false := str_bne fun e => HWN.out _ (List.mem_of_getElem? HR3.out) (by rw [← e]; rfl)
                rcases hbl : Op.bytesLess p'.toList p.toList with _ | _
                · go_wp2_with fail
                  go_quiet (fail)
                  go_wp2_with fail
                  go_roundw
                  case rel =>
                    have h5 := own_set4 (w := wr.drewN nq) HOK.out ((q + 1) * 4) (.int .i64 k') (.string p') (.int .i64 m') (.string s')
                    have h6 := room_step (y := y) HR3.out
                    simp only at h6
                    rw [h6] at h5
                    exact ⟨q, ⟨k', p', m', s'⟩, by go_num, by omega, h5, (((below_drewN HBK.out nq).setCell hbg _).setCell hbg _).setCell hbg _ |>.setCell hbg _, ((((Box4.drewN HXK.out nq).set (by simp only; omega) _).set (by simp only; omega) _).set (by simp only; omega) _).set (by simp only; omega) _, fun _ => ⟨_, HR3.out, less_ky hbl (by simpa using hpn)⟩⟩
                  case measure => simp [intOf]
                · go_wp2_with fail
                  go_quiet (fail)
                  go_wp2_with fail
                  go_roundw
                  case rel =>
                    have h5 := own_set4 (w := wr.drewN nq) HOK.out ((q + 1) * 4) (.int .i64 1) (.string p) (.int .i64 m) (.string s)
                    have h6 := room_last (acc := acw) (k := q + 1) (x := ⟨1, p, m, s⟩) (y := y) (by omega)
                    simp only at h6
                    rw [h6] at h5
                    have hE := room_end (acc := acw) (r := ⟨1, p, m, s⟩) (k := q + 1) HWS.out HWN.out hkk (.inr ⟨_, HR3.out, not_ky hbl⟩) HHI.out
                    have hl : (acw.take (q + 1) ++ ⟨1, p, m, s⟩ :: acw.drop (q + 1)).length = acw.length + 1 := by simp; omega
                    exact ⟨i+1, by go_num, by omega, by rw [HST.out, HSS.out, hE, hl]; exact own_base_mono h5 hbY.size, hbY.trans ((((((below_drewN HBK.out nq).setCell hbg _).setCell hbg _).setCell hbg _).setCell hbg _).mono hbY.size)⟩
                  case measure => simp [intOf]; omega
          · have hstep : openStep acc ⟨k, p, m, s⟩ = wout acc p := by
              unfold openStep; rw [if_neg (by simpa using hMay), if_neg hk2, if_neg hk1]
            have HSS := Lib.hid hstep
            clear hstep hMay hownB
            go_wp2_with fail
            refine (without_any _ _ _ acc p w1 hslA (by omega)).mono ?_
            rintro e w2 ⟨v2, rfl, hown2, hb2⟩
            have hx2 := hx1.below hb2
            obtain ⟨z0, z1, z2, z3⟩ := id hx2
            have HO2 := Lib.hid (own_base_mono hown2 hbY.size)
            have HB2 := Lib.hid (hbY.trans (hb2.mono hbY.size))
            clear hown2 hb2
            go_wp2_with fail
            go_roundw
            case rel => exact ⟨i+1, by go_num, by omega, by rw [HST.out, HSS.out]; exact HO2.out, HB2.out⟩
            case measure => simp [intOf]; omega
      · have hst2 : openStep acc ⟨k, p, m, s⟩ = acc := by
          have hM : ¬ May ⟨k, p, m, s⟩ := fun h => hm (by simp [mayR, h])
          unfold openStep; rw [if_pos hM]
        have HM := Lib.hid (eq_false_of_ne_true hm)
        have HSS := Lib.hid hst2
        clear hm hst2
        simp only [encR] at hbX hownA
        go_wp2_with fail
        refine (RMay_any ⟨k, p, m, s⟩ _).mono ?_
        rintro e w1 ⟨rfl, hb1⟩
        rw [HM.out]
        have HOB := Lib.hid (own_below hownA hb1)
        have HBY := Lib.hid (hbX.trans (hb1.mono hbX.size))
        clear hownA hbX hb1
        go_wp2_with fail
        go_roundw
        case rel => exact ⟨i+1, by go_num, by omega, by rw [HST.out, HSS.out]; exact HOB.out, HBY.out⟩
        case measure => simp [intOf]; omega
    · obtain rfl : i = n := by omega
      have HO := Lib.hid hown
      have HB := Lib.hid hb
      clear hown hb
      go_wp2_with fail
      go_ret
      have hl := HL.out
      have ht : l.take i = l := List.take_of_length_le (by omega)
      exact ⟨_, rfl, by have h2 := HO.out; rwa [ht] at h2, HB.out⟩
end Go.Proofs.YthkjnpbbgfagkaaDoor
