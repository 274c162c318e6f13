import Derived.Test.YthkjnpbbgfagkaaDoorL8A
set_option linter.unusedVariables false
set_option linter.unusedSimpArgs false
namespace Go.Proofs.YthkjnpbbgfagkaaDoor
open Go.RowKit Go.Maps

theorem put_get {r : Rec} (h : May r) : getS (putRec r) 0 = (((recB r).length : Int), (((putN (recB r).length).length : Nat) : Int), 0) := by
  have hl := recB_le h
  have := getS_put [] (recB r ++ sealB (crcOf (recB r))) (recB r).length (by omega)
  simpa [putRec] using this
theorem put_len (r : Rec) : (putRec r).length = (putN (recB r).length).length + (recB r).length + 4 := by
  have h4 : (sealB (crcOf (recB r))).length = 4 := rfl
  simp only [putRec, List.length_append, h4]; omega
theorem put_drop (r : Rec) : openS ((putRec r).drop (putN (recB r).length).length) = (recB r, 0) := by
  rw [putRec, List.drop_left]; exact openS_seal _
theorem recB_head {r : Rec} (h : May r) : ∃ l, recB r = UInt8.ofNat r.kind.toNat :: l ∧ ((UInt8.ofNat r.kind.toNat).toNat : Int) = r.kind := by
  obtain ⟨h1, h2, _⟩ := h
  exact ⟨_, rfl, by simp only [UInt8.toNat_ofNat']; omega⟩
theorem flat_all (own : List Rec) (h : ∀ r ∈ own, May r) : allR (flat own).length (flat own) = (own, (flat own).length) := by
  have := allR_flat own [] (flat own).length h oneR_nil (Nat.le_refl _)
  rwa [List.append_nil] at this

set_option maxRecDepth 100000 in
set_option maxHeartbeats 4000000 in
theorem Sealed_any (A : Option Addr) (n c : Nat) (l : List Rec) (w : World) (hs : Sl 4 w A n (encs l)) (ht : Tab w) (h0 : 0 < w.heap.size) :
    Calls Tryd.prog 10 #[.slice A n c] w fun e w' => e = .returned (.bool true) ∧ Below w.heap.size w w' := by
  have HL := Lib.hid hs.recs
  obtain ⟨i0, hi, hz0, hz1, hz2⟩ := info_parts info31
  obtain ⟨j0, ji, jz0, jz1, jz2⟩ := info_parts info5
  go_enter Tryd.func10, Tryd.ntmps10
  by_cases hl : lightR l
  · have hn : n ≤ 40 := by have := hl.1; have := HL.out; omega
    have HLL := Lib.hid (decide_eq_true hl)
    clear hl
    go_wp2_with fail
    refine (light_any _ _ _ _ _ hs).mono ?_
    rintro e w1 ⟨rfl, hb1⟩
    rw [HLL.out]
    have hs1 := hs.below hb1
    have HB1 := Lib.hid hb1
    clear hb1
    go_wp2_with fail
    refine (mine_any _ _ _ _ _ hs1 (by omega)).mono ?_
    rintro e w2 ⟨v2, rfl, hown2, hb2⟩
    obtain ⟨A2, k2, rfl, hk2, hl2, _, _⟩ := own_sl hown2
    have HB2 := Lib.hid (HB1.out.trans (hb2.mono HB1.out.size))
    have hT2 := ht.below h0 HB2.out
    have h02 : 0 < w2.heap.size := Nat.lt_of_lt_of_le h0 HB2.out.size
    clear hb2 hown2 hs1 hs
    go_wp2_with fail
    go_loopw [3, 4, 23] (fun v v' a wr => ∃ i : Nat, a = .int .i64 i ∧ i ≤ n ∧ wr.ownsRow w2.heap.size 5 1 v (bytL (l.take i)).length (bys (bytL (l.take i))) ∧ wr.ownsRow w2.heap.size 31 4 v' (mayL (l.take i)).length (encs (mayL (l.take i))) ∧ Below w2.heap.size w2 wr) (fun _ _ a _ => n - (intOf a).toNat)
    case atStart => exact ⟨0, rfl, by omega, World.ownsRow_nil _ _ _ _, World.ownsRow_nil _ _ _ _, Below.refl _ _⟩
    case round =>
      obtain ⟨i, rfl, hin, hown, hown', hb⟩ := hrel
      rcases Nat.lt_or_ge i n with h | h
      · obtain ⟨b, o, k, p, m, s, rfl, hr, c0, c1, c2, c3⟩ := (hl2.below hb).row4 h
        have hti : (l.take i).length = i := by rw [List.length_take, HL.out]; omega
        have hbl := bytL_len (l.take i)
        have hml := mayL_len (l.take i)
        rw [hti] at hbl hml
        have htk := take_snoc hr
        have HT := Lib.hid htk
        have hbX := hb.alloc hb.size (.cells (encR ⟨k, p, m, s⟩).toArray 31)
        have hx0 := Box4.mk_alloc wr ⟨k, p, m, s⟩ 31
        have hownA := hown.alloc (.cells (encR ⟨k, p, m, s⟩).toArray 31)
        have hownB := hown'.alloc (.cells (encR ⟨k, p, m, s⟩).toArray 31)
        have hrow := fun k' hk => (hown.lt k' hk).2
        have hTX := hT2.below h02 hbX
        have h0X : 0 < (wr.alloc (.cells (encR ⟨k, p, m, s⟩).toArray 31)).heap.size := Nat.lt_of_lt_of_le h02 hbX.size
        clear htk hr hti
        by_cases hm : May ⟨k, p, m, s⟩
        · have HM := Lib.hid hm
          have hpl := putRec_le hm
          have HY := Lib.hid (mayL_yes (l := l.take i) hm)
          have HZ := Lib.hid (bytL_yes (l := l.take i) hm)
          have HG := Lib.hid (put_get hm)
          have hPL := put_len ⟨k, p, m, s⟩
          have HD := Lib.hid (put_drop ⟨k, p, m, s⟩)
          obtain ⟨rl, hrl, hkk⟩ := recB_head hm
          have hbb := recB_le hm
          have hnb := putN_len_pos (recB ⟨k, p, m, s⟩).length
          have hrpos : 0 < (recB ⟨k, p, m, s⟩).length := by rw [hrl]; simp
          generalize hP : putRec ⟨k, p, m, s⟩ = P at *
          generalize recB ⟨k, p, m, s⟩ = R at *
          generalize hat : (putN R.length).length = at' at *
          have HP := Lib.hid hP
          have HPL := Lib.hid hPL
          have HRL := Lib.hid hrl
          have HKK := Lib.hid hkk
          have hk4 : k ≤ 4 := HM.out.2.1
          have hk1 : 1 ≤ k := HM.out.1
          simp only [encR] at hbX hownA hownB hTX h0X
          clear hm hown hown' hb hPL hrl hkk hat hP
          go_wp2_with fail
          refine (JPut_yes ⟨k, p, m, s⟩ _ HM.out hTX h0X).mono ?_
          rintro e w3 ⟨v3, rfl, hown3, hb3⟩
          rw [HP.out, HPL.out] at hown3
          rw [HPL.out] at hpl
          obtain ⟨A3, k3, rfl, hk3, hsl3, _, _⟩ := own_sl hown3
          have hownA3 := own_below hownA hb3
          have hownB3 := own_below hownB hb3
          have hbY := hbX.trans (hb3.mono hbX.size)
          have hx3 := hx0.below hb3
          have hT3 := hTX.below h0X hb3
          have h03 := Nat.lt_of_lt_of_le h0X hb3.size
          have hsf := hsl3.from at' k3 (by omega) hk3 hsl3.sub
          have hsz3 : wr.heap.size < w3.heap.size := World.block_lt_of_cell? w3 _ hx3.c0
          have hsc : ∀ w : World, (Instr.slice 27 (.slice A3 (at' + R.length + 4) k3) (some (.int .i64 at')) none none).run Tryd.prog w = .ok (.slice (subAt A3 at' k3 1) (at' + R.length + 4 - at') (k3 - at')) w := fun w => run_slice_from under27 elem27 ji jz1 _ _ _ _ (by omega) _ _ rfl
          have htest : ((at' : Int) + (R.length : Int) + 4 != ((at' + R.length + 4 : Nat) : Int)) = false := by simp
          clear hown3 hownA hownB hb3 hbX hx0 hTX c0 c1 c2 c3
          go_wp2_with fail
          refine (Get_any _ _ _ P 0 _ hsl3 (by omega)).mono ?_
          rintro e w' ⟨rfl, rfl⟩
          rw [HG.out]
          go_wp2_with fail
          refine (Open_any _ _ _ _ _ hsf (by omega) (by omega) hT3 h03).mono ?_
          rintro e w5 ⟨v5, rfl, hown5, hb5⟩
          rw [HD.out] at hown5 ⊢
          obtain ⟨A5, k5, rfl, hk5, hsl5, _, _⟩ := own_sl hown5
          obtain ⟨b5, o5, rfl, hc5⟩ : ∃ b5 o5, A5 = some ⟨b5, o5, none⟩ ∧ w5.cell? ⟨b5, o5, none⟩ = some (.int .u8 k) := by
            rcases hsl5.at_ with h0 | ⟨b5, o5, rfl, hc⟩
            · have := congrArg List.length h0; simp [bys] at this; rw [this] at hrpos; simp at hrpos
            · refine ⟨b5, o5, rfl, ?_⟩
              have := hc 0 (bv (UInt8.ofNat k.toNat)) (by rw [HRL.out]; rfl)
              rw [Nat.add_zero] at this
              rw [this, bv, HKK.out]
          have hownA5 := own_below hownA3 hb5
          have hownB5 := own_below hownB3 hb5
          have hbZ := hbY.trans (hb5.mono hbY.size)
          have hx5 := hx3.below hb5
          have hs35 := hsl3.below hb5
          have HOA5 := Lib.hid hownA5
          have HOB5 := Lib.hid hownB5
          have HBZ := Lib.hid hbZ
          have HS35 := Lib.hid hs35
          obtain ⟨y0, y1, y2, y3⟩ := id hx5
          have HX5 := Lib.hid hx5
          have hkw : (↑R.length : Int) ≠ 0 := by omega
          have hlen0 : ((R.length : Int) == 0) = false := by simpa using hkw
          clear hkw hown5 hb5 hbY hx3 hT3 hsl3 hsf hsl5 hownA3 hownB3 hownA5 hownB5 hbZ hs35 hx5 hsc htest
          go_wp2_with fail
          go_quiet (fail)
          obtain ⟨v6, w6, hap6, hown6, hg6⟩ := run_append_sl (P := Tryd.prog) (w := w5.drewN nq) w2.heap.size 27 27 5 j0 _ 1 1 Tryd.underlying27 ji jz0 jz1 jz2 rfl (by decide) HOA5.out (c := k3) (HS35.out.drewN nq) (bys_one _) (by omega) (by omega) (by rw [World.heap_drewN]; exact HBZ.out.size)
          rw [← bys_append, HPL.out.symm, ← List.length_append] at hown6
          have hbW : Below w2.heap.size w2 w6 := (below_drewN HBZ.out nq).grown hg6 (by rw [World.heap_drewN]; exact HBZ.out.size) (fun k' hk' => (HOA5.out.lt k' hk').1)
          have hownB6 : w6.ownsRow _ _ _ _ _ _ := World.ownsRow.kept (w := w5.drewN nq) HOB5.out hg6 (own_apart HOB5.out HOA5.out (by decide))
          have hx6 : Box4 w6 wr.heap.size ⟨k, p, m, s⟩ := by
            have hx5 := HX5.out.drewN nq
            have hne : ∀ x : Addr, x.block = wr.heap.size → some x.block ≠ u3.ownBlock := fun x hx e => by
              have := hrow _ e.symm
              omega
            exact ⟨hg6.cell hx5.c0 (hne _ rfl), hg6.cell hx5.c1 (hne _ rfl), hg6.cell hx5.c2 (hne _ rfl), hg6.cell hx5.c3 (hne _ rfl)⟩
          obtain ⟨v7, w7, hap7, hown7, hg7, hb7⟩ := run_append_one (P := Tryd.prog) (w0 := w2) w2.heap.size 32 32 31 i0 _ 4 48 Tryd.underlying32 hi hz0 hz1 hz2 rfl (by decide) hownB6 hbW (encR ⟨k, p, m, s⟩) rfl (encR_one _) 1 (by omega) (by omega) hbW.size
          rw [← encs_snoc] at hown7
          have hownA7 := (hown6.alloc (.cells (encR ⟨k, p, m, s⟩).toArray 31)).kept hg7 (own_apart hown6 hownB6 (by decide))
          have HOA := Lib.hid hownA7
          have HOB := Lib.hid hown7
          have HB7 := Lib.hid hb7
          obtain ⟨z0, z1, z2, z3⟩ := hx6
          have hsz6 : wr.heap.size < w6.heap.size := World.block_lt_of_cell? w6 _ z0
          simp only [encR] at hap7
          clear hownA7 hown7 hb7 hown6 hownB6 hbW hg6 hg7 hi hz0 hz1 hz2 ji jz0 jz1 jz2 hrow y0 y1 y2 y3 hc5
          go_wp2_with (at_builtin; refine halt_in ?_)
          refine Halted.out (wpList_append_run rfl _ _ _ _ rfl rfl rfl hap6 ?_)
          clear hap6
          go_wp2_with (at_builtin; refine halt_in ?_)
          refine Halted.out (wpList_append_run rfl _ _ _ _ rfl rfl rfl hap7 ?_)
          clear hap7
          go_wp2_with fail
          go_roundw
          case rel => exact ⟨i+1, by go_num, by omega, by rw [HT.out, HZ.out]; exact HOA.out, by rw [HT.out, HY.out, List.length_append]; exact HOB.out, HB7.out⟩
          case measure => simp [intOf]; omega
        · have HM := Lib.hid hm
          have HY := Lib.hid (mayL_no (l := l.take i) hm)
          have HZ := Lib.hid (bytL_no (l := l.take i) hm)
          simp only [encR] at hbX hownA hownB
          clear hm hown hown' hb hrow
          go_wp2_with fail
          refine (JPut_no ⟨k, p, m, s⟩ _ HM.out).mono ?_
          rintro e w3 ⟨rfl, hb1⟩
          have HOA := Lib.hid (own_below hownA hb1)
          have HOB := Lib.hid (own_below hownB hb1)
          have HB := Lib.hid (hbX.trans (hb1.mono hbX.size))
          clear hownA hownB hbX hb1
          go_wp2_with fail
          go_roundw
          case rel => exact ⟨i+1, by go_num, by omega, by rw [HT.out, HZ.out]; exact HOA.out, by rw [HT.out, HY.out]; exact HOB.out, HB.out⟩
          case measure => simp [intOf]; omega
      · obtain rfl : i = n := by omega
        have htn : l.take i = l := by have := HL.out; exact List.take_of_length_le (by omega)
        rw [htn] at hown hown'
        have hbl := bytL_len l
        have hml := mayL_len l
        have hfa := flat_all (mayL l) (mayL_may l)
        rw [← bytL_flat] at hfa
        rw [HL.out] at hbl hml
        generalize bytL l = B at *
        generalize mayL l = M at *
        have HFA := Lib.hid hfa
        obtain ⟨A5, k5, rfl, hk5, hB5, _, _⟩ := own_sl hown
        obtain ⟨A6, k6, rfl, hk6, hM5, _, _⟩ := own_sl hown'
        have HB3 := Lib.hid (HB2.out.trans (hb.mono HB2.out.size))
        have hT3 := hT2.below h02 hb
        have h03 := Nat.lt_of_lt_of_le h02 hb.size
        clear hown hown' hb htn hfa hT2
        go_wp2_with fail
        refine (All_any _ _ _ _ _ hB5 (by omega) (by omega) hT3 h03).mono ?_
        rintro e w4 ⟨v4, rfl, hown4, hb4⟩
        rw [HFA.out] at hown4 ⊢
        obtain ⟨A7, k7, rfl, hk7, hg5, _, _⟩ := own_sl hown4
        have hM6 := hM5.below hb4
        have HB4 := Lib.hid (HB3.out.trans (hb4.mono HB3.out.size))
        clear hown4 hb4 hM5 hT3
        go_wp2_with fail
        refine (alike_any _ _ _ _ _ _ _ _ _ hg5 hM6).mono ?_
        rintro e w5 ⟨rfl, hb5⟩
        rw [decide_eq_true rfl]
        have HB5 := Lib.hid (HB4.out.trans (hb5.mono HB4.out.size))
        clear hb5 hg5 hM6 hB5
        go_wp2_with fail
        refine (awake_any _ (ht.below h0 HB5.out) (Nat.lt_of_lt_of_le h0 HB5.out.size)).mono ?_
        rintro e wF ⟨rfl, hbF⟩
        have HBF := Lib.hid (HB5.out.trans (hbF.mono HB5.out.size))
        clear hbF
        go_wp2_with fail
        go_ret
        exact ⟨rfl, HBF.out⟩
  · have HLL := Lib.hid (decide_eq_false hl)
    clear hl
    go_wp2_with fail
    refine (light_any _ _ _ _ _ hs).mono ?_
    rintro e w1 ⟨rfl, hb1⟩
    rw [HLL.out]
    have HB1 := Lib.hid hb1
    clear hb1
    go_wp2_with fail
    refine (awake_any _ (ht.below h0 HB1.out) (Nat.lt_of_lt_of_le h0 HB1.out.size)).mono ?_
    rintro e wA ⟨rfl, hbA⟩
    have HBA := Lib.hid (HB1.out.trans (hbA.mono HB1.out.size))
    clear hbA
    go_wp2_with fail
    go_ret
    exact ⟨rfl, HBA.out⟩
end Go.Proofs.YthkjnpbbgfagkaaDoor
