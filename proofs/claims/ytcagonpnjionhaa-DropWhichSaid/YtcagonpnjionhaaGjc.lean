import Derived.Test.YtcagonpnjionhaaGwc
/-! The document's goes: of each entry, why it does not go. -/
set_option linter.unusedVariables false
set_option linter.unusedSimpArgs false
namespace Go.Proofs.Ytcagonpnjionhaa
open Go.RowKit

theorem get_at (k : Nat) (ov : Int) (ws : List Int) (t : Nat) {v : Int} (h : ws[t]? = some v) : (ints (List.replicate k (0 : Int) ++ ov :: ws))[k + 1 + t]? = some (.int .i64 v) := by
  unfold ints
  rw [List.getElem?_map, List.getElem?_append_right (by simp; omega)]
  simp only [List.length_replicate, show k + 1 + t - k = t + 1 by omega, List.getElem?_cons_succ, h, Option.map_some]
theorem runG_cons {x y : En} {r : List En} {ws : List Int} {t : Nat} {v : Int} (hr : r[t]? = some y) (hw : ws[t]? = some v) : runG x (r.drop t) (ws.drop t) = if pfxB (splitB y.path.data.toList) (splitB x.path.data.toList) = true then (if parentB y.path.data.toList = x.path.data.toList then ((runG x (r.drop (t + 1)) (ws.drop (t + 1))).1 + 1, decide (v ≠ 0) || (runG x (r.drop (t + 1)) (ws.drop (t + 1))).2) else runG x (r.drop (t + 1)) (ws.drop (t + 1))) else (0, false) := by
  obtain ⟨h1, e1⟩ := List.getElem?_eq_some_iff.1 hr
  obtain ⟨h2, e2⟩ := List.getElem?_eq_some_iff.1 hw
  rw [List.drop_eq_getElem_cons h1, List.drop_eq_getElem_cons h2, e1, e2, runG]
theorem runG_le (x : En) : ∀ (r : List En) (ws : List Int), (runG x r ws).1 ≤ r.length
  | [], ws => by rw [runG_nil]; exact Nat.zero_le _
  | y :: r, [] => Nat.zero_le _
  | y :: r, w :: ws => by
    have := runG_le x r ws
    rw [runG, List.length_cons]
    split
    · split
      · simp only; omega
      · omega
    · exact Nat.zero_le _
set_option maxRecDepth 100000 in
set_option maxHeartbeats 16000000 in
theorem refGoes_any (sA : Option Addr) (sn sc : Nat) (dA : Option Addr) (dn dc : Nat) (rA : Option Addr) (rn rc : Nat) (S D : List En) (R : List Ru) (w : World)
    (hs : Sl 11 w sA sn (encEs S)) (hd : Sl 11 w dA dn (encEs D)) (hr : Sl 4 w rA rn (encUs R)) (hR : ∀ r ∈ R, r.pat.size ≤ 140737488355328) (hdn : dn ≤ 500) (hcs : checkE S = true) (hcd : checkE D = true) :
    Calls Try.prog 24 #[.slice sA sn sc, .slice dA dn dc, .slice rA rn rc] w fun e w' => (∃ A c, e = .returned (.slice A dn c) ∧ dn ≤ c ∧ Sl 1 w' A dn (ints (whyU S D R))) ∧ Below w.heap.size w w' := by
  have HS := Lib.hid hs
  have HD := Lib.hid hd
  have HR := Lib.hid hr
  have HDL := Lib.hid hd.enLen
  have HPA := Lib.hid (path_of_check hcd)
  have HCD := Lib.hid hcd
  have HWY := Lib.hid (fun (x : En) (w' : World) (hp : x.path.size ≤ 2097152) (h : Below w.heap.size w w') => refWhy_any sA sn sc rA rn rc S R x w' (hs.below h) (hr.below h) hR hp hcs)
  have hmk := run_make_row' (P := Try.prog) 51 3 (.int .i64 0) 8 Try.underlying51 infoInt rfl .i64 .i64 dn (by omega) (by omega)
  have HWU := Lib.hid (show whyU S D R = whyL S R (kidsN D) (D.drop 0) from rfl)
  clear hs hd hr hR hcs hcd
  have nO := Blk.newA w 3 (madeCells #[.int .i64 0] dn)
  rw [madeInts] at nO
  have bO := (Below.refl w.heap.size w).alloc (Nat.le_refl _) (.cells (madeCells #[.int .i64 0] dn) 3)
  have hwr : IntKind.wrap .i64 ((dn : Int) - 1) = (dn : Int) - 1 := by rw [IntKind.wrap_i64]; omega
  go_enter Try.func24, Try.ntmps24
  go_wp2_with fail
  obtain ⟨w1, hw1⟩ : ∃ w1, w.alloc (.cells (madeCells #[.int .i64 0] dn) 3) = w1 := ⟨_, rfl⟩
  rw [hw1] at nO bO ⊢
  clear hw1 hmk hwr
  have O1 := Lib.hid (show Blk w1 w.heap.size 3 (ints (List.replicate dn 0 ++ whyL S R (kidsN D) (D.drop dn))) by rw [List.drop_of_length_le (by rw [HDL.out]; exact Nat.le_refl _), whyL, List.append_nil]; exact nO)
  have B1 := Lib.hid bO
  clear nO bO
  go_loopw [8] (fun v wr => ∃ j : Nat, v = .int .i64 ((j : Int) - 1) ∧ j ≤ dn ∧ Blk wr w.heap.size 3 (ints (List.replicate j 0 ++ whyL S R (kidsN D) (D.drop j))) ∧ Below w.heap.size w wr) (fun v _ => (intOf v + 1).toNat)
  case atStart => exact ⟨dn, rfl, Nat.le_refl _, O1.out, B1.out⟩
  case round =>
    clear O1 B1
    obtain ⟨j, rfl, hj, hO, hb⟩ := hrel
    have HO := Lib.hid hO
    have HB := Lib.hid hb
    clear hO hb
    rcases Nat.eq_zero_or_pos j with rfl | h
    · have hSl := Lib.hid (HO.out.sl (o := 0) (n := dn) (sz := 1) (ds := ints (whyU S D R)) (by
        rw [HWU.out, List.replicate_zero, List.nil_append, List.drop_zero (l := ints _), List.take_of_length_le]
        unfold ints; rw [List.length_map, whyL_len, List.drop_zero, HDL.out]; omega) (by unfold ints; rw [List.length_map]; unfold whyU; rw [whyL_len, HDL.out]; omega) (by omega))
      rw [show ((0 : Nat) : Int) - 1 = -1 from rfl]
      clear HO
      go_wp2_with fail
      go_ret
      exact ⟨⟨_, _, rfl, Nat.le_refl _, hSl.out⟩, HB.out⟩
    obtain ⟨k, rfl⟩ : ∃ k, j = k + 1 := ⟨j - 1, by omega⟩
    rw [show ((k + 1 : Nat) : Int) - 1 = (k : Int) by omega]
    obtain ⟨b, o, x, hA, hrr, hsg⟩ := (HD.out.below HB.out).enRow (show k < dn by omega)
    have HX := Lib.hid hrr
    have HWL := Lib.hid (whyL_drop (S := S) (R := R) (kn := kidsN D) hrr)
    have HST := Lib.hid (goes_step (S := S) (R := R) HCD.out hrr (whyL S R (kidsN D) (D.drop (k + 1))) (whyL_len _ _ _ _))
    have hxp := (HPA.out x (List.mem_of_getElem? hrr)).1
    have HWSL := Lib.hid (show (whyL S R (kidsN D) (D.drop (k + 1))).length = dn - (k + 1) by rw [whyL_len, List.length_drop, HDL.out])
    generalize whyL S R (kidsN D) (D.drop (k + 1)) = ws at *
    generalize stepW S R (kidsN D) x (D.drop (k + 1)) ws = st at *
    have HO := Lib.hid (show Blk wr w.heap.size 3 (ints (List.replicate k 0 ++ 0 :: ws)) by have := HO.out; rw [rep_succ] at this; exact this)
    obtain ⟨k0, k1, k2, k3, k4, k5, k6, k7, k8, k9, k10⟩ := enCells hsg
    have hi0 : (0 : Int) ≤ (k : Int) := by omega
    have hi2 : (k : Int) < (dn : Int) := by omega
    have hi3 : decide ((0 : Int) ≤ (k : Int)) = true := decide_eq_true hi0
    subst hA
    have hwy := HWY.out x wr (by omega) HB.out
    unfold aggE at hwy
    have HW := Lib.hid hwy
    clear hwy hsg hrr
    generalize firstU S R x = fu at *
    have hbl : b < wr.heap.size := World.block_lt_of_cell? wr _ k0
    go_wp2_with fail
    refine HW.out.mono ?_
    rintro e w3 ⟨rfl, hb3⟩
    have O3 := Lib.hid (HO.out.below hb3)
    have B3 := Lib.hid (HB.out.trans (hb3.mono HB.out.size))
    have d9 := O3.out.cell k
    rw [get_rep] at d9
    have f9 := O3.out.frozen k
    have O4 := Lib.hid (show Blk (w3.setCell ⟨w.heap.size, k, none⟩ (.int .i64 fu)) w.heap.size 3 (ints (List.replicate k 0 ++ fu :: ws)) by have := O3.out.set k (.int .i64 fu); rw [ints_set, set_rep] at this; exact this)
    have B4 := Lib.hid (B3.out.setCell (p := ⟨w.heap.size, k, none⟩) (Nat.le_refl _) (.int .i64 fu))
    obtain ⟨w4, hw4⟩ : ∃ w4, w3.setCell ⟨w.heap.size, k, none⟩ (.int .i64 fu) = w4 := ⟨_, rfl⟩
    have HDR := Lib.hid ((HD.out.below B4.out).enRow (show k < dn by omega))
    rw [hw4] at O4 B4 HDR
    have hy : w4.cell? ⟨b, o + k * 11, none⟩ = some (.string x.path) ∧ w4.cell? ⟨b, o + k * 11 + 1, none⟩ = some (.int .i64 x.kind) ∧ w4.cell? ⟨b, o + k * 11 + 2, none⟩ = some (.int .i64 x.size) := by
      obtain ⟨b', o', x', hA', hx', hsg'⟩ := HDR.out
      injection hA' with hA'
      injection hA' with e1 e2
      subst e1 e2
      rw [HX.out] at hx'
      cases hx'
      exact ⟨(enCells hsg').1, (enCells hsg').2.1, (enCells hsg').2.2.1⟩
    obtain ⟨y0, y1, y2⟩ := hy
    have e9 := O4.out.cell k
    rw [get_rep] at e9
    clear hb3 HO HB HW O3 B3 k0 k1 k2 k3 k4 k5 k6 k7 k8 k9 k10 HDR hbl
    have hwk : IntKind.wrap .i64 ((k : Int) - 1) = (k : Int) - 1 := by rw [IntKind.wrap_i64]; omega
    by_cases hfz : fu = 0
    · by_cases hk2 : x.kind = 2
      · have e1 : (fu != 0) = false := by simpa using hfz
        have e0 : (fu == 0) = true := by simpa using hfz
        have e2 : (x.kind != 2) = false := by simpa using hk2
        have e3 : IntKind.wrap .i64 ((k : Int) + 1) = (k : Int) + 1 := by rw [IntKind.wrap_i64]; omega
        have HSU := Lib.hid (HST.out.trans (if_neg (show ¬ (fu ≠ 0 ∨ x.kind ≠ 2) by rintro (h | h); exact h hfz; exact h hk2)))
        subst hfz
        clear hk2
        have hrl := runG_le x (D.drop (k + 1)) ws
        rw [List.length_drop, HDL.out] at hrl
        generalize hrg : runG x (D.drop (k + 1)) ws = rg at *
        have HRG := Lib.hid hrg
        clear hrg
        go_wp2_with fail
        clear hw4 d9 f9 y0 y1 y2 e9
        go_loopw [9, 10] (fun u v wr => ∃ (t n : Nat) (ov : Int), u = .int .i64 n ∧ v = .int .i64 ((k + 1 + t : Nat) : Int) ∧ k + 1 + t ≤ dn ∧ (ov = 0 ∨ ov = 4) ∧ n + (runG x ((D.drop (k + 1)).drop t) (ws.drop t)).1 = rg.1 ∧ (decide (ov = 4) || (runG x ((D.drop (k + 1)).drop t) (ws.drop t)).2) = rg.2 ∧ Blk wr w.heap.size 3 (ints (List.replicate k 0 ++ ov :: ws)) ∧ Below w.heap.size w wr) (fun _ v _ => dn - (intOf v).toNat)
        case atStart => exact ⟨0, 0, 0, rfl, by go_num, by omega, .inl rfl, by rw [List.drop_zero, List.drop_zero, HRG.out, Nat.zero_add], by rw [List.drop_zero, List.drop_zero, HRG.out]; rfl, O4.out, B4.out⟩
        case round =>
          clear O4 B4
          obtain ⟨t, n, ov, rfl, rfl, ht, hov, hn, hv, hO, hb⟩ := hrel
          have O5 := Lib.hid hO
          have B5 := Lib.hid hb
          clear hO hb
          obtain ⟨b', o', x', hA', hx', hsg'⟩ := (HD.out.below B5.out).enRow (show k < dn by omega)
          injection hA' with hA'
          injection hA' with a1 a2
          subst a1 a2
          rw [HX.out] at hx'
          cases hx'
          have y0 := (enCells hsg').1
          have y2 := (enCells hsg').2.2.1
          clear hsg'
          have hnl : n ≤ dn := by omega
          obtain ⟨q, hq⟩ : ∃ q, k + 1 + t = q := ⟨_, rfl⟩
          rcases Nat.lt_or_ge q dn with h5 | h5
          · obtain ⟨b', o', y, hA', hy', hsg'⟩ := (HD.out.below B5.out).enRow h5
            injection hA' with hA'
            injection hA' with a1 a2
            subst a1 a2
            have z0 := (enCells hsg').1
            clear hsg'
            obtain ⟨v, hwv⟩ : ∃ v, ws[t]? = some v := ⟨_, List.getElem?_eq_getElem (by rw [HWSL.out]; omega)⟩
            have hyr : (D.drop (k + 1))[t]? = some y := by rw [List.getElem?_drop, hq]; exact hy'
            have HC := Lib.hid (runG_cons (x := x) hyr hwv)
            rw [HC.out] at hn hv
            have hyp := (HPA.out y (List.mem_of_getElem? hy')).1
            have c9 := O5.out.cell q
            rw [← hq, get_at k ov ws t hwv, hq] at c9
            have HUN := Lib.hid (fun w' => refUnder_any y.path x.path _ _ w' rfl rfl (by omega) (by omega))
            have HPR := Lib.hid (fun w' => refParent_any y.path _ w' rfl (by omega))
            generalize hpf : pfxB (splitB y.path.data.toList) (splitB x.path.data.toList) = pf at *
            have q0 : (0 : Int) ≤ (q : Int) := by omega
            have q1 : (q : Int) < (dn : Int) := by omega
            have q2 : decide ((q : Int) < (dn : Int)) = true := decide_eq_true q1
            have q5 : q < dn := h5
            have q6 : decide (q < dn) = true := decide_eq_true q5
            have q3 : IntKind.wrap .i64 ((q : Int) + 1) = (q : Int) + 1 := by rw [IntKind.wrap_i64]; omega
            have q4 : IntKind.wrap .i64 ((n : Int) + 1) = (n : Int) + 1 := by rw [IntKind.wrap_i64]; omega
            rw [hq]
            clear hpf hy' HC hyr
            have HNV := Lib.hid hn
            have HVV := Lib.hid hv
            clear hn hv
            go_wp2_with fail
            have z1 : wr.drew.cell? ⟨b, o + q * 11, none⟩ = some (.string y.path) := z0
            have y1' : wr.drew.cell? ⟨b, o + k * 11, none⟩ = some (.string x.path) := y0
            refine wp_region_held_drew (S := fun w' => Below (wr.drew).heap.size (wr.drew) w') (by kernel_rfl) (Below.refl _ _) (fun hHeld => ?_)
            refine wpAnyH_take (i := 0) (oi := ?oi1) (v := ?v1) ?hi1 ?hs1 ?hf1 ?hr1 ?hQ1 (Or.inl ⟨?hg1, ?hy1⟩) hHeld ?rest1
            case hi1 => simp only [List.getElem?_toArray, List.getElem?_cons_succ, List.getElem?_cons_zero]; rfl
            case hs1 => kernel_rfl
            case hf1 => kernel_rfl
            case hr1 => kernel_rfl
            case hg1 => rfl
            case hy1 => (intro w hSw; have x0 := cell_below z1 hSw; first | (go_simp; done) | (go_simp; with_reducible rfl))
            case hQ1 => exact fun _ _ _ h => h
            try simp only [Act.put, List.setIfInBounds_toArray, List.set_cons_zero, List.set_cons_succ]
            refine wpAnyH_take (i := 1) (oi := ?oi2) (v := ?v2) ?hi2 ?hs2 ?hf2 ?hr2 ?hQ2 (Or.inl ⟨?hg2, ?hy2⟩) hHeld ?rest2
            case hi2 => simp only [List.getElem?_toArray, List.getElem?_cons_succ, List.getElem?_cons_zero]; rfl
            case hs2 => kernel_rfl
            case hf2 => kernel_rfl
            case hr2 => kernel_rfl
            case hg2 => rfl
            case hy2 => (intro w hSw; have x0 := cell_below z1 hSw; first | (go_simp; done) | (go_simp; with_reducible rfl))
            case hQ2 => exact fun _ _ _ h => h
            try simp only [Act.put, List.setIfInBounds_toArray, List.set_cons_zero, List.set_cons_succ]
            refine wpAnyH_take (i := 2) (oi := ?oi3) (v := ?v3) ?hi3 ?hs3 ?hf3 ?hr3 ?hQ3 (Or.inl ⟨?hg3, ?hy3⟩) hHeld ?rest3
            case hi3 => simp only [List.getElem?_toArray, List.getElem?_cons_succ, List.getElem?_cons_zero]; rfl
            case hs3 => kernel_rfl
            case hf3 => kernel_rfl
            case hr3 => kernel_rfl
            case hg3 => rfl
            case hy3 => (intro w hSw; have x0 := cell_below z1 hSw; first | (go_simp; done) | (go_simp; with_reducible rfl))
            case hQ3 => exact fun _ _ _ h => h
            try simp only [Act.put, List.setIfInBounds_toArray, List.set_cons_zero, List.set_cons_succ]
            refine wpAnyH_take (i := 3) (oi := ?oi4) (v := ?v4) ?hi4 ?hs4 ?hf4 ?hr4 ?hQ4 (Or.inl ⟨?hg4, ?hy4⟩) hHeld ?rest4
            case hi4 => simp only [List.getElem?_toArray, List.getElem?_cons_succ, List.getElem?_cons_zero]; rfl
            case hs4 => kernel_rfl
            case hf4 => kernel_rfl
            case hr4 => kernel_rfl
            case hg4 => rfl
            case hy4 => (intro w hSw; have x0 := cell_below z1 hSw; first | (go_simp; done) | (go_simp; with_reducible rfl))
            case hQ4 => exact fun _ _ _ h => h
            try simp only [Act.put, List.setIfInBounds_toArray, List.set_cons_zero, List.set_cons_succ]
            refine wpAnyH_take (i := 4) (oi := ?oi5) (v := ?v5) ?hi5 ?hs5 ?hf5 ?hr5 ?hQ5 (Or.inl ⟨?hg5, ?hy5⟩) hHeld ?rest5
            case hi5 => simp only [List.getElem?_toArray, List.getElem?_cons_succ, List.getElem?_cons_zero]; rfl
            case hs5 => kernel_rfl
            case hf5 => kernel_rfl
            case hr5 => kernel_rfl
            case hg5 => rfl
            case hy5 => (intro w hSw; have x0 := cell_below z1 hSw; first | (go_simp; done) | (go_simp; with_reducible rfl))
            case hQ5 => exact fun _ _ _ h => h
            try simp only [Act.put, List.setIfInBounds_toArray, List.set_cons_zero, List.set_cons_succ]
            refine wpAnyH_take (i := 5) (oi := ?oi6) (v := ?v6) ?hi6 ?hs6 ?hf6 ?hr6 ?hQ6 (Or.inl ⟨?hg6, ?hy6⟩) hHeld ?rest6
            case hi6 => simp only [List.getElem?_toArray, List.getElem?_cons_succ, List.getElem?_cons_zero]; rfl
            case hs6 => kernel_rfl
            case hf6 => kernel_rfl
            case hr6 => kernel_rfl
            case hg6 => rfl
            case hy6 => (intro w hSw; have x0 := cell_below z1 hSw; first | (go_simp; done) | (go_simp; with_reducible rfl))
            case hQ6 => exact fun _ _ _ h => h
            try simp only [Act.put, List.setIfInBounds_toArray, List.set_cons_zero, List.set_cons_succ]
            refine wpAnyH_take (i := 6) (oi := ?oi7) (v := ?v7) ?hi7 ?hs7 ?hf7 ?hr7 ?hQ7 (Or.inl ⟨?hg7, ?hy7⟩) hHeld ?rest7
            case hi7 => simp only [List.getElem?_toArray, List.getElem?_cons_succ, List.getElem?_cons_zero]; rfl
            case hs7 => kernel_rfl
            case hf7 => kernel_rfl
            case hr7 => kernel_rfl
            case hg7 => rfl
            case hy7 => (intro w hSw; have x0 := cell_below z1 hSw; first | (go_simp; done) | (go_simp; with_reducible rfl))
            case hQ7 => exact fun _ _ _ h => h
            try simp only [Act.put, List.setIfInBounds_toArray, List.set_cons_zero, List.set_cons_succ]
            refine wpAnyH_take (i := 7) (oi := ?oi8) (v := ?v8) ?hi8 ?hs8 ?hf8 ?hr8 ?hQ8 (Or.inl ⟨?hg8, ?hy8⟩) hHeld ?rest8
            case hi8 => simp only [List.getElem?_toArray, List.getElem?_cons_succ, List.getElem?_cons_zero]; rfl
            case hs8 => kernel_rfl
            case hf8 => kernel_rfl
            case hr8 => kernel_rfl
            case hg8 => rfl
            case hy8 => (intro w hSw; have x0 := cell_below z1 hSw; first | (go_simp; done) | (go_simp; with_reducible rfl))
            case hQ8 => exact fun _ _ _ h => h
            try simp only [Act.put, List.setIfInBounds_toArray, List.set_cons_zero, List.set_cons_succ]
            refine wpAnyH_take (i := 8) (oi := ?oi9) (v := ?v9) ?hi9 ?hs9 ?hf9 ?hr9 ?hQ9 (Or.inl ⟨?hg9, ?hy9⟩) hHeld ?rest9
            case hi9 => simp only [List.getElem?_toArray, List.getElem?_cons_succ, List.getElem?_cons_zero]; rfl
            case hs9 => kernel_rfl
            case hf9 => kernel_rfl
            case hr9 => kernel_rfl
            case hg9 => rfl
            case hy9 => (intro w hSw; have x0 := cell_below z1 hSw; first | (go_simp; done) | (go_simp; with_reducible rfl))
            case hQ9 => exact fun _ _ _ h => h
            try simp only [Act.put, List.setIfInBounds_toArray, List.set_cons_zero, List.set_cons_succ]
            refine wpAnyH_take (i := 9) (oi := ?oi10) (v := ?v10) ?hi10 ?hs10 ?hf10 ?hr10 ?hQ10 (Or.inl ⟨?hg10, ?hy10⟩) hHeld ?rest10
            case hi10 => simp only [List.getElem?_toArray, List.getElem?_cons_succ, List.getElem?_cons_zero]; rfl
            case hs10 => kernel_rfl
            case hf10 => kernel_rfl
            case hr10 => kernel_rfl
            case hg10 => rfl
            case hy10 => (intro w hSw; have x0 := cell_below z1 hSw; first | (go_simp; done) | (go_simp; with_reducible rfl))
            case hQ10 => exact fun _ _ _ h => h
            try simp only [Act.put, List.setIfInBounds_toArray, List.set_cons_zero, List.set_cons_succ]
            refine wpAnyH_take (i := 10) (oi := ?oi11) (v := ?v11) ?hi11 ?hs11 ?hf11 ?hr11 ?hQ11 (Or.inl ⟨?hg11, ?hy11⟩) hHeld ?rest11
            case hi11 => simp only [List.getElem?_toArray, List.getElem?_cons_succ, List.getElem?_cons_zero]; rfl
            case hs11 => kernel_rfl
            case hf11 => kernel_rfl
            case hr11 => kernel_rfl
            case hg11 => rfl
            case hy11 => (intro w hSw; have x0 := cell_below y1' hSw; first | (go_simp; done) | (go_simp; with_reducible rfl))
            case hQ11 => exact fun _ _ _ h => h
            try simp only [Act.put, List.setIfInBounds_toArray, List.set_cons_zero, List.set_cons_succ]
            refine wpAnyH_take (i := 11) (oi := ?oi12) (v := ?v12) ?hi12 ?hs12 ?hf12 ?hr12 ?hQ12 (Or.inl ⟨?hg12, ?hy12⟩) hHeld ?rest12
            case hi12 => simp only [List.getElem?_toArray, List.getElem?_cons_succ, List.getElem?_cons_zero]; rfl
            case hs12 => kernel_rfl
            case hf12 => kernel_rfl
            case hr12 => kernel_rfl
            case hg12 => rfl
            case hy12 => (intro w hSw; have x0 := cell_below y1' hSw; first | (go_simp; done) | (go_simp; with_reducible rfl))
            case hQ12 => exact fun _ _ _ h => h
            try simp only [Act.put, List.setIfInBounds_toArray, List.set_cons_zero, List.set_cons_succ]
            refine wpAnyH_take (i := 12) (oi := ?oi13) (v := ?v13) ?hi13 ?hs13 ?hf13 ?hr13 ?hQ13 (Or.inl ⟨?hg13, ?hy13⟩) hHeld ?rest13
            case hi13 => simp only [List.getElem?_toArray, List.getElem?_cons_succ, List.getElem?_cons_zero]; rfl
            case hs13 => kernel_rfl
            case hf13 => kernel_rfl
            case hr13 => kernel_rfl
            case hg13 => rfl
            case hy13 => (intro w hSw; have x0 := cell_below y1' hSw; first | (go_simp; done) | (go_simp; with_reducible rfl))
            case hQ13 => exact fun _ _ _ h => h
            try simp only [Act.put, List.setIfInBounds_toArray, List.set_cons_zero, List.set_cons_succ]
            refine wpAnyH_take (i := 13) (oi := ?oi14) (v := ?v14) ?hi14 ?hs14 ?hf14 ?hr14 ?hQ14 (Or.inl ⟨?hg14, ?hy14⟩) hHeld ?rest14
            case hi14 => simp only [List.getElem?_toArray, List.getElem?_cons_succ, List.getElem?_cons_zero]; rfl
            case hs14 => kernel_rfl
            case hf14 => kernel_rfl
            case hr14 => kernel_rfl
            case hg14 => rfl
            case hy14 => (intro w hSw; have x0 := cell_below y1' hSw; first | (go_simp; done) | (go_simp; with_reducible rfl))
            case hQ14 => exact fun _ _ _ h => h
            try simp only [Act.put, List.setIfInBounds_toArray, List.set_cons_zero, List.set_cons_succ]
            refine wpAnyH_take (i := 14) (oi := ?oi15) (v := ?v15) ?hi15 ?hs15 ?hf15 ?hr15 ?hQ15 (Or.inl ⟨?hg15, ?hy15⟩) hHeld ?rest15
            case hi15 => simp only [List.getElem?_toArray, List.getElem?_cons_succ, List.getElem?_cons_zero]; rfl
            case hs15 => kernel_rfl
            case hf15 => kernel_rfl
            case hr15 => kernel_rfl
            case hg15 => rfl
            case hy15 => (intro w hSw; have x0 := cell_below y1' hSw; first | (go_simp; done) | (go_simp; with_reducible rfl))
            case hQ15 => exact fun _ _ _ h => h
            try simp only [Act.put, List.setIfInBounds_toArray, List.set_cons_zero, List.set_cons_succ]
            refine wpAnyH_ready (rs := [15]) (by kernel_rfl) (by simp) ?_
            refine AllReadyH.cons (o := ?oi16) ?hi16 (fun K hK => ?_) AllReadyH.nil
            case hi16 => simp only [List.getElem?_toArray, List.getElem?_cons_succ, List.getElem?_cons_zero]; rfl
            go_simp; go_at_call 38; refine (HUN.out _).mono ?_; rintro e w7 ⟨rfl, hb7⟩; go_wp2_with fail
            refine hK.out _ _ (hb7) (fun _ => ?_)
            clear hK K hHeld
            refine wpAnyH_change (S' := fun w' => Below (w7).heap.size (w7) w') (fun w' h => (hb7).trans (h.mono (hb7).size)) _ _ _ _ ?_
            have hHeld : Below (w7).heap.size (w7) (w7) := Below.refl _ _
            try simp only [Act.put, List.setIfInBounds_toArray, List.set_cons_zero, List.set_cons_succ]
            refine wpAnyH_take (i := 16) (oi := ?oi17) (v := ?v17) ?hi17 ?hs17 ?hf17 ?hr17 ?hQ17 (Or.inl ⟨?hg17, ?hy17⟩) hHeld ?rest17
            case hi17 => simp only [List.getElem?_toArray, List.getElem?_cons_succ, List.getElem?_cons_zero]; rfl
            case hs17 => kernel_rfl
            case hf17 => kernel_rfl
            case hr17 => kernel_rfl
            case hg17 => rfl
            case hy17 => (intro w hSw; first | (go_simp; done) | (go_simp; with_reducible rfl))
            case hQ17 => exact fun _ _ _ h => h
            try simp only [Act.put, List.setIfInBounds_toArray, List.set_cons_zero, List.set_cons_succ]
            refine wpAnyH_done (by kernel_rfl) ?_ _
            have b7 := (Below.refl wr.heap.size wr).drew.trans hb7
            have z2 := cell_below z0 b7
            have y3 := cell_below y0 b7
            have y4 := cell_below y2 b7
            have c10 := cell_below c9 b7
            have O7 := Lib.hid (O5.out.below b7)
            have B7 := Lib.hid (B5.out.trans (b7.mono B5.out.size))
            clear hHeld hb7 b7 z0 z1 y0 y1' y2 c9 O5 B5 HUN
            cases pf with
            | false =>
              have HNN := Lib.hid (show n = rg.1 from by have := HNV.out; simpa using this)
              have HOV := Lib.hid (show decide (ov = 4) = rg.2 from by have := HVV.out; simpa using this)
              have O5 := Lib.hid O7.out
              have B5 := Lib.hid B7.out
              clear HNV HVV O7 B7 z2 y3 c10 HPR
              by_cases hsz : (n : Int) = x.size
              · have HSV := Lib.hid (show st = ov by
                  rw [HSU.out, ← HNN.out, ← HOV.out]
                  rcases hov with h0 | h0
                  · rw [h0, if_neg]; simp [hsz]
                  · rw [h0, if_pos]; exact .inl rfl)
                have e1 : ((n : Int) != x.size) = false := by simpa using hsz
                clear hsz
                go_wp2_with fail
                go_roundw
                case rel => exact ⟨k, by first | rfl | go_num, by omega, by rw [HWL.out, HSV.out]; exact O5.out, B5.out⟩
                case measure => simp [intOf] <;> omega
              · have HSV := Lib.hid (show st = 4 by rw [HSU.out, ← HNN.out]; exact if_pos (.inr hsz))
                have e1 : ((n : Int) != x.size) = true := by simpa using hsz
                have d9 := O5.out.cell k
                rw [get_rep] at d9
                have f9 := O5.out.frozen k
                have O6 := Lib.hid (show Blk (w7.setCell ⟨w.heap.size, k, none⟩ (.int .i64 4)) w.heap.size 3 (ints (List.replicate k 0 ++ 4 :: ws)) by have := O5.out.set k (.int .i64 4); rw [ints_set, set_rep] at this; exact this)
                have B6 := Lib.hid (B5.out.setCell (p := ⟨w.heap.size, k, none⟩) (Nat.le_refl _) (.int .i64 4))
                clear hsz
                go_wp2_with fail
                go_roundw
                case rel => exact ⟨k, by first | rfl | go_num, by omega, by rw [HWL.out, HSV.out]; exact O6.out, B6.out⟩
                case measure => simp [intOf] <;> omega
            | true =>
              have HNV := Lib.hid (show n + (if parentB y.path.data.toList = x.path.data.toList then ((runG x ((D.drop (k + 1)).drop (t + 1)) (ws.drop (t + 1))).1 + 1, decide (v ≠ 0) || (runG x ((D.drop (k + 1)).drop (t + 1)) (ws.drop (t + 1))).2) else runG x ((D.drop (k + 1)).drop (t + 1)) (ws.drop (t + 1))).1 = rg.1 from HNV.out)
              have HVV := Lib.hid (show (decide (ov = 4) || (if parentB y.path.data.toList = x.path.data.toList then ((runG x ((D.drop (k + 1)).drop (t + 1)) (ws.drop (t + 1))).1 + 1, decide (v ≠ 0) || (runG x ((D.drop (k + 1)).drop (t + 1)) (ws.drop (t + 1))).2) else runG x ((D.drop (k + 1)).drop (t + 1)) (ws.drop (t + 1))).2) = rg.2 from HVV.out)
              skip
              go_wp2_with fail
              have z3 : w7.drew.cell? ⟨b, o + q * 11, none⟩ = some (.string y.path) := z2
              have y5 : w7.drew.cell? ⟨b, o + k * 11, none⟩ = some (.string x.path) := y3
              refine wp_region_held_drew (S := fun w' => Below (w7.drew).heap.size (w7.drew) w') (by kernel_rfl) (Below.refl _ _) (fun hHeld => ?_)
              refine wpAnyH_take (i := 0) (oi := ?oi18) (v := ?v18) ?hi18 ?hs18 ?hf18 ?hr18 ?hQ18 (Or.inl ⟨?hg18, ?hy18⟩) hHeld ?rest18
              case hi18 => simp only [List.getElem?_toArray, List.getElem?_cons_succ, List.getElem?_cons_zero]; rfl
              case hs18 => kernel_rfl
              case hf18 => kernel_rfl
              case hr18 => kernel_rfl
              case hg18 => rfl
              case hy18 => (intro w hSw; first | (go_simp; done) | (go_simp; with_reducible rfl))
              case hQ18 => exact fun _ _ _ h => h
              try simp only [Act.put, List.setIfInBounds_toArray, List.set_cons_zero, List.set_cons_succ]
              refine wpAnyH_take (i := 1) (oi := ?oi19) (v := ?v19) ?hi19 ?hs19 ?hf19 ?hr19 ?hQ19 (Or.inl ⟨?hg19, ?hy19⟩) hHeld ?rest19
              case hi19 => simp only [List.getElem?_toArray, List.getElem?_cons_succ, List.getElem?_cons_zero]; rfl
              case hs19 => kernel_rfl
              case hf19 => kernel_rfl
              case hr19 => kernel_rfl
              case hg19 => rfl
              case hy19 => (intro w hSw; first | (go_simp; done) | (go_simp; with_reducible rfl))
              case hQ19 => exact fun _ _ _ h => h
              try simp only [Act.put, List.setIfInBounds_toArray, List.set_cons_zero, List.set_cons_succ]
              refine wpAnyH_take (i := 2) (oi := ?oi20) (v := ?v20) ?hi20 ?hs20 ?hf20 ?hr20 ?hQ20 (Or.inl ⟨?hg20, ?hy20⟩) hHeld ?rest20
              case hi20 => simp only [List.getElem?_toArray, List.getElem?_cons_succ, List.getElem?_cons_zero]; rfl
              case hs20 => kernel_rfl
              case hf20 => kernel_rfl
              case hr20 => kernel_rfl
              case hg20 => rfl
              case hy20 => (intro w hSw; first | (go_simp; done) | (go_simp; with_reducible rfl))
              case hQ20 => exact fun _ _ _ h => h
              try simp only [Act.put, List.setIfInBounds_toArray, List.set_cons_zero, List.set_cons_succ]
              refine wpAnyH_take (i := 3) (oi := ?oi21) (v := ?v21) ?hi21 ?hs21 ?hf21 ?hr21 ?hQ21 (Or.inl ⟨?hg21, ?hy21⟩) hHeld ?rest21
              case hi21 => simp only [List.getElem?_toArray, List.getElem?_cons_succ, List.getElem?_cons_zero]; rfl
              case hs21 => kernel_rfl
              case hf21 => kernel_rfl
              case hr21 => kernel_rfl
              case hg21 => rfl
              case hy21 => (intro w hSw; have x0 := cell_below z3 hSw; first | (go_simp; done) | (go_simp; with_reducible rfl))
              case hQ21 => exact fun _ _ _ h => h
              try simp only [Act.put, List.setIfInBounds_toArray, List.set_cons_zero, List.set_cons_succ]
              refine wpAnyH_take (i := 4) (oi := ?oi22) (v := ?v22) ?hi22 ?hs22 ?hf22 ?hr22 ?hQ22 (Or.inl ⟨?hg22, ?hy22⟩) hHeld ?rest22
              case hi22 => simp only [List.getElem?_toArray, List.getElem?_cons_succ, List.getElem?_cons_zero]; rfl
              case hs22 => kernel_rfl
              case hf22 => kernel_rfl
              case hr22 => kernel_rfl
              case hg22 => rfl
              case hy22 => (intro w hSw; have x0 := cell_below z3 hSw; first | (go_simp; done) | (go_simp; with_reducible rfl))
              case hQ22 => exact fun _ _ _ h => h
              try simp only [Act.put, List.setIfInBounds_toArray, List.set_cons_zero, List.set_cons_succ]
              refine wpAnyH_take (i := 6) (oi := ?oi23) (v := ?v23) ?hi23 ?hs23 ?hf23 ?hr23 ?hQ23 (Or.inl ⟨?hg23, ?hy23⟩) hHeld ?rest23
              case hi23 => simp only [List.getElem?_toArray, List.getElem?_cons_succ, List.getElem?_cons_zero]; rfl
              case hs23 => kernel_rfl
              case hf23 => kernel_rfl
              case hr23 => kernel_rfl
              case hg23 => rfl
              case hy23 => (intro w hSw; first | (go_simp; done) | (go_simp; with_reducible rfl))
              case hQ23 => exact fun _ _ _ h => h
              try simp only [Act.put, List.setIfInBounds_toArray, List.set_cons_zero, List.set_cons_succ]
              refine wpAnyH_take (i := 7) (oi := ?oi24) (v := ?v24) ?hi24 ?hs24 ?hf24 ?hr24 ?hQ24 (Or.inl ⟨?hg24, ?hy24⟩) hHeld ?rest24
              case hi24 => simp only [List.getElem?_toArray, List.getElem?_cons_succ, List.getElem?_cons_zero]; rfl
              case hs24 => kernel_rfl
              case hf24 => kernel_rfl
              case hr24 => kernel_rfl
              case hg24 => rfl
              case hy24 => (intro w hSw; first | (go_simp; done) | (go_simp; with_reducible rfl))
              case hQ24 => exact fun _ _ _ h => h
              try simp only [Act.put, List.setIfInBounds_toArray, List.set_cons_zero, List.set_cons_succ]
              refine wpAnyH_take (i := 8) (oi := ?oi25) (v := ?v25) ?hi25 ?hs25 ?hf25 ?hr25 ?hQ25 (Or.inl ⟨?hg25, ?hy25⟩) hHeld ?rest25
              case hi25 => simp only [List.getElem?_toArray, List.getElem?_cons_succ, List.getElem?_cons_zero]; rfl
              case hs25 => kernel_rfl
              case hf25 => kernel_rfl
              case hr25 => kernel_rfl
              case hg25 => rfl
              case hy25 => (intro w hSw; first | (go_simp; done) | (go_simp; with_reducible rfl))
              case hQ25 => exact fun _ _ _ h => h
              try simp only [Act.put, List.setIfInBounds_toArray, List.set_cons_zero, List.set_cons_succ]
              refine wpAnyH_take (i := 9) (oi := ?oi26) (v := ?v26) ?hi26 ?hs26 ?hf26 ?hr26 ?hQ26 (Or.inl ⟨?hg26, ?hy26⟩) hHeld ?rest26
              case hi26 => simp only [List.getElem?_toArray, List.getElem?_cons_succ, List.getElem?_cons_zero]; rfl
              case hs26 => kernel_rfl
              case hf26 => kernel_rfl
              case hr26 => kernel_rfl
              case hg26 => rfl
              case hy26 => (intro w hSw; have x0 := cell_below y5 hSw; first | (go_simp; done) | (go_simp; with_reducible rfl))
              case hQ26 => exact fun _ _ _ h => h
              try simp only [Act.put, List.setIfInBounds_toArray, List.set_cons_zero, List.set_cons_succ]
              refine wpAnyH_take (i := 10) (oi := ?oi27) (v := ?v27) ?hi27 ?hs27 ?hf27 ?hr27 ?hQ27 (Or.inl ⟨?hg27, ?hy27⟩) hHeld ?rest27
              case hi27 => simp only [List.getElem?_toArray, List.getElem?_cons_succ, List.getElem?_cons_zero]; rfl
              case hs27 => kernel_rfl
              case hf27 => kernel_rfl
              case hr27 => kernel_rfl
              case hg27 => rfl
              case hy27 => (intro w hSw; have x0 := cell_below y5 hSw; first | (go_simp; done) | (go_simp; with_reducible rfl))
              case hQ27 => exact fun _ _ _ h => h
              try simp only [Act.put, List.setIfInBounds_toArray, List.set_cons_zero, List.set_cons_succ]
              refine wpAnyH_ready (rs := [5]) (by kernel_rfl) (by simp) ?_
              refine AllReadyH.cons (o := ?oi28) ?hi28 (fun K hK => ?_) AllReadyH.nil
              case hi28 => simp only [List.getElem?_toArray, List.getElem?_cons_succ, List.getElem?_cons_zero]; rfl
              go_simp; go_at_call 39; refine (HPR.out _).mono ?_; rintro e w8 ⟨rfl, hb8⟩; go_wp2_with fail
              refine hK.out _ _ (hb8) (fun _ => ?_)
              clear hK K hHeld
              refine wpAnyH_change (S' := fun w' => Below (w8).heap.size (w8) w') (fun w' h => (hb8).trans (h.mono (hb8).size)) _ _ _ _ ?_
              have hHeld : Below (w8).heap.size (w8) (w8) := Below.refl _ _
              try simp only [Act.put, List.setIfInBounds_toArray, List.set_cons_zero, List.set_cons_succ]
              by_cases he : parentB y.path.data.toList = x.path.data.toList
              · have e5 : ((str (parentB y.path.data.toList)).toList == x.path.toList) = true := by rw [he, ByteArray.toList_eq, ByteArray.toList_eq]; simp [str]
                have HNV := Lib.hid (show n + ((runG x ((D.drop (k + 1)).drop (t + 1)) (ws.drop (t + 1))).1 + 1) = rg.1 by have := HNV.out; rw [if_pos he] at this; exact this)
                have HVV := Lib.hid (show (decide (ov = 4) || (decide (v ≠ 0) || (runG x ((D.drop (k + 1)).drop (t + 1)) (ws.drop (t + 1))).2)) = rg.2 by have := HVV.out; rw [if_pos he] at this; exact this)
                clear he
                refine wpAnyH_take (i := 11) (oi := ?oi29) (v := ?v29) ?hi29 ?hs29 ?hf29 ?hr29 ?hQ29 (Or.inl ⟨?hg29, ?hy29⟩) hHeld ?rest29
                case hi29 => simp only [List.getElem?_toArray, List.getElem?_cons_succ, List.getElem?_cons_zero]; rfl
                case hs29 => kernel_rfl
                case hf29 => kernel_rfl
                case hr29 => kernel_rfl
                case hg29 => rfl
                case hy29 => (intro w hSw; first | (go_simp; done) | (go_simp; with_reducible rfl))
                case hQ29 => exact fun _ _ _ h => h
                try simp only [Act.put, List.setIfInBounds_toArray, List.set_cons_zero, List.set_cons_succ]
                refine wpAnyH_done (by kernel_rfl) ?_ _
                have b8 := (Below.refl w7.heap.size w7).drew.trans hb8
                have c11 := cell_below c10 b8
                have O8 := Lib.hid (O7.out.below b8)
                have B8 := Lib.hid (B7.out.trans (b8.mono B7.out.size))
                clear hHeld hb8 b8 z2 z3 y3 y4 y5 c10 O7 B7 HPR
                by_cases hv0 : v = 0
                · have e6 : (v != 0) = false := by simpa using hv0
                  have HVV := Lib.hid (show (decide (ov = 4) || (runG x ((D.drop (k + 1)).drop (t + 1)) (ws.drop (t + 1))).2) = rg.2 by have := HVV.out; simpa [hv0] using this)
                  clear hv0
                  go_wp2_with fail
                  go_roundw
                  case rel => exact ⟨t + 1, n + 1, ov, by go_num, by first | (rw [← hq]; go_num) | go_num, by omega, hov, by have := HNV.out; omega, HVV.out, O8.out, B8.out⟩
                  case measure => simp [intOf] <;> omega
                · have e6 : (v != 0) = true := by simpa using hv0
                  have HVV := Lib.hid (show (decide ((4 : Int) = 4) || (runG x ((D.drop (k + 1)).drop (t + 1)) (ws.drop (t + 1))).2) = rg.2 by have := HVV.out; simpa [hv0] using this)
                  have d9 := O8.out.cell k
                  rw [get_rep] at d9
                  have f9 := O8.out.frozen k
                  have O9 := Lib.hid (show Blk (w8.setCell ⟨w.heap.size, k, none⟩ (.int .i64 4)) w.heap.size 3 (ints (List.replicate k 0 ++ 4 :: ws)) by have := O8.out.set k (.int .i64 4); rw [ints_set, set_rep] at this; exact this)
                  have B9 := Lib.hid (B8.out.setCell (p := ⟨w.heap.size, k, none⟩) (Nat.le_refl _) (.int .i64 4))
                  clear hv0
                  go_wp2_with fail
                  go_roundw
                  case rel => exact ⟨t + 1, n + 1, 4, by go_num, by first | (rw [← hq]; go_num) | go_num, by omega, .inr rfl, by have := HNV.out; omega, HVV.out, O9.out, B9.out⟩
                  case measure => simp [intOf] <;> omega
              · have e5 : ((str (parentB y.path.data.toList)).toList == x.path.toList) = false := by rw [ByteArray.toList_eq, ByteArray.toList_eq]; simpa [str] using he
                have HNV := Lib.hid (show n + (runG x ((D.drop (k + 1)).drop (t + 1)) (ws.drop (t + 1))).1 = rg.1 by have := HNV.out; rw [if_neg he] at this; exact this)
                have HVV := Lib.hid (show (decide (ov = 4) || (runG x ((D.drop (k + 1)).drop (t + 1)) (ws.drop (t + 1))).2) = rg.2 by have := HVV.out; rw [if_neg he] at this; exact this)
                clear he
                refine wpAnyH_take (i := 11) (oi := ?oi30) (v := ?v30) ?hi30 ?hs30 ?hf30 ?hr30 ?hQ30 (Or.inl ⟨?hg30, ?hy30⟩) hHeld ?rest30
                case hi30 => simp only [List.getElem?_toArray, List.getElem?_cons_succ, List.getElem?_cons_zero]; rfl
                case hs30 => kernel_rfl
                case hf30 => kernel_rfl
                case hr30 => kernel_rfl
                case hg30 => rfl
                case hy30 => (intro w hSw; first | (go_simp; done) | (go_simp; with_reducible rfl))
                case hQ30 => exact fun _ _ _ h => h
                try simp only [Act.put, List.setIfInBounds_toArray, List.set_cons_zero, List.set_cons_succ]
                refine wpAnyH_done (by kernel_rfl) ?_ _
                have b8 := (Below.refl w7.heap.size w7).drew.trans hb8
                have c11 := cell_below c10 b8
                have O8 := Lib.hid (O7.out.below b8)
                have B8 := Lib.hid (B7.out.trans (b8.mono B7.out.size))
                clear hHeld hb8 b8 z2 z3 y3 y4 y5 c10 O7 B7 HPR
                go_wp2_with fail
                go_roundw
                case rel => exact ⟨t + 1, n, ov, rfl, by first | (rw [← hq]; go_num) | go_num, by omega, hov, by have := HNV.out; omega, HVV.out, O8.out, B8.out⟩
                case measure => simp [intOf] <;> omega
          · have hqd : q = dn := by omega
            have hdl : (D.drop (k + 1)).drop t = [] := by rw [List.drop_drop, List.drop_of_length_le]; rw [HDL.out]; omega
            rw [hdl, runG_nil] at hn hv
            have HNN := Lib.hid (show n = rg.1 from by simpa using hn)
            have HOV := Lib.hid (show decide (ov = 4) = rg.2 from by simpa using hv)
            have q1 : ¬ (q : Int) < (dn : Int) := by omega
            have q2 : decide ((q : Int) < (dn : Int)) = false := decide_eq_false q1
            have q5 : ¬ q < dn := by omega
            have q6 : decide (q < dn) = false := decide_eq_false q5
            rw [hq]
            clear hdl hn hv y0 hqd
            go_wp2_with fail
            refine wp_region_held_drew (S := fun w' => Below (wr.drew).heap.size (wr.drew) w') (by kernel_rfl) (Below.refl _ _) (fun hHeld => ?_)
            refine wpAnyH_take (i := 0) (oi := ?oi31) (v := ?v31) ?hi31 ?hs31 ?hf31 ?hr31 ?hQ31 (Or.inl ⟨?hg31, ?hy31⟩) hHeld ?rest31
            case hi31 => simp only [List.getElem?_toArray, List.getElem?_cons_succ, List.getElem?_cons_zero]; rfl
            case hs31 => kernel_rfl
            case hf31 => kernel_rfl
            case hr31 => kernel_rfl
            case hg31 => rfl
            case hy31 => (intro w hSw; first | (go_simp; done) | (go_simp; with_reducible rfl))
            case hQ31 => exact fun _ _ _ h => h
            try simp only [Act.put, List.setIfInBounds_toArray, List.set_cons_zero, List.set_cons_succ]
            refine wpAnyH_take (i := 1) (oi := ?oi32) (v := ?v32) ?hi32 ?hs32 ?hf32 ?hr32 ?hQ32 (Or.inl ⟨?hg32, ?hy32⟩) hHeld ?rest32
            case hi32 => simp only [List.getElem?_toArray, List.getElem?_cons_succ, List.getElem?_cons_zero]; rfl
            case hs32 => kernel_rfl
            case hf32 => kernel_rfl
            case hr32 => kernel_rfl
            case hg32 => rfl
            case hy32 => (intro w hSw; first | (go_simp; done) | (go_simp; with_reducible rfl))
            case hQ32 => exact fun _ _ _ h => h
            try simp only [Act.put, List.setIfInBounds_toArray, List.set_cons_zero, List.set_cons_succ]
            refine wpAnyH_take (i := 2) (oi := ?oi33) (v := ?v33) ?hi33 ?hs33 ?hf33 ?hr33 ?hQ33 (Or.inl ⟨?hg33, ?hy33⟩) hHeld ?rest33
            case hi33 => simp only [List.getElem?_toArray, List.getElem?_cons_succ, List.getElem?_cons_zero]; rfl
            case hs33 => kernel_rfl
            case hf33 => kernel_rfl
            case hr33 => kernel_rfl
            case hg33 => rfl
            case hy33 => (intro w hSw; first | (go_simp; done) | (go_simp; with_reducible rfl))
            case hQ33 => exact fun _ _ _ h => h
            try simp only [Act.put, List.setIfInBounds_toArray, List.set_cons_zero, List.set_cons_succ]
            refine wpAnyH_take (i := 3) (oi := ?oi34) (v := ?v34) ?hi34 ?hs34 ?hf34 ?hr34 ?hQ34 (Or.inl ⟨?hg34, ?hy34⟩) hHeld ?rest34
            case hi34 => simp only [List.getElem?_toArray, List.getElem?_cons_succ, List.getElem?_cons_zero]; rfl
            case hs34 => kernel_rfl
            case hf34 => kernel_rfl
            case hr34 => kernel_rfl
            case hg34 => rfl
            case hy34 => (intro w hSw; first | (go_simp; done) | (go_simp; with_reducible rfl))
            case hQ34 => exact fun _ _ _ h => h
            try simp only [Act.put, List.setIfInBounds_toArray, List.set_cons_zero, List.set_cons_succ]
            refine wpAnyH_take (i := 4) (oi := ?oi35) (v := ?v35) ?hi35 ?hs35 ?hf35 ?hr35 ?hQ35 (Or.inl ⟨?hg35, ?hy35⟩) hHeld ?rest35
            case hi35 => simp only [List.getElem?_toArray, List.getElem?_cons_succ, List.getElem?_cons_zero]; rfl
            case hs35 => kernel_rfl
            case hf35 => kernel_rfl
            case hr35 => kernel_rfl
            case hg35 => rfl
            case hy35 => (intro w hSw; first | (go_simp; done) | (go_simp; with_reducible rfl))
            case hQ35 => exact fun _ _ _ h => h
            try simp only [Act.put, List.setIfInBounds_toArray, List.set_cons_zero, List.set_cons_succ]
            refine wpAnyH_take (i := 5) (oi := ?oi36) (v := _) ?hi36 ?hs36 ?hf36 ?hr36 ?hQ36 (Or.inr ⟨?hg36, rfl⟩) hHeld ?rest36
            case hi36 => simp only [List.getElem?_toArray, List.getElem?_cons_succ, List.getElem?_cons_zero]; rfl
            case hs36 => kernel_rfl
            case hf36 => kernel_rfl
            case hr36 => kernel_rfl
            case hg36 => rfl
            case hQ36 => exact fun _ _ _ h => h
            try simp only [Act.put, List.setIfInBounds_toArray, List.set_cons_zero, List.set_cons_succ]
            refine wpAnyH_take (i := 6) (oi := ?oi37) (v := _) ?hi37 ?hs37 ?hf37 ?hr37 ?hQ37 (Or.inr ⟨?hg37, rfl⟩) hHeld ?rest37
            case hi37 => simp only [List.getElem?_toArray, List.getElem?_cons_succ, List.getElem?_cons_zero]; rfl
            case hs37 => kernel_rfl
            case hf37 => kernel_rfl
            case hr37 => kernel_rfl
            case hg37 => rfl
            case hQ37 => exact fun _ _ _ h => h
            try simp only [Act.put, List.setIfInBounds_toArray, List.set_cons_zero, List.set_cons_succ]
            refine wpAnyH_take (i := 7) (oi := ?oi38) (v := _) ?hi38 ?hs38 ?hf38 ?hr38 ?hQ38 (Or.inr ⟨?hg38, rfl⟩) hHeld ?rest38
            case hi38 => simp only [List.getElem?_toArray, List.getElem?_cons_succ, List.getElem?_cons_zero]; rfl
            case hs38 => kernel_rfl
            case hf38 => kernel_rfl
            case hr38 => kernel_rfl
            case hg38 => rfl
            case hQ38 => exact fun _ _ _ h => h
            try simp only [Act.put, List.setIfInBounds_toArray, List.set_cons_zero, List.set_cons_succ]
            refine wpAnyH_take (i := 8) (oi := ?oi39) (v := _) ?hi39 ?hs39 ?hf39 ?hr39 ?hQ39 (Or.inr ⟨?hg39, rfl⟩) hHeld ?rest39
            case hi39 => simp only [List.getElem?_toArray, List.getElem?_cons_succ, List.getElem?_cons_zero]; rfl
            case hs39 => kernel_rfl
            case hf39 => kernel_rfl
            case hr39 => kernel_rfl
            case hg39 => rfl
            case hQ39 => exact fun _ _ _ h => h
            try simp only [Act.put, List.setIfInBounds_toArray, List.set_cons_zero, List.set_cons_succ]
            refine wpAnyH_take (i := 9) (oi := ?oi40) (v := _) ?hi40 ?hs40 ?hf40 ?hr40 ?hQ40 (Or.inr ⟨?hg40, rfl⟩) hHeld ?rest40
            case hi40 => simp only [List.getElem?_toArray, List.getElem?_cons_succ, List.getElem?_cons_zero]; rfl
            case hs40 => kernel_rfl
            case hf40 => kernel_rfl
            case hr40 => kernel_rfl
            case hg40 => rfl
            case hQ40 => exact fun _ _ _ h => h
            try simp only [Act.put, List.setIfInBounds_toArray, List.set_cons_zero, List.set_cons_succ]
            refine wpAnyH_take (i := 10) (oi := ?oi41) (v := _) ?hi41 ?hs41 ?hf41 ?hr41 ?hQ41 (Or.inr ⟨?hg41, rfl⟩) hHeld ?rest41
            case hi41 => simp only [List.getElem?_toArray, List.getElem?_cons_succ, List.getElem?_cons_zero]; rfl
            case hs41 => kernel_rfl
            case hf41 => kernel_rfl
            case hr41 => kernel_rfl
            case hg41 => rfl
            case hQ41 => exact fun _ _ _ h => h
            try simp only [Act.put, List.setIfInBounds_toArray, List.set_cons_zero, List.set_cons_succ]
            refine wpAnyH_take (i := 11) (oi := ?oi42) (v := _) ?hi42 ?hs42 ?hf42 ?hr42 ?hQ42 (Or.inr ⟨?hg42, rfl⟩) hHeld ?rest42
            case hi42 => simp only [List.getElem?_toArray, List.getElem?_cons_succ, List.getElem?_cons_zero]; rfl
            case hs42 => kernel_rfl
            case hf42 => kernel_rfl
            case hr42 => kernel_rfl
            case hg42 => rfl
            case hQ42 => exact fun _ _ _ h => h
            try simp only [Act.put, List.setIfInBounds_toArray, List.set_cons_zero, List.set_cons_succ]
            refine wpAnyH_take (i := 12) (oi := ?oi43) (v := _) ?hi43 ?hs43 ?hf43 ?hr43 ?hQ43 (Or.inr ⟨?hg43, rfl⟩) hHeld ?rest43
            case hi43 => simp only [List.getElem?_toArray, List.getElem?_cons_succ, List.getElem?_cons_zero]; rfl
            case hs43 => kernel_rfl
            case hf43 => kernel_rfl
            case hr43 => kernel_rfl
            case hg43 => rfl
            case hQ43 => exact fun _ _ _ h => h
            try simp only [Act.put, List.setIfInBounds_toArray, List.set_cons_zero, List.set_cons_succ]
            refine wpAnyH_take (i := 13) (oi := ?oi44) (v := _) ?hi44 ?hs44 ?hf44 ?hr44 ?hQ44 (Or.inr ⟨?hg44, rfl⟩) hHeld ?rest44
            case hi44 => simp only [List.getElem?_toArray, List.getElem?_cons_succ, List.getElem?_cons_zero]; rfl
            case hs44 => kernel_rfl
            case hf44 => kernel_rfl
            case hr44 => kernel_rfl
            case hg44 => rfl
            case hQ44 => exact fun _ _ _ h => h
            try simp only [Act.put, List.setIfInBounds_toArray, List.set_cons_zero, List.set_cons_succ]
            refine wpAnyH_take (i := 14) (oi := ?oi45) (v := _) ?hi45 ?hs45 ?hf45 ?hr45 ?hQ45 (Or.inr ⟨?hg45, rfl⟩) hHeld ?rest45
            case hi45 => simp only [List.getElem?_toArray, List.getElem?_cons_succ, List.getElem?_cons_zero]; rfl
            case hs45 => kernel_rfl
            case hf45 => kernel_rfl
            case hr45 => kernel_rfl
            case hg45 => rfl
            case hQ45 => exact fun _ _ _ h => h
            try simp only [Act.put, List.setIfInBounds_toArray, List.set_cons_zero, List.set_cons_succ]
            refine wpAnyH_take (i := 15) (oi := ?oi46) (v := _) ?hi46 ?hs46 ?hf46 ?hr46 ?hQ46 (Or.inr ⟨?hg46, rfl⟩) hHeld ?rest46
            case hi46 => simp only [List.getElem?_toArray, List.getElem?_cons_succ, List.getElem?_cons_zero]; rfl
            case hs46 => kernel_rfl
            case hf46 => kernel_rfl
            case hr46 => kernel_rfl
            case hg46 => rfl
            case hQ46 => exact fun _ _ _ h => h
            try simp only [Act.put, List.setIfInBounds_toArray, List.set_cons_zero, List.set_cons_succ]
            refine wpAnyH_take (i := 16) (oi := ?oi47) (v := ?v47) ?hi47 ?hs47 ?hf47 ?hr47 ?hQ47 (Or.inl ⟨?hg47, ?hy47⟩) hHeld ?rest47
            case hi47 => simp only [List.getElem?_toArray, List.getElem?_cons_succ, List.getElem?_cons_zero]; rfl
            case hs47 => kernel_rfl
            case hf47 => kernel_rfl
            case hr47 => kernel_rfl
            case hg47 => rfl
            case hy47 => (intro w hSw; first | (go_simp; done) | (go_simp; with_reducible rfl))
            case hQ47 => exact fun _ _ _ h => h
            try simp only [Act.put, List.setIfInBounds_toArray, List.set_cons_zero, List.set_cons_succ]
            refine wpAnyH_done (by kernel_rfl) ?_ _
            have b7 := (Below.refl wr.heap.size wr).drew
            have y4 := cell_below y2 b7
            have O5 := Lib.hid (O5.out.below b7)
            have B5 := Lib.hid (B5.out.trans (b7.mono B5.out.size))
            clear b7 hHeld y2
            by_cases hsz : (n : Int) = x.size
            · have HSV := Lib.hid (show st = ov by
                rw [HSU.out, ← HNN.out, ← HOV.out]
                rcases hov with h0 | h0
                · rw [h0, if_neg]; simp [hsz]
                · rw [h0, if_pos]; exact .inl rfl)
              have e1 : ((n : Int) != x.size) = false := by simpa using hsz
              clear hsz
              go_wp2_with fail
              go_roundw
              case rel => exact ⟨k, by first | rfl | go_num, by omega, by rw [HWL.out, HSV.out]; exact O5.out, B5.out⟩
              case measure => simp [intOf] <;> omega
            · have HSV := Lib.hid (show st = 4 by rw [HSU.out, ← HNN.out]; exact if_pos (.inr hsz))
              have e1 : ((n : Int) != x.size) = true := by simpa using hsz
              have d9 := O5.out.cell k
              rw [get_rep] at d9
              have f9 := O5.out.frozen k
              have O6 := Lib.hid (show Blk (wr.drew.setCell ⟨w.heap.size, k, none⟩ (.int .i64 4)) w.heap.size 3 (ints (List.replicate k 0 ++ 4 :: ws)) by have := O5.out.set k (.int .i64 4); rw [ints_set, set_rep] at this; exact this)
              have B6 := Lib.hid (B5.out.setCell (p := ⟨w.heap.size, k, none⟩) (Nat.le_refl _) (.int .i64 4))
              clear hsz
              go_wp2_with fail
              go_roundw
              case rel => exact ⟨k, by first | rfl | go_num, by omega, by rw [HWL.out, HSV.out]; exact O6.out, B6.out⟩
              case measure => simp [intOf] <;> omega
      · have e1 : (fu != 0) = false := by simpa using hfz
        have e0 : (fu == 0) = true := by simpa using hfz
        have e2 : (x.kind != 2) = true := by simpa using hk2
        have HSV := Lib.hid (show st = fu by rw [HST.out]; exact if_pos (.inr hk2))
        clear hfz hk2
        go_wp2_with fail
        go_roundw
        case rel => exact ⟨k, by first | rfl | go_num, by omega, by rw [HWL.out, HSV.out]; exact O4.out, B4.out⟩
        case measure => simp [intOf] <;> omega
    · have e1 : (fu != 0) = true := by simpa using hfz
      have HSV := Lib.hid (show st = fu by rw [HST.out]; exact if_pos (.inl hfz))
      clear hfz
      go_wp2_with fail
      go_roundw
      case rel => exact ⟨k, by first | rfl | go_num, by omega, by rw [HWL.out, HSV.out]; exact O4.out, B4.out⟩
      case measure => simp [intOf] <;> omega
end Go.Proofs.Ytcagonpnjionhaa
