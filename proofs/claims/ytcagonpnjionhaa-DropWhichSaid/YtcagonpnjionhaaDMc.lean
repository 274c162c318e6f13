import Derived.Test.YtcagonpnjionhaaQj
/-! DropMost, walked: it returns true. -/
set_option linter.unusedVariables false
set_option linter.unusedSimpArgs false
namespace Go.Proofs.Ytcagonpnjionhaa
open Go.RowKit

theorem Sl.sub0 {w : World} {A : Option Addr} {n c : Nat} {cs : List Value} (h : Sl 1 w A n cs) : Sl 1 w (subAt A 0 c 1) n cs := by
  refine ⟨h.len, h.max, ?_⟩
  rcases h.at_ with h0 | ⟨b, o, rfl, hc⟩
  · exact .inl h0
  · refine .inr ⟨b, o, ?_, hc⟩
    unfold subAt; split
    · rfl
    · simp only [Option.map_some, Addr.add]; split <;> simp_all
theorem allU_keep (S D : List En) (R : List Ru) : allU S D R 0 = [] := by
  unfold allU; rw [if_neg]; simp
theorem allU_del {S D : List En} {R : List Ru} {a b : Int} (ha : (a == 0) = false) (hb : (b == 0) = false) : allU S D R a = allU S D R b := by
  unfold allU; rw [ha, hb]
theorem allU_len {S D : List En} {R : List Ru} {a : Int} : (allU S D R a).length ≤ D.length := by
  unfold allU
  split
  · rename_i h
    simp only [Bool.and_eq_true] at h
    exact goneU_len h.2.1
  · exact Nat.zero_le _
theorem whichU_keep (S D : List En) (R : List Ru) (most : Int) : whichU S D R 0 most = ([], 0) := by
  unfold whichU
  rw [allU_keep, if_neg (fun h => by simp at h; omega)]
theorem small_paths {L : List En} (h : smallE L = true) : (∀ x ∈ L, x.path.size ≤ 2097152) ∧ L.length ≤ 60 := by
  unfold smallE at h
  rw [Bool.and_eq_true, decide_eq_true_eq, List.all_eq_true] at h
  refine ⟨fun x hx => ?_, h.2⟩
  have := h.1 x hx
  unfold lightE at this
  rw [Bool.and_eq_true, decide_eq_true_eq] at this
  omega
set_option maxRecDepth 100000 in
set_option maxHeartbeats 8000000 in
theorem dropMost_any (sA : Option Addr) (sn sc : Nat) (dA : Option Addr) (dn dc : Nat) (rA : Option Addr) (rn rc : Nat) (S D : List En) (R : List Ru) (most : Int) (w : World)
    (hs : Sl 11 w sA sn (encEs S)) (hd : Sl 11 w dA dn (encEs D)) (hr : Sl 4 w rA rn (encUs R)) (hR : ∀ r ∈ R, r.pat.size ≤ 140737488355328) :
    Calls Try.prog 4 #[.slice sA sn sc, .slice dA dn dc, .slice rA rn rc, .int .i64 most] w fun e w' => e = .returned (.bool true) ∧ Below w.heap.size w w' := by
  obtain ⟨i0, hi0, hz0, hz1, hz2⟩ := info_parts infoS
  have HL := Lib.hid (light_any sA sn sc dA dn dc rA rn rc S D w hs hd)
  have HAW := Lib.hid awake_any
  have HLU := Lib.hid (fun (h : lightU S D rn = true) => show smallE S = true ∧ smallE D = true by unfold lightU at h; simp only [Bool.and_eq_true] at h; exact ⟨h.1, h.2.1⟩)
  have HS := Lib.hid hs
  have HD := Lib.hid hd
  have HR := Lib.hid hr
  have HRP := Lib.hid hR
  generalize lightU S D rn = lt at *
  have hsl := hs.enLen
  have hdl := hd.enLen
  have HSL := Lib.hid hsl
  have HDL := Lib.hid hdl
  clear hs hd hr hR hsl hdl
  go_enter Try.func4, Try.ntmps4
  go_wp2_with fail
  refine HL.out.mono ?_
  rintro e w1 ⟨rfl, hb1⟩
  have B1 := Lib.hid hb1
  clear hb1 HL
  cases lt with
  | false =>
    go_wp2_with fail
    refine (HAW.out _).mono ?_
    rintro e w2 ⟨rfl, hb2⟩
    have B2 := Lib.hid (B1.out.trans (hb2.mono B1.out.size))
    clear hb2
    go_wp2_with fail
    go_ret
    exact ⟨rfl, B2.out⟩
  | true =>
  obtain ⟨hls, hld⟩ := HLU.out rfl
  obtain ⟨hsp, hsn⟩ := small_paths hls
  obtain ⟨hdp, hdn⟩ := small_paths hld
  have HW := Lib.hid (fun (del mo : Int) (w' : World) (h : Below w.heap.size w w') => which_any sA sn sc dA dn dc rA rn rc S D R del mo false false false false false false false false false false false false false false false false 0 0 0 w' (HS.out.below h) (HD.out.below h) (HR.out.below h) hsp hdp HRP.out (by rw [HSL.out] at hsn; omega) (by rw [HDL.out] at hdn; omega))
  have hgl : (allU S D R 3).length ≤ 60 := Nat.le_trans allU_len hdn
  have HG1 := Lib.hid (show allU S D R 1 = allU S D R 3 from allU_del rfl rfl)
  clear hls hld hsp hsn hdp hdn HS HD HR HRP HLU HSL HDL
  have h1 := HW.out 3 0 w1 B1.out
  have e1 : whichU S D R 3 0 = (allU S D R 3, 0) := by unfold whichU; exact if_neg (fun h => by omega)
  rw [e1] at h1
  clear e1
  have e2 : whichU S D R 1 most = if 0 < most ∧ most < ((allU S D R 3).length : Int) then ((allU S D R 3).take most.toNat, ((allU S D R 3).length : Int) - most) else (allU S D R 3, 0) := by unfold whichU; rw [HG1.out]
  have HE2 := Lib.hid e2
  clear e2
  generalize allU S D R 3 = gs at *
  clear HG1
  have HH1 := Lib.hid h1
  clear h1
  go_wp2_with fail
  refine HH1.out.mono ?_
  rintro e w2 ⟨⟨A1, n1, c1, rfl, hn1, hs1⟩, hb2⟩
  clear HH1
  obtain rfl : gs.length = n1 := strsRow hs1
  have S1 := Lib.hid hs1
  have B2 := Lib.hid (B1.out.trans (hb2.mono B1.out.size))
  clear hs1 hb2 B1
  have h2 := HW.out 1 most w2 B2.out
  have h3 := fun w' h => HW.out 0 most w' h
  rw [HE2.out] at h2
  simp only [whichU_keep] at h3
  have HH3 := Lib.hid h3
  clear h3 HW HE2
  rcases Int.lt_or_le 0 most with hm | hm
  · obtain ⟨m, rfl⟩ : ∃ m : Nat, most = (m : Int) := ⟨most.toNat, by omega⟩
    have f1 : decide ((0 : Int) < (m : Int)) = true := decide_eq_true hm
    have f1n : 0 < m := by omega
    have f1d : decide (0 < m) = true := decide_eq_true f1n
    rcases Nat.lt_or_ge m gs.length with hg | hg
    · rw [if_pos ⟨hm, by omega⟩, Int.toNat_natCast] at h2
      have HH2 := Lib.hid h2
      clear h2
      go_wp2_with fail
      refine HH2.out.mono ?_
      rintro e w3 ⟨⟨A2, n2, c2, rfl, hn2, hs2⟩, hb3⟩
      clear HH2
      obtain rfl : m = n2 := by have := strsRow hs2; rw [List.length_take] at this; omega
      have S1 := Lib.hid (S1.out.below hb3)
      have S2 := Lib.hid hs2
      have B3 := Lib.hid (B2.out.trans (hb3.mono B2.out.size))
      clear hs2 hb3 B2
      go_wp2_with fail
      refine (HH3.out w3 B3.out).mono ?_
      rintro e w4 ⟨⟨A3, n3, c3, rfl, hn3, hs3⟩, hb4⟩
      obtain rfl : 0 = n3 := strsRow hs3
      have S1 := Lib.hid (S1.out.below hb4)
      have S2 := Lib.hid (S2.out.below hb4)
      have B4 := Lib.hid (B3.out.trans (hb4.mono B3.out.size))
      clear hs3 hb4 B3 HH3
      have hkm : (gs.length : Int) - ((gs.length : Int) - m) = m := by omega
      have hw1 : IntKind.wrap .i64 ((m : Int) + ((gs.length : Int) - m)) = (gs.length : Int) := by rw [IntKind.wrap_i64]; omega
      have hw2 : IntKind.wrap .i64 ((gs.length : Int) - ((gs.length : Int) - m)) = (m : Int) := by rw [IntKind.wrap_i64]; omega
      have hw3 : IntKind.wrap .i64 (m : Int) = (m : Int) := by rw [IntKind.wrap_i64]; omega
      have hw4 : IntKind.wrap .i64 (gs.length : Int) = (gs.length : Int) := by rw [IntKind.wrap_i64]; omega
      have hw5 : (m : Int) + ((gs.length : Int) - m) = (gs.length : Int) := by omega
      have hk0 : ¬ (gs.length : Int) - m < 0 := by omega
      have hk1 : decide ((gs.length : Int) - m < 0) = false := decide_eq_false hk0
      have hsl : ∀ w : World, (Instr.slice 28 (.slice A1 gs.length c1) none (some (.int .i64 (m : Int))) none).run Try.prog w = .ok (.slice (subAt A1 0 c1 1) m c1) w := fun w => run_slice_to undSt elemSt hi0 hz1 A1 gs.length c1 m (by omega) .i64 _ rfl
      have HT := Lib.hid (texts_any A2 (subAt A1 0 c1 1) m c2 m c1 (gs.take m) (gs.take m) w4 S2.out (S1.out.strPre (Nat.le_of_lt hg)).sub0)
      rw [decide_eq_true rfl] at HT
      have hmn : min (m : Int) (gs.length : Int) = m := by omega
      clear hm hgl
      go_wp2_with fail
      refine HT.out.mono ?_
      rintro e w5 ⟨rfl, hb5⟩
      have B5 := Lib.hid (B4.out.trans (hb5.mono B4.out.size))
      clear hb5 HT S1 S2 B4
      go_wp2_with fail
      refine (HAW.out _).mono ?_
      rintro e w6 ⟨rfl, hb6⟩
      have B6 := Lib.hid (B5.out.trans (hb6.mono B5.out.size))
      clear hb6
      go_wp2_with fail
      go_ret
      exact ⟨rfl, B6.out⟩
    · rw [if_neg (fun h => by omega)] at h2
      have HH2 := Lib.hid h2
      clear h2
      go_wp2_with fail
      refine HH2.out.mono ?_
      rintro e w3 ⟨⟨A2, n2, c2, rfl, hn2, hs2⟩, hb3⟩
      clear HH2
      obtain rfl : gs.length = n2 := strsRow hs2
      have S1 := Lib.hid (S1.out.below hb3)
      have S2 := Lib.hid hs2
      have B3 := Lib.hid (B2.out.trans (hb3.mono B2.out.size))
      clear hs2 hb3 B2
      go_wp2_with fail
      refine (HH3.out w3 B3.out).mono ?_
      rintro e w4 ⟨⟨A3, n3, c3, rfl, hn3, hs3⟩, hb4⟩
      obtain rfl : 0 = n3 := strsRow hs3
      have S1 := Lib.hid (S1.out.below hb4)
      have S2 := Lib.hid (S2.out.below hb4)
      have B4 := Lib.hid (B3.out.trans (hb4.mono B3.out.size))
      clear hs3 hb4 B3 HH3
      have hw4 : IntKind.wrap .i64 (gs.length : Int) = (gs.length : Int) := by rw [IntKind.wrap_i64]; omega
      have hsl : ∀ w : World, (Instr.slice 28 (.slice A1 gs.length c1) none (some (.int .i64 (gs.length : Int))) none).run Try.prog w = .ok (.slice (subAt A1 0 c1 1) gs.length c1) w := fun w => run_slice_to undSt elemSt hi0 hz1 A1 gs.length c1 gs.length (by omega) .i64 _ rfl
      have HT := Lib.hid (texts_any A2 (subAt A1 0 c1 1) gs.length c2 gs.length c1 gs gs w4 S2.out S1.out.sub0)
      rw [decide_eq_true rfl] at HT
      have hmn : min (m : Int) (gs.length : Int) = gs.length := by omega
      clear hm hgl hg
      go_wp2_with fail
      refine HT.out.mono ?_
      rintro e w5 ⟨rfl, hb5⟩
      have B5 := Lib.hid (B4.out.trans (hb5.mono B4.out.size))
      clear hb5 HT S1 S2 B4
      go_wp2_with fail
      refine (HAW.out _).mono ?_
      rintro e w6 ⟨rfl, hb6⟩
      have B6 := Lib.hid (B5.out.trans (hb6.mono B5.out.size))
      clear hb6
      go_wp2_with fail
      go_ret
      exact ⟨rfl, B6.out⟩
  · rw [if_neg (fun h => by omega)] at h2
    have HH2 := Lib.hid h2
    clear h2
    have f2 : ¬ (0 : Int) < most := by omega
    have f1 : decide ((0 : Int) < most) = false := decide_eq_false f2
    go_wp2_with fail
    refine HH2.out.mono ?_
    rintro e w3 ⟨⟨A2, n2, c2, rfl, hn2, hs2⟩, hb3⟩
    clear HH2
    obtain rfl : gs.length = n2 := strsRow hs2
    have S1 := Lib.hid (S1.out.below hb3)
    have S2 := Lib.hid hs2
    have B3 := Lib.hid (B2.out.trans (hb3.mono B2.out.size))
    clear hs2 hb3 B2
    go_wp2_with fail
    refine (HH3.out w3 B3.out).mono ?_
    rintro e w4 ⟨⟨A3, n3, c3, rfl, hn3, hs3⟩, hb4⟩
    obtain rfl : 0 = n3 := strsRow hs3
    have S1 := Lib.hid (S1.out.below hb4)
    have S2 := Lib.hid (S2.out.below hb4)
    have B4 := Lib.hid (B3.out.trans (hb4.mono B3.out.size))
    clear hs3 hb4 B3 HH3
    have hw4 : IntKind.wrap .i64 (gs.length : Int) = (gs.length : Int) := by rw [IntKind.wrap_i64]; omega
    have hsl : ∀ w : World, (Instr.slice 28 (.slice A1 gs.length c1) none (some (.int .i64 (gs.length : Int))) none).run Try.prog w = .ok (.slice (subAt A1 0 c1 1) gs.length c1) w := fun w => run_slice_to undSt elemSt hi0 hz1 A1 gs.length c1 gs.length (by omega) .i64 _ rfl
    have HT := Lib.hid (texts_any A2 (subAt A1 0 c1 1) gs.length c2 gs.length c1 gs gs w4 S2.out S1.out.sub0)
    rw [decide_eq_true rfl] at HT
    clear hm hgl
    go_wp2_with fail
    refine HT.out.mono ?_
    rintro e w5 ⟨rfl, hb5⟩
    have B5 := Lib.hid (B4.out.trans (hb5.mono B4.out.size))
    clear hb5 HT S1 S2 B4
    go_wp2_with fail
    refine (HAW.out _).mono ?_
    rintro e w6 ⟨rfl, hb6⟩
    have B6 := Lib.hid (B5.out.trans (hb6.mono B5.out.size))
    clear hb6
    go_wp2_with fail
    go_ret
    exact ⟨rfl, B6.out⟩
end Go.Proofs.Ytcagonpnjionhaa
