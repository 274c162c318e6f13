import Derived.Test.YtcagonpnjionhaaGjc
import Derived.Test.YtcagonpnjionhaaDMc
/-! The document's Kept; DropKept, walked. -/
set_option linter.unusedVariables false
set_option linter.unusedSimpArgs false
namespace Go.Proofs.Ytcagonpnjionhaa
open Go.RowKit

set_option maxRecDepth 100000 in
set_option maxHeartbeats 4000000 in
theorem refKept_any (sA : Option Addr) (sn sc : Nat) (dA : Option Addr) (dn dc : Nat) (rA : Option Addr) (rn rc : Nat) (S D : List En) (R : List Ru) (p : ByteArray) (w : World)
    (hs : Sl 11 w sA sn (encEs S)) (hd : Sl 11 w dA dn (encEs D)) (hr : Sl 4 w rA rn (encUs R)) (hsp : ∀ x ∈ S, x.path.size ≤ 2097152) (hdp : ∀ x ∈ D, x.path.size ≤ 2097152) (hR : ∀ r ∈ R, r.pat.size ≤ 140737488355328) (hsn : sn ≤ 500) (hdn : dn ≤ 500) (hsc : sn ≤ sc) (hdc : dn ≤ dc) :
    Calls Try.prog 13 #[.slice sA sn sc, .slice dA dn dc, .slice rA rn rc, .string p] w fun e w' => e = .returned (.tuple #[.int .i64 (keptU S D R p).1, .bool (keptU S D R p).2]) ∧ Below w.heap.size w w' := by
  obtain ⟨X, hX⟩ : ∃ X, keptU S D R p = X := ⟨_, rfl⟩
  have HX : Hid ((if (checkE S && (checkE D && (findK p D 0).2)) = true then ((whyU S D R)[(findK p D 0).1.toNat]?.getD 0, true) else (0, false)) = X) := Lib.hid hX
  rw [hX]
  clear hX
  have HFD := Lib.hid (refFind_any dA dn dc D p w hd)
  have HMY := Lib.hid (fun w' (h : Below w.heap.size w w') => refMay_any sA sn sc dA dn dc S D w' (hs.below h) (hd.below h) hsp hdp hsn hdn hsc hdc)
  have HGO := Lib.hid (fun (h1 : checkE S = true) (h2 : checkE D = true) w' (h : Below w.heap.size w w') => refGoes_any sA sn sc dA dn dc rA rn rc S D R w' (hs.below h) (hd.below h) (hr.below h) hR hdn h1 h2)
  have HSP := Lib.hid (findK_spec p D 0)
  have HDL := Lib.hid hd.enLen
  clear hs hd hr hsp hdp hR hsn
  go_enter Try.func13, Try.ntmps13
  go_wp2_with fail
  refine HFD.out.mono ?_
  rintro e w1 ⟨rfl, hb1⟩
  have B1 := Lib.hid hb1
  clear hb1 HFD
  rcases HSP.out with ⟨m, y, hm, hy, he⟩ | ⟨he, hn⟩
  · rw [Nat.zero_add] at he
    have HX := Lib.hid (show (if (checkE S && checkE D) = true then ((whyU S D R)[m]?.getD 0, true) else (0, false)) = X by rw [← HX.out, he]; simp)
    rw [he]
    have hml : m < dn := by rw [← HDL.out]; exact (List.getElem?_eq_some_iff.1 hm).1
    clear he hy hm HSP
    go_wp2_with fail
    refine (HMY.out w1 B1.out).mono ?_
    rintro e w2 ⟨rfl, hb2⟩
    have B2 := Lib.hid (B1.out.trans (hb2.mono B1.out.size))
    clear hb2 HMY B1
    cases hck : (checkE S && checkE D) with
    | false =>
      have K := Lib.hid (show X = (0, false) by rw [← HX.out, hck]; rfl)
      go_wp2_with fail
      go_ret2
      exact ⟨by rw [K.out]; rfl, B2.out⟩
    | true =>
      have hcs : checkE S = true ∧ checkE D = true := by simpa using hck
      have HX := Lib.hid (show ((whyU S D R)[m]?.getD 0, true) = X by rw [← HX.out, hck]; rfl)
      have HG := Lib.hid (HGO.out hcs.1 hcs.2 w2 B2.out)
      have HWL := Lib.hid (show (whyU S D R).length = dn by unfold whyU; rw [whyL_len, HDL.out])
      generalize whyU S D R = ws at *
      clear hck hcs HGO
      go_wp2_with fail
      refine HG.out.mono ?_
      rintro e w3 ⟨⟨gA, gc, rfl, hgc, hgs⟩, hb3⟩
      have B3 := Lib.hid (B2.out.trans (hb3.mono B2.out.size))
      obtain ⟨wi, hwi⟩ : ∃ wi, ws[m]? = some wi := ⟨_, List.getElem?_eq_getElem (by rw [HWL.out]; exact hml)⟩
      have K := Lib.hid (show X = (wi, true) by rw [← HX.out, hwi]; rfl)
      have hcell : ∃ b o, gA = some ⟨b, o, none⟩ ∧ w3.cell? ⟨b, o + m, none⟩ = some (.int .i64 wi) := by
        rcases hgs.at_ with h0 | ⟨b, o, rfl, hc⟩
        · have : (ints ws).length = 0 := by rw [h0]; rfl
          unfold ints at this
          rw [List.length_map, HWL.out] at this
          omega
        · exact ⟨b, o, rfl, hc m _ (by unfold ints; rw [List.getElem?_map, hwi]; rfl)⟩
      obtain ⟨b, o, rfl, hc⟩ := hcell
      have hm1 : (0 : Int) ≤ (m : Int) := by omega
      have hm2 : (m : Int) < (dn : Int) := by omega
      clear hb3 hgs hwi HX HG B2
      go_wp2_with fail
      go_ret2
      exact ⟨by rw [K.out]; rfl, B3.out⟩
  · have K := Lib.hid (show X = (0, false) by rw [← HX.out, he]; simp)
    rw [he]
    clear he hn HX HSP
    go_wp2_with fail
    go_ret2
    exact ⟨by rw [K.out]; rfl, B1.out⟩
set_option maxRecDepth 100000 in
set_option maxHeartbeats 8000000 in
theorem dropKept_any (sA : Option Addr) (sn sc : Nat) (dA : Option Addr) (dn dc : Nat) (rA : Option Addr) (rn rc : Nat) (S D : List En) (R : List Ru) (p : ByteArray) (w : World)
    (hs : Sl 11 w sA sn (encEs S)) (hd : Sl 11 w dA dn (encEs D)) (hr : Sl 4 w rA rn (encUs R)) (hR : ∀ r ∈ R, r.pat.size ≤ 140737488355328) (hsc : sn ≤ sc) (hdc : dn ≤ dc) :
    Calls Try.prog 5 #[.slice sA sn sc, .slice dA dn dc, .slice rA rn rc, .string p] w fun e w' => e = .returned (.bool true) ∧ Below w.heap.size w w' := by
  have HL := Lib.hid (light_any sA sn sc dA dn dc rA rn rc S D w hs hd)
  have HAW := Lib.hid awake_any
  have HLU := Lib.hid (fun (h : lightU S D rn = true) => show smallE S = true ∧ smallE D = true by unfold lightU at h; simp only [Bool.and_eq_true] at h; exact ⟨h.1, h.2.1⟩)
  have HS := Lib.hid hs
  have HD := Lib.hid hd
  have HR := Lib.hid hr
  have HRP := Lib.hid hR
  generalize lightU S D rn = lt at *
  have HSL := Lib.hid hs.enLen
  have HDL := Lib.hid hd.enLen
  have hdm := hd.max
  clear hs hd hr hR
  go_enter Try.func5, Try.ntmps5
  go_wp2_with fail
  refine HL.out.mono ?_
  rintro e w1 ⟨rfl, hb1⟩
  have B1 := Lib.hid hb1
  clear hb1 HL
  cases lt with
  | false =>
    go_wp2_with fail
    refine (HAW.out _).mono ?_
    rintro e w2 ⟨rfl, hb2⟩
    have B2 := Lib.hid (B1.out.trans (hb2.mono B1.out.size))
    clear hb2
    go_wp2_with fail
    go_ret
    exact ⟨rfl, B2.out⟩
  | true =>
  obtain ⟨hls, hld⟩ := HLU.out rfl
  obtain ⟨hsp, hsn⟩ := small_paths hls
  obtain ⟨hdp, hdn⟩ := small_paths hld
  rw [HSL.out] at hsn
  rw [HDL.out] at hdn
  have H1 := Lib.hid (fun (q : ByteArray) (w' : World) (h : Below w.heap.size w w') => kept_any sA sn sc dA dn dc rA rn rc S D R q w' (HS.out.below h) (HD.out.below h) (HR.out.below h) hsp hdp HRP.out (by omega) (by omega))
  have H2 := Lib.hid (fun (q : ByteArray) (w' : World) (h : Below w.heap.size w w') => refKept_any sA sn sc dA dn dc rA rn rc S D R q w' (HS.out.below h) (HD.out.below h) (HR.out.below h) hsp hdp HRP.out (by omega) (by omega) hsc hdc)
  clear hls hld hsp hdp HLU hdm
  have hwn : IntKind.wrap .i64 ((dn : Int) + 1) = (dn : Int) + 1 := by rw [IntKind.wrap_i64]; omega
  go_wp2_with fail
  go_loopw [24] (fun v wr => ∃ i : Nat, v = .int .i64 i ∧ i ≤ dn + 1 ∧ Below w.heap.size w wr) (fun v _ => dn + 1 - (intOf v).toNat)
  case atStart => exact ⟨0, rfl, Nat.zero_le _, B1.out⟩
  case round =>
    clear B1
    obtain ⟨i, rfl, hi, hb⟩ := hrel
    have HB := Lib.hid hb
    clear hb
    rcases Nat.lt_or_ge i dn with h | h
    · obtain ⟨b, o, x, hA, hx, hsg⟩ := (HD.out.below HB.out).enRow h
      have k0 := (enCells hsg).1
      have hi0 : (i : Int) < (dn : Int) + 1 := by omega
      have hi2 : (i : Int) < (dn : Int) := by omega
      subst hA
      clear hsg hx
      have h1 := H1.out x.path wr HB.out
      have h2 := fun w' h => H2.out x.path w' h
      generalize keptU S D R x.path = kx at *
      obtain ⟨ka, kb⟩ := kx
      have HH1 := Lib.hid h1
      have HH2 := Lib.hid h2
      clear h1 h2
      go_wp2_with fail
      refine HH1.out.mono ?_
      rintro e w3 ⟨rfl, hb3⟩
      have B3 := Lib.hid (HB.out.trans (hb3.mono HB.out.size))
      clear hb3 HH1 HB k0
      go_wp2_with fail
      refine (HH2.out w3 B3.out).mono ?_
      rintro e w4 ⟨rfl, hb4⟩
      have B4 := Lib.hid (B3.out.trans (hb4.mono B3.out.size))
      clear hb4 HH2 B3
      go_wp2_with fail
      go_roundw
      case rel => exact ⟨i + 1, by go_num, by omega, B4.out⟩
      case measure => simp [intOf] <;> omega
    · rcases Nat.eq_or_lt_of_le hi with rfl | h5
      · have hin : ¬ (((dn + 1 : Nat) : Int) < (dn : Int) + 1) := by omega
        clear hi h
        go_wp2_with fail
        refine (HAW.out _).mono ?_
        rintro e w2 ⟨rfl, hb2⟩
        have B2 := Lib.hid (HB.out.trans (hb2.mono HB.out.size))
        clear hb2
        go_wp2_with fail
        go_ret
        exact ⟨rfl, B2.out⟩
      · obtain rfl : i = dn := by omega
        have hi0 : (i : Int) < (i : Int) + 1 := by omega
        have hi2 : ¬ (i : Int) < (i : Int) := by omega
        have h1 := H1.out p wr HB.out
        have h2 := fun w' h => H2.out p w' h
        generalize keptU S D R p = kx at *
        obtain ⟨ka, kb⟩ := kx
        have HH1 := Lib.hid h1
        have HH2 := Lib.hid h2
        clear h1 h2 hi h h5
        go_wp2_with fail
        refine HH1.out.mono ?_
        rintro e w3 ⟨rfl, hb3⟩
        have B3 := Lib.hid (HB.out.trans (hb3.mono HB.out.size))
        clear hb3 HH1 HB
        go_wp2_with fail
        refine (HH2.out w3 B3.out).mono ?_
        rintro e w4 ⟨rfl, hb4⟩
        have B4 := Lib.hid (B3.out.trans (hb4.mono B3.out.size))
        clear hb4 HH2 B3
        go_wp2_with fail
        go_roundw
        case rel => exact ⟨i + 1, by go_num, by omega, B4.out⟩
        case measure => simp [intOf] <;> omega
end Go.Proofs.Ytcagonpnjionhaa
