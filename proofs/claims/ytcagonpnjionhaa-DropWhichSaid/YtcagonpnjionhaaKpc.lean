import Derived.Test.YtcagonpnjionhaaQj
/-! Why a path does not go: the program's Kept. -/
set_option linter.unusedVariables false
set_option linter.unusedSimpArgs false
namespace Go.Proofs.Ytcagonpnjionhaa
open Go.RowKit

def keptU (S D : List En) (R : List Ru) (p : ByteArray) : Int × Bool :=
  if (checkE S && (checkE D && (findK p D 0).2)) = true then ((whyU S D R)[(findK p D 0).1.toNat]?.getD 0, true) else (0, false)
set_option maxRecDepth 100000 in
set_option maxHeartbeats 4000000 in
theorem kept_any (sA : Option Addr) (sn sc : Nat) (dA : Option Addr) (dn dc : Nat) (rA : Option Addr) (rn rc : Nat) (S D : List En) (R : List Ru) (p : ByteArray) (w : World)
    (hs : Sl 11 w sA sn (encEs S)) (hd : Sl 11 w dA dn (encEs D)) (hr : Sl 4 w rA rn (encUs R)) (hsp : ∀ x ∈ S, x.path.size ≤ 2097152) (hdp : ∀ x ∈ D, x.path.size ≤ 2097152) (hR : ∀ r ∈ R, r.pat.size ≤ 140737488355328) (hsn : sn ≤ 500) (hdn : dn ≤ 500) :
    Calls Try.prog 12 #[.slice sA sn sc, .slice dA dn dc, .slice rA rn rc, .string p] w fun e w' => e = .returned (.tuple #[.int .i64 (keptU S D R p).1, .bool (keptU S D R p).2]) ∧ Below w.heap.size w w' := by
  obtain ⟨X, hX⟩ : ∃ X, keptU S D R p = X := ⟨_, rfl⟩
  have HX : Hid ((if (checkE S && (checkE D && (findK p D 0).2)) = true then ((whyU S D R)[(findK p D 0).1.toNat]?.getD 0, true) else (0, false)) = X) := Lib.hid hX
  rw [hX]
  clear hX
  have HLK := Lib.hid (look_any sA sn sc dA dn dc rA rn rc S D R w hs hd hr hsp hdp hR hsn hdn)
  have HFD := Lib.hid (fun w' (h : Below w.heap.size w w') => find_any dA dn dc D p w' (hd.below h))
  have HSP := Lib.hid (findK_spec p D 0)
  have HDL := Lib.hid hd.enLen
  clear hs hd hr hsp hdp hR hsn
  go_enter Try.func12, Try.ntmps12
  go_wp2_with fail
  refine HLK.out.mono ?_
  rintro e w2 ⟨hlo, hb2⟩
  have B2 := Lib.hid hb2
  have HLO := Lib.hid hlo
  clear hb2 HLK hlo
  cases hck : (checkE S && checkE D) with
  | false =>
    have K := Lib.hid (show X = (0, false) by rw [← HX.out, ← Bool.and_assoc, hck]; rfl)
    have hlo := HLO.out
    unfold Looked at hlo
    rw [hck] at hlo
    obtain rfl : e = .returned (.pointer none) := hlo
    clear HLO hck
    go_wp2_with fail
    go_ret2
    exact ⟨by rw [K.out]; rfl, B2.out⟩
  | true =>
    have hlo := HLO.out
    unfold Looked at hlo
    rw [hck] at hlo
    obtain ⟨g, M, W, K, kb, rfl, hkb, hS⟩ := hlo
    have HS := Lib.hid hS
    have HX := Lib.hid (show (if (findK p D 0).2 = true then ((whyU S D R)[(findK p D 0).1.toNat]?.getD 0, true) else (0, false)) = X by rw [← HX.out, ← Bool.and_assoc, hck]; rfl)
    have HWL := Lib.hid (show (whyU S D R).length = dn by unfold whyU; rw [whyL_len, HDL.out])
    clear HLO hS hck
    generalize whyU S D R = ws at *
    go_wp2_with fail
    refine (HFD.out w2 B2.out).mono ?_
    rintro e w3 ⟨rfl, hb3⟩
    have B3 := Lib.hid (B2.out.trans (hb3.mono B2.out.size))
    have hS3 := HS.out.below hb3
    have g0 := hS3.blk.cell 0
    have g3 := hS3.blk.cell 3
    have hwc := hS3.why.cell
    simp only [List.getElem?_cons_zero, List.getElem?_cons_succ] at g0 g3
    clear hb3 HFD B2 HS hS3
    rcases HSP.out with ⟨m, y, hm, hy, he⟩ | ⟨he, hn⟩
    · have hml : m < dn := by rw [← HDL.out]; exact (List.getElem?_eq_some_iff.1 hm).1
      obtain ⟨wi, hwi⟩ : ∃ wi, ws[m]? = some wi := ⟨_, List.getElem?_eq_getElem (by rw [HWL.out]; exact hml)⟩
      rw [Nat.zero_add] at he
      have K' := Lib.hid (show X = (wi, true) by rw [← HX.out, he]; simp [hwi])
      have hcm := hwc m
      rw [show (ints ws)[m]? = some (.int .i64 wi) by unfold ints; rw [List.getElem?_map, hwi]; rfl] at hcm
      have hm1 : (0 : Int) ≤ (m : Int) := by omega
      have hm2 : (m : Int) < (dn : Int) := by omega
      rw [he]
      clear he hy hm hwi hwc HX HSP
      go_wp2_with fail
      go_ret2
      exact ⟨by rw [K'.out]; rfl, B3.out⟩
    · have K' := Lib.hid (show X = (0, false) by rw [← HX.out, he]; rfl)
      rw [he]
      clear he hn hwc HX HSP
      go_wp2_with fail
      go_ret2
      exact ⟨by rw [K'.out]; rfl, B3.out⟩
end Go.Proofs.Ytcagonpnjionhaa
