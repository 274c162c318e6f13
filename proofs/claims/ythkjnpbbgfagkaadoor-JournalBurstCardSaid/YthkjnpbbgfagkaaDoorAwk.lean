import Derived.Test.YthkjnpbbgfagkaaDoorSho
import Derived.StillTailTactics
set_option linter.unusedVariables false
set_option linter.unusedSimpArgs false
namespace Go.Proofs.YthkjnpbbgfagkaaDoor
open Go.RowKit Go.Maps

def awS : ByteArray := str (List.replicate 32 0)
def awL : List Rec := [⟨1, str [97], 0, awS⟩, ⟨2, str [97], 5, str []⟩, ⟨1, str [98], 0, awS⟩, ⟨3, str [98], 0, str []⟩]
theorem aw_open : openL awL = [⟨1, str [97], 5, awS⟩] := by decide +kernel
theorem aw_short : (shoL (openL awL)).length = 2 := by rw [aw_open]; decide +kernel
theorem aw_may : May ⟨2, str [97], 5, str []⟩ := by decide +kernel
theorem aw_all : allR (putRec ⟨2, str [97], 5, str []⟩).length (putRec ⟨2, str [97], 5, str []⟩) = ([⟨2, str [97], 5, str []⟩], (putRec ⟨2, str [97], 5, str []⟩).length) := by
  have h := oneR_put aw_may []
  rw [List.append_nil] at h
  have hl : 0 < (putRec ⟨2, str [97], 5, str []⟩).length := by decide +kernel
  generalize hP : putRec ⟨2, str [97], 5, str []⟩ = P at h hl ⊢
  obtain ⟨f, hf⟩ : ∃ f, P.length = f + 1 := ⟨P.length - 1, by omega⟩
  rw [hf, allR_some (f := f) h (by omega), List.drop_length, allR_none oneR_nil, hf]
  simp

theorem made32 : madeCells (Value.int .u8 0).cells 32 = (bys (List.replicate 32 0)).toArray := by kernel_rfl
theorem made_sl (w : World) : Sl 1 (w.alloc (.cells (bys (List.replicate 32 0)).toArray 5)) (some ⟨w.heap.size, 0, none⟩) 32 (bys (List.replicate 32 0)) :=
  ⟨by simp [bys], by omega, .inr ⟨_, 0, rfl, fun j u hj => by rw [World.cell?_alloc_new]; simpa using hj⟩⟩

theorem aw_sl (w : World) : Sl 4 (w.alloc (.cells (encs awL).toArray 31)) (some ⟨w.heap.size, 0, none⟩) 4 (encs awL) :=
  ⟨by rw [encs_len]; rfl, by omega, .inr ⟨_, 0, rfl, fun j u hj => by rw [World.cell?_alloc_new]; simpa using hj⟩⟩
theorem aw_encs : (encs awL).toArray = #[.int .i64 1, .string ⟨#[97]⟩, .int .i64 0, .string awS, .int .i64 2, .string ⟨#[97]⟩, .int .i64 5, .string ⟨#[]⟩, .int .i64 1, .string ⟨#[98]⟩, .int .i64 0, .string awS, .int .i64 3, .string ⟨#[98]⟩, .int .i64 0, .string ⟨#[]⟩] := rfl

set_option maxRecDepth 100000 in
set_option maxHeartbeats 1000000 in
theorem awake_any (w : World) (ht : Tab w) (h0 : 0 < w.heap.size) :
    Calls Tryd.prog 12 #[] w fun e w' => e = .returned (.bool true) ∧ Below w.heap.size w w' := by
  obtain ⟨j0, ji, jz0, jz1, jz2⟩ := info_parts info5
  go_enter Tryd.func12, Tryd.ntmps12
  have hmk := run_make (P := Tryd.prog) (w := w) 27 5 j0 (.int .u8 0) Tryd.underlying27 ji jz0 .i64 .i64 32 32 (by omega) (by omega) (by rw [jz2]; omega) (by omega)
  rw [jz1, show (32 : Int).toNat * 1 = 32 from rfl, made32, show (32 : Int).toNat = 32 from rfl] at hmk
  have hcv := run_conv_str (P := Tryd.prog) (src := 27) Tryd.underlying27 Tryd.underlying5 (dst := 9) Tryd.underlying9 (c := 32) (made_sl w)
  have hb0 : Below w.heap.size w (w.alloc (.cells (bys (List.replicate 32 0)).toArray 5)) := (Below.refl _ _).alloc (Nat.le_refl _) _
  rw [show str (List.replicate 32 0) = awS from rfl] at hcv
  have hsz0 : (w.alloc (.cells (bys (List.replicate 32 0)).toArray 5)).heap.size = w.heap.size + 1 := World.size_alloc _ _
  generalize w.alloc (.cells (bys (List.replicate 32 0)).toArray 5) = w1 at *
  have hsl := aw_sl w1
  rw [aw_encs, hsz0] at hsl
  have hbA := hb0.alloc hb0.size (.cells #[.int .i64 1, .string ⟨#[97]⟩, .int .i64 0, .string awS, .int .i64 2, .string ⟨#[97]⟩, .int .i64 5, .string ⟨#[]⟩, .int .i64 1, .string ⟨#[98]⟩, .int .i64 0, .string awS, .int .i64 3, .string ⟨#[98]⟩, .int .i64 0, .string ⟨#[]⟩] 31)
  go_wp2_with fail
  refine (Opn_any _ _ _ awL _ hsl (by omega)).mono ?_
  rintro e w2 ⟨v, rfl, hown, hb2⟩
  rw [aw_open] at hown
  generalize w1.alloc (.cells #[.int .i64 1, .string ⟨#[97]⟩, .int .i64 0, .string awS, .int .i64 2, .string ⟨#[97]⟩, .int .i64 5, .string ⟨#[]⟩, .int .i64 1, .string ⟨#[98]⟩, .int .i64 0, .string awS, .int .i64 3, .string ⟨#[98]⟩, .int .i64 0, .string ⟨#[]⟩] 31) = wA at *
  have hs2 := hsl.below hb2
  have hbB := hbA.trans (hb2.mono hbA.size)
  obtain ⟨b', o', k, p, m, s, hA, hr, c0, c1, c2, c3⟩ := hs2.row4 (i := 1) (by omega)
  cases hA
  simp only [awL, List.getElem?_cons_succ, List.getElem?_cons_zero, Option.some.injEq, Rec.mk.injEq] at hr
  obtain ⟨rfl, rfl, rfl, rfl⟩ := hr
  clear hmk hcv
  have hT2 := ht.below h0 hbB
  have h02 : 0 < w2.heap.size := Nat.lt_of_lt_of_le h0 hbB.size
  go_wp2_with fail
  refine (JPut_yes ⟨2, str [97], 5, str []⟩ _ aw_may hT2 h02).mono ?_
  rintro e w3 ⟨v3, rfl, hown3, hb3⟩
  have hbC := hbB.trans (hb3.mono hbB.size)
  have hown' := own_below hown hb3
  have hs3 := hs2.below hb3
  have hT3 := hT2.below h02 hb3
  have h03 : 0 < w3.heap.size := Nat.lt_of_lt_of_le h02 hb3.size
  have hpl : (putRec ⟨2, str [97], 5, str []⟩).length ≤ 1000 := by decide +kernel
  have hal := aw_all
  generalize putRec ⟨2, str [97], 5, str []⟩ = P at hown3 hpl hal
  obtain ⟨A3, k3, rfl, hk3, hs4, _, _⟩ := own_sl hown3
  have HAL := Lib.hid hal
  clear hal hown hown3 c0 c1 c2 c3 hsl hb2 hs2 hbA
  go_wp2_with fail
  refine (All_any _ _ _ _ _ hs4 (by omega) hk3 hT3 h03).mono ?_
  rintro e w4 ⟨v4, rfl, hown4, hb4⟩
  rw [HAL.out] at hown4 ⊢
  have hbD := hbC.trans (hb4.mono hbC.size)
  have hs5 := hs3.below hb4
  have hownO := own_below hown' hb4
  obtain ⟨AO, kO, rfl, hkO, hsO, _, _⟩ := own_sl hownO
  obtain ⟨AM, kM, rfl, hkM, hsM, _, _⟩ := own_sl hown4
  have HS5 := Lib.hid hs5
  have HSO := Lib.hid hsO
  have HSM := Lib.hid hsM
  have HBD := Lib.hid hbD
  clear hs5 hsO hsM hbD hs3 hown' hown4 hownO hb3 hb4 hbC hs4 hT2 hT3
  go_wp2_with fail
  obtain ⟨bM, oM, k, p, m, s, rfl, hr, m0, m1, m2, m3⟩ := HSM.out.row4 (i := 0) (by simp)
  simp only [List.getElem?_cons_zero, Option.some.injEq, Rec.mk.injEq] at hr
  obtain ⟨rfl, rfl, rfl, rfl⟩ := hr
  obtain ⟨bO, oO, k, p, m, s, rfl, hr, q0, q1, q2, q3⟩ := HSO.out.row4 (i := 0) (by simp)
  simp only [List.getElem?_cons_zero, Option.some.injEq, Rec.mk.injEq] at hr
  obtain ⟨rfl, rfl, rfl, rfl⟩ := hr
  obtain ⟨b', o', k, p, m, s, hA, hr, c0, c1, c2, c3⟩ := HS5.out.row4 (i := 1) (by omega)
  cases hA
  simp only [awL, List.getElem?_cons_succ, List.getElem?_cons_zero, Option.some.injEq, Rec.mk.injEq] at hr
  obtain ⟨rfl, rfl, rfl, rfl⟩ := hr
  simp only [List.length_cons, List.length_nil, Nat.zero_add, Nat.zero_mul, Nat.add_zero, Nat.one_mul] at m0 m1 m2 m3 q0 q1 q2 q3 c0 c1 c2 c3 hkO hkM ⊢
  change w4.cell? _ = some (.string ⟨#[97]⟩) at q1
  go_still_tail 36, (by kernel_rfl)
  change wpList _ _ _ _ _ w4.drew
  have hs6 := HS5.out.drew
  have hbE : Below w.heap.size w w4.drew := HBD.out.drew
  clear HS5 HSM HSO HBD m0 m1 m2 m3 q0 q1 q2 q3 c0 c1 c2 c3
  generalize w4.drew = w5 at *
  go_wp2_with fail
  refine (Sho_any _ _ _ awL _ hs6 (by omega)).mono ?_
  rintro e w6 ⟨v6, rfl, hown6, hb6⟩
  rw [aw_short] at hown6
  obtain ⟨A6, k6, rfl, hk6, _, _, _⟩ := own_sl hown6
  have hbF := hbE.trans (hb6.mono hbE.size)
  clear hown6 hs6 hbE hb6
  go_wp2_with fail
  go_ret
  exact ⟨rfl, hbF⟩
end Go.Proofs.YthkjnpbbgfagkaaDoor
