import Derived.Test.YtlndiddplfoceaaDoorRw
import Derived.BigQuiet
/-! The document's block: 64 rounds. -/
set_option linter.unusedVariables false
set_option linter.unusedSimpArgs false
namespace Go.Proofs.YtlndiddplfoceaaDoor
open Go.RowKit

/-- The table of factors, laid ahead of the call. -/
def TabK (w : World) : Prop := ∀ i, i < 64 → w.cell? ⟨0, i, none⟩ = some (.int .u32 (kI[i]?.getD 0))
theorem TabK.below {w w1 : World} {B : Nat} (h : TabK w) (hb : Below B w w1) (h0 : 0 < B) : TabK w1 := fun i hi => by
  have := h i hi
  rw [← this]
  unfold World.cell?
  rw [hb.block 0 h0]
theorem rndX_eq (V : S8) (k w : Int) : IntKind.u32.wrap (IntKind.u32.wrap (IntKind.u32.wrap (IntKind.u32.wrap (V.h + bits .xor .u32 (bits .xor .u32 (turnI V.e 6) (turnI V.e 11)) (turnI V.e 25)) + bits .xor .u32 (bits .and .u32 V.e V.f) (bits .and .u32 (bits .xor .u32 IntKind.u32.max V.e) V.g)) + k) + w) = rndX V k w := by
  unfold rndX
  simp only [IntKind.wrap_u32]
  generalize bits .xor .u32 (bits .xor .u32 (turnI V.e 6) (turnI V.e 11)) (turnI V.e 25) = p
  generalize bits .xor .u32 (bits .and .u32 V.e V.f) (bits .and .u32 (bits .xor .u32 IntKind.u32.max V.e) V.g) = q
  omega
theorem rndY_eq (V : S8) : IntKind.u32.wrap (bits .xor .u32 (bits .xor .u32 (turnI V.a 2) (turnI V.a 13)) (turnI V.a 22) + bits .xor .u32 (bits .xor .u32 (bits .and .u32 V.a V.b) (bits .and .u32 V.a V.c)) (bits .and .u32 V.b V.c)) = rndY V := by
  unfold rndY
  rw [IntKind.wrap_u32]
set_option maxRecDepth 100000 in
set_option maxHeartbeats 4000000 in
set_option pp.deepTerms true in
set_option pp.maxSteps 1000000 in
theorem rblock_any (S : Option Addr) (cs gw : Nat) (s0 : S8) (bs : List UInt8) (w : World) (hs : Sl 1 w S 8 (u32s s0.l)) (hw : Blk w gw 38 (u32s (wX bs 48))) (hT : TabK w) :
    Calls Tryd.prog 20 #[.slice S 8 cs, .slice (some ⟨gw, 0, none⟩) 64 64] w fun e w' => (∃ g, e = .returned (.slice (some ⟨g, 0, none⟩) 8 8) ∧ Sl 1 w' (some ⟨g, 0, none⟩) 8 (u32s (addS s0 (rndN bs s0 64)).l)) ∧ Below w.heap.size w w' := by
  obtain ⟨sb, so, rfl, hcell⟩ : ∃ sb so, S = some ⟨sb, so, none⟩ ∧ ∀ j v, (u32s s0.l)[j]? = some v → w.cell? ⟨sb, so + j, none⟩ = some v := by
    rcases hs.at_ with h0 | h
    · have : (u32s s0.l).length = 0 := by rw [h0]; rfl
      rw [u32s_len] at this; simp [S8.l] at this
    · exact h
  have e0 : w.cell? ⟨sb, so + 0, none⟩ = some (.int .u32 s0.a) := hcell 0 _ rfl
  have e1 : w.cell? ⟨sb, so + 1, none⟩ = some (.int .u32 s0.b) := hcell 1 _ rfl
  have e2 : w.cell? ⟨sb, so + 2, none⟩ = some (.int .u32 s0.c) := hcell 2 _ rfl
  have e3 : w.cell? ⟨sb, so + 3, none⟩ = some (.int .u32 s0.d) := hcell 3 _ rfl
  have e4 : w.cell? ⟨sb, so + 4, none⟩ = some (.int .u32 s0.e) := hcell 4 _ rfl
  have e5 : w.cell? ⟨sb, so + 5, none⟩ = some (.int .u32 s0.f) := hcell 5 _ rfl
  have e6 : w.cell? ⟨sb, so + 6, none⟩ = some (.int .u32 s0.g) := hcell 6 _ rfl
  have e7 : w.cell? ⟨sb, so + 7, none⟩ = some (.int .u32 s0.h) := hcell 7 _ rfl
  rw [Nat.add_zero] at e0
  have HE := Lib.hid (And.intro e0 (And.intro e1 (And.intro e2 (And.intro e3 (And.intro e4 (And.intro e5 (And.intro e6 e7)))))))
  have HW := Lib.hid hw
  have HT := Lib.hid hT
  clear hs hcell hw hT
  go_enter Tryd.func20, Tryd.ntmps20
  go_wp2_with fail
  go_quiet (fail)
  have hE1 := HE.out
  have hb1 : Below w.heap.size w (w.drewN nq) := below_drewN (Below.refl _ _) nq
  have hw1 : Blk (w.drewN nq) gw 38 (u32s (wX bs 48)) := HW.out.drewN nq
  have hT1 : TabK (w.drewN nq) := HT.out
  change (w.drewN nq).cell? _ = _ ∧ (w.drewN nq).cell? _ = _ ∧ (w.drewN nq).cell? _ = _ ∧ (w.drewN nq).cell? _ = _ ∧ (w.drewN nq).cell? _ = _ ∧ (w.drewN nq).cell? _ = _ ∧ (w.drewN nq).cell? _ = _ ∧ (w.drewN nq).cell? _ = _ at hE1
  generalize w.drewN nq = w1 at *
  clear e0 e1 e2 e3 e4 e5 e6 e7 HE HW HT
  have HB1 := Lib.hid hb1
  have HE := Lib.hid hE1
  have HW := Lib.hid hw1
  have HT := Lib.hid hT1
  obtain ⟨e0, e1, e2, e3, e4, e5, e6, e7⟩ := hE1
  clear hb1 hw1 hT1
  go_wp2_with fail
  go_quiet (fail)
  have hE1 := HE.out
  have hb1 : Below w.heap.size w (w1.drewN nq) := below_drewN HB1.out nq
  have hw1 : Blk (w1.drewN nq) gw 38 (u32s (wX bs 48)) := HW.out.drewN nq
  have hT1 : TabK (w1.drewN nq) := HT.out
  change (w1.drewN nq).cell? _ = _ ∧ (w1.drewN nq).cell? _ = _ ∧ (w1.drewN nq).cell? _ = _ ∧ (w1.drewN nq).cell? _ = _ ∧ (w1.drewN nq).cell? _ = _ ∧ (w1.drewN nq).cell? _ = _ ∧ (w1.drewN nq).cell? _ = _ ∧ (w1.drewN nq).cell? _ = _ at hE1
  generalize w1.drewN nq = w2 at *
  clear e0 e1 e2 e3 e4 e5 e6 e7 HE HW HT HB1
  have HB2 := Lib.hid hb1
  have HE := Lib.hid hE1
  have HW := Lib.hid hw1
  have HT := Lib.hid hT1
  clear hb1 hw1 hT1 hE1
  go_wp2_with fail
  go_loopw [5, 6, 7, 8, 9, 10, 11, 12, 13] (fun va vb vc vd ve vf vg vh vi wr => ∃ (t m : Nat) (V : S8), vi = .int .i64 t ∧ t ≤ 64 ∧ V = rndN bs s0 t ∧ va = .int .u32 V.a ∧ vb = .int .u32 V.b ∧ vc = .int .u32 V.c ∧ vd = .int .u32 V.d ∧ ve = .int .u32 V.e ∧ vf = .int .u32 V.f ∧ vg = .int .u32 V.g ∧ vh = .int .u32 V.h ∧ wr = w2.drewN m) (fun _ _ _ _ _ _ _ _ vi _ => 64 - (intOf vi).toNat)
  case atStart => exact ⟨0, 0, s0, rfl, by omega, rfl, rfl, rfl, rfl, rfl, rfl, rfl, rfl, rfl, rfl⟩
  case round =>
    obtain ⟨t, m, V, rfl, ht, hV, rfl, rfl, rfl, rfl, rfl, rfl, rfl, rfl, rfl⟩ := hrel
    have HV := Lib.hid hV
    clear hV
    rcases Nat.lt_or_ge t 64 with h | h
    · have ck : (w2.drewN m).cell? ⟨0, t, none⟩ = some (.int .u32 (kI[t]?.getD 0)) := HT.out t h
      have cw : (w2.drewN m).cell? ⟨gw, t, none⟩ = some (.int .u32 ((wX bs 48)[t]?.getD 0)) := by
        have := (HW.out).cell t
        rw [u32s_at (by rw [wX_len]; omega)] at this
        exact this
      have t1 : (t : Int) < 64 := by omega
      have HK := Lib.hid (show rndN bs s0 (t + 1) = rnd V (kI[t]?.getD 0) ((wX bs 48)[t]?.getD 0) by rw [rndN, HV.out])
      generalize kI[t]?.getD 0 = kk at *
      generalize (wX bs 48)[t]?.getD 0 = ww at *
      generalize hw3 : w2.drewN m = w3 at *
      have HW3 := Lib.hid hw3
      clear hw3
      go_wp2_with fail
      refine wp_region_still_tail 28 (by kernel_rfl) (by kernel_rfl) ?_
      simp only [List.take_succ_cons, List.take_zero, List.drop_succ_cons, List.drop_zero]
      repeat (first | still_step | (still_call (rturned_any _ _ _ (by omega) (by omega))))
      refine wpStill_nil ?_
      change wpList _ _ _ _ _ w3.drew
      rw [show (if IntKind.u32.signed = true then (-1 : Int) else IntKind.u32.max) = IntKind.u32.max from rfl, rndX_eq]
      generalize hX : rndX V kk ww = X at *
      have HX := Lib.hid hX
      clear hX ck cw
      go_wp2_with fail
      refine (rturned_any V.a 2 _ (by omega) (by omega)).mono ?_
      rintro e w' ⟨rfl, rfl⟩
      go_wp2_with fail
      refine (rturned_any V.a 13 _ (by omega) (by omega)).mono ?_
      rintro e w' ⟨rfl, rfl⟩
      go_wp2_with fail
      refine (rturned_any V.a 22 _ (by omega) (by omega)).mono ?_
      rintro e w' ⟨rfl, rfl⟩
      go_wp2_with fail
      go_roundw
      case rel =>
        refine ⟨t+1, m+1, rnd V kk ww, by go_num, by omega, HK.out.symm, ?_, rfl, rfl, rfl, ?_, rfl, rfl, rfl, ?_⟩
        · rw [← HX.out]; rfl
        · rw [← HX.out]; rfl
        · rw [← HW3.out]; rfl
      case measure => simp [intOf]; omega
    · obtain rfl : t = 64 := by omega
      have hE := HE.out
      obtain ⟨e0, e1, e2, e3, e4, e5, e6, e7⟩ := hE
      have d0 : (w2.drewN m).cell? ⟨sb, so, none⟩ = some (.int .u32 s0.a) := e0
      have d1 : (w2.drewN m).cell? ⟨sb, so + 1, none⟩ = some (.int .u32 s0.b) := e1
      have d2 : (w2.drewN m).cell? ⟨sb, so + 2, none⟩ = some (.int .u32 s0.c) := e2
      have d3 : (w2.drewN m).cell? ⟨sb, so + 3, none⟩ = some (.int .u32 s0.d) := e3
      have d4 : (w2.drewN m).cell? ⟨sb, so + 4, none⟩ = some (.int .u32 s0.e) := e4
      have d5 : (w2.drewN m).cell? ⟨sb, so + 5, none⟩ = some (.int .u32 s0.f) := e5
      have d6 : (w2.drewN m).cell? ⟨sb, so + 6, none⟩ = some (.int .u32 s0.g) := e6
      have d7 : (w2.drewN m).cell? ⟨sb, so + 7, none⟩ = some (.int .u32 s0.h) := e7
      have HBF := Lib.hid (below_drewN HB2.out m)
      generalize w2.drewN m = w3 at *
      clear e0 e1 e2 e3 e4 e5 e6 e7
      go_wp2_with fail
      refine wp_region_still_tail 40 (by kernel_rfl) (by kernel_rfl) ?_
      simp only [List.take_succ_cons, List.take_zero, List.drop_succ_cons, List.drop_zero]
      repeat still_step
      refine wpStill_nil ?_
      change wpList _ _ _ _ _ w3.drew
      clear d0 d1 d2 d3 d4 d5 d6 d7
      have hsum : #[Value.int .u32 ((s0.a + V.a) % 4294967296), .int .u32 ((s0.b + V.b) % 4294967296), .int .u32 ((s0.c + V.c) % 4294967296), .int .u32 ((s0.d + V.d) % 4294967296), .int .u32 ((s0.e + V.e) % 4294967296), .int .u32 ((s0.f + V.f) % 4294967296), .int .u32 ((s0.g + V.g) % 4294967296), .int .u32 ((s0.h + V.h) % 4294967296)] = (u32s (addS s0 V).l).toArray := by
        rfl
      have HSUM := Lib.hid hsum
      clear hsum
      go_wp2_with fail
      go_ret
      rw [HSUM.out]
      exact ⟨⟨_, rfl, by rw [← HV.out]; exact (Blk.new w3.drew 38 (u32s (addS s0 V).l)).sl (o := 0) rfl rfl (by omega)⟩, (HBF.out.drew).alloc HBF.out.size _⟩
end Go.Proofs.YtlndiddplfoceaaDoor
