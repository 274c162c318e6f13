import Derived.Test.YtlndiddplfoceaaDoorRt
/-! The document's words of a block. -/
set_option linter.unusedVariables false
set_option linter.unusedSimpArgs false
namespace Go.Proofs.YtlndiddplfoceaaDoor
open Go.RowKit

theorem infoW : (Tryd.prog.info? 38).map (fun i => (i.zero, i.size, i.bytes)) = some (some (.int .u32 0), 1, 4) := by kernel_rfl
theorem made64 : (madeCells (Value.int .u32 0).cells (64 * 1)).toList = u32s (zeroL 64) := by kernel_rfl
set_option maxRecDepth 100000 in
set_option maxHeartbeats 2000000 in
theorem rwords_any (A : Option Addr) (c : Nat) (b : List UInt8) (hb : b.length = 64) (w : World) (hs : Sl 1 w A 64 (bys b)) (hc : 64 ≤ c) :
    Calls Tryd.prog 21 #[.slice A 64 c] w fun e w' => ∃ g, e = .returned (.slice (some ⟨g, 0, none⟩) 64 64) ∧ Blk w' g 38 (u32s (wX b 48)) ∧ w.heap.size ≤ g ∧ Below w.heap.size w w' := by
  obtain ⟨i0, hi, hz0, hz1, hz2⟩ := info_parts infoW
  have HBL := Lib.hid hb
  obtain ⟨ab, ao, rfl, hcell⟩ : ∃ ab ao, A = some ⟨ab, ao, none⟩ ∧ ∀ j v, (bys b)[j]? = some v → w.cell? ⟨ab, ao + j, none⟩ = some v := by
    rcases hs.at_ with h0 | h
    · have : (bys b).length = 0 := by rw [h0]; rfl
      rw [bys_length] at this; omega
    · exact h
  have HS := Lib.hid hs
  clear hb hs hcell
  have hmk := run_make (P := Tryd.prog) (w := w) 39 38 i0 (.int .u32 0) Tryd.underlying39 hi hz0 .i64 .i64 64 64 (by omega) (by omega) (by rw [hz2]; omega) (by omega)
  rw [show (64 : Int).toNat = 64 from rfl, hz1] at hmk
  have B0 := Blk.newA w 38 (madeCells (Value.int .u32 0).cells (64 * 1))
  rw [made64] at B0
  have hbw : Below w.heap.size w (w.alloc (.cells (madeCells (Value.int .u32 0).cells (64 * 1)) 38)) := (Below.refl _ _).alloc (Nat.le_refl _) _
  generalize w.alloc (.cells (madeCells (Value.int .u32 0).cells (64 * 1)) 38) = w1 at *
  clear hi hz0 hz1 hz2
  generalize hH : w.heap.size = H at *
  have HH := Lib.hid hH
  have HB0 := Lib.hid B0
  have HBW := Lib.hid hbw
  clear hH B0 hbw
  go_enter Tryd.func21, Tryd.ntmps21
  go_wp2_with fail
  clear hmk
  go_loopw [4] (fun a wr => ∃ t : Nat, a = .int .i64 t ∧ t ≤ 16 ∧ Blk wr H 38 (u32s (w16 b t ++ zeroL (64 - t))) ∧ Below H w wr) (fun a _ => 16 - (intOf a).toNat)
  case atStart => exact ⟨0, rfl, by omega, HB0.out, HBW.out⟩
  case round =>
    obtain ⟨t, rfl, ht, b2, hb⟩ := hrel
    rcases Nat.lt_or_ge t 16 with h | h
    · rw [w16_zero h] at b2
      have D2 := Lib.hid b2
      have DB := Lib.hid hb
      have hd : decide ((t : Int) < 16) = true := decide_eq_true (by omega)
      have hslr : Sl 1 wr (some ⟨ab, ao, none⟩) 64 (bys b) := HS.out.below (by rw [HH.out]; exact hb)
      have hcl : ∀ j, j < 64 → wr.cell? ⟨ab, ao + j, none⟩ = some (.int .u8 ((b.getD j 0).toNat : Nat)) := fun j hj => by
        rcases hslr.at_ with h0 | ⟨ab', ao', he, hc⟩
        · have : (bys b).length = 0 := by rw [h0]; rfl
          rw [bys_length, HBL.out] at this; omega
        · cases he
          refine hc j _ ?_
          rw [bys_get (b := b.getD j 0) (by rw [List.getD_eq_getElem?_getD, List.getElem?_eq_getElem (by rw [HBL.out]; omega)]; rfl)]; rfl
      have c0 := hcl (4 * t) (by omega)
      have c1 := hcl (4 * t + 1) (by omega)
      have c2 := hcl (4 * t + 2) (by omega)
      have c3 := hcl (4 * t + 3) (by omega)
      have d2 := D2.out.cell t
      have e := u32s_mid (w16 b t) (beI b t 0) (zeroL (63 - t))
      rw [w16_len] at e
      rw [e] at d2
      have f2 := D2.out.frozen t
      have g0 : (b.getD (4 * t) 0).toNat < 256 := UInt8.toNat_lt _
      have g1 : (b.getD (4 * t + 1) 0).toNat < 256 := UInt8.toNat_lt _
      have g2 : (b.getD (4 * t + 2) 0).toNat < 256 := UInt8.toNat_lt _
      have g3 : (b.getD (4 * t + 3) 0).toNat < 256 := UInt8.toNat_lt _
      clear e b2 hb hslr hcl
      go_wp2_with fail
      have t1 : (t : Int) < 64 := by omega
      have s0 : IntKind.i64.wrap (4 * (t : Int)) = 4 * (t : Int) := IntWalk.i64_in _ (by omega)
      have s1 : IntKind.i64.wrap (4 * (t : Int) + 1) = 4 * (t : Int) + 1 := IntWalk.i64_in _ (by omega)
      have s2 : IntKind.i64.wrap (4 * (t : Int) + 2) = 4 * (t : Int) + 2 := IntWalk.i64_in _ (by omega)
      have s3 : IntKind.i64.wrap (4 * (t : Int) + 3) = 4 * (t : Int) + 3 := IntWalk.i64_in _ (by omega)
      have p0 : 0 ≤ 4 * (t : Int) := by omega
      have p1 : 0 ≤ 4 * (t : Int) + 1 := by omega
      have p2 : 0 ≤ 4 * (t : Int) + 2 := by omega
      have p3 : 0 ≤ 4 * (t : Int) + 3 := by omega
      have q0 : 4 * (t : Int) < 64 := by omega
      have q1 : 4 * (t : Int) + 1 < 64 := by omega
      have q2 : 4 * (t : Int) + 2 < 64 := by omega
      have q3 : 4 * (t : Int) + 3 < 64 := by omega
      have r0 : (4 * (t : Int)).toNat = 4 * t := by omega
      have r1 : (4 * (t : Int) + 1).toNat = 4 * t + 1 := by omega
      have r2 : (4 * (t : Int) + 2).toNat = 4 * t + 2 := by omega
      have r3 : (4 * (t : Int) + 3).toNat = 4 * t + 3 := by omega
      go_still_tail 36, (by kernel_rfl)
      change wpList _ _ _ _ _ wr.drew
      have b2' := D2.out.drew.set t (.int .u32 (beR b t))
      have e2 := u32s_set (w16 b t) (beI b t 0) (beR b t) (zeroL (63 - t))
      rw [w16_len] at e2
      rw [e2, be_eq, w16_four h, ← be_eq] at b2'
      have E2 := Lib.hid b2'
      clear e2 b2' t1 s0 s1 s2 s3 p0 p1 p2 p3 q0 q1 q2 q3 r0 r1 r2 r3
      go_wp2_with fail
      go_roundw
      case rel => exact ⟨t+1, by go_num, by omega, E2.out, Below.setCell (p := ⟨H, t, none⟩) DB.out.drew (by simp) _⟩
      case measure => simp [intOf]; omega
    · have e16 : t = 16 := by omega
      rw [e16] at b2
      clear e16
      have hd : decide ((t : Int) < 16) = false := decide_eq_false (by omega)
      have C2 := Lib.hid b2
      have CB := Lib.hid hb
      clear b2 hb
      go_wp2_with fail
      go_loopw [5] (fun a wq => ∃ n : Nat, a = .int .i64 (16 + n) ∧ n ≤ 48 ∧ Blk wq H 38 (u32s (wX b n ++ zeroL (48 - n))) ∧ Below H w wq) (fun a _ => 64 - (intOf a).toNat)
      case atStart => exact ⟨0, rfl, by omega, C2.out, CB.out⟩
      case round =>
        obtain ⟨n, rfl, hn, b2, hb⟩ := hrel
        have D2 := Lib.hid b2
        have DB := Lib.hid hb
        clear b2 hb
        rcases Nat.lt_or_ge n 48 with h4 | h4
        · have c14 := D2.out.cell (n + 14)
          rw [wX_at (by omega)] at c14
          have c1 := D2.out.cell (n + 1)
          rw [wX_at (by omega)] at c1
          have c9 := D2.out.cell (n + 9)
          rw [wX_at (by omega)] at c9
          have c0 := D2.out.cell n
          rw [wX_at (by omega)] at c0
          have f2 := D2.out.frozen (16 + n)
          have c16 := D2.out.cell (16 + n)
          rw [wX_next b h4] at c16
          have s1 : IntKind.i64.wrap (16 + (n : Int) - 2) = 14 + (n : Int) := by rw [IntWalk.i64_in _ (by omega)]; omega
          have s2 : IntKind.i64.wrap (16 + (n : Int) - 15) = 1 + (n : Int) := by rw [IntWalk.i64_in _ (by omega)]; omega
          have u1 : 0 ≤ 14 + (n : Int) := by omega
          have u2 : 14 + (n : Int) < 64 := by omega
          have u3 : (14 + (n : Int)).toNat = n + 14 := by omega
          have u4 : 0 ≤ 1 + (n : Int) := by omega
          have u5 : 1 + (n : Int) < 64 := by omega
          have u6 : (1 + (n : Int)).toNat = n + 1 := by omega
          go_wp2_with fail
          go_quiet (fail)
          clear u1 u2 u3 u4 u5 u6 s1 s2
          have hc2 := D2.out.drewN nq
          have hcb := below_drewN DB.out nq
          have d9 : (wr.drewN nq).cell? ⟨H, n + 9, none⟩ = _ := c9
          have d0 : (wr.drewN nq).cell? ⟨H, n, none⟩ = _ := c0
          have g2 : (wr.drewN nq).frozen? ⟨H, 16 + n, none⟩ = _ := f2
          have d16 : (wr.drewN nq).cell? ⟨H, 16 + n, none⟩ = _ := c16
          generalize wr.drewN nq = w2 at *
          have D2' := Lib.hid hc2
          have DB' := Lib.hid hcb
          clear hc2 hcb c0 c9 c1 c14 c16 f2 D2 DB
          have s1 : IntKind.i64.wrap (16 + (n : Int) - 7) = 9 + (n : Int) := by rw [IntWalk.i64_in _ (by omega)]; omega
          have s2 : IntKind.i64.wrap (16 + (n : Int) - 16) = (n : Int) := by rw [IntWalk.i64_in _ (by omega)]; omega
          have u1 : 0 ≤ 9 + (n : Int) := by omega
          have u2 : 9 + (n : Int) < 64 := by omega
          have u3 : (9 + (n : Int)).toNat = n + 9 := by omega
          have u4 : 0 ≤ 16 + (n : Int) := by omega
          have u5 : 16 + (n : Int) < 64 := by omega
          have u6 : (16 + (n : Int)).toNat = 16 + n := by omega
          have u7 : (n : Int) < 64 := by omega
          have hnx : wX b (n + 1) = wX b n ++ [wNext ((wX b n)[n + 14]?.getD 0) ((wX b n)[n + 9]?.getD 0) ((wX b n)[n + 1]?.getD 0) ((wX b n)[n]?.getD 0)] := rfl
          generalize (wX b n)[n + 14]?.getD 0 = x14 at *
          generalize (wX b n)[n + 1]?.getD 0 = x1 at *
          generalize (wX b n)[n + 9]?.getD 0 = x9 at *
          generalize (wX b n)[n]?.getD 0 = x0 at *
          have HNX := Lib.hid hnx
          clear hnx
          go_wp2_with fail
          refine wp_region_still_tail 32 (by kernel_rfl) (by kernel_rfl) ?_
          simp only [List.take_succ_cons, List.take_zero, List.drop_succ_cons, List.drop_zero]
          repeat (first | still_step | (still_call (rturned_any _ _ _ (by omega) (by omega))))
          refine wpStill_nil ?_
          change wpList _ _ _ _ _ w2.drew
          have b2' := D2'.out.drew.set (16 + n) (.int .u32 (wNext x14 x9 x1 x0))
          rw [wX_set b h4, ← HNX.out] at b2'
          have E2 := Lib.hid b2'
          clear b2' s1 s2 u1 u2 u3 u4 u5 u6 u7 d9 d0
          rw [show IntKind.u32.wrap (IntKind.u32.wrap (IntKind.u32.wrap (bits .xor .u32 (bits .xor .u32 (turnI x14 17) (turnI x14 19)) (x14 / 1024) + x9) + bits .xor .u32 (bits .xor .u32 (turnI x1 7) (turnI x1 18)) (x1 / 8)) + x0) = wNext x14 x9 x1 x0 from rfl]
          go_wp2_with fail
          go_roundw
          case rel => exact ⟨n+1, by go_num, by omega, E2.out, Below.setCell (p := ⟨H, 16 + n, none⟩) DB'.out.drew (by simp) _⟩
          case measure => simp [intOf]; omega
        · have e48 : n = 48 := by omega
          have F2 : Blk wr H 38 (u32s (wX b 48)) := by have := D2.out; rwa [e48, show zeroL (48 - 48) = [] from rfl, List.append_nil] at this
          have F2' := Lib.hid F2
          clear e48 F2
          go_wp2_with fail
          go_ret
          exact ⟨H, rfl, F2'.out, Nat.le_refl _, DB.out⟩
end Go.Proofs.YtlndiddplfoceaaDoor
