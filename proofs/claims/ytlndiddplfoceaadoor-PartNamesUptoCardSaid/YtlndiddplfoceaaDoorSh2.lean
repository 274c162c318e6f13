import Derived.Test.YtlndiddplfoceaaDoorSh1
set_option linter.unusedVariables false
set_option linter.unusedSimpArgs false
namespace Go.Proofs.YtlndiddplfoceaaDoor
open Go.RowKit

def zeroL (n : Nat) : List Int := List.replicate n 0
theorem zero64 : (u32s (zeroL 64)).toArray = #[.int .u32 0, .int .u32 0, .int .u32 0, .int .u32 0, .int .u32 0, .int .u32 0, .int .u32 0, .int .u32 0, .int .u32 0, .int .u32 0, .int .u32 0, .int .u32 0, .int .u32 0, .int .u32 0, .int .u32 0, .int .u32 0, .int .u32 0, .int .u32 0, .int .u32 0, .int .u32 0, .int .u32 0, .int .u32 0, .int .u32 0, .int .u32 0, .int .u32 0, .int .u32 0, .int .u32 0, .int .u32 0, .int .u32 0, .int .u32 0, .int .u32 0, .int .u32 0, .int .u32 0, .int .u32 0, .int .u32 0, .int .u32 0, .int .u32 0, .int .u32 0, .int .u32 0, .int .u32 0, .int .u32 0, .int .u32 0, .int .u32 0, .int .u32 0, .int .u32 0, .int .u32 0, .int .u32 0, .int .u32 0, .int .u32 0, .int .u32 0, .int .u32 0, .int .u32 0, .int .u32 0, .int .u32 0, .int .u32 0, .int .u32 0, .int .u32 0, .int .u32 0, .int .u32 0, .int .u32 0, .int .u32 0, .int .u32 0, .int .u32 0, .int .u32 0] := by kernel_rfl
/-- A word out of bytes, as the walk spells it. -/
def beI (b : List UInt8) (t : Nat) : Nat → Int
  | 0 => 0
  | k+1 => bits .or .u32 (beI b t k * 256 % 4294967296) ((((b[4 * t + k]?.getD 0).toNat : Nat) : Int) % 4294967296)
def w16 (b : List UInt8) (t : Nat) : List Int := (List.range t).map fun i => beI b i 4
theorem w16_len (b : List UInt8) (t : Nat) : (w16 b t).length = t := by simp [w16]
theorem w16_succ (b : List UInt8) (t : Nat) : w16 b (t + 1) = w16 b t ++ [beI b t 4] := by simp [w16, List.range_succ]
theorem w16_zero {b : List UInt8} {t : Nat} (h : t < 16) : w16 b t ++ zeroL (64 - t) = w16 b t ++ beI b t 0 :: zeroL (63 - t) := by
  rw [show 64 - t = (63 - t) + 1 by omega]; rfl
theorem w16_four {b : List UInt8} {t : Nat} (h : t < 16) : w16 b t ++ beI b t 4 :: zeroL (63 - t) = w16 b (t + 1) ++ zeroL (64 - (t + 1)) := by
  rw [w16_succ, List.append_assoc, show 64 - (t + 1) = 63 - t by omega]; rfl
/-- One word more, as the walk spells it. -/
def wNext (y w7 x w16 : Int) : Int :=
  IntKind.u32.wrap (IntKind.u32.wrap (IntKind.u32.wrap (bits .xor .u32 (bits .xor .u32 (turnI y 17) (turnI y 19)) (y / 1024) + w7) + bits .xor .u32 (bits .xor .u32 (turnI x 7) (turnI x 18)) (x / 8)) + w16)
def wX (b : List UInt8) : Nat → List Int
  | 0 => w16 b 16
  | n+1 => wX b n ++ [wNext ((wX b n)[n + 14]?.getD 0) ((wX b n)[n + 9]?.getD 0) ((wX b n)[n + 1]?.getD 0) ((wX b n)[n]?.getD 0)]
theorem wX_len (b : List UInt8) (n : Nat) : (wX b n).length = 16 + n := by
  induction n with
  | zero => simp [wX, w16_len]
  | succ n ih => simp only [wX, List.length_append, ih, List.length_cons, List.length_nil]; omega
theorem wX_at {b : List UInt8} {n j : Nat} (h : j < 16 + n) (l : List Int) : (u32s (wX b n ++ l))[j]? = some (.int .u32 ((wX b n)[j]?.getD 0)) := by
  have hl := wX_len b n
  rw [u32s, List.map_append, List.getElem?_append_left (by rw [List.length_map]; omega), List.getElem?_map, List.getElem?_eq_getElem (show j < (wX b n).length by omega)]; rfl
theorem u32s_mid (a : List Int) (x : Int) (l : List Int) : (u32s (a ++ x :: l))[a.length]? = some (.int .u32 x) := by simp [u32s]
theorem u32s_set (a : List Int) (x y : Int) (l : List Int) : (u32s (a ++ x :: l)).set a.length (.int .u32 y) = u32s (a ++ y :: l) := by
  simp [u32s, List.set_append_right]

theorem wX_next (b : List UInt8) {n : Nat} (h : n < 48) : (u32s (wX b n ++ zeroL (48 - n)))[16 + n]? = some (.int .u32 0) := by
  have e := u32s_mid (wX b n) 0 (zeroL (48 - (n + 1)))
  rw [wX_len] at e
  rw [show 48 - n = (48 - (n + 1)) + 1 by omega, show zeroL (48 - (n + 1) + 1) = 0 :: zeroL (48 - (n + 1)) from rfl, e]
theorem wX_set (b : List UInt8) {n : Nat} (h : n < 48) (y : Int) : (u32s (wX b n ++ zeroL (48 - n))).set (16 + n) (.int .u32 y) = u32s ((wX b n ++ [y]) ++ zeroL (48 - (n + 1))) := by
  have e := u32s_set (wX b n) 0 y (zeroL (48 - (n + 1)))
  rw [wX_len] at e
  rw [show 48 - n = (48 - (n + 1)) + 1 by omega, show zeroL (48 - (n + 1) + 1) = 0 :: zeroL (48 - (n + 1)) from rfl, e, List.append_assoc]; rfl

set_option maxRecDepth 100000 in
set_option maxHeartbeats 1000000 in
theorem words_any (b : List UInt8) (hb : b.length = 64) (w : World) :
    Calls Tryd.prog 30 #[.agg (bys b).toArray] w fun e w' => e = .returned (.agg (u32s (wX b 48)).toArray) ∧ Below w.heap.size w w' := by
  have HBL := Lib.hid hb
  clear hb
  go_enter Tryd.func30, Tryd.ntmps30
  go_wp2_with fail
  rw [← zero64]
  have B0 := ((Blk.new w 48 (bys b)).alloc (.cells (u32s (zeroL 64)).toArray 55)).alloc (.cells (u32s (zeroL 64)).toArray 55)
  have B1 := (Blk.new (w.alloc (.cells (bys b).toArray 48)) 55 (u32s (zeroL 64))).alloc (.cells (u32s (zeroL 64)).toArray 55)
  have B2 := Blk.new ((w.alloc (.cells (bys b).toArray 48)).alloc (.cells (u32s (zeroL 64)).toArray 55)) 55 (u32s (zeroL 64))
  have hbw : Below w.heap.size w (((w.alloc (.cells (bys b).toArray 48)).alloc (.cells (u32s (zeroL 64)).toArray 55)).alloc (.cells (u32s (zeroL 64)).toArray 55)) := (((Below.refl _ _).alloc (Nat.le_refl _) _).alloc (by simp) _).alloc (by simp; omega) _
  simp only [World.size_alloc] at B1 B2
  generalize ((w.alloc (.cells (bys b).toArray 48)).alloc (.cells (u32s (zeroL 64)).toArray 55)).alloc (.cells (u32s (zeroL 64)).toArray 55) = W at *
  have HB0 := Lib.hid B0
  have HB1 := Lib.hid B1
  have HB2 := Lib.hid B2
  have HBW := Lib.hid hbw
  clear B0 B1 B2 hbw
  generalize hH : w.heap.size = H at *
  have HH := Lib.hid hH
  clear hH
  go_loopw [9] (fun a wr => ∃ t : Nat, a = .int .i64 t ∧ t ≤ 16 ∧ Blk wr (H + 1 + 1) 55 (u32s (w16 b t ++ zeroL (64 - t))) ∧ Blk wr (H + 1) 55 (u32s (zeroL 64)) ∧ Blk wr H 48 (bys b) ∧ Below H w wr) (fun a _ => 16 - (intOf a).toNat)
  case atStart => exact ⟨0, rfl, by omega, HB2.out, HB1.out, HB0.out, HBW.out⟩
  case round =>
    obtain ⟨t, rfl, ht, b2, b1, b0, hb⟩ := hrel
    rcases Nat.lt_or_ge t 16 with h | h
    · rw [w16_zero h] at b2
      have C2 := Lib.hid b2
      have C1 := Lib.hid b1
      have C0 := Lib.hid b0
      have CB := Lib.hid hb
      have hd : decide ((t : Int) < 16) = true := decide_eq_true (by omega)
      clear b2 b1 b0 hb
      go_wp2_with fail
      go_loopw [12] (fun a wq => ∃ k : Nat, a = .int .i64 k ∧ k ≤ 4 ∧ Blk wq (H + 1 + 1) 55 (u32s (w16 b t ++ beI b t k :: zeroL (63 - t))) ∧ Blk wq (H + 1) 55 (u32s (zeroL 64)) ∧ Blk wq H 48 (bys b) ∧ Below H w wq) (fun a _ => 4 - (intOf a).toNat)
      case atStart => exact ⟨0, rfl, by omega, C2.out, C1.out, C0.out, CB.out⟩
      case round =>
        obtain ⟨k, rfl, hk, b2, b1, b0, hb⟩ := hrel
        have D2 := Lib.hid b2
        have D1 := Lib.hid b1
        have D0 := Lib.hid b0
        have DB := Lib.hid hb
        clear b2 b1 b0 hb
        rcases Nat.lt_or_ge k 4 with h4 | h4
        · have c2 := D2.out.cell t
          have e := u32s_mid (w16 b t) (beI b t k) (zeroL (63 - t))
          rw [w16_len] at e
          rw [e] at c2
          have c0 := D0.out.cell (4 * t + k)
          rw [bys_get (b := b.getD (4 * t + k) 0) (by rw [List.getD_eq_getElem?_getD, List.getElem?_eq_getElem (by rw [HBL.out]; omega)]; rfl)] at c0
          simp only [bv] at c0
          have f2 := D2.out.frozen t
          have hby : (b.getD (4 * t + k) 0).toNat < 256 := UInt8.toNat_lt _
          clear e
          go_wp2_with fail
          have t1 : (t : Int) < 64 := by omega
          have s1 : IntKind.i64.wrap (4 * (t : Int)) = 4 * (t : Int) := IntWalk.i64_in _ (by omega)
          have s2 : IntKind.i64.wrap (4 * (t : Int) + (k : Int)) = 4 * (t : Int) + (k : Int) := IntWalk.i64_in _ (by omega)
          have s3 : 0 ≤ 4 * (t : Int) + (k : Int) := by omega
          have s4 : 4 * (t : Int) + (k : Int) < 64 := by omega
          have s5 : (4 * (t : Int) + (k : Int)).toNat = 4 * t + k := by omega
          go_still_tail 14, (by kernel_rfl)
          change wpList _ _ _ _ _ wr.drew
          have b2' := D2.out.drew.set t (.int .u32 (beI b t (k + 1)))
          have e2 := u32s_set (w16 b t) (beI b t k) (beI b t (k + 1)) (zeroL (63 - t))
          rw [w16_len] at e2
          rw [e2] at b2'
          have E2 := Lib.hid b2'
          clear e2 b2' t1 s1 s2 s3 s4 s5
          go_wp2_with fail
          go_roundw
          case rel => exact ⟨k+1, by go_num, by omega, E2.out, Blk.other (a := ⟨H + 1 + 1, t, none⟩) D1.out.drew (by simp) _, Blk.other (a := ⟨H + 1 + 1, t, none⟩) D0.out.drew (by simp only; omega) _, Below.setCell (p := ⟨H + 1 + 1, t, none⟩) DB.out.drew (by simp only; omega) _⟩
          case measure => simp [intOf]; omega
        · obtain rfl : k = 4 := by omega
          go_wp2_with fail
          go_roundw
          case rel => exact ⟨t+1, by go_num, by omega, by rw [← w16_four h]; exact D2.out, D1.out, D0.out, DB.out⟩
          case measure => simp [intOf]; omega
    · have e16 : t = 16 := by omega
      rw [e16] at b2
      clear e16
      have hd : decide ((t : Int) < 16) = false := decide_eq_false (by omega)
      have C2 := Lib.hid b2
      have C1 := Lib.hid b1
      have C0 := Lib.hid b0
      have CB := Lib.hid hb
      clear b2 b1 b0 hb
      go_wp2_with fail
      go_loopw [6] (fun a wq => ∃ n : Nat, a = .int .i64 (16 + n) ∧ n ≤ 48 ∧ Blk wq (H + 1 + 1) 55 (u32s (wX b n ++ zeroL (48 - n))) ∧ Blk wq (H + 1) 55 (u32s (zeroL 64)) ∧ Below H w wq) (fun a _ => 64 - (intOf a).toNat)
      case atStart => exact ⟨0, rfl, by omega, C2.out, C1.out, CB.out⟩
      case round =>
        obtain ⟨n, rfl, hn, b2, b1, hb⟩ := hrel
        have D2 := Lib.hid b2
        have D1 := Lib.hid b1
        have DB := Lib.hid hb
        clear b2 b1 hb
        rcases Nat.lt_or_ge n 48 with h4 | h4
        · have c14 := D2.out.cell (n + 14)
          rw [wX_at (by omega)] at c14
          have c1 := D2.out.cell (n + 1)
          rw [wX_at (by omega)] at c1
          have c9 := D2.out.cell (n + 9)
          rw [wX_at (by omega)] at c9
          have c0 := D2.out.cell n
          rw [wX_at (by omega)] at c0
          have f2 := D2.out.frozen (16 + n)
          have c16 := D2.out.cell (16 + n)
          rw [wX_next b h4] at c16
          have s1 : IntKind.i64.wrap (16 + (n : Int) - 2) = 14 + (n : Int) := by rw [IntWalk.i64_in _ (by omega)]; omega
          have s2 : IntKind.i64.wrap (16 + (n : Int) - 15) = 1 + (n : Int) := by rw [IntWalk.i64_in _ (by omega)]; omega
          have u1 : 0 ≤ 14 + (n : Int) := by omega
          have u2 : 14 + (n : Int) < 64 := by omega
          have u3 : (14 + (n : Int)).toNat = n + 14 := by omega
          have u4 : 0 ≤ 1 + (n : Int) := by omega
          have u5 : 1 + (n : Int) < 64 := by omega
          have u6 : (1 + (n : Int)).toNat = n + 1 := by omega
          go_wp2_with fail
          go_quiet (fail)
          clear u1 u2 u3 u4 u5 u6 s1 s2
          have hc2 := D2.out.drewN nq
          have hc1 := D1.out.drewN nq
          have hcb := below_drewN DB.out nq
          have d9 : (wr.drewN nq).cell? ⟨H + 1 + 1, n + 9, none⟩ = _ := c9
          have d0 : (wr.drewN nq).cell? ⟨H + 1 + 1, n, none⟩ = _ := c0
          have g2 : (wr.drewN nq).frozen? ⟨H + 1 + 1, 16 + n, none⟩ = _ := f2
          have d16 : (wr.drewN nq).cell? ⟨H + 1 + 1, 16 + n, none⟩ = _ := c16
          generalize wr.drewN nq = w2 at *
          have D2' := Lib.hid hc2
          have D1' := Lib.hid hc1
          have DB' := Lib.hid hcb
          clear hc2 hc1 hcb c0 c9 c1 c14 c16 f2 D2 D1 DB
          have s1 : IntKind.i64.wrap (16 + (n : Int) - 7) = 9 + (n : Int) := by rw [IntWalk.i64_in _ (by omega)]; omega
          have s2 : IntKind.i64.wrap (16 + (n : Int) - 16) = (n : Int) := by rw [IntWalk.i64_in _ (by omega)]; omega
          have u1 : 0 ≤ 9 + (n : Int) := by omega
          have u2 : 9 + (n : Int) < 64 := by omega
          have u3 : (9 + (n : Int)).toNat = n + 9 := by omega
          have u4 : 0 ≤ 16 + (n : Int) := by omega
          have u5 : 16 + (n : Int) < 64 := by omega
          have u6 : (16 + (n : Int)).toNat = 16 + n := by omega
          have u7 : (n : Int) < 64 := by omega
          have hnx : wX b (n + 1) = wX b n ++ [wNext ((wX b n)[n + 14]?.getD 0) ((wX b n)[n + 9]?.getD 0) ((wX b n)[n + 1]?.getD 0) ((wX b n)[n]?.getD 0)] := rfl
          generalize (wX b n)[n + 14]?.getD 0 = x14 at *
          generalize (wX b n)[n + 1]?.getD 0 = x1 at *
          generalize (wX b n)[n + 9]?.getD 0 = x9 at *
          generalize (wX b n)[n]?.getD 0 = x0 at *
          have HNX := Lib.hid hnx
          clear hnx
          go_wp2_with fail
          refine wp_region_still_tail 29 (by kernel_rfl) (by kernel_rfl) ?_
          simp only [List.take_succ_cons, List.take_zero, List.drop_succ_cons, List.drop_zero]
          repeat (first | still_step | (still_call (turned_st _ _ _ (by omega) (by omega))))
          refine wpStill_nil ?_
          change wpList _ _ _ _ _ w2.drew
          have b2' := D2'.out.drew.set (16 + n) (.int .u32 (wNext x14 x9 x1 x0))
          rw [wX_set b h4, ← HNX.out] at b2'
          have E2 := Lib.hid b2'
          clear b2' s1 s2 u1 u2 u3 u4 u5 u6 u7 d9 d0
          rw [show IntKind.u32.wrap (IntKind.u32.wrap (IntKind.u32.wrap (bits .xor .u32 (bits .xor .u32 (turnI x14 17) (turnI x14 19)) (x14 / 1024) + x9) + bits .xor .u32 (bits .xor .u32 (turnI x1 7) (turnI x1 18)) (x1 / 8)) + x0) = wNext x14 x9 x1 x0 from rfl]
          go_wp2_with fail
          go_roundw
          case rel => exact ⟨n+1, by go_num, by omega, E2.out, Blk.other (a := ⟨H + 1 + 1, 16 + n, none⟩) D1'.out.drew (by simp) _, Below.setCell (p := ⟨H + 1 + 1, 16 + n, none⟩) DB'.out.drew (by simp only; omega) _⟩
          case measure => simp [intOf]; omega
        · have e48 : n = 48 := by omega
          have F2 : Blk wr (H + 1 + 1) 55 (u32s (wX b 48)) := by have := D2.out; rwa [e48, show zeroL (48 - 48) = [] from rfl, List.append_nil] at this
          have F2' := Lib.hid F2
          have hsz : (Tryd.prog.info? 55).map (·.size) = some (u32s (wX b 48)).toArray.size := by
            rw [show (u32s (wX b 48)).toArray.size = 64 by simp [u32s_len, wX_len]]; kernel_rfl
          have HSZ := Lib.hid hsz
          clear e48 hsz
          go_wp2_with (first | (refine wpList_load_row rfl 55 (.tmp 3) rfl (H + 1 + 1) rfl _ _ _ _ F2'.out under64 rfl HSZ.out ?_) | (refine wpList_store_row rfl 55 (.tmp 2) (.tmp 72) rfl (H + 1) _ _ _ rfl rfl D1.out HSZ.out (by simp [u32s_len, wX_len, zeroL]) (by simp [u32s, Value.oneCell']) ?_))
          refine bodyPost_ret (results_cell_row rfl _ _ (H + 1) _ _ _ _ rfl (D1.out.setRow _) under64 rfl HSZ.out) rfl ⟨rfl, ?_⟩
          rw [HH.out]
          exact below_setRow DB.out (by omega) _
end Go.Proofs.YtlndiddplfoceaaDoor
