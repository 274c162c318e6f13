import Derived.Test.YtlndiddplfoceaaDoorSh6
set_option linter.unusedVariables false
set_option linter.unusedSimpArgs false
namespace Go.Proofs.YtlndiddplfoceaaDoor
open Go.RowKit

/-- What stands behind n bytes: a one, zeros, and eight bytes of the number of bits. -/
def padZ (n : Nat) : Nat := (119 - n % 64) % 64
def lenB (n i : Nat) : UInt8 := UInt8.ofNat (n * 8 / 2 ^ (56 - 8 * i))
def endB (n : Nat) : List UInt8 := (128 :: List.replicate (padZ n) 0) ++ (List.range 8).map (lenB n)
theorem lenB_raw (n i : Nat) : ((n : Int) * 8 / 2 ^ (56 - 8 * i) % 256) = ((lenB n i).toNat : Int) := by
  unfold lenB
  rw [UInt8.toNat_ofNat', show ((2 : Int) ^ (56 - 8 * i)) = ((2 ^ (56 - 8 * i) : Nat) : Int) by rw [Int.natCast_pow]; rfl]
  generalize 2 ^ (56 - 8 * i) = z
  rw [show (n : Int) * 8 = ((n * 8 : Nat) : Int) by omega, ← Int.natCast_ediv]
  omega
theorem endB_len (n : Nat) : (endB n).length ≤ 80 := by simp [endB, padZ]; omega

set_option maxRecDepth 100000 in
set_option maxHeartbeats 1000000 in
theorem end_any (n : Nat) (w : World) (hn : n ≤ 1152921504606846976) :
    Calls Tryd.prog 28 #[.int .i64 n] w fun e w' => ∃ v, e = .returned v ∧ w'.ownsRow w.heap.size 5 1 v (endB n).length (bys (endB n)) ∧ Below w.heap.size w w' := by
  obtain ⟨j0, ji, jz0, jz1, jz2⟩ := info_parts infoB
  go_enter Tryd.func28, Tryd.ntmps28
  go_wp2_with fail
  have hown0 : (w.alloc (.cells #[.int .u8 128] 5)).ownsRow w.heap.size 5 1 (.slice (some ⟨w.heap.size, 0, none⟩) 1 1) 1 (bys [128]) :=
    ⟨rfl, .inr ⟨w.heap.size, 1, #[.int .u8 128], rfl, Nat.le_refl _, heap_alloc_new w _, by omega, by unfold maxLen; omega, rfl, rfl⟩⟩
  have hb0 : Below w.heap.size w (w.alloc (.cells #[.int .u8 128] 5)) := (Below.refl _ _).alloc (Nat.le_refl _) _
  have H0 := Lib.hid hown0
  have B0 := Lib.hid hb0
  clear hown0 hb0
  generalize w.alloc (.cells #[.int .u8 128] 5) = w1 at *
  go_loopw [3] (fun v wr => ∃ j A c, v = .slice A (j + 1) c ∧ j ≤ padZ n ∧ wr.ownsRow w.heap.size 5 1 (.slice A (j + 1) c) (j + 1) (bys (128 :: List.replicate j 0)) ∧ Below w.heap.size w wr) (fun v _ => match v with | .slice _ k _ => 65 - k | _ => 0)
  case atStart => exact ⟨0, _, _, rfl, Nat.zero_le _, H0.out, B0.out⟩
  case round =>
    obtain ⟨j, A, c, rfl, hj, hown, hb⟩ := hrel
    have hz : padZ n < 64 := by unfold padZ; omega
    have HO := Lib.hid hown
    have HB := Lib.hid hb
    rcases Nat.lt_or_ge j (padZ n) with hlt | hge
    · have ht : ((n : Int) + ((j : Int) + 1)) % 64 ≠ 56 := by unfold padZ at hlt; omega
      have ht2 : (((n : Int) + ((j : Int) + 1)) % 64 != 56) = true := by simpa using ht
      obtain ⟨v3, w3, hap, hown3, _, hb3⟩ := run_append_one (P := Tryd.prog) (w0 := w) w.heap.size 26 26 5 j0 _ 1 1 Tryd.underlying26 ji jz0 jz1 jz2 rfl (by decide) hown hb [.int .u8 0] rfl (one_int _ _) 1 (by omega) (by omega) hb.size
      have e : bys (128 :: List.replicate j 0) ++ [.int .u8 0] = bys (128 :: List.replicate (j + 1) 0) := by
        rw [List.replicate_succ', show (128 :: (List.replicate j 0 ++ [0]) : List UInt8) = (128 :: List.replicate j 0) ++ [0] from rfl, bys_append]; rfl
      rw [e] at hown3
      obtain ⟨A3, c3, rfl, _, _⟩ := own_shape hown3
      have HO3 := Lib.hid hown3
      have HB3 := Lib.hid hb3
      clear hown hb hown3 hb3 e ht ji jz0 jz1 jz2
      go_wp2_with (at_builtin; refine halt_in ?_)
      refine Halted.out (wpList_append_run rfl _ _ _ _ rfl rfl rfl hap ?_)
      clear hap
      go_wp2_with fail
      go_roundw
      case rel => exact ⟨j + 1, A3, c3, rfl, by omega, HO3.out, HB3.out⟩
      case measure => simp only; omega
    · have ez : j = padZ n := by omega
      have ht : ((n : Int) + ((j : Int) + 1)) % 64 = 56 := by rw [ez]; unfold padZ; omega
      have ht2 : (((n : Int) + ((j : Int) + 1)) % 64 != 56) = false := by simpa using ht
      have HEZ := Lib.hid ez
      clear hown hb ez ht
      go_wp2_with fail
      go_loopw [3, 15] (fun v u wr => ∃ i A c, v = .slice A (j + 1 + i) c ∧ u = .int .i64 (i : Nat) ∧ i ≤ 8 ∧ wr.ownsRow w.heap.size 5 1 (.slice A (j + 1 + i) c) (j + 1 + i) (bys ((128 :: List.replicate j 0) ++ (List.range i).map (lenB n))) ∧ Below w.heap.size w wr) (fun _ u _ => 8 - (intOf u).toNat)
      case atStart => exact ⟨0, A, c, rfl, rfl, by omega, by simpa using HO.out, HB.out⟩
      case round =>
        obtain ⟨i, A2, c2, rfl, rfl, hi, hown, hb⟩ := hrel
        rcases Nat.lt_or_ge i 8 with hi8 | hi8
        · obtain ⟨v3, w3, hap, hown3, _, hb3⟩ := run_append_one (P := Tryd.prog) (w0 := w) w.heap.size 26 26 5 j0 _ 1 1 Tryd.underlying26 ji jz0 jz1 jz2 rfl (by decide) hown hb [bv (lenB n i)] rfl (bys_one [lenB n i]) 1 (by omega) (by omega) hb.size
          clear hown hb
          go_wp2_with (at_builtin; refine halt_in ?_)
          rw [lenB_raw n i]
          refine Halted.out (wpList_append_run rfl _ _ _ _ rfl rfl rfl hap ?_)
          have e : (128 :: List.replicate j 0 : List UInt8) ++ (List.range (i + 1)).map (lenB n) = ((128 :: List.replicate j 0) ++ (List.range i).map (lenB n)) ++ [lenB n i] := by simp [List.range_succ]
          have e2 : bys ((128 :: List.replicate j 0) ++ (List.range i).map (lenB n)) ++ [bv (lenB n i)] = bys ((128 :: List.replicate j 0) ++ (List.range (i + 1)).map (lenB n)) := (bys_append _ [lenB n i]).symm.trans (congrArg bys e.symm)
          rw [e2] at hown3
          obtain ⟨A3, c3, rfl, _, _⟩ := own_shape hown3
          have HO3 := Lib.hid hown3
          have HB3 := Lib.hid hb3
          clear hap hown3 hb3 e e2
          go_wp2_with fail
          go_roundw
          case rel => exact ⟨i + 1, A3, c3, rfl, by go_num, by omega, HO3.out, HB3.out⟩
          case measure => simp [intOf]; omega
        · have e8 : i = 8 := by omega
          rw [e8, HEZ.out] at hown
          have HO8 := Lib.hid hown
          have HB8 := Lib.hid hb
          have hv : Value.slice A2 (j + 1 + i) c2 = .slice A2 (padZ n + 1 + 8) c2 := by rw [e8, HEZ.out]
          have HV := Lib.hid hv
          have hl8 : (endB n).length = padZ n + 1 + 8 := by simp [endB]
          have HL8 := Lib.hid hl8
          clear hown hb e8 hv hl8
          go_wp2_with fail
          go_ret
          exact ⟨_, by rw [HV.out], by rw [HL8.out]; exact HO8.out, HB8.out⟩
end Go.Proofs.YtlndiddplfoceaaDoor
