import Derived.Test.YtlndiddplfoceaaDoorRb
/-! The document's filled text. -/
set_option linter.unusedVariables false
set_option linter.unusedSimpArgs false
namespace Go.Proofs.YtlndiddplfoceaaDoor
open Go.RowKit

theorem lenB_raw8 (n i : Nat) : (8 * (n : Int) / 2 ^ (56 - 8 * i) % 256) = ((lenB n i).toNat : Int) := by
  rw [← lenB_raw, Int.mul_comm]
theorem fill_snoc (b : List UInt8) (n m : Nat) (hm : n + 1 ≤ m) : bys (b ++ 128 :: List.replicate (m - n - 1) 0) ++ [Value.int .u8 0] = bys (b ++ 128 :: List.replicate (m + 1 - n - 1) 0) := by
  rw [show m + 1 - n - 1 = (m - n - 1) + 1 by omega, List.replicate_succ']
  simp [bys, bv]
set_option maxRecDepth 100000 in
set_option maxHeartbeats 2000000 in
theorem filled_any (B : Option Addr) (n c : Nat) (b : List UInt8) (w : World) (hs : Sl 1 w B n (bys b)) (hn : n ≤ 1099511627776) :
    Calls Tryd.prog 19 #[.slice B n c] w fun e w' => (∃ A m k, e = .returned (.slice A m k) ∧ m = n + (endB n).length ∧ m ≤ k ∧ Sl 1 w' A m (bys (b ++ endB n))) ∧ Below w.heap.size w w' := by
  obtain ⟨j0, ji, jz0, jz1, jz2⟩ := info_parts infoB
  have hbl : b.length = n := by have := hs.len; simpa [bys] using this
  have hz : padZ n < 64 := by unfold padZ; omega
  have hmk := run_make (P := Tryd.prog) (w := w) 26 5 j0 (.int .u8 0) Tryd.underlying26 ji jz0 .i64 .i64 0 ((n : Int) + 72) (by omega) (by omega) (by rw [jz2]; omega) (by omega)
  rw [show (0 : Int).toNat = 0 from rfl, show ((n : Int) + 72).toNat = n + 72 by omega, jz1] at hmk
  have hown0 := World.ownsRow_made (base := w.heap.size) (e := 5) (size := 1) w (madeCells (Value.int .u8 0).cells ((n + 72) * 1)) (n + 72) (Nat.le_refl _) (by unfold maxLen; omega) (size_madeCells _ _)
  have hb0 : Below w.heap.size w (w.alloc (.cells (madeCells (Value.int .u8 0).cells ((n + 72) * 1)) 5)) := (Below.refl _ _).alloc (Nat.le_refl _) _
  generalize w.alloc (.cells (madeCells (Value.int .u8 0).cells ((n + 72) * 1)) 5) = w1 at *
  obtain ⟨v2, w2, hap2, hown2, hg2⟩ := run_append_sl (P := Tryd.prog) (w := w1) w.heap.size 26 26 5 j0 _ 1 1 Tryd.underlying26 ji jz0 jz1 jz2 rfl (by decide) hown0 (c := c) (hs.below hb0) (bys_one _) (by omega) (by omega) hb0.size
  have hb2 := hb0.grown hg2 hb0.size (fun k hk => (hown0.lt k hk).1)
  simp only [Nat.zero_add, List.nil_append] at hown2
  obtain ⟨v3, w3, hap3, hown3, hg3, hb3⟩ := run_append_one (P := Tryd.prog) (w0 := w) w.heap.size 26 26 5 j0 _ 1 1 Tryd.underlying26 ji jz0 jz1 jz2 rfl (by decide) hown2 hb2 [.int .u8 128] rfl (one_int _ _) 1 (by omega) (by omega) hb2.size
  have e3 : bys b ++ [Value.int .u8 128] = bys (b ++ 128 :: List.replicate (n + 1 - n - 1) 0) := by
    rw [show n + 1 - n - 1 = 0 by omega]; simp [bys, bv]
  rw [e3] at hown3
  obtain ⟨A3, c3, rfl, _, _⟩ := own_shape hown3
  have H3 := Lib.hid hown3
  have B3 := Lib.hid hb3
  have HBL := Lib.hid hbl
  clear hs hown0 hb0 hown2 hg2 hb2 hown3 hg3 hb3 e3 hbl
  go_enter Tryd.func19, Tryd.ntmps19
  go_wp2_with (at_builtin; refine halt_in ?_)
  refine Halted.out (wpList_append_run rfl _ _ _ _ rfl rfl rfl hap2 ?_)
  clear hap2 hmk
  go_wp2_with (at_builtin; refine halt_in ?_)
  refine Halted.out (wpList_append_run rfl _ _ _ _ rfl rfl rfl hap3 ?_)
  clear hap3
  go_wp2_with fail
  go_loopw [3] (fun v wr => ∃ m A c, v = .slice A m c ∧ n + 1 ≤ m ∧ m ≤ n + 1 + padZ n ∧ wr.ownsRow w.heap.size 5 1 (.slice A m c) m (bys (b ++ 128 :: List.replicate (m - n - 1) 0)) ∧ Below w.heap.size w wr) (fun v _ => match v with | .slice _ k _ => n + 65 - k | _ => 0)
  case atStart => exact ⟨n + 1, A3, c3, rfl, by omega, by omega, H3.out, B3.out⟩
  case round =>
    obtain ⟨m, A, c, rfl, hm1, hm2, hown, hb⟩ := hrel
    have HO := Lib.hid hown
    have HB := Lib.hid hb
    have tm : (m : Int).tmod 64 = (m : Int) % 64 := Int.tmod_eq_emod_of_nonneg (by omega)
    rcases Nat.lt_or_ge m (n + 1 + padZ n) with hlt | hge
    · have ht : (m : Int) % 64 ≠ 56 := by unfold padZ at hlt; omega
      have ht2 : ((m : Int) % 64 != 56) = true := by simpa using ht
      obtain ⟨v4, w4, hap, hown4, _, hb4⟩ := run_append_one (P := Tryd.prog) (w0 := w) w.heap.size 26 26 5 j0 _ 1 1 Tryd.underlying26 ji jz0 jz1 jz2 rfl (by decide) hown hb [.int .u8 0] rfl (one_int _ _) 1 (by omega) (by omega) hb.size
      rw [fill_snoc b n m hm1] at hown4
      obtain ⟨A4, c4, rfl, _, _⟩ := own_shape hown4
      have HO4 := Lib.hid hown4
      have HB4 := Lib.hid hb4
      clear hown hb hown4 hb4 ht ji jz0 jz1 jz2
      go_wp2_with (at_builtin; refine halt_in ?_)
      refine Halted.out (wpList_append_run rfl _ _ _ _ rfl rfl rfl hap ?_)
      clear hap
      go_wp2_with fail
      go_roundw
      case rel => exact ⟨m + 1, A4, c4, rfl, by omega, by omega, HO4.out, HB4.out⟩
      case measure => simp only; omega
    · have ez : m = n + 1 + padZ n := by omega
      have ht : (m : Int) % 64 = 56 := by rw [ez]; unfold padZ; omega
      have ht2 : ((m : Int) % 64 != 56) = false := by simpa using ht
      have HEZ := Lib.hid ez
      clear hown hb ez ht
      go_wp2_with fail
      go_loopw [3, 5] (fun v u wr => ∃ i p A c, v = .slice A p c ∧ p = m + i ∧ u = .int .i64 (i : Nat) ∧ i ≤ 8 ∧ wr.ownsRow w.heap.size 5 1 (.slice A p c) p (bys ((b ++ 128 :: List.replicate (m - n - 1) 0) ++ (List.range i).map (lenB n))) ∧ Below w.heap.size w wr) (fun _ u _ => 8 - (intOf u).toNat)
      case atStart => exact ⟨0, m, A, c, rfl, rfl, rfl, by omega, by simpa using HO.out, HB.out⟩
      case round =>
        obtain ⟨i, p, A2, c2, rfl, hp, rfl, hi, hown, hb⟩ := hrel
        have HP := Lib.hid hp
        rcases Nat.lt_or_ge i 8 with hi8 | hi8
        · obtain ⟨v3, w3, hap, hown3, _, hb3⟩ := run_append_one (P := Tryd.prog) (w0 := w) w.heap.size 26 26 5 j0 _ 1 1 Tryd.underlying26 ji jz0 jz1 jz2 rfl (by decide) hown hb [bv (lenB n i)] rfl (bys_one [lenB n i]) 1 (by omega) (by omega) hb.size
          have e : (b ++ 128 :: List.replicate (m - n - 1) 0 : List UInt8) ++ (List.range (i + 1)).map (lenB n) = ((b ++ 128 :: List.replicate (m - n - 1) 0) ++ (List.range i).map (lenB n)) ++ [lenB n i] := by simp [List.range_succ]
          have e2 : bys ((b ++ 128 :: List.replicate (m - n - 1) 0) ++ (List.range i).map (lenB n)) ++ [bv (lenB n i)] = bys ((b ++ 128 :: List.replicate (m - n - 1) 0) ++ (List.range (i + 1)).map (lenB n)) := (bys_append _ [lenB n i]).symm.trans (congrArg bys e.symm)
          rw [e2] at hown3
          obtain ⟨A3, c3, rfl, _, _⟩ := own_shape hown3
          have HO3 := Lib.hid hown3
          have HB3 := Lib.hid hb3
          clear hown hb hown3 hb3 e e2 hp ji jz0 jz1 jz2
          go_wp2_with (at_builtin; refine halt_in ?_)
          trace_state
          rw [lenB_raw8 n i]
          refine Halted.out (wpList_append_run rfl _ _ _ _ rfl rfl rfl hap ?_)
          clear hap
          go_wp2_with fail
          go_roundw
          case rel => exact ⟨i + 1, p + 1, A3, c3, rfl, by have := HP.out; omega, by go_num, by omega, HO3.out, HB3.out⟩
          case measure => simp [intOf]; omega
        · have e8 : i = 8 := by omega
          rw [e8] at hown hp
          have hfin : (b ++ 128 :: List.replicate (m - n - 1) 0 : List UInt8) ++ (List.range 8).map (lenB n) = b ++ endB n := by
            rw [show m - n - 1 = padZ n by have := HEZ.out; omega]; simp [endB]
          rw [hfin] at hown
          have hl8 : p = n + (endB n).length := by rw [hp, HEZ.out]; simp [endB]; omega
          obtain ⟨A9, c9, e9, hc9, hsl9, _, _⟩ := own_sl hown
          cases e9
          have R := Lib.hid (And.intro hsl9 hb)
          have HL8 := Lib.hid hl8
          clear hown hb e8 hl8 hp hsl9 hfin ji jz0 jz1 jz2
          go_wp2_with fail
          go_ret
          exact ⟨⟨_, _, _, rfl, HL8.out, hc9, R.out.1⟩, R.out.2⟩
end Go.Proofs.YtlndiddplfoceaaDoor
