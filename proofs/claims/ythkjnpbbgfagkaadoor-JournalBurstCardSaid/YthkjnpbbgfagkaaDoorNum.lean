import Derived.Test.YthkjnpbbgfagkaaDoorRows
import Derived.Test.YthkjnpbbgfagkaaDoorBase
set_option linter.unusedVariables false
set_option linter.unusedSimpArgs false
namespace Go.Proofs.YthkjnpbbgfagkaaDoor
open Go.RowKit
attribute [local go_sem] max2_I min2_I max_two_I min_two_I

set_option maxRecDepth 100000 in
set_option maxHeartbeats 400000 in
theorem Size_any (m : Int) (w : World) :
    Calls Tryd.prog 41 #[.int .i64 m] w fun e w' => e = .returned (.int .i64 (putN m).length) ∧ w = w' := by
  have hc := clamp_eq m
  have hle := clamp_le m
  have hp : putN m = grp 9 (clampN m) := rfl
  have HP := Lib.hid hp
  clear hp
  generalize clampN m = N at *
  go_enter Tryd.func41, Tryd.ntmps41
  go_wp2
  go_loop [0, 3] (fun a s => ∃ q f j : Nat, q ≤ N ∧ a = .int .i64 q ∧ s = .int .i64 (1 + j) ∧ j + f = 9 ∧ q < 128 ^ (f+1) ∧ (grp 9 N).length = j + (grp f q).length) (fun a _ => (intOf a).toNat)
  case atStart => exact ⟨N, 9, 0, Nat.le_refl _, rfl, rfl, rfl, by omega, by omega⟩
  case round =>
    obtain ⟨q, f, j, hq, rfl, rfl, hj, hlt, hlen⟩ := hrel
    have HL := Lib.hid hlen
    have HLT := Lib.hid hlt
    clear hlen hlt
    by_cases h : 127 < q
    · obtain ⟨f, rfl⟩ : ∃ f', f = f' + 1 := ⟨f - 1, by
        have := HLT.out
        rcases f with _ | f
        · simp at this; omega
        · omega⟩
      go_wp2
      go_round
      case rel => exact ⟨q / 128, f, j + 1, by omega, by go_num, by go_num, by omega, by have := HLT.out; rw [Nat.div_lt_iff_lt_mul (by omega)]; rw [Nat.pow_succ] at this; exact this, by have := HL.out; rw [grp_more h, List.length_cons] at this; omega⟩
      case measure => simp [intOf]; omega
    · go_wp2
      go_ret
      refine ⟨?_, rfl⟩
      have e : ((putN m).length : Int) = 1 + j := by
        rw [HP.out, HL.out, grp_one (by omega)]; simp; omega
      rw [e]; rfl

theorem info5 : (Tryd.prog.info? 5).map (fun i => (i.zero, i.size, i.bytes)) = some (some (.int .u8 0), 1, 1) := by kernel_rfl
def putR (b : List UInt8) (m : Int) : List UInt8 := b ++ putN m
set_option maxRecDepth 100000 in
set_option maxHeartbeats 400000 in
theorem Put_any (A : Option Addr) (n c : Nat) (bs : List UInt8) (m : Int) (w : World) (hs : Sl 1 w A n (bys bs)) (hn : n ≤ 1099511627776) :
    Calls Tryd.prog 28 #[.slice A n c, .int .i64 m] w fun e w' => ∃ v, e = .returned v ∧ w'.ownsRow w.heap.size 5 1 v (n + (putN m).length) (bys (bs ++ putN m)) ∧ Below w.heap.size w w' := by
  have hc := clamp_eq m
  have hle := clamp_le m
  have hp : putN m = grp 9 (clampN m) := rfl
  have HP := Lib.hid hp
  clear hp
  have hp2 : putN (clampN m : Int) = putN m := by
    rw [HP.out]; unfold putN; congr 1; unfold clampN mnI mxI at *; split <;> split <;> omega
  have HP2 := Lib.hid hp2
  clear hp2
  obtain ⟨i0, hi, hz0, hz1, hz2⟩ := info_parts info5
  go_enter Tryd.func28, Tryd.ntmps28
  go_wp2_with fail
  refine (Size_any _ _).mono ?_
  rintro e w' ⟨rfl, rfl⟩
  rw [HP2.out]
  have hL := grp_le 9 (clampN m)
  rw [← HP.out] at hL
  obtain ⟨w1, hmk, hown1, hgrow1⟩ := run_make_own (P := Tryd.prog) (w := w) w.heap.size 27 5 i0 (.int .u8 0) 1 Tryd.underlying27 hi hz0 hz1 .i64 .i64 (n + (putN m).length) (by rw [hz2]; omega) (by unfold maxLen; omega) (Nat.le_refl _)
  have hmk2 : (Instr.makeSlice 27 (.int .i64 0) (.int .i64 (n + (putN m).length))).run Tryd.prog w = _ := hmk
  clear hmk
  have hb1 : Below w.heap.size w w1 := (Below.refl _ _).grown hgrow1 (Nat.le_refl _) (by intro k hk; cases hk)
  have hsz1 : w.heap.size ≤ w1.heap.size := hgrow1.size
  obtain ⟨v2, w2, hap, hown2, hgrow2⟩ := run_append_sl (P := Tryd.prog) (w := w1) w.heap.size 27 27 5 i0 (.int .u8 0) 1 1 Tryd.underlying27 hi hz0 hz1 hz2 rfl (by decide) hown1 (hs.below hb1) (c := c) (bys_one _) (by omega) (by omega) hsz1
  have hb2 : Below w.heap.size w w2 := hb1.grown hgrow2 hsz1 (by intro k hk; exact (hown1.lt k hk).1)
  simp only [Nat.zero_add, List.nil_append] at hown2
  have HO := Lib.hid hown2
  have HB := Lib.hid hb2
  clear hown1 hgrow1 hgrow2 hown2 hb1 hb2
  generalize hlp : (putN m).length = L at *
  have HLP := Lib.hid hlp
  clear hlp
  go_wp2_with (at_builtin; refine halt_in ?_)
  refine Halted.out (wpList_append_run rfl _ _ _ _ rfl rfl rfl hap ?_)
  go_wp2_with fail
  refine (Size_any _ _).mono ?_
  rintro e w' ⟨rfl, rfl⟩
  rw [HP2.out, HLP.out]
  go_wp2_with fail
  have hLb := grp_pos 9 (clampN m)
  rw [← HP.out, HLP.out] at hLb
  have hbl : bs.length = n := by have := hs.len; simpa [bys] using this
  have HBL := Lib.hid hbl
  clear hs hmk2 hap hbl
  go_loopw [1, 5, 20] (fun a v i wr => ∃ q f j : Nat, ∃ pre : List UInt8, q ≤ clampN m ∧ a = .int .i64 q ∧ i = .int .i64 j ∧ j + 1 ≤ L ∧ wr.ownsRow w.heap.size 5 1 v (n + j) (bys pre) ∧ Below w.heap.size w wr ∧ pre.length = n + j ∧ bs ++ putN m = pre ++ grp f q ∧ L = j + (grp f q).length ∧ q < 128 ^ (f+1)) (fun _ _ i _ => L - (intOf i).toNat)
  case atStart => exact ⟨clampN m, 9, 0, bs, Nat.le_refl _, rfl, rfl, by omega, HO.out, HB.out, by rw [HBL.out]; rfl, by rw [HP.out], by rw [← HLP.out, HP.out]; omega, by omega⟩
  case round =>
    obtain ⟨q, f, j, pre, hq, rfl, rfl, hj, hown, hb, hpre, heq, hL2, hlt⟩ := hrel
    have HLT := Lib.hid hlt
    clear hlt
    have HE := Lib.hid heq
    have HL2 := Lib.hid hL2
    have HPRE := Lib.hid hpre
    clear heq hL2 hpre
    have hsz : w.heap.size ≤ wr.heap.size := hb.size
    have hqb : ((bits BinOp.or .i64 (bits BinOp.and .i64 (q : Int) 127) 128 % 256) : Int) = ((UInt8.ofNat (q % 128 + 128)).toNat : Int) := by
      rw [i64_and127, show ((q : Int) % 128) = ((q % 128 : Nat) : Int) by omega, show (128 : Int) = ((128 : Nat) : Int) by rfl, i64_or_n _ _ (by omega) (by omega), or_128 _ (by omega)]
      simp
    have HQ := Lib.hid hqb
    clear hqb
    by_cases h : j < L - 1
    · have hq1 : 127 < q := by
        have := HL2.out
        rcases Nat.lt_or_ge 127 q with h1 | h1
        · exact h1
        · rw [grp_one h1] at this; simp at this; omega
      obtain ⟨f, rfl⟩ : ∃ f', f = f' + 1 := ⟨f - 1, by
        have := HL2.out
        rcases f with _ | f
        · simp [grp] at this; omega
        · omega⟩
      obtain ⟨v3, w3, hap3, hown3, _, hb3⟩ := run_append_one (P := Tryd.prog) (w0 := w) w.heap.size 27 27 5 i0 (.int .u8 0) 1 1 Tryd.underlying27 hi hz0 hz1 hz2 rfl (by decide) hown hb [.int .u8 ((bits BinOp.or .i64 (bits BinOp.and .i64 (q : Int) 127) 128 % 256))] rfl (one_int _ _) 1 (by omega) (by omega) hsz
      go_wp2_with (at_builtin; refine halt_in ?_)
      refine Halted.out (wpList_append_run rfl _ _ _ _ rfl rfl rfl hap3 ?_)
      clear hap3 hown hb
      rw [HQ.out] at hown3
      have HO3 := Lib.hid hown3
      clear hown3
      go_wp2_with fail
      go_roundw
      case rel => exact ⟨q / 128, f, j + 1, pre ++ [UInt8.ofNat (q % 128 + 128)], by omega, by go_num, by go_num, by omega, by rw [bys_append]; exact HO3.out, hb3, by simp [HPRE.out]; omega, by rw [HE.out, grp_more hq1]; simp, by have := HL2.out; rw [grp_more hq1, List.length_cons] at this; omega, by have := HLT.out; rw [Nat.div_lt_iff_lt_mul (by omega)]; rw [Nat.pow_succ] at this; exact this⟩
      case measure => simp [intOf]; omega
    · have hq1 : q ≤ 127 := by
        have := HL2.out
        rcases Nat.lt_or_ge 127 q with h1 | h1
        · rcases f with _ | f
          · have := HLT.out; rw [show (128 : Nat) ^ (0 + 1) = 128 from rfl] at this; omega
          · rw [grp_more h1, List.length_cons] at this; have h2 := grp_pos f (q / 128); omega
        · exact h1
      have hqb : (q : Int) = ((UInt8.ofNat q).toNat : Int) := by simp; omega
      have HQ2 := Lib.hid hqb
      clear hqb
      obtain ⟨v3, w3, hap3, hown3, _, hb3⟩ := run_append_one (P := Tryd.prog) (w0 := w) w.heap.size 27 27 5 i0 (.int .u8 0) 1 1 Tryd.underlying27 hi hz0 hz1 hz2 rfl (by decide) hown hb [.int .u8 (q : Int)] rfl (one_int _ _) 1 (by omega) (by omega) hsz
      go_wp2_with (at_builtin; refine halt_in ?_)
      refine Halted.out (wpList_append_run rfl _ _ _ _ rfl rfl rfl hap3 ?_)
      clear hap3 hown hb
      rw [HQ2.out] at hown3
      have HO3 := Lib.hid hown3
      have HB3 := Lib.hid hb3
      clear hown3 hb3
      go_wp2_with fail
      go_ret
      refine ⟨v3, rfl, ?_, HB3.out⟩
      have e1 : L = j + 1 := by have := HL2.out; rw [grp_one hq1] at this; simpa using this
      rw [HE.out, HLP.out, e1, grp_one hq1, bys_append]
      exact HO3.out
end Go.Proofs.YthkjnpbbgfagkaaDoor
