import Derived.Test.YthkjnpbbgfagkaaDoorTxt
import Derived.Lib.ConvBytes
set_option linter.unusedVariables false
set_option linter.unusedSimpArgs false
namespace Go.Proofs.YthkjnpbbgfagkaaDoor
open Go.RowKit
attribute [local go_sem] max2_I min2_I max_two_I min_two_I

def heldI (n lo hi : Int) : Int := if n < lo then lo else if hi < n then hi else n
set_option maxRecDepth 100000 in
set_option maxHeartbeats 400000 in
theorem held_any (n lo hi : Int) (w : World) :
    Calls Tryd.prog 44 #[.int .i64 n, .int .i64 lo, .int .i64 hi] w fun e w' => e = .returned (.int .i64 (heldI n lo hi)) ∧ w = w' := by
  by_cases h1 : n < lo
  · go_enter Tryd.func44, Tryd.ntmps44
    go_wp2
    go_ret
    exact ⟨by rw [heldI, if_pos (by omega)]; rfl, rfl⟩
  · by_cases h2 : hi < n
    · go_enter Tryd.func44, Tryd.ntmps44
      go_wp2
      go_ret
      exact ⟨by rw [heldI, if_neg (by omega), if_pos (by omega)]; rfl, rfl⟩
    · go_enter Tryd.func44, Tryd.ntmps44
      go_wp2
      go_ret
      exact ⟨by rw [heldI, if_neg (by omega), if_neg (by omega)]; rfl, rfl⟩
theorem held_clamp (m : Int) : heldI m 0 4611686018427387903 = (clampN m : Int) := by
  unfold heldI clampN mnI mxI
  (repeat' split) <;> omega

set_option maxRecDepth 100000 in
set_option maxHeartbeats 400000 in
theorem behind_any (A B : Option Addr) (n m c d : Nat) (xs ys : List UInt8) (w : World) (hx : Sl 1 w A n (bys xs)) (hy : Sl 1 w B m (bys ys)) (hn : n ≤ 2199023255552) (hm : m ≤ 2199023255552) :
    Calls Tryd.prog 42 #[.slice A n c, .slice B m d] w fun e w' => ∃ v, e = .returned v ∧ w'.ownsRow w.heap.size 5 1 v (n + m) (bys (xs ++ ys)) ∧ Below w.heap.size w w' := by
  obtain ⟨i0, hi, hz0, hz1, hz2⟩ := info_parts info5
  obtain ⟨v1, w1, hap1, hown1, hgrow1⟩ := run_append_sl (P := Tryd.prog) (w := w) w.heap.size 27 27 5 i0 (.int .u8 0) 1 1 Tryd.underlying27 hi hz0 hz1 hz2 rfl (by decide) (World.ownsRow_nil w w.heap.size 5 1) (c := c) hx (bys_one _) (by omega) (by omega) (Nat.le_refl _)
  have hb1 : Below w.heap.size w w1 := (Below.refl _ _).grown hgrow1 (Nat.le_refl _) (by intro k hk; simp [Value.ownBlock] at hk)
  obtain ⟨v2, w2, hap2, hown2, hgrow2⟩ := run_append_sl (P := Tryd.prog) (w := w1) w.heap.size 27 27 5 i0 (.int .u8 0) 1 1 Tryd.underlying27 hi hz0 hz1 hz2 rfl (by decide) hown1 (c := d) (hy.below hb1) (bys_one _) (by omega) (by omega) hb1.size
  have hb2 := hb1.grown hgrow2 hb1.size (fun k hk => (hown1.lt k hk).1)
  rw [List.nil_append, ← bys_append, Nat.zero_add] at hown2
  have HO := Lib.hid hown2
  have HB := Lib.hid hb2
  clear hown1 hgrow1 hown2 hgrow2 hb1 hb2 hi hz0 hz1 hz2 hx hy
  go_enter Tryd.func42, Tryd.ntmps42
  go_wp2_with (at_builtin; refine halt_in ?_)
  refine Halted.out (wpList_append_run rfl _ _ _ _ rfl rfl rfl hap1 ?_)
  go_wp2_with (at_builtin; refine halt_in ?_)
  refine Halted.out (wpList_append_run rfl _ _ _ _ rfl rfl rfl hap2 ?_)
  clear hap1 hap2
  go_wp2_with fail
  go_ret
  exact ⟨v2, rfl, HO.out, HB.out⟩

set_option maxRecDepth 100000 in
set_option maxHeartbeats 400000 in
theorem groups_any (N : Nat) (w : World) (hN : N ≤ 4611686018427387903) :
    Calls Tryd.prog 43 #[.int .i64 N] w fun e w' => ∃ v, e = .returned v ∧ w'.ownsRow w.heap.size 5 1 v (grp 9 N).length (bys (grp 9 N)) ∧ Below w.heap.size w w' := by
  obtain ⟨i0, hi, hz0, hz1, hz2⟩ := info_parts info5
  go_enter Tryd.func43, Tryd.ntmps43
  go_wp2
  go_loopw [0, 3] (fun a v wr => ∃ q f : Nat, ∃ pre : List UInt8, q ≤ N ∧ a = .int .i64 q ∧ wr.ownsRow w.heap.size 5 1 v pre.length (bys pre) ∧ Below w.heap.size w wr ∧ pre.length + f = 9 ∧ grp 9 N = pre ++ grp f q ∧ q < 128 ^ (f+1)) (fun a _ _ => (intOf a).toNat)
  case atStart => exact ⟨N, 9, [], Nat.le_refl _, rfl, World.ownsRow_nil _ _ _ _, Below.refl _ _, rfl, rfl, by omega⟩
  case round =>
    obtain ⟨q, f, pre, hq, rfl, hown, hb, hpre, heq, hlt⟩ := hrel
    have HE := Lib.hid heq
    have HLT := Lib.hid hlt
    have HPRE := Lib.hid hpre
    have hpl : pre.length ≤ 9 := by omega
    have hsz : w.heap.size ≤ wr.heap.size := hb.size
    clear heq hlt hpre
    by_cases h : 127 < q
    · obtain ⟨f, rfl⟩ : ∃ f', f = f' + 1 := ⟨f - 1, by
        have := HLT.out
        rcases f with _ | f
        · rw [show (128 : Nat) ^ (0 + 1) = 128 from rfl] at this; omega
        · omega⟩
      have hqb : ((128 + (q : Int) % 128)) = ((UInt8.ofNat (q % 128 + 128)).toNat : Int) := by simp; omega
      have HQ := Lib.hid hqb
      clear hqb
      obtain ⟨v3, w3, hap3, hown3, _, hb3⟩ := run_append_one (P := Tryd.prog) (w0 := w) w.heap.size 27 27 5 i0 (.int .u8 0) 1 1 Tryd.underlying27 hi hz0 hz1 hz2 rfl (by decide) hown hb [.int .u8 (128 + (q : Int) % 128)] rfl (one_int _ _) 1 (by omega) (by omega) hsz
      go_wp2_with (at_builtin; refine halt_in ?_)
      refine Halted.out (wpList_append_run rfl _ _ _ _ rfl rfl rfl hap3 ?_)
      clear hap3 hown hb
      rw [HQ.out] at hown3
      have HO3 := Lib.hid hown3
      clear hown3
      go_wp2_with fail
      go_roundw
      case rel => exact ⟨q / 128, f, pre ++ [UInt8.ofNat (q % 128 + 128)], by omega, by go_num, by rw [bys_append, List.length_append]; exact HO3.out, hb3, by have := HPRE.out; simp; omega, by rw [HE.out, grp_more h]; simp, by have := HLT.out; rw [Nat.div_lt_iff_lt_mul (by omega)]; rw [Nat.pow_succ] at this; exact this⟩
      case measure => simp [intOf]; omega
    · have hqb : (q : Int) = ((UInt8.ofNat q).toNat : Int) := by simp; omega
      have HQ := Lib.hid hqb
      clear hqb
      obtain ⟨v3, w3, hap3, hown3, _, hb3⟩ := run_append_one (P := Tryd.prog) (w0 := w) w.heap.size 27 27 5 i0 (.int .u8 0) 1 1 Tryd.underlying27 hi hz0 hz1 hz2 rfl (by decide) hown hb [.int .u8 (q : Int)] rfl (one_int _ _) 1 (by omega) (by omega) hsz
      go_wp2_with (at_builtin; refine halt_in ?_)
      refine Halted.out (wpList_append_run rfl _ _ _ _ rfl rfl rfl hap3 ?_)
      clear hap3 hown hb
      rw [HQ.out] at hown3
      have HO3 := Lib.hid hown3
      have HB3 := Lib.hid hb3
      clear hown3 hb3
      go_wp2_with fail
      go_ret
      refine ⟨v3, rfl, ?_, HB3.out⟩
      rw [HE.out, grp_one (by omega), bys_append, List.length_append]
      exact HO3.out

set_option maxRecDepth 100000 in
set_option maxHeartbeats 400000 in
theorem RPut_any (A : Option Addr) (n c : Nat) (bs : List UInt8) (m : Int) (w : World) (hs : Sl 1 w A n (bys bs)) (hn : n ≤ 1099511627776) :
    Calls Tryd.prog 32 #[.slice A n c, .int .i64 m] w fun e w' => ∃ v, e = .returned v ∧ w'.ownsRow w.heap.size 5 1 v (n + (putN m).length) (bys (bs ++ putN m)) ∧ Below w.heap.size w w' := by
  have hc := Lib.hid (held_clamp m)
  have hp : putN m = grp 9 (clampN m) := rfl
  have HP := Lib.hid hp
  have hle := grp_le 9 (clampN m)
  clear hp
  go_enter Tryd.func32, Tryd.ntmps32
  go_wp2_with fail
  refine (held_any _ _ _ _).mono ?_
  rintro e w' ⟨rfl, rfl⟩
  rw [hc.out]
  go_wp2_with fail
  refine (groups_any _ _ (clamp_le m)).mono ?_
  rintro e w1 ⟨v, rfl, hown, hb⟩
  obtain ⟨A1, c1, rfl, hc1, hs1, hA1, _⟩ := own_sl hown
  have hs' := hs.below hb
  have HB := Lib.hid hb
  clear hown
  go_wp2_with fail
  refine (behind_any _ _ _ _ _ _ _ _ _ hs' hs1 (by omega) (by omega)).mono ?_
  rintro e w2 ⟨v, rfl, hown, hb2⟩
  have HO := Lib.hid hown
  have HB2 := Lib.hid hb2
  clear hown hb2
  go_wp2_with fail
  go_ret
  refine ⟨v, rfl, ?_, HB.out.trans (HB2.out.mono HB.out.size)⟩
  rw [HP.out]
  exact own_base_mono HO.out HB.out.size
end Go.Proofs.YthkjnpbbgfagkaaDoor
