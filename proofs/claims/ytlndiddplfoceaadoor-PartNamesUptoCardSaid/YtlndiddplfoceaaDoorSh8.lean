import Derived.Test.YtlndiddplfoceaaDoorSh7
set_option linter.unusedVariables false
set_option linter.unusedSimpArgs false
namespace Go.Proofs.YtlndiddplfoceaaDoor
open Go.RowKit

/-- A word's bytes, the greatest first. -/
def wbB (x : Int) (k : Nat) : UInt8 := UInt8.ofNat (x / 2 ^ (24 - 8 * k) % 256).toNat
def digB (l : List Int) : List UInt8 := l.flatMap fun x => (List.range 4).map (wbB x)
theorem bys_mid (a : List UInt8) (x : UInt8) (l : List UInt8) : (bys (a ++ x :: l))[a.length]? = some (bv x) := by simp [bys]
theorem bys_setmid (a : List UInt8) (x y : UInt8) (l : List UInt8) : (bys (a ++ x :: l)).set a.length (bv y) = bys (a ++ y :: l) := by
  simp [bys, List.set_append_right]
theorem wb_raw (x : Int) (k : Nat) (hk : k < 4) : (x / 2 ^ (24 - 8 * k) % 256) = ((wbB x k).toNat : Int) := by
  unfold wbB
  generalize x / 2 ^ (24 - 8 * k) = z
  rw [UInt8.toNat_ofNat']
  omega
theorem digB_len (l : List Int) : (digB l).length = 4 * l.length := by
  induction l with
  | nil => rfl
  | cons x l ih => simp only [digB, List.flatMap_cons, List.length_append, List.length_map, List.length_range, List.length_cons] at ih ⊢; omega
/-- The sum of what a state has. -/
def sumX (x : Shs) (n : Nat) : List UInt8 := digB (absorb (endB n).length x (endB n)).s.l

set_option maxRecDepth 100000 in
set_option maxHeartbeats 4000000 in
theorem msum_any (g : Nat) (x : Shs) (n : Nat) (w : World) (hx : ShOk x) (hs : StX w g x n) (hn : n ≤ 1152921504606846976) :
    Calls Tryd.prog 18 #[.pointer (some ⟨g, 0, none⟩)] w fun e w' => e = .returned (.string (str (sumX x n))) ∧ Below w.heap.size w w' := by
  have HX := Lib.hid hx
  have HS := Lib.hid hs
  clear hx hs
  go_enter Tryd.func18, Tryd.ntmps18
  go_wp2_with fail
  refine (copy_any g x.s x.bs x.hv n w HX.out.1 HS.out).mono ?_
  rintro e w1 ⟨g1, rfl, hs1, hg1, hb1⟩
  have hs0 : StX w1 g x n := Blk.below HS.out hb1
  have c73 := Blk.cell hs0 73
  rw [stC_at73 rfl HX.out.1] at c73
  have H1 := Lib.hid hs1
  have B1 := Lib.hid hb1
  clear hs1 hb1 hs0
  go_wp2_with fail
  refine (end_any n w1 hn).mono ?_
  rintro e w2 ⟨v2, rfl, hown2, hb2⟩
  obtain ⟨A2, k2, rfl, hk2, hsl2, hob2, _⟩ := own_sl hown2
  have hst2 : StX w2 g1 x n := Blk.below H1.out hb2
  have hlt1 : g1 < w1.heap.size := Blk.lt H1.out
  have hel := endB_len n
  have B2 := Lib.hid (B1.out.trans (hb2.mono B1.out.size))
  clear hb2 hown2 c73
  go_wp2_with fail
  refine (write_any g1 x n A2 (endB n).length k2 (endB n) w2 HX.out hst2 hsl2 hk2 (fun a ha => by have := (hob2 a ha).1; omega) (by omega) (by omega)).mono ?_
  rintro e w3 ⟨rfl, hst3, hg3⟩
  have hsm : sumX x n = digB (absorb (endB n).length x (endB n)).s.l := rfl
  generalize absorb (endB n).length x (endB n) = y at *
  have B3 := Lib.hid (B2.out.grown hg3 B2.out.size (fun k hk => by cases hk; exact hg1))
  have H3 := Lib.hid hst3
  have HSM := Lib.hid hsm
  obtain ⟨⟨a, b, c, d, e, f, gg, hh⟩, bs, hv⟩ := y
  have hst4 := Blk.alloc hst3 (.cells #[.int .u8 0, .int .u8 0, .int .u8 0, .int .u8 0, .int .u8 0, .int .u8 0, .int .u8 0, .int .u8 0, .int .u8 0, .int .u8 0, .int .u8 0, .int .u8 0, .int .u8 0, .int .u8 0, .int .u8 0, .int .u8 0, .int .u8 0, .int .u8 0, .int .u8 0, .int .u8 0, .int .u8 0, .int .u8 0, .int .u8 0, .int .u8 0, .int .u8 0, .int .u8 0, .int .u8 0, .int .u8 0, .int .u8 0, .int .u8 0, .int .u8 0, .int .u8 0] 52)
  have hnew := Blk.newA w3 52 #[.int .u8 0, .int .u8 0, .int .u8 0, .int .u8 0, .int .u8 0, .int .u8 0, .int .u8 0, .int .u8 0, .int .u8 0, .int .u8 0, .int .u8 0, .int .u8 0, .int .u8 0, .int .u8 0, .int .u8 0, .int .u8 0, .int .u8 0, .int .u8 0, .int .u8 0, .int .u8 0, .int .u8 0, .int .u8 0, .int .u8 0, .int .u8 0, .int .u8 0, .int .u8 0, .int .u8 0, .int .u8 0, .int .u8 0, .int .u8 0, .int .u8 0, .int .u8 0]
  have hbn := B3.out.alloc B3.out.size (.cells #[.int .u8 0, .int .u8 0, .int .u8 0, .int .u8 0, .int .u8 0, .int .u8 0, .int .u8 0, .int .u8 0, .int .u8 0, .int .u8 0, .int .u8 0, .int .u8 0, .int .u8 0, .int .u8 0, .int .u8 0, .int .u8 0, .int .u8 0, .int .u8 0, .int .u8 0, .int .u8 0, .int .u8 0, .int .u8 0, .int .u8 0, .int .u8 0, .int .u8 0, .int .u8 0, .int .u8 0, .int .u8 0, .int .u8 0, .int .u8 0, .int .u8 0, .int .u8 0] 52)
  have y0 : (w3.alloc (.cells #[.int .u8 0, .int .u8 0, .int .u8 0, .int .u8 0, .int .u8 0, .int .u8 0, .int .u8 0, .int .u8 0, .int .u8 0, .int .u8 0, .int .u8 0, .int .u8 0, .int .u8 0, .int .u8 0, .int .u8 0, .int .u8 0, .int .u8 0, .int .u8 0, .int .u8 0, .int .u8 0, .int .u8 0, .int .u8 0, .int .u8 0, .int .u8 0, .int .u8 0, .int .u8 0, .int .u8 0, .int .u8 0, .int .u8 0, .int .u8 0, .int .u8 0, .int .u8 0] 52)).cell? ⟨g1, 0, none⟩ = some (.int .u32 a) := Blk.cell hst4 0
  have y1 : (w3.alloc (.cells #[.int .u8 0, .int .u8 0, .int .u8 0, .int .u8 0, .int .u8 0, .int .u8 0, .int .u8 0, .int .u8 0, .int .u8 0, .int .u8 0, .int .u8 0, .int .u8 0, .int .u8 0, .int .u8 0, .int .u8 0, .int .u8 0, .int .u8 0, .int .u8 0, .int .u8 0, .int .u8 0, .int .u8 0, .int .u8 0, .int .u8 0, .int .u8 0, .int .u8 0, .int .u8 0, .int .u8 0, .int .u8 0, .int .u8 0, .int .u8 0, .int .u8 0, .int .u8 0] 52)).cell? ⟨g1, 1, none⟩ = some (.int .u32 b) := Blk.cell hst4 1
  have y2 : (w3.alloc (.cells #[.int .u8 0, .int .u8 0, .int .u8 0, .int .u8 0, .int .u8 0, .int .u8 0, .int .u8 0, .int .u8 0, .int .u8 0, .int .u8 0, .int .u8 0, .int .u8 0, .int .u8 0, .int .u8 0, .int .u8 0, .int .u8 0, .int .u8 0, .int .u8 0, .int .u8 0, .int .u8 0, .int .u8 0, .int .u8 0, .int .u8 0, .int .u8 0, .int .u8 0, .int .u8 0, .int .u8 0, .int .u8 0, .int .u8 0, .int .u8 0, .int .u8 0, .int .u8 0] 52)).cell? ⟨g1, 2, none⟩ = some (.int .u32 c) := Blk.cell hst4 2
  have y3 : (w3.alloc (.cells #[.int .u8 0, .int .u8 0, .int .u8 0, .int .u8 0, .int .u8 0, .int .u8 0, .int .u8 0, .int .u8 0, .int .u8 0, .int .u8 0, .int .u8 0, .int .u8 0, .int .u8 0, .int .u8 0, .int .u8 0, .int .u8 0, .int .u8 0, .int .u8 0, .int .u8 0, .int .u8 0, .int .u8 0, .int .u8 0, .int .u8 0, .int .u8 0, .int .u8 0, .int .u8 0, .int .u8 0, .int .u8 0, .int .u8 0, .int .u8 0, .int .u8 0, .int .u8 0] 52)).cell? ⟨g1, 3, none⟩ = some (.int .u32 d) := Blk.cell hst4 3
  have y4 : (w3.alloc (.cells #[.int .u8 0, .int .u8 0, .int .u8 0, .int .u8 0, .int .u8 0, .int .u8 0, .int .u8 0, .int .u8 0, .int .u8 0, .int .u8 0, .int .u8 0, .int .u8 0, .int .u8 0, .int .u8 0, .int .u8 0, .int .u8 0, .int .u8 0, .int .u8 0, .int .u8 0, .int .u8 0, .int .u8 0, .int .u8 0, .int .u8 0, .int .u8 0, .int .u8 0, .int .u8 0, .int .u8 0, .int .u8 0, .int .u8 0, .int .u8 0, .int .u8 0, .int .u8 0] 52)).cell? ⟨g1, 4, none⟩ = some (.int .u32 e) := Blk.cell hst4 4
  have y5 : (w3.alloc (.cells #[.int .u8 0, .int .u8 0, .int .u8 0, .int .u8 0, .int .u8 0, .int .u8 0, .int .u8 0, .int .u8 0, .int .u8 0, .int .u8 0, .int .u8 0, .int .u8 0, .int .u8 0, .int .u8 0, .int .u8 0, .int .u8 0, .int .u8 0, .int .u8 0, .int .u8 0, .int .u8 0, .int .u8 0, .int .u8 0, .int .u8 0, .int .u8 0, .int .u8 0, .int .u8 0, .int .u8 0, .int .u8 0, .int .u8 0, .int .u8 0, .int .u8 0, .int .u8 0] 52)).cell? ⟨g1, 5, none⟩ = some (.int .u32 f) := Blk.cell hst4 5
  have y6 : (w3.alloc (.cells #[.int .u8 0, .int .u8 0, .int .u8 0, .int .u8 0, .int .u8 0, .int .u8 0, .int .u8 0, .int .u8 0, .int .u8 0, .int .u8 0, .int .u8 0, .int .u8 0, .int .u8 0, .int .u8 0, .int .u8 0, .int .u8 0, .int .u8 0, .int .u8 0, .int .u8 0, .int .u8 0, .int .u8 0, .int .u8 0, .int .u8 0, .int .u8 0, .int .u8 0, .int .u8 0, .int .u8 0, .int .u8 0, .int .u8 0, .int .u8 0, .int .u8 0, .int .u8 0] 52)).cell? ⟨g1, 6, none⟩ = some (.int .u32 gg) := Blk.cell hst4 6
  have y7 : (w3.alloc (.cells #[.int .u8 0, .int .u8 0, .int .u8 0, .int .u8 0, .int .u8 0, .int .u8 0, .int .u8 0, .int .u8 0, .int .u8 0, .int .u8 0, .int .u8 0, .int .u8 0, .int .u8 0, .int .u8 0, .int .u8 0, .int .u8 0, .int .u8 0, .int .u8 0, .int .u8 0, .int .u8 0, .int .u8 0, .int .u8 0, .int .u8 0, .int .u8 0, .int .u8 0, .int .u8 0, .int .u8 0, .int .u8 0, .int .u8 0, .int .u8 0, .int .u8 0, .int .u8 0] 52)).cell? ⟨g1, 7, none⟩ = some (.int .u32 hh) := Blk.cell hst4 7
  have HNW := Lib.hid hnew
  have HBN := Lib.hid hbn
  clear hst2 hst3 hst4 hg3 hsl2 hob2 hsm H1 hnew hbn
  go_wp2_with fail
  generalize hob : w3.heap.size = ob at *
  generalize w3.alloc (.cells #[.int .u8 0, .int .u8 0, .int .u8 0, .int .u8 0, .int .u8 0, .int .u8 0, .int .u8 0, .int .u8 0, .int .u8 0, .int .u8 0, .int .u8 0, .int .u8 0, .int .u8 0, .int .u8 0, .int .u8 0, .int .u8 0, .int .u8 0, .int .u8 0, .int .u8 0, .int .u8 0, .int .u8 0, .int .u8 0, .int .u8 0, .int .u8 0, .int .u8 0, .int .u8 0, .int .u8 0, .int .u8 0, .int .u8 0, .int .u8 0, .int .u8 0, .int .u8 0] 52) = w4 at *
  clear y0 y1 y2 y3 y4 y5 y6 y7
  have HOB : Hid (w.heap.size ≤ ob) := Lib.hid (by rw [← hob]; exact B3.out.size)
  clear hob
  have HL : Hid (sumX x n = digB [a, b, c, d, e, f, gg, hh]) := HSM
  go_loopw [23] (fun u wr => ∃ j : Nat, u = .int .i64 j ∧ j ≤ 8 ∧ Blk wr ob 52 (bys (digB ([a, b, c, d, e, f, gg, hh].take j) ++ List.replicate (32 - 4 * j) 0)) ∧ Below w.heap.size w wr) (fun u _ => 8 - (intOf u).toNat)
  case atStart => exact ⟨0, rfl, by omega, HNW.out, HBN.out⟩
  case round =>
    obtain ⟨j, rfl, hj, hblk, hbel⟩ := hrel
    have BK := Lib.hid hblk
    have BE := Lib.hid hbel
    clear hblk hbel
    rcases Nat.lt_or_ge j 8 with hlt | hge
    · obtain ⟨xj, hxj, hix⟩ : ∃ xj, [a, b, c, d, e, f, gg, hh][j]? = some xj ∧ ∀ w, (Instr.index 46 (.agg #[.int .u32 a, .int .u32 b, .int .u32 c, .int .u32 d, .int .u32 e, .int .u32 f, .int .u32 gg, .int .u32 hh]) (.int .i64 (j : Nat))).run Tryd.prog w = .ok (.int .u32 xj) w := by
        have hcs : j = 0 ∨ j = 1 ∨ j = 2 ∨ j = 3 ∨ j = 4 ∨ j = 5 ∨ j = 6 ∨ j = 7 := by omega
        rcases hcs with rfl | rfl | rfl | rfl | rfl | rfl | rfl | rfl
        · exact ⟨a, rfl, fun _ => by kernel_rfl⟩
        · exact ⟨b, rfl, fun _ => by kernel_rfl⟩
        · exact ⟨c, rfl, fun _ => by kernel_rfl⟩
        · exact ⟨d, rfl, fun _ => by kernel_rfl⟩
        · exact ⟨e, rfl, fun _ => by kernel_rfl⟩
        · exact ⟨f, rfl, fun _ => by kernel_rfl⟩
        · exact ⟨gg, rfl, fun _ => by kernel_rfl⟩
        · exact ⟨hh, rfl, fun _ => by kernel_rfl⟩
      have htk : [a, b, c, d, e, f, gg, hh].take (j + 1) = [a, b, c, d, e, f, gg, hh].take j ++ [xj] := by rw [List.take_add_one, hxj]; rfl
      have HTK := Lib.hid htk
      have HPL : Hid ((digB ([a, b, c, d, e, f, gg, hh].take j)).length = 4 * j) := Lib.hid (by rw [digB_len, List.length_take]; simp; omega)
      have hd : decide ((j : Int) < 8) = true := decide_eq_true (by omega)
      generalize hP : digB ([a, b, c, d, e, f, gg, hh].take j) = P at *
      have HP := Lib.hid hP
      clear hxj htk hP
      go_wp2_with fail
      go_loopw [27] (fun u wq => ∃ k : Nat, u = .int .i64 k ∧ k ≤ 4 ∧ Blk wq ob 52 (bys (P ++ (List.range k).map (wbB xj) ++ List.replicate (32 - 4 * j - k) 0)) ∧ Below w.heap.size w wq) (fun u _ => 4 - (intOf u).toNat)
      case atStart => exact ⟨0, rfl, by omega, by simpa using BK.out, BE.out⟩
      case round =>
        obtain ⟨k, rfl, hk, hblk, hbel⟩ := hrel
        rcases Nat.lt_or_ge k 4 with hk4 | hk4
        · have hpl : (P ++ (List.range k).map (wbB xj)).length = 4 * j + k := by rw [List.length_append, HPL.out, List.length_map, List.length_range]
          have hre : List.replicate (32 - 4 * j - k) (0 : UInt8) = 0 :: List.replicate (32 - 4 * j - (k + 1)) 0 := by
            rw [show 32 - 4 * j - k = (32 - 4 * j - (k + 1)) + 1 by omega]; rfl
          rw [hre] at hblk
          have hset := Blk.set hblk (4 * j + k) (bv (wbB xj k))
          have cjk := Blk.cell hblk (4 * j + k)
          have fjk := Blk.frozen hblk (4 * j + k)
          have e1 := bys_mid (P ++ (List.range k).map (wbB xj)) 0 (List.replicate (32 - 4 * j - (k + 1)) 0)
          have e2 := bys_setmid (P ++ (List.range k).map (wbB xj)) 0 (wbB xj k) (List.replicate (32 - 4 * j - (k + 1)) 0)
          rw [hpl] at e1 e2
          rw [e1] at cjk
          rw [e2] at hset
          have e3 : P ++ (List.range k).map (wbB xj) ++ wbB xj k :: List.replicate (32 - 4 * j - (k + 1)) 0 = P ++ (List.range (k + 1)).map (wbB xj) ++ List.replicate (32 - 4 * j - (k + 1)) 0 := by simp [List.range_succ]
          rw [e3] at hset
          have SE := Lib.hid hset
          have BE2 := Lib.hid hbel
          have hraw := wb_raw xj k hk4
          clear hblk hset e1 e2 e3 hre hpl hbel
          go_wp2_with fail
          go_roundw
          case rel => exact ⟨k + 1, by go_num, by omega, SE.out, BE2.out.setCell HOB.out _⟩
          case measure => simp [intOf]; omega
        · have e4 : k = 4 := by omega
          rw [e4] at hblk
          have e5 : P ++ (List.range 4).map (wbB xj) ++ List.replicate (32 - 4 * j - 4) 0 = digB ([a, b, c, d, e, f, gg, hh].take (j + 1)) ++ List.replicate (32 - 4 * (j + 1)) 0 := by
            rw [HTK.out, ← HP.out, digB, digB, List.flatMap_append, show 32 - 4 * j - 4 = 32 - 4 * (j + 1) by omega]; simp
          rw [e5] at hblk
          have NB := Lib.hid hblk
          have NE := Lib.hid hbel
          clear hblk hbel e4 e5
          go_wp2_with fail
          go_roundw
          case rel => exact ⟨j + 1, by go_num, by omega, NB.out, NE.out⟩
          case measure => simp [intOf]; omega
    · have e8 : j = 8 := by omega
      have hfull : Blk wr ob 52 (bys (digB [a, b, c, d, e, f, gg, hh])) := by
        have := BK.out
        rw [e8] at this
        simpa using this
      have hdl : (digB [a, b, c, d, e, f, gg, hh]).length = 32 := by rw [digB_len]; rfl
      have hsl : Sl 1 wr (some ⟨ob, 0, none⟩) 32 (bys (digB [a, b, c, d, e, f, gg, hh])) := Blk.sl hfull (by rw [List.drop_zero, List.take_of_length_le (by rw [bys_length, hdl]; omega)]) (by rw [bys_length, hdl]) (by omega)
      have hcv := run_conv_str (P := Tryd.prog) (src := 26) Tryd.underlying26 Tryd.underlying5 (dst := 9) Tryd.underlying9 (c := 32) hsl
      rw [← HL.out] at hcv
      clear e8 hfull hdl hsl
      go_wp2_with fail
      go_ret
      exact ⟨rfl, BE.out⟩
end Go.Proofs.YtlndiddplfoceaaDoor
