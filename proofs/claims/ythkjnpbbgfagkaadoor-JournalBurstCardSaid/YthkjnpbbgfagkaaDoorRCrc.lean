import Derived.Test.YthkjnpbbgfagkaaDoorCrc4
set_option linter.unusedVariables false
set_option linter.unusedSimpArgs false
namespace Go.Proofs.YthkjnpbbgfagkaaDoor
open Go.RowKit

def lowB : Nat → Nat → List UInt8
  | 0, _ => []
  | f+1, x => UInt8.ofNat x :: lowB f (x / 256)
theorem lowB_four (x : Nat) : lowB 4 x = sealB x := by simp [lowB, sealB, Nat.div_div_eq_div_mul]
theorem lowB_len (f x : Nat) : (lowB f x).length = f := by induction f generalizing x <;> simp [lowB, *]

set_option maxRecDepth 100000 in
set_option maxHeartbeats 400000 in
theorem RSeal_any (A : Option Addr) (n c : Nat) (bs : List UInt8) (w : World) (hs : Sl 1 w A n (bys bs)) (hn : n ≤ 1099511627776) :
    Calls Tryd.prog 34 #[.slice A n c] w fun e w' => ∃ v, e = .returned v ∧ w'.ownsRow w.heap.size 5 1 v (n + 4) (bys (bs ++ sealB (crcOf bs))) ∧ Below w.heap.size w w' := by
  obtain ⟨i0, hi, hz0, hz1, hz2⟩ := info_parts info5
  have hX := crcOf_lt bs
  have hl : bs.length = n := by have := hs.len; simpa [bys] using this
  go_enter Tryd.func34, Tryd.ntmps34
  go_wp2_with fail
  refine (ROf_one A n c bs _ _ _ (hs.below ((Below.refl _ _).alloc (Nat.le_refl _) _)) hn ?_).mono ?_
  · rw [World.cell?_alloc_at _ _ _ _ rfl]; rfl
  rintro e w1 ⟨rfl, rfl⟩
  have hT : lowB 4 (crcOf bs) = sealB (crcOf bs) := lowB_four _
  have HT := Lib.hid hT
  have HL := Lib.hid hl
  clear hT hl
  generalize hX2 : crcOf bs = X at *
  have HX2 := Lib.hid hX2
  clear hX2
  have hb1 : Below w.heap.size w ((w.alloc (.cells #[.slice A n c] 27)).alloc (.cells #[] 5)) := ((Below.refl _ _).alloc (Nat.le_refl _) _).alloc (by rw [World.size_alloc]; omega) _
  have hown1 : ((w.alloc (.cells #[.slice A n c] 27)).alloc (.cells #[] 5)).ownsRow w.heap.size 5 1 (.slice (some ⟨w.heap.size + 1, 0, none⟩) 0 0) 0 [] := by
    have := World.ownsRow_made (e := 5) (size := 1) (base := w.heap.size) (w.alloc (.cells #[.slice A n c] 27)) #[] 0 (by rw [World.size_alloc]; omega) (by decide) rfl
    rwa [World.size_alloc] at this
  obtain ⟨v2, w2, hap2, hown2, hgrow2⟩ := run_append_sl (P := Tryd.prog) w.heap.size 27 27 5 i0 (.int .u8 0) 1 1 Tryd.underlying27 hi hz0 hz1 hz2 rfl (by decide) hown1 (c := c) (hs.below hb1) (bys_one _) (by omega) (by omega) hb1.size
  have hb2 := hb1.grown hgrow2 hb1.size (fun k hk => (hown1.lt k hk).1)
  rw [List.nil_append, Nat.zero_add] at hown2
  have HO := Lib.hid hown2
  have HB := Lib.hid hb2
  clear hown1 hown2 hgrow2 hb1 hb2 hs
  go_wp2_with (at_builtin; refine halt_in ?_)
  refine Halted.out (wpList_append_run rfl _ _ _ _ rfl rfl rfl hap2 ?_)
  clear hap2
  go_wp2_with fail
  go_loopw [3, 4, 5] (fun a v i wr => ∃ q j : Nat, ∃ pre : List UInt8, a = .int .u32 q ∧ i = .int .i64 j ∧ j ≤ 4 ∧ q < 4294967296 ∧ wr.ownsRow w.heap.size 5 1 v (n + j) (bys pre) ∧ Below w.heap.size w wr ∧ bs ++ lowB 4 X = pre ++ lowB (4 - j) q) (fun _ _ i _ => 4 - (intOf i).toNat)
  case atStart => exact ⟨X, 0, bs, rfl, rfl, by omega, hX, HO.out, HB.out, rfl⟩
  case round =>
    obtain ⟨q, j, pre, rfl, rfl, hj, hq, hown, hb, heq⟩ := hrel
    have HE := Lib.hid heq
    have hsz : w.heap.size ≤ wr.heap.size := hb.size
    clear heq
    by_cases h : j < 4
    · have hqb : ((q : Int) % 256) = ((UInt8.ofNat q).toNat : Int) := by simp
      have HQ := Lib.hid hqb
      obtain ⟨m, hm⟩ : ∃ m, 4 - j = m + 1 := ⟨3 - j, by omega⟩
      have HM := Lib.hid hm
      clear hqb hm
      obtain ⟨v3, w3, hap3, hown3, _, hb3⟩ := run_append_one (P := Tryd.prog) (w0 := w) w.heap.size 27 27 5 i0 (.int .u8 0) 1 1 Tryd.underlying27 hi hz0 hz1 hz2 rfl (by decide) hown hb [.int .u8 ((q : Int) % 256)] rfl (one_int _ _) 1 (by omega) (by omega) hsz
      go_wp2_with (at_builtin; refine halt_in ?_)
      refine Halted.out (wpList_append_run rfl _ _ _ _ rfl rfl rfl hap3 ?_)
      clear hap3 hown hb
      rw [HQ.out] at hown3
      have HO3 := Lib.hid hown3
      clear hown3
      go_wp2_with fail
      go_roundw
      case rel => exact ⟨q / 256, j + 1, pre ++ [UInt8.ofNat q], by go_num, by go_num, by omega, by omega, by rw [bys_append]; exact HO3.out, hb3, by rw [HE.out, HM.out, show 4 - (j + 1) = m by have := HM.out; omega]; simp [lowB]⟩
      case measure => simp [intOf]; omega
    · go_wp2_with fail
      go_ret
      obtain rfl : j = 4 := by omega
      refine ⟨_, rfl, ?_, hb⟩
      rw [HX2.out, ← HT.out, HE.out]
      simp only [lowB, Nat.sub_self, List.append_nil]
      exact hown

set_option maxRecDepth 100000 in
set_option maxHeartbeats 400000 in
theorem ROpen_any (A : Option Addr) (n c : Nat) (bs : List UInt8) (w : World) (hs : Sl 1 w A n (bys bs)) (hn : n ≤ 1099511627776) (hc : n ≤ c) :
    Calls Tryd.prog 48 #[.slice A n c] w fun e w' => ∃ v, e = .returned (.tuple #[v, .int .i64 (openS bs).2]) ∧ w'.ownsRow w.heap.size 5 1 v (openS bs).1.length (bys (openS bs).1) ∧ Below w.heap.size w w' := by
  have hl : bs.length = n := by have := hs.len; simpa [bys] using this
  by_cases h4 : n < 4
  · have hf : openS bs = ([], 4) := by unfold openS; rw [if_pos (by omega)]
    have HF := Lib.hid hf
    clear hf hl
    go_enter Tryd.func48, Tryd.ntmps48
    go_wp2
    go_ret2
    exact ⟨_, by rw [HF.out]; rfl, by rw [HF.out]; exact World.ownsRow_nil _ _ _ _, Below.refl _ _⟩
  · obtain ⟨m, rfl⟩ : ∃ m, n = m + 4 := ⟨n - 4, by omega⟩
    obtain ⟨i0, hi, hz0, hz1, hz2⟩ := info_parts info5
    obtain ⟨b, o, rfl, hk2, -, hbl⟩ := hs.byte (show m < m + 4 by omega)
    have hsub : Sl 1 w (some ⟨b, o, none⟩) m (bys (bs.take m)) := by
      have := hs.sub 0 m c (by omega) (by omega) hc
      unfold subAt at this
      rw [if_neg (by omega)] at this
      simpa [Addr.add] using this
    have hsz5 : (sizeOf (Tryd.prog.elem 27)).run Tryd.prog = fun w => .ok 1 w := by funext w; rw [elem27]; simp [sizeOf, run_typeInfo w hi, hz1]
    have hsl1 : ∀ w : World, (Instr.slice 27 (.slice (some ⟨b, o, none⟩) (m + 4) c) none (some (.int .i64 m)) none).run Tryd.prog w = .ok (.slice (some ⟨b, o, none⟩) m c) w := fun w => by
      rw [run_slice_h (ht := under27) (len := m + 4) (h0 := by omega) (h2 := by omega), hsz5]
      simp [Result.andThen, sliced, Addr.add]
    have hb1 : Below w.heap.size w (w.alloc (.cells #[] 5)) := (Below.refl _ _).alloc (Nat.le_refl _) _
    have hown1 : (w.alloc (.cells #[] 5)).ownsRow w.heap.size 5 1 (.slice (some ⟨w.heap.size, 0, none⟩) 0 0) 0 [] := World.ownsRow_made (e := 5) (size := 1) (base := w.heap.size) w #[] 0 (Nat.le_refl _) (by decide) rfl
    obtain ⟨v2, w2, hap2, hown2, hgrow2⟩ := run_append_sl (P := Tryd.prog) w.heap.size 27 27 5 i0 (.int .u8 0) 1 1 Tryd.underlying27 hi hz0 hz1 hz2 rfl (by decide) hown1 (c := c) (hsub.below hb1) (bys_one _) (by omega) (by omega) hb1.size
    have hb2 := hb1.grown hgrow2 hb1.size (fun k hk => (hown1.lt k hk).1)
    rw [List.nil_append, Nat.zero_add] at hown2
    obtain ⟨A2, c2, rfl, hc2, hs2, hA2, _⟩ := own_sl hown2
    have hs3 := hs.below hb2
    have hsd : openS bs = if bs.take m ++ sealB (crcOf (bs.take m)) = bs then (bs.take m, 0) else ([], 6) := by
      unfold openS
      rw [if_neg (by omega), show bs.length - 4 = m by omega]
      congr 1
      rw [eq_iff_iff]
      constructor
      · intro h; rw [h, List.take_append_drop]
      · intro h
        have h2 := List.take_append_drop m bs
        exact List.append_cancel_left (h.trans h2.symm)
    have HO := Lib.hid hown2
    have HB := Lib.hid hb2
    have HL := Lib.hid hl
    clear hown1 hown2 hgrow2 hb1 hs hsub hsz5 hl
    by_cases hq : bs.take m ++ sealB (crcOf (bs.take m)) = bs
    · rw [if_pos hq] at hsd
      have hbq : ((str (bs.take m ++ sealB (crcOf (bs.take m)))).toList == (str bs).toList) = true := by
        rw [hq]; simp
      have HF := Lib.hid hsd
      clear hsd hq
      go_enter Tryd.func48, Tryd.ntmps48
      go_wp2_with (at_builtin; refine halt_in ?_)
      refine Halted.out (wpList_append_run rfl _ _ _ _ rfl rfl rfl hap2 ?_)
      clear hap2
      go_wp2_with fail
      have hcv0 := run_conv_str (P := Tryd.prog) (w := w2.drew) (src := 27) Tryd.underlying27 Tryd.underlying5 (dst := 9) Tryd.underlying9 (c := c) hs3.drew
      go_region_with (go_at_call 34; refine (RSeal_any _ _ _ _ w2.drew hs2.drew (by omega)).mono ?_; rintro e w3 ⟨v3, rfl, hown3, hb3⟩; obtain ⟨A3, c3, rfl, hc3, hs4, hA3, _⟩ := own_sl hown3; have hcv1 := run_conv_str (P := Tryd.prog) (w := w3) (src := 27) Tryd.underlying27 Tryd.underlying5 (dst := 9) Tryd.underlying9 (c := c) (hs3.drew.below hb3); have hcv2 := run_conv_str (P := Tryd.prog) (w := w3) (src := 27) Tryd.underlying27 Tryd.underlying5 (dst := 9) Tryd.underlying9 (c := c3) hs4)
      all_goals
        have hO3 := own_below HO.out (below_undrew hb3)
        have HO3 := Lib.hid hO3
        have HB3 := Lib.hid (HB.out.trans ((below_undrew hb3).mono HB.out.size))
        clear hown3 hb3 hO3 hs4
        go_wp2
        go_ret2
        exact ⟨_, by rw [HF.out]; rfl, by rw [HF.out]; have := HO3.out; have hl := this.1; simp only [bys_length, Nat.mul_one] at hl; rw [hl]; exact this, HB3.out⟩
    · rw [if_neg hq] at hsd
      have hbq : ((str (bs.take m ++ sealB (crcOf (bs.take m)))).toList == (str bs).toList) = false := by
        rw [str_toList, str_toList, beq_eq_false_iff_ne]; exact hq
      have HF := Lib.hid hsd
      clear hsd hq
      go_enter Tryd.func48, Tryd.ntmps48
      go_wp2_with (at_builtin; refine halt_in ?_)
      refine Halted.out (wpList_append_run rfl _ _ _ _ rfl rfl rfl hap2 ?_)
      clear hap2
      go_wp2_with fail
      have hcv0 := run_conv_str (P := Tryd.prog) (w := w2.drew) (src := 27) Tryd.underlying27 Tryd.underlying5 (dst := 9) Tryd.underlying9 (c := c) hs3.drew
      go_region_with (go_at_call 34; refine (RSeal_any _ _ _ _ w2.drew hs2.drew (by omega)).mono ?_; rintro e w3 ⟨v3, rfl, hown3, hb3⟩; obtain ⟨A3, c3, rfl, hc3, hs4, hA3, _⟩ := own_sl hown3; have hcv1 := run_conv_str (P := Tryd.prog) (w := w3) (src := 27) Tryd.underlying27 Tryd.underlying5 (dst := 9) Tryd.underlying9 (c := c) (hs3.drew.below hb3); have hcv2 := run_conv_str (P := Tryd.prog) (w := w3) (src := 27) Tryd.underlying27 Tryd.underlying5 (dst := 9) Tryd.underlying9 (c := c3) hs4)
      all_goals
        have hO3 := own_below HO.out (below_undrew hb3)
        have HO3 := Lib.hid hO3
        have HB3 := Lib.hid (HB.out.trans ((below_undrew hb3).mono HB.out.size))
        clear hown3 hb3 hO3 hs4
        go_wp2
        go_ret2
        exact ⟨_, by rw [HF.out]; rfl, by rw [HF.out]; exact World.ownsRow_nil _ _ _ _, HB3.out⟩
end Go.Proofs.YthkjnpbbgfagkaaDoor
