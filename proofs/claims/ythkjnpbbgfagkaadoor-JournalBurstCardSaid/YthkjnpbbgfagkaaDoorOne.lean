import Derived.Test.YthkjnpbbgfagkaaDoorBody
set_option linter.unusedVariables false
set_option linter.unusedSimpArgs false
namespace Go.Proofs.YthkjnpbbgfagkaaDoor
open Go.RowKit

theorem oneR_err {b : List UInt8} {n to e : Int} (hg : getS b 0 = (n, to, e)) (h : e ≠ 0 ∨ (b.length : Int) - to < n ∨ (b.length : Int) - to - n < 4) : oneR b = (zeroRec, 0) := by
  unfold oneR; rw [hg, oneR1, if_pos h]
theorem oneR_two {b : List UInt8} {n to : Nat} (hg : getS b 0 = ((n : Int), (to : Int), 0)) (h : to + n + 4 ≤ b.length) :
    oneR b = oneR2 (to + n + 4 : Nat) (openS ((b.drop to).take (n + 4))) := by
  unfold oneR; rw [hg, oneR1, if_neg (by omega)]; rfl

set_option maxRecDepth 100000 in
set_option maxHeartbeats 1000000 in
theorem one_any (A : Option Addr) (n c : Nat) (bs : List UInt8) (w : World) (hs : Sl 1 w A n (bys bs)) (hn : n ≤ 1099511627776) (hc : n ≤ c) (ht : Tab w) (h0 : 0 < w.heap.size) :
    Calls Tryd.prog 35 #[.slice A n c] w fun e w' => e = .returned (.tuple #[.agg (encR (oneR bs).1).toArray, .int .i64 (oneR bs).2]) ∧ Below w.heap.size w w' := by
  have hl : bs.length = n := by have := hs.len; simpa [bys] using this
  have hb0 : ∀ cs, Below w.heap.size w (w.alloc (.cells cs 31)) := fun cs => (Below.refl _ _).alloc (Nat.le_refl _) _
  have hs1 := hs.below (hb0 #[.int .i64 0, .string (str []), .int .i64 0, .string (str [])])
  rcases getS_cases bs 0 with ⟨x, to, hg, hx, hp, hpt, htl, hto⟩ | ⟨e0, hg, he, he0, he8⟩
  · have HG := Lib.hid hg
    by_cases h1 : (n : Int) - to < x
    · have hf := oneR_err hg (.inr (.inl (by omega)))
      have HF := Lib.hid hf
      clear hf hg hl
      go_enter Tryd.func35, Tryd.ntmps35
      go_wp2_with fail
      refine (Get_any _ _ _ _ _ _ hs1 hn).mono ?_
      rintro e w1 ⟨rfl, rfl⟩
      rw [HG.out]
      go_wp2
      refine bodyPost_ret (results_cell_tmp_row rfl _ _ w.heap.size 31 _ _ _ rfl (heap_alloc_new _ _) Tryd.underlying31 rfl (by kernel_rfl)) rfl ⟨by rw [HF.out]; rfl, hb0 _⟩
    · by_cases h2 : (n : Int) - to - x < 4
      · have hf := oneR_err hg (.inr (.inr (by omega)))
        have HF := Lib.hid hf
        clear hf hg hl
        go_enter Tryd.func35, Tryd.ntmps35
        go_wp2_with fail
        refine (Get_any _ _ _ _ _ _ hs1 hn).mono ?_
        rintro e w1 ⟨rfl, rfl⟩
        rw [HG.out]
        go_wp2
        refine bodyPost_ret (results_cell_tmp_row rfl _ _ w.heap.size 31 _ _ _ rfl (heap_alloc_new _ _) Tryd.underlying31 rfl (by kernel_rfl)) rfl ⟨by rw [HF.out]; rfl, hb0 _⟩
      · have hf := oneR_two hg (by omega)
        rcases ho : openS ((bs.drop to).take (x + 4)) with ⟨own, e2⟩
        rw [ho] at hf
        have HO := Lib.hid ho
        obtain ⟨i0, hi, hz0, hz1, hz2⟩ := info_parts info5
        have hsl : ∀ w : World, (Instr.slice 27 (.slice A n c) (some (.int .i64 to)) (some (.int .i64 (to + x + 4))) none).run Tryd.prog w = .ok (.slice (subAt A to c 1) (x + 4) (c - to)) w := fun w => by
          have := run_slice_sub (P := Tryd.prog) (w := w) (T := 27) under27 elem27 hi hz1 A n c to (to + x + 4) (by omega) (by omega) .i64 .i64 to (to + x + 4) rfl (by omega)
          rwa [show to + x + 4 - to = x + 4 by omega] at this
        have hs2 := hs1.sub to (to + x + 4) c (by omega) (by omega) hc
        rw [show to + x + 4 - to = x + 4 by omega] at hs2
        have hT1 := ht.below h0 (hb0 #[.int .i64 0, .string (str []), .int .i64 0, .string (str [])])
        have h01 : 0 < (w.alloc (.cells #[.int .i64 0, .string (str []), .int .i64 0, .string (str [])] 31)).heap.size := by rw [World.size_alloc]; omega
        have hz : (w.alloc (.cells #[.int .i64 0, .string (str []), .int .i64 0, .string (str [])] 31)).heap[w.heap.size]? = some (.cells #[.int .i64 0, .string (str []), .int .i64 0, .string (str [])] 31 (0, 0)) := heap_alloc_new _ _
        have hbA := hb0 #[.int .i64 0, .string (str []), .int .i64 0, .string (str [])]
        have hsz : w.heap.size < (w.alloc (.cells #[.int .i64 0, .string (str []), .int .i64 0, .string (str [])] 31)).heap.size := by rw [World.size_alloc]; omega
        by_cases he2 : e2 = 0
        · subst he2
          have hf2 : oneR2 (to + x + 4 : Nat) (own, 0) = oneR3 (to + x + 4 : Nat) (bodyR own) := by rw [oneR2, if_neg (by omega)]
          rw [hf2] at hf
          rcases hbr : bodyR own with ⟨r, ok⟩
          rw [hbr] at hf
          have HBR := Lib.hid hbr
          have hown0 : own.length ≤ n := by
            have : own = (openS ((bs.drop to).take (x + 4))).1 := by rw [ho]
            rw [this]; unfold openS
            split
            · simp
            · split
              · simp only [List.length_take, List.length_drop]; omega
              · simp
          clear hf2 hbr ho hg hl hi hz0 hz1 hz2 ht hs
          rcases ok with _ | _
          all_goals
            simp only [oneR3] at hf
            have HF := Lib.hid hf
            clear hf
            go_enter Tryd.func35, Tryd.ntmps35
            go_wp2_with fail
            refine (Get_any _ _ _ _ _ _ hs1 hn).mono ?_
            rintro e w1 ⟨rfl, rfl⟩
            rw [HG.out]
            go_wp2_with fail
            refine (Open_any _ _ _ _ _ hs2 (by omega) (by omega) hT1 h01).mono ?_
            rintro e w2 ⟨v2, rfl, hown, hb2⟩
            rw [HO.out] at hown ⊢
            obtain ⟨A2, c2, rfl, hc2, hs3, _, _⟩ := own_sl hown
            have hbB := hbA.trans (hb2.mono hbA.size)
            have hz' := (hb2.block w.heap.size hsz).trans hz
            go_wp2_with fail
            refine (body_any _ _ _ _ _ hs3 (by omega) hc2).mono ?_
            rintro e w3 ⟨rfl, hb3⟩
            rw [HBR.out]
            have hbC := hbB.trans (hb3.mono hbB.size)
            have hsz2 : w.heap.size < w2.heap.size := Nat.lt_of_lt_of_le hsz hb2.size
            have hz3 := (hb3.block w.heap.size hsz2).trans hz'
            clear hown hs3 hb2 hb3 hz'
            simp only [encR]
            obtain ⟨z0, z1, z2, z3, fz, zl⟩ := row4_facts hz3
            have HBC := Lib.hid hbC
            have HZ3 := Lib.hid hz3
            clear hbC hz3
            go_wp2_with fail
            refine bodyPost_ret (results_cell_tmp_row rfl _ _ w.heap.size 31 _ _ _ rfl ((heap_alloc_old _ _ (by rw [size_set4]; exact zl)).trans (heap_set4 HZ3.out)) Tryd.underlying31 rfl (by kernel_rfl)) rfl ⟨by rw [HF.out]; rfl, (below_set4 HBC.out (Nat.le_refl _)).alloc (by rw [size_set4]; exact HBC.out.size) _⟩
        · have hf2 : oneR2 (to + x + 4 : Nat) (own, e2) = (zeroRec, 0) := by rw [oneR2, if_pos he2]
          rw [hf2] at hf
          have HF := Lib.hid hf
          clear hf hf2 ho hg hl hi hz0 hz1 hz2 ht hs
          go_enter Tryd.func35, Tryd.ntmps35
          go_wp2_with fail
          refine (Get_any _ _ _ _ _ _ hs1 hn).mono ?_
          rintro e w1 ⟨rfl, rfl⟩
          rw [HG.out]
          go_wp2_with fail
          refine (Open_any _ _ _ _ _ hs2 (by omega) (by omega) hT1 h01).mono ?_
          rintro e w2 ⟨v2, rfl, hown, hb2⟩
          rw [HO.out] at hown ⊢
          have hbB := hbA.trans (hb2.mono hbA.size)
          have hz' := (hb2.block w.heap.size hsz).trans hz
          clear hown hb2 hbA hz
          obtain ⟨z0, z1, z2, z3, fz, zl⟩ := row4_facts hz'
          have HZ := Lib.hid (heap_set4 (b0 := .int .i64 0) (b1 := .string ⟨#[]⟩) (b2 := .int .i64 0) (b3 := .string ⟨#[]⟩) hz')
          have HB := Lib.hid (below_set4 (b0 := .int .i64 0) (b1 := .string ⟨#[]⟩) (b2 := .int .i64 0) (b3 := .string ⟨#[]⟩) hbB (Nat.le_refl _))
          clear hbB hz'
          go_wp2_with fail
          refine bodyPost_ret (results_cell_tmp_row rfl _ _ w.heap.size 31 _ _ _ rfl HZ.out Tryd.underlying31 rfl (by kernel_rfl)) rfl ⟨by rw [HF.out]; rfl, HB.out⟩
  · have hf := oneR_err hg (.inl he)
    have HF := Lib.hid hf
    have HG := Lib.hid hg
    clear hf hg hl
    go_enter Tryd.func35, Tryd.ntmps35
    go_wp2_with fail
    refine (Get_any _ _ _ _ _ _ hs1 hn).mono ?_
    rintro e w1 ⟨rfl, rfl⟩
    rw [HG.out]
    go_wp2
    refine bodyPost_ret (results_cell_tmp_row rfl _ _ w.heap.size 31 _ _ _ rfl (heap_alloc_new _ _) Tryd.underlying31 rfl (by kernel_rfl)) rfl ⟨by rw [HF.out]; rfl, hb0 _⟩
end Go.Proofs.YthkjnpbbgfagkaaDoor
