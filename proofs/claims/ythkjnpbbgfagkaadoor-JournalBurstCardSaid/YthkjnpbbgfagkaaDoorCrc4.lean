import Derived.Test.YthkjnpbbgfagkaaDoorCrc3
import Derived.Deep.RegionWith
import Derived.Deep.RegionHeld3
import Derived.Stop.BytesEq
set_option linter.unusedVariables false
set_option linter.unusedSimpArgs false
namespace Go.Proofs.YthkjnpbbgfagkaaDoor
open Go.RowKit

set_option maxRecDepth 100000 in
set_option maxHeartbeats 400000 in
theorem Open_any (A : Option Addr) (n c : Nat) (bs : List UInt8) (w : World) (hs : Sl 1 w A n (bys bs)) (hn : n ≤ 1099511627776) (hc : n ≤ c) (ht : Tab w) (h0 : 0 < w.heap.size) :
    Calls Tryd.prog 26 #[.slice A n c] w fun e w' => ∃ v, e = .returned (.tuple #[v, .int .i64 (openS bs).2]) ∧ w'.ownsRow w.heap.size 5 1 v (openS bs).1.length (bys (openS bs).1) ∧ Below w.heap.size w w' := by
  have hl : bs.length = n := by have := hs.len; simpa [bys] using this
  by_cases h4 : n < 4
  · have hf : openS bs = ([], 4) := by unfold openS; rw [if_pos (by omega)]
    have HF := Lib.hid hf
    clear hf hl
    go_enter Tryd.func26, Tryd.ntmps26
    go_wp2
    go_ret2
    exact ⟨_, by rw [HF.out]; rfl, by rw [HF.out]; exact World.ownsRow_nil _ _ _ _, Below.refl _ _⟩
  · obtain ⟨m, rfl⟩ : ∃ m, n = m + 4 := ⟨n - 4, by omega⟩
    obtain ⟨i0, hi, hz0, hz1, hz2⟩ := info_parts info5
    obtain ⟨b, o, rfl, hk2, -, hbl⟩ := hs.byte (show m < m + 4 by omega)
    have hcell : ∀ j v, (bys bs)[j]? = some v → w.cell? ⟨b, o + j, none⟩ = some v := by
      rcases hs.at_ with h1 | ⟨b', o', h1, h2⟩
      · have : bs = [] := by simpa [bys] using h1
        subst this; simp at hl
      · simp only [Option.some.injEq, Addr.mk.injEq, and_true] at h1; obtain ⟨rfl, rfl⟩ := h1; exact h2
    have hsub : Sl 1 w (some ⟨b, o, none⟩) m (bys (bs.take m)) := ⟨by simp [bys]; omega, by omega, .inr ⟨b, o, rfl, fun j v hj => hcell j v (by
      simp only [bys, List.getElem?_map, List.getElem?_take] at hj ⊢; split at hj; exact hj; cases hj)⟩⟩
    have hc0 : ∀ j, (hj : j < 4) → w.cell? ⟨b, o + m + j, none⟩ = some (.int .u8 (bs.getD (m + j) 0).toNat) := fun j hj => by
      rw [Nat.add_assoc]
      refine hcell (m + j) _ ?_
      rw [List.getD_eq_getElem?_getD, List.getElem?_eq_getElem (show m + j < bs.length by omega)]
      exact bys_get (List.getElem?_eq_getElem (show m + j < bs.length by omega))
    have hdrop : bs.drop m = [bs.getD m 0, bs.getD (m + 1) 0, bs.getD (m + 2) 0, bs.getD (m + 3) 0] := by
      rw [drop_cons (show m < bs.length by omega), drop_cons (show m + 1 < bs.length by omega), drop_cons (show m + 1 + 1 < bs.length by omega), drop_cons (show m + 1 + 1 + 1 < bs.length by omega), List.drop_eq_nil_of_le (by omega)]
      simp [List.getD_eq_getElem?_getD, List.getElem?_eq_getElem (show m < bs.length by omega), List.getElem?_eq_getElem (show m + 1 < bs.length by omega), List.getElem?_eq_getElem (show m + 2 < bs.length by omega), List.getElem?_eq_getElem (show m + 3 < bs.length by omega)]
    have hsz5 : (sizeOf (Tryd.prog.elem 27)).run Tryd.prog = fun w => .ok 1 w := by funext w; rw [elem27]; simp [sizeOf, run_typeInfo w hi, hz1]
    have hsl1 : ∀ w : World, (Instr.slice 27 (.slice (some ⟨b, o, none⟩) (m + 4) c) none (some (.int .i64 m)) none).run Tryd.prog w = .ok (.slice (some ⟨b, o, none⟩) m c) w := fun w => by
      rw [run_slice_h (ht := under27) (len := m + 4) (h0 := by omega) (h2 := by omega), hsz5]
      simp [Result.andThen, sliced, Addr.add]
    have hsl2 : ∀ w : World, (Instr.slice 27 (.slice (some ⟨b, o, none⟩) (m + 4) c) (some (.int .i64 m)) none none).run Tryd.prog w = .ok (.slice (some ⟨b, o + m, none⟩) 4 (c - m)) w := fun w => by
      rw [run_slice_l (ht := under27) (len := m + 4) (h0 := by omega) (h1 := by omega), hsz5]
      simp only [Result.andThen, sliced, Int.toNat_natCast]
      rw [if_neg (by omega)]
      simp only [Option.map_some, Addr.add, Nat.mul_one, Nat.add_sub_cancel_left]
      split <;> simp_all
    have har : ∀ w : World, (Instr.arrayAt 71 (.slice (some ⟨b, o + m, none⟩) 4 (c - m))).run Tryd.prog w = .ok (.pointer (some ⟨b, o + m, none⟩)) w := fun _ => by kernel_rfl
    have c0 : w.cell? ⟨b, o + m, none⟩ = some (.int .u8 (bs.getD m 0).toNat) := hc0 0 (by omega)
    have c1 := hc0 1 (by omega)
    have c2 := hc0 2 (by omega)
    have c3 := hc0 3 (by omega)
    generalize bs.getD m 0 = y0 at *
    generalize bs.getD (m + 1) 0 = y1 at *
    generalize bs.getD (m + 2) 0 = y2 at *
    generalize bs.getD (m + 3) 0 = y3 at *
    have heq := fun w : World => run_equalIn_bytes (P := Tryd.prog) w 9998 71 5 4 Tryd.underlying71 Tryd.underlying5 (fun w => by simp [sizeOf, run_typeInfo w hi, hz1]) (sealB (crcOf (bs.take m))) [y0, y1, y2, y3] rfl rfl
    have heq2 : ∀ w : World, (Op.equalIn 10000 71 (.agg (bys (sealB (crcOf (bs.take m)))).toArray) (.agg #[.int .u8 y0.toNat, .int .u8 y1.toNat, .int .u8 y2.toNat, .int .u8 y3.toNat])).run Tryd.prog w = .ok (sealB (crcOf (bs.take m)) == [y0, y1, y2, y3]) w := heq
    clear heq hc0 hcell hsz5
    by_cases hq : sealB (crcOf (bs.take m)) = [y0, y1, y2, y3]
    · have hf : openS bs = (bs.take m, 0) := by unfold openS; rw [if_neg (by omega), show bs.length - 4 = m by omega, hdrop, if_pos hq]
      have hq2 : (sealB (crcOf (bs.take m)) == [y0, y1, y2, y3]) = true := by simpa using hq
      rw [hq2] at heq2
      have HF := Lib.hid hf
      clear hf hq hq2 hdrop hl
      go_enter Tryd.func26, Tryd.ntmps26
      go_wp2
      go_region_with (go_at_call 40; refine (seal_any _ _ _ _ w.drew hsub.drew (by omega) ht h0).mono ?_; rintro e w1 ⟨rfl, hb1⟩; have d0 := (hb1.cell (p := ⟨b, o + m, none⟩) hbl).trans c0; have d1 := (hb1.cell (p := ⟨b, o + m + 1, none⟩) hbl).trans c1; have d2 := (hb1.cell (p := ⟨b, o + m + 2, none⟩) hbl).trans c2; have d3 := (hb1.cell (p := ⟨b, o + m + 3, none⟩) hbl).trans c3)
      all_goals
        have hb1' : Below w.heap.size w w1 := below_undrew hb1
        obtain ⟨v2, w2, hap2, hown2, hgrow2⟩ := run_append_sl (P := Tryd.prog) (w := w1) w.heap.size 27 27 5 i0 (.int .u8 0) 1 1 Tryd.underlying27 hi hz0 hz1 hz2 rfl (by decide) (World.ownsRow_nil w1 w.heap.size 5 1) (c := c) (hsub.below hb1') (bys_one _) (by omega) (by omega) hb1'.size
        have hb2 := hb1'.grown hgrow2 hb1'.size (by intro k hk; simp [Value.ownBlock] at hk)
        rw [List.nil_append, Nat.zero_add] at hown2
        have HO := Lib.hid hown2
        have HB := Lib.hid hb2
        clear hown2 hgrow2 hb2 hb1' hb1 hi hz0 hz1 hz2 hs hsub
        go_wp2_with (at_builtin; refine halt_in ?_)
        refine Halted.out (wpList_append_run rfl _ _ _ _ rfl rfl rfl hap2 ?_)
        clear hap2
        go_wp2_with fail
        go_ret2
        exact ⟨v2, by rw [HF.out]; rfl, by rw [HF.out]; have := HO.out; have hl := this.1; simp only [bys_length, Nat.mul_one] at hl; rw [hl]; exact this, HB.out⟩
    · have hf : openS bs = ([], 6) := by unfold openS; rw [if_neg (by omega), show bs.length - 4 = m by omega, hdrop, if_neg hq]
      have hq2 : (sealB (crcOf (bs.take m)) == [y0, y1, y2, y3]) = false := by simpa using hq
      rw [hq2] at heq2
      have HF := Lib.hid hf
      clear hf hq hq2 hdrop hl
      go_enter Tryd.func26, Tryd.ntmps26
      go_wp2
      go_region_with (go_at_call 40; refine (seal_any _ _ _ _ w.drew hsub.drew (by omega) ht h0).mono ?_; rintro e w1 ⟨rfl, hb1⟩; have d0 := (hb1.cell (p := ⟨b, o + m, none⟩) hbl).trans c0; have d1 := (hb1.cell (p := ⟨b, o + m + 1, none⟩) hbl).trans c1; have d2 := (hb1.cell (p := ⟨b, o + m + 2, none⟩) hbl).trans c2; have d3 := (hb1.cell (p := ⟨b, o + m + 3, none⟩) hbl).trans c3)
      all_goals
        have HB := Lib.hid (below_undrew hb1)
        clear hb1
        go_wp2
        go_ret2
        exact ⟨_, by rw [HF.out]; rfl, by rw [HF.out]; exact World.ownsRow_nil _ _ _ _, HB.out⟩
end Go.Proofs.YthkjnpbbgfagkaaDoor
