import Derived.Test.YtlndiddplfoceaaDoorRx
import Derived.Test.YtlndiddplfoceaaDoorNe
import Derived.Test.YtlndiddplfoceaaDoorAwD
/-! The walk of PartNames. -/
set_option linter.unusedVariables false
set_option linter.unusedSimpArgs false
namespace Go.Proofs.YtlndiddplfoceaaDoor
open Go.RowKit
attribute [local go_sem] str_toList

def homeL : List UInt8 := [46, 114, 101, 109, 111, 114, 97]
theorem digU_ne (i : Nat) : digU i ≠ 47 := by
  rcases Nat.lt_or_ge i 16 with h | h
  · have key : ∀ k : Fin 16, digU k.val ≠ 47 := by decide
    exact key ⟨i, h⟩
  · have : digU i = 0 := by unfold digU digL; rw [List.getD_eq_getElem?_getD, List.getElem?_eq_none (by simpa using h)]; rfl
    rw [this]; decide
theorem hexB_ne {l : List UInt8} {c : UInt8} (h : c ∈ hexB l) : c ≠ 47 := by
  simp only [hexB, List.mem_flatMap, List.mem_cons, List.mem_nil_iff, or_false] at h
  obtain ⟨x, _, h | h⟩ := h
  · rw [h]; exact digU_ne _
  · rw [h]; exact digU_ne _
theorem split_two (a c : List UInt8) (ha : ∀ x ∈ a, x ≠ 47) (hc : ∀ x ∈ c, x ≠ 47) : splitB (a ++ 47 :: c) = [a, c] := by
  have hl : (a ++ 47 :: c).length = a.length + 1 + c.length := by simp; omega
  have h1 : cutN (a ++ 47 :: c) a.length = ([], 0) := by
    have := cutN_skip (a ++ 47 :: c) 0 a.length (fun j _ h2 h3 => by
      rw [List.getElem?_append_left (by omega)] at h3
      exact ha _ (List.mem_of_getElem? h3) rfl)
    rw [Nat.zero_add] at this; rw [this]; rfl
  have h2 : cutN (a ++ 47 :: c) (a.length + 1) = ([a], a.length + 1) := by
    rw [cutN_slash (by rw [List.getElem?_append_right (Nat.le_refl _), Nat.sub_self]; rfl), h1]
    simp
  have h3 : cutN (a ++ 47 :: c) (a.length + 1 + c.length) = ([a], a.length + 1) := by
    rw [cutN_skip, h2]
    intro j h4 h5 h6
    rw [List.getElem?_append_right (by omega), show j - a.length = (j - a.length - 1) + 1 by omega, List.getElem?_cons_succ] at h6
    exact hc _ (List.mem_of_getElem? h6) rfl
  unfold splitB
  rw [if_neg (by simp), hl, h3]
  simp only [List.cons_append, List.nil_append, List.cons.injEq, and_true, true_and]
  rw [List.drop_append, List.drop_of_length_le (by omega), show a.length + 1 - a.length = 1 by omega]; rfl
theorem split_home : splitB homeL = [homeL] := by decide
theorem name_reserved (l : List UInt8) : pfxB (splitB (nameB l)) (splitB homeL) = true := by
  have h : nameB l = homeL ++ 47 :: (hexB (shaB l)).take 32 := rfl
  rw [h, split_two homeL _ (by decide) (fun x hx => hexB_ne (List.mem_of_mem_take hx)), split_home]
  rfl
theorem nameB_len (l : List UInt8) : (nameB l).length = 40 := by
  unfold nameB
  rw [List.length_append, List.length_take, hexB_len, shaB_len]; rfl
theorem reserved_any (p : ByteArray) (w : World) (hp : p.size ≤ 2097152) :
    Calls Tryd.prog 6 #[.string p] w fun e w' => e = .returned (.bool (pfxB (splitB p.data.toList) (splitB homeL))) ∧ Below w.heap.size w w' := by
  go_enter Tryd.func6, Tryd.ntmps6
  go_wp2_with fail
  refine (under_any p ⟨#[46, 114, 101, 109, 111, 114, 97]⟩ w hp (by decide)).mono ?_
  rintro e w1 ⟨rfl, hb⟩
  have HB := Lib.hid hb
  clear hb
  go_wp2_with fail
  go_ret
  exact ⟨rfl, HB.out⟩
theorem rreserved_any (p : ByteArray) (w : World) (hp : p.size ≤ 2097152) :
    Calls Tryd.prog 7 #[.string p] w fun e w' => e = .returned (.bool (pfxB (splitB p.data.toList) (splitB homeL))) ∧ Below w.heap.size w w' := by
  go_enter Tryd.func7, Tryd.ntmps7
  go_wp2_with fail
  refine (refUnder_any p ⟨#[46, 114, 101, 109, 111, 114, 97]⟩ _ _ w rfl rfl hp (by decide)).mono ?_
  rintro e w1 ⟨rfl, hb⟩
  have HB := Lib.hid hb
  clear hb
  go_wp2_with fail
  go_ret
  exact ⟨rfl, HB.out⟩
set_option maxRecDepth 100000 in
set_option maxHeartbeats 1000000 in
theorem partNames_any (p : ByteArray) (w : World) (hp : p.size ≤ 2097152) (hT : TabK w) (h0 : 0 < w.heap.size) :
    Calls Tryd.prog 3 #[.string p] w fun e w' => e = .returned (.bool true) ∧ Below w.heap.size w w' := by
  go_enter Tryd.func3, Tryd.ntmps3
  go_wp2_with fail
  refine (name_any p w (by omega)).mono ?_
  rintro e w1 ⟨rfl, hb1⟩
  have HB1 := Lib.hid hb1
  have HT1 := Lib.hid (hT.below hb1 h0)
  clear hb1 hT
  go_wp2_with fail
  refine (rname_any p w1 (by omega) HT1.out (Nat.lt_of_lt_of_le h0 HB1.out.size)).mono ?_
  rintro e w2 ⟨rfl, hb2⟩
  have HB2 := Lib.hid (HB1.out.trans (hb2.mono HB1.out.size))
  clear hb2
  go_wp2_with fail
  refine (reserved_any p w2 hp).mono ?_
  rintro e w3 ⟨rfl, hb3⟩
  have HB3 := Lib.hid (HB2.out.trans (hb3.mono HB2.out.size))
  clear hb3
  go_wp2_with fail
  refine (rreserved_any p w3 hp).mono ?_
  rintro e w4 ⟨rfl, hb4⟩
  have HB4 := Lib.hid (HB3.out.trans (hb4.mono HB3.out.size))
  clear hb4
  go_wp2_with fail
  refine (name_any p w4 (by omega)).mono ?_
  rintro e w5 ⟨rfl, hb5⟩
  have HB5 := Lib.hid (HB4.out.trans (hb5.mono HB4.out.size))
  clear hb5
  go_wp2_with fail
  refine (reserved_any (str (nameB p.data.toList)) w5 (by rw [str_size, nameB_len]; decide)).mono ?_
  rintro e w6 ⟨rfl, hb6⟩
  have HB6 := Lib.hid (HB5.out.trans (hb6.mono HB5.out.size))
  clear hb6
  rw [str_data, name_reserved]
  go_wp2_with fail
  refine (awake_any w6).mono ?_
  rintro e w7 ⟨rfl, hb7⟩
  have HB7 := Lib.hid (HB6.out.trans (hb7.mono HB6.out.size))
  clear hb7
  go_wp2_with fail
  go_ret
  exact ⟨rfl, HB7.out⟩
end Go.Proofs.YtlndiddplfoceaaDoor
