import Derived.Test.YtlbbehfbjbbckaaDoorUa
import Derived.Lib.AppendStr
import Derived.Lib.SplitLaws
import Derived.Shelf.Small.Bits
import Derived.Shelf.Small.Strs
import Derived.Shelf.Small.Wraps
import Derived.Shelf.Strconv.Itoa0
import Derived.Shelf.Strings.Search1
import Derived.Shelf.Strings.Search2
import Derived.Shelf.Strings.Search3
import Derived.Shelf.Strings.Count
import Derived.Shelf.LaysM
import Derived.Shelf.Strings.Shaped
import Derived.Shelf.Sort.Plain
import Derived.Shelf.Strings.Prefix
import Derived.Shelf.Strings.Split
import Derived.Shelf.Strings.SplitShaped
import Derived.Shelf.Unicode.DecodeSlow
import Derived.Shelf.Unicode.DecodeAny
import Derived.Shelf.Slices.In.SortNone
import Derived.Shelf.Slices.In.SortNone2
import Derived.Test.YtlbbehfbjbbckaaDoorProg
/-! The order of paths is a strict and whole one; parts, glued, are the text; what is under a path lies behind it, side by side. -/
set_option linter.unusedVariables false
set_option linter.unusedSimpArgs false
namespace Go.Proofs.YtlbbehfbjbbckaaDoor
open Go.RowKit

theorem bless_trans : ∀ {a b c : List UInt8}, Op.bytesLess a b = true → Op.bytesLess b c = true → Op.bytesLess a c = true
  | _, [], _, h, _ => by cases ‹List UInt8› <;> simp [Op.bytesLess] at h
  | _, _ :: _, [], _, h => by simp [Op.bytesLess] at h
  | [], _ :: _, _ :: _, _, _ => rfl
  | x :: a, y :: b, z :: c, h, k => by
    simp only [Op.bytesLess, Bool.or_eq_true, Bool.and_eq_true, decide_eq_true_eq, beq_iff_eq] at h k ⊢
    rcases h with h | ⟨rfl, h⟩
    · rcases k with k | ⟨rfl, k⟩
      · exact .inl (UInt8.lt_trans h k)
      · exact .inl h
    · rcases k with k | ⟨rfl, k⟩
      · exact .inl k
      · exact .inr ⟨rfl, bless_trans h k⟩
theorem bless_total : ∀ {a b : List UInt8}, a ≠ b → Op.bytesLess a b = true ∨ Op.bytesLess b a = true
  | [], [], h => absurd rfl h
  | [], _ :: _, _ => .inl rfl
  | _ :: _, [], _ => .inr rfl
  | x :: a, y :: b, h => by
    simp only [Op.bytesLess, Bool.or_eq_true, Bool.and_eq_true, decide_eq_true_eq, beq_iff_eq]
    by_cases e : x = y
    · subst e
      have : a ≠ b := fun e => h (by rw [e])
      rcases bless_total this with k | k
      · exact .inl (.inr ⟨rfl, k⟩)
      · exact .inr (.inr ⟨rfl, k⟩)
    · rcases Nat.lt_or_gt_of_ne (fun k => e (UInt8.toNat_inj.1 k)) with k | k
      · exact .inl (.inl (UInt8.lt_iff_toNat_lt.2 k))
      · exact .inr (.inl (UInt8.lt_iff_toNat_lt.2 k))
theorem lessP_irr : ∀ (X : List (List UInt8)), lessP X X = false
  | [] => rfl
  | x :: X => by rw [lessP, if_pos rfl]; exact lessP_irr X
theorem lessP_trans : ∀ {X Y Z : List (List UInt8)}, lessP X Y = true → lessP Y Z = true → lessP X Z = true
  | [], [], _, h, _ => by simp [lessP] at h
  | _ :: _, [], _, h, _ => by simp [lessP] at h
  | _, _ :: _, [], _, h => by simp [lessP] at h
  | [], _ :: _, _ :: _, _, _ => rfl
  | x :: X, y :: Y, z :: Z, h, k => by
    rw [lessP] at h k ⊢
    split at h
    · rename_i e; subst e
      split at k
      · rename_i e; subst e
        rw [if_pos rfl]; exact lessP_trans h k
      · rename_i e; rw [if_neg e]; exact k
    · rename_i e
      split at k
      · rename_i e2; subst e2; rw [if_neg e]; exact h
      · rename_i e2
        have := bless_trans h k
        rw [if_neg (fun e3 => by subst e3; rw [bless_irr] at this; cases this)]
        exact this
theorem lessP_total : ∀ {X Y : List (List UInt8)}, X ≠ Y → lessP X Y = true ∨ lessP Y X = true
  | [], [], h => absurd rfl h
  | [], _ :: _, _ => .inl rfl
  | _ :: _, [], _ => .inr rfl
  | x :: X, y :: Y, h => by
    rw [lessP, lessP]
    by_cases e : x = y
    · subst e
      rw [if_pos rfl, if_pos rfl]
      exact lessP_total (fun k => h (by rw [k]))
    · rw [if_neg e, if_neg (fun k => e k.symm)]
      exact bless_total e
theorem lessP_asymm {X Y : List (List UInt8)} (h : lessP X Y = true) : lessP Y X = false := by
  cases k : lessP Y X with
  | false => rfl
  | true => have := lessP_trans h k; rw [lessP_irr] at this; cases this
/-- A list of parts comes ahead of all that go on from it. -/
theorem lessP_append : ∀ (X : List (List UInt8)) {Z : List (List UInt8)}, Z ≠ [] → lessP X (X ++ Z) = true
  | [], [], h => absurd rfl h
  | [], _ :: _, _ => rfl
  | x :: X, Z, h => by rw [List.cons_append, lessP, if_pos rfl]; exact lessP_append X h
/-- What lies between a list and one that goes on from it goes on from it. -/
theorem lessP_between : ∀ (X : List (List UInt8)) {Y Z : List (List UInt8)}, lessP X Y = true → lessP Y (X ++ Z) = true → ∃ W, Y = X ++ W
  | [], Y, _, _, _ => ⟨Y, rfl⟩
  | x :: X, [], _, h, _ => by simp [lessP] at h
  | x :: X, y :: Y, Z, h, k => by
    rw [List.cons_append] at k
    rw [lessP] at h k
    by_cases e : x = y
    · subst e
      rw [if_pos rfl] at h k
      obtain ⟨W, rfl⟩ := lessP_between X h k
      exact ⟨W, rfl⟩
    · rw [if_neg e] at h
      rw [if_neg (fun k => e k.symm)] at k
      have := bless_trans h k
      rw [bless_irr] at this; cases this
/-- Parts, glued, are the text. -/
theorem glue_split (l : List UInt8) : glueB (splitB l) = l := by
  by_cases h : l = []
  · subst h; rfl
  · obtain ⟨h1, h2, h3⟩ := cutN_inv l l.length (Nat.le_refl _)
    rw [splitB_ne h]
    by_cases hL : (cutN l l.length).1 = []
    · rw [hL]
      have : lastB l = 0 := h1.1 hL
      show baseB l = l
      unfold baseB; rw [this]; rfl
    · rw [glueB_snoc _ _ hL, h3]
      have hpos : 0 < lastB l := Nat.pos_of_ne_zero fun e => hL (h1.2 e)
      have h47 : l[lastB l - 1]? = some 47 := h2 hpos
      have hf1 : lastB l - 1 < l.length := (List.getElem?_eq_some_iff.1 h47).1
      have e2 : l.drop (lastB l - 1) = 47 :: l.drop (lastB l) := by
        rw [List.drop_eq_getElem_cons hf1, show lastB l - 1 + 1 = lastB l by omega]
        congr 1
        exact Option.some.inj ((List.getElem?_eq_getElem hf1).symm.trans h47)
      show l.take (lastB l - 1) ++ 47 :: l.drop (lastB l) = l
      rw [← e2, List.take_append_drop]
theorem splitB_inj {a b : List UInt8} (h : splitB a = splitB b) : a = b := by rw [← glue_split a, h, glue_split]
theorem splitB_nil_iff {a : List UInt8} : splitB a = [] ↔ a = [] := ⟨fun h => by rw [← glue_split a, h]; rfl, fun h => by subst h; rfl⟩
end Go.Proofs.YtlbbehfbjbbckaaDoor

/-! The document's paths: Right, glue, Parent, Base, Less. -/
set_option linter.unusedVariables false
set_option linter.unusedSimpArgs false
namespace Go.Proofs.YtlbbehfbjbbckaaDoor
open Go.RowKit
attribute [local go_sem] str_toList

set_option maxRecDepth 100000 in
theorem nought_any (x : List UInt8) (w : World) (hs : x.length ≤ 9223372036854775806) :
    Calls Tryd.prog 44 #[.string (str x)] w fun e w' => e = .returned (.bool (decide ((0 : UInt8) ∈ x))) ∧ w' = w := by
  obtain ⟨s, hs0⟩ : ∃ s, str x = s := ⟨_, rfl⟩
  have HD := Lib.hid (show s.data.toList = x by rw [← hs0]; exact str_data x)
  have hz : s.size ≤ 9223372036854775806 := by rw [← hs0, str_size]; exact hs
  rw [hs0]
  clear hs0 hs
  go_enter Tryd.func44, Tryd.ntmps44
  go_wp2_with fail
  go_loopw [3] (fun a wr => ∃ i : Nat, a = .int .i64 i ∧ i ≤ s.size ∧ (∀ j : Nat, j < i → x[j]? ≠ some 0) ∧ wr = w) (fun a _ => s.size - (intOf a).toNat)
  case atStart => exact ⟨0, rfl, by omega, fun j h => by omega, rfl⟩
  case round =>
    obtain ⟨i, rfl, hin, hall, rfl⟩ := hrel
    have HA := Lib.hid hall
    clear hall
    rcases Nat.lt_or_ge i s.size with h | h
    · by_cases hq : (s[i]'h).toNat = 0
      · have hq2 : (((s[i]'h).toNat : Int) == 0) = true := by simp [hq]
        have K := Lib.hid (show decide ((0 : UInt8) ∈ x) = true from decide_eq_true (by
          have h1 := data_at s i h
          rw [HD.out] at h1
          have h2 : s[i]'h = 0 := UInt8.toNat_inj.1 (by rw [hq]; rfl)
          rw [h2] at h1
          exact List.mem_of_getElem? h1))
        clear hq
        go_wp2_with fail
        go_ret
        exact ⟨by rw [K.out]; rfl, rfl⟩
      · have hq2 : (((s[i]'h).toNat : Int) == 0) = false := by simp; omega
        have K := Lib.hid (show x[i]? ≠ some 0 from fun e => hq (by
          have h1 := data_at s i h
          rw [HD.out, e] at h1
          rw [← Option.some.inj h1]; rfl))
        clear hq
        go_wp2_with fail
        go_roundw
        case rel => exact ⟨i+1, by go_num, by omega, fun j hj => by
          rcases Nat.lt_or_ge j i with h' | h'
          · exact HA.out j h'
          · obtain rfl : j = i := by omega
            exact K.out, by trivial⟩
        case measure => simp [intOf]; omega
    · have K := Lib.hid (show decide ((0 : UInt8) ∈ x) = false from decide_eq_false fun hm => by
        obtain ⟨j, hj⟩ := List.getElem?_of_mem hm
        have hl : x.length = s.size := by rw [← HD.out, Array.length_toList]; rfl
        exact HA.out j (by have := (List.getElem?_eq_some_iff.1 hj).1; omega) hj)
      go_wp2_with fail
      go_ret
      exact ⟨by rw [K.out]; rfl, rfl⟩
theorem partOk_not (x : List UInt8) : partOk x = false ↔ x = [] ∨ x = [46] ∨ x = [46, 46] ∨ 48 < x.length ∨ decide ((0 : UInt8) ∈ x) = true := by
  unfold partOk
  by_cases h1 : x = []
  · simp [h1]
  by_cases h3 : x = [46]
  · simp [h3]
  by_cases h4 : x = [46, 46]
  · simp [h4]
  simp [h1, h3, h4]
  by_cases h2 : x.length ≤ 48
  · simp [h2]; intro h; omega
  · simp [h2]; omega
set_option maxRecDepth 100000 in
set_option maxHeartbeats 2000000 in
theorem refRight_any (p : ByteArray) (X : List (List UInt8)) (w : World) (hX : splitB p.data.toList = X) (hp : p.size ≤ 2097152) :
    Calls Tryd.prog 26 #[.string p] w fun e w' => e = .returned (.bool (rightB p.data.toList)) ∧ Below w.heap.size w w' := by
  have HX0 := Lib.hid hX
  have hlen : p.data.toList.length = p.size := by rw [Array.length_toList]; rfl
  have HR : Hid (rightB p.data.toList = (X.all partOk && (decide (X.length ≤ 12) && decide (p.size ≤ 200)))) := Lib.hid (by unfold rightB; rw [hX, hlen])
  clear hX hlen
  go_enter Tryd.func26, Tryd.ntmps26
  go_wp2_with fail
  refine (refSplit_any p _ hp).mono ?_
  rintro e w1 ⟨⟨A, n, c, rfl, hn, hnc, hsA⟩, hb1⟩
  rw [HX0.out] at hn hsA
  have HB1 := Lib.hid hb1
  have HSA := Lib.hid hsA
  have HN := Lib.hid hn
  have hmx := hsA.max
  clear hb1 hsA hn
  rcases Nat.lt_or_ge 12 n with h1 | h1
  · have q1 : decide ((12 : Int) < n) = true := by simp; omega
    have K1 := Lib.hid (show decide (X.length ≤ 12) = false by rw [← HN.out]; simp; omega)
    clear h1
    go_wp2_with fail
    go_ret
    exact ⟨by rw [HR.out, K1.out]; simp, HB1.out⟩
  rcases Nat.lt_or_ge 200 p.size with h2 | h2
  · have q1 : decide ((12 : Int) < n) = false := by simp; omega
    have q2 : decide ((200 : Int) < p.size) = true := by simp; omega
    have K2 := Lib.hid (show decide (p.size ≤ 200) = false by simp; omega)
    clear h1 h2
    go_wp2_with fail
    go_ret
    exact ⟨by rw [HR.out, K2.out]; simp, HB1.out⟩
  have q1 : decide ((12 : Int) < n) = false := by simp; omega
  have q2 : decide ((200 : Int) < p.size) = false := by simp; omega
  have K1 := Lib.hid (show decide (X.length ≤ 12) = true by rw [← HN.out]; simpa using h1)
  have K2 := Lib.hid (show decide (p.size ≤ 200) = true by simpa using h2)
  clear h1 h2
  go_wp2_with fail
  go_loopw [4] (fun a wr => ∃ i : Nat, a = .int .i64 i ∧ i ≤ n ∧ (∀ (j : Nat) x, j < i → X[j]? = some x → partOk x = true) ∧ wr = w1) (fun a _ => n - (intOf a).toNat)
  case atStart => exact ⟨0, rfl, by omega, fun j x h => by omega, rfl⟩
  case round =>
    obtain ⟨i, rfl, hin, hall, rfl⟩ := hrel
    have HA := Lib.hid hall
    clear hall
    rcases Nat.lt_or_ge i n with h | h
    · obtain ⟨b1, o1, x, hA1, hr1, c1⟩ := HSA.out.strRow h
      subst hA1
      have HR1 := Lib.hid hr1
      clear hr1
      have bad : partOk x = false → Hid (X.all partOk = false) := fun hp => Lib.hid (all_false HR1.out hp)
      have HZ := Lib.hid (str_size x)
      have hxl : x.length ≤ 48 → x.length ≤ 9223372036854775806 := fun h => by omega
      by_cases g1 : x = []
      · have K := bad ((partOk_not x).2 (.inl g1))
        clear bad hxl
        subst g1
        go_wp2_with fail
        go_ret
        exact ⟨by rw [HR.out, K.out]; rfl, HB1.out⟩
      by_cases g2 : x = [46]
      · have K := bad ((partOk_not x).2 (.inr (.inl g2)))
        clear bad hxl
        subst g2
        go_wp2_with fail
        go_ret
        exact ⟨by rw [HR.out, K.out]; rfl, HB1.out⟩
      by_cases g3 : x = [46, 46]
      · have K := bad ((partOk_not x).2 (.inr (.inr (.inl g3))))
        clear bad hxl
        subst g3
        go_wp2_with fail
        go_ret
        exact ⟨by rw [HR.out, K.out]; rfl, HB1.out⟩
      rcases Nat.lt_or_ge 48 x.length with g4 | g4
      · have K := bad ((partOk_not x).2 (.inr (.inr (.inr (.inl g4)))))
        have q4 : decide ((48 : Int) < (str x).size) = true := by rw [HZ.out]; simp; omega
        clear bad hxl g4
        go_wp2_with fail
        go_ret
        exact ⟨by rw [HR.out, K.out]; rfl, HB1.out⟩
      have q4 : decide ((48 : Int) < (str x).size) = false := by rw [HZ.out]; simp; omega
      have KP := Lib.hid (partOk_not x)
      have KG := Lib.hid (show ¬ (x = [] ∨ x = [46] ∨ x = [46, 46] ∨ 48 < x.length) from by rintro (h | h | h | h); exact g1 h; exact g2 h; exact g3 h; omega)
      have hx8 := hxl g4
      have g1b : x.isEmpty = false := by simpa using g1
      have g2b : (x == [46]) = false := by simpa using g2
      have g3b : (x == [46, 46]) = false := by simpa using g3
      clear hxl g4 g1 g2 g3
      go_wp2_with fail
      refine (nought_any x _ hx8).mono ?_
      rintro e w' ⟨rfl, rfl⟩
      cases h5 : decide ((0 : UInt8) ∈ x) with
      | true =>
        have K := bad (KP.out.2 (.inr (.inr (.inr (.inr h5)))))
        clear bad h5
        go_wp2_with fail
        go_ret
        exact ⟨by rw [HR.out, K.out]; rfl, HB1.out⟩
      | false =>
        have K := Lib.hid (show partOk x = true from by
          cases hp : partOk x with
          | true => rfl
          | false =>
            rcases KP.out.1 hp with h | h | h | h | h
            · exact absurd (.inl h) KG.out
            · exact absurd (.inr (.inl h)) KG.out
            · exact absurd (.inr (.inr (.inl h))) KG.out
            · exact absurd (.inr (.inr (.inr h))) KG.out
            · rw [h5] at h; cases h)
        clear bad h5
        go_wp2_with fail
        go_roundw
        case rel => exact ⟨i+1, by go_num, by omega, fun j y hj hy => by
          rcases Nat.lt_or_ge j i with h' | h'
          · exact HA.out j y h' hy
          · obtain rfl : j = i := by omega
            rw [HR1.out] at hy; cases hy; exact K.out, by trivial⟩
        case measure => simp [intOf]; omega
    · obtain rfl : i = n := by omega
      have KA := Lib.hid (all_true (L := X) fun j x hx => HA.out j x (by rw [HN.out]; exact (List.getElem?_eq_some_iff.1 hx).1) hx)
      go_wp2_with fail
      go_ret
      exact ⟨by rw [HR.out, KA.out, K1.out, K2.out]; rfl, HB1.out⟩
end Go.Proofs.YtlbbehfbjbbckaaDoor

/-! The document's paths: glue, Parent, Base, Less. -/
set_option linter.unusedVariables false
set_option linter.unusedSimpArgs false
namespace Go.Proofs.YtlbbehfbjbbckaaDoor
open Go.RowKit
attribute [local go_sem] str_toList

theorem glueB_take_le : ∀ (X : List (List UInt8)) (i : Nat), (glueB (X.take i)).length ≤ (glueB X).length
  | [], i => by simp
  | [x], 0 => by simp [glueB]
  | [x], i+1 => by simp [glueB]
  | x :: y :: r, 0 => by simp [glueB]
  | x :: y :: r, 1 => by simp [glueB]
  | x :: y :: r, i+2 => by
    have := glueB_take_le (y :: r) (i + 1)
    simp only [List.take_succ_cons, glueB, List.length_append, List.length_cons] at this ⊢
    omega
theorem strCells_str (x : List UInt8) : Lib.strCells (str x) = bys x := by rw [strCells_bys, str_data]
end Go.Proofs.YtlbbehfbjbbckaaDoor

/-! The document's paths: Parent, Base, Less. -/
set_option linter.unusedVariables false
set_option linter.unusedSimpArgs false
namespace Go.Proofs.YtlbbehfbjbbckaaDoor
open Go.RowKit
attribute [local go_sem] str_toList

theorem parentB_len (l : List UInt8) : (parentB l).length ≤ l.length := by unfold parentB; rw [List.length_take]; omega
end Go.Proofs.YtlbbehfbjbbckaaDoor

/-! Parts of paths: what stands above, what is glued is cut again. -/
set_option linter.unusedVariables false
set_option linter.unusedSimpArgs false
namespace Go.Proofs.YtlbbehfbjbbckaaDoor
open Go.RowKit

theorem cutN_last (l : List UInt8) : ∀ i j, (cutN l i).2 ≤ j → j < i → l[j]? ≠ some 47
  | 0, j, _, h => absurd h (Nat.not_lt_zero _)
  | i+1, j, h1, h2 => by
    rw [cutN] at h1
    split at h1
    · simp only at h1; omega
    · rename_i h3
      rcases Nat.lt_or_ge j i with h | h
      · exact cutN_last l i j h1 h
      · obtain rfl : j = i := by omega
        exact h3
theorem cutN_take (l : List UInt8) (m : Nat) : ∀ i, i ≤ m → cutN (l.take m) i = cutN l i
  | 0, _ => rfl
  | i+1, h => by
    have ih := cutN_take l m i (by omega)
    rw [cutN, cutN, ih, List.getElem?_take, if_pos (show i < m by omega)]
    have e : ((l.take m).drop (cutN l i).2).take (i - (cutN l i).2) = (l.drop (cutN l i).2).take (i - (cutN l i).2) := by
      rw [List.drop_take, List.take_take, Nat.min_eq_left (by omega)]
    rw [e]
theorem split_parent {l : List UInt8} (hl : l ≠ []) (hr : rightB l = true) : splitB l = splitB (parentB l) ++ [baseB l] := by
  rw [splitB_ne hl]
  congr 1
  obtain ⟨h1, h2, _⟩ := cutN_inv l l.length (Nat.le_refl _)
  have hle := (cutN_le l l.length).1
  rcases Nat.eq_zero_or_pos (cutN l l.length).2 with hz | hp
  · rw [h1.2 hz]
    unfold parentB lastB
    rw [hz]; rfl
  · have h47 := h2 hp
    have hlast : lastB l = (cutN l l.length).2 := rfl
    obtain ⟨g, hg⟩ : ∃ g, (cutN l l.length).2 = g + 1 := ⟨(cutN l l.length).2 - 1, by omega⟩
    rw [hg] at h47 hle hlast
    simp only [Nat.add_sub_cancel] at h47
    have hcut : cutN l l.length = cutN l (g + 1) := by
      have := cutN_skip l (g + 1) (l.length - (g + 1)) (fun j h3 _ => cutN_last l l.length j (by rw [hg]; exact h3) (by
        rename_i h4
        omega))
      rw [show g + 1 + (l.length - (g + 1)) = l.length by omega] at this
      exact this
    have hpar : parentB l = l.take g := by unfold parentB; rw [hlast]; rfl
    rw [hcut, cutN_slash h47, hpar]
    show (cutN l g).1 ++ [(l.drop (cutN l g).2).take (g - (cutN l g).2)] = splitB (l.take g)
    have hlen : (l.take g).length = g := by rw [List.length_take]; omega
    by_cases hq : l.take g = []
    · exfalso
      rw [hq] at hlen
      have hg0 : g = 0 := hlen.symm
      subst hg0
      have hmem : ([] : List UInt8) ∈ splitB l := by
        rw [splitB_ne hl, hcut, cutN_slash h47]
        simp [cutN]
      unfold rightB at hr
      rw [Bool.and_eq_true, List.all_eq_true] at hr
      have := hr.1 [] hmem
      simp [partOk] at this
    · unfold splitB
      rw [if_neg hq, hlen, cutN_take l g g (Nat.le_refl _)]
      congr 2
      rw [List.drop_take]
theorem rightB_parent {l : List UInt8} (hr : rightB l = true) : rightB (parentB l) = true := by
  by_cases hl : l = []
  · subst hl; rfl
  · have h := hr
    have hs := split_parent hl hr
    have hle := parentB_len l
    unfold rightB at h ⊢
    rw [hs] at h
    simp only [List.all_append, Bool.and_eq_true, decide_eq_true_eq, List.length_append, List.length_singleton] at h ⊢
    exact ⟨h.1.1, by omega, by omega⟩
/-- The parts of a text, plainly. -/
def spl : List UInt8 → List (List UInt8)
  | [] => [[]]
  | c :: r => if c = 47 then [] :: spl r else match spl r with | [] => [[c]] | x :: xs => (c :: x) :: xs
theorem spl_ne : ∀ l, spl l ≠ []
  | [] => by simp [spl]
  | c :: r => by
    rw [spl]
    split
    · simp
    · split <;> simp
theorem spl_slash : ∀ (a b : List UInt8), (47 : UInt8) ∉ a → spl (a ++ 47 :: b) = a :: spl b
  | [], b, _ => by simp [spl]
  | c :: a, b, h => by
    simp only [List.mem_cons, not_or] at h
    rw [List.cons_append, spl, if_neg (fun e => h.1 e.symm), spl_slash a b h.2]
theorem spl_one : ∀ (a : List UInt8), (47 : UInt8) ∉ a → spl a = [a]
  | [], _ => rfl
  | c :: a, h => by
    simp only [List.mem_cons, not_or] at h
    rw [spl, if_neg (fun e => h.1 e.symm), spl_one a h.2]
theorem spl_glue : ∀ (Y : List (List UInt8)), Y ≠ [] → (∀ x ∈ Y, (47 : UInt8) ∉ x) → spl (glueB Y) = Y
  | [], h, _ => absurd rfl h
  | [x], _, h => spl_one x (h x (List.mem_singleton.2 rfl))
  | x :: y :: r, _, h => by
    rw [glueB, spl_slash x _ (h x (List.mem_cons_self ..)), spl_glue (y :: r) (by simp) (fun z hz => h z (List.mem_cons_of_mem _ hz))]
theorem cutN_noslash (l : List UInt8) : ∀ i, ∀ x ∈ (cutN l i).1, (47 : UInt8) ∉ x
  | 0, x, h => by simp [cutN] at h
  | i+1, x, h => by
    rw [cutN] at h
    split at h
    · rcases List.mem_append.1 h with h | h
      · exact cutN_noslash l i x h
      · rw [List.mem_singleton] at h
        subst h
        intro hm
        obtain ⟨k, hk⟩ := List.getElem?_of_mem hm
        rw [List.getElem?_take] at hk
        split at hk
        · rw [List.getElem?_drop] at hk
          exact cutN_last l i ((cutN l i).2 + k) (by omega) (by omega) hk
        · cases hk
    · exact cutN_noslash l i x h
theorem splitB_noslash (l : List UInt8) : ∀ x ∈ splitB l, (47 : UInt8) ∉ x := by
  intro x h
  by_cases hl : l = []
  · subst hl; simp [splitB] at h
  · rw [splitB_ne hl] at h
    rcases List.mem_append.1 h with h | h
    · exact cutN_noslash l _ x h
    · rw [List.mem_singleton] at h
      subst h
      intro hm
      obtain ⟨k, hk⟩ := List.getElem?_of_mem hm
      unfold baseB at hk
      rw [List.getElem?_drop] at hk
      exact cutN_last l l.length (lastB l + k) (Nat.le_add_right _ _) (List.getElem?_eq_some_iff.1 hk).1 hk
theorem splitB_spl {l : List UInt8} (hl : l ≠ []) : splitB l = spl l := by
  have h := spl_glue (splitB l) (fun e => hl (splitB_nil_iff.1 e)) (splitB_noslash l)
  rw [glue_split] at h
  exact h.symm
theorem glueB_nil {Y : List (List UInt8)} (h : glueB Y = []) : Y = [] ∨ Y = [[]] := by
  match Y, h with
  | [], _ => exact .inl rfl
  | [x], h => exact .inr (by rw [show x = [] from h])
  | x :: y :: r, h => rw [glueB] at h; simp at h
theorem split_glue {Y : List (List UInt8)} (h : ∀ x ∈ Y, (47 : UInt8) ∉ x) (hne : ∀ x ∈ Y, x ≠ []) : splitB (glueB Y) = Y := by
  by_cases hY : Y = []
  · subst hY; rfl
  · rw [splitB_spl (fun e => by
      rcases glueB_nil e with e | e
      · exact hY e
      · subst e; exact hne [] (List.mem_singleton.2 rfl) rfl), spl_glue Y hY h]
theorem right_part {l : List UInt8} (hr : rightB l = true) {x : List UInt8} (hx : x ∈ splitB l) : partOk x = true := by
  unfold rightB at hr
  rw [Bool.and_eq_true, List.all_eq_true] at hr
  exact hr.1 x hx
theorem part_ne {x : List UInt8} (h : partOk x = true) : x ≠ [] := by
  unfold partOk at h
  rw [Bool.and_eq_true] at h
  exact of_decide_eq_true h.1
/-- A path with parts behind it. -/
theorem split_below {p : List UInt8} (hp : rightB p = true) {Z : List (List UInt8)} (h : ∀ x ∈ Z, (47 : UInt8) ∉ x) (hne : ∀ x ∈ Z, x ≠ []) : splitB (glueB (splitB p ++ Z)) = splitB p ++ Z :=
  split_glue (fun x hx => (List.mem_append.1 hx).elim (splitB_noslash p x) (h x)) (fun x hx => (List.mem_append.1 hx).elim (fun k => part_ne (right_part hp k)) (hne x))
theorem rightB_len12 {l : List UInt8} (h : rightB l = true) : (splitB l).length ≤ 12 := by
  unfold rightB at h
  simp only [Bool.and_eq_true, decide_eq_true_eq] at h
  exact h.2.1
/-- A path within a right one, from the top. -/
theorem right_pfx {l : List UInt8} (hr : rightB l = true) : ∀ {n : Nat} {X Z : List (List UInt8)}, n = Z.length → splitB l = X ++ Z → ∃ p, rightB p = true ∧ splitB p = X
  | 0, X, Z, hn, h => ⟨l, hr, by rw [h, List.eq_nil_of_length_eq_zero hn.symm, List.append_nil]⟩
  | n+1, X, Z, hn, h => by
    have hZ : Z ≠ [] := fun e => by rw [e] at hn; cases hn
    have hl : l ≠ [] := fun e => by rw [e, splitB_nil] at h; exact hZ (List.append_eq_nil_iff.1 h.symm).2
    have h2 := split_parent hl hr
    rw [h, ← List.dropLast_concat_getLast hZ, ← List.append_assoc] at h2
    exact right_pfx (rightB_parent hr) (n := n) (Z := Z.dropLast) (by rw [List.length_dropLast]; omega) (List.append_inj' h2 rfl).1.symm
end Go.Proofs.YtlbbehfbjbbckaaDoor

/-! Whether a target is safe, plainly; what strings.Split gives. -/
set_option linter.unusedVariables false
set_option linter.unusedSimpArgs false
namespace Go.Proofs.YtlbbehfbjbbckaaDoor
open Go.RowKit

theorem split_spl : ∀ l : List UInt8, Lib.split l [47] = spl l
  | [] => by
    unfold Lib.split
    rw [Lib.count_miss (by simp [Lib.index])]
    rfl
  | c :: r => by
    have ih := split_spl r
    unfold Lib.split at ih ⊢
    by_cases h : c = 47
    · subst h
      have hix : Lib.index (47 :: r) [47] = ((0 : Nat) : Int) := by rw [Lib.index]; simp [List.isPrefixOf]
      rw [Lib.count_cons_eq, Nat.add_comm, Lib.splitK, hix]
      simp only [spl]
      rw [← ih]
      simp
    · have hp : ([47] : List UInt8).isPrefixOf (c :: r) = false := by simp [List.isPrefixOf, Ne.symm h]
      have hix : Lib.index (c :: r) [47] = if Lib.index r [47] == -1 then -1 else Lib.index r [47] + 1 := by rw [Lib.index, hp]; simp
      rw [Lib.count_cons_ne c 47 r h, spl, if_neg h, ← ih]
      by_cases hm : Lib.index r [47] = -1
      · rw [Lib.count_miss hm]; rfl
      · have hge := Lib.index_ge r [47]
        obtain ⟨j, hj⟩ : ∃ j : Nat, Lib.index r [47] = j := ⟨(Lib.index r [47]).toNat, by omega⟩
        have hix' : Lib.index (c :: r) [47] = ((j + 1 : Nat) : Int) := by rw [hix, if_neg (fun e => hm (beq_iff_eq.1 e)), hj]; omega
        rw [Lib.count_hit (by simp) hj, Nat.add_comm, Lib.splitK, Lib.splitK, hix', hj]
        have n1 : (((j + 1 : Nat) : Int) == -1) = false := by
          rw [beq_eq_false_iff_ne]; omega
        have n2 : (((j : Nat) : Int) == -1) = false := by
          rw [beq_eq_false_iff_ne]; omega
        rw [n1, n2]
        simp
theorem split_strs (s : ByteArray) (hs : s.size ≠ 0) : (Lib.splitB ⟨#[47]⟩ 0 (Lib.countB s ⟨#[47]⟩) s).map Value.string = strs (splitB s.data.toList) := by
  have h1 := Lib.splitB_data ⟨#[47]⟩ 0 (Lib.countB s ⟨#[47]⟩) s
  have h2 : Lib.splitK (⟨#[47]⟩ : ByteArray).data.toList 0 (Lib.countB s ⟨#[47]⟩) s.data.toList = spl s.data.toList := split_spl s.data.toList
  have hne : s.data.toList ≠ [] := fun e => hs (by have : s.data.toList.length = 0 := by rw [e]; rfl
                                                   rwa [Array.length_toList] at this)
  rw [h2, ← splitB_spl hne] at h1
  rw [← h1]
  unfold strs
  rw [List.map_map]
  refine List.map_congr_left fun x _ => ?_
  show Value.string x = Value.string (str x.data.toList)
  congr 1
def scanU : List (List UInt8) → Nat → Nat → Option Nat
  | [], u, _ => some u
  | x :: r, u, n => if x = [] ∨ x = [46] then scanU r u n else if x = [46, 46] then (if 0 < n then none else scanU r (u + 1) n) else scanU r u (n + 1)
def finU (r : Option Nat) (n : Nat) : Bool := match r with | none => false | some u => decide (u < n)
def safeU (p tg : List UInt8) : Bool :=
  if p = [] ∨ rightB p = false ∨ tg = [] ∨ tg[0]? = some 47 then false
  else finU (scanU (splitB tg) 0 0) (splitB p).length
theorem scanU_le : ∀ (r : List (List UInt8)) (u n : Nat) {v : Nat}, scanU r u n = some v → v ≤ u + r.length
  | [], u, n, v, h => by cases h; simp
  | x :: r, u, n, v, h => by
    rw [scanU] at h
    split at h
    · have := scanU_le r u n h; rw [List.length_cons]; omega
    split at h
    · split at h
      · cases h
      · have := scanU_le r (u + 1) n h; rw [List.length_cons]; omega
    · have := scanU_le r u (n + 1) h; rw [List.length_cons]; omega
end Go.Proofs.YtlbbehfbjbbckaaDoor

namespace Go.Proofs
open Go.Shelf
def Tryd.lays128_ren : Go.Shelf.Ren := ⟨fun | 128 => 94 | n => n, fun | 51 => 96 | 3 => 3 | 4 => 4 | 46 => 90 | 5 => 5 | 9 => 9 | n => n, fun | n => n⟩
theorem Tryd.lays128 : Go.Proofs.Lays.n128 Tryd.prog Tryd.lays128_ren := {
  mixed := by kernel_rfl
  f128 := Tryd.func94.trans (congrArg some (by kernel_rfl))
  t3 := Tryd.underlying3
  a3 := Tryd.isAgg3
  z3 := Tryd.sizeOf3
  v3 := Tryd.zeroValue3
  t4 := Tryd.underlying4
  a4 := Tryd.isAgg4
  z4 := Tryd.sizeOf4
  v4 := Tryd.zeroValue4
  t5 := Tryd.underlying5
  a5 := Tryd.isAgg5
  z5 := Tryd.sizeOf5
  v5 := Tryd.zeroValue5
  t9 := Tryd.underlying9
  a9 := Tryd.isAgg9
  z9 := Tryd.sizeOf9
  v9 := Tryd.zeroValue9
  t46 := Tryd.underlying90
  a46 := Tryd.isAgg90
  z46 := Tryd.sizeOf90
  v46 := Tryd.zeroValue90
  t51 := Tryd.underlying96
  a51 := Tryd.isAgg96
  z51 := Tryd.sizeOf96
  v51 := Tryd.zeroValue96 }
/-- bits.Len32: "Len32 returns the minimum number of bits required to represent x; the result is 0 for x == 0.": IT RETURNS 'Lib.bitLen x'; the world is as it was. ('h0', 'h1': x is a uint32.) (LAID: no walk: one application.) -/
theorem Tryd.bits_Len32 (x : Int) (w : World) (h0 : 0 ≤ x) (h1 : x ≤ 4294967295) :
    Calls Tryd.prog 94 #[.int .u32 x] w fun e w' => e = .returned (.int .i64 (Lib.bitLen x.toNat)) ∧ w' = w := Any.bits_Len32 Tryd.lays128 x w h0 h1
def Tryd.lays125_ren : Go.Shelf.Ren := ⟨fun | 125 => 84 | 128 => 94 | 129 => 95 | n => n, fun | 46 => 90 | 3 => 3 | 51 => 96 | 53 => 112 | 4 => 4 | 5 => 5 | 9 => 9 | n => n, fun | n => n⟩
theorem Tryd.lays125 : Go.Proofs.Lays.n125 Tryd.prog Tryd.lays125_ren := {
  mixed := by kernel_rfl
  f125 := Tryd.func84.trans (congrArg some (by kernel_rfl))
  f128 := Tryd.func94.trans (congrArg some (by kernel_rfl))
  f129 := Tryd.func95.trans (congrArg some (by kernel_rfl))
  t3 := Tryd.underlying3
  a3 := Tryd.isAgg3
  z3 := Tryd.sizeOf3
  v3 := Tryd.zeroValue3
  t4 := Tryd.underlying4
  a4 := Tryd.isAgg4
  z4 := Tryd.sizeOf4
  v4 := Tryd.zeroValue4
  t5 := Tryd.underlying5
  a5 := Tryd.isAgg5
  z5 := Tryd.sizeOf5
  v5 := Tryd.zeroValue5
  t9 := Tryd.underlying9
  a9 := Tryd.isAgg9
  z9 := Tryd.sizeOf9
  v9 := Tryd.zeroValue9
  t46 := Tryd.underlying90
  a46 := Tryd.isAgg90
  z46 := Tryd.sizeOf90
  v46 := Tryd.zeroValue90
  t51 := Tryd.underlying96
  a51 := Tryd.isAgg96
  z51 := Tryd.sizeOf96
  v51 := Tryd.zeroValue96
  t53 := Tryd.underlying112
  a53 := Tryd.isAgg112
  z53 := Tryd.sizeOf112
  v53 := Tryd.zeroValue112 }
/-- bits.Len: "Len returns the minimum number of bits required to represent x; the result is 0 for x == 0.": IT RETURNS 'Lib.bitLen x'; the world is as it was. (A uint has 64 bits in the model.) ITS CALLEE bits.Len64 IS MET BY ITS OWN CONTRACT OFF THE SHELF (lay that first). (LAID: no walk: one application.) -/
theorem Tryd.bits_Len (x : Int) (w : World) (h0 : 0 ≤ x) (h1 : x ≤ 18446744073709551615) :
    Calls Tryd.prog 84 #[.int .u64 x] w fun e w' => e = .returned (.int .i64 (Lib.bitLen x.toNat)) ∧ w' = w := Any.bits_Len Tryd.lays125 x w h0 h1
def Tryd.lays137_ren : Go.Shelf.Ren := ⟨fun | 137 => 45 | 217 => 61 | 266 => 71 | n => n, fun | 9 => 9 | 5 => 5 | 3 => 3 | n => n, fun | n => n⟩
theorem Tryd.lays137 : Go.Proofs.Lays.n137 Tryd.prog Tryd.lays137_ren := {
  mixed := by kernel_rfl
  f137 := Tryd.func45.trans (congrArg some (by kernel_rfl))
  f217 := Tryd.func61.trans (congrArg some (by kernel_rfl))
  f266 := Tryd.func71.trans (congrArg some (by kernel_rfl))
  t3 := Tryd.underlying3
  a3 := Tryd.isAgg3
  z3 := Tryd.sizeOf3
  v3 := Tryd.zeroValue3
  t5 := Tryd.underlying5
  a5 := Tryd.isAgg5
  z5 := Tryd.sizeOf5
  v5 := Tryd.zeroValue5
  t9 := Tryd.underlying9
  a9 := Tryd.isAgg9
  z9 := Tryd.sizeOf9
  v9 := Tryd.zeroValue9 }
open Go.RowKit in
/-- strings.IndexByte: "IndexByte returns the index of the first instance of c in s, or -1 if c is not present in s.": IT RETURNS 'Lib.indexByte s c'; the world is as it was. (LAID: no walk: one application.) -/
theorem Tryd.strings_IndexByte (s : ByteArray) (c : Int) (w : World) :
    Calls Tryd.prog 45 #[.string s, .int .u8 c] w fun e w' => e = .returned (.int .i64 (Lib.indexByte s.data.toList c.toNat.toUInt8)) ∧ w' = w := Any.strings_IndexByte Tryd.lays137 s c w
def Tryd.lays210_ren : Go.Shelf.Ren := ⟨fun | 210 => 42 | 206 => 57 | n => n, fun | 9 => 9 | 4 => 4 | 3 => 3 | n => n, fun | n => n⟩
theorem Tryd.lays210 : Go.Proofs.Lays.n210 Tryd.prog Tryd.lays210_ren := {
  mixed := by kernel_rfl
  f206 := Tryd.func57.trans (congrArg some (by kernel_rfl))
  f210 := Tryd.func42.trans (congrArg some (by kernel_rfl))
  t3 := Tryd.underlying3
  a3 := Tryd.isAgg3
  z3 := Tryd.sizeOf3
  v3 := Tryd.zeroValue3
  t4 := Tryd.underlying4
  a4 := Tryd.isAgg4
  z4 := Tryd.sizeOf4
  v4 := Tryd.zeroValue4
  t9 := Tryd.underlying9
  a9 := Tryd.isAgg9
  z9 := Tryd.sizeOf9
  v9 := Tryd.zeroValue9 }
open Go.RowKit in
/-- internal/stringslite.CutPrefix (what strings.CutPrefix calls). (LAID: no walk: one application.) -/
theorem Tryd.stringslite_CutPrefix (s p : ByteArray) (w : World) :
    Calls Tryd.prog 42 #[.string s, .string p] w fun e w' => e = .returned (.tuple #[.string ⟨(Lib.trimPrefix s.data.toList p.data.toList).toArray⟩, .bool (Lib.hasPrefix s.data.toList p.data.toList)]) ∧ w' = w := Any.stringslite_CutPrefix Tryd.lays210 s p w
def Tryd.lays103_ren : Go.Shelf.Ren := ⟨fun | 103 => 23 | 210 => 42 | 206 => 57 | n => n, fun | 9 => 9 | 4 => 4 | 24 => 23 | 3 => 3 | n => n, fun | n => n⟩
theorem Tryd.lays103 : Go.Proofs.Lays.n103 Tryd.prog Tryd.lays103_ren := {
  mixed := by kernel_rfl
  f103 := Tryd.func23.trans (congrArg some (by kernel_rfl))
  f206 := Tryd.func57.trans (congrArg some (by kernel_rfl))
  f210 := Tryd.func42.trans (congrArg some (by kernel_rfl))
  t3 := Tryd.underlying3
  a3 := Tryd.isAgg3
  z3 := Tryd.sizeOf3
  v3 := Tryd.zeroValue3
  t4 := Tryd.underlying4
  a4 := Tryd.isAgg4
  z4 := Tryd.sizeOf4
  v4 := Tryd.zeroValue4
  t9 := Tryd.underlying9
  a9 := Tryd.isAgg9
  z9 := Tryd.sizeOf9
  v9 := Tryd.zeroValue9
  t24 := Tryd.underlying23
  a24 := Tryd.isAgg23
  z24 := Tryd.sizeOf23
  v24 := Tryd.zeroValue23 }
open Go.RowKit in
/-- strings.CutPrefix: "CutPrefix returns s without the provided leading prefix string and reports whether it found the prefix. If s doesn't start with prefix, CutPrefix returns s, false. If prefix is the empty string, CutPrefix returns s, true.": IT RETURNS '(Lib.trimPrefix s p, Lib.hasPrefix s p)'; the world is as it was. (LAID: no walk: one application.) -/
theorem Tryd.strings_CutPrefix (s p : ByteArray) (w : World) :
    Calls Tryd.prog 23 #[.string s, .string p] w fun e w' => e = .returned (.tuple #[.string ⟨(Lib.trimPrefix s.data.toList p.data.toList).toArray⟩, .bool (Lib.hasPrefix s.data.toList p.data.toList)]) ∧ w' = w := Any.strings_CutPrefix Tryd.lays103 s p w
def Tryd.lays129_ren : Go.Shelf.Ren := ⟨fun | 129 => 95 | n => n, fun | 53 => 112 | 3 => 3 | 4 => 4 | 46 => 90 | 5 => 5 | 9 => 9 | n => n, fun | n => n⟩
theorem Tryd.lays129 : Go.Proofs.Lays.n129 Tryd.prog Tryd.lays129_ren := {
  mixed := by kernel_rfl
  f129 := Tryd.func95.trans (congrArg some (by kernel_rfl))
  t3 := Tryd.underlying3
  a3 := Tryd.isAgg3
  z3 := Tryd.sizeOf3
  v3 := Tryd.zeroValue3
  t4 := Tryd.underlying4
  a4 := Tryd.isAgg4
  z4 := Tryd.sizeOf4
  v4 := Tryd.zeroValue4
  t5 := Tryd.underlying5
  a5 := Tryd.isAgg5
  z5 := Tryd.sizeOf5
  v5 := Tryd.zeroValue5
  t9 := Tryd.underlying9
  a9 := Tryd.isAgg9
  z9 := Tryd.sizeOf9
  v9 := Tryd.zeroValue9
  t46 := Tryd.underlying90
  a46 := Tryd.isAgg90
  z46 := Tryd.sizeOf90
  v46 := Tryd.zeroValue90
  t53 := Tryd.underlying112
  a53 := Tryd.isAgg112
  z53 := Tryd.sizeOf112
  v53 := Tryd.zeroValue112 }
/-- bits.Len64: "Len64 returns the minimum number of bits required to represent x; the result is 0 for x == 0.": IT RETURNS 'Lib.bitLen x'; the world is as it was. ('h0', 'h1': x is a uint64.) (LAID: no walk: one application.) -/
theorem Tryd.bits_Len64 (x : Int) (w : World) (h0 : 0 ≤ x) (h1 : x ≤ 18446744073709551615) :
    Calls Tryd.prog 95 #[.int .u64 x] w fun e w' => e = .returned (.int .i64 (Lib.bitLen x.toNat)) ∧ w' = w := Any.bits_Len64 Tryd.lays129 x w h0 h1
def Tryd.lays217_ren : Go.Shelf.Ren := ⟨fun | 217 => 61 | 266 => 71 | n => n, fun | 9 => 9 | 5 => 5 | 3 => 3 | n => n, fun | n => n⟩
theorem Tryd.lays217 : Go.Proofs.Lays.n217 Tryd.prog Tryd.lays217_ren := {
  mixed := by kernel_rfl
  f217 := Tryd.func61.trans (congrArg some (by kernel_rfl))
  f266 := Tryd.func71.trans (congrArg some (by kernel_rfl))
  t3 := Tryd.underlying3
  a3 := Tryd.isAgg3
  z3 := Tryd.sizeOf3
  v3 := Tryd.zeroValue3
  t5 := Tryd.underlying5
  a5 := Tryd.isAgg5
  z5 := Tryd.sizeOf5
  v5 := Tryd.zeroValue5
  t9 := Tryd.underlying9
  a9 := Tryd.isAgg9
  z9 := Tryd.sizeOf9
  v9 := Tryd.zeroValue9 }
open Go.RowKit Go.Lib in
/-- internal/stringslite.IndexByte (what strings.IndexByte calls): IT RETURNS 'Lib.indexByte s c'; the world is as it was. (LAID: no walk: one application.) -/
theorem Tryd.stringslite_IndexByte (s : ByteArray) (c : Int) (w : World) :
    Calls Tryd.prog 61 #[.string s, .int .u8 c] w fun e w' => e = .returned (.int .i64 (Lib.indexByte s.data.toList c.toNat.toUInt8)) ∧ w' = w := Any.stringslite_IndexByte Tryd.lays217 s c w
def Tryd.lays224_ren : Go.Shelf.Ren := ⟨fun | 224 => 77 | n => n, fun | 3 => 3 | n => n, fun | n => n⟩
theorem Tryd.lays224 : Go.Proofs.Lays.n224 Tryd.prog Tryd.lays224_ren := {
  mixed := by kernel_rfl
  f224 := Tryd.func77.trans (congrArg some (by kernel_rfl))
  t3 := Tryd.underlying3
  a3 := Tryd.isAgg3
  z3 := Tryd.sizeOf3
  v3 := Tryd.zeroValue3 }
open Go.RowKit Go.Lib in
/-- internal/bytealg.Cutover: "Cutover reports the number of failures of IndexByte we should tolerate before switching over to Index. n is the number of bytes processed so far.": on amd64: (n + 16) / 8. (LAID: no walk: one application.) -/
theorem Tryd.bytealg_Cutover (n : Int) (h0 : 0 ≤ n) (h1 : n < 4611686018427387904) (w : World) :
    Calls Tryd.prog 77 #[.int .i64 n] w fun e w' => e = .returned (.int .i64 ((n + 16) / 8)) ∧ w' = w := Any.bytealg_Cutover Tryd.lays224 n h0 h1 w
def Tryd.lays314_ren : Go.Shelf.Ren := ⟨fun | 314 => 80 | n => n, fun | 9 => 9 | 51 => 96 | 3 => 3 | 4 => 4 | 5 => 5 | 46 => 90 | n => n, fun | n => n⟩
theorem Tryd.lays314 : Go.Proofs.Lays.n314 Tryd.prog Tryd.lays314_ren := {
  mixed := by kernel_rfl
  f314 := Tryd.func80.trans (congrArg some (by kernel_rfl))
  t3 := Tryd.underlying3
  a3 := Tryd.isAgg3
  z3 := Tryd.sizeOf3
  v3 := Tryd.zeroValue3
  t4 := Tryd.underlying4
  a4 := Tryd.isAgg4
  z4 := Tryd.sizeOf4
  v4 := Tryd.zeroValue4
  t5 := Tryd.underlying5
  a5 := Tryd.isAgg5
  z5 := Tryd.sizeOf5
  v5 := Tryd.zeroValue5
  t9 := Tryd.underlying9
  a9 := Tryd.isAgg9
  z9 := Tryd.sizeOf9
  v9 := Tryd.zeroValue9
  t46 := Tryd.underlying90
  a46 := Tryd.isAgg90
  z46 := Tryd.sizeOf90
  v46 := Tryd.zeroValue90
  t51 := Tryd.underlying96
  a51 := Tryd.isAgg96
  z51 := Tryd.sizeOf96
  v51 := Tryd.zeroValue96 }
open Go.RowKit Go.Lib in
/-- hashStr: "returns the hash and the appropriate multiplicative factor for use in Rabin-Karp algorithm": THE HASH OF ALL OF sep, AND 16777619 ^ len(sep), both in uint32. (LAID: no walk: one application.) -/
theorem Tryd.bytealg_hashStr (sep : ByteArray) (hs : sep.size < 4294967281) (w : World) :
    Calls Tryd.prog 80 #[.string sep] w fun e w' => e = .returned (.tuple #[.int .u32 (RK.H sep.data.toList % 4294967296), .int .u32 (16777619 ^ sep.size % 4294967296)]) ∧ w' = w := Any.bytealg_hashStr Tryd.lays314 sep hs w
def Tryd.lays267_ren : Go.Shelf.Ren := ⟨fun | 267 => 78 | 314 => 80 | n => n, fun | 9 => 9 | 3 => 3 | 146 => 97 | 51 => 96 | 4 => 4 | 5 => 5 | 46 => 90 | n => n, fun | n => n⟩
theorem Tryd.lays267 : Go.Proofs.Lays.n267 Tryd.prog Tryd.lays267_ren := {
  mixed := by kernel_rfl
  f267 := Tryd.func78.trans (congrArg some (by kernel_rfl))
  f314 := Tryd.func80.trans (congrArg some (by kernel_rfl))
  t3 := Tryd.underlying3
  a3 := Tryd.isAgg3
  z3 := Tryd.sizeOf3
  v3 := Tryd.zeroValue3
  t4 := Tryd.underlying4
  a4 := Tryd.isAgg4
  z4 := Tryd.sizeOf4
  v4 := Tryd.zeroValue4
  t5 := Tryd.underlying5
  a5 := Tryd.isAgg5
  z5 := Tryd.sizeOf5
  v5 := Tryd.zeroValue5
  t9 := Tryd.underlying9
  a9 := Tryd.isAgg9
  z9 := Tryd.sizeOf9
  v9 := Tryd.zeroValue9
  t46 := Tryd.underlying90
  a46 := Tryd.isAgg90
  z46 := Tryd.sizeOf90
  v46 := Tryd.zeroValue90
  t51 := Tryd.underlying96
  a51 := Tryd.isAgg96
  z51 := Tryd.sizeOf96
  v51 := Tryd.zeroValue96
  t146 := Tryd.underlying97
  a146 := Tryd.isAgg97
  z146 := Tryd.sizeOf97
  v146 := Tryd.zeroValue97 }
open Go.RowKit Go.Lib in
theorem Tryd.bytealg_IndexRabinKarp (s sep : ByteArray) (h1 : 1 ≤ sep.size) (h2 : sep.size ≤ s.size) (hs : s.size < 4294967281) (w : World) :
    Calls Tryd.prog 78 #[.string s, .string sep] w fun e w' => e = .returned (.int .i64 (Lib.index s.data.toList sep.data.toList)) ∧ w' = w := Any.bytealg_IndexRabinKarp Tryd.lays267 s sep h1 h2 hs w
def Tryd.lays219_ren : Go.Shelf.Ren := ⟨fun | 219 => 70 | 217 => 61 | 225 => 76 | 224 => 77 | 267 => 78 | 266 => 71 | 314 => 80 | n => n, fun | 9 => 9 | 3 => 3 | 4 => 4 | 5 => 5 | 46 => 90 | 146 => 97 | 51 => 96 | n => n, fun | 1 => 0 | n => n⟩
theorem Tryd.lays219 : Go.Proofs.Lays.n219 Tryd.prog Tryd.lays219_ren := {
  mixed := by kernel_rfl
  f217 := Tryd.func61.trans (congrArg some (by kernel_rfl))
  f219 := Tryd.func70.trans (congrArg some (by kernel_rfl))
  f224 := Tryd.func77.trans (congrArg some (by kernel_rfl))
  f225 := Tryd.func76.trans (congrArg some (by kernel_rfl))
  f266 := Tryd.func71.trans (congrArg some (by kernel_rfl))
  f267 := Tryd.func78.trans (congrArg some (by kernel_rfl))
  f314 := Tryd.func80.trans (congrArg some (by kernel_rfl))
  t3 := Tryd.underlying3
  a3 := Tryd.isAgg3
  z3 := Tryd.sizeOf3
  v3 := Tryd.zeroValue3
  t4 := Tryd.underlying4
  a4 := Tryd.isAgg4
  z4 := Tryd.sizeOf4
  v4 := Tryd.zeroValue4
  t5 := Tryd.underlying5
  a5 := Tryd.isAgg5
  z5 := Tryd.sizeOf5
  v5 := Tryd.zeroValue5
  t9 := Tryd.underlying9
  a9 := Tryd.isAgg9
  z9 := Tryd.sizeOf9
  v9 := Tryd.zeroValue9
  t46 := Tryd.underlying90
  a46 := Tryd.isAgg90
  z46 := Tryd.sizeOf90
  v46 := Tryd.zeroValue90
  t51 := Tryd.underlying96
  a51 := Tryd.isAgg96
  z51 := Tryd.sizeOf96
  v51 := Tryd.zeroValue96
  t146 := Tryd.underlying97
  a146 := Tryd.isAgg97
  z146 := Tryd.sizeOf97
  v146 := Tryd.zeroValue97
  g1 := by kernel_rfl }
open Go.RowKit Go.Lib in
/-- internal/stringslite.Index (what strings.Index calls) AT A substr OF ONE BYTE c: IT RETURNS 'Lib.indexByte s c'; the world is as it was. (LAID: no walk: one application.) -/
theorem Tryd.stringslite_Index_one (s : ByteArray) (c : UInt8) (w : World) :
    Calls Tryd.prog 70 #[.string s, .string ⟨#[c]⟩] w fun e w' => e = .returned (.int .i64 (Lib.indexByte s.data.toList c)) ∧ w' = w := Any.stringslite_Index_one Tryd.lays219 s c w
open Go.RowKit Go.Lib in
/-- internal/stringslite.Index (what strings.Index calls) AT A substr OF WHATEVER LENGTH: IT RETURNS 'Lib.index s substr'; the world is as it was. 'm': what internal/bytealg.MaxLen holds: whatever. (LAID: no walk: one application.) -/
theorem Tryd.stringslite_Index (s sub : ByteArray) (m : Int) (w : World) (hs : s.size < 4294967281) (hm : w.cell? ⟨0, 0, none⟩ = some (.int .i64 m)) :
    Calls Tryd.prog 70 #[.string s, .string sub] w fun e w' => e = .returned (.int .i64 (Lib.index s.data.toList sub.data.toList)) ∧ w' = w := Any.stringslite_Index Tryd.lays219 s sub m w hs hm
def Tryd.lays143_ren : Go.Shelf.Ren := ⟨fun | 143 => 60 | 219 => 70 | 217 => 61 | 225 => 76 | 224 => 77 | 267 => 78 | 266 => 71 | 314 => 80 | n => n, fun | 9 => 9 | 3 => 3 | 4 => 4 | 5 => 5 | 46 => 90 | 146 => 97 | 51 => 96 | n => n, fun | 1 => 0 | n => n⟩
theorem Tryd.lays143 : Go.Proofs.Lays.n143 Tryd.prog Tryd.lays143_ren := {
  mixed := by kernel_rfl
  f143 := Tryd.func60.trans (congrArg some (by kernel_rfl))
  f217 := Tryd.func61.trans (congrArg some (by kernel_rfl))
  f219 := Tryd.func70.trans (congrArg some (by kernel_rfl))
  f224 := Tryd.func77.trans (congrArg some (by kernel_rfl))
  f225 := Tryd.func76.trans (congrArg some (by kernel_rfl))
  f266 := Tryd.func71.trans (congrArg some (by kernel_rfl))
  f267 := Tryd.func78.trans (congrArg some (by kernel_rfl))
  f314 := Tryd.func80.trans (congrArg some (by kernel_rfl))
  t3 := Tryd.underlying3
  a3 := Tryd.isAgg3
  z3 := Tryd.sizeOf3
  v3 := Tryd.zeroValue3
  t4 := Tryd.underlying4
  a4 := Tryd.isAgg4
  z4 := Tryd.sizeOf4
  v4 := Tryd.zeroValue4
  t5 := Tryd.underlying5
  a5 := Tryd.isAgg5
  z5 := Tryd.sizeOf5
  v5 := Tryd.zeroValue5
  t9 := Tryd.underlying9
  a9 := Tryd.isAgg9
  z9 := Tryd.sizeOf9
  v9 := Tryd.zeroValue9
  t46 := Tryd.underlying90
  a46 := Tryd.isAgg90
  z46 := Tryd.sizeOf90
  v46 := Tryd.zeroValue90
  t51 := Tryd.underlying96
  a51 := Tryd.isAgg96
  z51 := Tryd.sizeOf96
  v51 := Tryd.zeroValue96
  t146 := Tryd.underlying97
  a146 := Tryd.isAgg97
  z146 := Tryd.sizeOf97
  v146 := Tryd.zeroValue97
  g1 := by kernel_rfl }
open Go.RowKit Go.Lib in
/-- strings.Index: "Index returns the index of the first instance of substr in s, or -1 if substr is not present in s.": AT A substr OF ONE BYTE c: IT RETURNS 'Lib.indexByte s c'; the world is as it was. (LAID: no walk: one application.) -/
theorem Tryd.strings_Index_one (s : ByteArray) (c : UInt8) (w : World) :
    Calls Tryd.prog 60 #[.string s, .string ⟨#[c]⟩] w fun e w' => e = .returned (.int .i64 (Lib.indexByte s.data.toList c)) ∧ w' = w := Any.strings_Index_one Tryd.lays143 s c w
open Go.RowKit Go.Lib in
/-- strings.Index: "Index returns the index of the first instance of substr in s, or -1 if substr is not present in s.": IT RETURNS 'Lib.index s substr'; the world is as it was. (LAID: no walk: one application.) -/
theorem Tryd.strings_Index (s sub : ByteArray) (m : Int) (w : World) (hs : s.size < 4294967281) (hm : w.cell? ⟨0, 0, none⟩ = some (.int .i64 m)) :
    Calls Tryd.prog 60 #[.string s, .string sub] w fun e w' => e = .returned (.int .i64 (Lib.index s.data.toList sub.data.toList)) ∧ w' = w := Any.strings_Index Tryd.lays143 s sub m w hs hm
def Tryd.lays138_ren : Go.Shelf.Ren := ⟨fun | 138 => 59 | 195 => 67 | 218 => 69 | 143 => 60 | 219 => 70 | 217 => 61 | 225 => 76 | 224 => 77 | 267 => 78 | 266 => 71 | 314 => 80 | n => n, fun | 9 => 9 | 3 => 3 | 4 => 4 | 5 => 5 | 0 => 0 | 46 => 90 | 146 => 97 | 51 => 96 | n => n, fun | 1 => 0 | n => n⟩
theorem Tryd.lays138 : Go.Proofs.Lays.n138 Tryd.prog Tryd.lays138_ren := {
  mixed := by kernel_rfl
  f138 := Tryd.func59.trans (congrArg some (by kernel_rfl))
  f143 := Tryd.func60.trans (congrArg some (by kernel_rfl))
  f195 := Tryd.func67.trans (congrArg some (by kernel_rfl))
  f217 := Tryd.func61.trans (congrArg some (by kernel_rfl))
  f218 := Tryd.func69.trans (congrArg some (by kernel_rfl))
  f219 := Tryd.func70.trans (congrArg some (by kernel_rfl))
  f224 := Tryd.func77.trans (congrArg some (by kernel_rfl))
  f225 := Tryd.func76.trans (congrArg some (by kernel_rfl))
  f266 := Tryd.func71.trans (congrArg some (by kernel_rfl))
  f267 := Tryd.func78.trans (congrArg some (by kernel_rfl))
  f314 := Tryd.func80.trans (congrArg some (by kernel_rfl))
  t0 := Tryd.underlying0
  a0 := Tryd.isAgg0
  z0 := Tryd.sizeOf0
  v0 := Tryd.zeroValue0
  t3 := Tryd.underlying3
  a3 := Tryd.isAgg3
  z3 := Tryd.sizeOf3
  v3 := Tryd.zeroValue3
  t4 := Tryd.underlying4
  a4 := Tryd.isAgg4
  z4 := Tryd.sizeOf4
  v4 := Tryd.zeroValue4
  t5 := Tryd.underlying5
  a5 := Tryd.isAgg5
  z5 := Tryd.sizeOf5
  v5 := Tryd.zeroValue5
  t9 := Tryd.underlying9
  a9 := Tryd.isAgg9
  z9 := Tryd.sizeOf9
  v9 := Tryd.zeroValue9
  t46 := Tryd.underlying90
  a46 := Tryd.isAgg90
  z46 := Tryd.sizeOf90
  v46 := Tryd.zeroValue90
  t51 := Tryd.underlying96
  a51 := Tryd.isAgg96
  z51 := Tryd.sizeOf96
  v51 := Tryd.zeroValue96
  t146 := Tryd.underlying97
  a146 := Tryd.isAgg97
  z146 := Tryd.sizeOf97
  v146 := Tryd.zeroValue97
  g1 := by kernel_rfl }
open Go.RowKit Go.Lib in
/-- strings.Count AT A substr OF ONE BYTE ('hp'): "Count counts the number of non-overlapping instances of substr in s.": IT RETURNS 'Lib.countByte s (that byte)'; the world is as it was. ✋ NO CONTRACT HERE YET at an empty substr (utf8.RuneCountInString) or at a longer one (a loop over strings.Index). (LAID: no walk: one application.) -/
theorem Tryd.strings_Count_one (s : ByteArray) (c : UInt8) (w : World) :
    Calls Tryd.prog 59 #[.string s, .string ⟨#[c]⟩] w fun e w' => e = .returned (.int .i64 (Lib.countByte s.data.toList c)) ∧ w' = w := Any.strings_Count_one Tryd.lays138 s c w
open Go.RowKit Go.Lib in
/-- strings.Count AT A substr OF TWO BYTES OR MORE: "Count counts the number of non-overlapping instances of substr in s.": IT RETURNS 'Lib.count s substr'; the world is as it was. (LAID: no walk: one application.) -/
theorem Tryd.strings_Count (s sub : ByteArray) (m : Int) (w : World) (hs : s.size < 4294967281) (hm : w.cell? ⟨0, 0, none⟩ = some (.int .i64 m)) (h2 : 2 ≤ sub.size) :
    Calls Tryd.prog 59 #[.string s, .string sub] w fun e w' => e = .returned (.int .i64 (Lib.countB s sub)) ∧ w' = w := Any.strings_Count Tryd.lays138 s sub m w hs hm h2
def Tryd.laysM219_ren : Go.Shelf.Ren := ⟨fun | 219 => 70 | 217 => 61 | 225 => 76 | 224 => 77 | 267 => 78 | 266 => 71 | 314 => 80 | n => n, fun | 9 => 9 | 3 => 3 | 4 => 4 | 5 => 5 | 46 => 90 | 146 => 97 | 51 => 96 | n => n, fun | 1 => 0 | n => n⟩
theorem Tryd.laysM219 : Go.Proofs.LaysM.n219 Tryd.prog Tryd.laysM219_ren := {
  mixed := by kernel_rfl
  f217 := Tryd.func61.trans (congrArg some (by kernel_rfl))
  f219 := Tryd.func70.trans (congrArg some (by kernel_rfl))
  f224 := Tryd.func77.trans (congrArg some (by kernel_rfl))
  f225 := Tryd.func76.trans (congrArg some (by kernel_rfl))
  f266 := Tryd.func71.trans (congrArg some (by kernel_rfl))
  f267 := Tryd.func78.trans (congrArg some (by kernel_rfl))
  f314 := Tryd.func80.trans (congrArg some (by kernel_rfl))
  t3 := Tryd.underlying3
  a3 := Tryd.isAgg3
  z3 := Tryd.sizeOf3
  v3 := Tryd.zeroValue3
  t4 := Tryd.underlying4
  a4 := Tryd.isAgg4
  z4 := Tryd.sizeOf4
  v4 := Tryd.zeroValue4
  t5 := Tryd.underlying5
  a5 := Tryd.isAgg5
  z5 := Tryd.sizeOf5
  v5 := Tryd.zeroValue5
  t9 := Tryd.underlying9
  a9 := Tryd.isAgg9
  z9 := Tryd.sizeOf9
  v9 := Tryd.zeroValue9
  t46 := Tryd.underlying90
  a46 := Tryd.isAgg90
  z46 := Tryd.sizeOf90
  v46 := Tryd.zeroValue90
  t51 := Tryd.underlying96
  a51 := Tryd.isAgg96
  z51 := Tryd.sizeOf96
  v51 := Tryd.zeroValue96
  t146 := Tryd.underlying97
  a146 := Tryd.isAgg97
  z146 := Tryd.sizeOf97
  v146 := Tryd.zeroValue97
  g1 := by kernel_rfl
  i3 := by kernel_rfl
  i4 := by kernel_rfl
  i5 := by kernel_rfl
  i9 := by kernel_rfl
  i46 := by kernel_rfl
  i51 := by kernel_rfl
  i146 := by kernel_rfl
  m1 := by kernel_rfl
  s1_3 := fun w h => Go.Proofs.cell_of_shapedOpen_int (zero := #[.int .i64 0]) (t := 3) h (of_decide_eq_true (by kernel_rfl)) (by kernel_rfl) rfl (by kernel_rfl) (by kernel_rfl) Tryd.underlying3 }
open Go.RowKit Go.Lib in
theorem Tryd.stringslite_Index_shaped (s sub : ByteArray) (w : World) (h : w.ShapedOpen Tryd.prog) (hs : s.size < 4294967281) :
    Calls Tryd.prog 70 #[.string s, .string sub] w fun e w' => e = .returned (.int .i64 (Lib.index s.data.toList sub.data.toList)) ∧ w' = w := Any.stringslite_Index_shaped Tryd.laysM219 s sub w h hs
def Tryd.laysM143_ren : Go.Shelf.Ren := ⟨fun | 143 => 60 | 219 => 70 | 217 => 61 | 225 => 76 | 224 => 77 | 267 => 78 | 266 => 71 | 314 => 80 | n => n, fun | 9 => 9 | 3 => 3 | 4 => 4 | 5 => 5 | 46 => 90 | 146 => 97 | 51 => 96 | n => n, fun | 1 => 0 | n => n⟩
theorem Tryd.laysM143 : Go.Proofs.LaysM.n143 Tryd.prog Tryd.laysM143_ren := {
  mixed := by kernel_rfl
  f143 := Tryd.func60.trans (congrArg some (by kernel_rfl))
  f217 := Tryd.func61.trans (congrArg some (by kernel_rfl))
  f219 := Tryd.func70.trans (congrArg some (by kernel_rfl))
  f224 := Tryd.func77.trans (congrArg some (by kernel_rfl))
  f225 := Tryd.func76.trans (congrArg some (by kernel_rfl))
  f266 := Tryd.func71.trans (congrArg some (by kernel_rfl))
  f267 := Tryd.func78.trans (congrArg some (by kernel_rfl))
  f314 := Tryd.func80.trans (congrArg some (by kernel_rfl))
  t3 := Tryd.underlying3
  a3 := Tryd.isAgg3
  z3 := Tryd.sizeOf3
  v3 := Tryd.zeroValue3
  t4 := Tryd.underlying4
  a4 := Tryd.isAgg4
  z4 := Tryd.sizeOf4
  v4 := Tryd.zeroValue4
  t5 := Tryd.underlying5
  a5 := Tryd.isAgg5
  z5 := Tryd.sizeOf5
  v5 := Tryd.zeroValue5
  t9 := Tryd.underlying9
  a9 := Tryd.isAgg9
  z9 := Tryd.sizeOf9
  v9 := Tryd.zeroValue9
  t46 := Tryd.underlying90
  a46 := Tryd.isAgg90
  z46 := Tryd.sizeOf90
  v46 := Tryd.zeroValue90
  t51 := Tryd.underlying96
  a51 := Tryd.isAgg96
  z51 := Tryd.sizeOf96
  v51 := Tryd.zeroValue96
  t146 := Tryd.underlying97
  a146 := Tryd.isAgg97
  z146 := Tryd.sizeOf97
  v146 := Tryd.zeroValue97
  g1 := by kernel_rfl
  i3 := by kernel_rfl
  i4 := by kernel_rfl
  i5 := by kernel_rfl
  i9 := by kernel_rfl
  i46 := by kernel_rfl
  i51 := by kernel_rfl
  i146 := by kernel_rfl
  m1 := by kernel_rfl
  s1_3 := fun w h => Go.Proofs.cell_of_shapedOpen_int (zero := #[.int .i64 0]) (t := 3) h (of_decide_eq_true (by kernel_rfl)) (by kernel_rfl) rfl (by kernel_rfl) (by kernel_rfl) Tryd.underlying3 }
open Go.RowKit Go.Lib in
theorem Tryd.strings_Index_shaped (s sub : ByteArray) (w : World) (h : w.ShapedOpen Tryd.prog) (hs : s.size < 4294967281) :
    Calls Tryd.prog 60 #[.string s, .string sub] w fun e w' => e = .returned (.int .i64 (Lib.index s.data.toList sub.data.toList)) ∧ w' = w := Any.strings_Index_shaped Tryd.laysM143 s sub w h hs
def Tryd.laysM138_ren : Go.Shelf.Ren := ⟨fun | 138 => 59 | 195 => 67 | 218 => 69 | 143 => 60 | 219 => 70 | 217 => 61 | 225 => 76 | 224 => 77 | 267 => 78 | 266 => 71 | 314 => 80 | n => n, fun | 9 => 9 | 3 => 3 | 4 => 4 | 5 => 5 | 0 => 0 | 46 => 90 | 146 => 97 | 51 => 96 | n => n, fun | 1 => 0 | n => n⟩
theorem Tryd.laysM138 : Go.Proofs.LaysM.n138 Tryd.prog Tryd.laysM138_ren := {
  mixed := by kernel_rfl
  f138 := Tryd.func59.trans (congrArg some (by kernel_rfl))
  f143 := Tryd.func60.trans (congrArg some (by kernel_rfl))
  f195 := Tryd.func67.trans (congrArg some (by kernel_rfl))
  f217 := Tryd.func61.trans (congrArg some (by kernel_rfl))
  f218 := Tryd.func69.trans (congrArg some (by kernel_rfl))
  f219 := Tryd.func70.trans (congrArg some (by kernel_rfl))
  f224 := Tryd.func77.trans (congrArg some (by kernel_rfl))
  f225 := Tryd.func76.trans (congrArg some (by kernel_rfl))
  f266 := Tryd.func71.trans (congrArg some (by kernel_rfl))
  f267 := Tryd.func78.trans (congrArg some (by kernel_rfl))
  f314 := Tryd.func80.trans (congrArg some (by kernel_rfl))
  t0 := Tryd.underlying0
  a0 := Tryd.isAgg0
  z0 := Tryd.sizeOf0
  v0 := Tryd.zeroValue0
  t3 := Tryd.underlying3
  a3 := Tryd.isAgg3
  z3 := Tryd.sizeOf3
  v3 := Tryd.zeroValue3
  t4 := Tryd.underlying4
  a4 := Tryd.isAgg4
  z4 := Tryd.sizeOf4
  v4 := Tryd.zeroValue4
  t5 := Tryd.underlying5
  a5 := Tryd.isAgg5
  z5 := Tryd.sizeOf5
  v5 := Tryd.zeroValue5
  t9 := Tryd.underlying9
  a9 := Tryd.isAgg9
  z9 := Tryd.sizeOf9
  v9 := Tryd.zeroValue9
  t46 := Tryd.underlying90
  a46 := Tryd.isAgg90
  z46 := Tryd.sizeOf90
  v46 := Tryd.zeroValue90
  t51 := Tryd.underlying96
  a51 := Tryd.isAgg96
  z51 := Tryd.sizeOf96
  v51 := Tryd.zeroValue96
  t146 := Tryd.underlying97
  a146 := Tryd.isAgg97
  z146 := Tryd.sizeOf97
  v146 := Tryd.zeroValue97
  g1 := by kernel_rfl
  i0 := by kernel_rfl
  i3 := by kernel_rfl
  i4 := by kernel_rfl
  i5 := by kernel_rfl
  i9 := by kernel_rfl
  i46 := by kernel_rfl
  i51 := by kernel_rfl
  i146 := by kernel_rfl
  m1 := by kernel_rfl
  s1_3 := fun w h => Go.Proofs.cell_of_shapedOpen_int (zero := #[.int .i64 0]) (t := 3) h (of_decide_eq_true (by kernel_rfl)) (by kernel_rfl) rfl (by kernel_rfl) (by kernel_rfl) Tryd.underlying3 }
open Go.RowKit Go.Lib in
theorem Tryd.strings_Count_shaped (s sub : ByteArray) (w : World) (h : w.ShapedOpen Tryd.prog) (hs : s.size < 4294967281) (h2 : 2 ≤ sub.size) :
    Calls Tryd.prog 59 #[.string s, .string sub] w fun e w' => e = .returned (.int .i64 (Lib.countB s sub)) ∧ w' = w := Any.strings_Count_shaped Tryd.laysM138 s sub w h hs h2
def Tryd.lays190_ren : Go.Shelf.Ren := ⟨fun | 190 => 82 | 125 => 84 | 258 => 83 | 128 => 94 | 129 => 95 | 302 => 85 | 303 => 86 | 304 => 87 | 305 => 88 | 306 => 89 | 307 => 90 | 308 => 91 | 309 => 92 | 310 => 93 | 333 => 96 | 329 => 97 | 330 => 98 | 334 => 99 | 335 => 100 | 336 => 101 | 344 => 102 | n => n, fun | 31 => 47 | 9 => 9 | 3 => 3 | 46 => 90 | 0 => 0 | 51 => 96 | 53 => 112 | 4 => 4 | 183 => 104 | 182 => 103 | 131 => 108 | 5 => 5 | 218 => 113 | 222 => 117 | 228 => 119 | 229 => 120 | n => n, fun | n => n⟩
theorem Tryd.lays190 : Go.Proofs.Lays.n190 Tryd.prog Tryd.lays190_ren := {
  mixed := by kernel_rfl
  f125 := Tryd.func84.trans (congrArg some (by kernel_rfl))
  f128 := Tryd.func94.trans (congrArg some (by kernel_rfl))
  f129 := Tryd.func95.trans (congrArg some (by kernel_rfl))
  f190 := Tryd.func82.trans (congrArg some (by kernel_rfl))
  f258 := Tryd.func83.trans (congrArg some (by kernel_rfl))
  f302 := Tryd.func85.trans (congrArg some (by kernel_rfl))
  f303 := Tryd.func86.trans (congrArg some (by kernel_rfl))
  f304 := Tryd.func87.trans (congrArg some (by kernel_rfl))
  f305 := Tryd.func88.trans (congrArg some (by kernel_rfl))
  f306 := Tryd.func89.trans (congrArg some (by kernel_rfl))
  f307 := Tryd.func90.trans (congrArg some (by kernel_rfl))
  f308 := Tryd.func91.trans (congrArg some (by kernel_rfl))
  f309 := Tryd.func92.trans (congrArg some (by kernel_rfl))
  f310 := Tryd.func93.trans (congrArg some (by kernel_rfl))
  f329 := Tryd.func97.trans (congrArg some (by kernel_rfl))
  f330 := Tryd.func98.trans (congrArg some (by kernel_rfl))
  f333 := Tryd.func96.trans (congrArg some (by kernel_rfl))
  f334 := Tryd.func99.trans (congrArg some (by kernel_rfl))
  f335 := Tryd.func100.trans (congrArg some (by kernel_rfl))
  f336 := Tryd.func101.trans (congrArg some (by kernel_rfl))
  f344 := Tryd.func102.trans (congrArg some (by kernel_rfl))
  t0 := Tryd.underlying0
  a0 := Tryd.isAgg0
  z0 := Tryd.sizeOf0
  v0 := Tryd.zeroValue0
  t3 := Tryd.underlying3
  a3 := Tryd.isAgg3
  z3 := Tryd.sizeOf3
  v3 := Tryd.zeroValue3
  t4 := Tryd.underlying4
  a4 := Tryd.isAgg4
  z4 := Tryd.sizeOf4
  v4 := Tryd.zeroValue4
  t5 := Tryd.underlying5
  a5 := Tryd.isAgg5
  z5 := Tryd.sizeOf5
  v5 := Tryd.zeroValue5
  t9 := Tryd.underlying9
  a9 := Tryd.isAgg9
  z9 := Tryd.sizeOf9
  v9 := Tryd.zeroValue9
  t31 := Tryd.underlying47
  a31 := Tryd.isAgg47
  z31 := Tryd.sizeOf47
  v31 := Tryd.zeroValue47
  t46 := Tryd.underlying90
  a46 := Tryd.isAgg90
  z46 := Tryd.sizeOf90
  v46 := Tryd.zeroValue90
  t51 := Tryd.underlying96
  a51 := Tryd.isAgg96
  z51 := Tryd.sizeOf96
  v51 := Tryd.zeroValue96
  t53 := Tryd.underlying112
  a53 := Tryd.isAgg112
  z53 := Tryd.sizeOf112
  v53 := Tryd.zeroValue112
  t131 := Tryd.underlying108
  a131 := Tryd.isAgg108
  z131 := Tryd.sizeOf108
  v131 := Tryd.zeroValue108
  t182 := Tryd.underlying103
  a182 := Tryd.isAgg103
  z182 := Tryd.sizeOf103
  v182 := Tryd.zeroValue103
  t183 := Tryd.underlying104
  a183 := Tryd.isAgg104
  z183 := Tryd.sizeOf104
  v183 := Tryd.zeroValue104
  t218 := Tryd.underlying113
  a218 := Tryd.isAgg113
  z218 := Tryd.sizeOf113
  v218 := Tryd.zeroValue113
  t222 := Tryd.underlying117
  a222 := Tryd.isAgg117
  z222 := Tryd.sizeOf117
  v222 := Tryd.zeroValue117
  t228 := Tryd.underlying119
  a228 := Tryd.isAgg119
  z228 := Tryd.sizeOf119
  v228 := Tryd.zeroValue119
  t229 := Tryd.underlying120
  a229 := Tryd.isAgg120
  z229 := Tryd.sizeOf120
  v229 := Tryd.zeroValue120 }
open Go.Sort Go.RowKit in
theorem Tryd.slices_Sort_string (blk off cap : Nat) (ss : List (List UInt8)) (w : World) (hH : Holds encStr w blk off ss.toArray) (hblk : blk < w.heap.size) (hsz : ss.length < 4611686018427387904) :
    Calls Tryd.prog 82 #[.slice (some ⟨blk, off, none⟩) ss.length cap] w fun e w' =>
      e = .returned (.tuple #[]) ∧ ∃ n os, w' = grow (putRow encStr (Sort.ahead w n) blk off (ss.mergeSort fun x y => decide (x ≤ y)).toArray) os := Any.slices_Sort_string Tryd.lays190 blk off cap ss w hH hblk hsz
def Tryd.lays192_ren : Go.Shelf.Ren := ⟨fun | 192 => 81 | 190 => 82 | 125 => 84 | 258 => 83 | 128 => 94 | 129 => 95 | 302 => 85 | 303 => 86 | 304 => 87 | 305 => 88 | 306 => 89 | 307 => 90 | 308 => 91 | 309 => 92 | 310 => 93 | 333 => 96 | 329 => 97 | 330 => 98 | 334 => 99 | 335 => 100 | 336 => 101 | 344 => 102 | n => n, fun | 31 => 47 | 0 => 0 | 9 => 9 | 3 => 3 | 46 => 90 | 51 => 96 | 53 => 112 | 4 => 4 | 183 => 104 | 182 => 103 | 131 => 108 | 5 => 5 | 218 => 113 | 222 => 117 | 228 => 119 | 229 => 120 | n => n, fun | n => n⟩
theorem Tryd.lays192 : Go.Proofs.Lays.n192 Tryd.prog Tryd.lays192_ren := {
  mixed := by kernel_rfl
  f125 := Tryd.func84.trans (congrArg some (by kernel_rfl))
  f128 := Tryd.func94.trans (congrArg some (by kernel_rfl))
  f129 := Tryd.func95.trans (congrArg some (by kernel_rfl))
  f190 := Tryd.func82.trans (congrArg some (by kernel_rfl))
  f192 := Tryd.func81.trans (congrArg some (by kernel_rfl))
  f258 := Tryd.func83.trans (congrArg some (by kernel_rfl))
  f302 := Tryd.func85.trans (congrArg some (by kernel_rfl))
  f303 := Tryd.func86.trans (congrArg some (by kernel_rfl))
  f304 := Tryd.func87.trans (congrArg some (by kernel_rfl))
  f305 := Tryd.func88.trans (congrArg some (by kernel_rfl))
  f306 := Tryd.func89.trans (congrArg some (by kernel_rfl))
  f307 := Tryd.func90.trans (congrArg some (by kernel_rfl))
  f308 := Tryd.func91.trans (congrArg some (by kernel_rfl))
  f309 := Tryd.func92.trans (congrArg some (by kernel_rfl))
  f310 := Tryd.func93.trans (congrArg some (by kernel_rfl))
  f329 := Tryd.func97.trans (congrArg some (by kernel_rfl))
  f330 := Tryd.func98.trans (congrArg some (by kernel_rfl))
  f333 := Tryd.func96.trans (congrArg some (by kernel_rfl))
  f334 := Tryd.func99.trans (congrArg some (by kernel_rfl))
  f335 := Tryd.func100.trans (congrArg some (by kernel_rfl))
  f336 := Tryd.func101.trans (congrArg some (by kernel_rfl))
  f344 := Tryd.func102.trans (congrArg some (by kernel_rfl))
  t0 := Tryd.underlying0
  a0 := Tryd.isAgg0
  z0 := Tryd.sizeOf0
  v0 := Tryd.zeroValue0
  t3 := Tryd.underlying3
  a3 := Tryd.isAgg3
  z3 := Tryd.sizeOf3
  v3 := Tryd.zeroValue3
  t4 := Tryd.underlying4
  a4 := Tryd.isAgg4
  z4 := Tryd.sizeOf4
  v4 := Tryd.zeroValue4
  t5 := Tryd.underlying5
  a5 := Tryd.isAgg5
  z5 := Tryd.sizeOf5
  v5 := Tryd.zeroValue5
  t9 := Tryd.underlying9
  a9 := Tryd.isAgg9
  z9 := Tryd.sizeOf9
  v9 := Tryd.zeroValue9
  t31 := Tryd.underlying47
  a31 := Tryd.isAgg47
  z31 := Tryd.sizeOf47
  v31 := Tryd.zeroValue47
  t46 := Tryd.underlying90
  a46 := Tryd.isAgg90
  z46 := Tryd.sizeOf90
  v46 := Tryd.zeroValue90
  t51 := Tryd.underlying96
  a51 := Tryd.isAgg96
  z51 := Tryd.sizeOf96
  v51 := Tryd.zeroValue96
  t53 := Tryd.underlying112
  a53 := Tryd.isAgg112
  z53 := Tryd.sizeOf112
  v53 := Tryd.zeroValue112
  t131 := Tryd.underlying108
  a131 := Tryd.isAgg108
  z131 := Tryd.sizeOf108
  v131 := Tryd.zeroValue108
  t182 := Tryd.underlying103
  a182 := Tryd.isAgg103
  z182 := Tryd.sizeOf103
  v182 := Tryd.zeroValue103
  t183 := Tryd.underlying104
  a183 := Tryd.isAgg104
  z183 := Tryd.sizeOf104
  v183 := Tryd.zeroValue104
  t218 := Tryd.underlying113
  a218 := Tryd.isAgg113
  z218 := Tryd.sizeOf113
  v218 := Tryd.zeroValue113
  t222 := Tryd.underlying117
  a222 := Tryd.isAgg117
  z222 := Tryd.sizeOf117
  v222 := Tryd.zeroValue117
  t228 := Tryd.underlying119
  a228 := Tryd.isAgg119
  z228 := Tryd.sizeOf119
  v228 := Tryd.zeroValue119
  t229 := Tryd.underlying120
  a229 := Tryd.isAgg120
  z229 := Tryd.sizeOf120
  v229 := Tryd.zeroValue120 }
open Go.Sort Go.RowKit in
theorem Tryd.sort_Strings (blk off cap : Nat) (ss : List (List UInt8)) (w : World) (hH : Holds encStr w blk off ss.toArray) (hblk : blk < w.heap.size) (hsz : ss.length < 4611686018427387904) :
    Calls Tryd.prog 81 #[.slice (some ⟨blk, off, none⟩) ss.length cap] w fun e w' =>
      e = .returned (.tuple #[]) ∧ ∃ n os, w' = grow (putRow encStr (Sort.ahead w n) blk off (ss.mergeSort fun x y => decide (x ≤ y)).toArray) os := Any.sort_Strings Tryd.lays192 blk off cap ss w hH hblk hsz
def Tryd.lays206_ren : Go.Shelf.Ren := ⟨fun | 206 => 57 | n => n, fun | 9 => 9 | 4 => 4 | 3 => 3 | n => n, fun | n => n⟩
theorem Tryd.lays206 : Go.Proofs.Lays.n206 Tryd.prog Tryd.lays206_ren := {
  mixed := by kernel_rfl
  f206 := Tryd.func57.trans (congrArg some (by kernel_rfl))
  t3 := Tryd.underlying3
  a3 := Tryd.isAgg3
  z3 := Tryd.sizeOf3
  v3 := Tryd.zeroValue3
  t4 := Tryd.underlying4
  a4 := Tryd.isAgg4
  z4 := Tryd.sizeOf4
  v4 := Tryd.zeroValue4
  t9 := Tryd.underlying9
  a9 := Tryd.isAgg9
  z9 := Tryd.sizeOf9
  v9 := Tryd.zeroValue9 }
open Go.RowKit Go.Lib in
/-- internal/stringslite.HasPrefix (what strings.HasPrefix calls). (LAID: no walk: one application.) -/
theorem Tryd.stringslite_HasPrefix (s p : ByteArray) (w : World) :
    Calls Tryd.prog 57 #[.string s, .string p] w fun e w' => e = .returned (.bool (Lib.hasPrefix s.data.toList p.data.toList)) ∧ w' = w := Any.stringslite_HasPrefix Tryd.lays206 s p w
def Tryd.lays99_ren : Go.Shelf.Ren := ⟨fun | 99 => 65 | 206 => 57 | n => n, fun | 9 => 9 | 4 => 4 | 3 => 3 | n => n, fun | n => n⟩
theorem Tryd.lays99 : Go.Proofs.Lays.n99 Tryd.prog Tryd.lays99_ren := {
  mixed := by kernel_rfl
  f99 := Tryd.func65.trans (congrArg some (by kernel_rfl))
  f206 := Tryd.func57.trans (congrArg some (by kernel_rfl))
  t3 := Tryd.underlying3
  a3 := Tryd.isAgg3
  z3 := Tryd.sizeOf3
  v3 := Tryd.zeroValue3
  t4 := Tryd.underlying4
  a4 := Tryd.isAgg4
  z4 := Tryd.sizeOf4
  v4 := Tryd.zeroValue4
  t9 := Tryd.underlying9
  a9 := Tryd.isAgg9
  z9 := Tryd.sizeOf9
  v9 := Tryd.zeroValue9 }
open Go.RowKit Go.Lib in
/-- strings.HasPrefix: "HasPrefix reports whether the string s begins with prefix.": IT RETURNS 'Lib.hasPrefix s prefix'; the world is as it was. (LAID: no walk: one application.) -/
theorem Tryd.strings_HasPrefix (s p : ByteArray) (w : World) :
    Calls Tryd.prog 65 #[.string s, .string p] w fun e w' => e = .returned (.bool (Lib.hasPrefix s.data.toList p.data.toList)) ∧ w' = w := Any.strings_HasPrefix Tryd.lays99 s p w
open Go.RowKit Go.Lib in
/-- strings.Count at whatever sep that is not empty: the two roads under one statement. (LAID: no walk: one application.) -/
theorem Tryd.strings_Count_any (s sep : ByteArray) (m : Int) (w : World) (hs : s.size < 4294967281) (hm : w.cell? ⟨0, 0, none⟩ = some (.int .i64 m)) (h1 : 1 ≤ sep.size) :
    Calls Tryd.prog 59 #[.string s, .string sep] w fun e w' => e = .returned (.int .i64 (Lib.countB s sep)) ∧ w' = w := Any.strings_Count_any Tryd.lays138 s sep m w hs hm h1
def Tryd.lays221_ren : Go.Shelf.Ren := ⟨fun | 221 => 43 | 268 => 58 | 138 => 59 | 143 => 60 | 195 => 67 | 197 => 68 | 218 => 69 | 219 => 70 | 260 => 75 | 217 => 61 | 225 => 76 | 224 => 77 | 267 => 78 | 266 => 71 | 314 => 80 | n => n, fun | 9 => 9 | 3 => 3 | 31 => 47 | 4 => 4 | 0 => 0 | 105 => 84 | 21 => 21 | 5 => 5 | 46 => 90 | 119 => 92 | 139 => 95 | 138 => 94 | 146 => 97 | 51 => 96 | n => n, fun | 1 => 0 | 3 => 1 | 4 => 2 | n => n⟩
theorem Tryd.lays221 : Go.Proofs.Lays.n221 Tryd.prog Tryd.lays221_ren := {
  mixed := by kernel_rfl
  f138 := Tryd.func59.trans (congrArg some (by kernel_rfl))
  f143 := Tryd.func60.trans (congrArg some (by kernel_rfl))
  f195 := Tryd.func67.trans (congrArg some (by kernel_rfl))
  f197 := Tryd.func68.trans (congrArg some (by kernel_rfl))
  f217 := Tryd.func61.trans (congrArg some (by kernel_rfl))
  f218 := Tryd.func69.trans (congrArg some (by kernel_rfl))
  f219 := Tryd.func70.trans (congrArg some (by kernel_rfl))
  f221 := Tryd.func43.trans (congrArg some (by kernel_rfl))
  f224 := Tryd.func77.trans (congrArg some (by kernel_rfl))
  f225 := Tryd.func76.trans (congrArg some (by kernel_rfl))
  f260 := Tryd.func75.trans (congrArg some (by kernel_rfl))
  f266 := Tryd.func71.trans (congrArg some (by kernel_rfl))
  f267 := Tryd.func78.trans (congrArg some (by kernel_rfl))
  f268 := Tryd.func58.trans (congrArg some (by kernel_rfl))
  f314 := Tryd.func80.trans (congrArg some (by kernel_rfl))
  t0 := Tryd.underlying0
  a0 := Tryd.isAgg0
  z0 := Tryd.sizeOf0
  v0 := Tryd.zeroValue0
  t3 := Tryd.underlying3
  a3 := Tryd.isAgg3
  z3 := Tryd.sizeOf3
  v3 := Tryd.zeroValue3
  t4 := Tryd.underlying4
  a4 := Tryd.isAgg4
  z4 := Tryd.sizeOf4
  v4 := Tryd.zeroValue4
  t5 := Tryd.underlying5
  a5 := Tryd.isAgg5
  z5 := Tryd.sizeOf5
  v5 := Tryd.zeroValue5
  t9 := Tryd.underlying9
  a9 := Tryd.isAgg9
  z9 := Tryd.sizeOf9
  v9 := Tryd.zeroValue9
  t21 := Tryd.underlying21
  a21 := Tryd.isAgg21
  z21 := Tryd.sizeOf21
  v21 := Tryd.zeroValue21
  t31 := Tryd.underlying47
  a31 := Tryd.isAgg47
  z31 := Tryd.sizeOf47
  v31 := Tryd.zeroValue47
  t46 := Tryd.underlying90
  a46 := Tryd.isAgg90
  z46 := Tryd.sizeOf90
  v46 := Tryd.zeroValue90
  t51 := Tryd.underlying96
  a51 := Tryd.isAgg96
  z51 := Tryd.sizeOf96
  v51 := Tryd.zeroValue96
  t105 := Tryd.underlying84
  a105 := Tryd.isAgg84
  z105 := Tryd.sizeOf84
  v105 := Tryd.zeroValue84
  t119 := Tryd.underlying92
  a119 := Tryd.isAgg92
  z119 := Tryd.sizeOf92
  t138 := Tryd.underlying94
  a138 := Tryd.isAgg94
  z138 := Tryd.sizeOf94
  v138 := Tryd.zeroValue94
  t139 := Tryd.underlying95
  a139 := Tryd.isAgg95
  z139 := Tryd.sizeOf95
  v139 := Tryd.zeroValue95
  t146 := Tryd.underlying97
  a146 := Tryd.isAgg97
  z146 := Tryd.sizeOf97
  v146 := Tryd.zeroValue97
  g1 := by kernel_rfl
  g3 := by kernel_rfl
  g4 := by kernel_rfl }
open Go.RowKit Go.Lib in
theorem Tryd.strings_genSplit (s sep : ByteArray) (sv : Nat) (n : Int) (N : Nat) (m : Int) (w : World) (hs : s.size < 4294967281) (hm : w.cell? ⟨0, 0, none⟩ = some (.int .i64 m)) (h1 : 1 ≤ sep.size) (hsv : sv ≤ sep.size) (hn0 : n ≠ 0) (hn63 : n ≤ 9223372036854775807) (hN : (N : Int) = min (if n < 0 then (Lib.countB s sep : Int) + 1 else n) ((s.size : Int) + 1)) :
    Calls Tryd.prog 43 #[.string s, .string sep, .int .i64 sv, .int .i64 n] w fun e w' =>
      e = .returned (.slice (some ⟨w.heap.size, 0, none⟩) (Lib.splitB sep sv (N - 1) s).length N) ∧ w' = w.alloc (.cells (Lib.cellsOf (Lib.splitB sep sv (N - 1) s) N) 9) := Any.strings_genSplit Tryd.lays221 (by kernel_rfl) s sep sv n N m w hs hm h1 hsv hn0 hn63 hN
def Tryd.lays146_ren : Go.Shelf.Ren := ⟨fun | 146 => 24 | 221 => 43 | 268 => 58 | 138 => 59 | 143 => 60 | 195 => 67 | 197 => 68 | 218 => 69 | 219 => 70 | 260 => 75 | 217 => 61 | 225 => 76 | 224 => 77 | 267 => 78 | 266 => 71 | 314 => 80 | n => n, fun | 9 => 9 | 31 => 47 | 3 => 3 | 4 => 4 | 0 => 0 | 105 => 84 | 21 => 21 | 5 => 5 | 46 => 90 | 119 => 92 | 139 => 95 | 138 => 94 | 146 => 97 | 51 => 96 | n => n, fun | 1 => 0 | 3 => 1 | 4 => 2 | n => n⟩
theorem Tryd.lays146 : Go.Proofs.Lays.n146 Tryd.prog Tryd.lays146_ren := {
  mixed := by kernel_rfl
  f138 := Tryd.func59.trans (congrArg some (by kernel_rfl))
  f143 := Tryd.func60.trans (congrArg some (by kernel_rfl))
  f146 := Tryd.func24.trans (congrArg some (by kernel_rfl))
  f195 := Tryd.func67.trans (congrArg some (by kernel_rfl))
  f197 := Tryd.func68.trans (congrArg some (by kernel_rfl))
  f217 := Tryd.func61.trans (congrArg some (by kernel_rfl))
  f218 := Tryd.func69.trans (congrArg some (by kernel_rfl))
  f219 := Tryd.func70.trans (congrArg some (by kernel_rfl))
  f221 := Tryd.func43.trans (congrArg some (by kernel_rfl))
  f224 := Tryd.func77.trans (congrArg some (by kernel_rfl))
  f225 := Tryd.func76.trans (congrArg some (by kernel_rfl))
  f260 := Tryd.func75.trans (congrArg some (by kernel_rfl))
  f266 := Tryd.func71.trans (congrArg some (by kernel_rfl))
  f267 := Tryd.func78.trans (congrArg some (by kernel_rfl))
  f268 := Tryd.func58.trans (congrArg some (by kernel_rfl))
  f314 := Tryd.func80.trans (congrArg some (by kernel_rfl))
  t0 := Tryd.underlying0
  a0 := Tryd.isAgg0
  z0 := Tryd.sizeOf0
  v0 := Tryd.zeroValue0
  t3 := Tryd.underlying3
  a3 := Tryd.isAgg3
  z3 := Tryd.sizeOf3
  v3 := Tryd.zeroValue3
  t4 := Tryd.underlying4
  a4 := Tryd.isAgg4
  z4 := Tryd.sizeOf4
  v4 := Tryd.zeroValue4
  t5 := Tryd.underlying5
  a5 := Tryd.isAgg5
  z5 := Tryd.sizeOf5
  v5 := Tryd.zeroValue5
  t9 := Tryd.underlying9
  a9 := Tryd.isAgg9
  z9 := Tryd.sizeOf9
  v9 := Tryd.zeroValue9
  t21 := Tryd.underlying21
  a21 := Tryd.isAgg21
  z21 := Tryd.sizeOf21
  v21 := Tryd.zeroValue21
  t31 := Tryd.underlying47
  a31 := Tryd.isAgg47
  z31 := Tryd.sizeOf47
  v31 := Tryd.zeroValue47
  t46 := Tryd.underlying90
  a46 := Tryd.isAgg90
  z46 := Tryd.sizeOf90
  v46 := Tryd.zeroValue90
  t51 := Tryd.underlying96
  a51 := Tryd.isAgg96
  z51 := Tryd.sizeOf96
  v51 := Tryd.zeroValue96
  t105 := Tryd.underlying84
  a105 := Tryd.isAgg84
  z105 := Tryd.sizeOf84
  v105 := Tryd.zeroValue84
  t119 := Tryd.underlying92
  a119 := Tryd.isAgg92
  z119 := Tryd.sizeOf92
  t138 := Tryd.underlying94
  a138 := Tryd.isAgg94
  z138 := Tryd.sizeOf94
  v138 := Tryd.zeroValue94
  t139 := Tryd.underlying95
  a139 := Tryd.isAgg95
  z139 := Tryd.sizeOf95
  v139 := Tryd.zeroValue95
  t146 := Tryd.underlying97
  a146 := Tryd.isAgg97
  z146 := Tryd.sizeOf97
  v146 := Tryd.zeroValue97
  g1 := by kernel_rfl
  g3 := by kernel_rfl
  g4 := by kernel_rfl }
open Go.RowKit Go.Lib in
/-- strings.Split. (LAID: no walk: one application.) -/
theorem Tryd.strings_Split (s sep : ByteArray) (m : Int) (w : World) (hs : s.size < 4294967281) (hm : w.cell? ⟨0, 0, none⟩ = some (.int .i64 m)) (h1 : 1 ≤ sep.size) :
    Calls Tryd.prog 24 #[.string s, .string sep] w fun e w' =>
      e = .returned (.slice (some ⟨w.heap.size, 0, none⟩) (Lib.countB s sep + 1) (Lib.countB s sep + 1)) ∧ w' = w.alloc (.cells ((Lib.splitB sep 0 (Lib.countB s sep) s).map Value.string).toArray 9) := Any.strings_Split Tryd.lays146 (by kernel_rfl) s sep m w hs hm h1
def Tryd.laysM146_ren : Go.Shelf.Ren := ⟨fun | 146 => 24 | 221 => 43 | 268 => 58 | 138 => 59 | 143 => 60 | 195 => 67 | 197 => 68 | 218 => 69 | 219 => 70 | 260 => 75 | 217 => 61 | 225 => 76 | 224 => 77 | 267 => 78 | 266 => 71 | 314 => 80 | n => n, fun | 9 => 9 | 31 => 47 | 3 => 3 | 4 => 4 | 0 => 0 | 105 => 84 | 21 => 21 | 5 => 5 | 46 => 90 | 119 => 92 | 139 => 95 | 138 => 94 | 146 => 97 | 51 => 96 | n => n, fun | 1 => 0 | 3 => 1 | 4 => 2 | n => n⟩
theorem Tryd.laysM146 : Go.Proofs.LaysM.n146 Tryd.prog Tryd.laysM146_ren := {
  mixed := by kernel_rfl
  f138 := Tryd.func59.trans (congrArg some (by kernel_rfl))
  f143 := Tryd.func60.trans (congrArg some (by kernel_rfl))
  f146 := Tryd.func24.trans (congrArg some (by kernel_rfl))
  f195 := Tryd.func67.trans (congrArg some (by kernel_rfl))
  f197 := Tryd.func68.trans (congrArg some (by kernel_rfl))
  f217 := Tryd.func61.trans (congrArg some (by kernel_rfl))
  f218 := Tryd.func69.trans (congrArg some (by kernel_rfl))
  f219 := Tryd.func70.trans (congrArg some (by kernel_rfl))
  f221 := Tryd.func43.trans (congrArg some (by kernel_rfl))
  f224 := Tryd.func77.trans (congrArg some (by kernel_rfl))
  f225 := Tryd.func76.trans (congrArg some (by kernel_rfl))
  f260 := Tryd.func75.trans (congrArg some (by kernel_rfl))
  f266 := Tryd.func71.trans (congrArg some (by kernel_rfl))
  f267 := Tryd.func78.trans (congrArg some (by kernel_rfl))
  f268 := Tryd.func58.trans (congrArg some (by kernel_rfl))
  f314 := Tryd.func80.trans (congrArg some (by kernel_rfl))
  t0 := Tryd.underlying0
  a0 := Tryd.isAgg0
  z0 := Tryd.sizeOf0
  v0 := Tryd.zeroValue0
  t3 := Tryd.underlying3
  a3 := Tryd.isAgg3
  z3 := Tryd.sizeOf3
  v3 := Tryd.zeroValue3
  t4 := Tryd.underlying4
  a4 := Tryd.isAgg4
  z4 := Tryd.sizeOf4
  v4 := Tryd.zeroValue4
  t5 := Tryd.underlying5
  a5 := Tryd.isAgg5
  z5 := Tryd.sizeOf5
  v5 := Tryd.zeroValue5
  t9 := Tryd.underlying9
  a9 := Tryd.isAgg9
  z9 := Tryd.sizeOf9
  v9 := Tryd.zeroValue9
  t21 := Tryd.underlying21
  a21 := Tryd.isAgg21
  z21 := Tryd.sizeOf21
  v21 := Tryd.zeroValue21
  t31 := Tryd.underlying47
  a31 := Tryd.isAgg47
  z31 := Tryd.sizeOf47
  v31 := Tryd.zeroValue47
  t46 := Tryd.underlying90
  a46 := Tryd.isAgg90
  z46 := Tryd.sizeOf90
  v46 := Tryd.zeroValue90
  t51 := Tryd.underlying96
  a51 := Tryd.isAgg96
  z51 := Tryd.sizeOf96
  v51 := Tryd.zeroValue96
  t105 := Tryd.underlying84
  a105 := Tryd.isAgg84
  z105 := Tryd.sizeOf84
  v105 := Tryd.zeroValue84
  t119 := Tryd.underlying92
  a119 := Tryd.isAgg92
  z119 := Tryd.sizeOf92
  t138 := Tryd.underlying94
  a138 := Tryd.isAgg94
  z138 := Tryd.sizeOf94
  v138 := Tryd.zeroValue94
  t139 := Tryd.underlying95
  a139 := Tryd.isAgg95
  z139 := Tryd.sizeOf95
  v139 := Tryd.zeroValue95
  t146 := Tryd.underlying97
  a146 := Tryd.isAgg97
  z146 := Tryd.sizeOf97
  v146 := Tryd.zeroValue97
  g1 := by kernel_rfl
  g3 := by kernel_rfl
  g4 := by kernel_rfl
  i0 := by kernel_rfl
  i3 := by kernel_rfl
  i4 := by kernel_rfl
  i5 := by kernel_rfl
  i9 := by kernel_rfl
  i21 := by kernel_rfl
  i31 := by kernel_rfl
  i46 := by kernel_rfl
  i51 := by kernel_rfl
  i105 := by kernel_rfl
  i138 := by kernel_rfl
  i139 := by kernel_rfl
  i146 := by kernel_rfl
  m1 := by kernel_rfl
  s1_3 := fun w h => Go.Proofs.cell_of_shapedOpen_int (zero := #[.int .i64 0]) (t := 3) h (of_decide_eq_true (by kernel_rfl)) (by kernel_rfl) rfl (by kernel_rfl) (by kernel_rfl) Tryd.underlying3
  m3 := by kernel_rfl
  m4 := by kernel_rfl }
open Go.RowKit Go.Lib in
/-- strings.Split, sep not empty. (LAID: no walk: one application.) -/
theorem Tryd.strings_Split_shaped (s sep : ByteArray) (w : World) (h : w.ShapedOpen Tryd.prog) (hs : s.size < 4294967281) (h1 : 1 ≤ sep.size) :
    Calls Tryd.prog 24 #[.string s, .string sep] w fun e w' =>
      e = .returned (.slice (some ⟨w.heap.size, 0, none⟩) (Lib.countB s sep + 1) (Lib.countB s sep + 1)) ∧ w' = w.alloc (.cells ((Lib.splitB sep 0 (Lib.countB s sep) s).map Value.string).toArray 9) := Any.strings_Split_shaped Tryd.laysM146 s sep w h hs h1
def Tryd.lays260_ren : Go.Shelf.Ren := ⟨fun | 260 => 75 | n => n, fun | 9 => 9 | 21 => 21 | 3 => 3 | 4 => 4 | 5 => 5 | 119 => 92 | 0 => 0 | 46 => 90 | 139 => 95 | 138 => 94 | n => n, fun | 3 => 1 | 4 => 2 | n => n⟩
theorem Tryd.lays260 : Go.Proofs.Lays.n260 Tryd.prog Tryd.lays260_ren := {
  mixed := by kernel_rfl
  f260 := Tryd.func75.trans (congrArg some (by kernel_rfl))
  t0 := Tryd.underlying0
  a0 := Tryd.isAgg0
  z0 := Tryd.sizeOf0
  v0 := Tryd.zeroValue0
  t3 := Tryd.underlying3
  a3 := Tryd.isAgg3
  z3 := Tryd.sizeOf3
  v3 := Tryd.zeroValue3
  t4 := Tryd.underlying4
  a4 := Tryd.isAgg4
  z4 := Tryd.sizeOf4
  v4 := Tryd.zeroValue4
  t5 := Tryd.underlying5
  a5 := Tryd.isAgg5
  z5 := Tryd.sizeOf5
  v5 := Tryd.zeroValue5
  t9 := Tryd.underlying9
  a9 := Tryd.isAgg9
  z9 := Tryd.sizeOf9
  v9 := Tryd.zeroValue9
  t21 := Tryd.underlying21
  a21 := Tryd.isAgg21
  z21 := Tryd.sizeOf21
  v21 := Tryd.zeroValue21
  t46 := Tryd.underlying90
  a46 := Tryd.isAgg90
  z46 := Tryd.sizeOf90
  v46 := Tryd.zeroValue90
  t119 := Tryd.underlying92
  a119 := Tryd.isAgg92
  z119 := Tryd.sizeOf92
  t138 := Tryd.underlying94
  a138 := Tryd.isAgg94
  z138 := Tryd.sizeOf94
  v138 := Tryd.zeroValue94
  t139 := Tryd.underlying95
  a139 := Tryd.isAgg95
  z139 := Tryd.sizeOf95
  v139 := Tryd.zeroValue95
  g3 := by kernel_rfl
  g4 := by kernel_rfl }
open Go.RowKit Go.Lib in
theorem Tryd.utf8_decodeRuneInStringSlow (s : ByteArray) (w : World) (hT : Lib.Utf8Tabs 1 2 w) :
    Calls Tryd.prog 75 #[.string s] w fun e w' => e = .returned (.tuple #[.int .i32 (Lib.decodeGo s).1, .int .i64 (Lib.decodeGo s).2]) ∧ Below w.heap.size w w' := Any.utf8_decodeRuneInStringSlow Tryd.lays260 s w hT
def Tryd.lays197_ren : Go.Shelf.Ren := ⟨fun | 197 => 68 | 260 => 75 | n => n, fun | 9 => 9 | 21 => 21 | 3 => 3 | 4 => 4 | 5 => 5 | 105 => 84 | 119 => 92 | 0 => 0 | 46 => 90 | 139 => 95 | 138 => 94 | n => n, fun | 3 => 1 | 4 => 2 | n => n⟩
theorem Tryd.lays197 : Go.Proofs.Lays.n197 Tryd.prog Tryd.lays197_ren := {
  mixed := by kernel_rfl
  f197 := Tryd.func68.trans (congrArg some (by kernel_rfl))
  f260 := Tryd.func75.trans (congrArg some (by kernel_rfl))
  t0 := Tryd.underlying0
  a0 := Tryd.isAgg0
  z0 := Tryd.sizeOf0
  v0 := Tryd.zeroValue0
  t3 := Tryd.underlying3
  a3 := Tryd.isAgg3
  z3 := Tryd.sizeOf3
  v3 := Tryd.zeroValue3
  t4 := Tryd.underlying4
  a4 := Tryd.isAgg4
  z4 := Tryd.sizeOf4
  v4 := Tryd.zeroValue4
  t5 := Tryd.underlying5
  a5 := Tryd.isAgg5
  z5 := Tryd.sizeOf5
  v5 := Tryd.zeroValue5
  t9 := Tryd.underlying9
  a9 := Tryd.isAgg9
  z9 := Tryd.sizeOf9
  v9 := Tryd.zeroValue9
  t21 := Tryd.underlying21
  a21 := Tryd.isAgg21
  z21 := Tryd.sizeOf21
  v21 := Tryd.zeroValue21
  t46 := Tryd.underlying90
  a46 := Tryd.isAgg90
  z46 := Tryd.sizeOf90
  v46 := Tryd.zeroValue90
  t105 := Tryd.underlying84
  a105 := Tryd.isAgg84
  z105 := Tryd.sizeOf84
  v105 := Tryd.zeroValue84
  t119 := Tryd.underlying92
  a119 := Tryd.isAgg92
  z119 := Tryd.sizeOf92
  t138 := Tryd.underlying94
  a138 := Tryd.isAgg94
  z138 := Tryd.sizeOf94
  v138 := Tryd.zeroValue94
  t139 := Tryd.underlying95
  a139 := Tryd.isAgg95
  z139 := Tryd.sizeOf95
  v139 := Tryd.zeroValue95
  g3 := by kernel_rfl
  g4 := by kernel_rfl }
open Go.RowKit Go.Lib in
/-- **unicode/utf8.DecodeRuneInString AT EVERY STRING.** (LAID: no walk: one application.) -/
theorem Tryd.utf8_DecodeRuneInString (s : ByteArray) (w : World) (hT : Lib.Utf8Tabs 1 2 w) :
    Calls Tryd.prog 68 #[.string s] w fun e w' => e = .returned (.tuple #[.int .i32 (Lib.decodeGo s).1, .int .i64 (Lib.decodeGo s).2]) ∧ Below w.heap.size w w' := Any.utf8_DecodeRuneInString Tryd.lays197 s w hT
open Go.RowKit Go.Sort in
/-- .. and plain. (LAID: no walk: one application.) -/
theorem Tryd.slices_Sort_string_none (p : Option Addr) (cap : Nat) (w : World) :
    Calls Tryd.prog 82 #[.slice p 0 cap] w fun e w' => e = .returned (.tuple #[]) ∧ w' = w := Any.slices_Sort_string_none Tryd.lays190 p cap w
open Go.RowKit Go.Sort in
/-- .. and plain. (LAID: no walk: one application.) -/
theorem Tryd.sort_Strings_none (p : Option Addr) (cap : Nat) (w : World) :
    Calls Tryd.prog 81 #[.slice p 0 cap] w fun e w' => e = .returned (.tuple #[]) ∧ w' = w := Any.sort_Strings_none Tryd.lays192 p cap w
end Go.Proofs

/-! Depth, Munge, Plain: the program's and the document's. -/
set_option linter.unusedVariables false
set_option linter.unusedSimpArgs false
namespace Go.Proofs.YtlbbehfbjbbckaaDoor
open Go.RowKit
attribute [local go_sem] str_toList

def harm : List UInt8 := [47, 46, 114, 101, 109, 111, 114, 97, 47]
def plainU (tg : List UInt8) : List UInt8 × Bool := if harm.isPrefixOf tg then (tg.drop 9, true) else ([], false)
set_option maxRecDepth 100000 in
set_option maxHeartbeats 1000000 in
theorem depth_any (p : ByteArray) (w : World) (hp : p.size ≤ 2097152) :
    Calls Tryd.prog 25 #[.string p] w fun e w' => e = .returned (.int .i64 ((splitB p.data.toList).length : Nat)) ∧ Below w.heap.size w w' := by
  go_enter Tryd.func25, Tryd.ntmps25
  go_wp2_with fail
  refine (pathSplit_any p w hp).mono ?_
  rintro e w1 ⟨⟨A, n, c, rfl, rfl, hnc, hsl⟩, hb⟩
  have HB := Lib.hid hb
  clear hsl hb
  go_wp2_with fail
  go_ret
  exact ⟨rfl, HB.out⟩
set_option maxRecDepth 100000 in
set_option maxHeartbeats 1000000 in
theorem refDepth_any (p : ByteArray) (w : World) (hp : p.size ≤ 2097152) :
    Calls Tryd.prog 28 #[.string p] w fun e w' => e = .returned (.int .i64 ((splitB p.data.toList).length : Nat)) ∧ Below w.heap.size w w' := by
  go_enter Tryd.func28, Tryd.ntmps28
  go_wp2_with fail
  refine (refSplit_any p w hp).mono ?_
  rintro e w1 ⟨⟨A, n, c, rfl, rfl, hnc, hsl⟩, hb⟩
  have HB := Lib.hid hb
  clear hsl hb
  go_wp2_with fail
  go_ret
  exact ⟨rfl, HB.out⟩
theorem harm_cat (t : ByteArray) : (⟨#[47, 46, 114, 101, 109, 111, 114, 97, 47]⟩ : ByteArray) ++ t = str (harm ++ t.data.toList) := by
  unfold harm
  simp [str, ByteArray.ext_iff]
set_option maxRecDepth 100000 in
set_option maxHeartbeats 1000000 in
theorem munge_any (t : ByteArray) (w : World) (ht : t.size ≤ 2097152) :
    Calls Tryd.prog 11 #[.string t] w fun e w' => e = .returned (.string (str (harm ++ t.data.toList))) ∧ w' = w := by
  have hc := harm_cat t
  have z : ¬ 9223372036854775807 < 9 + t.size := by omega
  go_enter Tryd.func11, Tryd.ntmps11
  go_wp2_with fail
  go_ret
  exact ⟨rfl, rfl⟩
set_option maxRecDepth 100000 in
set_option maxHeartbeats 1000000 in
theorem refMunge_any (t : ByteArray) (w : World) (ht : t.size ≤ 2097152) :
    Calls Tryd.prog 12 #[.string t] w fun e w' => e = .returned (.string (str (harm ++ t.data.toList))) ∧ w' = w := by
  have hc := harm_cat t
  have z : ¬ 9223372036854775807 < 9 + t.size := by omega
  go_enter Tryd.func12, Tryd.ntmps12
  go_wp2_with fail
  go_ret
  exact ⟨rfl, rfl⟩
set_option maxRecDepth 100000 in
set_option maxHeartbeats 1000000 in
theorem plain_any (t : ByteArray) (w : World) :
    Calls Tryd.prog 7 #[.string t] w fun e w' => e = .returned (.tuple #[.string (str (plainU t.data.toList).1), .bool (plainU t.data.toList).2]) ∧ w' = w := by
  obtain ⟨X, hX⟩ : ∃ X, plainU t.data.toList = X := ⟨_, rfl⟩
  have HX : Hid ((if Lib.hasPrefix t.data.toList harm = true then (Lib.trimPrefix t.data.toList harm, true) else ([], false)) = X) := by
    rw [← hX]
    unfold plainU Lib.trimPrefix Lib.hasPrefix
    refine Lib.hid ?_
    split
    · rfl
    · rfl
  rw [hX]
  have HC := Lib.hid (show Calls Tryd.prog 23 #[.string t, .string ⟨#[47, 46, 114, 101, 109, 111, 114, 97, 47]⟩] w fun e w' => e = .returned (.tuple #[.string (str (Lib.trimPrefix t.data.toList harm)), .bool (Lib.hasPrefix t.data.toList harm)]) ∧ w' = w from Tryd.strings_CutPrefix t ⟨#[47, 46, 114, 101, 109, 111, 114, 97, 47]⟩ w)
  generalize Lib.hasPrefix t.data.toList harm = hp at *
  generalize Lib.trimPrefix t.data.toList harm = tp at *
  clear hX
  go_enter Tryd.func7, Tryd.ntmps7
  go_wp2_with fail
  refine HC.out.mono ?_
  rintro e w1 ⟨rfl, rfl⟩
  cases hp with
  | true =>
    have K := Lib.hid (show X = (tp, true) from HX.out.symm)
    go_wp2_with fail
    go_ret2
    rw [K.out]
    exact ⟨rfl, rfl⟩
  | false =>
    have K := Lib.hid (show X = ([], false) from HX.out.symm)
    go_wp2_with fail
    go_ret2
    rw [K.out]
    exact ⟨rfl, rfl⟩
theorem harm_short {l : List UInt8} (h : l.length < 9) : plainU l = ([], false) := by
  unfold plainU
  have : harm.isPrefixOf l = false := by
    cases hq : harm.isPrefixOf l with
    | false => rfl
    | true =>
      have := (List.isPrefixOf_iff_prefix.1 hq).length_le
      simp [harm] at this; omega
  rw [this]; rfl
theorem harm_take {l : List UInt8} : harm.isPrefixOf l = (l.take 9 == harm) := by
  rw [Bool.eq_iff_iff, List.isPrefixOf_iff_prefix, beq_iff_eq, List.prefix_iff_eq_take]
  exact ⟨fun h => h.symm, fun h => h.symm⟩
set_option maxRecDepth 100000 in
set_option maxHeartbeats 1000000 in
theorem refPlain_any (t : ByteArray) (w : World) (ht : t.size ≤ 2097152) :
    Calls Tryd.prog 8 #[.string t] w fun e w' => e = .returned (.tuple #[.string (str (plainU t.data.toList).1), .bool (plainU t.data.toList).2]) ∧ w' = w := by
  obtain ⟨X, hX⟩ : ∃ X, plainU t.data.toList = X := ⟨_, rfl⟩
  have hl : t.data.toList.length = t.size := Array.length_toList
  rcases Nat.lt_or_ge t.size 9 with h | h
  · have K := Lib.hid (harm_short (l := t.data.toList) (by omega))
    have e1 : (t.size : Int) < 9 := by omega
    have e2 : decide ((t.size : Int) < 9) = true := decide_eq_true e1
    clear h
    go_enter Tryd.func8, Tryd.ntmps8
    go_wp2_with fail
    go_ret2
    rw [K.out]
    exact ⟨rfl, rfl⟩
  · have e1 : ¬ (t.size : Int) < 9 := by omega
    have e2 : decide ((t.size : Int) < 9) = false := decide_eq_false e1
    have hex : (t.extract 0 9).toList = t.data.toList.take 9 := by
      rw [extract_str t 0 9 (Nat.zero_le _) h, str_toList, List.drop_zero]
    have hdr : t.extract 9 t.size = str (t.data.toList.drop 9) := by
      rw [extract_str t 9 t.size h (Nat.le_refl _), List.take_of_length_le (by rw [List.length_drop, hl]; exact Nat.le_refl _)]
    cases hb : harm.isPrefixOf t.data.toList with
    | true =>
      have K := Lib.hid (show plainU t.data.toList = (t.data.toList.drop 9, true) by unfold plainU; rw [hb]; rfl)
      have q : ((t.extract 0 9).toList == [47, 46, 114, 101, 109, 111, 114, 97, 47]) = true := by rw [hex, ← hb, harm_take]; rfl
      clear hb hex hX hl h
      go_enter Tryd.func8, Tryd.ntmps8
      go_wp2_with fail
      go_ret2
      rw [K.out]
      exact ⟨rfl, rfl⟩
    | false =>
      have K := Lib.hid (show plainU t.data.toList = ([], false) by unfold plainU; rw [hb]; rfl)
      have q : ((t.extract 0 9).toList == [47, 46, 114, 101, 109, 111, 114, 97, 47]) = false := by rw [hex, ← hb, harm_take]; rfl
      clear hb hex hX hl h hdr
      go_enter Tryd.func8, Tryd.ntmps8
      go_wp2_with fail
      go_ret2
      rw [K.out]
      exact ⟨rfl, rfl⟩
end Go.Proofs.YtlbbehfbjbbckaaDoor
