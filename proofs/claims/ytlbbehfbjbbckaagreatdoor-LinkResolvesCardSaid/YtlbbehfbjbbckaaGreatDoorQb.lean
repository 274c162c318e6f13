import Derived.Test.YtlbbehfbjbbckaaGreatDoorQa
import Derived.Lib.AppendStr
import Derived.Lib.SplitLaws
/-! Paths in order: cmp.Compare, slices.Compare, Less, the program's and the document's. -/
set_option linter.unusedVariables false
set_option linter.unusedSimpArgs false
namespace Go.Proofs.YtlbbehfbjbbckaaGreatDoor
open Go.RowKit
attribute [local go_sem] str_toList

theorem bless_irr : ∀ a : List UInt8, Op.bytesLess a a = false
  | [] => rfl
  | x :: a => by simp only [Op.bytesLess, bless_irr a]; simp
/-- Does one list of parts come ahead of another? -/
def lessP : List (List UInt8) → List (List UInt8) → Bool
  | [], [] => false
  | [], _ :: _ => true
  | _ :: _, [] => false
  | x :: X, y :: Y => if x = y then lessP X Y else Op.bytesLess x y
theorem lessP_drop : ∀ (i : Nat) (X Y : List (List UInt8)), X.take i = Y.take i → i ≤ X.length → i ≤ Y.length → lessP X Y = lessP (X.drop i) (Y.drop i)
  | 0, _, _, _, _, _ => rfl
  | i+1, [], _, _, h, _ => by simp at h
  | i+1, _ :: _, [], _, _, h => by simp at h
  | i+1, x :: X, y :: Y, h, h1, h2 => by
    simp only [List.take_succ_cons, List.cons.injEq] at h
    obtain ⟨rfl, h⟩ := h
    rw [lessP, if_pos rfl, List.drop_succ_cons, List.drop_succ_cons]
    exact lessP_drop i X Y h (by simpa using h1) (by simpa using h2)
theorem lessP_ne {X Y : List (List UInt8)} {i : Nat} {x y : List UInt8} (h : X.take i = Y.take i) (hx : X[i]? = some x) (hy : Y[i]? = some y) (hne : x ≠ y) : lessP X Y = Op.bytesLess x y := by
  have h1 := (List.getElem?_eq_some_iff.1 hx)
  have h2 := (List.getElem?_eq_some_iff.1 hy)
  obtain ⟨h1, e1⟩ := h1
  obtain ⟨h2, e2⟩ := h2
  rw [lessP_drop i X Y h (by omega) (by omega), List.drop_eq_getElem_cons h1, List.drop_eq_getElem_cons h2, e1, e2, lessP, if_neg hne]
theorem lessP_end {X Y : List (List UInt8)} {i : Nat} (h : X.take i = Y.take i) (hx : i ≤ X.length) (hy : i ≤ Y.length) (he : i = X.length ∨ i = Y.length) : lessP X Y = decide (X.length < Y.length) := by
  rw [lessP_drop i X Y h hx hy]
  rcases he with rfl | rfl
  · rw [List.drop_of_length_le (Nat.le_refl _)]
    cases hd : Y.drop X.length with
    | nil =>
      have := congrArg List.length hd
      simp only [List.length_drop, List.length_nil] at this
      simp only [lessP]; rw [decide_eq_false]; omega
    | cons a r =>
      have := congrArg List.length hd
      simp only [List.length_drop, List.length_cons] at this
      simp only [lessP]; rw [decide_eq_true]; omega
  · rw [List.drop_of_length_le (l := Y) (Nat.le_refl _)]
    have : ¬ X.length < Y.length := by omega
    rw [decide_eq_false this]
    cases X.drop Y.length <;> rfl
/-- Which of two texts comes first. -/
def cmpS (a b : List UInt8) : Int := if Op.bytesLess a b then -1 else if a = b then 0 else 1
set_option maxRecDepth 100000 in
theorem cmp_any (a b : List UInt8) (w : World) :
    Calls Tryz.prog 126 #[.string (str a), .string (str b)] w fun e w' => e = .returned (.int .i64 (cmpS a b)) ∧ w' = w := by
  have nan : ∀ (x : List UInt8) (w : World), Calls Tryz.prog 152 #[.string (str x)] w fun e w' => e = .returned (.bool false) ∧ w' = w := by
    intro x w
    go_enter Tryz.func152, Tryz.ntmps152
    go_wp2_with fail
    go_ret
    exact ⟨rfl, rfl⟩
  go_enter Tryz.func126, Tryz.ntmps126
  go_wp2_with fail
  refine (nan a w).mono ?_
  rintro e w' ⟨rfl, rfl⟩
  go_wp2_with fail
  refine (nan b _).mono ?_
  rintro e w' ⟨rfl, rfl⟩
  cases h1 : Op.bytesLess a b with
  | true =>
    have K := Lib.hid (show cmpS a b = -1 by unfold cmpS; rw [if_pos h1])
    go_wp2_with fail
    go_ret
    exact ⟨by rw [K.out]; rfl, rfl⟩
  | false =>
    by_cases h2 : a = b
    · have K := Lib.hid (show cmpS a b = 0 by unfold cmpS; rw [h1, if_neg (by simp), if_pos h2])
      subst h2
      go_wp2_with fail
      go_ret
      exact ⟨by rw [K.out]; rfl, rfl⟩
    · have K := Lib.hid (show cmpS a b = 1 by unfold cmpS; rw [h1, if_neg (by simp), if_neg h2])
      have q : (a == b) = false := by simpa using h2
      go_wp2_with fail
      go_ret
      exact ⟨by rw [K.out]; rfl, rfl⟩
set_option maxRecDepth 100000 in
set_option maxHeartbeats 2000000 in
theorem compare_any (A B : Option Addr) (n c m d : Nat) (X Y : List (List UInt8)) (w : World) (hA : Sl 1 w A n (strs X)) (hB : Sl 1 w B m (strs Y)) :
    Calls Tryz.prog 85 #[.slice A n c, .slice B m d] w fun e w' => (∃ k : Int, e = .returned (.int .i64 k) ∧ decide (k < 0) = lessP X Y) ∧ w' = w := by
  have HX := Lib.hid hA.strsLen
  have HY := Lib.hid hB.strsLen
  have HA := Lib.hid hA
  have HB := Lib.hid hB
  have ha := hA.max
  have hb := hB.max
  clear hA hB
  go_enter Tryz.func85, Tryz.ntmps85
  go_wp2_with fail
  go_loopw [11] (fun a wr => ∃ i : Nat, a = .int .i64 i ∧ i ≤ n ∧ i ≤ m ∧ X.take i = Y.take i ∧ wr = w) (fun a _ => n - (intOf a).toNat)
  case atStart => exact ⟨0, rfl, by omega, by omega, rfl, rfl⟩
  case round =>
    obtain ⟨i, rfl, hin, him, htk, rfl⟩ := hrel
    have HT := Lib.hid htk
    clear htk
    rcases Nat.lt_or_ge i n with h | h
    · obtain ⟨b1, o1, x, hA1, hr1, c1⟩ := HA.out.strRow h
      subst hA1
      have HR1 := Lib.hid hr1
      clear hr1
      rcases Nat.lt_or_ge i m with h' | h'
      · obtain ⟨b2, o2, y, hA2, hr2, c2⟩ := HB.out.strRow h'
        subst hA2
        have HR2 := Lib.hid hr2
        clear hr2
        go_wp2_with fail
        refine (cmp_any x y _).mono ?_
        rintro e w' ⟨rfl, rfl⟩
        by_cases hxy : x = y
        · subst hxy
          rw [show cmpS x x = 0 by unfold cmpS; rw [bless_irr, if_neg (by simp), if_pos rfl]]
          go_wp2_with fail
          go_roundw
          case rel => exact ⟨i+1, by go_num, by omega, by omega, by rw [take_snocS HR1.out, take_snocS HR2.out, HT.out], by trivial⟩
          case measure => simp [intOf]; omega
        · have K := Lib.hid (lessP_ne HT.out HR1.out HR2.out hxy)
          cases hl : Op.bytesLess x y with
          | true =>
            rw [show cmpS x y = -1 by unfold cmpS; rw [if_pos hl]]
            rw [hl] at K
            go_wp2_with fail
            go_ret
            exact ⟨⟨-1, rfl, by rw [K.out]; rfl⟩, rfl⟩
          | false =>
            rw [show cmpS x y = 1 by unfold cmpS; rw [hl, if_neg (by simp), if_neg hxy]]
            rw [hl] at K
            clear hxy
            go_wp2_with fail
            go_ret
            exact ⟨⟨1, rfl, by rw [K.out]; rfl⟩, rfl⟩
      · have K := Lib.hid (lessP_end HT.out (by have := HX.out; omega) (by have := HY.out; omega) (.inr (by have := HY.out; omega)))
        have K2 := Lib.hid (show decide (X.length < Y.length) = false by rw [decide_eq_false]; have := HX.out; have := HY.out; omega)
        go_wp2_with fail
        go_ret
        exact ⟨⟨1, rfl, by rw [K.out, K2.out]; rfl⟩, rfl⟩
    · obtain rfl : i = n := by omega
      have K := Lib.hid (lessP_end HT.out (by have := HX.out; omega) (by have := HY.out; omega) (.inl (by have := HX.out; omega)))
      rcases Nat.lt_or_ge i m with h' | h'
      · have K2 := Lib.hid (show decide (X.length < Y.length) = true by rw [decide_eq_true]; have := HX.out; have := HY.out; omega)
        go_wp2_with fail
        go_ret
        exact ⟨⟨-1, rfl, by rw [K.out, K2.out]; rfl⟩, rfl⟩
      · have K2 := Lib.hid (show decide (X.length < Y.length) = false by rw [decide_eq_false]; have := HX.out; have := HY.out; omega)
        go_wp2_with fail
        go_ret
        exact ⟨⟨0, rfl, by rw [K.out, K2.out]; rfl⟩, rfl⟩
set_option maxRecDepth 100000 in
theorem less_any (p q : ByteArray) (w : World) (hp : p.size ≤ 2097152) (hq : q.size ≤ 2097152) :
    Calls Tryz.prog 36 #[.string p, .string q] w fun e w' => e = .returned (.bool (lessP (splitB p.data.toList) (splitB q.data.toList))) ∧ Below w.heap.size w w' := by
  have HP := Lib.hid hp
  have HQ := Lib.hid hq
  clear hp hq
  go_enter Tryz.func36, Tryz.ntmps36
  go_wp2_with fail
  refine (pathSplit_any p _ HP.out).mono ?_
  rintro e w1 ⟨⟨A, n, c, rfl, hn, hnc, hsA⟩, hb1⟩
  have HB1 := Lib.hid hb1
  have HSA := Lib.hid hsA
  clear hb1 hsA hn
  go_wp2_with fail
  refine (pathSplit_any q _ HQ.out).mono ?_
  rintro e w2 ⟨⟨B, m, d, rfl, hm, hmd, hsB⟩, hb2⟩
  have HB2 := Lib.hid (HB1.out.trans (hb2.mono HB1.out.size))
  have HSA2 := Lib.hid (HSA.out.below hb2)
  have HSB2 := Lib.hid hsB
  clear hb2 hsB hm
  go_wp2_with fail
  refine (compare_any A B n c m d _ _ _ HSA2.out HSB2.out).mono ?_
  rintro e w3 ⟨⟨k, rfl, hk⟩, rfl⟩
  have HK := Lib.hid hk
  clear hk
  go_wp2_with fail
  go_ret
  exact ⟨by rw [← HK.out]; rfl, HB2.out⟩
end Go.Proofs.YtlbbehfbjbbckaaGreatDoor

/-! The order of paths is a strict and whole one; parts, glued, are the text; what is under a path lies behind it, side by side. -/
set_option linter.unusedVariables false
set_option linter.unusedSimpArgs false
namespace Go.Proofs.YtlbbehfbjbbckaaGreatDoor
open Go.RowKit

theorem bless_trans : ∀ {a b c : List UInt8}, Op.bytesLess a b = true → Op.bytesLess b c = true → Op.bytesLess a c = true
  | _, [], _, h, _ => by cases ‹List UInt8› <;> simp [Op.bytesLess] at h
  | _, _ :: _, [], _, h => by simp [Op.bytesLess] at h
  | [], _ :: _, _ :: _, _, _ => rfl
  | x :: a, y :: b, z :: c, h, k => by
    simp only [Op.bytesLess, Bool.or_eq_true, Bool.and_eq_true, decide_eq_true_eq, beq_iff_eq] at h k ⊢
    rcases h with h | ⟨rfl, h⟩
    · rcases k with k | ⟨rfl, k⟩
      · exact .inl (UInt8.lt_trans h k)
      · exact .inl h
    · rcases k with k | ⟨rfl, k⟩
      · exact .inl k
      · exact .inr ⟨rfl, bless_trans h k⟩
theorem bless_total : ∀ {a b : List UInt8}, a ≠ b → Op.bytesLess a b = true ∨ Op.bytesLess b a = true
  | [], [], h => absurd rfl h
  | [], _ :: _, _ => .inl rfl
  | _ :: _, [], _ => .inr rfl
  | x :: a, y :: b, h => by
    simp only [Op.bytesLess, Bool.or_eq_true, Bool.and_eq_true, decide_eq_true_eq, beq_iff_eq]
    by_cases e : x = y
    · subst e
      have : a ≠ b := fun e => h (by rw [e])
      rcases bless_total this with k | k
      · exact .inl (.inr ⟨rfl, k⟩)
      · exact .inr (.inr ⟨rfl, k⟩)
    · rcases Nat.lt_or_gt_of_ne (fun k => e (UInt8.toNat_inj.1 k)) with k | k
      · exact .inl (.inl (UInt8.lt_iff_toNat_lt.2 k))
      · exact .inr (.inl (UInt8.lt_iff_toNat_lt.2 k))
theorem lessP_irr : ∀ (X : List (List UInt8)), lessP X X = false
  | [] => rfl
  | x :: X => by rw [lessP, if_pos rfl]; exact lessP_irr X
theorem lessP_trans : ∀ {X Y Z : List (List UInt8)}, lessP X Y = true → lessP Y Z = true → lessP X Z = true
  | [], [], _, h, _ => by simp [lessP] at h
  | _ :: _, [], _, h, _ => by simp [lessP] at h
  | _, _ :: _, [], _, h => by simp [lessP] at h
  | [], _ :: _, _ :: _, _, _ => rfl
  | x :: X, y :: Y, z :: Z, h, k => by
    rw [lessP] at h k ⊢
    split at h
    · rename_i e; subst e
      split at k
      · rename_i e; subst e
        rw [if_pos rfl]; exact lessP_trans h k
      · rename_i e; rw [if_neg e]; exact k
    · rename_i e
      split at k
      · rename_i e2; subst e2; rw [if_neg e]; exact h
      · rename_i e2
        have := bless_trans h k
        rw [if_neg (fun e3 => by subst e3; rw [bless_irr] at this; cases this)]
        exact this
theorem lessP_total : ∀ {X Y : List (List UInt8)}, X ≠ Y → lessP X Y = true ∨ lessP Y X = true
  | [], [], h => absurd rfl h
  | [], _ :: _, _ => .inl rfl
  | _ :: _, [], _ => .inr rfl
  | x :: X, y :: Y, h => by
    rw [lessP, lessP]
    by_cases e : x = y
    · subst e
      rw [if_pos rfl, if_pos rfl]
      exact lessP_total (fun k => h (by rw [k]))
    · rw [if_neg e, if_neg (fun k => e k.symm)]
      exact bless_total e
theorem lessP_asymm {X Y : List (List UInt8)} (h : lessP X Y = true) : lessP Y X = false := by
  cases k : lessP Y X with
  | false => rfl
  | true => have := lessP_trans h k; rw [lessP_irr] at this; cases this
/-- A list of parts comes ahead of all that go on from it. -/
theorem lessP_append : ∀ (X : List (List UInt8)) {Z : List (List UInt8)}, Z ≠ [] → lessP X (X ++ Z) = true
  | [], [], h => absurd rfl h
  | [], _ :: _, _ => rfl
  | x :: X, Z, h => by rw [List.cons_append, lessP, if_pos rfl]; exact lessP_append X h
/-- What lies between a list and one that goes on from it goes on from it. -/
theorem lessP_between : ∀ (X : List (List UInt8)) {Y Z : List (List UInt8)}, lessP X Y = true → lessP Y (X ++ Z) = true → ∃ W, Y = X ++ W
  | [], Y, _, _, _ => ⟨Y, rfl⟩
  | x :: X, [], _, h, _ => by simp [lessP] at h
  | x :: X, y :: Y, Z, h, k => by
    rw [List.cons_append] at k
    rw [lessP] at h k
    by_cases e : x = y
    · subst e
      rw [if_pos rfl] at h k
      obtain ⟨W, rfl⟩ := lessP_between X h k
      exact ⟨W, rfl⟩
    · rw [if_neg e] at h
      rw [if_neg (fun k => e k.symm)] at k
      have := bless_trans h k
      rw [bless_irr] at this; cases this
/-- Parts, glued, are the text. -/
theorem glue_split (l : List UInt8) : glueB (splitB l) = l := by
  by_cases h : l = []
  · subst h; rfl
  · obtain ⟨h1, h2, h3⟩ := cutN_inv l l.length (Nat.le_refl _)
    rw [splitB_ne h]
    by_cases hL : (cutN l l.length).1 = []
    · rw [hL]
      have : lastB l = 0 := h1.1 hL
      show baseB l = l
      unfold baseB; rw [this]; rfl
    · rw [glueB_snoc _ _ hL, h3]
      have hpos : 0 < lastB l := Nat.pos_of_ne_zero fun e => hL (h1.2 e)
      have h47 : l[lastB l - 1]? = some 47 := h2 hpos
      have hf1 : lastB l - 1 < l.length := (List.getElem?_eq_some_iff.1 h47).1
      have e2 : l.drop (lastB l - 1) = 47 :: l.drop (lastB l) := by
        rw [List.drop_eq_getElem_cons hf1, show lastB l - 1 + 1 = lastB l by omega]
        congr 1
        exact Option.some.inj ((List.getElem?_eq_getElem hf1).symm.trans h47)
      show l.take (lastB l - 1) ++ 47 :: l.drop (lastB l) = l
      rw [← e2, List.take_append_drop]
theorem splitB_inj {a b : List UInt8} (h : splitB a = splitB b) : a = b := by rw [← glue_split a, h, glue_split]
theorem splitB_nil_iff {a : List UInt8} : splitB a = [] ↔ a = [] := ⟨fun h => by rw [← glue_split a, h]; rfl, fun h => by subst h; rfl⟩
end Go.Proofs.YtlbbehfbjbbckaaGreatDoor

/-! The document's paths: Right, glue, Parent, Base, Less. -/
set_option linter.unusedVariables false
set_option linter.unusedSimpArgs false
namespace Go.Proofs.YtlbbehfbjbbckaaGreatDoor
open Go.RowKit
attribute [local go_sem] str_toList

set_option maxRecDepth 100000 in
theorem nought_any (x : List UInt8) (w : World) (hs : x.length ≤ 9223372036854775806) :
    Calls Tryz.prog 96 #[.string (str x)] w fun e w' => e = .returned (.bool (decide ((0 : UInt8) ∈ x))) ∧ w' = w := by
  obtain ⟨s, hs0⟩ : ∃ s, str x = s := ⟨_, rfl⟩
  have HD := Lib.hid (show s.data.toList = x by rw [← hs0]; exact str_data x)
  have hz : s.size ≤ 9223372036854775806 := by rw [← hs0, str_size]; exact hs
  rw [hs0]
  clear hs0 hs
  go_enter Tryz.func96, Tryz.ntmps96
  go_wp2_with fail
  go_loopw [3] (fun a wr => ∃ i : Nat, a = .int .i64 i ∧ i ≤ s.size ∧ (∀ j : Nat, j < i → x[j]? ≠ some 0) ∧ wr = w) (fun a _ => s.size - (intOf a).toNat)
  case atStart => exact ⟨0, rfl, by omega, fun j h => by omega, rfl⟩
  case round =>
    obtain ⟨i, rfl, hin, hall, rfl⟩ := hrel
    have HA := Lib.hid hall
    clear hall
    rcases Nat.lt_or_ge i s.size with h | h
    · by_cases hq : (s[i]'h).toNat = 0
      · have hq2 : (((s[i]'h).toNat : Int) == 0) = true := by simp [hq]
        have K := Lib.hid (show decide ((0 : UInt8) ∈ x) = true from decide_eq_true (by
          have h1 := data_at s i h
          rw [HD.out] at h1
          have h2 : s[i]'h = 0 := UInt8.toNat_inj.1 (by rw [hq]; rfl)
          rw [h2] at h1
          exact List.mem_of_getElem? h1))
        clear hq
        go_wp2_with fail
        go_ret
        exact ⟨by rw [K.out]; rfl, rfl⟩
      · have hq2 : (((s[i]'h).toNat : Int) == 0) = false := by simp; omega
        have K := Lib.hid (show x[i]? ≠ some 0 from fun e => hq (by
          have h1 := data_at s i h
          rw [HD.out, e] at h1
          rw [← Option.some.inj h1]; rfl))
        clear hq
        go_wp2_with fail
        go_roundw
        case rel => exact ⟨i+1, by go_num, by omega, fun j hj => by
          rcases Nat.lt_or_ge j i with h' | h'
          · exact HA.out j h'
          · obtain rfl : j = i := by omega
            exact K.out, by trivial⟩
        case measure => simp [intOf]; omega
    · have K := Lib.hid (show decide ((0 : UInt8) ∈ x) = false from decide_eq_false fun hm => by
        obtain ⟨j, hj⟩ := List.getElem?_of_mem hm
        have hl : x.length = s.size := by rw [← HD.out, Array.length_toList]; rfl
        exact HA.out j (by have := (List.getElem?_eq_some_iff.1 hj).1; omega) hj)
      go_wp2_with fail
      go_ret
      exact ⟨by rw [K.out]; rfl, rfl⟩
theorem partOk_not (x : List UInt8) : partOk x = false ↔ x = [] ∨ x = [46] ∨ x = [46, 46] ∨ 48 < x.length ∨ decide ((0 : UInt8) ∈ x) = true := by
  unfold partOk
  by_cases h1 : x = []
  · simp [h1]
  by_cases h3 : x = [46]
  · simp [h3]
  by_cases h4 : x = [46, 46]
  · simp [h4]
  simp [h1, h3, h4]
  by_cases h2 : x.length ≤ 48
  · simp [h2]; intro h; omega
  · simp [h2]; omega
set_option maxRecDepth 100000 in
set_option maxHeartbeats 2000000 in
theorem refRight_any (p : ByteArray) (X : List (List UInt8)) (w : World) (hX : splitB p.data.toList = X) (hp : p.size ≤ 2097152) :
    Calls Tryz.prog 44 #[.string p] w fun e w' => e = .returned (.bool (rightB p.data.toList)) ∧ Below w.heap.size w w' := by
  have HX0 := Lib.hid hX
  have hlen : p.data.toList.length = p.size := by rw [Array.length_toList]; rfl
  have HR : Hid (rightB p.data.toList = (X.all partOk && (decide (X.length ≤ 12) && decide (p.size ≤ 200)))) := Lib.hid (by unfold rightB; rw [hX, hlen])
  clear hX hlen
  go_enter Tryz.func44, Tryz.ntmps44
  go_wp2_with fail
  refine (refSplit_any p _ hp).mono ?_
  rintro e w1 ⟨⟨A, n, c, rfl, hn, hnc, hsA⟩, hb1⟩
  rw [HX0.out] at hn hsA
  have HB1 := Lib.hid hb1
  have HSA := Lib.hid hsA
  have HN := Lib.hid hn
  have hmx := hsA.max
  clear hb1 hsA hn
  rcases Nat.lt_or_ge 12 n with h1 | h1
  · have q1 : decide ((12 : Int) < n) = true := by simp; omega
    have K1 := Lib.hid (show decide (X.length ≤ 12) = false by rw [← HN.out]; simp; omega)
    clear h1
    go_wp2_with fail
    go_ret
    exact ⟨by rw [HR.out, K1.out]; simp, HB1.out⟩
  rcases Nat.lt_or_ge 200 p.size with h2 | h2
  · have q1 : decide ((12 : Int) < n) = false := by simp; omega
    have q2 : decide ((200 : Int) < p.size) = true := by simp; omega
    have K2 := Lib.hid (show decide (p.size ≤ 200) = false by simp; omega)
    clear h1 h2
    go_wp2_with fail
    go_ret
    exact ⟨by rw [HR.out, K2.out]; simp, HB1.out⟩
  have q1 : decide ((12 : Int) < n) = false := by simp; omega
  have q2 : decide ((200 : Int) < p.size) = false := by simp; omega
  have K1 := Lib.hid (show decide (X.length ≤ 12) = true by rw [← HN.out]; simpa using h1)
  have K2 := Lib.hid (show decide (p.size ≤ 200) = true by simpa using h2)
  clear h1 h2
  go_wp2_with fail
  go_loopw [4] (fun a wr => ∃ i : Nat, a = .int .i64 i ∧ i ≤ n ∧ (∀ (j : Nat) x, j < i → X[j]? = some x → partOk x = true) ∧ wr = w1) (fun a _ => n - (intOf a).toNat)
  case atStart => exact ⟨0, rfl, by omega, fun j x h => by omega, rfl⟩
  case round =>
    obtain ⟨i, rfl, hin, hall, rfl⟩ := hrel
    have HA := Lib.hid hall
    clear hall
    rcases Nat.lt_or_ge i n with h | h
    · obtain ⟨b1, o1, x, hA1, hr1, c1⟩ := HSA.out.strRow h
      subst hA1
      have HR1 := Lib.hid hr1
      clear hr1
      have bad : partOk x = false → Hid (X.all partOk = false) := fun hp => Lib.hid (all_false HR1.out hp)
      have HZ := Lib.hid (str_size x)
      have hxl : x.length ≤ 48 → x.length ≤ 9223372036854775806 := fun h => by omega
      by_cases g1 : x = []
      · have K := bad ((partOk_not x).2 (.inl g1))
        clear bad hxl
        subst g1
        go_wp2_with fail
        go_ret
        exact ⟨by rw [HR.out, K.out]; rfl, HB1.out⟩
      by_cases g2 : x = [46]
      · have K := bad ((partOk_not x).2 (.inr (.inl g2)))
        clear bad hxl
        subst g2
        go_wp2_with fail
        go_ret
        exact ⟨by rw [HR.out, K.out]; rfl, HB1.out⟩
      by_cases g3 : x = [46, 46]
      · have K := bad ((partOk_not x).2 (.inr (.inr (.inl g3))))
        clear bad hxl
        subst g3
        go_wp2_with fail
        go_ret
        exact ⟨by rw [HR.out, K.out]; rfl, HB1.out⟩
      rcases Nat.lt_or_ge 48 x.length with g4 | g4
      · have K := bad ((partOk_not x).2 (.inr (.inr (.inr (.inl g4)))))
        have q4 : decide ((48 : Int) < (str x).size) = true := by rw [HZ.out]; simp; omega
        clear bad hxl g4
        go_wp2_with fail
        go_ret
        exact ⟨by rw [HR.out, K.out]; rfl, HB1.out⟩
      have q4 : decide ((48 : Int) < (str x).size) = false := by rw [HZ.out]; simp; omega
      have KP := Lib.hid (partOk_not x)
      have KG := Lib.hid (show ¬ (x = [] ∨ x = [46] ∨ x = [46, 46] ∨ 48 < x.length) from by rintro (h | h | h | h); exact g1 h; exact g2 h; exact g3 h; omega)
      have hx8 := hxl g4
      have g1b : x.isEmpty = false := by simpa using g1
      have g2b : (x == [46]) = false := by simpa using g2
      have g3b : (x == [46, 46]) = false := by simpa using g3
      clear hxl g4 g1 g2 g3
      go_wp2_with fail
      refine (nought_any x _ hx8).mono ?_
      rintro e w' ⟨rfl, rfl⟩
      cases h5 : decide ((0 : UInt8) ∈ x) with
      | true =>
        have K := bad (KP.out.2 (.inr (.inr (.inr (.inr h5)))))
        clear bad h5
        go_wp2_with fail
        go_ret
        exact ⟨by rw [HR.out, K.out]; rfl, HB1.out⟩
      | false =>
        have K := Lib.hid (show partOk x = true from by
          cases hp : partOk x with
          | true => rfl
          | false =>
            rcases KP.out.1 hp with h | h | h | h | h
            · exact absurd (.inl h) KG.out
            · exact absurd (.inr (.inl h)) KG.out
            · exact absurd (.inr (.inr (.inl h))) KG.out
            · exact absurd (.inr (.inr (.inr h))) KG.out
            · rw [h5] at h; cases h)
        clear bad h5
        go_wp2_with fail
        go_roundw
        case rel => exact ⟨i+1, by go_num, by omega, fun j y hj hy => by
          rcases Nat.lt_or_ge j i with h' | h'
          · exact HA.out j y h' hy
          · obtain rfl : j = i := by omega
            rw [HR1.out] at hy; cases hy; exact K.out, by trivial⟩
        case measure => simp [intOf]; omega
    · obtain rfl : i = n := by omega
      have KA := Lib.hid (all_true (L := X) fun j x hx => HA.out j x (by rw [HN.out]; exact (List.getElem?_eq_some_iff.1 hx).1) hx)
      go_wp2_with fail
      go_ret
      exact ⟨by rw [HR.out, KA.out, K1.out, K2.out]; rfl, HB1.out⟩
end Go.Proofs.YtlbbehfbjbbckaaGreatDoor

/-! The document's paths: glue, Parent, Base, Less. -/
set_option linter.unusedVariables false
set_option linter.unusedSimpArgs false
namespace Go.Proofs.YtlbbehfbjbbckaaGreatDoor
open Go.RowKit
attribute [local go_sem] str_toList

theorem glueB_take_le : ∀ (X : List (List UInt8)) (i : Nat), (glueB (X.take i)).length ≤ (glueB X).length
  | [], i => by simp
  | [x], 0 => by simp [glueB]
  | [x], i+1 => by simp [glueB]
  | x :: y :: r, 0 => by simp [glueB]
  | x :: y :: r, 1 => by simp [glueB]
  | x :: y :: r, i+2 => by
    have := glueB_take_le (y :: r) (i + 1)
    simp only [List.take_succ_cons, glueB, List.length_append, List.length_cons] at this ⊢
    omega
theorem strCells_str (x : List UInt8) : Lib.strCells (str x) = bys x := by rw [strCells_bys, str_data]
set_option maxRecDepth 100000 in
set_option maxHeartbeats 2000000 in
theorem glue_any (A : Option Addr) (n c : Nat) (X : List (List UInt8)) (w : World) (hA : Sl 1 w A n (strs X)) (hX : (glueB X).length ≤ 4194304) :
    Calls Tryz.prog 99 #[.slice A n c] w fun e w' => e = .returned (.string (str (glueB X))) ∧ Below w.heap.size w w' := by
  obtain ⟨j0, ji, jz0, jz1, jz2⟩ := info_parts infoB
  have HX := Lib.hid hA.strsLen
  have HA := Lib.hid hA
  have ha := hA.max
  have hx48 : ∀ i, (glueB (X.take i)).length ≤ 4194304 := fun i => Nat.le_trans (glueB_take_le X i) hX
  have HL := Lib.hid hx48
  clear hA hx48
  go_enter Tryz.func99, Tryz.ntmps99
  go_wp2_with fail
  go_loopw [3, 4] (fun v a wr => ∃ i : Nat, a = .int .i64 i ∧ i ≤ n ∧ wr.ownsRow w.heap.size 5 1 v (glueB (X.take i)).length (bys (glueB (X.take i))) ∧ Below w.heap.size w wr) (fun _ a _ => n - (intOf a).toNat)
  case atStart => exact ⟨0, rfl, by omega, World.ownsRow_nil _ _ _ _, Below.refl _ _⟩
  case round =>
    obtain ⟨i, rfl, hin, hown, hb⟩ := hrel
    have HB := Lib.hid hb
    rcases Nat.lt_or_ge i n with h | h
    · obtain ⟨b1, o1, x, hA1, hr1, c1⟩ := (HA.out.below hb).strRow h
      have HA1 := Lib.hid hA1
      have htk := take_snocS hr1
      have hl1 := HL.out (i + 1)
      have hl0 := HL.out i
      have hsx := str_size x
      rcases Nat.eq_zero_or_pos i with h0 | h0
      · have e1 : glueB (X.take (i + 1)) = x := by rw [htk, h0]; simp [glueB]
        have e0 : glueB (X.take i) = [] := by rw [h0]; simp [glueB]
        have hz0 : ¬ (0 : Int) < i := by omega
        clear h0
        rw [e1] at hl1
        rw [e0] at hown
        obtain ⟨v4, w4, hap, hown4, hg4, _⟩ := Lib.run_append_own_string (P := Tryz.prog) (w := wr) w.heap.size 36 9 36 5 j0 Tryz.underlying36 Tryz.underlying9 ji jz0 jz1 jz2 _ _ _ hown (str x) (by unfold maxLen; rw [hsx, List.length_nil]; omega) (by rw [hsx, List.length_nil]; omega) hb.size
        rw [strCells_str, List.length_nil, Nat.zero_add, hsx] at hown4
        have hown5 : w4.ownsRow w.heap.size 5 1 v4 (glueB (X.take (i + 1))).length (bys (glueB (X.take (i + 1)))) := by rw [e1]; exact hown4
        have R5 := Lib.hid (And.intro hown5 (hb.grown hg4 hb.size (fun k hk => (hown.lt k hk).1)))
        clear hown hb hown4 hg4 hown5 e1 e0 hl1 hl0 hsx htk hr1 ji jz0 jz1 jz2
        subst hA1
        clear HA1
        go_wp2_with (at_builtin; refine halt_in ?_)
        refine Halted.out (wpList_append_run rfl _ _ _ _ rfl rfl rfl hap ?_)
        clear hap
        go_wp2_with fail
        go_roundw
        case rel => exact ⟨i + 1, by go_num, by omega, R5.out.1, R5.out.2⟩
        case measure => simp [intOf]; omega
      · have hne : X.take i ≠ [] := fun e => by
          have h1 := congrArg List.length e
          have h2 := HX.out
          rw [List.length_take, List.length_nil] at h1
          omega
        have e1 : glueB (X.take (i + 1)) = glueB (X.take i) ++ [47] ++ x := by rw [htk, glueB_snoc _ _ hne]; simp
        have hl2 : (glueB (X.take (i + 1))).length = (glueB (X.take i)).length + 1 + x.length := by rw [e1, List.length_append, List.length_append]; rfl
        obtain ⟨v3, w3, hap3, hown3, hg3, hb3⟩ := run_append_one (P := Tryz.prog) (w0 := w) w.heap.size 36 36 5 j0 _ 1 1 Tryz.underlying36 ji jz0 jz1 jz2 rfl (by decide) hown hb [.int .u8 47] rfl (one_int _ _) 1 (by omega) (by omega) hb.size
        obtain ⟨v4, w4, hap, hown4, hg4, _⟩ := Lib.run_append_own_string (P := Tryz.prog) (w := w3) w.heap.size 36 9 36 5 j0 Tryz.underlying36 Tryz.underlying9 ji jz0 jz1 jz2 _ _ _ hown3 (str x) (by unfold maxLen; rw [hsx]; omega) (by rw [hsx]; omega) hb3.size
        rw [strCells_str, hsx] at hown4
        have hown5 : w4.ownsRow w.heap.size 5 1 v4 (glueB (X.take (i + 1))).length (bys (glueB (X.take (i + 1)))) := by
          rw [hl2, e1, bys_append, bys_append]; exact hown4
        have hr3 : Below wr.heap.size wr w3 ∨ True := .inr trivial
        have c1' : w3.cell? ⟨b1, o1 + i, none⟩ = some (.string (str x)) := by
          obtain ⟨b2, o2, x2, hA2, hr2, c2⟩ := (HA.out.below hb3).strRow h
          rw [hA1] at hA2
          cases hA2
          rw [hr1] at hr2
          cases hr2
          exact c2
        have R5 := Lib.hid (And.intro hown5 (hb3.grown hg4 hb3.size (fun k hk => (hown3.lt k hk).1)))
        have hpos : (0 : Int) < i := by omega
        clear hown hb hown3 hown4 hg3 hg4 hb3 hown5 e1 hl1 hl0 hl2 hsx htk hr1 hr3 hne ji jz0 jz1 jz2
        subst hA1
        clear HA1
        go_wp2_with (at_builtin; refine halt_in ?_)
        refine Halted.out (wpList_append_run rfl _ _ _ _ rfl rfl rfl hap3 ?_)
        clear hap3
        go_wp2_with (at_builtin; refine halt_in ?_)
        refine Halted.out (wpList_append_run rfl _ _ _ _ rfl rfl rfl hap ?_)
        clear hap
        go_wp2_with fail
        go_roundw
        case rel => exact ⟨i + 1, by go_num, by omega, R5.out.1, R5.out.2⟩
        case measure => simp [intOf]; omega
    · obtain rfl : i = n := by omega
      have htk : X.take i = X := List.take_of_length_le (by have := HX.out; omega)
      rw [htk] at hown
      obtain ⟨Af, cf, rfl, hcf, hslf, _, _⟩ := own_sl hown
      have hcv2 := run_conv_str (P := Tryz.prog) (src := 36) Tryz.underlying36 Tryz.underlying5 (dst := 9) Tryz.underlying9 (c := cf) hslf
      clear hown hb hslf htk ji jz0 jz1 jz2
      go_wp2_with fail
      go_ret
      exact ⟨rfl, HB.out⟩
end Go.Proofs.YtlbbehfbjbbckaaGreatDoor

/-! The document's paths: Parent, Base, Less. -/
set_option linter.unusedVariables false
set_option linter.unusedSimpArgs false
namespace Go.Proofs.YtlbbehfbjbbckaaGreatDoor
open Go.RowKit
attribute [local go_sem] str_toList

theorem parentB_len (l : List UInt8) : (parentB l).length ≤ l.length := by unfold parentB; rw [List.length_take]; omega
set_option maxRecDepth 100000 in
set_option maxHeartbeats 2000000 in
theorem refParent_any (p : ByteArray) (X : List (List UInt8)) (w : World) (hX : splitB p.data.toList = X) (hp : p.size ≤ 2097152) :
    Calls Tryz.prog 47 #[.string p] w fun e w' => e = .returned (.string (str (parentB p.data.toList))) ∧ Below w.heap.size w w' := by
  obtain ⟨i0, hi, hz0, hz1, hz2⟩ := info_parts infoS
  have HX0 := Lib.hid hX
  have HG := Lib.hid (show (if X.length < 2 then [] else glueB (X.take (X.length - 1))) = parentB p.data.toList by rw [← hX]; exact parent_glue p.data.toList)
  have hpl : (parentB p.data.toList).length ≤ 4194304 := by
    have := parentB_len p.data.toList
    have h2 : p.data.toList.length = p.size := by rw [Array.length_toList]; rfl
    omega
  clear hX
  go_enter Tryz.func47, Tryz.ntmps47
  go_wp2_with fail
  refine (refSplit_any p _ hp).mono ?_
  rintro e w1 ⟨⟨A, n, c, rfl, hn, hnc, hsA⟩, hb1⟩
  rw [HX0.out] at hn hsA
  have HB1 := Lib.hid hb1
  have hmx := hsA.max
  rcases Nat.lt_or_ge n 2 with h | h
  · have K := Lib.hid (show [] = parentB p.data.toList by rw [← HG.out, if_pos (by omega)])
    clear hb1 hsA hn hi hz0 hz1 hz2
    go_wp2_with fail
    go_ret
    exact ⟨by rw [← K.out]; rfl, HB1.out⟩
  · have K := Lib.hid (show glueB (X.take (n - 1)) = parentB p.data.toList by rw [← HG.out, if_neg (by omega), hn])
    have HH := Lib.hid (hsA.head (n - 1) c (by omega))
    have hlk : (glueB (X.take (n - 1))).length ≤ 4194304 := by rw [K.out]; exact hpl
    have hsl : ∀ w : World, (Instr.slice 35 (.slice A n c) none (some (.int .i64 ((n : Int) - 1))) none).run Tryz.prog w = .ok (.slice (subAt A 0 c 1) (n - 1) c) w := fun w => run_slice_to undSt elemSt hi hz1 A n c (n - 1) (by omega) .i64 _ (by omega)
    clear hb1 hsA hn hi hz0 hz1 hz2 hpl
    go_wp2_with fail
    refine (glue_any _ _ _ _ _ HH.out hlk).mono ?_
    rintro e w2 ⟨rfl, hb2⟩
    have HB2 := Lib.hid (HB1.out.trans (hb2.mono HB1.out.size))
    clear hb2 hsl
    rw [K.out]
    go_wp2_with fail
    go_ret
    exact ⟨rfl, HB2.out⟩
set_option maxRecDepth 100000 in
set_option maxHeartbeats 2000000 in
theorem refBase_any (p : ByteArray) (X : List (List UInt8)) (w : World) (hX : splitB p.data.toList = X) (hp : p.size ≤ 2097152) :
    Calls Tryz.prog 133 #[.string p] w fun e w' => e = .returned (.string (str (baseB p.data.toList))) ∧ Below w.heap.size w w' := by
  have HX0 := Lib.hid hX
  have HG := Lib.hid (show X.getLast?.getD [] = baseB p.data.toList by rw [← hX]; exact base_last p.data.toList)
  clear hX
  go_enter Tryz.func133, Tryz.ntmps133
  go_wp2_with fail
  refine (refSplit_any p _ hp).mono ?_
  rintro e w1 ⟨⟨A, n, c, rfl, hn, hnc, hsA⟩, hb1⟩
  rw [HX0.out] at hn hsA
  have HB1 := Lib.hid hb1
  have hmx := hsA.max
  rcases Nat.eq_zero_or_pos n with h | h
  · have K := Lib.hid (show [] = baseB p.data.toList by
      rw [← HG.out]
      have : X = [] := List.eq_nil_of_length_eq_zero (by omega)
      rw [this]; rfl)
    have hz : ((n : Int) == 0) = true := by simp [h]
    clear hb1 hsA hn h
    go_wp2_with fail
    go_ret
    exact ⟨by rw [← K.out]; rfl, HB1.out⟩
  · obtain ⟨b1, o1, x, hA1, hr1, c1⟩ := hsA.strRow (show n - 1 < n by omega)
    subst hA1
    have K := Lib.hid (show x = baseB p.data.toList by
      rw [← HG.out, List.getLast?_eq_getElem?, ← hn, hr1]; rfl)
    have hz : ((n : Int) == 0) = false := by simp; omega
    obtain ⟨m, rfl⟩ : ∃ m, n = m + 1 := ⟨n - 1, by omega⟩
    have c2 : w1.cell? ⟨b1, o1 + m, none⟩ = some (.string (str x)) := c1
    have e1 : ((m + 1 : Nat) : Int) - 1 = (m : Int) := by omega
    clear hb1 hsA hn h hr1 c1
    go_wp2_with fail
    go_ret
    exact ⟨by rw [← K.out]; rfl, HB1.out⟩
set_option maxRecDepth 100000 in
set_option maxHeartbeats 2000000 in
theorem refLess_any (p q : ByteArray) (X Y : List (List UInt8)) (w : World) (hX : splitB p.data.toList = X) (hY : splitB q.data.toList = Y) (hp : p.size ≤ 2097152) (hq : q.size ≤ 2097152) :
    Calls Tryz.prog 122 #[.string p, .string q] w fun e w' => e = .returned (.bool (lessP X Y)) ∧ Below w.heap.size w w' := by
  have HP := Lib.hid hp
  have HQ := Lib.hid hq
  have HX0 := Lib.hid hX
  have HY0 := Lib.hid hY
  clear hp hq hX hY
  go_enter Tryz.func122, Tryz.ntmps122
  go_wp2_with fail
  refine (refSplit_any p _ HP.out).mono ?_
  rintro e w1 ⟨⟨A, n, c, rfl, hn, hnc, hsA⟩, hb1⟩
  rw [HX0.out] at hn hsA
  have HB1 := Lib.hid hb1
  have HSA := Lib.hid hsA
  have HN := Lib.hid hn
  clear hb1 hsA hn
  go_wp2_with fail
  refine (refSplit_any q _ HQ.out).mono ?_
  rintro e w2 ⟨⟨B, m, d, rfl, hm, hmd, hsB⟩, hb2⟩
  rw [HY0.out] at hm hsB
  have HB2 := Lib.hid (HB1.out.trans (hb2.mono HB1.out.size))
  have HSA2 := Lib.hid (HSA.out.below hb2)
  have HSB2 := Lib.hid hsB
  have HM := Lib.hid hm
  clear hb2 hsB hm
  have hmx := HSB2.out.max
  have hmn := HSA2.out.max
  go_wp2_with fail
  go_loopw [7] (fun a wr => ∃ i k : Nat, a = .int .i64 i ∧ i ≤ m ∧ i ≤ n ∧ X.take i = Y.take i ∧ wr = w2.drewN k) (fun a _ => m - (intOf a).toNat)
  case atStart => exact ⟨0, 0, rfl, by omega, by omega, rfl, rfl⟩
  case round =>
    obtain ⟨i, k, rfl, him, hin, htk, rfl⟩ := hrel
    have HT := Lib.hid htk
    clear htk
    have fin : (n ≤ i ∨ m ≤ i) → Hid (lessP X Y = decide (n < m)) := fun h => Lib.hid (by
      have h1 := HN.out
      have h2 := HM.out
      rw [lessP_end HT.out (by omega) (by omega) (by omega), ← h1, ← h2])
    rcases Nat.lt_or_ge i n with h' | h'
    · rcases Nat.lt_or_ge i m with h | h
      · obtain ⟨b2, o2, y, hA2, hr2, c2⟩ := HSB2.out.strRow h
        subst hA2
        have HR2 := Lib.hid hr2
        obtain ⟨b1, o1, x, hA1, hr1, c1⟩ := HSA2.out.strRow h'
        subst hA1
        have HR1 := Lib.hid hr1
        clear hr1 hr2 fin
        by_cases hxy : x = y
        · subst hxy
          go_wp2_with fail
          go_quiet (fail)
          go_wp2_with fail
          go_roundw
          case rel => exact ⟨i+1, _, by go_num, by omega, by omega, by rw [take_snocS HR1.out, take_snocS HR2.out, HT.out], rfl⟩
          case measure => simp [intOf]; omega
        · have hne : (x == y) = false := by simpa using hxy
          have K := Lib.hid (lessP_ne HT.out HR1.out HR2.out hxy)
          clear hxy
          go_wp2_with fail
          go_quiet (fail)
          go_wp2_with fail
          go_quiet (fail)
          go_wp2_with fail
          go_ret
          exact ⟨by rw [K.out]; rfl, HB2.out.trans ⟨rfl, rfl, rfl, Nat.le_refl _, fun _ _ => rfl⟩⟩
      · have K := fin (.inr h)
        clear fin
        go_wp2_with fail
        go_ret
        exact ⟨by rw [K.out]; rfl, HB2.out.trans ⟨rfl, rfl, rfl, Nat.le_refl _, fun _ _ => rfl⟩⟩
    · have K := fin (.inl h')
      clear fin
      go_wp2_with fail
      go_ret
      exact ⟨by rw [K.out]; rfl, HB2.out.trans ⟨rfl, rfl, rfl, Nat.le_refl _, fun _ _ => rfl⟩⟩
end Go.Proofs.YtlbbehfbjbbckaaGreatDoor

/-! Parts of paths: what stands above, what is glued is cut again. -/
set_option linter.unusedVariables false
set_option linter.unusedSimpArgs false
namespace Go.Proofs.YtlbbehfbjbbckaaGreatDoor
open Go.RowKit

theorem cutN_last (l : List UInt8) : ∀ i j, (cutN l i).2 ≤ j → j < i → l[j]? ≠ some 47
  | 0, j, _, h => absurd h (Nat.not_lt_zero _)
  | i+1, j, h1, h2 => by
    rw [cutN] at h1
    split at h1
    · simp only at h1; omega
    · rename_i h3
      rcases Nat.lt_or_ge j i with h | h
      · exact cutN_last l i j h1 h
      · obtain rfl : j = i := by omega
        exact h3
theorem cutN_take (l : List UInt8) (m : Nat) : ∀ i, i ≤ m → cutN (l.take m) i = cutN l i
  | 0, _ => rfl
  | i+1, h => by
    have ih := cutN_take l m i (by omega)
    rw [cutN, cutN, ih, List.getElem?_take, if_pos (show i < m by omega)]
    have e : ((l.take m).drop (cutN l i).2).take (i - (cutN l i).2) = (l.drop (cutN l i).2).take (i - (cutN l i).2) := by
      rw [List.drop_take, List.take_take, Nat.min_eq_left (by omega)]
    rw [e]
theorem split_parent {l : List UInt8} (hl : l ≠ []) (hr : rightB l = true) : splitB l = splitB (parentB l) ++ [baseB l] := by
  rw [splitB_ne hl]
  congr 1
  obtain ⟨h1, h2, _⟩ := cutN_inv l l.length (Nat.le_refl _)
  have hle := (cutN_le l l.length).1
  rcases Nat.eq_zero_or_pos (cutN l l.length).2 with hz | hp
  · rw [h1.2 hz]
    unfold parentB lastB
    rw [hz]; rfl
  · have h47 := h2 hp
    have hlast : lastB l = (cutN l l.length).2 := rfl
    obtain ⟨g, hg⟩ : ∃ g, (cutN l l.length).2 = g + 1 := ⟨(cutN l l.length).2 - 1, by omega⟩
    rw [hg] at h47 hle hlast
    simp only [Nat.add_sub_cancel] at h47
    have hcut : cutN l l.length = cutN l (g + 1) := by
      have := cutN_skip l (g + 1) (l.length - (g + 1)) (fun j h3 _ => cutN_last l l.length j (by rw [hg]; exact h3) (by
        rename_i h4
        omega))
      rw [show g + 1 + (l.length - (g + 1)) = l.length by omega] at this
      exact this
    have hpar : parentB l = l.take g := by unfold parentB; rw [hlast]; rfl
    rw [hcut, cutN_slash h47, hpar]
    show (cutN l g).1 ++ [(l.drop (cutN l g).2).take (g - (cutN l g).2)] = splitB (l.take g)
    have hlen : (l.take g).length = g := by rw [List.length_take]; omega
    by_cases hq : l.take g = []
    · exfalso
      rw [hq] at hlen
      have hg0 : g = 0 := hlen.symm
      subst hg0
      have hmem : ([] : List UInt8) ∈ splitB l := by
        rw [splitB_ne hl, hcut, cutN_slash h47]
        simp [cutN]
      unfold rightB at hr
      rw [Bool.and_eq_true, List.all_eq_true] at hr
      have := hr.1 [] hmem
      simp [partOk] at this
    · unfold splitB
      rw [if_neg hq, hlen, cutN_take l g g (Nat.le_refl _)]
      congr 2
      rw [List.drop_take]
theorem rightB_parent {l : List UInt8} (hr : rightB l = true) : rightB (parentB l) = true := by
  by_cases hl : l = []
  · subst hl; rfl
  · have h := hr
    have hs := split_parent hl hr
    have hle := parentB_len l
    unfold rightB at h ⊢
    rw [hs] at h
    simp only [List.all_append, Bool.and_eq_true, decide_eq_true_eq, List.length_append, List.length_singleton] at h ⊢
    exact ⟨h.1.1, by omega, by omega⟩
/-- The parts of a text, plainly. -/
def spl : List UInt8 → List (List UInt8)
  | [] => [[]]
  | c :: r => if c = 47 then [] :: spl r else match spl r with | [] => [[c]] | x :: xs => (c :: x) :: xs
theorem spl_ne : ∀ l, spl l ≠ []
  | [] => by simp [spl]
  | c :: r => by
    rw [spl]
    split
    · simp
    · split <;> simp
theorem spl_slash : ∀ (a b : List UInt8), (47 : UInt8) ∉ a → spl (a ++ 47 :: b) = a :: spl b
  | [], b, _ => by simp [spl]
  | c :: a, b, h => by
    simp only [List.mem_cons, not_or] at h
    rw [List.cons_append, spl, if_neg (fun e => h.1 e.symm), spl_slash a b h.2]
theorem spl_one : ∀ (a : List UInt8), (47 : UInt8) ∉ a → spl a = [a]
  | [], _ => rfl
  | c :: a, h => by
    simp only [List.mem_cons, not_or] at h
    rw [spl, if_neg (fun e => h.1 e.symm), spl_one a h.2]
theorem spl_glue : ∀ (Y : List (List UInt8)), Y ≠ [] → (∀ x ∈ Y, (47 : UInt8) ∉ x) → spl (glueB Y) = Y
  | [], h, _ => absurd rfl h
  | [x], _, h => spl_one x (h x (List.mem_singleton.2 rfl))
  | x :: y :: r, _, h => by
    rw [glueB, spl_slash x _ (h x (List.mem_cons_self ..)), spl_glue (y :: r) (by simp) (fun z hz => h z (List.mem_cons_of_mem _ hz))]
theorem cutN_noslash (l : List UInt8) : ∀ i, ∀ x ∈ (cutN l i).1, (47 : UInt8) ∉ x
  | 0, x, h => by simp [cutN] at h
  | i+1, x, h => by
    rw [cutN] at h
    split at h
    · rcases List.mem_append.1 h with h | h
      · exact cutN_noslash l i x h
      · rw [List.mem_singleton] at h
        subst h
        intro hm
        obtain ⟨k, hk⟩ := List.getElem?_of_mem hm
        rw [List.getElem?_take] at hk
        split at hk
        · rw [List.getElem?_drop] at hk
          exact cutN_last l i ((cutN l i).2 + k) (by omega) (by omega) hk
        · cases hk
    · exact cutN_noslash l i x h
theorem splitB_noslash (l : List UInt8) : ∀ x ∈ splitB l, (47 : UInt8) ∉ x := by
  intro x h
  by_cases hl : l = []
  · subst hl; simp [splitB] at h
  · rw [splitB_ne hl] at h
    rcases List.mem_append.1 h with h | h
    · exact cutN_noslash l _ x h
    · rw [List.mem_singleton] at h
      subst h
      intro hm
      obtain ⟨k, hk⟩ := List.getElem?_of_mem hm
      unfold baseB at hk
      rw [List.getElem?_drop] at hk
      exact cutN_last l l.length (lastB l + k) (Nat.le_add_right _ _) (List.getElem?_eq_some_iff.1 hk).1 hk
theorem splitB_spl {l : List UInt8} (hl : l ≠ []) : splitB l = spl l := by
  have h := spl_glue (splitB l) (fun e => hl (splitB_nil_iff.1 e)) (splitB_noslash l)
  rw [glue_split] at h
  exact h.symm
theorem glueB_nil {Y : List (List UInt8)} (h : glueB Y = []) : Y = [] ∨ Y = [[]] := by
  match Y, h with
  | [], _ => exact .inl rfl
  | [x], h => exact .inr (by rw [show x = [] from h])
  | x :: y :: r, h => rw [glueB] at h; simp at h
theorem split_glue {Y : List (List UInt8)} (h : ∀ x ∈ Y, (47 : UInt8) ∉ x) (hne : ∀ x ∈ Y, x ≠ []) : splitB (glueB Y) = Y := by
  by_cases hY : Y = []
  · subst hY; rfl
  · rw [splitB_spl (fun e => by
      rcases glueB_nil e with e | e
      · exact hY e
      · subst e; exact hne [] (List.mem_singleton.2 rfl) rfl), spl_glue Y hY h]
theorem right_part {l : List UInt8} (hr : rightB l = true) {x : List UInt8} (hx : x ∈ splitB l) : partOk x = true := by
  unfold rightB at hr
  rw [Bool.and_eq_true, List.all_eq_true] at hr
  exact hr.1 x hx
theorem part_ne {x : List UInt8} (h : partOk x = true) : x ≠ [] := by
  unfold partOk at h
  rw [Bool.and_eq_true] at h
  exact of_decide_eq_true h.1
/-- A path with parts behind it. -/
theorem split_below {p : List UInt8} (hp : rightB p = true) {Z : List (List UInt8)} (h : ∀ x ∈ Z, (47 : UInt8) ∉ x) (hne : ∀ x ∈ Z, x ≠ []) : splitB (glueB (splitB p ++ Z)) = splitB p ++ Z :=
  split_glue (fun x hx => (List.mem_append.1 hx).elim (splitB_noslash p x) (h x)) (fun x hx => (List.mem_append.1 hx).elim (fun k => part_ne (right_part hp k)) (hne x))
theorem rightB_len12 {l : List UInt8} (h : rightB l = true) : (splitB l).length ≤ 12 := by
  unfold rightB at h
  simp only [Bool.and_eq_true, decide_eq_true_eq] at h
  exact h.2.1
/-- A path within a right one, from the top. -/
theorem right_pfx {l : List UInt8} (hr : rightB l = true) : ∀ {n : Nat} {X Z : List (List UInt8)}, n = Z.length → splitB l = X ++ Z → ∃ p, rightB p = true ∧ splitB p = X
  | 0, X, Z, hn, h => ⟨l, hr, by rw [h, List.eq_nil_of_length_eq_zero hn.symm, List.append_nil]⟩
  | n+1, X, Z, hn, h => by
    have hZ : Z ≠ [] := fun e => by rw [e] at hn; cases hn
    have hl : l ≠ [] := fun e => by rw [e, splitB_nil] at h; exact hZ (List.append_eq_nil_iff.1 h.symm).2
    have h2 := split_parent hl hr
    rw [h, ← List.dropLast_concat_getLast hZ, ← List.append_assoc] at h2
    exact right_pfx (rightB_parent hr) (n := n) (Z := Z.dropLast) (by rw [List.length_dropLast]; omega) (List.append_inj' h2 rfl).1.symm
end Go.Proofs.YtlbbehfbjbbckaaGreatDoor

/-! Whether a target is safe, plainly; what strings.Split gives. -/
set_option linter.unusedVariables false
set_option linter.unusedSimpArgs false
namespace Go.Proofs.YtlbbehfbjbbckaaGreatDoor
open Go.RowKit

theorem split_spl : ∀ l : List UInt8, Lib.split l [47] = spl l
  | [] => by
    unfold Lib.split
    rw [Lib.count_miss (by simp [Lib.index])]
    rfl
  | c :: r => by
    have ih := split_spl r
    unfold Lib.split at ih ⊢
    by_cases h : c = 47
    · subst h
      have hix : Lib.index (47 :: r) [47] = ((0 : Nat) : Int) := by rw [Lib.index]; simp [List.isPrefixOf]
      rw [Lib.count_cons_eq, Nat.add_comm, Lib.splitK, hix]
      simp only [spl]
      rw [← ih]
      simp
    · have hp : ([47] : List UInt8).isPrefixOf (c :: r) = false := by simp [List.isPrefixOf, Ne.symm h]
      have hix : Lib.index (c :: r) [47] = if Lib.index r [47] == -1 then -1 else Lib.index r [47] + 1 := by rw [Lib.index, hp]; simp
      rw [Lib.count_cons_ne c 47 r h, spl, if_neg h, ← ih]
      by_cases hm : Lib.index r [47] = -1
      · rw [Lib.count_miss hm]; rfl
      · have hge := Lib.index_ge r [47]
        obtain ⟨j, hj⟩ : ∃ j : Nat, Lib.index r [47] = j := ⟨(Lib.index r [47]).toNat, by omega⟩
        have hix' : Lib.index (c :: r) [47] = ((j + 1 : Nat) : Int) := by rw [hix, if_neg (fun e => hm (beq_iff_eq.1 e)), hj]; omega
        rw [Lib.count_hit (by simp) hj, Nat.add_comm, Lib.splitK, Lib.splitK, hix', hj]
        have n1 : (((j + 1 : Nat) : Int) == -1) = false := by
          rw [beq_eq_false_iff_ne]; omega
        have n2 : (((j : Nat) : Int) == -1) = false := by
          rw [beq_eq_false_iff_ne]; omega
        rw [n1, n2]
        simp
theorem split_strs (s : ByteArray) (hs : s.size ≠ 0) : (Lib.splitB ⟨#[47]⟩ 0 (Lib.countB s ⟨#[47]⟩) s).map Value.string = strs (splitB s.data.toList) := by
  have h1 := Lib.splitB_data ⟨#[47]⟩ 0 (Lib.countB s ⟨#[47]⟩) s
  have h2 : Lib.splitK (⟨#[47]⟩ : ByteArray).data.toList 0 (Lib.countB s ⟨#[47]⟩) s.data.toList = spl s.data.toList := split_spl s.data.toList
  have hne : s.data.toList ≠ [] := fun e => hs (by have : s.data.toList.length = 0 := by rw [e]; rfl
                                                   rwa [Array.length_toList] at this)
  rw [h2, ← splitB_spl hne] at h1
  rw [← h1]
  unfold strs
  rw [List.map_map]
  refine List.map_congr_left fun x _ => ?_
  show Value.string x = Value.string (str x.data.toList)
  congr 1
def scanU : List (List UInt8) → Nat → Nat → Option Nat
  | [], u, _ => some u
  | x :: r, u, n => if x = [] ∨ x = [46] then scanU r u n else if x = [46, 46] then (if 0 < n then none else scanU r (u + 1) n) else scanU r u (n + 1)
def finU (r : Option Nat) (n : Nat) : Bool := match r with | none => false | some u => decide (u < n)
def safeU (p tg : List UInt8) : Bool :=
  if p = [] ∨ rightB p = false ∨ tg = [] ∨ tg[0]? = some 47 then false
  else finU (scanU (splitB tg) 0 0) (splitB p).length
theorem scanU_le : ∀ (r : List (List UInt8)) (u n : Nat) {v : Nat}, scanU r u n = some v → v ≤ u + r.length
  | [], u, n, v, h => by cases h; simp
  | x :: r, u, n, v, h => by
    rw [scanU] at h
    split at h
    · have := scanU_le r u n h; rw [List.length_cons]; omega
    split at h
    · split at h
      · cases h
      · have := scanU_le r (u + 1) n h; rw [List.length_cons]; omega
    · have := scanU_le r u (n + 1) h; rw [List.length_cons]; omega
end Go.Proofs.YtlbbehfbjbbckaaGreatDoor
