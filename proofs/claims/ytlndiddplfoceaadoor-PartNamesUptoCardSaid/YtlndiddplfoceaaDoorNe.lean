import Derived.Test.YtlndiddplfoceaaDoorNr
import Derived.Deep.QuietTactic
/-! slices.Equal, path.Under, the document's Under. -/
set_option linter.unusedVariables false
set_option linter.unusedSimpArgs false
namespace Go.Proofs.YtlndiddplfoceaaDoor
open Go.RowKit
attribute [local go_sem] str_toList

theorem Sl.drewN {sz : Nat} {w : World} {A : Option Addr} {n : Nat} {cs : List Value} (h : Sl sz w A n cs) (m : Nat) : Sl sz (w.drewN m) A n cs := ⟨h.len, h.max, h.at_⟩
theorem Sl.strsLen {w : World} {A : Option Addr} {n : Nat} {L : List (List UInt8)} (h : Sl 1 w A n (strs L)) : L.length = n := by
  have := h.len; rw [strs_len] at this; omega
theorem Sl.strRow {w : World} {A : Option Addr} {n : Nat} {L : List (List UInt8)} (h : Sl 1 w A n (strs L)) {i : Nat} (hi : i < n) : ∃ (b o : Nat) (x : List UInt8), A = some ⟨b, o, none⟩ ∧ L[i]? = some x ∧ w.cell? ⟨b, o + i, none⟩ = some (.string (str x)) := by
  have hl := h.strsLen
  rcases h.at_ with h0 | ⟨b, o, rfl, hc⟩
  · have : (strs L).length = 0 := by rw [h0]; rfl
    rw [strs_len] at this; omega
  · have hg : L[i]? = some (L[i]'(by omega)) := List.getElem?_eq_getElem (by omega)
    exact ⟨b, o, _, rfl, hg, hc i _ (strs_get hg)⟩
theorem take_snocS {L : List (List UInt8)} {i : Nat} {x : List UInt8} (h : L[i]? = some x) : L.take (i+1) = L.take i ++ [x] := by rw [List.take_add_one, h]; rfl
set_option maxRecDepth 100000 in
set_option maxHeartbeats 2000000 in
theorem equal_any (A B : Option Addr) (n c m d : Nat) (X Y : List (List UInt8)) (w : World) (hA : Sl 1 w A n (strs X)) (hB : Sl 1 w B m (strs Y)) :
    Calls Tryd.prog 23 #[.slice A n c, .slice B m d] w fun e w' => e = .returned (.bool (decide (X = Y))) ∧ Below w.heap.size w w' := by
  have HX := Lib.hid hA.strsLen
  have HY := Lib.hid hB.strsLen
  have HA := Lib.hid hA
  have HB := Lib.hid hB
  have ha := hA.max
  have hb := hB.max
  clear hA hB
  go_enter Tryd.func23, Tryd.ntmps23
  by_cases hnm : n = m
  · subst hnm
    go_wp2_with fail
    go_loopw [13] (fun a wr => ∃ i k : Nat, a = .int .i64 i ∧ i ≤ n ∧ X.take i = Y.take i ∧ wr = w.drewN k) (fun a _ => n - (intOf a).toNat)
    case atStart => exact ⟨0, 0, rfl, by omega, rfl, rfl⟩
    case round =>
      obtain ⟨i, k, rfl, hin, htk, rfl⟩ := hrel
      have HT := Lib.hid htk
      clear htk
      rcases Nat.lt_or_ge i n with h | h
      · obtain ⟨b1, o1, x, hA1, hr1, c1⟩ := HA.out.strRow h
        obtain ⟨b2, o2, y, hA2, hr2, c2⟩ := HB.out.strRow h
        subst hA1 hA2
        have HR1 := Lib.hid hr1
        have HR2 := Lib.hid hr2
        clear hr1 hr2
        by_cases hxy : x = y
        · subst hxy
          go_wp2_with fail
          go_quiet (fail)
          go_wp2_with fail
          go_roundw
          case rel => exact ⟨i+1, _, by go_num, by omega, by rw [take_snocS HR1.out, take_snocS HR2.out, HT.out], rfl⟩
          case measure => simp [intOf]; omega
        · have hne : (x == y) = false := by simpa using hxy
          have HNE := Lib.hid (show X ≠ Y from fun e => hxy (by have h1 := HR1.out; have h2 := HR2.out; rw [e, h2] at h1; exact (Option.some.inj h1).symm))
          clear hxy
          go_wp2_with fail
          go_quiet (fail)
          go_wp2_with fail
          go_ret
          exact ⟨by rw [decide_eq_false HNE.out]; rfl, (Below.refl _ _).trans ⟨rfl, rfl, rfl, Nat.le_refl _, fun _ _ => rfl⟩⟩
      · obtain rfl : i = n := by omega
        go_wp2_with fail
        go_ret
        have h3 := HT.out
        rw [List.take_of_length_le (by have := HX.out; omega), List.take_of_length_le (by have := HY.out; omega)] at h3
        exact ⟨by rw [decide_eq_true h3]; rfl, (Below.refl _ _).trans ⟨rfl, rfl, rfl, Nat.le_refl _, fun _ _ => rfl⟩⟩
  · have HNE := Lib.hid (show X ≠ Y from fun e => hnm (by rw [← HX.out, ← HY.out, e]))
    have hne : ((n : Int) != m) = true := by simp; omega
    clear hnm
    go_wp2_with fail
    go_ret
    exact ⟨by rw [decide_eq_false HNE.out]; rfl, Below.refl _ _⟩
theorem elemSt : Tryd.prog.elem 43 = 9 := by kernel_rfl
theorem undSt : Tryd.prog.underlying 43 = some (.slice (Tryd.prog.elem 43)) := by rw [elemSt]; exact Tryd.underlying43
theorem Sl.head {w : World} {A : Option Addr} {n : Nat} {X : List (List UInt8)} (h : Sl 1 w A n (strs X)) (m c : Nat) (hm : m ≤ n) : Sl 1 w (subAt A 0 c 1) m (strs (X.take m)) := by
  have hl := h.strsLen
  have hmx := h.max
  refine ⟨by rw [strs_len, List.length_take]; omega, by omega, ?_⟩
  rcases h.at_ with h0 | ⟨b, o, rfl, hc⟩
  · left
    have : (strs X).length = 0 := by rw [h0]; rfl
    rw [strs_len] at this
    have : X = [] := List.eq_nil_of_length_eq_zero this
    subst this; simp [strs]
  · right
    refine ⟨b, o, ?_, fun j v hj => hc j v ?_⟩
    · unfold subAt; split
      · rfl
      · simp only [Option.map_some, Addr.add]; split <;> simp_all
    · simp only [strs, List.getElem?_map, List.getElem?_take] at hj ⊢
      split at hj
      · exact hj
      · cases hj
theorem pfx_short {X Y : List (List UInt8)} (h : X.length < Y.length) : pfxB X Y = false := by
  unfold pfxB
  rw [decide_eq_false]
  intro e
  have := congrArg List.length e
  rw [List.length_take] at this; omega
set_option maxRecDepth 100000 in
set_option maxHeartbeats 2000000 in
theorem under_any (p q : ByteArray) (w : World) (hp : p.size ≤ 2097152) (hq : q.size ≤ 2097152) :
    Calls Tryd.prog 13 #[.string p, .string q] w fun e w' => e = .returned (.bool (pfxB (splitB p.data.toList) (splitB q.data.toList))) ∧ Below w.heap.size w w' := by
  obtain ⟨i0, hi, hz0, hz1, hz2⟩ := info_parts infoS
  have HP := Lib.hid hp
  have HQ := Lib.hid hq
  clear hp hq
  go_enter Tryd.func13, Tryd.ntmps13
  go_wp2_with fail
  refine (pathSplit_any p _ HP.out).mono ?_
  rintro e w1 ⟨⟨A, n, c, rfl, hn, hnc, hsA⟩, hb1⟩
  have HB1 := Lib.hid hb1
  have HSA := Lib.hid hsA
  have HN := Lib.hid hn
  clear hb1 hsA hn
  go_wp2_with fail
  refine (pathSplit_any q _ HQ.out).mono ?_
  rintro e w2 ⟨⟨B, m, d, rfl, hm, hmd, hsB⟩, hb2⟩
  have HB2 := Lib.hid (HB1.out.trans (hb2.mono HB1.out.size))
  have HSA2 := Lib.hid (HSA.out.below hb2)
  have HSB2 := Lib.hid hsB
  have HM := Lib.hid hm
  clear hb2 hsB hm
  rcases Nat.lt_or_ge n m with h | h
  · have K := Lib.hid (pfx_short (X := splitB p.data.toList) (Y := splitB q.data.toList) (by rw [← HN.out, ← HM.out]; exact h))
    clear hi hz0 hz1 hz2
    go_wp2_with fail
    go_ret
    exact ⟨by rw [K.out]; rfl, HB2.out⟩
  · have hsl : ∀ w : World, (Instr.slice 43 (.slice A n c) none (some (.int .i64 m)) none).run Tryd.prog w = .ok (.slice (subAt A 0 c 1) m c) w := fun w => run_slice_to undSt elemSt hi hz1 A n c m (by omega) .i64 _ rfl
    have HH := Lib.hid (HSA2.out.head m c h)
    clear hi hz0 hz1 hz2
    go_wp2_with fail
    refine (equal_any _ _ _ _ _ _ _ _ _ HH.out HSB2.out).mono ?_
    rintro e w3 ⟨rfl, hb3⟩
    have HB3 := Lib.hid (HB2.out.trans (hb3.mono HB2.out.size))
    clear hb3 hsl
    have K := Lib.hid (show decide ((splitB p.data.toList).take m = splitB q.data.toList) = pfxB (splitB p.data.toList) (splitB q.data.toList) from by unfold pfxB; rw [HM.out])
    go_wp2_with fail
    go_ret
    exact ⟨by rw [← K.out]; rfl, HB3.out⟩
set_option maxRecDepth 100000 in
set_option maxHeartbeats 2000000 in
theorem refUnder_any (p q : ByteArray) (X Y : List (List UInt8)) (w : World) (hX : splitB p.data.toList = X) (hY : splitB q.data.toList = Y) (hp : p.size ≤ 2097152) (hq : q.size ≤ 2097152) :
    Calls Tryd.prog 14 #[.string p, .string q] w fun e w' => e = .returned (.bool (pfxB X Y)) ∧ Below w.heap.size w w' := by
  have HP := Lib.hid hp
  have HX0 := Lib.hid hX
  have HY0 := Lib.hid hY
  clear hX hY
  have HQ := Lib.hid hq
  clear hp hq
  go_enter Tryd.func14, Tryd.ntmps14
  go_wp2_with fail
  refine (refSplit_any p _ HP.out).mono ?_
  rintro e w1 ⟨⟨A, n, c, rfl, hn, hnc, hsA⟩, hb1⟩
  rw [HX0.out] at hn hsA
  have HB1 := Lib.hid hb1
  have HSA := Lib.hid hsA
  have HN := Lib.hid hn
  clear hb1 hsA hn
  go_wp2_with fail
  refine (refSplit_any q _ HQ.out).mono ?_
  rintro e w2 ⟨⟨B, m, d, rfl, hm, hmd, hsB⟩, hb2⟩
  rw [HY0.out] at hm hsB
  have HB2 := Lib.hid (HB1.out.trans (hb2.mono HB1.out.size))
  have HSA2 := Lib.hid (HSA.out.below hb2)
  have HSB2 := Lib.hid hsB
  have HM := Lib.hid hm
  clear hb2 hsB hm
  have hmx := HSB2.out.max
  go_wp2_with fail
  go_loopw [7] (fun a wr => ∃ i k : Nat, a = .int .i64 i ∧ i ≤ m ∧ i ≤ n ∧ X.take i = Y.take i ∧ wr = w2.drewN k) (fun a _ => m - (intOf a).toNat)
  case atStart => exact ⟨0, 0, rfl, by omega, by omega, rfl, rfl⟩
  case round =>
    obtain ⟨i, k, rfl, him, hin, htk, rfl⟩ := hrel
    have HT := Lib.hid htk
    clear htk
    rcases Nat.lt_or_ge i m with h | h
    · obtain ⟨b2, o2, y, hA2, hr2, c2⟩ := HSB2.out.strRow h
      subst hA2
      have HR2 := Lib.hid hr2
      clear hr2
      rcases Nat.lt_or_ge i n with h' | h'
      · obtain ⟨b1, o1, x, hA1, hr1, c1⟩ := HSA2.out.strRow h'
        subst hA1
        have HR1 := Lib.hid hr1
        clear hr1
        have hd : decide ((n : Int) ≤ i) = false := by simp; omega
        by_cases hxy : x = y
        · subst hxy
          go_wp2_with fail
          go_quiet (fail)
          go_wp2_with fail
          go_roundw
          case rel => exact ⟨i+1, _, by go_num, by omega, by omega, by rw [take_snocS HR1.out, take_snocS HR2.out, HT.out], rfl⟩
          case measure => simp [intOf]; omega
        · have hne : (x == y) = false := by simpa using hxy
          have HNE := Lib.hid (show pfxB X Y = false from decide_eq_false fun e => hxy (by
            have h1 := HR1.out; have h2 := HR2.out
            rw [← e, List.getElem?_take, if_pos (by rw [← HM.out]; exact h), h1] at h2
            exact Option.some.inj h2))
          clear hxy
          go_wp2_with fail
          go_quiet (fail)
          go_wp2_with fail
          go_ret
          exact ⟨by rw [HNE.out]; rfl, HB2.out.trans ⟨rfl, rfl, rfl, Nat.le_refl _, fun _ _ => rfl⟩⟩
      · have hd : decide ((n : Int) ≤ i) = true := by simp; omega
        have HNE := Lib.hid (pfx_short (X := X) (Y := Y) (by rw [← HN.out, ← HM.out]; omega))
        go_wp2_with fail
        go_quiet (fail)
        go_wp2_with fail
        go_ret
        exact ⟨by rw [HNE.out]; rfl, HB2.out.trans ⟨rfl, rfl, rfl, Nat.le_refl _, fun _ _ => rfl⟩⟩
    · obtain rfl : i = m := by omega
      have HYY := Lib.hid (show pfxB X Y = true from decide_eq_true (by
        have h3 := HT.out
        rw [List.take_of_length_le (l := Y) (by rw [← HM.out]; exact Nat.le_refl _)] at h3
        rw [← HM.out]; exact h3))
      go_wp2_with fail
      go_ret
      exact ⟨by rw [HYY.out]; rfl, HB2.out.trans ⟨rfl, rfl, rfl, Nat.le_refl _, fun _ _ => rfl⟩⟩
end Go.Proofs.YtlndiddplfoceaaDoor
