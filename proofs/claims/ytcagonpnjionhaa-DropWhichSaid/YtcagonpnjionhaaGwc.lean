import Derived.Test.YtcagonpnjionhaaDqc
/-! The document's reckoning of what goes is the program's. -/
set_option linter.unusedVariables false
set_option linter.unusedSimpArgs false
namespace Go.Proofs.Ytcagonpnjionhaa
open Go.RowKit

/-- Along the run of those under an entry: how many are its children, and does one of them stay? -/
def runG (x : En) : List En → List Int → Nat × Bool
  | y :: r, w :: ws => if pfxB (splitB y.path.data.toList) (splitB x.path.data.toList) = true then (if parentB y.path.data.toList = x.path.data.toList then ((runG x r ws).1 + 1, decide (w ≠ 0) || (runG x r ws).2) else runG x r ws) else (0, false)
  | _, _ => (0, false)
theorem runG_nil (x : En) (ws : List Int) : runG x [] ws = (0, false) := by cases ws <;> rfl
def kidsC (s : List UInt8) (l : List En) : Nat := l.countP (fun y => parentB y.path.data.toList == s)
/-- If all children among the rest lie in the run, the run counts them. -/
theorem runG_all {x : En} : ∀ {r : List En} {ws : List Int}, r.length = ws.length → (∀ (k : Nat) (y : En), r[k]? = some y → parentB y.path.data.toList = x.path.data.toList → ∀ (j : Nat) (z : En), j ≤ k → r[j]? = some z → pfxB (splitB z.path.data.toList) (splitB x.path.data.toList) = true) →
    (runG x r ws).1 = kidsC x.path.data.toList r ∧ ((runG x r ws).2 = false ↔ cntGo x.path.data.toList r ws = kidsC x.path.data.toList r) ∧ cntGo x.path.data.toList r ws ≤ kidsC x.path.data.toList r
  | [], ws, _, _ => by rw [runG_nil]; cases ws <;> simp [kidsC, cntGo]
  | y :: r, [], h, _ => by simp at h
  | y :: r, w :: ws, h, hp => by
    have ih := runG_all (x := x) (r := r) (ws := ws) (by simpa using h) (fun k y' hk he j z hj hz => hp (k + 1) y' (by simpa using hk) he (j + 1) z (by omega) (by simpa using hz))
    obtain ⟨h1, h2, h3⟩ := ih
    by_cases hu : pfxB (splitB y.path.data.toList) (splitB x.path.data.toList) = true
    · rw [runG, if_pos hu, cntGo]
      by_cases he : parentB y.path.data.toList = x.path.data.toList
      · rw [if_pos he]
        have hk : kidsC x.path.data.toList (y :: r) = kidsC x.path.data.toList r + 1 := by unfold kidsC; rw [List.countP_cons, if_pos (by simpa using he)]
        rw [hk]
        by_cases hw : w = 0
        · rw [if_pos ⟨hw, he⟩]
          refine ⟨by rw [h1], ?_, by omega⟩
          simp only [hw, ne_eq, not_true, decide_false, Bool.false_or]
          rw [h2]; omega
        · rw [if_neg (fun h => hw h.1)]
          refine ⟨by rw [h1], ?_, by omega⟩
          simp only [ne_eq, hw, not_false_eq_true, decide_true, Bool.true_or]
          constructor
          · intro h; cases h
          · intro h; omega
      · rw [if_neg he, if_neg (fun h => he h.2), Nat.zero_add]
        have hk : kidsC x.path.data.toList (y :: r) = kidsC x.path.data.toList r := by unfold kidsC; rw [List.countP_cons, if_neg (by simpa using he), Nat.add_zero]
        rw [hk]
        exact ⟨h1, h2, h3⟩
    · have hn : ∀ (k : Nat) (z : En), (y :: r)[k]? = some z → parentB z.path.data.toList ≠ x.path.data.toList := fun k z hz he => hu (hp k z hz he 0 y (Nat.zero_le _) rfl)
      have hk : kidsC x.path.data.toList (y :: r) = 0 := by
        unfold kidsC
        rw [List.countP_eq_zero]
        intro z hz
        obtain ⟨k, hk⟩ := List.mem_iff_getElem?.1 hz
        simpa using hn k z hk
      have hc : cntGo x.path.data.toList (y :: r) (w :: ws) ≤ kidsC x.path.data.toList (y :: r) := by
        rw [hk, cntGo, if_neg (fun h => hn 0 y rfl h.2), Nat.zero_add]
        have h4 : kidsC x.path.data.toList r = 0 := by
          unfold kidsC at hk ⊢
          rw [List.countP_cons] at hk
          omega
        omega
      rw [runG, if_neg hu]
      rw [hk] at hc ⊢
      exact ⟨rfl, by simp; omega, by omega⟩
theorem kdT_count (D : List En) (s : List UInt8) : ∀ i, i ≤ D.length → (kdT D i s).length = kidsC s (D.take i)
  | 0, _ => by simp [kdT, kidsC]
  | i+1, h => by
    have hx : D[i]? = some (D[i]'(by omega)) := List.getElem?_eq_getElem (by omega)
    have ih := kdT_count D s i (by omega)
    unfold kidsC at *
    rw [List.take_succ_eq_append_getElem (by omega), List.countP_append]
    by_cases he : s = parentB (D[i]'(by omega)).path.data.toList
    · rw [he] at ih ⊢
      rw [kdT_same hx, List.length_append, ih]
      simp
    · rw [kdT_other hx he, ih]
      simp [Ne.symm he]
theorem child_pfx {D : List En} (hc : checkE D = true) {i k : Nat} {x y : En} (hx : D[i]? = some x) (hy : D[k]? = some y) (hp : parentB y.path.data.toList = x.path.data.toList) : i < k ∧ ∃ b, splitB y.path.data.toList = splitB x.path.data.toList ++ [b] := by
  have hs := split_parent (path_of_check hc y (List.mem_of_getElem? hy)).2 (right_of_check hc hy)
  rw [hp] at hs
  refine ⟨?_, _, hs⟩
  have hl : lessS x.path y.path = true := by unfold lessS; rw [hs]; exact lessP_append _ (by simp)
  rcases Nat.lt_trichotomy i k with c | c | c
  · exact c
  · subst c; rw [hx] at hy; cases hy; unfold lessS at hl; rw [lessP_irr] at hl; cases hl
  · have := chk_less (ChkTo.of_check hc) (Nat.le_refl _) c (List.getElem?_eq_some_iff.1 hx).1 hy hx
    unfold lessS at this hl
    rw [lessP_asymm hl] at this; cases this
/-- Of a list that may be, all children of an entry lie in the run behind it. -/
theorem kids_run {D : List En} (hc : checkE D = true) {i : Nat} {x : En} (hx : D[i]? = some x) : kidsN D x.path.data.toList = kidsC x.path.data.toList (D.drop (i + 1)) ∧
    ∀ (k : Nat) (y : En), (D.drop (i + 1))[k]? = some y → parentB y.path.data.toList = x.path.data.toList → ∀ (j : Nat) (z : En), j ≤ k → (D.drop (i + 1))[j]? = some z → pfxB (splitB z.path.data.toList) (splitB x.path.data.toList) = true := by
  constructor
  · unfold kidsN
    rw [kdT_count D _ D.length (Nat.le_refl _), List.take_length]
    conv => lhs; rw [← List.take_append_drop (i + 1) D]
    unfold kidsC
    rw [List.countP_append]
    have : (D.take (i + 1)).countP (fun y => parentB y.path.data.toList == x.path.data.toList) = 0 := by
      rw [List.countP_eq_zero]
      intro z hz
      obtain ⟨k, hk⟩ := List.mem_iff_getElem?.1 hz
      have hki : k < i + 1 := by have := (List.getElem?_eq_some_iff.1 hk).1; rw [List.length_take] at this; omega
      have hk2 : D[k]? = some z := by rw [List.getElem?_take, if_pos hki] at hk; exact hk
      simp only [beq_iff_eq]
      intro e
      have := (child_pfx hc hx hk2 e).1
      omega
    rw [this, Nat.zero_add]
  · intro k y hy hp j z hj hz
    rw [List.getElem?_drop] at hy hz
    obtain ⟨hik, b, hb⟩ := child_pfx hc hx hy hp
    have hxz := chk_less (ChkTo.of_check hc) (Nat.le_refl _) (show i < i + 1 + j by omega) (List.getElem?_eq_some_iff.1 hz).1 hx hz
    rw [pfxB_iff]
    rcases Nat.lt_or_ge j k with c | c
    · have hzy := chk_less (ChkTo.of_check hc) (Nat.le_refl _) (show i + 1 + j < i + 1 + k by omega) (List.getElem?_eq_some_iff.1 hy).1 hz hy
      unfold lessS at hxz hzy
      rw [hb] at hzy
      exact lessP_between _ hxz hzy
    · obtain rfl : j = k := by omega
      rw [hy] at hz; cases hz
      exact ⟨[b], hb⟩
/-- The document's test is the program's. -/
theorem goes_step {S D : List En} {R : List Ru} (hc : checkE D = true) {i : Nat} {x : En} (hx : D[i]? = some x) (ws : List Int) (hw : ws.length = (D.drop (i + 1)).length) :
    stepW S R (kidsN D) x (D.drop (i + 1)) ws = if firstU S R x ≠ 0 ∨ x.kind ≠ 2 then firstU S R x else if (runG x (D.drop (i + 1)) ws).2 = true ∨ (((runG x (D.drop (i + 1)) ws).1 : Nat) : Int) ≠ x.size then 4 else 0 := by
  obtain ⟨h1, h2⟩ := kids_run hc hx
  obtain ⟨h3, h4, h5⟩ := runG_all (x := x) (r := D.drop (i + 1)) (ws := ws) hw.symm h2
  unfold stepW
  by_cases hf : firstU S R x = 0
  · by_cases hk : x.kind = 2
    · rw [if_neg (show ¬ (firstU S R x ≠ 0 ∨ x.kind ≠ 2) by rintro (h | h); exact h hf; exact h hk), h1, h3]
      by_cases hq : cntGo x.path.data.toList (D.drop (i + 1)) ws = kidsC x.path.data.toList (D.drop (i + 1))
      · have hb : (runG x (D.drop (i + 1)) ws).2 = false := h4.2 hq
        rw [hb, hq, hf]
        by_cases hz : ((kidsC x.path.data.toList (D.drop (i + 1)) : Nat) : Int) = x.size
        · rw [if_neg, if_neg]
          · rintro (h | h)
            · cases h
            · exact h hz
          · rintro ⟨_, _, h | h⟩
            · exact h hz
            · exact h hz
        · rw [if_pos ⟨rfl, hk, .inl hz⟩, if_pos (.inr hz)]
      · have hb : (runG x (D.drop (i + 1)) ws).2 = true := by
          cases hb : (runG x (D.drop (i + 1)) ws).2 with
          | true => rfl
          | false => exact absurd (h4.1 hb) hq
        have hl : firstU S R x = 0 ∧ x.kind = 2 ∧ (((cntGo x.path.data.toList (D.drop (i + 1)) ws : Nat) : Int) ≠ x.size ∨ ((kidsC x.path.data.toList (D.drop (i + 1)) : Nat) : Int) ≠ x.size) := by
          refine ⟨hf, hk, ?_⟩
          by_cases hz : ((kidsC x.path.data.toList (D.drop (i + 1)) : Nat) : Int) = x.size
          · left
            intro e
            exact hq (by omega)
          · exact .inr hz
        rw [hb, if_pos hl, if_pos (.inl rfl)]
    · rw [if_neg (fun h => hk h.2.1), if_pos (.inr hk)]
  · rw [if_neg (fun h => hf h.1), if_pos (.inl hf)]
end Go.Proofs.Ytcagonpnjionhaa
