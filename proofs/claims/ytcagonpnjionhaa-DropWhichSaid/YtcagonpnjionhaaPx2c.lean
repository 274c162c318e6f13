import Derived.Test.YtcagonpnjionhaaPwc
/-! What goes, place by place. -/
set_option linter.unusedVariables false
set_option linter.unusedSimpArgs false
namespace Go.Proofs.Ytcagonpnjionhaa
open Go.RowKit

theorem stepW_zero {S : List En} {R : List Ru} {kn : List UInt8 → Nat} {x : En} {r : List En} {ws : List Int} (h : stepW S R kn x r ws = 0) : firstU S R x = 0 := by
  unfold stepW at h
  split at h
  · cases h
  · exact h
theorem whyL_at {S : List En} {R : List Ru} {kn : List UInt8 → Nat} : ∀ {l : List En} {m : Nat} {x : En}, l[m]? = some x → (whyL S R kn l)[m]? = some 0 → firstU S R x = 0
  | [], _, _, h, _ => by simp at h
  | y :: l, 0, x, h, h2 => by
    simp only [List.getElem?_cons_zero, Option.some.injEq] at h
    subst h
    rw [whyL] at h2
    simp only [List.getElem?_cons_zero, Option.some.injEq] at h2
    exact stepW_zero h2
  | y :: l, m+1, x, h, h2 => by
    rw [whyL] at h2
    simp only [List.getElem?_cons_succ] at h h2
    exact whyL_at h h2
theorem findK_at {L : List En} (hc : checkE L = true) {m : Nat} {x : En} (h : L[m]? = some x) : findK x.path L 0 = ((m : Int), true) := by
  rcases findK_spec x.path L 0 with ⟨k, y, hk, hy, he⟩ | ⟨he, hn⟩
  · have : k = m := path_inj hc hk h (by rw [hy])
    subst this
    rw [he, Nat.zero_add]
  · exact absurd rfl (hn x (List.mem_of_getElem? h))
theorem gone_mem {S D : List En} {R : List Ru} (hc : checkE D = true) {p : ByteArray} (h : p ∈ goneU S D R) : ∃ (m : Nat) (y : En), D[m]? = some y ∧ y.path = p ∧ findK p D 0 = ((m : Int), true) ∧ (whyU S D R)[m]? = some 0 ∧ firstU S R y = 0 := by
  rw [goneU_I] at h
  obtain ⟨m, _, hm⟩ := List.mem_flatMap.1 h
  obtain ⟨y, hy, hp, hw⟩ := tellI_mem hm
  exact ⟨m, y, hy, hp, by rw [← hp]; exact findK_at hc hy, hw, whyL_at hy hw⟩
theorem first_zero {S : List En} {R : List Ru} {e : En} (h : firstU S R e = 0) : thereU S e = false ∧ hiddenU R e.path.data.toList (e.kind == 2) = false ∧ safeU R e.path.data.toList (e.kind == 2) = false := by
  unfold firstU at h
  split at h
  · cases h
  · rename_i h1
    split at h
    · cases h
    · rename_i h2
      split at h
      · cases h
      · rename_i h3
        exact ⟨by simpa using h1, by simpa using h2, by simpa using h3⟩
theorem gone_pair {S D : List En} {R : List Ru} (hc : checkE D = true) : (goneU S D R).Pairwise (fun p q => pfxB (splitB q.data.toList) (splitB p.data.toList) = false) := by
  rw [goneU_I, List.pairwise_flatMap]
  refine ⟨fun m hm => ?_, List.Pairwise.imp ?_ (goneI_pair hc)⟩
  · have := tellI_len D (whyU S D R) m
    rcases hl : tellI D (whyU S D R) m with _ | ⟨a, _ | ⟨b, l⟩⟩
    · exact List.Pairwise.nil
    · exact List.pairwise_singleton _ _
    · rw [hl] at this; simp at this
  · intro m m' h p hp q hq
    obtain ⟨x, hx, rfl, _⟩ := tellI_mem hp
    obtain ⟨y, hy, rfl, _⟩ := tellI_mem hq
    exact h x y hx hy
theorem srcE_snoc {L : List En} {i : Nat} {x : En} (h : L[i]? = some x) (s : List UInt8) : srcE (L.take (i + 1)) s = if s = x.path.data.toList then some x else srcE (L.take i) s := by
  obtain ⟨hi, he⟩ := List.getElem?_eq_some_iff.1 h
  unfold srcE
  rw [List.take_succ_eq_append_getElem hi, he, List.foldl_append]; rfl
theorem srcE_none {L : List En} {s : List UInt8} (hn : ∀ y ∈ L, y.path.data.toList ≠ s) : ∀ i, i ≤ L.length → srcE (L.take i) s = none
  | 0, _ => by rw [List.take_zero]; rfl
  | i+1, h => by
    have hx : L[i]? = some (L[i]'(by omega)) := List.getElem?_eq_getElem (by omega)
    rw [srcE_snoc hx, if_neg (fun e => hn _ (List.mem_of_getElem? hx) e.symm)]
    exact srcE_none hn i (by omega)
theorem srcE_some {L : List En} (hc : checkE L = true) {k : Nat} {x : En} (hk : L[k]? = some x) : ∀ i, i ≤ L.length → srcE (L.take i) x.path.data.toList = if k < i then some x else none
  | 0, _ => by rw [List.take_zero]; rfl
  | i+1, h => by
    have hx : L[i]? = some (L[i]'(by omega)) := List.getElem?_eq_getElem (by omega)
    rw [srcE_snoc hx]
    by_cases e : x.path.data.toList = (L[i]'(by omega)).path.data.toList
    · have : k = i := path_inj hc hk hx e
      subst this
      rw [if_pos e, if_pos (Nat.lt_succ_self _)]
      rw [hk] at hx
      exact hx.symm
    · rw [if_neg e, srcE_some hc hk i (by omega)]
      have hne : k ≠ i := fun e2 => by subst e2; rw [hk] at hx; cases hx; exact e rfl
      by_cases c : k < i
      · rw [if_pos c, if_pos (by omega)]
      · rw [if_neg c, if_neg (by omega)]
/-- Is there, by the first place of its path. -/
theorem thereU_find {S : List En} (hc : checkE S = true) (e : En) : (findK e.path S 0 = (0, false) ∧ thereU S e = false) ∨ ∃ (k : Nat) (s : En), S[k]? = some s ∧ findK e.path S 0 = ((k : Int), true) ∧ thereU S e = ((s.kind == 2) == (e.kind == 2)) := by
  have hl := List.take_length (l := S)
  rcases findK_spec e.path S 0 with ⟨k, y, hk, hy, he⟩ | ⟨he, hn⟩
  · right
    refine ⟨k, y, hk, by rw [he, Nat.zero_add], ?_⟩
    unfold thereU
    have := srcE_some hc hk S.length (Nat.le_refl _)
    rw [hl, if_pos (List.getElem?_eq_some_iff.1 hk).1, hy] at this
    rw [this]
  · left
    refine ⟨he, ?_⟩
    unfold thereU
    have := srcE_none (L := S) (s := e.path.data.toList) (fun y hy h => hn y hy (ByteArray.ext (Array.toList_inj.1 h))) S.length (Nat.le_refl _)
    rw [hl] at this
    rw [this]
end Go.Proofs.Ytcagonpnjionhaa
