import Derived.Test.YtlndiddplfoceaaP1
/-! The bound of '..Said' on what comes in: no slice takes more than so many bytes. -/
set_option linter.unusedVariables false
set_option linter.unusedSimpArgs false
namespace Go.Proofs.Ytlndiddplfoceaa
open Go.ChangeShapes Go.WideShapes Go.ChangeAt Go.RowKit Go.Deep

section
variable {H : Type} {enc : TypeId × Value → H} {P : Program} {W : World} {base : Nat} {spare : Nat → Bool} {held : Bool}
theorem bs_weight {T E : TypeId} {A : Option Addr} {n c B : Nat} {fuel : Nat} {x : DataW H × List MemPlace} (ht : P.underlying T = some (.slice E)) (he : P.underlying E = some (.int .u8)) (hc : P.cellsOf E = 1) (h1 : P.bytesOf E = 1)
    (hf : DataW.trod enc P W base spare held fuel T [.slice A n c] = some x) (hB : ∀ k ∈ x.1.weights P T, k ≤ B) : n ≤ B := by
  rcases open_ints ht he hc hf with ⟨hcs, hx⟩ | ⟨a, len, cap, zs, hcs, _, hl, hm, hz, hx, hcell, hwz⟩
  · simp at hcs; omega
  · simp at hcs
    obtain ⟨rfl, rfl, rfl⟩ := hcs
    have hzl : n ≤ zs.length := by rw [hz]; split <;> omega
    have h2 : (lits (H := H) .u8 (zs.take n)).length = n := by simp [lits]; omega
    have h3 := hB (((lits (H := H) .u8 (zs.take n)).length + (lits (H := H) .u8 (zs.drop n)).length) * P.bytesOf E) (by rw [hx]; simp [DataW.weights, ht])
    rw [h1] at h3
    omega
theorem weightsAll_mem {e : TypeId} {l : List (DataW H)} {d : DataW H} (hd : d ∈ l) : ∀ k ∈ d.weights P e, k ∈ DataW.weightsAll P e l := by
  induction l with
  | nil => cases hd
  | cons x r ih =>
    intro k hk
    simp only [DataW.weightsAll, List.mem_append]
    rcases List.mem_cons.1 hd with rfl | h
    · exact .inl hk
    · exact .inr (ih h k hk)
end
section
variable {H : Type} {enc : TypeId × Value → H} {W : World} {base : Nat} {spare : Nat → Bool} {held : Bool}
set_option maxRecDepth 100000 in
theorem ops_weight {A : Option Addr} {n c B : Nat} {l : List OpV} {d : DataW H} {ps : List MemPlace}
    (h1 : DataW.Trod enc Try.prog W base spare held 22 (.slice A n c) d ps) (hs : Sl 3 W A n (encsO l)) (hB : ∀ k ∈ d.weights Try.prog 22, k ≤ B) : n * 40 ≤ B ∧ ∀ o ∈ l, o.n ≤ B := by
  have h40 : Try.prog.bytesOf 35 = 40 := by kernel_rfl
  obtain ⟨fuel, hf⟩ := h1
  rcases open_slice_fields Try.underlying22 Try.underlying35 (by kernel_rfl) (by kernel_rfl) hf with ⟨hcs, hx⟩ | ⟨a, len', cap', m, D, Pl, hcs, _, hl, hm, hmm, hx, hi⟩
  · simp [Value.cells] at hcs
    obtain ⟨rfl, rfl, rfl⟩ := hcs
    have := hs.ops
    obtain rfl : l = [] := List.eq_nil_of_length_eq_zero this
    exact ⟨by omega, by simp⟩
  · simp [Value.cells] at hcs
    obtain ⟨rfl, rfl, rfl⟩ := hcs
    have hlm : n ≤ m := by rw [hmm]; split <;> omega
    have hd : d = .slice ((List.range n).map D) ((List.range (m - n)).map fun j => D (n + j)) := congrArg Prod.fst hx
    have hw : ∀ k, k ∈ d.weights Try.prog 22 ↔ k = (n + (m - n)) * 40 ∨ k ∈ DataW.weightsAll Try.prog 35 ((List.range n).map D) ∨ k ∈ DataW.weightsAll Try.prog 35 ((List.range (m - n)).map fun j => D (n + j)) := by
      intro k; rw [hd]; simp [DataW.weights, Try.underlying22, h40]
    refine ⟨by have := hB _ ((hw _).2 (.inl rfl)); omega, fun o ho => ?_⟩
    obtain ⟨i, hi'⟩ := List.getElem?_of_mem ho
    have hil : i < n := by have := (List.getElem?_eq_some_iff.1 hi').1; have := hs.ops; omega
    obtain ⟨b, off, x, hA, hx', c0, c1, c2⟩ := hs.row3 hil
    rw [hi'] at hx'
    cases hx'
    cases hA
    obtain ⟨ys, n', hDi, _, hyl, hfld⟩ := hi i (by omega)
    obtain ⟨v2, y2, h2, e2, t2⟩ := hfld 2 _ rfl
    rw [Addr.add_lit] at h2
    have hv : v2 = .slice o.A o.n o.c := by
      have e : off + (i * 3 + 2) = off + i * 3 + 2 := by omega
      have h2' : W.cell? ⟨b, off + (i * 3 + 2), none⟩ = some v2 := h2
      rw [e, c2] at h2'
      exact (Option.some.inj h2').symm
    subst hv
    refine bs_weight Try.underlying23 Try.underlying5 (by kernel_rfl) (by kernel_rfl) t2 fun k hk => hB k ((hw k).2 (.inr (.inl ?_)))
    refine weightsAll_mem (List.mem_map_of_mem (f := D) (List.mem_range.2 hil)) k ?_
    rw [hDi]
    unfold DataW.weights
    rw [Try.underlying35]
    refine DataW.weights_mem_each (j := 2) (t := 23) (d := y2.1) rfl (by rw [List.getElem?_map, e2]; rfl) k hk
end
end Go.Proofs.Ytlndiddplfoceaa
