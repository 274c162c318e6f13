import Derived.Test.YthkjnpbbgfagkaaDoorAwk
import Derived.Test.YthkjnpbbgfagkaaDoorBytes
import Derived.Test.YthkjnpbbgfagkaaDoorJT
set_option linter.unusedVariables false
set_option linter.unusedSimpArgs false
namespace Go.Proofs.YthkjnpbbgfagkaaDoor
open Go.RowKit Go.Maps

theorem mayL_all {l : List Rec} (h : ∀ r ∈ l, May r) : mayL l = l := List.filter_eq_self.2 fun r hr => decide_eq_true (h r hr)
theorem mayL_may (l : List Rec) : ∀ r ∈ mayL l, May r := fun r hr => by have := (List.mem_filter.1 hr).2; simpa using this
theorem bytL_flat (l : List Rec) : bytL l = flat (mayL l) := rfl
theorem bytL_take {l : List Rec} (j : Nat) : bytL ((mayL l).take j) = flat ((mayL l).take j) := by
  rw [bytL_flat, mayL_all fun r hr => mayL_may l r (List.mem_of_mem_take hr)]
theorem mayL_take {l : List Rec} (j : Nat) : mayL ((mayL l).take j) = (mayL l).take j := mayL_all fun r hr => mayL_may l r (List.mem_of_mem_take hr)
theorem encs_take : ∀ (l : List Rec) (j : Nat), (encs l).take (j * 4) = encs (l.take j) := by
  intro l
  induction l with
  | nil => intro j; simp [encs]
  | cons r l ih =>
    intro j
    cases j with
    | zero => simp [encs]
    | succ j =>
      have e : encs (r :: l) = encR r ++ encs l := rfl
      have e2 : encs (r :: l.take j) = encR r ++ encs (l.take j) := rfl
      rw [List.take_succ_cons, e, e2, List.take_append, List.take_of_length_le (by simp [encR]; omega), ← ih]
      congr 2
      simp [encR]; omega
theorem Sl.pre {sz : Nat} {w : World} {A : Option Addr} {n : Nat} {cs : List Value} (h : Sl sz w A n cs) {j : Nat} (hj : j ≤ n) (c : Nat) : Sl sz w (subAt A 0 c sz) j (cs.take (j * sz)) := by
  have hl := h.len
  have hm : j * sz ≤ n * sz := Nat.mul_le_mul_right _ hj
  refine ⟨by rw [List.length_take]; omega, by have := h.max; omega, ?_⟩
  rcases h.at_ with rfl | ⟨b, o, rfl, hc⟩
  · left; simp
  · right
    refine ⟨b, o, ?_, fun k v hk => ?_⟩
    · unfold subAt; split <;> simp [Addr.add]
    · rw [List.getElem?_take] at hk
      split at hk
      · exact hc k v hk
      · cases hk
theorem Sl.pre4 {w : World} {A : Option Addr} {n : Nat} {l : List Rec} (h : Sl 4 w A n (encs l)) {j : Nat} (hj : j ≤ n) (c : Nat) : Sl 4 w (subAt A 0 c 4) j (encs (l.take j)) := by
  have := h.pre hj c; rwa [encs_take] at this
theorem Sl.pre1 {w : World} {A : Option Addr} {n : Nat} {l : List UInt8} (h : Sl 1 w A n (bys l)) {j : Nat} (hj : j ≤ n) (c : Nat) : Sl 1 w (subAt A 0 c 1) j (bys (l.take j)) := by
  have := h.pre hj c
  rw [Nat.mul_one] at this
  have e : (bys l).take j = bys (l.take j) := by simp [bys, List.map_take]
  rwa [e] at this
theorem under25 : Tryd.prog.underlying 25 = some (.slice (Tryd.prog.elem 25)) := by kernel_rfl
theorem elem25 : Tryd.prog.elem 25 = 23 := by kernel_rfl
theorem under32 : Tryd.prog.underlying 32 = some (.slice (Tryd.prog.elem 32)) := by kernel_rfl
theorem elem32 : Tryd.prog.elem 32 = 31 := by kernel_rfl
theorem cut_nat (cut : Int) (L : Nat) : ∃ q : Nat, mxI 0 (mnI cut L) = (q : Int) ∧ q ≤ L := by
  refine ⟨(mxI 0 (mnI cut L)).toNat, ?_, ?_⟩ <;> unfold mxI mnI <;> split <;> split <;> omega
end Go.Proofs.YthkjnpbbgfagkaaDoor
