import Derived.Test.YtlndiddplfoceaaDoorRf
/-! The program's sum, which fills a block piece by piece, is the document's, which cuts the filled text. -/
set_option linter.unusedVariables false
set_option linter.unusedSimpArgs false
namespace Go.Proofs.YtlndiddplfoceaaDoor
open Go.RowKit

/-- So many blocks of a text, one after another. -/
def foldB : S8 → Nat → List UInt8 → S8
  | s, 0, _ => s
  | s, j+1, l => foldB (addS s (rndN (l.take 64) s 64)) j (l.drop 64)
theorem foldB_add (k : Nat) : ∀ (j : Nat) (s : S8) (l : List UInt8), foldB s (j + k) l = foldB (foldB s j l) k (l.drop (64 * j))
  | 0, s, l => by rw [Nat.zero_add, Nat.mul_zero, List.drop_zero]; rfl
  | j+1, s, l => by
    rw [show j + 1 + k = (j + k) + 1 by omega]
    simp only [foldB]
    rw [foldB_add k j, List.drop_drop, show 64 + 64 * j = 64 * (j + 1) by omega]
theorem foldB_snoc (s : S8) (j : Nat) (l : List UInt8) : foldB s (j + 1) l = addS (foldB s j l) (rndN ((l.drop (64 * j)).take 64) (foldB s j l) 64) := by
  rw [foldB_add 1 j]; rfl
theorem foldB_app : ∀ (j : Nat) (s : S8) (b c : List UInt8), 64 * j ≤ b.length → foldB s j (b ++ c) = foldB s j b
  | 0, _, _, _, _ => rfl
  | j+1, s, b, c, h => by
    simp only [foldB]
    rw [List.take_append_of_le_length (by omega), List.drop_append_of_le_length (by omega), foldB_app j _ _ _ (by rw [List.length_drop]; omega)]
theorem fillS_eq (x : Shs) (b : List UInt8) (k : Nat) (hk : k = Nat.min (64 - x.hv) b.length) : fillS x b = if x.hv + k = 64 then ⟨addS x.s (rndN (x.bs.take x.hv ++ (b.take k ++ x.bs.drop (x.hv + k))) x.s 64), x.bs.take x.hv ++ (b.take k ++ x.bs.drop (x.hv + k)), 0⟩ else ⟨x.s, x.bs.take x.hv ++ (b.take k ++ x.bs.drop (x.hv + k)), x.hv + k⟩ := by
  subst hk; rfl
theorem absorb_fold : ∀ (f : Nat) (x : Shs) (b : List UInt8), ShOk x → b.length ≤ f →
    (absorb f x b).s = foldB x.s ((x.hv + b.length) / 64) (x.bs.take x.hv ++ b) ∧ (absorb f x b).bs.take (absorb f x b).hv = (x.bs.take x.hv ++ b).drop (64 * ((x.hv + b.length) / 64)) ∧ (absorb f x b).hv = (x.hv + b.length) % 64 := by
  have base : ∀ (x : Shs), ShOk x → x.s = foldB x.s ((x.hv + ([] : List UInt8).length) / 64) (x.bs.take x.hv ++ []) ∧ x.bs.take x.hv = (x.bs.take x.hv ++ []).drop (64 * ((x.hv + ([] : List UInt8).length) / 64)) ∧ x.hv = (x.hv + ([] : List UInt8).length) % 64 := by
    intro x hx
    have h0 : (x.hv + ([] : List UInt8).length) / 64 = 0 := by have := hx.2; simp only [List.length_nil]; omega
    rw [h0]
    exact ⟨rfl, by simp, by have := hx.2; simp only [List.length_nil]; omega⟩
  intro f
  induction f with
  | zero =>
    intro x b hx hb
    obtain rfl : b = [] := List.eq_nil_of_length_eq_zero (by omega)
    exact base x hx
  | succ f ih =>
    intro x b hx hb
    rw [absorb]
    split
    · rename_i h; subst h; exact base x hx
    · rename_i hne
      have hpos : 0 < b.length := List.length_pos_iff.2 hne
      obtain ⟨h64, hv⟩ := hx
      have hk1 : Nat.min (64 - x.hv) b.length ≤ 64 - x.hv := Nat.min_le_left _ _
      have hk2 : Nat.min (64 - x.hv) b.length ≤ b.length := Nat.min_le_right _ _
      have hk3 : Nat.min (64 - x.hv) b.length = 64 - x.hv ∨ Nat.min (64 - x.hv) b.length = b.length := by
        rcases Nat.le_total (64 - x.hv) b.length with h | h
        · exact .inl (Nat.min_eq_left h)
        · exact .inr (Nat.min_eq_right h)
      have hk0 : 0 < Nat.min (64 - x.hv) b.length := by rcases hk3 with h | h <;> rw [h] <;> omega
      have hI := ih (fillS x b) (b.drop (Nat.min (64 - x.hv) b.length)) (fillS_ok ⟨h64, hv⟩ b) (by rw [List.length_drop]; omega)
      rw [fillS_eq x b _ rfl] at hI ⊢
      generalize Nat.min (64 - x.hv) b.length = k at *
      have hlen : x.hv + b.length = (x.hv + k) + (b.drop k).length := by rw [List.length_drop]; omega
      have htl : (x.bs.take x.hv).length = x.hv := by rw [List.length_take]; omega
      by_cases h : x.hv + k = 64
      · rw [if_pos h] at hI ⊢
        simp only [List.take_zero, List.nil_append, Nat.zero_add] at hI
        have hbs : x.bs.take x.hv ++ (b.take k ++ x.bs.drop (x.hv + k)) = (x.bs.take x.hv ++ b).take 64 := by
          rw [List.drop_of_length_le (l := x.bs) (by omega), List.append_nil, List.take_append, htl, List.take_of_length_le (l := x.bs.take x.hv) (by omega), show 64 - x.hv = k by omega]
        have hdr : b.drop k = (x.bs.take x.hv ++ b).drop 64 := by
          rw [List.drop_append, htl, List.drop_of_length_le (l := x.bs.take x.hv) (by omega), List.nil_append, show 64 - x.hv = k by omega]
        have hq : (x.hv + b.length) / 64 = (b.drop k).length / 64 + 1 := by rw [hlen, h]; omega
        have hm : (x.hv + b.length) % 64 = (b.drop k).length % 64 := by rw [hlen, h]; omega
        rw [hq, hm]
        obtain ⟨i1, i2, i3⟩ := hI
        refine ⟨?_, ?_, i3⟩
        · rw [i1, hbs, foldB, ← hdr]
        · rw [i2, Nat.mul_add, Nat.add_comm, ← List.drop_drop, Nat.mul_one, ← hdr]
      · rw [if_neg h] at hI ⊢
        have hkb : k = b.length := by omega
        have hd : b.drop k = [] := List.drop_of_length_le (by omega)
        have htk : b.take k = b := List.take_of_length_le (by omega)
        have hall : (x.bs.take x.hv ++ (b.take k ++ x.bs.drop (x.hv + k))).take (x.hv + k) = x.bs.take x.hv ++ b := by
          rw [htk, ← List.append_assoc, List.take_append_of_le_length (by rw [List.length_append, htl]; omega), List.take_of_length_le (by rw [List.length_append, htl]; omega)]
        rw [hd] at hI ⊢
        simp only [List.append_nil, List.length_nil, Nat.add_zero, hall] at hI
        rw [← hkb]
        exact hI
theorem shaB_fold (b : List UInt8) : shaB b = digB (foldB h0S ((b.length + (endB b.length).length) / 64) (b ++ endB b.length)).l := by
  obtain ⟨h1, h2, h3⟩ := absorb_fold b.length shs0 b shs0_ok (Nat.le_refl _)
  have hok := absorb_ok b.length shs0 b shs0_ok
  obtain ⟨g1, _, _⟩ := absorb_fold (endB b.length).length (absorb b.length shs0 b) (endB b.length) hok (Nat.le_refl _)
  unfold shaB sumX
  rw [g1, h1, h2, h3]
  have e0 : shs0.hv = 0 := rfl
  have e1 : shs0.s = h0S := rfl
  rw [e0, e1, List.take_zero, List.nil_append, Nat.zero_add]
  have e2 : (b.length + (endB b.length).length) / 64 = b.length / 64 + (b.length % 64 + (endB b.length).length) / 64 := by omega
  rw [e2, foldB_add _ (b.length / 64), foldB_app (b.length / 64) h0S b (endB b.length) (by omega), List.drop_append_of_le_length (by omega)]
end Go.Proofs.YtlndiddplfoceaaDoor
