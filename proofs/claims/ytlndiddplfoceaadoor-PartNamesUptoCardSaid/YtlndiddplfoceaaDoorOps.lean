import Derived.Test.YtlndiddplfoceaaDoorPN
set_option linter.unusedVariables false
set_option linter.unusedSimpArgs false
namespace Go.Proofs.YtlndiddplfoceaaDoor
open Go.RowKit

/-! ops: an op's cells, and lists of them with their bytes -/
structure OpV where
  off : Int
  len : Int
  A : Option Addr
  n : Nat
  c : Nat
  d : List UInt8
def encO (o : OpV) : List Value := [.int .i64 o.off, .int .i64 o.len, .slice o.A o.n o.c]
def encsO (l : List OpV) : List Value := l.flatMap encO
theorem encsO_len (l : List OpV) : (encsO l).length = l.length * 3 := by
  unfold encsO; induction l with
  | nil => rfl
  | cons a l ih => rw [List.flatMap_cons, List.length_append, ih]; simp [encO]; omega
theorem encsO_snoc (l : List OpV) (o : OpV) : encsO (l ++ [o]) = encsO l ++ encO o := by simp [encsO]
theorem encO_one (o : OpV) : ∀ u ∈ encO o, u.oneCell' = true := by
  intro u hu; simp only [encO, List.mem_cons, List.mem_nil_iff, or_false] at hu
  rcases hu with rfl | rfl | rfl <;> rfl
theorem encsO_get : ∀ {l : List OpV} {i : Nat} (hi : i < l.length), (encsO l)[i * 3]? = some (.int .i64 l[i].off) ∧ (encsO l)[i * 3 + 1]? = some (.int .i64 l[i].len) ∧ (encsO l)[i * 3 + 2]? = some (.slice l[i].A l[i].n l[i].c)
  | r :: l, 0, _ => ⟨rfl, rfl, rfl⟩
  | r :: l, i+1, h => by
    have := encsO_get (l := l) (i := i) (by simpa using h)
    have h4 : ∀ k, (encsO (r :: l))[(i+1) * 3 + k]? = (encsO l)[i * 3 + k]? := fun k => by
      rw [show encsO (r :: l) = encO r ++ encsO l from rfl, List.getElem?_append_right (by simp [encO]; omega)]
      congr 1
      simp [encO]; omega
    exact ⟨(h4 0).trans this.1, (h4 1).trans this.2.1, (h4 2).trans this.2.2⟩
theorem Sl.ops {w : World} {A : Option Addr} {n : Nat} {l : List OpV} (h : Sl 3 w A n (encsO l)) : l.length = n := by
  have := h.len; rw [encsO_len] at this; omega
theorem Sl.row3 {w : World} {A : Option Addr} {n : Nat} {l : List OpV} (h : Sl 3 w A n (encsO l)) {i : Nat} (hi : i < n) : ∃ (b o : Nat) (x : OpV), A = some ⟨b, o, none⟩ ∧ l[i]? = some x ∧ w.cell? ⟨b, o + i * 3, none⟩ = some (.int .i64 x.off) ∧ w.cell? ⟨b, o + i * 3 + 1, none⟩ = some (.int .i64 x.len) ∧ w.cell? ⟨b, o + i * 3 + 2, none⟩ = some (.slice x.A x.n x.c) := by
  have hl : l.length = n := h.ops
  obtain ⟨g0, g1, g2⟩ := encsO_get (l := l) (i := i) (by omega)
  rcases h.at_ with h0 | ⟨b, o, rfl, hc⟩
  · rw [h0] at g0; simp at g0
  · exact ⟨b, o, _, rfl, by rw [List.getElem?_eq_getElem (by omega)], hc _ _ g0, hc _ _ g1, hc _ _ g2⟩
theorem take_snocO {l : List OpV} {i : Nat} {r : OpV} (h : l[i]? = some r) : l.take (i+1) = l.take i ++ [r] := by
  rw [List.take_add_one, h]; rfl
theorem infoO : (Tryd.prog.info? 32).map (fun i => (i.zero, i.size, i.bytes)) = some (some (.agg #[.int .i64 0, .int .i64 0, .slice none 0 0]), 3, 40) := by kernel_rfl
theorem below_drewN {B : Nat} {a w : World} (h : Below B a w) (n : Nat) : Below B a (w.drewN n) := h.trans ⟨rfl, rfl, rfl, Nat.le_refl _, fun _ _ => rfl⟩
/-- An op that can't be over the first text alone. -/
def BadO (old : Int) (o : OpV) : Prop := o.n = 0 ∧ (o.off < 0 ∨ o.len < 1 ∨ old < o.off ∨ old - o.off < o.len)
instance (old : Int) (o : OpV) : Decidable (BadO old o) := by unfold BadO; infer_instance
theorem mem_take_snoc {l : List OpV} {i : Nat} {r x : OpV} (h : l[i]? = some r) (hx : x ∈ l.take (i+1)) : x ∈ l.take i ∨ x = r := by
  rw [take_snocO h] at hx; simpa using hx
end Go.Proofs.YtlndiddplfoceaaDoor
