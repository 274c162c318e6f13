import Derived.Test.YthkjnpbbgfagkaaDoorP0
import Derived.Deep.Slices
import Derived.Deep.Fields
import Derived.ChangeSame
set_option linter.unusedVariables false
set_option linter.unusedSimpArgs false
namespace Go.Proofs.YthkjnpbbgfagkaaDoor
open Go.ChangeShapes Go.WideShapes Go.ChangeAt Go.RowKit Go.Joins Go.Deep

section
variable {H : Type} {enc : TypeId × Value → H} {P : Program} {w : World} {base : Nat} {spare : Nat → Bool} {held : Bool}
theorem open_slice_fields {t e : TypeId} {fs : Array Field} {fuel : Nat} {cs : List Value} {x : DataW H × List MemPlace} (ht : P.underlying t = some (.slice e)) (he : P.underlying e = some (.struct fs))
    (hone : oneCellFields P fs = true) (hC : P.cellsOf e = fs.size) (h : DataW.trod enc P w base spare held fuel t cs = some x) :
    (cs = [.slice none 0 0] ∧ x = (.nil, [])) ∨
    ∃ (a : Addr) (len cap m : Nat) (D : Nat → DataW H) (Pl : Nat → List MemPlace), cs = [.slice (some a) len cap] ∧ base ≤ a.block ∧ len ≤ cap ∧ cap ≤ maxLen ∧ m = (if spare a.block then cap else len) ∧
      x = (.slice ((List.range len).map D) ((List.range (m - len)).map fun j => D (len + j)), MemPlace.row a (m * fs.size) ++ (List.range m).flatMap Pl) ∧
      ∀ i, i < m → ∃ (ys : List (DataW H × List MemPlace)) (n : Nat), D i = .agg (ys.map (·.1)) ∧ Pl i = ys.flatMap (·.2) ∧ ys.length = fs.size ∧
        ∀ (j : Nat) (f : Field), fs[j]? = some f → ∃ (v : Value) (y : DataW H × List MemPlace), w.cell? (a.add (i * fs.size + j)) = some v ∧ ys[j]? = some y ∧ DataW.trod enc P w base spare held n f.type [v] = some y := by
  rcases open_slice ht h with h0 | ⟨a, len, cap, m, n, D, Pl, hcs, hb, hl, hm, hmm, hx, hi⟩
  · exact .inl h0
  · refine .inr ⟨a, len, cap, m, D, Pl, hcs, hb, hl, hm, hmm, by rw [hC] at hx; exact hx, fun i him => ?_⟩
    obtain ⟨cs', hc, ht'⟩ := hi i him
    rw [hC] at hc
    obtain ⟨ys, n', hn', hy, hlen, hyl, hf⟩ := DataW.trod_struct he ht'
    obtain ⟨_, hcl, hat⟩ := World.cells?_some hc
    simp only [Prod.mk.injEq] at hy
    refine ⟨ys, n', hy.1, hy.2, hyl, fun j f hj => ?_⟩
    obtain ⟨ho, hk⟩ := hone_of hone j f hj
    have hjl : j < fs.size := (Array.getElem?_eq_some_iff.1 hj).1
    have hcell := hat j hjl
    have hv : cs'[j]? = some (cs'[j]'(by omega)) := List.getElem?_eq_getElem (by omega)
    have h1 := hf j f hj
    rw [ho, hk] at h1
    have hone' : (cs'.drop j).take 1 = [cs'[j]'(by omega)] := by
      rw [List.drop_eq_getElem_cons (by omega)]
      rfl
    rw [hone'] at h1
    have hys : ys[j]? = some (ys[j]'(by omega)) := List.getElem?_eq_getElem (by omega)
    refine ⟨_, _, ?_, hys, h1.trans hys⟩
    rw [← Go.Deep.add_add, hcell, hv]
end

section
variable {H : Type} {enc : TypeId × Value → H} {P : Program} {W : World} {base : Nat} {spare : Nat → Bool} {held : Bool}
/-- What a slice of bytes that came in gives. -/
theorem open_bs {r : Reach} {b0 : Nat} {T E : TypeId} {v : Value} {d : DataW H} {ps : List MemPlace} (ht : P.underlying T = some (.slice E)) (he : P.underlying E = some (.int .u8)) (hc : P.cellsOf E = 1)
    (hval : Value.okWide P W r b0 T v) (h1 : DataW.Trod enc P W base spare held T v d ps) :
    ∃ (A : Option Addr) (n c : Nat) (bs : List UInt8), v = .slice A n c ∧ n ≤ c ∧ Sl 1 W A n (bys bs) := by
  obtain ⟨a1, len, cap, rfl⟩ := okWide_slice ht hval
  obtain ⟨fuel, hf⟩ := h1
  rcases open_ints ht he hc hf with ⟨hcs, hx⟩ | ⟨a, len', cap', zs, hcs, _, hl, hm, hz, hx, hcell, hwz⟩
  · simp [Value.cells] at hcs
    obtain ⟨rfl, rfl, rfl⟩ := hcs
    exact ⟨none, 0, 0, [], rfl, Nat.le_refl _, Sl.nil 1 W none⟩
  · simp [Value.cells] at hcs
    obtain ⟨rfl, rfl, rfl⟩ := hcs
    have hzl : len ≤ zs.length := by rw [hz]; split <;> omega
    refine ⟨some a, len, cap, (zs.take len).map fun n => UInt8.ofNat n.toNat, rfl, hl, by simp [bys]; omega, by unfold maxLen at hm; omega, ?_⟩
    rcases Nat.eq_zero_or_pos len with h0 | h0
    · left; subst h0; simp [bys]
    · right
      obtain ⟨ab, ao, spot⟩ := a
      have hspot : spot = none := by simpa [Addr.add] using World.cell?_spot (hcell 0 (by omega))
      subst hspot
      refine ⟨ab, ao, rfl, fun j u hj => ?_⟩
      have hjl : j < len := by
        have := (List.getElem?_eq_some_iff.1 hj).1
        simp [bys] at this; omega
      have hcj := hcell j (by omega)
      rw [Addr.add_lit] at hcj
      rw [hcj]
      have hb := range_u8 hwz j
      have e : zs.getD j 0 = zs[j]'(by omega) := by simp [List.getD, List.getElem?_eq_getElem (show j < zs.length by omega)]
      have e2 : zs[j]?.getD 0 = zs[j]'(by omega) := by rw [List.getElem?_eq_getElem (show j < zs.length by omega)]; rfl
      rw [e2] at hb
      rw [e]
      simp [bys, List.getElem?_take, hjl, List.getElem?_eq_getElem (show j < zs.length by omega)] at hj
      rw [← hj]
      simp only [bv, UInt8.toNat_ofNat']
      congr 2
      omega
theorem choose_lt' {α : Type} {p : Nat → α → Prop} {n : Nat} (d : α) (h : ∀ i, i < n → ∃ x, p i x) : ∃ l : List α, l.length = n ∧ ∀ i x, l[i]? = some x → p i x := by
  induction n with
  | zero => exact ⟨[], rfl, by simp⟩
  | succ n ih =>
    obtain ⟨l, hl, hp⟩ := ih fun i hi => h i (by omega)
    obtain ⟨x, hx⟩ := h n (by omega)
    refine ⟨l ++ [x], by simp [hl], fun i y hy => ?_⟩
    rcases Nat.lt_or_ge i l.length with hi | hi
    · rw [List.getElem?_append_left hi] at hy; exact hp i y hy
    · rw [List.getElem?_append_right hi] at hy
      rcases hz : i - l.length with _ | k
      · rw [hz] at hy
        simp at hy
        obtain rfl : i = n := by omega
        rw [← hy]; exact hx
      · rw [hz] at hy; simp at hy
end
section
variable {H : Type} {enc : TypeId × Value → H} {W : World} {base : Nat} {spare : Nat → Bool} {held : Bool}
set_option maxRecDepth 100000 in
/-- What a slice of records that came in gives. -/
theorem open_rs {r : Reach} {b0 : Nat} {v : Value} {d : DataW H} {ps : List MemPlace}
    (hval : Value.okWide Tryd.prog W r b0 25 v) (h1 : DataW.Trod enc Tryd.prog W base spare held 25 v d ps) :
    ∃ (A : Option Addr) (n c : Nat) (l : List Rec), v = .slice A n c ∧ n ≤ c ∧ Sl 4 W A n (encs l) := by
  obtain ⟨a1, len, cap, rfl⟩ := okWide_slice Tryd.underlying25 hval
  obtain ⟨fuel, hf⟩ := h1
  rcases open_slice_fields Tryd.underlying25 Tryd.underlying23 (by kernel_rfl) (by kernel_rfl) hf with ⟨hcs, hx⟩ | ⟨a, len', cap', m, D, Pl, hcs, _, hl, hm, hmm, hx, hi⟩
  · simp [Value.cells] at hcs
    obtain ⟨rfl, rfl, rfl⟩ := hcs
    exact ⟨none, 0, 0, [], rfl, Nat.le_refl _, Sl.nil 4 W none⟩
  · simp [Value.cells] at hcs
    obtain ⟨rfl, rfl, rfl⟩ := hcs
    have hlm : len ≤ m := by rw [hmm]; split <;> omega
    have each : ∀ i, i < len → ∃ x : Rec, W.cell? (a.add (i * 4)) = some (.int .i64 x.kind) ∧ W.cell? (a.add (i * 4 + 1)) = some (.string x.path) ∧ W.cell? (a.add (i * 4 + 2)) = some (.int .i64 x.num) ∧ W.cell? (a.add (i * 4 + 3)) = some (.string x.sum) := by
      intro i him
      obtain ⟨ys, n, _, _, _, hfld⟩ := hi i (by omega)
      obtain ⟨v0, y0, h0, _, t0⟩ := hfld 0 _ rfl
      obtain ⟨v1, y1, h1, _, t1⟩ := hfld 1 _ rfl
      obtain ⟨v2, y2, h2, _, t2⟩ := hfld 2 _ rfl
      obtain ⟨v3, y3, h3, _, t3⟩ := hfld 3 _ rfl
      obtain ⟨k, hk0, _, _⟩ := DataW.trod_int Tryd.underlying3 t0
      obtain ⟨pa, hk1, _, _⟩ := DataW.trod_string Tryd.underlying9 t1
      obtain ⟨mm, hk2, _, _⟩ := DataW.trod_int Tryd.underlying3 t2
      obtain ⟨su, hk3, _, _⟩ := DataW.trod_string Tryd.underlying9 t3
      simp only [List.cons.injEq, and_true] at hk0 hk1 hk2 hk3
      subst hk0 hk1 hk2 hk3
      exact ⟨⟨k, pa, mm, su⟩, h0, h1, h2, h3⟩
    obtain ⟨l, hll, hp⟩ := choose_lt' ⟨0, str [], 0, str []⟩ each
    refine ⟨some a, len, cap, l, rfl, hl, by rw [encs_len, hll], by unfold maxLen at hm; omega, ?_⟩
    rcases Nat.eq_zero_or_pos len with h0 | h0
    · left
      obtain rfl : l = [] := List.eq_nil_of_length_eq_zero (by omega)
      rfl
    · right
      obtain ⟨ab, ao, spot⟩ := a
      have hspot : spot = none := by
        obtain ⟨x, hx, _⟩ := each 0 h0
        simpa [Addr.add] using World.cell?_spot hx
      subst hspot
      refine ⟨ab, ao, rfl, fun j u hj => ?_⟩
      have hjl : j < l.length * 4 := by
        have := (List.getElem?_eq_some_iff.1 hj).1
        rw [encs_len] at this; omega
      have hq : j / 4 < l.length := by omega
      obtain ⟨p0, p1, p2, p3⟩ := hp (j / 4) _ (List.getElem?_eq_getElem hq)
      obtain ⟨g0, g1, g2, g3⟩ := encs_get (l := l) (i := j / 4) hq
      rw [Addr.add_lit] at p0 p1 p2 p3
      have hcase : j = j / 4 * 4 ∨ j = j / 4 * 4 + 1 ∨ j = j / 4 * 4 + 2 ∨ j = j / 4 * 4 + 3 := by omega
      rcases hcase with e | e | e | e <;> rw [e] at hj ⊢
      · rw [g0] at hj; rw [← hj]; exact p0
      · rw [g1] at hj; rw [← hj]; exact p1
      · rw [g2] at hj; rw [← hj]; exact p2
      · rw [g3] at hj; rw [← hj]; exact p3
end
end Go.Proofs.YthkjnpbbgfagkaaDoor
