import Derived.Test.YtlndiddplfoceaaRows
import Derived.Test.YtlndiddplfoceaaOps
import Derived.ProofKit
import Derived.OpenShut
import Derived.JoinedCond
import Derived.Deep.Slices
import Derived.Deep.Fields
import Derived.ChangeSame
import Derived.ChangeMaps5
import Derived.SizedLaws
import Derived.LaidLaws
import Derived.LaidMore
import Derived.Stop.Joined
import Derived.Lib.SmallJoins
/-! What the arguments that come in give: slices of bytes, of ops, a pair of texts; with the bound on their bulk. -/
set_option linter.unusedVariables false
set_option linter.unusedSimpArgs false
namespace Go.Proofs.Ytlndiddplfoceaa
open Go.ChangeShapes Go.WideShapes Go.ChangeAt Go.RowKit Go.Deep
theorem own : ownKnob Try.prog.godebug = none := by kernel_rfl
theorem laidOut : laidOutB Try.prog = true := by kernel_rfl
namespace bulks
theorem one_le {H : Type} (d : DataW H) : 1 ≤ Rows.uptoBulk d := by
  cases d with
  | lit l => cases l <;> simp [Rows.uptoBulk]
  | nil => simp [Rows.uptoBulk]
  | ptr d => simp [Rows.uptoBulk]
  | slice elems spare => simp [Rows.uptoBulk]
  | agg parts => simp [Rows.uptoBulk]
  | iface t d => simp [Rows.uptoBulk]
  | map entries => simp [Rows.uptoBulk]
  | held h => simp [Rows.uptoBulk]

/-- a part's bulk is at most the whole's -/
theorem part_le {H : Type} {d : DataW H} {l : List (DataW H)} (h : d ∈ l) : Rows.uptoBulk d ≤ Rows.uptoBulkAll l := by
  induction l with
  | nil => cases h
  | cons x r ih =>
    simp only [Rows.uptoBulkAll]
    cases List.mem_cons.1 h with
    | inl e => subst e; omega
    | inr e => have := ih e; omega

theorem append {H : Type} (l r : List (DataW H)) : Rows.uptoBulkAll (l ++ r) = Rows.uptoBulkAll l + Rows.uptoBulkAll r := by
  induction l with
  | nil => simp [Rows.uptoBulkAll]
  | cons x l ih => simp only [List.cons_append, Rows.uptoBulkAll, ih]; omega

/-- so many values at the most -/
theorem length_le {H : Type} (l : List (DataW H)) : l.length ≤ Rows.uptoBulkAll l := by
  induction l with
  | nil => simp [Rows.uptoBulkAll]
  | cons x r ih => have := one_le x; simp only [Rows.uptoBulkAll, List.length_cons]; omega

/-- a slice's places, and what they hold -/
theorem slice_le {H : Type} (elems spare : List (DataW H)) : elems.length + spare.length + 1 ≤ Rows.uptoBulk (.slice elems spare) := by
  have h1 := length_le elems
  have h2 := length_le spare
  simp only [Rows.uptoBulk]
  omega
theorem slice_elems {H : Type} (elems spare : List (DataW H)) : Rows.uptoBulkAll elems + 1 ≤ Rows.uptoBulk (.slice elems spare) := by
  simp only [Rows.uptoBulk]
  omega

/-- a string's letters -/
theorem string_eq {H : Type} (bytes : List UInt8) : Rows.uptoBulk (DataW.lit (H := H) (.string bytes)) = bytes.length + 1 := by
  simp [Rows.uptoBulk]

/-- THE BOUND, as the builder hands it over ('hk') -/
theorem bound {H : Type} {l : List (DataW H)} (hk : Rows.uptoSmall H l = true) : Rows.uptoBulkAll l ≤ 1048576 := by
  simpa [Rows.uptoSmall] using hk
end bulks

section
variable {H : Type} {enc : TypeId × Value → H} {P : Program} {w : World} {base : Nat} {spare : Nat → Bool} {held : Bool}
theorem open_slice_fields {t e : TypeId} {fs : Array Field} {fuel : Nat} {cs : List Value} {x : DataW H × List MemPlace} (ht : P.underlying t = some (.slice e)) (he : P.underlying e = some (.struct fs))
    (hone : oneCellFields P fs = true) (hC : P.cellsOf e = fs.size) (h : DataW.trod enc P w base spare held fuel t cs = some x) :
    (cs = [.slice none 0 0] ∧ x = (.nil, [])) ∨
    ∃ (a : Addr) (len cap m : Nat) (D : Nat → DataW H) (Pl : Nat → List MemPlace), cs = [.slice (some a) len cap] ∧ base ≤ a.block ∧ len ≤ cap ∧ cap ≤ maxLen ∧ m = (if spare a.block then cap else len) ∧
      x = (.slice ((List.range len).map D) ((List.range (m - len)).map fun j => D (len + j)), MemPlace.row a (m * fs.size) ++ (List.range m).flatMap Pl) ∧
      ∀ i, i < m → ∃ (ys : List (DataW H × List MemPlace)) (n : Nat), D i = .agg (ys.map (·.1)) ∧ Pl i = ys.flatMap (·.2) ∧ ys.length = fs.size ∧
        ∀ (j : Nat) (f : Field), fs[j]? = some f → ∃ (v : Value) (y : DataW H × List MemPlace), w.cell? (a.add (i * fs.size + j)) = some v ∧ ys[j]? = some y ∧ DataW.trod enc P w base spare held n f.type [v] = some y := by
  rcases open_slice ht h with h0 | ⟨a, len, cap, m, n, D, Pl, hcs, hb, hl, hm, hmm, hx, hi⟩
  · exact .inl h0
  · refine .inr ⟨a, len, cap, m, D, Pl, hcs, hb, hl, hm, hmm, by rw [hC] at hx; exact hx, fun i him => ?_⟩
    obtain ⟨cs', hc, ht'⟩ := hi i him
    rw [hC] at hc
    obtain ⟨ys, n', hn', hy, hlen, hyl, hf⟩ := DataW.trod_struct he ht'
    obtain ⟨_, hcl, hat⟩ := World.cells?_some hc
    simp only [Prod.mk.injEq] at hy
    refine ⟨ys, n', hy.1, hy.2, hyl, fun j f hj => ?_⟩
    obtain ⟨ho, hk⟩ := hone_of hone j f hj
    have hjl : j < fs.size := (Array.getElem?_eq_some_iff.1 hj).1
    have hcell := hat j hjl
    have hv : cs'[j]? = some (cs'[j]'(by omega)) := List.getElem?_eq_getElem (by omega)
    have h1 := hf j f hj
    rw [ho, hk] at h1
    have hone' : (cs'.drop j).take 1 = [cs'[j]'(by omega)] := by
      rw [List.drop_eq_getElem_cons (by omega)]
      rfl
    rw [hone'] at h1
    have hys : ys[j]? = some (ys[j]'(by omega)) := List.getElem?_eq_getElem (by omega)
    refine ⟨_, _, ?_, hys, h1.trans hys⟩
    rw [← Go.Deep.add_add, hcell, hv]
end

theorem choose_lt' {α : Type} {p : Nat → α → Prop} {n : Nat} (d : α) (h : ∀ i, i < n → ∃ x, p i x) : ∃ l : List α, l.length = n ∧ ∀ i x, l[i]? = some x → p i x := by
  induction n with
  | zero => exact ⟨[], rfl, by simp⟩
  | succ n ih =>
    obtain ⟨l, hl, hp⟩ := ih fun i hi => h i (by omega)
    obtain ⟨x, hx⟩ := h n (by omega)
    refine ⟨l ++ [x], by simp [hl], fun i y hy => ?_⟩
    rcases Nat.lt_or_ge i l.length with hi | hi
    · rw [List.getElem?_append_left hi] at hy; exact hp i y hy
    · rw [List.getElem?_append_right hi] at hy
      rcases hz : i - l.length with _ | k
      · rw [hz] at hy
        simp at hy
        obtain rfl : i = n := by omega
        rw [← hy]; exact hx
      · rw [hz] at hy; simp at hy

section
variable {H : Type} {enc : TypeId × Value → H} {P : Program} {W : World} {base : Nat} {spare : Nat → Bool} {held : Bool}
/-- What a slice of bytes that came in gives. -/
theorem bs_of_trod {T E : TypeId} {v : Value} {fuel : Nat} {x : DataW H × List MemPlace} (ht : P.underlying T = some (.slice E)) (he : P.underlying E = some (.int .u8)) (hc : P.cellsOf E = 1)
    (hf : DataW.trod enc P W base spare held fuel T [v] = some x) :
    ∃ (A : Option Addr) (n c : Nat) (bs : List UInt8), v = .slice A n c ∧ n ≤ c ∧ Sl 1 W A n (bys bs) ∧ n ≤ Rows.uptoBulk x.1 := by
  rcases open_ints ht he hc hf with ⟨hcs, hx⟩ | ⟨a, len, cap, zs, hcs, _, hl, hm, hz, hx, hcell, hwz⟩
  · simp at hcs
    exact ⟨none, 0, 0, [], hcs, Nat.le_refl _, Sl.nil 1 W none, Nat.zero_le _⟩
  · simp at hcs
    have hzl : len ≤ zs.length := by rw [hz]; split <;> omega
    refine ⟨some a, len, cap, (zs.take len).map fun n => UInt8.ofNat n.toNat, hcs, hl, ⟨by simp [bys]; omega, by unfold maxLen at hm; omega, ?_⟩, ?_⟩
    · rcases Nat.eq_zero_or_pos len with h0 | h0
      · left; subst h0; simp [bys]
      · right
        obtain ⟨ab, ao, spot⟩ := a
        have hspot : spot = none := by simpa [Addr.add] using World.cell?_spot (hcell 0 (by omega))
        subst hspot
        refine ⟨ab, ao, rfl, fun j u hj => ?_⟩
        have hjl : j < len := by
          have := (List.getElem?_eq_some_iff.1 hj).1
          simp [bys] at this; omega
        have hcj := hcell j (by omega)
        rw [Addr.add_lit] at hcj
        rw [hcj]
        have hb := range_u8 hwz j
        have e : zs.getD j 0 = zs[j]'(by omega) := by simp [List.getD, List.getElem?_eq_getElem (show j < zs.length by omega)]
        have e2 : zs[j]?.getD 0 = zs[j]'(by omega) := by rw [List.getElem?_eq_getElem (show j < zs.length by omega)]; rfl
        rw [e2] at hb
        rw [e]
        simp [bys, List.getElem?_take, hjl, List.getElem?_eq_getElem (show j < zs.length by omega)] at hj
        rw [← hj]
        simp only [bv, UInt8.toNat_ofNat']
        congr 2
        omega
    · have h1 := bulks.slice_le (H := H) (lits .u8 (zs.take len)) (lits .u8 (zs.drop len))
      rw [hx]
      show len ≤ Rows.uptoBulk (DataW.slice (lits .u8 (zs.take len)) (lits .u8 (zs.drop len)))
      have h2 : (lits (H := H) .u8 (zs.take len)).length = len := by simp [lits]; omega
      omega
theorem open_bs {r : Reach} {b0 : Nat} {T E : TypeId} {v : Value} {d : DataW H} {ps : List MemPlace} (ht : P.underlying T = some (.slice E)) (he : P.underlying E = some (.int .u8)) (hc : P.cellsOf E = 1)
    (hval : Value.okWide P W r b0 T v) (h1 : DataW.Trod enc P W base spare held T v d ps) :
    ∃ (A : Option Addr) (n c : Nat) (bs : List UInt8), v = .slice A n c ∧ n ≤ c ∧ Sl 1 W A n (bys bs) ∧ n ≤ Rows.uptoBulk d := by
  obtain ⟨a1, len, cap, rfl⟩ := okWide_slice ht hval
  obtain ⟨fuel, hf⟩ := h1
  exact bs_of_trod ht he hc hf
end

section
variable {H : Type} {enc : TypeId × Value → H} {W : World} {base : Nat} {spare : Nat → Bool} {held : Bool}
set_option maxRecDepth 100000 in
/-- What a slice of ops that came in gives. -/
theorem open_ops {r : Reach} {b0 : Nat} {v : Value} {d : DataW H} {ps : List MemPlace}
    (hval : Value.okWide Try.prog W r b0 22 v) (h1 : DataW.Trod enc Try.prog W base spare held 22 v d ps) :
    ∃ (A : Option Addr) (n c : Nat) (l : List OpV), v = .slice A n c ∧ n ≤ c ∧ Sl 3 W A n (encsO l) ∧ n ≤ Rows.uptoBulk d ∧
      (∀ o ∈ l, -9223372036854775808 ≤ o.off ∧ o.off ≤ 9223372036854775807) ∧ (∀ o ∈ l, -9223372036854775808 ≤ o.len ∧ o.len ≤ 9223372036854775807) ∧ ∀ o ∈ l, Sl 1 W o.A o.n (bys o.d) ∧ o.n ≤ Rows.uptoBulk d := by
  obtain ⟨a1, len, cap, rfl⟩ := okWide_slice Try.underlying22 hval
  obtain ⟨fuel, hf⟩ := h1
  rcases open_slice_fields Try.underlying22 Try.underlying35 (by kernel_rfl) (by kernel_rfl) hf with ⟨hcs, hx⟩ | ⟨a, len', cap', m, D, Pl, hcs, _, hl, hm, hmm, hx, hi⟩
  · simp [Value.cells] at hcs
    obtain ⟨rfl, rfl, rfl⟩ := hcs
    exact ⟨none, 0, 0, [], rfl, Nat.le_refl _, Sl.nil 3 W none, Nat.zero_le _, by simp, by simp, by simp⟩
  · simp [Value.cells] at hcs
    obtain ⟨rfl, rfl, rfl⟩ := hcs
    have hlm : len ≤ m := by rw [hmm]; split <;> omega
    have hd : d = .slice ((List.range len).map D) ((List.range (m - len)).map fun j => D (len + j)) := congrArg Prod.fst hx
    have each : ∀ i, i < len → ∃ x : OpV, W.cell? (a.add (i * 3)) = some (.int .i64 x.off) ∧ W.cell? (a.add (i * 3 + 1)) = some (.int .i64 x.len) ∧ W.cell? (a.add (i * 3 + 2)) = some (.slice x.A x.n x.c) ∧
        (-9223372036854775808 ≤ x.off ∧ x.off ≤ 9223372036854775807) ∧ (-9223372036854775808 ≤ x.len ∧ x.len ≤ 9223372036854775807) ∧ Sl 1 W x.A x.n (bys x.d) ∧ x.n ≤ Rows.uptoBulk d := by
      intro i him
      obtain ⟨ys, n, hDi, _, hyl, hfld⟩ := hi i (by omega)
      obtain ⟨v0, y0, h0, _, t0⟩ := hfld 0 _ rfl
      obtain ⟨v1, y1, h1, _, t1⟩ := hfld 1 _ rfl
      obtain ⟨v2, y2, h2, e2, t2⟩ := hfld 2 _ rfl
      obtain ⟨k, hk0, _, w0⟩ := DataW.trod_int Try.underlying3 t0
      obtain ⟨mm, hk1, _, w1⟩ := DataW.trod_int Try.underlying3 t1
      simp only [List.cons.injEq, and_true] at hk0 hk1
      subst hk0 hk1
      obtain ⟨A2, n2, c2, bs, rfl, _, hs2, hb2⟩ := bs_of_trod Try.underlying23 Try.underlying5 (by kernel_rfl) t2
      have q0 : -9223372036854775808 ≤ k ∧ k ≤ 9223372036854775807 := by simpa [Lit.wf, IntKind.min, IntKind.max, IntKind.signed, IntKind.bits] using w0
      have q1 : -9223372036854775808 ≤ mm ∧ mm ≤ 9223372036854775807 := by simpa [Lit.wf, IntKind.min, IntKind.max, IntKind.signed, IntKind.bits] using w1
      refine ⟨⟨k, mm, A2, n2, c2, bs⟩, h0, h1, h2, q0, q1, hs2, ?_⟩
      have g1 : y2.1 ∈ ys.map (·.1) := List.mem_map_of_mem (List.mem_of_getElem? e2)
      have g2 := bulks.part_le g1
      have g3 : D i ∈ (List.range len).map D := List.mem_map_of_mem (by simpa using him)
      have g4 := bulks.part_le g3
      have g5 := bulks.slice_elems ((List.range len).map D) ((List.range (m - len)).map fun j => D (len + j))
      have g6 : Rows.uptoBulk (D i) = Rows.uptoBulkAll (ys.map (·.1)) + 1 := by rw [hDi]; simp [Rows.uptoBulk]
      show n2 ≤ Rows.uptoBulk d
      rw [hd]
      omega
    obtain ⟨l, hll, hp⟩ := choose_lt' ⟨0, 0, none, 0, 0, []⟩ each
    refine ⟨some a, len, cap, l, rfl, hl, ⟨by rw [encsO_len, hll], by unfold maxLen at hm; omega, ?_⟩, ?_, ?_, ?_, ?_⟩
    · rcases Nat.eq_zero_or_pos len with h0 | h0
      · left
        obtain rfl : l = [] := List.eq_nil_of_length_eq_zero (by omega)
        rfl
      · right
        obtain ⟨ab, ao, spot⟩ := a
        have hspot : spot = none := by
          obtain ⟨x, hx, _⟩ := each 0 h0
          simpa [Addr.add] using World.cell?_spot hx
        subst hspot
        refine ⟨ab, ao, rfl, fun j u hj => ?_⟩
        have hjl : j < l.length * 3 := by
          have := (List.getElem?_eq_some_iff.1 hj).1
          rw [encsO_len] at this; omega
        have hq : j / 3 < l.length := by omega
        obtain ⟨p0, p1, p2, _⟩ := hp (j / 3) _ (List.getElem?_eq_getElem hq)
        obtain ⟨g0, g1, g2⟩ := encsO_get (l := l) (i := j / 3) hq
        rw [Addr.add_lit] at p0 p1 p2
        have hcase : j = j / 3 * 3 ∨ j = j / 3 * 3 + 1 ∨ j = j / 3 * 3 + 2 := by omega
        rcases hcase with e | e | e <;> rw [e] at hj ⊢
        · rw [g0] at hj; rw [← hj]; exact p0
        · rw [g1] at hj; rw [← hj]; exact p1
        · rw [g2] at hj; rw [← hj]; exact p2
    · have h1 := bulks.slice_le ((List.range len).map D) ((List.range (m - len)).map fun j => D (len + j))
      rw [hd]
      simp only [List.length_map, List.length_range] at h1
      omega
    · intro o ho
      obtain ⟨i, hi⟩ := List.getElem?_of_mem ho
      exact (hp i o hi).2.2.2.1
    · intro o ho
      obtain ⟨i, hi⟩ := List.getElem?_of_mem ho
      exact (hp i o hi).2.2.2.2.1
    · intro o ho
      obtain ⟨i, hi⟩ := List.getElem?_of_mem ho
      exact (hp i o hi).2.2.2.2.2
set_option maxRecDepth 100000 in
/-- What a pair of slices of bytes that came in gives. -/
theorem open_pair {r : Reach} {b0 : Nat} {v : Value} {d : DataW H} {ps : List MemPlace}
    (hval : Value.okWide Try.prog W r b0 24 v) (h1 : DataW.Trod enc Try.prog W base spare held 24 v d ps) :
    ∃ (X0 X1 : Option Addr) (n0 c0 n1 c1 : Nat) (b0 b1 : List UInt8), v = .agg #[.slice X0 n0 c0, .slice X1 n1 c1] ∧ Sl 1 W X0 n0 (bys b0) ∧ Sl 1 W X1 n1 (bys b1) ∧ n0 ≤ Rows.uptoBulk d ∧ n1 ≤ Rows.uptoBulk d := by
  have hval' := hval
  simp only [Value.okWide, Try.underlying24] at hval'
  obtain ⟨cs, rfl, hsz, _⟩ := hval'
  have h2 : Try.prog.cellsOf 24 = 2 := by kernel_rfl
  have h3 : Try.prog.cellsOf 23 = 1 := by kernel_rfl
  rw [h2] at hsz
  obtain ⟨u0, u1, rfl⟩ : ∃ u0 u1, cs = #[u0, u1] := by
    obtain ⟨l⟩ := cs
    match l, hsz with
    | [x, y], _ => exact ⟨x, y, rfl⟩
  obtain ⟨fuel, hf⟩ := h1
  obtain ⟨xs, m, _, hx, _, hxl, hat⟩ := DataW.trod_array Try.underlying24 hf
  have t0 := hat 0 (by omega)
  have t1 := hat 1 (by omega)
  rw [h3] at t0 t1
  simp only [Value.cells, List.drop_zero, List.take_succ_cons, List.take_zero, Nat.zero_mul, Nat.one_mul, List.drop_succ_cons] at t0 t1
  rw [List.getElem?_eq_getElem (by omega)] at t0 t1
  obtain ⟨X0, n0, c0, l0, e0, _, s0, g0⟩ := bs_of_trod Try.underlying23 Try.underlying5 (by kernel_rfl) t0
  obtain ⟨X1, n1, c1, l1, e1, _, s1, g1⟩ := bs_of_trod Try.underlying23 Try.underlying5 (by kernel_rfl) t1
  subst e0 e1
  have hd : d = .agg (xs.map (·.1)) := congrArg Prod.fst hx
  have k0 := bulks.part_le (List.mem_map_of_mem (f := (·.1)) (List.getElem_mem (show 0 < xs.length by omega)))
  have k1 := bulks.part_le (List.mem_map_of_mem (f := (·.1)) (List.getElem_mem (show 1 < xs.length by omega)))
  have k2 : Rows.uptoBulk d = Rows.uptoBulkAll (xs.map (·.1)) + 1 := by rw [hd]; simp [Rows.uptoBulk]
  exact ⟨X0, X1, n0, c0, n1, c1, l0, l1, rfl, s0, s1, by omega, by omega⟩
end
end Go.Proofs.Ytlndiddplfoceaa
