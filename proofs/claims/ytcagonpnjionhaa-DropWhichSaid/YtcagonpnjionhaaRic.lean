import Derived.Test.YtcagonpnjionhaaRows
import Derived.Test.YtcagonpnjionhaaQh
import Derived.ProofKit
import Derived.OpenShut
import Derived.JoinedCond
import Derived.Deep.Slices
import Derived.Deep.Fields
import Derived.ChangeSame
import Derived.ChangeMaps5
import Derived.SizedLaws
import Derived.LaidLaws
import Derived.LaidMore
import Derived.Stop.Joined
import Derived.Lib.SmallJoins
/-! What the arguments that come in give: slices of entries, of rules. -/
set_option linter.unusedVariables false
set_option linter.unusedSimpArgs false
namespace Go.Proofs.Ytcagonpnjionhaa
open Go.ChangeShapes Go.WideShapes Go.ChangeAt Go.RowKit Go.Deep
theorem own : ownKnob Try.prog.godebug = none := by kernel_rfl
theorem laidOut : laidOutB Try.prog = true := by kernel_rfl
section
variable {H : Type} {enc : TypeId × Value → H} {P : Program} {w : World} {base : Nat} {spare : Nat → Bool} {held : Bool}
theorem open_slice_fields {t e : TypeId} {fs : Array Field} {fuel : Nat} {cs : List Value} {x : DataW H × List MemPlace} (ht : P.underlying t = some (.slice e)) (he : P.underlying e = some (.struct fs))
    (hone : oneCellFields P fs = true) (hC : P.cellsOf e = fs.size) (h : DataW.trod enc P w base spare held fuel t cs = some x) :
    (cs = [.slice none 0 0] ∧ x = (.nil, [])) ∨
    ∃ (a : Addr) (len cap m : Nat) (D : Nat → DataW H) (Pl : Nat → List MemPlace), cs = [.slice (some a) len cap] ∧ base ≤ a.block ∧ len ≤ cap ∧ cap ≤ maxLen ∧ m = (if spare a.block then cap else len) ∧
      x = (.slice ((List.range len).map D) ((List.range (m - len)).map fun j => D (len + j)), MemPlace.row a (m * fs.size) ++ (List.range m).flatMap Pl) ∧
      ∀ i, i < m → ∃ (ys : List (DataW H × List MemPlace)) (n : Nat), D i = .agg (ys.map (·.1)) ∧ Pl i = ys.flatMap (·.2) ∧ ys.length = fs.size ∧
        ∀ (j : Nat) (f : Field), fs[j]? = some f → ∃ (v : Value) (y : DataW H × List MemPlace), w.cell? (a.add (i * fs.size + j)) = some v ∧ ys[j]? = some y ∧ DataW.trod enc P w base spare held n f.type [v] = some y := by
  rcases open_slice ht h with h0 | ⟨a, len, cap, m, n, D, Pl, hcs, hb, hl, hm, hmm, hx, hi⟩
  · exact .inl h0
  · refine .inr ⟨a, len, cap, m, D, Pl, hcs, hb, hl, hm, hmm, by rw [hC] at hx; exact hx, fun i him => ?_⟩
    obtain ⟨cs', hc, ht'⟩ := hi i him
    rw [hC] at hc
    obtain ⟨ys, n', hn', hy, hlen, hyl, hf⟩ := DataW.trod_struct he ht'
    obtain ⟨_, hcl, hat⟩ := World.cells?_some hc
    simp only [Prod.mk.injEq] at hy
    refine ⟨ys, n', hy.1, hy.2, hyl, fun j f hj => ?_⟩
    obtain ⟨ho, hk⟩ := hone_of hone j f hj
    have hjl : j < fs.size := (Array.getElem?_eq_some_iff.1 hj).1
    have hcell := hat j hjl
    have hv : cs'[j]? = some (cs'[j]'(by omega)) := List.getElem?_eq_getElem (by omega)
    have h1 := hf j f hj
    rw [ho, hk] at h1
    have hone' : (cs'.drop j).take 1 = [cs'[j]'(by omega)] := by
      rw [List.drop_eq_getElem_cons (by omega)]
      rfl
    rw [hone'] at h1
    have hys : ys[j]? = some (ys[j]'(by omega)) := List.getElem?_eq_getElem (by omega)
    refine ⟨_, _, ?_, hys, h1.trans hys⟩
    rw [← Go.Deep.add_add, hcell, hv]
end

theorem choose_lt' {α : Type} {p : Nat → α → Prop} {n : Nat} (d : α) (h : ∀ i, i < n → ∃ x, p i x) : ∃ l : List α, l.length = n ∧ ∀ i x, l[i]? = some x → p i x := by
  induction n with
  | zero => exact ⟨[], rfl, by simp⟩
  | succ n ih =>
    obtain ⟨l, hl, hp⟩ := ih fun i hi => h i (by omega)
    obtain ⟨x, hx⟩ := h n (by omega)
    refine ⟨l ++ [x], by simp [hl], fun i y hy => ?_⟩
    rcases Nat.lt_or_ge i l.length with hi | hi
    · rw [List.getElem?_append_left hi] at hy; exact hp i y hy
    · rw [List.getElem?_append_right hi] at hy
      rcases hz : i - l.length with _ | k
      · rw [hz] at hy
        simp at hy
        obtain rfl : i = n := by omega
        rw [← hy]; exact hx
      · rw [hz] at hy; simp at hy

section
variable {H : Type} {P : Program}
theorem weightsAll_mem {e : TypeId} {l : List (DataW H)} {d : DataW H} (hd : d ∈ l) : ∀ k ∈ d.weights P e, k ∈ DataW.weightsAll P e l := by
  induction l with
  | nil => cases hd
  | cons x r ih =>
    intro k hk
    simp only [DataW.weightsAll, List.mem_append]
    rcases List.mem_cons.1 hd with rfl | h
    · exact .inl hk
    · exact .inr (ih h k hk)
end
section
variable {H : Type} {enc : TypeId × Value → H} {W : World} {base : Nat} {spare : Nat → Bool} {held : Bool}
theorem cellsStr : Try.prog.cellsOf 9 = 1 := by kernel_rfl
theorem cellsInt : Try.prog.cellsOf 3 = 1 := by kernel_rfl
theorem cellsMeta : Try.prog.cellsOf 35 = 5 := by kernel_rfl
theorem cellsEnt : Try.prog.cellsOf 37 = 11 := by kernel_rfl
theorem some_at {α : Type} {l : List α} {n : Nat} (hl : l.length = n) {i : Nat} (hi : i < n) : ∃ y, l[i]? = some y := ⟨_, List.getElem?_eq_getElem (by omega)⟩
theorem list11 {α : Type} {l : List α} (h : l.length = 11) : ∃ a b c d e f g i j k m, l = [a, b, c, d, e, f, g, i, j, k, m] := by
  rcases l with _ | ⟨a, l⟩; · simp at h
  rcases l with _ | ⟨b, l⟩; · simp at h
  rcases l with _ | ⟨c, l⟩; · simp at h
  rcases l with _ | ⟨d, l⟩; · simp at h
  rcases l with _ | ⟨e, l⟩; · simp at h
  rcases l with _ | ⟨f, l⟩; · simp at h
  rcases l with _ | ⟨g, l⟩; · simp at h
  rcases l with _ | ⟨i, l⟩; · simp at h
  rcases l with _ | ⟨j, l⟩; · simp at h
  rcases l with _ | ⟨k, l⟩; · simp at h
  rcases l with _ | ⟨m, l⟩; · simp at h
  rcases l with _ | ⟨q, l⟩
  · exact ⟨a, b, c, d, e, f, g, i, j, k, m, rfl⟩
  · simp at h
set_option maxRecDepth 100000 in
/-- What an entry's cells are. -/
theorem ent_cells {fuel : Nat} {cs : List Value} {x : DataW H × List MemPlace} (h : DataW.trod enc Try.prog W base spare held fuel 37 cs = some x) : ∃ e : En, cs = encE e := by
  obtain ⟨xs, n, hn, hx, hl, hxl, hf⟩ := DataW.trod_struct Try.underlying37 h
  rw [cellsEnt] at hl
  obtain ⟨a, b, c, d, e, f, g, i, j, k, m, rfl⟩ := list11 hl
  have hxl : xs.length = 7 := hxl
  obtain ⟨y0, z0⟩ := some_at hxl (i := 0) (by omega)
  obtain ⟨y1, z1⟩ := some_at hxl (i := 1) (by omega)
  obtain ⟨y2, z2⟩ := some_at hxl (i := 2) (by omega)
  obtain ⟨y3, z3⟩ := some_at hxl (i := 3) (by omega)
  obtain ⟨y4, z4⟩ := some_at hxl (i := 4) (by omega)
  obtain ⟨y5, z5⟩ := some_at hxl (i := 5) (by omega)
  obtain ⟨y6, z6⟩ := some_at hxl (i := 6) (by omega)
  have t0 : DataW.trod enc Try.prog W base spare held n 9 (([a, b, c, d, e, f, g, i, j, k, m].drop 0).take (Try.prog.cellsOf 9)) = xs[0]? := hf 0 _ rfl
  have t1 : DataW.trod enc Try.prog W base spare held n 3 (([a, b, c, d, e, f, g, i, j, k, m].drop 1).take (Try.prog.cellsOf 3)) = xs[1]? := hf 1 _ rfl
  have t2 : DataW.trod enc Try.prog W base spare held n 3 (([a, b, c, d, e, f, g, i, j, k, m].drop 2).take (Try.prog.cellsOf 3)) = xs[2]? := hf 2 _ rfl
  have t3 : DataW.trod enc Try.prog W base spare held n 35 (([a, b, c, d, e, f, g, i, j, k, m].drop 3).take (Try.prog.cellsOf 35)) = xs[3]? := hf 3 _ rfl
  have t4 : DataW.trod enc Try.prog W base spare held n 9 (([a, b, c, d, e, f, g, i, j, k, m].drop 8).take (Try.prog.cellsOf 9)) = xs[4]? := hf 4 _ rfl
  have t5 : DataW.trod enc Try.prog W base spare held n 9 (([a, b, c, d, e, f, g, i, j, k, m].drop 9).take (Try.prog.cellsOf 9)) = xs[5]? := hf 5 _ rfl
  have t6 : DataW.trod enc Try.prog W base spare held n 3 (([a, b, c, d, e, f, g, i, j, k, m].drop 10).take (Try.prog.cellsOf 3)) = xs[6]? := hf 6 _ rfl
  rw [cellsStr, z0] at t0
  rw [cellsInt, z1] at t1
  rw [cellsInt, z2] at t2
  rw [cellsMeta, z3] at t3
  rw [cellsStr, z4] at t4
  rw [cellsStr, z5] at t5
  rw [cellsInt, z6] at t6
  obtain ⟨s0, r0, _⟩ := DataW.trod_string Try.underlying9 t0
  obtain ⟨s1, r1, _⟩ := DataW.trod_int Try.underlying3 t1
  obtain ⟨s2, r2, _⟩ := DataW.trod_int Try.underlying3 t2
  obtain ⟨s4, r4, _⟩ := DataW.trod_string Try.underlying9 t4
  obtain ⟨s5, r5, _⟩ := DataW.trod_string Try.underlying9 t5
  obtain ⟨s6, r6, _⟩ := DataW.trod_int Try.underlying3 t6
  have t3 : DataW.trod enc Try.prog W base spare held n 35 [d, e, f, g, i] = some y3 := t3
  obtain ⟨ms, n', _, _, _, hml, hmf⟩ := DataW.trod_struct Try.underlying35 t3
  have hml : ms.length = 5 := hml
  obtain ⟨v0, w0⟩ := some_at hml (i := 0) (by omega)
  obtain ⟨v1, w1⟩ := some_at hml (i := 1) (by omega)
  obtain ⟨v2, w2⟩ := some_at hml (i := 2) (by omega)
  obtain ⟨v3, w3⟩ := some_at hml (i := 3) (by omega)
  obtain ⟨v4, w4⟩ := some_at hml (i := 4) (by omega)
  have u0 : DataW.trod enc Try.prog W base spare held n' 3 (([d, e, f, g, i].drop 0).take (Try.prog.cellsOf 3)) = ms[0]? := hmf 0 _ rfl
  have u1 : DataW.trod enc Try.prog W base spare held n' 3 (([d, e, f, g, i].drop 1).take (Try.prog.cellsOf 3)) = ms[1]? := hmf 1 _ rfl
  have u2 : DataW.trod enc Try.prog W base spare held n' 3 (([d, e, f, g, i].drop 2).take (Try.prog.cellsOf 3)) = ms[2]? := hmf 2 _ rfl
  have u3 : DataW.trod enc Try.prog W base spare held n' 3 (([d, e, f, g, i].drop 3).take (Try.prog.cellsOf 3)) = ms[3]? := hmf 3 _ rfl
  have u4 : DataW.trod enc Try.prog W base spare held n' 3 (([d, e, f, g, i].drop 4).take (Try.prog.cellsOf 3)) = ms[4]? := hmf 4 _ rfl
  rw [cellsInt, w0] at u0
  rw [cellsInt, w1] at u1
  rw [cellsInt, w2] at u2
  rw [cellsInt, w3] at u3
  rw [cellsInt, w4] at u4
  obtain ⟨q0, o0, _⟩ := DataW.trod_int Try.underlying3 u0
  obtain ⟨q1, o1, _⟩ := DataW.trod_int Try.underlying3 u1
  obtain ⟨q2, o2, _⟩ := DataW.trod_int Try.underlying3 u2
  obtain ⟨q3, o3, _⟩ := DataW.trod_int Try.underlying3 u3
  obtain ⟨q4, o4, _⟩ := DataW.trod_int Try.underlying3 u4
  simp only [List.drop_zero, List.drop_succ_cons, List.take_succ_cons, List.take_zero, List.cons.injEq, and_true] at r0 r1 r2 r4 r5 r6 o0 o1 o2 o3 o4
  subst r0 r1 r2 r4 r5 r6 o0 o1 o2 o3 o4
  exact ⟨⟨s0, s1, s2, q0, q1, q2, q3, q4, s4, s5, s6⟩, rfl⟩
set_option maxRecDepth 100000 in
/-- What a slice of entries that came in gives. -/
theorem open_ents {r : Reach} {b0 : Nat} {v : Value} {d : DataW H} {ps : List MemPlace}
    (hval : Value.okWide Try.prog W r b0 22 v) (h1 : DataW.Trod enc Try.prog W base spare held 22 v d ps) :
    ∃ (A : Option Addr) (n c : Nat) (L : List En), v = .slice A n c ∧ n ≤ c ∧ Sl 11 W A n (encEs L) := by
  obtain ⟨a1, len, cap, rfl⟩ := okWide_slice Try.underlying22 hval
  obtain ⟨fuel, hf⟩ := h1
  rcases open_slice Try.underlying22 hf with ⟨hcs, hx⟩ | ⟨a, len', cap', m, n, D, Pl, hcs, _, hl, hm, hmm, hx, hi⟩
  · simp [Value.cells] at hcs
    obtain ⟨rfl, rfl, rfl⟩ := hcs
    exact ⟨none, 0, 0, [], rfl, Nat.le_refl _, Sl.nil 11 W none⟩
  · simp [Value.cells] at hcs
    obtain ⟨rfl, rfl, rfl⟩ := hcs
    have hlm : len ≤ m := by rw [hmm]; split <;> omega
    have each : ∀ i, i < len → ∃ x : En, ∀ j v, (encE x)[j]? = some v → W.cell? (a.add (i * 11 + j)) = some v := by
      intro i him
      obtain ⟨cs', hc, ht'⟩ := hi i (by omega)
      rw [cellsEnt] at hc
      obtain ⟨x, rfl⟩ := ent_cells ht'
      obtain ⟨_, hcl, hat⟩ := World.cells?_some hc
      refine ⟨x, fun j v hj => ?_⟩
      have hjl : j < 11 := (List.getElem?_eq_some_iff.1 hj).1
      rw [← Go.Deep.add_add, hat j hjl, hj]
    obtain ⟨l, hll, hp⟩ := choose_lt' ⟨⟨#[]⟩, 0, 0, 0, 0, 0, 0, 0, ⟨#[]⟩, ⟨#[]⟩, 0⟩ each
    refine ⟨some a, len, cap, l, rfl, hl, ⟨by rw [encEs_len, hll], by unfold maxLen at hm; omega, ?_⟩⟩
    rcases Nat.eq_zero_or_pos len with h0 | h0
    · left
      obtain rfl : l = [] := List.eq_nil_of_length_eq_zero (by omega)
      rfl
    · right
      obtain ⟨ab, ao, spot⟩ := a
      have hspot : spot = none := by
        obtain ⟨x, hx⟩ := each 0 h0
        have := hx 0 _ rfl
        simpa [Addr.add] using World.cell?_spot this
      subst hspot
      refine ⟨ab, ao, rfl, fun j u hj => ?_⟩
      have hjl : j < l.length * 11 := by
        have := (List.getElem?_eq_some_iff.1 hj).1
        rw [encEs_len] at this; omega
      have hq : j / 11 < l.length := by omega
      have hx := List.getElem?_eq_getElem hq
      have hr : (encE (l[j / 11]'hq))[j % 11]? = some ((encE (l[j / 11]'hq))[j % 11]'(by rw [show (encE (l[j / 11]'hq)).length = 11 from rfl]; omega)) := List.getElem?_eq_getElem _
      have h2 := encEs_at hx _ _ hr
      have e : j / 11 * 11 + j % 11 = j := by omega
      rw [e] at h2
      rw [h2] at hj
      cases hj
      have := hp _ _ hx _ _ hr
      rw [Addr.add_lit, e] at this
      exact this
set_option maxRecDepth 100000 in
/-- What a slice of rules that came in gives. -/
theorem open_rules {r : Reach} {b0 B : Nat} {v : Value} {d : DataW H} {ps : List MemPlace}
    (hval : Value.okWide Try.prog W r b0 23 v) (h1 : DataW.Trod enc Try.prog W base spare held 23 v d ps) (hB : ∀ k ∈ d.weights Try.prog 23, k ≤ B) :
    ∃ (A : Option Addr) (n c : Nat) (L : List Ru), v = .slice A n c ∧ n ≤ c ∧ Sl 4 W A n (encUs L) ∧ ∀ r ∈ L, r.pat.size ≤ B := by
  obtain ⟨a1, len, cap, rfl⟩ := okWide_slice Try.underlying23 hval
  obtain ⟨fuel, hf⟩ := h1
  rcases open_slice_fields Try.underlying23 Try.underlying48 (by kernel_rfl) (by kernel_rfl) hf with ⟨hcs, hx⟩ | ⟨a, len', cap', m, D, Pl, hcs, _, hl, hm, hmm, hx, hi⟩
  · simp [Value.cells] at hcs
    obtain ⟨rfl, rfl, rfl⟩ := hcs
    exact ⟨none, 0, 0, [], rfl, Nat.le_refl _, Sl.nil 4 W none, by simp⟩
  · simp [Value.cells] at hcs
    obtain ⟨rfl, rfl, rfl⟩ := hcs
    have hlm : len ≤ m := by rw [hmm]; split <;> omega
    have hd : d = .slice ((List.range len).map D) ((List.range (m - len)).map fun j => D (len + j)) := congrArg Prod.fst hx
    have hw : ∀ k, k ∈ DataW.weightsAll Try.prog 48 ((List.range len).map D) → k ≤ B := by
      intro k hk
      refine hB k ?_
      rw [hd]
      simp only [DataW.weights, Try.underlying23, List.mem_cons, List.mem_append]
      exact .inr (.inl hk)
    have each : ∀ i, i < len → ∃ x : Ru, (∀ j v, (encU x)[j]? = some v → W.cell? (a.add (i * 4 + j)) = some v) ∧ x.pat.size ≤ B := by
      intro i him
      obtain ⟨ys, n, hDi, _, hyl, hfld⟩ := hi i (by omega)
      obtain ⟨v0, y0, c0, _, t0⟩ := hfld 0 _ rfl
      obtain ⟨v1, y1, c1, e1, t1⟩ := hfld 1 _ rfl
      obtain ⟨v2, y2, c2, _, t2⟩ := hfld 2 _ rfl
      obtain ⟨v3, y3, c3, _, t3⟩ := hfld 3 _ rfl
      obtain ⟨s0, r0, _⟩ := DataW.trod_int Try.underlying3 t0
      obtain ⟨s1, r1, hy1, _⟩ := DataW.trod_string Try.underlying9 t1
      obtain ⟨s2, r2, _⟩ := DataW.trod_bool Try.underlying4 t2
      obtain ⟨s3, r3, _⟩ := DataW.trod_bool Try.underlying4 t3
      simp only [List.cons.injEq, and_true] at r0 r1 r2 r3
      subst r0 r1 r2 r3
      refine ⟨⟨s0, s1, s2, s3⟩, fun j v hj => ?_, ?_⟩
      · have hjl : j < 4 := (List.getElem?_eq_some_iff.1 hj).1
        have hc : j = 0 ∨ j = 1 ∨ j = 2 ∨ j = 3 := by omega
        rcases hc with rfl | rfl | rfl | rfl
        · cases hj; exact c0
        · cases hj; exact c1
        · cases hj; exact c2
        · cases hj; exact c3
      · have hk : s1.data.toList.length ≤ B := by
          refine hw _ (weightsAll_mem (List.mem_map_of_mem (f := D) (List.mem_range.2 him)) _ ?_)
          rw [hDi]
          unfold DataW.weights
          rw [Try.underlying48]
          refine DataW.weights_mem_each (j := 1) (t := 9) (d := y1.1) rfl (by rw [List.getElem?_map, e1]; rfl) _ ?_
          rw [hy1]
          simp [DataW.weights]
        rwa [Array.length_toList] at hk
    obtain ⟨l, hll, hp⟩ := choose_lt' ⟨0, ⟨#[]⟩, false, false⟩ each
    refine ⟨some a, len, cap, l, rfl, hl, ⟨by rw [encUs_len, hll], by unfold maxLen at hm; omega, ?_⟩, fun r hr => ?_⟩
    · rcases Nat.eq_zero_or_pos len with h0 | h0
      · left
        obtain rfl : l = [] := List.eq_nil_of_length_eq_zero (by omega)
        rfl
      · right
        obtain ⟨ab, ao, spot⟩ := a
        have hspot : spot = none := by
          obtain ⟨x, hx, _⟩ := each 0 h0
          have := hx 0 _ rfl
          simpa [Addr.add] using World.cell?_spot this
        subst hspot
        refine ⟨ab, ao, rfl, fun j u hj => ?_⟩
        have hjl : j < l.length * 4 := by
          have := (List.getElem?_eq_some_iff.1 hj).1
          rw [encUs_len] at this; omega
        have hq : j / 4 < l.length := by omega
        have hx := List.getElem?_eq_getElem hq
        have hr : (encU (l[j / 4]'hq))[j % 4]? = some ((encU (l[j / 4]'hq))[j % 4]'(by rw [show (encU (l[j / 4]'hq)).length = 4 from rfl]; omega)) := List.getElem?_eq_getElem _
        have h2 := encUs_at hx _ _ hr
        have e : j / 4 * 4 + j % 4 = j := by omega
        rw [e] at h2
        rw [h2] at hj
        cases hj
        have := (hp _ _ hx).1 _ _ hr
        rw [Addr.add_lit, e] at this
        exact this
    · obtain ⟨i, hi⟩ := List.getElem?_of_mem hr
      exact (hp i r hi).2
end
end Go.Proofs.Ytcagonpnjionhaa
