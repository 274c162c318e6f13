import Derived.Test.YtlbbehfbjbbckaaGreatDoorQk
import Derived.Test.YtlbbehfbjbbckaaGreatDoorQg
import Derived.OpenShut
import Derived.JoinedCond
import Derived.Deep.Slices
import Derived.Deep.Fields
import Derived.ChangeSame
import Derived.ChangeMaps5
import Derived.SizedLaws
import Derived.LaidLaws
import Derived.LaidMore
import Derived.Stop.Joined
import Derived.Lib.SmallJoins
import Derived.Test.YtlbbehfbjbbckaaGreatDoorQj
import Derived.Test.YtlbbehfbjbbckaaGreatDoorQa
import Derived.Test.YtlbbehfbjbbckaaGreatDoorQb
/-! What a slice of acts that came in gives. -/
set_option linter.unusedVariables false
set_option linter.unusedSimpArgs false
namespace Go.Proofs.YtlbbehfbjbbckaaGreatDoor
open Go.ChangeShapes Go.WideShapes Go.ChangeAt Go.RowKit Go.Deep

theorem choose_lt' {α : Type} {p : Nat → α → Prop} {n : Nat} (d : α) (h : ∀ i, i < n → ∃ x, p i x) : ∃ l : List α, l.length = n ∧ ∀ i x, l[i]? = some x → p i x := by
  induction n with
  | zero => exact ⟨[], rfl, by simp⟩
  | succ n ih =>
    obtain ⟨l, hl, hp⟩ := ih fun i hi => h i (by omega)
    obtain ⟨x, hx⟩ := h n (by omega)
    refine ⟨l ++ [x], by simp [hl], fun i y hy => ?_⟩
    rcases Nat.lt_or_ge i l.length with hi | hi
    · rw [List.getElem?_append_left hi] at hy; exact hp i y hy
    · rw [List.getElem?_append_right hi] at hy
      rcases hz : i - l.length with _ | k
      · rw [hz] at hy
        simp at hy
        obtain rfl : i = n := by omega
        rw [← hy]; exact hx
      · rw [hz] at hy; simp at hy

section
variable {H : Type} {enc : TypeId × Value → H} {P : Program} {W : World} {base : Nat} {spare : Nat → Bool} {held : Bool}
/-- What a slice of bytes that came in gives. -/
theorem bs_of_trod {T E : TypeId} {v : Value} {fuel : Nat} {x : DataW H × List MemPlace} (ht : P.underlying T = some (.slice E)) (he : P.underlying E = some (.int .u8)) (hc : P.cellsOf E = 1)
    (hf : DataW.trod enc P W base spare held fuel T [v] = some x) :
    ∃ (A : Option Addr) (n c : Nat) (bs : List UInt8), v = .slice A n c ∧ n ≤ c ∧ Sl 1 W A n (bys bs) := by
  rcases open_ints ht he hc hf with ⟨hcs, hx⟩ | ⟨a, len, cap, zs, hcs, _, hl, hm, hz, hx, hcell, hwz⟩
  · simp at hcs
    exact ⟨none, 0, 0, [], hcs, Nat.le_refl _, Sl.nil 1 W none⟩
  · simp at hcs
    have hzl : len ≤ zs.length := by rw [hz]; split <;> omega
    refine ⟨some a, len, cap, (zs.take len).map fun n => UInt8.ofNat n.toNat, hcs, hl, ⟨by simp [bys]; omega, by unfold maxLen at hm; omega, ?_⟩⟩
    · rcases Nat.eq_zero_or_pos len with h0 | h0
      · left; subst h0; simp [bys]
      · right
        obtain ⟨ab, ao, spot⟩ := a
        have hspot : spot = none := by simpa [Addr.add] using World.cell?_spot (hcell 0 (by omega))
        subst hspot
        refine ⟨ab, ao, rfl, fun j u hj => ?_⟩
        have hjl : j < len := by
          have := (List.getElem?_eq_some_iff.1 hj).1
          simp [bys] at this; omega
        have hcj := hcell j (by omega)
        rw [Addr.add_lit] at hcj
        rw [hcj]
        have hb := range_u8 hwz j
        have e : zs.getD j 0 = zs[j]'(by omega) := by simp [List.getD, List.getElem?_eq_getElem (show j < zs.length by omega)]
        have e2 : zs[j]?.getD 0 = zs[j]'(by omega) := by rw [List.getElem?_eq_getElem (show j < zs.length by omega)]; rfl
        rw [e2] at hb
        rw [e]
        simp [bys, List.getElem?_take, hjl, List.getElem?_eq_getElem (show j < zs.length by omega)] at hj
        rw [← hj]
        simp only [bv, UInt8.toNat_ofNat']
        congr 2
        omega
end
section
variable {H : Type} {enc : TypeId × Value → H} {W : World} {base : Nat} {spare : Nat → Bool} {held : Bool}
theorem cellsStr : Tryz.prog.cellsOf 9 = 1 := by kernel_rfl
theorem cellsInt : Tryz.prog.cellsOf 3 = 1 := by kernel_rfl
theorem cellsMeta : Tryz.prog.cellsOf 53 = 5 := by kernel_rfl
theorem cellsBs : Tryz.prog.cellsOf 36 = 1 := by kernel_rfl
theorem cellsU8 : Tryz.prog.cellsOf 5 = 1 := by kernel_rfl
theorem cellsAct : Tryz.prog.cellsOf 70 = 9 := by kernel_rfl
theorem some_at {α : Type} {l : List α} {n : Nat} (hl : l.length = n) {i : Nat} (hi : i < n) : ∃ y, l[i]? = some y := ⟨_, List.getElem?_eq_getElem (by omega)⟩
theorem list9 {α : Type} {l : List α} (h : l.length = 9) : ∃ a b c d e f g i j, l = [a, b, c, d, e, f, g, i, j] := by
  rcases l with _ | ⟨a, l⟩; · simp at h
  rcases l with _ | ⟨b, l⟩; · simp at h
  rcases l with _ | ⟨c, l⟩; · simp at h
  rcases l with _ | ⟨d, l⟩; · simp at h
  rcases l with _ | ⟨e, l⟩; · simp at h
  rcases l with _ | ⟨f, l⟩; · simp at h
  rcases l with _ | ⟨g, l⟩; · simp at h
  rcases l with _ | ⟨i, l⟩; · simp at h
  rcases l with _ | ⟨j, l⟩; · simp at h
  rcases l with _ | ⟨q, l⟩
  · exact ⟨a, b, c, d, e, f, g, i, j, rfl⟩
  · simp at h
set_option maxRecDepth 100000 in
/-- What an act's cells are. -/
theorem ac_cells {fuel : Nat} {cs : List Value} {x : DataW H × List MemPlace} (h : DataW.trod enc Tryz.prog W base spare held fuel 70 cs = some x) : ∃ a : Ac, cs = encA a ∧ Sl 1 W a.dA a.dn (bys a.data) := by
  obtain ⟨xs, n, hn, hx, hl, hxl, hf⟩ := DataW.trod_struct Tryz.underlying70 h
  rw [cellsAct] at hl
  obtain ⟨a, b, c, d, e, f, g, i, j, rfl⟩ := list9 hl
  have hxl : xs.length = 5 := hxl
  obtain ⟨y0, z0⟩ := some_at hxl (i := 0) (by omega)
  obtain ⟨y1, z1⟩ := some_at hxl (i := 1) (by omega)
  obtain ⟨y2, z2⟩ := some_at hxl (i := 2) (by omega)
  obtain ⟨y3, z3⟩ := some_at hxl (i := 3) (by omega)
  obtain ⟨y4, z4⟩ := some_at hxl (i := 4) (by omega)
  have t0 : DataW.trod enc Tryz.prog W base spare held n 3 (([a, b, c, d, e, f, g, i, j].drop 0).take (Tryz.prog.cellsOf 3)) = xs[0]? := hf 0 _ rfl
  have t1 : DataW.trod enc Tryz.prog W base spare held n 9 (([a, b, c, d, e, f, g, i, j].drop 1).take (Tryz.prog.cellsOf 9)) = xs[1]? := hf 1 _ rfl
  have t2 : DataW.trod enc Tryz.prog W base spare held n 9 (([a, b, c, d, e, f, g, i, j].drop 2).take (Tryz.prog.cellsOf 9)) = xs[2]? := hf 2 _ rfl
  have t3 : DataW.trod enc Tryz.prog W base spare held n 36 (([a, b, c, d, e, f, g, i, j].drop 3).take (Tryz.prog.cellsOf 36)) = xs[3]? := hf 3 _ rfl
  have t4 : DataW.trod enc Tryz.prog W base spare held n 53 (([a, b, c, d, e, f, g, i, j].drop 4).take (Tryz.prog.cellsOf 53)) = xs[4]? := hf 4 _ rfl
  rw [cellsInt, z0] at t0
  rw [cellsStr, z1] at t1
  rw [cellsStr, z2] at t2
  rw [cellsBs, z3] at t3
  rw [cellsMeta, z4] at t4
  obtain ⟨s0, r0, _⟩ := DataW.trod_int Tryz.underlying3 t0
  obtain ⟨s1, r1, _⟩ := DataW.trod_string Tryz.underlying9 t1
  obtain ⟨s2, r2, _⟩ := DataW.trod_string Tryz.underlying9 t2
  have t3 : DataW.trod enc Tryz.prog W base spare held n 36 [d] = some y3 := t3
  obtain ⟨dA, dn, dc, bs, r3, _, hbs⟩ := bs_of_trod Tryz.underlying36 Tryz.underlying5 cellsU8 t3
  have t4 : DataW.trod enc Tryz.prog W base spare held n 53 [e, f, g, i, j] = some y4 := t4
  obtain ⟨ms, n', _, _, _, hml, hmf⟩ := DataW.trod_struct Tryz.underlying53 t4
  have hml : ms.length = 5 := hml
  obtain ⟨v0, w0⟩ := some_at hml (i := 0) (by omega)
  obtain ⟨v1, w1⟩ := some_at hml (i := 1) (by omega)
  obtain ⟨v2, w2⟩ := some_at hml (i := 2) (by omega)
  obtain ⟨v3, w3⟩ := some_at hml (i := 3) (by omega)
  obtain ⟨v4, w4⟩ := some_at hml (i := 4) (by omega)
  have u0 : DataW.trod enc Tryz.prog W base spare held n' 3 (([e, f, g, i, j].drop 0).take (Tryz.prog.cellsOf 3)) = ms[0]? := hmf 0 _ rfl
  have u1 : DataW.trod enc Tryz.prog W base spare held n' 3 (([e, f, g, i, j].drop 1).take (Tryz.prog.cellsOf 3)) = ms[1]? := hmf 1 _ rfl
  have u2 : DataW.trod enc Tryz.prog W base spare held n' 3 (([e, f, g, i, j].drop 2).take (Tryz.prog.cellsOf 3)) = ms[2]? := hmf 2 _ rfl
  have u3 : DataW.trod enc Tryz.prog W base spare held n' 3 (([e, f, g, i, j].drop 3).take (Tryz.prog.cellsOf 3)) = ms[3]? := hmf 3 _ rfl
  have u4 : DataW.trod enc Tryz.prog W base spare held n' 3 (([e, f, g, i, j].drop 4).take (Tryz.prog.cellsOf 3)) = ms[4]? := hmf 4 _ rfl
  rw [cellsInt, w0] at u0
  rw [cellsInt, w1] at u1
  rw [cellsInt, w2] at u2
  rw [cellsInt, w3] at u3
  rw [cellsInt, w4] at u4
  obtain ⟨m0, q0, _⟩ := DataW.trod_int Tryz.underlying3 u0
  obtain ⟨m1, q1, _⟩ := DataW.trod_int Tryz.underlying3 u1
  obtain ⟨m2, q2, _⟩ := DataW.trod_int Tryz.underlying3 u2
  obtain ⟨m3, q3, _⟩ := DataW.trod_int Tryz.underlying3 u3
  obtain ⟨m4, q4, _⟩ := DataW.trod_int Tryz.underlying3 u4
  simp only [List.drop_zero, List.drop_succ_cons, List.take_succ_cons, List.take_zero, List.cons.injEq, and_true] at r0 r1 r2 q0 q1 q2 q3 q4
  subst r0 r1 r2 r3 q0 q1 q2 q3 q4
  exact ⟨⟨s0, s1, s2, dA, dn, dc, bs, ⟨m0, m1, m2, m3, m4⟩⟩, rfl, hbs⟩
set_option maxRecDepth 100000 in
theorem open_acts {r : Reach} {b0 : Nat} {v : Value} {d : DataW H} {ps : List MemPlace}
    (hval : Value.okWide Tryz.prog W r b0 22 v) (h1 : DataW.Trod enc Tryz.prog W base spare held 22 v d ps) :
    ∃ (A : Option Addr) (n c : Nat) (L : List Ac), v = .slice A n c ∧ n ≤ c ∧ ActsAt W A n L := by
  obtain ⟨a1, len, cap, rfl⟩ := okWide_slice Tryz.underlying22 hval
  obtain ⟨fuel, hf⟩ := h1
  rcases open_slice Tryz.underlying22 hf with ⟨hcs, hx⟩ | ⟨a, len', cap', m, n, D, Pl, hcs, _, hl, hm, hmm, hx, hi⟩
  · simp [Value.cells] at hcs
    obtain ⟨rfl, rfl, rfl⟩ := hcs
    exact ⟨none, 0, 0, [], rfl, Nat.le_refl _, Sl.nil 9 W none, fun a ha => by cases ha⟩
  · simp [Value.cells] at hcs
    obtain ⟨rfl, rfl, rfl⟩ := hcs
    have hlm : len ≤ m := by rw [hmm]; split <;> omega
    have each : ∀ i, i < len → ∃ x : Ac, (∀ j v, (encA x)[j]? = some v → W.cell? (a.add (i * 9 + j)) = some v) ∧ Sl 1 W x.dA x.dn (bys x.data) := by
      intro i him
      obtain ⟨cs', hc, ht'⟩ := hi i (by omega)
      rw [cellsAct] at hc
      obtain ⟨x, rfl, hsl⟩ := ac_cells ht'
      obtain ⟨_, hcl, hat⟩ := World.cells?_some hc
      refine ⟨x, fun j v hj => ?_, hsl⟩
      have hjl : j < 9 := (List.getElem?_eq_some_iff.1 hj).1
      rw [← Go.Deep.add_add, hat j hjl, hj]
    obtain ⟨l, hll, hp⟩ := choose_lt' ⟨0, ⟨#[]⟩, ⟨#[]⟩, none, 0, 0, [], ⟨0, 0, 0, 0, 0⟩⟩ each
    refine ⟨some a, len, cap, l, rfl, hl, ⟨by rw [encAs_len, hll], by unfold maxLen at hm; omega, ?_⟩, fun x hx => ?_⟩
    · rcases Nat.eq_zero_or_pos len with h0 | h0
      · left
        obtain rfl : l = [] := List.eq_nil_of_length_eq_zero (by omega)
        rfl
      · right
        obtain ⟨ab, ao, spot⟩ := a
        have hspot : spot = none := by
          obtain ⟨x, hx, _⟩ := each 0 h0
          have := hx 0 _ rfl
          simpa [Addr.add] using World.cell?_spot this
        subst hspot
        refine ⟨ab, ao, rfl, fun j u hj => ?_⟩
        have hjl : j < l.length * 9 := by
          have := (List.getElem?_eq_some_iff.1 hj).1
          rw [encAs_len] at this; omega
        have hq : j / 9 < l.length := by omega
        have hx := List.getElem?_eq_getElem hq
        have hr : (encA (l[j / 9]'hq))[j % 9]? = some ((encA (l[j / 9]'hq))[j % 9]'(by rw [show (encA (l[j / 9]'hq)).length = 9 from rfl]; omega)) := List.getElem?_eq_getElem _
        have h2 := encAs_at hx _ _ hr
        have e : j / 9 * 9 + j % 9 = j := by omega
        rw [e] at h2
        rw [h2] at hj
        cases hj
        have := (hp _ _ hx).1 _ _ hr
        rw [Addr.add_lit, e] at this
        exact this
    · obtain ⟨i, hi⟩ := List.getElem?_of_mem hx
      exact (hp i x hi).2
end
end Go.Proofs.YtlbbehfbjbbckaaGreatDoor

/-! The document's tree in memory: a list of names, and things that they lead to. -/
set_option linter.unusedVariables false
set_option linter.unusedSimpArgs false
namespace Go.Proofs.YtlbbehfbjbbckaaGreatDoor
open Go.RowKit

def ptrB (j : Nat) : Value := .pointer (some ⟨j, 0, none⟩)
/-- A name of the document's tree: its path, the block of what it leads to. -/
def encD (B : Int → Nat) (x : List UInt8 × Int) : List Value := [.string (str x.1), ptrB (B x.2)]
def encDs (B : Int → Nat) (l : List (List UInt8 × Int)) : List Value := l.flatMap (encD B)
/-- Where a thing's bytes lie. -/
structure Dt where
  dA : Option Addr
  dn : Nat
  dc : Nat
def encH (i : Int) (x : Th) (d : Dt) : List Value := [.int .i64 x.kind, .int .i64 i, .slice d.dA d.dn d.dc, .string x.target, .int .i64 x.mt.m0, .int .i64 x.mt.m1, .int .i64 x.mt.m2, .int .i64 x.mt.m3, .int .i64 x.mt.m4]
theorem encDs_cons (B : Int → Nat) (x : List UInt8 × Int) (l : List (List UInt8 × Int)) : encDs B (x :: l) = [.string (str x.1), ptrB (B x.2)] ++ encDs B l := rfl
theorem encDs_app (B : Int → Nat) (a b : List (List UInt8 × Int)) : encDs B (a ++ b) = encDs B a ++ encDs B b := by unfold encDs; rw [List.flatMap_append]
theorem encDs_len (B : Int → Nat) : ∀ l, (encDs B l).length = l.length * 2
  | [] => rfl
  | x :: l => by
    rw [encDs_cons, List.length_append, encDs_len B l]
    show 2 + l.length * 2 = (l.length + 1) * 2
    omega
theorem encDs_at (B : Int → Nat) : ∀ {L : List (List UInt8 × Int)} {i : Nat} {x : List UInt8 × Int}, L[i]? = some x → ∀ j v, (encD B x)[j]? = some v → (encDs B L)[i * 2 + j]? = some v
  | [], _, _, h, _, _, _ => by simp at h
  | a :: L, 0, x, h, j, v, hj => by
    simp only [List.getElem?_cons_zero, Option.some.injEq] at h
    subst h
    have hl : j < (encD B a).length := (List.getElem?_eq_some_iff.1 hj).1
    rw [encDs, List.flatMap_cons, List.getElem?_append_left (by omega)]
    rw [show 0 * 2 + j = j by omega]; exact hj
  | a :: L, i+1, x, h, j, v, hj => by
    simp only [List.getElem?_cons_succ] at h
    have hl : (encD B a).length = 2 := rfl
    rw [encDs, List.flatMap_cons, List.getElem?_append_right (by rw [hl]; omega)]
    rw [show (i + 1) * 2 + j - (encD B a).length = i * 2 + j by rw [hl]; omega]
    exact encDs_at B h j v hj
theorem encDs_congr {B B' : Int → Nat} : ∀ {l : List (List UInt8 × Int)}, (∀ x ∈ l, B' x.2 = B x.2) → encDs B' l = encDs B l
  | [], _ => rfl
  | x :: l, h => by
    rw [encDs_cons, encDs_cons, h x (List.mem_cons_self ..), encDs_congr (fun y hy => h y (List.mem_cons_of_mem _ hy))]
theorem row_heap {w w' : World} {base : Nat} {e : TypeId} {sz : Nat} {v : Value} {n : Nat} {xs : List Value} (h : w.ownsRow base e sz v n xs) (hk : ∀ b, v.ownBlock = some b → w'.heap[b]? = w.heap[b]?) : w'.ownsRow base e sz v n xs := by
  obtain ⟨h1, h2⟩ := h
  refine ⟨h1, ?_⟩
  rcases h2 with h2 | ⟨g, cap, cur, rfl, hg, hh, h3⟩
  · exact .inl h2
  · exact .inr ⟨g, cap, cur, rfl, hg, (hk g rfl).trans hh, h3⟩
theorem row_lt {w : World} {base : Nat} {e : TypeId} {sz : Nat} {v : Value} {n : Nat} {xs : List Value} (h : w.ownsRow base e sz v n xs) {b : Nat} (hb : v.ownBlock = some b) : base ≤ b ∧ b < w.heap.size := by
  obtain ⟨h1, h2⟩ := h
  rcases h2 with ⟨rfl, _⟩ | ⟨g, cap, cur, rfl, hg, hh, h3⟩
  · cases hb
  · cases hb; exact ⟨hg, (Array.getElem?_eq_some_iff.1 hh).1⟩
/-- A row that is opened: its cells, and what a store does. -/
theorem row_at {w : World} {base : Nat} {e : TypeId} {sz : Nat} {v : Value} {n : Nat} {xs : List Value} (h : w.ownsRow base e sz v n xs) (hn : 0 < n) :
    ∃ g cap cs, v = .slice (some ⟨g, 0, none⟩) n cap ∧ n ≤ cap ∧ cap ≤ 9223372036854775807 ∧ base ≤ g ∧ Blk w g e cs ∧ (∀ j x, xs[j]? = some x → w.cell? ⟨g, j, none⟩ = some x) ∧ cs.take (n * sz) = xs ∧ cs.length = cap * sz := by
  obtain ⟨h1, h2⟩ := h
  rcases h2 with ⟨_, rfl⟩ | ⟨g, cap, cur, rfl, hg, hh, h3, h4, h5, h6⟩
  · omega
  · have hB : Blk w g e cur.toList := by unfold Blk; rw [Array.toArray_toList]; exact hh
    refine ⟨g, cap, cur.toList, rfl, h3, h4, hg, hB, fun j x hj => ?_, h6, by simpa using h5⟩
    rw [hB.cell j]
    rw [← h6, List.getElem?_take] at hj
    split at hj
    · exact hj
    · cases hj
/-- At t lies the document's tree that is S: its list v, each thing's block B and bytes D. -/
structure DocAt (w : World) (t : Nat) (v : Value) (S : St) (B : Int → Nat) (D : Int → Dt) : Prop where
  tree : Blk w t 132 [v, .int .i64 S.next]
  row : w.ownsRow 0 129 2 v S.ls.length (encDs B S.ls)
  node : ∀ x ∈ S.ls, Blk w (B x.2) 126 (encH x.2 (S.th x.2) (D x.2))
  data : ∀ x ∈ S.ls, Sl 1 w (D x.2).dA (D x.2).dn (bys (S.th x.2).data) ∧ ∀ a, (D x.2).dA = some a → ∃ cs, w.heap[a.block]? = some (.cells cs 5 (0, 0))
  inj : ∀ x ∈ S.ls, ∀ y ∈ S.ls, B x.2 = B y.2 → x.2 = y.2
/-- The blocks that it holds. -/
def heldD (v : Value) (S : St) (B : Int → Nat) (D : Int → Dt) (k : Nat) : Prop := v.ownBlock = some k ∨ (∃ x ∈ S.ls, B x.2 = k) ∨ ∃ x ∈ S.ls, ∃ a, (D x.2).dA = some a ∧ a.block = k
theorem DocAt.heap {w w' : World} {t : Nat} {v : Value} {S : St} {B : Int → Nat} {D : Int → Dt} (h : DocAt w t v S B D) (hh : ∀ k, k = t ∨ heldD v S B D k → w'.heap[k]? = w.heap[k]?) : DocAt w' t v S B D :=
  ⟨h.tree.heap (hh t (.inl rfl)), row_heap h.row (fun b hb => hh b (.inr (.inl hb))), fun x hx => (h.node x hx).heap (hh _ (.inr (.inr (.inl ⟨x, hx, rfl⟩)))),
    fun x hx => ⟨(h.data x hx).1.heap1 (fun a ha => hh _ (.inr (.inr (.inr ⟨x, hx, a, ha, rfl⟩)))), fun a ha => by
      obtain ⟨cs, hc⟩ := (h.data x hx).2 a ha
      exact ⟨cs, (hh _ (.inr (.inr (.inr ⟨x, hx, a, ha, rfl⟩)))).trans hc⟩⟩, h.inj⟩
theorem heldD_lt {w : World} {t : Nat} {v : Value} {S : St} {B : Int → Nat} {D : Int → Dt} (h : DocAt w t v S B D) : ∀ k, k = t ∨ heldD v S B D k → k < w.heap.size := by
  rintro k (rfl | hk | ⟨x, hx, rfl⟩ | ⟨x, hx, a, ha, rfl⟩)
  · exact h.tree.lt
  · exact (row_lt h.row hk).2
  · exact (h.node x hx).lt
  · obtain ⟨cs, hc⟩ := (h.data x hx).2 a ha
    exact (Array.getElem?_eq_some_iff.1 hc).1
theorem DocAt.below {w w' : World} {t : Nat} {v : Value} {S : St} {B : Int → Nat} {D : Int → Dt} (h : DocAt w t v S B D) (hb : Below w.heap.size w w') : DocAt w' t v S B D := h.heap (fun k hk => hb.block k (heldD_lt h k hk))
def TopS (S : St) : Prop := S.ls[0]? = some ([], 1)
/-- At t lies the document's tree that is S; it owns the blocks O. -/
def DocS (w : World) (t : Nat) (S : St) (O : Nat → Prop) : Prop := ∃ v B D, DocAt w t v S B D ∧ OkS S ∧ TopS S ∧ ∀ k, k = t ∨ heldD v S B D k → O k
theorem DocS.ok {w : World} {t : Nat} {S : St} {O : Nat → Prop} (h : DocS w t S O) : OkS S := by obtain ⟨_, _, _, _, h, _⟩ := h; exact h
theorem DocS.keep {w w' : World} {t : Nat} {S : St} {O P : Nat → Prop} (h : DocS w t S O) (hw : Only P w w') (hd : ∀ k, O k → ¬ P k) : DocS w' t S O := by
  obtain ⟨v, B, D, h1, h2, h3, h4⟩ := h
  exact ⟨v, B, D, h1.heap (fun k hk => hw.block k (heldD_lt h1 k hk) (hd k (h4 k hk))), h2, h3, h4⟩
theorem DocS.below {w w' : World} {t : Nat} {S : St} {O : Nat → Prop} (h : DocS w t S O) (hb : Below w.heap.size w w') : DocS w' t S O := by
  obtain ⟨v, B, D, h1, h2⟩ := h
  exact ⟨v, B, D, h1.below hb, h2⟩
theorem DocS.mono {w : World} {t : Nat} {S : St} {O O' : Nat → Prop} (h : DocS w t S O) (ho : ∀ k, O k → O' k) : DocS w t S O' := by
  obtain ⟨v, B, D, h1, h2, h3, h4⟩ := h
  exact ⟨v, B, D, h1, h2, h3, fun k hk => ho k (h4 k hk)⟩
/-- What an act leaves. -/
def DocPost (w w' : World) (t : Nat) (S' : St) (O : Nat → Prop) : Prop := ∃ O', DocS w' t S' O' ∧ Only O w w' ∧ ∀ k, O' k → O k ∨ w.heap.size ≤ k
theorem doc_same {w w' : World} {t : Nat} {S : St} {O : Nat → Prop} (h : DocS w t S O) (hb : Below w.heap.size w w') : DocPost w w' t S O := ⟨O, h.below hb, Only.of hb, fun k hk => .inl hk⟩
theorem doc_from {w wa w' : World} {t : Nat} {S : St} {O : Nat → Prop} (hb : Below w.heap.size w wa) (h : DocPost wa w' t S O) : DocPost w w' t S O := by
  obtain ⟨O', h1, h2, h3⟩ := h
  exact ⟨O', h1, (Only.of hb).trans h2, fun k hk => (h3 k hk).imp id (fun g => Nat.le_trans hb.size g)⟩
theorem TopS.pos {S : St} (h : TopS S) : 0 < S.ls.length := (List.getElem?_eq_some_iff.1 h).1
/-- The list of names, opened. -/
theorem DocAt.list {w : World} {t : Nat} {v : Value} {S : St} {B : Int → Nat} {D : Int → Dt} (h : DocAt w t v S B D) (ht : TopS S) :
    ∃ g cap, v = .slice (some ⟨g, 0, none⟩) S.ls.length cap ∧ S.ls.length ≤ cap ∧ cap ≤ 9223372036854775807 ∧ ∀ w', Below w.heap.size w w' → w'.cell? ⟨t, 0, none⟩ = some (.slice (some ⟨g, 0, none⟩) S.ls.length cap) ∧ w'.cell? ⟨t, 1, none⟩ = some (.int .i64 S.next) ∧
      ∀ i x, S.ls[i]? = some x → w'.cell? ⟨g, i * 2, none⟩ = some (.string (str x.1)) ∧ w'.cell? ⟨g, i * 2 + 1, none⟩ = some (ptrB (B x.2)) ∧ Blk w' (B x.2) 126 (encH x.2 (S.th x.2) (D x.2)) := by
  obtain ⟨g, cap, cs, rfl, h1, h2, _, hB, h3, _, _⟩ := row_at h.row ht.pos
  refine ⟨g, cap, rfl, h1, h2, fun w' hb => ⟨?_, ?_, fun i x hx => ⟨?_, ?_, ?_⟩⟩⟩
  · exact (h.tree.below hb).cell 0
  · exact (h.tree.below hb).cell 1
  · have := h3 _ _ (encDs_at B hx 0 _ rfl)
    rw [Nat.add_zero] at this
    exact (World.cell?_of_block (a := ⟨g, i * 2, none⟩) (hb.block _ hB.lt)).trans this
  · exact (World.cell?_of_block (a := ⟨g, i * 2 + 1, none⟩) (hb.block _ hB.lt)).trans (h3 _ _ (encDs_at B hx 1 _ rfl))
  · exact (h.node x (List.mem_of_getElem? hx)).below hb
def AtP (S : St) (p : List UInt8) (r : Int) : Prop := (r = -1 ∧ S.at p = none) ∨ ∃ i x, r = ((i : Nat) : Int) ∧ S.ls[i]? = some x ∧ x.1 = p ∧ S.at p = some x.2
theorem at_none {S : St} {p : List UInt8} (h : ∀ x ∈ S.ls, x.1 ≠ p) : S.at p = none := by
  unfold St.at
  cases hl : S.ls.lookup p with
  | none => rfl
  | some i => exact absurd rfl (h _ (lookup_mem hl))
theorem OkS.at_get {S : St} (h : OkS S) {i : Nat} {x : List UInt8 × Int} (hx : S.ls[i]? = some x) : S.at x.1 = some x.2 := (h.at_iff _ _).2 (List.mem_of_getElem? hx)
end Go.Proofs.YtlbbehfbjbbckaaGreatDoor

/-! The document's tree, plainly: its list when a name goes, or moves. -/
set_option linter.unusedVariables false
set_option linter.unusedSimpArgs false
namespace Go.Proofs.YtlbbehfbjbbckaaGreatDoor
open Go.RowKit

theorem get_top {l l' : List (List UInt8 × Int)} (h : l[0]? = some ([], 1)) : (l ++ l')[0]? = some ([], 1) := by
  rw [List.getElem?_append_left (List.getElem?_eq_some_iff.1 h).1]; exact h
theorem TopS.add {S : St} (h : TopS S) (p : List UInt8) (t : Th) : TopS (S.add p t) := get_top h
theorem TopS.link {S : St} (h : TopS S) (p : List UInt8) (i : Int) : TopS { S with ls := S.ls ++ [(p, i)] } := get_top h
theorem TopS.cons {S : St} (h : TopS S) : ∃ r, S.ls = ([], 1) :: r := by
  unfold TopS at h
  cases hl : S.ls with
  | nil => rw [hl] at h; simp at h
  | cons x r => rw [hl] at h; simp only [List.getElem?_cons_zero, Option.some.injEq] at h; exact ⟨r, by rw [h]⟩
theorem TopS.gone {S : St} (h : TopS S) {p : List UInt8} (hp : p ≠ []) : TopS { S with ls := S.ls.filter (fun y => y.1 != p) } := by
  obtain ⟨r, hr⟩ := h.cons
  unfold TopS
  simp only [hr]
  rw [List.filter_cons, if_pos (by simpa using fun e : [] = p => hp e.symm)]; rfl
theorem moveP_nil {old p : List UInt8} (ho : old ≠ []) : moveP old p [] = [] := by
  refine moveP_off ?_
  cases h : pfxB (splitB []) (splitB old) with
  | false => rfl
  | true =>
    obtain ⟨Z, hz⟩ := pfx_ex.1 h
    rw [splitB_nil] at hz
    exact absurd (splitB_nil_iff.1 (List.append_eq_nil_iff.1 hz.symm).1) ho
theorem TopS.moved {S : St} (h : TopS S) {old : List UInt8} (ho : old ≠ []) (p : List UInt8) : TopS (S.moved old p) := by
  obtain ⟨r, hr⟩ := h.cons
  unfold TopS St.moved
  simp only [hr]
  rw [List.map_cons]
  simp only [List.getElem?_cons_zero, moveP_nil ho]
/-- A name goes. -/
theorem gone_list : ∀ {l : List (List UInt8 × Int)} {i : Nat} {x : List UInt8 × Int}, l.Pairwise (fun x y => x.1 ≠ y.1) → l[i]? = some x → l.take i ++ l.drop (i + 1) = l.filter (fun y => y.1 != x.1)
  | [], _, _, _, h => by simp at h
  | a :: l, 0, x, hn, h => by
    simp only [List.getElem?_cons_zero, Option.some.injEq] at h
    subst h
    obtain ⟨h1, h2⟩ := List.pairwise_cons.1 hn
    rw [List.take_zero, List.nil_append, List.drop_succ_cons, List.drop_zero, List.filter_cons, if_neg (by simp)]
    rw [List.filter_eq_self.2]
    intro y hy
    have := h1 y hy
    simpa using fun e => this e.symm
  | a :: l, i+1, x, hn, h => by
    simp only [List.getElem?_cons_succ] at h
    obtain ⟨h1, h2⟩ := List.pairwise_cons.1 hn
    rw [List.take_succ_cons, List.drop_succ_cons, List.cons_append, gone_list h2 h, List.filter_cons, if_pos (by simpa using h1 x (List.mem_of_getElem? h))]
/-- One name moves. -/
theorem set_map {l : List (List UInt8 × Int)} (hn : l.Pairwise (fun x y => x.1 ≠ y.1)) {i : Nat} {x : List UInt8 × Int} (hx : l[i]? = some x) (f : List UInt8 → List UInt8) (hf : ∀ y ∈ l, y.1 ≠ x.1 → f y.1 = y.1) : l.map (fun y => (f y.1, y.2)) = l.set i (f x.1, x.2) := by
  refine List.ext_getElem? fun j => ?_
  rw [List.getElem?_map, List.getElem?_set]
  by_cases e : i = j
  · subst e
    rw [if_pos rfl, hx, if_pos (List.getElem?_eq_some_iff.1 hx).1]; rfl
  · rw [if_neg e]
    cases hy : l[j]? with
    | none => rfl
    | some y =>
      have hne : y.1 ≠ x.1 := by
        obtain ⟨hi, he⟩ := List.getElem?_eq_some_iff.1 hx
        obtain ⟨hj, hf2⟩ := List.getElem?_eq_some_iff.1 hy
        rcases Nat.lt_or_gt_of_ne e with h | h
        · have := List.pairwise_iff_getElem.1 hn i j hi hj h
          rw [he, hf2] at this; exact fun e => this e.symm
        · have := List.pairwise_iff_getElem.1 hn j i hj hi h
          rw [he, hf2] at this; exact this
      show some (f y.1, y.2) = some y
      rw [hf y (List.mem_of_getElem? hy) hne]
theorem OkS.leaf {S : St} (h : OkS S) {old p q : List UInt8} {i j : Int} (ho : S.at old = some i) (hk : (S.th i).kind ≠ 2) (hq : (q, j) ∈ S.ls) : q ≠ old → moveP old p q = q := fun hne => by
  refine moveP_off ?_
  cases hx : pfxB (splitB q) (splitB old) with
  | false => rfl
  | true =>
    obtain ⟨Z, hz⟩ := pfx_ex.1 hx
    obtain ⟨k, h1, h2⟩ := h.above Z.length Z q j rfl hq hz
    rw [ho, Option.some.injEq] at h1
    subst h1
    by_cases hZ : Z = []
    · subst hZ
      rw [List.append_nil] at hz
      exact absurd (splitB_inj hz) hne
    · exact absurd (h2 hZ) hk
theorem moveP_self (old p : List UInt8) : moveP old p old = p := by
  rw [moveP_on (Z := []) (List.append_nil _).symm, List.append_nil, glue_split]
/-- What a moved name is, as a text. -/
theorem move_str {old p q : List UInt8} (hp : p ≠ []) (ho : old ≠ []) (h : pfxB (splitB q) (splitB old) = true) : moveP old p q = p ++ q.drop old.length ∧ old.length ≤ q.length := by
  obtain ⟨Z, hz⟩ := pfx_ex.1 h
  have hso : splitB old ≠ [] := fun e => ho (splitB_nil_iff.1 e)
  have hsp : splitB p ≠ [] := fun e => hp (splitB_nil_iff.1 e)
  rw [moveP_on hz]
  by_cases hZ : Z = []
  · subst hZ
    rw [List.append_nil] at hz
    obtain rfl := splitB_inj hz
    rw [List.append_nil, glue_split, List.drop_length, List.append_nil]
    exact ⟨rfl, Nat.le_refl _⟩
  · have hq : q = old ++ 47 :: glueB Z := by
      conv => lhs; rw [← glue_split q, hz, glue_append _ _ hso hZ, glue_split]
    rw [glue_append _ _ hsp hZ, glue_split, hq, List.drop_left]
    exact ⟨rfl, by simp⟩
/-- What is no directory has nothing in it. -/
theorem hasIn_leaf {S : St} (h : OkS S) {p : List UInt8} {i : Int} (hp : S.at p = some i) (hk : (S.th i).kind ≠ 2) : S.hasIn p = false := by
  unfold St.hasIn
  rw [List.any_eq_false]
  intro x hx
  by_cases h1 : x.1 = []
  · simp [h1]
  · by_cases h2 : parentB x.1 = p
    · obtain ⟨d, h3, h4⟩ := h.up x hx h1
      rw [h2, hp, Option.some.injEq] at h3
      subst h3
      exact absurd h4 hk
    · simp [h2]
end Go.Proofs.YtlbbehfbjbbckaaGreatDoor

/-! The document's tree in memory, changed: a new name, another list, another thing. -/
set_option linter.unusedVariables false
set_option linter.unusedSimpArgs false
namespace Go.Proofs.YtlbbehfbjbbckaaGreatDoor
open Go.RowKit

def updF {α : Type} (f : Int → α) (i : Int) (v : α) : Int → α := fun j => if j = i then v else f j
theorem updF_same {α : Type} (f : Int → α) (i : Int) (v : α) : updF f i v i = v := if_pos rfl
theorem updF_other {α : Type} (f : Int → α) {i j : Int} (v : α) (h : j ≠ i) : updF f i v j = f j := if_neg h
/-- Bytes of a thing, somewhere. -/
def DataAt (w : World) (x : Th) (d : Dt) : Prop := Sl 1 w d.dA d.dn (bys x.data) ∧ ∀ a, d.dA = some a → ∃ cs, w.heap[a.block]? = some (.cells cs 5 (0, 0))
theorem DataAt.heap {w w' : World} {x : Th} {d : Dt} (h : DataAt w x d) (hh : ∀ a, d.dA = some a → w'.heap[a.block]? = w.heap[a.block]?) : DataAt w' x d :=
  ⟨h.1.heap1 hh, fun a ha => by obtain ⟨cs, hc⟩ := h.2 a ha; exact ⟨cs, (hh a ha).trans hc⟩⟩
theorem DataAt.lt {w : World} {x : Th} {d : Dt} (h : DataAt w x d) {a : Addr} (ha : d.dA = some a) : a.block < w.heap.size := by obtain ⟨cs, hc⟩ := h.2 a ha; exact (Array.getElem?_eq_some_iff.1 hc).1
theorem DataAt.below {w w' : World} {x : Th} {d : Dt} (h : DataAt w x d) (hb : Below w.heap.size w w') : DataAt w' x d := h.heap (fun a ha => hb.block _ (h.lt ha))
theorem DataAt.none (w : World) (x : Th) (hx : x.data = []) : DataAt w x ⟨.none, 0, 0⟩ := ⟨by rw [hx]; exact Sl.nil _ _ _, fun a ha => by cases ha⟩
/-- The blocks of its things. -/
def thingD (S : St) (B : Int → Nat) (D : Int → Dt) (k : Nat) : Prop := (∃ x ∈ S.ls, B x.2 = k) ∨ ∃ x ∈ S.ls, ∃ a, (D x.2).dA = some a ∧ a.block = k
theorem heldD_iff {v : Value} {S : St} {B : Int → Nat} {D : Int → Dt} {k : Nat} : heldD v S B D k ↔ v.ownBlock = some k ∨ thingD S B D k := Iff.rfl
theorem DocAt.add {w w' : World} {t n : Nat} {v v' : Value} {S : St} {B : Int → Nat} {D : Int → Dt} {p : List UInt8} {x : Th} {d : Dt} (h : DocAt w t v S B D) (ho : OkS S) (h1 : Blk w' t 132 [v', .int .i64 (S.next + 1)])
    (h2 : w'.ownsRow 0 129 2 v' (S.ls.length + 1) (encDs B S.ls ++ [.string (str p), ptrB n])) (h3 : Blk w' n 126 (encH S.next x d)) (h4 : DataAt w' x d) (h5 : ∀ k, thingD S B D k → w'.heap[k]? = w.heap[k]?)
    (h6 : ∀ y ∈ S.ls, B y.2 ≠ n) : DocAt w' t v' (S.add p x) (updF B S.next n) (updF D S.next d) := by
  have hlt : ∀ y ∈ S.ls, y.2 ≠ S.next := fun y hy => by have := (ho.lt y hy).2; omega
  have hB : ∀ y ∈ S.ls, updF B S.next n y.2 = B y.2 := fun y hy => updF_other _ _ (hlt y hy)
  have hD : ∀ y ∈ S.ls, updF D S.next d y.2 = D y.2 := fun y hy => updF_other _ _ (hlt y hy)
  have hT : ∀ y ∈ S.ls, (S.add p x).th y.2 = S.th y.2 := fun y hy => setT_other _ _ (hlt y hy)
  have hTn : (S.add p x).th S.next = x := setT_same ..
  refine ⟨h1, ?_, fun y hy => ?_, fun y hy => ?_, fun y hy z hz e => ?_⟩
  · show w'.ownsRow 0 _ 2 v' (S.ls ++ [(p, S.next)]).length (encDs (updF B S.next n) (S.ls ++ [(p, S.next)]))
    rw [encDs_app, encDs_congr hB, List.length_append, List.length_singleton]
    have : encDs (updF B S.next n) [(p, S.next)] = [.string (str p), ptrB n] := by
      rw [encDs_cons]
      simp only [updF_same]
      rfl
    rw [this]; exact h2
  · rcases List.mem_append.1 hy with hy | hy
    · rw [hB y hy, hD y hy, hT y hy]
      exact (h.node y hy).heap (h5 _ (.inl ⟨y, hy, rfl⟩))
    · rw [List.mem_singleton] at hy; subst hy
      show Blk w' (updF B S.next n S.next) _ (encH S.next ((S.add p x).th S.next) (updF D S.next d S.next))
      rw [updF_same, updF_same, hTn]; exact h3
  · rcases List.mem_append.1 hy with hy | hy
    · rw [hD y hy, hT y hy]
      exact DataAt.heap (h.data y hy) (fun a ha => h5 _ (.inr ⟨y, hy, a, ha, rfl⟩))
    · rw [List.mem_singleton] at hy; subst hy
      show DataAt w' ((S.add p x).th S.next) (updF D S.next d S.next)
      rw [updF_same, hTn]; exact h4
  · rcases List.mem_append.1 hy with hy | hy <;> rcases List.mem_append.1 hz with hz | hz
    · rw [hB y hy, hB z hz] at e; exact h.inj y hy z hz e
    · rw [List.mem_singleton] at hz; subst hz
      rw [hB y hy] at e
      simp only [updF_same] at e
      exact absurd e (h6 y hy)
    · rw [List.mem_singleton] at hy; subst hy
      rw [hB z hz] at e
      simp only [updF_same] at e
      exact absurd e.symm (h6 z hz)
    · rw [List.mem_singleton] at hy hz; subst hy; subst hz; rfl
theorem DocAt.list_to {w w' : World} {t : Nat} {v v' : Value} {S : St} {B : Int → Nat} {D : Int → Dt} (h : DocAt w t v S B D) (ls : List (List UInt8 × Int)) (h1 : Blk w' t 132 [v', .int .i64 S.next])
    (h2 : w'.ownsRow 0 129 2 v' ls.length (encDs B ls)) (h3 : ∀ k, thingD S B D k → w'.heap[k]? = w.heap[k]?) (h4 : ∀ y ∈ ls, ∃ z ∈ S.ls, z.2 = y.2) : DocAt w' t v' { S with ls := ls } B D := by
  refine ⟨h1, h2, fun y hy => ?_, fun y hy => ?_, fun y hy z hz e => ?_⟩
  · obtain ⟨z, hz, e⟩ := h4 y hy
    have := (h.node z hz).heap (h3 _ (.inl ⟨z, hz, rfl⟩))
    rwa [e] at this
  · obtain ⟨z, hz, e⟩ := h4 y hy
    have := DataAt.heap (h.data z hz) (w' := w') (fun a ha => h3 _ (.inr ⟨z, hz, a, ha, rfl⟩))
    rwa [e] at this
  · obtain ⟨y', hy', e1⟩ := h4 y hy
    obtain ⟨z', hz', e2⟩ := h4 z hz
    rw [← e1, ← e2] at e ⊢
    exact h.inj y' hy' z' hz' e
theorem DocAt.thing_to {w w' : World} {t : Nat} {v : Value} {S : St} {B : Int → Nat} {D : Int → Dt} {i : Int} {x : Th} {d : Dt} (h : DocAt w t v S B D) (hi : ∃ y ∈ S.ls, y.2 = i) (h1 : Blk w' (B i) 126 (encH i x d)) (h2 : DataAt w' x d)
    (h3 : ∀ k, k ≠ B i → (k = t ∨ heldD v S B D k) → w'.heap[k]? = w.heap[k]?) : DocAt w' t v { S with th := setT S.th i x } B (updF D i d) := by
  obtain ⟨y0, hy0, rfl⟩ := hi
  have hb0 := h.node y0 hy0
  have hdat : ∀ y ∈ S.ls, ∀ a, (D y.2).dA = some a → a.block ≠ B y0.2 := fun y hy a ha e => by
    obtain ⟨cs, hc⟩ := (h.data y hy).2 a ha
    rw [e] at hc
    have e2 := Eq.trans (Eq.symm hc) hb0
    simp only [Option.some.injEq, Obj.cells.injEq] at e2
    exact absurd e2.2.1 (by decide)
  refine ⟨h.tree.heap (h3 t (h.tree.ne hb0 (by decide)) (.inl rfl)), row_heap h.row (fun b hb => h3 b (fun e => ?_) (.inr (.inl hb))), fun y hy => ?_, fun y hy => ?_, h.inj⟩
  · rcases h.row.2 with ⟨hv, _⟩ | ⟨g, cap, cur, hv, _, hg, _⟩
    · rw [hv] at hb; cases hb
    · rw [hv] at hb
      simp only [Value.ownBlock, Option.some.injEq] at hb
      rw [hb, e] at hg
      have e2 := Eq.trans (Eq.symm hg) hb0
      simp only [Option.some.injEq, Obj.cells.injEq] at e2
      exact absurd e2.2.1 (by decide)
  · show Blk w' (B y.2) _ (encH y.2 (setT S.th y0.2 x y.2) (updF D y0.2 d y.2))
    by_cases e : y.2 = y0.2
    · rw [e, setT_same, updF_same]; exact h1
    · rw [setT_other _ _ e, updF_other _ _ e]
      exact (h.node y hy).heap (h3 _ (fun e2 => e (h.inj y hy y0 hy0 e2)) (.inr (.inr (.inl ⟨y, hy, rfl⟩))))
  · show DataAt w' (setT S.th y0.2 x y.2) (updF D y0.2 d y.2)
    by_cases e : y.2 = y0.2
    · rw [e, setT_same, updF_same]; exact h2
    · rw [setT_other _ _ e, updF_other _ _ e]
      exact DataAt.heap (h.data y hy) (fun a ha => h3 _ (hdat y hy a ha) (.inr (.inr (.inr ⟨y, hy, a, ha, rfl⟩))))
end Go.Proofs.YtlbbehfbjbbckaaGreatDoor

/-! The document's tree: At, Look, There, File, fresh, may. -/
set_option linter.unusedVariables false
set_option linter.unusedSimpArgs false
namespace Go.Proofs.YtlbbehfbjbbckaaGreatDoor
open Go.RowKit
attribute [local go_sem] str_toList

/-- What is looked up, in memory. -/
def ptrM (B : Int → Nat) : Option Int → Value
  | none => .pointer none
  | some i => ptrB (B i)
theorem ne_toListD {p q : ByteArray} (h : ¬ p = q) : (p.toList == q.toList) = false := by
  rw [beq_eq_false_iff_ne]
  intro e
  rw [ByteArray.toList_eq, ByteArray.toList_eq] at e
  exact h (ByteArray.ext (Array.toList_inj.1 e))
set_option maxRecDepth 100000 in
set_option maxHeartbeats 4000000 in
theorem At_any (t : Nat) (v : Value) (S : St) (B : Int → Nat) (D : Int → Dt) (p : ByteArray) (w : World) (h : DocAt w t v S B D) (ho : OkS S) (ht : TopS S) (hl : S.ls.length ≤ 1000000) :
    Calls Tryz.prog 136 #[.pointer (some ⟨t, 0, none⟩), .string p] w fun e w' => (∃ r, e = .returned (.int .i64 r) ∧ AtP S p.data.toList r) ∧ w' = w := by
  obtain ⟨g, cap, rfl, hcap, hcm, hcell⟩ := h.list ht
  obtain ⟨x0, x1, hx⟩ := hcell w (Below.refl _ _)
  have HX := Lib.hid hx
  have HO := Lib.hid (fun (h : ∀ x ∈ S.ls, x.1 ≠ p.data.toList) => at_none h)
  have HG := Lib.hid (fun (i : Nat) (x : List UInt8 × Int) (h : S.ls[i]? = some x) => ho.at_get h)
  obtain ⟨n, hn⟩ : ∃ n, S.ls.length = n := ⟨_, rfl⟩
  rw [hn] at x0 hl
  have HN := Lib.hid hn
  clear h ho ht hcell hx hn hcap
  go_enter Tryz.func136, Tryz.ntmps136
  go_wp2_with fail
  go_loopw [5] (fun a wr => ∃ i : Nat, a = .int .i64 i ∧ i ≤ n ∧ (∀ j x, j < i → S.ls[j]? = some x → x.1 ≠ p.data.toList) ∧ wr = w) (fun a _ => n - (intOf a).toNat)
  case atStart => exact ⟨0, rfl, Nat.zero_le _, fun j x h => absurd h (Nat.not_lt_zero j), rfl⟩
  case round =>
    obtain ⟨i, rfl, hi, hat, rfl⟩ := hrel
    have HAT := Lib.hid hat
    clear hat
    rcases Nat.lt_or_ge i n with h | h
    · obtain ⟨y, hy⟩ : ∃ y, S.ls[i]? = some y := ⟨_, List.getElem?_eq_getElem (by rw [HN.out]; exact h)⟩
      obtain ⟨z0, z1, _⟩ := HX.out i y hy
      have HY := Lib.hid hy
      have hi2 : (i : Int) < (n : Int) := by omega
      clear hy
      obtain ⟨q, hq⟩ : ∃ q, str y.1 = q := ⟨_, rfl⟩
      rw [hq] at z0
      by_cases e : q = p
      · subst e
        have K := Lib.hid (show y.1 = q.data.toList by rw [← hq, str_data])
        clear hq
        go_wp2_with fail
        go_ret
        exact ⟨⟨_, rfl, .inr ⟨i, y, rfl, HY.out, K.out, by rw [← K.out]; exact HG.out i y HY.out⟩⟩, rfl⟩
      · have e1 := ne_toListD e
        have K := Lib.hid (show ∀ j x, j < i + 1 → S.ls[j]? = some x → x.1 ≠ p.data.toList from fun j x hj hx => by
          by_cases ej : j = i
          · subst ej
            rw [HY.out, Option.some.injEq] at hx
            subst hx
            intro e2
            exact e (by rw [← hq, e2, str_of])
          · exact HAT.out j x (by omega) hx)
        clear e hq
        go_wp2_with fail
        go_roundw
        case rel => exact ⟨i + 1, by go_num, by omega, K.out, trivial⟩
        case measure => simp [intOf] <;> omega
    · obtain rfl : i = n := by omega
      have hin : ¬ ((i : Int) < (i : Int)) := by omega
      have K := Lib.hid (HO.out (fun x hx => by
        obtain ⟨j, hj⟩ := List.getElem?_of_mem hx
        exact HAT.out j x (by have := (List.getElem?_eq_some_iff.1 hj).1; rw [HN.out] at this; exact this) hj))
      clear hi h
      go_wp2_with fail
      go_ret
      exact ⟨⟨_, rfl, .inl ⟨rfl, K.out⟩⟩, rfl⟩
set_option maxRecDepth 100000 in
set_option maxHeartbeats 4000000 in
theorem Look_any (t : Nat) (v : Value) (S : St) (B : Int → Nat) (D : Int → Dt) (p : ByteArray) (w : World) (h : DocAt w t v S B D) (ho : OkS S) (ht : TopS S) (hl : S.ls.length ≤ 1000000) (hp : p.size ≤ 2097152) :
    Calls Tryz.prog 112 #[.pointer (some ⟨t, 0, none⟩), .string p] w fun e w' => e = .returned (.tuple #[ptrM B (S.look p.data.toList).1, .int .i64 (S.look p.data.toList).2]) ∧ Below w.heap.size w w' := by
  obtain ⟨X, hX⟩ : ∃ X, S.look p.data.toList = X := ⟨_, rfl⟩
  have HX : Hid ((if rightB p.data.toList = false then (none, (9 : Int)) else if p.data.toList = [] then (some 1, (0 : Int)) else match S.at (parentB p.data.toList) with
    | none => (none, (10 : Int))
    | some d => if (S.th d).kind = 2 then (S.at p.data.toList, (0 : Int)) else (none, (12 : Int))) = X) := Lib.hid hX
  rw [hX]
  clear hX
  have HR := Lib.hid (refRight_any p _ w rfl hp)
  have HA := Lib.hid (fun q w (h : DocAt w t v S B D) => At_any t v S B D q w h ho ht hl)
  have HT := Lib.hid h
  have HTOP := Lib.hid ht
  generalize rightB p.data.toList = rb at *
  obtain ⟨g, cap, rfl, hcap, hcm, hcell⟩ := h.list ht
  have HC := Lib.hid hcell
  have hpos := ht.pos
  have HLT := Lib.hid (fun (i : Nat) x (h : S.ls[i]? = some x) => (List.getElem?_eq_some_iff.1 h).1)
  clear h ho ht hcell hcap
  go_enter Tryz.func112, Tryz.ntmps112
  go_wp2_with fail
  refine HR.out.mono ?_
  rintro e w1 ⟨rfl, hb1⟩
  have B1 := Lib.hid hb1
  have T1 := Lib.hid (HT.out.below hb1)
  obtain ⟨x0, x1, hx⟩ := HC.out w1 hb1
  have HX1 := Lib.hid hx
  clear hb1 HR hx HT
  cases rb with
  | false =>
    have K := Lib.hid (show X = (none, (9 : Int)) by rw [← HX.out]; rfl)
    go_wp2_with fail
    go_ret2
    exact ⟨by rw [K.out]; rfl, B1.out⟩
  | true =>
  by_cases hz : p.size = 0
  · obtain rfl : p = ⟨#[]⟩ := ByteArray.ext (Array.size_eq_zero_iff.1 hz)
    have K := Lib.hid (show X = (some 1, (0 : Int)) by rw [← HX.out]; rfl)
    obtain ⟨z0, z1, _⟩ := HX1.out 0 _ HTOP.out
    rw [Nat.zero_mul] at z0 z1
    unfold ptrB at z1
    clear hz
    go_wp2_with fail
    go_ret2
    exact ⟨by rw [K.out]; rfl, B1.out⟩
  have hnil := nil_toList p hz
  have hne : p.data.toList ≠ [] := fun e => hz (by have : p.data.toList.length = 0 := by rw [e]; rfl
                                                   rwa [Array.length_toList] at this)
  have HX := Lib.hid (show (match S.at (parentB p.data.toList) with
    | none => (none, (10 : Int))
    | some d => if (S.th d).kind = 2 then (S.at p.data.toList, (0 : Int)) else (none, (12 : Int))) = X by rw [← HX.out, if_neg (by simp), if_neg hne])
  clear hz hne x0 x1
  go_wp2_with fail
  refine (refParent_any p _ w1 rfl hp).mono ?_
  rintro e w2 ⟨rfl, hb2⟩
  have B2 := Lib.hid (B1.out.trans (hb2.mono B1.out.size))
  have T2 := Lib.hid (T1.out.below hb2)
  obtain ⟨x0, x1, hx⟩ := HC.out w2 B2.out
  have HX2 := Lib.hid hx
  clear hb2 B1 T1 HX1 hx
  go_wp2_with fail
  refine (HA.out (str (parentB p.data.toList)) w2 T2.out).mono ?_
  rintro e w3 ⟨⟨r, rfl, hr⟩, rfl⟩
  rw [str_data] at hr
  rcases hr with ⟨rfl, hr⟩ | ⟨i, y, rfl, hy, hy1, hr⟩
  · have K := Lib.hid (show X = (none, (10 : Int)) by rw [← HX.out, hr])
    clear hr
    go_wp2_with fail
    go_ret2
    exact ⟨by rw [K.out]; rfl, B2.out⟩
  have HX3 := Lib.hid (show (if (S.th y.2).kind = 2 then (S.at p.data.toList, (0 : Int)) else (none, (12 : Int))) = X by rw [← HX.out, hr])
  have hlt := HLT.out i y hy
  obtain ⟨z0, z1, zb⟩ := HX2.out i y hy
  have zk := zb.cell 0
  simp only [encH, List.getElem?_cons_zero] at zk
  unfold ptrB at z1
  have i1 : ¬ ((i : Int) < 0) := by omega
  have i2 : (i : Int) < (S.ls.length : Int) := by omega
  clear hy hy1 hr zb HX
  by_cases hk : (S.th y.2).kind = 2
  · have e1 : ((S.th y.2).kind != 2) = false := by simpa using hk
    have HX4 := Lib.hid (show (S.at p.data.toList, (0 : Int)) = X by rw [← HX3.out, if_pos hk])
    clear hk HX3
    go_wp2_with fail
    refine (HA.out p w3 T2.out).mono ?_
    rintro e w4 ⟨⟨r, rfl, hr⟩, rfl⟩
    clear i1 i2 e1 zk z0 z1
    rcases hr with ⟨rfl, hr⟩ | ⟨j, u, rfl, hu, hu1, hr⟩
    · have K := Lib.hid (show X = (none, (0 : Int)) by rw [← HX4.out, hr])
      clear hr
      go_wp2_with fail
      go_ret2
      exact ⟨by rw [K.out]; rfl, B2.out⟩
    · have K := Lib.hid (show X = (some u.2, (0 : Int)) by rw [← HX4.out, hr])
      have hlt2 := HLT.out j u hu
      obtain ⟨z0, z1, zb⟩ := HX2.out j u hu
      unfold ptrB at z1
      have i1 : ¬ ((j : Int) < 0) := by omega
      have i2 : (j : Int) < (S.ls.length : Int) := by omega
      clear hu hu1 hr zb
      go_wp2_with fail
      go_ret2
      exact ⟨by rw [K.out]; rfl, B2.out⟩
  · have e1 : ((S.th y.2).kind != 2) = true := by simpa using hk
    have K := Lib.hid (show X = (none, (12 : Int)) by rw [← HX3.out, if_neg hk])
    clear hk HX3
    go_wp2_with fail
    go_ret2
    exact ⟨by rw [K.out]; rfl, B2.out⟩
set_option maxRecDepth 100000 in
set_option maxHeartbeats 4000000 in
theorem There_any (t : Nat) (v : Value) (S : St) (B : Int → Nat) (D : Int → Dt) (p : ByteArray) (w : World) (h : DocAt w t v S B D) (ho : OkS S) (ht : TopS S) (hl : S.ls.length ≤ 1000000) (hp : p.size ≤ 2097152) :
    Calls Tryz.prog 97 #[.pointer (some ⟨t, 0, none⟩), .string p] w fun e w' => e = .returned (.tuple #[ptrM B (thereS (S.look p.data.toList)).1, .int .i64 (thereS (S.look p.data.toList)).2]) ∧ Below w.heap.size w w' := by
  have HL := Lib.hid (Look_any t v S B D p w h ho ht hl hp)
  clear h
  generalize S.look p.data.toList = l at *
  obtain ⟨o, er⟩ := l
  obtain ⟨X, hX⟩ : ∃ X, thereS (o, er) = X := ⟨_, rfl⟩
  have HX : Hid ((if er = 0 ∧ o = none then (o, (10 : Int)) else (o, er)) = X) := Lib.hid hX
  rw [hX]
  clear hX
  go_enter Tryz.func97, Tryz.ntmps97
  go_wp2_with fail
  refine HL.out.mono ?_
  rintro e w1 ⟨rfl, hb1⟩
  have HB := Lib.hid hb1
  clear hb1 HL
  by_cases he : er = 0
  · subst he
    cases o with
    | none =>
      have K := Lib.hid (show X = (none, 10) by rw [← HX.out, if_pos ⟨rfl, rfl⟩])
      rw [show ptrM B none = .pointer none from rfl]
      clear HX
      go_wp2_with fail
      go_ret2
      exact ⟨by rw [K.out]; rfl, HB.out⟩
    | some k =>
      have K := Lib.hid (show X = (some k, 0) by rw [← HX.out, if_neg (fun h => by cases h.2)])
      rw [show ptrM B (some k) = .pointer (some ⟨B k, 0, none⟩) from rfl]
      clear HX
      go_wp2_with fail
      go_ret2
      exact ⟨by rw [K.out]; rfl, HB.out⟩
  · have K := Lib.hid (show X = (o, er) by rw [← HX.out, if_neg (fun h => he h.1)])
    have e1 : decide (er = 0) = false := decide_eq_false he
    have e2 : (er == 0) = false := by simpa using he
    clear he
    go_wp2_with fail
    go_ret2
    exact ⟨by rw [K.out]; rfl, HB.out⟩
set_option maxRecDepth 100000 in
set_option maxHeartbeats 4000000 in
theorem freshD_any (t : Nat) (v : Value) (S : St) (B : Int → Nat) (D : Int → Dt) (p : ByteArray) (w : World) (h : DocAt w t v S B D) (ho : OkS S) (ht : TopS S) (hl : S.ls.length ≤ 1000000) (hp : p.size ≤ 2097152) :
    Calls Tryz.prog 110 #[.pointer (some ⟨t, 0, none⟩), .string p] w fun e w' => e = .returned (.int .i64 (freshS (S.look p.data.toList))) ∧ Below w.heap.size w w' := by
  have HL := Lib.hid (Look_any t v S B D p w h ho ht hl hp)
  clear h
  generalize S.look p.data.toList = l at *
  obtain ⟨o, er⟩ := l
  obtain ⟨X, hX⟩ : ∃ X, freshS (o, er) = X := ⟨_, rfl⟩
  have HX : Hid ((if er = 0 ∧ o ≠ none then (11 : Int) else er) = X) := Lib.hid hX
  rw [hX]
  clear hX
  go_enter Tryz.func110, Tryz.ntmps110
  go_wp2_with fail
  refine HL.out.mono ?_
  rintro e w1 ⟨rfl, hb1⟩
  have HB := Lib.hid hb1
  clear hb1 HL
  by_cases he : er = 0
  · subst he
    cases o with
    | none =>
      have K := Lib.hid (show X = 0 by rw [← HX.out, if_neg (fun h => h.2 rfl)])
      rw [show ptrM B none = .pointer none from rfl]
      clear HX
      go_wp2_with fail
      go_ret
      exact ⟨by rw [K.out]; rfl, HB.out⟩
    | some k =>
      have K := Lib.hid (show X = 11 by rw [← HX.out, if_pos ⟨rfl, fun h => by cases h⟩])
      rw [show ptrM B (some k) = .pointer (some ⟨B k, 0, none⟩) from rfl]
      clear HX
      go_wp2_with fail
      go_ret
      exact ⟨by rw [K.out]; rfl, HB.out⟩
  · have K := Lib.hid (show X = er by rw [← HX.out, if_neg (fun h => he h.1)])
    have e1 : decide (er = 0) = false := decide_eq_false he
    have e2 : (er == 0) = false := by simpa using he
    clear he
    go_wp2_with fail
    go_ret
    exact ⟨by rw [K.out]; rfl, HB.out⟩
def fileS (S : St) (r : Option Int × Int) : Option Int × Int := if r.2 ≠ 0 then (none, r.2) else match r.1 with
  | none => r
  | some i => if (S.th i).kind = 2 then (none, 13) else if (S.th i).kind = 3 then (none, 17) else (some i, 0)
set_option maxRecDepth 100000 in
set_option maxHeartbeats 4000000 in
theorem File_any (t : Nat) (v : Value) (S : St) (B : Int → Nat) (D : Int → Dt) (p : ByteArray) (w : World) (h : DocAt w t v S B D) (ho : OkS S) (ht : TopS S) (hl : S.ls.length ≤ 1000000) (hp : p.size ≤ 2097152) :
    Calls Tryz.prog 115 #[.pointer (some ⟨t, 0, none⟩), .string p] w fun e w' => e = .returned (.tuple #[ptrM B (fileS S (thereS (S.look p.data.toList))).1, .int .i64 (fileS S (thereS (S.look p.data.toList))).2]) ∧ Below w.heap.size w w' := by
  have HL := Lib.hid (There_any t v S B D p w h ho ht hl hp)
  have HT := Lib.hid h
  have HAT := Lib.hid (fun i (hi : thereS (S.look p.data.toList) = (some i, 0)) => (there_at ho hi).1)
  have HIFF := Lib.hid (fun i (hi : S.at p.data.toList = some i) => (ho.at_iff _ _).1 hi)
  have HNN := Lib.hid (show (thereS (S.look p.data.toList)).2 = 0 → (thereS (S.look p.data.toList)).1 ≠ none from fun h0 h1 => by
    unfold thereS at h0 h1
    split at h0
    · simp at h0
    · rename_i hne
      rw [if_neg hne] at h1
      exact hne ⟨h0, h1⟩)
  clear h
  generalize thereS (S.look p.data.toList) = l at *
  obtain ⟨o, er⟩ := l
  obtain ⟨X, hX⟩ : ∃ X, fileS S (o, er) = X := ⟨_, rfl⟩
  have HX : Hid ((if er ≠ 0 then (none, er) else match o with
  | none => (o, er)
  | some i => if (S.th i).kind = 2 then (none, (13 : Int)) else if (S.th i).kind = 3 then (none, 17) else (some i, 0)) = X) := Lib.hid hX
  rw [hX]
  clear hX
  go_enter Tryz.func115, Tryz.ntmps115
  go_wp2_with fail
  refine HL.out.mono ?_
  rintro e w1 ⟨rfl, hb1⟩
  have HB := Lib.hid hb1
  have HT1 := Lib.hid (HT.out.below hb1)
  clear hb1 HL HT
  by_cases he : er = 0
  · subst he
    cases o with
    | none => exact absurd rfl (HNN.out rfl)
    | some k =>
      have HX := Lib.hid (show (if (S.th k).kind = 2 then (none, (13 : Int)) else if (S.th k).kind = 3 then (none, 17) else (some k, 0)) = X from HX.out)
      have zk := (HT1.out.node _ (HIFF.out k (HAT.out k rfl))).cell 0
      simp only [encH, List.getElem?_cons_zero] at zk
      rw [show ptrM B (some k) = .pointer (some ⟨B k, 0, none⟩) from rfl]
      by_cases h2 : (S.th k).kind = 2
      · have K := Lib.hid (show X = (none, 13) by rw [← HX.out, if_pos h2])
        have e1 : ((S.th k).kind == 2) = true := by simpa using h2
        clear HX h2
        go_wp2_with fail
        go_ret2
        exact ⟨by rw [K.out]; rfl, HB.out⟩
      have e1 : ((S.th k).kind == 2) = false := by simpa using h2
      by_cases h3 : (S.th k).kind = 3
      · have K := Lib.hid (show X = (none, 17) by rw [← HX.out, if_neg h2, if_pos h3])
        have e2 : ((S.th k).kind == 3) = true := by simpa using h3
        clear HX h2 h3
        go_wp2_with fail
        go_ret2
        exact ⟨by rw [K.out]; rfl, HB.out⟩
      · have K := Lib.hid (show X = (some k, 0) by rw [← HX.out, if_neg h2, if_neg h3])
        have e2 : ((S.th k).kind == 3) = false := by simpa using h3
        clear HX h2 h3
        go_wp2_with fail
        go_ret2
        exact ⟨by rw [K.out]; rfl, HB.out⟩
  · have K := Lib.hid (show X = (none, er) by rw [← HX.out, if_pos he])
    have e2 : (er != 0) = true := by simpa using he
    clear he
    go_wp2_with fail
    go_ret2
    exact ⟨by rw [K.out]; rfl, HB.out⟩
set_option maxRecDepth 100000 in
set_option maxHeartbeats 4000000 in
theorem mayD_any (p : ByteArray) (m : Mt) (w : World) (hp : p.size ≤ 2097152) :
    Calls Tryz.prog 109 #[.string p, aggM m] w fun e w' => e = .returned (.int .i64 (mayU p.data.toList m)) ∧ Below w.heap.size w w' := by
  obtain ⟨X, hX⟩ : ∃ X : Int, mayU p.data.toList m = X := ⟨_, rfl⟩
  obtain ⟨a, b, c, d, f⟩ := m
  have HX : Hid ((if rightB p.data.toList = false then (9 : Int) else if metaOk a b c d f = true then 0 else 2) = X) := Lib.hid hX
  rw [hX]
  clear hX
  have HR := Lib.hid (fun w => refRight_any p _ w rfl hp)
  have HM := Lib.hid (fun w => refMeta_any a b c d f w)
  generalize rightB p.data.toList = rb at *
  generalize metaOk a b c d f = mo at *
  have hb0 := (Below.refl w.heap.size w).alloc (Nat.le_refl _) (.cells #[.int .i64 a, .int .i64 b, .int .i64 c, .int .i64 d, .int .i64 f] 53)
  have b0 := Blk.new w 53 [.int .i64 a, .int .i64 b, .int .i64 c, .int .i64 d, .int .i64 f]
  have HB0 := Lib.hid hb0
  have B0 := Lib.hid b0
  clear hb0 b0
  unfold aggM
  go_enter Tryz.func109, Tryz.ntmps109
  go_wp2_with fail
  refine (HR.out _).mono ?_
  rintro e w1 ⟨rfl, hb1⟩
  have HB1 := Lib.hid (HB0.out.trans (hb1.mono HB0.out.size))
  have B1 := Lib.hid (B0.out.below hb1)
  obtain ⟨x0, x1, x2, x3, x4⟩ := meta_cells B1.out
  clear hb1 HR HB0 B0
  cases rb with
  | false =>
    have K := Lib.hid (show X = 9 from HX.out.symm)
    go_wp2_with fail
    go_ret
    exact ⟨by rw [K.out]; rfl, HB1.out⟩
  | true =>
  go_wp2_with fail
  refine (HM.out _).mono ?_
  rintro e w2 ⟨rfl, hb2⟩
  have HB2 := Lib.hid (HB1.out.trans (hb2.mono HB1.out.size))
  clear hb2 HM HB1 x0 x1 x2 x3 x4
  cases mo with
  | true =>
    have K := Lib.hid (show X = 0 from HX.out.symm)
    go_wp2_with fail
    go_ret
    exact ⟨by rw [K.out]; rfl, HB2.out⟩
  | false =>
    have K := Lib.hid (show X = 2 from HX.out.symm)
    go_wp2_with fail
    go_ret
    exact ⟨by rw [K.out]; rfl, HB2.out⟩
end Go.Proofs.YtlbbehfbjbbckaaGreatDoor

/-! The document's tree: New, make. -/
set_option linter.unusedVariables false
set_option linter.unusedSimpArgs false
namespace Go.Proofs.YtlbbehfbjbbckaaGreatDoor
open Go.RowKit

theorem infoN : (Tryz.prog.info? 129).map (fun i => (i.zero, i.size, i.bytes)) = some (some (.agg #[.string ⟨#[]⟩, .pointer none]), 2, 24) := by kernel_rfl
theorem okS_newD : TopS newS := rfl
set_option maxRecDepth 100000 in
set_option maxHeartbeats 4000000 in
theorem NewD_any (w : World) :
    Calls Tryz.prog 50 #[] w fun e w' => ∃ t, e = .returned (.pointer (some ⟨t, 0, none⟩)) ∧ DocS w' t newS (fun k => w.heap.size ≤ k) ∧ Below w.heap.size w w' := by
  have hd0 : encH 1 (newS.th 1) ⟨none, 0, 0⟩ = [.int .i64 2, .int .i64 1, .slice none 0 0, .string ⟨#[]⟩, .int .i64 493, .int .i64 0, .int .i64 0, .int .i64 0, .int .i64 0] := rfl
  have b0 := Blk.new w 126 [.int .i64 2, .int .i64 1, .slice none 0 0, .string ⟨#[]⟩, .int .i64 493, .int .i64 0, .int .i64 0, .int .i64 0, .int .i64 0]
  have h0 := (Below.refl w.heap.size w).alloc (Nat.le_refl _) (.cells #[.int .i64 2, .int .i64 1, .slice none 0 0, .string ⟨#[]⟩, .int .i64 493, .int .i64 0, .int .i64 0, .int .i64 0, .int .i64 0] 126)
  obtain ⟨w1, hw1⟩ : ∃ w1, w.alloc (.cells #[.int .i64 2, .int .i64 1, .slice none 0 0, .string ⟨#[]⟩, .int .i64 493, .int .i64 0, .int .i64 0, .int .i64 0, .int .i64 0] 126) = w1 := ⟨_, rfl⟩
  have hz1 : w1.heap.size = w.heap.size + 1 := by rw [← hw1]; exact World.size_alloc _ _
  have b0 : Blk w1 w.heap.size 126 (encH 1 (newS.th 1) ⟨none, 0, 0⟩) := by rw [hd0, ← hw1]; exact b0
  have h0 : Below w.heap.size w w1 := by rw [← hw1]; exact h0
  have r1 := World.ownsRow_lit (base := 0) (e := 129) (size := 2) w1 #[.string ⟨#[]⟩, .pointer (some ⟨w.heap.size, 0, none⟩)] 1 (Nat.zero_le _) (by decide) rfl
  have h1 := (Below.refl w1.heap.size w1).alloc (Nat.le_refl _) (.cells #[.string ⟨#[]⟩, .pointer (some ⟨w.heap.size, 0, none⟩)] 129)
  obtain ⟨w2, hw2⟩ : ∃ w2, w1.alloc (.cells #[.string ⟨#[]⟩, .pointer (some ⟨w.heap.size, 0, none⟩)] 129) = w2 := ⟨_, rfl⟩
  have hz2 : w2.heap.size = w1.heap.size + 1 := by rw [← hw2]; exact World.size_alloc _ _
  rw [hw2] at r1 h1
  rw [hz1] at r1
  have b3 := Blk.new w2 132 [.slice (some ⟨w.heap.size + 1, 0, none⟩) 1 1, .int .i64 2]
  rw [hz2, hz1] at b3
  have h2 := (Below.refl w2.heap.size w2).alloc (Nat.le_refl _) (.cells #[.slice (some ⟨w.heap.size + 1, 0, none⟩) 1 1, .int .i64 2] 132)
  have K : DocS (w2.alloc (.cells #[.slice (some ⟨w.heap.size + 1, 0, none⟩) 1 1, .int .i64 2] 132)) (w.heap.size + 1 + 1) newS (fun k => w.heap.size ≤ k) := by
    refine ⟨.slice (some ⟨w.heap.size + 1, 0, none⟩) 1 1, fun _ => w.heap.size, fun _ => ⟨none, 0, 0⟩, ⟨b3, row_heap r1 (fun b hb => h2.block b (row_lt r1 hb).2), fun x hx => ?_, fun x hx => ?_, fun x hx y hy _ => ?_⟩, okS_new, okS_newD, ?_⟩
    · rw [show newS.ls = [([], 1)] from rfl, List.mem_singleton] at hx; subst hx
      exact (b0.below h1).below h2
    · exact DataAt.none _ _ rfl
    · rw [show newS.ls = [([], 1)] from rfl, List.mem_singleton] at hx hy; rw [hx, hy]
    · rintro k (rfl | hk | ⟨x, hx, rfl⟩ | ⟨x, hx, a, ha, rfl⟩)
      · show w.heap.size ≤ w.heap.size + 1 + 1; omega
      · simp only [Value.ownBlock, Option.some.injEq] at hk; subst hk; show w.heap.size ≤ w.heap.size + 1; omega
      · exact Nat.le_refl _
      · cases ha
  have KB : Below w.heap.size w (w2.alloc (.cells #[.slice (some ⟨w.heap.size + 1, 0, none⟩) 1 1, .int .i64 2] 132)) := (h0.trans (h1.mono h0.size)).trans (h2.mono (by omega))
  have HK := Lib.hid K
  have HKB := Lib.hid KB
  subst hw2
  subst hw1
  clear K KB b0 h0 r1 h1 b3 h2 hd0
  go_enter Tryz.func50, Tryz.ntmps50
  go_wp2_with fail
  go_ret
  exact ⟨_, rfl, HK.out, HKB.out⟩
set_option maxRecDepth 100000 in
set_option maxHeartbeats 4000000 in
theorem make_any (t n : Nat) (v : Value) (S : St) (B : Int → Nat) (D : Int → Dt) (p : ByteArray) (x : Th) (d : Dt) (w : World) (h : DocAt w t v S B D) (ho : OkS S) (hl : S.ls.length ≤ 1000000) (hx : Blk w n 126 (encH 0 x d)) (hd : DataAt w x d)
    (hne : ∀ y ∈ S.ls, B y.2 ≠ n) (hn0 : 0 ≤ S.next) (hn1 : S.next ≤ 1099511627776) :
    Calls Tryz.prog 111 #[.pointer (some ⟨t, 0, none⟩), .string p, ptrB n] w fun e w' => e = .returned (.tuple #[]) ∧ ∃ v', DocAt w' t v' (S.add p.data.toList x) (updF B S.next n) (updF D S.next d) ∧ Only (fun k => k = t ∨ k = n ∨ v.ownBlock = some k) w w' ∧ ∀ k, v'.ownBlock = some k → v.ownBlock = some k ∨ w.heap.size ≤ k := by
  obtain ⟨i0, hi0, hz0, hz1, hz2⟩ := info_parts infoN
  have htn : t ≠ n := h.tree.ne hx (by decide)
  have xt0 := h.tree.cell 0
  have xt1 := h.tree.cell 1
  have ft0 := h.tree.frozen 0
  have ft1 := h.tree.frozen 1
  have fn1 := hx.frozen 1
  have xn1 := hx.cell 1
  simp only [encH, List.getElem?_cons_zero, List.getElem?_cons_succ] at xt0 xt1 xn1
  -- the number of the thing
  have O1 : Only (fun k => k = n) w (w.setCell ⟨n, 1, none⟩ (.int .i64 S.next)) := Only.set w ⟨n, 1, none⟩ _ rfl
  have n1 : Blk (w.setCell ⟨n, 1, none⟩ (.int .i64 S.next)) n 126 (encH S.next x d) := hx.set 1 (.int .i64 S.next)
  have t1 := h.tree.other (a := ⟨n, 1, none⟩) htn (.int .i64 S.next)
  have hz1' : (w.setCell ⟨n, 1, none⟩ (.int .i64 S.next)).heap.size = w.heap.size := World.size_setCell _ _ _
  generalize hw1 : w.setCell ⟨n, 1, none⟩ (.int .i64 S.next) = w1 at *
  have y0 := t1.cell 0
  have y1 := t1.cell 1
  have fy1 := t1.frozen 1
  simp only [List.getElem?_cons_zero, List.getElem?_cons_succ] at y0 y1
  have hwr : IntKind.i64.wrap (S.next + 1) = S.next + 1 := by rw [IntKind.wrap_i64]; omega
  -- the number that comes next
  have O2 : Only (fun k => k = t) w1 (w1.setCell ⟨t, 1, none⟩ (.int .i64 (S.next + 1))) := Only.set w1 ⟨t, 1, none⟩ _ rfl
  have t2 : Blk (w1.setCell ⟨t, 1, none⟩ (.int .i64 (S.next + 1))) t 132 [v, .int .i64 (S.next + 1)] := t1.set 1 _
  have n2 := n1.other (a := ⟨t, 1, none⟩) (fun e => htn e.symm) (.int .i64 (S.next + 1))
  have hz2' : (w1.setCell ⟨t, 1, none⟩ (.int .i64 (S.next + 1))).heap.size = w1.heap.size := World.size_setCell _ _ _
  generalize hw2 : w1.setCell ⟨t, 1, none⟩ (.int .i64 (S.next + 1)) = w2 at *
  have u0 := t2.cell 0
  have fu0 := t2.frozen 0
  simp only [List.getElem?_cons_zero, List.getElem?_cons_succ] at u0
  -- the list grows
  have hvt : ∀ b, v.ownBlock = some b → b ≠ t ∧ b ≠ n := fun b hb => by
    rcases h.row.2 with ⟨hv, _⟩ | ⟨g, cap, cur, hv, _, hg, _⟩
    · rw [hv] at hb; cases hb
    · rw [hv] at hb; cases hb
      have hB : Blk w g 129 cur.toList := by unfold Blk; rw [Array.toArray_toList]; exact hg
      exact ⟨hB.ne h.tree (by decide), hB.ne hx (by decide)⟩
  have r2 : w2.ownsRow 0 129 2 v S.ls.length (encDs B S.ls) := row_heap h.row (fun b hb => by
    obtain ⟨g1, g2⟩ := hvt b hb
    have hbl := (row_lt h.row hb).2
    exact (O2.block b (by omega) g1).trans (O1.block b hbl g2))
  have b3 := Blk.new w2 129 [.string p, ptrB n]
  have hb3 := (Below.refl w2.heap.size w2).alloc (Nat.le_refl _) (.cells #[.string p, ptrB n] 129)
  have hz3 : (w2.alloc (.cells #[.string p, ptrB n] 129)).heap.size = w2.heap.size + 1 := World.size_alloc _ _
  have r3 := row_heap r2 (fun b hb => hb3.block b (row_lt r2 hb).2)
  have hsl : Sl 2 (w2.alloc (.cells #[.string p, ptrB n] 129)) (some ⟨w2.heap.size, 0, none⟩) 1 [.string p, ptrB n] := b3.sl rfl rfl (by omega)
  have t3 := t2.below hb3
  have n3 := n2.below hb3
  obtain ⟨v', w4, hap, hown, hg4, hblk⟩ := run_append_at (c := 1) (w := w2.alloc (.cells #[.string p, ptrB n] 129)) 0 130 130 129 i0 _ 2 24 Tryz.underlying130 hi0 hz0 hz1 hz2 rfl (by decide) r3 hsl (by omega) (by intro u hu; simp [ptrB] at hu; rcases hu with rfl | rfl <;> rfl) (by omega) (by omega) (Nat.zero_le _)
  have t4 := t3.grown hg4 (fun e => (hvt t e.symm).1 rfl)
  have n4 := n3.grown hg4 (fun e => (hvt n e.symm).2 rfl)
  have ft4 := t4.frozen 0
  have xt4 := t4.cell 0
  simp only [List.getElem?_cons_zero, List.getElem?_cons_succ] at xt4
  have hv't : ∀ b, v'.ownBlock = some b → (v.ownBlock = some b ∨ b = w2.heap.size + 1) ∧ b ≠ t ∧ b ≠ n := fun b hb => by
    have htl := h.tree.lt
    have hnl := hx.lt
    rcases hblk with e | e
    · rw [e] at hb; exact ⟨.inl hb, hvt b hb⟩
    · rw [e] at hb
      simp only [Option.some.injEq] at hb
      refine ⟨.inr (by omega), by omega, by omega⟩
  have t5 : Blk (w4.setCell ⟨t, 0, none⟩ v') t 132 [v', .int .i64 (S.next + 1)] := t4.set 0 v'
  have n5 := n4.other (a := ⟨t, 0, none⟩) (fun e => htn e.symm) v'
  have r5 : (w4.setCell ⟨t, 0, none⟩ v').ownsRow 0 129 2 v' (S.ls.length + 1) (encDs B S.ls ++ [.string p, ptrB n]) := row_heap hown (fun b hb => heap_setCell_other w4 ⟨t, 0, none⟩ b v' (hv't b hb).2.1)
  have hO : Only (fun k => k = t ∨ k = n ∨ v.ownBlock = some k) w (w4.setCell ⟨t, 0, none⟩ v') :=
    ((((O1.mono fun k _ e => .inr (.inl e)).trans (O2.mono fun k _ e => .inl e)).trans (Only.of hb3)).trans ⟨hg4.os, hg4.tape, hg4.output, hg4.size, fun k hk hn => hg4.block k hk (fun e => hn (.inr (.inr e.symm)))⟩).trans (Only.set w4 ⟨t, 0, none⟩ v' (.inl rfl))
  have hthing : ∀ k, thingD S B D k → (w4.setCell ⟨t, 0, none⟩ v').heap[k]? = w.heap[k]? := fun k hk => by
    refine hO.block k (heldD_lt h k (.inr (.inr hk))) ?_
    rintro (rfl | rfl | e)
    · rcases hk with ⟨y, hy, e⟩ | ⟨y, hy, a, ha, e⟩
      · exact (h.node y hy).ne h.tree (by decide) e
      · obtain ⟨cs, hc⟩ := (h.data y hy).2 a ha
        rw [e] at hc
        have e2 := Eq.trans (Eq.symm hc) h.tree
        simp only [Option.some.injEq, Obj.cells.injEq] at e2
        exact absurd e2.2.1 (by decide)
    · rcases hk with ⟨y, hy, e⟩ | ⟨y, hy, a, ha, e⟩
      · exact hne y hy e
      · obtain ⟨cs, hc⟩ := (h.data y hy).2 a ha
        rw [e] at hc
        have e2 := Eq.trans (Eq.symm hc) hx
        simp only [Option.some.injEq, Obj.cells.injEq] at e2
        exact absurd e2.2.1 (by decide)
    · rcases h.row.2 with ⟨hv, _⟩ | ⟨g, cap, cur, hv, _, hg, _⟩
      · rw [hv] at e; cases e
      · rw [hv] at e; cases e
        have hB : Blk w g 129 cur.toList := by unfold Blk; rw [Array.toArray_toList]; exact hg
        rcases hk with ⟨y, hy, e⟩ | ⟨y, hy, a, ha, e⟩
        · exact (h.node y hy).ne hB (by decide) e
        · obtain ⟨cs, hc⟩ := (h.data y hy).2 a ha
          rw [e] at hc
          have e2 := Eq.trans (Eq.symm hc) hB
          simp only [Option.some.injEq, Obj.cells.injEq] at e2
          exact absurd e2.2.1 (by decide)
  have hdat : DataAt (w4.setCell ⟨t, 0, none⟩ v') x d := hd.heap (fun a ha => by
    refine hO.block _ (hd.lt ha) ?_
    obtain ⟨cs, hc⟩ := hd.2 a ha
    have hB : Blk w a.block 5 cs.toList := by unfold Blk; rw [Array.toArray_toList]; exact hc
    rintro (e | e | e)
    · exact hB.ne h.tree (by decide) e
    · exact hB.ne hx (by decide) e
    · rcases h.row.2 with ⟨hv, _⟩ | ⟨g, cap, cur, hv, _, hg, _⟩
      · rw [hv] at e; cases e
      · rw [hv] at e
        simp only [Value.ownBlock, Option.some.injEq] at e
        have hB2 : Blk w g 129 cur.toList := by unfold Blk; rw [Array.toArray_toList]; exact hg
        exact hB.ne hB2 (by decide) e.symm)
  have HK := Lib.hid (show ∃ v'', DocAt (w4.setCell ⟨t, 0, none⟩ v') t v'' (S.add p.data.toList x) (updF B S.next n) (updF D S.next d) ∧ Only (fun k => k = t ∨ k = n ∨ v.ownBlock = some k) w (w4.setCell ⟨t, 0, none⟩ v') ∧ ∀ k, v''.ownBlock = some k → v.ownBlock = some k ∨ w.heap.size ≤ k from
    ⟨v', h.add ho t5 (by rw [str_of]; exact r5) n5 hdat hthing hne, hO, fun k hk => by
      rcases (hv't k hk).1 with e | e
      · exact .inl e
      · exact .inr (by omega)⟩)
  obtain ⟨A0, m0, c0, rfl⟩ : ∃ A m c, v = .slice A m c := by
    rcases h.row.2 with ⟨hv, _⟩ | ⟨g, cap, cur, hv, _⟩
    · exact ⟨_, _, _, hv⟩
    · exact ⟨_, _, _, hv⟩
  obtain ⟨A1, m1, c1, rfl⟩ : ∃ A m c, v' = .slice A m c := by
    rcases hown.2 with ⟨hv, _⟩ | ⟨g, cap, cur, hv, _⟩
    · exact ⟨_, _, _, hv⟩
    · exact ⟨_, _, _, hv⟩
  clear h hx hd hne O1 n1 t1 O2 t2 n2 hvt r2 b3 hb3 r3 hsl t3 n3 hown hg4 hblk t4 n4 hv't t5 n5 r5 hO hthing hdat htn
  unfold ptrB at *
  subst hw2
  subst hw1
  have hap' := hap
  simp only [World.size_setCell] at hap'
  clear hap
  go_enter Tryz.func111, Tryz.ntmps111
  go_wp2_with (at_builtin; refine halt_in ?_)
  refine Halted.out (wpList_append_run rfl _ _ _ _ rfl rfl rfl hap' ?_)
  go_wp2_with fail
  go_end0
  exact ⟨rfl, HK.out⟩
end Go.Proofs.YtlbbehfbjbbckaaGreatDoor

/-! The document's tree: Mkdir, Symlink. -/
set_option linter.unusedVariables false
set_option linter.unusedSimpArgs false
namespace Go.Proofs.YtlbbehfbjbbckaaGreatDoor
open Go.RowKit
attribute [local go_sem] str_toList

theorem fresh_look {r : Option Int × Int} (h : freshS r = 0) : r = (none, 0) := by
  obtain ⟨o, e⟩ := r
  unfold freshS at h
  split at h
  · cases h
  · rename_i hn
    simp only at h hn
    subst h
    cases o with
    | none => rfl
    | some i => exact absurd ⟨rfl, by simp⟩ hn
theorem made_post {w w1 w' : World} {t n : Nat} {v v' : Value} {S : St} {B : Int → Nat} {D : Int → Dt} {p : List UInt8} {x : Th} {d : Dt} {O : Nat → Prop} (ho : OkS S) (ht : TopS S) (hO : ∀ k, k = t ∨ heldD v S B D k → O k) (hl : S.look p = (none, 0))
    (hk : x.kind = 1 ∨ x.kind = 2 ∨ x.kind = 3) (hx : x.target.size ≤ 200 ∧ x.data.length ≤ 65536) (h' : DocAt w' t v' (S.add p x) (updF B S.next n) (updF D S.next d)) (hw : Only (fun k => k = t ∨ k = n ∨ v.ownBlock = some k) w1 w')
    (hv' : ∀ k, v'.ownBlock = some k → v.ownBlock = some k ∨ w1.heap.size ≤ k) (hb : Below w.heap.size w w1) (hn : w.heap.size ≤ n) (hd : ∀ a, d.dA = some a → w.heap.size ≤ a.block) : DocPost w w' t (S.add p x) O := by
  have hlt : ∀ y ∈ S.ls, y.2 ≠ S.next := fun y hy => by have := (ho.lt y hy).2; omega
  refine ⟨fun k => O k ∨ w.heap.size ≤ k, ⟨v', _, _, h', ho.add hl hk hx, ht.add p x, ?_⟩, ?_, fun k hk => hk⟩
  · rintro k (rfl | hk | ⟨y, hy, rfl⟩ | ⟨y, hy, a, ha, rfl⟩)
    · exact .inl (hO k (.inl rfl))
    · rcases hv' k hk with e | e
      · exact .inl (hO k (.inr (.inl e)))
      · exact .inr (Nat.le_trans hb.size e)
    · rcases List.mem_append.1 hy with hy | hy
      · rw [updF_other _ _ (hlt y hy)]; exact .inl (hO _ (.inr (.inr (.inl ⟨y, hy, rfl⟩))))
      · rw [List.mem_singleton] at hy; subst hy
        simp only [updF_same]; exact .inr hn
    · rcases List.mem_append.1 hy with hy | hy
      · rw [updF_other _ _ (hlt y hy)] at ha; exact .inl (hO _ (.inr (.inr (.inr ⟨y, hy, a, ha, rfl⟩))))
      · rw [List.mem_singleton] at hy; subst hy
        simp only [updF_same] at ha; exact .inr (hd a ha)
  · refine ⟨hw.os.trans hb.os, hw.tape.trans hb.tape, hw.output.trans hb.output, Nat.le_trans hb.size hw.size, fun k hk hno => (hw.block k (Nat.lt_of_lt_of_le hk hb.size) ?_).trans (hb.block k hk)⟩
    rintro (rfl | rfl | e)
    · exact hno (hO k (.inl rfl))
    · omega
    · exact hno (hO k (.inr (.inl e)))
set_option maxRecDepth 100000 in
set_option maxHeartbeats 4000000 in
theorem MkdirD_any (t : Nat) (S : St) (O : Nat → Prop) (p : ByteArray) (m : Mt) (w : World) (h : DocS w t S O) (hp : p.size ≤ 2097152) (hn0 : 0 ≤ S.next) (hn1 : S.next ≤ 1099511627776) (hl : S.ls.length ≤ 1000000) :
    Calls Tryz.prog 56 #[.pointer (some ⟨t, 0, none⟩), .string p, aggM m] w fun e w' => e = .returned (.int .i64 (S.mkdir p.data.toList m).1) ∧ DocPost w w' t (S.mkdir p.data.toList m).2 O := by
  obtain ⟨v, B, D, hA, ho, ht, hO⟩ := h
  have HDS := Lib.hid (show ∀ w', Below w.heap.size w w' → DocPost w w' t S O from fun w' hb => doc_same ⟨v, B, D, hA, ho, ht, hO⟩ hb)
  have HP := Lib.hid (fun (w1 w' : World) (n : Nat) (v' : Value) (hl : S.look p.data.toList = (none, 0)) => made_post (w := w) (w1 := w1) (w' := w') (n := n) (v' := v') (x := ⟨2, m, ⟨#[]⟩, []⟩) (d := ⟨none, 0, 0⟩) ho ht hO hl (.inr (.inl rfl)) ⟨Nat.zero_le _, Nat.zero_le _⟩)
  have HM := Lib.hid (fun w => mayD_any p m w hp)
  have HF := Lib.hid (fun w (h : DocAt w t v S B D) => freshD_any t v S B D p w h ho ht hl hp)
  have HK := Lib.hid (fun n w h1 h2 h3 h4 => make_any t n v S B D p ⟨2, m, ⟨#[]⟩, []⟩ ⟨none, 0, 0⟩ w h1 ho hl h2 h3 h4 hn0 hn1)
  have HT := Lib.hid hA
  obtain ⟨X, hX⟩ : ∃ X, S.mkdir p.data.toList m = X := ⟨_, rfl⟩
  have HX : Hid ((if mayU p.data.toList m ≠ 0 then (mayU p.data.toList m, S) else if freshS (S.look p.data.toList) ≠ 0 then (freshS (S.look p.data.toList), S) else (0, S.add p.data.toList ⟨2, m, ⟨#[]⟩, []⟩)) = X) := Lib.hid hX
  have HFL := Lib.hid (show freshS (S.look p.data.toList) = 0 → S.look p.data.toList = (none, 0) from fresh_look)
  rw [hX]
  clear hX hA ho ht hO
  generalize mayU p.data.toList m = er at *
  generalize freshS (S.look p.data.toList) = fr at *
  obtain ⟨a, b, cc, dd, f⟩ := m
  have b0 := Blk.new w 53 [.int .i64 a, .int .i64 b, .int .i64 cc, .int .i64 dd, .int .i64 f]
  have hb0 := (Below.refl w.heap.size w).alloc (Nat.le_refl _) (.cells #[.int .i64 a, .int .i64 b, .int .i64 cc, .int .i64 dd, .int .i64 f] 53)
  have B0 := Lib.hid b0
  have HB0 := Lib.hid hb0
  have T0 := Lib.hid (HT.out.below hb0)
  clear b0 hb0 HT
  unfold aggM at *
  obtain ⟨x0, x1, x2, x3, x4⟩ := meta_cells B0.out
  go_enter Tryz.func56, Tryz.ntmps56
  go_wp2_with fail
  generalize hwa : w.alloc _ = wa at *
  generalize hbm : w.heap.size = bm at *
  refine (HM.out _).mono ?_
  rintro e w1 ⟨rfl, hb1⟩
  have B1 := Lib.hid (B0.out.below hb1)
  have HB1 := Lib.hid (HB0.out.trans (hb1.mono (by rw [← hbm]; exact HB0.out.size)))
  have T1 := Lib.hid (T0.out.below hb1)
  clear hb1 B0 HB0 T0 HM x0 x1 x2 x3 x4
  obtain ⟨x0, x1, x2, x3, x4⟩ := meta_cells B1.out
  by_cases he : er = 0
  · subst he
    have HX := Lib.hid (show (if fr ≠ 0 then (fr, S) else (0, S.add p.data.toList ⟨2, ⟨a, b, cc, dd, f⟩, ⟨#[]⟩, []⟩)) = X from HX.out)
    go_wp2_with fail
    refine (HF.out _ T1.out).mono ?_
    rintro e w2 ⟨rfl, hb2⟩
    have B2 := Lib.hid (B1.out.below hb2)
    have HB2 := Lib.hid (HB1.out.trans (hb2.mono (by rw [← hbm]; exact HB1.out.size)))
    have T2 := Lib.hid (T1.out.below hb2)
    clear hb2 HF B1 HB1 T1 x0 x1 x2 x3 x4
    obtain ⟨x0, x1, x2, x3, x4⟩ := meta_cells B2.out
    by_cases hX0 : fr = 0
    · subst hX0
      have K := Lib.hid (show X = (0, S.add p.data.toList ⟨2, ⟨a, b, cc, dd, f⟩, ⟨#[]⟩, []⟩) from HX.out.symm)
      have hb3 := (Below.refl w2.heap.size w2).alloc (Nat.le_refl _) (.cells #[.int .i64 2, .int .i64 0, .slice none 0 0, .string ⟨#[]⟩, .int .i64 a, .int .i64 b, .int .i64 cc, .int .i64 dd, .int .i64 f] 126)
      have b3 := Blk.new w2 126 (encH 0 ⟨2, ⟨a, b, cc, dd, f⟩, ⟨#[]⟩, []⟩ ⟨none, 0, 0⟩)
      have T3 := Lib.hid (T2.out.below hb3)
      have B3 := Lib.hid b3
      have HB3 := Lib.hid (HB2.out.trans (hb3.mono (by rw [← hbm]; exact HB2.out.size)))
      have HNE := Lib.hid (fun y (hy : y ∈ S.ls) => (show B y.2 ≠ w2.heap.size from fun e => by have := (T2.out.node y hy).lt; omega))
      have hz2 : bm ≤ w2.heap.size := by rw [← hbm]; exact HB2.out.size
      clear hb3 b3 T2 B2 HB2 HX
      go_wp2_with fail
      refine (HK.out w2.heap.size _ T3.out B3.out (DataAt.none _ _ rfl) HNE.out).mono ?_
      rintro e w6 ⟨rfl, v', hA6, hO6, hv6⟩
      have HP6 := Lib.hid (HP.out _ w6 _ v' (HFL.out trivial) hA6 hO6 hv6 HB3.out hz2 (fun a ha => by cases ha))
      clear hA6 hO6 hv6 T3 B3 HB3 HNE HK HP x0 x1 x2 x3 x4
      go_wp2_with fail
      go_ret
      rw [K.out]
      exact ⟨rfl, HP6.out⟩
    · have e1 : (fr == 0) = false := by simpa using hX0
      have K := Lib.hid (show X = (fr, S) by rw [← HX.out, if_pos hX0])
      clear hX0
      go_wp2_with fail
      go_ret
      rw [K.out]
      exact ⟨rfl, HDS.out _ HB2.out⟩
  · have e1 : (er == 0) = false := by simpa using he
    have K := Lib.hid (show X = (er, S) by rw [← HX.out, if_pos he])
    clear he
    go_wp2_with fail
    go_ret
    rw [K.out]
    exact ⟨rfl, HDS.out _ HB1.out⟩
set_option maxRecDepth 100000 in
set_option maxHeartbeats 4000000 in
theorem SymlinkD_any (t : Nat) (S : St) (O : Nat → Prop) (p tg : ByteArray) (m : Mt) (w : World) (h : DocS w t S O) (hp : p.size ≤ 2097152) (hn0 : 0 ≤ S.next) (hn1 : S.next ≤ 1099511627776) (hl : S.ls.length ≤ 1000000) :
    Calls Tryz.prog 100 #[.pointer (some ⟨t, 0, none⟩), .string p, .string tg, aggM m] w fun e w' => e = .returned (.int .i64 (S.symlink p.data.toList tg m).1) ∧ DocPost w w' t (S.symlink p.data.toList tg m).2 O := by
  obtain ⟨v, B, D, hA, ho, ht, hO⟩ := h
  have HDS := Lib.hid (show ∀ w', Below w.heap.size w w' → DocPost w w' t S O from fun w' hb => doc_same ⟨v, B, D, hA, ho, ht, hO⟩ hb)
  have HP := Lib.hid (fun (hts : tg.size ≤ 200) (w1 w' : World) (n : Nat) (v' : Value) (hl : S.look p.data.toList = (none, 0)) => made_post (w := w) (w1 := w1) (w' := w') (n := n) (v' := v') (x := ⟨3, m, tg, []⟩) (d := ⟨none, 0, 0⟩) ho ht hO hl (.inr (.inr rfl)) ⟨hts, Nat.zero_le _⟩)
  have HM := Lib.hid (fun w => mayD_any p m w hp)
  have HF := Lib.hid (fun w (h : DocAt w t v S B D) => freshD_any t v S B D p w h ho ht hl hp)
  have HK := Lib.hid (fun n w h1 h2 h3 h4 => make_any t n v S B D p ⟨3, m, tg, []⟩ ⟨none, 0, 0⟩ w h1 ho hl h2 h3 h4 hn0 hn1)
  have HT := Lib.hid hA
  obtain ⟨X, hX⟩ : ∃ X, S.symlink p.data.toList tg m = X := ⟨_, rfl⟩
  have HX : Hid ((if mayU p.data.toList m ≠ 0 then (mayU p.data.toList m, S) else if tg.size = 0 then (2, S) else if 200 < tg.size then (7, S) else if freshS (S.look p.data.toList) ≠ 0 then (freshS (S.look p.data.toList), S) else (0, S.add p.data.toList ⟨3, m, tg, []⟩)) = X) := Lib.hid hX
  have HFL := Lib.hid (show freshS (S.look p.data.toList) = 0 → S.look p.data.toList = (none, 0) from fresh_look)
  rw [hX]
  clear hX hA ho ht hO
  generalize mayU p.data.toList m = er at *
  generalize freshS (S.look p.data.toList) = fr at *
  obtain ⟨a, b, cc, dd, f⟩ := m
  have b0 := Blk.new w 53 [.int .i64 a, .int .i64 b, .int .i64 cc, .int .i64 dd, .int .i64 f]
  have hb0 := (Below.refl w.heap.size w).alloc (Nat.le_refl _) (.cells #[.int .i64 a, .int .i64 b, .int .i64 cc, .int .i64 dd, .int .i64 f] 53)
  have B0 := Lib.hid b0
  have HB0 := Lib.hid hb0
  have T0 := Lib.hid (HT.out.below hb0)
  clear b0 hb0 HT
  unfold aggM at *
  obtain ⟨x0, x1, x2, x3, x4⟩ := meta_cells B0.out
  go_enter Tryz.func100, Tryz.ntmps100
  go_wp2_with fail
  generalize hwa : w.alloc _ = wa at *
  generalize hbm : w.heap.size = bm at *
  refine (HM.out _).mono ?_
  rintro e w1 ⟨rfl, hb1⟩
  have B1 := Lib.hid (B0.out.below hb1)
  have HB1 := Lib.hid (HB0.out.trans (hb1.mono (by rw [← hbm]; exact HB0.out.size)))
  have T1 := Lib.hid (T0.out.below hb1)
  clear hb1 B0 HB0 T0 HM x0 x1 x2 x3 x4
  obtain ⟨x0, x1, x2, x3, x4⟩ := meta_cells B1.out
  by_cases he : er = 0
  · subst he
    by_cases hz : tg.size = 0
    · have K := Lib.hid (show X = (2, S) by rw [← HX.out, if_neg (by simp), if_pos hz])
      obtain rfl : tg = ⟨#[]⟩ := ByteArray.ext (Array.size_eq_zero_iff.1 hz)
      clear hz HK HP HX
      go_wp2_with fail
      go_ret
      rw [K.out]
      exact ⟨rfl, HDS.out _ HB1.out⟩
    have hnil := nil_toList tg hz
    by_cases hbig : 200 < tg.size
    · have K := Lib.hid (show X = (7, S) by rw [← HX.out, if_neg (by simp), if_neg hz, if_pos hbig])
      have g1 : (200 : Int) < (tg.size : Int) := by omega
      have g2 : decide ((200 : Int) < (tg.size : Int)) = true := decide_eq_true g1
      clear hz hbig HK HP HX
      go_wp2_with fail
      go_ret
      rw [K.out]
      exact ⟨rfl, HDS.out _ HB1.out⟩
    have HX := Lib.hid (show (if fr ≠ 0 then (fr, S) else (0, S.add p.data.toList ⟨3, ⟨a, b, cc, dd, f⟩, tg, []⟩)) = X by rw [← HX.out, if_neg (show ¬ ((0 : Int) ≠ 0) by simp), if_neg hz, if_neg hbig])
    have g1 : ¬ ((200 : Int) < (tg.size : Int)) := by omega
    have g2 : decide ((200 : Int) < (tg.size : Int)) = false := decide_eq_false g1
    have HTS := Lib.hid (show tg.size ≤ 200 by omega)
    clear hz hbig
    go_wp2_with fail
    refine (HF.out _ T1.out).mono ?_
    rintro e w2 ⟨rfl, hb2⟩
    have B2 := Lib.hid (B1.out.below hb2)
    have HB2 := Lib.hid (HB1.out.trans (hb2.mono (by rw [← hbm]; exact HB1.out.size)))
    have T2 := Lib.hid (T1.out.below hb2)
    clear hb2 HF B1 HB1 T1 x0 x1 x2 x3 x4 g1 g2 hnil
    obtain ⟨x0, x1, x2, x3, x4⟩ := meta_cells B2.out
    by_cases hX0 : fr = 0
    · subst hX0
      have K := Lib.hid (show X = (0, S.add p.data.toList ⟨3, ⟨a, b, cc, dd, f⟩, tg, []⟩) from HX.out.symm)
      have hb3 := (Below.refl w2.heap.size w2).alloc (Nat.le_refl _) (.cells #[.int .i64 3, .int .i64 0, .slice none 0 0, .string tg, .int .i64 a, .int .i64 b, .int .i64 cc, .int .i64 dd, .int .i64 f] 126)
      have b3 := Blk.new w2 126 (encH 0 ⟨3, ⟨a, b, cc, dd, f⟩, tg, []⟩ ⟨none, 0, 0⟩)
      have T3 := Lib.hid (T2.out.below hb3)
      have B3 := Lib.hid b3
      have HB3 := Lib.hid (HB2.out.trans (hb3.mono (by rw [← hbm]; exact HB2.out.size)))
      have HNE := Lib.hid (fun y (hy : y ∈ S.ls) => (show B y.2 ≠ w2.heap.size from fun e => by have := (T2.out.node y hy).lt; omega))
      have hz2 : bm ≤ w2.heap.size := by rw [← hbm]; exact HB2.out.size
      clear hb3 b3 T2 B2 HB2 HX
      go_wp2_with fail
      refine (HK.out w2.heap.size _ T3.out B3.out (DataAt.none _ _ rfl) HNE.out).mono ?_
      rintro e w6 ⟨rfl, v', hA6, hO6, hv6⟩
      have HP6 := Lib.hid (HP.out HTS.out _ w6 _ v' (HFL.out trivial) hA6 hO6 hv6 HB3.out hz2 (fun a ha => by cases ha))
      clear hA6 hO6 hv6 T3 B3 HB3 HNE HK HP x0 x1 x2 x3 x4
      go_wp2_with fail
      go_ret
      rw [K.out]
      exact ⟨rfl, HP6.out⟩
    · have e1 : (fr == 0) = false := by simpa using hX0
      have K := Lib.hid (show X = (fr, S) by rw [← HX.out, if_pos hX0])
      clear hX0
      go_wp2_with fail
      go_ret
      rw [K.out]
      exact ⟨rfl, HDS.out _ HB2.out⟩
  · have e1 : (er == 0) = false := by simpa using he
    have e2 : decide (er = 0) = false := decide_eq_false he
    have K := Lib.hid (show X = (er, S) by rw [← HX.out, if_pos he])
    clear he
    go_wp2_with fail
    go_ret
    rw [K.out]
    exact ⟨rfl, HDS.out _ HB1.out⟩
end Go.Proofs.YtlbbehfbjbbckaaGreatDoor
