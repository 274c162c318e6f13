import Derived.Test.YtlndiddplfoceaaDoorBase
set_option linter.unusedVariables false
set_option linter.unusedSimpArgs false
namespace Go.Proofs.YtlndiddplfoceaaDoor
open Go.RowKit

/-- A block that is known whole. -/
def Blk (w : World) (g : Nat) (T : TypeId) (cs : List Value) : Prop := w.heap[g]? = some (.cells cs.toArray T (0, 0))
theorem Blk.lt {w : World} {g : Nat} {T : TypeId} {cs : List Value} (h : Blk w g T cs) : g < w.heap.size := (Array.getElem?_eq_some_iff.1 h).1
theorem Blk.new (w : World) (T : TypeId) (cs : List Value) : Blk (w.alloc (.cells cs.toArray T)) w.heap.size T cs := heap_alloc_new w _
theorem Blk.newA (w : World) (T : TypeId) (cs : Array Value) : Blk (w.alloc (.cells cs T)) w.heap.size T cs.toList := by
  have := heap_alloc_new w (.cells cs T); unfold Blk; rwa [Array.toArray_toList]
theorem Blk.alloc {w : World} {g : Nat} {T : TypeId} {cs : List Value} (h : Blk w g T cs) (o : Obj) : Blk (w.alloc o) g T cs := (heap_alloc_old w o h.lt).trans h
theorem Blk.below {w w1 : World} {g : Nat} {T : TypeId} {cs : List Value} (h : Blk w g T cs) (hb : Below w.heap.size w w1) : Blk w1 g T cs := (hb.block g h.lt).trans h
theorem Blk.set {w : World} {g : Nat} {T : TypeId} {cs : List Value} (h : Blk w g T cs) (i : Nat) (v : Value) : Blk (w.setCell ⟨g, i, none⟩ v) g T (cs.set i v) := by
  have := heap_setCell_same w g i cs.toArray T v h
  unfold Blk; rw [this]; simp
theorem Blk.other {w : World} {g : Nat} {T : TypeId} {cs : List Value} (h : Blk w g T cs) {a : Addr} (ha : g ≠ a.block) (v : Value) : Blk (w.setCell a v) g T cs := (heap_setCell_other w a g v ha).trans h
theorem Blk.drew {w : World} {g : Nat} {T : TypeId} {cs : List Value} (h : Blk w g T cs) : Blk w.drew g T cs := h
theorem Blk.drewN {w : World} {g : Nat} {T : TypeId} {cs : List Value} (h : Blk w g T cs) (n : Nat) : Blk (w.drewN n) g T cs := by unfold Blk; rw [World.heap_drewN]; exact h
theorem Blk.cell {w : World} {g : Nat} {T : TypeId} {cs : List Value} (h : Blk w g T cs) (j : Nat) : w.cell? ⟨g, j, none⟩ = cs[j]? := by
  rw [cell_of_row w g j _ T _ h]; simp
theorem Blk.frozen {w : World} {g : Nat} {T : TypeId} {cs : List Value} (h : Blk w g T cs) (j : Nat) : w.frozen? ⟨g, j, none⟩ = false := frozen_of_row w g j _ T h
theorem Blk.grown {w w1 : World} {g : Nat} {T : TypeId} {cs : List Value} (h : Blk w g T cs) {row : Option Nat} (hg : w.grownBy w1 row) (hne : some g ≠ row) : Blk w1 g T cs := (hg.block g h.lt hne).trans h
theorem Blk.setRow {w : World} {g : Nat} {T : TypeId} {cs : List Value} (h : Blk w g T cs) (ds : List Value) : Blk (w.setRow g ds.toArray) g T ds := setRow_heap w g _ _ T _ h
theorem Blk.setRow_other {w : World} {g k : Nat} {T : TypeId} {cs : List Value} (h : Blk w g T cs) (hne : g ≠ k) (ds : Array Value) : Blk (w.setRow k ds) g T cs := (Go.setRow_other w k g ds hne).trans h
theorem Blk.ne {w : World} {g g' : Nat} {T T' : TypeId} {cs cs' : List Value} (h : Blk w g T cs) (h' : Blk w g' T' cs') (hne : T ≠ T') : g ≠ g' := by
  rintro rfl
  have e := Eq.trans (Eq.symm h) h'
  simp only [Option.some.injEq, Obj.cells.injEq] at e
  exact hne e.2.1
theorem Blk.sl {w : World} {g : Nat} {T : TypeId} {cs : List Value} (h : Blk w g T cs) {o n sz : Nat} {ds : List Value} (hd : (cs.drop o).take (n * sz) = ds) (hl : ds.length = n * sz) (hm : n ≤ 9223372036854775807) : Sl sz w (some ⟨g, o, none⟩) n ds :=
  ⟨hl, hm, .inr ⟨g, o, rfl, fun j v hj => by
    rw [h.cell, ← hj, ← hd, List.getElem?_take]
    have : j < n * sz := by rw [← hl]; exact (List.getElem?_eq_some_iff.1 hj).1
    rw [if_pos this, List.getElem?_drop]⟩⟩
end Go.Proofs.YtlndiddplfoceaaDoor
