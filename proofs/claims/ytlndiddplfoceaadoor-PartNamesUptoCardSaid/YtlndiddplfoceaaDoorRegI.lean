import Derived.WalkKit
import Derived.RegionTactic
import Derived.Laws.Rows
import Derived.Deep.MidRow
/-! A region that draws its order, by what holds between its operations. -/
set_option linter.unusedVariables false
set_option linter.unusedSimpArgs false
namespace Go.Proofs.YtlndiddplfoceaaDoor

theorem wpAny_inv {P : Program} {md : Region.Mode} {ops : Array Oper} {Q : Exit → Act → World → Prop} (I : Nat → Array Bool → Act → World → Prop)
    (h0 : ∀ L a w, I 0 L a w → Region.ready md ops L = [] ∧ Q .normal a w)
    (hs : ∀ n L a w, I (n + 1) L a w → (Region.ready md ops L = [] → Q .normal a w) ∧ ∀ i ∈ Region.ready md ops L, wpOp P ops Q i (I n (L.setIfInBounds i true)) a w) :
    ∀ n L a w, I n L a w → wpAny P md ops Q n L a w := by
  intro n
  induction n with
  | zero => intro L a w h; exact h0 L a w h
  | succ n ih =>
    intro L a w h
    obtain ⟨h1, h2⟩ := hs n L a w h
    exact ⟨h1, fun i hi => wpOp_mono (fun a' w' h' => ih _ _ _ h') (h2 i hi)⟩
theorem wpOp_do {P : Program} {ops : Array Oper} {Q : Exit → Act → World → Prop} {i : Nat} {o : Oper} {K : Act → World → Prop} {a : Act} {w : World} (ho : ops[i]? = some o) (hg : o.guard = none)
    (h : Oper.wp P o a w K Q) : wpOp P ops Q i K a w := by
  unfold wpOp
  rw [ho]
  show if Region.wanted o (yielded ops a.tmps) = true then _ else _
  rw [if_pos (by simp [Region.wanted, hg])]
  exact .inl h
theorem wp_store_rowT {P : Program} {op : Oper} {a : Act} {w : World} {K : Act → World → Prop} {Q : Exit → Act → World → Prop} (ty : TypeId) (x y : Operand) (ho : op.op = .store ty x y)
    (g : Nat) (cells old : Array Value) (t : TypeId) (hx : a.eval x = .pointer (some ⟨g, 0, none⟩)) (hy : a.eval y = .agg cells)
    (hg : w.heap[g]? = some (.cells old t (0, 0))) (hi : (P.info? ty).map (·.size) = some cells.size) (hs : old.size = cells.size) (h1 : cells.all (·.oneCell') = true)
    (h : K (a.put op.dst undef) (w.setRow g cells)) : op.wp P a w K Q := by
  unfold Oper.wp execOp
  simp only [ho, hx, hy, Instr.storeAt, Instr.sureAddr, Sem.run_bind, Sem.run_pure, Result.andThen_ok, run_storeVar_row w g t ty old cells hg hi hs h1]
  exact h
theorem wp_callT {P : Program} {o : Oper} {a : Act} {w : World} {K : Act → World → Prop} {Q : Exit → Act → World → Prop} (f : FuncId) (args : Array Operand) (ats : Array TypeId)
    (ho : o.op = .call { callee := .value (.func f), args := args, argTypes := ats }) {fn : Func} (hf : P.funcs[f]? = some fn) (hn : (fn.name == "runtime.NumGoroutine") = false) (hb : fn.body.isSome = true)
    {vs : Array Value} (hvs : args.map a.eval = vs) {v : Value} {R : World → Prop}
    (hc : Calls P f vs w fun e w'' => e = .returned v ∧ R w'') (h : ∀ w'', R w'' → K (a.put o.dst v) w'') : Oper.wp P o a w K Q := by
  obtain ⟨c, hc'⟩ := Option.isSome_iff_exists.1 hb
  have h1 : fn.name ≠ "runtime.NumGoroutine" := by simpa using hn
  have hrun : (execOp a.eval o).run P w = .ok (.enter f vs) w := by
    subst hvs
    have hcf : (callFunc f (args.map a.eval)).run P w = .ok (.enter f (args.map a.eval)) w := by simp [callFunc, hf, h1, hc']
    unfold execOp
    simp only [ho, resolve, invoke, Act.eval, Sem.run_bind]
    simp [go_sem] at hcf ⊢
    exact hcf
  unfold Oper.wp
  rw [hrun, Oper.upon_enter]
  refine hc.mono ?_
  rintro e w'' ⟨rfl, hr⟩
  exact h _ hr
theorem wp_allocT {P : Program} {o : Oper} {a : Act} {w : World} {K : Act → World → Prop} {Q : Exit → Act → World → Prop} (t : TypeId) (ho : o.op = .alloc t) {i : TypeInfo} {cs : Array Value} (hi : P.info? t = some i) (hz : i.zero = some (.agg cs))
    (h : K (a.put o.dst (.pointer (some ⟨w.heap.size, 0, none⟩))) (w.alloc (.cells cs t))) : Oper.wp P o a w K Q := by
  have hz2 : (zeroValue t).run P w = .ok (.agg cs) w := by simp [zeroValue, typeInfo, hi, hz]
  have hrun : (execOp a.eval o).run P w = .ok (.value (.pointer (some ⟨w.heap.size, 0, none⟩))) (w.alloc (.cells cs t)) := by
    unfold execOp
    simp only [ho]
    simp [go_sem, hz2]
  unfold Oper.wp
  rw [hrun]
  exact h
end Go.Proofs.YtlndiddplfoceaaDoor
