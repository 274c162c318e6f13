import Derived.Test.YtlndiddplfoceaaDoorBlk
import Derived.Test.YtlndiddplfoceaaDoorChecked
import Derived.Test.YtlndiddplfoceaaDoorShN
import Derived.StillTailTactics
import Derived.IntWalk
import Derived.Deep.MidRow
set_option linter.unusedVariables false
set_option linter.unusedSimpArgs false
namespace Go.Proofs.YtlndiddplfoceaaDoor
open Go.RowKit

theorem rot_k (n : Int) (h1 : 1 ≤ n) (h2 : n ≤ 31) : bits .and .u64 (IntKind.u64.wrap (-n)) 31 = 32 - n := by
  have e : IntKind.u64.wrap (-n) = 18446744073709551616 - n := by rw [IntKind.wrap_u64]; omega
  rw [e]
  have := bits_mask .u64 64 (by decide) (fun n h0 h1 => by rw [IntKind.wrap_u64]; omega) 5 (by decide) (18446744073709551616 - n) (by omega) (by omega)
  rw [show ((2 : Int) ^ 5 - 1) = 31 by decide, show ((2 : Int) ^ 5) = 32 by decide] at this
  rw [this]; omega
/-- A word turned to the right, as the walk spells it. -/
def turnI (x n : Int) : Int := bits .or .u32 (x * 2 ^ (32 - n).toNat % 4294967296) (x / 2 ^ n.toNat)

set_option maxHeartbeats 400000 in
theorem rot_any (x n : Int) (w : World) (h1 : 1 ≤ n) (h2 : n ≤ 31) :
    Calls Tryd.prog 33 #[.int .u32 x, .int .i64 (-n)] w fun e w' => e = .returned (.int .u32 (turnI x n)) ∧ w = w' := by
  have hk := rot_k n h1 h2
  go_enter Tryd.func33, Tryd.ntmps33
  go_wp2_with fail
  go_ret
  exact ⟨by rw [show (32 - (32 - n)) = n by omega]; rfl, rfl⟩
set_option maxHeartbeats 400000 in
theorem turned_any (x n : Int) (w : World) (h1 : 1 ≤ n) (h2 : n ≤ 31) :
    Calls Tryd.prog 32 #[.int .u32 x, .int .i64 n] w fun e w' => e = .returned (.int .u32 (turnI x n)) ∧ w = w' := by
  go_enter Tryd.func32, Tryd.ntmps32
  have hw : IntKind.i64.wrap (-n) = -n := IntWalk.i64_in _ (by omega)
  go_wp2_with fail
  refine (rot_any x n w h1 h2).mono ?_
  rintro e w' ⟨rfl, rfl⟩
  go_wp2_with fail
  go_ret
  exact ⟨rfl, rfl⟩

/-! blocks that are known whole -/
theorem wpList_store_row {P : Program} {ops : Array Oper} {rest : List Oper} {op : Oper} {a : Act} {w : World} {Q : Exit → Act → World → Prop} (hgd : op.guard = none) (ty : TypeId) (x y : Operand) (ho : op.op = .store ty x y)
    (g : Nat) (cells old : Array Value) (t : TypeId) (hx : a.eval x = .pointer (some ⟨g, 0, none⟩)) (hy : a.eval y = .agg cells)
    (hg : w.heap[g]? = some (.cells old t (0, 0))) (hi : (P.info? ty).map (·.size) = some cells.size) (hs : old.size = cells.size) (h1 : cells.all (·.oneCell') = true)
    (h : wpList P ops Q rest (a.put op.dst undef) (w.setRow g cells)) : wpList P ops Q (op :: rest) a w :=
  wpList_plain hgd fun K hK => by
    unfold Oper.wp execOp
    simp only [ho, hx, hy, Instr.storeAt, Instr.sureAddr, Sem.run_bind, Sem.run_pure, Result.andThen_ok, run_storeVar_row w g t ty old cells hg hi hs h1]
    exact hK _ _ h
theorem below_setRow {B : Nat} {w w1 : World} (h : Below B w w1) {g : Nat} (hg : B ≤ g) (cs : Array Value) : Below B w (w1.setRow g cs) :=
  ⟨h.os, h.tape, h.output, by simp; exact h.size, fun k hk => (setRow_other w1 g k cs (by omega)).trans (h.block k hk)⟩
theorem turned_st (x n : Int) (w : World) (h1 : 1 ≤ n) (h2 : n ≤ 31) :
    Calls Tryd.prog 32 #[.int .u32 x, .int .i64 n] w fun e w' => e = .returned (.int .u32 (turnI x n)) ∧ w' = w :=
  (turned_any x n w h1 h2).mono fun _ _ ⟨a, b⟩ => ⟨a, b.symm⟩
def u32s (l : List Int) : List Value := l.map (Value.int .u32)
theorem u32s_len (l : List Int) : (u32s l).length = l.length := by simp [u32s]
theorem under8 : Tryd.prog.underlying 46 = some (.array 8 38) := by kernel_rfl
theorem under64 : Tryd.prog.underlying 55 = some (.array 64 38) := by kernel_rfl

set_option maxHeartbeats 1000000 in
theorem first_any (w : World) :
    Calls Tryd.prog 25 #[] w fun e w' => e = .returned (.agg (u32s hI).toArray) ∧ Below w.heap.size w w' := by
  go_enter Tryd.func25, Tryd.ntmps25
  go_wp2_with fail
  refine bodyPost_ret (results_cell_row rfl _ _ w.heap.size _ _ _ _ rfl (heap_alloc_new w _) under8 rfl (by kernel_rfl)) rfl ⟨rfl, (Below.refl _ _).alloc (Nat.le_refl _) _⟩
set_option maxRecDepth 100000 in
set_option maxHeartbeats 1000000 in
theorem factors_any (w : World) :
    Calls Tryd.prog 31 #[] w fun e w' => e = .returned (.agg (u32s kI).toArray) ∧ Below w.heap.size w w' := by
  go_enter Tryd.func31, Tryd.ntmps31
  go_wp2_with (refine wpList_store_row rfl 55 (.tmp 0) (.tmp 1) rfl w.heap.size _ _ _ rfl rfl (heap_alloc_new w _) (by kernel_rfl) (by kernel_rfl) (by kernel_rfl) ?_)
  refine bodyPost_ret (results_cell_row rfl _ _ w.heap.size _ _ _ _ rfl (setRow_heap _ _ _ _ _ _ (heap_alloc_new w _)) under64 rfl (by kernel_rfl)) rfl ⟨rfl, below_setRow ((Below.refl _ _).alloc (Nat.le_refl _) _) (Nat.le_refl _) _⟩
end Go.Proofs.YtlndiddplfoceaaDoor
