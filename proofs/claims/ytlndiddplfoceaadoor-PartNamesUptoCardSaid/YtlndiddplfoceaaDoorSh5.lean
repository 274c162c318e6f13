import Derived.Test.YtlndiddplfoceaaDoorSh4
set_option linter.unusedVariables false
set_option linter.unusedSimpArgs false
namespace Go.Proofs.YtlndiddplfoceaaDoor
open Go.RowKit

theorem underB : Tryd.prog.underlying 26 = some (.slice (Tryd.prog.elem 26)) := by kernel_rfl
theorem elemB : Tryd.prog.elem 26 = 5 := by kernel_rfl
theorem infoB : (Tryd.prog.info? 5).map (fun i => (i.zero, i.size, i.bytes)) = some (some (.int .u8 0), 1, 1) := by kernel_rfl
def h0S : S8 := ⟨1779033703, 3144134277, 1013904242, 2773480762, 1359893119, 2600822924, 528734635, 1541459225⟩
theorem h0S_l : h0S.l = hI := rfl
def zeroB : List UInt8 := List.replicate 64 0
theorem build_st (w : World) : (Instr.build 50 #[(0, .agg (u32s hI).toArray)]).run Tryd.prog w = .ok (.agg (stC hI zeroB 0 0).toArray) w := by
  exact run_build w 50 _ (stC hI zeroB 0 0).toArray (by kernel_rfl)
theorem wpList_val {P : Program} {ops : Array Oper} {rest : List Oper} {o : Oper} {a : Act} {w w' : World} {Q : Exit → Act → World → Prop} (hg : o.guard = none) {v : Value} (hrun : (execOp a.eval o).run P w = .ok (.value v) w')
    (h : wpList P ops Q rest (a.put o.dst v) w') : wpList P ops Q (o :: rest) a w :=
  wpList_plain hg fun K hK => by
    unfold Oper.wp
    rw [hrun]
    exact hK _ _ h
theorem run_build_op {P : Program} {o : Oper} {a : Act} {w : World} {t : TypeId} {fs : Array (Nat × Operand)} (ho : o.op = .build t fs) {vs : Array (Nat × Value)} (hv : fs.map (fun x => (x.1, a.eval x.2)) = vs) {v : Value} (hr : (Instr.build t vs).run P w = .ok v w) : (execOp a.eval o).run P w = .ok (.value v) w := by
  subst hv
  unfold execOp
  simp only [ho]
  rw [Sem.run_bind, hr]; rfl
theorem zero_st (w : World) : (zeroValue 50).run Tryd.prog w = .ok (.agg (stC (zeroL 8) zeroB 0 0).toArray) w := by
  have h : (Tryd.prog.info? 50).map (·.zero) = some (some (.agg (stC (zeroL 8) zeroB 0 0).toArray)) := by kernel_rfl
  obtain ⟨i, hi, hz⟩ := Option.map_eq_some_iff.1 h
  simp [zeroValue, typeInfo, hi, hz]
theorem stC_len {h : List Int} {bs : List UInt8} {hv n : Int} (hh : h.length = 8) (hb : bs.length = 64) : (stC h bs hv n).length = 74 := by
  unfold stC; rw [List.length_append, List.length_append, u32s_len, bys_length, hh, hb]; rfl
theorem size_st {h : List Int} {bs : List UInt8} {hv n : Int} (hh : h.length = 8) (hb : bs.length = 64) : (Tryd.prog.info? 50).map (·.size) = some (stC h bs hv n).toArray.size := by
  rw [show (stC h bs hv n).toArray.size = 74 from stC_len hh hb]; kernel_rfl
theorem stC_one (h : List Int) (bs : List UInt8) (hv n : Int) : (stC h bs hv n).toArray.all (·.oneCell') = true := by
  simp [stC, u32s, bys, bv, Value.oneCell']

set_option maxRecDepth 100000 in
set_option maxHeartbeats 1000000 in
theorem new_any (w : World) :
    Calls Tryd.prog 16 #[] w fun e w' => ∃ g, e = .returned (.pointer (some ⟨g, 0, none⟩)) ∧ St w' g h0S.l zeroB 0 0 ∧ w.heap.size ≤ g ∧ Below w.heap.size w w' := by
  go_enter Tryd.func16, Tryd.ntmps16
  go_wp2_with fail
  refine (first_any w).mono ?_
  rintro e w1 ⟨rfl, hb⟩
  have hsz := Lib.hid hb.size
  have HB := Lib.hid hb
  clear hb
  go_wp2_with (refine wpList_val rfl (run_build_op rfl (by simp; rfl) (build_st _)) ?_)
  go_ret
  exact ⟨w1.heap.size, rfl, Blk.newA _ _ _, hsz.out, HB.out.alloc hsz.out _⟩
set_option maxRecDepth 100000 in
set_option maxHeartbeats 1000000 in
theorem copy_any (g : Nat) (s : S8) (bs : List UInt8) (hv n : Int) (w : World) (hb : bs.length = 64) (hs : St w g s.l bs hv n) :
    Calls Tryd.prog 27 #[.pointer (some ⟨g, 0, none⟩)] w fun e w' => ∃ g', e = .returned (.pointer (some ⟨g', 0, none⟩)) ∧ St w' g' s.l bs hv n ∧ w.heap.size ≤ g' ∧ Below w.heap.size w w' := by
  have HS := Lib.hid hs
  clear hs
  go_enter Tryd.func27, Tryd.ntmps27
  have hzv := zero_st
  have hzl := stC_len (h := zeroL 8) (bs := zeroB) (hv := 0) (n := 0) rfl rfl
  generalize stC (zeroL 8) zeroB 0 0 = Z at *
  have HZL := Lib.hid hzl
  clear hzl
  have hnew := Lib.hid (Blk.new w 50 Z)
  go_wp2_with (first | (refine wpList_load_row rfl 50 (.tmp 7) rfl g rfl _ _ _ _ HS.out Tryd.underlying50 rfl (size_st rfl hb) ?_) | (refine wpList_store_row rfl 50 (.tmp 3) (.tmp 8) rfl w.heap.size _ _ _ rfl rfl hnew.out (size_st rfl hb) (HZL.out.trans (stC_len rfl hb).symm) (stC_one _ _ _ _) ?_))
  go_ret
  exact ⟨w.heap.size, rfl, hnew.out.setRow _, Nat.le_refl _, below_setRow ((Below.refl _ _).alloc (Nat.le_refl _) _) (Nat.le_refl _) _⟩
end Go.Proofs.YtlndiddplfoceaaDoor
