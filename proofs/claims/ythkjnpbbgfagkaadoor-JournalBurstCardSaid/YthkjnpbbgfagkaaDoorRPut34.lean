import Derived.Test.YthkjnpbbgfagkaaDoorJPut
set_option linter.unusedVariables false
set_option linter.unusedSimpArgs false
namespace Go.Proofs.YthkjnpbbgfagkaaDoor
open Go.RowKit

set_option maxRecDepth 100000 in
set_option maxHeartbeats 1000000 in
theorem RPut34_no (r : Rec) (w : World) (hm : ¬ May r) :
    Calls Tryd.prog 15 #[.agg (encR r).toArray] w fun e w' => e = .returned (.tuple #[.slice none 0 0, .int .i64 2]) ∧ Below w.heap.size w w' := by
  have hr : mayR r = false := by simp [mayR, hm]
  have HR := Lib.hid hr
  clear hr hm
  have hb0 : Below w.heap.size w (w.alloc (.cells #[.int .i64 r.kind, .string r.path, .int .i64 r.num, .string r.sum] 23)) := (Below.refl _ _).alloc (Nat.le_refl _) _
  simp only [encR]
  go_enter Tryd.func15, Tryd.ntmps15
  go_wp2_with fail
  refine (RMay_any r _).mono ?_
  rintro e w1 ⟨rfl, hb1⟩
  rw [HR.out]
  have HB := Lib.hid (hb0.trans (hb1.mono (by rw [World.size_alloc]; omega)))
  clear hb0 hb1
  go_wp2_with fail
  go_ret2
  exact ⟨rfl, HB.out⟩

set_option maxRecDepth 100000 in
set_option maxHeartbeats 1000000 in
theorem RPut34_yes (r : Rec) (w : World) (hm : May r) :
    Calls Tryd.prog 15 #[.agg (encR r).toArray] w fun e w' => ∃ v, e = .returned (.tuple #[v, .int .i64 0]) ∧ w'.ownsRow w.heap.size 5 1 v (putRec r).length (bys (putRec r)) ∧ Below w.heap.size w w' := by
  have hr : mayR r = true := by simp [mayR, hm]
  have HR := Lib.hid hr
  have HM := Lib.hid hm
  have hk : 1 ≤ r.kind ∧ r.kind ≤ 4 := ⟨hm.1, hm.2.1⟩
  have hps : r.path.size ≤ 200 := hm.2.2.2.1
  have hss : r.sum.size ≤ 32 := by have := hm.2.2.2.2.2.2.2; omega
  have hkb : r.kind = ((UInt8.ofNat r.kind.toNat).toNat : Int) := by simp; omega
  have HK := Lib.hid hkb
  clear hr hm hkb
  obtain ⟨i0, hi, hz0, hz1, hz2⟩ := info_parts info5
  have hb0 : Below w.heap.size w (w.alloc (.cells #[.int .i64 r.kind, .string r.path, .int .i64 r.num, .string r.sum] 23)) := (Below.refl _ _).alloc (Nat.le_refl _) _
  have hx0 := Box4.mk_alloc w r 23
  simp only [encR]
  go_enter Tryd.func15, Tryd.ntmps15
  go_wp2_with fail
  refine (RMay_any r _).mono ?_
  rintro e w1 ⟨rfl, hb1⟩
  rw [HR.out]
  have hx1 := hx0.below hb1
  have hb1' := hb0.trans (hb1.mono (by rw [World.size_alloc]; omega))
  have hlt := World.block_lt_of_cell? w1 _ hx1.c0
  simp only at hlt
  obtain ⟨e0, e1, e2, e3⟩ := hx1
  clear hb0 hb1 hx0
  have hkw : r.kind = ((UInt8.ofNat r.kind.toNat).toNat : Int) := by simp; omega
  have hs29 : Sl 1 (w1.alloc (.cells #[.int .u8 r.kind] 5)).drew (some ⟨w1.heap.size, 0, none⟩) 1 (bys [UInt8.ofNat r.kind.toNat]) := by
    generalize hK2 : UInt8.ofNat r.kind.toNat = K at *
    rw [hkw]
    exact Sl.drew ⟨rfl, by omega, .inr ⟨_, 0, rfl, fun j u hj => by rw [World.cell?_alloc_new, Nat.zero_add]; simpa [bys, bv] using hj⟩⟩
  have hbA : Below w.heap.size w (w1.alloc (.cells #[.int .u8 r.kind] 5)).drew := (hb1'.alloc hb1'.size _).drew
  have f0 : (w1.alloc (.cells #[.int .u8 r.kind] 5)).drew.cell? ⟨w.heap.size, 0, none⟩ = some (.int .i64 r.kind) := by
    show (w1.alloc _).cell? _ = _
    rw [World.cell?_alloc_lt _ _ _ hlt]; exact e0
  have f1 : (w1.alloc (.cells #[.int .u8 r.kind] 5)).drew.cell? ⟨w.heap.size, 1, none⟩ = some (.string r.path) := by
    show (w1.alloc _).cell? _ = _
    rw [World.cell?_alloc_lt _ _ _ hlt]; exact e1
  have f2 : (w1.alloc (.cells #[.int .u8 r.kind] 5)).drew.cell? ⟨w.heap.size, 2, none⟩ = some (.int .i64 r.num) := by
    show (w1.alloc _).cell? _ = _
    rw [World.cell?_alloc_lt _ _ _ hlt]; exact e2
  have f3 : (w1.alloc (.cells #[.int .u8 r.kind] 5)).drew.cell? ⟨w.heap.size, 3, none⟩ = some (.string r.sum) := by
    show (w1.alloc _).cell? _ = _
    rw [World.cell?_alloc_lt _ _ _ hlt]; exact e3
  have hWs : (w1.alloc (.cells #[.int .u8 r.kind] 5)).drew.heap.size = w1.heap.size + 1 := World.size_alloc _ _
  have hle1 := putN_len_le r.path.size
  have hle2 := putN_len_le r.num
  have hle3 : (putT r.path).length ≤ 210 := by rw [putT_len]; omega
  clear hkw
  go_wp2_with fail
  go_region_held3 (fun w' => w'.cell? ⟨w.heap.size, 0, none⟩ = some (.int .i64 r.kind) ∧ w'.cell? ⟨w.heap.size, 1, none⟩ = some (.string r.path) ∧ w'.cell? ⟨w.heap.size, 2, none⟩ = some (.int .i64 r.num))
    (first
      | exact ⟨g0, g1, g2⟩
      | exact ⟨k0, k1, k2⟩
      | go_keep)
    (first
      | (go_at_call 33; refine (RPutText_any _ _ _ [UInt8.ofNat r.kind.toNat] r.path _ hs29 (by omega) (by omega)).mono ?_; rintro e w2 ⟨v2, rfl, hown2, hb2⟩; have hown2' := Lib.hid hown2; obtain ⟨A2, c2, rfl, hc2, hs2, hA2, _⟩ := own_sl hown2; have g0 := (hb2.cell (p := ⟨w.heap.size, 0, none⟩) (by rw [hWs]; show w.heap.size < _; omega)).trans f0; have g1 := (hb2.cell (p := ⟨w.heap.size, 1, none⟩) (by rw [hWs]; show w.heap.size < _; omega)).trans f1; have g2 := (hb2.cell (p := ⟨w.heap.size, 2, none⟩) (by rw [hWs]; show w.heap.size < _; omega)).trans f2; have g3 := (hb2.cell (p := ⟨w.heap.size, 3, none⟩) (by rw [hWs]; show w.heap.size < _; omega)).trans f3; have hbB := hbA.trans (hb2.mono hbA.size))
      | (go_at_call 32; refine (RPut_any _ _ _ _ _ _ hs2 (by omega)).mono ?_; rintro e w3 ⟨v3, rfl, hown3, hb3⟩; have hlt2 : w.heap.size < w2.heap.size := World.block_lt_of_cell? w2 _ g0; have k0 := (hb3.cell (p := ⟨w.heap.size, 0, none⟩) hlt2).trans g0; have k1 := (hb3.cell (p := ⟨w.heap.size, 1, none⟩) hlt2).trans g1; have k2 := (hb3.cell (p := ⟨w.heap.size, 2, none⟩) hlt2).trans g2; have k3 := (hb3.cell (p := ⟨w.heap.size, 3, none⟩) hlt2).trans g3; have hbC := hbB.trans (hb3.mono hbB.size)))
  have hlen : (bys ([UInt8.ofNat r.kind.toNat] ++ putT r.path ++ putN r.num)).length = 1 + (putT r.path).length + (putN r.num).length := by have := hown3.1; omega
  obtain ⟨v4, w4, hap4, hown4, hgrow4, _⟩ := Lib.run_append_own_string (P := Tryd.prog) (w := w3) w2.heap.size 27 9 27 5 i0 Tryd.underlying27 Tryd.underlying9 hi hz0 hz1 hz2 v3 _ _ hown3 r.sum (by unfold maxLen; omega) (by omega) hb3.size
  have hb4 : Below w2.heap.size w2 w4 := hb3.grown hgrow4 hb3.size (fun k hk => (hown3.lt k hk).1)
  have hbD := hbB.trans (hb4.mono hbB.size)
  have hrb : [UInt8.ofNat r.kind.toNat] ++ putT r.path ++ putN r.num ++ r.sum.data.toList = recB r := by simp [recB]
  rw [strCells_bys, ← bys_append, hrb, show 1 + (putT r.path).length + (putN r.num).length + r.sum.size = (recB r).length by rw [recB_len]] at hown4
  have hrl : (recB r).length ≤ 260 := by rw [recB_len]; omega
  obtain ⟨A4, c4, rfl, hc4, hs4, _, _⟩ := own_sl hown4
  have hput : putRec r = putN (recB r).length ++ (recB r ++ sealB (crcOf (recB r))) := rfl
  have HPUT := Lib.hid hput
  have hle4 := putN_len_le (recB r).length
  clear hown4 hgrow4 hb4 hown3 hb3 k0 k1 k2 hbC hbB hbA hb1' e0 e1 e2 e3 f0 f1 f2 f3 g0 g1 g2 g3 hs29 hWs hown2 hown2' hb2 hs2 hA2 hc2 hrb hput hlen
  rename_i hHeld
  clear hHeld
  have hapx : (Builtin.append_ #[27, 9] 27 #[v3, .string r.sum]).run Tryd.prog w3 = .ok (.slice A4 (recB r).length c4) w4 := hap4
  generalize recB r = B at *
  go_wp2_with (at_builtin; refine halt_in ?_)
  refine Halted.out (wpList_append_run rfl _ _ _ _ rfl rfl rfl hapx ?_)
  clear hap4 hapx
  go_wp2_with fail
  refine (RPut_any none 0 0 [] _ _ (Sl.nil _ _ _) (by omega)).mono ?_
  rintro e w5 ⟨v5, rfl, hown5, hb5⟩
  rw [Nat.zero_add, List.nil_append] at hown5
  have hbE := hbD.trans (hb5.mono hbD.size)
  have hs5 := hs4.below hb5
  go_wp2_with fail
  refine (RSeal_any _ _ _ _ _ hs5 (by omega)).mono ?_
  rintro e w6 ⟨v6, rfl, hown6, hb6⟩
  have hbF := hbE.trans (hb6.mono hbE.size)
  have hown5' := own_below hown5 hb6
  obtain ⟨A6, c6, rfl, hc6, hs6, _, _⟩ := own_sl hown6
  obtain ⟨v7, w7, hap7, hown7, hgrow7⟩ := run_append_sl (P := Tryd.prog) (w := w6) w4.heap.size 27 27 5 i0 (.int .u8 0) 1 1 Tryd.underlying27 hi hz0 hz1 hz2 rfl (by decide) hown5' (c := c6) hs6 (bys_one _) (by omega) (by omega) (Nat.le_trans hb5.size hb6.size)
  have hbG := hbF.grown hgrow7 hbF.size (fun k hk => Nat.le_trans hbD.size (hown5'.lt k hk).1)
  rw [← bys_append, ← HPUT.out] at hown7
  have hl7 : (putN B.length).length + (B.length + 4) = (putRec r).length := by
    have := hown7.1
    simp only [bys_length, Nat.mul_one] at this
    exact this.symm
  rw [hl7] at hown7
  have HO := Lib.hid (own_base_mono hown7 hbD.size)
  have HB := Lib.hid hbG
  clear hown7 hgrow7 hbG hbF hbE hbD hown5' hown6 hown5 hs5 hs6 hs4 hl7
  go_wp2_with (at_builtin; refine halt_in ?_)
  refine Halted.out (wpList_append_run rfl _ _ _ _ rfl rfl rfl hap7 ?_)
  clear hap7
  go_wp2_with fail
  go_ret2
  exact ⟨v7, rfl, HO.out, HB.out⟩
end Go.Proofs.YthkjnpbbgfagkaaDoor
