import Derived.Test.YthkjnpbbgfagkaaDoorCrc2
set_option linter.unusedVariables false
set_option linter.unusedSimpArgs false
namespace Go.Proofs.YthkjnpbbgfagkaaDoor
open Go.RowKit

theorem Tab.below {w w1 : World} (h : Tab w) (h0 : 0 < w.heap.size) (hb : Below w.heap.size w w1) : Tab w1 := fun i hi => (hb.cell (p := ⟨0, i, none⟩) h0).trans (h i hi)
set_option maxRecDepth 100000 in
set_option maxHeartbeats 400000 in
theorem Seal_any (A : Option Addr) (n c : Nat) (bs : List UInt8) (w : World) (hs : Sl 1 w A n (bys bs)) (hn : n ≤ 1099511627776) (ht : Tab w) (h0 : 0 < w.heap.size) :
    Calls Tryd.prog 30 #[.slice A n c] w fun e w' => ∃ v, e = .returned v ∧ w'.ownsRow w.heap.size 5 1 v (n + 4) (bys (bs ++ sealB (crcOf bs))) ∧ Below w.heap.size w w' := by
  obtain ⟨i0, hi, hz0, hz1, hz2⟩ := info_parts info5
  obtain ⟨x0, x1, x2, x3, hx⟩ : ∃ x0 x1 x2 x3 : UInt8, sealB (crcOf bs) = [x0, x1, x2, x3] := ⟨_, _, _, _, rfl⟩
  have HXS := Lib.hid hx
  have hxa : (bys (sealB (crcOf bs))).toArray = #[.int .u8 (x0.toNat : Int), .int .u8 (x1.toNat : Int), .int .u8 (x2.toNat : Int), .int .u8 (x3.toNat : Int)] := by rw [hx]; rfl
  have HXA := Lib.hid hxa
  clear hx hxa
  go_enter Tryd.func30, Tryd.ntmps30
  go_wp2_with fail
  refine (seal_any _ _ _ _ _ hs hn ht h0).mono ?_
  rintro e w1 ⟨rfl, hb1⟩
  rw [HXA.out]
  have hbo := hb1.alloc hb1.size (.cells #[.int .u8 (x0.toNat : Int), .int .u8 (x1.toNat : Int), .int .u8 (x2.toNat : Int), .int .u8 (x3.toNat : Int)] 71)
  have hs1 := hs.below hbo
  have hs4 : Sl 1 (w1.alloc (.cells #[.int .u8 (x0.toNat : Int), .int .u8 (x1.toNat : Int), .int .u8 (x2.toNat : Int), .int .u8 (x3.toNat : Int)] 71)) (some ⟨w1.heap.size, 0, none⟩) 4 (bys [x0, x1, x2, x3]) := ⟨rfl, by omega, .inr ⟨_, 0, rfl, fun j u hj => by
    rw [World.cell?_alloc_new, Nat.zero_add]; simpa [bys, bv] using hj⟩⟩
  have hsz1 : (w1.alloc (.cells #[.int .u8 (x0.toNat : Int), .int .u8 (x1.toNat : Int), .int .u8 (x2.toNat : Int), .int .u8 (x3.toNat : Int)] 71)).heap.size = w1.heap.size + 1 := World.size_alloc _ _
  obtain ⟨w2, hmk, hown2, hgrow2⟩ := run_make_own (P := Tryd.prog) (w := w1.alloc (.cells #[.int .u8 (x0.toNat : Int), .int .u8 (x1.toNat : Int), .int .u8 (x2.toNat : Int), .int .u8 (x3.toNat : Int)] 71)) w.heap.size 27 5 i0 (.int .u8 0) 1 Tryd.underlying27 hi hz0 hz1 .i64 .i64 (n + 4) (by rw [hz2]; omega) (by unfold maxLen; omega) hbo.size
  have hmk2 : (Instr.makeSlice 27 (.int .i64 0) (.int .i64 (n + 4))).run Tryd.prog (w1.alloc (.cells #[.int .u8 (x0.toNat : Int), .int .u8 (x1.toNat : Int), .int .u8 (x2.toNat : Int), .int .u8 (x3.toNat : Int)] 71)) = _ := hmk
  rw [hsz1] at hmk2 hown2
  have hb2 : Below w.heap.size w w2 := hbo.grown hgrow2 hbo.size (by intro k hk; cases hk)
  have hbb2 : Below (w1.heap.size + 1) (w1.alloc (.cells #[.int .u8 (x0.toNat : Int), .int .u8 (x1.toNat : Int), .int .u8 (x2.toNat : Int), .int .u8 (x3.toNat : Int)] 71)) w2 := (Below.refl _ _).grown hgrow2 (by omega) (by intro k hk; cases hk)
  have hs2 : Sl 1 w2 A n (bys bs) := hs.below hb2
  have hs42 : Sl 1 w2 (some ⟨w1.heap.size, 0, none⟩) 4 (bys [x0, x1, x2, x3]) := hs4.grown hgrow2 (by intro a k _ hk; cases hk)
  obtain ⟨v3, w3, hap3, hown3, hgrow3⟩ := run_append_sl (P := Tryd.prog) (w := w2) w.heap.size 27 27 5 i0 (.int .u8 0) 1 1 Tryd.underlying27 hi hz0 hz1 hz2 rfl (by decide) hown2 (c := c) hs2 (bys_one _) (by omega) (by omega) hb2.size
  have hb3 : Below w.heap.size w w3 := hb2.grown hgrow3 hb2.size (fun k hk => (hown2.lt k hk).1)
  have hs43 : Sl 1 w3 (some ⟨w1.heap.size, 0, none⟩) 4 (bys [x0, x1, x2, x3]) := hs42.grown hgrow3 (by intro a k ha hk; cases ha; cases hk; simp)
  obtain ⟨v4, w4, hap4, hown4, hgrow4⟩ := run_append_sl (P := Tryd.prog) (w := w3) w.heap.size 27 27 5 i0 (.int .u8 0) 1 1 Tryd.underlying27 hi hz0 hz1 hz2 rfl (by decide) hown3 (c := 4) hs43 (bys_one _) (by omega) (by omega) hb3.size
  have hb4 : Below w.heap.size w w4 := hb3.grown hgrow4 hb3.size (fun k hk => (hown3.lt k hk).1)
  rw [List.nil_append, ← bys_append, Nat.zero_add] at hown4
  have HO := Lib.hid hown4
  have HB := Lib.hid hb4
  clear hown2 hgrow2 hb2 hbb2 hs2 hs42 hown3 hgrow3 hb3 hs43 hown4 hgrow4 hb4 hs1 hs4 hmk hs ht
  go_wp2_with (at_builtin; refine halt_in ?_)
  refine Halted.out (wpList_append_run rfl _ _ _ _ rfl rfl rfl hap3 ?_)
  go_wp2_with (at_builtin; refine halt_in ?_)
  refine Halted.out (wpList_append_run rfl _ _ _ _ rfl rfl rfl hap4 ?_)
  clear hap3 hap4
  go_wp2_with fail
  go_ret
  exact ⟨v4, rfl, by rw [HXS.out]; exact HO.out, HB.out⟩
end Go.Proofs.YthkjnpbbgfagkaaDoor
