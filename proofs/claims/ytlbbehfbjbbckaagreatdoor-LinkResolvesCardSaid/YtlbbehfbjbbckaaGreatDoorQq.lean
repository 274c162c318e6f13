import Derived.Test.YtlbbehfbjbbckaaGreatDoorQp
import Derived.Test.YtlbbehfbjbbckaaGreatDoorQo
import Derived.Test.YtlbbehfbjbbckaaGreatDoorQk
import Derived.Test.YtlbbehfbjbbckaaGreatDoorQg
/-! The document's tree: Stat. -/
set_option linter.unusedVariables false
set_option linter.unusedSimpArgs false
namespace Go.Proofs.YtlbbehfbjbbckaaGreatDoor
open Go.RowKit
attribute [local go_sem] str_toList

/-- What is told of a thing. -/
def tellS (S : St) (p : List UInt8) (i : Int) : Stt :=
  ⟨(S.th i).kind, i, if (S.th i).kind = 1 then ((S.th i).data.length : Int) else if (S.th i).kind = 2 then ((inL S p).length : Int) else ((S.th i).target.size : Int),
    if (S.th i).kind = 1 then ((namesP S p).length : Int) else 1, (S.th i).mt, (S.th i).target⟩
def statS (S : St) (p : List UInt8) : Stt × Int := match thereS (S.look p) with
  | (some i, e) => if e = 0 then (tellS S p i, 0) else (noT, e)
  | (none, e) => (noT, e)
theorem nodeD_cells {w : World} {g : Nat} {i : Int} {x : Th} {d : Dt} (h : Blk w g 126 (encH i x d)) : w.cell? ⟨g, 0, none⟩ = some (.int .i64 x.kind) ∧ w.cell? ⟨g, 1, none⟩ = some (.int .i64 i) ∧ w.cell? ⟨g, 2, none⟩ = some (.slice d.dA d.dn d.dc) ∧ w.cell? ⟨g, 3, none⟩ = some (.string x.target) ∧
    w.cell? ⟨g, 4, none⟩ = some (.int .i64 x.mt.m0) ∧ w.cell? ⟨g, 5, none⟩ = some (.int .i64 x.mt.m1) ∧ w.cell? ⟨g, 6, none⟩ = some (.int .i64 x.mt.m2) ∧ w.cell? ⟨g, 7, none⟩ = some (.int .i64 x.mt.m3) ∧ w.cell? ⟨g, 8, none⟩ = some (.int .i64 x.mt.m4) :=
  ⟨h.cell 0, h.cell 1, h.cell 2, h.cell 3, h.cell 4, h.cell 5, h.cell 6, h.cell 7, h.cell 8⟩
set_option maxRecDepth 100000 in
set_option maxHeartbeats 16000000 in
theorem StatD_any (t : Nat) (v : Value) (S : St) (B : Int → Nat) (D : Int → Dt) (p : ByteArray) (w : World) (h : DocAt w t v S B D) (ho : OkS S) (ht : TopS S) (hl : S.ls.length ≤ 1000000) (hp : p.size ≤ 2097152) :
    Calls Tryz.prog 46 #[.pointer (some ⟨t, 0, none⟩), .string p] w fun e w' => e = .returned (.tuple #[aggT (statS S p.data.toList).1, .int .i64 (statS S p.data.toList).2]) ∧ Below w.heap.size w w' := by
  have hz0 := (Below.refl w.heap.size w).alloc (Nat.le_refl _) (.cells #[.int .i64 0, .int .i64 0, .int .i64 0, .int .i64 0, .int .i64 0, .int .i64 0, .int .i64 0, .int .i64 0, .int .i64 0, .string ⟨#[]⟩] 55)
  have B0 := Blk.new w 55 (encT noT)
  have HTh := Lib.hid (There_any t v S B D p _ (h.below hz0) ho ht hl hp)
  have HNA := Lib.hid (fun w' (h : DocAt w' t v S B D) => Names_any t v S B D p w' h ho ht hl hp)
  have HINN := Lib.hid (fun w' (h : DocAt w' t v S B D) => In_any t v S B D p w' h ho ht hl)
  have HMEM := Lib.hid (fun i (h : thereS (S.look p.data.toList) = (some i, 0)) => there_mem ho h)
  have HERR := Lib.hid (show (thereS (S.look p.data.toList)).2 = 0 → _ from thereS_err)
  have HKD := Lib.hid ho.kind
  have HT := Lib.hid (h.below hz0)
  have HB := Lib.hid B0
  have HZ := Lib.hid hz0
  have HLI := Lib.hid (show (inL S p.data.toList).length ≤ 1000000 from Nat.le_trans (flat_len _ (inF_len _) _) (by rw [List.length_drop]; omega))
  have HLN := Lib.hid (show (namesP S p.data.toList).length ≤ 1000000 from by
    unfold namesP
    split
    · split
      · exact Nat.le_trans (flat_len _ (nmF_len _) _) hl
      · simp
    · simp)
  obtain ⟨X, hX⟩ : ∃ X, statS S p.data.toList = X := ⟨_, rfl⟩
  have HX : Hid ((match thereS (S.look p.data.toList) with
  | (some i, e) => if e = 0 then (tellS S p.data.toList i, (0 : Int)) else (noT, e)
  | (none, e) => (noT, e)) = X) := Lib.hid hX
  have HTE := Lib.hid (fun i => (show tellS S p.data.toList i = ⟨(S.th i).kind, i, if (S.th i).kind = 1 then ((S.th i).data.length : Int) else if (S.th i).kind = 2 then ((inL S p.data.toList).length : Int) else ((S.th i).target.size : Int),
    if (S.th i).kind = 1 then ((namesP S p.data.toList).length : Int) else 1, (S.th i).mt, (S.th i).target⟩ from rfl))
  rw [hX]
  clear B0 hz0 h hX ho ht
  generalize thereS (S.look p.data.toList) = l at *
  go_enter Tryz.func46, Tryz.ntmps46
  go_wp2_with fail
  refine HTh.out.mono ?_
  rintro e w1 ⟨rfl, hb1⟩
  have T1 := Lib.hid (HT.out.below hb1)
  have B1 := Lib.hid (HB.out.below hb1)
  have Z1 := Lib.hid (HZ.out.trans (hb1.mono HZ.out.size))
  clear hb1 HTh HT HB HZ
  obtain ⟨ro, re⟩ := l
  rcases (Classical.em (re = 0)).symm with h0 | h0
  · have K := Lib.hid (show X = (noT, re) by
      rw [← HX.out]
      cases ro with
      | none => rfl
      | some i => exact if_neg h0)
    have e1 : (re != 0) = true := by simpa using h0
    clear h0 HX
    obtain ⟨⟨x0, x1, x2, x3, x4, x5, x6, x7, x8, x9⟩, y0, y1, y2, y3, y4, y5, y6, y7, y8, y9⟩ := stat_facts B1.out
    go_wp2_with fail
    refine bodyPost_ret (results_cell_tmp_row rfl _ _ w.heap.size 55 _ _ _ rfl (Blk.set10 B1.out _ _ _ _ _ _ _ _ _ _) Tryz.underlying55 rfl (by kernel_rfl)) rfl ⟨?_, below_set10 Z1.out (Nat.le_refl _) _ _ _ _ _ _ _ _ _ _⟩
    rw [K.out]; rfl
  subst h0
  obtain ⟨i, hi⟩ := HERR.out (by first | rfl | trivial)
  obtain rfl : ro = some i := (Prod.mk.inj hi).1
  have K0 := Lib.hid (show X = (tellS S p.data.toList i, 0) from HX.out.symm)
  obtain ⟨y, hy, hyi⟩ := HMEM.out i (by first | rfl | trivial)
  subst hyi
  have KD := Lib.hid (HKD.out y hy)
  have HND := Lib.hid (fun w' (h : DocAt w' t v S B D) => h.node y hy)
  have HDL := Lib.hid (show (D y.2).dn = (S.th y.2).data.length by have := (T1.out.data y hy).1.len; rw [bys_length] at this; omega)
  rw [show ptrM B (some y.2) = .pointer (some ⟨B y.2, 0, none⟩) from rfl]
  obtain ⟨k, hk⟩ : ∃ k, y.2 = k := ⟨_, rfl⟩
  rw [hk] at K0 KD HND HDL ⊢
  clear hy hi hk HX HMEM HERR HKD
  obtain ⟨n0, n1, n2, n3, n4, n5, n6, n7, n8⟩ := nodeD_cells (HND.out w1 T1.out)
  have bx : ∀ a u, w1.cell? a = some u → ∀ w', Below w1.drew.heap.size w1.drew w' → w'.cell? a = some u := fun a u h w' hb => cell_below (w := w1.drew) h hb
  have BX := Lib.hid bx
  clear bx
  obtain ⟨kd, hkd⟩ : ∃ kd, (S.th k).kind = kd := ⟨_, rfl⟩
  obtain ⟨tg, htg⟩ : ∃ tg, (S.th k).target = tg := ⟨_, rfl⟩
  obtain ⟨⟨m0, m1, m2, m3, m4⟩, hmt⟩ : ∃ mt, (S.th k).mt = mt := ⟨_, rfl⟩
  obtain ⟨⟨dA, dn, dc⟩, hd⟩ : ∃ d, D k = d := ⟨_, rfl⟩
  rw [hmt] at n4 n5 n6 n7 n8
  rw [htg] at n3
  rw [hkd] at n0
  rw [hd] at n2
  have HTL := Lib.hid (show tellS S p.data.toList k = ⟨kd, k, if kd = 1 then (dn : Int) else if kd = 2 then ((inL S p.data.toList).length : Int) else (tg.size : Int), if kd = 1 then ((namesP S p.data.toList).length : Int) else 1, ⟨m0, m1, m2, m3, m4⟩, tg⟩ by
    rw [HTE.out, hkd, htg, hmt, ← HDL.out, hd])
  have KD := Lib.hid (show kd = 1 ∨ kd = 2 ∨ kd = 3 by rw [← hkd]; exact KD.out)
  have HN0 := Lib.hid (fun w' (h : Blk w' (B k) 126 (encH k (S.th k) (D k))) => (show w'.cell? ⟨B k, 0, none⟩ = some (.int .i64 kd) ∧ w'.cell? ⟨B k, 3, none⟩ = some (.string tg) from by
    obtain ⟨a0, _, _, a3, _⟩ := nodeD_cells h
    rw [hkd] at a0
    rw [htg] at a3
    exact ⟨a0, a3⟩))
  clear hkd htg hmt hd HTE HDL
  dsimp only at n2 n4 n5 n6 n7 n8
  go_wp2_with fail
  refine wp_region_held_drew (S := fun w' => Below (w1.drew).heap.size (w1.drew) w') (by kernel_rfl) (Below.refl _ _) (fun hHeld => ?_)
  refine wpAnyH_take (i := 0) (oi := ?oi1) (v := ?v1) ?hi1 ?hs1 ?hf1 ?hr1 ?hQ1 (Or.inl ⟨?hg1, ?hy1⟩) hHeld ?rest1
  case hi1 => simp only [List.getElem?_toArray, List.getElem?_cons_succ, List.getElem?_cons_zero]; rfl
  case hs1 => kernel_rfl
  case hf1 => kernel_rfl
  case hr1 => kernel_rfl
  case hg1 => rfl
  case hy1 => (intro w hSw; first | (go_simp; done) | (go_simp; with_reducible rfl))
  case hQ1 => exact fun _ _ _ h => h
  try simp only [Act.put, List.setIfInBounds_toArray, List.set_cons_zero, List.set_cons_succ]
  refine wpAnyH_take (i := 1) (oi := ?oi2) (v := ?v2) ?hi2 ?hs2 ?hf2 ?hr2 ?hQ2 (Or.inl ⟨?hg2, ?hy2⟩) hHeld ?rest2
  case hi2 => simp only [List.getElem?_toArray, List.getElem?_cons_succ, List.getElem?_cons_zero]; rfl
  case hs2 => kernel_rfl
  case hf2 => kernel_rfl
  case hr2 => kernel_rfl
  case hg2 => rfl
  case hy2 => (intro w hSw; first | (go_simp; done) | (go_simp; with_reducible rfl))
  case hQ2 => exact fun _ _ _ h => h
  try simp only [Act.put, List.setIfInBounds_toArray, List.set_cons_zero, List.set_cons_succ]
  refine wpAnyH_take (i := 2) (oi := ?oi3) (v := ?v3) ?hi3 ?hs3 ?hf3 ?hr3 ?hQ3 (Or.inl ⟨?hg3, ?hy3⟩) hHeld ?rest3
  case hi3 => simp only [List.getElem?_toArray, List.getElem?_cons_succ, List.getElem?_cons_zero]; rfl
  case hs3 => kernel_rfl
  case hf3 => kernel_rfl
  case hr3 => kernel_rfl
  case hg3 => rfl
  case hy3 => (intro w hSw; first | (go_simp; done) | (go_simp; with_reducible rfl))
  case hQ3 => exact fun _ _ _ h => h
  try simp only [Act.put, List.setIfInBounds_toArray, List.set_cons_zero, List.set_cons_succ]
  refine wpAnyH_take (i := 3) (oi := ?oi4) (v := ?v4) ?hi4 ?hs4 ?hf4 ?hr4 ?hQ4 (Or.inl ⟨?hg4, ?hy4⟩) hHeld ?rest4
  case hi4 => simp only [List.getElem?_toArray, List.getElem?_cons_succ, List.getElem?_cons_zero]; rfl
  case hs4 => kernel_rfl
  case hf4 => kernel_rfl
  case hr4 => kernel_rfl
  case hg4 => rfl
  case hy4 => (intro w hSw; have q0 := BX.out _ _ n0 _ hSw; first | (go_simp; done) | (go_simp; with_reducible rfl))
  case hQ4 => exact fun _ _ _ h => h
  try simp only [Act.put, List.setIfInBounds_toArray, List.set_cons_zero, List.set_cons_succ]
  refine wpAnyH_take (i := 4) (oi := ?oi5) (v := ?v5) ?hi5 ?hs5 ?hf5 ?hr5 ?hQ5 (Or.inl ⟨?hg5, ?hy5⟩) hHeld ?rest5
  case hi5 => simp only [List.getElem?_toArray, List.getElem?_cons_succ, List.getElem?_cons_zero]; rfl
  case hs5 => kernel_rfl
  case hf5 => kernel_rfl
  case hr5 => kernel_rfl
  case hg5 => rfl
  case hy5 => (intro w hSw; first | (go_simp; done) | (go_simp; with_reducible rfl))
  case hQ5 => exact fun _ _ _ h => h
  try simp only [Act.put, List.setIfInBounds_toArray, List.set_cons_zero, List.set_cons_succ]
  refine wpAnyH_take (i := 5) (oi := ?oi6) (v := ?v6) ?hi6 ?hs6 ?hf6 ?hr6 ?hQ6 (Or.inl ⟨?hg6, ?hy6⟩) hHeld ?rest6
  case hi6 => simp only [List.getElem?_toArray, List.getElem?_cons_succ, List.getElem?_cons_zero]; rfl
  case hs6 => kernel_rfl
  case hf6 => kernel_rfl
  case hr6 => kernel_rfl
  case hg6 => rfl
  case hy6 => (intro w hSw; first | (go_simp; done) | (go_simp; with_reducible rfl))
  case hQ6 => exact fun _ _ _ h => h
  try simp only [Act.put, List.setIfInBounds_toArray, List.set_cons_zero, List.set_cons_succ]
  refine wpAnyH_take (i := 6) (oi := ?oi7) (v := ?v7) ?hi7 ?hs7 ?hf7 ?hr7 ?hQ7 (Or.inl ⟨?hg7, ?hy7⟩) hHeld ?rest7
  case hi7 => simp only [List.getElem?_toArray, List.getElem?_cons_succ, List.getElem?_cons_zero]; rfl
  case hs7 => kernel_rfl
  case hf7 => kernel_rfl
  case hr7 => kernel_rfl
  case hg7 => rfl
  case hy7 => (intro w hSw; first | (go_simp; done) | (go_simp; with_reducible rfl))
  case hQ7 => exact fun _ _ _ h => h
  try simp only [Act.put, List.setIfInBounds_toArray, List.set_cons_zero, List.set_cons_succ]
  refine wpAnyH_take (i := 7) (oi := ?oi8) (v := ?v8) ?hi8 ?hs8 ?hf8 ?hr8 ?hQ8 (Or.inl ⟨?hg8, ?hy8⟩) hHeld ?rest8
  case hi8 => simp only [List.getElem?_toArray, List.getElem?_cons_succ, List.getElem?_cons_zero]; rfl
  case hs8 => kernel_rfl
  case hf8 => kernel_rfl
  case hr8 => kernel_rfl
  case hg8 => rfl
  case hy8 => (intro w hSw; have q0 := BX.out _ _ n1 _ hSw; first | (go_simp; done) | (go_simp; with_reducible rfl))
  case hQ8 => exact fun _ _ _ h => h
  try simp only [Act.put, List.setIfInBounds_toArray, List.set_cons_zero, List.set_cons_succ]
  refine wpAnyH_take (i := 8) (oi := ?oi9) (v := ?v9) ?hi9 ?hs9 ?hf9 ?hr9 ?hQ9 (Or.inl ⟨?hg9, ?hy9⟩) hHeld ?rest9
  case hi9 => simp only [List.getElem?_toArray, List.getElem?_cons_succ, List.getElem?_cons_zero]; rfl
  case hs9 => kernel_rfl
  case hf9 => kernel_rfl
  case hr9 => kernel_rfl
  case hg9 => rfl
  case hy9 => (intro w hSw; first | (go_simp; done) | (go_simp; with_reducible rfl))
  case hQ9 => exact fun _ _ _ h => h
  try simp only [Act.put, List.setIfInBounds_toArray, List.set_cons_zero, List.set_cons_succ]
  refine wpAnyH_take (i := 9) (oi := ?oi10) (v := ?v10) ?hi10 ?hs10 ?hf10 ?hr10 ?hQ10 (Or.inl ⟨?hg10, ?hy10⟩) hHeld ?rest10
  case hi10 => simp only [List.getElem?_toArray, List.getElem?_cons_succ, List.getElem?_cons_zero]; rfl
  case hs10 => kernel_rfl
  case hf10 => kernel_rfl
  case hr10 => kernel_rfl
  case hg10 => rfl
  case hy10 => (intro w hSw; first | (go_simp; done) | (go_simp; with_reducible rfl))
  case hQ10 => exact fun _ _ _ h => h
  try simp only [Act.put, List.setIfInBounds_toArray, List.set_cons_zero, List.set_cons_succ]
  refine wpAnyH_take (i := 10) (oi := ?oi11) (v := ?v11) ?hi11 ?hs11 ?hf11 ?hr11 ?hQ11 (Or.inl ⟨?hg11, ?hy11⟩) hHeld ?rest11
  case hi11 => simp only [List.getElem?_toArray, List.getElem?_cons_succ, List.getElem?_cons_zero]; rfl
  case hs11 => kernel_rfl
  case hf11 => kernel_rfl
  case hr11 => kernel_rfl
  case hg11 => rfl
  case hy11 => (intro w hSw; first | (go_simp; done) | (go_simp; with_reducible rfl))
  case hQ11 => exact fun _ _ _ h => h
  try simp only [Act.put, List.setIfInBounds_toArray, List.set_cons_zero, List.set_cons_succ]
  refine wpAnyH_take (i := 11) (oi := ?oi12) (v := ?v12) ?hi12 ?hs12 ?hf12 ?hr12 ?hQ12 (Or.inl ⟨?hg12, ?hy12⟩) hHeld ?rest12
  case hi12 => simp only [List.getElem?_toArray, List.getElem?_cons_succ, List.getElem?_cons_zero]; rfl
  case hs12 => kernel_rfl
  case hf12 => kernel_rfl
  case hr12 => kernel_rfl
  case hg12 => rfl
  case hy12 => (intro w hSw; have q0 := BX.out _ _ n2 _ hSw; first | (go_simp; done) | (go_simp; with_reducible rfl))
  case hQ12 => exact fun _ _ _ h => h
  try simp only [Act.put, List.setIfInBounds_toArray, List.set_cons_zero, List.set_cons_succ]
  refine wpAnyH_take (i := 12) (oi := ?oi13) (v := ?v13) ?hi13 ?hs13 ?hf13 ?hr13 ?hQ13 (Or.inl ⟨?hg13, ?hy13⟩) hHeld ?rest13
  case hi13 => simp only [List.getElem?_toArray, List.getElem?_cons_succ, List.getElem?_cons_zero]; rfl
  case hs13 => kernel_rfl
  case hf13 => kernel_rfl
  case hr13 => kernel_rfl
  case hg13 => rfl
  case hy13 => (intro w hSw; first | (go_simp; done) | (go_simp; with_reducible rfl))
  case hQ13 => exact fun _ _ _ h => h
  try simp only [Act.put, List.setIfInBounds_toArray, List.set_cons_zero, List.set_cons_succ]
  refine wpAnyH_take (i := 13) (oi := ?oi14) (v := ?v14) ?hi14 ?hs14 ?hf14 ?hr14 ?hQ14 (Or.inl ⟨?hg14, ?hy14⟩) hHeld ?rest14
  case hi14 => simp only [List.getElem?_toArray, List.getElem?_cons_succ, List.getElem?_cons_zero]; rfl
  case hs14 => kernel_rfl
  case hf14 => kernel_rfl
  case hr14 => kernel_rfl
  case hg14 => rfl
  case hy14 => (intro w hSw; first | (go_simp; done) | (go_simp; with_reducible rfl))
  case hQ14 => exact fun _ _ _ h => h
  try simp only [Act.put, List.setIfInBounds_toArray, List.set_cons_zero, List.set_cons_succ]
  refine wpAnyH_take (i := 14) (oi := ?oi15) (v := ?v15) ?hi15 ?hs15 ?hf15 ?hr15 ?hQ15 (Or.inl ⟨?hg15, ?hy15⟩) hHeld ?rest15
  case hi15 => simp only [List.getElem?_toArray, List.getElem?_cons_succ, List.getElem?_cons_zero]; rfl
  case hs15 => kernel_rfl
  case hf15 => kernel_rfl
  case hr15 => kernel_rfl
  case hg15 => rfl
  case hy15 => (intro w hSw; first | (go_simp; done) | (go_simp; with_reducible rfl))
  case hQ15 => exact fun _ _ _ h => h
  try simp only [Act.put, List.setIfInBounds_toArray, List.set_cons_zero, List.set_cons_succ]
  refine wpAnyH_take (i := 15) (oi := ?oi16) (v := ?v16) ?hi16 ?hs16 ?hf16 ?hr16 ?hQ16 (Or.inl ⟨?hg16, ?hy16⟩) hHeld ?rest16
  case hi16 => simp only [List.getElem?_toArray, List.getElem?_cons_succ, List.getElem?_cons_zero]; rfl
  case hs16 => kernel_rfl
  case hf16 => kernel_rfl
  case hr16 => kernel_rfl
  case hg16 => rfl
  case hy16 => (intro w hSw; first | (go_simp; done) | (go_simp; with_reducible rfl))
  case hQ16 => exact fun _ _ _ h => h
  try simp only [Act.put, List.setIfInBounds_toArray, List.set_cons_zero, List.set_cons_succ]
  refine wpAnyH_take (i := 16) (oi := ?oi17) (v := ?v17) ?hi17 ?hs17 ?hf17 ?hr17 ?hQ17 (Or.inl ⟨?hg17, ?hy17⟩) hHeld ?rest17
  case hi17 => simp only [List.getElem?_toArray, List.getElem?_cons_succ, List.getElem?_cons_zero]; rfl
  case hs17 => kernel_rfl
  case hf17 => kernel_rfl
  case hr17 => kernel_rfl
  case hg17 => rfl
  case hy17 => (intro w hSw; have q0 := BX.out _ _ n4 _ hSw; have q1 := BX.out _ _ n5 _ hSw; have q2 := BX.out _ _ n6 _ hSw; have q3 := BX.out _ _ n7 _ hSw; have q4 := BX.out _ _ n8 _ hSw; first | (go_simp; done) | (go_simp; with_reducible rfl))
  case hQ17 => exact fun _ _ _ h => h
  try simp only [Act.put, List.setIfInBounds_toArray, List.set_cons_zero, List.set_cons_succ]
  refine wpAnyH_take (i := 17) (oi := ?oi18) (v := ?v18) ?hi18 ?hs18 ?hf18 ?hr18 ?hQ18 (Or.inl ⟨?hg18, ?hy18⟩) hHeld ?rest18
  case hi18 => simp only [List.getElem?_toArray, List.getElem?_cons_succ, List.getElem?_cons_zero]; rfl
  case hs18 => kernel_rfl
  case hf18 => kernel_rfl
  case hr18 => kernel_rfl
  case hg18 => rfl
  case hy18 => (intro w hSw; first | (go_simp; done) | (go_simp; with_reducible rfl))
  case hQ18 => exact fun _ _ _ h => h
  try simp only [Act.put, List.setIfInBounds_toArray, List.set_cons_zero, List.set_cons_succ]
  refine wpAnyH_take (i := 18) (oi := ?oi19) (v := ?v19) ?hi19 ?hs19 ?hf19 ?hr19 ?hQ19 (Or.inl ⟨?hg19, ?hy19⟩) hHeld ?rest19
  case hi19 => simp only [List.getElem?_toArray, List.getElem?_cons_succ, List.getElem?_cons_zero]; rfl
  case hs19 => kernel_rfl
  case hf19 => kernel_rfl
  case hr19 => kernel_rfl
  case hg19 => rfl
  case hy19 => (intro w hSw; first | (go_simp; done) | (go_simp; with_reducible rfl))
  case hQ19 => exact fun _ _ _ h => h
  try simp only [Act.put, List.setIfInBounds_toArray, List.set_cons_zero, List.set_cons_succ]
  refine wpAnyH_take (i := 19) (oi := ?oi20) (v := ?v20) ?hi20 ?hs20 ?hf20 ?hr20 ?hQ20 (Or.inl ⟨?hg20, ?hy20⟩) hHeld ?rest20
  case hi20 => simp only [List.getElem?_toArray, List.getElem?_cons_succ, List.getElem?_cons_zero]; rfl
  case hs20 => kernel_rfl
  case hf20 => kernel_rfl
  case hr20 => kernel_rfl
  case hg20 => rfl
  case hy20 => (intro w hSw; first | (go_simp; done) | (go_simp; with_reducible rfl))
  case hQ20 => exact fun _ _ _ h => h
  try simp only [Act.put, List.setIfInBounds_toArray, List.set_cons_zero, List.set_cons_succ]
  refine wpAnyH_take (i := 20) (oi := ?oi21) (v := ?v21) ?hi21 ?hs21 ?hf21 ?hr21 ?hQ21 (Or.inl ⟨?hg21, ?hy21⟩) hHeld ?rest21
  case hi21 => simp only [List.getElem?_toArray, List.getElem?_cons_succ, List.getElem?_cons_zero]; rfl
  case hs21 => kernel_rfl
  case hf21 => kernel_rfl
  case hr21 => kernel_rfl
  case hg21 => rfl
  case hy21 => (intro w hSw; have q0 := BX.out _ _ n3 _ hSw; first | (go_simp; done) | (go_simp; with_reducible rfl))
  case hQ21 => exact fun _ _ _ h => h
  try simp only [Act.put, List.setIfInBounds_toArray, List.set_cons_zero, List.set_cons_succ]
  refine wpAnyH_take (i := 21) (oi := ?oi22) (v := ?v22) ?hi22 ?hs22 ?hf22 ?hr22 ?hQ22 (Or.inl ⟨?hg22, ?hy22⟩) hHeld ?rest22
  case hi22 => simp only [List.getElem?_toArray, List.getElem?_cons_succ, List.getElem?_cons_zero]; rfl
  case hs22 => kernel_rfl
  case hf22 => kernel_rfl
  case hr22 => kernel_rfl
  case hg22 => rfl
  case hy22 => (intro w hSw; first | (go_simp; done) | (go_simp; with_reducible rfl))
  case hQ22 => exact fun _ _ _ h => h
  try simp only [Act.put, List.setIfInBounds_toArray, List.set_cons_zero, List.set_cons_succ]
  refine wpAnyH_ready (rs := [22]) (by kernel_rfl) (by simp) ?_
  refine AllReadyH.cons (o := ?oi23) ?hi23 (fun K hK => ?_) AllReadyH.nil
  case hi23 => simp only [List.getElem?_toArray, List.getElem?_cons_succ, List.getElem?_cons_zero]; rfl
  go_wp2_with fail
  have hz0 : Below w1.drew.heap.size w1.drew (w1.alloc (.cells #[.int .i64 0, .int .i64 0, .int .i64 0, .int .i64 0, .int .i64 0, .int .i64 0, .int .i64 0, .int .i64 0, .int .i64 0, .string ⟨#[]⟩] 55)).drew := (Below.refl w1.drew.heap.size w1.drew).alloc (Nat.le_refl _) (.cells #[.int .i64 0, .int .i64 0, .int .i64 0, .int .i64 0, .int .i64 0, .int .i64 0, .int .i64 0, .int .i64 0, .int .i64 0, .string ⟨#[]⟩] 55)
  have NZ := Lib.hid (Blk.newA w1 55 #[.int .i64 0, .int .i64 0, .int .i64 0, .int .i64 0, .int .i64 0, .int .i64 0, .int .i64 0, .int .i64 0, .int .i64 0, .string ⟨#[]⟩]).drew
  generalize hwz : (w1.alloc (.cells #[.int .i64 0, .int .i64 0, .int .i64 0, .int .i64 0, .int .i64 0, .int .i64 0, .int .i64 0, .int .i64 0, .int .i64 0, .string ⟨#[]⟩] 55)).drew = wz at *
  refine hK.out _ _ (hz0) (fun hHeld2 => ?_)
  clear hK K hHeld
  have hHeld := hHeld2
  clear hHeld2
  try simp only [Act.put, List.setIfInBounds_toArray, List.set_cons_zero, List.set_cons_succ]
  refine wpAnyH_ready (rs := [23]) (by kernel_rfl) (by simp) ?_
  refine AllReadyH.cons (o := ?oi24) ?hi24 (fun K hK => ?_) AllReadyH.nil
  case hi24 => simp only [List.getElem?_toArray, List.getElem?_cons_succ, List.getElem?_cons_zero]; rfl
  refine step_store_row rfl 55 (.tmp 8) (.tmp 40) rfl w1.heap.size _ _ _ rfl rfl NZ.out (by kernel_rfl) rfl (by simp [Value.oneCell']) ?_
  have hz1 : Below w1.drew.heap.size w1.drew (wz.setRow w1.heap.size (encT ⟨kd, k, (dn : Int), 1, ⟨m0, m1, m2, m3, m4⟩, tg⟩).toArray) := belowRow hz0 (Nat.le_refl _) _
  have N6 := Lib.hid (show Blk (wz.setRow w1.heap.size (encT ⟨kd, k, (dn : Int), 1, ⟨m0, m1, m2, m3, m4⟩, tg⟩).toArray) w1.heap.size 55 (encT ⟨kd, k, (dn : Int), 1, ⟨m0, m1, m2, m3, m4⟩, tg⟩) from NZ.out.setRow _)
  generalize hw6 : wz.setRow w1.heap.size (encT ⟨kd, k, (dn : Int), 1, ⟨m0, m1, m2, m3, m4⟩, tg⟩).toArray = w6 at *
  replace hw6 : wz.setRow w1.heap.size #[.int .i64 kd, .int .i64 k, .int .i64 (dn : Int), .int .i64 1, .int .i64 m0, .int .i64 m1, .int .i64 m2, .int .i64 m3, .int .i64 m4, .string tg] = w6 := hw6
  rw [hw6]
  refine hK.out _ _ (hz1) (fun hHeld2 => ?_)
  clear hK K hHeld
  have hHeld := hHeld2
  clear hHeld2
  try simp only [Act.put, List.setIfInBounds_toArray, List.set_cons_zero, List.set_cons_succ]
  refine wpAnyH_done (by kernel_rfl) ?_ _
  clear hHeld hwz hw6 NZ hz0 n0 n1 n2 n3 n4 n5 n6 n7 n8 BX
  have hb6 : Below w1.heap.size w1 w6 := ((Below.refl w1.heap.size w1).drew).trans hz1
  have T6 := Lib.hid (T1.out.below hb6)
  have B6 := Lib.hid (B1.out.below hb6)
  have Z6 := Lib.hid (Z1.out.trans (hb6.mono Z1.out.size))
  have HBS := Lib.hid (show w.heap.size < w1.heap.size from B1.out.lt)
  generalize hbs : w1.heap.size = bs at *
  clear hz1 hb6 T1 B1 Z1
  obtain ⟨u0, u3⟩ := HN0.out w6 (HND.out w6 T6.out)
  rcases KD.out with rfl | rfl | rfl
  · have KK := Lib.hid (show X = (⟨1, k, (dn : Int), ((namesP S p.data.toList).length : Int), ⟨m0, m1, m2, m3, m4⟩, tg⟩, 0) by rw [K0.out, HTL.out]; rfl)
    clear K0 HTL KD
    go_wp2_with fail
    refine (HNA.out w6 T6.out).mono ?_
    rintro e w7 ⟨⟨v7, rfl, L7, hO7, hP7, hS7⟩, hb7⟩
    obtain ⟨A7, c7, rfl, _⟩ := own_strs hO7 (by have := HLN.out; omega)
    have N7 := Lib.hid (N6.out.below hb7)
    have T7 := Lib.hid (T6.out.below hb7)
    have B7 := Lib.hid (B6.out.below hb7)
    have Z7 := Lib.hid (Z6.out.trans (hb7.mono Z6.out.size))
    clear hO7 hP7 hS7 hb7 u0 u3 T6 B6 Z6 N6 HNA HINN
    obtain ⟨nn, hnn0⟩ : ∃ nn, (namesP S p.data.toList).length = nn := ⟨_, rfl⟩
    rw [hnn0] at KK ⊢
    clear hnn0
    obtain ⟨⟨_, _, x2, x3, _, _, _, _, _, _⟩, _, _, y2, y3, _, _, _, _, _, _⟩ := stat_facts N7.out
    have hne : w.heap.size ≠ bs := by have := HBS.out; omega
    have hbl : w.heap.size ≤ bs := by have := HBS.out; omega
    have hnn : B k ≠ bs := (HND.out w7 T7.out).ne N7.out (by decide)
    have N8 : Blk (w7.setCell ⟨bs, 3, none⟩ (.int .i64 (nn : Int))) bs 55 (encT ⟨1, k, (dn : Int), (nn : Int), ⟨m0, m1, m2, m3, m4⟩, tg⟩) := N7.out.set 3 (.int .i64 (nn : Int))
    have B8 := B7.out.other (a := ⟨bs, 3, none⟩) hne (.int .i64 (nn : Int))
    have Z8 : Below w.heap.size w (w7.setCell ⟨bs, 3, none⟩ (.int .i64 (nn : Int))) := Z7.out.setCell hbl _
    obtain ⟨u0, u3⟩ := HN0.out w7 (HND.out w7 T7.out)
    obtain ⟨v0, v3⟩ := HN0.out (w7.setCell ⟨bs, 3, none⟩ (.int .i64 (nn : Int))) ((HND.out w7 T7.out).other (a := ⟨bs, 3, none⟩) hnn (.int .i64 (nn : Int)))
    obtain ⟨⟨c0, c1, c2, c3, c4, c5, c6, c7, c8, c9⟩, _⟩ := stat_facts N8
    obtain ⟨⟨b0, b1, b2, b3, b4, b5, b6, b7, b8, b9⟩, g0, g1, g2, g3, g4, g5, g6, g7, g8, g9⟩ := stat_facts B8
    have HZ8 := Lib.hid Z8
    have HB8 := Lib.hid B8
    clear hne hbl hnn N8 B8 Z8 N7 T7 B7 Z7
    go_wp2_with fail
    refine bodyPost_ret (results_cell_tmp_row rfl _ _ w.heap.size 55 _ _ _ rfl (Blk.set10 HB8.out _ _ _ _ _ _ _ _ _ _) Tryz.underlying55 rfl (by kernel_rfl)) rfl ⟨?_, below_set10 HZ8.out (Nat.le_refl _) _ _ _ _ _ _ _ _ _ _⟩
    rw [KK.out]; rfl
  · have KK := Lib.hid (show X = (⟨2, k, ((inL S p.data.toList).length : Int), 1, ⟨m0, m1, m2, m3, m4⟩, tg⟩, 0) by rw [K0.out, HTL.out]; rfl)
    clear K0 HTL KD
    go_wp2_with fail
    refine (HINN.out w6 T6.out).mono ?_
    rintro e w7 ⟨⟨v7, rfl, L7, hO7, hP7, hS7⟩, hb7⟩
    obtain ⟨A7, c7, rfl, _⟩ := own_strs hO7 (by have := HLI.out; omega)
    have N7 := Lib.hid (N6.out.below hb7)
    have T7 := Lib.hid (T6.out.below hb7)
    have B7 := Lib.hid (B6.out.below hb7)
    have Z7 := Lib.hid (Z6.out.trans (hb7.mono Z6.out.size))
    clear hO7 hP7 hS7 hb7 u0 u3 T6 B6 Z6 N6 HNA HINN
    obtain ⟨nn, hnn0⟩ : ∃ nn, (inL S p.data.toList).length = nn := ⟨_, rfl⟩
    rw [hnn0] at KK ⊢
    clear hnn0
    obtain ⟨⟨_, _, x2, x3, _, _, _, _, _, _⟩, _, _, y2, y3, _, _, _, _, _, _⟩ := stat_facts N7.out
    have hne : w.heap.size ≠ bs := by have := HBS.out; omega
    have hbl : w.heap.size ≤ bs := by have := HBS.out; omega
    have hnn : B k ≠ bs := (HND.out w7 T7.out).ne N7.out (by decide)
    have N8 : Blk (w7.setCell ⟨bs, 2, none⟩ (.int .i64 (nn : Int))) bs 55 (encT ⟨2, k, (nn : Int), 1, ⟨m0, m1, m2, m3, m4⟩, tg⟩) := N7.out.set 2 (.int .i64 (nn : Int))
    have B8 := B7.out.other (a := ⟨bs, 2, none⟩) hne (.int .i64 (nn : Int))
    have Z8 : Below w.heap.size w (w7.setCell ⟨bs, 2, none⟩ (.int .i64 (nn : Int))) := Z7.out.setCell hbl _
    obtain ⟨u0, u3⟩ := HN0.out w7 (HND.out w7 T7.out)
    obtain ⟨v0, v3⟩ := HN0.out (w7.setCell ⟨bs, 2, none⟩ (.int .i64 (nn : Int))) ((HND.out w7 T7.out).other (a := ⟨bs, 2, none⟩) hnn (.int .i64 (nn : Int)))
    obtain ⟨⟨c0, c1, c2, c3, c4, c5, c6, c7, c8, c9⟩, _⟩ := stat_facts N8
    obtain ⟨⟨b0, b1, b2, b3, b4, b5, b6, b7, b8, b9⟩, g0, g1, g2, g3, g4, g5, g6, g7, g8, g9⟩ := stat_facts B8
    have HZ8 := Lib.hid Z8
    have HB8 := Lib.hid B8
    clear hne hbl hnn N8 B8 Z8 N7 T7 B7 Z7
    go_wp2_with fail
    refine bodyPost_ret (results_cell_tmp_row rfl _ _ w.heap.size 55 _ _ _ rfl (Blk.set10 HB8.out _ _ _ _ _ _ _ _ _ _) Tryz.underlying55 rfl (by kernel_rfl)) rfl ⟨?_, below_set10 HZ8.out (Nat.le_refl _) _ _ _ _ _ _ _ _ _ _⟩
    rw [KK.out]; rfl
  · have KK := Lib.hid (show X = (⟨3, k, (tg.size : Int), 1, ⟨m0, m1, m2, m3, m4⟩, tg⟩, 0) by rw [K0.out, HTL.out]; rfl)
    clear K0 HTL KD HNA HINN u0 u3
    have N7 := N6
    have T7 := T6
    have B7 := B6
    have Z7 := Z6
    clear N6 T6 B6 Z6
    obtain ⟨⟨_, _, x2, x3, _, _, _, _, _, _⟩, _, _, y2, y3, _, _, _, _, _, _⟩ := stat_facts N7.out
    have hne : w.heap.size ≠ bs := by have := HBS.out; omega
    have hbl : w.heap.size ≤ bs := by have := HBS.out; omega
    have hnn : B k ≠ bs := (HND.out w6 T7.out).ne N7.out (by decide)
    have N8 : Blk (w6.setCell ⟨bs, 2, none⟩ (.int .i64 (tg.size : Int))) bs 55 (encT ⟨3, k, (tg.size : Int), 1, ⟨m0, m1, m2, m3, m4⟩, tg⟩) := N7.out.set 2 (.int .i64 (tg.size : Int))
    have B8 := B7.out.other (a := ⟨bs, 2, none⟩) hne (.int .i64 (tg.size : Int))
    have Z8 : Below w.heap.size w (w6.setCell ⟨bs, 2, none⟩ (.int .i64 (tg.size : Int))) := Z7.out.setCell hbl _
    obtain ⟨u0, u3⟩ := HN0.out w6 (HND.out w6 T7.out)
    obtain ⟨v0, v3⟩ := HN0.out (w6.setCell ⟨bs, 2, none⟩ (.int .i64 (tg.size : Int))) ((HND.out w6 T7.out).other (a := ⟨bs, 2, none⟩) hnn (.int .i64 (tg.size : Int)))
    obtain ⟨⟨c0, c1, c2, c3, c4, c5, c6, c7, c8, c9⟩, _⟩ := stat_facts N8
    obtain ⟨⟨b0, b1, b2, b3, b4, b5, b6, b7, b8, b9⟩, g0, g1, g2, g3, g4, g5, g6, g7, g8, g9⟩ := stat_facts B8
    have HZ8 := Lib.hid Z8
    have HB8 := Lib.hid B8
    clear hne hbl hnn N8 B8 Z8 N7 T7 B7 Z7
    go_wp2_with fail
    refine bodyPost_ret (results_cell_tmp_row rfl _ _ w.heap.size 55 _ _ _ rfl (Blk.set10 HB8.out _ _ _ _ _ _ _ _ _ _) Tryz.underlying55 rfl (by kernel_rfl)) rfl ⟨?_, below_set10 HZ8.out (Nat.le_refl _) _ _ _ _ _ _ _ _ _ _⟩
    rw [KK.out]; rfl
end Go.Proofs.YtlbbehfbjbbckaaGreatDoor

/-! The document's Resolve: below, into. -/
set_option linter.unusedVariables false
set_option linter.unusedSimpArgs false
namespace Go.Proofs.YtlbbehfbjbbckaaGreatDoor
open Go.RowKit
attribute [local go_sem] str_toList

set_option maxRecDepth 100000 in
set_option maxHeartbeats 2000000 in
theorem belowD_any (p x : List UInt8) (w : World) (hp : p.length ≤ 1000000) (hx : x.length ≤ 1000000) :
    Calls Tryz.prog 48 #[.string (str p), .string (str x)] w fun e w' => e = .returned (.string (str (joinP p x))) ∧ w' = w := by
  by_cases h : p = []
  · subst h
    have K := Lib.hid (show joinP [] x = x from if_pos rfl)
    obtain ⟨sx, hsx⟩ : ∃ sx, str x = sx := ⟨_, rfl⟩
    rw [show str [] = (⟨#[]⟩ : ByteArray) from rfl]
    rw [K.out, hsx]
    go_enter Tryz.func48, Tryz.ntmps48
    go_wp2_with fail
    go_ret
    exact ⟨rfl, rfl⟩
  · have hj := join_str p x h
    have hz : ¬ (str p).size = 0 := by rw [str_size]; exact fun e => h (List.eq_nil_of_length_eq_zero e)
    have hnil := nil_toList (str p) hz
    have z1 : ¬ 9223372036854775807 < (str p).size + (⟨#[47]⟩ : ByteArray).size := by rw [str_size]; show ¬ 9223372036854775807 < p.length + 1; omega
    have z2 : ¬ 9223372036854775807 < (str p ++ (⟨#[47]⟩ : ByteArray)).size + (str x).size := by rw [str_slash, str_size, str_size, List.length_append]; show ¬ 9223372036854775807 < p.length + 1 + x.length; omega
    obtain ⟨sm, hsm⟩ : ∃ sm, str (joinP p x) = sm := ⟨_, rfl⟩
    rw [hsm] at hj ⊢
    obtain ⟨sp, hsp⟩ : ∃ sp, str p = sp := ⟨_, rfl⟩
    obtain ⟨sx, hsx⟩ : ∃ sx, str x = sx := ⟨_, rfl⟩
    rw [hsp] at hj hnil z1 z2 ⊢
    rw [hsx] at hj z2 ⊢
    obtain ⟨s1, hs1⟩ : ∃ s1, sp ++ (⟨#[47]⟩ : ByteArray) = s1 := ⟨_, rfl⟩
    rw [hs1] at hj z2
    clear hsm hsp hsx hz h
    go_enter Tryz.func48, Tryz.ntmps48
    go_wp2_with fail
    go_ret
    exact ⟨rfl, rfl⟩
set_option maxRecDepth 100000 in
set_option maxHeartbeats 4000000 in
theorem intoD_any (p : List UInt8) (tg : ByteArray) (A : Option Addr) (m c : Nat) (L : List (List UInt8)) (w : World) (htg : tg.size ≤ 2097152) (hs : Sl 1 w A m (strs L)) (hm : m ≤ 1000000) :
    Calls Tryz.prog 49 #[.string (str p), .string tg, .slice A m c] w fun e w' => (∃ v, e = .returned (.tuple #[.string (str (if tg.data.toList[0]? = some 47 then [] else p)), v]) ∧ w'.ownsRow w.heap.size 9 1 v (splitB tg.data.toList ++ L).length (strs (splitB tg.data.toList ++ L))) ∧ Below w.heap.size w w' := by
  obtain ⟨i0, hi0, hz0, hz1, hz2⟩ := info_parts infoS
  have hLm : L.length = m := by have := hs.len; rw [strs_len] at this; omega
  have HSP := Lib.hid (fun w => refSplit_any tg w htg)
  have hsl := splitB_len tg.data.toList
  have hsl2 : tg.data.toList.length = tg.size := Array.length_toList
  rw [hsl2] at hsl
  obtain ⟨Y, hY⟩ : ∃ Y, splitB tg.data.toList = Y := ⟨_, rfl⟩
  rw [hY] at HSP hsl
  -- the two appends
  have hb0 := (Below.refl w.heap.size w).alloc (Nat.le_refl _) (.cells #[] 9)
  have hsz0 : (w.alloc (.cells #[] 9)).heap.size = w.heap.size + 1 := World.size_alloc _ _
  have HAP : Hid (∀ (w1 : World) (A1 : Option Addr) (n1 c1 : Nat), Below (w.alloc (.cells #[] 9)).heap.size (w.alloc (.cells #[] 9)) w1 → n1 = Y.length → Sl 1 w1 A1 n1 (strs Y) →
      ∃ B1 m1 d1 w2 B2 m2 d2 w3, (Builtin.append_ #[35, 35] 35 #[.slice (some ⟨w.heap.size, 0, none⟩) 0 0, .slice A1 n1 c1]).run Tryz.prog w1 = .ok (.slice B1 m1 d1) w2 ∧
        (Builtin.append_ #[35, 35] 35 #[.slice B1 m1 d1, .slice A m c]).run Tryz.prog w2 = .ok (.slice B2 m2 d2) w3 ∧ w3.ownsRow w.heap.size 9 1 (.slice B2 m2 d2) (Y ++ L).length (strs (Y ++ L)) ∧ Below w.heap.size w w3) := Lib.hid (by
    intro w1 A1 n1 c1 hb1 hn1 hs1
    have r0 := World.ownsRow_made w (base := w.heap.size) (e := 9) (size := 1) #[] 0 (Nat.le_refl _) (by decide) rfl
    have r1 := row_heap r0 (fun b hb => hb1.block b (row_lt r0 hb).2)
    have hb01 : Below w.heap.size w w1 := hb0.trans (hb1.mono (by omega))
    obtain ⟨v2, w2, hap2, hown2, hg2⟩ := run_append_sl (P := Tryz.prog) (w := w1) w.heap.size 35 35 9 i0 _ 1 16 Tryz.underlying35 hi0 hz0 hz1 hz2 rfl (by decide) r1 (c := c1) hs1 (one_strs Y) (by omega) (by omega) hb01.size
    rw [List.nil_append, Nat.zero_add] at hown2
    have hb2 : Below w.heap.size w w2 := hb01.grown hg2 hb01.size (fun k hk => by cases hk; exact Nat.le_refl _)
    obtain ⟨v3, w3, hap3, hown3, hg3⟩ := run_append_sl (P := Tryz.prog) (w := w2) w.heap.size 35 35 9 i0 _ 1 16 Tryz.underlying35 hi0 hz0 hz1 hz2 rfl (by decide) hown2 (c := c) (hs.below hb2) (one_strs L) (by omega) (by omega) hb2.size
    have hb3 : Below w.heap.size w w3 := hb2.grown hg3 hb2.size (fun k hk => (row_lt hown2 hk).1)
    rw [← strs_app] at hown3
    have hown3' : w3.ownsRow w.heap.size 9 1 v3 (Y ++ L).length (strs (Y ++ L)) := by rw [List.length_append, ← hn1, hLm]; exact hown3
    obtain ⟨B1, d1, rfl, _⟩ := own_strs hown2 (by omega)
    obtain ⟨B2, d2, rfl, _⟩ := own_strs hown3' (by rw [List.length_append]; omega)
    exact ⟨B1, _, d1, w2, B2, _, d2, w3, hap2, hap3, hown3', hb3⟩)
  have HB0 := Lib.hid hb0
  rw [hY]
  obtain ⟨X, hX⟩ : ∃ X, (if tg.data.toList[0]? = some 47 then [] else p) = X := ⟨_, rfl⟩
  have HX := Lib.hid hX
  rw [hX]
  clear hX hs hb0 hsz0 hsl2
  obtain ⟨sp, hsp⟩ : ∃ sp, str p = sp := ⟨_, rfl⟩
  rw [hsp]
  have HSP2 := Lib.hid hsp
  clear hsp
  by_cases hz : tg.size = 0
  · obtain rfl : tg = ⟨#[]⟩ := ByteArray.ext (Array.size_eq_zero_iff.1 hz)
    have K := Lib.hid (show str X = sp by rw [← HX.out, ← HSP2.out]; rfl)
    clear hz HX hY
    go_enter Tryz.func49, Tryz.ntmps49
    go_wp2_with fail
    refine (HSP.out _).mono ?_
    rintro e w1 ⟨⟨A1, n1, c1, rfl, hn1, hnc1, hs1⟩, hb1⟩
    obtain ⟨B1, m1, d1, w2, B2, m2, d2, w3, hap2, hap3, hO3, hb3⟩ := HAP.out w1 A1 n1 c1 hb1 hn1 hs1
    have O3 := Lib.hid hO3
    have B3 := Lib.hid hb3
    clear hs1 hb1 hO3 hb3 hn1 hnc1 HAP HSP
    go_wp2_with (at_builtin; refine halt_in ?_)
    refine Halted.out (wpList_append_run rfl _ _ _ _ rfl rfl rfl hap2 ?_)
    go_wp2_with (at_builtin; refine halt_in ?_)
    refine Halted.out (wpList_append_run rfl _ _ _ _ rfl rfl rfl hap3 ?_)
    go_wp2_with fail
    go_ret2
    rw [K.out]
    exact ⟨⟨_, rfl, O3.out⟩, B3.out⟩
  have hnil := nil_toList tg hz
  have hpos : 0 < tg.size := by omega
  have hidx : tg.data.toList[0]? = some (tg[0]'(by omega)) := data_at tg 0 (by omega)
  by_cases h47 : (tg[0]'hpos).toNat = 47
  · have e47 : (((tg[0]'hpos).toNat : Int) == 47) = true := by rw [h47]; rfl
    have K := Lib.hid (show str X = ⟨#[]⟩ by
      rw [← HX.out, hidx, if_pos (by rw [show tg[0]'(by omega) = (47 : UInt8) from UInt8.toNat_inj.1 h47])]; rfl)
    clear h47 hidx hz HX hY
    go_enter Tryz.func49, Tryz.ntmps49
    go_wp2_with fail
    refine (HSP.out _).mono ?_
    rintro e w1 ⟨⟨A1, n1, c1, rfl, hn1, hnc1, hs1⟩, hb1⟩
    obtain ⟨B1, m1, d1, w2, B2, m2, d2, w3, hap2, hap3, hO3, hb3⟩ := HAP.out w1 A1 n1 c1 hb1 hn1 hs1
    have O3 := Lib.hid hO3
    have B3 := Lib.hid hb3
    clear hs1 hb1 hO3 hb3 hn1 hnc1 HAP HSP
    go_wp2_with (at_builtin; refine halt_in ?_)
    refine Halted.out (wpList_append_run rfl _ _ _ _ rfl rfl rfl hap2 ?_)
    go_wp2_with (at_builtin; refine halt_in ?_)
    refine Halted.out (wpList_append_run rfl _ _ _ _ rfl rfl rfl hap3 ?_)
    go_wp2_with fail
    go_ret2
    rw [K.out]
    exact ⟨⟨_, rfl, O3.out⟩, B3.out⟩
  · have e47 : (((tg[0]'hpos).toNat : Int) == 47) = false := by
      have : ¬ ((tg[0]'hpos).toNat : Int) = 47 := by omega
      simpa using this
    have K := Lib.hid (show str X = sp by
      rw [← HX.out, hidx, if_neg (by
        intro e
        apply h47
        rw [Option.some.injEq] at e
        rw [e]; rfl), HSP2.out])
    clear h47 hidx hz HX hY
    go_enter Tryz.func49, Tryz.ntmps49
    go_wp2_with fail
    refine (HSP.out _).mono ?_
    rintro e w1 ⟨⟨A1, n1, c1, rfl, hn1, hnc1, hs1⟩, hb1⟩
    obtain ⟨B1, m1, d1, w2, B2, m2, d2, w3, hap2, hap3, hO3, hb3⟩ := HAP.out w1 A1 n1 c1 hb1 hn1 hs1
    have O3 := Lib.hid hO3
    have B3 := Lib.hid hb3
    clear hs1 hb1 hO3 hb3 hn1 hnc1 HAP HSP
    go_wp2_with (at_builtin; refine halt_in ?_)
    refine Halted.out (wpList_append_run rfl _ _ _ _ rfl rfl rfl hap2 ?_)
    go_wp2_with (at_builtin; refine halt_in ?_)
    refine Halted.out (wpList_append_run rfl _ _ _ _ rfl rfl rfl hap3 ?_)
    go_wp2_with fail
    go_ret2
    rw [K.out]
    exact ⟨⟨_, rfl, O3.out⟩, B3.out⟩
end Go.Proofs.YtlbbehfbjbbckaaGreatDoor

/-! The document's Resolve. -/
set_option linter.unusedVariables false
set_option linter.unusedSimpArgs false
namespace Go.Proofs.YtlbbehfbjbbckaaGreatDoor
open Go.RowKit
attribute [local go_sem] str_toList

/-- What is told agrees with the kind that stands there. -/
theorem statS_kind (S : St) (p : List UInt8) : (∃ i, statS S p = (tellS S p i, 0) ∧ S.kindS p = some ((S.th i).kind, (S.th i).target.data.toList)) ∨ (∃ e, e ≠ 0 ∧ statS S p = (noT, e) ∧ S.kindS p = none) := by
  unfold statS St.kindS
  have h0 := @thereS_err (S.look p)
  generalize thereS (S.look p) = l at *
  obtain ⟨o, e⟩ := l
  by_cases he : e = 0
  · obtain ⟨i, hi⟩ := h0 he
    cases hi
    exact .inl ⟨i, rfl, rfl⟩
  · cases o with
    | none => exact .inr ⟨e, he, rfl, rfl⟩
    | some i => exact .inr ⟨e, he, by simp [he], by simp [he]⟩
theorem tellS_kind (S : St) (p : List UInt8) (i : Int) : (tellS S p i).kind = (S.th i).kind ∧ (tellS S p i).target = (S.th i).target := ⟨rfl, rfl⟩
theorem OkS.okK {S : St} (h : OkS S) : OkK S.kindS := by
  intro p k t hk
  obtain ⟨hr, i, _, _, rfl⟩ := (kindS_at h).1 hk
  exact ⟨rightB_len hr, by rw [Array.length_toList]; exact (h.tgt i).1⟩
theorem StatD_str (t : Nat) (v : Value) (S : St) (B : Int → Nat) (D : Int → Dt) (q : List UInt8) (w : World) (h : DocAt w t v S B D) (ho : OkS S) (ht : TopS S) (hl : S.ls.length ≤ 1000000) (hq : q.length ≤ 2097152) :
    Calls Tryz.prog 46 #[.pointer (some ⟨t, 0, none⟩), .string (str q)] w fun e w' => e = .returned (.tuple #[aggT (statS S q).1, .int .i64 (statS S q).2]) ∧ Below w.heap.size w w' := by
  have := StatD_any t v S B D (str q) w h ho ht hl (by rw [str_size]; exact hq)
  rwa [str_data] at this
theorem refParent_str (q : List UInt8) (w : World) (hq : q.length ≤ 2097152) : Calls Tryz.prog 47 #[.string (str q)] w fun e w' => e = .returned (.string (str (parentB q))) ∧ Below w.heap.size w w' := by
  have := refParent_any (str q) _ w rfl (by rw [str_size]; exact hq)
  rwa [str_data] at this
theorem dir_stat {S : St} {q : List UInt8} : dirK S.kindS q = decide ((statS S q).1.kind = 2) := by
  unfold dirK
  rcases statS_kind S q with ⟨i, h1, h2⟩ | ⟨e, _, h1, h2⟩
  · rw [h1, h2]
    show ((S.th i).kind == 2) = decide ((S.th i).kind = 2)
    by_cases h : (S.th i).kind = 2 <;> simp [h]
  · rw [h1, h2]; rfl
theorem str_eq_iff {x : List UInt8} {l : List UInt8} : str x = str l ↔ x = l := ⟨str_inj, fun h => by rw [h]⟩
theorem joinP_len (p x : List UInt8) : (joinP p x).length ≤ p.length + x.length + 1 := by
  unfold joinP
  split
  · omega
  · rw [List.length_append, List.length_cons]; omega
def sliceLen : Value → Nat
  | .slice _ n _ => n
  | _ => 0
theorem beq_str (x : List UInt8) (q : ByteArray) : (str x).toList = x := str_toList x
set_option maxRecDepth 100000 in
set_option maxHeartbeats 32000000 in
theorem resolveD_any (t : Nat) (v : Value) (S : St) (B : Int → Nat) (D : Int → Dt) (p : ByteArray) (w : World) (h : DocAt w t v S B D) (ho : OkS S) (ht : TopS S) (hl : S.ls.length ≤ 1000000) (hp : p.size ≤ 2097152) :
    Calls Tryz.prog 12 #[.pointer (some ⟨t, 0, none⟩), .string p] w fun e w' => e = .returned (.tuple #[.string (str (resolveU S.kindS p.data.toList).1), .int .i64 (resolveU S.kindS p.data.toList).2]) ∧ Below w.heap.size w w' := by
  obtain ⟨X, hX⟩ : ∃ X, resolveU S.kindS p.data.toList = X := ⟨_, rfl⟩
  have HX : Hid ((if rightB p.data.toList = false then ([], (9 : Int)) else runW S.kindS (leftW ⟨[], splitB p.data.toList, 0⟩) ⟨[], splitB p.data.toList, 0⟩) = X) := Lib.hid hX
  rw [hX]
  have HR := Lib.hid (fun w => refRight_any p _ w rfl hp)
  have HSP := Lib.hid (fun w => refSplit_any p w hp)
  have HOW := Lib.hid (fun h => OkW.start S.kindS (p := p.data.toList) h)
  have HK := Lib.hid ho.okK
  have HT := Lib.hid (fun w' (hb : Below w.heap.size w w') => h.below hb)
  have HST := Lib.hid (fun q w' (h : DocAt w' t v S B D) hq => StatD_str t v S B D q w' h ho ht hl hq)
  clear hX h ho ht hl
  obtain ⟨rb, hrb⟩ : ∃ rb, rightB p.data.toList = rb := ⟨_, rfl⟩
  rw [hrb] at HX HR HOW
  clear hrb
  generalize splitB p.data.toList = Y at *
  generalize hKK : S.kindS = Kf at *
  go_enter Tryz.func12, Tryz.ntmps12
  go_wp2_with fail
  refine (HR.out w).mono ?_
  rintro e w1 ⟨rfl, hb1⟩
  have HB1 := Lib.hid hb1
  clear hb1 HR
  cases rb with
  | false =>
    have K := Lib.hid (show X = ([], (9 : Int)) from HX.out.symm)
    go_wp2_with fail
    go_ret2
    rw [K.out]
    exact ⟨rfl, HB1.out⟩
  | true =>
  have HX1 := Lib.hid (show runW Kf (leftW ⟨[], Y, 0⟩) ⟨[], Y, 0⟩ = X from HX.out)
  have HO1 := Lib.hid (HOW.out rfl)
  clear HX HOW
  go_wp2_with fail
  refine (HSP.out w1).mono ?_
  rintro e w2 ⟨⟨A, n, cc, rfl, hn, hnc, hsl⟩, hb2⟩
  have HB2 := Lib.hid (HB1.out.trans (hb2.mono HB1.out.size))
  have HSL := Lib.hid hsl
  have HNC := Lib.hid hnc
  clear hb2 HSP HB1 hsl hn hnc
  go_wp2_with fail
  go_loopw [6, 7, 8, 9, 10, 11, 12] (fun u6 u7 u8 _ _ _ _ wr => ∃ (s : Wk) (A : Option Addr) (n c : Nat), u6 = .string (str s.at_) ∧ u7 = .int .i64 (s.hops : Int) ∧ u8 = .slice A n c ∧ n ≤ c ∧ Sl 1 wr A n (strs s.row) ∧ OkW Kf s ∧ runW Kf (leftW s) s = X ∧ Below w.heap.size w wr) (fun _ u7 u8 _ _ _ _ _ => sliceLen u8 + 202 * (16 - (intOf u7).toNat))
  case atStart => exact ⟨⟨[], Y, 0⟩, A, n, cc, rfl, rfl, rfl, HNC.out, HSL.out, HO1.out, HX1.out, HB2.out⟩
  case round =>
    obtain ⟨⟨at0, row0, hops0⟩, A, n, cc, rfl, rfl, rfl, hnc, hs, hok, hx, hb⟩ := hrel
    dsimp only at hs
    have HB := Lib.hid hb
    have HO := Lib.hid hok
    have HXr := Lib.hid hx
    have hl := hs.strsLen
    clear HSL HNC HO1 HX1 HB2
    rcases Nat.eq_zero_or_pos n with h0 | h0
    · subst h0
      have K := Lib.hid (show X = (at0, 0) by rw [← hx]; exact runW_end _ (List.eq_nil_of_length_eq_zero hl))
      clear hb hok hx hl hs hnc
      go_wp2_with fail
      go_ret2
      rw [K.out]
      exact ⟨rfl, HB.out⟩
    obtain ⟨x, r, rfl⟩ : ∃ x r, row0 = x :: r := by
      cases row0 with
      | nil => simp at hl; omega
      | cons x r => exact ⟨x, r, rfl⟩
    have hrl : r.length + 1 = n := by simpa using hl
    obtain ⟨xb, xo, x', hA, hx', hcell⟩ := hs.strRow h0
    obtain rfl : x = x' := by simpa using hx'
    rw [Nat.add_zero] at hcell
    subst hA
    obtain ⟨hs2, _⟩ := hs.tailS hnc
    obtain ⟨i0, hi0, hz0, hz1, hz2⟩ := info_parts infoS
    have hsl : ∀ w : World, (Instr.slice 35 (.slice (some ⟨xb, xo, none⟩) n cc) (some (.int .i64 1)) none none).run Tryz.prog w = .ok (.slice (subAt (some ⟨xb, xo, none⟩) 1 cc 1) (n - 1) (cc - 1)) w := fun w => run_slice_from undSt elemSt hi0 hz1 _ n cc 1 (by omega) .i64 1 rfl
    have HS2 := Lib.hid hs2
    have HRL := Lib.hid (show r.length + 1 = n ∧ n ≤ cc from ⟨hrl, hnc⟩)
    have hxl : x.length ≤ 200 := hok.row x (List.mem_cons_self ..)
    have hal : at0.length ≤ 200 := hok.at_
    have hhp : hops0 ≤ 16 := hok.hops
    have HROW := Lib.hid (show n ≤ 4000 from by have h9 : (x :: r).length + 201 * (16 - hops0) ≤ 201 * 17 := hok.len; rw [List.length_cons] at h9; omega)
    have HSTEP : Hid (stepW Kf ⟨at0, x :: r, hops0⟩ = if dirK Kf at0 = false then ((⟨at0, r, hops0⟩ : Wk), (12 : Int)) else if x = [] ∨ x = [46] then (⟨at0, r, hops0⟩, 0) else if x = [46, 46] then upW ⟨at0, r, hops0⟩ else enterW Kf ⟨at0, r, hops0⟩ x) := Lib.hid rfl
    have HRS := Lib.hid (runW_step HK.out hok (by simp))
    have HLT := Lib.hid (leftW_step HK.out hok (by simp))
    have HOS := Lib.hid (hok.step HK.out)
    have HERRX := Lib.hid (fun (e : Int) (s' : Wk) (he : e ≠ 0) (hs : stepW Kf ⟨at0, x :: r, hops0⟩ = (s', e)) => (show X = ([], e) from by rw [← hx, HRS.out, hs]; exact if_neg he))
    have HOKX := Lib.hid (fun (s' : Wk) (hs : stepW Kf ⟨at0, x :: r, hops0⟩ = (s', 0)) => (show runW Kf (leftW s') s' = X ∧ OkW Kf s' ∧ leftW s' < leftW ⟨at0, x :: r, hops0⟩ from by
      refine ⟨by rw [← hx, HRS.out, hs]; exact (if_pos rfl).symm, ?_, ?_⟩
      · have := HOS.out; rw [hs] at this; exact this
      · have := HLT.out; rw [hs] at this; exact this))
    have HDIR := Lib.hid (show dirK Kf at0 = decide ((statS S at0).1.kind = 2) by rw [← hKK]; exact dir_stat)
    have HSTA := Lib.hid (HST.out at0 wr (HT.out wr hb) (by omega))
    have HSTB := Lib.hid (fun w' (hb : Below w.heap.size w w') => HST.out (joinP at0 x) w' (HT.out w' hb) (by have := joinP_len at0 x; omega))
    have HKB := Lib.hid (show (∃ i, statS S (joinP at0 x) = (tellS S (joinP at0 x) i, 0) ∧ Kf (joinP at0 x) = some ((S.th i).kind, (S.th i).target.data.toList)) ∨ (∃ e, e ≠ 0 ∧ statS S (joinP at0 x) = (noT, e) ∧ Kf (joinP at0 x) = none) by rw [← hKK]; exact statS_kind S _)
    have HBE := Lib.hid (fun w => belowD_any at0 x w (by omega) (by omega))
    have HPA := Lib.hid (fun w => refParent_str at0 w (by omega))
    have HMS : Hid (∀ s' : Wk, leftW s' < leftW ⟨at0, x :: r, hops0⟩ → s'.row.length + 202 * (16 - s'.hops) < n + 202 * (16 - hops0)) := Lib.hid (fun s' h => by
      unfold leftW at h
      simp only [List.length_cons] at h
      omega)
    clear hb hok hx hl hs hnc hx' hs2 hrl HRS HLT HOS HST HO HXr
    obtain ⟨sr, hsr⟩ : ∃ sr, (statS S at0).1 = sr := ⟨_, rfl⟩
    obtain ⟨er, her⟩ : ∃ er, (statS S at0).2 = er := ⟨_, rfl⟩
    rw [hsr, her] at HSTA
    rw [hsr] at HDIR
    unfold aggT encT at HSTA
    clear hsr her
    have hi2 : (0 : Int) < (n : Int) := by omega
    have hi3 : decide ((0 : Int) < (n : Int)) = true := decide_eq_true hi2
    go_wp2_with fail
    refine HSTA.out.mono ?_
    rintro e w3 ⟨rfl, hb3⟩
    have R3 := Lib.hid hb3
    have B3 := Lib.hid (HB.out.trans (hb3.mono HB.out.size))
    have S3 := Lib.hid (HS2.out.below hb3)
    have hb4 := (Below.refl w3.heap.size w3).alloc (Nat.le_refl _) (.cells #[.int .i64 sr.kind, .int .i64 sr.ino, .int .i64 sr.size, .int .i64 sr.links, .int .i64 sr.mt.m0, .int .i64 sr.mt.m1, .int .i64 sr.mt.m2, .int .i64 sr.mt.m3, .int .i64 sr.mt.m4, .string sr.target] 55)
    have N4 := Lib.hid (show Blk (w3.alloc (.cells #[.int .i64 sr.kind, .int .i64 sr.ino, .int .i64 sr.size, .int .i64 sr.links, .int .i64 sr.mt.m0, .int .i64 sr.mt.m1, .int .i64 sr.mt.m2, .int .i64 sr.mt.m3, .int .i64 sr.mt.m4, .string sr.target] 55)) w3.heap.size 55 (encT sr) from Blk.new w3 55 (encT sr))
    have B4 := Lib.hid (B3.out.trans (hb4.mono B3.out.size))
    have S4 := Lib.hid (S3.out.below hb4)
    have R4 := Lib.hid (R3.out.trans (hb4.mono R3.out.size))
    have HRB := Lib.hid (show wr.heap.size ≤ w3.heap.size from R3.out.size)
    have HLB := Lib.hid (show w.heap.size ≤ w3.heap.size from B3.out.size)
    clear hb3 hb4 HB HSTA B3 S3 R3 hcell hsl hi2 hi3
    obtain ⟨⟨q0, _, _, _, _, _, _, _, _, _⟩, _⟩ := stat_facts N4.out
    rcases (Classical.em (sr.kind = 2)).symm with hk | hk
    · have K := Lib.hid (HERRX.out 12 ⟨at0, r, hops0⟩ (by decide) (by rw [HSTEP.out, if_pos (by rw [HDIR.out, decide_eq_false hk])]))
      have e1 : (sr.kind != 2) = true := by simpa using hk
      clear hk
      go_wp2_with fail
      go_ret2
      rw [K.out]
      exact ⟨rfl, B4.out⟩
    have e1 : (sr.kind != 2) = false := by simpa using hk
    have HST2 := Lib.hid (show stepW Kf ⟨at0, x :: r, hops0⟩ = if x = [] ∨ x = [46] then ((⟨at0, r, hops0⟩ : Wk), (0 : Int)) else if x = [46, 46] then upW ⟨at0, r, hops0⟩ else enterW Kf ⟨at0, r, hops0⟩ x by
      rw [HSTEP.out, if_neg (by rw [HDIR.out, decide_eq_true hk]; simp)])
    clear hk HSTEP HDIR
    by_cases hx0 : x = []
    · have K := Lib.hid (HOKX.out ⟨at0, r, hops0⟩ (by rw [HST2.out, if_pos (.inl hx0)]))
      subst hx0
      go_wp2_with fail
      go_roundw
      case rel => exact ⟨⟨at0, r, hops0⟩, _, _, _, rfl, rfl, rfl, by have := HRL.out; omega, S4.out, K.out.2.1, K.out.1, B4.out⟩
      case measure => have := HMS.out _ K.out.2.2; have := HRL.out; simp [intOf, sliceLen] at *; omega
    by_cases hx1 : x = [46]
    · have K := Lib.hid (HOKX.out ⟨at0, r, hops0⟩ (by rw [HST2.out, if_pos (.inr hx1)]))
      subst hx1
      clear hx0
      go_wp2_with fail
      go_roundw
      case rel => exact ⟨⟨at0, r, hops0⟩, _, _, _, rfl, rfl, rfl, by have := HRL.out; omega, S4.out, K.out.2.1, K.out.1, B4.out⟩
      case measure => have := HMS.out _ K.out.2.2; have := HRL.out; simp [intOf, sliceLen] at *; omega
    have HST3 := Lib.hid (show stepW Kf ⟨at0, x :: r, hops0⟩ = if x = [46, 46] then upW ⟨at0, r, hops0⟩ else enterW Kf ⟨at0, r, hops0⟩ x by rw [HST2.out, if_neg (fun h => h.elim hx0 hx1)])
    clear HST2
    by_cases hx2 : x = [46, 46]
    · have HUP := Lib.hid (show stepW Kf ⟨at0, x :: r, hops0⟩ = if at0 = [] then ((⟨at0, r, hops0⟩ : Wk), (16 : Int)) else (⟨parentB at0, r, hops0⟩, 0) by rw [HST3.out, if_pos hx2]; rfl)
      by_cases ha : at0 = []
      · have K := Lib.hid (HERRX.out 16 ⟨at0, r, hops0⟩ (by decide) (by rw [HUP.out, if_pos ha]))
        subst hx2
        subst ha
        clear hx0 hx1
        go_wp2_with fail
        go_ret2
        rw [K.out]
        exact ⟨rfl, B4.out⟩
      · have K := Lib.hid (HOKX.out ⟨parentB at0, r, hops0⟩ (by rw [HUP.out, if_neg ha]))
        have a0 : at0.isEmpty = false := by cases at0 with | nil => exact absurd rfl ha | cons a l => rfl
        have a1 : (at0 == []) = false := by simpa using ha
        subst hx2
        clear hx0 hx1 ha
        go_wp2_with fail
        refine (HPA.out _).mono ?_
        rintro e w5 ⟨rfl, hb5⟩
        have B5 := Lib.hid (B4.out.trans (hb5.mono B4.out.size))
        have S5 := Lib.hid (S4.out.below hb5)
        clear hb5 q0 e1 a0 a1
        go_wp2_with fail
        go_roundw
        case rel => exact ⟨⟨parentB at0, r, hops0⟩, _, _, _, rfl, rfl, rfl, by have := HRL.out; omega, S5.out, K.out.2.1, K.out.1, B5.out⟩
        case measure => have := HMS.out _ K.out.2.2; have := HRL.out; simp [intOf, sliceLen] at *; omega
    have HEN := Lib.hid (show stepW Kf ⟨at0, x :: r, hops0⟩ = enterW Kf ⟨at0, r, hops0⟩ x by rw [HST3.out, if_neg hx2])
    have p0 : x.isEmpty = false := by cases x with | nil => exact absurd rfl hx0 | cons a l => rfl
    have p00 : (x == []) = false := by simpa using hx0
    have p1 : (x == [46]) = false := by simpa using hx1
    have p2 : (x == [46, 46]) = false := by simpa using hx2
    clear hx0 hx1 hx2 HST3
    go_wp2_with fail
    refine (HBE.out _).mono ?_
    rintro e w4 ⟨rfl, hw4⟩
    generalize hwq : w3.alloc (.cells #[.int .i64 sr.kind, .int .i64 sr.ino, .int .i64 sr.size, .int .i64 sr.links, .int .i64 sr.mt.m0, .int .i64 sr.mt.m1, .int .i64 sr.mt.m2, .int .i64 sr.mt.m3, .int .i64 sr.mt.m4, .string sr.target] 55) = wq at *
    subst hw4
    go_wp2_with fail
    refine (HSTB.out w4 B4.out).mono ?_
    rintro e w5 ⟨rfl, hb5⟩
    have B5 := Lib.hid (B4.out.trans (hb5.mono B4.out.size))
    have S5 := Lib.hid (S4.out.below hb5)
    have N5 := Lib.hid (N4.out.below hb5)
    have R5 := Lib.hid (R4.out.trans (hb5.mono R4.out.size))
    clear hb5 q0 e1 p0 p00 p1 p2 hwq B4 S4 N4 R4 HSTB
    generalize w3.heap.size = bs at *
    obtain ⟨⟨x0, x1, x2, x3, x4, x5, x6, x7, x8, x9⟩, y0, y1, y2, y3, y4, y5, y6, y7, y8, y9⟩ := stat_facts N5.out
    obtain ⟨s2, hs2⟩ : ∃ s2, (statS S (joinP at0 x)).1 = s2 := ⟨_, rfl⟩
    obtain ⟨e2, he2⟩ : ∃ e2, (statS S (joinP at0 x)).2 = e2 := ⟨_, rfl⟩
    have HCASE := Lib.hid (show (e2 = 0 ∧ Kf (joinP at0 x) = some (s2.kind, s2.target.data.toList) ∧ s2.target.size ≤ 200) ∨ (e2 ≠ 0 ∧ Kf (joinP at0 x) = none) by
      rcases HKB.out with ⟨i, hst, hkf⟩ | ⟨e, he, hst, hkf⟩
      · rw [hst] at hs2 he2
        subst hs2; subst he2
        exact .inl ⟨rfl, hkf, by have := (HK.out _ _ _ hkf).2; rwa [Array.length_toList] at this⟩
      · rw [hst] at hs2 he2
        subst he2
        exact .inr ⟨he, hkf⟩)
    rw [hs2, he2]
    unfold aggT encT
    have B6' := below_set10 B5.out HLB.out (.int .i64 s2.kind) (.int .i64 s2.ino) (.int .i64 s2.size) (.int .i64 s2.links) (.int .i64 s2.mt.m0) (.int .i64 s2.mt.m1) (.int .i64 s2.mt.m2) (.int .i64 s2.mt.m3) (.int .i64 s2.mt.m4) (.string s2.target)
    have R6' := below_set10 R5.out HRB.out (.int .i64 s2.kind) (.int .i64 s2.ino) (.int .i64 s2.size) (.int .i64 s2.links) (.int .i64 s2.mt.m0) (.int .i64 s2.mt.m1) (.int .i64 s2.mt.m2) (.int .i64 s2.mt.m3) (.int .i64 s2.mt.m4) (.string s2.target)
    have N6' : Blk ((((((((((w5.setCell ⟨bs, 0, none⟩ (.int .i64 s2.kind)).setCell ⟨bs, 1, none⟩ (.int .i64 s2.ino)).setCell ⟨bs, 2, none⟩ (.int .i64 s2.size)).setCell ⟨bs, 3, none⟩ (.int .i64 s2.links)).setCell ⟨bs, 4, none⟩ (.int .i64 s2.mt.m0)).setCell ⟨bs, 5, none⟩ (.int .i64 s2.mt.m1)).setCell ⟨bs, 6, none⟩ (.int .i64 s2.mt.m2)).setCell ⟨bs, 7, none⟩ (.int .i64 s2.mt.m3)).setCell ⟨bs, 8, none⟩ (.int .i64 s2.mt.m4)).setCell ⟨bs, 9, none⟩ (.string s2.target)) bs 55 (encT s2) := Blk.set10 N5.out _ _ _ _ _ _ _ _ _ _
    obtain ⟨w6, hw6⟩ : ∃ w6, (((((((((w5.setCell ⟨bs, 0, none⟩ (.int .i64 s2.kind)).setCell ⟨bs, 1, none⟩ (.int .i64 s2.ino)).setCell ⟨bs, 2, none⟩ (.int .i64 s2.size)).setCell ⟨bs, 3, none⟩ (.int .i64 s2.links)).setCell ⟨bs, 4, none⟩ (.int .i64 s2.mt.m0)).setCell ⟨bs, 5, none⟩ (.int .i64 s2.mt.m1)).setCell ⟨bs, 6, none⟩ (.int .i64 s2.mt.m2)).setCell ⟨bs, 7, none⟩ (.int .i64 s2.mt.m3)).setCell ⟨bs, 8, none⟩ (.int .i64 s2.mt.m4)).setCell ⟨bs, 9, none⟩ (.string s2.target) = w6 := ⟨_, rfl⟩
    rw [hw6] at B6' R6' N6'
    have B6 := Lib.hid B6'
    have R6 := Lib.hid R6'
    have N6 := Lib.hid N6'
    have S6 := Lib.hid (HS2.out.below R6')
    clear B6' R6' N6' B5 S5 N5 R5 HKB hs2 he2
    obtain ⟨⟨z0, _, _, _, _, _, _, _, _, z9⟩, _⟩ := stat_facts N6.out
    rcases HCASE.out with ⟨he0, hkf, hts⟩ | ⟨he0, hkf⟩
    · subst he0
      have HE2 := Lib.hid (show enterW Kf ⟨at0, r, hops0⟩ x = if s2.kind ≠ 3 then ((⟨joinP at0 x, r, hops0⟩ : Wk), (0 : Int)) else if hops0 = 16 then (⟨at0, r, hops0⟩, 15)
          else (⟨if s2.target.data.toList[0]? = some 47 then [] else at0, splitB s2.target.data.toList ++ r, hops0 + 1⟩, 0) by unfold enterW; simp only [hkf])
      have HTS := Lib.hid hts
      clear hkf hts HCASE
      rcases (Classical.em (s2.kind = 3)).symm with h3 | h3
      · have K := Lib.hid (HOKX.out ⟨joinP at0 x, r, hops0⟩ (by rw [HEN.out, HE2.out, if_pos h3]))
        have e3 : (s2.kind != 3) = true := by simpa using h3
        clear h3
        go_wp2_with fail
        refine (HBE.out _).mono ?_
        rintro e w7 ⟨rfl, rfl⟩
        go_wp2_with fail
        go_roundw
        case rel => exact ⟨⟨joinP at0 x, r, hops0⟩, _, _, _, rfl, rfl, rfl, by have := HRL.out; omega, S6.out, K.out.2.1, K.out.1, B6.out⟩
        case measure => have := HMS.out _ K.out.2.2; have := HRL.out; simp [intOf, sliceLen] at *; omega
      · have e3 : (s2.kind != 3) = false := by simpa using h3
        have HE3 := Lib.hid (show stepW Kf ⟨at0, x :: r, hops0⟩ = if hops0 = 16 then ((⟨at0, r, hops0⟩ : Wk), (15 : Int)) else (⟨if s2.target.data.toList[0]? = some 47 then [] else at0, splitB s2.target.data.toList ++ r, hops0 + 1⟩, 0) by rw [HEN.out, HE2.out, if_neg (fun h => h h3)])
        clear h3 HE2 HEN
        by_cases hh : hops0 = 16
        · have K := Lib.hid (HERRX.out 15 ⟨at0, r, hops0⟩ (by decide) (by rw [HE3.out, if_pos hh]))
          have e4 : ((hops0 : Int) == 16) = true := by simp; omega
          clear hh
          go_wp2_with fail
          go_ret2
          rw [K.out]
          exact ⟨rfl, B6.out⟩
        · have e4 : ((hops0 : Int) == 16) = false := by simp; omega
          have wh : IntKind.i64.wrap ((hops0 : Int) + 1) = (hops0 : Int) + 1 := by rw [IntKind.wrap_i64]; omega
          have HIN := Lib.hid (intoD_any at0 s2.target (subAt (some ⟨xb, xo, none⟩) 1 cc 1) (n - 1) (cc - 1) r w6 (by have := HTS.out; omega) S6.out (by have := HROW.out; omega))
          have K := Lib.hid (HOKX.out ⟨if s2.target.data.toList[0]? = some 47 then [] else at0, splitB s2.target.data.toList ++ r, hops0 + 1⟩ (by rw [HE3.out, if_neg hh]))
          have HLEN := Lib.hid (show (splitB s2.target.data.toList ++ r).length ≤ 1000000 by
            rw [List.length_append]
            have h8 := splitB_len s2.target.data.toList
            have h7 : s2.target.data.toList.length = s2.target.size := Array.length_toList
            have := HROW.out; have := HRL.out; have := HTS.out; omega)
          obtain ⟨at1, hat1⟩ : ∃ at1, (if s2.target.data.toList[0]? = some 47 then [] else at0) = at1 := ⟨_, rfl⟩
          obtain ⟨row1, hrow1⟩ : ∃ row1, splitB s2.target.data.toList ++ r = row1 := ⟨_, rfl⟩
          rw [hat1, hrow1] at HIN K
          rw [hrow1] at HLEN
          clear hh hat1 hrow1 HE3
          go_wp2_with fail
          refine HIN.out.mono ?_
          rintro e w7 ⟨⟨v7, rfl, hO7⟩, hb7⟩
          obtain ⟨A7, c7, rfl, hc7, _, hs7⟩ := own_strs hO7 (by have := HLEN.out; omega)
          have S7 := Lib.hid hs7
          have C7 := Lib.hid hc7
          have B7 := Lib.hid (B6.out.trans (hb7.mono B6.out.size))
          clear hO7 hb7 hs7 hc7
          go_wp2_with fail
          go_roundw
          case rel => exact ⟨⟨at1, row1, hops0 + 1⟩, _, _, _, rfl, by go_num, rfl, C7.out, S7.out, K.out.2.1, K.out.1, B7.out⟩
          case measure => have := HMS.out _ K.out.2.2; have := HRL.out; simp [intOf, sliceLen] at *; omega
    · have K := Lib.hid (HERRX.out 10 ⟨at0, r, hops0⟩ (by decide) (by rw [HEN.out]; unfold enterW; simp only [hkf]))
      have e3 : (e2 != 0) = true := by simpa using he0
      clear he0 hkf HCASE
      go_wp2_with fail
      go_ret2
      rw [K.out]
      exact ⟨rfl, B6.out⟩
end Go.Proofs.YtlbbehfbjbbckaaGreatDoor

/-! Where any path of any tree leads is the document's: the law LinkResolves, walked. -/
set_option linter.unusedVariables false
set_option linter.unusedSimpArgs false
namespace Go.Proofs.YtlbbehfbjbbckaaGreatDoor
open Go.RowKit
attribute [local go_sem] str_toList

theorem resolve_nil_any (p : ByteArray) (w : World) :
    Calls Tryz.prog 10 #[.pointer none, .string p] w fun e w' => e = .returned (.tuple #[.string ⟨#[]⟩, .int .i64 1]) ∧ w' = w := by
  go_enter Tryz.func10, Tryz.ntmps10
  go_wp2_with fail
  go_ret2
  exact ⟨rfl, rfl⟩
theorem resolveDS_any (t : Nat) (S : St) (O : Nat → Prop) (p : ByteArray) (w : World) (h : DocS w t S O) (hl : S.ls.length ≤ 1000000) (hp : p.size ≤ 2097152) :
    Calls Tryz.prog 12 #[.pointer (some ⟨t, 0, none⟩), .string p] w fun e w' => e = .returned (.tuple #[.string (str (resolveU S.kindS p.data.toList).1), .int .i64 (resolveU S.kindS p.data.toList).2]) ∧ Below w.heap.size w w' := by
  obtain ⟨v, B, D, hA, ho, ht, hO⟩ := h
  exact resolveD_any t v S B D p w hA ho ht hl hp
set_option maxRecDepth 100000 in
set_option maxHeartbeats 8000000 in
theorem linkResolves_any (A : Option Addr) (n cp : Nat) (L : List Ac) (p : ByteArray) (w : World) (h : ActsAt w A n L) (hm : ML w) :
    Calls Tryz.prog 3 #[.slice A n cp, .string p] w fun e w' => e = .returned (.bool true) ∧ Below w.heap.size w w' := by
  have HS := Lib.hid (smallA_any A n cp L w h.row)
  have HAW := Lib.hid (fun w' (hb : Below w.heap.size w w') => awake_any w' (hm.below hb))
  have hsm2 : smallA L = true → n ≤ 40 ∧ ∀ a ∈ L, a.dn ≤ 1000000 ∧ a.path.size ≤ 100000 ∧ a.dst.size ≤ 100000 := fun hs => by
    have hlen := h.row.acLen
    unfold smallA at hs
    simp only [Bool.and_eq_true, decide_eq_true_eq] at hs
    refine ⟨by omega, fun a ha => ?_⟩
    have := List.all_eq_true.1 hs.1 a ha
    unfold lightA at this
    simp only [Bool.and_eq_true, decide_eq_true_eq] at this
    omega
  have HB0 := Lib.hid (fun w' (hb : Below w.heap.size w w') (hs : smallA L = true) => BuildS_any A n cp L w' (h.below hb) (by have := (hsm2 hs).1; omega) (hsm2 hs).2)
  have HD0 := Lib.hid (fun w' (hb : Below w.heap.size w w') (hs : smallA L = true) => BuildD_any A n cp L w' (h.below hb) (by have := (hsm2 hs).1; omega) (hsm2 hs).2)
  have HLN := Lib.hid (show smallA L = true → (newS.acts L).ls.length ≤ 1000000 from fun hs => by
    have h1 := (acts_grow newS L).2.2
    have h2 : newS.ls.length = 1 := rfl
    have h3 := h.row.acLen
    have h4 := (hsm2 hs).1
    omega)
  obtain ⟨sm, hsm⟩ : ∃ sm, smallA L = sm := ⟨_, rfl⟩
  rw [hsm] at HS HB0 HD0 HLN
  clear h hm hsm hsm2
  go_enter Tryz.func3, Tryz.ntmps3
  go_wp2_with fail
  refine HS.out.mono ?_
  rintro e w1 ⟨rfl, hb1⟩
  have B1 := Lib.hid hb1
  clear hb1 HS
  cases sm with
  | false =>
    go_wp2_with fail
    refine (HAW.out w1 B1.out).mono ?_
    rintro e w2 ⟨rfl, hb2⟩
    have B2 := Lib.hid (B1.out.trans (hb2.mono B1.out.size))
    clear hb2
    go_wp2_with fail
    go_ret
    exact ⟨rfl, B2.out⟩
  | true =>
  rcases Nat.lt_or_ge 300 p.size with hbig | hbig
  · have q1 : (300 : Int) < (p.size : Int) := by omega
    have q2 : decide ((300 : Int) < (p.size : Int)) = true := decide_eq_true q1
    clear hbig
    go_wp2_with fail
    refine (HAW.out w1 B1.out).mono ?_
    rintro e w2 ⟨rfl, hb2⟩
    have B2 := Lib.hid (B1.out.trans (hb2.mono B1.out.size))
    clear hb2
    go_wp2_with fail
    go_ret
    exact ⟨rfl, B2.out⟩
  have q1 : ¬ (300 : Int) < (p.size : Int) := by omega
  have q2 : decide ((300 : Int) < (p.size : Int)) = false := decide_eq_false q1
  have HP := Lib.hid (show p.size ≤ 2097152 by omega)
  have HBB := Lib.hid (HB0.out w1 B1.out (by first | rfl | trivial))
  have HDD := Lib.hid (fun w' hb => HD0.out w' hb (by first | rfl | trivial))
  have HLL := Lib.hid (HLN.out (by first | rfl | trivial))
  clear hbig HB0 HD0 HLN
  go_wp2_with fail
  refine HBB.out.mono ?_
  rintro e w2 ⟨t, rfl, hT, hb2⟩
  have T2 := Lib.hid hT
  have B2 := Lib.hid (B1.out.trans (hb2.mono B1.out.size))
  clear hT hb2 HBB q1 q2
  obtain ⟨X, hX⟩ : ∃ X, resolveU (newS.acts L).kindS p.data.toList = X := ⟨_, rfl⟩
  have HRS := Lib.hid (resolveS_any t n (newS.acts L) _ p w2 T2.out HP.out)
  have HRD := Lib.hid (fun t O w' (h : DocS w' t (newS.acts L) O) => resolveDS_any t (newS.acts L) O p w' h HLL.out HP.out)
  rw [hX] at HRS HRD
  obtain ⟨xq, xe⟩ := X
  clear hX T2
  go_wp2_with fail
  refine HRS.out.mono ?_
  rintro e w3 ⟨rfl, hb3⟩
  have B3 := Lib.hid (B2.out.trans (hb3.mono B2.out.size))
  clear hb3 HRS B2
  go_wp2_with fail
  refine (HDD.out w3 B3.out).mono ?_
  rintro e w4 ⟨t2, rfl, hD, hb4⟩
  have D4 := Lib.hid hD
  have B4 := Lib.hid (B3.out.trans (hb4.mono B3.out.size))
  clear hD hb4 HDD B3
  go_wp2_with fail
  refine (HRD.out t2 _ w4 D4.out).mono ?_
  rintro e w5 ⟨rfl, hb5⟩
  have B5 := Lib.hid (B4.out.trans (hb5.mono B4.out.size))
  clear hb5 HRD B4 D4
  go_wp2_with fail
  refine (resolve_nil_any p w5).mono ?_
  rintro e w6 ⟨rfl, rfl⟩
  go_wp2_with fail
  refine (HAW.out _ B5.out).mono ?_
  rintro e w7 ⟨rfl, hb7⟩
  have B7 := Lib.hid (B5.out.trans (hb7.mono B5.out.size))
  clear hb7 B5
  go_wp2_with fail
  go_ret
  exact ⟨rfl, B7.out⟩
end Go.Proofs.YtlbbehfbjbbckaaGreatDoor
