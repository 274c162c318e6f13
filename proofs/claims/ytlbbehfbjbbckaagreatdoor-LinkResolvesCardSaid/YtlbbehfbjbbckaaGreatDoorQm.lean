import Derived.Test.YtlbbehfbjbbckaaGreatDoorQl
import Derived.Test.YtlbbehfbjbbckaaGreatDoorQk
import Derived.Test.YtlbbehfbjbbckaaGreatDoorQd
import Derived.Test.YtlbbehfbjbbckaaGreatDoorQb
/-! The document's tree: Set, Write, Append. -/
set_option linter.unusedVariables false
set_option linter.unusedSimpArgs false
namespace Go.Proofs.YtlbbehfbjbbckaaGreatDoor
open Go.RowKit
attribute [local go_sem] str_toList

theorem thing_post {w w1 w' : World} {t : Nat} {v : Value} {S : St} {B : Int → Nat} {D : Int → Dt} {i : Int} {x : Th} {d : Dt} {O : Nat → Prop} (ho : OkS S) (ht : TopS S) (hO : ∀ k, k = t ∨ heldD v S B D k → O k) (hi : ∃ y ∈ S.ls, y.2 = i)
    (hk : x.kind = (S.th i).kind) (hx : x.target.size ≤ 200 ∧ x.data.length ≤ 65536) (h' : DocAt w' t v { S with th := setT S.th i x } B (updF D i d)) (hw : Only (fun k => k = B i) w1 w') (hb : Below w.heap.size w w1)
    (hd : ∀ a, d.dA = some a → w.heap.size ≤ a.block ∨ (D i).dA = some a) : DocPost w w' t { S with th := setT S.th i x } O := by
  obtain ⟨y0, hy0, rfl⟩ := hi
  refine ⟨fun k => O k ∨ w.heap.size ≤ k, ⟨v, B, _, h', ho.set y0.2 x hk hx, ht, ?_⟩, ?_, fun k hk => hk⟩
  · rintro k (rfl | hk | ⟨y, hy, rfl⟩ | ⟨y, hy, a, ha, rfl⟩)
    · exact .inl (hO k (.inl rfl))
    · exact .inl (hO k (.inr (.inl hk)))
    · exact .inl (hO _ (.inr (.inr (.inl ⟨y, hy, rfl⟩))))
    · by_cases e : y.2 = y0.2
      · rw [e, updF_same] at ha
        rcases hd a ha with h | h
        · exact .inr h
        · exact .inl (hO _ (.inr (.inr (.inr ⟨y0, hy0, a, h, rfl⟩))))
      · rw [updF_other _ _ e] at ha; exact .inl (hO _ (.inr (.inr (.inr ⟨y, hy, a, ha, rfl⟩))))
  · refine ⟨hw.os.trans hb.os, hw.tape.trans hb.tape, hw.output.trans hb.output, Nat.le_trans hb.size hw.size, fun k hk hno => (hw.block k (Nat.lt_of_lt_of_le hk hb.size) (fun e => ?_)).trans (hb.block k hk)⟩
    subst e
    exact hno (hO _ (.inr (.inr (.inl ⟨y0, hy0, rfl⟩))))
/-- A copy of bytes, onto a new row. -/
theorem copy_run (A : Option Addr) (n c : Nat) (l : List UInt8) (w : World) (h : Sl 1 w A n (bys l)) (hn : n ≤ 1099511627776) :
    ∃ B d w', (Builtin.append_ #[36, 36] 36 #[.slice (some ⟨w.heap.size, 0, none⟩) 0 0, .slice A n c]).run Tryz.prog (w.alloc (.cells #[] 5)) = .ok (.slice B n d) w' ∧ BytesAt w' B n l ∧ (∀ a, B = some a → w.heap.size ≤ a.block) ∧ Below w.heap.size w w' := by
  obtain ⟨i, hi, hz0, hz1, hz2⟩ := info_parts infoU8
  have hb0 := (Below.refl w.heap.size w).alloc (Nat.le_refl _) (.cells #[] 5)
  have hsz : (w.alloc (.cells #[] 5)).heap.size = w.heap.size + 1 := World.size_alloc _ _
  obtain ⟨v', w', hap, hown, hg⟩ := run_append_sl (w := w.alloc (.cells #[] 5)) w.heap.size 36 36 5 i _ 1 1 Tryz.underlying36 hi hz0 hz1 hz2 rfl (by decide)
    (World.ownsRow_made w (base := w.heap.size) (e := 5) (size := 1) #[] 0 (Nat.le_refl _) (by decide) rfl) (c := c) (h.below hb0) (bys_one l) (by omega) (by omega) (by rw [hsz]; omega)
  rw [List.nil_append] at hown
  rw [Nat.zero_add] at hown
  have hgb : Below w.heap.size w w' := hb0.grown hg (by rw [hsz]; omega) (fun k hk => by cases hk; exact Nat.le_refl _)
  obtain ⟨B, d, rfl, hrm, hB, hlow⟩ := own_bytes hown
  exact ⟨B, d, w', hap, hB, hlow, hgb⟩
theorem metaD_blk {w : World} {k : Nat} {i : Int} {x : Th} {d : Dt} (h : Blk w k 126 (encH i x d)) (m : Mt) :
    Blk (((((w.setCell ⟨k, 4, none⟩ (.int .i64 m.m0)).setCell ⟨k, 5, none⟩ (.int .i64 m.m1)).setCell ⟨k, 6, none⟩ (.int .i64 m.m2)).setCell ⟨k, 7, none⟩ (.int .i64 m.m3)).setCell ⟨k, 8, none⟩ (.int .i64 m.m4)) k 126 (encH i { x with mt := m } d) ∧
    Only (fun j => j = k) w (((((w.setCell ⟨k, 4, none⟩ (.int .i64 m.m0)).setCell ⟨k, 5, none⟩ (.int .i64 m.m1)).setCell ⟨k, 6, none⟩ (.int .i64 m.m2)).setCell ⟨k, 7, none⟩ (.int .i64 m.m3)).setCell ⟨k, 8, none⟩ (.int .i64 m.m4)) :=
  ⟨((((h.set 4 _).set 5 _).set 6 _).set 7 _).set 8 _, ((((Only.set (P := fun j => j = k) w ⟨k, 4, none⟩ _ rfl).trans (Only.set _ ⟨k, 5, none⟩ _ rfl)).trans (Only.set _ ⟨k, 6, none⟩ _ rfl)).trans (Only.set _ ⟨k, 7, none⟩ _ rfl)).trans (Only.set _ ⟨k, 8, none⟩ _ rfl)⟩
theorem wroteD_blk {w : World} {k : Nat} {i : Int} {x : Th} {d : Dt} (h : Blk w k 126 (encH i x d)) (m : Mt) (l : List UInt8) (B : Option Addr) (n c : Nat) :
    Blk ((((((w.setCell ⟨k, 2, none⟩ (.slice B n c)).setCell ⟨k, 4, none⟩ (.int .i64 m.m0)).setCell ⟨k, 5, none⟩ (.int .i64 m.m1)).setCell ⟨k, 6, none⟩ (.int .i64 m.m2)).setCell ⟨k, 7, none⟩ (.int .i64 m.m3)).setCell ⟨k, 8, none⟩ (.int .i64 m.m4)) k 126 (encH i { x with mt := m, data := l } ⟨B, n, c⟩) ∧
    Only (fun j => j = k) w ((((((w.setCell ⟨k, 2, none⟩ (.slice B n c)).setCell ⟨k, 4, none⟩ (.int .i64 m.m0)).setCell ⟨k, 5, none⟩ (.int .i64 m.m1)).setCell ⟨k, 6, none⟩ (.int .i64 m.m2)).setCell ⟨k, 7, none⟩ (.int .i64 m.m3)).setCell ⟨k, 8, none⟩ (.int .i64 m.m4)) :=
  ⟨(((((h.set 2 _).set 4 _).set 5 _).set 6 _).set 7 _).set 8 _, (((((Only.set (P := fun j => j = k) w ⟨k, 2, none⟩ _ rfl).trans (Only.set _ ⟨k, 4, none⟩ _ rfl)).trans (Only.set _ ⟨k, 5, none⟩ _ rfl)).trans (Only.set _ ⟨k, 6, none⟩ _ rfl)).trans (Only.set _ ⟨k, 7, none⟩ _ rfl)).trans (Only.set _ ⟨k, 8, none⟩ _ rfl)⟩
theorem DataAt.only {w w' : World} {x : Th} {d : Dt} {k : Nat} {cs : List Value} (h : DataAt w x d) (hk : Blk w k 126 cs) (hw : Only (fun j => j = k) w w') : DataAt w' x d := h.heap (fun a ha => by
  obtain ⟨c, hc⟩ := h.2 a ha
  refine hw.block _ (h.lt ha) (fun e => ?_)
  rw [e] at hc
  have e2 := Eq.trans (Eq.symm hc) hk
  simp only [Option.some.injEq, Obj.cells.injEq] at e2
  exact absurd e2.2.1 (by decide))
theorem there_mem {S : St} (ho : OkS S) {p : List UInt8} {i : Int} (h : thereS (S.look p) = (some i, 0)) : ∃ y ∈ S.ls, y.2 = i := ⟨_, (ho.at_iff _ _).1 (there_at ho h).1, rfl⟩
theorem thereS_err {r : Option Int × Int} (h : (thereS r).2 = 0) : ∃ i, thereS r = (some i, 0) := by
  obtain ⟨o, e⟩ := r
  unfold thereS at h ⊢
  split at h
  · cases h
  · rename_i hn
    simp only at h hn
    subst h
    cases o with
    | none => exact absurd ⟨rfl, rfl⟩ hn
    | some i => exact ⟨i, if_neg (by simp)⟩
set_option maxRecDepth 100000 in
set_option maxHeartbeats 4000000 in
theorem SetD_any (t : Nat) (S : St) (O : Nat → Prop) (p : ByteArray) (m : Mt) (w : World) (h : DocS w t S O) (hp : p.size ≤ 2097152) (hl : S.ls.length ≤ 1000000) :
    Calls Tryz.prog 103 #[.pointer (some ⟨t, 0, none⟩), .string p, aggM m] w fun e w' => e = .returned (.int .i64 (S.set p.data.toList m).1) ∧ DocPost w w' t (S.set p.data.toList m).2 O := by
  obtain ⟨v, B, D, hA, ho, ht, hO⟩ := h
  have HDS := Lib.hid (show ∀ w', Below w.heap.size w w' → DocPost w w' t S O from fun w' hb => doc_same ⟨v, B, D, hA, ho, ht, hO⟩ hb)
  have HP := Lib.hid (fun (w1 w' : World) (i : Int) (d : Dt) hi => thing_post (w := w) (w1 := w1) (w' := w') (i := i) (d := d) (x := { S.th i with mt := m }) ho ht hO hi rfl (ho.tgt i))
  have HM := Lib.hid (fun w => mayD_any p m w hp)
  have HF := Lib.hid (fun w (h : DocAt w t v S B D) => There_any t v S B D p w h ho ht hl hp)
  have HMEM := Lib.hid (fun i (h : thereS (S.look p.data.toList) = (some i, 0)) => there_mem ho h)
  have HERR := Lib.hid (show (thereS (S.look p.data.toList)).2 = 0 → _ from thereS_err)
  have HT := Lib.hid hA
  obtain ⟨X, hX⟩ : ∃ X, S.set p.data.toList m = X := ⟨_, rfl⟩
  have HX : Hid ((if mayU p.data.toList m ≠ 0 then (mayU p.data.toList m, S) else match thereS (S.look p.data.toList) with
    | (some i, e) => if e ≠ 0 then (e, S) else (0, { S with th := setT S.th i { S.th i with mt := m } })
    | (none, e) => (e, S)) = X) := Lib.hid hX
  rw [hX]
  clear hX hA ho ht hO
  generalize mayU p.data.toList m = er at *
  generalize thereS (S.look p.data.toList) = l at *
  obtain ⟨a, b, cc, dd, f⟩ := m
  have b0 := Blk.new w 53 [.int .i64 a, .int .i64 b, .int .i64 cc, .int .i64 dd, .int .i64 f]
  have hb0 := (Below.refl w.heap.size w).alloc (Nat.le_refl _) (.cells #[.int .i64 a, .int .i64 b, .int .i64 cc, .int .i64 dd, .int .i64 f] 53)
  have B0 := Lib.hid b0
  have HB0 := Lib.hid hb0
  have T0 := Lib.hid (HT.out.below hb0)
  clear b0 hb0 HT
  unfold aggM at *
  obtain ⟨x0, x1, x2, x3, x4⟩ := meta_cells B0.out
  go_enter Tryz.func103, Tryz.ntmps103
  go_wp2_with fail
  generalize hwa : w.alloc _ = wa at *
  generalize hbm : w.heap.size = bm at *
  refine (HM.out _).mono ?_
  rintro e w1 ⟨rfl, hb1⟩
  have B1 := Lib.hid (B0.out.below hb1)
  have HB1 := Lib.hid (HB0.out.trans (hb1.mono (by rw [← hbm]; exact HB0.out.size)))
  have T1 := Lib.hid (T0.out.below hb1)
  clear hb1 B0 HB0 T0 HM x0 x1 x2 x3 x4
  rcases Classical.em (er = 0) with he | he
  · subst he
    go_wp2_with fail
    refine (HF.out _ T1.out).mono ?_
    rintro e w2 ⟨rfl, hb2⟩
    have B2 := Lib.hid (B1.out.below hb2)
    have HB2 := Lib.hid (HB1.out.trans (hb2.mono (by rw [← hbm]; exact HB1.out.size)))
    have T2 := Lib.hid (T1.out.below hb2)
    clear hb2 HF B1 HB1 T1
    obtain ⟨ro, re⟩ := l
    rcases Classical.em (re = 0) with h0 | h0
    · subst h0
      obtain ⟨i, hi⟩ := HERR.out (by first | rfl | trivial)
      obtain rfl : ro = some i := (Prod.mk.inj hi).1
      have K := Lib.hid (show X = (0, { S with th := setT S.th i { S.th i with mt := ⟨a, b, cc, dd, f⟩ } }) from HX.out.symm)
      obtain ⟨y, hy, hyi⟩ := HMEM.out i (by first | rfl | trivial)
      subst hyi
      have y0 := T2.out.node y hy
      have HY := Lib.hid (show ∃ z ∈ S.ls, z.2 = y.2 from ⟨y, hy, rfl⟩)
      have DY := Lib.hid (show DataAt w2 (S.th y.2) (D y.2) from T2.out.data y hy)
      obtain ⟨x0, x1, x2, x3, x4⟩ := meta_cells B2.out
      have v4 := y0.cell 4
      have v5 := y0.cell 5
      have v6 := y0.cell 6
      have v7 := y0.cell 7
      have v8 := y0.cell 8
      have g4 := y0.frozen 4
      have g5 := y0.frozen 5
      have g6 := y0.frozen 6
      have g7 := y0.frozen 7
      have g8 := y0.frozen 8
      simp only [encH, List.getElem?_cons_zero, List.getElem?_cons_succ] at v4 v5 v6 v7 v8
      have Y0 := Lib.hid y0
      have hkb : bm ≠ B y.2 := B2.out.ne y0 (by decide)
      rw [show ptrM B (some y.2) = .pointer (some ⟨B y.2, 0, none⟩) from rfl]
      generalize hyi : y.2 = i at *
      clear y0 hy HX hi hyi
      go_wp2_with fail
      go_ret
      obtain ⟨hB9, hO9⟩ := metaD_blk Y0.out ⟨a, b, cc, dd, f⟩
      have hD9 : DataAt _ { S.th i with mt := ⟨a, b, cc, dd, f⟩ } (D i) := DY.out.only Y0.out hO9
      have hT9 := T2.out.thing_to (d := D i) HY.out hB9 hD9 (fun k hk hh => hO9.block k (heldD_lt T2.out k hh) hk)
      rw [K.out]
      exact ⟨rfl, HP.out _ _ i (D i) HY.out hT9 hO9 HB2.out (fun a ha => .inr ha)⟩
    · have K := Lib.hid (show X = (re, S) by
        rw [← HX.out]
        cases ro with
        | none => rfl
        | some i => exact if_pos h0)
      have e1 : (re == 0) = false := by simpa using h0
      clear h0 HX
      go_wp2_with fail
      go_ret
      rw [K.out]
      exact ⟨rfl, HDS.out _ HB2.out⟩
  · have K := Lib.hid (show X = (er, S) by rw [← HX.out]; exact if_pos he)
    have e1 : (er != 0) = true := by simpa using he
    clear he HX
    go_wp2_with fail
    go_ret
    rw [K.out]
    exact ⟨rfl, HDS.out _ HB1.out⟩
end Go.Proofs.YtlbbehfbjbbckaaGreatDoor

/-! The document's tree: Write. -/
set_option linter.unusedVariables false
set_option linter.unusedSimpArgs false
namespace Go.Proofs.YtlbbehfbjbbckaaGreatDoor
open Go.RowKit
attribute [local go_sem] str_toList

theorem meta_of {w : World} {g : Nat} {a b c d f : Int} (h : Blk w g 53 [.int .i64 a, .int .i64 b, .int .i64 c, .int .i64 d, .int .i64 f]) : w.cell? ⟨g, 0, none⟩ = some (.int .i64 a) ∧ w.cell? ⟨g, 1, none⟩ = some (.int .i64 b) ∧ w.cell? ⟨g, 2, none⟩ = some (.int .i64 c) ∧ w.cell? ⟨g, 3, none⟩ = some (.int .i64 d) ∧ w.cell? ⟨g, 4, none⟩ = some (.int .i64 f) := meta_cells h
theorem fileU_zero {k : Int} (h : fileU k = 0) : k ≠ 2 ∧ k ≠ 3 := by
  unfold fileU at h
  refine ⟨fun e => ?_, fun e => ?_⟩
  · rw [if_pos e] at h; cases h
  · subst e; simp at h
set_option maxRecDepth 100000 in
set_option maxHeartbeats 8000000 in
theorem WriteD_any (t : Nat) (S : St) (O : Nat → Prop) (p : ByteArray) (dA : Option Addr) (dn dc : Nat) (data : List UInt8) (m : Mt) (w : World) (h : DocS w t S O) (hs : Sl 1 w dA dn (bys data)) (hdn : dn ≤ 1000000) (hp : p.size ≤ 2097152) (hn0 : 0 ≤ S.next) (hn1 : S.next ≤ 1099511627776) (hl : S.ls.length ≤ 1000000) :
    Calls Tryz.prog 57 #[.pointer (some ⟨t, 0, none⟩), .string p, .slice dA dn dc, aggM m] w fun e w' => e = .returned (.int .i64 (S.write p.data.toList data m).1) ∧ DocPost w w' t (S.write p.data.toList data m).2 O := by
  obtain ⟨v, B, D, hA, ho, ht, hO⟩ := h
  have HDS := Lib.hid (show ∀ w', Below w.heap.size w w' → DocPost w w' t S O from fun w' hb => doc_same ⟨v, B, D, hA, ho, ht, hO⟩ hb)
  have HPA := Lib.hid (fun (hz : data.length ≤ 65536) (d : Dt) (w1 w' : World) (n : Nat) (v' : Value) (hl : S.look p.data.toList = (none, 0)) => made_post (w := w) (w1 := w1) (w' := w') (n := n) (v' := v') (x := ⟨1, m, ⟨#[]⟩, data⟩) (d := d) ho ht hO hl (.inl rfl) ⟨Nat.zero_le _, hz⟩)
  have HPS := Lib.hid (fun (hz : data.length ≤ 65536) (w1 w' : World) (i : Int) (d : Dt) hi => thing_post (w := w) (w1 := w1) (w' := w') (i := i) (d := d) (x := { S.th i with mt := m, data := data }) ho ht hO hi rfl ⟨(ho.tgt i).1, hz⟩)
  have HM := Lib.hid (fun w => mayD_any p m w hp)
  have HF := Lib.hid (fun w (h : DocAt w t v S B D) => Look_any t v S B D p w h ho ht hl hp)
  have HK := Lib.hid (fun d n w h1 h2 h3 h4 => make_any t n v S B D p ⟨1, m, ⟨#[]⟩, data⟩ d w h1 ho hl h2 h3 h4 hn0 hn1)
  have HMEM := Lib.hid (fun i (h : S.look p.data.toList = (some i, 0)) => there_mem ho (p := p.data.toList) (i := i) (by rw [h]; rfl))
  have hlen : dn = data.length := by have := hs.len; rw [bys_length] at this; omega
  have HLN := Lib.hid hlen
  have HT := Lib.hid hA
  have HSL := Lib.hid hs
  obtain ⟨X, hX⟩ : ∃ X, S.write p.data.toList data m = X := ⟨_, rfl⟩
  have HX : Hid ((if mayU p.data.toList m ≠ 0 then (mayU p.data.toList m, S) else if 65536 < data.length then ((7 : Int), S)
    else if (S.look p.data.toList).2 ≠ 0 then ((S.look p.data.toList).2, S)
    else match (S.look p.data.toList).1 with
      | none => (0, S.add p.data.toList ⟨1, m, ⟨#[]⟩, data⟩)
      | some i => if fileU (S.th i).kind ≠ 0 then (fileU (S.th i).kind, S) else (0, { S with th := setT S.th i { S.th i with mt := m, data := data } })) = X) := Lib.hid hX
  rw [hX]
  clear hX hA ho ht hO hs hlen
  generalize mayU p.data.toList m = er at *
  generalize S.look p.data.toList = l at *
  obtain ⟨a, b, cc, dd, f⟩ := m
  have b0 := Blk.new w 53 [.int .i64 a, .int .i64 b, .int .i64 cc, .int .i64 dd, .int .i64 f]
  have hb0 := (Below.refl w.heap.size w).alloc (Nat.le_refl _) (.cells #[.int .i64 a, .int .i64 b, .int .i64 cc, .int .i64 dd, .int .i64 f] 53)
  have B0 := Lib.hid b0
  have HB0 := Lib.hid hb0
  have T0 := Lib.hid (HT.out.below hb0)
  have S0 := Lib.hid (HSL.out.below hb0)
  clear b0 hb0 HT HSL
  unfold aggM at *
  obtain ⟨x0, x1, x2, x3, x4⟩ := meta_cells B0.out
  go_enter Tryz.func57, Tryz.ntmps57
  go_wp2_with fail
  generalize hwa : w.alloc _ = wa at *
  generalize hbm : w.heap.size = bm at *
  refine (HM.out _).mono ?_
  rintro e w1 ⟨rfl, hb1⟩
  have B1 := Lib.hid (B0.out.below hb1)
  have HB1 := Lib.hid (HB0.out.trans (hb1.mono (by rw [← hbm]; exact HB0.out.size)))
  have T1 := Lib.hid (T0.out.below hb1)
  have S1 := Lib.hid (S0.out.below hb1)
  clear hb1 B0 HB0 T0 S0 HM x0 x1 x2 x3 x4
  rcases (Classical.em (er = 0)).symm with he | he
  · have K := Lib.hid (show X = (er, S) by rw [← HX.out]; exact if_pos he)
    have e1 : (er != 0) = true := by simpa using he
    clear he HX
    go_wp2_with fail
    go_ret
    rw [K.out]
    exact ⟨rfl, HDS.out _ HB1.out⟩
  subst he
  rcases Nat.lt_or_ge 65536 dn with hbig | hbig
  · have K := Lib.hid (show X = (7, S) by rw [← HX.out, if_neg (show ¬ ((0 : Int) ≠ 0) by simp), if_pos (by rw [← HLN.out]; exact hbig)])
    have q2 : (65536 : Int) < (dn : Int) := by omega
    have q3 : decide ((65536 : Int) < (dn : Int)) = true := decide_eq_true q2
    clear hbig HX
    go_wp2_with fail
    go_ret
    rw [K.out]
    exact ⟨rfl, HDS.out _ HB1.out⟩
  have HZ := Lib.hid (show data.length ≤ 65536 by rw [← HLN.out]; exact hbig)
  have HX2 := Lib.hid (show (if l.2 ≠ 0 then (l.2, S)
    else match l.1 with
      | none => (0, S.add p.data.toList ⟨1, ⟨a, b, cc, dd, f⟩, ⟨#[]⟩, data⟩)
      | some i => if fileU (S.th i).kind ≠ 0 then (fileU (S.th i).kind, S) else (0, { S with th := setT S.th i { S.th i with mt := ⟨a, b, cc, dd, f⟩, data := data } })) = X by rw [← HX.out, if_neg (show ¬ ((0 : Int) ≠ 0) by simp), if_neg (show ¬ 65536 < data.length by rw [← HLN.out]; omega)])
  have q2 : ¬ (65536 : Int) < (dn : Int) := by omega
  have q3 : decide ((65536 : Int) < (dn : Int)) = false := decide_eq_false q2
  clear hbig HX
  go_wp2_with fail
  refine (HF.out _ T1.out).mono ?_
  rintro e w2 ⟨rfl, hb2⟩
  have B2 := Lib.hid (B1.out.below hb2)
  have HB2 := Lib.hid (HB1.out.trans (hb2.mono (by rw [← hbm]; exact HB1.out.size)))
  have T2 := Lib.hid (T1.out.below hb2)
  have S2 := Lib.hid (S1.out.below hb2)
  clear hb2 HF B1 HB1 T1 S1 q2 q3
  obtain ⟨ro, re⟩ := l
  rcases (Classical.em (re = 0)).symm with h0 | h0
  · have K := Lib.hid (show X = (re, S) by rw [← HX2.out]; exact if_pos h0)
    have e1 : (re != 0) = true := by simpa using h0
    clear h0 HX2
    go_wp2_with fail
    go_ret
    rw [K.out]
    exact ⟨rfl, HDS.out _ HB2.out⟩
  subst h0
  have hz2 : bm ≤ w2.heap.size := by rw [← hbm]; exact HB2.out.size
  cases ro with
  | none =>
    have K := Lib.hid (show X = (0, S.add p.data.toList ⟨1, ⟨a, b, cc, dd, f⟩, ⟨#[]⟩, data⟩) from HX2.out.symm)
    rw [show ptrM B none = .pointer none from rfl]
    obtain ⟨Bd, d, w5, hap, hby, hlow, hb5⟩ := copy_run dA dn dc data w2.drew ⟨S2.out.len, S2.out.max, S2.out.at_⟩ (by omega)
    have hb25 : Below w2.heap.size w2 w5 := ((Below.refl w2.heap.size w2).drew).trans hb5
    have B5 := B2.out.below hb25
    have T5 := T2.out.below hb25
    have hb6 := (Below.refl w5.heap.size w5).alloc (Nat.le_refl _) (.cells #[.int .i64 1, .int .i64 0, .slice Bd dn d, .string ⟨#[]⟩, .int .i64 a, .int .i64 b, .int .i64 cc, .int .i64 dd, .int .i64 f] 126)
    have b6 : Blk (w5.alloc (.cells #[.int .i64 1, .int .i64 0, .slice Bd dn d, .string ⟨#[]⟩, .int .i64 a, .int .i64 b, .int .i64 cc, .int .i64 dd, .int .i64 f] 126)) w5.heap.size 126 (encH 0 ⟨1, ⟨a, b, cc, dd, f⟩, ⟨#[]⟩, data⟩ ⟨Bd, dn, d⟩) := Blk.new w5 126 _
    have HT6 := Lib.hid (T5.below hb6)
    have HB6 := Lib.hid b6
    have HD6 := Lib.hid (show DataAt (w5.alloc (.cells #[.int .i64 1, .int .i64 0, .slice Bd dn d, .string ⟨#[]⟩, .int .i64 a, .int .i64 b, .int .i64 cc, .int .i64 dd, .int .i64 f] 126)) ⟨1, ⟨a, b, cc, dd, f⟩, ⟨#[]⟩, data⟩ ⟨Bd, dn, d⟩ from DataAt.below (x := ⟨1, ⟨a, b, cc, dd, f⟩, ⟨#[]⟩, data⟩) (d := ⟨Bd, dn, d⟩) hby hb6)
    have HNE := Lib.hid (fun y (hy : y ∈ S.ls) => (show B y.2 ≠ w5.heap.size from fun e => by have := (T5.node y hy).lt; omega))
    have HLO := Lib.hid (show bm ≤ w5.heap.size from Nat.le_trans hz2 hb25.size)
    have HLD := Lib.hid (show ∀ a, Bd = some a → bm ≤ a.block from fun a ha => Nat.le_trans hz2 (hlow a ha))
    have HBW := Lib.hid (show Below bm w (w5.alloc (.cells #[.int .i64 1, .int .i64 0, .slice Bd dn d, .string ⟨#[]⟩, .int .i64 a, .int .i64 b, .int .i64 cc, .int .i64 dd, .int .i64 f] 126)) from (HB2.out.trans (hb25.mono hz2)).trans (hb6.mono (Nat.le_trans hz2 hb25.size)))
    have M2 := B2.out
    have M5 := B5
    have M6 := B5.below hb6
    have MA := B2.out.drew.below ((Below.refl w2.drew.heap.size w2.drew).alloc (Nat.le_refl _) (.cells #[] 5))
    clear hb6 b6 T5 B5 hb25 HX2 hlow hby hb5
    go_wp2_with fail
    refine wp_region_held_drew (S := (fun w' => Blk w' bm 53 [.int .i64 a, .int .i64 b, .int .i64 cc, .int .i64 dd, .int .i64 f])) (by kernel_rfl) (M2) (fun hHeld => ?_)
    refine wpAnyH_take (i := 0) (oi := ?oi1) (v := ?v1) ?hi1 ?hs1 ?hf1 ?hr1 ?hQ1 (Or.inl ⟨?hg1, ?hy1⟩) hHeld ?rest1
    case hi1 => simp only [List.getElem?_toArray, List.getElem?_cons_succ, List.getElem?_cons_zero]; rfl
    case hs1 => kernel_rfl
    case hf1 => kernel_rfl
    case hr1 => kernel_rfl
    case hg1 => rfl
    case hy1 => (intro w hSw; first | (go_simp; done) | (go_simp; with_reducible rfl))
    case hQ1 => exact fun _ _ _ h => h
    try simp only [Act.put, List.setIfInBounds_toArray, List.set_cons_zero, List.set_cons_succ]
    refine wpAnyH_take (i := 1) (oi := ?oi2) (v := ?v2) ?hi2 ?hs2 ?hf2 ?hr2 ?hQ2 (Or.inl ⟨?hg2, ?hy2⟩) hHeld ?rest2
    case hi2 => simp only [List.getElem?_toArray, List.getElem?_cons_succ, List.getElem?_cons_zero]; rfl
    case hs2 => kernel_rfl
    case hf2 => kernel_rfl
    case hr2 => kernel_rfl
    case hg2 => rfl
    case hy2 => (intro w hSw; first | (go_simp; done) | (go_simp; with_reducible rfl))
    case hQ2 => exact fun _ _ _ h => h
    try simp only [Act.put, List.setIfInBounds_toArray, List.set_cons_zero, List.set_cons_succ]
    refine wpAnyH_take (i := 3) (oi := ?oi3) (v := ?v3) ?hi3 ?hs3 ?hf3 ?hr3 ?hQ3 (Or.inl ⟨?hg3, ?hy3⟩) hHeld ?rest3
    case hi3 => simp only [List.getElem?_toArray, List.getElem?_cons_succ, List.getElem?_cons_zero]; rfl
    case hs3 => kernel_rfl
    case hf3 => kernel_rfl
    case hr3 => kernel_rfl
    case hg3 => rfl
    case hy3 => (intro w hSw; first | (go_simp; done) | (go_simp; with_reducible rfl))
    case hQ3 => exact fun _ _ _ h => h
    try simp only [Act.put, List.setIfInBounds_toArray, List.set_cons_zero, List.set_cons_succ]
    refine wpAnyH_take (i := 5) (oi := ?oi4) (v := ?v4) ?hi4 ?hs4 ?hf4 ?hr4 ?hQ4 (Or.inl ⟨?hg4, ?hy4⟩) hHeld ?rest4
    case hi4 => simp only [List.getElem?_toArray, List.getElem?_cons_succ, List.getElem?_cons_zero]; rfl
    case hs4 => kernel_rfl
    case hf4 => kernel_rfl
    case hr4 => kernel_rfl
    case hg4 => rfl
    case hy4 => (intro w hSw; obtain ⟨x0, x1, x2, x3, x4⟩ := meta_of hSw; first | (go_simp; done) | (go_simp; with_reducible rfl))
    case hQ4 => exact fun _ _ _ h => h
    try simp only [Act.put, List.setIfInBounds_toArray, List.set_cons_zero, List.set_cons_succ]
    refine wpAnyH_ready (rs := [2]) (by kernel_rfl) (by simp) ?_
    refine AllReadyH.cons (o := ?oi5) ?hi5 (fun K hK => ?_) AllReadyH.nil
    case hi5 => simp only [List.getElem?_toArray, List.getElem?_cons_succ, List.getElem?_cons_zero]; rfl
    go_simp
    refine hK.out _ _ (MA) (fun hHeld2 => ?_)
    clear hK K hHeld
    have hHeld := hHeld2
    clear hHeld2
    try simp only [Act.put, List.setIfInBounds_toArray, List.set_cons_zero, List.set_cons_succ]
    refine wpAnyH_ready (rs := [4]) (by kernel_rfl) (by simp) ?_
    refine AllReadyH.cons (o := ?oi6) ?hi6 (fun K hK => ?_) AllReadyH.nil
    case hi6 => simp only [List.getElem?_toArray, List.getElem?_cons_succ, List.getElem?_cons_zero]; rfl
    refine step_append_run rfl (.tmp 34) (.tmp 35) 36 36 rfl rfl rfl hap ?_
    refine hK.out _ _ (M5) (fun hHeld2 => ?_)
    clear hK K hHeld
    have hHeld := hHeld2
    clear hHeld2
    try simp only [Act.put, List.setIfInBounds_toArray, List.set_cons_zero, List.set_cons_succ]
    refine wpAnyH_take (i := 6) (oi := ?oi7) (v := ?v7) ?hi7 ?hs7 ?hf7 ?hr7 ?hQ7 (Or.inl ⟨?hg7, ?hy7⟩) hHeld ?rest7
    case hi7 => simp only [List.getElem?_toArray, List.getElem?_cons_succ, List.getElem?_cons_zero]; rfl
    case hs7 => kernel_rfl
    case hf7 => kernel_rfl
    case hr7 => kernel_rfl
    case hg7 => rfl
    case hy7 => (intro w hSw; first | (go_simp; done) | (go_simp; with_reducible rfl))
    case hQ7 => exact fun _ _ _ h => h
    try simp only [Act.put, List.setIfInBounds_toArray, List.set_cons_zero, List.set_cons_succ]
    refine wpAnyH_ready (rs := [7]) (by kernel_rfl) (by simp) ?_
    refine AllReadyH.cons (o := ?oi8) ?hi8 (fun K hK => ?_) AllReadyH.nil
    case hi8 => simp only [List.getElem?_toArray, List.getElem?_cons_succ, List.getElem?_cons_zero]; rfl
    go_simp
    refine hK.out _ _ (M6) (fun hHeld2 => ?_)
    clear hK K hHeld
    have hHeld := hHeld2
    clear hHeld2
    try simp only [Act.put, List.setIfInBounds_toArray, List.set_cons_zero, List.set_cons_succ]
    refine wpAnyH_ready (rs := [8]) (by kernel_rfl) (by simp) ?_
    refine AllReadyH.cons (o := ?oi9) ?hi9 (fun K hK => ?_) AllReadyH.nil
    case hi9 => simp only [List.getElem?_toArray, List.getElem?_cons_succ, List.getElem?_cons_zero]; rfl
    go_simp; go_at_call 111; refine (HK.out ⟨Bd, dn, d⟩ w5.heap.size _ HT6.out HB6.out HD6.out HNE.out).mono ?_; rintro e w7 ⟨rfl, v', hA7, hO7, hv7⟩; go_wp2_with fail
    have M7 : Blk w7 bm 53 [.int .i64 a, .int .i64 b, .int .i64 cc, .int .i64 dd, .int .i64 f] := M6.heap (hO7.block bm M6.lt (by
      rintro (e | e | e)
      · exact M6.ne HT6.out.tree (by decide) e
      · exact M6.ne HB6.out (by decide) e
      · rcases HT6.out.row.2 with ⟨hv, _⟩ | ⟨g, cap, cur, hv, _, hg, _⟩
        · rw [hv] at e; cases e
        · rw [hv] at e
          simp only [Value.ownBlock, Option.some.injEq] at e
          have hB2 : Blk (w5.alloc (.cells #[.int .i64 1, .int .i64 0, .slice Bd dn d, .string ⟨#[]⟩, .int .i64 a, .int .i64 b, .int .i64 cc, .int .i64 dd, .int .i64 f] 126)) g 129 cur.toList := by unfold Blk; rw [Array.toArray_toList]; exact hg
          exact M6.ne hB2 (by decide) e.symm))
    have HP7 := Lib.hid (HPA.out HZ.out ⟨Bd, dn, d⟩ _ w7 _ v' (by first | rfl | trivial) hA7 hO7 hv7 HBW.out HLO.out HLD.out)
    clear hA7 hO7 hv7 M6
    refine hK.out _ _ (M7) (fun hHeld2 => ?_)
    clear hK K hHeld
    have hHeld := hHeld2
    clear hHeld2
    try simp only [Act.put, List.setIfInBounds_toArray, List.set_cons_zero, List.set_cons_succ]
    refine wpAnyH_done (by kernel_rfl) ?_ _
    clear hHeld M7
    go_wp2_with fail
    go_ret
    rw [K.out]
    exact ⟨rfl, HP7.out⟩
  | some i =>
    obtain ⟨y, hy, hyi⟩ := HMEM.out i (by first | rfl | trivial)
    subst hyi
    have HX3 := Lib.hid (show (if fileU (S.th y.2).kind ≠ 0 then (fileU (S.th y.2).kind, S) else (0, { S with th := setT S.th y.2 { S.th y.2 with mt := ⟨a, b, cc, dd, f⟩, data := data } })) = X from HX2.out)
    have y0 := T2.out.node y hy
    have HY := Lib.hid (show ∃ z ∈ S.ls, z.2 = y.2 from ⟨y, hy, rfl⟩)
    rw [show ptrM B (some y.2) = .pointer (some ⟨B y.2, 0, none⟩) from rfl]
    generalize hyi : y.2 = i at *
    clear hy hyi HX2
    have v0 := y0.cell 0
    simp only [encH, List.getElem?_cons_zero, List.getElem?_cons_succ] at v0
    rcases Classical.em ((S.th i).kind = 2) with h2 | h2
    · have K := Lib.hid (show X = (13, S) by rw [← HX3.out]; unfold fileU; rw [if_pos h2]; rfl)
      have e1 : ((S.th i).kind == 2) = true := by simpa using h2
      clear h2 HX3
      go_wp2_with fail
      go_ret
      rw [K.out]
      exact ⟨rfl, HDS.out _ HB2.out⟩
    have e1 : ((S.th i).kind == 2) = false := by simpa using h2
    rcases Classical.em ((S.th i).kind = 3) with h3 | h3
    · have K := Lib.hid (show X = (17, S) by rw [← HX3.out]; unfold fileU; rw [if_neg h2, if_pos h3]; rfl)
      have e2 : ((S.th i).kind == 3) = true := by simpa using h3
      clear h2 h3 HX3
      go_wp2_with fail
      go_ret
      rw [K.out]
      exact ⟨rfl, HDS.out _ HB2.out⟩
    have e2 : ((S.th i).kind == 3) = false := by simpa using h3
    have K := Lib.hid (show X = (0, { S with th := setT S.th i { S.th i with mt := ⟨a, b, cc, dd, f⟩, data := data } }) by rw [← HX3.out]; unfold fileU; rw [if_neg h2, if_neg h3]; rfl)
    obtain ⟨Bd, d, w5, hap, hby, hlow, hb5⟩ := copy_run dA dn dc data w2 S2.out (by omega)
    have Y5 := Lib.hid (y0.below hb5)
    have T5 := Lib.hid (T2.out.below hb5)
    have HBW := Lib.hid (show Below bm w w5 from HB2.out.trans (hb5.mono hz2))
    have HLD := Lib.hid (show ∀ a, Bd = some a → bm ≤ a.block from fun a ha => Nat.le_trans hz2 (hlow a ha))
    have HBY := Lib.hid hby
    have B5 := B2.out.below hb5
    have hkb : bm ≠ B i := B5.ne Y5.out (by decide)
    have v2 := Y5.out.cell 2
    have g2 := Y5.out.frozen 2
    have y5 := Y5.out.set 2 (.slice Bd dn d)
    have b5 := B5.other (a := ⟨B i, 2, none⟩) hkb (.slice Bd dn d)
    have x0 := b5.cell 0
    have x1 := b5.cell 1
    have x2 := b5.cell 2
    have x3 := b5.cell 3
    have x4 := b5.cell 4
    have v4 := y5.cell 4
    have v5 := y5.cell 5
    have v6 := y5.cell 6
    have v7 := y5.cell 7
    have v8 := y5.cell 8
    have g4 := y5.frozen 4
    have g5 := y5.frozen 5
    have g6 := y5.frozen 6
    have g7 := y5.frozen 7
    have g8 := y5.frozen 8
    simp only [encH, List.getElem?_cons_zero, List.getElem?_cons_succ, List.set_cons_zero, List.set_cons_succ] at x0 x1 x2 x3 x4 v2 v4 v5 v6 v7 v8
    clear y5 b5 B5 y0 h2 h3 HX3 hlow hby hb5
    go_wp2_with (at_builtin; refine halt_in ?_)
    refine Halted.out (wpList_append_run rfl _ _ _ _ rfl rfl rfl hap ?_)
    go_wp2_with fail
    go_ret
    obtain ⟨hB9, hO9⟩ := wroteD_blk Y5.out ⟨a, b, cc, dd, f⟩ data Bd dn d
    have hD9 : DataAt _ { S.th i with mt := ⟨a, b, cc, dd, f⟩, data := data } ⟨Bd, dn, d⟩ := DataAt.only (x := { S.th i with mt := ⟨a, b, cc, dd, f⟩, data := data }) (d := ⟨Bd, dn, d⟩) HBY.out Y5.out hO9
    have hT9 := T5.out.thing_to (d := ⟨Bd, dn, d⟩) HY.out hB9 hD9 (fun k hk hh => hO9.block k (heldD_lt T5.out k hh) hk)
    rw [K.out]
    exact ⟨rfl, HPS.out HZ.out _ _ i ⟨Bd, dn, d⟩ HY.out hT9 hO9 HBW.out (fun a ha => .inl (HLD.out a ha))⟩
end Go.Proofs.YtlbbehfbjbbckaaGreatDoor

/-! The document's tree: Append, Link. -/
set_option linter.unusedVariables false
set_option linter.unusedSimpArgs false
namespace Go.Proofs.YtlbbehfbjbbckaaGreatDoor
open Go.RowKit
attribute [local go_sem] str_toList

/-- A copy of bytes, onto a new row, and other bytes behind. -/
theorem cat_run (A : Option Addr) (n c : Nat) (l : List UInt8) (A2 : Option Addr) (m c2 : Nat) (k : List UInt8) (w : World) (h : Sl 1 w A n (bys l)) (h2 : Sl 1 w A2 m (bys k)) (hn : n ≤ 1099511627776) (hm : m ≤ 1099511627776) :
    ∃ B1 d1 w1 B d w', (Builtin.append_ #[36, 36] 36 #[.slice (some ⟨w.heap.size, 0, none⟩) 0 0, .slice A n c]).run Tryz.prog (w.alloc (.cells #[] 5)) = .ok (.slice B1 n d1) w1 ∧
      (Builtin.append_ #[36, 36] 36 #[.slice B1 n d1, .slice A2 m c2]).run Tryz.prog w1 = .ok (.slice B (n + m) d) w' ∧ BytesAt w' B (n + m) (l ++ k) ∧ (∀ a, B = some a → w.heap.size ≤ a.block) ∧ Below w.heap.size w w' := by
  obtain ⟨i, hi, hz0, hz1, hz2⟩ := info_parts infoU8
  have hb0 := (Below.refl w.heap.size w).alloc (Nat.le_refl _) (.cells #[] 5)
  have hsz : (w.alloc (.cells #[] 5)).heap.size = w.heap.size + 1 := World.size_alloc _ _
  obtain ⟨v1, w1, hap, hown, hg⟩ := run_append_sl (w := w.alloc (.cells #[] 5)) w.heap.size 36 36 5 i _ 1 1 Tryz.underlying36 hi hz0 hz1 hz2 rfl (by decide)
    (World.ownsRow_made w (base := w.heap.size) (e := 5) (size := 1) #[] 0 (Nat.le_refl _) (by decide) rfl) (c := c) (h.below hb0) (bys_one l) (by omega) (by omega) (by rw [hsz]; omega)
  rw [List.nil_append] at hown
  rw [Nat.zero_add] at hown
  have hgb : Below w.heap.size w w1 := hb0.grown hg (by rw [hsz]; omega) (fun k hk => by cases hk; exact Nat.le_refl _)
  obtain ⟨v2, w2, hap2, hown2, hg2⟩ := run_append_sl (w := w1) w.heap.size 36 36 5 i _ 1 1 Tryz.underlying36 hi hz0 hz1 hz2 rfl (by decide) hown (c := c2) (h2.below hgb) (bys_one k) (by omega) (by omega) hgb.size
  have hgb2 : Below w.heap.size w w2 := hgb.grown hg2 hgb.size (fun k hk => (hown.lt k hk).1)
  have e : bys l ++ bys k = bys (l ++ k) := by simp [bys]
  rw [e] at hown2
  obtain ⟨B1, d1, rfl, _⟩ := own_bytes hown
  obtain ⟨B2, d2, rfl, hrm, hB, hlow⟩ := own_bytes hown2
  exact ⟨B1, d1, w1, B2, d2, w2, hap, hap2, hB, hlow, hgb2⟩
theorem dataD_blk {w : World} {k : Nat} {i : Int} {x : Th} {d : Dt} (h : Blk w k 126 (encH i x d)) (l : List UInt8) (B : Option Addr) (n c : Nat) :
    Blk (w.setCell ⟨k, 2, none⟩ (.slice B n c)) k 126 (encH i { x with data := l } ⟨B, n, c⟩) ∧ Only (fun j => j = k) w (w.setCell ⟨k, 2, none⟩ (.slice B n c)) :=
  ⟨h.set 2 _, Only.set (P := fun j => j = k) w ⟨k, 2, none⟩ _ rfl⟩
set_option maxRecDepth 100000 in
set_option maxHeartbeats 8000000 in
theorem AppendD_any (t : Nat) (S : St) (O : Nat → Prop) (p : ByteArray) (A2 : Option Addr) (m0 c2 : Nat) (b : List UInt8) (w : World) (h : DocS w t S O) (hs : Sl 1 w A2 m0 (bys b)) (hdn : m0 ≤ 1000000) (hp : p.size ≤ 2097152) (hl : S.ls.length ≤ 1000000) :
    Calls Tryz.prog 104 #[.pointer (some ⟨t, 0, none⟩), .string p, .slice A2 m0 c2] w fun e w' => e = .returned (.int .i64 (S.append p.data.toList b).1) ∧ DocPost w w' t (S.append p.data.toList b).2 O := by
  obtain ⟨v, B, D, hA, ho, ht, hO⟩ := h
  have HDS := Lib.hid (show ∀ w', Below w.heap.size w w' → DocPost w w' t S O from fun w' hb => doc_same ⟨v, B, D, hA, ho, ht, hO⟩ hb)
  have HPS := Lib.hid (fun (i : Int) (hz : (S.th i).data.length + b.length ≤ 65536) (w1 w' : World) (d : Dt) hi => thing_post (w := w) (w1 := w1) (w' := w') (i := i) (d := d) (x := { S.th i with data := (S.th i).data ++ b }) ho ht hO hi rfl ⟨(ho.tgt i).1, by rw [List.length_append]; exact hz⟩)
  have HF := Lib.hid (File_any t v S B D p w hA ho ht hl hp)
  have HMEM := Lib.hid (fun i (h : thereS (S.look p.data.toList) = (some i, 0)) => there_mem ho h)
  have HERR := Lib.hid (show (thereS (S.look p.data.toList)).2 = 0 → _ from thereS_err)
  have HTG := Lib.hid ho.tgt
  have hlen : m0 = b.length := by have := hs.len; rw [bys_length] at this; omega
  have HLN := Lib.hid hlen
  have HT := Lib.hid hA
  have HSL := Lib.hid hs
  obtain ⟨X, hX⟩ : ∃ X, S.append p.data.toList b = X := ⟨_, rfl⟩
  have HX : Hid ((match thereS (S.look p.data.toList) with
    | (some i, e) => if e ≠ 0 then (e, S) else if fileU (S.th i).kind ≠ 0 then (fileU (S.th i).kind, S)
      else if 65536 < (S.th i).data.length + b.length then ((7 : Int), S) else (0, { S with th := setT S.th i { S.th i with data := (S.th i).data ++ b } })
    | (none, e) => (e, S)) = X) := Lib.hid hX
  rw [hX]
  clear hX hA ho ht hO hs hlen
  generalize thereS (S.look p.data.toList) = l at *
  go_enter Tryz.func104, Tryz.ntmps104
  go_wp2_with fail
  refine HF.out.mono ?_
  rintro e w2 ⟨rfl, hb2⟩
  have HB2 := Lib.hid hb2
  have T2 := Lib.hid (HT.out.below hb2)
  have S2 := Lib.hid (HSL.out.below hb2)
  clear hb2 HF HT HSL
  obtain ⟨ro, re⟩ := l
  rcases (Classical.em (re = 0)).symm with h0 | h0
  · have K := Lib.hid (show X = (re, S) by
      rw [← HX.out]
      cases ro with
      | none => rfl
      | some i => exact if_pos h0)
    have K2 := Lib.hid (show fileS S (ro, re) = (none, re) from if_pos h0)
    rw [K2.out]
    have e1 : (re != 0) = true := by simpa using h0
    clear h0 HX
    go_wp2_with fail
    go_ret
    rw [K.out]
    exact ⟨rfl, HDS.out _ HB2.out⟩
  subst h0
  obtain ⟨i, hi⟩ := HERR.out (by first | rfl | trivial)
  obtain rfl : ro = some i := (Prod.mk.inj hi).1
  have HX2 := Lib.hid (show (if fileU (S.th i).kind ≠ 0 then (fileU (S.th i).kind, S) else if 65536 < (S.th i).data.length + b.length then ((7 : Int), S) else (0, { S with th := setT S.th i { S.th i with data := (S.th i).data ++ b } })) = X from HX.out)
  have KF := Lib.hid (show fileS S (some i, 0) = if (S.th i).kind = 2 then (none, 13) else if (S.th i).kind = 3 then (none, 17) else (some i, 0) from rfl)
  clear HX
  rcases Classical.em ((S.th i).kind = 2) with h2 | h2
  · have K := Lib.hid (show X = (13, S) by rw [← HX2.out]; unfold fileU; rw [if_pos h2]; rfl)
    rw [KF.out, if_pos h2]
    clear h2 HX2 KF
    go_wp2_with fail
    go_ret
    rw [K.out]
    exact ⟨rfl, HDS.out _ HB2.out⟩
  rcases Classical.em ((S.th i).kind = 3) with h3 | h3
  · have K := Lib.hid (show X = (17, S) by rw [← HX2.out]; unfold fileU; rw [if_neg h2, if_pos h3]; rfl)
    rw [KF.out, if_neg h2, if_pos h3]
    clear h2 h3 HX2 KF
    go_wp2_with fail
    go_ret
    rw [K.out]
    exact ⟨rfl, HDS.out _ HB2.out⟩
  rw [KF.out, if_neg h2, if_neg h3]
  have HX3 := Lib.hid (show (if 65536 < (S.th i).data.length + b.length then ((7 : Int), S) else (0, { S with th := setT S.th i { S.th i with data := (S.th i).data ++ b } })) = X by rw [← HX2.out]; unfold fileU; rw [if_neg h2, if_neg h3]; rfl)
  clear h2 h3 HX2 KF
  obtain ⟨y, hy, hyi⟩ := HMEM.out i (by first | rfl | trivial)
  subst hyi
  have y0 := T2.out.node y hy
  have DY := Lib.hid (show DataAt w2 (S.th y.2) (D y.2) from T2.out.data y hy)
  have HY := Lib.hid (show ∃ z ∈ S.ls, z.2 = y.2 from ⟨y, hy, rfl⟩)
  rw [show ptrM B (some y.2) = .pointer (some ⟨B y.2, 0, none⟩) from rfl]
  generalize hyi : y.2 = i at *
  clear hy hyi hi
  have v2 := y0.cell 2
  simp only [encH, List.getElem?_cons_zero, List.getElem?_cons_succ] at v2
  have Y2 := Lib.hid y0
  have HDL := Lib.hid (show (D i).dn = (S.th i).data.length by have := DY.out.1.len; rw [bys_length] at this; omega)
  have hd65 : (D i).dn ≤ 65536 := by rw [HDL.out]; exact (HTG.out i).2
  rcases hxd : D i with ⟨xA, xn, xc⟩
  rw [hxd] at HDL hd65 v2 Y2 DY
  have hov : IntKind.i64.wrap ((xn : Int) + (m0 : Int)) = (xn : Int) + (m0 : Int) := by rw [IntKind.wrap_i64]; have : xn ≤ 65536 := hd65; omega
  rcases Nat.lt_or_ge 65536 (xn + m0) with hbig | hbig
  · have K := Lib.hid (show X = (7, S) by rw [← HX3.out, if_pos (by rw [← HDL.out, ← HLN.out]; exact hbig)])
    have q4 : 65536 < xn + m0 := hbig
    have q5 : decide (65536 < xn + m0) = true := decide_eq_true hbig
    have q2 : (65536 : Int) < (xn : Int) + (m0 : Int) := by omega
    have q3 : decide ((65536 : Int) < (xn : Int) + (m0 : Int)) = true := decide_eq_true q2
    clear hbig hd65 HX3 y0
    go_wp2_with fail
    go_ret
    rw [K.out]
    exact ⟨rfl, HDS.out _ HB2.out⟩
  have K := Lib.hid (show X = (0, { S with th := setT S.th i { S.th i with data := (S.th i).data ++ b } }) by rw [← HX3.out, if_neg (by rw [← HDL.out, ← HLN.out]; show ¬ 65536 < xn + m0; omega)])
  have q4 : ¬ 65536 < xn + m0 := by omega
  have q5 : decide (65536 < xn + m0) = false := decide_eq_false q4
  have q2 : ¬ (65536 : Int) < (xn : Int) + (m0 : Int) := by omega
  have q3 : decide ((65536 : Int) < (xn : Int) + (m0 : Int)) = false := decide_eq_false q2
  have HZ := Lib.hid (show (S.th i).data.length + b.length ≤ 65536 by rw [← HDL.out, ← HLN.out]; exact hbig)
  obtain ⟨B1, d1, w4, B5, d5, w5, hap1, hap2, hby, hlow, hb5⟩ := cat_run xA xn xc (S.th i).data A2 m0 c2 b w2 DY.out.1 S2.out (by have : xn ≤ 65536 := hd65; omega) (by omega)
  have Y5 := Lib.hid (Y2.out.below hb5)
  have T5 := Lib.hid (T2.out.below hb5)
  have HBW := Lib.hid (show Below w.heap.size w w5 from HB2.out.trans (hb5.mono HB2.out.size))
  have HLD := Lib.hid (show ∀ a, B5 = some a → w.heap.size ≤ a.block from fun a ha => Nat.le_trans HB2.out.size (hlow a ha))
  have HBY := Lib.hid hby
  have u2 := Y5.out.cell 2
  have g2 := Y5.out.frozen 2
  simp only [encH, List.getElem?_cons_zero, List.getElem?_cons_succ] at u2
  have v2a : (w2.alloc (.cells #[] 5)).cell? ⟨B i, 2, none⟩ = some (.slice xA xn xc) := cell_below v2 ((Below.refl w2.heap.size w2).alloc (Nat.le_refl _) (.cells #[] 5))
  clear y0 hlow hby hb5 hbig hd65 HX3 Y2
  go_wp2_with (at_builtin; refine halt_in ?_)
  refine Halted.out (wpList_append_run rfl _ _ _ _ rfl rfl rfl hap1 ?_)
  go_wp2_with (at_builtin; refine halt_in ?_)
  refine Halted.out (wpList_append_run rfl _ _ _ _ rfl rfl rfl hap2 ?_)
  go_wp2_with fail
  go_ret
  obtain ⟨hB9, hO9⟩ := dataD_blk Y5.out ((S.th i).data ++ b) B5 (xn + m0) d5
  have hD9 : DataAt _ { S.th i with data := (S.th i).data ++ b } ⟨B5, xn + m0, d5⟩ := DataAt.only (x := { S.th i with data := (S.th i).data ++ b }) (d := ⟨B5, xn + m0, d5⟩) HBY.out Y5.out hO9
  have hT9 := T5.out.thing_to (d := ⟨B5, xn + m0, d5⟩) HY.out hB9 hD9 (fun k hk hh => hO9.block k (heldD_lt T5.out k hh) hk)
  rw [K.out]
  exact ⟨rfl, HPS.out i HZ.out _ _ ⟨B5, xn + m0, d5⟩ HY.out hT9 hO9 HBW.out (fun a ha => .inl (HLD.out a ha))⟩
end Go.Proofs.YtlbbehfbjbbckaaGreatDoor

/-! The document's tree: Link. -/
set_option linter.unusedVariables false
set_option linter.unusedSimpArgs false
namespace Go.Proofs.YtlbbehfbjbbckaaGreatDoor
open Go.RowKit
attribute [local go_sem] str_toList

theorem DocAt.row_blk {w : World} {t : Nat} {v : Value} {S : St} {B : Int → Nat} {D : Int → Dt} (h : DocAt w t v S B D) {k : Nat} (hk : v.ownBlock = some k) : ∃ cs, Blk w k 129 cs := by
  rcases h.row.2 with ⟨hv, _⟩ | ⟨g, cap, cur, hv, _, hg, _⟩
  · rw [hv] at hk; cases hk
  · rw [hv] at hk
    simp only [Value.ownBlock, Option.some.injEq] at hk
    subst hk
    exact ⟨cur.toList, by unfold Blk; rw [Array.toArray_toList]; exact hg⟩
theorem DocAt.thing_ne {w : World} {t : Nat} {v : Value} {S : St} {B : Int → Nat} {D : Int → Dt} (h : DocAt w t v S B D) {k g : Nat} (hk : thingD S B D k) {T : TypeId} {cs : List Value} (hg : Blk w g T cs) (h1 : T ≠ 126) (h2 : T ≠ 5) : k ≠ g := by
  rcases hk with ⟨y, hy, e⟩ | ⟨y, hy, a, ha, e⟩
  · rw [← e]; exact (h.node y hy).ne hg (fun e => h1 e.symm)
  · obtain ⟨cs', hc⟩ := (h.data y hy).2 a ha
    have hB : Blk w a.block 5 cs'.toList := by unfold Blk; rw [Array.toArray_toList]; exact hc
    rw [← e]; exact hB.ne hg (fun e => h2 e.symm)
theorem DocAt.thing_lt {w : World} {t : Nat} {v : Value} {S : St} {B : Int → Nat} {D : Int → Dt} (h : DocAt w t v S B D) {k : Nat} (hk : thingD S B D k) : k < w.heap.size := heldD_lt h k (.inr (.inr hk))
theorem DocAt.slice {w : World} {t : Nat} {v : Value} {S : St} {B : Int → Nat} {D : Int → Dt} (h : DocAt w t v S B D) : ∃ A m c, v = .slice A m c := by
  rcases h.row.2 with ⟨hv, _⟩ | ⟨g, cap, cur, hv, _⟩
  · exact ⟨_, _, _, hv⟩
  · exact ⟨_, _, _, hv⟩
theorem list_post {w w1 w' : World} {t : Nat} {v v' : Value} {S : St} {B : Int → Nat} {D : Int → Dt} {ls : List (List UInt8 × Int)} {O : Nat → Prop} (hO : ∀ k, k = t ∨ heldD v S B D k → O k) (h' : DocAt w' t v' { S with ls := ls } B D) (ho' : OkS { S with ls := ls }) (ht' : TopS { S with ls := ls })
    (h4 : ∀ y ∈ ls, ∃ z ∈ S.ls, z.2 = y.2) (hw : Only (fun k => k = t ∨ v.ownBlock = some k) w1 w') (hv' : ∀ k, v'.ownBlock = some k → v.ownBlock = some k ∨ w1.heap.size ≤ k) (hb : Below w.heap.size w w1) : DocPost w w' t { S with ls := ls } O := by
  refine ⟨fun k => O k ∨ w.heap.size ≤ k, ⟨v', B, D, h', ho', ht', ?_⟩, ?_, fun k hk => hk⟩
  · rintro k (rfl | hk | ⟨y, hy, rfl⟩ | ⟨y, hy, a, ha, rfl⟩)
    · exact .inl (hO k (.inl rfl))
    · rcases hv' k hk with e | e
      · exact .inl (hO k (.inr (.inl e)))
      · exact .inr (Nat.le_trans hb.size e)
    · obtain ⟨z, hz, e⟩ := h4 y hy
      rw [← e]
      exact .inl (hO _ (.inr (.inr (.inl ⟨z, hz, rfl⟩))))
    · obtain ⟨z, hz, e⟩ := h4 y hy
      rw [← e] at ha
      exact .inl (hO _ (.inr (.inr (.inr ⟨z, hz, a, ha, rfl⟩))))
  · refine ⟨hw.os.trans hb.os, hw.tape.trans hb.tape, hw.output.trans hb.output, Nat.le_trans hb.size hw.size, fun k hk hno => (hw.block k (Nat.lt_of_lt_of_le hk hb.size) ?_).trans (hb.block k hk)⟩
    rintro (rfl | e)
    · exact hno (hO k (.inl rfl))
    · exact hno (hO k (.inr (.inl e)))
theorem push_run {w : World} {t : Nat} {v : Value} {S : St} {B : Int → Nat} {D : Int → Dt} (h : DocAt w t v S B D) (hl : S.ls.length ≤ 1000000) (p : ByteArray) (n : Nat) :
    ∃ v' w4, (Builtin.append_ #[130, 130] 130 #[v, .slice (some ⟨w.heap.size, 0, none⟩) 1 1]).run Tryz.prog (w.alloc (.cells #[.string p, ptrB n] 129)) = .ok v' w4 ∧
      Blk w4 t 132 [v, .int .i64 S.next] ∧ Blk (w4.setCell ⟨t, 0, none⟩ v') t 132 [v', .int .i64 S.next] ∧ (w4.setCell ⟨t, 0, none⟩ v').ownsRow 0 129 2 v' (S.ls.length + 1) (encDs B S.ls ++ [.string p, ptrB n]) ∧
      Only (fun k => k = t ∨ v.ownBlock = some k) w (w4.setCell ⟨t, 0, none⟩ v') ∧ (∀ k, v'.ownBlock = some k → v.ownBlock = some k ∨ w.heap.size ≤ k) ∧ ∃ A m c, v' = .slice A m c := by
  obtain ⟨i0, hi0, hz0, hz1, hz2⟩ := info_parts infoN
  have htl := h.tree.lt
  have hvt : ∀ b, v.ownBlock = some b → b ≠ t := fun b hb => by
    obtain ⟨cs, hB⟩ := h.row_blk hb
    exact hB.ne h.tree (by decide)
  have b3 := Blk.new w 129 [.string p, ptrB n]
  have hb3 := (Below.refl w.heap.size w).alloc (Nat.le_refl _) (.cells #[.string p, ptrB n] 129)
  have hz3 : (w.alloc (.cells #[.string p, ptrB n] 129)).heap.size = w.heap.size + 1 := World.size_alloc _ _
  have r3 := row_heap h.row (fun b hb => hb3.block b (row_lt h.row hb).2)
  have hsl : Sl 2 (w.alloc (.cells #[.string p, ptrB n] 129)) (some ⟨w.heap.size, 0, none⟩) 1 [.string p, ptrB n] := b3.sl rfl rfl (by omega)
  have t3 := h.tree.below hb3
  obtain ⟨v', w4, hap, hown, hg4, hblk⟩ := run_append_at (c := 1) (w := w.alloc (.cells #[.string p, ptrB n] 129)) 0 130 130 129 i0 _ 2 24 Tryz.underlying130 hi0 hz0 hz1 hz2 rfl (by decide) r3 hsl (by omega) (by intro u hu; simp [ptrB] at hu; rcases hu with rfl | rfl <;> rfl) (by omega) (by omega) (Nat.zero_le _)
  have t4 := t3.grown hg4 (fun e => hvt t e.symm rfl)
  have hv't : ∀ b, v'.ownBlock = some b → (v.ownBlock = some b ∨ b = w.heap.size + 1) ∧ b ≠ t := fun b hb => by
    rcases hblk with e | e
    · rw [e] at hb; exact ⟨.inl hb, hvt b hb⟩
    · rw [e] at hb
      simp only [Option.some.injEq] at hb
      refine ⟨.inr (by omega), by omega⟩
  refine ⟨v', w4, hap, t4, t4.set 0 v', row_heap hown (fun b hb => heap_setCell_other w4 ⟨t, 0, none⟩ b v' (hv't b hb).2), ?_, fun k hk => ?_, ?_⟩
  · exact ((Only.of hb3).trans ⟨hg4.os, hg4.tape, hg4.output, hg4.size, fun k hk hn => hg4.block k hk (fun e => hn (.inr e.symm))⟩).trans (Only.set w4 ⟨t, 0, none⟩ v' (.inl rfl))
  · rcases (hv't k hk).1 with e | e
    · exact .inl e
    · exact .inr (by omega)
  · rcases hown.2 with ⟨hv, _⟩ | ⟨g, cap, cur, hv, _⟩
    · exact ⟨_, _, _, hv⟩
    · exact ⟨_, _, _, hv⟩
theorem DocAt.only_things {w w' : World} {t : Nat} {v : Value} {S : St} {B : Int → Nat} {D : Int → Dt} (h : DocAt w t v S B D) (hw : Only (fun k => k = t ∨ v.ownBlock = some k) w w') : ∀ k, thingD S B D k → w'.heap[k]? = w.heap[k]? := fun k hk => hw.block k (h.thing_lt hk) (by
  rintro (e | e)
  · exact h.thing_ne hk h.tree (by decide) (by decide) e
  · obtain ⟨cs, hB⟩ := h.row_blk e
    exact h.thing_ne hk hB (by decide) (by decide) rfl)
set_option maxRecDepth 100000 in
set_option maxHeartbeats 8000000 in
theorem LinkD_any (t : Nat) (S : St) (O : Nat → Prop) (o p : ByteArray) (w : World) (h : DocS w t S O) (hop : o.size ≤ 2097152) (hp : p.size ≤ 2097152) (hl : S.ls.length ≤ 1000000) :
    Calls Tryz.prog 101 #[.pointer (some ⟨t, 0, none⟩), .string o, .string p] w fun e w' => e = .returned (.int .i64 (S.link o.data.toList p.data.toList).1) ∧ DocPost w w' t (S.link o.data.toList p.data.toList).2 O := by
  obtain ⟨v, B, D, hA, ho, ht, hO⟩ := h
  have HDS := Lib.hid (show ∀ w', Below w.heap.size w w' → DocPost w w' t S O from fun w' hb => doc_same ⟨v, B, D, hA, ho, ht, hO⟩ hb)
  have HMEM := Lib.hid (fun i (h : thereS (S.look o.data.toList) = (some i, 0)) => there_mem ho h)
  have HERR := Lib.hid (show (thereS (S.look o.data.toList)).2 = 0 → _ from thereS_err)
  have HPO := Lib.hid (fun (w1 w' : World) (v' : Value) (y : List UInt8 × Int) (hy : y ∈ S.ls) (h2 : (S.th y.2).kind ≠ 2) (h3 : (S.th y.2).kind ≠ 3) (hf : freshS (S.look p.data.toList) = 0)
      (h' : DocAt w' t v' { S with ls := S.ls ++ [(p.data.toList, y.2)] } B D) => list_post (w := w) (w1 := w1) (w' := w') (v' := v') hO h'
        (ho.link (fresh_look hf) ⟨y.1, (ho.at_iff _ _).2 hy⟩ (by rcases ho.kind y hy with e | e | e; exact e; exact absurd e h2; exact absurd e h3)) (ht.link _ _)
        (fun z hz => by
          rcases List.mem_append.1 hz with hz | hz
          · exact ⟨z, hz, rfl⟩
          · rw [List.mem_singleton] at hz; subst hz; exact ⟨y, hy, rfl⟩))
  have HR1 := Lib.hid (fun w => refRight_any o _ w rfl hop)
  have HR2 := Lib.hid (fun w => refRight_any p _ w rfl hp)
  have HF := Lib.hid (fun w (h : DocAt w t v S B D) => File_any t v S B D o w h ho ht hl hop)
  have HFR := Lib.hid (fun w (h : DocAt w t v S B D) => freshD_any t v S B D p w h ho ht hl hp)
  have HT := Lib.hid hA
  have HL := Lib.hid hl
  obtain ⟨X, hX⟩ : ∃ X, S.link o.data.toList p.data.toList = X := ⟨_, rfl⟩
  have HX : Hid ((if rightB o.data.toList = false ∨ rightB p.data.toList = false then ((9 : Int), S) else linkR S p.data.toList (freshS (S.look p.data.toList)) (thereS (S.look o.data.toList))) = X) := Lib.hid hX
  rw [hX]
  clear hX hA ho ht hO hl
  generalize thereS (S.look o.data.toList) = l at *
  generalize freshS (S.look p.data.toList) = fr at *
  generalize rightB o.data.toList = rb1 at *
  generalize rightB p.data.toList = rb2 at *
  go_enter Tryz.func101, Tryz.ntmps101
  go_wp2_with fail
  refine (HR1.out w).mono ?_
  rintro e w1 ⟨rfl, hb1⟩
  have HB1 := Lib.hid hb1
  have T1 := Lib.hid (HT.out.below hb1)
  clear hb1 HT HR1
  cases rb1 with
  | false =>
    have K := Lib.hid (show X = (9, S) from HX.out.symm)
    go_wp2_with fail
    go_ret
    rw [K.out]
    exact ⟨rfl, HDS.out _ HB1.out⟩
  | true =>
  go_wp2_with fail
  refine (HR2.out w1).mono ?_
  rintro e w2 ⟨rfl, hb2⟩
  have HB2 := Lib.hid (HB1.out.trans (hb2.mono HB1.out.size))
  have T2 := Lib.hid (T1.out.below hb2)
  clear hb2 T1 HR2 HB1
  cases rb2 with
  | false =>
    have K := Lib.hid (show X = (9, S) from HX.out.symm)
    go_wp2_with fail
    go_ret
    rw [K.out]
    exact ⟨rfl, HDS.out _ HB2.out⟩
  | true =>
  have HX1 := Lib.hid (show linkR S p.data.toList fr l = X from HX.out)
  clear HX
  go_wp2_with fail
  refine (HF.out w2 T2.out).mono ?_
  rintro e w3 ⟨rfl, hb3⟩
  have HB3 := Lib.hid (HB2.out.trans (hb3.mono HB2.out.size))
  have T3 := Lib.hid (T2.out.below hb3)
  clear hb3 T2 HF HB2
  obtain ⟨ro, re⟩ := l
  rcases (Classical.em (re = 0)).symm with h0 | h0
  · have K := Lib.hid (show X = (re, S) by
      rw [← HX1.out]
      cases ro with
      | none => rfl
      | some i => exact if_pos h0)
    have K2 := Lib.hid (show fileS S (ro, re) = (none, re) from if_pos h0)
    rw [K2.out]
    have e1 : (re == 0) = false := by simpa using h0
    clear h0 HX1
    go_wp2_with fail
    go_ret
    rw [K.out]
    exact ⟨rfl, HDS.out _ HB3.out⟩
  subst h0
  obtain ⟨i, hi⟩ := HERR.out (by first | rfl | trivial)
  obtain rfl : ro = some i := (Prod.mk.inj hi).1
  have HX2 := Lib.hid (show (if fileU (S.th i).kind ≠ 0 then (fileU (S.th i).kind, S) else if fr ≠ 0 then (fr, S) else (0, { S with ls := S.ls ++ [(p.data.toList, i)] })) = X from HX1.out)
  have KF := Lib.hid (show fileS S (some i, 0) = if (S.th i).kind = 2 then (none, 13) else if (S.th i).kind = 3 then (none, 17) else (some i, 0) from rfl)
  clear HX1
  rcases Classical.em ((S.th i).kind = 2) with h2 | h2
  · have K := Lib.hid (show X = (13, S) by rw [← HX2.out]; unfold fileU; rw [if_pos h2]; rfl)
    rw [KF.out, if_pos h2]
    clear h2 HX2 KF
    go_wp2_with fail
    go_ret
    rw [K.out]
    exact ⟨rfl, HDS.out _ HB3.out⟩
  rcases Classical.em ((S.th i).kind = 3) with h3 | h3
  · have K := Lib.hid (show X = (17, S) by rw [← HX2.out]; unfold fileU; rw [if_neg h2, if_pos h3]; rfl)
    rw [KF.out, if_neg h2, if_pos h3]
    clear h2 h3 HX2 KF
    go_wp2_with fail
    go_ret
    rw [K.out]
    exact ⟨rfl, HDS.out _ HB3.out⟩
  rw [KF.out, if_neg h2, if_neg h3]
  have HX3 := Lib.hid (show (if fr ≠ 0 then (fr, S) else (0, { S with ls := S.ls ++ [(p.data.toList, i)] })) = X by rw [← HX2.out]; unfold fileU; rw [if_neg h2, if_neg h3]; rfl)
  obtain ⟨y, hy, hyi⟩ := HMEM.out i (by first | rfl | trivial)
  subst hyi
  have HPY := Lib.hid (fun w1 w' v' => HPO.out w1 w' v' y hy h2 h3)
  rw [show ptrM B (some y.2) = .pointer (some ⟨B y.2, 0, none⟩) from rfl]
  clear h2 h3 HX2 KF HPO hi
  go_wp2_with fail
  refine (HFR.out w3 T3.out).mono ?_
  rintro e w4 ⟨rfl, hb4⟩
  have HB4 := Lib.hid (HB3.out.trans (hb4.mono HB3.out.size))
  have T4 := Lib.hid (T3.out.below hb4)
  clear hb4 T3 HFR HB3
  rcases (Classical.em (fr = 0)).symm with hf | hf
  · have K := Lib.hid (show X = (fr, S) by rw [← HX3.out, if_pos hf])
    have e1 : (fr == 0) = false := by simpa using hf
    clear hf HX3
    go_wp2_with fail
    go_ret
    rw [K.out]
    exact ⟨rfl, HDS.out _ HB4.out⟩
  subst hf
  have K := Lib.hid (show X = (0, { S with ls := S.ls ++ [(p.data.toList, y.2)] }) from HX3.out.symm)
  obtain ⟨v', w5, hap, ht5, hb5, hr5, hO5, hv5, A5, m5, c5, rfl⟩ := push_run T4.out HL.out p (B y.2)
  have HD := Lib.hid (show DocAt _ t _ { S with ls := S.ls ++ [(p.data.toList, y.2)] } B D from T4.out.list_to _ hb5 (by
    rw [encDs_app, List.length_append, List.length_singleton]
    have : encDs B [(p.data.toList, y.2)] = [.string p, ptrB (B y.2)] := by
      rw [encDs_cons]
      show [.string (str p.data.toList), ptrB (B y.2)] ++ [] = _
      rw [str_of]; rfl
    rw [this]; exact hr5) (T4.out.only_things hO5) (fun z hz => by
      rcases List.mem_append.1 hz with hz | hz
      · exact ⟨z, hz, rfl⟩
      · rw [List.mem_singleton] at hz; subst hz; exact ⟨y, hy, rfl⟩))
  have HPP := Lib.hid (HPY.out w4 _ _ (by first | rfl | trivial) HD.out hO5 hv5 HB4.out)
  obtain ⟨A0, m0, c0, rfl⟩ := T4.out.slice
  have t0 := T4.out.tree.cell 0
  have z0 := ht5.cell 0
  have g0 := ht5.frozen 0
  simp only [List.getElem?_cons_zero] at t0 z0
  clear hy ht5 hb5 hr5 hO5 hv5 HX3
  unfold ptrB at hap
  go_wp2_with (at_builtin; refine halt_in ?_)
  refine Halted.out (wpList_append_run rfl _ _ _ _ rfl rfl rfl hap ?_)
  go_wp2_with fail
  go_ret
  rw [K.out]
  exact ⟨rfl, HPP.out⟩
end Go.Proofs.YtlbbehfbjbbckaaGreatDoor

/-! Lists of paths in order: two of them, merged; an order is one. -/
set_option linter.unusedVariables false
set_option linter.unusedSimpArgs false
namespace Go.Proofs.YtlbbehfbjbbckaaGreatDoor
open Go.RowKit

def SortedL (L : List (List UInt8)) : Prop := L.Pairwise (fun x y => lessP (splitB y) (splitB x) = false)
theorem le_trans3 {x y z : List UInt8} (h1 : lessP (splitB y) (splitB x) = false) (h2 : lessP (splitB z) (splitB y) = false) : lessP (splitB z) (splitB x) = false := by
  cases h : lessP (splitB z) (splitB x) with
  | false => rfl
  | true =>
    by_cases e : splitB x = splitB y
    · rw [e, h2] at h; cases h
    · rcases lessP_total e with g | g
      · rw [lessP_trans h g] at h2; cases h2
      · rw [g] at h1; cases h1
structure MergeI (L out a b : List (List UInt8)) : Prop where
  perm : (out ++ (a ++ b)).Perm L
  sa : SortedL (out ++ a)
  sb : SortedL (out ++ b)
theorem MergeI.start {L a b : List (List UInt8)} (hp : (a ++ b).Perm L) (ha : SortedL a) (hb : SortedL b) : MergeI L [] a b := ⟨hp, ha, hb⟩
theorem sorted_in {out a b : List (List UInt8)} {x y : List UInt8} (ha : SortedL (out ++ x :: a)) (hb : SortedL (out ++ y :: b)) (h : lessP (splitB y) (splitB x) = false) : SortedL ((out ++ [x]) ++ y :: b) := by
  unfold SortedL at *
  rw [List.append_assoc]
  rw [List.pairwise_append] at ha hb ⊢
  obtain ⟨a1, a2, a3⟩ := ha
  obtain ⟨b1, b2, b3⟩ := hb
  refine ⟨a1, ?_, fun u hu v hv => ?_⟩
  · show List.Pairwise _ (x :: y :: b)
    rw [List.pairwise_cons]
    refine ⟨fun z hz => ?_, b2⟩
    rcases List.mem_cons.1 hz with rfl | hz
    · exact h
    · exact le_trans3 h ((List.pairwise_cons.1 b2).1 z hz)
  · have hv' : v ∈ x :: y :: b := hv
    rcases List.mem_cons.1 hv' with rfl | hv'
    · exact a3 u hu v (List.mem_cons_self ..)
    · exact b3 u hu v hv'
theorem MergeI.left {L out a b : List (List UInt8)} {x y : List UInt8} (h : MergeI L out (x :: a) (y :: b)) (hl : lessP (splitB y) (splitB x) = false) : MergeI L (out ++ [x]) a (y :: b) :=
  ⟨by have := h.perm; rw [List.append_assoc]; exact this, by rw [List.append_assoc]; exact h.sa, sorted_in h.sa h.sb hl⟩
theorem MergeI.right {L out a b : List (List UInt8)} {x y : List UInt8} (h : MergeI L out (x :: a) (y :: b)) (hl : lessP (splitB y) (splitB x) = true) : MergeI L (out ++ [y]) (x :: a) b := by
  refine ⟨?_, sorted_in h.sb h.sa (lessP_asymm hl), by rw [List.append_assoc]; exact h.sb⟩
  refine List.Perm.trans ?_ h.perm
  rw [List.append_assoc]
  refine List.Perm.append_left out ?_
  show ([y] ++ ((x :: a) ++ b)).Perm ((x :: a) ++ y :: b)
  exact (List.perm_middle (a := y) (l₁ := x :: a) (l₂ := b)).symm
theorem MergeI.done {L out a b : List (List UInt8)} (h : MergeI L out a b) (he : a = [] ∨ b = []) : SortedL ((out ++ a) ++ b) ∧ ((out ++ a) ++ b).Perm L := by
  refine ⟨?_, by rw [List.append_assoc]; exact h.perm⟩
  rcases he with rfl | rfl
  · rw [List.append_nil]; exact h.sb
  · rw [List.append_nil]; exact h.sa
theorem sorted_short {L : List (List UInt8)} (h : L.length < 2) : SortedL L := by
  unfold SortedL
  match L, h with
  | [], _ => exact List.Pairwise.nil
  | [x], _ => exact List.pairwise_singleton ..
/-- What is in order is in one order. -/
theorem sorted_one : ∀ {L L' : List (List UInt8)}, SortedL L → SortedL L' → L.Perm L' → L = L'
  | [], L', _, _, hp => (List.nil_perm.1 hp).symm
  | x :: l, [], _, _, hp => absurd hp.length_eq (by simp)
  | x :: l, y :: l', h, h', hp => by
    obtain ⟨h1, h2⟩ := List.pairwise_cons.1 h
    obtain ⟨g1, g2⟩ := List.pairwise_cons.1 h'
    have e : x = y := by
      have m1 : x ∈ y :: l' := hp.mem_iff.1 (List.mem_cons_self ..)
      have m2 : y ∈ x :: l := hp.mem_iff.2 (List.mem_cons_self ..)
      rcases List.mem_cons.1 m1 with e | m1
      · exact e
      rcases List.mem_cons.1 m2 with e | m2
      · exact e.symm
      have a := h1 y m2
      have b := g1 x m1
      by_cases hs : splitB x = splitB y
      · exact splitB_inj hs
      · rcases lessP_total hs with g | g
        · rw [g] at b; cases b
        · rw [g] at a; cases a
    subst e
    rw [sorted_one h2 g2 (List.Perm.cons_inv hp)]
end Go.Proofs.YtlbbehfbjbbckaaGreatDoor
