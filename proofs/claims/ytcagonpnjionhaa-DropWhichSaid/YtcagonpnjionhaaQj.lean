import Derived.Test.YtcagonpnjionhaaQi
import Derived.Defers
/-! What goes below a path is told: the closures, and the program's below. -/
set_option linter.unusedVariables false
set_option linter.unusedSimpArgs false
namespace Go.Proofs.Ytcagonpnjionhaa
open Go.RowKit

def strsA (l : List ByteArray) : List Value := l.map .string
/-- The variable out, its slice's row, what it holds. -/
structure OutAt (w : World) (ob : Nat) (ps : List ByteArray) (v : Value) : Prop where
  blk : Blk w ob 28 [v]
  row : w.ownsRow (ob + 1) 9 1 v ps.length (strsA ps)
/-- What may have turned: out, its row, what is new. -/
structure Told (ob : Nat) (v : Value) (w w' : World) (v' : Value) : Prop where
  low : Below ob w w'
  keep : ∀ j, j < w.heap.size → j ≠ ob → v.ownBlock ≠ some j → w'.heap[j]? = w.heap[j]?
  own : v'.ownBlock = v.ownBlock ∨ ∃ b, v'.ownBlock = some b ∧ w.heap.size ≤ b
theorem Told.refl (ob : Nat) (v : Value) (w : World) : Told ob v w w v := ⟨Below.refl _ _, fun _ _ _ _ => rfl, .inl rfl⟩
theorem Told.trans {ob : Nat} {v v' v'' : Value} {a b c : World} (h : Told ob v a b v') (k : Told ob v' b c v'') : Told ob v a c v'' := by
  refine ⟨h.low.trans k.low, fun j hj h1 h2 => ?_, ?_⟩
  · refine (k.keep j (Nat.lt_of_lt_of_le hj h.low.size) h1 ?_).trans (h.keep j hj h1 h2)
    rcases h.own with e | ⟨b', e, hb⟩
    · rw [e]; exact h2
    · rw [e]; intro e2; cases e2; omega
  · rcases k.own with e | ⟨b', e, hb⟩
    · rw [e]; exact h.own
    · exact .inr ⟨b', e, Nat.le_trans h.low.size hb⟩
/-- New blocks alone. -/
theorem Told.new {ob : Nat} {v : Value} {a b : World} (h : Below a.heap.size a b) (hob : ob ≤ a.heap.size) : Told ob v a b v :=
  ⟨h.mono hob, fun j hj _ _ => h.block j hj, .inl rfl⟩
theorem OutAt.below {w w' : World} {ob : Nat} {ps : List ByteArray} {v : Value} (h : OutAt w ob ps v) (hb : Below w.heap.size w w') : OutAt w' ob ps v :=
  ⟨h.blk.below hb, ownsRow_heap h.row (fun b hb' => hb.block b (ownsRow_lt h.row hb').2)⟩
theorem Told.blk {ob : Nat} {v v' : Value} {w w' : World} (h : Told ob v w w' v') {b : Nat} {T : TypeId} {cs : List Value} (hb : Blk w b T cs) (h1 : b ≠ ob) (h2 : v.ownBlock ≠ some b) : Blk w' b T cs := (h.keep b hb.lt h1 h2).trans hb
theorem Told.cell {ob : Nat} {v v' : Value} {w w' : World} (h : Told ob v w w' v') {b o : Nat} {x : Value} (hc : w.cell? ⟨b, o, none⟩ = some x) (h1 : b ≠ ob) (h2 : v.ownBlock ≠ some b) : w'.cell? ⟨b, o, none⟩ = some x :=
  (World.cell?_of_block (w := w) (h.keep b (World.block_lt_of_cell? w _ hc) h1 h2)).trans hc
set_option maxRecDepth 100000 in
set_option maxHeartbeats 1000000 in
theorem tell_any (s : ByteArray) (ob : Nat) (ps : List ByteArray) (v : Value) (w : World) (h : OutAt w ob ps v) (hl : ps.length ≤ 1000000) :
    Calls Try.prog 22 #[.string s, .pointer (some ⟨ob, 0, none⟩)] w fun e w' => e = .returned (.tuple #[]) ∧ ∃ v', OutAt w' ob (ps ++ [s]) v' ∧ Told ob v w w' v' := by
  obtain ⟨i0, hi, hz0, hz1, hz2⟩ := info_parts infoS
  have hob := h.blk.lt
  have hg0 := (Below.refl w.heap.size w).alloc (Nat.le_refl _) (.cells #[.string s] 9)
  have hA := h.below hg0
  have hsl : Sl 1 (w.alloc (.cells #[.string s] 9)) (some ⟨w.heap.size, 0, none⟩) 1 [.string s] := (Blk.new w 9 [.string s]).sl rfl rfl (by omega)
  obtain ⟨v', w2, hap, hown, hg, hblk⟩ := run_append_at (c := 1) (w := w.alloc (.cells #[.string s] 9)) (ob + 1) 28 28 9 i0 _ 1 16 Try.underlying28 hi hz0 hz1 hz2 rfl (by decide) hA.row hsl (by omega) (by intro u hu; simp at hu; subst hu; rfl) (by omega) (by omega) (by rw [World.size_alloc]; omega)
  have hsz : (w.alloc (.cells #[.string s] 9)).heap.size = w.heap.size + 1 := World.size_alloc _ _
  have hvn : ∀ b, v.ownBlock = some b → ob + 1 ≤ b ∧ b < w.heap.size := fun b hb => ownsRow_lt h.row hb
  have hb2 : Blk w2 ob 28 [v] := hA.blk.grown hg (fun e => by have := (hvn ob e.symm).1; omega)
  have hT : OutAt (w2.setCell ⟨ob, 0, none⟩ v') ob (ps ++ [s]) v' := by
    refine ⟨hb2.set 0 v', ?_⟩
    have e1 : strsA (ps ++ [s]) = strsA ps ++ [.string s] := by simp [strsA]
    rw [e1, List.length_append]
    refine ownsRow_heap hown (fun b hb => heap_setCell_other w2 ⟨ob, 0, none⟩ b v' ?_)
    have := (ownsRow_lt hown hb).1
    show b ≠ ob
    omega
  have hR : Told ob v w (w2.setCell ⟨ob, 0, none⟩ v') v' := by
    refine ⟨?_, fun j hj h1 h2 => ?_, ?_⟩
    · exact (((Below.refl ob w).alloc (by omega) _).grown hg (by omega) (fun j hj => by have := (hvn j hj).1; omega)).setCell (Nat.le_refl _) _
    · refine (heap_setCell_other w2 ⟨ob, 0, none⟩ j v' (show j ≠ ob from h1)).trans ((hg.block j (by omega) (fun e => h2 e.symm)).trans (hg0.block j hj))
    · rcases hblk with e | e
      · exact .inl e
      · exact .inr ⟨_, e, by omega⟩
  have c0 := h.blk.cell 0
  have d0 := hb2.cell 0
  have f0 := hb2.frozen 0
  simp only [List.getElem?_cons_zero] at c0 d0
  obtain ⟨A1, c1, rfl, _, _⟩ := ownsRow_sl hown (by omega)
  obtain ⟨A0, c0', rfl, _, _⟩ := ownsRow_sl h.row (by omega)
  have HT := Lib.hid hT
  have HR := Lib.hid hR
  clear hT hR hb2 hA hown hg hblk h hg0
  go_enter Try.func22, Try.ntmps22
  go_wp2_with (at_builtin; refine halt_in ?_)
  refine Halted.out (wpList_append_run rfl _ _ _ _ rfl rfl rfl hap ?_)
  go_wp2_with fail
  go_end0
  exact ⟨rfl, _, HT.out, HR.out⟩
set_option maxRecDepth 100000 in
set_option maxHeartbeats 4000000 in
theorem last_any (b3 b4 b5 g W b o dn dc i ob : Nat) (wi : Int) (path : ByteArray) (ps : List ByteArray) (v : Value) (u : FrameMode) (w : World)
    (h3 : w.cell? ⟨b3, 0, none⟩ = some (.pointer (some ⟨g, 0, none⟩))) (h4 : w.cell? ⟨b4, 0, none⟩ = some (.int .i64 i)) (h5 : w.cell? ⟨b5, 0, none⟩ = some (.func (.func 22) #[] #[.pointer (some ⟨ob, 0, none⟩)]))
    (n3 : b3 ≠ ob ∧ v.ownBlock ≠ some b3) (n4 : b4 ≠ ob ∧ v.ownBlock ≠ some b4) (n5 : b5 ≠ ob ∧ v.ownBlock ≠ some b5) (ng : g ≠ ob ∧ v.ownBlock ≠ some g) (nb : b ≠ ob ∧ v.ownBlock ≠ some b)
    (M : Option Nat) (g0 : w.cell? ⟨g, 0, none⟩ = some (.map M)) (g1 : w.cell? ⟨g, 1, none⟩ = some (.slice (some ⟨b, o, none⟩) dn dc)) (g3 : w.cell? ⟨g, 3, none⟩ = some (.slice (some ⟨W, 0, none⟩) dn dn))
    (hw : w.cell? ⟨W, i, none⟩ = some (.int .i64 wi)) (hx : w.cell? ⟨b, o + i * 11, none⟩ = some (.string path)) (hi : i < dn)
    (hO : OutAt w ob ps v) (hl : ps.length ≤ 1000000) :
    CallsD Try.prog 35 #[.pointer (some ⟨b3, 0, none⟩), .pointer (some ⟨b4, 0, none⟩), .pointer (some ⟨b5, 0, none⟩)] u w fun e u' w' => u' = u ∧ (e = .returned (.tuple #[]) ∧ ∃ v', OutAt w' ob (ps ++ if wi = 0 then [path] else []) v' ∧ Told ob v w w' v') := by
  have HPO := Lib.hid (fun (h : wi = 0) => show ps ++ [path] = ps ++ (if wi = 0 then [path] else []) by rw [if_pos h])
  have HPN := Lib.hid (fun (h : ¬ wi = 0) => show ps = ps ++ (if wi = 0 then [path] else []) by rw [if_neg h, List.append_nil])
  generalize (ps ++ if wi = 0 then [path] else []) = qs at *
  have hi1 : (0 : Int) ≤ (i : Int) := by omega
  have hi2 : (i : Int) < (dn : Int) := by omega
  have HO := Lib.hid hO
  clear hO
  go_enter_d Try.func35, Try.ntmps35
  go_wp2_with fail
  by_cases hz : wi = 0
  · have HZ := Lib.hid (HPO.out hz)
    have e1 : (wi == 0) = true := by rw [hz]; rfl
    clear hz HPO HPN
    go_quiet (fail)
    go_wp2_with fail
    have HN := Lib.hid (HO.out.below (below_drewN (Below.refl _ _) nq))
    have HT := Lib.hid (Told.new (ob := ob) (v := v) (below_drewN (Below.refl w.heap.size w) nq) (Nat.le_of_lt HO.out.blk.lt))
    have h3 : (w.drewN nq).drew.cell? ⟨b3, 0, none⟩ = _ := h3
    have h4 : (w.drewN nq).drew.cell? ⟨b4, 0, none⟩ = _ := h4
    have h5 : (w.drewN nq).drew.cell? ⟨b5, 0, none⟩ = _ := h5
    have g0 : (w.drewN nq).drew.cell? ⟨g, 0, none⟩ = _ := g0
    have g1 : (w.drewN nq).drew.cell? ⟨g, 1, none⟩ = _ := g1
    have hx : (w.drewN nq).drew.cell? ⟨b, o + i * 11, none⟩ = _ := hx
    clear hw g3 HO
    generalize w.drewN nq = w5 at *
    refine wp_region_held_drew (S := (fun w' => ∃ v1, Told ob v w5.drew w' v1)) (by kernel_rfl) (⟨v, Told.refl _ _ _⟩) (fun hHeld => ?_)
    refine wpAnyH_take (i := 0) (oi := ?oi1) (v := ?v1) ?hi1 ?hs1 ?hf1 ?hr1 ?hQ1 (Or.inl ⟨?hg1, ?hy1⟩) hHeld ?rest1
    case hi1 => simp only [List.getElem?_toArray, List.getElem?_cons_succ, List.getElem?_cons_zero]; rfl
    case hs1 => kernel_rfl
    case hf1 => kernel_rfl
    case hr1 => kernel_rfl
    case hg1 => rfl
    case hy1 => (intro w hSw; obtain ⟨v1, hT1⟩ := hSw; have x0 := hT1.cell h5 n5.1 n5.2; first | (go_simp; done) | (go_simp; with_reducible rfl))
    case hQ1 => exact fun _ _ _ h => h
    try simp only [Act.put, List.setIfInBounds_toArray, List.set_cons_zero, List.set_cons_succ]
    refine wpAnyH_take (i := 1) (oi := ?oi2) (v := ?v2) ?hi2 ?hs2 ?hf2 ?hr2 ?hQ2 (Or.inl ⟨?hg2, ?hy2⟩) hHeld ?rest2
    case hi2 => simp only [List.getElem?_toArray, List.getElem?_cons_succ, List.getElem?_cons_zero]; rfl
    case hs2 => kernel_rfl
    case hf2 => kernel_rfl
    case hr2 => kernel_rfl
    case hg2 => rfl
    case hy2 => (intro w hSw; obtain ⟨v1, hT1⟩ := hSw; have x0 := hT1.cell h3 n3.1 n3.2; first | (go_simp; done) | (go_simp; with_reducible rfl))
    case hQ2 => exact fun _ _ _ h => h
    try simp only [Act.put, List.setIfInBounds_toArray, List.set_cons_zero, List.set_cons_succ]
    refine wpAnyH_take (i := 2) (oi := ?oi3) (v := ?v3) ?hi3 ?hs3 ?hf3 ?hr3 ?hQ3 (Or.inl ⟨?hg3, ?hy3⟩) hHeld ?rest3
    case hi3 => simp only [List.getElem?_toArray, List.getElem?_cons_succ, List.getElem?_cons_zero]; rfl
    case hs3 => kernel_rfl
    case hf3 => kernel_rfl
    case hr3 => kernel_rfl
    case hg3 => rfl
    case hy3 => (intro w hSw; obtain ⟨v1, hT1⟩ := hSw; have x0 := hT1.cell g0 ng.1 ng.2; first | (go_simp; done) | (go_simp; with_reducible rfl))
    case hQ3 => exact fun _ _ _ h => h
    try simp only [Act.put, List.setIfInBounds_toArray, List.set_cons_zero, List.set_cons_succ]
    refine wpAnyH_take (i := 3) (oi := ?oi4) (v := ?v4) ?hi4 ?hs4 ?hf4 ?hr4 ?hQ4 (Or.inl ⟨?hg4, ?hy4⟩) hHeld ?rest4
    case hi4 => simp only [List.getElem?_toArray, List.getElem?_cons_succ, List.getElem?_cons_zero]; rfl
    case hs4 => kernel_rfl
    case hf4 => kernel_rfl
    case hr4 => kernel_rfl
    case hg4 => rfl
    case hy4 => (intro w hSw; obtain ⟨v1, hT1⟩ := hSw; have x0 := hT1.cell g0 ng.1 ng.2; first | (go_simp; done) | (go_simp; with_reducible rfl))
    case hQ4 => exact fun _ _ _ h => h
    try simp only [Act.put, List.setIfInBounds_toArray, List.set_cons_zero, List.set_cons_succ]
    refine wpAnyH_take (i := 4) (oi := ?oi5) (v := ?v5) ?hi5 ?hs5 ?hf5 ?hr5 ?hQ5 (Or.inl ⟨?hg5, ?hy5⟩) hHeld ?rest5
    case hi5 => simp only [List.getElem?_toArray, List.getElem?_cons_succ, List.getElem?_cons_zero]; rfl
    case hs5 => kernel_rfl
    case hf5 => kernel_rfl
    case hr5 => kernel_rfl
    case hg5 => rfl
    case hy5 => (intro w hSw; obtain ⟨v1, hT1⟩ := hSw; have x0 := hT1.cell g1 ng.1 ng.2; first | (go_simp; done) | (go_simp; with_reducible rfl))
    case hQ5 => exact fun _ _ _ h => h
    try simp only [Act.put, List.setIfInBounds_toArray, List.set_cons_zero, List.set_cons_succ]
    refine wpAnyH_take (i := 5) (oi := ?oi6) (v := ?v6) ?hi6 ?hs6 ?hf6 ?hr6 ?hQ6 (Or.inl ⟨?hg6, ?hy6⟩) hHeld ?rest6
    case hi6 => simp only [List.getElem?_toArray, List.getElem?_cons_succ, List.getElem?_cons_zero]; rfl
    case hs6 => kernel_rfl
    case hf6 => kernel_rfl
    case hr6 => kernel_rfl
    case hg6 => rfl
    case hy6 => (intro w hSw; obtain ⟨v1, hT1⟩ := hSw; have x0 := hT1.cell h4 n4.1 n4.2; first | (go_simp; done) | (go_simp; with_reducible rfl))
    case hQ6 => exact fun _ _ _ h => h
    try simp only [Act.put, List.setIfInBounds_toArray, List.set_cons_zero, List.set_cons_succ]
    refine wpAnyH_take (i := 6) (oi := ?oi7) (v := ?v7) ?hi7 ?hs7 ?hf7 ?hr7 ?hQ7 (Or.inl ⟨?hg7, ?hy7⟩) hHeld ?rest7
    case hi7 => simp only [List.getElem?_toArray, List.getElem?_cons_succ, List.getElem?_cons_zero]; rfl
    case hs7 => kernel_rfl
    case hf7 => kernel_rfl
    case hr7 => kernel_rfl
    case hg7 => rfl
    case hy7 => (intro w hSw; first | (go_simp; done) | (go_simp; with_reducible rfl))
    case hQ7 => exact fun _ _ _ h => h
    try simp only [Act.put, List.setIfInBounds_toArray, List.set_cons_zero, List.set_cons_succ]
    refine wpAnyH_take (i := 7) (oi := ?oi8) (v := ?v8) ?hi8 ?hs8 ?hf8 ?hr8 ?hQ8 (Or.inl ⟨?hg8, ?hy8⟩) hHeld ?rest8
    case hi8 => simp only [List.getElem?_toArray, List.getElem?_cons_succ, List.getElem?_cons_zero]; rfl
    case hs8 => kernel_rfl
    case hf8 => kernel_rfl
    case hr8 => kernel_rfl
    case hg8 => rfl
    case hy8 => (intro w hSw; obtain ⟨v1, hT1⟩ := hSw; have x0 := hT1.cell hx nb.1 nb.2; first | (go_simp; done) | (go_simp; with_reducible rfl))
    case hQ8 => exact fun _ _ _ h => h
    try simp only [Act.put, List.setIfInBounds_toArray, List.set_cons_zero, List.set_cons_succ]
    refine wpAnyH_take (i := 8) (oi := ?oi9) (v := ?v9) ?hi9 ?hs9 ?hf9 ?hr9 ?hQ9 (Or.inl ⟨?hg9, ?hy9⟩) hHeld ?rest9
    case hi9 => simp only [List.getElem?_toArray, List.getElem?_cons_succ, List.getElem?_cons_zero]; rfl
    case hs9 => kernel_rfl
    case hf9 => kernel_rfl
    case hr9 => kernel_rfl
    case hg9 => rfl
    case hy9 => (intro w hSw; obtain ⟨v1, hT1⟩ := hSw; have x0 := hT1.cell hx nb.1 nb.2; first | (go_simp; done) | (go_simp; with_reducible rfl))
    case hQ9 => exact fun _ _ _ h => h
    try simp only [Act.put, List.setIfInBounds_toArray, List.set_cons_zero, List.set_cons_succ]
    refine wpAnyH_ready (rs := [9]) (by kernel_rfl) (by simp) ?_
    refine AllReadyH.cons (o := ?oi10) ?hi10 (fun K hK => ?_) AllReadyH.nil
    case hi10 => simp only [List.getElem?_toArray, List.getElem?_cons_succ, List.getElem?_cons_zero]; rfl
    go_simp; go_at_call 22; refine (tell_any path ob ps v _ (HN.out.below (Below.refl _ _).drew) hl).mono ?_; rintro e w6 ⟨rfl, v6, hO6, hT6⟩; go_wp2_with fail
    refine hK.out _ _ (⟨v6, hT6⟩) (fun hHeld2 => ?_)
    clear hK K hHeld
    have hHeld := hHeld2
    clear hHeld2
    try simp only [Act.put, List.setIfInBounds_toArray, List.set_cons_zero, List.set_cons_succ]
    refine wpAnyH_done (by kernel_rfl) ?_ _
    go_wp2_with fail
    go_end0
    exact ⟨rfl, _, by rw [← HZ.out]; exact hO6, HT.out.trans ((Told.new (Below.refl w5.heap.size w5).drew (Nat.le_of_lt HN.out.blk.lt)).trans hT6)⟩
  · have HZ := Lib.hid (HPN.out hz)
    have e1 : (wi == 0) = false := by rw [beq_eq_false_iff_ne]; exact hz
    clear hz HPO HPN
    go_quiet (fail)
    have HN := Lib.hid (HO.out.below (below_drewN (Below.refl _ _) nq))
    have HT := Lib.hid (Told.new (ob := ob) (v := v) (below_drewN (Below.refl w.heap.size w) nq) (Nat.le_of_lt HO.out.blk.lt))
    go_wp2_with fail
    go_end0
    exact ⟨rfl, _, by rw [← HZ.out]; exact HN.out, HT.out⟩
end Go.Proofs.Ytcagonpnjionhaa

/-! The program's below: what goes below an entry, and, at the end, the entry itself. -/
set_option linter.unusedVariables false
set_option linter.unusedSimpArgs false
namespace Go.Proofs.Ytcagonpnjionhaa
open Go.RowKit

theorem Sides.below {w w1 : World} {g M W K kb : Nat} {dA : Option Addr} {dn dc : Nat} {rA : Option Addr} {rn rc : Nat} {S D : List En} {R : List Ru} {ws : List Int} (h : Sides w g M W K kb dA dn dc rA rn rc S D R ws) (hb : Below w.heap.size w w1) : Sides w1 g M W K kb dA dn dc rA rn rc S D R ws :=
  ⟨h.blk.below hb, h.src.below hb, h.dst.below hb, h.rul.below hb, h.why.below hb, h.kids.below hb⟩
theorem belowU_at {D : List En} {ws : List Int} {k i : Nat} {x : En} (h : D[i]? = some x) : belowU D ws (k + 1) i = (kdT D D.length x.path.data.toList).flatMap (belowU D ws k) ++ (if ws[i]? = some 0 then [x.path] else []) := by
  rw [belowU, h]
theorem flat_take {α β : Type} {l : List α} {f : α → List β} {t : Nat} {x : α} (h : l[t]? = some x) : (l.take (t + 1)).flatMap f = (l.take t).flatMap f ++ f x := by
  obtain ⟨hi, he⟩ := List.getElem?_eq_some_iff.1 h
  rw [List.take_succ_eq_append_getElem hi, he, List.flatMap_append]; simp
theorem flat_le {α β : Type} (l : List α) (f : α → List β) (t : Nat) : ((l.take t).flatMap f).length ≤ (l.flatMap f).length := by
  conv => rhs; rw [← List.take_append_drop t l]
  rw [List.flatMap_append, List.length_append]; omega
theorem kdT_at {D : List En} {n t j : Nat} {s : List UInt8} (h : (kdT D n s)[t]? = some j) : j < n ∧ parAt D j = some s := by
  have := List.mem_of_getElem? h
  unfold kdT at this
  rw [List.mem_filter, List.mem_range] at this
  exact ⟨this.1, by simpa using this.2⟩
theorem parAt_some {D : List En} {j : Nat} {s : List UInt8} (h : parAt D j = some s) : ∃ y, D[j]? = some y ∧ parentB y.path.data.toList = s := by
  unfold parAt at h
  cases hd : D[j]? with
  | none => rw [hd] at h; cases h
  | some y => rw [hd] at h; exact ⟨y, rfl, by simpa using h⟩
theorem Sl.belowB {sz B : Nat} {w w1 : World} {A : Option Addr} {n : Nat} {cs : List Value} (h : Sl sz w A n cs) (hB : w.heap.size ≤ B) (hb : Below B w w1) : Sl sz w1 A n cs := h.below (hb.mono hB)
theorem Sl.natRow {w : World} {A : Option Addr} {n : Nat} {L : List Nat} (h : Sl 1 w A n (L.map (fun j => Value.int .i64 (j : Nat)))) {t : Nat} (ht : t < n) : ∃ (b o j : Nat), A = some ⟨b, o, none⟩ ∧ L[t]? = some j ∧ w.cell? ⟨b, o + t, none⟩ = some (.int .i64 (j : Nat)) := by
  have hl : L.length = n := by have := h.len; simpa using this
  have hx : L[t]? = some (L[t]'(by omega)) := List.getElem?_eq_getElem (by omega)
  rcases h.at_ with h0 | ⟨b, o, rfl, hc⟩
  · have : (L.map (fun j => Value.int .i64 (j : Nat))).length = 0 := by rw [h0]; rfl
    rw [List.length_map] at this; omega
  · exact ⟨b, o, _, rfl, hx, hc t _ (by rw [List.getElem?_map, hx]; rfl)⟩
set_option maxRecDepth 100000 in
set_option maxHeartbeats 4000000 in
theorem below_any {w0 : World} {g M W K kb : Nat} {dA : Option Addr} {dn dc : Nat} {rA : Option Addr} {rn rc : Nat} {S D : List En} {R : List Ru} {ws : List Int} (hS : Sides w0 g M W K kb dA dn dc rA rn rc S D R ws)
    (hD : ∀ x ∈ D, x.path.size ≤ 200 ∧ x.path.data.toList ≠ []) (hwl : ws.length = dn) (hdn : dn ≤ 500) :
    ∀ (k i : Nat) (x : En) (w : World) (ps : List ByteArray) (v : Value), D[i]? = some x → 201 ≤ k + x.path.size → Below w0.heap.size w0 w → OutAt w w0.heap.size ps v → ps.length + (belowU D ws k i).length ≤ 1000000 →
    Calls Try.prog 21 #[.pointer (some ⟨g, 0, none⟩), .int .i64 i, .func (.func 22) #[] #[.pointer (some ⟨w0.heap.size, 0, none⟩)]] w
      fun e w' => e = .returned (.tuple #[]) ∧ ∃ v', OutAt w' w0.heap.size (ps ++ belowU D ws k i) v' ∧ Told w0.heap.size v w w' v'
  | 0, i, x, w, ps, v, hx, hk, hb, hO, hl => by
    have := (hD x (List.mem_of_getElem? hx)).1
    omega
  | k+1, i, x, w, ps, v, hx, hk, hb, hO, hl => by
    have hmf : ∀ (fn : Fn) (first cap : Array Value) (w : World), (Instr.makeFunc fn first cap).run Try.prog w = .ok (.func fn first cap) w := fun _ _ _ _ => rfl
    have hdl : D.length = dn := hS.dst.enLen
    have hi : i < dn := by rw [← hdl]; exact (List.getElem?_eq_some_iff.1 hx).1
    obtain ⟨b, o, x', hA, hx', hsg⟩ := hS.dst.enRow hi
    rw [hx] at hx'
    cases hx'
    subst hA
    have hxp := hD x (List.mem_of_getElem? hx)
    rw [belowU_at hx] at hl ⊢
    obtain ⟨wi, hwi⟩ : ∃ wi, ws[i]? = some wi := ⟨_, List.getElem?_eq_getElem (by omega)⟩
    obtain ⟨kA, kc, hlk, hks⟩ := hS.kids.look x.path (by omega) (by have := kdT_len D D.length x.path.data.toList; omega)
    have hq : (if ws[i]? = some 0 then [x.path] else []) = (if wi = 0 then [x.path] else []) := by rw [hwi]; simp
    rw [hq] at hl ⊢
    clear hq
    have hkl : ∀ t j, (kdT D D.length x.path.data.toList)[t]? = some j → ∃ y : En, D[j]? = some y ∧ 201 ≤ k + y.path.size := fun t j h => by
      obtain ⟨_, hp⟩ := kdT_at h
      obtain ⟨y, hy, hpy⟩ := parAt_some hp
      refine ⟨y, hy, ?_⟩
      have h1 := parentB_lt (hD y (List.mem_of_getElem? hy)).2
      rw [hpy, Array.length_toList, Array.length_toList] at h1
      have h2 : x.path.size < y.path.size := h1
      omega
    generalize hks' : kdT D D.length x.path.data.toList = ks at *
    clear hks'
    have hvb : ∀ b, v.ownBlock = some b → w0.heap.size + 1 ≤ b ∧ b < w.heap.size := fun b hb => ownsRow_lt hO.row hb
    have hob := hO.blk.lt
    have hgl := hS.blk.lt
    have hbl : b < w0.heap.size := World.block_lt_of_cell? w0 _ (hsg 0 _ rfl)
    have hksl : ks.length ≤ 9223372036854775807 := hks.max
    obtain ⟨qs, hqs⟩ : ∃ qs, ps ++ (ks.flatMap (belowU D ws k) ++ if wi = 0 then [x.path] else []) = qs := ⟨_, rfl⟩
    have HQ := Lib.hid hqs
    rw [hqs]
    have hl1 : ps.length + (ks.flatMap (belowU D ws k)).length ≤ 1000000 := by rw [List.length_append] at hl; omega
    have HL := Lib.hid hl1
    clear hqs hl hl1
    have HO := Lib.hid hO
    have HKL := Lib.hid hkl
    have HIH := Lib.hid (fun (i : Nat) (x : En) (w : World) (ps : List ByteArray) (v : Value) h1 h2 h3 h4 h5 => below_any hS hD hwl hdn k i x w ps v h1 h2 h3 h4 h5)
    have HSD := Lib.hid hS
    have HB := Lib.hid hb
    have HX := Lib.hid (fun (w' : World) (h : Below w0.heap.size w0 w') => show w'.cell? ⟨b, o + i * 11, none⟩ = some (.string x.path) from (h.cell (p := ⟨b, o + i * 11, none⟩) hbl).trans (hsg 0 _ rfl))
    have HLK := Lib.hid hlk
    have HKS := Lib.hid hks
    have HWI := Lib.hid hwi
    clear hO hkl hb hsg hlk hks hwi hx hS
    have hi1 : (0 : Int) ≤ (i : Int) := by omega
    have hi2 : (i : Int) < (dn : Int) := by omega
    go_enter_defers Try.func21, Try.ntmps21
    go_wp2_with fail
    obtain ⟨w1, hw1⟩ : ∃ w1, ((w.alloc (.cells #[.pointer (some ⟨g, 0, none⟩)] 49)).alloc (.cells #[.int .i64 i] 3)).alloc (.cells #[.func (.func 22) #[] #[.pointer (some ⟨w0.heap.size, 0, none⟩)]] 57) = w1 := ⟨_, rfl⟩
    have hz1 : (w.alloc (.cells #[.pointer (some ⟨g, 0, none⟩)] 49)).heap.size = w.heap.size + 1 := World.size_alloc _ _
    have hz2 : ((w.alloc (.cells #[.pointer (some ⟨g, 0, none⟩)] 49)).alloc (.cells #[.int .i64 i] 3)).heap.size = w.heap.size + 1 + 1 := by simp only [World.size_alloc]
    have hz3 : w1.heap.size = w.heap.size + 1 + 1 + 1 := by rw [← hw1]; simp only [World.size_alloc]
    have c3 : w1.cell? ⟨w.heap.size, 0, none⟩ = some (.pointer (some ⟨g, 0, none⟩)) := by rw [← hw1]; exact (((Blk.new w 49 [.pointer (some ⟨g, 0, none⟩)]).alloc _).alloc _).cell 0
    have c4 : w1.cell? ⟨w.heap.size + 1, 0, none⟩ = some (.int .i64 i) := by
      have := ((Blk.new (w.alloc (.cells #[.pointer (some ⟨g, 0, none⟩)] 49)) 3 [.int .i64 i]).alloc (.cells #[.func (.func 22) #[] #[.pointer (some ⟨w0.heap.size, 0, none⟩)]] 57)).cell 0
      rw [hz1, hw1] at this; exact this
    have c5 : w1.cell? ⟨w.heap.size + 1 + 1, 0, none⟩ = some (.func (.func 22) #[] #[.pointer (some ⟨w0.heap.size, 0, none⟩)]) := by
      have := (Blk.new ((w.alloc (.cells #[.pointer (some ⟨g, 0, none⟩)] 49)).alloc (.cells #[.int .i64 i] 3)) 57 [.func (.func 22) #[] #[.pointer (some ⟨w0.heap.size, 0, none⟩)]]).cell 0
      rw [hz2, hw1] at this; exact this
    have hbw : Below w.heap.size w w1 := by
      rw [← hw1]
      exact (((Below.refl w.heap.size w).alloc (Nat.le_refl _) _).alloc (by rw [hz1]; omega) _).alloc (by rw [hz2]; omega) _
    rw [hw1]
    clear hw1 hz1 hz2
    have hB1 := HB.out.trans (hbw.mono (Nat.le_of_lt hob))
    have hS1 := HSD.out.below hB1
    have g0 := hS1.blk.cell 0
    have g1 := hS1.blk.cell 1
    have g4 := hS1.blk.cell 4
    simp only [List.getElem?_cons_zero, List.getElem?_cons_succ] at g0 g1 g4
    have x0 := HX.out w1 hB1
    have hlk := fun n => HLK.out (w1.drewN n) (below_drewN hB1 n)
    have T1 := Lib.hid (Told.new (ob := w0.heap.size) (v := v) hbw (Nat.le_of_lt hob))
    have O1 := Lib.hid (HO.out.below hbw)
    clear hS1 hbw HO
    go_quiet (fail)
    have B2 := Lib.hid (below_drewN hB1 nq)
    have O2 := Lib.hid (O1.out.below (below_drewN (Below.refl _ _) nq))
    have T2 := Lib.hid (T1.out.trans (Told.new (ob := w0.heap.size) (v := v) (below_drewN (Below.refl w1.heap.size w1) nq) (by omega)))
    have c3 : (w1.drewN nq).cell? ⟨w.heap.size, 0, none⟩ = _ := c3
    have c4 : (w1.drewN nq).cell? ⟨w.heap.size + 1, 0, none⟩ = _ := c4
    have c5 : (w1.drewN nq).cell? ⟨w.heap.size + 1 + 1, 0, none⟩ = _ := c5
    have hz4 : (w1.drewN nq).heap.size = w.heap.size + 1 + 1 + 1 := by rw [World.heap_drewN]; exact hz3
    clear hlk x0 g0 g1 g4 hB1 T1 O1 hz3 HB
    generalize w1.drewN nq = w2 at *
    have C3 := Lib.hid c3
    have C4 := Lib.hid c4
    have C5 := Lib.hid c5
    clear c3 c4 c5
    go_wp2_with fail
    go_loopw [23] (fun u wr => ∃ (t : Nat) (v' : Value), u = .int .i64 t ∧ t ≤ ks.length ∧ OutAt wr w0.heap.size (ps ++ (ks.take t).flatMap (belowU D ws k)) v' ∧ Told w0.heap.size v w2 wr v') (fun u _ => ks.length - (intOf u).toNat)
    case atStart => exact ⟨0, v, rfl, Nat.zero_le _, by rw [List.take_zero, List.flatMap_nil, List.append_nil]; exact O2.out, Told.refl _ _ _⟩
    case round =>
      clear O2
      obtain ⟨t, v', rfl, ht, hO, hT⟩ := hrel
      have HO := Lib.hid hO
      have HT := Lib.hid hT
      clear hO
      have HBr := Lib.hid (B2.out.trans hT.low)
      have hv2 : v'.ownBlock = v.ownBlock ∨ ∃ b, v'.ownBlock = some b ∧ w2.heap.size ≤ b := hT.own
      have hvn : ∀ b', w.heap.size ≤ b' → b' < w2.heap.size → v.ownBlock ≠ some b' := fun b' h1 _ e => by have := (hvb b' e).2; omega
      have hvn' : ∀ b', w.heap.size ≤ b' → b' < w2.heap.size → v'.ownBlock ≠ some b' := fun b' h1 h2 e => by
        rcases hv2 with e2 | ⟨b2, e2, h3⟩
        · rw [e2] at e; exact hvn b' h1 h2 e
        · rw [e2] at e; cases e; omega
      have hvl : ∀ b', b' ≤ w0.heap.size → v'.ownBlock ≠ some b' := fun b' h1 e => by have := (ownsRow_lt HO.out.row e).1; omega
      have c3 := HT.out.cell C3.out (by omega) (hvn _ (by omega) (by omega))
      have c4 := HT.out.cell C4.out (by omega) (hvn _ (by omega) (by omega))
      have c5 := HT.out.cell C5.out (by omega) (hvn _ (by omega) (by omega))
      clear hT hv2
      rcases Nat.lt_or_ge t ks.length with h | h
      · obtain ⟨kb', ko, j, hA, hkj, hkc⟩ := Sl.natRow (HKS.out.belowB (Nat.le_refl _) HBr.out) h
        obtain ⟨y, hy, h201⟩ := HKL.out t j hkj
        have HFT := Lib.hid (flat_take (f := belowU D ws k) hkj)
        have hlen : (ps ++ (ks.take t).flatMap (belowU D ws k)).length + (belowU D ws k j).length ≤ 1000000 := by
          have h1 := flat_le ks (belowU D ws k) (t + 1)
          rw [HFT.out] at h1
          have h2 := HL.out
          rw [List.length_append] at h1 ⊢
          omega
        have HC := Lib.hid (HIH.out j y wr _ v' hy h201 HBr.out HO.out hlen)
        have hti : (t : Int) < (ks.length : Int) := by omega
        subst hA
        clear hkj hy h201 hlen hvn hvn' hvl
        go_wp2_with fail
        refine HC.out.mono ?_
        rintro e w5 ⟨rfl, v5, hO5, hT5⟩
        have HO5 := Lib.hid (show OutAt w5 w0.heap.size (ps ++ (ks.take (t + 1)).flatMap (belowU D ws k)) v5 by rw [HFT.out, ← List.append_assoc]; exact hO5)
        have HT5 := Lib.hid (HT.out.trans hT5)
        clear hO5 hT5 HC HO HT HBr c3 c4 c5 hkc
        go_wp2_with fail
        go_roundw
        case rel => exact ⟨t + 1, v5, by go_num, by omega, HO5.out, HT5.out⟩
        case measure => simp [intOf] <;> omega
      · obtain rfl : t = ks.length := by omega
        have hin : ¬ ((ks.length : Int) < (ks.length : Int)) := by omega
        have hSr := HSD.out.below HBr.out
        have g0 := hSr.blk.cell 0
        have g1 := hSr.blk.cell 1
        have g3 := hSr.blk.cell 3
        have hw := hSr.why.cell i
        have hO' : OutAt wr w0.heap.size (ps ++ ks.flatMap (belowU D ws k)) v' := by have := HO.out; rw [List.take_length] at this; exact this
        have hps : (ps ++ ks.flatMap (belowU D ws k)).length ≤ 1000000 := by rw [List.length_append]; exact HL.out
        have HLA := Lib.hid (last_any w.heap.size (w.heap.size + 1) (w.heap.size + 1 + 1) g W b o dn dc i w0.heap.size wi x.path (ps ++ ks.flatMap (belowU D ws k)) v' .returning wr c3 c4 c5
          ⟨by omega, hvn' _ (by omega) (by omega)⟩ ⟨by omega, hvn' _ (by omega) (by omega)⟩ ⟨by omega, hvn' _ (by omega) (by omega)⟩ ⟨by omega, hvl _ (by omega)⟩ ⟨by omega, hvl _ (by omega)⟩
          _ g0 g1 g3 (by rw [hw]; unfold ints; rw [List.getElem?_map, HWI.out]; rfl) (HX.out wr HBr.out) hi hO' hps)
        have HT9 := Lib.hid (T2.out.trans HT.out)
        clear h hSr g0 g1 g3 hw hO' hps hvn hvn' hvl c3 c4 c5 HO HT HBr
        go_wp2_with fail
        refine leaves_cons (f := 35) (args := #[.pointer (some ⟨w.heap.size, 0, none⟩), .pointer (some ⟨w.heap.size + 1, 0, none⟩), .pointer (some ⟨w.heap.size + 1 + 1, 0, none⟩)]) (by simp) (by simp [go_sem]) ?_
        refine HLA.out.mono ?_
        rintro e u' w'' ⟨rfl, rfl, v6, hO6, hT6⟩
        exact ⟨_, results_none rfl _ _ _, rfl, v6, by rw [← HQ.out, ← List.append_assoc]; exact hO6, HT9.out.trans hT6⟩
end Go.Proofs.Ytcagonpnjionhaa

/-! What goes, as numbers: each number once. -/
set_option linter.unusedVariables false
set_option linter.unusedSimpArgs false
namespace Go.Proofs.Ytcagonpnjionhaa
open Go.RowKit

theorem okE_of_check {L : List En} (h : checkE L = true) {i : Nat} {x : En} (hx : L[i]? = some x) : okE x = true := by
  have := ChkTo.of_check h i (List.getElem?_eq_some_iff.1 hx).1
  rw [stepOk_at hx] at this
  simp only [Bool.and_eq_true] at this
  exact this.1
theorem path_of_ok {x : En} (h : okE x = true) : x.path.size ≤ 200 ∧ x.path.data.toList ≠ [] := by
  unfold okE at h
  simp only [Bool.and_eq_true, Bool.not_eq_true'] at h
  obtain ⟨h1, h2, _⟩ := h
  refine ⟨?_, ?_⟩
  · have := rightB_len h1
    rwa [Array.length_toList] at this
  · unfold emptyS at h2
    intro e
    rw [e] at h2; cases h2
theorem path_of_check {L : List En} (h : checkE L = true) : ∀ x ∈ L, x.path.size ≤ 200 ∧ x.path.data.toList ≠ [] := fun x hx => by
  obtain ⟨i, hi⟩ := List.mem_iff_getElem?.1 hx
  exact path_of_ok (okE_of_check h hi)
theorem path_inj {L : List En} (h : checkE L = true) {a b : Nat} {x y : En} (ha : L[a]? = some x) (hb : L[b]? = some y) (he : x.path.data.toList = y.path.data.toList) : a = b := by
  have hc := ChkTo.of_check h
  rcases Nat.lt_trichotomy a b with c | c | c
  · have := chk_less hc (Nat.le_refl _) c (List.getElem?_eq_some_iff.1 hb).1 ha hb
    unfold lessS at this; rw [he, lessP_irr] at this; cases this
  · exact c
  · have := chk_less hc (Nat.le_refl _) c (List.getElem?_eq_some_iff.1 ha).1 hb ha
    unfold lessS at this; rw [he, lessP_irr] at this; cases this
def upN : Nat → List UInt8 → List UInt8
  | 0, p => p
  | n+1, p => upN n (parentB p)
theorem parentB_le (p : List UInt8) : (parentB p).length ≤ p.length := by unfold parentB; rw [List.length_take]; omega
theorem upN_le : ∀ (n : Nat) (p : List UInt8), (upN n p).length ≤ p.length
  | 0, _ => Nat.le_refl _
  | n+1, p => Nat.le_trans (upN_le n (parentB p)) (parentB_le p)
theorem upN_add : ∀ (a b : Nat) (p : List UInt8), upN (a + b) p = upN b (upN a p)
  | 0, b, p => by rw [Nat.zero_add]; rfl
  | a+1, b, p => by rw [show a + 1 + b = (a + b) + 1 by omega, upN, upN, upN_add a b]
/-- The numbers below one, and it at the end. -/
def belowI (D : List En) : Nat → Nat → List Nat
  | 0, _ => []
  | k+1, i => match D[i]? with
    | none => []
    | some x => (kdT D D.length x.path.data.toList).flatMap (belowI D k) ++ [i]
def goneI (D : List En) : List Nat := (kdT D D.length []).flatMap (belowI D 201)
def tellI (D : List En) (ws : List Int) (i : Nat) : List ByteArray := match D[i]? with
  | none => []
  | some x => if ws[i]? = some 0 then [x.path] else []
theorem belowU_I (D : List En) (ws : List Int) : ∀ (k i : Nat), belowU D ws k i = (belowI D k i).flatMap (tellI D ws)
  | 0, i => rfl
  | k+1, i => by
    rw [belowU, belowI]
    cases h : D[i]? with
    | none => rfl
    | some x =>
      show (kdT D D.length x.path.data.toList).flatMap (belowU D ws k) ++ (if ws[i]? = some 0 then [x.path] else []) = ((kdT D D.length x.path.data.toList).flatMap (belowI D k) ++ [i]).flatMap (tellI D ws)
      rw [List.flatMap_append, List.flatMap_assoc]
      congr 1
      · congr 1
        funext j
        exact belowU_I D ws k j
      · simp [tellI, h]
theorem goneU_I (S D : List En) (R : List Ru) : goneU S D R = (goneI D).flatMap (tellI D (whyU S D R)) := by
  unfold goneU goneI
  rw [List.flatMap_assoc]
  congr 1
  funext j
  exact belowU_I D _ 201 j
theorem kdT_mem {D : List En} {n j : Nat} {s : List UInt8} (h : j ∈ kdT D n s) : j < n ∧ ∃ y, D[j]? = some y ∧ parentB y.path.data.toList = s := by
  unfold kdT at h
  rw [List.mem_filter, List.mem_range] at h
  exact ⟨h.1, parAt_some (by simpa using h.2)⟩
theorem belowI_up {D : List En} : ∀ {k i m : Nat} {x : En}, D[i]? = some x → m ∈ belowI D k i → ∃ a y, D[m]? = some y ∧ upN a y.path.data.toList = x.path.data.toList
  | 0, i, m, x, _, h => by cases h
  | k+1, i, m, x, hx, h => by
    rw [belowI, hx] at h
    rcases List.mem_append.1 h with h | h
    · obtain ⟨j, hj, hm⟩ := List.mem_flatMap.1 h
      obtain ⟨_, y, hy, hp⟩ := kdT_mem hj
      obtain ⟨a, z, hz, ha⟩ := belowI_up hy hm
      exact ⟨a + 1, z, hz, by rw [upN_add, ha]; exact hp⟩
    · rw [List.mem_singleton] at h
      subst h
      exact ⟨0, x, hx, rfl⟩
theorem sib_apart {D : List En} (hc : checkE D = true) {i j m k : Nat} {s : List UInt8} (hi : i ∈ kdT D D.length s) (hj : j ∈ kdT D D.length s) (hne : i ≠ j) (h1 : m ∈ belowI D k i) (h2 : m ∈ belowI D k j) : False := by
  obtain ⟨_, x, hx, px⟩ := kdT_mem hi
  obtain ⟨_, y, hy, py⟩ := kdT_mem hj
  obtain ⟨a, z, hz, ha⟩ := belowI_up hx h1
  obtain ⟨b, z', hz', hb⟩ := belowI_up hy h2
  rw [hz] at hz'
  cases hz'
  have hxn := (path_of_check hc x (List.mem_of_getElem? hx)).2
  have hyn := (path_of_check hc y (List.mem_of_getElem? hy)).2
  have hlx := parentB_lt hxn
  have hly := parentB_lt hyn
  rw [px] at hlx
  rw [py] at hly
  rcases Nat.lt_trichotomy a b with c | c | c
  · obtain ⟨d, rfl⟩ : ∃ d, b = a + (d + 1) := ⟨b - a - 1, by omega⟩
    rw [upN_add, ha, upN, px] at hb
    have := upN_le d s
    rw [hb] at this; omega
  · subst c
    rw [ha] at hb
    exact hne (path_inj hc hx hy hb)
  · obtain ⟨d, rfl⟩ : ∃ d, a = b + (d + 1) := ⟨a - b - 1, by omega⟩
    rw [upN_add, hb, upN, py] at ha
    have := upN_le d s
    rw [ha] at this; omega
theorem nodup_flat {D : List En} (hc : checkE D = true) (k : Nat) (hk : ∀ i, i < D.length → (belowI D k i).Nodup) (s : List UInt8) : ((kdT D D.length s).flatMap (belowI D k)).Nodup := by
  have hn : (kdT D D.length s).Nodup := List.Nodup.sublist List.filter_sublist List.nodup_range
  unfold List.Nodup at *
  rw [List.pairwise_flatMap]
  refine ⟨fun i hi => hk i (kdT_mem hi).1, ?_⟩
  refine List.Pairwise.imp_of_mem ?_ hn
  intro i j hi hj hne x hx y hy e
  subst e
  exact sib_apart hc hi hj hne hx hy
theorem belowI_nodup {D : List En} (hc : checkE D = true) : ∀ (k i : Nat), (belowI D k i).Nodup
  | 0, i => List.nodup_nil
  | k+1, i => by
    rw [belowI]
    cases hx : D[i]? with
    | none => exact List.nodup_nil
    | some x =>
      show ((kdT D D.length x.path.data.toList).flatMap (belowI D k) ++ [i]).Nodup
      rw [List.nodup_append]
      refine ⟨nodup_flat hc k (fun j _ => belowI_nodup hc k j) _, by simp, ?_⟩
      intro m hm m' hm' e
      rw [List.mem_singleton] at hm'
      subst e hm'
      obtain ⟨j, hj, hmj⟩ := List.mem_flatMap.1 hm
      obtain ⟨_, y, hy, hp⟩ := kdT_mem hj
      obtain ⟨a, z, hz, ha⟩ := belowI_up hy hmj
      rw [hx] at hz
      cases hz
      have h1 := upN_le a x.path.data.toList
      have h2 := parentB_lt (path_of_check hc y (List.mem_of_getElem? hy)).2
      rw [ha] at h1
      rw [hp] at h2
      omega
theorem goneI_nodup {D : List En} (hc : checkE D = true) : (goneI D).Nodup := nodup_flat hc 201 (fun j _ => belowI_nodup hc 201 j) []
theorem goneI_lt {D : List En} {m : Nat} (h : m ∈ goneI D) : m < D.length := by
  obtain ⟨j, hj, hm⟩ := List.mem_flatMap.1 h
  obtain ⟨_, y, hy, _⟩ := kdT_mem hj
  obtain ⟨_, z, hz, _⟩ := belowI_up hy hm
  exact (List.getElem?_eq_some_iff.1 hz).1
theorem nodup_len : ∀ {l : List Nat} {n : Nat}, l.Nodup → (∀ m ∈ l, m < n) → l.length ≤ n := by
  intro l n
  induction n generalizing l with
  | zero =>
    intro h hl
    cases l with
    | nil => exact Nat.le_refl _
    | cons a l => exact absurd (hl a (List.mem_cons_self)) (Nat.not_lt_zero _)
  | succ n ih =>
    intro h hl
    have h1 := ih (h.erase n) (fun m hm => by
      obtain ⟨hne, hm⟩ := (List.Nodup.mem_erase_iff h).1 hm
      have := hl m hm
      omega)
    rw [List.length_erase] at h1
    split at h1 <;> omega
theorem tellI_len (D : List En) (ws : List Int) (i : Nat) : (tellI D ws i).length ≤ 1 := by
  unfold tellI
  split
  · exact Nat.zero_le _
  · split <;> simp
theorem flat_len {α : Type} (f : Nat → List α) (hf : ∀ i, (f i).length ≤ 1) : ∀ l : List Nat, (l.flatMap f).length ≤ l.length
  | [] => Nat.le_refl _
  | a :: l => by
    rw [List.flatMap_cons, List.length_append, List.length_cons]
    have := flat_len f hf l
    have := hf a
    omega
theorem goneU_len {S D : List En} {R : List Ru} (hc : checkE D = true) : (goneU S D R).length ≤ D.length := by
  rw [goneU_I]
  exact Nat.le_trans (flat_len _ (tellI_len D _) _) (nodup_len (goneI_nodup hc) (fun m hm => goneI_lt hm))
end Go.Proofs.Ytcagonpnjionhaa

/-! What goes, in order, and how much more would: the program's Which. -/
set_option linter.unusedVariables false
set_option linter.unusedSimpArgs false
namespace Go.Proofs.Ytcagonpnjionhaa
open Go.RowKit

def allU (S D : List En) (R : List Ru) (del : Int) : List ByteArray := if (checkE S && (checkE D && !(del == 0))) = true then goneU S D R else []
def whichU (S D : List En) (R : List Ru) (del most : Int) : List ByteArray × Int :=
  if 0 < most ∧ most < ((allU S D R del).length : Int) then ((allU S D R del).take most.toNat, ((allU S D R del).length : Int) - most) else (allU S D R del, 0)
/-- A slice of texts and a number, handed back. -/
def HandsW (X : List ByteArray × Int) (e : Ending) (w' : World) : Prop :=
  ∃ A n c, e = .returned (.tuple #[.slice A n c, .int .i64 X.2]) ∧ n ≤ c ∧ Sl 1 w' A n (strsA X.1)
theorem handsW_nil (w' : World) : HandsW ([], 0) (.returned (.tuple #[.slice none 0 0, .int .i64 0])) w' := ⟨none, 0, 0, rfl, Nat.le_refl _, Sl.nil _ _ _⟩
theorem Sl.strPre {w : World} {A : Option Addr} {n : Nat} {L : List ByteArray} (h : Sl 1 w A n (strsA L)) {i : Nat} (hi : i ≤ n) : Sl 1 w A i (strsA (L.take i)) := by
  have hl : L.length = n := by have := h.len; simpa [strsA] using this
  have hm := h.max
  refine ⟨by simp [strsA]; omega, by omega, ?_⟩
  rcases h.at_ with h0 | ⟨b, o, rfl, hc⟩
  · left
    have : L.length = 0 := by have := congrArg List.length h0; simpa [strsA] using this
    have : L = [] := List.eq_nil_of_length_eq_zero this
    subst this; simp [strsA]
  · right
    refine ⟨b, o, rfl, fun j v hj => hc j v ?_⟩
    unfold strsA at *
    rw [List.map_take, List.getElem?_take] at hj
    split at hj
    · exact hj
    · cases hj
set_option maxRecDepth 100000 in
set_option maxHeartbeats 8000000 in
theorem which_any (sA : Option Addr) (sn sc : Nat) (dA : Option Addr) (dn dc : Nat) (rA : Option Addr) (rn rc : Nat) (S D : List En) (R : List Ru) (del most : Int) (b0 b1 b2 b3 b4 b5 b6 b7 b8 b9 b10 b11 b12 b13 b14 b15 : Bool) (i0 i1 i2 : Int) (w : World)
    (hs : Sl 11 w sA sn (encEs S)) (hd : Sl 11 w dA dn (encEs D)) (hr : Sl 4 w rA rn (encUs R)) (hsp : ∀ x ∈ S, x.path.size ≤ 2097152) (hdp : ∀ x ∈ D, x.path.size ≤ 2097152) (hR : ∀ r ∈ R, r.pat.size ≤ 140737488355328) (hsn : sn ≤ 500) (hdn : dn ≤ 500) :
    Calls Try.prog 9 #[.slice sA sn sc, .slice dA dn dc, .slice rA rn rc, .agg #[.int .i64 del, .int .i64 most, .bool b0, .bool b1, .bool b2, .bool b3, .bool b4, .bool b5, .bool b6, .bool b7, .bool b8, .bool b9, .bool b10, .bool b11, .bool b12, .bool b13, .bool b14, .bool b15, .int .i64 i0, .int .i64 i1, .int .i64 i2]] w fun e w' => HandsW (whichU S D R del most) e w' ∧ Below w.heap.size w w' := by
  obtain ⟨X, hX⟩ : ∃ X, whichU S D R del most = X := ⟨_, rfl⟩
  have HX : Hid ((if 0 < most ∧ most < ((allU S D R del).length : Int) then ((allU S D R del).take most.toNat, ((allU S D R del).length : Int) - most) else (allU S D R del, 0)) = X) := Lib.hid hX
  rw [hX]
  clear hX
  have HALL := Lib.hid (show allU S D R del = if (checkE S && (checkE D && !(del == 0))) = true then goneU S D R else [] from rfl)
  have HNO : Hid ((checkE S && (checkE D && !(del == 0))) = false → X = ([], 0)) := Lib.hid (fun h => by
    have ha : allU S D R del = [] := by rw [HALL.out, h]; rfl
    rw [← HX.out, ha]
    exact if_neg (fun h => by simp at h; omega))
  have hmf : ∀ (fn : Fn) (first cap : Array Value) (w : World), (Instr.makeFunc fn first cap).run Try.prog w = .ok (.func fn first cap) w := fun _ _ _ _ => rfl
  have hb0 := (Below.refl w.heap.size w).alloc (Nat.le_refl _) (.cells #[.int .i64 del, .int .i64 most, .bool b0, .bool b1, .bool b2, .bool b3, .bool b4, .bool b5, .bool b6, .bool b7, .bool b8, .bool b9, .bool b10, .bool b11, .bool b12, .bool b13, .bool b14, .bool b15, .int .i64 i0, .int .i64 i1, .int .i64 i2] 25)
  have HLK := Lib.hid (look_any sA sn sc dA dn dc rA rn rc S D R _ (hs.below hb0) (hd.below hb0) (hr.below hb0) hsp hdp hR hsn hdn)
  have HN0 := Lib.hid (Blk.new w 25 [.int .i64 del, .int .i64 most, .bool b0, .bool b1, .bool b2, .bool b3, .bool b4, .bool b5, .bool b6, .bool b7, .bool b8, .bool b9, .bool b10, .bool b11, .bool b12, .bool b13, .bool b14, .bool b15, .int .i64 i0, .int .i64 i1, .int .i64 i2])
  have HB0 := Lib.hid hb0
  have HDL := Lib.hid hd.enLen
  have hwl : w.heap.size < (w.alloc (.cells #[.int .i64 del, .int .i64 most, .bool b0, .bool b1, .bool b2, .bool b3, .bool b4, .bool b5, .bool b6, .bool b7, .bool b8, .bool b9, .bool b10, .bool b11, .bool b12, .bool b13, .bool b14, .bool b15, .int .i64 i0, .int .i64 i1, .int .i64 i2] 25)).heap.size := by rw [World.size_alloc]; exact Nat.lt_succ_self _
  clear hs hd hr hsp hdp hR hsn hb0
  go_enter Try.func9, Try.ntmps9
  go_wp2_with fail
  refine HLK.out.mono ?_
  rintro e w2 ⟨hlo, hb2⟩
  have hw2 := Nat.lt_of_lt_of_le hwl hb2.size
  have N2 := Lib.hid (HN0.out.below hb2)
  have B2 := Lib.hid (HB0.out.trans (hb2.mono HB0.out.size))
  clear hb2 HLK HN0 HB0 hwl
  have HLO := Lib.hid hlo
  clear hlo
  cases hck : (checkE S && checkE D) with
  | false =>
    have K := Lib.hid (show X = ([], 0) from HNO.out (by rw [← Bool.and_assoc, hck]; rfl))
    have hlo := HLO.out
    unfold Looked at hlo
    rw [hck] at hlo
    obtain rfl : e = .returned (.pointer none) := hlo
    clear HLO hck
    go_wp2_with fail
    go_ret2
    exact ⟨by rw [K.out]; exact handsW_nil _, B2.out⟩
  | true =>
    have hlo := HLO.out
    unfold Looked at hlo
    rw [hck] at hlo
    obtain ⟨g, M, W, K, kb, rfl, hkb, hS⟩ := hlo
    have HS := Lib.hid hS
    clear HLO hS
    have c0 := N2.out.cell 0
    simp only [List.getElem?_cons_zero, List.getElem?_cons_succ] at c0
    by_cases hz : del = 0
    · have K' := Lib.hid (show X = ([], 0) from HNO.out (by rw [hz]; simp))
      have e1 : (del == 0) = true := by rw [hz]; rfl
      subst hz
      clear hck
      go_wp2_with fail
      go_ret2
      exact ⟨by rw [K'.out]; exact handsW_nil _, B2.out⟩
    have e1 : (del == 0) = false := by rw [beq_eq_false_iff_ne]; exact hz
    have hcd : checkE D = true := by rw [Bool.and_eq_true] at hck; exact hck.2
    have HG := Lib.hid (show allU S D R del = goneU S D R by rw [HALL.out, ← Bool.and_assoc, hck, e1]; rfl)
    have HLEN := Lib.hid (show (goneU S D R).length ≤ 500 from Nat.le_trans (goneU_len hcd) (by rw [HDL.out]; exact hdn))
    have HBL := Lib.hid (fun (i : Nat) (x : En) (w : World) (ps : List ByteArray) (v : Value) h1 h2 h3 h4 h5 => below_any HS.out (path_of_check hcd) (by unfold whyU; rw [whyL_len, HDL.out]) hdn 201 i x w ps v h1 h2 h3 h4 h5)
    have HGU := Lib.hid (show goneU S D R = (kdT D D.length []).flatMap (belowU D (whyU S D R) 201) from rfl)
    clear hz hck hcd
    generalize hws : whyU S D R = ws at *
    clear hws
    have hobn := ((Below.refl w2.heap.size w2).alloc (Nat.le_refl _) (.cells #[.slice none 0 0] 28))
    have O3 := Lib.hid (show OutAt (w2.alloc (.cells #[.slice none 0 0] 28)) w2.heap.size [] (.slice none 0 0) from ⟨Blk.new w2 28 [.slice none 0 0], rfl, .inl ⟨rfl, rfl⟩⟩)
    have hS3 := HS.out.below hobn
    have g0 := hS3.blk.cell 0
    have g4 := hS3.blk.cell 4
    simp only [List.getElem?_cons_zero, List.getElem?_cons_succ] at g0 g4
    obtain ⟨kA, kc, hlk, hks⟩ := HS.out.kids.look ⟨#[]⟩ (Nat.zero_le _) (by have := kdT_len D D.length []; have := HDL.out; exact Nat.le_trans (kdT_len D D.length _) (by omega))
    have hlk3 := hlk _ hobn
    have hke : (⟨#[]⟩ : ByteArray).data.toList = [] := rfl
    rw [hke] at hlk3 hks
    have HKS := Lib.hid hks
    have HKM := Lib.hid (fun t j (h : (kdT D D.length [])[t]? = some j) => kdT_at h)
    generalize hkq : kdT D D.length [] = ks at *
    clear hks hlk hke hS3 hkq
    have HBN := Lib.hid hobn
    have hgl := HS.out.blk.lt
    have hksl : ks.length ≤ 9223372036854775807 := HKS.out.max
    clear hobn
    go_wp2_with fail
    obtain ⟨w3, hw3⟩ : ∃ w3, w2.alloc (.cells #[.slice none 0 0] 28) = w3 := ⟨_, rfl⟩
    rw [hw3] at O3 HBN ⊢
    clear hw3 hlk3 g0 g4 c0
    go_loopw [31] (fun u wr => ∃ (t : Nat) (v' : Value), u = .int .i64 t ∧ t ≤ ks.length ∧ OutAt wr w2.heap.size ((ks.take t).flatMap (belowU D ws 201)) v' ∧ Told w2.heap.size (.slice none 0 0) w3 wr v') (fun u _ => ks.length - (intOf u).toNat)
    case atStart => exact ⟨0, _, rfl, Nat.zero_le _, O3.out, Told.refl _ _ _⟩
    case round =>
      clear O3
      obtain ⟨t, v', rfl, ht, hO, hT⟩ := hrel
      have HO := Lib.hid hO
      have HT := Lib.hid hT
      have HBr := Lib.hid (HBN.out.trans hT.low)
      clear hO hT
      rcases Nat.lt_or_ge t ks.length with h | h
      · obtain ⟨kb', ko, j, hA, hkj, hkc⟩ := Sl.natRow (HKS.out.belowB (Nat.le_refl _) HBr.out) h
        obtain ⟨_, hp⟩ := HKM.out t j hkj
        obtain ⟨y, hy, hpy⟩ := parAt_some hp
        have HFT := Lib.hid (flat_take (f := belowU D ws 201) hkj)
        have hlen : ((ks.take t).flatMap (belowU D ws 201)).length + (belowU D ws 201 j).length ≤ 1000000 := by
          have h1 := flat_le ks (belowU D ws 201) (t + 1)
          rw [HFT.out, ← HGU.out] at h1
          have h2 := HLEN.out
          rw [List.length_append] at h1
          omega
        have HC := Lib.hid (HBL.out j y wr _ v' hy (by omega) HBr.out HO.out hlen)
        have hti : (t : Int) < (ks.length : Int) := by omega
        subst hA
        clear hkj hy hp hpy hlen
        go_wp2_with fail
        refine HC.out.mono ?_
        rintro e w5 ⟨rfl, v5, hO5, hT5⟩
        have HO5 := Lib.hid (show OutAt w5 w2.heap.size ((ks.take (t + 1)).flatMap (belowU D ws 201)) v5 by rw [HFT.out]; exact hO5)
        have HT5 := Lib.hid (HT.out.trans hT5)
        clear hO5 hT5 HC HO HT HBr hkc
        go_wp2_with fail
        go_roundw
        case rel => exact ⟨t + 1, v5, by go_num, by omega, HO5.out, HT5.out⟩
        case measure => simp [intOf] <;> omega
      · obtain rfl : t = ks.length := by omega
        have hin : ¬ ((ks.length : Int) < (ks.length : Int)) := by omega
        have hO' : OutAt wr w2.heap.size (goneU S D R) v' := by have := HO.out; rw [List.take_length, ← HGU.out] at this; exact this
        have HX := Lib.hid (show (if 0 < most ∧ most < ((goneU S D R).length : Int) then ((goneU S D R).take most.toNat, ((goneU S D R).length : Int) - most) else (goneU S D R, 0)) = X by rw [← HX.out, HG.out])
        have hle := HLEN.out
        generalize goneU S D R = gs at *
        clear HALL HG HGU HO HT HKS HKM HBL HNO h HLEN
        have N9 := N2.out.below HBr.out
        have c0 := N9.cell 0
        have c1 := N9.cell 1
        simp only [List.getElem?_cons_zero, List.getElem?_cons_succ] at c0 c1
        obtain ⟨vA, vc, rfl, hvc, hvs⟩ := ownsRow_sl hO'.row (by omega)
        have o0 := hO'.blk.cell 0
        simp only [List.getElem?_cons_zero] at o0
        have HVS := Lib.hid hvs
        have B9 := Lib.hid (B2.out.trans (HBr.out.mono (Nat.le_trans (Nat.le_of_lt hw2) (Nat.le_refl _))))
        clear hvs hO' N9 HBr
        rcases Int.lt_or_le 0 most with hm | hm
        · obtain ⟨m, rfl⟩ : ∃ m : Nat, most = (m : Int) := ⟨most.toNat, by omega⟩
          have f1 : decide ((0 : Int) < (m : Int)) = true := decide_eq_true hm
          have f1n : 0 < m := by omega
          have f1d : decide (0 < m) = true := decide_eq_true f1n
          rcases Nat.lt_or_ge m gs.length with hg | hg
          · have K9 := Lib.hid (show X = (gs.take m, (gs.length : Int) - m) by rw [← HX.out]; exact (if_pos ⟨hm, by omega⟩).trans (by rw [Int.toNat_natCast]))
            have f2 : (m : Int) < (gs.length : Int) := by omega
            have f3 : decide ((m : Int) < (gs.length : Int)) = true := decide_eq_true f2
            have f4 : decide (m < gs.length) = true := decide_eq_true hg
            obtain ⟨b9, o9, hA9⟩ : ∃ b9 o9, vA = some ⟨b9, o9, none⟩ := by
              rcases HVS.out.at_ with h1 | ⟨b, o, h1, _⟩
              · have := congrArg List.length h1
                simp [strsA] at this
                subst this
                simp at hg
              · exact ⟨b, o, h1⟩
            subst hA9
            have hmc : (m : Int) ≤ (vc : Int) := by omega
            have hwr : IntKind.wrap .i64 ((gs.length : Int) - m) = (gs.length : Int) - m := by rw [IntKind.wrap_i64]; omega
            have HVP := Lib.hid (HVS.out.strPre (Nat.le_of_lt hg))
            clear hm hle HX hvc
            go_wp2_with fail
            go_quiet (fail)
            go_wp2_with fail
            go_ret2
            exact ⟨⟨_, m, m, by rw [K9.out]; first | rfl | simp, Nat.le_refl _, by rw [K9.out]; exact (HVP.out.below (below_drewN (Below.refl _ _) _))⟩, below_drewN B9.out _⟩
          · have K9 := Lib.hid (show X = (gs, 0) by rw [← HX.out]; exact if_neg (fun h => by omega))
            have f2 : ¬ (m : Int) < (gs.length : Int) := by omega
            have f3 : decide ((m : Int) < (gs.length : Int)) = false := decide_eq_false f2
            have f5 : ¬ m < gs.length := by omega
            have f4 : decide (m < gs.length) = false := decide_eq_false f5
            clear hm HX hg
            go_wp2_with fail
            go_ret2
            exact ⟨⟨_, _, _, by rw [K9.out]; rfl, hvc, by rw [K9.out]; exact HVS.out⟩, B9.out⟩
        · have K9 := Lib.hid (show X = (gs, 0) by rw [← HX.out]; exact if_neg (fun h => by omega))
          have f2 : ¬ (0 : Int) < most := by omega
          have f1 : decide ((0 : Int) < most) = false := decide_eq_false f2
          clear hm HX
          go_wp2_with fail
          go_ret2
          exact ⟨⟨_, _, _, by rw [K9.out]; rfl, hvc, by rw [K9.out]; exact HVS.out⟩, B9.out⟩
end Go.Proofs.Ytcagonpnjionhaa

/-! The chapter's examples, reckoned. -/
set_option linter.unusedVariables false
set_option linter.unusedSimpArgs false
namespace Go.Proofs.Ytcagonpnjionhaa
open Go.RowKit

def exA : En := ⟨⟨#[97]⟩, 1, 0, 0, 0, 0, 0, 0, ⟨#[]⟩, ⟨#[]⟩, 0⟩
def exD : En := ⟨⟨#[100]⟩, 2, 1, 0, 0, 0, 0, 0, ⟨#[]⟩, ⟨#[]⟩, 0⟩
def exX : En := ⟨⟨#[100, 47, 120]⟩, 1, 0, 0, 0, 0, 0, 0, ⟨#[]⟩, ⟨#[]⟩, 0⟩
def exR : Ru := ⟨3, ⟨#[120]⟩, false, false⟩
theorem exS_ok : checkE [exA] = true := by decide +kernel
theorem exD_ok : checkE [exA, exD, exX] = true := by decide +kernel
theorem ex_gone : goneU [exA] [exA, exD, exX] [] = [⟨#[100, 47, 120]⟩, ⟨#[100]⟩] := by decide +kernel
theorem ex_pat : patF [120] = some [⟨0, 120, false, noSet⟩] := by kernel_rfl
theorem ex_mG (c : UInt8) : mG [120] [c] = (c == 120) := by
  unfold mG
  rw [ex_pat]
  simp [matchF, tab, sgAt, starG, takesF]
theorem ex_ok : okU exR = true := by decide +kernel
theorem ex_mX : matchesU exR [100, 47, 120] false = true := by
  unfold matchesU
  rw [ex_ok, show wholeU exR = false from by decide +kernel, show exR.pat.data.toList = [120] from rfl, show baseB [100, 47, 120] = [120] from by decide +kernel, show rightB [100, 47, 120] = true from by decide +kernel, ex_mG]
  rfl
theorem ex_mD : matchesU exR [100] true = false := by
  unfold matchesU
  rw [ex_ok, show wholeU exR = false from by decide +kernel, show exR.pat.data.toList = [120] from rfl, show baseB [100] = [100] from by decide +kernel, show rightB [100] = true from by decide +kernel, ex_mG]
  rfl
theorem ex_fA : firstU [exA] [exR] exA = 1 := by decide +kernel
theorem ex_fD : firstU [exA] [exR] exD = 0 := by
  unfold firstU safeU
  rw [show thereU [exA] exD = false from by decide +kernel, show exD.path.data.toList = [100] from rfl, show (exD.kind == 2) = true from rfl, show hiddenU [exR] [100] true = false from by decide +kernel]
  rw [actU, ex_mD]
  rfl
theorem ex_fX : firstU [exA] [exR] exX = 3 := by
  unfold firstU safeU
  rw [show thereU [exA] exX = false from by decide +kernel, show exX.path.data.toList = [100, 47, 120] from rfl, show (exX.kind == 2) = false from rfl, show hiddenU [exR] [100, 47, 120] false = false from by decide +kernel]
  rw [actU, ex_mX]
  rfl
theorem ex_why : whyU [exA] [exA, exD, exX] [exR] = [1, 4, 3] := by
  unfold whyU
  simp only [whyL, stepW, ex_fA, ex_fD, ex_fX]
  decide +kernel
theorem ex_gone2 : goneU [exA] [exA, exD, exX] [exR] = [] := by
  unfold goneU
  rw [ex_why]
  decide +kernel
theorem ex_1 : whichU [exA] [exA, exD, exX] [] 3 0 = ([⟨#[100, 47, 120]⟩, ⟨#[100]⟩], 0) := by
  unfold whichU allU
  rw [exS_ok, exD_ok, ex_gone]; rfl
theorem ex_2 : whichU [exA] [exA, exD, exX] [] 3 1 = ([⟨#[100, 47, 120]⟩], 1) := by
  unfold whichU allU
  rw [exS_ok, exD_ok, ex_gone]; rfl
theorem ex_3 : whichU [exA] [exA, exD, exX] [exR] 1 0 = ([], 0) := by
  unfold whichU allU
  rw [exS_ok, exD_ok, ex_gone2]; rfl
end Go.Proofs.Ytcagonpnjionhaa

/-! The chapter's examples hold: awake. -/
set_option linter.unusedVariables false
set_option linter.unusedSimpArgs false
namespace Go.Proofs.Ytcagonpnjionhaa
open Go.RowKit

theorem strsRow {w : World} {A : Option Addr} {n : Nat} {L : List ByteArray} (h : Sl 1 w A n (strsA L)) : L.length = n := by have := h.len; simpa [strsA] using this
theorem strsAt {w : World} {A : Option Addr} {n : Nat} {L : List ByteArray} (h : Sl 1 w A n (strsA L)) (hn : L ≠ []) : ∃ b o, A = some ⟨b, o, none⟩ ∧ ∀ j s, L[j]? = some s → w.cell? ⟨b, o + j, none⟩ = some (.string s) := by
  rcases h.at_ with h0 | ⟨b, o, rfl, hc⟩
  · have : L.length = 0 := by have := congrArg List.length h0; simpa [strsA] using this
    exact absurd (List.eq_nil_of_length_eq_zero this) hn
  · exact ⟨b, o, rfl, fun j s hj => hc j _ (by unfold strsA; rw [List.getElem?_map, hj]; rfl)⟩
theorem ex_paths : ∀ x ∈ [exA, exD, exX], x.path.size ≤ 2097152 := by
  intro x hx
  simp only [List.mem_cons, List.not_mem_nil, or_false] at hx
  rcases hx with rfl | rfl | rfl <;> decide
theorem ex_pathA : ∀ x ∈ [exA], x.path.size ≤ 2097152 := fun x hx => ex_paths x (by simp only [List.mem_singleton] at hx; subst hx; simp)
set_option maxRecDepth 100000 in
set_option maxHeartbeats 4000000 in
theorem awake_any (w : World) : Calls Try.prog 8 #[] w fun e w' => e = .returned (.bool true) ∧ Below w.heap.size w w' := by
  go_enter Try.func8, Try.ntmps8
  go_wp2_with fail
  have nA := Blk.newA w 37 #[.string ⟨#[97]⟩, .int .i64 1, .int .i64 0, .int .i64 0, .int .i64 0, .int .i64 0, .int .i64 0, .int .i64 0, .string ⟨#[]⟩, .string ⟨#[]⟩, .int .i64 0]
  have bA := (Below.refl w.heap.size w).alloc (Nat.le_refl _) (.cells #[.string ⟨#[97]⟩, .int .i64 1, .int .i64 0, .int .i64 0, .int .i64 0, .int .i64 0, .int .i64 0, .int .i64 0, .string ⟨#[]⟩, .string ⟨#[]⟩, .int .i64 0] 37)
  have zA : (w.alloc (.cells #[.string ⟨#[97]⟩, .int .i64 1, .int .i64 0, .int .i64 0, .int .i64 0, .int .i64 0, .int .i64 0, .int .i64 0, .string ⟨#[]⟩, .string ⟨#[]⟩, .int .i64 0] 37)).heap.size = w.heap.size + 1 := World.size_alloc _ _
  obtain ⟨wA, hwA⟩ : ∃ wA, w.alloc (.cells #[.string ⟨#[97]⟩, .int .i64 1, .int .i64 0, .int .i64 0, .int .i64 0, .int .i64 0, .int .i64 0, .int .i64 0, .string ⟨#[]⟩, .string ⟨#[]⟩, .int .i64 0] 37) = wA := ⟨_, rfl⟩
  rw [hwA] at nA bA zA ⊢
  clear hwA
  have nD := Blk.newA wA 37 #[.string ⟨#[97]⟩, .int .i64 1, .int .i64 0, .int .i64 0, .int .i64 0, .int .i64 0, .int .i64 0, .int .i64 0, .string ⟨#[]⟩, .string ⟨#[]⟩, .int .i64 0, .string ⟨#[100]⟩, .int .i64 2, .int .i64 1, .int .i64 0, .int .i64 0, .int .i64 0, .int .i64 0, .int .i64 0, .string ⟨#[]⟩, .string ⟨#[]⟩, .int .i64 0, .string ⟨#[100, 47, 120]⟩, .int .i64 1, .int .i64 0, .int .i64 0, .int .i64 0, .int .i64 0, .int .i64 0, .int .i64 0, .string ⟨#[]⟩, .string ⟨#[]⟩, .int .i64 0]
  have bD := (Below.refl wA.heap.size wA).alloc (Nat.le_refl _) (.cells #[.string ⟨#[97]⟩, .int .i64 1, .int .i64 0, .int .i64 0, .int .i64 0, .int .i64 0, .int .i64 0, .int .i64 0, .string ⟨#[]⟩, .string ⟨#[]⟩, .int .i64 0, .string ⟨#[100]⟩, .int .i64 2, .int .i64 1, .int .i64 0, .int .i64 0, .int .i64 0, .int .i64 0, .int .i64 0, .string ⟨#[]⟩, .string ⟨#[]⟩, .int .i64 0, .string ⟨#[100, 47, 120]⟩, .int .i64 1, .int .i64 0, .int .i64 0, .int .i64 0, .int .i64 0, .int .i64 0, .int .i64 0, .string ⟨#[]⟩, .string ⟨#[]⟩, .int .i64 0] 37)
  have zD : (wA.alloc (.cells #[.string ⟨#[97]⟩, .int .i64 1, .int .i64 0, .int .i64 0, .int .i64 0, .int .i64 0, .int .i64 0, .int .i64 0, .string ⟨#[]⟩, .string ⟨#[]⟩, .int .i64 0, .string ⟨#[100]⟩, .int .i64 2, .int .i64 1, .int .i64 0, .int .i64 0, .int .i64 0, .int .i64 0, .int .i64 0, .string ⟨#[]⟩, .string ⟨#[]⟩, .int .i64 0, .string ⟨#[100, 47, 120]⟩, .int .i64 1, .int .i64 0, .int .i64 0, .int .i64 0, .int .i64 0, .int .i64 0, .int .i64 0, .string ⟨#[]⟩, .string ⟨#[]⟩, .int .i64 0] 37)).heap.size = wA.heap.size + 1 := World.size_alloc _ _
  obtain ⟨wD, hwD⟩ : ∃ wD, wA.alloc (.cells #[.string ⟨#[97]⟩, .int .i64 1, .int .i64 0, .int .i64 0, .int .i64 0, .int .i64 0, .int .i64 0, .int .i64 0, .string ⟨#[]⟩, .string ⟨#[]⟩, .int .i64 0, .string ⟨#[100]⟩, .int .i64 2, .int .i64 1, .int .i64 0, .int .i64 0, .int .i64 0, .int .i64 0, .int .i64 0, .string ⟨#[]⟩, .string ⟨#[]⟩, .int .i64 0, .string ⟨#[100, 47, 120]⟩, .int .i64 1, .int .i64 0, .int .i64 0, .int .i64 0, .int .i64 0, .int .i64 0, .int .i64 0, .string ⟨#[]⟩, .string ⟨#[]⟩, .int .i64 0] 37) = wD := ⟨_, rfl⟩
  rw [hwD] at nD bD zD ⊢
  clear hwD
  rw [zA] at nD zD
  have nS := Blk.newA wD 37 #[.string ⟨#[97]⟩, .int .i64 1, .int .i64 0, .int .i64 0, .int .i64 0, .int .i64 0, .int .i64 0, .int .i64 0, .string ⟨#[]⟩, .string ⟨#[]⟩, .int .i64 0]
  have bS := (Below.refl wD.heap.size wD).alloc (Nat.le_refl _) (.cells #[.string ⟨#[97]⟩, .int .i64 1, .int .i64 0, .int .i64 0, .int .i64 0, .int .i64 0, .int .i64 0, .int .i64 0, .string ⟨#[]⟩, .string ⟨#[]⟩, .int .i64 0] 37)
  obtain ⟨wS, hwS⟩ : ∃ wS, wD.alloc (.cells #[.string ⟨#[97]⟩, .int .i64 1, .int .i64 0, .int .i64 0, .int .i64 0, .int .i64 0, .int .i64 0, .int .i64 0, .string ⟨#[]⟩, .string ⟨#[]⟩, .int .i64 0] 37) = wS := ⟨_, rfl⟩
  rw [hwS] at nS bS ⊢
  clear hwS
  rw [zD] at nS
  have hB := Lib.hid (bA.trans ((bD.trans (bS.mono bD.size)).mono bA.size))
  have HA := Lib.hid ((nA.below bD).below bS)
  have HD := Lib.hid (((nD.below bS).sl (o := 0) (n := 3) (sz := 11) (ds := encEs [exA, exD, exX]) rfl rfl (by omega)))
  have HS := Lib.hid (nS.sl (o := 0) (n := 1) (sz := 11) (ds := encEs [exA]) rfl rfl (by omega))
  clear nA bA nD bD nS bS zA zD
  have HR := Lib.hid (Sl.nil 4 wS none)
  have h1 := which_any _ 1 1 _ 3 3 none 0 0 [exA] [exA, exD, exX] [] 3 0 false false false false false false false false false false false false false false false false 0 0 0 wS HS.out HD.out HR.out ex_pathA ex_paths (fun r h => by cases h) (by omega) (by omega)
  rw [ex_1] at h1
  refine h1.mono ?_
  rintro e w5 ⟨⟨A1, n1, c1, rfl, hn1, hs1⟩, hb5⟩
  clear h1
  obtain rfl : 2 = n1 := strsRow hs1
  obtain ⟨b1, o1, rfl, hc1⟩ := strsAt hs1 (by simp)
  have p0 := Lib.hid (show w5.cell? ⟨b1, o1, none⟩ = some (.string ⟨#[100, 47, 120]⟩) from hc1 0 _ rfl)
  have p1 := Lib.hid (show w5.cell? ⟨b1, o1 + 1, none⟩ = some (.string ⟨#[100]⟩) from hc1 1 _ rfl)
  clear hc1 hs1
  have HA := Lib.hid (HA.out.below hb5)
  have HD := Lib.hid (HD.out.below hb5)
  have hB := Lib.hid (hB.out.trans (hb5.mono hB.out.size))
  clear hb5 HS HR
  obtain ⟨c0, c1', c2, c3, c4, c5, c6, c7, c8, c9, c10⟩ := encE_cells (x := exA) HA.out
  dsimp only [exA] at c0 c1' c2 c3 c4 c5 c6 c7 c8 c9 c10
  go_wp2_with fail
  clear c0 c1' c2 c3 c4 c5 c6 c7 c8 c9 c10
  have nS := Blk.newA w5 37 #[.string ⟨#[97]⟩, .int .i64 1, .int .i64 0, .int .i64 0, .int .i64 0, .int .i64 0, .int .i64 0, .int .i64 0, .string ⟨#[]⟩, .string ⟨#[]⟩, .int .i64 0]
  have bS := (Below.refl w5.heap.size w5).alloc (Nat.le_refl _) (.cells #[.string ⟨#[97]⟩, .int .i64 1, .int .i64 0, .int .i64 0, .int .i64 0, .int .i64 0, .int .i64 0, .int .i64 0, .string ⟨#[]⟩, .string ⟨#[]⟩, .int .i64 0] 37)
  obtain ⟨wS2, hwS⟩ : ∃ wS, w5.alloc (.cells #[.string ⟨#[97]⟩, .int .i64 1, .int .i64 0, .int .i64 0, .int .i64 0, .int .i64 0, .int .i64 0, .int .i64 0, .string ⟨#[]⟩, .string ⟨#[]⟩, .int .i64 0] 37) = wS := ⟨_, rfl⟩
  rw [hwS] at nS bS ⊢
  clear hwS
  have HS := Lib.hid (nS.sl (o := 0) (n := 1) (sz := 11) (ds := encEs [exA]) rfl rfl (by omega))
  have HA := Lib.hid (HA.out.below bS)
  have HD := Lib.hid (HD.out.below bS)
  have hB := Lib.hid (hB.out.trans (bS.mono hB.out.size))
  have p0 := Lib.hid (cell_below p0.out bS)
  have p1 := Lib.hid (cell_below p1.out bS)
  clear nS bS
  have HR := Lib.hid (Sl.nil 4 wS2 none)
  have h1 := which_any _ 1 1 _ 3 3 none 0 0 [exA] [exA, exD, exX] [] 3 1 false false false false false false false false false false false false false false false false 0 0 0 wS2 HS.out HD.out HR.out ex_pathA ex_paths (fun r h => by cases h) (by omega) (by omega)
  rw [ex_2] at h1
  refine h1.mono ?_
  rintro e w6 ⟨⟨A2, n2, c2, rfl, hn2, hs2⟩, hb6⟩
  clear h1
  obtain rfl : 1 = n2 := strsRow hs2
  obtain ⟨b2, o2, rfl, hc2⟩ := strsAt hs2 (by simp)
  have q0 := Lib.hid (show w6.cell? ⟨b2, o2, none⟩ = some (.string ⟨#[100, 47, 120]⟩) from hc2 0 _ rfl)
  clear hc2 hs2
  have HA := Lib.hid (HA.out.below hb6)
  have HD := Lib.hid (HD.out.below hb6)
  have hB := Lib.hid (hB.out.trans (hb6.mono hB.out.size))
  have p0 := Lib.hid (cell_below p0.out hb6)
  have p1 := Lib.hid (cell_below p1.out hb6)
  clear hb6 HS HR
  obtain ⟨c0, c1', c2', c3, c4, c5, c6, c7, c8, c9, c10⟩ := encE_cells (x := exA) HA.out
  dsimp only [exA] at c0 c1' c2' c3 c4 c5 c6 c7 c8 c9 c10
  go_wp2_with fail
  clear c0 c1' c2' c3 c4 c5 c6 c7 c8 c9 c10
  have nS := Blk.newA w6 37 #[.string ⟨#[97]⟩, .int .i64 1, .int .i64 0, .int .i64 0, .int .i64 0, .int .i64 0, .int .i64 0, .int .i64 0, .string ⟨#[]⟩, .string ⟨#[]⟩, .int .i64 0]
  have bS := (Below.refl w6.heap.size w6).alloc (Nat.le_refl _) (.cells #[.string ⟨#[97]⟩, .int .i64 1, .int .i64 0, .int .i64 0, .int .i64 0, .int .i64 0, .int .i64 0, .int .i64 0, .string ⟨#[]⟩, .string ⟨#[]⟩, .int .i64 0] 37)
  have zS : (w6.alloc (.cells #[.string ⟨#[97]⟩, .int .i64 1, .int .i64 0, .int .i64 0, .int .i64 0, .int .i64 0, .int .i64 0, .int .i64 0, .string ⟨#[]⟩, .string ⟨#[]⟩, .int .i64 0] 37)).heap.size = w6.heap.size + 1 := World.size_alloc _ _
  obtain ⟨wS3, hwS⟩ : ∃ wS, w6.alloc (.cells #[.string ⟨#[97]⟩, .int .i64 1, .int .i64 0, .int .i64 0, .int .i64 0, .int .i64 0, .int .i64 0, .int .i64 0, .string ⟨#[]⟩, .string ⟨#[]⟩, .int .i64 0] 37) = wS := ⟨_, rfl⟩
  rw [hwS] at nS bS zS ⊢
  clear hwS
  have nR := Blk.newA wS3 48 #[.int .i64 3, .string ⟨#[120]⟩, .bool false, .bool false]
  have bR := (Below.refl wS3.heap.size wS3).alloc (Nat.le_refl _) (.cells #[.int .i64 3, .string ⟨#[120]⟩, .bool false, .bool false] 48)
  obtain ⟨wR, hwR⟩ : ∃ wR, wS3.alloc (.cells #[.int .i64 3, .string ⟨#[120]⟩, .bool false, .bool false] 48) = wR := ⟨_, rfl⟩
  rw [hwR] at nR bR ⊢
  clear hwR
  rw [zS] at nR
  have bSR := bS.trans (bR.mono bS.size)
  have HS := Lib.hid ((nS.below bR).sl (o := 0) (n := 1) (sz := 11) (ds := encEs [exA]) rfl rfl (by omega))
  have HR := Lib.hid (nR.sl (o := 0) (n := 1) (sz := 4) (ds := encUs [exR]) rfl rfl (by omega))
  have HD := Lib.hid (HD.out.below bSR)
  have hB := Lib.hid (hB.out.trans (bSR.mono hB.out.size))
  have p0 := Lib.hid (cell_below p0.out bSR)
  have p1 := Lib.hid (cell_below p1.out bSR)
  have q0 := Lib.hid (cell_below q0.out bSR)
  clear nS bS nR bR bSR zS HA
  have h1 := which_any _ 1 1 _ 3 3 _ 1 1 [exA] [exA, exD, exX] [exR] 1 0 false false false false false false false false false false false false false false false false 0 0 0 wR HS.out HD.out HR.out ex_pathA ex_paths (fun r h => by simp only [List.mem_singleton] at h; subst h; decide) (by omega) (by omega)
  rw [ex_3] at h1
  refine h1.mono ?_
  rintro e w7 ⟨⟨A3, n3, c3, rfl, hn3, hs3⟩, hb7⟩
  clear h1
  obtain rfl : 0 = n3 := strsRow hs3
  clear hs3
  have hB := Lib.hid (hB.out.trans (hb7.mono hB.out.size))
  have r0 := cell_below p0.out hb7
  have r1 := cell_below p1.out hb7
  have s0 := cell_below q0.out hb7
  clear hb7 HS HR HD p0 p1 q0
  go_wp2_with fail
  go_ret
  exact ⟨rfl, hB.out⟩
end Go.Proofs.Ytcagonpnjionhaa

/-! Are lists few and light; are two lists of texts the same. -/
set_option linter.unusedVariables false
set_option linter.unusedSimpArgs false
namespace Go.Proofs.Ytcagonpnjionhaa
open Go.RowKit

def lightU (S D : List En) (rn : Nat) : Bool := smallE S && (smallE D && decide (rn ≤ 80))
set_option maxRecDepth 100000 in
set_option maxHeartbeats 1000000 in
theorem light_any (sA : Option Addr) (sn sc : Nat) (dA : Option Addr) (dn dc : Nat) (rA : Option Addr) (rn rc : Nat) (S D : List En) (w : World) (hs : Sl 11 w sA sn (encEs S)) (hd : Sl 11 w dA dn (encEs D)) :
    Calls Try.prog 7 #[.slice sA sn sc, .slice dA dn dc, .slice rA rn rc] w fun e w' => e = .returned (.bool (lightU S D rn)) ∧ Below w.heap.size w w' := by
  obtain ⟨X, hX⟩ : ∃ X, lightU S D rn = X := ⟨_, rfl⟩
  have HX : Hid ((smallE S && (smallE D && decide (rn ≤ 80))) = X) := Lib.hid hX
  rw [hX]
  clear hX
  have H1 := Lib.hid (small_any sA sn sc S w hs)
  have H2 := Lib.hid (fun w' (h : Below w.heap.size w w') => small_any dA dn dc D w' (hd.below h))
  generalize smallE S = b1 at *
  generalize smallE D = b2 at *
  clear hs hd
  go_enter Try.func7, Try.ntmps7
  go_wp2_with fail
  refine H1.out.mono ?_
  rintro e w1 ⟨rfl, hb1⟩
  have B1 := Lib.hid hb1
  clear hb1 H1
  cases b1 with
  | false =>
    have K := Lib.hid (show X = false by rw [← HX.out]; rfl)
    go_wp2_with fail
    go_ret
    exact ⟨by rw [K.out]; rfl, B1.out⟩
  | true =>
  go_wp2_with fail
  refine (H2.out w1 B1.out).mono ?_
  rintro e w2 ⟨rfl, hb2⟩
  have B2 := Lib.hid (B1.out.trans (hb2.mono B1.out.size))
  clear hb2 H2 B1
  cases b2 with
  | false =>
    have K := Lib.hid (show X = false by rw [← HX.out]; rfl)
    go_wp2_with fail
    go_ret
    exact ⟨by rw [K.out]; rfl, B2.out⟩
  | true =>
  rcases Nat.lt_or_ge 80 rn with q | q
  · have q1 : ¬ (rn : Int) ≤ 80 := by omega
    have q2 : decide ((rn : Int) ≤ 80) = false := decide_eq_false q1
    have K := Lib.hid (show X = false by rw [← HX.out, decide_eq_false (by omega)]; rfl)
    clear q
    go_wp2_with fail
    go_ret
    exact ⟨by rw [K.out]; rfl, B2.out⟩
  have q1 : (rn : Int) ≤ 80 := by omega
  have q2 : decide ((rn : Int) ≤ 80) = true := decide_eq_true q1
  have K := Lib.hid (show X = true by rw [← HX.out, decide_eq_true q]; rfl)
  clear q
  go_wp2_with fail
  go_ret
  exact ⟨by rw [K.out]; rfl, B2.out⟩
theorem Sl.txRow {w : World} {A : Option Addr} {n : Nat} {L : List ByteArray} (h : Sl 1 w A n (strsA L)) {i : Nat} (hi : i < n) : ∃ (b o : Nat) (x : ByteArray), A = some ⟨b, o, none⟩ ∧ L[i]? = some x ∧ w.cell? ⟨b, o + i, none⟩ = some (.string x) := by
  have hl := strsRow h
  have hx : L[i]? = some (L[i]'(by omega)) := List.getElem?_eq_getElem (by omega)
  obtain ⟨b, o, hA, hc⟩ := strsAt h (by intro e; subst e; simp at hl; omega)
  exact ⟨b, o, _, hA, hx, hc i _ hx⟩
theorem take_snocA {L M : List ByteArray} {i : Nat} {x : ByteArray} (h : L[i]? = some x) (h' : M[i]? = some x) (ht : L.take i = M.take i) : L.take (i + 1) = M.take (i + 1) := by
  obtain ⟨hi, he⟩ := List.getElem?_eq_some_iff.1 h
  obtain ⟨hi', he'⟩ := List.getElem?_eq_some_iff.1 h'
  rw [List.take_succ_eq_append_getElem hi, List.take_succ_eq_append_getElem hi', ht, he, he']
set_option maxRecDepth 100000 in
set_option maxHeartbeats 2000000 in
theorem texts_any (A B : Option Addr) (n c m d : Nat) (X Y : List ByteArray) (w : World) (hA : Sl 1 w A n (strsA X)) (hB : Sl 1 w B m (strsA Y)) :
    Calls Try.prog 11 #[.slice A n c, .slice B m d] w fun e w' => e = .returned (.bool (decide (X = Y))) ∧ Below w.heap.size w w' := by
  have hnl := strsRow hA
  have hml := strsRow hB
  have HX := Lib.hid hnl
  have HY := Lib.hid hml
  have HA := Lib.hid hA
  have HB := Lib.hid hB
  have hnm := hA.max
  clear hA hB
  go_enter Try.func11, Try.ntmps11
  by_cases hq : n = m
  · subst hq
    clear hnl hml
    go_wp2_with fail
    go_loopw [13] (fun v wr => ∃ i : Nat, v = .int .i64 i ∧ i ≤ n ∧ X.take i = Y.take i ∧ Below w.heap.size w wr) (fun v _ => n - (intOf v).toNat)
    case atStart => exact ⟨0, rfl, Nat.zero_le _, rfl, Below.refl _ _⟩
    case round =>
      obtain ⟨i, rfl, hi, ht, hb⟩ := hrel
      have HT := Lib.hid ht
      have HBw := Lib.hid hb
      clear ht
      rcases Nat.lt_or_ge i n with h | h
      · obtain ⟨b1, o1, x, hA1, hr1, k1⟩ := (HA.out.below hb).txRow h
        obtain ⟨b2, o2, y, hA2, hr2, k2⟩ := (HB.out.below hb).txRow h
        subst hA1 hA2
        have HR1 := Lib.hid hr1
        have HR2 := Lib.hid hr2
        have hi2 : (i : Int) < (n : Int) := by omega
        clear hr1 hr2 hb
        by_cases hxy : x = y
        · have e1 : (x.toList == y.toList) = true := by rw [hxy]; simp
          have HT2 := Lib.hid (take_snocA HR1.out (by rw [hxy]; exact HR2.out) HT.out)
          subst hxy
          go_wp2_with fail
          go_quiet (fail)
          have HB2 := Lib.hid (below_drewN HBw.out nq)
          go_wp2_with fail
          go_roundw
          case rel => exact ⟨i+1, by go_num, by omega, HT2.out, HB2.out⟩
          case measure => simp [intOf] <;> omega
        · have e1 := ne_toList hxy
          have HNE := Lib.hid (show X ≠ Y from fun e => hxy (by have h1 := HR1.out; have h2 := HR2.out; rw [e, h2] at h1; exact (Option.some.inj h1).symm))
          clear hxy
          go_wp2_with fail
          go_quiet (fail)
          have HB2 := Lib.hid (below_drewN HBw.out nq)
          go_wp2_with fail
          go_ret
          exact ⟨by rw [decide_eq_false HNE.out]; rfl, HB2.out⟩
      · obtain rfl : i = n := by omega
        have hin : ¬ ((i : Int) < (i : Int)) := by omega
        clear h hi hb
        have h3 := HT.out
        rw [List.take_of_length_le (by rw [HX.out]; exact Nat.le_refl _), List.take_of_length_le (by rw [HY.out]; exact Nat.le_refl _)] at h3
        have H3 := Lib.hid h3
        clear h3
        go_wp2_with fail
        go_ret
        exact ⟨by rw [decide_eq_true H3.out]; rfl, HBw.out⟩
  · have HNE := Lib.hid (show X ≠ Y from fun e => hq (by rw [← HX.out, ← HY.out, e]))
    have hne : ((n : Int) != m) = true := by simp; omega
    clear hq
    go_wp2_with fail
    go_ret
    exact ⟨by rw [decide_eq_false HNE.out]; rfl, Below.refl _ _⟩
end Go.Proofs.Ytcagonpnjionhaa
