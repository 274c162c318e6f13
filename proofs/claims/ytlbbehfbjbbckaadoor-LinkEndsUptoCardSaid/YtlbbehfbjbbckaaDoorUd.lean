import Derived.Test.YtlbbehfbjbbckaaDoorUc
import Derived.Test.YtlbbehfbjbbckaaDoorUa
import Derived.Sort.KeysCollected
import Derived.Test.YtlbbehfbjbbckaaDoorUb
/-! A new thing is put into a directory: the program's put. -/
set_option linter.unusedVariables false
set_option linter.unusedSimpArgs false
namespace Go.Proofs.YtlbbehfbjbbckaaDoor
open Go.RowKit

theorem NewAt.moved {w w' : World} {n c : Nat} {x x' : Nd} {N : Nat → Option Nd} (h : NewAt w n c x N) (hb : Blk w' n 68 (encN x')) (e1 : x'.dA = x.dA) (e2 : x'.dn = x.dn) (e3 : x'.data = x.data) (e4 : x'.kb = x.kb) (e5 : x'.kids = x.kids) (e6 : x'.kind = x.kind) (e7 : x'.dc = x.dc)
    (hh : ∀ k, k < w.heap.size → (∀ cs, ¬ Blk w k 68 cs) → (∀ cs, ¬ Blk w k 65 cs) → w'.heap[k]? = w.heap[k]?) : NewAt w' n c x' N := by
  have hd : ∀ {a : Addr} {cs : Array Value}, w.heap[a.block]? = some (.cells cs 5 (0, 0)) → w'.heap[a.block]? = w.heap[a.block]? := fun {a cs} hc => hh _ (Array.getElem?_eq_some_iff.1 hc).1 (fun ds hB => by
    have e := Eq.trans (Eq.symm hc) hB
    simp only [Option.some.injEq, Obj.cells.injEq] at e
    exact absurd e.2.1 (by decide)) (fun ds hB => by
    have e := Eq.trans (Eq.symm hc) hB
    simp only [Option.some.injEq, Obj.cells.injEq] at e
    exact absurd e.2.1 (by decide))
  refine ⟨hb, ⟨?_, fun a ha => ?_⟩, fun s => by rw [e5]; exact h.kids s, fun b hb' => ?_, fun hk => by rw [e4]; exact h.dir (by rw [← e6]; exact hk), by rw [e2, e7]; exact h.room, h.not⟩
  · rw [e1, e2, e3]; exact h.data.1.heap1 (fun a ha => by obtain ⟨cs, hc⟩ := h.data.2 a ha; exact hd hc)
  · obtain ⟨cs, hc⟩ := h.data.2 a (by rw [← e1]; exact ha)
    exact ⟨cs, (hd hc).trans hc⟩
  · obtain ⟨hM, hne⟩ := h.map b (by rw [← e4]; exact hb')
    exact ⟨hM.heap (hh b hM.lt (fun cs hB => (hM.ne hB) rfl) (fun cs hB => (hM.ne hB) rfl)), hne⟩
theorem ptrO_some (i : Nat) : ptrO (some i) = ptrN i := rfl
set_option maxRecDepth 100000 in
set_option maxHeartbeats 4000000 in
theorem put_any (t top c d n b : Nat) (next : Int) (N : Nat → Option Nd) (m x : Nd) (p : ByteArray) (w : World) (h : TreeAt w t top next c N) (hx : NewAt w n c x N) (hd : N d = some m) (hkb : m.kb = some b)
    (hp : p.size ≤ 2097152) (hn0 : 0 ≤ next) (hn1 : next ≤ 1099511627776) (hc : c ≤ 1099511627776) :
    Calls Tryd.prog 38 #[.pointer (some ⟨t, 0, none⟩), ptrN d, .string p, ptrN n] w fun e w' => e = .returned (.tuple #[]) ∧ TreeAt w' t top (next + 1) (c + 1) (addN N d n { x with ino := next, links := 1 } (baseB p.data.toList)) ∧ Only (fun k => k = t ∨ k = n ∨ k = b) w w' := by
  have hdn : d ≠ n := fun e => by rw [e, hx.not] at hd; cases hd
  have htn : t ≠ n := h.tree.ne hx.blk (by decide)
  have htd : t ≠ d := h.tree.ne (h.node d m hd) (by decide)
  have w1b := hx.blk.set 1 (.int .i64 next)
  have w2b := w1b.set 3 (.int .i64 1)
  have w3b : Blk (((w.setCell ⟨n, 1, none⟩ (.int .i64 next)).setCell ⟨n, 3, none⟩ (.int .i64 1)).setCell ⟨t, 1, none⟩ (.int .i64 (next + 1))) n 68 (encN { x with ino := next, links := 1 }) := w2b.other (a := ⟨t, 1, none⟩) (fun e => htn e.symm) _
  have t3b : Blk (((w.setCell ⟨n, 1, none⟩ (.int .i64 next)).setCell ⟨n, 3, none⟩ (.int .i64 1)).setCell ⟨t, 1, none⟩ (.int .i64 (next + 1))) t 65 [ptrN top, .int .i64 (next + 1)] := ((h.tree.other (a := ⟨n, 1, none⟩) htn _).other (a := ⟨n, 3, none⟩) htn _).set 1 _
  have hO : Only (fun k => k = t ∨ k = n ∨ k = b) w (((w.setCell ⟨n, 1, none⟩ (.int .i64 next)).setCell ⟨n, 3, none⟩ (.int .i64 1)).setCell ⟨t, 1, none⟩ (.int .i64 (next + 1))) := ((Only.set w ⟨n, 1, none⟩ _ (.inr (.inl rfl))).trans (Only.set _ ⟨n, 3, none⟩ _ (.inr (.inl rfl)))).trans (Only.set _ ⟨t, 1, none⟩ _ (.inl rfl))
  have hsame : ∀ k, k ≠ n → k ≠ t → (((w.setCell ⟨n, 1, none⟩ (.int .i64 next)).setCell ⟨n, 3, none⟩ (.int .i64 1)).setCell ⟨t, 1, none⟩ (.int .i64 (next + 1))).heap[k]? = w.heap[k]? := fun k h1 h2 => by
    rw [Below.heap_setCell _ _ _ _ h2, Below.heap_setCell _ _ _ _ h1, Below.heap_setCell _ _ _ _ h1]
  have T3 := Lib.hid (h.heap t3b (fun k hk => hsame k (fun e => h.free hx.blk (by decide) hx.not (e ▸ hk)) (fun e => h.tree_free (e ▸ hk))))
  have X3 := Lib.hid (hx.moved (x' := { x with ino := next, links := 1 }) w3b rfl rfl rfl rfl rfl rfl rfl (fun k _ h1 h2 => hsame k (fun e => h1 _ (e ▸ hx.blk)) (fun e => h2 _ (e ▸ h.tree))))
  have HO := Lib.hid hO
  have f1 := hx.blk.frozen 1
  have c1 := hx.blk.cell 1
  have f3 := w1b.frozen 3
  have c3 := w1b.cell 3
  have t1 := h.tree.cell 1
  have tw1 := (h.tree.other (a := ⟨n, 1, none⟩) htn (.int .i64 next)).other (a := ⟨n, 3, none⟩) htn (.int .i64 1)
  have t3 := tw1.cell 1
  have tf3 := tw1.frozen 1
  simp only [encN, List.getElem?_cons_zero, List.getElem?_cons_succ, List.set_cons_zero, List.set_cons_succ] at c1 c3 t1 t3
  clear h hx w1b w2b w3b t3b hO hsame tw1
  unfold ptrN
  have hov : IntKind.i64.wrap (next + 1) = next + 1 := by rw [IntKind.wrap_i64]; omega
  go_enter Tryd.func38, Tryd.ntmps38
  go_wp2_with fail
  clear f1 c1 f3 c3 t1 t3 tf3 hov
  generalize ((w.setCell ⟨n, 1, none⟩ (.int .i64 next)).setCell ⟨n, 3, none⟩ (.int .i64 1)).setCell ⟨t, 1, none⟩ (.int .i64 (next + 1)) = w3 at *
  obtain ⟨_, _, _, _, _, _, _, _, _, _, _, n11⟩ := node_cells (T3.out.node d m hd)
  rw [hkb] at n11
  have hM := T3.out.kids d m b hd hkb
  have hbs : (str (baseB p.data.toList)).size ≤ maxLen := by
    rw [size_toList]
    have := baseB_len p.data.toList
    have h2 : p.data.toList.length = p.size := Array.length_toList
    unfold maxLen; omega
  obtain ⟨w4, hput, hm4, hg4⟩ := (hM.drewN 1).put Tryd.underlying66 (by unfold maxLen; omega) hbs (.pointer (some ⟨n, 0, none⟩))
  have hst : (str (baseB p.data.toList)).data.toList = baseB p.data.toList := by simp [str]
  rw [hst] at hm4
  have hg4' : w3.grownBy w4 (some b) := ⟨hg4.os, hg4.tape, hg4.output, hg4.size, hg4.block⟩
  have T4 := Lib.hid (T3.out.put X3.out hd hkb hm4 hg4')
  have O4 := Lib.hid (HO.out.trans (Only.grown hg4' (.inr (.inr rfl))))
  have hput : (Instr.mapUpdate 66 (.map (some b)) (.string (str (baseB p.data.toList))) (.pointer (some ⟨n, 0, none⟩))).run Tryd.prog w3.drew = .ok () w4 := hput
  have hgd : w3.drew.grownBy w4 (some b) := hg4
  have n11d : w3.drew.cell? ⟨d, 11, none⟩ = some (.map (some b)) := n11
  have hdb : some d ≠ some b := fun e => hM.ne (T3.out.node d m hd) (by cases e; rfl)
  clear hM hbs hm4 hg4 hg4' hst T3 X3 HO hd hkb hn0 hn1 hc n11
  refine wp_region_held_drew (S := (fun w' => w3.drew.grownBy w' (some b))) (by kernel_rfl) (World.grownBy.refl _ _) (fun hHeld => ?_)
  refine wpAnyH_take (i := 0) (oi := ?oi1) (v := ?v1) ?hi1 ?hs1 ?hf1 ?hr1 ?hQ1 (Or.inl ⟨?hg1, ?hy1⟩) hHeld ?rest1
  case hi1 => simp only [List.getElem?_toArray, List.getElem?_cons_succ, List.getElem?_cons_zero]; rfl
  case hs1 => kernel_rfl
  case hf1 => kernel_rfl
  case hr1 => kernel_rfl
  case hg1 => rfl
  case hy1 => (intro w hSw; first | (go_simp; done) | (go_simp; with_reducible rfl))
  case hQ1 => exact fun _ _ _ h => h
  try simp only [Act.put, List.setIfInBounds_toArray, List.set_cons_zero, List.set_cons_succ]
  refine wpAnyH_take (i := 1) (oi := ?oi2) (v := ?v2) ?hi2 ?hs2 ?hf2 ?hr2 ?hQ2 (Or.inl ⟨?hg2, ?hy2⟩) hHeld ?rest2
  case hi2 => simp only [List.getElem?_toArray, List.getElem?_cons_succ, List.getElem?_cons_zero]; rfl
  case hs2 => kernel_rfl
  case hf2 => kernel_rfl
  case hr2 => kernel_rfl
  case hg2 => rfl
  case hy2 => (intro w hSw; first | (go_simp; done) | (go_simp; with_reducible rfl))
  case hQ2 => exact fun _ _ _ h => h
  try simp only [Act.put, List.setIfInBounds_toArray, List.set_cons_zero, List.set_cons_succ]
  refine wpAnyH_take (i := 2) (oi := ?oi3) (v := ?v3) ?hi3 ?hs3 ?hf3 ?hr3 ?hQ3 (Or.inl ⟨?hg3, ?hy3⟩) hHeld ?rest3
  case hi3 => simp only [List.getElem?_toArray, List.getElem?_cons_succ, List.getElem?_cons_zero]; rfl
  case hs3 => kernel_rfl
  case hf3 => kernel_rfl
  case hr3 => kernel_rfl
  case hg3 => rfl
  case hy3 => (intro w hSw; first | (go_simp; done) | (go_simp; with_reducible rfl))
  case hQ3 => exact fun _ _ _ h => h
  try simp only [Act.put, List.setIfInBounds_toArray, List.set_cons_zero, List.set_cons_succ]
  refine wpAnyH_take (i := 3) (oi := ?oi4) (v := ?v4) ?hi4 ?hs4 ?hf4 ?hr4 ?hQ4 (Or.inl ⟨?hg4, ?hy4⟩) hHeld ?rest4
  case hi4 => simp only [List.getElem?_toArray, List.getElem?_cons_succ, List.getElem?_cons_zero]; rfl
  case hs4 => kernel_rfl
  case hf4 => kernel_rfl
  case hr4 => kernel_rfl
  case hg4 => rfl
  case hy4 => (intro w hSw; have x0 := World.grownBy.cell hSw n11d hdb; first | (go_simp; done) | (go_simp; with_reducible rfl))
  case hQ4 => exact fun _ _ _ h => h
  try simp only [Act.put, List.setIfInBounds_toArray, List.set_cons_zero, List.set_cons_succ]
  refine wpAnyH_take (i := 4) (oi := ?oi5) (v := ?v5) ?hi5 ?hs5 ?hf5 ?hr5 ?hQ5 (Or.inl ⟨?hg5, ?hy5⟩) hHeld ?rest5
  case hi5 => simp only [List.getElem?_toArray, List.getElem?_cons_succ, List.getElem?_cons_zero]; rfl
  case hs5 => kernel_rfl
  case hf5 => kernel_rfl
  case hr5 => kernel_rfl
  case hg5 => rfl
  case hy5 => (intro w hSw; first | (go_simp; done) | (go_simp; with_reducible rfl))
  case hQ5 => exact fun _ _ _ h => h
  try simp only [Act.put, List.setIfInBounds_toArray, List.set_cons_zero, List.set_cons_succ]
  refine wpAnyH_take (i := 6) (oi := ?oi6) (v := ?v6) ?hi6 ?hs6 ?hf6 ?hr6 ?hQ6 (Or.inl ⟨?hg6, ?hy6⟩) hHeld ?rest6
  case hi6 => simp only [List.getElem?_toArray, List.getElem?_cons_succ, List.getElem?_cons_zero]; rfl
  case hs6 => kernel_rfl
  case hf6 => kernel_rfl
  case hr6 => kernel_rfl
  case hg6 => rfl
  case hy6 => (intro w hSw; first | (go_simp; done) | (go_simp; with_reducible rfl))
  case hQ6 => exact fun _ _ _ h => h
  try simp only [Act.put, List.setIfInBounds_toArray, List.set_cons_zero, List.set_cons_succ]
  refine wpAnyH_ready (rs := [5]) (by kernel_rfl) (by simp) ?_
  refine AllReadyH.cons (o := ?oi7) ?hi7 (fun K hK => ?_) AllReadyH.nil
  case hi7 => simp only [List.getElem?_toArray, List.getElem?_cons_succ, List.getElem?_cons_zero]; rfl
  go_simp; go_at_call 55; refine (base_any p _ (by omega)).mono ?_; rintro e w5 ⟨rfl, rfl⟩; go_wp2_with fail
  refine hK.out _ _ ((World.grownBy.refl _ _)) (fun hHeld2 => ?_)
  clear hK K hHeld
  have hHeld := hHeld2
  clear hHeld2
  try simp only [Act.put, List.setIfInBounds_toArray, List.set_cons_zero, List.set_cons_succ]
  refine wpAnyH_ready (rs := [7]) (by kernel_rfl) (by simp) ?_
  refine AllReadyH.cons (o := ?oi8) ?hi8 (fun K hK => ?_) AllReadyH.nil
  case hi8 => simp only [List.getElem?_toArray, List.getElem?_cons_succ, List.getElem?_cons_zero]; rfl
  refine step_mapUpdate rfl 66 (.tmp 30) (.tmp 32) (.tmp 33) rfl rfl rfl rfl hput ?_
  refine hK.out _ _ (hgd) (fun hHeld2 => ?_)
  clear hK K hHeld
  have hHeld := hHeld2
  clear hHeld2
  try simp only [Act.put, List.setIfInBounds_toArray, List.set_cons_zero, List.set_cons_succ]
  refine wpAnyH_done (by kernel_rfl) ?_ _
  clear hHeld hgd hput n11d
  go_wp2_with fail
  go_end0
  exact ⟨rfl, T4.out, O4.out⟩
end Go.Proofs.YtlbbehfbjbbckaaDoor

/-! A tree is made; a directory, a symbolic link is put into it: the program's New, Mkdir, Symlink. -/
set_option linter.unusedVariables false
set_option linter.unusedSimpArgs false
namespace Go.Proofs.YtlbbehfbjbbckaaDoor
open Go.RowKit

/-- What a thing is, but its size, its links and what stands in it. -/
structure Inf where
  kind : Int
  ino : Int
  mt : Mt
  target : ByteArray
  data : List UInt8
def infN (n : Nd) : Inf := ⟨n.kind, n.ino, ⟨n.m0, n.m1, n.m2, n.m3, n.m4⟩, n.target, n.data⟩
def ownT (t : Nat) (N : Nat → Option Nd) (k : Nat) : Prop := k = t ∨ (∃ n, N k = some n) ∨ ∃ i n, N i = some n ∧ n.kb = some k
/-- A new thing of a tree, made since a world. -/
structure Made (w : World) (N : Nat → Option Nd) (y : Inf) (n : Nat) (x : Nd) : Prop where
  not : N n = none
  low : w.heap.size ≤ n
  map : ∀ b, x.kb = some b → w.heap.size ≤ b
  kids : ∀ s, x.kids s = none
  inf : infN x = y
  links : x.links = 1
  data : ∀ a, x.dA = some a → w.heap.size ≤ a.block
theorem TreeAt.node_lt {w : World} {t top c : Nat} {next : Int} {N : Nat → Option Nd} (h : TreeAt w t top next c N) {i : Nat} {n : Nd} (hi : N i = some n) : i < w.heap.size := (h.node i n hi).lt
theorem TreeAt.new_none {w : World} {t top c : Nat} {next : Int} {N : Nat → Option Nd} (h : TreeAt w t top next c N) {n : Nat} (hn : w.heap.size ≤ n) : N n = none := by
  cases hi : N n with
  | none => rfl
  | some m => have := h.node_lt hi; omega
/-- What putting a new thing does, and what it answers. -/
def PutPost (w w' : World) (t top c : Nat) (next : Int) (N : Nat → Option Nd) (p : List UInt8) (er : Int) (y : Inf) : Prop :=
  (er ≠ 0 ∧ TreeAt w' t top next c N ∧ Below w.heap.size w w') ∨
  (er = 0 ∧ ∃ d n x, lookN N top p = (none, some d, 0) ∧ Made w N y n x ∧ TreeAt w' t top (next + 1) (c + 1) (addN N d n x (baseB p)) ∧ Only (ownT t N) w w')
def N0 (top kb : Nat) : Nat → Option Nd := fun i => if i = top then some ⟨2, 1, 0, 1, 493, 0, 0, 0, 0, ⟨#[]⟩, none, 0, 0, [], some kb, fun _ => none⟩ else none
theorem N0_some {top kb i : Nat} {n : Nd} (h : N0 top kb i = some n) : i = top ∧ n = ⟨2, 1, 0, 1, 493, 0, 0, 0, 0, ⟨#[]⟩, none, 0, 0, [], some kb, fun _ => none⟩ := by
  unfold N0 at h
  by_cases hi : i = top
  · rw [if_pos hi, Option.some.injEq] at h; exact ⟨hi, h.symm⟩
  · rw [if_neg hi] at h; cases h
theorem N0_top (top kb : Nat) : N0 top kb top = some ⟨2, 1, 0, 1, 493, 0, 0, 0, 0, ⟨#[]⟩, none, 0, 0, [], some kb, fun _ => none⟩ := if_pos rfl
set_option maxRecDepth 100000 in
set_option maxHeartbeats 4000000 in
theorem New_any (w : World) :
    Calls Tryd.prog 19 #[] w fun e w' => ∃ t top kb, e = .returned (.pointer (some ⟨t, 0, none⟩)) ∧ TreeAt w' t top 2 0 (N0 top kb) ∧ w.heap.size ≤ t ∧ w.heap.size ≤ top ∧ w.heap.size ≤ kb ∧ Below w.heap.size w w' := by
  have hmm := @run_makeMap Tryd.prog
  go_enter Tryd.func19, Tryd.ntmps19
  go_wp2_with fail
  go_ret
  have b0 := Blk.new w 65 [.pointer (some ⟨w.heap.size + 1 + 1, 0, none⟩), .int .i64 2]
  have h0 := (Below.refl w.heap.size w).alloc (Nat.le_refl _) (.cells #[.pointer (some ⟨w.heap.size + 1 + 1, 0, none⟩), .int .i64 2] 65)
  generalize hw1 : w.alloc (.cells #[.pointer (some ⟨w.heap.size + 1 + 1, 0, none⟩), .int .i64 2] 65) = w1 at *
  have z1 : w1.heap.size = w.heap.size + 1 := by rw [← hw1]; exact World.size_alloc _ _
  have m1 := MapAt.made w1
  have h1 := (Below.refl w1.heap.size w1).alloc (Nat.le_refl _) (.map #[] 0)
  generalize hw2 : w1.alloc (.map #[] 0) = w2 at *
  have z2 : w2.heap.size = w1.heap.size + 1 := by rw [← hw2]; exact World.size_alloc _ _
  have n2 := Blk.new w2 68 (encN ⟨2, 1, 0, 1, 493, 0, 0, 0, 0, ⟨#[]⟩, none, 0, 0, [], some (w.heap.size + 1), fun _ => none⟩)
  have h2 := (Below.refl w2.heap.size w2).alloc (Nat.le_refl _) (.cells (encN ⟨2, 1, 0, 1, 493, 0, 0, 0, 0, ⟨#[]⟩, none, 0, 0, [], some (w.heap.size + 1), fun _ => none⟩).toArray 68)
  rw [z2, z1] at n2
  rw [z1] at m1
  have h02 := h1.trans (h2.mono h1.size)
  refine ⟨w.heap.size, w.heap.size + 1 + 1, w.heap.size + 1, rfl, ⟨b0.below h02, fun i n hi => ?_, fun i n hi => ?_, fun i n b hi hb => ?_, fun i n hi hb => ?_, fun i j n m b hi hj h1 h2 => ?_, fun i n s j hi hs => ?_, ⟨_, N0_top _ _, rfl⟩, fun i n hi hk => ?_, fun i n hi => ?_⟩, Nat.le_refl _, by omega, by omega, h0.trans (h02.mono h0.size)⟩
  · obtain ⟨rfl, rfl⟩ := N0_some hi; exact n2
  · obtain ⟨rfl, rfl⟩ := N0_some hi; exact ⟨Sl.nil _ _ _, fun a ha => by cases ha⟩
  · obtain ⟨rfl, rfl⟩ := N0_some hi; cases hb; exact m1.below h2
  · obtain ⟨rfl, rfl⟩ := N0_some hi; cases hb
  · rw [(N0_some hi).1, (N0_some hj).1]
  · obtain ⟨rfl, rfl⟩ := N0_some hi; cases hs
  · obtain ⟨rfl, rfl⟩ := N0_some hi; simp
  · obtain ⟨rfl, rfl⟩ := N0_some hi; exact Nat.le_refl _
end Go.Proofs.YtlbbehfbjbbckaaDoor

/-! A directory is put into a tree: the program's Mkdir. -/
set_option linter.unusedVariables false
set_option linter.unusedSimpArgs false
namespace Go.Proofs.YtlbbehfbjbbckaaDoor
open Go.RowKit

def mkdirU (N : Nat → Option Nd) (top : Nat) (p : List UInt8) (m : Mt) : Int := if mayU p m = 0 then (freshU (lookN N top p)).2 else mayU p m
theorem PutPost.mono {w0 w w' : World} {t top c : Nat} {next : Int} {N : Nat → Option Nd} {p : List UInt8} {er : Int} {y : Inf} (h : PutPost w w' t top c next N p er y) (hb : Below w0.heap.size w0 w) (hz : w0.heap.size ≤ w.heap.size) : PutPost w0 w' t top c next N p er y := by
  rcases h with ⟨h1, h2, h3⟩ | ⟨h1, d, n, x, h2, h3, h4, h5⟩
  · exact .inl ⟨h1, h2, hb.trans (h3.mono hz)⟩
  · exact .inr ⟨h1, d, n, x, h2, ⟨h3.not, Nat.le_trans hz h3.low, fun b hb => Nat.le_trans hz (h3.map b hb), h3.kids, h3.inf, h3.links, fun a ha => Nat.le_trans hz (h3.data a ha)⟩, h4, (Only.of hb).trans h5⟩
theorem look_dir {w : World} {t top c : Nat} {next : Int} {N : Nat → Option Nd} (h : TreeAt w t top next c N) {p : List UInt8} (hf : (freshU (lookN N top p)).2 = 0) (hp : p = [] → False) : ∃ d m b, lookN N top p = (none, some d, 0) ∧ N d = some m ∧ m.kb = some b ∧ freshU (lookN N top p) = (some d, 0) := by
  unfold lookN at hf ⊢
  by_cases h1 : rightB p = false
  · rw [if_pos h1] at hf; simp [freshU] at hf
  rw [if_neg h1] at hf ⊢
  rw [if_neg (fun e => hp e)] at hf ⊢
  cases ho : atN N (some top) (splitB (parentB p)) with
  | none => rw [ho] at hf; simp [freshU] at hf
  | some d =>
    rw [ho] at hf
    cases hm : N d with
    | none => simp only [hm] at hf; simp [freshU] at hf
    | some m =>
      simp only [hm] at hf ⊢
      by_cases hk : m.kind = 2
      · rw [if_pos hk] at hf ⊢
        cases hkid : m.kids (baseB p) with
        | none =>
          cases hb : m.kb with
          | none => exact absurd hb (h.dirs d m hm hk)
          | some b => exact ⟨d, m, b, rfl, hm, hb, rfl⟩
        | some k =>
          rw [hkid] at hf
          unfold freshU at hf
          rw [if_pos ⟨rfl, fun e => by cases e⟩] at hf
          simp [freshU] at hf
      · rw [if_neg hk] at hf; simp [freshU] at hf
theorem fresh_nil {N : Nat → Option Nd} {top : Nat} : (freshU (lookN N top [])).2 ≠ 0 := by
  unfold lookN
  by_cases h1 : rightB [] = false
  · rw [if_pos h1]; simp [freshU]
  rw [if_neg h1, if_pos rfl]
  unfold freshU
  rw [if_pos ⟨rfl, fun e => by cases e⟩]
  simp
theorem put_post {w w5 w6 : World} {t top c d n b : Nat} {next : Int} {N : Nat → Option Nd} {m x : Nd} {p : List UInt8} {y : Inf} (hl : lookN N top p = (none, some d, 0)) (hd : N d = some m) (hkb : m.kb = some b) (hx : NewAt w5 n c x N) (hn : w.heap.size ≤ n)
    (hxb : ∀ b, x.kb = some b → w.heap.size ≤ b) (hxd : x.dA = none) (hy : infN { x with ino := next, links := 1 } = y) (hb : Below w.heap.size w w5) (hT : TreeAt w6 t top (next + 1) (c + 1) (addN N d n { x with ino := next, links := 1 } (baseB p)))
    (hO : Only (fun k => k = t ∨ k = n ∨ k = b) w5 w6) : PutPost w w6 t top c next N p 0 y :=
  .inr ⟨rfl, d, n, { x with ino := next, links := 1 }, hl, ⟨hx.not, hn, hxb, hx.kids, hy, rfl, fun a ha => by rw [show ({ x with ino := next, links := 1 } : Nd).dA = x.dA from rfl, hxd] at ha; cases ha⟩, hT, ⟨hO.os.trans hb.os, hO.tape.trans hb.tape, hO.output.trans hb.output, Nat.le_trans hb.size hO.size, fun k hk hP =>
    (hO.block k (Nat.lt_of_lt_of_le hk hb.size) (by
      rintro (rfl | rfl | rfl)
      · exact hP (.inl rfl)
      · omega
      · exact hP (.inr (.inr ⟨d, m, hd, hkb⟩)))).trans (hb.block k hk)⟩⟩
theorem NewAt.mkd {w : World} {t top c : Nat} {next : Int} {N : Nat → Option Nd} (h : TreeAt w t top next c N) (x : Nd) (h1 : x.kb = some w.heap.size) (h2 : ∀ s, x.kids s = none) (h3 : x.dA = none) (h4 : x.dn = 0) (h5 : x.data = []) :
    NewAt ((w.alloc (.map #[] 0)).alloc (.cells (encN x).toArray 68)) (w.heap.size + 1) c x N := by
  have hz : (w.alloc (.map #[] 0)).heap.size = w.heap.size + 1 := World.size_alloc _ _
  have hB := Blk.new (w.alloc (.map #[] 0)) 68 (encN x)
  rw [hz] at hB
  refine ⟨hB, ⟨by rw [h3, h4, h5]; exact Sl.nil _ _ _, fun a ha => by rw [h3] at ha; cases ha⟩, h2, fun b hb => ?_, fun _ => by rw [h1]; simp, by rw [h4]; exact Nat.zero_le _, h.new_none (by omega)⟩
  rw [h1, Option.some.injEq] at hb
  subst hb
  exact ⟨((MapAt.made w).alloc _).mono (Nat.zero_le c), fun i m hi hm => by have := (h.kids i m _ hi hm).lt; omega⟩
theorem NewAt.leaf {w : World} {t top c : Nat} {next : Int} {N : Nat → Option Nd} (h : TreeAt w t top next c N) (x : Nd) (h0 : x.kind ≠ 2) (h1 : x.kb = none) (h2 : ∀ s, x.kids s = none) (h3 : x.dA = none) (h4 : x.dn = 0) (h5 : x.data = []) :
    NewAt (w.alloc (.cells (encN x).toArray 68)) w.heap.size c x N :=
  ⟨Blk.new w 68 (encN x), ⟨by rw [h3, h4, h5]; exact Sl.nil _ _ _, fun a ha => by rw [h3] at ha; cases ha⟩, h2, fun b hb => (by rw [h1] at hb; cases hb), fun h => absurd h h0, by rw [h4]; exact Nat.zero_le _, h.new_none (Nat.le_refl _)⟩
theorem meta_cells {w : World} {g : Nat} {a b c d f : Int} (h : Blk w g 36 [.int .i64 a, .int .i64 b, .int .i64 c, .int .i64 d, .int .i64 f]) : w.cell? ⟨g, 0, none⟩ = some (.int .i64 a) ∧ w.cell? ⟨g, 1, none⟩ = some (.int .i64 b) ∧ w.cell? ⟨g, 2, none⟩ = some (.int .i64 c) ∧ w.cell? ⟨g, 3, none⟩ = some (.int .i64 d) ∧ w.cell? ⟨g, 4, none⟩ = some (.int .i64 f) := ⟨h.cell 0, h.cell 1, h.cell 2, h.cell 3, h.cell 4⟩
set_option maxRecDepth 100000 in
set_option maxHeartbeats 4000000 in
theorem Mkdir_any (t top c : Nat) (next : Int) (N : Nat → Option Nd) (p : ByteArray) (m : Mt) (w : World) (h : TreeAt w t top next c N) (hp : p.size ≤ 2097152) (hn0 : 0 ≤ next) (hn1 : next ≤ 1099511627776) (hc : c ≤ 1099511627776) :
    Calls Tryd.prog 20 #[.pointer (some ⟨t, 0, none⟩), .string p, aggM m] w fun e w' => e = .returned (.int .i64 (mkdirU N top p.data.toList m)) ∧ PutPost w w' t top c next N p.data.toList (mkdirU N top p.data.toList m) ⟨2, next, m, ⟨#[]⟩, []⟩ := by
  have HM := Lib.hid (fun w => may_any t p m w hp)
  have HF := Lib.hid (fun w (h : TreeAt w t top next c N) => fresh_any t top c next N p w h hp)
  have HT := Lib.hid h
  obtain ⟨X, hX⟩ : ∃ X : Int, mkdirU N top p.data.toList m = X := ⟨_, rfl⟩
  have HX : Hid ((if mayU p.data.toList m = 0 then (freshU (lookN N top p.data.toList)).2 else mayU p.data.toList m) = X) := Lib.hid hX
  have HMN := Lib.hid (show mayU p.data.toList m = 0 → freshU (lookN N top p.data.toList) = freshU (lookN N top p.data.toList) from fun _ => rfl)
  rw [hX]
  clear h hX HMN
  generalize mayU p.data.toList m = er at *
  obtain ⟨a, b, cc, dd, f⟩ := m
  have b0 := Blk.new w 36 [.int .i64 a, .int .i64 b, .int .i64 cc, .int .i64 dd, .int .i64 f]
  have hb0 := (Below.refl w.heap.size w).alloc (Nat.le_refl _) (.cells #[.int .i64 a, .int .i64 b, .int .i64 cc, .int .i64 dd, .int .i64 f] 36)
  have B0 := Lib.hid b0
  have HB0 := Lib.hid hb0
  have T0 := Lib.hid (HT.out.below hb0)
  clear b0 hb0 HT
  unfold aggM at *
  obtain ⟨x0, x1, x2, x3, x4⟩ := meta_cells B0.out
  go_enter Tryd.func20, Tryd.ntmps20
  go_wp2_with fail
  generalize hwa : w.alloc _ = wa at *
  generalize hbm : w.heap.size = bm at *
  refine (HM.out _).mono ?_
  rintro e w1 ⟨rfl, hb1⟩
  have B1 := Lib.hid (B0.out.below hb1)
  have HB1 := Lib.hid (HB0.out.trans (hb1.mono (by rw [← hbm]; exact HB0.out.size)))
  have T1 := Lib.hid (T0.out.below hb1)
  clear hb1 B0 HB0 T0 HM x0 x1 x2 x3 x4
  obtain ⟨x0, x1, x2, x3, x4⟩ := meta_cells B1.out
  by_cases he : er = 0
  · subst he
    have HX := Lib.hid (show (freshU (lookN N top p.data.toList)).2 = X from HX.out)
    go_wp2_with fail
    refine (HF.out _ T1.out).mono ?_
    rintro e w2 ⟨rfl, hb2⟩
    have B2 := Lib.hid (B1.out.below hb2)
    have HB2 := Lib.hid (HB1.out.trans (hb2.mono (by rw [← hbm]; exact HB1.out.size)))
    have T2 := Lib.hid (T1.out.below hb2)
    clear hb2 HF B1 HB1 T1 x0 x1 x2 x3 x4
    obtain ⟨x0, x1, x2, x3, x4⟩ := meta_cells B2.out
    by_cases hX0 : X = 0
    · obtain ⟨d, md, kb, hl, hd, hkb, hfr⟩ := look_dir T2.out (HX.out.trans hX0) (fun e => fresh_nil (N := N) (top := top) (by have := HX.out.trans hX0; rw [e] at this; exact this))
      rw [hfr]
      have HL := Lib.hid hl
      have HX0 := Lib.hid hX0
      have HD := Lib.hid hd
      have HKB := Lib.hid hkb
      clear hX0 hl hd hkb hfr HX
      rw [ptrO_some]
      unfold ptrN
      have hmm := @run_makeMap Tryd.prog
      go_wp2_with fail
      have hx := NewAt.mkd T2.out ⟨2, 0, 0, 0, a, b, cc, dd, f, ⟨#[]⟩, none, 0, 0, [], some w2.heap.size, fun _ => none⟩ rfl (fun _ => rfl) rfl rfl rfl
      have hb5 := ((Below.refl w2.heap.size w2).alloc (Nat.le_refl _) (.map #[] 0)).trans (((Below.refl (w2.alloc (.map #[] 0)).heap.size (w2.alloc (.map #[] 0))).alloc (Nat.le_refl _) (.cells (encN ⟨2, 0, 0, 0, a, b, cc, dd, f, ⟨#[]⟩, none, 0, 0, [], some w2.heap.size, fun _ => none⟩).toArray 68)).mono (by rw [World.size_alloc]; omega))
      have hz2 : bm ≤ w2.heap.size := Nat.le_trans (by rw [← hbm]; exact Nat.le_refl _) HB2.out.size
      refine (put_any t top c d (w2.heap.size + 1) kb next N md _ p _ (T2.out.below hb5) hx HD.out HKB.out hp hn0 hn1 hc).mono ?_
      rintro e w6 ⟨rfl, hT6, hO6⟩
      have HP := Lib.hid (put_post (w := w) HL.out HD.out HKB.out hx (by omega) (fun b hb => by cases hb; omega) rfl rfl (by rw [hbm]; exact HB2.out.trans (hb5.mono hz2)) hT6 hO6)
      have HX0 := HX0.out
      subst HX0
      clear hx hb5 hT6 hO6 T2 HB2 B2 x0 x1 x2 x3 x4 HL HD HKB
      go_wp2_with fail
      go_ret
      exact ⟨by rfl, HP.out⟩
    · have e1 : (X != 0) = true := by simpa using hX0
      have hXX := HX.out
      generalize freshU (lookN N top p.data.toList) = fr at *
      obtain ⟨fo, fe⟩ := fr
      obtain rfl : fe = X := hXX
      go_wp2_with fail
      go_ret
      exact ⟨by rfl, .inl ⟨hX0, T2.out, by rw [hbm]; exact HB2.out⟩⟩
  · have e1 : (er != 0) = true := by simpa using he
    have K := Lib.hid (show X = er by rw [← HX.out, if_neg he])
    have he' := Lib.hid he
    clear he
    go_wp2_with fail
    go_ret
    exact ⟨by rw [K.out]; rfl, .inl ⟨by rw [K.out]; exact he'.out, T1.out, by rw [hbm]; exact HB1.out⟩⟩
end Go.Proofs.YtlbbehfbjbbckaaDoor

/-! A symbolic link is put into a tree: the program's Symlink. -/
set_option linter.unusedVariables false
set_option linter.unusedSimpArgs false
namespace Go.Proofs.YtlbbehfbjbbckaaDoor
open Go.RowKit

def symU (N : Nat → Option Nd) (top : Nat) (p : List UInt8) (tg : ByteArray) (m : Mt) : Int := if mayU p m = 0 then (if tg.size = 0 then 2 else if 200 < tg.size then 7 else (freshU (lookN N top p)).2) else mayU p m
set_option maxRecDepth 100000 in
set_option maxHeartbeats 4000000 in
theorem Symlink_any (t top c : Nat) (next : Int) (N : Nat → Option Nd) (p tg : ByteArray) (m : Mt) (w : World) (h : TreeAt w t top next c N) (hp : p.size ≤ 2097152) (hn0 : 0 ≤ next) (hn1 : next ≤ 1099511627776) (hc : c ≤ 1099511627776) :
    Calls Tryd.prog 22 #[.pointer (some ⟨t, 0, none⟩), .string p, .string tg, aggM m] w fun e w' => e = .returned (.int .i64 (symU N top p.data.toList tg m)) ∧ PutPost w w' t top c next N p.data.toList (symU N top p.data.toList tg m) ⟨3, next, m, tg, []⟩ := by
  have HM := Lib.hid (fun w => may_any t p m w hp)
  have HF := Lib.hid (fun w (h : TreeAt w t top next c N) => fresh_any t top c next N p w h hp)
  have HT := Lib.hid h
  obtain ⟨X, hX⟩ : ∃ X : Int, symU N top p.data.toList tg m = X := ⟨_, rfl⟩
  have HX : Hid ((if mayU p.data.toList m = 0 then (if tg.size = 0 then 2 else if 200 < tg.size then 7 else (freshU (lookN N top p.data.toList)).2) else mayU p.data.toList m) = X) := Lib.hid hX
  have HMN := Lib.hid (show mayU p.data.toList m = 0 → freshU (lookN N top p.data.toList) = freshU (lookN N top p.data.toList) from fun _ => rfl)
  rw [hX]
  clear h hX HMN
  generalize mayU p.data.toList m = er at *
  obtain ⟨a, b, cc, dd, f⟩ := m
  have b0 := Blk.new w 36 [.int .i64 a, .int .i64 b, .int .i64 cc, .int .i64 dd, .int .i64 f]
  have hb0 := (Below.refl w.heap.size w).alloc (Nat.le_refl _) (.cells #[.int .i64 a, .int .i64 b, .int .i64 cc, .int .i64 dd, .int .i64 f] 36)
  have B0 := Lib.hid b0
  have HB0 := Lib.hid hb0
  have T0 := Lib.hid (HT.out.below hb0)
  clear b0 hb0 HT
  unfold aggM at *
  obtain ⟨x0, x1, x2, x3, x4⟩ := meta_cells B0.out
  go_enter Tryd.func22, Tryd.ntmps22
  go_wp2_with fail
  generalize hwa : w.alloc _ = wa at *
  generalize hbm : w.heap.size = bm at *
  refine (HM.out _).mono ?_
  rintro e w1 ⟨rfl, hb1⟩
  have B1 := Lib.hid (B0.out.below hb1)
  have HB1 := Lib.hid (HB0.out.trans (hb1.mono (by rw [← hbm]; exact HB0.out.size)))
  have T1 := Lib.hid (T0.out.below hb1)
  clear hb1 B0 HB0 T0 HM x0 x1 x2 x3 x4
  obtain ⟨x0, x1, x2, x3, x4⟩ := meta_cells B1.out
  by_cases he : er = 0
  · subst he
    have HX1 := Lib.hid (show (if tg.size = 0 then (2 : Int) else if 200 < tg.size then 7 else (freshU (lookN N top p.data.toList)).2) = X from HX.out)
    clear HX
    by_cases hz : tg.size = 0
    · obtain rfl : tg = ⟨#[]⟩ := ByteArray.ext (Array.size_eq_zero_iff.1 hz)
      have K := Lib.hid (show X = 2 from HX1.out.symm)
      clear hz
      go_wp2_with fail
      go_ret
      exact ⟨by rw [K.out]; rfl, .inl ⟨by rw [K.out]; decide, T1.out, by rw [hbm]; exact HB1.out⟩⟩
    have HX2 := Lib.hid (show (if 200 < tg.size then (7 : Int) else (freshU (lookN N top p.data.toList)).2) = X by rw [← HX1.out, if_neg hz])
    clear HX1
    have hnil := nil_toList tg hz
    clear hz
    rcases Nat.lt_or_ge 200 tg.size with h2 | h2
    · have K := Lib.hid (show X = 7 by rw [← HX2.out, if_pos h2])
      have e2 : decide (200 < tg.size) = true := decide_eq_true h2
      have e3 : decide ((200 : Int) < (tg.size : Int)) = true := decide_eq_true (by omega)
      have e4 : (200 : Int) < (tg.size : Int) := by omega
      clear h2
      go_wp2_with fail
      go_ret
      exact ⟨by rw [K.out]; rfl, .inl ⟨by rw [K.out]; decide, T1.out, by rw [hbm]; exact HB1.out⟩⟩
    have e2 : decide (200 < tg.size) = false := decide_eq_false (by omega)
    have e3 : decide ((200 : Int) < (tg.size : Int)) = false := decide_eq_false (by omega)
    have e4 : ¬ (200 : Int) < (tg.size : Int) := by omega
    have HX := Lib.hid (show (freshU (lookN N top p.data.toList)).2 = X by rw [← HX2.out, if_neg (by omega)])
    clear HX2
    clear h2
    go_wp2_with fail
    refine (HF.out _ T1.out).mono ?_
    rintro e w2 ⟨rfl, hb2⟩
    have B2 := Lib.hid (B1.out.below hb2)
    have HB2 := Lib.hid (HB1.out.trans (hb2.mono (by rw [← hbm]; exact HB1.out.size)))
    have T2 := Lib.hid (T1.out.below hb2)
    clear hb2 HF B1 HB1 T1 x0 x1 x2 x3 x4
    obtain ⟨x0, x1, x2, x3, x4⟩ := meta_cells B2.out
    by_cases hX0 : X = 0
    · obtain ⟨d, md, kb, hl, hd, hkb, hfr⟩ := look_dir T2.out (HX.out.trans hX0) (fun e => fresh_nil (N := N) (top := top) (by have := HX.out.trans hX0; rw [e] at this; exact this))
      rw [hfr]
      have HL := Lib.hid hl
      have HX0 := Lib.hid hX0
      have HD := Lib.hid hd
      have HKB := Lib.hid hkb
      clear hX0 hl hd hkb hfr HX
      rw [ptrO_some]
      unfold ptrN
      go_wp2_with fail
      have hx := NewAt.leaf T2.out ⟨3, 0, 0, 0, a, b, cc, dd, f, tg, none, 0, 0, [], none, fun _ => none⟩ (by simp) rfl (fun _ => rfl) rfl rfl rfl
      have hb5 := (Below.refl w2.heap.size w2).alloc (Nat.le_refl _) (.cells (encN ⟨3, 0, 0, 0, a, b, cc, dd, f, tg, none, 0, 0, [], none, fun _ => none⟩).toArray 68)
      have hz2 : bm ≤ w2.heap.size := Nat.le_trans (by rw [← hbm]; exact Nat.le_refl _) HB2.out.size
      refine (put_any t top c d w2.heap.size kb next N md _ p _ (T2.out.below hb5) hx HD.out HKB.out hp hn0 hn1 hc).mono ?_
      rintro e w6 ⟨rfl, hT6, hO6⟩
      have HP := Lib.hid (put_post (w := w) HL.out HD.out HKB.out hx (by rw [hbm]; exact hz2) (fun b hb => by cases hb) rfl rfl (by rw [hbm]; exact HB2.out.trans (hb5.mono hz2)) hT6 hO6)
      have HX0 := HX0.out
      subst HX0
      clear hx hb5 hT6 hO6 T2 HB2 B2 x0 x1 x2 x3 x4 HL HD HKB
      go_wp2_with fail
      go_ret
      exact ⟨by rfl, HP.out⟩
    · have e1 : (X != 0) = true := by simpa using hX0
      have hXX := HX.out
      generalize freshU (lookN N top p.data.toList) = fr at *
      obtain ⟨fo, fe⟩ := fr
      obtain rfl : fe = X := hXX
      go_wp2_with fail
      go_ret
      exact ⟨by rfl, .inl ⟨hX0, T2.out, by rw [hbm]; exact HB2.out⟩⟩
  · have e1 : (er != 0) = true := by simpa using he
    have K := Lib.hid (show X = er by rw [← HX.out, if_neg he])
    have he' := Lib.hid he
    clear he
    go_wp2_with fail
    go_ret
    exact ⟨by rw [K.out]; rfl, .inl ⟨by rw [K.out]; exact he'.out, T1.out, by rw [hbm]; exact HB1.out⟩⟩
end Go.Proofs.YtlbbehfbjbbckaaDoor

/-! A copy of bytes: the standard library's bytes.Clone, as its text has it. -/
set_option linter.unusedVariables false
set_option linter.unusedSimpArgs false
namespace Go.Proofs.YtlbbehfbjbbckaaDoor
open Go.RowKit

theorem infoU8 : (Tryd.prog.info? 5).map (fun i => (i.zero, i.size, i.bytes)) = some (some (.int .u8 0), 1, 1) := by kernel_rfl
/-- Bytes in a row of their own kind. -/
def BytesAt (w : World) (A : Option Addr) (n : Nat) (l : List UInt8) : Prop := Sl 1 w A n (bys l) ∧ ∀ a, A = some a → ∃ cs, w.heap[a.block]? = some (.cells cs 5 (0, 0))
theorem own_bytes {w : World} {base : Nat} {v : Value} {n : Nat} {l : List UInt8} (h : w.ownsRow base 5 1 v n (bys l)) : ∃ A c, v = .slice A n c ∧ n ≤ c ∧ BytesAt w A n l ∧ ∀ a, A = some a → base ≤ a.block := by
  obtain ⟨A, c, rfl, hle, hsl, ha, _⟩ := own_sl h
  refine ⟨A, c, rfl, hle, ⟨hsl, fun a he => ?_⟩, fun a he => (ha a he).1⟩
  rcases h.2 with ⟨h1, h2⟩ | ⟨g, cap, cur, h1, h2, h3, h4⟩
  · cases h1; cases he
  · cases h1; cases he; exact ⟨cur, h3⟩
theorem slEqN (n c : Nat) (w : World) : (binOp BinOp.eql 51 (.slice none n c) (.slice none 0 0)).run Tryd.prog w = .ok (.bool true) w := by kernel_rfl
theorem slEqS (a : Addr) (n c : Nat) (w : World) : (binOp BinOp.eql 51 (.slice (some a) n c) (.slice none 0 0)).run Tryd.prog w = .ok (.bool false) w := by kernel_rfl
set_option maxRecDepth 100000 in
set_option maxHeartbeats 4000000 in
theorem Clone_any (A : Option Addr) (n c : Nat) (l : List UInt8) (w : World) (h : Sl 1 w A n (bys l)) (hn : n ≤ 1099511627776) :
    Calls Tryd.prog 41 #[.slice A n c] w fun e w' => ∃ B d, e = .returned (.slice B n d) ∧ n ≤ d ∧ BytesAt w' B n l ∧ (∀ a, B = some a → w.heap.size ≤ a.block) ∧ Below w.heap.size w w' := by
  cases A with
  | none =>
    have H := Lib.hid h
    clear h
    have hse := slEqN n c
    go_enter Tryd.func41, Tryd.ntmps41
    go_wp2_with fail
    go_ret
    have h := H.out
    obtain rfl : n = 0 := by
      rcases h.at_ with h0 | ⟨b, o, hA, _⟩
      · have := h.len; rw [h0, List.length_nil] at this; omega
      · cases hA
    exact ⟨none, 0, rfl, Nat.le_refl _, ⟨h, fun a ha => (by cases ha)⟩, fun a ha => (by cases ha), Below.refl _ _⟩
  | some a =>
  have H := Lib.hid h
  clear h
  have hse := slEqS a n c
  go_enter Tryd.func41, Tryd.ntmps41
  go_wp2_with (at_builtin; refine halt_in ?_)
  obtain ⟨i, hi, hz0, hz1, hz2⟩ := info_parts infoU8
  have hb0 := (Below.refl w.heap.size w).alloc (Nat.le_refl _) (.cells #[] 5)
  have hsz : (w.alloc (.cells #[] 5)).heap.size = w.heap.size + 1 := World.size_alloc _ _
  obtain ⟨v', w', hap, hown, hg⟩ := run_append_sl (w := w.alloc (.cells #[] 5)) w.heap.size 51 51 5 i _ 1 1 Tryd.underlying51 hi hz0 hz1 hz2 rfl (by decide)
    (World.ownsRow_made w (base := w.heap.size) (e := 5) (size := 1) #[] 0 (Nat.le_refl _) (by decide) rfl) (c := c) (H.out.below hb0) (bys_one l) (by omega) (by omega) (by rw [hsz]; omega)
  rw [List.nil_append] at hown
  rw [Nat.zero_add] at hown
  have hgb : Below w.heap.size w w' := hb0.grown hg (by rw [hsz]; omega) (fun k hk => by cases hk; exact Nat.le_refl _)
  clear hb0 hg hsz H
  refine Halted.out (wpList_append_run rfl _ _ _ _ rfl rfl rfl hap ?_)
  clear hap
  obtain ⟨B, d, rfl, hrm, hB, hlow⟩ := own_bytes hown
  clear hown
  go_wp2_with fail
  go_ret
  exact ⟨B, d, rfl, hrm, hB, hlow, hgb⟩
end Go.Proofs.YtlbbehfbjbbckaaDoor

/-! A file is written: the program's Write. -/
set_option linter.unusedVariables false
set_option linter.unusedSimpArgs false
namespace Go.Proofs.YtlbbehfbjbbckaaDoor
open Go.RowKit

def setN (N : Nat → Option Nd) (k : Nat) (x : Nd) : Nat → Option Nd := fun i => if i = k then some x else N i
theorem setN_same (N : Nat → Option Nd) (k : Nat) (x : Nd) : setN N k x k = some x := if_pos rfl
theorem setN_other {N : Nat → Option Nd} {k i : Nat} (x : Nd) (h : i ≠ k) : setN N k x i = N i := if_neg h
theorem setN_add (N : Nat → Option Nd) (d n : Nat) (x x' : Nd) (s : List UInt8) : setN (addN N d n x s) n x' = addN N d n x' s := by
  funext i
  unfold setN addN
  by_cases h : i = n
  · rw [if_pos h, if_pos h]
  · rw [if_neg h, if_neg h, if_neg h]
theorem setN_some {N : Nat → Option Nd} {k i : Nat} {x m : Nd} (h : setN N k x i = some m) : (i = k ∧ m = x) ∨ (i ≠ k ∧ N i = some m) := by
  unfold setN at h
  by_cases hi : i = k
  · rw [if_pos hi, Option.some.injEq] at h; exact .inl ⟨hi, h.symm⟩
  · rw [if_neg hi] at h; exact .inr ⟨hi, h⟩
theorem TreeAt.reset {w w' : World} {t top c k : Nat} {next : Int} {N : Nat → Option Nd} {x : Nd} (h : TreeAt w t top next c N) (hk : N k = some x) (x' : Nd) (e1 : x'.kb = x.kb) (e2 : x'.kids = x.kids) (e3 : x'.kind = x.kind)
    (hB : Blk w' k 68 (encN x')) (hd : BytesAt w' x'.dA x'.dn x'.data) (hrm : x'.dn ≤ x'.dc) (hh : ∀ j, j < w.heap.size → j ≠ k → w'.heap[j]? = w.heap[j]?) : TreeAt w' t top next c (setN N k x') := by
  have hx := h.node k x hk
  have hoth : ∀ {g : Nat} {T : TypeId} {cs : List Value}, Blk w g T cs → g ≠ k → Blk w' g T cs := fun hb hne => hb.heap (hh _ hb.lt hne)
  have hdat : ∀ {a : Addr} {cs : Array Value}, w.heap[a.block]? = some (.cells cs 5 (0, 0)) → w'.heap[a.block]? = w.heap[a.block]? := fun {a cs} hc => hh _ (Array.getElem?_eq_some_iff.1 hc).1 (fun e => by
    rw [e] at hc
    have e := Eq.trans (Eq.symm hc) hx
    simp only [Option.some.injEq, Obj.cells.injEq] at e
    exact absurd e.2.1 (by decide))
  have hmap : ∀ {j cc : Nat} {f : List UInt8 → Option Value}, MapAt w j cc f → MapAt w' j cc f := fun hM => hM.heap (hh _ hM.lt (fun e => hM.ne hx e.symm))
  refine ⟨hoth h.tree (h.tree.ne hx (by decide)), fun i m hi => ?_, fun i m hi => ?_, fun i m b hi hb => ?_, fun i m hi hb => ?_, fun i j m1 m2 b hi hj h1 h2 => ?_, fun i m s j hi hs => ?_, ?_, fun i m hi h2 => ?_, fun i m hi => ?_⟩
  · rcases setN_some hi with ⟨rfl, rfl⟩ | ⟨hne, hm⟩
    · exact hB
    · exact hoth (h.node i m hm) hne
  · rcases setN_some hi with ⟨rfl, rfl⟩ | ⟨hne, hm⟩
    · exact hd
    · exact ⟨(h.data i m hm).1.heap1 (fun a ha => by obtain ⟨cs, hc⟩ := (h.data i m hm).2 a ha; exact hdat hc), fun a ha => by obtain ⟨cs, hc⟩ := (h.data i m hm).2 a ha; exact ⟨cs, (hdat hc).trans hc⟩⟩
  · rcases setN_some hi with ⟨rfl, rfl⟩ | ⟨hne, hm⟩
    · rw [e2]; exact hmap (h.kids i x b hk (by rw [← e1]; exact hb))
    · exact hmap (h.kids i m b hm hb)
  · rcases setN_some hi with ⟨rfl, rfl⟩ | ⟨hne, hm⟩
    · rw [e2]; exact h.bare i x hk (by rw [← e1]; exact hb)
    · exact h.bare i m hm hb
  · rcases setN_some hi with ⟨rfl, rfl⟩ | ⟨hne, hm⟩
    · rcases setN_some hj with ⟨rfl, rfl⟩ | ⟨hne', hm'⟩
      · rfl
      · exact h.apart i j x m2 b hk hm' (by rw [← e1]; exact h1) h2
    · rcases setN_some hj with ⟨rfl, rfl⟩ | ⟨hne', hm'⟩
      · exact h.apart i j m1 x b hm hk h1 (by rw [← e1]; exact h2)
      · exact h.apart i j m1 m2 b hm hm' h1 h2
  · have : ∃ q, N j = some q := by
      rcases setN_some hi with ⟨rfl, rfl⟩ | ⟨hne, hm⟩
      · exact h.closed i x s j hk (by rw [← e2]; exact hs)
      · exact h.closed i m s j hm hs
    obtain ⟨q, hq⟩ := this
    by_cases hj : j = k
    · subst hj; exact ⟨_, setN_same ..⟩
    · exact ⟨q, (setN_other x' hj).trans hq⟩
  · obtain ⟨r, hr, hr2⟩ := h.root
    by_cases hj : top = k
    · subst hj
      rw [hk, Option.some.injEq] at hr
      subst hr
      exact ⟨_, setN_same .., e3.trans hr2⟩
    · exact ⟨r, (setN_other x' hj).trans hr, hr2⟩
  · rcases setN_some hi with ⟨rfl, rfl⟩ | ⟨hne, hm⟩
    · rw [e1]; exact h.dirs i x hk (by rw [← e3]; exact h2)
    · exact h.dirs i m hm h2
  · rcases setN_some hi with ⟨rfl, rfl⟩ | ⟨hne, hm⟩
    · exact hrm
    · exact h.room i m hm
def wrote (x : Nd) (m : Mt) (A : Option Addr) (n c : Nat) (l : List UInt8) : Nd := { x with m0 := m.m0, m1 := m.m1, m2 := m.m2, m3 := m.m3, m4 := m.m4, dA := A, dn := n, dc := c, data := l }
theorem wrote_blk {w : World} {k : Nat} {x : Nd} (h : Blk w k 68 (encN x)) (B : Option Addr) (n d : Nat) (m : Mt) (l : List UInt8) :
    Blk ((((((w.setCell ⟨k, 10, none⟩ (.slice B n d)).setCell ⟨k, 4, none⟩ (.int .i64 m.m0)).setCell ⟨k, 5, none⟩ (.int .i64 m.m1)).setCell ⟨k, 6, none⟩ (.int .i64 m.m2)).setCell ⟨k, 7, none⟩ (.int .i64 m.m3)).setCell ⟨k, 8, none⟩ (.int .i64 m.m4)) k 68 (encN (wrote x m B n d l)) ∧
    Only (fun j => j = k) w ((((((w.setCell ⟨k, 10, none⟩ (.slice B n d)).setCell ⟨k, 4, none⟩ (.int .i64 m.m0)).setCell ⟨k, 5, none⟩ (.int .i64 m.m1)).setCell ⟨k, 6, none⟩ (.int .i64 m.m2)).setCell ⟨k, 7, none⟩ (.int .i64 m.m3)).setCell ⟨k, 8, none⟩ (.int .i64 m.m4)) ∧
    ∀ j, j ≠ k → ((((((w.setCell ⟨k, 10, none⟩ (.slice B n d)).setCell ⟨k, 4, none⟩ (.int .i64 m.m0)).setCell ⟨k, 5, none⟩ (.int .i64 m.m1)).setCell ⟨k, 6, none⟩ (.int .i64 m.m2)).setCell ⟨k, 7, none⟩ (.int .i64 m.m3)).setCell ⟨k, 8, none⟩ (.int .i64 m.m4)).heap[j]? = w.heap[j]? := by
  refine ⟨(((((h.set 10 _).set 4 _).set 5 _).set 6 _).set 7 _).set 8 _, (((((Only.set (P := fun j => j = k) w ⟨k, 10, none⟩ _ rfl).trans (Only.set _ ⟨k, 4, none⟩ _ rfl)).trans (Only.set _ ⟨k, 5, none⟩ _ rfl)).trans (Only.set _ ⟨k, 6, none⟩ _ rfl)).trans (Only.set _ ⟨k, 7, none⟩ _ rfl)).trans (Only.set _ ⟨k, 8, none⟩ _ rfl), fun j hj => ?_⟩
  rw [Below.heap_setCell _ _ _ _ hj, Below.heap_setCell _ _ _ _ hj, Below.heap_setCell _ _ _ _ hj, Below.heap_setCell _ _ _ _ hj, Below.heap_setCell _ _ _ _ hj, Below.heap_setCell _ _ _ _ hj]
theorem BytesAt.only {w w' : World} {A : Option Addr} {n k : Nat} {l : List UInt8} (h : BytesAt w A n l) (hh : ∀ j, j ≠ k → w'.heap[j]? = w.heap[j]?) {cs : List Value} (hk : Blk w k 68 cs) : BytesAt w' A n l := by
  have hd : ∀ {a : Addr} {cs : Array Value}, w.heap[a.block]? = some (.cells cs 5 (0, 0)) → w'.heap[a.block]? = w.heap[a.block]? := fun {a cs} hc => hh _ (fun e => by
    rw [e] at hc
    have e := Eq.trans (Eq.symm hc) hk
    simp only [Option.some.injEq, Obj.cells.injEq] at e
    exact absurd e.2.1 (by decide))
  exact ⟨h.1.heap1 (fun a ha => by obtain ⟨cs, hc⟩ := h.2 a ha; exact hd hc), fun a ha => by obtain ⟨cs, hc⟩ := h.2 a ha; exact ⟨cs, (hd hc).trans hc⟩⟩
theorem Blk.nobyte {w : World} {g : Nat} {T : TypeId} {cs : List Value} (h : Blk w g T cs) (hn : ∀ v, Value.int .u8 v ∉ cs) {o : Nat} {v : Int} (hc : w.cell? ⟨g, o, none⟩ = some (.int .u8 v)) : False := by
  rw [h.cell] at hc
  exact hn v (List.mem_of_getElem? hc)
theorem Sl.put {w w' : World} {A : Option Addr} {n : Nat} {l : List UInt8} {P : Nat → Prop} (h : Sl 1 w A n (bys l)) (hh : ∀ k, k < w.heap.size → ¬ P k → w'.heap[k]? = w.heap[k]?) (hP : ∀ k v o, w.cell? ⟨k, o, none⟩ = some (.int .u8 v) → ¬ P k) : Sl 1 w' A n (bys l) :=
  ⟨h.len, h.max, by
    rcases h.at_ with h0 | ⟨b, o, rfl, hc⟩
    · exact .inl h0
    · refine .inr ⟨b, o, rfl, fun j v hj => ?_⟩
      have h1 := hc j v hj
      have hv : ∃ x : Int, v = .int .u8 x := by
        obtain ⟨y, _, hy⟩ := List.mem_map.1 (List.mem_of_getElem? hj)
        exact ⟨_, hy.symm⟩
      obtain ⟨x, rfl⟩ := hv
      exact (World.cell?_of_block (a := ⟨b, o + j, none⟩) (hh b (World.block_lt_of_cell? w _ h1) (hP b x _ h1))).trans h1⟩
def kindN (N : Nat → Option Nd) (k : Nat) : Int := match N k with | some n => n.kind | none => 0
def writeL (N : Nat → Option Nd) (l : Option Nat × Option Nat × Int) : Int := if l.2.2 = 0 then (match l.1 with | none => 0 | some k => fileU (kindN N k)) else l.2.2
def writeU (N : Nat → Option Nd) (top : Nat) (p : List UInt8) (len : Nat) (m : Mt) : Int := if mayU p m = 0 then (if 65536 < len then 7 else writeL N (lookN N top p)) else mayU p m
def WritePost (w w' : World) (t top c : Nat) (next : Int) (N : Nat → Option Nd) (p : List UInt8) (er : Int) (m : Mt) (l : List UInt8) : Prop :=
  (er ≠ 0 ∧ TreeAt w' t top next c N ∧ Below w.heap.size w w') ∨
  (er = 0 ∧ ∃ d n x, lookN N top p = (none, some d, 0) ∧ Made w N ⟨1, next, m, ⟨#[]⟩, l⟩ n x ∧ TreeAt w' t top (next + 1) (c + 1) (addN N d n x (baseB p)) ∧ Only (ownT t N) w w') ∨
  (er = 0 ∧ ∃ k d x x', lookN N top p = (some k, d, 0) ∧ N k = some x ∧ fileU x.kind = 0 ∧ x'.kids = x.kids ∧ x'.kb = x.kb ∧ x'.links = x.links ∧ infN x' = ⟨x.kind, x.ino, m, x.target, l⟩ ∧ (∀ a, x'.dA = some a → w.heap.size ≤ a.block) ∧ TreeAt w' t top next c (setN N k x') ∧ Only (ownT t N) w w')
theorem look_some {w : World} {t top c : Nat} {next : Int} {N : Nat → Option Nd} (h : TreeAt w t top next c N) {p : List UInt8} {k : Nat} {d : Option Nat} (hl : lookN N top p = (some k, d, 0)) : ∃ x, N k = some x := by
  unfold lookN at hl
  by_cases h1 : rightB p = false
  · rw [if_pos h1] at hl; cases hl
  rw [if_neg h1] at hl
  by_cases h2 : p = []
  · rw [if_pos h2] at hl
    simp only [Prod.mk.injEq, Option.some.injEq] at hl
    obtain ⟨m, hm, _⟩ := h.root
    exact ⟨m, hl.1 ▸ hm⟩
  rw [if_neg h2] at hl
  cases ho : atN N (some top) (splitB (parentB p)) with
  | none => rw [ho] at hl; cases hl
  | some d' =>
    rw [ho] at hl
    cases hm : N d' with
    | none => simp only [hm] at hl; cases hl
    | some m =>
      simp only [hm] at hl
      by_cases hk : m.kind = 2
      · rw [if_pos hk] at hl
        simp only [Prod.mk.injEq] at hl
        exact h.closed d' m _ k hm hl.1
      · rw [if_neg hk] at hl; cases hl
set_option maxRecDepth 100000 in
set_option maxHeartbeats 8000000 in
theorem Write_any (t top c : Nat) (next : Int) (N : Nat → Option Nd) (p : ByteArray) (A : Option Addr) (n0 cp : Nat) (l : List UInt8) (m : Mt) (w : World) (h : TreeAt w t top next c N) (hs : Sl 1 w A n0 (bys l)) (hp : p.size ≤ 2097152) (hn0 : 0 ≤ next) (hn1 : next ≤ 1099511627776) (hc : c ≤ 1099511627776) :
    Calls Tryd.prog 21 #[.pointer (some ⟨t, 0, none⟩), .string p, .slice A n0 cp, aggM m] w fun e w' => e = .returned (.int .i64 (writeU N top p.data.toList n0 m)) ∧ WritePost w w' t top c next N p.data.toList (writeU N top p.data.toList n0 m) m l := by
  have HM := Lib.hid (fun w => may_any t p m w hp)
  have HF := Lib.hid (fun w (h : TreeAt w t top next c N) => look_any t top c next N p w h hp)
  have HT := Lib.hid h
  obtain ⟨X, hX⟩ : ∃ X : Int, writeU N top p.data.toList n0 m = X := ⟨_, rfl⟩
  have HX0 : Hid ((if mayU p.data.toList m = 0 then (if 65536 < n0 then 7 else writeL N (lookN N top p.data.toList)) else mayU p.data.toList m) = X) := Lib.hid hX
  obtain ⟨LK, hLK⟩ : ∃ LK, lookN N top p.data.toList = LK := ⟨_, rfl⟩
  have HLK := Lib.hid hLK
  rw [hX]
  rw [hLK] at HX0 HF
  clear h hX hLK
  generalize mayU p.data.toList m = er at *
  obtain ⟨a, b, cc, dd, f⟩ := m
  have b0 := Blk.new w 36 [.int .i64 a, .int .i64 b, .int .i64 cc, .int .i64 dd, .int .i64 f]
  have hb0 := (Below.refl w.heap.size w).alloc (Nat.le_refl _) (.cells #[.int .i64 a, .int .i64 b, .int .i64 cc, .int .i64 dd, .int .i64 f] 36)
  have B0 := Lib.hid b0
  have HB0 := Lib.hid hb0
  have T0 := Lib.hid (HT.out.below hb0)
  have S0 := Lib.hid (hs.below hb0)
  clear b0 hb0 HT hs
  unfold aggM at *
  obtain ⟨x0, x1, x2, x3, x4⟩ := meta_cells B0.out
  go_enter Tryd.func21, Tryd.ntmps21
  go_wp2_with fail
  generalize hwa : w.alloc _ = wa at *
  generalize hbm : w.heap.size = bm at *
  refine (HM.out _).mono ?_
  rintro e w1 ⟨rfl, hb1⟩
  have B1 := Lib.hid (B0.out.below hb1)
  have HB1 := Lib.hid (HB0.out.trans (hb1.mono (by rw [← hbm]; exact HB0.out.size)))
  have T1 := Lib.hid (T0.out.below hb1)
  have S1 := Lib.hid (S0.out.below hb1)
  clear hb1 B0 HB0 T0 HM S0 x0 x1 x2 x3 x4
  rcases (Classical.em (er = 0)).symm with he | he
  · have e1 : (er != 0) = true := by simpa using he
    have K := Lib.hid (show X = er by rw [← HX0.out, if_neg he])
    have he' := Lib.hid he
    clear he
    go_wp2_with fail
    go_ret
    exact ⟨by rw [K.out]; rfl, .inl ⟨by rw [K.out]; exact he'.out, T1.out, by rw [hbm]; exact HB1.out⟩⟩
  subst he
  have HX1 := Lib.hid (show (if 65536 < n0 then 7 else writeL N LK) = X from HX0.out)
  clear HX0
  rcases Nat.lt_or_ge 65536 n0 with h2 | h2
  · have K := Lib.hid (show X = 7 by rw [← HX1.out, if_pos h2])
    have e2 : decide (65536 < n0) = true := decide_eq_true h2
    have e3 : decide ((65536 : Int) < (n0 : Int)) = true := decide_eq_true (by omega)
    have e4 : (65536 : Int) < (n0 : Int) := by omega
    clear h2
    go_wp2_with fail
    go_ret
    exact ⟨by rw [K.out]; rfl, .inl ⟨by rw [K.out]; decide, T1.out, by rw [hbm]; exact HB1.out⟩⟩
  have e2 : decide (65536 < n0) = false := decide_eq_false (by omega)
  have e3 : decide ((65536 : Int) < (n0 : Int)) = false := decide_eq_false (by omega)
  have e4 : ¬ (65536 : Int) < (n0 : Int) := by omega
  have HX2 := Lib.hid (show writeL N LK = X by rw [← HX1.out, if_neg (by omega)])
  have HN0 := Lib.hid h2
  clear h2 HX1
  go_wp2_with fail
  refine (HF.out _ T1.out).mono ?_
  rintro e w2 ⟨rfl, hb2⟩
  have B2 := Lib.hid (B1.out.below hb2)
  have HB2 := Lib.hid (HB1.out.trans (hb2.mono (by rw [← hbm]; exact HB1.out.size)))
  have T2 := Lib.hid (T1.out.below hb2)
  have S2 := Lib.hid (S1.out.below hb2)
  clear hb2 HF B1 HB1 T1 S1 e2 e3 e4
  obtain ⟨lo, ld, le⟩ := LK
  unfold tupL
  rcases (Classical.em (le = 0)).symm with hle | hle
  · have e1 : (le != 0) = true := by simpa using hle
    have K := Lib.hid (show X = le by rw [← HX2.out]; exact if_neg hle)
    have he' := Lib.hid hle
    clear hle HX2
    go_wp2_with fail
    go_ret
    exact ⟨by rw [K.out]; rfl, .inl ⟨by rw [K.out]; exact he'.out, T2.out, by rw [hbm]; exact HB2.out⟩⟩
  subst hle
  cases lo with
  | none =>
    have K := Lib.hid (show X = 0 from HX2.out.symm)
    clear HX2
    rw [show ptrO none = .pointer none from rfl]
    obtain ⟨d, md, kb, hl, hd, hkb, hfr⟩ := look_dir T2.out (p := p.data.toList) (by rw [HLK.out]; rfl) (fun e => fresh_nil (N := N) (top := top) (by have := HLK.out; rw [e] at this; rw [this]; rfl))
    obtain rfl : ld = some d := by have := HLK.out.symm.trans hl; simpa using this
    rw [ptrO_some]
    unfold ptrN
    clear hfr hl
    have HD := Lib.hid hd
    have HKB := Lib.hid hkb
    clear hd hkb
    go_wp2_with fail
    have hx := NewAt.leaf T2.out ⟨1, 0, 0, 0, 0, 0, 0, 0, 0, ⟨#[]⟩, none, 0, 0, [], none, fun _ => none⟩ (by simp) rfl (fun _ => rfl) rfl rfl rfl
    have hb5 := (Below.refl w2.heap.size w2).alloc (Nat.le_refl _) (.cells (encN ⟨1, 0, 0, 0, 0, 0, 0, 0, 0, ⟨#[]⟩, none, 0, 0, [], none, fun _ => none⟩).toArray 68)
    have hz2 : bm ≤ w2.heap.size := Nat.le_trans (by rw [← hbm]; exact Nat.le_refl _) HB2.out.size
    refine (put_any t top c d w2.heap.size kb next N md _ p _ (T2.out.below hb5) hx HD.out HKB.out hp hn0 hn1 hc).mono ?_
    rintro e w6 ⟨rfl, hT6, hO6⟩
    have T6 := Lib.hid hT6
    have hP6 : ∀ j, j < w2.heap.size → (j = t ∨ j = w2.heap.size ∨ j = kb) → ownT t N j := fun j hj h => by
      rcases h with rfl | rfl | rfl
      · exact .inl rfl
      · omega
      · exact .inr (.inr ⟨d, md, HD.out, HKB.out⟩)
    have O6 := Lib.hid (Only.trans (Only.of (P := ownT t N) (by rw [hbm]; exact HB2.out)) ((Only.trans (Only.of hb5) hO6).mono hP6))
    have hbt : bm ≠ t ∧ bm ≠ w2.heap.size ∧ bm ≠ kb := ⟨B2.out.ne T2.out.tree (by decide), by have := B2.out.lt; omega, fun e => (T2.out.kids d md kb HD.out HKB.out).ne B2.out e⟩
    have B6 := Lib.hid ((B2.out.below hb5).heap (hO6.block bm (Nat.lt_of_lt_of_le B2.out.lt hb5.size) (fun h => by rcases h with h | h | h; exact hbt.1 h; exact hbt.2.1 h; exact hbt.2.2 h)))
    have HS6 := Lib.hid ((S2.out.below hb5).put (P := fun k => k = t ∨ k = w2.heap.size ∨ k = kb) hO6.block (fun j v o hc h => by
      have T5 := T2.out.below hb5
      rcases h with rfl | rfl | rfl
      · exact Blk.nobyte T5.tree (by intro v hv; simp [ptrN] at hv) hc
      · exact Blk.nobyte hx.blk (by intro v hv; simp [encN] at hv) hc
      · obtain ⟨es, cl, he⟩ := (T5.kids d md _ HD.out HKB.out).obj
        unfold World.cell? at hc
        rw [he] at hc
        cases hc))
    clear hx hb5 hT6 hO6 hP6 hbt
    go_wp2_with fail
    refine (Clone_any A n0 cp l w6 HS6.out (by have := HN0.out; omega)).mono ?_
    rintro e w4 ⟨B, dcap, rfl, hrm4, hB4, hlow4, hb4⟩
    have T4 := Lib.hid (T6.out.below hb4)
    have y0 := (T4.out.node w2.heap.size _ (addN_new ..))
    obtain ⟨_, _, _, _, _, _, _, _, _, _, z10, _⟩ := node_cells y0
    have y10 := y0.frozen 10
    have hkb : bm ≠ w2.heap.size := (B6.out.below hb4).ne y0 (by decide)
    have y5 := y0.set 10 (.slice B n0 dcap)
    have b5 := (B6.out.below hb4).other (a := ⟨w2.heap.size, 10, none⟩) hkb (.slice B n0 dcap)
    obtain ⟨x0, x1, x2, x3, x4⟩ := meta_cells b5
    clear x0 x1 x2 x3 x4
    have x0 := b5.cell 0
    have x1 := b5.cell 1
    have x2 := b5.cell 2
    have x3 := b5.cell 3
    have x4 := b5.cell 4
    have v4 := y5.cell 4
    have v5 := y5.cell 5
    have v6 := y5.cell 6
    have v7 := y5.cell 7
    have v8 := y5.cell 8
    have g4 := y5.frozen 4
    have g5 := y5.frozen 5
    have g6 := y5.frozen 6
    have g7 := y5.frozen 7
    have g8 := y5.frozen 8
    simp only [encN, List.getElem?_cons_zero, List.getElem?_cons_succ, List.set_cons_zero, List.set_cons_succ] at x0 x1 x2 x3 x4 v4 v5 v6 v7 v8
    have Y5 := Lib.hid y5
    have Y0 := Lib.hid y0
    have BY4 := Lib.hid hB4
    clear y5 b5 y0
    go_wp2_with fail
    go_ret
    obtain ⟨hB9, hO9, hh9⟩ := wrote_blk Y0.out B n0 dcap ⟨a, b, cc, dd, f⟩ l
    have T9 := T4.out.reset (addN_new ..) (wrote _ ⟨a, b, cc, dd, f⟩ B n0 dcap l) rfl rfl rfl hB9 ((BY4.out).only hh9 Y0.out) hrm4 (fun j _ hj => hh9 j hj)
    rw [setN_add] at T9
    have O9 : Only (fun j => ownT t N j ∨ j = w2.heap.size) w _ := Only.trans (Only.trans (O6.out.mono (fun j _ hj => .inl hj)) (Only.of hb4)) (hO9.mono (fun j _ hj => .inr hj))
    have hXX := K.out
    subst hXX
    exact ⟨by rfl, .inr (.inl ⟨rfl, d, w2.heap.size, _, HLK.out, ⟨T2.out.new_none (Nat.le_refl _), by rw [hbm]; exact hz2, (fun b hb => by cases hb), (fun _ => rfl), rfl, rfl, (fun a ha => by have h1 := hlow4 a ha; have h2 := O6.out.size; omega)⟩, T9, O9.mono (fun j hj h => h.elim id (fun e => by omega))⟩)⟩
  | some k =>
    obtain ⟨x, hx⟩ := look_some T2.out HLK.out
    have HX3 := Lib.hid (show fileU x.kind = X by rw [← HX2.out]; unfold writeL kindN; rw [if_pos rfl]; simp only [hx])
    clear HX2
    have HK := Lib.hid hx
    have HFI := Lib.hid (fun w h => file_any k x w h)
    rw [HX3.out] at HFI
    clear hx
    rw [show ptrO (some k) = .pointer (some ⟨k, 0, none⟩) from rfl]
    unfold ptrN at *
    go_wp2_with fail
    refine (HFI.out _ (T2.out.node k x HK.out)).mono ?_
    rintro e w3 ⟨rfl, rfl⟩
    by_cases hX0 : X = 0
    · have HX0 := Lib.hid hX0
      have e1 : (X != 0) = false := by rw [hX0]; rfl
      clear hX0
      go_wp2_with fail
      refine (Clone_any A n0 cp l w3 S2.out (by have := HN0.out; omega)).mono ?_
      rintro e w4 ⟨B, dcap, rfl, hrm4, hB4, hlow4, hb4⟩
      have T4 := Lib.hid (T2.out.below hb4)
      have y0 := (T4.out.node k x HK.out)
      obtain ⟨_, _, _, _, _, _, _, _, _, _, z10, _⟩ := node_cells y0
      have y10 := y0.frozen 10
      have hkb : bm ≠ k := (B2.out.below hb4).ne y0 (by decide)
      have y5 := y0.set 10 (.slice B n0 dcap)
      have b5 := (B2.out.below hb4).other (a := ⟨k, 10, none⟩) hkb (.slice B n0 dcap)
      obtain ⟨x0, x1, x2, x3, x4⟩ := meta_cells b5
      clear x0 x1 x2 x3 x4
      have x0 := b5.cell 0
      have x1 := b5.cell 1
      have x2 := b5.cell 2
      have x3 := b5.cell 3
      have x4 := b5.cell 4
      have v4 := y5.cell 4
      have v5 := y5.cell 5
      have v6 := y5.cell 6
      have v7 := y5.cell 7
      have v8 := y5.cell 8
      have g4 := y5.frozen 4
      have g5 := y5.frozen 5
      have g6 := y5.frozen 6
      have g7 := y5.frozen 7
      have g8 := y5.frozen 8
      simp only [encN, List.getElem?_cons_zero, List.getElem?_cons_succ, List.set_cons_zero, List.set_cons_succ] at x0 x1 x2 x3 x4 v4 v5 v6 v7 v8
      have Y5 := Lib.hid y5
      have Y0 := Lib.hid y0
      have BY4 := Lib.hid hB4
      clear y5 b5 y0
      go_wp2_with fail
      go_ret
      obtain ⟨hB9, hO9, hh9⟩ := wrote_blk Y0.out B n0 dcap ⟨a, b, cc, dd, f⟩ l
      have T9 := T4.out.reset HK.out (wrote x ⟨a, b, cc, dd, f⟩ B n0 dcap l) rfl rfl rfl hB9 ((BY4.out).only hh9 Y0.out) hrm4 (fun j _ hj => hh9 j hj)
      have O9 : Only (ownT t N) w _ := Only.trans (Only.of (by rw [hbm]; exact HB2.out.trans (hb4.mono (by rw [← hbm]; exact HB2.out.size)))) (hO9.mono (fun j _ hj => by subst hj; exact .inr (.inl ⟨x, HK.out⟩)))
      have hXX := HX0.out
      subst hXX
      exact ⟨by rfl, .inr (.inr ⟨rfl, k, ld, x, wrote x ⟨a, b, cc, dd, f⟩ B n0 dcap l, HLK.out, HK.out, HX3.out, rfl, rfl, rfl, rfl, (fun a ha => by have h1 := hlow4 a ha; have h2 := HB2.out.size; omega), T9, O9⟩)⟩
    · have e1 : (X != 0) = true := by simpa using hX0
      go_wp2_with fail
      go_ret
      exact ⟨by rfl, .inl ⟨hX0, T2.out, by rw [hbm]; exact HB2.out⟩⟩
end Go.Proofs.YtlbbehfbjbbckaaDoor

/-! The keys of a map by strings; how many; an entry that goes. -/
set_option linter.unusedVariables false
set_option linter.unusedSimpArgs false
namespace Go.Proofs.YtlbbehfbjbbckaaDoor
open Go.RowKit
open Go.Maps (Keyed string_keyed)
open Go.WideMaps (keyOf_string_mk)

theorem strKeys_mem {H : Type} {es : List (Lit × DataW H)} (hk : ∀ p ∈ es, ∃ x, p.1 = .string x) (x : List UInt8) : x ∈ strKeys (.map es) ↔ Maps.has (.map es) (.string x) = true := by
  rw [Maps.has_eq, List.any_eq_true]
  show x ∈ es.map (fun p => strOf p.1) ↔ _
  rw [List.mem_map]
  constructor
  · rintro ⟨p, hp', rfl⟩
    obtain ⟨a, ha⟩ := hk p hp'
    exact ⟨p, hp', by rw [ha]; simp [Lit.sameKey, strOf]⟩
  · rintro ⟨p, hp', hs⟩
    obtain ⟨a, ha⟩ := hk p hp'
    rw [ha] at hs
    exact ⟨p, hp', by rw [ha]; simpa [Lit.sameKey, strOf] using hs⟩
theorem strKeys_nodup {H : Type} {es : List (Lit × DataW H)} (hp : es.Pairwise (fun p q => p.1 ≠ q.1)) (hk : ∀ p ∈ es, ∃ x, p.1 = .string x) : (strKeys (.map es)).Nodup := by
  show (es.map fun p => strOf p.1).Nodup
  refine List.pairwise_map.2 (hp.imp_of_mem fun {p q} hp' hq' hne e => hne ?_)
  obtain ⟨a, ha⟩ := hk p hp'
  obtain ⟨b, hb⟩ := hk q hq'
  rw [ha, hb] at e ⊢
  exact congrArg _ e
/-- A list of all keys, each once. -/
def KeysL (f : List UInt8 → Option Value) (ks : List (List UInt8)) : Prop := ks.Nodup ∧ ∀ x, x ∈ ks ↔ (f x).isSome = true
theorem KeysL.perm {f : List UInt8 → Option Value} {a b : List (List UInt8)} (h : KeysL f a) (k : KeysL f b) : a.Perm b :=
  (List.perm_ext_iff_of_nodup h.1 k.1).2 fun x => (h.2 x).trans (k.2 x).symm
theorem MapAt.keys {w : World} {b n : Nat} {f : List UInt8 → Option Value} (h : MapAt w b n f) : ∃ ks, KeysL f ks ∧ (∀ x ∈ ks, x.length ≤ maxLen) ∧ ks.length ≤ n ∧
    ∀ {t e : TypeId}, Tryd.prog.underlying t = some (.map 9 e) → ∀ ty, (Builtin.len_ #[t] ty #[.map (some b)]).run Tryd.prog w = .ok (.int .i64 ks.length) w := by
  obtain ⟨D, hown, hm, h2⟩ := h
  obtain ⟨es, hD, hpw, _⟩ := hown.entries strLaw
  obtain ⟨es', hD', hko⟩ := hown.keysOf
  obtain rfl : es = es' := by rw [hD] at hD'; simpa using hD'
  have hk : ∀ p ∈ es, ∃ x, p.1 = .string x := fun p hp => by
    obtain ⟨v, hv⟩ := hko p hp
    obtain ⟨x, _, hx, _⟩ := Maps.keyOf_str Tryd.underlying9 hv
    exact ⟨x, hx⟩
  have hlen : (strKeys D).length = Maps.size D := by subst hD; exact List.length_map _
  refine ⟨strKeys D, ⟨?_, fun x => ?_⟩, strKeys_le hown Tryd.underlying9, by rw [hlen]; exact hown.size_le, fun {t e} ht ty => by rw [hlen]; exact hown.len ht ty⟩
  · subst hD; exact strKeys_nodup hpw hk
  · rw [← (h2 x).1]
    subst hD; exact strKeys_mem hk x
def delM (f : List UInt8 → Option Value) (s : List UInt8) : List UInt8 → Option Value := fun x => if x = s then none else f x
theorem MapAt.drop {w : World} {b n : Nat} {f : List UInt8 → Option Value} (h : MapAt w b n f) {t e : TypeId} (ht : Tryd.prog.underlying t = some (.map 9 e)) {s : ByteArray} (hs : s.size ≤ maxLen) (ty : TypeId) :
    ∃ w', (Builtin.delete_ #[t, 9] ty #[.map (some b), .string s]).run Tryd.prog w = .ok (.tuple #[]) w' ∧ MapAt w' b n (delM f s.data.toList) ∧ w.grownBy w' (some b) := by
  obtain ⟨D, h, hm, h2⟩ := h
  obtain ⟨w', hrun, ho, hg⟩ := h.drop strLaw ht (keyOf_string_mk Tryd.underlying9 hs) ty
  have hk : WideAt.IsKeyLit (.string s.data.toList) := trivial
  refine ⟨w', hrun, ⟨_, ho, hm.del _, fun x => ?_⟩, hg.grown⟩
  unfold delM
  by_cases hx : x = s.data.toList
  · subst hx
    rw [if_pos rfl]
    exact ⟨Maps.has_del_same, fun zd => Maps.atKey_del_same _⟩
  · rw [if_neg hx]
    have hne : Lit.string x ≠ Lit.string s.data.toList := fun e => hx (by injection e)
    exact ⟨by rw [Maps.has_del_other hne]; exact (h2 x).1, fun zd => by rw [Maps.atKey_del_other hne]; exact (h2 x).2 zd⟩
end Go.Proofs.YtlbbehfbjbbckaaDoor

/-! What a thing is told: the program's tell and Stat. -/
set_option linter.unusedVariables false
set_option linter.unusedSimpArgs false
namespace Go.Proofs.YtlbbehfbjbbckaaDoor
open Go.RowKit

theorem results_cell_tmp_row {P : Program} {fn : Func} {p u : Tmp} {ty : TypeId} (h : fn.results = #[.cell p ty, .tmp u]) (tmps : Array Value) (w : World) (g : Nat) (t : TypeId) (cs : Array Value) (fr : Nat × Nat) (d : TypeDesc)
    (hp : tmps.getD p undef = .pointer (some ⟨g, 0, none⟩)) (hg : w.heap[g]? = some (.cells cs t fr))
    (hu : P.underlying ty = some d) (hd : (match d with | .struct _ | .array _ _ => true | _ => false) = true) (hi : (P.info? ty).map (·.size) = some cs.size) :
    (results fn tmps).run P w = .ok (.tuple #[.agg cs, tmps.getD u undef]) w := by
  rw [results_cell_tmp h, hp]
  simp [run_loadVar_row w g t ty cs fr d hg hu hd hi, Result.andThen, asAddr]
/-- What is told of a thing. -/
structure Stt where
  kind : Int
  ino : Int
  size : Int
  links : Int
  mt : Mt
  target : ByteArray
def encT (s : Stt) : List Value := [.int .i64 s.kind, .int .i64 s.ino, .int .i64 s.size, .int .i64 s.links, .int .i64 s.mt.m0, .int .i64 s.mt.m1, .int .i64 s.mt.m2, .int .i64 s.mt.m3, .int .i64 s.mt.m4, .string s.target]
def aggT (s : Stt) : Value := .agg (encT s).toArray
def noT : Stt := ⟨0, 0, 0, 0, ⟨0, 0, 0, 0, 0⟩, ⟨#[]⟩⟩
/-- What a thing with so many things in it is told as. -/
def sizeN (n : Nd) (k : Nat) : Int := if n.kind = 1 then (n.dn : Int) else if n.kind = 2 then (k : Int) else if n.kind = 3 then (n.target.size : Int) else n.size
def tellN (n : Nd) (k : Nat) : Stt := ⟨n.kind, n.ino, sizeN n k, n.links, ⟨n.m0, n.m1, n.m2, n.m3, n.m4⟩, n.target⟩
/-- How many things stand in one. -/
def KidsN (n : Nd) (k : Nat) : Prop := ∃ ks : List (List UInt8), ks.Nodup ∧ (∀ x, x ∈ ks ↔ (n.kids x).isSome = true) ∧ k = ks.length
theorem KidsN.same {n : Nd} {a b : Nat} (h : KidsN n a) (k : KidsN n b) : a = b := by
  obtain ⟨u, hu, h2, rfl⟩ := h
  obtain ⟨v, hv, k2, rfl⟩ := k
  exact ((List.perm_ext_iff_of_nodup hu hv).2 fun x => (h2 x).trans (k2 x).symm).length_eq
theorem lenNilM (ty : TypeId) (w : World) : (Builtin.len_ #[66] ty #[.map none]).run Tryd.prog w = .ok (.int .i64 0) w := Maps.len_nil Tryd.underlying66 ty
/-- len of what stands in a thing. -/
theorem TreeAt.klen {w : World} {t top c : Nat} {next : Int} {N : Nat → Option Nd} (h : TreeAt w t top next c N) {i : Nat} {n : Nd} (hi : N i = some n) : ∃ k, KidsN n k ∧ k ≤ c ∧ ∀ ty, (Builtin.len_ #[66] ty #[.map n.kb]).run Tryd.prog w = .ok (.int .i64 (k : Nat)) w := by
  cases hk : n.kb with
  | none => exact ⟨0, ⟨[], List.nodup_nil, fun x => by rw [h.bare i n hi hk x]; simp, rfl⟩, Nat.zero_le _, fun ty => lenNilM ty w⟩
  | some b =>
    obtain ⟨ks, hks, hl, hn, hr⟩ := (h.kids i n b hi hk).keys
    exact ⟨ks.length, ⟨ks, hks.1, fun x => (hks.2 x).trans (by simp), rfl⟩, hn, fun ty => hr Tryd.underlying66 ty⟩
theorem heap_alloc_at (w : World) (A B : Obj) : ((w.alloc A).alloc B).heap[w.heap.size]? = some A :=
  (heap_alloc_old (w.alloc A) B (by rw [World.size_alloc]; omega)).trans (heap_alloc_new w A)
theorem two_alloc (w : World) (A B : Obj) : Below w.heap.size w ((w.alloc A).alloc B) := ((Below.refl w.heap.size w).alloc (Nat.le_refl _) A).alloc (by rw [World.size_alloc]; omega) B
set_option maxRecDepth 100000 in
set_option maxHeartbeats 4000000 in
theorem tell_any (t top c : Nat) (next : Int) (N : Nat → Option Nd) (i : Nat) (n : Nd) (w : World) (h : TreeAt w t top next c N) (hi : N i = some n) :
    Calls Tryd.prog 35 #[ptrN i] w fun e w' => (∃ k, KidsN n k ∧ k ≤ c ∧ e = .returned (aggT (tellN n k))) ∧ Below w.heap.size w w' := by
  have hz0 := (Below.refl w.heap.size w).alloc (Nat.le_refl _) (.cells #[.int .i64 0, .int .i64 0, .int .i64 0, .int .i64 0, .int .i64 0, .int .i64 0, .int .i64 0, .int .i64 0, .int .i64 0, .string ⟨#[]⟩] 38)
  have hz1 := hz0.alloc (by rw [World.size_alloc]; omega) (.cells (encT ⟨n.kind, n.ino, n.size, n.links, ⟨n.m0, n.m1, n.m2, n.m3, n.m4⟩, n.target⟩).toArray 38)
  have TA := h.below hz0
  have TB := h.below hz1
  obtain ⟨k, hk, hkc, hlen⟩ := TB.klen hi
  have hlen := hlen 3
  have HK := Lib.hid hk
  have HZ := Lib.hid hz1
  obtain ⟨n0, n1, n2, n3, n4, n5, n6, n7, n8, n9, _, _⟩ := node_cells (TA.node i n hi)
  obtain ⟨_, _, _, _, _, _, _, _, _, _, b10, b11⟩ := node_cells (TB.node i n hi)
  unfold encT at hlen b10 b11
  clear h TA TB hz0 hz1 hk
  unfold ptrN
  rcases Classical.em (n.kind = 1) with h1 | h1
  · have e1 : (n.kind == 1) = true := by simpa using h1
    have K := Lib.hid (show sizeN n k = n.dn by unfold sizeN; rw [if_pos h1])
    clear h1
    go_enter Tryd.func35, Tryd.ntmps35
    go_wp2_with fail
    refine bodyPost_ret (results_cell_row rfl _ _ w.heap.size 38 _ _ _ rfl (heap_alloc_at w _ _) Tryd.underlying38 rfl (by kernel_rfl)) rfl ⟨⟨k, HK.out, hkc, ?_⟩, two_alloc w _ _⟩
    unfold tellN
    rw [K.out]
    rfl
  rcases Classical.em (n.kind = 2) with h2 | h2
  · have e2 : (n.kind == 2) = true := by simpa using h2
    have e1 : (n.kind == 1) = false := by simpa using h1
    have K := Lib.hid (show sizeN n k = k by unfold sizeN; rw [if_neg h1, if_pos h2])
    clear h1 h2
    go_enter Tryd.func35, Tryd.ntmps35
    go_wp2_with fail
    refine bodyPost_ret (results_cell_row rfl _ _ w.heap.size 38 _ _ _ rfl (heap_alloc_at w _ _) Tryd.underlying38 rfl (by kernel_rfl)) rfl ⟨⟨k, HK.out, hkc, ?_⟩, two_alloc w _ _⟩
    unfold tellN
    rw [K.out]
    rfl
  rcases Classical.em (n.kind = 3) with h3 | h3
  · have e3 : (n.kind == 3) = true := by simpa using h3
    have e1 : (n.kind == 1) = false := by simpa using h1
    have e2 : (n.kind == 2) = false := by simpa using h2
    have K := Lib.hid (show sizeN n k = n.target.size by unfold sizeN; rw [if_neg h1, if_neg h2, if_pos h3])
    clear h1 h2 h3
    go_enter Tryd.func35, Tryd.ntmps35
    go_wp2_with fail
    refine bodyPost_ret (results_cell_row rfl _ _ w.heap.size 38 _ _ _ rfl (heap_alloc_at w _ _) Tryd.underlying38 rfl (by kernel_rfl)) rfl ⟨⟨k, HK.out, hkc, ?_⟩, two_alloc w _ _⟩
    unfold tellN
    rw [K.out]
    rfl
  have e1 : (n.kind == 1) = false := by simpa using h1
  have e2 : (n.kind == 2) = false := by simpa using h2
  have e3 : (n.kind == 3) = false := by simpa using h3
  have K := Lib.hid (show sizeN n k = n.size by unfold sizeN; rw [if_neg h1, if_neg h2, if_neg h3])
  clear h1 h2 h3
  go_enter Tryd.func35, Tryd.ntmps35
  go_wp2_with fail
  refine bodyPost_ret (results_cell_row rfl _ _ w.heap.size 38 _ _ _ rfl (heap_alloc_at w _ _) Tryd.underlying38 rfl (by kernel_rfl)) rfl ⟨⟨k, HK.out, hkc, ?_⟩, two_alloc w _ _⟩
  unfold tellN
  rw [K.out]
  rfl

theorem stat_facts {w : World} {g : Nat} {s : Stt} (h : Blk w g 38 (encT s)) : (w.cell? ⟨g, 0, none⟩ = some (.int .i64 s.kind) ∧ w.cell? ⟨g, 1, none⟩ = some (.int .i64 s.ino) ∧ w.cell? ⟨g, 2, none⟩ = some (.int .i64 s.size) ∧ w.cell? ⟨g, 3, none⟩ = some (.int .i64 s.links) ∧ w.cell? ⟨g, 4, none⟩ = some (.int .i64 s.mt.m0) ∧ w.cell? ⟨g, 5, none⟩ = some (.int .i64 s.mt.m1) ∧ w.cell? ⟨g, 6, none⟩ = some (.int .i64 s.mt.m2) ∧ w.cell? ⟨g, 7, none⟩ = some (.int .i64 s.mt.m3) ∧ w.cell? ⟨g, 8, none⟩ = some (.int .i64 s.mt.m4) ∧ w.cell? ⟨g, 9, none⟩ = some (.string s.target)) ∧
    w.frozen? ⟨g, 0, none⟩ = false ∧ w.frozen? ⟨g, 1, none⟩ = false ∧ w.frozen? ⟨g, 2, none⟩ = false ∧ w.frozen? ⟨g, 3, none⟩ = false ∧ w.frozen? ⟨g, 4, none⟩ = false ∧ w.frozen? ⟨g, 5, none⟩ = false ∧ w.frozen? ⟨g, 6, none⟩ = false ∧ w.frozen? ⟨g, 7, none⟩ = false ∧ w.frozen? ⟨g, 8, none⟩ = false ∧ w.frozen? ⟨g, 9, none⟩ = false :=
  ⟨⟨h.cell 0, h.cell 1, h.cell 2, h.cell 3, h.cell 4, h.cell 5, h.cell 6, h.cell 7, h.cell 8, h.cell 9⟩, h.frozen 0, h.frozen 1, h.frozen 2, h.frozen 3, h.frozen 4, h.frozen 5, h.frozen 6, h.frozen 7, h.frozen 8, h.frozen 9⟩
theorem Blk.set10 {w : World} {g : Nat} {T : TypeId} {a0 a1 a2 a3 a4 a5 a6 a7 a8 a9 : Value} (h : Blk w g T [a0, a1, a2, a3, a4, a5, a6, a7, a8, a9]) (b0 b1 b2 b3 b4 b5 b6 b7 b8 b9 : Value) :
    Blk ((((((((((w.setCell ⟨g, 0, none⟩ b0).setCell ⟨g, 1, none⟩ b1).setCell ⟨g, 2, none⟩ b2).setCell ⟨g, 3, none⟩ b3).setCell ⟨g, 4, none⟩ b4).setCell ⟨g, 5, none⟩ b5).setCell ⟨g, 6, none⟩ b6).setCell ⟨g, 7, none⟩ b7).setCell ⟨g, 8, none⟩ b8).setCell ⟨g, 9, none⟩ b9) g T [b0, b1, b2, b3, b4, b5, b6, b7, b8, b9] :=
  (((((((((h.set 0 b0).set 1 b1).set 2 b2).set 3 b3).set 4 b4).set 5 b5).set 6 b6).set 7 b7).set 8 b8).set 9 b9
theorem below_set10 {B : Nat} {w0 w : World} {g : Nat} (h : Below B w0 w) (hg : B ≤ g) (b0 b1 b2 b3 b4 b5 b6 b7 b8 b9 : Value) :
    Below B w0 ((((((((((w.setCell ⟨g, 0, none⟩ b0).setCell ⟨g, 1, none⟩ b1).setCell ⟨g, 2, none⟩ b2).setCell ⟨g, 3, none⟩ b3).setCell ⟨g, 4, none⟩ b4).setCell ⟨g, 5, none⟩ b5).setCell ⟨g, 6, none⟩ b6).setCell ⟨g, 7, none⟩ b7).setCell ⟨g, 8, none⟩ b8).setCell ⟨g, 9, none⟩ b9) :=
  (((((((((h.setCell hg _).setCell hg _).setCell hg _).setCell hg _).setCell hg _).setCell hg _).setCell hg _).setCell hg _).setCell hg _).setCell hg _
def statN (N : Nat → Option Nd) (l : Option Nat × Option Nat × Int) (s : Stt) : Prop :=
  match l with
  | (some i, _, 0) => ∃ n k, N i = some n ∧ KidsN n k ∧ s = tellN n k
  | _ => s = noT
set_option maxRecDepth 100000 in
set_option maxHeartbeats 4000000 in
theorem Stat_any (t top c : Nat) (next : Int) (N : Nat → Option Nd) (p : ByteArray) (w : World) (h : TreeAt w t top next c N) (hp : p.size ≤ 2097152) :
    Calls Tryd.prog 18 #[.pointer (some ⟨t, 0, none⟩), .string p] w fun e w' => (∃ s, statN N (thereU (lookN N top p.data.toList)) s ∧ e = .returned (.tuple #[aggT s, .int .i64 (thereU (lookN N top p.data.toList)).2.2])) ∧ Below w.heap.size w w' := by
  have hz0 := (Below.refl w.heap.size w).alloc (Nat.le_refl _) (.cells #[.int .i64 0, .int .i64 0, .int .i64 0, .int .i64 0, .int .i64 0, .int .i64 0, .int .i64 0, .int .i64 0, .int .i64 0, .string ⟨#[]⟩] 38)
  have B0 := Blk.new w 38 (encT noT)
  have HTh := Lib.hid (there_any t top c next N p _ (h.below hz0) hp)
  have HT := Lib.hid (h.below hz0)
  have HB := Lib.hid B0
  have HZ := Lib.hid hz0
  obtain ⟨LK, hLK⟩ : ∃ LK, lookN N top p.data.toList = LK := ⟨_, rfl⟩
  have HLS := Lib.hid (fun k d (hl : LK = (some k, d, 0)) => look_some h (hLK.trans hl))
  rw [hLK] at HTh ⊢
  clear B0 hz0 h hLK
  have TU := Lib.hid (show ∀ k d, thereU LK = (some k, d, 0) → LK = (some k, d, 0) from fun k d hk => by
    unfold thereU at hk
    split at hk
    · have := congrArg (fun x : Option Nat × Option Nat × Int => x.2.2) hk
      simp at this
    · exact hk)
  have HNo := Lib.hid (show (thereU LK).2.2 = 0 → (thereU LK).1 ≠ none from fun h0 h1 => by
    unfold thereU at h0 h1
    split at h0
    · simp at h0
    · rename_i hne
      rw [if_neg hne] at h1
      exact hne ⟨h0, h1⟩)
  generalize thereU LK = R at *
  go_enter Tryd.func18, Tryd.ntmps18
  go_wp2_with fail
  refine HTh.out.mono ?_
  rintro e w1 ⟨rfl, hb1⟩
  have T1 := Lib.hid (HT.out.below hb1)
  have B1 := Lib.hid (HB.out.below hb1)
  have Z1 := Lib.hid (HZ.out.trans (hb1.mono HZ.out.size))
  clear hb1 HTh HT HB HZ
  obtain ⟨ro, rd, re⟩ := R
  unfold tupL
  rcases Classical.em (re = 0) with he | he
  · subst he
    cases ro with
    | none => exact absurd rfl (HNo.out rfl)
    | some k =>
      obtain ⟨n, hn⟩ := HLS.out k rd (TU.out k rd rfl)
      rw [show ptrO (some k) = .pointer (some ⟨k, 0, none⟩) from rfl]
      go_wp2_with fail
      refine (tell_any t top c next N k n w1 T1.out hn).mono ?_
      rintro e w2 ⟨⟨kk, hkk, hkc, rfl⟩, hb2⟩
      have B2 := Lib.hid (B1.out.below hb2)
      have Z2 := Lib.hid (Z1.out.trans (hb2.mono Z1.out.size))
      have HK := Lib.hid hkk
      have HN := Lib.hid hn
      clear hb2 hkk hn
      unfold aggT encT
      obtain ⟨⟨x0, x1, x2, x3, x4, x5, x6, x7, x8, x9⟩, y0, y1, y2, y3, y4, y5, y6, y7, y8, y9⟩ := stat_facts B2.out
      go_wp2_with fail
      refine bodyPost_ret (results_cell_tmp_row rfl _ _ w.heap.size 38 _ _ _ rfl (Blk.set10 B2.out _ _ _ _ _ _ _ _ _ _) Tryd.underlying38 rfl (by kernel_rfl)) rfl ⟨⟨tellN n kk, ⟨n, kk, HN.out, HK.out, rfl⟩, rfl⟩, below_set10 Z2.out (Nat.le_refl _) _ _ _ _ _ _ _ _ _ _⟩
  · have e1 : (re != 0) = true := by simpa using he
    have HE := Lib.hid he
    clear he
    obtain ⟨⟨x0, x1, x2, x3, x4, x5, x6, x7, x8, x9⟩, y0, y1, y2, y3, y4, y5, y6, y7, y8, y9⟩ := stat_facts B1.out
    go_wp2_with fail
    refine bodyPost_ret (results_cell_tmp_row rfl _ _ w.heap.size 38 _ _ _ rfl (Blk.set10 B1.out _ _ _ _ _ _ _ _ _ _) Tryd.underlying38 rfl (by kernel_rfl)) rfl ⟨⟨noT, ?_, rfl⟩, below_set10 Z1.out (Nat.le_refl _) _ _ _ _ _ _ _ _ _ _⟩
    unfold statN
    split
    · rename_i e
      exact absurd (congrArg (fun x : Option Nat × Option Nat × Int => x.2.2) e) HE.out
    · rfl
end Go.Proofs.YtlbbehfbjbbckaaDoor

/-! A path, followed: plainly. -/
set_option linter.unusedVariables false
set_option linter.unusedSimpArgs false
namespace Go.Proofs.YtlbbehfbjbbckaaDoor
open Go.RowKit

/-- One who follows a path: where, what is left, how many links were met. -/
structure Wk where
  at_ : List UInt8
  row : List (List UInt8)
  hops : Nat
def joinP (p x : List UInt8) : List UInt8 := if p = [] then x else p ++ 47 :: x
def enterW (K : List UInt8 → Option (Int × List UInt8)) (s : Wk) (x : List UInt8) : Wk × Int :=
  match K (joinP s.at_ x) with
  | none => (s, 10)
  | some (k, tg) => if k ≠ 3 then ({ s with at_ := joinP s.at_ x }, 0) else if s.hops = 16 then (s, 15)
    else (⟨if tg[0]? = some 47 then [] else s.at_, splitB tg ++ s.row, s.hops + 1⟩, 0)
def upW (s : Wk) : Wk × Int := if s.at_ = [] then (s, 16) else ({ s with at_ := parentB s.at_ }, 0)
def dirK (K : List UInt8 → Option (Int × List UInt8)) (p : List UInt8) : Bool := match K p with | some (k, _) => k == 2 | none => false
def stepW (K : List UInt8 → Option (Int × List UInt8)) (s : Wk) : Wk × Int :=
  match s.row with
  | [] => (s, 0)
  | x :: r => if dirK K s.at_ = false then ({ s with row := r }, 12)
    else if x = [] ∨ x = [46] then ({ s with row := r }, 0)
    else if x = [46, 46] then upW { s with row := r }
    else enterW K { s with row := r } x
def runW (K : List UInt8 → Option (Int × List UInt8)) : Nat → Wk → List UInt8 × Int
  | 0, s => (s.at_, 0)
  | n+1, s => match s.row with
    | [] => (s.at_, 0)
    | _ :: _ => if (stepW K s).2 = 0 then runW K n (stepW K s).1 else ([], (stepW K s).2)
/-- What is left to do, at most. -/
def leftW (s : Wk) : Nat := s.row.length + 202 * (16 - s.hops)
def resolveU (K : List UInt8 → Option (Int × List UInt8)) (p : List UInt8) : List UInt8 × Int :=
  if rightB p = false then ([], 9) else runW K (leftW ⟨[], splitB p, 0⟩) ⟨[], splitB p, 0⟩
/-- What stands at a path: its kind, its target. -/
def kindP (N : Nat → Option Nd) (top : Nat) (p : List UInt8) : Option (Int × List UInt8) :=
  match thereU (lookN N top p) with
  | (some i, _, e) => if e = 0 then (N i).map (fun n => (n.kind, n.target.data.toList)) else none
  | _ => none
/-- Such a follower's bounds. -/
structure OkW (K : List UInt8 → Option (Int × List UInt8)) (s : Wk) : Prop where
  hops : s.hops ≤ 16
  at_ : s.at_.length ≤ 200
  row : ∀ x ∈ s.row, x.length ≤ 200
  len : s.row.length + 201 * (16 - s.hops) ≤ 201 * 17
def OkK (K : List UInt8 → Option (Int × List UInt8)) : Prop := ∀ p k t, K p = some (k, t) → p.length ≤ 200 ∧ t.length ≤ 200
theorem parts_len (l : List UInt8) : (splitB l).length ≤ l.length + 1 := splitB_len l
theorem OkW.step {K : List UInt8 → Option (Int × List UInt8)} (hK : OkK K) {s : Wk} (h : OkW K s) : OkW K (stepW K s).1 := by
  unfold stepW
  split
  · exact h
  · rename_i x r hr
    have h0 : OkW K { s with row := r } := ⟨h.hops, h.at_, fun y hy => h.row y (by rw [hr]; exact List.mem_cons_of_mem _ hy), by have := h.len; rw [hr, List.length_cons] at this; show r.length + 201 * (16 - s.hops) ≤ 201 * 17; omega⟩
    split
    · exact h0
    split
    · exact h0
    split
    · unfold upW
      split
      · exact h0
      · exact ⟨h0.hops, Nat.le_trans (parentB_len _) h0.at_, h0.row, h0.len⟩
    · unfold enterW
      split
      · exact h0
      · rename_i k tg hk
        obtain ⟨k1, k2⟩ := hK _ _ _ hk
        split
        · exact ⟨h0.hops, k1, h0.row, h0.len⟩
        split
        · exact h0
        · rename_i hh
          have := h0.hops
          have hh' : s.hops ≠ 16 := hh
          have h16 : s.hops ≤ 16 := h0.hops
          have hl : r.length + 201 * (16 - s.hops) ≤ 201 * 17 := h0.len
          refine ⟨by show s.hops + 1 ≤ 16; omega, ?_, fun y hy => ?_, ?_⟩
          · show (if tg[0]? = some 47 then [] else s.at_).length ≤ 200
            split
            · simp
            · exact h0.at_
          · rcases List.mem_append.1 hy with hy | hy
            · exact Nat.le_trans (splitB_part tg y hy) k2
            · exact h0.row y hy
          · show (splitB tg ++ r).length + 201 * (16 - (s.hops + 1)) ≤ _
            rw [List.length_append]
            have := parts_len tg
            omega
theorem leftW_step {K : List UInt8 → Option (Int × List UInt8)} (hK : OkK K) {s : Wk} (h : OkW K s) (hr : s.row ≠ []) : leftW (stepW K s).1 < leftW s := by
  have h16 : s.hops ≤ 16 := h.hops
  unfold stepW
  split
  · rename_i e; exact absurd e hr
  · rename_i x r hr
    have h0 : leftW { s with row := r } < leftW s := by unfold leftW; rw [hr, List.length_cons]; show r.length + 202 * (16 - s.hops) < _; omega
    split
    · exact h0
    split
    · exact h0
    split
    · unfold upW
      split
      · exact h0
      · exact h0
    · unfold enterW
      split
      · exact h0
      · rename_i k tg hk
        obtain ⟨k1, k2⟩ := hK _ _ _ hk
        split
        · exact h0
        split
        · exact h0
        · rename_i hh
          have hh' : s.hops ≠ 16 := hh
          unfold leftW
          show (splitB tg ++ r).length + 202 * (16 - (s.hops + 1)) < _
          rw [List.length_append, hr, List.length_cons]
          have := parts_len tg
          omega
theorem runW_more {K : List UInt8 → Option (Int × List UInt8)} (hK : OkK K) : ∀ (n : Nat) {s : Wk}, OkW K s → leftW s ≤ n → runW K (n + 1) s = runW K n s
  | 0, s, h, hl => by
    have hr : s.row = [] := List.eq_nil_of_length_eq_zero (by unfold leftW at hl; omega)
    simp only [runW, hr]
  | n+1, s, h, hl => by
    rw [runW]
    conv => rhs; rw [runW]
    split
    · rfl
    · rename_i x r hr
      split
      · exact runW_more hK n (h.step hK) (by have := leftW_step hK h (by rw [hr]; simp); omega)
      · rfl
/-- One step, then the others. -/
theorem runW_step {K : List UInt8 → Option (Int × List UInt8)} (hK : OkK K) {s : Wk} (h : OkW K s) (hr : s.row ≠ []) : runW K (leftW s) s = if (stepW K s).2 = 0 then runW K (leftW (stepW K s).1) (stepW K s).1 else ([], (stepW K s).2) := by
  have hlt := leftW_step hK h hr
  obtain ⟨m, hm⟩ : ∃ m, leftW s = m + 1 := ⟨leftW s - 1, by omega⟩
  rw [hm, runW]
  split
  · rename_i e; exact absurd e hr
  · split
    · have : ∀ j, runW K (leftW (stepW K s).1 + j) (stepW K s).1 = runW K (leftW (stepW K s).1) (stepW K s).1 := by
        intro j
        induction j with
        | zero => rfl
        | succ j ih => rw [← ih, ← Nat.add_assoc]; exact runW_more hK _ (h.step hK) (by omega)
      have e : m = leftW (stepW K s).1 + (m - leftW (stepW K s).1) := by omega
      rw [e]; exact this _
    · rfl
theorem runW_end (K : List UInt8 → Option (Int × List UInt8)) {s : Wk} (hr : s.row = []) : runW K (leftW s) s = (s.at_, 0) := by
  generalize leftW s = n
  cases n with
  | zero => rfl
  | succ n => rw [runW, hr]
theorem OkW.start (K : List UInt8 → Option (Int × List UInt8)) {p : List UInt8} (hp : rightB p = true) : OkW K ⟨[], splitB p, 0⟩ := by
  have h1 := rightB_len hp
  have h2 := rightB_len12 hp
  exact ⟨by simp, by simp, fun x hx => Nat.le_trans (splitB_part p x hx) h1, by simp only; omega⟩
end Go.Proofs.YtlbbehfbjbbckaaDoor
