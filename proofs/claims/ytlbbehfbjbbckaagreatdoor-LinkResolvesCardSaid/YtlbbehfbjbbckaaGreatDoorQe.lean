import Derived.Test.YtlbbehfbjbbckaaGreatDoorQd
import Derived.Test.YtlbbehfbjbbckaaGreatDoorQc
import Derived.Sort.KeysCollected
import Derived.Test.YtlbbehfbjbbckaaGreatDoorQb
/-! A copy of bytes: the standard library's bytes.Clone, as its text has it. -/
set_option linter.unusedVariables false
set_option linter.unusedSimpArgs false
namespace Go.Proofs.YtlbbehfbjbbckaaGreatDoor
open Go.RowKit

theorem infoU8 : (Tryz.prog.info? 5).map (fun i => (i.zero, i.size, i.bytes)) = some (some (.int .u8 0), 1, 1) := by kernel_rfl
/-- Bytes in a row of their own kind. -/
def BytesAt (w : World) (A : Option Addr) (n : Nat) (l : List UInt8) : Prop := Sl 1 w A n (bys l) ∧ ∀ a, A = some a → ∃ cs, w.heap[a.block]? = some (.cells cs 5 (0, 0))
theorem own_bytes {w : World} {base : Nat} {v : Value} {n : Nat} {l : List UInt8} (h : w.ownsRow base 5 1 v n (bys l)) : ∃ A c, v = .slice A n c ∧ n ≤ c ∧ BytesAt w A n l ∧ ∀ a, A = some a → base ≤ a.block := by
  obtain ⟨A, c, rfl, hle, hsl, ha, _⟩ := own_sl h
  refine ⟨A, c, rfl, hle, ⟨hsl, fun a he => ?_⟩, fun a he => (ha a he).1⟩
  rcases h.2 with ⟨h1, h2⟩ | ⟨g, cap, cur, h1, h2, h3, h4⟩
  · cases h1; cases he
  · cases h1; cases he; exact ⟨cur, h3⟩
theorem slEqN (n c : Nat) (w : World) : (binOp BinOp.eql 36 (.slice none n c) (.slice none 0 0)).run Tryz.prog w = .ok (.bool true) w := by kernel_rfl
theorem slEqS (a : Addr) (n c : Nat) (w : World) : (binOp BinOp.eql 36 (.slice (some a) n c) (.slice none 0 0)).run Tryz.prog w = .ok (.bool false) w := by kernel_rfl
set_option maxRecDepth 100000 in
set_option maxHeartbeats 4000000 in
theorem Clone_any (A : Option Addr) (n c : Nat) (l : List UInt8) (w : World) (h : Sl 1 w A n (bys l)) (hn : n ≤ 1099511627776) :
    Calls Tryz.prog 88 #[.slice A n c] w fun e w' => ∃ B d, e = .returned (.slice B n d) ∧ n ≤ d ∧ BytesAt w' B n l ∧ (∀ a, B = some a → w.heap.size ≤ a.block) ∧ Below w.heap.size w w' := by
  cases A with
  | none =>
    have H := Lib.hid h
    clear h
    have hse := slEqN n c
    go_enter Tryz.func88, Tryz.ntmps88
    go_wp2_with fail
    go_ret
    have h := H.out
    obtain rfl : n = 0 := by
      rcases h.at_ with h0 | ⟨b, o, hA, _⟩
      · have := h.len; rw [h0, List.length_nil] at this; omega
      · cases hA
    exact ⟨none, 0, rfl, Nat.le_refl _, ⟨h, fun a ha => (by cases ha)⟩, fun a ha => (by cases ha), Below.refl _ _⟩
  | some a =>
  have H := Lib.hid h
  clear h
  have hse := slEqS a n c
  go_enter Tryz.func88, Tryz.ntmps88
  go_wp2_with (at_builtin; refine halt_in ?_)
  obtain ⟨i, hi, hz0, hz1, hz2⟩ := info_parts infoU8
  have hb0 := (Below.refl w.heap.size w).alloc (Nat.le_refl _) (.cells #[] 5)
  have hsz : (w.alloc (.cells #[] 5)).heap.size = w.heap.size + 1 := World.size_alloc _ _
  obtain ⟨v', w', hap, hown, hg⟩ := run_append_sl (w := w.alloc (.cells #[] 5)) w.heap.size 36 36 5 i _ 1 1 Tryz.underlying36 hi hz0 hz1 hz2 rfl (by decide)
    (World.ownsRow_made w (base := w.heap.size) (e := 5) (size := 1) #[] 0 (Nat.le_refl _) (by decide) rfl) (c := c) (H.out.below hb0) (bys_one l) (by omega) (by omega) (by rw [hsz]; omega)
  rw [List.nil_append] at hown
  rw [Nat.zero_add] at hown
  have hgb : Below w.heap.size w w' := hb0.grown hg (by rw [hsz]; omega) (fun k hk => by cases hk; exact Nat.le_refl _)
  clear hb0 hg hsz H
  refine Halted.out (wpList_append_run rfl _ _ _ _ rfl rfl rfl hap ?_)
  clear hap
  obtain ⟨B, d, rfl, hrm, hB, hlow⟩ := own_bytes hown
  clear hown
  go_wp2_with fail
  go_ret
  exact ⟨B, d, rfl, hrm, hB, hlow, hgb⟩
end Go.Proofs.YtlbbehfbjbbckaaGreatDoor

/-! A file is written: the program's Write. -/
set_option linter.unusedVariables false
set_option linter.unusedSimpArgs false
namespace Go.Proofs.YtlbbehfbjbbckaaGreatDoor
open Go.RowKit

def setN (N : Nat → Option Nd) (k : Nat) (x : Nd) : Nat → Option Nd := fun i => if i = k then some x else N i
theorem setN_same (N : Nat → Option Nd) (k : Nat) (x : Nd) : setN N k x k = some x := if_pos rfl
theorem setN_other {N : Nat → Option Nd} {k i : Nat} (x : Nd) (h : i ≠ k) : setN N k x i = N i := if_neg h
theorem setN_add (N : Nat → Option Nd) (d n : Nat) (x x' : Nd) (s : List UInt8) : setN (addN N d n x s) n x' = addN N d n x' s := by
  funext i
  unfold setN addN
  by_cases h : i = n
  · rw [if_pos h, if_pos h]
  · rw [if_neg h, if_neg h, if_neg h]
theorem setN_some {N : Nat → Option Nd} {k i : Nat} {x m : Nd} (h : setN N k x i = some m) : (i = k ∧ m = x) ∨ (i ≠ k ∧ N i = some m) := by
  unfold setN at h
  by_cases hi : i = k
  · rw [if_pos hi, Option.some.injEq] at h; exact .inl ⟨hi, h.symm⟩
  · rw [if_neg hi] at h; exact .inr ⟨hi, h⟩
theorem TreeAt.reset {w w' : World} {t top c k : Nat} {next : Int} {N : Nat → Option Nd} {x : Nd} (h : TreeAt w t top next c N) (hk : N k = some x) (x' : Nd) (e1 : x'.kb = x.kb) (e2 : x'.kids = x.kids) (e3 : x'.kind = x.kind)
    (hB : Blk w' k 111 (encN x')) (hd : BytesAt w' x'.dA x'.dn x'.data) (hrm : x'.dn ≤ x'.dc) (hh : ∀ j, j < w.heap.size → j ≠ k → w'.heap[j]? = w.heap[j]?) : TreeAt w' t top next c (setN N k x') := by
  have hx := h.node k x hk
  have hoth : ∀ {g : Nat} {T : TypeId} {cs : List Value}, Blk w g T cs → g ≠ k → Blk w' g T cs := fun hb hne => hb.heap (hh _ hb.lt hne)
  have hdat : ∀ {a : Addr} {cs : Array Value}, w.heap[a.block]? = some (.cells cs 5 (0, 0)) → w'.heap[a.block]? = w.heap[a.block]? := fun {a cs} hc => hh _ (Array.getElem?_eq_some_iff.1 hc).1 (fun e => by
    rw [e] at hc
    have e := Eq.trans (Eq.symm hc) hx
    simp only [Option.some.injEq, Obj.cells.injEq] at e
    exact absurd e.2.1 (by decide))
  have hmap : ∀ {j cc : Nat} {f : List UInt8 → Option Value}, MapAt w j cc f → MapAt w' j cc f := fun hM => hM.heap (hh _ hM.lt (fun e => hM.ne hx e.symm))
  refine ⟨hoth h.tree (h.tree.ne hx (by decide)), fun i m hi => ?_, fun i m hi => ?_, fun i m b hi hb => ?_, fun i m hi hb => ?_, fun i j m1 m2 b hi hj h1 h2 => ?_, fun i m s j hi hs => ?_, ?_, fun i m hi h2 => ?_, fun i m hi => ?_⟩
  · rcases setN_some hi with ⟨rfl, rfl⟩ | ⟨hne, hm⟩
    · exact hB
    · exact hoth (h.node i m hm) hne
  · rcases setN_some hi with ⟨rfl, rfl⟩ | ⟨hne, hm⟩
    · exact hd
    · exact ⟨(h.data i m hm).1.heap1 (fun a ha => by obtain ⟨cs, hc⟩ := (h.data i m hm).2 a ha; exact hdat hc), fun a ha => by obtain ⟨cs, hc⟩ := (h.data i m hm).2 a ha; exact ⟨cs, (hdat hc).trans hc⟩⟩
  · rcases setN_some hi with ⟨rfl, rfl⟩ | ⟨hne, hm⟩
    · rw [e2]; exact hmap (h.kids i x b hk (by rw [← e1]; exact hb))
    · exact hmap (h.kids i m b hm hb)
  · rcases setN_some hi with ⟨rfl, rfl⟩ | ⟨hne, hm⟩
    · rw [e2]; exact h.bare i x hk (by rw [← e1]; exact hb)
    · exact h.bare i m hm hb
  · rcases setN_some hi with ⟨rfl, rfl⟩ | ⟨hne, hm⟩
    · rcases setN_some hj with ⟨rfl, rfl⟩ | ⟨hne', hm'⟩
      · rfl
      · exact h.apart i j x m2 b hk hm' (by rw [← e1]; exact h1) h2
    · rcases setN_some hj with ⟨rfl, rfl⟩ | ⟨hne', hm'⟩
      · exact h.apart i j m1 x b hm hk h1 (by rw [← e1]; exact h2)
      · exact h.apart i j m1 m2 b hm hm' h1 h2
  · have : ∃ q, N j = some q := by
      rcases setN_some hi with ⟨rfl, rfl⟩ | ⟨hne, hm⟩
      · exact h.closed i x s j hk (by rw [← e2]; exact hs)
      · exact h.closed i m s j hm hs
    obtain ⟨q, hq⟩ := this
    by_cases hj : j = k
    · subst hj; exact ⟨_, setN_same ..⟩
    · exact ⟨q, (setN_other x' hj).trans hq⟩
  · obtain ⟨r, hr, hr2⟩ := h.root
    by_cases hj : top = k
    · subst hj
      rw [hk, Option.some.injEq] at hr
      subst hr
      exact ⟨_, setN_same .., e3.trans hr2⟩
    · exact ⟨r, (setN_other x' hj).trans hr, hr2⟩
  · rcases setN_some hi with ⟨rfl, rfl⟩ | ⟨hne, hm⟩
    · rw [e1]; exact h.dirs i x hk (by rw [← e3]; exact h2)
    · exact h.dirs i m hm h2
  · rcases setN_some hi with ⟨rfl, rfl⟩ | ⟨hne, hm⟩
    · exact hrm
    · exact h.room i m hm
def wrote (x : Nd) (m : Mt) (A : Option Addr) (n c : Nat) (l : List UInt8) : Nd := { x with m0 := m.m0, m1 := m.m1, m2 := m.m2, m3 := m.m3, m4 := m.m4, dA := A, dn := n, dc := c, data := l }
theorem wrote_blk {w : World} {k : Nat} {x : Nd} (h : Blk w k 111 (encN x)) (B : Option Addr) (n d : Nat) (m : Mt) (l : List UInt8) :
    Blk ((((((w.setCell ⟨k, 10, none⟩ (.slice B n d)).setCell ⟨k, 4, none⟩ (.int .i64 m.m0)).setCell ⟨k, 5, none⟩ (.int .i64 m.m1)).setCell ⟨k, 6, none⟩ (.int .i64 m.m2)).setCell ⟨k, 7, none⟩ (.int .i64 m.m3)).setCell ⟨k, 8, none⟩ (.int .i64 m.m4)) k 111 (encN (wrote x m B n d l)) ∧
    Only (fun j => j = k) w ((((((w.setCell ⟨k, 10, none⟩ (.slice B n d)).setCell ⟨k, 4, none⟩ (.int .i64 m.m0)).setCell ⟨k, 5, none⟩ (.int .i64 m.m1)).setCell ⟨k, 6, none⟩ (.int .i64 m.m2)).setCell ⟨k, 7, none⟩ (.int .i64 m.m3)).setCell ⟨k, 8, none⟩ (.int .i64 m.m4)) ∧
    ∀ j, j ≠ k → ((((((w.setCell ⟨k, 10, none⟩ (.slice B n d)).setCell ⟨k, 4, none⟩ (.int .i64 m.m0)).setCell ⟨k, 5, none⟩ (.int .i64 m.m1)).setCell ⟨k, 6, none⟩ (.int .i64 m.m2)).setCell ⟨k, 7, none⟩ (.int .i64 m.m3)).setCell ⟨k, 8, none⟩ (.int .i64 m.m4)).heap[j]? = w.heap[j]? := by
  refine ⟨(((((h.set 10 _).set 4 _).set 5 _).set 6 _).set 7 _).set 8 _, (((((Only.set (P := fun j => j = k) w ⟨k, 10, none⟩ _ rfl).trans (Only.set _ ⟨k, 4, none⟩ _ rfl)).trans (Only.set _ ⟨k, 5, none⟩ _ rfl)).trans (Only.set _ ⟨k, 6, none⟩ _ rfl)).trans (Only.set _ ⟨k, 7, none⟩ _ rfl)).trans (Only.set _ ⟨k, 8, none⟩ _ rfl), fun j hj => ?_⟩
  rw [Below.heap_setCell _ _ _ _ hj, Below.heap_setCell _ _ _ _ hj, Below.heap_setCell _ _ _ _ hj, Below.heap_setCell _ _ _ _ hj, Below.heap_setCell _ _ _ _ hj, Below.heap_setCell _ _ _ _ hj]
theorem BytesAt.only {w w' : World} {A : Option Addr} {n k : Nat} {l : List UInt8} (h : BytesAt w A n l) (hh : ∀ j, j ≠ k → w'.heap[j]? = w.heap[j]?) {cs : List Value} (hk : Blk w k 111 cs) : BytesAt w' A n l := by
  have hd : ∀ {a : Addr} {cs : Array Value}, w.heap[a.block]? = some (.cells cs 5 (0, 0)) → w'.heap[a.block]? = w.heap[a.block]? := fun {a cs} hc => hh _ (fun e => by
    rw [e] at hc
    have e := Eq.trans (Eq.symm hc) hk
    simp only [Option.some.injEq, Obj.cells.injEq] at e
    exact absurd e.2.1 (by decide))
  exact ⟨h.1.heap1 (fun a ha => by obtain ⟨cs, hc⟩ := h.2 a ha; exact hd hc), fun a ha => by obtain ⟨cs, hc⟩ := h.2 a ha; exact ⟨cs, (hd hc).trans hc⟩⟩
theorem Blk.nobyte {w : World} {g : Nat} {T : TypeId} {cs : List Value} (h : Blk w g T cs) (hn : ∀ v, Value.int .u8 v ∉ cs) {o : Nat} {v : Int} (hc : w.cell? ⟨g, o, none⟩ = some (.int .u8 v)) : False := by
  rw [h.cell] at hc
  exact hn v (List.mem_of_getElem? hc)
theorem Sl.put {w w' : World} {A : Option Addr} {n : Nat} {l : List UInt8} {P : Nat → Prop} (h : Sl 1 w A n (bys l)) (hh : ∀ k, k < w.heap.size → ¬ P k → w'.heap[k]? = w.heap[k]?) (hP : ∀ k v o, w.cell? ⟨k, o, none⟩ = some (.int .u8 v) → ¬ P k) : Sl 1 w' A n (bys l) :=
  ⟨h.len, h.max, by
    rcases h.at_ with h0 | ⟨b, o, rfl, hc⟩
    · exact .inl h0
    · refine .inr ⟨b, o, rfl, fun j v hj => ?_⟩
      have h1 := hc j v hj
      have hv : ∃ x : Int, v = .int .u8 x := by
        obtain ⟨y, _, hy⟩ := List.mem_map.1 (List.mem_of_getElem? hj)
        exact ⟨_, hy.symm⟩
      obtain ⟨x, rfl⟩ := hv
      exact (World.cell?_of_block (a := ⟨b, o + j, none⟩) (hh b (World.block_lt_of_cell? w _ h1) (hP b x _ h1))).trans h1⟩
def kindN (N : Nat → Option Nd) (k : Nat) : Int := match N k with | some n => n.kind | none => 0
def writeL (N : Nat → Option Nd) (l : Option Nat × Option Nat × Int) : Int := if l.2.2 = 0 then (match l.1 with | none => 0 | some k => fileU (kindN N k)) else l.2.2
def writeU (N : Nat → Option Nd) (top : Nat) (p : List UInt8) (len : Nat) (m : Mt) : Int := if mayU p m = 0 then (if 65536 < len then 7 else writeL N (lookN N top p)) else mayU p m
def WritePost (w w' : World) (t top c : Nat) (next : Int) (N : Nat → Option Nd) (p : List UInt8) (er : Int) (m : Mt) (l : List UInt8) : Prop :=
  (er ≠ 0 ∧ TreeAt w' t top next c N ∧ Below w.heap.size w w') ∨
  (er = 0 ∧ ∃ d n x, lookN N top p = (none, some d, 0) ∧ Made w N ⟨1, next, m, ⟨#[]⟩, l⟩ n x ∧ TreeAt w' t top (next + 1) (c + 1) (addN N d n x (baseB p)) ∧ Only (ownT t N) w w') ∨
  (er = 0 ∧ ∃ k d x x', lookN N top p = (some k, d, 0) ∧ N k = some x ∧ fileU x.kind = 0 ∧ x'.kids = x.kids ∧ x'.kb = x.kb ∧ x'.links = x.links ∧ infN x' = ⟨x.kind, x.ino, m, x.target, l⟩ ∧ (∀ a, x'.dA = some a → w.heap.size ≤ a.block) ∧ TreeAt w' t top next c (setN N k x') ∧ Only (ownT t N) w w')
theorem look_some {w : World} {t top c : Nat} {next : Int} {N : Nat → Option Nd} (h : TreeAt w t top next c N) {p : List UInt8} {k : Nat} {d : Option Nat} (hl : lookN N top p = (some k, d, 0)) : ∃ x, N k = some x := by
  unfold lookN at hl
  by_cases h1 : rightB p = false
  · rw [if_pos h1] at hl; cases hl
  rw [if_neg h1] at hl
  by_cases h2 : p = []
  · rw [if_pos h2] at hl
    simp only [Prod.mk.injEq, Option.some.injEq] at hl
    obtain ⟨m, hm, _⟩ := h.root
    exact ⟨m, hl.1 ▸ hm⟩
  rw [if_neg h2] at hl
  cases ho : atN N (some top) (splitB (parentB p)) with
  | none => rw [ho] at hl; cases hl
  | some d' =>
    rw [ho] at hl
    cases hm : N d' with
    | none => simp only [hm] at hl; cases hl
    | some m =>
      simp only [hm] at hl
      by_cases hk : m.kind = 2
      · rw [if_pos hk] at hl
        simp only [Prod.mk.injEq] at hl
        exact h.closed d' m _ k hm hl.1
      · rw [if_neg hk] at hl; cases hl
set_option maxRecDepth 100000 in
set_option maxHeartbeats 8000000 in
theorem Write_any (t top c : Nat) (next : Int) (N : Nat → Option Nd) (p : ByteArray) (A : Option Addr) (n0 cp : Nat) (l : List UInt8) (m : Mt) (w : World) (h : TreeAt w t top next c N) (hs : Sl 1 w A n0 (bys l)) (hp : p.size ≤ 2097152) (hn0 : 0 ≤ next) (hn1 : next ≤ 1099511627776) (hc : c ≤ 1099511627776) :
    Calls Tryz.prog 39 #[.pointer (some ⟨t, 0, none⟩), .string p, .slice A n0 cp, aggM m] w fun e w' => e = .returned (.int .i64 (writeU N top p.data.toList n0 m)) ∧ WritePost w w' t top c next N p.data.toList (writeU N top p.data.toList n0 m) m l := by
  have HM := Lib.hid (fun w => may_any t p m w hp)
  have HF := Lib.hid (fun w (h : TreeAt w t top next c N) => look_any t top c next N p w h hp)
  have HT := Lib.hid h
  obtain ⟨X, hX⟩ : ∃ X : Int, writeU N top p.data.toList n0 m = X := ⟨_, rfl⟩
  have HX0 : Hid ((if mayU p.data.toList m = 0 then (if 65536 < n0 then 7 else writeL N (lookN N top p.data.toList)) else mayU p.data.toList m) = X) := Lib.hid hX
  obtain ⟨LK, hLK⟩ : ∃ LK, lookN N top p.data.toList = LK := ⟨_, rfl⟩
  have HLK := Lib.hid hLK
  rw [hX]
  rw [hLK] at HX0 HF
  clear h hX hLK
  generalize mayU p.data.toList m = er at *
  obtain ⟨a, b, cc, dd, f⟩ := m
  have b0 := Blk.new w 53 [.int .i64 a, .int .i64 b, .int .i64 cc, .int .i64 dd, .int .i64 f]
  have hb0 := (Below.refl w.heap.size w).alloc (Nat.le_refl _) (.cells #[.int .i64 a, .int .i64 b, .int .i64 cc, .int .i64 dd, .int .i64 f] 53)
  have B0 := Lib.hid b0
  have HB0 := Lib.hid hb0
  have T0 := Lib.hid (HT.out.below hb0)
  have S0 := Lib.hid (hs.below hb0)
  clear b0 hb0 HT hs
  unfold aggM at *
  obtain ⟨x0, x1, x2, x3, x4⟩ := meta_cells B0.out
  go_enter Tryz.func39, Tryz.ntmps39
  go_wp2_with fail
  generalize hwa : w.alloc _ = wa at *
  generalize hbm : w.heap.size = bm at *
  refine (HM.out _).mono ?_
  rintro e w1 ⟨rfl, hb1⟩
  have B1 := Lib.hid (B0.out.below hb1)
  have HB1 := Lib.hid (HB0.out.trans (hb1.mono (by rw [← hbm]; exact HB0.out.size)))
  have T1 := Lib.hid (T0.out.below hb1)
  have S1 := Lib.hid (S0.out.below hb1)
  clear hb1 B0 HB0 T0 HM S0 x0 x1 x2 x3 x4
  rcases (Classical.em (er = 0)).symm with he | he
  · have e1 : (er != 0) = true := by simpa using he
    have K := Lib.hid (show X = er by rw [← HX0.out, if_neg he])
    have he' := Lib.hid he
    clear he
    go_wp2_with fail
    go_ret
    exact ⟨by rw [K.out]; rfl, .inl ⟨by rw [K.out]; exact he'.out, T1.out, by rw [hbm]; exact HB1.out⟩⟩
  subst he
  have HX1 := Lib.hid (show (if 65536 < n0 then 7 else writeL N LK) = X from HX0.out)
  clear HX0
  rcases Nat.lt_or_ge 65536 n0 with h2 | h2
  · have K := Lib.hid (show X = 7 by rw [← HX1.out, if_pos h2])
    have e2 : decide (65536 < n0) = true := decide_eq_true h2
    have e3 : decide ((65536 : Int) < (n0 : Int)) = true := decide_eq_true (by omega)
    have e4 : (65536 : Int) < (n0 : Int) := by omega
    clear h2
    go_wp2_with fail
    go_ret
    exact ⟨by rw [K.out]; rfl, .inl ⟨by rw [K.out]; decide, T1.out, by rw [hbm]; exact HB1.out⟩⟩
  have e2 : decide (65536 < n0) = false := decide_eq_false (by omega)
  have e3 : decide ((65536 : Int) < (n0 : Int)) = false := decide_eq_false (by omega)
  have e4 : ¬ (65536 : Int) < (n0 : Int) := by omega
  have HX2 := Lib.hid (show writeL N LK = X by rw [← HX1.out, if_neg (by omega)])
  have HN0 := Lib.hid h2
  clear h2 HX1
  go_wp2_with fail
  refine (HF.out _ T1.out).mono ?_
  rintro e w2 ⟨rfl, hb2⟩
  have B2 := Lib.hid (B1.out.below hb2)
  have HB2 := Lib.hid (HB1.out.trans (hb2.mono (by rw [← hbm]; exact HB1.out.size)))
  have T2 := Lib.hid (T1.out.below hb2)
  have S2 := Lib.hid (S1.out.below hb2)
  clear hb2 HF B1 HB1 T1 S1 e2 e3 e4
  obtain ⟨lo, ld, le⟩ := LK
  unfold tupL
  rcases (Classical.em (le = 0)).symm with hle | hle
  · have e1 : (le != 0) = true := by simpa using hle
    have K := Lib.hid (show X = le by rw [← HX2.out]; exact if_neg hle)
    have he' := Lib.hid hle
    clear hle HX2
    go_wp2_with fail
    go_ret
    exact ⟨by rw [K.out]; rfl, .inl ⟨by rw [K.out]; exact he'.out, T2.out, by rw [hbm]; exact HB2.out⟩⟩
  subst hle
  cases lo with
  | none =>
    have K := Lib.hid (show X = 0 from HX2.out.symm)
    clear HX2
    rw [show ptrO none = .pointer none from rfl]
    obtain ⟨d, md, kb, hl, hd, hkb, hfr⟩ := look_dir T2.out (p := p.data.toList) (by rw [HLK.out]; rfl) (fun e => fresh_nil (N := N) (top := top) (by have := HLK.out; rw [e] at this; rw [this]; rfl))
    obtain rfl : ld = some d := by have := HLK.out.symm.trans hl; simpa using this
    rw [ptrO_some]
    unfold ptrN
    clear hfr hl
    have HD := Lib.hid hd
    have HKB := Lib.hid hkb
    clear hd hkb
    go_wp2_with fail
    have hx := NewAt.leaf T2.out ⟨1, 0, 0, 0, 0, 0, 0, 0, 0, ⟨#[]⟩, none, 0, 0, [], none, fun _ => none⟩ (by simp) rfl (fun _ => rfl) rfl rfl rfl
    have hb5 := (Below.refl w2.heap.size w2).alloc (Nat.le_refl _) (.cells (encN ⟨1, 0, 0, 0, 0, 0, 0, 0, 0, ⟨#[]⟩, none, 0, 0, [], none, fun _ => none⟩).toArray 111)
    have hz2 : bm ≤ w2.heap.size := Nat.le_trans (by rw [← hbm]; exact Nat.le_refl _) HB2.out.size
    refine (put_any t top c d w2.heap.size kb next N md _ p _ (T2.out.below hb5) hx HD.out HKB.out hp hn0 hn1 hc).mono ?_
    rintro e w6 ⟨rfl, hT6, hO6⟩
    have T6 := Lib.hid hT6
    have hP6 : ∀ j, j < w2.heap.size → (j = t ∨ j = w2.heap.size ∨ j = kb) → ownT t N j := fun j hj h => by
      rcases h with rfl | rfl | rfl
      · exact .inl rfl
      · omega
      · exact .inr (.inr ⟨d, md, HD.out, HKB.out⟩)
    have O6 := Lib.hid (Only.trans (Only.of (P := ownT t N) (by rw [hbm]; exact HB2.out)) ((Only.trans (Only.of hb5) hO6).mono hP6))
    have hbt : bm ≠ t ∧ bm ≠ w2.heap.size ∧ bm ≠ kb := ⟨B2.out.ne T2.out.tree (by decide), by have := B2.out.lt; omega, fun e => (T2.out.kids d md kb HD.out HKB.out).ne B2.out e⟩
    have B6 := Lib.hid ((B2.out.below hb5).heap (hO6.block bm (Nat.lt_of_lt_of_le B2.out.lt hb5.size) (fun h => by rcases h with h | h | h; exact hbt.1 h; exact hbt.2.1 h; exact hbt.2.2 h)))
    have HS6 := Lib.hid ((S2.out.below hb5).put (P := fun k => k = t ∨ k = w2.heap.size ∨ k = kb) hO6.block (fun j v o hc h => by
      have T5 := T2.out.below hb5
      rcases h with rfl | rfl | rfl
      · exact Blk.nobyte T5.tree (by intro v hv; simp [ptrN] at hv) hc
      · exact Blk.nobyte hx.blk (by intro v hv; simp [encN] at hv) hc
      · obtain ⟨es, cl, he⟩ := (T5.kids d md _ HD.out HKB.out).obj
        unfold World.cell? at hc
        rw [he] at hc
        cases hc))
    clear hx hb5 hT6 hO6 hP6 hbt
    go_wp2_with fail
    refine (Clone_any A n0 cp l w6 HS6.out (by have := HN0.out; omega)).mono ?_
    rintro e w4 ⟨B, dcap, rfl, hrm4, hB4, hlow4, hb4⟩
    have T4 := Lib.hid (T6.out.below hb4)
    have y0 := (T4.out.node w2.heap.size _ (addN_new ..))
    obtain ⟨_, _, _, _, _, _, _, _, _, _, z10, _⟩ := node_cells y0
    have y10 := y0.frozen 10
    have hkb : bm ≠ w2.heap.size := (B6.out.below hb4).ne y0 (by decide)
    have y5 := y0.set 10 (.slice B n0 dcap)
    have b5 := (B6.out.below hb4).other (a := ⟨w2.heap.size, 10, none⟩) hkb (.slice B n0 dcap)
    obtain ⟨x0, x1, x2, x3, x4⟩ := meta_cells b5
    clear x0 x1 x2 x3 x4
    have x0 := b5.cell 0
    have x1 := b5.cell 1
    have x2 := b5.cell 2
    have x3 := b5.cell 3
    have x4 := b5.cell 4
    have v4 := y5.cell 4
    have v5 := y5.cell 5
    have v6 := y5.cell 6
    have v7 := y5.cell 7
    have v8 := y5.cell 8
    have g4 := y5.frozen 4
    have g5 := y5.frozen 5
    have g6 := y5.frozen 6
    have g7 := y5.frozen 7
    have g8 := y5.frozen 8
    simp only [encN, List.getElem?_cons_zero, List.getElem?_cons_succ, List.set_cons_zero, List.set_cons_succ] at x0 x1 x2 x3 x4 v4 v5 v6 v7 v8
    have Y5 := Lib.hid y5
    have Y0 := Lib.hid y0
    have BY4 := Lib.hid hB4
    clear y5 b5 y0
    go_wp2_with fail
    go_ret
    obtain ⟨hB9, hO9, hh9⟩ := wrote_blk Y0.out B n0 dcap ⟨a, b, cc, dd, f⟩ l
    have T9 := T4.out.reset (addN_new ..) (wrote _ ⟨a, b, cc, dd, f⟩ B n0 dcap l) rfl rfl rfl hB9 ((BY4.out).only hh9 Y0.out) hrm4 (fun j _ hj => hh9 j hj)
    rw [setN_add] at T9
    have O9 : Only (fun j => ownT t N j ∨ j = w2.heap.size) w _ := Only.trans (Only.trans (O6.out.mono (fun j _ hj => .inl hj)) (Only.of hb4)) (hO9.mono (fun j _ hj => .inr hj))
    have hXX := K.out
    subst hXX
    exact ⟨by rfl, .inr (.inl ⟨rfl, d, w2.heap.size, _, HLK.out, ⟨T2.out.new_none (Nat.le_refl _), by rw [hbm]; exact hz2, (fun b hb => by cases hb), (fun _ => rfl), rfl, rfl, (fun a ha => by have h1 := hlow4 a ha; have h2 := O6.out.size; omega)⟩, T9, O9.mono (fun j hj h => h.elim id (fun e => by omega))⟩)⟩
  | some k =>
    obtain ⟨x, hx⟩ := look_some T2.out HLK.out
    have HX3 := Lib.hid (show fileU x.kind = X by rw [← HX2.out]; unfold writeL kindN; rw [if_pos rfl]; simp only [hx])
    clear HX2
    have HK := Lib.hid hx
    have HFI := Lib.hid (fun w h => file_any k x w h)
    rw [HX3.out] at HFI
    clear hx
    rw [show ptrO (some k) = .pointer (some ⟨k, 0, none⟩) from rfl]
    unfold ptrN at *
    go_wp2_with fail
    refine (HFI.out _ (T2.out.node k x HK.out)).mono ?_
    rintro e w3 ⟨rfl, rfl⟩
    by_cases hX0 : X = 0
    · have HX0 := Lib.hid hX0
      have e1 : (X != 0) = false := by rw [hX0]; rfl
      clear hX0
      go_wp2_with fail
      refine (Clone_any A n0 cp l w3 S2.out (by have := HN0.out; omega)).mono ?_
      rintro e w4 ⟨B, dcap, rfl, hrm4, hB4, hlow4, hb4⟩
      have T4 := Lib.hid (T2.out.below hb4)
      have y0 := (T4.out.node k x HK.out)
      obtain ⟨_, _, _, _, _, _, _, _, _, _, z10, _⟩ := node_cells y0
      have y10 := y0.frozen 10
      have hkb : bm ≠ k := (B2.out.below hb4).ne y0 (by decide)
      have y5 := y0.set 10 (.slice B n0 dcap)
      have b5 := (B2.out.below hb4).other (a := ⟨k, 10, none⟩) hkb (.slice B n0 dcap)
      obtain ⟨x0, x1, x2, x3, x4⟩ := meta_cells b5
      clear x0 x1 x2 x3 x4
      have x0 := b5.cell 0
      have x1 := b5.cell 1
      have x2 := b5.cell 2
      have x3 := b5.cell 3
      have x4 := b5.cell 4
      have v4 := y5.cell 4
      have v5 := y5.cell 5
      have v6 := y5.cell 6
      have v7 := y5.cell 7
      have v8 := y5.cell 8
      have g4 := y5.frozen 4
      have g5 := y5.frozen 5
      have g6 := y5.frozen 6
      have g7 := y5.frozen 7
      have g8 := y5.frozen 8
      simp only [encN, List.getElem?_cons_zero, List.getElem?_cons_succ, List.set_cons_zero, List.set_cons_succ] at x0 x1 x2 x3 x4 v4 v5 v6 v7 v8
      have Y5 := Lib.hid y5
      have Y0 := Lib.hid y0
      have BY4 := Lib.hid hB4
      clear y5 b5 y0
      go_wp2_with fail
      go_ret
      obtain ⟨hB9, hO9, hh9⟩ := wrote_blk Y0.out B n0 dcap ⟨a, b, cc, dd, f⟩ l
      have T9 := T4.out.reset HK.out (wrote x ⟨a, b, cc, dd, f⟩ B n0 dcap l) rfl rfl rfl hB9 ((BY4.out).only hh9 Y0.out) hrm4 (fun j _ hj => hh9 j hj)
      have O9 : Only (ownT t N) w _ := Only.trans (Only.of (by rw [hbm]; exact HB2.out.trans (hb4.mono (by rw [← hbm]; exact HB2.out.size)))) (hO9.mono (fun j _ hj => by subst hj; exact .inr (.inl ⟨x, HK.out⟩)))
      have hXX := HX0.out
      subst hXX
      exact ⟨by rfl, .inr (.inr ⟨rfl, k, ld, x, wrote x ⟨a, b, cc, dd, f⟩ B n0 dcap l, HLK.out, HK.out, HX3.out, rfl, rfl, rfl, rfl, (fun a ha => by have h1 := hlow4 a ha; have h2 := HB2.out.size; omega), T9, O9⟩)⟩
    · have e1 : (X != 0) = true := by simpa using hX0
      go_wp2_with fail
      go_ret
      exact ⟨by rfl, .inl ⟨hX0, T2.out, by rw [hbm]; exact HB2.out⟩⟩
end Go.Proofs.YtlbbehfbjbbckaaGreatDoor

/-! The keys of a map by strings; how many; an entry that goes. -/
set_option linter.unusedVariables false
set_option linter.unusedSimpArgs false
namespace Go.Proofs.YtlbbehfbjbbckaaGreatDoor
open Go.RowKit
open Go.Maps (Keyed string_keyed)
open Go.WideMaps (keyOf_string_mk)

theorem strKeys_mem {H : Type} {es : List (Lit × DataW H)} (hk : ∀ p ∈ es, ∃ x, p.1 = .string x) (x : List UInt8) : x ∈ strKeys (.map es) ↔ Maps.has (.map es) (.string x) = true := by
  rw [Maps.has_eq, List.any_eq_true]
  show x ∈ es.map (fun p => strOf p.1) ↔ _
  rw [List.mem_map]
  constructor
  · rintro ⟨p, hp', rfl⟩
    obtain ⟨a, ha⟩ := hk p hp'
    exact ⟨p, hp', by rw [ha]; simp [Lit.sameKey, strOf]⟩
  · rintro ⟨p, hp', hs⟩
    obtain ⟨a, ha⟩ := hk p hp'
    rw [ha] at hs
    exact ⟨p, hp', by rw [ha]; simpa [Lit.sameKey, strOf] using hs⟩
theorem strKeys_nodup {H : Type} {es : List (Lit × DataW H)} (hp : es.Pairwise (fun p q => p.1 ≠ q.1)) (hk : ∀ p ∈ es, ∃ x, p.1 = .string x) : (strKeys (.map es)).Nodup := by
  show (es.map fun p => strOf p.1).Nodup
  refine List.pairwise_map.2 (hp.imp_of_mem fun {p q} hp' hq' hne e => hne ?_)
  obtain ⟨a, ha⟩ := hk p hp'
  obtain ⟨b, hb⟩ := hk q hq'
  rw [ha, hb] at e ⊢
  exact congrArg _ e
/-- A list of all keys, each once. -/
def KeysL (f : List UInt8 → Option Value) (ks : List (List UInt8)) : Prop := ks.Nodup ∧ ∀ x, x ∈ ks ↔ (f x).isSome = true
theorem KeysL.perm {f : List UInt8 → Option Value} {a b : List (List UInt8)} (h : KeysL f a) (k : KeysL f b) : a.Perm b :=
  (List.perm_ext_iff_of_nodup h.1 k.1).2 fun x => (h.2 x).trans (k.2 x).symm
theorem MapAt.keys {w : World} {b n : Nat} {f : List UInt8 → Option Value} (h : MapAt w b n f) : ∃ ks, KeysL f ks ∧ (∀ x ∈ ks, x.length ≤ maxLen) ∧ ks.length ≤ n ∧
    ∀ {t e : TypeId}, Tryz.prog.underlying t = some (.map 9 e) → ∀ ty, (Builtin.len_ #[t] ty #[.map (some b)]).run Tryz.prog w = .ok (.int .i64 ks.length) w := by
  obtain ⟨D, hown, hm, h2⟩ := h
  obtain ⟨es, hD, hpw, _⟩ := hown.entries strLaw
  obtain ⟨es', hD', hko⟩ := hown.keysOf
  obtain rfl : es = es' := by rw [hD] at hD'; simpa using hD'
  have hk : ∀ p ∈ es, ∃ x, p.1 = .string x := fun p hp => by
    obtain ⟨v, hv⟩ := hko p hp
    obtain ⟨x, _, hx, _⟩ := Maps.keyOf_str Tryz.underlying9 hv
    exact ⟨x, hx⟩
  have hlen : (strKeys D).length = Maps.size D := by subst hD; exact List.length_map _
  refine ⟨strKeys D, ⟨?_, fun x => ?_⟩, strKeys_le hown Tryz.underlying9, by rw [hlen]; exact hown.size_le, fun {t e} ht ty => by rw [hlen]; exact hown.len ht ty⟩
  · subst hD; exact strKeys_nodup hpw hk
  · rw [← (h2 x).1]
    subst hD; exact strKeys_mem hk x
def delM (f : List UInt8 → Option Value) (s : List UInt8) : List UInt8 → Option Value := fun x => if x = s then none else f x
theorem MapAt.drop {w : World} {b n : Nat} {f : List UInt8 → Option Value} (h : MapAt w b n f) {t e : TypeId} (ht : Tryz.prog.underlying t = some (.map 9 e)) {s : ByteArray} (hs : s.size ≤ maxLen) (ty : TypeId) :
    ∃ w', (Builtin.delete_ #[t, 9] ty #[.map (some b), .string s]).run Tryz.prog w = .ok (.tuple #[]) w' ∧ MapAt w' b n (delM f s.data.toList) ∧ w.grownBy w' (some b) := by
  obtain ⟨D, h, hm, h2⟩ := h
  obtain ⟨w', hrun, ho, hg⟩ := h.drop strLaw ht (keyOf_string_mk Tryz.underlying9 hs) ty
  have hk : WideAt.IsKeyLit (.string s.data.toList) := trivial
  refine ⟨w', hrun, ⟨_, ho, hm.del _, fun x => ?_⟩, hg.grown⟩
  unfold delM
  by_cases hx : x = s.data.toList
  · subst hx
    rw [if_pos rfl]
    exact ⟨Maps.has_del_same, fun zd => Maps.atKey_del_same _⟩
  · rw [if_neg hx]
    have hne : Lit.string x ≠ Lit.string s.data.toList := fun e => hx (by injection e)
    exact ⟨by rw [Maps.has_del_other hne]; exact (h2 x).1, fun zd => by rw [Maps.atKey_del_other hne]; exact (h2 x).2 zd⟩
end Go.Proofs.YtlbbehfbjbbckaaGreatDoor

/-! What a thing is told: the program's tell and Stat. -/
set_option linter.unusedVariables false
set_option linter.unusedSimpArgs false
namespace Go.Proofs.YtlbbehfbjbbckaaGreatDoor
open Go.RowKit

theorem results_cell_tmp_row {P : Program} {fn : Func} {p u : Tmp} {ty : TypeId} (h : fn.results = #[.cell p ty, .tmp u]) (tmps : Array Value) (w : World) (g : Nat) (t : TypeId) (cs : Array Value) (fr : Nat × Nat) (d : TypeDesc)
    (hp : tmps.getD p undef = .pointer (some ⟨g, 0, none⟩)) (hg : w.heap[g]? = some (.cells cs t fr))
    (hu : P.underlying ty = some d) (hd : (match d with | .struct _ | .array _ _ => true | _ => false) = true) (hi : (P.info? ty).map (·.size) = some cs.size) :
    (results fn tmps).run P w = .ok (.tuple #[.agg cs, tmps.getD u undef]) w := by
  rw [results_cell_tmp h, hp]
  simp [run_loadVar_row w g t ty cs fr d hg hu hd hi, Result.andThen, asAddr]
/-- What is told of a thing. -/
structure Stt where
  kind : Int
  ino : Int
  size : Int
  links : Int
  mt : Mt
  target : ByteArray
def encT (s : Stt) : List Value := [.int .i64 s.kind, .int .i64 s.ino, .int .i64 s.size, .int .i64 s.links, .int .i64 s.mt.m0, .int .i64 s.mt.m1, .int .i64 s.mt.m2, .int .i64 s.mt.m3, .int .i64 s.mt.m4, .string s.target]
def aggT (s : Stt) : Value := .agg (encT s).toArray
def noT : Stt := ⟨0, 0, 0, 0, ⟨0, 0, 0, 0, 0⟩, ⟨#[]⟩⟩
/-- What a thing with so many things in it is told as. -/
def sizeN (n : Nd) (k : Nat) : Int := if n.kind = 1 then (n.dn : Int) else if n.kind = 2 then (k : Int) else if n.kind = 3 then (n.target.size : Int) else n.size
def tellN (n : Nd) (k : Nat) : Stt := ⟨n.kind, n.ino, sizeN n k, n.links, ⟨n.m0, n.m1, n.m2, n.m3, n.m4⟩, n.target⟩
/-- How many things stand in one. -/
def KidsN (n : Nd) (k : Nat) : Prop := ∃ ks : List (List UInt8), ks.Nodup ∧ (∀ x, x ∈ ks ↔ (n.kids x).isSome = true) ∧ k = ks.length
theorem KidsN.same {n : Nd} {a b : Nat} (h : KidsN n a) (k : KidsN n b) : a = b := by
  obtain ⟨u, hu, h2, rfl⟩ := h
  obtain ⟨v, hv, k2, rfl⟩ := k
  exact ((List.perm_ext_iff_of_nodup hu hv).2 fun x => (h2 x).trans (k2 x).symm).length_eq
theorem lenNilM (ty : TypeId) (w : World) : (Builtin.len_ #[109] ty #[.map none]).run Tryz.prog w = .ok (.int .i64 0) w := Maps.len_nil Tryz.underlying109 ty
/-- len of what stands in a thing. -/
theorem TreeAt.klen {w : World} {t top c : Nat} {next : Int} {N : Nat → Option Nd} (h : TreeAt w t top next c N) {i : Nat} {n : Nd} (hi : N i = some n) : ∃ k, KidsN n k ∧ k ≤ c ∧ ∀ ty, (Builtin.len_ #[109] ty #[.map n.kb]).run Tryz.prog w = .ok (.int .i64 (k : Nat)) w := by
  cases hk : n.kb with
  | none => exact ⟨0, ⟨[], List.nodup_nil, fun x => by rw [h.bare i n hi hk x]; simp, rfl⟩, Nat.zero_le _, fun ty => lenNilM ty w⟩
  | some b =>
    obtain ⟨ks, hks, hl, hn, hr⟩ := (h.kids i n b hi hk).keys
    exact ⟨ks.length, ⟨ks, hks.1, fun x => (hks.2 x).trans (by simp), rfl⟩, hn, fun ty => hr Tryz.underlying109 ty⟩
theorem heap_alloc_at (w : World) (A B : Obj) : ((w.alloc A).alloc B).heap[w.heap.size]? = some A :=
  (heap_alloc_old (w.alloc A) B (by rw [World.size_alloc]; omega)).trans (heap_alloc_new w A)
theorem two_alloc (w : World) (A B : Obj) : Below w.heap.size w ((w.alloc A).alloc B) := ((Below.refl w.heap.size w).alloc (Nat.le_refl _) A).alloc (by rw [World.size_alloc]; omega) B
set_option maxRecDepth 100000 in
set_option maxHeartbeats 4000000 in
theorem tell_any (t top c : Nat) (next : Int) (N : Nat → Option Nd) (i : Nat) (n : Nd) (w : World) (h : TreeAt w t top next c N) (hi : N i = some n) :
    Calls Tryz.prog 75 #[ptrN i] w fun e w' => (∃ k, KidsN n k ∧ k ≤ c ∧ e = .returned (aggT (tellN n k))) ∧ Below w.heap.size w w' := by
  have hz0 := (Below.refl w.heap.size w).alloc (Nat.le_refl _) (.cells #[.int .i64 0, .int .i64 0, .int .i64 0, .int .i64 0, .int .i64 0, .int .i64 0, .int .i64 0, .int .i64 0, .int .i64 0, .string ⟨#[]⟩] 55)
  have hz1 := hz0.alloc (by rw [World.size_alloc]; omega) (.cells (encT ⟨n.kind, n.ino, n.size, n.links, ⟨n.m0, n.m1, n.m2, n.m3, n.m4⟩, n.target⟩).toArray 55)
  have TA := h.below hz0
  have TB := h.below hz1
  obtain ⟨k, hk, hkc, hlen⟩ := TB.klen hi
  have hlen := hlen 3
  have HK := Lib.hid hk
  have HZ := Lib.hid hz1
  obtain ⟨n0, n1, n2, n3, n4, n5, n6, n7, n8, n9, _, _⟩ := node_cells (TA.node i n hi)
  obtain ⟨_, _, _, _, _, _, _, _, _, _, b10, b11⟩ := node_cells (TB.node i n hi)
  unfold encT at hlen b10 b11
  clear h TA TB hz0 hz1 hk
  unfold ptrN
  rcases Classical.em (n.kind = 1) with h1 | h1
  · have e1 : (n.kind == 1) = true := by simpa using h1
    have K := Lib.hid (show sizeN n k = n.dn by unfold sizeN; rw [if_pos h1])
    clear h1
    go_enter Tryz.func75, Tryz.ntmps75
    go_wp2_with fail
    refine bodyPost_ret (results_cell_row rfl _ _ w.heap.size 55 _ _ _ rfl (heap_alloc_at w _ _) Tryz.underlying55 rfl (by kernel_rfl)) rfl ⟨⟨k, HK.out, hkc, ?_⟩, two_alloc w _ _⟩
    unfold tellN
    rw [K.out]
    rfl
  rcases Classical.em (n.kind = 2) with h2 | h2
  · have e2 : (n.kind == 2) = true := by simpa using h2
    have e1 : (n.kind == 1) = false := by simpa using h1
    have K := Lib.hid (show sizeN n k = k by unfold sizeN; rw [if_neg h1, if_pos h2])
    clear h1 h2
    go_enter Tryz.func75, Tryz.ntmps75
    go_wp2_with fail
    refine bodyPost_ret (results_cell_row rfl _ _ w.heap.size 55 _ _ _ rfl (heap_alloc_at w _ _) Tryz.underlying55 rfl (by kernel_rfl)) rfl ⟨⟨k, HK.out, hkc, ?_⟩, two_alloc w _ _⟩
    unfold tellN
    rw [K.out]
    rfl
  rcases Classical.em (n.kind = 3) with h3 | h3
  · have e3 : (n.kind == 3) = true := by simpa using h3
    have e1 : (n.kind == 1) = false := by simpa using h1
    have e2 : (n.kind == 2) = false := by simpa using h2
    have K := Lib.hid (show sizeN n k = n.target.size by unfold sizeN; rw [if_neg h1, if_neg h2, if_pos h3])
    clear h1 h2 h3
    go_enter Tryz.func75, Tryz.ntmps75
    go_wp2_with fail
    refine bodyPost_ret (results_cell_row rfl _ _ w.heap.size 55 _ _ _ rfl (heap_alloc_at w _ _) Tryz.underlying55 rfl (by kernel_rfl)) rfl ⟨⟨k, HK.out, hkc, ?_⟩, two_alloc w _ _⟩
    unfold tellN
    rw [K.out]
    rfl
  have e1 : (n.kind == 1) = false := by simpa using h1
  have e2 : (n.kind == 2) = false := by simpa using h2
  have e3 : (n.kind == 3) = false := by simpa using h3
  have K := Lib.hid (show sizeN n k = n.size by unfold sizeN; rw [if_neg h1, if_neg h2, if_neg h3])
  clear h1 h2 h3
  go_enter Tryz.func75, Tryz.ntmps75
  go_wp2_with fail
  refine bodyPost_ret (results_cell_row rfl _ _ w.heap.size 55 _ _ _ rfl (heap_alloc_at w _ _) Tryz.underlying55 rfl (by kernel_rfl)) rfl ⟨⟨k, HK.out, hkc, ?_⟩, two_alloc w _ _⟩
  unfold tellN
  rw [K.out]
  rfl

theorem stat_facts {w : World} {g : Nat} {s : Stt} (h : Blk w g 55 (encT s)) : (w.cell? ⟨g, 0, none⟩ = some (.int .i64 s.kind) ∧ w.cell? ⟨g, 1, none⟩ = some (.int .i64 s.ino) ∧ w.cell? ⟨g, 2, none⟩ = some (.int .i64 s.size) ∧ w.cell? ⟨g, 3, none⟩ = some (.int .i64 s.links) ∧ w.cell? ⟨g, 4, none⟩ = some (.int .i64 s.mt.m0) ∧ w.cell? ⟨g, 5, none⟩ = some (.int .i64 s.mt.m1) ∧ w.cell? ⟨g, 6, none⟩ = some (.int .i64 s.mt.m2) ∧ w.cell? ⟨g, 7, none⟩ = some (.int .i64 s.mt.m3) ∧ w.cell? ⟨g, 8, none⟩ = some (.int .i64 s.mt.m4) ∧ w.cell? ⟨g, 9, none⟩ = some (.string s.target)) ∧
    w.frozen? ⟨g, 0, none⟩ = false ∧ w.frozen? ⟨g, 1, none⟩ = false ∧ w.frozen? ⟨g, 2, none⟩ = false ∧ w.frozen? ⟨g, 3, none⟩ = false ∧ w.frozen? ⟨g, 4, none⟩ = false ∧ w.frozen? ⟨g, 5, none⟩ = false ∧ w.frozen? ⟨g, 6, none⟩ = false ∧ w.frozen? ⟨g, 7, none⟩ = false ∧ w.frozen? ⟨g, 8, none⟩ = false ∧ w.frozen? ⟨g, 9, none⟩ = false :=
  ⟨⟨h.cell 0, h.cell 1, h.cell 2, h.cell 3, h.cell 4, h.cell 5, h.cell 6, h.cell 7, h.cell 8, h.cell 9⟩, h.frozen 0, h.frozen 1, h.frozen 2, h.frozen 3, h.frozen 4, h.frozen 5, h.frozen 6, h.frozen 7, h.frozen 8, h.frozen 9⟩
theorem Blk.set10 {w : World} {g : Nat} {T : TypeId} {a0 a1 a2 a3 a4 a5 a6 a7 a8 a9 : Value} (h : Blk w g T [a0, a1, a2, a3, a4, a5, a6, a7, a8, a9]) (b0 b1 b2 b3 b4 b5 b6 b7 b8 b9 : Value) :
    Blk ((((((((((w.setCell ⟨g, 0, none⟩ b0).setCell ⟨g, 1, none⟩ b1).setCell ⟨g, 2, none⟩ b2).setCell ⟨g, 3, none⟩ b3).setCell ⟨g, 4, none⟩ b4).setCell ⟨g, 5, none⟩ b5).setCell ⟨g, 6, none⟩ b6).setCell ⟨g, 7, none⟩ b7).setCell ⟨g, 8, none⟩ b8).setCell ⟨g, 9, none⟩ b9) g T [b0, b1, b2, b3, b4, b5, b6, b7, b8, b9] :=
  (((((((((h.set 0 b0).set 1 b1).set 2 b2).set 3 b3).set 4 b4).set 5 b5).set 6 b6).set 7 b7).set 8 b8).set 9 b9
theorem below_set10 {B : Nat} {w0 w : World} {g : Nat} (h : Below B w0 w) (hg : B ≤ g) (b0 b1 b2 b3 b4 b5 b6 b7 b8 b9 : Value) :
    Below B w0 ((((((((((w.setCell ⟨g, 0, none⟩ b0).setCell ⟨g, 1, none⟩ b1).setCell ⟨g, 2, none⟩ b2).setCell ⟨g, 3, none⟩ b3).setCell ⟨g, 4, none⟩ b4).setCell ⟨g, 5, none⟩ b5).setCell ⟨g, 6, none⟩ b6).setCell ⟨g, 7, none⟩ b7).setCell ⟨g, 8, none⟩ b8).setCell ⟨g, 9, none⟩ b9) :=
  (((((((((h.setCell hg _).setCell hg _).setCell hg _).setCell hg _).setCell hg _).setCell hg _).setCell hg _).setCell hg _).setCell hg _).setCell hg _
def statN (N : Nat → Option Nd) (l : Option Nat × Option Nat × Int) (s : Stt) : Prop :=
  match l with
  | (some i, _, 0) => ∃ n k, N i = some n ∧ KidsN n k ∧ s = tellN n k
  | _ => s = noT
set_option maxRecDepth 100000 in
set_option maxHeartbeats 4000000 in
theorem Stat_any (t top c : Nat) (next : Int) (N : Nat → Option Nd) (p : ByteArray) (w : World) (h : TreeAt w t top next c N) (hp : p.size ≤ 2097152) :
    Calls Tryz.prog 26 #[.pointer (some ⟨t, 0, none⟩), .string p] w fun e w' => (∃ s, statN N (thereU (lookN N top p.data.toList)) s ∧ e = .returned (.tuple #[aggT s, .int .i64 (thereU (lookN N top p.data.toList)).2.2])) ∧ Below w.heap.size w w' := by
  have hz0 := (Below.refl w.heap.size w).alloc (Nat.le_refl _) (.cells #[.int .i64 0, .int .i64 0, .int .i64 0, .int .i64 0, .int .i64 0, .int .i64 0, .int .i64 0, .int .i64 0, .int .i64 0, .string ⟨#[]⟩] 55)
  have B0 := Blk.new w 55 (encT noT)
  have HTh := Lib.hid (there_any t top c next N p _ (h.below hz0) hp)
  have HT := Lib.hid (h.below hz0)
  have HB := Lib.hid B0
  have HZ := Lib.hid hz0
  obtain ⟨LK, hLK⟩ : ∃ LK, lookN N top p.data.toList = LK := ⟨_, rfl⟩
  have HLS := Lib.hid (fun k d (hl : LK = (some k, d, 0)) => look_some h (hLK.trans hl))
  rw [hLK] at HTh ⊢
  clear B0 hz0 h hLK
  have TU := Lib.hid (show ∀ k d, thereU LK = (some k, d, 0) → LK = (some k, d, 0) from fun k d hk => by
    unfold thereU at hk
    split at hk
    · have := congrArg (fun x : Option Nat × Option Nat × Int => x.2.2) hk
      simp at this
    · exact hk)
  have HNo := Lib.hid (show (thereU LK).2.2 = 0 → (thereU LK).1 ≠ none from fun h0 h1 => by
    unfold thereU at h0 h1
    split at h0
    · simp at h0
    · rename_i hne
      rw [if_neg hne] at h1
      exact hne ⟨h0, h1⟩)
  generalize thereU LK = R at *
  go_enter Tryz.func26, Tryz.ntmps26
  go_wp2_with fail
  refine HTh.out.mono ?_
  rintro e w1 ⟨rfl, hb1⟩
  have T1 := Lib.hid (HT.out.below hb1)
  have B1 := Lib.hid (HB.out.below hb1)
  have Z1 := Lib.hid (HZ.out.trans (hb1.mono HZ.out.size))
  clear hb1 HTh HT HB HZ
  obtain ⟨ro, rd, re⟩ := R
  unfold tupL
  rcases Classical.em (re = 0) with he | he
  · subst he
    cases ro with
    | none => exact absurd rfl (HNo.out rfl)
    | some k =>
      obtain ⟨n, hn⟩ := HLS.out k rd (TU.out k rd rfl)
      rw [show ptrO (some k) = .pointer (some ⟨k, 0, none⟩) from rfl]
      go_wp2_with fail
      refine (tell_any t top c next N k n w1 T1.out hn).mono ?_
      rintro e w2 ⟨⟨kk, hkk, hkc, rfl⟩, hb2⟩
      have B2 := Lib.hid (B1.out.below hb2)
      have Z2 := Lib.hid (Z1.out.trans (hb2.mono Z1.out.size))
      have HK := Lib.hid hkk
      have HN := Lib.hid hn
      clear hb2 hkk hn
      unfold aggT encT
      obtain ⟨⟨x0, x1, x2, x3, x4, x5, x6, x7, x8, x9⟩, y0, y1, y2, y3, y4, y5, y6, y7, y8, y9⟩ := stat_facts B2.out
      go_wp2_with fail
      refine bodyPost_ret (results_cell_tmp_row rfl _ _ w.heap.size 55 _ _ _ rfl (Blk.set10 B2.out _ _ _ _ _ _ _ _ _ _) Tryz.underlying55 rfl (by kernel_rfl)) rfl ⟨⟨tellN n kk, ⟨n, kk, HN.out, HK.out, rfl⟩, rfl⟩, below_set10 Z2.out (Nat.le_refl _) _ _ _ _ _ _ _ _ _ _⟩
  · have e1 : (re != 0) = true := by simpa using he
    have HE := Lib.hid he
    clear he
    obtain ⟨⟨x0, x1, x2, x3, x4, x5, x6, x7, x8, x9⟩, y0, y1, y2, y3, y4, y5, y6, y7, y8, y9⟩ := stat_facts B1.out
    go_wp2_with fail
    refine bodyPost_ret (results_cell_tmp_row rfl _ _ w.heap.size 55 _ _ _ rfl (Blk.set10 B1.out _ _ _ _ _ _ _ _ _ _) Tryz.underlying55 rfl (by kernel_rfl)) rfl ⟨⟨noT, ?_, rfl⟩, below_set10 Z1.out (Nat.le_refl _) _ _ _ _ _ _ _ _ _ _⟩
    unfold statN
    split
    · rename_i e
      exact absurd (congrArg (fun x : Option Nat × Option Nat × Int => x.2.2) e) HE.out
    · rfl
end Go.Proofs.YtlbbehfbjbbckaaGreatDoor

/-! A path, followed: plainly. -/
set_option linter.unusedVariables false
set_option linter.unusedSimpArgs false
namespace Go.Proofs.YtlbbehfbjbbckaaGreatDoor
open Go.RowKit

/-- One who follows a path: where, what is left, how many links were met. -/
structure Wk where
  at_ : List UInt8
  row : List (List UInt8)
  hops : Nat
def joinP (p x : List UInt8) : List UInt8 := if p = [] then x else p ++ 47 :: x
def enterW (K : List UInt8 → Option (Int × List UInt8)) (s : Wk) (x : List UInt8) : Wk × Int :=
  match K (joinP s.at_ x) with
  | none => (s, 10)
  | some (k, tg) => if k ≠ 3 then ({ s with at_ := joinP s.at_ x }, 0) else if s.hops = 16 then (s, 15)
    else (⟨if tg[0]? = some 47 then [] else s.at_, splitB tg ++ s.row, s.hops + 1⟩, 0)
def upW (s : Wk) : Wk × Int := if s.at_ = [] then (s, 16) else ({ s with at_ := parentB s.at_ }, 0)
def dirK (K : List UInt8 → Option (Int × List UInt8)) (p : List UInt8) : Bool := match K p with | some (k, _) => k == 2 | none => false
def stepW (K : List UInt8 → Option (Int × List UInt8)) (s : Wk) : Wk × Int :=
  match s.row with
  | [] => (s, 0)
  | x :: r => if dirK K s.at_ = false then ({ s with row := r }, 12)
    else if x = [] ∨ x = [46] then ({ s with row := r }, 0)
    else if x = [46, 46] then upW { s with row := r }
    else enterW K { s with row := r } x
def runW (K : List UInt8 → Option (Int × List UInt8)) : Nat → Wk → List UInt8 × Int
  | 0, s => (s.at_, 0)
  | n+1, s => match s.row with
    | [] => (s.at_, 0)
    | _ :: _ => if (stepW K s).2 = 0 then runW K n (stepW K s).1 else ([], (stepW K s).2)
/-- What is left to do, at most. -/
def leftW (s : Wk) : Nat := s.row.length + 202 * (16 - s.hops)
def resolveU (K : List UInt8 → Option (Int × List UInt8)) (p : List UInt8) : List UInt8 × Int :=
  if rightB p = false then ([], 9) else runW K (leftW ⟨[], splitB p, 0⟩) ⟨[], splitB p, 0⟩
/-- What stands at a path: its kind, its target. -/
def kindP (N : Nat → Option Nd) (top : Nat) (p : List UInt8) : Option (Int × List UInt8) :=
  match thereU (lookN N top p) with
  | (some i, _, e) => if e = 0 then (N i).map (fun n => (n.kind, n.target.data.toList)) else none
  | _ => none
/-- Such a follower's bounds. -/
structure OkW (K : List UInt8 → Option (Int × List UInt8)) (s : Wk) : Prop where
  hops : s.hops ≤ 16
  at_ : s.at_.length ≤ 200
  row : ∀ x ∈ s.row, x.length ≤ 200
  len : s.row.length + 201 * (16 - s.hops) ≤ 201 * 17
def OkK (K : List UInt8 → Option (Int × List UInt8)) : Prop := ∀ p k t, K p = some (k, t) → p.length ≤ 200 ∧ t.length ≤ 200
theorem parts_len (l : List UInt8) : (splitB l).length ≤ l.length + 1 := splitB_len l
theorem OkW.step {K : List UInt8 → Option (Int × List UInt8)} (hK : OkK K) {s : Wk} (h : OkW K s) : OkW K (stepW K s).1 := by
  unfold stepW
  split
  · exact h
  · rename_i x r hr
    have h0 : OkW K { s with row := r } := ⟨h.hops, h.at_, fun y hy => h.row y (by rw [hr]; exact List.mem_cons_of_mem _ hy), by have := h.len; rw [hr, List.length_cons] at this; show r.length + 201 * (16 - s.hops) ≤ 201 * 17; omega⟩
    split
    · exact h0
    split
    · exact h0
    split
    · unfold upW
      split
      · exact h0
      · exact ⟨h0.hops, Nat.le_trans (parentB_len _) h0.at_, h0.row, h0.len⟩
    · unfold enterW
      split
      · exact h0
      · rename_i k tg hk
        obtain ⟨k1, k2⟩ := hK _ _ _ hk
        split
        · exact ⟨h0.hops, k1, h0.row, h0.len⟩
        split
        · exact h0
        · rename_i hh
          have := h0.hops
          have hh' : s.hops ≠ 16 := hh
          have h16 : s.hops ≤ 16 := h0.hops
          have hl : r.length + 201 * (16 - s.hops) ≤ 201 * 17 := h0.len
          refine ⟨by show s.hops + 1 ≤ 16; omega, ?_, fun y hy => ?_, ?_⟩
          · show (if tg[0]? = some 47 then [] else s.at_).length ≤ 200
            split
            · simp
            · exact h0.at_
          · rcases List.mem_append.1 hy with hy | hy
            · exact Nat.le_trans (splitB_part tg y hy) k2
            · exact h0.row y hy
          · show (splitB tg ++ r).length + 201 * (16 - (s.hops + 1)) ≤ _
            rw [List.length_append]
            have := parts_len tg
            omega
theorem leftW_step {K : List UInt8 → Option (Int × List UInt8)} (hK : OkK K) {s : Wk} (h : OkW K s) (hr : s.row ≠ []) : leftW (stepW K s).1 < leftW s := by
  have h16 : s.hops ≤ 16 := h.hops
  unfold stepW
  split
  · rename_i e; exact absurd e hr
  · rename_i x r hr
    have h0 : leftW { s with row := r } < leftW s := by unfold leftW; rw [hr, List.length_cons]; show r.length + 202 * (16 - s.hops) < _; omega
    split
    · exact h0
    split
    · exact h0
    split
    · unfold upW
      split
      · exact h0
      · exact h0
    · unfold enterW
      split
      · exact h0
      · rename_i k tg hk
        obtain ⟨k1, k2⟩ := hK _ _ _ hk
        split
        · exact h0
        split
        · exact h0
        · rename_i hh
          have hh' : s.hops ≠ 16 := hh
          unfold leftW
          show (splitB tg ++ r).length + 202 * (16 - (s.hops + 1)) < _
          rw [List.length_append, hr, List.length_cons]
          have := parts_len tg
          omega
theorem runW_more {K : List UInt8 → Option (Int × List UInt8)} (hK : OkK K) : ∀ (n : Nat) {s : Wk}, OkW K s → leftW s ≤ n → runW K (n + 1) s = runW K n s
  | 0, s, h, hl => by
    have hr : s.row = [] := List.eq_nil_of_length_eq_zero (by unfold leftW at hl; omega)
    simp only [runW, hr]
  | n+1, s, h, hl => by
    rw [runW]
    conv => rhs; rw [runW]
    split
    · rfl
    · rename_i x r hr
      split
      · exact runW_more hK n (h.step hK) (by have := leftW_step hK h (by rw [hr]; simp); omega)
      · rfl
/-- One step, then the others. -/
theorem runW_step {K : List UInt8 → Option (Int × List UInt8)} (hK : OkK K) {s : Wk} (h : OkW K s) (hr : s.row ≠ []) : runW K (leftW s) s = if (stepW K s).2 = 0 then runW K (leftW (stepW K s).1) (stepW K s).1 else ([], (stepW K s).2) := by
  have hlt := leftW_step hK h hr
  obtain ⟨m, hm⟩ : ∃ m, leftW s = m + 1 := ⟨leftW s - 1, by omega⟩
  rw [hm, runW]
  split
  · rename_i e; exact absurd e hr
  · split
    · have : ∀ j, runW K (leftW (stepW K s).1 + j) (stepW K s).1 = runW K (leftW (stepW K s).1) (stepW K s).1 := by
        intro j
        induction j with
        | zero => rfl
        | succ j ih => rw [← ih, ← Nat.add_assoc]; exact runW_more hK _ (h.step hK) (by omega)
      have e : m = leftW (stepW K s).1 + (m - leftW (stepW K s).1) := by omega
      rw [e]; exact this _
    · rfl
theorem runW_end (K : List UInt8 → Option (Int × List UInt8)) {s : Wk} (hr : s.row = []) : runW K (leftW s) s = (s.at_, 0) := by
  generalize leftW s = n
  cases n with
  | zero => rfl
  | succ n => rw [runW, hr]
theorem OkW.start (K : List UInt8 → Option (Int × List UInt8)) {p : List UInt8} (hp : rightB p = true) : OkW K ⟨[], splitB p, 0⟩ := by
  have h1 := rightB_len hp
  have h2 := rightB_len12 hp
  exact ⟨by simp, by simp, fun x hx => Nat.le_trans (splitB_part p x hx) h1, by simp only; omega⟩
end Go.Proofs.YtlbbehfbjbbckaaGreatDoor

/-! A tree, plainly: its names, what they name; what an act does to it. -/
set_option linter.unusedVariables false
set_option linter.unusedSimpArgs false
namespace Go.Proofs.YtlbbehfbjbbckaaGreatDoor
open Go.RowKit

structure Th where
  kind : Int
  mt : Mt
  target : ByteArray
  data : List UInt8
/-- Names, each with the number of what it names; what has a number; the number that comes next. -/
structure St where
  ls : List (List UInt8 × Int)
  th : Int → Th
  next : Int
def St.at (S : St) (p : List UInt8) : Option Int := S.ls.lookup p
def St.look (S : St) (p : List UInt8) : Option Int × Int :=
  if rightB p = false then (none, 9) else if p = [] then (some 1, 0)
  else match S.at (parentB p) with
    | none => (none, 10)
    | some d => if (S.th d).kind = 2 then (S.at p, 0) else (none, 12)
def thereS (r : Option Int × Int) : Option Int × Int := if r.2 = 0 ∧ r.1 = none then (r.1, 10) else r
def freshS (r : Option Int × Int) : Int := if r.2 = 0 ∧ r.1 ≠ none then 11 else r.2
def setT (f : Int → Th) (i : Int) (t : Th) : Int → Th := fun j => if j = i then t else f j
def St.add (S : St) (p : List UInt8) (t : Th) : St := ⟨S.ls ++ [(p, S.next)], setT S.th S.next t, S.next + 1⟩
def newS : St := ⟨[([], 1)], fun _ => ⟨2, ⟨493, 0, 0, 0, 0⟩, ⟨#[]⟩, []⟩, 2⟩
def St.mkdir (S : St) (p : List UInt8) (m : Mt) : Int × St :=
  if mayU p m ≠ 0 then (mayU p m, S) else if freshS (S.look p) ≠ 0 then (freshS (S.look p), S) else (0, S.add p ⟨2, m, ⟨#[]⟩, []⟩)
def St.symlink (S : St) (p : List UInt8) (tg : ByteArray) (m : Mt) : Int × St :=
  if mayU p m ≠ 0 then (mayU p m, S) else if tg.size = 0 then (2, S) else if 200 < tg.size then (7, S)
  else if freshS (S.look p) ≠ 0 then (freshS (S.look p), S) else (0, S.add p ⟨3, m, tg, []⟩)
def St.write (S : St) (p : List UInt8) (b : List UInt8) (m : Mt) : Int × St :=
  if mayU p m ≠ 0 then (mayU p m, S) else if 65536 < b.length then (7, S)
  else if (S.look p).2 ≠ 0 then ((S.look p).2, S)
  else match (S.look p).1 with
    | none => (0, S.add p ⟨1, m, ⟨#[]⟩, b⟩)
    | some i => if fileU (S.th i).kind ≠ 0 then (fileU (S.th i).kind, S) else (0, { S with th := setT S.th i { S.th i with mt := m, data := b } })
def St.set (S : St) (p : List UInt8) (m : Mt) : Int × St :=
  if mayU p m ≠ 0 then (mayU p m, S) else match thereS (S.look p) with
    | (some i, e) => if e ≠ 0 then (e, S) else (0, { S with th := setT S.th i { S.th i with mt := m } })
    | (none, e) => (e, S)
def St.append (S : St) (p b : List UInt8) : Int × St :=
  match thereS (S.look p) with
    | (some i, e) => if e ≠ 0 then (e, S) else if fileU (S.th i).kind ≠ 0 then (fileU (S.th i).kind, S)
      else if 65536 < (S.th i).data.length + b.length then (7, S) else (0, { S with th := setT S.th i { S.th i with data := (S.th i).data ++ b } })
    | (none, e) => (e, S)
def linkR (S : St) (p : List UInt8) (fe : Int) : Option Int × Int → Int × St
  | (some i, e) => if e ≠ 0 then (e, S) else if fileU (S.th i).kind ≠ 0 then (fileU (S.th i).kind, S)
      else if fe ≠ 0 then (fe, S) else (0, { S with ls := S.ls ++ [(p, i)] })
  | (none, e) => (e, S)
def St.link (S : St) (old p : List UInt8) : Int × St :=
  if rightB old = false ∨ rightB p = false then (9, S) else linkR S p (freshS (S.look p)) (thereS (S.look old))
def St.hasIn (S : St) (p : List UInt8) : Bool := S.ls.any (fun x => x.1 != [] && parentB x.1 == p)
def removeR (S : St) (p : List UInt8) : Option Int × Int → Int × St
  | (some i, e) => if e ≠ 0 then (e, S) else if S.hasIn p = true then (14, S) else (0, { S with ls := S.ls.filter (fun x => x.1 != p) })
  | (none, e) => (e, S)
def St.remove (S : St) (p : List UInt8) : Int × St :=
  if rightB p = false then (9, S) else if p = [] then (2, S) else removeR S p (thereS (S.look p))
def St.kindS (S : St) (p : List UInt8) : Option (Int × List UInt8) :=
  match thereS (S.look p) with
  | (some i, e) => if e = 0 then some ((S.th i).kind, (S.th i).target.data.toList) else none
  | (none, _) => none
/-- What holds of such a tree, always. -/
structure OkS (S : St) : Prop where
  nodup : S.ls.Pairwise (fun x y => x.1 ≠ y.1)
  right : ∀ x ∈ S.ls, rightB x.1 = true
  top : S.at [] = some 1
  lt : ∀ x ∈ S.ls, 1 ≤ x.2 ∧ x.2 < S.next
  one : ∀ x ∈ S.ls, ∀ y ∈ S.ls, x.2 = y.2 → (S.th x.2).kind ≠ 1 → x.1 = y.1
  kind : ∀ x ∈ S.ls, (S.th x.2).kind = 1 ∨ (S.th x.2).kind = 2 ∨ (S.th x.2).kind = 3
  kind1 : (S.th 1).kind = 2
  tgt : ∀ i, (S.th i).target.size ≤ 200 ∧ (S.th i).data.length ≤ 65536
  up : ∀ x ∈ S.ls, x.1 ≠ [] → ∃ d, S.at (parentB x.1) = some d ∧ (S.th d).kind = 2
theorem lookup_mem {α β : Type} [BEq α] [LawfulBEq α] {l : List (α × β)} {a : α} {b : β} (h : l.lookup a = some b) : (a, b) ∈ l := by
  induction l with
  | nil => simp at h
  | cons x l ih =>
    obtain ⟨x1, x2⟩ := x
    rw [List.lookup_cons] at h
    by_cases e : a = x1
    · subst e
      simp only [BEq.rfl] at h
      cases h
      exact List.mem_cons_self ..
    · have : (a == x1) = false := by simpa using e
      rw [this] at h
      exact List.mem_cons_of_mem _ (ih h)
theorem mem_lookup {α β : Type} [BEq α] [LawfulBEq α] {l : List (α × β)} (hn : l.Pairwise (fun x y => x.1 ≠ y.1)) {a : α} {b : β} (h : (a, b) ∈ l) : l.lookup a = some b := by
  induction l with
  | nil => cases h
  | cons x l ih =>
    obtain ⟨x1, x2⟩ := x
    rw [List.lookup_cons]
    obtain ⟨h1, h2⟩ := List.pairwise_cons.1 hn
    by_cases e : a = x1
    · subst e
      simp only [BEq.rfl]
      rcases List.mem_cons.1 h with h | h
      · cases h; rfl
      · exact absurd (show (a, x2).1 = (a, b).1 from rfl) (h1 (a, b) h)
    · have : (a == x1) = false := by simpa using e
      rw [this]
      rcases List.mem_cons.1 h with h | h
      · cases h; exact absurd rfl e
      · exact ih h2 h
theorem OkS.at_iff {S : St} (h : OkS S) (p : List UInt8) (i : Int) : S.at p = some i ↔ (p, i) ∈ S.ls := ⟨lookup_mem, mem_lookup h.nodup⟩
theorem lookup_append {α β : Type} [BEq α] [LawfulBEq α] (l l' : List (α × β)) (a : α) : (l ++ l').lookup a = (l.lookup a).or (l'.lookup a) := by
  induction l with
  | nil => simp
  | cons x l ih =>
    obtain ⟨x1, x2⟩ := x
    rw [List.cons_append, List.lookup_cons, List.lookup_cons]
    split
    · rfl
    · exact ih
theorem St.add_at (S : St) (p : List UInt8) (t : Th) (q : List UInt8) (hp : S.at p = none) : (S.add p t).at q = if q = p then some S.next else S.at q := by
  unfold St.at St.add at *
  rw [lookup_append]
  by_cases e : q = p
  · subst e
    rw [hp, if_pos rfl]; simp
  · rw [if_neg e]
    have : (q == p) = false := by simpa using e
    simp [List.lookup_cons, this]
theorem look_fresh {S : St} {p : List UInt8} (h : S.look p = (none, 0)) : rightB p = true ∧ p ≠ [] ∧ S.at p = none ∧ ∃ d, S.at (parentB p) = some d ∧ (S.th d).kind = 2 := by
  unfold St.look at h
  by_cases h1 : rightB p = false
  · rw [if_pos h1] at h; simp at h
  rw [if_neg h1] at h
  by_cases h2 : p = []
  · rw [if_pos h2] at h; simp at h
  rw [if_neg h2] at h
  cases hd : S.at (parentB p) with
  | none => rw [hd] at h; simp at h
  | some d =>
    rw [hd] at h
    simp only at h
    by_cases hk : (S.th d).kind = 2
    · rw [if_pos hk] at h
      simp only [Prod.mk.injEq, and_true] at h
      exact ⟨by simpa using h1, h2, h, d, rfl, hk⟩
    · rw [if_neg hk] at h; simp at h
theorem setT_same (f : Int → Th) (i : Int) (t : Th) : setT f i t i = t := if_pos rfl
theorem setT_other (f : Int → Th) {i j : Int} (t : Th) (h : j ≠ i) : setT f i t j = f j := if_neg h
theorem OkS.add {S : St} (h : OkS S) {p : List UInt8} (hl : S.look p = (none, 0)) {t : Th} (hk : t.kind = 1 ∨ t.kind = 2 ∨ t.kind = 3) (ht : t.target.size ≤ 200 ∧ t.data.length ≤ 65536) : OkS (S.add p t) := by
  obtain ⟨h1, h2, h3, d, h4, h5⟩ := look_fresh hl
  have htop := h.lt _ ((h.at_iff [] 1).1 h.top)
  have hno : ∀ x ∈ S.ls, x.1 ≠ p := fun x hx e => by
    have := (h.at_iff x.1 x.2).2 hx
    rw [e, h3] at this; cases this
  have hth : ∀ x ∈ S.ls, (S.add p t).th x.2 = S.th x.2 := fun x hx => setT_other _ _ (by have := (h.lt x hx).2; omega)
  have hnew : (S.add p t).th S.next = t := setT_same ..
  refine ⟨List.pairwise_append.2 ⟨h.nodup, List.pairwise_singleton .., fun x hx y hy => ?_⟩, fun x hx => ?_, ?_, fun x hx => ?_, fun x hx y hy he hne => ?_, fun x hx => ?_, ?_, fun i => ?_, fun x hx hne => ?_⟩
  · rw [List.mem_singleton] at hy; subst hy; exact hno x hx
  · rcases List.mem_append.1 hx with hx | hx
    · exact h.right x hx
    · rw [List.mem_singleton] at hx; subst hx; exact h1
  · rw [St.add_at S p t [] h3, if_neg (fun e => h2 e.symm)]; exact h.top
  · rcases List.mem_append.1 hx with hx | hx
    · have := h.lt x hx
      exact ⟨this.1, by show x.2 < S.next + 1; omega⟩
    · rw [List.mem_singleton] at hx; subst hx
      exact ⟨by show 1 ≤ S.next; omega, by show S.next < S.next + 1; omega⟩
  · rcases List.mem_append.1 hx with hx | hx
    · rcases List.mem_append.1 hy with hy | hy
      · rw [hth x hx] at hne; exact h.one x hx y hy he hne
      · rw [List.mem_singleton] at hy; subst hy
        have := (h.lt x hx).2
        have he' : x.2 = S.next := he
        omega
    · rw [List.mem_singleton] at hx; subst hx
      rcases List.mem_append.1 hy with hy | hy
      · have := (h.lt y hy).2
        have he' : S.next = y.2 := he
        omega
      · rw [List.mem_singleton] at hy; subst hy; rfl
  · rcases List.mem_append.1 hx with hx | hx
    · rw [hth x hx]; exact h.kind x hx
    · rw [List.mem_singleton] at hx; subst hx
      show ((S.add p t).th S.next).kind = 1 ∨ _
      rw [hnew]; exact hk
  · show (setT S.th S.next t 1).kind = 2
    rw [setT_other _ _ (by have : (1 : Int) < S.next := htop.2; omega)]; exact h.kind1
  · show (setT S.th S.next t i).target.size ≤ 200 ∧ (setT S.th S.next t i).data.length ≤ 65536
    by_cases e : i = S.next
    · subst e; rw [setT_same]; exact ht
    · rw [setT_other _ _ e]; exact h.tgt i
  · have hpar : ∀ q e, S.at q = some e → (S.add p t).at q = some e ∧ (S.add p t).th e = S.th e := fun q e he => by
      have hm := (h.at_iff q e).1 he
      refine ⟨by rw [St.add_at S p t q h3, if_neg (fun e' => by rw [e', h3] at he; cases he)]; exact he, hth _ hm⟩
    rcases List.mem_append.1 hx with hx | hx
    · obtain ⟨e, he, hk⟩ := h.up x hx hne
      obtain ⟨a, b⟩ := hpar _ e he
      exact ⟨e, a, by rw [b]; exact hk⟩
    · rw [List.mem_singleton] at hx; subst hx
      obtain ⟨a, b⟩ := hpar _ d h4
      exact ⟨d, a, by rw [b]; exact h5⟩
theorem OkS.set {S : St} (h : OkS S) (i : Int) (t : Th) (hk : t.kind = (S.th i).kind) (ht : t.target.size ≤ 200 ∧ t.data.length ≤ 65536) : OkS { S with th := setT S.th i t } := by
  have hkk : ∀ j, (setT S.th i t j).kind = (S.th j).kind := fun j => by
    by_cases e : j = i
    · subst e; rw [setT_same, hk]
    · rw [setT_other _ _ e]
  refine ⟨h.nodup, h.right, h.top, h.lt, fun x hx y hy he hne => h.one x hx y hy he (by rw [← hkk]; exact hne), fun x hx => ?_, ?_, fun j => ?_, fun x hx hne => ?_⟩
  · have := h.kind x hx
    simp only [hkk]; exact this
  · simp only [hkk]; exact h.kind1
  · show (setT S.th i t j).target.size ≤ 200 ∧ (setT S.th i t j).data.length ≤ 65536
    by_cases e : j = i
    · subst e; rw [setT_same]; exact ht
    · rw [setT_other _ _ e]; exact h.tgt j
  · obtain ⟨d, h1, h2⟩ := h.up x hx hne
    exact ⟨d, h1, by show (setT S.th i t d).kind = 2; rw [hkk]; exact h2⟩
theorem there_at {S : St} (h : OkS S) {p : List UInt8} {i : Int} (hl : thereS (S.look p) = (some i, 0)) : S.at p = some i ∧ rightB p = true := by
  have hl2 : S.look p = (some i, 0) := by
    unfold thereS at hl
    split at hl
    · simp at hl
    · exact hl
  clear hl
  have hl := hl2
  unfold St.look at hl
  by_cases h1 : rightB p = false
  · rw [if_pos h1] at hl; simp at hl
  rw [if_neg h1] at hl
  have hr : rightB p = true := by simpa using h1
  by_cases h2 : p = []
  · rw [if_pos h2] at hl
    simp only [Prod.mk.injEq, Option.some.injEq, and_true] at hl
    subst h2
    rw [← hl]
    exact ⟨h.top, hr⟩
  rw [if_neg h2] at hl
  cases hd : S.at (parentB p) with
  | none => rw [hd] at hl; simp at hl
  | some d =>
    rw [hd] at hl
    simp only at hl
    split at hl
    · simp only [Prod.mk.injEq, and_true] at hl
      exact ⟨hl, hr⟩
    · simp at hl
theorem okS_new : OkS newS := by
  refine ⟨List.pairwise_singleton .., fun x hx => ?_, rfl, fun x hx => ?_, fun x hx y hy _ _ => ?_, fun x hx => .inr (.inl rfl), rfl, fun _ => ⟨Nat.zero_le _, Nat.zero_le _⟩, fun x hx hne => ?_⟩
  · rw [show newS.ls = [([], 1)] from rfl, List.mem_singleton] at hx; subst hx; rfl
  · rw [show newS.ls = [([], 1)] from rfl, List.mem_singleton] at hx; subst hx; exact ⟨Int.le_refl _, by decide⟩
  · rw [show newS.ls = [([], 1)] from rfl, List.mem_singleton] at hx hy; rw [hx, hy]
  · rw [show newS.ls = [([], 1)] from rfl, List.mem_singleton] at hx; subst hx; exact absurd rfl hne
end Go.Proofs.YtlbbehfbjbbckaaGreatDoor

/-! A tree in memory is a plain one: what is looked up. -/
set_option linter.unusedVariables false
set_option linter.unusedSimpArgs false
namespace Go.Proofs.YtlbbehfbjbbckaaGreatDoor
open Go.RowKit

def thN (n : Nd) : Th := ⟨n.kind, ⟨n.m0, n.m1, n.m2, n.m3, n.m4⟩, n.target, n.data⟩
def SameO (N : Nat → Option Nd) (o : Option Nat) (a : Option Int) : Prop :=
  match o, a with
  | none, none => True
  | some j, some i => ∃ n, N j = some n ∧ n.ino = i
  | _, _ => False
structure Rep (N : Nat → Option Nd) (top : Nat) (S : St) : Prop where
  rep : ∀ p, rightB p = true → SameO N (atN N (some top) (splitB p)) (S.at p)
  only : ∀ X j, atN N (some top) X = some j → ∃ p, rightB p = true ∧ splitB p = X
  inj : ∀ i j n m, N i = some n → N j = some m → n.ino = m.ino → i = j
  info : ∀ j n, N j = some n → S.th n.ino = thN n
  lt : ∀ j n, N j = some n → 1 ≤ n.ino ∧ n.ino < S.next
  links : ∀ j n, N j = some n → n.links = ((S.ls.countP (fun x => x.2 == n.ino) : Nat) : Int)
  leaf : ∀ j n, N j = some n → n.kind ≠ 2 → ∀ s, n.kids s = none
  closed : ∀ i n s j, N i = some n → n.kids s = some j → ∃ m, N j = some m
  root : ∃ n, N top = some n
theorem atN_append (N : Nat → Option Nd) : ∀ (X Y : List (List UInt8)) (c : Option Nat), atN N c (X ++ Y) = atN N (atN N c X) Y
  | [], Y, c => by cases c <;> rfl
  | x :: X, Y, none => by rw [List.cons_append, atN, atN, atN_none]
  | x :: X, Y, some i => by rw [List.cons_append, atN, atN, atN_append]
theorem atN_nil (N : Nat → Option Nd) (c : Option Nat) : atN N c [] = c := by cases c <;> rfl
theorem atN_one {N : Nat → Option Nd} {i : Nat} {n : Nd} (h : N i = some n) (x : List UInt8) : atN N (some i) [x] = n.kids x := by rw [atN_step h, atN_nil]
theorem SameO.none_iff {N : Nat → Option Nd} {o : Option Nat} {a : Option Int} (h : SameO N o a) : o = none ↔ a = none := by
  cases o <;> cases a <;> simp [SameO] at h ⊢
theorem SameO.some {N : Nat → Option Nd} {j : Nat} {a : Option Int} (h : SameO N (some j) a) : ∃ n, N j = some n ∧ a = some n.ino := by
  cases a with
  | none => exact absurd h (by simp [SameO])
  | some i => obtain ⟨n, h1, h2⟩ := h; exact ⟨n, h1, by rw [h2]⟩
theorem Rep.parent {N : Nat → Option Nd} {top : Nat} {p : List UInt8} (hp : p ≠ []) (hr : rightB p = true) {d : Nat} {n : Nd} (hd : atN N (some top) (splitB (parentB p)) = some d) (hn : N d = some n) : atN N (some top) (splitB p) = n.kids (baseB p) := by
  rw [split_parent hp hr, atN_append, hd, atN_one hn]
/-- What is looked up is the same. -/
theorem Rep.look {N : Nat → Option Nd} {top : Nat} {S : St} (h : Rep N top S) (ho : OkS S) (p : List UInt8) : SameO N (lookN N top p).1 (S.look p).1 ∧ (lookN N top p).2.2 = (S.look p).2 := by
  unfold lookN St.look
  by_cases h1 : rightB p = false
  · rw [if_pos h1, if_pos h1]; exact ⟨trivial, rfl⟩
  rw [if_neg h1, if_neg h1]
  have hr : rightB p = true := by simpa using h1
  by_cases h2 : p = []
  · rw [if_pos h2, if_pos h2]
    have := h.rep [] rfl
    rw [splitB_nil, atN_nil, ho.top] at this
    exact ⟨this, rfl⟩
  rw [if_neg h2, if_neg h2]
  have hpar := h.rep (parentB p) (rightB_parent hr)
  cases hd : atN N (some top) (splitB (parentB p)) with
  | none =>
    rw [hd] at hpar
    rw [(hpar.none_iff).1 rfl]
    exact ⟨trivial, rfl⟩
  | some d =>
    rw [hd] at hpar
    obtain ⟨n, hn, he⟩ := hpar.some
    rw [he]
    simp only [hn]
    have hk : (S.th n.ino).kind = n.kind := by rw [h.info d n hn]; rfl
    rw [hk]
    by_cases hkd : n.kind = 2
    · rw [if_pos hkd, if_pos hkd]
      refine ⟨?_, rfl⟩
      have := h.rep p hr
      rwa [Rep.parent h2 hr hd hn] at this
    · rw [if_neg hkd, if_neg hkd]; exact ⟨trivial, rfl⟩
theorem Rep.there {N : Nat → Option Nd} {top : Nat} {S : St} (h : Rep N top S) (ho : OkS S) (p : List UInt8) : SameO N (thereU (lookN N top p)).1 (thereS (S.look p)).1 ∧ (thereU (lookN N top p)).2.2 = (thereS (S.look p)).2 := by
  obtain ⟨h1, h2⟩ := h.look ho p
  generalize lookN N top p = l at *
  obtain ⟨o, d, e⟩ := l
  simp only at h1 h2
  unfold thereU thereS
  simp only [h2, h1.none_iff]
  split
  · exact ⟨h1, rfl⟩
  · exact ⟨h1, rfl⟩
theorem Rep.fresh {N : Nat → Option Nd} {top : Nat} {S : St} (h : Rep N top S) (ho : OkS S) (p : List UInt8) : (freshU (lookN N top p)).2 = freshS (S.look p) := by
  obtain ⟨h1, h2⟩ := h.look ho p
  generalize lookN N top p = l at *
  obtain ⟨o, d, e⟩ := l
  simp only at h1 h2
  unfold freshU freshS
  simp only [h2, ne_eq, h1.none_iff]
  split <;> rfl
theorem Rep.kind {N : Nat → Option Nd} {top : Nat} {S : St} (h : Rep N top S) (ho : OkS S) (p : List UInt8) : kindP N top p = S.kindS p := by
  obtain ⟨h1, h2⟩ := h.there ho p
  unfold kindP St.kindS
  generalize thereU (lookN N top p) = l at *
  generalize thereS (S.look p) = l' at *
  obtain ⟨o, d, e⟩ := l
  obtain ⟨a, e'⟩ := l'
  simp only at h1 h2
  subst h2
  cases o with
  | none => rw [(h1.none_iff).1 rfl]
  | some j =>
    obtain ⟨n, hn, rfl⟩ := h1.some
    simp only [hn, Option.map_some]
    rw [h.info j n hn]
    rfl
theorem Rep.tgt {N : Nat → Option Nd} {top : Nat} {S : St} (h : Rep N top S) (ho : OkS S) : ∀ i n, N i = some n → n.target.size ≤ 200 := fun i n hn => by
  have := (ho.tgt n.ino).1
  rwa [h.info i n hn] at this
theorem Rep.dat {N : Nat → Option Nd} {top : Nat} {S : St} (h : Rep N top S) (ho : OkS S) : ∀ i n, N i = some n → n.data.length ≤ 65536 := fun i n hn => by
  have := (ho.tgt n.ino).2
  rwa [h.info i n hn] at this
def kidsOf (N : Nat → Option Nd) (i : Nat) (x : List UInt8) : Option Nat := (N i).bind (fun n => n.kids x)
theorem atN_cons (N : Nat → Option Nd) (i : Nat) (x : List UInt8) (r : List (List UInt8)) : atN N (some i) (x :: r) = atN N (kidsOf N i x) r := rfl
/-- One name in one directory changes: what does not pass it stays. -/
theorem atN_keep {N N' : Nat → Option Nd} {d : Nat} {b : List UInt8} (h1 : ∀ i, i ≠ d → kidsOf N' i = kidsOf N i) (h2 : ∀ y, y ≠ b → kidsOf N' d y = kidsOf N d y) :
    ∀ (X : List (List UInt8)) (c : Option Nat), (∀ Y Z, X = Y ++ b :: Z → atN N c Y ≠ some d) → atN N' c X = atN N c X
  | [], c, _ => by cases c <;> rfl
  | x :: r, none, _ => by rw [atN_none, atN_none]
  | x :: r, some i, h => by
    have he : kidsOf N' i x = kidsOf N i x := by
      by_cases hi : i = d
      · subst hi
        exact h2 x (fun e => h [] r (by rw [e]; rfl) rfl)
      · rw [h1 i hi]
    rw [atN_cons, atN_cons, he]
    exact atN_keep h1 h2 r _ (fun Y Z e => by
      have := h (x :: Y) Z (by rw [e]; rfl)
      rwa [atN_cons] at this)
/-- .. from the top, to a directory that has one name. -/
theorem atN_off {N N' : Nat → Option Nd} {top d : Nat} {b : List UInt8} {D : List (List UInt8)} (h1 : ∀ i, i ≠ d → kidsOf N' i = kidsOf N i) (h2 : ∀ y, y ≠ b → kidsOf N' d y = kidsOf N d y) (hu : ∀ X, atN N (some top) X = some d → X = D) (X : List (List UInt8)) (hX : ∀ Z, X ≠ D ++ b :: Z) :
    atN N' (some top) X = atN N (some top) X := atN_keep h1 h2 X _ (fun Y Z e hy => hX Z (by rw [e, hu Y hy]))
theorem atN_on {N N' : Nat → Option Nd} {top d : Nat} {b : List UInt8} {D : List (List UInt8)} (h1 : ∀ i, i ≠ d → kidsOf N' i = kidsOf N i) (h2 : ∀ y, y ≠ b → kidsOf N' d y = kidsOf N d y) (hu : ∀ X, atN N (some top) X = some d → X = D) (hd : atN N (some top) D = some d) (Z : List (List UInt8)) :
    atN N' (some top) (D ++ b :: Z) = atN N' (kidsOf N' d b) Z := by
  rw [atN_append, atN_off h1 h2 hu D (fun Z e => by have := congrArg List.length e; simp at this), hd, atN_cons]
/-- A directory of a tree has one name. -/
theorem Rep.uniq {N : Nat → Option Nd} {top : Nat} {S : St} (h : Rep N top S) (ho : OkS S) {d : Nat} {n : Nd} (hn : N d = some n) (hk : n.kind ≠ 1) {X Y : List (List UInt8)} (hX : atN N (some top) X = some d) (hY : atN N (some top) Y = some d) : X = Y := by
  obtain ⟨p, hp, rfl⟩ := h.only X d hX
  obtain ⟨q, hq, rfl⟩ := h.only Y d hY
  have h1 := h.rep p hp
  have h2 := h.rep q hq
  rw [hX] at h1
  rw [hY] at h2
  obtain ⟨n1, e1, e2⟩ := h1.some
  obtain ⟨n2, e3, e4⟩ := h2.some
  rw [hn, Option.some.injEq] at e1 e3
  subst e1; subst e3
  have := ho.one _ ((ho.at_iff _ _).1 e2) _ ((ho.at_iff _ _).1 e4) rfl (by rw [h.info d n hn]; exact hk)
  exact congrArg splitB this
/-- What a leaf leads to. -/
theorem atN_leaf {N : Nat → Option Nd} {k : Nat} (hk : ∀ s, kidsOf N k s = none) (Z : List (List UInt8)) : atN N (some k) Z = if Z = [] then some k else none := by
  cases Z with
  | nil => rfl
  | cons x r => rw [atN_cons, hk, atN_none, if_neg (by simp)]
end Go.Proofs.YtlbbehfbjbbckaaGreatDoor

/-! A tree in memory is a plain one: a new one; one more name. -/
set_option linter.unusedVariables false
set_option linter.unusedSimpArgs false
namespace Go.Proofs.YtlbbehfbjbbckaaGreatDoor
open Go.RowKit

theorem lookN_fresh {N : Nat → Option Nd} {top : Nat} {p : List UInt8} {o : Option Nat} {d : Nat} (h : lookN N top p = (o, some d, 0)) : rightB p = true ∧ p ≠ [] ∧ atN N (some top) (splitB (parentB p)) = some d ∧ ∃ m, N d = some m ∧ m.kind = 2 ∧ m.kids (baseB p) = o := by
  unfold lookN at h
  by_cases h1 : rightB p = false
  · rw [if_pos h1] at h; simp at h
  rw [if_neg h1] at h
  by_cases h2 : p = []
  · rw [if_pos h2] at h; simp at h
  rw [if_neg h2] at h
  cases hd : atN N (some top) (splitB (parentB p)) with
  | none => rw [hd] at h; simp at h
  | some d' =>
    rw [hd] at h
    cases hm : N d' with
    | none => simp only [hm] at h; simp at h
    | some m =>
      simp only [hm] at h
      by_cases hk : m.kind = 2
      · rw [if_pos hk] at h
        simp only [Prod.mk.injEq, Option.some.injEq, and_true] at h
        obtain ⟨h3, rfl⟩ := h
        exact ⟨by simpa using h1, h2, rfl, m, hm, hk, h3⟩
      · rw [if_neg hk] at h; simp at h
theorem rep_new (top kb : Nat) : Rep (N0 top kb) top newS := by
  have hx : ∀ s, kidsOf (N0 top kb) top s = none := fun s => by unfold kidsOf; rw [N0_top]; rfl
  refine ⟨fun p hp => ?_, fun X j h => ?_, fun i j n m hi hj _ => ?_, fun j n hj => ?_, fun j n hj => ?_, fun j n hj => ?_, fun j n hj _ s => ?_, fun i n s j hi hs => ?_, ⟨_, N0_top top kb⟩⟩
  · rw [atN_leaf hx]
    by_cases h : p = []
    · subst h; exact ⟨_, N0_top top kb, rfl⟩
    · rw [if_neg (fun e => h (splitB_nil_iff.1 e))]
      have : newS.at p = none := by
        unfold St.at newS
        have : (p == []) = false := by simpa using h
        simp [List.lookup_cons, this]
      rw [this]; trivial
  · rw [atN_leaf hx] at h
    by_cases hX : X = []
    · exact ⟨[], rfl, hX.symm⟩
    · rw [if_neg hX] at h; cases h
  · rw [(N0_some hi).1, (N0_some hj).1]
  · obtain ⟨rfl, rfl⟩ := N0_some hj; rfl
  · obtain ⟨rfl, rfl⟩ := N0_some hj; exact ⟨Int.le_refl _, (by decide : (1 : Int) < 2)⟩
  · obtain ⟨rfl, rfl⟩ := N0_some hj; rfl
  · obtain ⟨rfl, rfl⟩ := N0_some hj; rfl
  · obtain ⟨rfl, rfl⟩ := N0_some hi; cases hs
theorem addN_same {N : Nat → Option Nd} {d n i : Nat} {x m : Nd} {s : List UInt8} (h : N i = some m) (hn : i ≠ n) : ∃ m', addN N d n x s i = some m' ∧ thN m' = thN m ∧ m'.ino = m.ino ∧ m'.links = m.links := by
  by_cases hd : i = d
  · subst hd
    exact ⟨_, addN_dir x s h hn, rfl, rfl, rfl⟩
  · exact ⟨m, by rw [addN_old x s hn hd]; exact h, rfl, rfl, rfl⟩
theorem addN_from {N : Nat → Option Nd} {d n i : Nat} {x m' : Nd} {s : List UInt8} (h : addN N d n x s i = some m') : (i = n ∧ m' = x) ∨ (i ≠ n ∧ ∃ m, N i = some m ∧ thN m' = thN m ∧ m'.ino = m.ino ∧ m'.links = m.links ∧ ((i = d ∧ m'.kids = kidsAdd m.kids s n) ∨ (i ≠ d ∧ m'.kids = m.kids))) := by
  by_cases hn : i = n
  · subst hn; rw [addN_new, Option.some.injEq] at h; exact .inl ⟨rfl, h.symm⟩
  · by_cases hd : i = d
    · subst hd
      unfold addN at h
      rw [if_neg hn, if_pos rfl] at h
      cases hm : N i with
      | none => rw [hm] at h; cases h
      | some m =>
        rw [hm] at h
        simp only [Option.map_some, Option.some.injEq] at h
        subst h
        exact .inr ⟨hn, m, rfl, rfl, rfl, rfl, .inl ⟨rfl, rfl⟩⟩
    · rw [addN_old x s hn hd] at h
      exact .inr ⟨hn, m', h, rfl, rfl, rfl, .inr ⟨hd, rfl⟩⟩
theorem kidsOf_some {N : Nat → Option Nd} {i : Nat} {m : Nd} (h : N i = some m) : kidsOf N i = m.kids := by funext y; unfold kidsOf; rw [h]; rfl
theorem kidsOf_none {N : Nat → Option Nd} {i : Nat} (h : N i = none) : kidsOf N i = fun _ => none := by funext y; unfold kidsOf; rw [h]; rfl
theorem countP_fresh {l : List (List UInt8 × Int)} {i : Int} (h : ∀ x ∈ l, x.2 < i) : l.countP (fun x => x.2 == i) = 0 := by
  rw [List.countP_eq_zero]
  intro x hx
  have := h x hx
  simp; omega
/-- One more name, of a new thing. -/
theorem Rep.put {N : Nat → Option Nd} {top d n : Nat} {S : St} {p : List UInt8} {x : Nd} (h : Rep N top S) (ho : OkS S) (hl : lookN N top p = (none, some d, 0)) (hN : N n = none) (hxk : ∀ s, x.kids s = none) (hxi : x.ino = S.next) (hxl : x.links = 1) : Rep (addN N d n x (baseB p)) top (S.add p (thN x)) := by
  obtain ⟨hr, hp, hd, m, hm, hmk, hmb⟩ := lookN_fresh hl
  have hat : S.at p = none := by
    have := h.rep p hr
    rw [Rep.parent hp hr hd hm, hmb] at this
    exact (this.none_iff).1 rfl
  have hdn : d ≠ n := fun e => by rw [e, hN] at hm; cases hm
  have hsp := split_parent hp hr
  have h1 : ∀ i, i ≠ d → kidsOf (addN N d n x (baseB p)) i = kidsOf N i := fun i hi => by
    by_cases hn : i = n
    · subst hn
      rw [kidsOf_some (addN_new ..), kidsOf_none hN]
      funext y; exact hxk y
    · unfold kidsOf; rw [addN_old x _ hn hi]
  have h2 : ∀ y, y ≠ baseB p → kidsOf (addN N d n x (baseB p)) d y = kidsOf N d y := fun y hy => by
    rw [kidsOf_some (addN_dir x _ hm hdn), kidsOf_some hm]
    exact if_neg hy
  have hb : kidsOf (addN N d n x (baseB p)) d (baseB p) = some n := by
    rw [kidsOf_some (addN_dir x _ hm hdn)]
    exact if_pos rfl
  have hu : ∀ X, atN N (some top) X = some d → X = splitB (parentB p) := fun X hX => h.uniq ho hm (by rw [hmk]; decide) hX hd
  have hlf : ∀ s, kidsOf (addN N d n x (baseB p)) n s = none := fun s => by rw [kidsOf_some (addN_new ..)]; exact hxk s
  have hon : ∀ Z, atN (addN N d n x (baseB p)) (some top) (splitB (parentB p) ++ baseB p :: Z) = if Z = [] then some n else none := fun Z => by
    rw [atN_on h1 h2 hu hd, hb, atN_leaf hlf]
  have hoff := fun X hX => atN_off h1 h2 hu X hX
  have hsame : ∀ {o a}, SameO N o a → SameO (addN N d n x (baseB p)) o a := fun {o a} hs => by
    cases o with
    | none => cases a with
      | none => trivial
      | some i => exact absurd hs (by simp [SameO])
    | some j =>
      obtain ⟨m0, hm0, rfl⟩ := hs.some
      obtain ⟨m', e1, _, e2, _⟩ := addN_same (d := d) (n := n) (x := x) (s := baseB p) hm0 (fun e => by rw [e, hN] at hm0; cases hm0)
      exact ⟨m', e1, e2⟩
  have hth : ∀ j m0, N j = some m0 → (S.add p (thN x)).th m0.ino = S.th m0.ino := fun j m0 hj => setT_other _ _ (by have := (h.lt j m0 hj).2; omega)
  have hn1 : 1 ≤ S.next := by
    have := ho.lt _ ((ho.at_iff [] 1).1 ho.top)
    have h2 : (1 : Int) < S.next := this.2
    omega
  refine ⟨fun q hq => ?_, fun X j hX => ?_, fun i j m1 m2 hi hj he => ?_, fun j m' hj => ?_, fun j m' hj => ?_, fun j m' hj => ?_, fun j m' hj hk s => ?_, fun i m' s j hi hs => ?_, ?_⟩
  · rw [St.add_at S p (thN x) q hat]
    by_cases hqp : q = p
    · subst hqp
      rw [if_pos rfl, hsp, hon, if_pos rfl]
      exact ⟨x, addN_new .., hxi⟩
    · rw [if_neg hqp]
      by_cases hz : ∃ Z, splitB q = splitB (parentB p) ++ baseB p :: Z
      · obtain ⟨Z, hZ⟩ := hz
        have hZ0 : Z ≠ [] := fun e => hqp (splitB_inj (by rw [hZ, e, hsp]))
        rw [hZ, hon, if_neg hZ0]
        have := h.rep q hq
        rw [hZ, atN_append, hd, atN_cons, kidsOf_some hm, hmb, atN_none] at this
        rw [(this.none_iff).1 rfl]; trivial
      · rw [hoff _ (fun Z e => hz ⟨Z, e⟩)]
        exact hsame (h.rep q hq)
  · by_cases hz : ∃ Z, X = splitB (parentB p) ++ baseB p :: Z
    · obtain ⟨Z, rfl⟩ := hz
      rw [hon] at hX
      by_cases hZ : Z = []
      · subst hZ; exact ⟨p, hr, hsp⟩
      · rw [if_neg hZ] at hX; cases hX
    · rw [hoff _ (fun Z e => hz ⟨Z, e⟩)] at hX
      exact h.only X j hX
  · rcases addN_from hi with ⟨rfl, rfl⟩ | ⟨g1, a0, ha0, e1, e2, e3, e4⟩
    · rcases addN_from hj with ⟨rfl, rfl⟩ | ⟨g2, b0, hb0, f1, f2, f3, f4⟩
      · rfl
      · have := (h.lt j b0 hb0).2
        rw [hxi, f2] at he; omega
    · rcases addN_from hj with ⟨rfl, rfl⟩ | ⟨g2, b0, hb0, f1, f2, f3, f4⟩
      · have := (h.lt i a0 ha0).2
        rw [hxi, e2] at he; omega
      · exact h.inj i j a0 b0 ha0 hb0 (by rw [← e2, ← f2]; exact he)
  · rcases addN_from hj with ⟨rfl, rfl⟩ | ⟨g1, a0, ha0, e1, e2, e3, e4⟩
    · rw [hxi]; exact setT_same ..
    · rw [e2, hth j a0 ha0, h.info j a0 ha0, e1]
  · rcases addN_from hj with ⟨rfl, rfl⟩ | ⟨g1, a0, ha0, e1, e2, e3, e4⟩
    · rw [hxi]; exact ⟨hn1, by show S.next < S.next + 1; omega⟩
    · rw [e2]
      have := h.lt j a0 ha0
      exact ⟨this.1, by show a0.ino < S.next + 1; omega⟩
  · show m'.links = (((S.ls ++ [(p, S.next)]).countP (fun x => x.2 == m'.ino) : Nat) : Int)
    rw [List.countP_append]
    rcases addN_from hj with ⟨rfl, rfl⟩ | ⟨g1, a0, ha0, e1, e2, e3, e4⟩
    · rw [hxl, hxi, countP_fresh (fun y hy => (ho.lt y hy).2)]
      simp
    · rw [e3, e2, h.links j a0 ha0]
      have := (h.lt j a0 ha0).2
      have : (S.next == a0.ino) = false := by
        have : ¬ S.next = a0.ino := by omega
        simpa using this
      simp [this]
  · rcases addN_from hj with ⟨rfl, rfl⟩ | ⟨g1, a0, ha0, e1, e2, e3, ⟨rfl, e4⟩ | ⟨g3, e4⟩⟩
    · exact hxk s
    · rw [hm, Option.some.injEq] at ha0
      subst ha0
      exact absurd (by rw [show m'.kind = (thN m').kind from rfl, e1]; exact hmk) hk
    · rw [e4]
      exact h.leaf j a0 ha0 (by rw [show a0.kind = (thN a0).kind from rfl, ← e1]; exact hk) s
  · have hex : ∀ j q, N j = some q → ∃ q', addN N d n x (baseB p) j = some q' := fun j q hq => by
      obtain ⟨q', hq', _⟩ := addN_is (d := d) (n := n) x (baseB p) hq
      exact ⟨q', hq'⟩
    rcases addN_from hi with ⟨rfl, rfl⟩ | ⟨g1, a0, ha0, e1, e2, e3, ⟨rfl, e4⟩ | ⟨g3, e4⟩⟩
    · rw [hxk s] at hs; cases hs
    · rw [e4] at hs
      unfold kidsAdd at hs
      by_cases hys : s = baseB p
      · rw [if_pos hys, Option.some.injEq] at hs
        subst hs
        exact ⟨x, addN_new ..⟩
      · rw [if_neg hys] at hs
        obtain ⟨q, hq⟩ := h.closed i a0 s j ha0 hs
        exact hex j q hq
    · rw [e4] at hs
      obtain ⟨q, hq⟩ := h.closed i a0 s j ha0 hs
      exact hex j q hq
  · obtain ⟨r, hr0⟩ := h.root
    obtain ⟨q', hq', _⟩ := addN_is (d := d) (n := n) x (baseB p) hr0
    exact ⟨q', hq'⟩
theorem kidsOf_set {N : Nat → Option Nd} {k : Nat} {x x' : Nd} (hk : N k = some x) (e : x'.kids = x.kids) (i : Nat) : kidsOf (setN N k x') i = kidsOf N i := by
  by_cases hi : i = k
  · subst hi; rw [kidsOf_some (setN_same ..), kidsOf_some hk, e]
  · unfold kidsOf; rw [setN_other x' hi]
theorem atN_kids {N N' : Nat → Option Nd} (h : ∀ i, kidsOf N' i = kidsOf N i) : ∀ (X : List (List UInt8)) (c : Option Nat), atN N' c X = atN N c X
  | [], c => by cases c <;> rfl
  | x :: r, none => by rw [atN_none, atN_none]
  | x :: r, some i => by rw [atN_cons, atN_cons, h]; exact atN_kids h r _
/-- A thing changes in place. -/
theorem Rep.set {N : Nat → Option Nd} {top k : Nat} {S : St} {x x' : Nd} (h : Rep N top S) (hk : N k = some x) (e1 : x'.kids = x.kids) (e2 : x'.ino = x.ino) (e3 : x'.links = x.links) (e4 : x'.kind = x.kind) : Rep (setN N k x') top { S with th := setT S.th x.ino (thN x') } := by
  have hat : ∀ X, atN (setN N k x') (some top) X = atN N (some top) X := fun X => atN_kids (kidsOf_set hk e1) X _
  have hfrom : ∀ {i m'}, setN N k x' i = some m' → ∃ m, N i = some m ∧ m'.kids = m.kids ∧ m'.ino = m.ino ∧ m'.links = m.links ∧ m'.kind = m.kind ∧ (i ≠ k → m' = m) ∧ (i = k → m' = x') := fun {i m'} hi => by
    rcases setN_some hi with ⟨rfl, rfl⟩ | ⟨hne, hm⟩
    · exact ⟨x, hk, e1, e2, e3, e4, fun h => absurd rfl h, fun _ => rfl⟩
    · exact ⟨m', hm, rfl, rfl, rfl, rfl, fun _ => rfl, fun h => absurd h hne⟩
  have hto : ∀ {i m}, N i = some m → ∃ m', setN N k x' i = some m' ∧ m'.ino = m.ino := fun {i m} hi => by
    by_cases e : i = k
    · subst e
      rw [hk, Option.some.injEq] at hi; subst hi
      exact ⟨x', setN_same .., e2⟩
    · exact ⟨m, (setN_other x' e).trans hi, rfl⟩
  refine ⟨fun p hp => ?_, fun X j hX => h.only X j (by rw [← hat]; exact hX), fun i j n m hi hj he => ?_, fun j n hj => ?_, fun j n hj => ?_, fun j n hj => ?_, fun j n hj hkd s => ?_, fun i n s j hi hs => ?_, ?_⟩
  · rw [hat]
    have := h.rep p hp
    show SameO (setN N k x') _ (S.at p)
    cases ho : atN N (some top) (splitB p) with
    | none => rw [ho] at this; rw [(this.none_iff).1 rfl]; trivial
    | some j =>
      rw [ho] at this
      obtain ⟨m, hm, e⟩ := this.some
      obtain ⟨m', h1, h2⟩ := hto hm
      rw [e]; exact ⟨m', h1, h2⟩
  · obtain ⟨a, h1, _, h2, _⟩ := hfrom hi
    obtain ⟨b, h3, _, h4, _⟩ := hfrom hj
    exact h.inj i j a b h1 h3 (by rw [← h2, ← h4]; exact he)
  · obtain ⟨a, h1, _, h2, _, _, h5, h6⟩ := hfrom hj
    show setT S.th x.ino (thN x') n.ino = thN n
    by_cases e : j = k
    · rw [h6 e, e2, setT_same]
    · have hne : n.ino ≠ x.ino := fun e' => e (h.inj j k a x h1 hk (by rw [← h2]; exact e'))
      rw [setT_other _ _ hne, h2, h.info j a h1, h5 e]
  · obtain ⟨a, h1, _, h2, _⟩ := hfrom hj
    rw [h2]; exact h.lt j a h1
  · obtain ⟨a, h1, _, h2, h3, _⟩ := hfrom hj
    rw [h3, h2]; exact h.links j a h1
  · obtain ⟨a, h1, h0, _, _, h4, _⟩ := hfrom hj
    rw [h0]; exact h.leaf j a h1 (by rw [← h4]; exact hkd) s
  · obtain ⟨a, h1, h0, _⟩ := hfrom hi
    rw [h0] at hs
    obtain ⟨m, hm⟩ := h.closed i a s j h1 hs
    obtain ⟨m', hm', _⟩ := hto hm
    exact ⟨m', hm'⟩
  · obtain ⟨r, hr⟩ := h.root
    obtain ⟨m', hm', _⟩ := hto hr
    exact ⟨m', hm'⟩
end Go.Proofs.YtlbbehfbjbbckaaGreatDoor
