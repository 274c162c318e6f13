import Derived.Test.YtcagonpnjionhaaQh
import Derived.Test.YtcagonpnjionhaaQc
import Derived.Test.YtcagonpnjionhaaQa
import Derived.Deep.OwnRows
/-! What goes: the program's reckoning, as plain functions; the block that holds both sides. -/
set_option linter.unusedVariables false
set_option linter.unusedSimpArgs false
namespace Go.Proofs.Ytcagonpnjionhaa
open Go.RowKit

/-- The source's entry at a path: the last one. -/
def srcE (l : List En) : List UInt8 → Option En := l.foldl (fun f x s => if s = x.path.data.toList then some x else f s) (fun _ => none)
def srcF (l : List En) : List UInt8 → Option Value := fun s => (srcE l s).map aggE
theorem srcF_nil : srcF [] = fun _ => none := rfl
theorem srcF_snoc {L : List En} {i : Nat} {x : En} (h : L[i]? = some x) : updM (srcF (L.take i)) x.path.data.toList (aggE x) = srcF (L.take (i + 1)) := by
  obtain ⟨hi, he⟩ := List.getElem?_eq_some_iff.1 h
  funext s
  unfold srcF updM srcE
  rw [List.take_succ_eq_append_getElem hi, he, List.foldl_append]
  show _ = Option.map aggE (if s = x.path.data.toList then some x else _)
  split <;> rfl
def thereU (S : List En) (e : En) : Bool := match srcE S e.path.data.toList with
  | some s => (s.kind == 2) == (e.kind == 2)
  | none => false
/-- Why an entry does not go, whatever stands below it. -/
def firstU (S : List En) (R : List Ru) (e : En) : Int :=
  if thereU S e = true then 1 else if hiddenU R e.path.data.toList (e.kind == 2) = true then 2 else if safeU R e.path.data.toList (e.kind == 2) = true then 3 else 0
def parAt (D : List En) (j : Nat) : Option (List UInt8) := D[j]?.map (fun y => parentB y.path.data.toList)
/-- Those of the first i whose parent is s. -/
def kdT (D : List En) (i : Nat) (s : List UInt8) : List Nat := (List.range i).filter (fun j => parAt D j == some s)
theorem kdT_zero (D : List En) (s : List UInt8) : kdT D 0 s = [] := rfl
theorem kdT_same {D : List En} {i : Nat} {x : En} (h : D[i]? = some x) : kdT D (i + 1) (parentB x.path.data.toList) = kdT D i (parentB x.path.data.toList) ++ [i] := by
  unfold kdT
  rw [List.range_succ, List.filter_append]
  congr 1
  simp [parAt, h]
theorem kdT_other {D : List En} {i : Nat} {x : En} (h : D[i]? = some x) {s : List UInt8} (hs : s ≠ parentB x.path.data.toList) : kdT D (i + 1) s = kdT D i s := by
  unfold kdT
  rw [List.range_succ, List.filter_append]
  have : [i].filter (fun j => parAt D j == some s) = [] := by simp [parAt, h, Ne.symm hs]
  rw [this, List.append_nil]
theorem kdT_lt {D : List En} {i j : Nat} {s : List UInt8} (h : j ∈ kdT D i s) : j < i := by
  unfold kdT at h
  exact List.mem_range.1 (List.mem_filter.1 h).1
theorem kdT_len (D : List En) (i : Nat) (s : List UInt8) : (kdT D i s).length ≤ i := by
  unfold kdT
  have := List.length_filter_le (fun j => parAt D j == some s) (List.range i)
  rwa [List.length_range] at this
/-- How many of a list go and have s as parent. -/
def cntGo (s : List UInt8) : List En → List Int → Nat
  | y :: r, w :: ws => (if w = 0 ∧ parentB y.path.data.toList = s then 1 else 0) + cntGo s r ws
  | _, _ => 0
theorem cntGo_le (s : List UInt8) : ∀ (l : List En) (ws : List Int), cntGo s l ws ≤ l.length
  | [], _ => by simp [cntGo]
  | _ :: _, [] => by simp [cntGo]
  | y :: r, w :: ws => by
    have := cntGo_le s r ws
    rw [cntGo, List.length_cons]
    split <;> omega
def stepW (S : List En) (R : List Ru) (kn : List UInt8 → Nat) (x : En) (r : List En) (ws : List Int) : Int :=
  if firstU S R x = 0 ∧ x.kind = 2 ∧ (((cntGo x.path.data.toList r ws : Nat) : Int) ≠ x.size ∨ ((kn x.path.data.toList : Nat) : Int) ≠ x.size) then 4 else firstU S R x
def whyL (S : List En) (R : List Ru) (kn : List UInt8 → Nat) : List En → List Int
  | [] => []
  | x :: r => stepW S R kn x r (whyL S R kn r) :: whyL S R kn r
theorem whyL_len (S : List En) (R : List Ru) (kn : List UInt8 → Nat) : ∀ l, (whyL S R kn l).length = l.length
  | [] => rfl
  | x :: r => by rw [whyL, List.length_cons, List.length_cons, whyL_len S R kn r]
def kidsN (D : List En) (s : List UInt8) : Nat := (kdT D D.length s).length
def whyU (S D : List En) (R : List Ru) : List Int := whyL S R (kidsN D) D
theorem whyL_drop {S : List En} {R : List Ru} {kn : List UInt8 → Nat} {D : List En} {i : Nat} {x : En} (h : D[i]? = some x) : whyL S R kn (D.drop i) = stepW S R kn x (D.drop (i + 1)) (whyL S R kn (D.drop (i + 1))) :: whyL S R kn (D.drop (i + 1)) := by
  obtain ⟨hi, he⟩ := List.getElem?_eq_some_iff.1 h
  rw [List.drop_eq_getElem_cons hi, he, whyL]
def ints (l : List Int) : List Value := l.map (.int .i64)
/-- What goes below an entry, and, at the end, the entry itself. -/
def belowU (D : List En) (ws : List Int) : Nat → Nat → List ByteArray
  | 0, _ => []
  | k+1, i => match D[i]? with
    | none => []
    | some x => (kdT D D.length x.path.data.toList).flatMap (belowU D ws k) ++ (if ws[i]? = some 0 then [x.path] else [])
def goneU (S D : List En) (R : List Ru) : List ByteArray := (kdT D D.length []).flatMap (belowU D (whyU S D R) 201)
/-- The map of what is below: at each path the numbers of those whose parent it is, in a row of its own. -/
def KidsAt (w : World) (K base n : Nat) (kd : List UInt8 → List Nat) : Prop :=
  ∃ f : List UInt8 → Option Value, MapAt w K n f ∧
    (∀ s, w.ownsRow base 3 1 ((f s).getD (.slice none 0 0)) (kd s).length ((kd s).map (fun j => .int .i64 (j : Nat)))) ∧
    ∀ s t b, ((f s).getD (.slice none 0 0)).ownBlock = some b → ((f t).getD (.slice none 0 0)).ownBlock = some b → s = t
/-- Both sides, looked at. -/
structure Sides (w : World) (g M W K base : Nat) (dA : Option Addr) (dn dc : Nat) (rA : Option Addr) (rn rc : Nat) (S D : List En) (R : List Ru) (ws : List Int) : Prop where
  blk : Blk w g 55 [.map (some M), .slice dA dn dc, .slice rA rn rc, .slice (some ⟨W, 0, none⟩) dn dn, .map (some K)]
  src : MapAt w M 1000 (srcF S)
  dst : Sl 11 w dA dn (encEs D)
  rul : Sl 4 w rA rn (encUs R)
  why : Blk w W 3 (ints ws)
  kids : KidsAt w K base 1000 (kdT D D.length)
end Go.Proofs.Ytcagonpnjionhaa

/-! Steps of a region that draws its order: a whole row's store, a map's store, an append. -/
set_option linter.unusedVariables false
set_option linter.unusedSimpArgs false
namespace Go.Proofs.Ytcagonpnjionhaa
open Go.RowKit

theorem step_append_run {P : Program} {w w' : World} {ops : Array Oper} {o : Oper} {a : Act} {K : Act → World → Prop} {Q : Exit → Act → World → Prop} {E : Prop} (hgd : o.guard = none) (s x : Operand) (t u : TypeId)
    (ho : o.op = .call { callee := .builtin .append, args := #[s, x], argTypes := #[t, u] }) {v sv xv : Value} (hs : a.eval s = sv) (hx : a.eval x = xv)
    (hr : (Builtin.append_ #[t, u] o.type #[sv, xv]).run P w = .ok v w')
    (h : K (a.put o.dst v) w') :
    if Region.wanted o (yielded ops a.tmps) = true then Oper.wp P o a w K Q else E := by
  have hw : Region.wanted o (yielded ops a.tmps) = true := by simp [Region.wanted, hgd]
  rw [if_pos hw]
  unfold Oper.wp execOp
  simp only [ho, resolve, invoke, builtin, Sem.run_bind, Sem.run_pure, Result.andThen_ok, List.map_toArray, List.map_cons, List.map_nil, hs, hx, hr]
  exact h
theorem step_store_row {P : Program} {w : World} {ops : Array Oper} {o : Oper} {a : Act} {K : Act → World → Prop} {Q : Exit → Act → World → Prop} {E : Prop} (hgd : o.guard = none) (ty : TypeId) (x y : Operand) (ho : o.op = .store ty x y)
    (g : Nat) (cells old : Array Value) (t : TypeId) (hx : a.eval x = .pointer (some ⟨g, 0, none⟩)) (hy : a.eval y = .agg cells)
    (hg : w.heap[g]? = some (.cells old t (0, 0))) (hi : (P.info? ty).map (·.size) = some cells.size) (hs : old.size = cells.size) (h1 : cells.all (·.oneCell') = true)
    (h : K (a.put o.dst undef) (w.setRow g cells)) :
    if Region.wanted o (yielded ops a.tmps) = true then Oper.wp P o a w K Q else E := by
  have hw : Region.wanted o (yielded ops a.tmps) = true := by simp [Region.wanted, hgd]
  rw [if_pos hw]
  unfold Oper.wp execOp
  simp only [ho, hx, hy, Instr.storeAt, Instr.sureAddr, Sem.run_bind, Sem.run_pure, Result.andThen_ok, run_storeVar_row w g t ty old cells hg hi hs h1]
  exact h
theorem step_lookup {P : Program} {w w' : World} {ops : Array Oper} {o : Oper} {a : Act} {K : Act → World → Prop} {Q : Exit → Act → World → Prop} {E : Prop} (hgd : o.guard = none) (t : TypeId) (m k : Operand) (c : Bool) (ho : o.op = .lookup t m k c)
    {mv kv v : Value} (hm : a.eval m = mv) (hk : a.eval k = kv) (hr : (Instr.lookup t mv kv c).run P w = .ok v w')
    (h : K (a.put o.dst v) w') :
    if Region.wanted o (yielded ops a.tmps) = true then Oper.wp P o a w K Q else E := by
  have hw : Region.wanted o (yielded ops a.tmps) = true := by simp [Region.wanted, hgd]
  rw [if_pos hw]
  unfold Oper.wp
  simp only [execOp, ho, hm, hk, Sem.run_bind, Sem.run_pure, Result.andThen_ok, hr, Result.andThen]
  exact h
theorem step_mapUpdate {P : Program} {w w' : World} {ops : Array Oper} {o : Oper} {a : Act} {K : Act → World → Prop} {Q : Exit → Act → World → Prop} {E : Prop} (hgd : o.guard = none) (t : TypeId) (m k x : Operand) (ho : o.op = .mapUpdate t m k x)
    {mv kv xv : Value} (hm : a.eval m = mv) (hk : a.eval k = kv) (hx : a.eval x = xv) (hr : (Instr.mapUpdate t mv kv xv).run P w = .ok () w')
    (h : K (a.put o.dst undef) w') :
    if Region.wanted o (yielded ops a.tmps) = true then Oper.wp P o a w K Q else E := by
  have hw : Region.wanted o (yielded ops a.tmps) = true := by simp [Region.wanted, hgd]
  rw [if_pos hw]
  unfold Oper.wp
  simp only [execOp, ho, hm, hk, hx, Sem.run_bind, Sem.run_pure, Result.andThen_ok, hr, Result.andThen]
  exact h
end Go.Proofs.Ytcagonpnjionhaa

/-! Why an entry does not go, whatever stands below it: the program's first. -/
set_option linter.unusedVariables false
set_option linter.unusedSimpArgs false
namespace Go.Proofs.Ytcagonpnjionhaa
open Go.RowKit

theorem enZero (w : World) : (zeroValue 37).run Try.prog w = .ok (.agg #[.string ⟨#[]⟩, .int .i64 0, .int .i64 0, .int .i64 0, .int .i64 0, .int .i64 0, .int .i64 0, .int .i64 0, .string ⟨#[]⟩, .string ⟨#[]⟩, .int .i64 0]) w := by kernel_rfl
theorem below_grown0 {B : Nat} {a b c : World} (h : Below B a b) (hg : b.grownBy c none) (hB : B ≤ b.heap.size) : Below B a c := h.grown hg hB (fun j hj => by cases hj)
set_option maxRecDepth 100000 in
set_option maxHeartbeats 8000000 in
theorem first_any (e : En) (w : World) (g M nM W K : Nat) (dA : Option Addr) (dn dc : Nat) (rA : Option Addr) (rn rc : Nat) (S : List En) (R : List Ru)
    (hb : Blk w g 55 [.map (some M), .slice dA dn dc, .slice rA rn rc, .slice (some ⟨W, 0, none⟩) dn dn, .map (some K)]) (hs : MapAt w M nM (srcF S)) (hr : Sl 4 w rA rn (encUs R)) (hR : ∀ r ∈ R, r.pat.size ≤ 140737488355328) (hp : e.path.size ≤ 2097152) :
    Calls Try.prog 34 #[.pointer (some ⟨g, 0, none⟩), aggE e] w fun f w' => f = .returned (.int .i64 (firstU S R e)) ∧ Below w.heap.size w w' := by
  obtain ⟨X, hX⟩ : ∃ X, firstU S R e = X := ⟨_, rfl⟩
  have HX : Hid ((if thereU S e = true then 1 else if hiddenU R e.path.data.toList (e.kind == 2) = true then 2 else if safeU R e.path.data.toList (e.kind == 2) = true then 3 else 0) = X) := Lib.hid hX
  rw [hX]
  clear hX
  have hTH : thereU S e = (match srcE S e.path.data.toList with | some s => (s.kind == 2) == (e.kind == 2) | none => false) := rfl
  have HLK := Lib.hid (fun (w' : World) (h : Below w.heap.size w w') => (hs.below h).lookOk Try.underlying52 (enZero w') (s := e.path) (by unfold maxLen; omega))
  have hsf : srcF S e.path.data.toList = (srcE S e.path.data.toList).map aggE := rfl
  rw [hsf] at HLK
  clear hsf
  have HHD := Lib.hid (fun (w' : World) (d : Bool) (h : Below w.heap.size w w') => hidden_any rA rn rc R e.path d w' (hr.below h) hR hp)
  have HSF := Lib.hid (fun (w' : World) (d : Bool) (h : Below w.heap.size w w') => safe_any rA rn rc R e.path d w' (hr.below h) hR hp)
  have HB := Lib.hid hb
  have hgl := hb.lt
  clear hb hs hr hR
  have N0 := Lib.hid (Blk.new w 37 (encE e))
  have B0 := Lib.hid ((Below.refl w.heap.size w).alloc (Nat.le_refl _) (.cells #[.string e.path, .int .i64 e.kind, .int .i64 e.size, .int .i64 e.m0, .int .i64 e.m1, .int .i64 e.m2, .int .i64 e.m3, .int .i64 e.m4, .string e.target, .string e.sum, .int .i64 e.group] 37))
  have hw0 : w.heap.size < (w.alloc (.cells #[.string e.path, .int .i64 e.kind, .int .i64 e.size, .int .i64 e.m0, .int .i64 e.m1, .int .i64 e.m2, .int .i64 e.m3, .int .i64 e.m4, .string e.target, .string e.sum, .int .i64 e.group] 37)).heap.size := by rw [World.size_alloc]; exact Nat.lt_succ_self _
  have hkd : (e.kind == 2) = (e.kind == 2) := rfl
  generalize hdk : (e.kind == 2) = dk at *
  unfold aggE
  go_enter Try.func34, Try.ntmps34
  go_wp2_with fail
  generalize hWX : w.alloc (.cells #[.string e.path, .int .i64 e.kind, .int .i64 e.size, .int .i64 e.m0, .int .i64 e.m1, .int .i64 e.m2, .int .i64 e.m3, .int .i64 e.m4, .string e.target, .string e.sum, .int .i64 e.group] 37) = w0 at *
  have N0 : Hid (Blk w0 w.heap.size 37 (encE e)) := by rw [← hWX]; exact N0
  clear hWX
  have G0 := Lib.hid ((HB.out.below B0.out).drew)
  have b0 := Lib.hid (G0.out.cell 0)
  have hg0 : g < w0.drew.heap.size := G0.out.lt
  have c0 := Lib.hid (N0.out.drew.cell 0)
  have HLD := Lib.hid (fun (w' : World) (h : Below w0.drew.heap.size w0.drew w') => HLK.out w' (B0.out.drew.trans (h.mono B0.out.drew.size)))
  cases hse : srcE S e.path.data.toList with
  | none =>
    rw [hse] at HLD hTH
    clear hse
    have b1 := b0.out
    have c1 := c0.out
    refine wp_region_held_drew (S := fun w' => Below (w0.drew).heap.size (w0.drew) w') (by kernel_rfl) (Below.refl _ _) (fun hHeld => ?_)
    refine wpAnyH_take (i := 0) (oi := ?oi1) (v := ?v1) ?hi1 ?hs1 ?hf1 ?hr1 ?hQ1 (Or.inl ⟨?hg1, ?hy1⟩) hHeld ?rest1
    case hi1 => simp only [List.getElem?_toArray, List.getElem?_cons_succ, List.getElem?_cons_zero]; rfl
    case hs1 => kernel_rfl
    case hf1 => kernel_rfl
    case hr1 => kernel_rfl
    case hg1 => rfl
    case hy1 => (intro w hSw; first | (go_simp; done) | (go_simp; with_reducible rfl))
    case hQ1 => exact fun _ _ _ h => h
    try simp only [Act.put, List.setIfInBounds_toArray, List.set_cons_zero, List.set_cons_succ]
    refine wpAnyH_take (i := 1) (oi := ?oi2) (v := ?v2) ?hi2 ?hs2 ?hf2 ?hr2 ?hQ2 (Or.inl ⟨?hg2, ?hy2⟩) hHeld ?rest2
    case hi2 => simp only [List.getElem?_toArray, List.getElem?_cons_succ, List.getElem?_cons_zero]; rfl
    case hs2 => kernel_rfl
    case hf2 => kernel_rfl
    case hr2 => kernel_rfl
    case hg2 => rfl
    case hy2 => (intro w hSw; have x0 := cell_below b1 hSw; first | (go_simp; done) | (go_simp; with_reducible rfl))
    case hQ2 => exact fun _ _ _ h => h
    try simp only [Act.put, List.setIfInBounds_toArray, List.set_cons_zero, List.set_cons_succ]
    refine wpAnyH_take (i := 2) (oi := ?oi3) (v := ?v3) ?hi3 ?hs3 ?hf3 ?hr3 ?hQ3 (Or.inl ⟨?hg3, ?hy3⟩) hHeld ?rest3
    case hi3 => simp only [List.getElem?_toArray, List.getElem?_cons_succ, List.getElem?_cons_zero]; rfl
    case hs3 => kernel_rfl
    case hf3 => kernel_rfl
    case hr3 => kernel_rfl
    case hg3 => rfl
    case hy3 => (intro w hSw; have x0 := cell_below b1 hSw; first | (go_simp; done) | (go_simp; with_reducible rfl))
    case hQ3 => exact fun _ _ _ h => h
    try simp only [Act.put, List.setIfInBounds_toArray, List.set_cons_zero, List.set_cons_succ]
    refine wpAnyH_take (i := 3) (oi := ?oi4) (v := ?v4) ?hi4 ?hs4 ?hf4 ?hr4 ?hQ4 (Or.inl ⟨?hg4, ?hy4⟩) hHeld ?rest4
    case hi4 => simp only [List.getElem?_toArray, List.getElem?_cons_succ, List.getElem?_cons_zero]; rfl
    case hs4 => kernel_rfl
    case hf4 => kernel_rfl
    case hr4 => kernel_rfl
    case hg4 => rfl
    case hy4 => (intro w hSw; have x0 := cell_below b1 hSw; first | (go_simp; done) | (go_simp; with_reducible rfl))
    case hQ4 => exact fun _ _ _ h => h
    try simp only [Act.put, List.setIfInBounds_toArray, List.set_cons_zero, List.set_cons_succ]
    refine wpAnyH_take (i := 4) (oi := ?oi5) (v := ?v5) ?hi5 ?hs5 ?hf5 ?hr5 ?hQ5 (Or.inl ⟨?hg5, ?hy5⟩) hHeld ?rest5
    case hi5 => simp only [List.getElem?_toArray, List.getElem?_cons_succ, List.getElem?_cons_zero]; rfl
    case hs5 => kernel_rfl
    case hf5 => kernel_rfl
    case hr5 => kernel_rfl
    case hg5 => rfl
    case hy5 => (intro w hSw; have x0 := cell_below c1 hSw; first | (go_simp; done) | (go_simp; with_reducible rfl))
    case hQ5 => exact fun _ _ _ h => h
    try simp only [Act.put, List.setIfInBounds_toArray, List.set_cons_zero, List.set_cons_succ]
    refine wpAnyH_take (i := 5) (oi := ?oi6) (v := ?v6) ?hi6 ?hs6 ?hf6 ?hr6 ?hQ6 (Or.inl ⟨?hg6, ?hy6⟩) hHeld ?rest6
    case hi6 => simp only [List.getElem?_toArray, List.getElem?_cons_succ, List.getElem?_cons_zero]; rfl
    case hs6 => kernel_rfl
    case hf6 => kernel_rfl
    case hr6 => kernel_rfl
    case hg6 => rfl
    case hy6 => (intro w hSw; have x0 := cell_below c1 hSw; first | (go_simp; done) | (go_simp; with_reducible rfl))
    case hQ6 => exact fun _ _ _ h => h
    try simp only [Act.put, List.setIfInBounds_toArray, List.set_cons_zero, List.set_cons_succ]
    refine wpAnyH_take (i := 6) (oi := ?oi7) (v := ?v7) ?hi7 ?hs7 ?hf7 ?hr7 ?hQ7 (Or.inl ⟨?hg7, ?hy7⟩) hHeld ?rest7
    case hi7 => simp only [List.getElem?_toArray, List.getElem?_cons_succ, List.getElem?_cons_zero]; rfl
    case hs7 => kernel_rfl
    case hf7 => kernel_rfl
    case hr7 => kernel_rfl
    case hg7 => rfl
    case hy7 => (intro w hSw; have x0 := HLD.out w hSw; first | (go_simp; done) | (go_simp; with_reducible rfl))
    case hQ7 => exact fun _ _ _ h => h
    try simp only [Act.put, List.setIfInBounds_toArray, List.set_cons_zero, List.set_cons_succ]
    refine wpAnyH_take (i := 7) (oi := ?oi8) (v := ?v8) ?hi8 ?hs8 ?hf8 ?hr8 ?hQ8 (Or.inl ⟨?hg8, ?hy8⟩) hHeld ?rest8
    case hi8 => simp only [List.getElem?_toArray, List.getElem?_cons_succ, List.getElem?_cons_zero]; rfl
    case hs8 => kernel_rfl
    case hf8 => kernel_rfl
    case hr8 => kernel_rfl
    case hg8 => rfl
    case hy8 => (intro w hSw; first | (go_simp; done) | (go_simp; with_reducible rfl))
    case hQ8 => exact fun _ _ _ h => h
    try simp only [Act.put, List.setIfInBounds_toArray, List.set_cons_zero, List.set_cons_succ]
    refine wpAnyH_take (i := 8) (oi := ?oi9) (v := ?v9) ?hi9 ?hs9 ?hf9 ?hr9 ?hQ9 (Or.inl ⟨?hg9, ?hy9⟩) hHeld ?rest9
    case hi9 => simp only [List.getElem?_toArray, List.getElem?_cons_succ, List.getElem?_cons_zero]; rfl
    case hs9 => kernel_rfl
    case hf9 => kernel_rfl
    case hr9 => kernel_rfl
    case hg9 => rfl
    case hy9 => (intro w hSw; first | (go_simp; done) | (go_simp; with_reducible rfl))
    case hQ9 => exact fun _ _ _ h => h
    try simp only [Act.put, List.setIfInBounds_toArray, List.set_cons_zero, List.set_cons_succ]
    refine wpAnyH_take (i := 9) (oi := ?oi10) (v := ?v10) ?hi10 ?hs10 ?hf10 ?hr10 ?hQ10 (Or.inl ⟨?hg10, ?hy10⟩) hHeld ?rest10
    case hi10 => simp only [List.getElem?_toArray, List.getElem?_cons_succ, List.getElem?_cons_zero]; rfl
    case hs10 => kernel_rfl
    case hf10 => kernel_rfl
    case hr10 => kernel_rfl
    case hg10 => rfl
    case hy10 => (intro w hSw; first | (go_simp; done) | (go_simp; with_reducible rfl))
    case hQ10 => exact fun _ _ _ h => h
    try simp only [Act.put, List.setIfInBounds_toArray, List.set_cons_zero, List.set_cons_succ]
    refine wpAnyH_ready (rs := [10]) (by kernel_rfl) (by simp) ?_
    refine AllReadyH.cons (o := ?oi11) ?hi11 (fun K hK => ?_) AllReadyH.nil
    case hi11 => simp only [List.getElem?_toArray, List.getElem?_cons_succ, List.getElem?_cons_zero]; rfl
    go_wp2_with fail
    obtain ⟨wz, hwz⟩ : ∃ wz, (w0.alloc (.cells #[.string ⟨#[]⟩, .int .i64 0, .int .i64 0, .int .i64 0, .int .i64 0, .int .i64 0, .int .i64 0, .int .i64 0, .string ⟨#[]⟩, .string ⟨#[]⟩, .int .i64 0] 37)).drew = wz := ⟨_, rfl⟩
    have hz0 : Below w0.drew.heap.size w0.drew wz := by rw [← hwz]; exact (show Below w0.drew.heap.size w0.drew (w0.alloc (.cells #[.string ⟨#[]⟩, .int .i64 0, .int .i64 0, .int .i64 0, .int .i64 0, .int .i64 0, .int .i64 0, .int .i64 0, .string ⟨#[]⟩, .string ⟨#[]⟩, .int .i64 0] 37)).drew from (Below.refl w0.drew.heap.size w0.drew).alloc (Nat.le_refl _) _)
    have NZ := Lib.hid (show Blk wz w0.heap.size 37 [.string ⟨#[]⟩, .int .i64 0, .int .i64 0, .int .i64 0, .int .i64 0, .int .i64 0, .int .i64 0, .int .i64 0, .string ⟨#[]⟩, .string ⟨#[]⟩, .int .i64 0] by rw [← hwz]; exact (show Blk (w0.alloc (.cells #[.string ⟨#[]⟩, .int .i64 0, .int .i64 0, .int .i64 0, .int .i64 0, .int .i64 0, .int .i64 0, .int .i64 0, .string ⟨#[]⟩, .string ⟨#[]⟩, .int .i64 0] 37)).drew w0.heap.size 37 (#[.string ⟨#[]⟩, .int .i64 0, .int .i64 0, .int .i64 0, .int .i64 0, .int .i64 0, .int .i64 0, .int .i64 0, .string ⟨#[]⟩, .string ⟨#[]⟩, .int .i64 0] : Array Value).toList from Blk.newA w0.drew 37 #[.string ⟨#[]⟩, .int .i64 0, .int .i64 0, .int .i64 0, .int .i64 0, .int .i64 0, .int .i64 0, .int .i64 0, .string ⟨#[]⟩, .string ⟨#[]⟩, .int .i64 0]))
    rw [hwz]
    clear hwz
    refine hK.out _ _ (hz0) (fun hHeld2 => ?_)
    clear hK K hHeld
    have hHeld := hHeld2
    clear hHeld2
    try simp only [Act.put, List.setIfInBounds_toArray, List.set_cons_zero, List.set_cons_succ]
    refine wpAnyH_ready (rs := [11]) (by kernel_rfl) (by simp) ?_
    refine AllReadyH.cons (o := ?oi12) ?hi12 (fun K hK => ?_) AllReadyH.nil
    case hi12 => simp only [List.getElem?_toArray, List.getElem?_cons_succ, List.getElem?_cons_zero]; rfl
    refine step_store_row rfl 37 (.tmp 5) (.tmp 16) rfl w0.heap.size _ _ _ rfl rfl NZ.out (by kernel_rfl) rfl (by simp [Value.oneCell']) ?_
    have N5 := Lib.hid (NZ.out.setRow [.string ⟨#[]⟩, .int .i64 0, .int .i64 0, .int .i64 0, .int .i64 0, .int .i64 0, .int .i64 0, .int .i64 0, .string ⟨#[]⟩, .string ⟨#[]⟩, .int .i64 0])
    have hz1 : Below w0.drew.heap.size w0.drew (wz.setRow w0.heap.size #[.string ⟨#[]⟩, .int .i64 0, .int .i64 0, .int .i64 0, .int .i64 0, .int .i64 0, .int .i64 0, .int .i64 0, .string ⟨#[]⟩, .string ⟨#[]⟩, .int .i64 0]) := below_setRow hz0 (Nat.le_refl _) _
    obtain ⟨w5, hw5⟩ : ∃ w5, wz.setRow w0.heap.size #[.string ⟨#[]⟩, .int .i64 0, .int .i64 0, .int .i64 0, .int .i64 0, .int .i64 0, .int .i64 0, .int .i64 0, .string ⟨#[]⟩, .string ⟨#[]⟩, .int .i64 0] = w5 := ⟨_, rfl⟩
    have N5 : Hid (Blk w5 w0.heap.size 37 [.string ⟨#[]⟩, .int .i64 0, .int .i64 0, .int .i64 0, .int .i64 0, .int .i64 0, .int .i64 0, .int .i64 0, .string ⟨#[]⟩, .string ⟨#[]⟩, .int .i64 0]) := by rw [← hw5]; exact N5
    rw [hw5] at hz1
    rw [show wz.setRow w0.heap.size _ = w5 from hw5]
    clear hw5
    refine hK.out _ _ (hz1) (fun hHeld2 => ?_)
    clear hK K hHeld
    have hHeld := hHeld2
    clear hHeld2
    try simp only [Act.put, List.setIfInBounds_toArray, List.set_cons_zero, List.set_cons_succ]
    refine wpAnyH_take (i := 12) (oi := ?oi13) (v := ?v13) ?hi13 ?hs13 ?hf13 ?hr13 ?hQ13 (Or.inl ⟨?hg13, ?hy13⟩) hHeld ?rest13
    case hi13 => simp only [List.getElem?_toArray, List.getElem?_cons_succ, List.getElem?_cons_zero]; rfl
    case hs13 => kernel_rfl
    case hf13 => kernel_rfl
    case hr13 => kernel_rfl
    case hg13 => rfl
    case hy13 => (intro w hSw; first | (go_simp; done) | (go_simp; with_reducible rfl))
    case hQ13 => exact fun _ _ _ h => h
    try simp only [Act.put, List.setIfInBounds_toArray, List.set_cons_zero, List.set_cons_succ]
    refine wpAnyH_done (by kernel_rfl) ?_ _
    clear hHeld NZ hz0
    have B5 := Lib.hid (B0.out.drew.trans (hz1.mono B0.out.drew.size))
    have G5 := Lib.hid (G0.out.below hz1)
    have P5 := Lib.hid (N0.out.drew.below hz1)
    clear hz1 b1 c1 b0 c0 HLD N0 B0 G0 hg0 hw0 HLK
    have g0 := G5.out.cell 0
    have g2 := G5.out.cell 2
    have c0 := P5.out.cell 0
    have c1 := P5.out.cell 1
    simp only [List.getElem?_cons_zero, List.getElem?_cons_succ, encE] at g0 g2 c0 c1
    have HHD := Lib.hid (fun (w' : World) (h : Below w.heap.size w w') => HHD.out w' dk h)
    have HSF := Lib.hid (fun (w' : World) (h : Below w.heap.size w w') => HSF.out w' dk h)
    have HX := Lib.hid (show (if hiddenU R e.path.data.toList dk = true then 2 else if safeU R e.path.data.toList dk = true then 3 else 0) = X by rw [← HX.out, hTH]; rfl)
    generalize hiddenU R e.path.data.toList dk = hd at *
    generalize safeU R e.path.data.toList dk = sf at *
    clear hTH
    go_wp2_with fail
    refine wp_region_held_drew (S := fun w' => Below (w5.drew).heap.size (w5.drew) w') (by kernel_rfl) (Below.refl _ _) (fun hHeld => ?_)
    refine wpAnyH_take (i := 0) (oi := ?oi14) (v := ?v14) ?hi14 ?hs14 ?hf14 ?hr14 ?hQ14 (Or.inl ⟨?hg14, ?hy14⟩) hHeld ?rest14
    case hi14 => simp only [List.getElem?_toArray, List.getElem?_cons_succ, List.getElem?_cons_zero]; rfl
    case hs14 => kernel_rfl
    case hf14 => kernel_rfl
    case hr14 => kernel_rfl
    case hg14 => rfl
    case hy14 => (intro w hSw; have x0 := cell_below g0 ((Below.refl _ _).drew.trans hSw); first | (go_simp; done) | (go_simp; with_reducible rfl))
    case hQ14 => exact fun _ _ _ h => h
    try simp only [Act.put, List.setIfInBounds_toArray, List.set_cons_zero, List.set_cons_succ]
    refine wpAnyH_take (i := 1) (oi := ?oi15) (v := ?v15) ?hi15 ?hs15 ?hf15 ?hr15 ?hQ15 (Or.inl ⟨?hg15, ?hy15⟩) hHeld ?rest15
    case hi15 => simp only [List.getElem?_toArray, List.getElem?_cons_succ, List.getElem?_cons_zero]; rfl
    case hs15 => kernel_rfl
    case hf15 => kernel_rfl
    case hr15 => kernel_rfl
    case hg15 => rfl
    case hy15 => (intro w hSw; have x0 := cell_below g0 ((Below.refl _ _).drew.trans hSw); first | (go_simp; done) | (go_simp; with_reducible rfl))
    case hQ15 => exact fun _ _ _ h => h
    try simp only [Act.put, List.setIfInBounds_toArray, List.set_cons_zero, List.set_cons_succ]
    refine wpAnyH_take (i := 2) (oi := ?oi16) (v := ?v16) ?hi16 ?hs16 ?hf16 ?hr16 ?hQ16 (Or.inl ⟨?hg16, ?hy16⟩) hHeld ?rest16
    case hi16 => simp only [List.getElem?_toArray, List.getElem?_cons_succ, List.getElem?_cons_zero]; rfl
    case hs16 => kernel_rfl
    case hf16 => kernel_rfl
    case hr16 => kernel_rfl
    case hg16 => rfl
    case hy16 => (intro w hSw; have x0 := cell_below g0 ((Below.refl _ _).drew.trans hSw); first | (go_simp; done) | (go_simp; with_reducible rfl))
    case hQ16 => exact fun _ _ _ h => h
    try simp only [Act.put, List.setIfInBounds_toArray, List.set_cons_zero, List.set_cons_succ]
    refine wpAnyH_take (i := 3) (oi := ?oi17) (v := ?v17) ?hi17 ?hs17 ?hf17 ?hr17 ?hQ17 (Or.inl ⟨?hg17, ?hy17⟩) hHeld ?rest17
    case hi17 => simp only [List.getElem?_toArray, List.getElem?_cons_succ, List.getElem?_cons_zero]; rfl
    case hs17 => kernel_rfl
    case hf17 => kernel_rfl
    case hr17 => kernel_rfl
    case hg17 => rfl
    case hy17 => (intro w hSw; have x0 := cell_below g2 ((Below.refl _ _).drew.trans hSw); first | (go_simp; done) | (go_simp; with_reducible rfl))
    case hQ17 => exact fun _ _ _ h => h
    try simp only [Act.put, List.setIfInBounds_toArray, List.set_cons_zero, List.set_cons_succ]
    refine wpAnyH_take (i := 4) (oi := ?oi18) (v := ?v18) ?hi18 ?hs18 ?hf18 ?hr18 ?hQ18 (Or.inl ⟨?hg18, ?hy18⟩) hHeld ?rest18
    case hi18 => simp only [List.getElem?_toArray, List.getElem?_cons_succ, List.getElem?_cons_zero]; rfl
    case hs18 => kernel_rfl
    case hf18 => kernel_rfl
    case hr18 => kernel_rfl
    case hg18 => rfl
    case hy18 => (intro w hSw; have x0 := cell_below c0 ((Below.refl _ _).drew.trans hSw); first | (go_simp; done) | (go_simp; with_reducible rfl))
    case hQ18 => exact fun _ _ _ h => h
    try simp only [Act.put, List.setIfInBounds_toArray, List.set_cons_zero, List.set_cons_succ]
    refine wpAnyH_take (i := 5) (oi := ?oi19) (v := ?v19) ?hi19 ?hs19 ?hf19 ?hr19 ?hQ19 (Or.inl ⟨?hg19, ?hy19⟩) hHeld ?rest19
    case hi19 => simp only [List.getElem?_toArray, List.getElem?_cons_succ, List.getElem?_cons_zero]; rfl
    case hs19 => kernel_rfl
    case hf19 => kernel_rfl
    case hr19 => kernel_rfl
    case hg19 => rfl
    case hy19 => (intro w hSw; have x0 := cell_below c0 ((Below.refl _ _).drew.trans hSw); first | (go_simp; done) | (go_simp; with_reducible rfl))
    case hQ19 => exact fun _ _ _ h => h
    try simp only [Act.put, List.setIfInBounds_toArray, List.set_cons_zero, List.set_cons_succ]
    refine wpAnyH_take (i := 6) (oi := ?oi20) (v := ?v20) ?hi20 ?hs20 ?hf20 ?hr20 ?hQ20 (Or.inl ⟨?hg20, ?hy20⟩) hHeld ?rest20
    case hi20 => simp only [List.getElem?_toArray, List.getElem?_cons_succ, List.getElem?_cons_zero]; rfl
    case hs20 => kernel_rfl
    case hf20 => kernel_rfl
    case hr20 => kernel_rfl
    case hg20 => rfl
    case hy20 => (intro w hSw; first | (go_simp; done) | (go_simp; with_reducible rfl))
    case hQ20 => exact fun _ _ _ h => h
    try simp only [Act.put, List.setIfInBounds_toArray, List.set_cons_zero, List.set_cons_succ]
    refine wpAnyH_ready (rs := [7]) (by kernel_rfl) (by simp) ?_
    refine AllReadyH.cons (o := ?oi21) ?hi21 (fun K hK => ?_) AllReadyH.nil
    case hi21 => simp only [List.getElem?_toArray, List.getElem?_cons_succ, List.getElem?_cons_zero]; rfl
    go_simp; go_at_call 16; refine (HHD.out _ B5.out.drew).mono ?_; rintro e5 w6 ⟨rfl, hb6⟩; go_wp2_with fail
    refine hK.out _ _ (hb6) (fun _ => ?_)
    clear hK K hHeld
    refine wpAnyH_change (S' := fun w' => Below (w6).heap.size (w6) w') (fun w' h => (hb6).trans (h.mono (hb6).size)) _ _ _ _ ?_
    have hHeld : Below (w6).heap.size (w6) (w6) := Below.refl _ _
    try simp only [Act.put, List.setIfInBounds_toArray, List.set_cons_zero, List.set_cons_succ]
    refine wpAnyH_take (i := 8) (oi := ?oi22) (v := ?v22) ?hi22 ?hs22 ?hf22 ?hr22 ?hQ22 (Or.inl ⟨?hg22, ?hy22⟩) hHeld ?rest22
    case hi22 => simp only [List.getElem?_toArray, List.getElem?_cons_succ, List.getElem?_cons_zero]; rfl
    case hs22 => kernel_rfl
    case hf22 => kernel_rfl
    case hr22 => kernel_rfl
    case hg22 => rfl
    case hy22 => (intro w hSw; first | (go_simp; done) | (go_simp; with_reducible rfl))
    case hQ22 => exact fun _ _ _ h => h
    try simp only [Act.put, List.setIfInBounds_toArray, List.set_cons_zero, List.set_cons_succ]
    refine wpAnyH_done (by kernel_rfl) ?_ _
    have B6 := Lib.hid (B5.out.drew.trans (hb6.mono B5.out.drew.size))
    have G6 := Lib.hid (G5.out.drew.below hb6)
    have P6 := Lib.hid (P5.out.drew.below hb6)
    clear hb6 hHeld g0 g2 c0 c1 B5 G5 P5 HHD
    cases hd with
    | true =>
      have K := Lib.hid (show X = 2 by rw [← HX.out]; rfl)
      go_wp2_with fail
      go_ret
      exact ⟨by rw [K.out]; rfl, B6.out⟩
    | false =>
    have g0 := G6.out.cell 0
    have g2 := G6.out.cell 2
    have c0 := P6.out.cell 0
    have c1 := P6.out.cell 1
    simp only [List.getElem?_cons_zero, List.getElem?_cons_succ, encE] at g0 g2 c0 c1
    go_wp2_with fail
    refine wp_region_held_drew (S := fun w' => Below (w6.drew).heap.size (w6.drew) w') (by kernel_rfl) (Below.refl _ _) (fun hHeld => ?_)
    refine wpAnyH_take (i := 0) (oi := ?oi23) (v := ?v23) ?hi23 ?hs23 ?hf23 ?hr23 ?hQ23 (Or.inl ⟨?hg23, ?hy23⟩) hHeld ?rest23
    case hi23 => simp only [List.getElem?_toArray, List.getElem?_cons_succ, List.getElem?_cons_zero]; rfl
    case hs23 => kernel_rfl
    case hf23 => kernel_rfl
    case hr23 => kernel_rfl
    case hg23 => rfl
    case hy23 => (intro w hSw; have x0 := cell_below g0 ((Below.refl _ _).drew.trans hSw); first | (go_simp; done) | (go_simp; with_reducible rfl))
    case hQ23 => exact fun _ _ _ h => h
    try simp only [Act.put, List.setIfInBounds_toArray, List.set_cons_zero, List.set_cons_succ]
    refine wpAnyH_take (i := 1) (oi := ?oi24) (v := ?v24) ?hi24 ?hs24 ?hf24 ?hr24 ?hQ24 (Or.inl ⟨?hg24, ?hy24⟩) hHeld ?rest24
    case hi24 => simp only [List.getElem?_toArray, List.getElem?_cons_succ, List.getElem?_cons_zero]; rfl
    case hs24 => kernel_rfl
    case hf24 => kernel_rfl
    case hr24 => kernel_rfl
    case hg24 => rfl
    case hy24 => (intro w hSw; have x0 := cell_below g0 ((Below.refl _ _).drew.trans hSw); first | (go_simp; done) | (go_simp; with_reducible rfl))
    case hQ24 => exact fun _ _ _ h => h
    try simp only [Act.put, List.setIfInBounds_toArray, List.set_cons_zero, List.set_cons_succ]
    refine wpAnyH_take (i := 2) (oi := ?oi25) (v := ?v25) ?hi25 ?hs25 ?hf25 ?hr25 ?hQ25 (Or.inl ⟨?hg25, ?hy25⟩) hHeld ?rest25
    case hi25 => simp only [List.getElem?_toArray, List.getElem?_cons_succ, List.getElem?_cons_zero]; rfl
    case hs25 => kernel_rfl
    case hf25 => kernel_rfl
    case hr25 => kernel_rfl
    case hg25 => rfl
    case hy25 => (intro w hSw; have x0 := cell_below g0 ((Below.refl _ _).drew.trans hSw); first | (go_simp; done) | (go_simp; with_reducible rfl))
    case hQ25 => exact fun _ _ _ h => h
    try simp only [Act.put, List.setIfInBounds_toArray, List.set_cons_zero, List.set_cons_succ]
    refine wpAnyH_take (i := 3) (oi := ?oi26) (v := ?v26) ?hi26 ?hs26 ?hf26 ?hr26 ?hQ26 (Or.inl ⟨?hg26, ?hy26⟩) hHeld ?rest26
    case hi26 => simp only [List.getElem?_toArray, List.getElem?_cons_succ, List.getElem?_cons_zero]; rfl
    case hs26 => kernel_rfl
    case hf26 => kernel_rfl
    case hr26 => kernel_rfl
    case hg26 => rfl
    case hy26 => (intro w hSw; have x0 := cell_below g2 ((Below.refl _ _).drew.trans hSw); first | (go_simp; done) | (go_simp; with_reducible rfl))
    case hQ26 => exact fun _ _ _ h => h
    try simp only [Act.put, List.setIfInBounds_toArray, List.set_cons_zero, List.set_cons_succ]
    refine wpAnyH_take (i := 4) (oi := ?oi27) (v := ?v27) ?hi27 ?hs27 ?hf27 ?hr27 ?hQ27 (Or.inl ⟨?hg27, ?hy27⟩) hHeld ?rest27
    case hi27 => simp only [List.getElem?_toArray, List.getElem?_cons_succ, List.getElem?_cons_zero]; rfl
    case hs27 => kernel_rfl
    case hf27 => kernel_rfl
    case hr27 => kernel_rfl
    case hg27 => rfl
    case hy27 => (intro w hSw; have x0 := cell_below c0 ((Below.refl _ _).drew.trans hSw); first | (go_simp; done) | (go_simp; with_reducible rfl))
    case hQ27 => exact fun _ _ _ h => h
    try simp only [Act.put, List.setIfInBounds_toArray, List.set_cons_zero, List.set_cons_succ]
    refine wpAnyH_take (i := 5) (oi := ?oi28) (v := ?v28) ?hi28 ?hs28 ?hf28 ?hr28 ?hQ28 (Or.inl ⟨?hg28, ?hy28⟩) hHeld ?rest28
    case hi28 => simp only [List.getElem?_toArray, List.getElem?_cons_succ, List.getElem?_cons_zero]; rfl
    case hs28 => kernel_rfl
    case hf28 => kernel_rfl
    case hr28 => kernel_rfl
    case hg28 => rfl
    case hy28 => (intro w hSw; have x0 := cell_below c0 ((Below.refl _ _).drew.trans hSw); first | (go_simp; done) | (go_simp; with_reducible rfl))
    case hQ28 => exact fun _ _ _ h => h
    try simp only [Act.put, List.setIfInBounds_toArray, List.set_cons_zero, List.set_cons_succ]
    refine wpAnyH_take (i := 6) (oi := ?oi29) (v := ?v29) ?hi29 ?hs29 ?hf29 ?hr29 ?hQ29 (Or.inl ⟨?hg29, ?hy29⟩) hHeld ?rest29
    case hi29 => simp only [List.getElem?_toArray, List.getElem?_cons_succ, List.getElem?_cons_zero]; rfl
    case hs29 => kernel_rfl
    case hf29 => kernel_rfl
    case hr29 => kernel_rfl
    case hg29 => rfl
    case hy29 => (intro w hSw; first | (go_simp; done) | (go_simp; with_reducible rfl))
    case hQ29 => exact fun _ _ _ h => h
    try simp only [Act.put, List.setIfInBounds_toArray, List.set_cons_zero, List.set_cons_succ]
    refine wpAnyH_ready (rs := [7]) (by kernel_rfl) (by simp) ?_
    refine AllReadyH.cons (o := ?oi30) ?hi30 (fun K hK => ?_) AllReadyH.nil
    case hi30 => simp only [List.getElem?_toArray, List.getElem?_cons_succ, List.getElem?_cons_zero]; rfl
    go_simp; go_at_call 17; refine (HSF.out _ B6.out.drew).mono ?_; rintro e5 w7 ⟨rfl, hb6⟩; go_wp2_with fail
    refine hK.out _ _ (hb6) (fun _ => ?_)
    clear hK K hHeld
    refine wpAnyH_change (S' := fun w' => Below (w7).heap.size (w7) w') (fun w' h => (hb6).trans (h.mono (hb6).size)) _ _ _ _ ?_
    have hHeld : Below (w7).heap.size (w7) (w7) := Below.refl _ _
    try simp only [Act.put, List.setIfInBounds_toArray, List.set_cons_zero, List.set_cons_succ]
    refine wpAnyH_take (i := 8) (oi := ?oi31) (v := ?v31) ?hi31 ?hs31 ?hf31 ?hr31 ?hQ31 (Or.inl ⟨?hg31, ?hy31⟩) hHeld ?rest31
    case hi31 => simp only [List.getElem?_toArray, List.getElem?_cons_succ, List.getElem?_cons_zero]; rfl
    case hs31 => kernel_rfl
    case hf31 => kernel_rfl
    case hr31 => kernel_rfl
    case hg31 => rfl
    case hy31 => (intro w hSw; first | (go_simp; done) | (go_simp; with_reducible rfl))
    case hQ31 => exact fun _ _ _ h => h
    try simp only [Act.put, List.setIfInBounds_toArray, List.set_cons_zero, List.set_cons_succ]
    refine wpAnyH_done (by kernel_rfl) ?_ _
    have B7 := Lib.hid (B6.out.drew.trans (hb6.mono B6.out.drew.size))
    have G7 := Lib.hid (G6.out.drew.below hb6)
    have P7 := Lib.hid (P6.out.drew.below hb6)
    clear hb6 hHeld g0 g2 c0 c1 B6 G6 P6 HSF
    cases sf with
    | true =>
      have K := Lib.hid (show X = 3 by rw [← HX.out]; rfl)
      go_wp2_with fail
      go_ret
      exact ⟨by rw [K.out]; rfl, B7.out⟩
    | false =>
    have K := Lib.hid (show X = 0 by rw [← HX.out]; rfl)
    go_wp2_with fail
    go_ret
    exact ⟨by rw [K.out]; rfl, B7.out⟩
  | some s =>
    rw [hse] at HLD hTH
    clear hse
    have hTH : thereU S e = ((s.kind == 2) == dk) := hTH
    have HLD : Hid (∀ w', Below w0.drew.heap.size w0.drew w' → (Instr.lookup 52 (.map (some M)) (.string e.path) true).run Try.prog w' = .ok (.tuple #[.agg #[.string s.path, .int .i64 s.kind, .int .i64 s.size, .int .i64 s.m0, .int .i64 s.m1, .int .i64 s.m2, .int .i64 s.m3, .int .i64 s.m4, .string s.target, .string s.sum, .int .i64 s.group], .bool true]) w') := HLD
    have b1 := b0.out
    have c1 := c0.out
    refine wp_region_held_drew (S := fun w' => Below (w0.drew).heap.size (w0.drew) w') (by kernel_rfl) (Below.refl _ _) (fun hHeld => ?_)
    refine wpAnyH_take (i := 0) (oi := ?oi32) (v := ?v32) ?hi32 ?hs32 ?hf32 ?hr32 ?hQ32 (Or.inl ⟨?hg32, ?hy32⟩) hHeld ?rest32
    case hi32 => simp only [List.getElem?_toArray, List.getElem?_cons_succ, List.getElem?_cons_zero]; rfl
    case hs32 => kernel_rfl
    case hf32 => kernel_rfl
    case hr32 => kernel_rfl
    case hg32 => rfl
    case hy32 => (intro w hSw; first | (go_simp; done) | (go_simp; with_reducible rfl))
    case hQ32 => exact fun _ _ _ h => h
    try simp only [Act.put, List.setIfInBounds_toArray, List.set_cons_zero, List.set_cons_succ]
    refine wpAnyH_take (i := 1) (oi := ?oi33) (v := ?v33) ?hi33 ?hs33 ?hf33 ?hr33 ?hQ33 (Or.inl ⟨?hg33, ?hy33⟩) hHeld ?rest33
    case hi33 => simp only [List.getElem?_toArray, List.getElem?_cons_succ, List.getElem?_cons_zero]; rfl
    case hs33 => kernel_rfl
    case hf33 => kernel_rfl
    case hr33 => kernel_rfl
    case hg33 => rfl
    case hy33 => (intro w hSw; have x0 := cell_below b1 hSw; first | (go_simp; done) | (go_simp; with_reducible rfl))
    case hQ33 => exact fun _ _ _ h => h
    try simp only [Act.put, List.setIfInBounds_toArray, List.set_cons_zero, List.set_cons_succ]
    refine wpAnyH_take (i := 2) (oi := ?oi34) (v := ?v34) ?hi34 ?hs34 ?hf34 ?hr34 ?hQ34 (Or.inl ⟨?hg34, ?hy34⟩) hHeld ?rest34
    case hi34 => simp only [List.getElem?_toArray, List.getElem?_cons_succ, List.getElem?_cons_zero]; rfl
    case hs34 => kernel_rfl
    case hf34 => kernel_rfl
    case hr34 => kernel_rfl
    case hg34 => rfl
    case hy34 => (intro w hSw; have x0 := cell_below b1 hSw; first | (go_simp; done) | (go_simp; with_reducible rfl))
    case hQ34 => exact fun _ _ _ h => h
    try simp only [Act.put, List.setIfInBounds_toArray, List.set_cons_zero, List.set_cons_succ]
    refine wpAnyH_take (i := 3) (oi := ?oi35) (v := ?v35) ?hi35 ?hs35 ?hf35 ?hr35 ?hQ35 (Or.inl ⟨?hg35, ?hy35⟩) hHeld ?rest35
    case hi35 => simp only [List.getElem?_toArray, List.getElem?_cons_succ, List.getElem?_cons_zero]; rfl
    case hs35 => kernel_rfl
    case hf35 => kernel_rfl
    case hr35 => kernel_rfl
    case hg35 => rfl
    case hy35 => (intro w hSw; have x0 := cell_below b1 hSw; first | (go_simp; done) | (go_simp; with_reducible rfl))
    case hQ35 => exact fun _ _ _ h => h
    try simp only [Act.put, List.setIfInBounds_toArray, List.set_cons_zero, List.set_cons_succ]
    refine wpAnyH_take (i := 4) (oi := ?oi36) (v := ?v36) ?hi36 ?hs36 ?hf36 ?hr36 ?hQ36 (Or.inl ⟨?hg36, ?hy36⟩) hHeld ?rest36
    case hi36 => simp only [List.getElem?_toArray, List.getElem?_cons_succ, List.getElem?_cons_zero]; rfl
    case hs36 => kernel_rfl
    case hf36 => kernel_rfl
    case hr36 => kernel_rfl
    case hg36 => rfl
    case hy36 => (intro w hSw; have x0 := cell_below c1 hSw; first | (go_simp; done) | (go_simp; with_reducible rfl))
    case hQ36 => exact fun _ _ _ h => h
    try simp only [Act.put, List.setIfInBounds_toArray, List.set_cons_zero, List.set_cons_succ]
    refine wpAnyH_take (i := 5) (oi := ?oi37) (v := ?v37) ?hi37 ?hs37 ?hf37 ?hr37 ?hQ37 (Or.inl ⟨?hg37, ?hy37⟩) hHeld ?rest37
    case hi37 => simp only [List.getElem?_toArray, List.getElem?_cons_succ, List.getElem?_cons_zero]; rfl
    case hs37 => kernel_rfl
    case hf37 => kernel_rfl
    case hr37 => kernel_rfl
    case hg37 => rfl
    case hy37 => (intro w hSw; have x0 := cell_below c1 hSw; first | (go_simp; done) | (go_simp; with_reducible rfl))
    case hQ37 => exact fun _ _ _ h => h
    try simp only [Act.put, List.setIfInBounds_toArray, List.set_cons_zero, List.set_cons_succ]
    refine wpAnyH_take (i := 6) (oi := ?oi38) (v := ?v38) ?hi38 ?hs38 ?hf38 ?hr38 ?hQ38 (Or.inl ⟨?hg38, ?hy38⟩) hHeld ?rest38
    case hi38 => simp only [List.getElem?_toArray, List.getElem?_cons_succ, List.getElem?_cons_zero]; rfl
    case hs38 => kernel_rfl
    case hf38 => kernel_rfl
    case hr38 => kernel_rfl
    case hg38 => rfl
    case hy38 => (intro w hSw; have x0 := HLD.out w hSw; first | (go_simp; done) | (go_simp; with_reducible rfl))
    case hQ38 => exact fun _ _ _ h => h
    try simp only [Act.put, List.setIfInBounds_toArray, List.set_cons_zero, List.set_cons_succ]
    refine wpAnyH_take (i := 7) (oi := ?oi39) (v := ?v39) ?hi39 ?hs39 ?hf39 ?hr39 ?hQ39 (Or.inl ⟨?hg39, ?hy39⟩) hHeld ?rest39
    case hi39 => simp only [List.getElem?_toArray, List.getElem?_cons_succ, List.getElem?_cons_zero]; rfl
    case hs39 => kernel_rfl
    case hf39 => kernel_rfl
    case hr39 => kernel_rfl
    case hg39 => rfl
    case hy39 => (intro w hSw; first | (go_simp; done) | (go_simp; with_reducible rfl))
    case hQ39 => exact fun _ _ _ h => h
    try simp only [Act.put, List.setIfInBounds_toArray, List.set_cons_zero, List.set_cons_succ]
    refine wpAnyH_take (i := 8) (oi := ?oi40) (v := ?v40) ?hi40 ?hs40 ?hf40 ?hr40 ?hQ40 (Or.inl ⟨?hg40, ?hy40⟩) hHeld ?rest40
    case hi40 => simp only [List.getElem?_toArray, List.getElem?_cons_succ, List.getElem?_cons_zero]; rfl
    case hs40 => kernel_rfl
    case hf40 => kernel_rfl
    case hr40 => kernel_rfl
    case hg40 => rfl
    case hy40 => (intro w hSw; first | (go_simp; done) | (go_simp; with_reducible rfl))
    case hQ40 => exact fun _ _ _ h => h
    try simp only [Act.put, List.setIfInBounds_toArray, List.set_cons_zero, List.set_cons_succ]
    refine wpAnyH_take (i := 9) (oi := ?oi41) (v := ?v41) ?hi41 ?hs41 ?hf41 ?hr41 ?hQ41 (Or.inl ⟨?hg41, ?hy41⟩) hHeld ?rest41
    case hi41 => simp only [List.getElem?_toArray, List.getElem?_cons_succ, List.getElem?_cons_zero]; rfl
    case hs41 => kernel_rfl
    case hf41 => kernel_rfl
    case hr41 => kernel_rfl
    case hg41 => rfl
    case hy41 => (intro w hSw; first | (go_simp; done) | (go_simp; with_reducible rfl))
    case hQ41 => exact fun _ _ _ h => h
    try simp only [Act.put, List.setIfInBounds_toArray, List.set_cons_zero, List.set_cons_succ]
    refine wpAnyH_ready (rs := [10]) (by kernel_rfl) (by simp) ?_
    refine AllReadyH.cons (o := ?oi42) ?hi42 (fun K hK => ?_) AllReadyH.nil
    case hi42 => simp only [List.getElem?_toArray, List.getElem?_cons_succ, List.getElem?_cons_zero]; rfl
    go_wp2_with fail
    obtain ⟨wz, hwz⟩ : ∃ wz, (w0.alloc (.cells #[.string ⟨#[]⟩, .int .i64 0, .int .i64 0, .int .i64 0, .int .i64 0, .int .i64 0, .int .i64 0, .int .i64 0, .string ⟨#[]⟩, .string ⟨#[]⟩, .int .i64 0] 37)).drew = wz := ⟨_, rfl⟩
    have hz0 : Below w0.drew.heap.size w0.drew wz := by rw [← hwz]; exact (show Below w0.drew.heap.size w0.drew (w0.alloc (.cells #[.string ⟨#[]⟩, .int .i64 0, .int .i64 0, .int .i64 0, .int .i64 0, .int .i64 0, .int .i64 0, .int .i64 0, .string ⟨#[]⟩, .string ⟨#[]⟩, .int .i64 0] 37)).drew from (Below.refl w0.drew.heap.size w0.drew).alloc (Nat.le_refl _) _)
    have NZ := Lib.hid (show Blk wz w0.heap.size 37 [.string ⟨#[]⟩, .int .i64 0, .int .i64 0, .int .i64 0, .int .i64 0, .int .i64 0, .int .i64 0, .int .i64 0, .string ⟨#[]⟩, .string ⟨#[]⟩, .int .i64 0] by rw [← hwz]; exact (show Blk (w0.alloc (.cells #[.string ⟨#[]⟩, .int .i64 0, .int .i64 0, .int .i64 0, .int .i64 0, .int .i64 0, .int .i64 0, .int .i64 0, .string ⟨#[]⟩, .string ⟨#[]⟩, .int .i64 0] 37)).drew w0.heap.size 37 (#[.string ⟨#[]⟩, .int .i64 0, .int .i64 0, .int .i64 0, .int .i64 0, .int .i64 0, .int .i64 0, .int .i64 0, .string ⟨#[]⟩, .string ⟨#[]⟩, .int .i64 0] : Array Value).toList from Blk.newA w0.drew 37 #[.string ⟨#[]⟩, .int .i64 0, .int .i64 0, .int .i64 0, .int .i64 0, .int .i64 0, .int .i64 0, .int .i64 0, .string ⟨#[]⟩, .string ⟨#[]⟩, .int .i64 0]))
    rw [hwz]
    clear hwz
    refine hK.out _ _ (hz0) (fun hHeld2 => ?_)
    clear hK K hHeld
    have hHeld := hHeld2
    clear hHeld2
    try simp only [Act.put, List.setIfInBounds_toArray, List.set_cons_zero, List.set_cons_succ]
    refine wpAnyH_ready (rs := [11]) (by kernel_rfl) (by simp) ?_
    refine AllReadyH.cons (o := ?oi43) ?hi43 (fun K hK => ?_) AllReadyH.nil
    case hi43 => simp only [List.getElem?_toArray, List.getElem?_cons_succ, List.getElem?_cons_zero]; rfl
    refine step_store_row rfl 37 (.tmp 5) (.tmp 16) rfl w0.heap.size _ _ _ rfl rfl NZ.out (by kernel_rfl) rfl (by simp [Value.oneCell']) ?_
    have N5 := Lib.hid (NZ.out.setRow [.string s.path, .int .i64 s.kind, .int .i64 s.size, .int .i64 s.m0, .int .i64 s.m1, .int .i64 s.m2, .int .i64 s.m3, .int .i64 s.m4, .string s.target, .string s.sum, .int .i64 s.group])
    have hz1 : Below w0.drew.heap.size w0.drew (wz.setRow w0.heap.size #[.string s.path, .int .i64 s.kind, .int .i64 s.size, .int .i64 s.m0, .int .i64 s.m1, .int .i64 s.m2, .int .i64 s.m3, .int .i64 s.m4, .string s.target, .string s.sum, .int .i64 s.group]) := below_setRow hz0 (Nat.le_refl _) _
    obtain ⟨w5, hw5⟩ : ∃ w5, wz.setRow w0.heap.size #[.string s.path, .int .i64 s.kind, .int .i64 s.size, .int .i64 s.m0, .int .i64 s.m1, .int .i64 s.m2, .int .i64 s.m3, .int .i64 s.m4, .string s.target, .string s.sum, .int .i64 s.group] = w5 := ⟨_, rfl⟩
    have N5 : Hid (Blk w5 w0.heap.size 37 [.string s.path, .int .i64 s.kind, .int .i64 s.size, .int .i64 s.m0, .int .i64 s.m1, .int .i64 s.m2, .int .i64 s.m3, .int .i64 s.m4, .string s.target, .string s.sum, .int .i64 s.group]) := by rw [← hw5]; exact N5
    rw [hw5] at hz1
    rw [show wz.setRow w0.heap.size _ = w5 from hw5]
    clear hw5
    refine hK.out _ _ (hz1) (fun hHeld2 => ?_)
    clear hK K hHeld
    have hHeld := hHeld2
    clear hHeld2
    try simp only [Act.put, List.setIfInBounds_toArray, List.set_cons_zero, List.set_cons_succ]
    refine wpAnyH_take (i := 12) (oi := ?oi44) (v := ?v44) ?hi44 ?hs44 ?hf44 ?hr44 ?hQ44 (Or.inl ⟨?hg44, ?hy44⟩) hHeld ?rest44
    case hi44 => simp only [List.getElem?_toArray, List.getElem?_cons_succ, List.getElem?_cons_zero]; rfl
    case hs44 => kernel_rfl
    case hf44 => kernel_rfl
    case hr44 => kernel_rfl
    case hg44 => rfl
    case hy44 => (intro w hSw; first | (go_simp; done) | (go_simp; with_reducible rfl))
    case hQ44 => exact fun _ _ _ h => h
    try simp only [Act.put, List.setIfInBounds_toArray, List.set_cons_zero, List.set_cons_succ]
    refine wpAnyH_done (by kernel_rfl) ?_ _
    clear hHeld NZ hz0
    have B5 := Lib.hid (B0.out.drew.trans (hz1.mono B0.out.drew.size))
    have G5 := Lib.hid (G0.out.below hz1)
    have P5 := Lib.hid (N0.out.drew.below hz1)
    clear hz1 b1 c1 b0 c0 HLD N0 B0 G0 hg0 hw0 HLK
    generalize hsk : (s.kind == 2) = sk at *
    have s0 := N5.out.cell 0
    have s1 := N5.out.cell 1
    simp only [List.getElem?_cons_zero, List.getElem?_cons_succ] at s0 s1
    have g0 := G5.out.cell 0
    have g2 := G5.out.cell 2
    have c0 := P5.out.cell 0
    have c1 := P5.out.cell 1
    simp only [List.getElem?_cons_zero, List.getElem?_cons_succ, encE] at g0 g2 c0 c1
    cases sk with
    | true =>
      cases dk with
      | true =>
        have K := Lib.hid (show X = 1 by rw [← HX.out, hTH]; rfl)
        clear hTH
        go_wp2_with fail
        go_ret
        exact ⟨by rw [K.out]; rfl, B5.out⟩
      | false =>
        have HHD := Lib.hid (fun (w' : World) (h : Below w.heap.size w w') => HHD.out w' false h)
        have HSF := Lib.hid (fun (w' : World) (h : Below w.heap.size w w') => HSF.out w' false h)
        have HX := Lib.hid (show (if hiddenU R e.path.data.toList false = true then 2 else if safeU R e.path.data.toList false = true then 3 else 0) = X by rw [← HX.out, hTH]; rfl)
        generalize hiddenU R e.path.data.toList false = hd at *
        generalize safeU R e.path.data.toList false = sf at *
        clear hTH
        go_wp2_with fail
        refine wp_region_held_drew (S := fun w' => Below (w5.drew).heap.size (w5.drew) w') (by kernel_rfl) (Below.refl _ _) (fun hHeld => ?_)
        refine wpAnyH_take (i := 0) (oi := ?oi45) (v := ?v45) ?hi45 ?hs45 ?hf45 ?hr45 ?hQ45 (Or.inl ⟨?hg45, ?hy45⟩) hHeld ?rest45
        case hi45 => simp only [List.getElem?_toArray, List.getElem?_cons_succ, List.getElem?_cons_zero]; rfl
        case hs45 => kernel_rfl
        case hf45 => kernel_rfl
        case hr45 => kernel_rfl
        case hg45 => rfl
        case hy45 => (intro w hSw; have x0 := cell_below g0 ((Below.refl _ _).drew.trans hSw); first | (go_simp; done) | (go_simp; with_reducible rfl))
        case hQ45 => exact fun _ _ _ h => h
        try simp only [Act.put, List.setIfInBounds_toArray, List.set_cons_zero, List.set_cons_succ]
        refine wpAnyH_take (i := 1) (oi := ?oi46) (v := ?v46) ?hi46 ?hs46 ?hf46 ?hr46 ?hQ46 (Or.inl ⟨?hg46, ?hy46⟩) hHeld ?rest46
        case hi46 => simp only [List.getElem?_toArray, List.getElem?_cons_succ, List.getElem?_cons_zero]; rfl
        case hs46 => kernel_rfl
        case hf46 => kernel_rfl
        case hr46 => kernel_rfl
        case hg46 => rfl
        case hy46 => (intro w hSw; have x0 := cell_below g0 ((Below.refl _ _).drew.trans hSw); first | (go_simp; done) | (go_simp; with_reducible rfl))
        case hQ46 => exact fun _ _ _ h => h
        try simp only [Act.put, List.setIfInBounds_toArray, List.set_cons_zero, List.set_cons_succ]
        refine wpAnyH_take (i := 2) (oi := ?oi47) (v := ?v47) ?hi47 ?hs47 ?hf47 ?hr47 ?hQ47 (Or.inl ⟨?hg47, ?hy47⟩) hHeld ?rest47
        case hi47 => simp only [List.getElem?_toArray, List.getElem?_cons_succ, List.getElem?_cons_zero]; rfl
        case hs47 => kernel_rfl
        case hf47 => kernel_rfl
        case hr47 => kernel_rfl
        case hg47 => rfl
        case hy47 => (intro w hSw; have x0 := cell_below g0 ((Below.refl _ _).drew.trans hSw); first | (go_simp; done) | (go_simp; with_reducible rfl))
        case hQ47 => exact fun _ _ _ h => h
        try simp only [Act.put, List.setIfInBounds_toArray, List.set_cons_zero, List.set_cons_succ]
        refine wpAnyH_take (i := 3) (oi := ?oi48) (v := ?v48) ?hi48 ?hs48 ?hf48 ?hr48 ?hQ48 (Or.inl ⟨?hg48, ?hy48⟩) hHeld ?rest48
        case hi48 => simp only [List.getElem?_toArray, List.getElem?_cons_succ, List.getElem?_cons_zero]; rfl
        case hs48 => kernel_rfl
        case hf48 => kernel_rfl
        case hr48 => kernel_rfl
        case hg48 => rfl
        case hy48 => (intro w hSw; have x0 := cell_below g2 ((Below.refl _ _).drew.trans hSw); first | (go_simp; done) | (go_simp; with_reducible rfl))
        case hQ48 => exact fun _ _ _ h => h
        try simp only [Act.put, List.setIfInBounds_toArray, List.set_cons_zero, List.set_cons_succ]
        refine wpAnyH_take (i := 4) (oi := ?oi49) (v := ?v49) ?hi49 ?hs49 ?hf49 ?hr49 ?hQ49 (Or.inl ⟨?hg49, ?hy49⟩) hHeld ?rest49
        case hi49 => simp only [List.getElem?_toArray, List.getElem?_cons_succ, List.getElem?_cons_zero]; rfl
        case hs49 => kernel_rfl
        case hf49 => kernel_rfl
        case hr49 => kernel_rfl
        case hg49 => rfl
        case hy49 => (intro w hSw; have x0 := cell_below c0 ((Below.refl _ _).drew.trans hSw); first | (go_simp; done) | (go_simp; with_reducible rfl))
        case hQ49 => exact fun _ _ _ h => h
        try simp only [Act.put, List.setIfInBounds_toArray, List.set_cons_zero, List.set_cons_succ]
        refine wpAnyH_take (i := 5) (oi := ?oi50) (v := ?v50) ?hi50 ?hs50 ?hf50 ?hr50 ?hQ50 (Or.inl ⟨?hg50, ?hy50⟩) hHeld ?rest50
        case hi50 => simp only [List.getElem?_toArray, List.getElem?_cons_succ, List.getElem?_cons_zero]; rfl
        case hs50 => kernel_rfl
        case hf50 => kernel_rfl
        case hr50 => kernel_rfl
        case hg50 => rfl
        case hy50 => (intro w hSw; have x0 := cell_below c0 ((Below.refl _ _).drew.trans hSw); first | (go_simp; done) | (go_simp; with_reducible rfl))
        case hQ50 => exact fun _ _ _ h => h
        try simp only [Act.put, List.setIfInBounds_toArray, List.set_cons_zero, List.set_cons_succ]
        refine wpAnyH_take (i := 6) (oi := ?oi51) (v := ?v51) ?hi51 ?hs51 ?hf51 ?hr51 ?hQ51 (Or.inl ⟨?hg51, ?hy51⟩) hHeld ?rest51
        case hi51 => simp only [List.getElem?_toArray, List.getElem?_cons_succ, List.getElem?_cons_zero]; rfl
        case hs51 => kernel_rfl
        case hf51 => kernel_rfl
        case hr51 => kernel_rfl
        case hg51 => rfl
        case hy51 => (intro w hSw; first | (go_simp; done) | (go_simp; with_reducible rfl))
        case hQ51 => exact fun _ _ _ h => h
        try simp only [Act.put, List.setIfInBounds_toArray, List.set_cons_zero, List.set_cons_succ]
        refine wpAnyH_ready (rs := [7]) (by kernel_rfl) (by simp) ?_
        refine AllReadyH.cons (o := ?oi52) ?hi52 (fun K hK => ?_) AllReadyH.nil
        case hi52 => simp only [List.getElem?_toArray, List.getElem?_cons_succ, List.getElem?_cons_zero]; rfl
        go_simp; go_at_call 16; refine (HHD.out _ B5.out.drew).mono ?_; rintro e5 w6 ⟨rfl, hb6⟩; go_wp2_with fail
        refine hK.out _ _ (hb6) (fun _ => ?_)
        clear hK K hHeld
        refine wpAnyH_change (S' := fun w' => Below (w6).heap.size (w6) w') (fun w' h => (hb6).trans (h.mono (hb6).size)) _ _ _ _ ?_
        have hHeld : Below (w6).heap.size (w6) (w6) := Below.refl _ _
        try simp only [Act.put, List.setIfInBounds_toArray, List.set_cons_zero, List.set_cons_succ]
        refine wpAnyH_take (i := 8) (oi := ?oi53) (v := ?v53) ?hi53 ?hs53 ?hf53 ?hr53 ?hQ53 (Or.inl ⟨?hg53, ?hy53⟩) hHeld ?rest53
        case hi53 => simp only [List.getElem?_toArray, List.getElem?_cons_succ, List.getElem?_cons_zero]; rfl
        case hs53 => kernel_rfl
        case hf53 => kernel_rfl
        case hr53 => kernel_rfl
        case hg53 => rfl
        case hy53 => (intro w hSw; first | (go_simp; done) | (go_simp; with_reducible rfl))
        case hQ53 => exact fun _ _ _ h => h
        try simp only [Act.put, List.setIfInBounds_toArray, List.set_cons_zero, List.set_cons_succ]
        refine wpAnyH_done (by kernel_rfl) ?_ _
        have B6 := Lib.hid (B5.out.drew.trans (hb6.mono B5.out.drew.size))
        have G6 := Lib.hid (G5.out.drew.below hb6)
        have P6 := Lib.hid (P5.out.drew.below hb6)
        clear hb6 hHeld g0 g2 c0 c1 B5 G5 P5 HHD
        cases hd with
        | true =>
          have K := Lib.hid (show X = 2 by rw [← HX.out]; rfl)
          go_wp2_with fail
          go_ret
          exact ⟨by rw [K.out]; rfl, B6.out⟩
        | false =>
        have g0 := G6.out.cell 0
        have g2 := G6.out.cell 2
        have c0 := P6.out.cell 0
        have c1 := P6.out.cell 1
        simp only [List.getElem?_cons_zero, List.getElem?_cons_succ, encE] at g0 g2 c0 c1
        go_wp2_with fail
        refine wp_region_held_drew (S := fun w' => Below (w6.drew).heap.size (w6.drew) w') (by kernel_rfl) (Below.refl _ _) (fun hHeld => ?_)
        refine wpAnyH_take (i := 0) (oi := ?oi54) (v := ?v54) ?hi54 ?hs54 ?hf54 ?hr54 ?hQ54 (Or.inl ⟨?hg54, ?hy54⟩) hHeld ?rest54
        case hi54 => simp only [List.getElem?_toArray, List.getElem?_cons_succ, List.getElem?_cons_zero]; rfl
        case hs54 => kernel_rfl
        case hf54 => kernel_rfl
        case hr54 => kernel_rfl
        case hg54 => rfl
        case hy54 => (intro w hSw; have x0 := cell_below g0 ((Below.refl _ _).drew.trans hSw); first | (go_simp; done) | (go_simp; with_reducible rfl))
        case hQ54 => exact fun _ _ _ h => h
        try simp only [Act.put, List.setIfInBounds_toArray, List.set_cons_zero, List.set_cons_succ]
        refine wpAnyH_take (i := 1) (oi := ?oi55) (v := ?v55) ?hi55 ?hs55 ?hf55 ?hr55 ?hQ55 (Or.inl ⟨?hg55, ?hy55⟩) hHeld ?rest55
        case hi55 => simp only [List.getElem?_toArray, List.getElem?_cons_succ, List.getElem?_cons_zero]; rfl
        case hs55 => kernel_rfl
        case hf55 => kernel_rfl
        case hr55 => kernel_rfl
        case hg55 => rfl
        case hy55 => (intro w hSw; have x0 := cell_below g0 ((Below.refl _ _).drew.trans hSw); first | (go_simp; done) | (go_simp; with_reducible rfl))
        case hQ55 => exact fun _ _ _ h => h
        try simp only [Act.put, List.setIfInBounds_toArray, List.set_cons_zero, List.set_cons_succ]
        refine wpAnyH_take (i := 2) (oi := ?oi56) (v := ?v56) ?hi56 ?hs56 ?hf56 ?hr56 ?hQ56 (Or.inl ⟨?hg56, ?hy56⟩) hHeld ?rest56
        case hi56 => simp only [List.getElem?_toArray, List.getElem?_cons_succ, List.getElem?_cons_zero]; rfl
        case hs56 => kernel_rfl
        case hf56 => kernel_rfl
        case hr56 => kernel_rfl
        case hg56 => rfl
        case hy56 => (intro w hSw; have x0 := cell_below g0 ((Below.refl _ _).drew.trans hSw); first | (go_simp; done) | (go_simp; with_reducible rfl))
        case hQ56 => exact fun _ _ _ h => h
        try simp only [Act.put, List.setIfInBounds_toArray, List.set_cons_zero, List.set_cons_succ]
        refine wpAnyH_take (i := 3) (oi := ?oi57) (v := ?v57) ?hi57 ?hs57 ?hf57 ?hr57 ?hQ57 (Or.inl ⟨?hg57, ?hy57⟩) hHeld ?rest57
        case hi57 => simp only [List.getElem?_toArray, List.getElem?_cons_succ, List.getElem?_cons_zero]; rfl
        case hs57 => kernel_rfl
        case hf57 => kernel_rfl
        case hr57 => kernel_rfl
        case hg57 => rfl
        case hy57 => (intro w hSw; have x0 := cell_below g2 ((Below.refl _ _).drew.trans hSw); first | (go_simp; done) | (go_simp; with_reducible rfl))
        case hQ57 => exact fun _ _ _ h => h
        try simp only [Act.put, List.setIfInBounds_toArray, List.set_cons_zero, List.set_cons_succ]
        refine wpAnyH_take (i := 4) (oi := ?oi58) (v := ?v58) ?hi58 ?hs58 ?hf58 ?hr58 ?hQ58 (Or.inl ⟨?hg58, ?hy58⟩) hHeld ?rest58
        case hi58 => simp only [List.getElem?_toArray, List.getElem?_cons_succ, List.getElem?_cons_zero]; rfl
        case hs58 => kernel_rfl
        case hf58 => kernel_rfl
        case hr58 => kernel_rfl
        case hg58 => rfl
        case hy58 => (intro w hSw; have x0 := cell_below c0 ((Below.refl _ _).drew.trans hSw); first | (go_simp; done) | (go_simp; with_reducible rfl))
        case hQ58 => exact fun _ _ _ h => h
        try simp only [Act.put, List.setIfInBounds_toArray, List.set_cons_zero, List.set_cons_succ]
        refine wpAnyH_take (i := 5) (oi := ?oi59) (v := ?v59) ?hi59 ?hs59 ?hf59 ?hr59 ?hQ59 (Or.inl ⟨?hg59, ?hy59⟩) hHeld ?rest59
        case hi59 => simp only [List.getElem?_toArray, List.getElem?_cons_succ, List.getElem?_cons_zero]; rfl
        case hs59 => kernel_rfl
        case hf59 => kernel_rfl
        case hr59 => kernel_rfl
        case hg59 => rfl
        case hy59 => (intro w hSw; have x0 := cell_below c0 ((Below.refl _ _).drew.trans hSw); first | (go_simp; done) | (go_simp; with_reducible rfl))
        case hQ59 => exact fun _ _ _ h => h
        try simp only [Act.put, List.setIfInBounds_toArray, List.set_cons_zero, List.set_cons_succ]
        refine wpAnyH_take (i := 6) (oi := ?oi60) (v := ?v60) ?hi60 ?hs60 ?hf60 ?hr60 ?hQ60 (Or.inl ⟨?hg60, ?hy60⟩) hHeld ?rest60
        case hi60 => simp only [List.getElem?_toArray, List.getElem?_cons_succ, List.getElem?_cons_zero]; rfl
        case hs60 => kernel_rfl
        case hf60 => kernel_rfl
        case hr60 => kernel_rfl
        case hg60 => rfl
        case hy60 => (intro w hSw; first | (go_simp; done) | (go_simp; with_reducible rfl))
        case hQ60 => exact fun _ _ _ h => h
        try simp only [Act.put, List.setIfInBounds_toArray, List.set_cons_zero, List.set_cons_succ]
        refine wpAnyH_ready (rs := [7]) (by kernel_rfl) (by simp) ?_
        refine AllReadyH.cons (o := ?oi61) ?hi61 (fun K hK => ?_) AllReadyH.nil
        case hi61 => simp only [List.getElem?_toArray, List.getElem?_cons_succ, List.getElem?_cons_zero]; rfl
        go_simp; go_at_call 17; refine (HSF.out _ B6.out.drew).mono ?_; rintro e5 w7 ⟨rfl, hb6⟩; go_wp2_with fail
        refine hK.out _ _ (hb6) (fun _ => ?_)
        clear hK K hHeld
        refine wpAnyH_change (S' := fun w' => Below (w7).heap.size (w7) w') (fun w' h => (hb6).trans (h.mono (hb6).size)) _ _ _ _ ?_
        have hHeld : Below (w7).heap.size (w7) (w7) := Below.refl _ _
        try simp only [Act.put, List.setIfInBounds_toArray, List.set_cons_zero, List.set_cons_succ]
        refine wpAnyH_take (i := 8) (oi := ?oi62) (v := ?v62) ?hi62 ?hs62 ?hf62 ?hr62 ?hQ62 (Or.inl ⟨?hg62, ?hy62⟩) hHeld ?rest62
        case hi62 => simp only [List.getElem?_toArray, List.getElem?_cons_succ, List.getElem?_cons_zero]; rfl
        case hs62 => kernel_rfl
        case hf62 => kernel_rfl
        case hr62 => kernel_rfl
        case hg62 => rfl
        case hy62 => (intro w hSw; first | (go_simp; done) | (go_simp; with_reducible rfl))
        case hQ62 => exact fun _ _ _ h => h
        try simp only [Act.put, List.setIfInBounds_toArray, List.set_cons_zero, List.set_cons_succ]
        refine wpAnyH_done (by kernel_rfl) ?_ _
        have B7 := Lib.hid (B6.out.drew.trans (hb6.mono B6.out.drew.size))
        have G7 := Lib.hid (G6.out.drew.below hb6)
        have P7 := Lib.hid (P6.out.drew.below hb6)
        clear hb6 hHeld g0 g2 c0 c1 B6 G6 P6 HSF
        cases sf with
        | true =>
          have K := Lib.hid (show X = 3 by rw [← HX.out]; rfl)
          go_wp2_with fail
          go_ret
          exact ⟨by rw [K.out]; rfl, B7.out⟩
        | false =>
        have K := Lib.hid (show X = 0 by rw [← HX.out]; rfl)
        go_wp2_with fail
        go_ret
        exact ⟨by rw [K.out]; rfl, B7.out⟩
    | false =>
      cases dk with
      | true =>
        have HHD := Lib.hid (fun (w' : World) (h : Below w.heap.size w w') => HHD.out w' true h)
        have HSF := Lib.hid (fun (w' : World) (h : Below w.heap.size w w') => HSF.out w' true h)
        have HX := Lib.hid (show (if hiddenU R e.path.data.toList true = true then 2 else if safeU R e.path.data.toList true = true then 3 else 0) = X by rw [← HX.out, hTH]; rfl)
        generalize hiddenU R e.path.data.toList true = hd at *
        generalize safeU R e.path.data.toList true = sf at *
        clear hTH
        go_wp2_with fail
        refine wp_region_held_drew (S := fun w' => Below (w5.drew).heap.size (w5.drew) w') (by kernel_rfl) (Below.refl _ _) (fun hHeld => ?_)
        refine wpAnyH_take (i := 0) (oi := ?oi63) (v := ?v63) ?hi63 ?hs63 ?hf63 ?hr63 ?hQ63 (Or.inl ⟨?hg63, ?hy63⟩) hHeld ?rest63
        case hi63 => simp only [List.getElem?_toArray, List.getElem?_cons_succ, List.getElem?_cons_zero]; rfl
        case hs63 => kernel_rfl
        case hf63 => kernel_rfl
        case hr63 => kernel_rfl
        case hg63 => rfl
        case hy63 => (intro w hSw; have x0 := cell_below g0 ((Below.refl _ _).drew.trans hSw); first | (go_simp; done) | (go_simp; with_reducible rfl))
        case hQ63 => exact fun _ _ _ h => h
        try simp only [Act.put, List.setIfInBounds_toArray, List.set_cons_zero, List.set_cons_succ]
        refine wpAnyH_take (i := 1) (oi := ?oi64) (v := ?v64) ?hi64 ?hs64 ?hf64 ?hr64 ?hQ64 (Or.inl ⟨?hg64, ?hy64⟩) hHeld ?rest64
        case hi64 => simp only [List.getElem?_toArray, List.getElem?_cons_succ, List.getElem?_cons_zero]; rfl
        case hs64 => kernel_rfl
        case hf64 => kernel_rfl
        case hr64 => kernel_rfl
        case hg64 => rfl
        case hy64 => (intro w hSw; have x0 := cell_below g0 ((Below.refl _ _).drew.trans hSw); first | (go_simp; done) | (go_simp; with_reducible rfl))
        case hQ64 => exact fun _ _ _ h => h
        try simp only [Act.put, List.setIfInBounds_toArray, List.set_cons_zero, List.set_cons_succ]
        refine wpAnyH_take (i := 2) (oi := ?oi65) (v := ?v65) ?hi65 ?hs65 ?hf65 ?hr65 ?hQ65 (Or.inl ⟨?hg65, ?hy65⟩) hHeld ?rest65
        case hi65 => simp only [List.getElem?_toArray, List.getElem?_cons_succ, List.getElem?_cons_zero]; rfl
        case hs65 => kernel_rfl
        case hf65 => kernel_rfl
        case hr65 => kernel_rfl
        case hg65 => rfl
        case hy65 => (intro w hSw; have x0 := cell_below g0 ((Below.refl _ _).drew.trans hSw); first | (go_simp; done) | (go_simp; with_reducible rfl))
        case hQ65 => exact fun _ _ _ h => h
        try simp only [Act.put, List.setIfInBounds_toArray, List.set_cons_zero, List.set_cons_succ]
        refine wpAnyH_take (i := 3) (oi := ?oi66) (v := ?v66) ?hi66 ?hs66 ?hf66 ?hr66 ?hQ66 (Or.inl ⟨?hg66, ?hy66⟩) hHeld ?rest66
        case hi66 => simp only [List.getElem?_toArray, List.getElem?_cons_succ, List.getElem?_cons_zero]; rfl
        case hs66 => kernel_rfl
        case hf66 => kernel_rfl
        case hr66 => kernel_rfl
        case hg66 => rfl
        case hy66 => (intro w hSw; have x0 := cell_below g2 ((Below.refl _ _).drew.trans hSw); first | (go_simp; done) | (go_simp; with_reducible rfl))
        case hQ66 => exact fun _ _ _ h => h
        try simp only [Act.put, List.setIfInBounds_toArray, List.set_cons_zero, List.set_cons_succ]
        refine wpAnyH_take (i := 4) (oi := ?oi67) (v := ?v67) ?hi67 ?hs67 ?hf67 ?hr67 ?hQ67 (Or.inl ⟨?hg67, ?hy67⟩) hHeld ?rest67
        case hi67 => simp only [List.getElem?_toArray, List.getElem?_cons_succ, List.getElem?_cons_zero]; rfl
        case hs67 => kernel_rfl
        case hf67 => kernel_rfl
        case hr67 => kernel_rfl
        case hg67 => rfl
        case hy67 => (intro w hSw; have x0 := cell_below c0 ((Below.refl _ _).drew.trans hSw); first | (go_simp; done) | (go_simp; with_reducible rfl))
        case hQ67 => exact fun _ _ _ h => h
        try simp only [Act.put, List.setIfInBounds_toArray, List.set_cons_zero, List.set_cons_succ]
        refine wpAnyH_take (i := 5) (oi := ?oi68) (v := ?v68) ?hi68 ?hs68 ?hf68 ?hr68 ?hQ68 (Or.inl ⟨?hg68, ?hy68⟩) hHeld ?rest68
        case hi68 => simp only [List.getElem?_toArray, List.getElem?_cons_succ, List.getElem?_cons_zero]; rfl
        case hs68 => kernel_rfl
        case hf68 => kernel_rfl
        case hr68 => kernel_rfl
        case hg68 => rfl
        case hy68 => (intro w hSw; have x0 := cell_below c0 ((Below.refl _ _).drew.trans hSw); first | (go_simp; done) | (go_simp; with_reducible rfl))
        case hQ68 => exact fun _ _ _ h => h
        try simp only [Act.put, List.setIfInBounds_toArray, List.set_cons_zero, List.set_cons_succ]
        refine wpAnyH_take (i := 6) (oi := ?oi69) (v := ?v69) ?hi69 ?hs69 ?hf69 ?hr69 ?hQ69 (Or.inl ⟨?hg69, ?hy69⟩) hHeld ?rest69
        case hi69 => simp only [List.getElem?_toArray, List.getElem?_cons_succ, List.getElem?_cons_zero]; rfl
        case hs69 => kernel_rfl
        case hf69 => kernel_rfl
        case hr69 => kernel_rfl
        case hg69 => rfl
        case hy69 => (intro w hSw; first | (go_simp; done) | (go_simp; with_reducible rfl))
        case hQ69 => exact fun _ _ _ h => h
        try simp only [Act.put, List.setIfInBounds_toArray, List.set_cons_zero, List.set_cons_succ]
        refine wpAnyH_ready (rs := [7]) (by kernel_rfl) (by simp) ?_
        refine AllReadyH.cons (o := ?oi70) ?hi70 (fun K hK => ?_) AllReadyH.nil
        case hi70 => simp only [List.getElem?_toArray, List.getElem?_cons_succ, List.getElem?_cons_zero]; rfl
        go_simp; go_at_call 16; refine (HHD.out _ B5.out.drew).mono ?_; rintro e5 w6 ⟨rfl, hb6⟩; go_wp2_with fail
        refine hK.out _ _ (hb6) (fun _ => ?_)
        clear hK K hHeld
        refine wpAnyH_change (S' := fun w' => Below (w6).heap.size (w6) w') (fun w' h => (hb6).trans (h.mono (hb6).size)) _ _ _ _ ?_
        have hHeld : Below (w6).heap.size (w6) (w6) := Below.refl _ _
        try simp only [Act.put, List.setIfInBounds_toArray, List.set_cons_zero, List.set_cons_succ]
        refine wpAnyH_take (i := 8) (oi := ?oi71) (v := ?v71) ?hi71 ?hs71 ?hf71 ?hr71 ?hQ71 (Or.inl ⟨?hg71, ?hy71⟩) hHeld ?rest71
        case hi71 => simp only [List.getElem?_toArray, List.getElem?_cons_succ, List.getElem?_cons_zero]; rfl
        case hs71 => kernel_rfl
        case hf71 => kernel_rfl
        case hr71 => kernel_rfl
        case hg71 => rfl
        case hy71 => (intro w hSw; first | (go_simp; done) | (go_simp; with_reducible rfl))
        case hQ71 => exact fun _ _ _ h => h
        try simp only [Act.put, List.setIfInBounds_toArray, List.set_cons_zero, List.set_cons_succ]
        refine wpAnyH_done (by kernel_rfl) ?_ _
        have B6 := Lib.hid (B5.out.drew.trans (hb6.mono B5.out.drew.size))
        have G6 := Lib.hid (G5.out.drew.below hb6)
        have P6 := Lib.hid (P5.out.drew.below hb6)
        clear hb6 hHeld g0 g2 c0 c1 B5 G5 P5 HHD
        cases hd with
        | true =>
          have K := Lib.hid (show X = 2 by rw [← HX.out]; rfl)
          go_wp2_with fail
          go_ret
          exact ⟨by rw [K.out]; rfl, B6.out⟩
        | false =>
        have g0 := G6.out.cell 0
        have g2 := G6.out.cell 2
        have c0 := P6.out.cell 0
        have c1 := P6.out.cell 1
        simp only [List.getElem?_cons_zero, List.getElem?_cons_succ, encE] at g0 g2 c0 c1
        go_wp2_with fail
        refine wp_region_held_drew (S := fun w' => Below (w6.drew).heap.size (w6.drew) w') (by kernel_rfl) (Below.refl _ _) (fun hHeld => ?_)
        refine wpAnyH_take (i := 0) (oi := ?oi72) (v := ?v72) ?hi72 ?hs72 ?hf72 ?hr72 ?hQ72 (Or.inl ⟨?hg72, ?hy72⟩) hHeld ?rest72
        case hi72 => simp only [List.getElem?_toArray, List.getElem?_cons_succ, List.getElem?_cons_zero]; rfl
        case hs72 => kernel_rfl
        case hf72 => kernel_rfl
        case hr72 => kernel_rfl
        case hg72 => rfl
        case hy72 => (intro w hSw; have x0 := cell_below g0 ((Below.refl _ _).drew.trans hSw); first | (go_simp; done) | (go_simp; with_reducible rfl))
        case hQ72 => exact fun _ _ _ h => h
        try simp only [Act.put, List.setIfInBounds_toArray, List.set_cons_zero, List.set_cons_succ]
        refine wpAnyH_take (i := 1) (oi := ?oi73) (v := ?v73) ?hi73 ?hs73 ?hf73 ?hr73 ?hQ73 (Or.inl ⟨?hg73, ?hy73⟩) hHeld ?rest73
        case hi73 => simp only [List.getElem?_toArray, List.getElem?_cons_succ, List.getElem?_cons_zero]; rfl
        case hs73 => kernel_rfl
        case hf73 => kernel_rfl
        case hr73 => kernel_rfl
        case hg73 => rfl
        case hy73 => (intro w hSw; have x0 := cell_below g0 ((Below.refl _ _).drew.trans hSw); first | (go_simp; done) | (go_simp; with_reducible rfl))
        case hQ73 => exact fun _ _ _ h => h
        try simp only [Act.put, List.setIfInBounds_toArray, List.set_cons_zero, List.set_cons_succ]
        refine wpAnyH_take (i := 2) (oi := ?oi74) (v := ?v74) ?hi74 ?hs74 ?hf74 ?hr74 ?hQ74 (Or.inl ⟨?hg74, ?hy74⟩) hHeld ?rest74
        case hi74 => simp only [List.getElem?_toArray, List.getElem?_cons_succ, List.getElem?_cons_zero]; rfl
        case hs74 => kernel_rfl
        case hf74 => kernel_rfl
        case hr74 => kernel_rfl
        case hg74 => rfl
        case hy74 => (intro w hSw; have x0 := cell_below g0 ((Below.refl _ _).drew.trans hSw); first | (go_simp; done) | (go_simp; with_reducible rfl))
        case hQ74 => exact fun _ _ _ h => h
        try simp only [Act.put, List.setIfInBounds_toArray, List.set_cons_zero, List.set_cons_succ]
        refine wpAnyH_take (i := 3) (oi := ?oi75) (v := ?v75) ?hi75 ?hs75 ?hf75 ?hr75 ?hQ75 (Or.inl ⟨?hg75, ?hy75⟩) hHeld ?rest75
        case hi75 => simp only [List.getElem?_toArray, List.getElem?_cons_succ, List.getElem?_cons_zero]; rfl
        case hs75 => kernel_rfl
        case hf75 => kernel_rfl
        case hr75 => kernel_rfl
        case hg75 => rfl
        case hy75 => (intro w hSw; have x0 := cell_below g2 ((Below.refl _ _).drew.trans hSw); first | (go_simp; done) | (go_simp; with_reducible rfl))
        case hQ75 => exact fun _ _ _ h => h
        try simp only [Act.put, List.setIfInBounds_toArray, List.set_cons_zero, List.set_cons_succ]
        refine wpAnyH_take (i := 4) (oi := ?oi76) (v := ?v76) ?hi76 ?hs76 ?hf76 ?hr76 ?hQ76 (Or.inl ⟨?hg76, ?hy76⟩) hHeld ?rest76
        case hi76 => simp only [List.getElem?_toArray, List.getElem?_cons_succ, List.getElem?_cons_zero]; rfl
        case hs76 => kernel_rfl
        case hf76 => kernel_rfl
        case hr76 => kernel_rfl
        case hg76 => rfl
        case hy76 => (intro w hSw; have x0 := cell_below c0 ((Below.refl _ _).drew.trans hSw); first | (go_simp; done) | (go_simp; with_reducible rfl))
        case hQ76 => exact fun _ _ _ h => h
        try simp only [Act.put, List.setIfInBounds_toArray, List.set_cons_zero, List.set_cons_succ]
        refine wpAnyH_take (i := 5) (oi := ?oi77) (v := ?v77) ?hi77 ?hs77 ?hf77 ?hr77 ?hQ77 (Or.inl ⟨?hg77, ?hy77⟩) hHeld ?rest77
        case hi77 => simp only [List.getElem?_toArray, List.getElem?_cons_succ, List.getElem?_cons_zero]; rfl
        case hs77 => kernel_rfl
        case hf77 => kernel_rfl
        case hr77 => kernel_rfl
        case hg77 => rfl
        case hy77 => (intro w hSw; have x0 := cell_below c0 ((Below.refl _ _).drew.trans hSw); first | (go_simp; done) | (go_simp; with_reducible rfl))
        case hQ77 => exact fun _ _ _ h => h
        try simp only [Act.put, List.setIfInBounds_toArray, List.set_cons_zero, List.set_cons_succ]
        refine wpAnyH_take (i := 6) (oi := ?oi78) (v := ?v78) ?hi78 ?hs78 ?hf78 ?hr78 ?hQ78 (Or.inl ⟨?hg78, ?hy78⟩) hHeld ?rest78
        case hi78 => simp only [List.getElem?_toArray, List.getElem?_cons_succ, List.getElem?_cons_zero]; rfl
        case hs78 => kernel_rfl
        case hf78 => kernel_rfl
        case hr78 => kernel_rfl
        case hg78 => rfl
        case hy78 => (intro w hSw; first | (go_simp; done) | (go_simp; with_reducible rfl))
        case hQ78 => exact fun _ _ _ h => h
        try simp only [Act.put, List.setIfInBounds_toArray, List.set_cons_zero, List.set_cons_succ]
        refine wpAnyH_ready (rs := [7]) (by kernel_rfl) (by simp) ?_
        refine AllReadyH.cons (o := ?oi79) ?hi79 (fun K hK => ?_) AllReadyH.nil
        case hi79 => simp only [List.getElem?_toArray, List.getElem?_cons_succ, List.getElem?_cons_zero]; rfl
        go_simp; go_at_call 17; refine (HSF.out _ B6.out.drew).mono ?_; rintro e5 w7 ⟨rfl, hb6⟩; go_wp2_with fail
        refine hK.out _ _ (hb6) (fun _ => ?_)
        clear hK K hHeld
        refine wpAnyH_change (S' := fun w' => Below (w7).heap.size (w7) w') (fun w' h => (hb6).trans (h.mono (hb6).size)) _ _ _ _ ?_
        have hHeld : Below (w7).heap.size (w7) (w7) := Below.refl _ _
        try simp only [Act.put, List.setIfInBounds_toArray, List.set_cons_zero, List.set_cons_succ]
        refine wpAnyH_take (i := 8) (oi := ?oi80) (v := ?v80) ?hi80 ?hs80 ?hf80 ?hr80 ?hQ80 (Or.inl ⟨?hg80, ?hy80⟩) hHeld ?rest80
        case hi80 => simp only [List.getElem?_toArray, List.getElem?_cons_succ, List.getElem?_cons_zero]; rfl
        case hs80 => kernel_rfl
        case hf80 => kernel_rfl
        case hr80 => kernel_rfl
        case hg80 => rfl
        case hy80 => (intro w hSw; first | (go_simp; done) | (go_simp; with_reducible rfl))
        case hQ80 => exact fun _ _ _ h => h
        try simp only [Act.put, List.setIfInBounds_toArray, List.set_cons_zero, List.set_cons_succ]
        refine wpAnyH_done (by kernel_rfl) ?_ _
        have B7 := Lib.hid (B6.out.drew.trans (hb6.mono B6.out.drew.size))
        have G7 := Lib.hid (G6.out.drew.below hb6)
        have P7 := Lib.hid (P6.out.drew.below hb6)
        clear hb6 hHeld g0 g2 c0 c1 B6 G6 P6 HSF
        cases sf with
        | true =>
          have K := Lib.hid (show X = 3 by rw [← HX.out]; rfl)
          go_wp2_with fail
          go_ret
          exact ⟨by rw [K.out]; rfl, B7.out⟩
        | false =>
        have K := Lib.hid (show X = 0 by rw [← HX.out]; rfl)
        go_wp2_with fail
        go_ret
        exact ⟨by rw [K.out]; rfl, B7.out⟩
      | false =>
        have K := Lib.hid (show X = 1 by rw [← HX.out, hTH]; rfl)
        clear hTH
        go_wp2_with fail
        go_ret
        exact ⟨by rw [K.out]; rfl, B5.out⟩
end Go.Proofs.Ytcagonpnjionhaa

/-! The map of what is below: a look, an append, a store. -/
set_option linter.unusedVariables false
set_option linter.unusedSimpArgs false
namespace Go.Proofs.Ytcagonpnjionhaa
open Go.RowKit

theorem ownsRow_heap {w w' : World} {base : Nat} {e : TypeId} {sz : Nat} {v : Value} {n : Nat} {xs : List Value} (h : w.ownsRow base e sz v n xs) (hk : ∀ b, v.ownBlock = some b → w'.heap[b]? = w.heap[b]?) : w'.ownsRow base e sz v n xs := by
  obtain ⟨h1, h2⟩ := h
  refine ⟨h1, ?_⟩
  rcases h2 with h2 | ⟨g, cap, cur, rfl, hg, hh, h3⟩
  · exact .inl h2
  · exact .inr ⟨g, cap, cur, rfl, hg, (hk g rfl).trans hh, h3⟩
theorem ownsRow_lt {w : World} {base : Nat} {e : TypeId} {sz : Nat} {v : Value} {n : Nat} {xs : List Value} (h : w.ownsRow base e sz v n xs) {b : Nat} (hb : v.ownBlock = some b) : base ≤ b ∧ b < w.heap.size := by
  obtain ⟨h1, h2⟩ := h
  rcases h2 with ⟨rfl, _⟩ | ⟨g, cap, cur, rfl, hg, hh, h3⟩
  · cases hb
  · cases hb; exact ⟨hg, (Array.getElem?_eq_some_iff.1 hh).1⟩
theorem ownsRow_sl {w : World} {base : Nat} {e : TypeId} {v : Value} {n : Nat} {xs : List Value} (h : w.ownsRow base e 1 v n xs) (hn : n ≤ 9223372036854775807) : ∃ A c, v = .slice A n c ∧ n ≤ c ∧ Sl 1 w A n xs := by
  obtain ⟨h1, h2⟩ := h
  rcases h2 with ⟨rfl, rfl⟩ | ⟨g, cap, cur, rfl, hg, hh, h3, h4, h5, h6⟩
  · have : xs = [] := List.eq_nil_of_length_eq_zero (by simpa using h1)
    subst this
    exact ⟨none, 0, rfl, Nat.le_refl _, Sl.nil _ _ _⟩
  · refine ⟨_, cap, rfl, h3, h1, hn, .inr ⟨g, 0, rfl, fun j v hj => ?_⟩⟩
    rw [Nat.zero_add, cell_of_row w g j cur e _ hh]
    rw [← h6, List.getElem?_take] at hj
    split at hj
    · rwa [Array.getElem?_toList] at hj
    · cases hj
theorem MapAt.heap {w w1 : World} {b n : Nat} {f : List UInt8 → Option Value} (h : MapAt w b n f) (hh : w1.heap[b]? = w.heap[b]?) : MapAt w1 b n f := by
  obtain ⟨D, ⟨es, clock, h1, F, hs, hD⟩, h2⟩ := h
  exact ⟨D, ⟨es, clock, hh.trans h1, F, hs, hD⟩, h2⟩
theorem KidsAt.below {w w1 : World} {K base n : Nat} {kd : List UInt8 → List Nat} (h : KidsAt w K base n kd) (hb : Below w.heap.size w w1) : KidsAt w1 K base n kd := by
  obtain ⟨f, hm, ho, hi⟩ := h
  exact ⟨f, hm.below hb, fun s => ownsRow_heap (ho s) (fun b hb' => hb.block b (ownsRow_lt (ho s) hb').2), hi⟩
theorem KidsAt.mono {w : World} {K base n n' : Nat} {kd : List UInt8 → List Nat} (h : KidsAt w K base n kd) (hn : n ≤ n') : KidsAt w K base n' kd := by
  obtain ⟨f, hm, ho, hi⟩ := h
  exact ⟨f, hm.mono hn, ho, hi⟩
theorem KidsAt.heapK {w w1 : World} {K base n : Nat} {kd : List UInt8 → List Nat} (h : KidsAt w K base n kd) (hk : ∀ j, j = K ∨ base ≤ j → w1.heap[j]? = w.heap[j]?) : KidsAt w1 K base n kd := by
  obtain ⟨f, hm, ho, hi⟩ := h
  exact ⟨f, hm.heap (hk K (.inl rfl)), fun s => ownsRow_heap (ho s) (fun b hb' => hk b (.inr (ownsRow_lt (ho s) hb').1)), hi⟩
theorem KidsAt.grown {w w1 : World} {K base n k : Nat} {kd : List UInt8 → List Nat} (h : KidsAt w K base n kd) (hg : w.grownBy w1 (some k)) (h1 : K ≠ k) (h2 : k < base) : KidsAt w1 K base n kd := by
  obtain ⟨f, hm, ho, hi⟩ := h
  exact ⟨f, hm.grown hg (by simpa using h1), fun s => ownsRow_heap (ho s) (fun b hb' => hg.block b (ownsRow_lt (ho s) hb').2 (by have := (ownsRow_lt (ho s) hb').1; simp; omega)), hi⟩
theorem KidsAt.lt {w : World} {K base n : Nat} {kd : List UInt8 → List Nat} (h : KidsAt w K base n kd) : K < w.heap.size := by obtain ⟨f, hm, _⟩ := h; exact hm.lt
theorem kidsZero (w : World) : (zeroValue 51).run Try.prog w = .ok (.slice none 0 0) w := by kernel_rfl
theorem infoInt : (Try.prog.info? 3).map (fun i => (i.zero, i.size, i.bytes)) = some (some (.int .i64 0), 1, 8) := by kernel_rfl
def updK (kd : List UInt8 → List Nat) (s : List UInt8) (i : Nat) : List UInt8 → List Nat := fun t => if t = s then kd s ++ [i] else kd t
def KeepK (base K : Nat) (w w' : World) : Prop := ∀ j, j < base → j ≠ K → w'.heap[j]? = w.heap[j]?
theorem KidsAt.made (w : World) (base : Nat) : KidsAt (w.alloc (.map #[] 0)) w.heap.size base 0 (fun _ => []) :=
  ⟨fun _ => none, MapAt.made w, fun s => ⟨by simp, .inl ⟨rfl, rfl⟩⟩, fun s t b h => by cases h⟩
theorem KidsAt.step {w : World} {K base n : Nat} {kd : List UInt8 → List Nat} (h : KidsAt w K base n kd) (hK : K < base) (hbase : base ≤ w.heap.size) (hn : n < 1000) (s : ByteArray) (hs : s.size ≤ 2097152) (hl : (kd s.data.toList).length ≤ 1000) (i : Nat) :
    ∃ v : Value, (∀ w', Below w.heap.size w w' → (Instr.lookup 53 (.map (some K)) (.string s) false).run Try.prog w' = .ok v w') ∧
      ∀ (wA : World) (b : Nat), Below w.heap.size w wA → w.heap.size ≤ b → Blk wA b 3 [.int .i64 i] →
        ∃ v' w2, (Builtin.append_ #[51, 51] 51 #[v, .slice (some ⟨b, 0, none⟩) 1 1]).run Try.prog wA = .ok v' w2 ∧ KeepK base K w w2 ∧
          ∃ w3, (Instr.mapUpdate 53 (.map (some K)) (.string s) v').run Try.prog w2 = .ok () w3 ∧
            KidsAt w3 K base (n + 1) (updK kd s.data.toList i) ∧ KeepK base K w w3 ∧ (∀ B, B ≤ K → Below B w w3) ∧ wA.heap.size ≤ w3.heap.size := by
  obtain ⟨f, hm, ho, hi⟩ := h
  refine ⟨(f s.data.toList).getD (.slice none 0 0), fun w' hb => (hm.below hb).look Try.underlying53 (kidsZero w') (s := s) (by unfold maxLen; omega), fun wA b hwA hb hB => ?_⟩
  obtain ⟨i0, hi0, hz0, hz1, hz2⟩ := info_parts infoInt
  have hoA := ownsRow_heap (ho s.data.toList) (fun b hb' => hwA.block b (ownsRow_lt (ho s.data.toList) hb').2)
  have hslA : Sl 1 wA (some ⟨b, 0, none⟩) 1 [.int .i64 i] := ⟨rfl, by omega, .inr ⟨b, 0, rfl, fun j u hj => by
    rw [Nat.zero_add]; rw [hB.cell j]; exact hj⟩⟩
  have hAsz := hwA.size
  obtain ⟨v', w2, hrun, hown, hg, hblk⟩ := run_append_at (w := wA) base 51 51 3 i0 _ 1 8 Try.underlying51 hi0 hz0 hz1 hz2 rfl (by decide) hoA hslA (by omega) (by intro u hu; simp at hu; subst hu; rfl) (by omega) (by omega) (by omega)
  refine ⟨v', w2, hrun, fun j hj hjK => (hg.block j (by omega) (fun e => by have := (ownsRow_lt (ho s.data.toList) e.symm).1; omega)).trans (hwA.block j (by omega)), ?_⟩
  have hKv : ∀ b', ((f s.data.toList).getD (.slice none 0 0)).ownBlock = some b' → b' ≠ K := fun b' hb' => by have := (ownsRow_lt (ho s.data.toList) hb').1; omega
  have hm2 : MapAt w2 K n f := (hm.below hwA).grown hg (fun e => hKv K e.symm rfl)
  obtain ⟨w3, hput, hm3, hg3⟩ := hm2.put Try.underlying53 (by unfold maxLen; omega) (s := s) (by unfold maxLen; omega) v'
  have hKlt : K < w.heap.size := by omega
  have hrow : ∀ j, j < w.heap.size → j ≠ K → ((f s.data.toList).getD (.slice none 0 0)).ownBlock ≠ some j → w3.heap[j]? = w.heap[j]? := fun j hj h1 h2 =>
    ((hg3.block j (by have := hg.size; omega) (fun e => h1 (by cases e; rfl))).trans (hg.block j (by omega) (fun e => h2 e.symm))).trans (hwA.block j hj)
  refine ⟨w3, hput, ⟨_, hm3, fun t => ?_, fun t u b' ht hu => ?_⟩, fun j hj hjK => hrow j (by omega) hjK (fun e => by have := (ownsRow_lt (ho s.data.toList) e).1; omega), fun B hB' => ?_, Nat.le_trans hg.size hg3.size⟩
  · by_cases hts : t = s.data.toList
    · subst hts
      rw [updM_same]
      unfold updK
      rw [if_pos rfl]
      have e1 : (kd s.data.toList ++ [i]).map (fun j => Value.int .i64 (j : Nat)) = (kd s.data.toList).map (fun j => Value.int .i64 (j : Nat)) ++ [.int .i64 i] := by rw [List.map_append]; rfl
      rw [e1, List.length_append]
      refine ownsRow_heap hown (fun b' hb' => hg3.block b' (ownsRow_lt hown hb').2 (fun e => ?_))
      cases e
      have := (ownsRow_lt hown hb').1
      omega
    · rw [updM_other v' hts]
      unfold updK
      rw [if_neg hts]
      refine ownsRow_heap (ho t) (fun b' hb' => hrow b' (ownsRow_lt (ho t) hb').2 (by have := (ownsRow_lt (ho t) hb').1; omega) (fun e => hts (hi t s.data.toList b' hb' e)))
  · by_cases hts : t = s.data.toList <;> by_cases hus : u = s.data.toList
    · rw [hts, hus]
    · subst hts
      rw [updM_same] at ht
      rw [updM_other v' hus] at hu
      rcases hblk with e | e
      · exact hi _ _ b' (e ▸ ht) hu
      · have h1 : v'.ownBlock = some b' := ht
        rw [e] at h1
        cases h1
        have := (ownsRow_lt (ho u) hu).2
        omega
    · subst hus
      rw [updM_same] at hu
      rw [updM_other v' hts] at ht
      rcases hblk with e | e
      · exact hi _ _ b' ht (e ▸ hu)
      · have h1 : v'.ownBlock = some b' := hu
        rw [e] at h1
        cases h1
        have := (ownsRow_lt (ho t) ht).2
        omega
    · rw [updM_other v' hts] at ht
      rw [updM_other v' hus] at hu
      exact hi t u b' ht hu
  · have hBw : B ≤ w.heap.size := by omega
    refine ((hwA.mono hBw).grown hg (by omega) (fun j hj => ?_)).grown hg3 (by have := hg.size; omega) (fun j hj => by cases hj; exact hB')
    have := (ownsRow_lt (ho s.data.toList) hj).1
    omega
end Go.Proofs.Ytcagonpnjionhaa

/-! What the program's look keeps from loop to loop. -/
set_option linter.unusedVariables false
set_option linter.unusedSimpArgs false
namespace Go.Proofs.Ytcagonpnjionhaa
open Go.RowKit

theorem madeInts (n : Nat) : (madeCells #[Value.int .i64 0] n).toList = ints (List.replicate n 0) := by
  have hl : (madeCells #[Value.int .i64 0] n).toList.length = n := by rw [Array.length_toList, size_madeCells]
  refine List.ext_getElem? fun j => ?_
  rcases Nat.lt_or_ge j n with h | h
  · rw [Array.getElem?_toList]
    have : (madeCells #[Value.int .i64 0] n)[j]? = some (.int .i64 0) := by
      simp [madeCells, h, Nat.mod_one]
    rw [this]
    simp [ints, h]
  · rw [List.getElem?_eq_none (by omega), List.getElem?_eq_none (by simp [ints]; exact h)]
theorem cell_grown {w w' : World} {b o k : Nat} {v : Value} (h : w.cell? ⟨b, o, none⟩ = some v) (hg : w.grownBy w' (some k)) (hne : b ≠ k) : w'.cell? ⟨b, o, none⟩ = some v :=
  (World.cell?_of_block (w := w) (hg.block b (World.block_lt_of_cell? w _ h) (by simpa using hne))).trans h
structure Lk (w wr : World) (g M W K : Nat) (dA : Option Addr) (dn dc : Nat) (rA : Option Addr) (rn rc nM : Nat) (sf : List UInt8 → Option Value) (ws : List Int) : Prop where
  blk : Blk wr g 55 [.map (some M), .slice dA dn dc, .slice rA rn rc, .slice (some ⟨W, 0, none⟩) dn dn, .map (some K)]
  src : MapAt wr M nM sf
  why : Blk wr W 3 (ints ws)
  low : Below w.heap.size w wr
theorem Lk.keep {w wr w' : World} {g M W K : Nat} {dA : Option Addr} {dn dc : Nat} {rA : Option Addr} {rn rc nM : Nat} {sf : List UInt8 → Option Value} {ws : List Int} (h : Lk w wr g M W K dA dn dc rA rn rc nM sf ws)
    (h1 : w'.heap[g]? = wr.heap[g]?) (h2 : w'.heap[M]? = wr.heap[M]?) (h3 : w'.heap[W]? = wr.heap[W]?) (hl : Below w.heap.size w w') : Lk w w' g M W K dA dn dc rA rn rc nM sf ws :=
  ⟨h1.trans h.blk, h.src.heap h2, h3.trans h.why, hl⟩
theorem Lk.below {w wr w' : World} {g M W K : Nat} {dA : Option Addr} {dn dc : Nat} {rA : Option Addr} {rn rc nM : Nat} {sf : List UInt8 → Option Value} {ws : List Int} (h : Lk w wr g M W K dA dn dc rA rn rc nM sf ws)
    (hb : Below wr.heap.size wr w') : Lk w w' g M W K dA dn dc rA rn rc nM sf ws :=
  h.keep (hb.block g h.blk.lt) (hb.block M h.src.lt) (hb.block W h.why.lt) (h.low.trans (hb.mono h.low.size))
theorem Lk.grown {w wr w' : World} {g M W K : Nat} {dA : Option Addr} {dn dc : Nat} {rA : Option Addr} {rn rc nM : Nat} {sf : List UInt8 → Option Value} {ws : List Int} (h : Lk w wr g M W K dA dn dc rA rn rc nM sf ws)
    {k : Nat} (hg : wr.grownBy w' (some k)) (h1 : g ≠ k) (h2 : M ≠ k) (h3 : W ≠ k) (hk : w.heap.size ≤ k) : Lk w w' g M W K dA dn dc rA rn rc nM sf ws :=
  h.keep (hg.block g h.blk.lt (by simpa using h1)) (hg.block M h.src.lt (by simpa using h2)) (hg.block W h.why.lt (by simpa using h3)) (below_own h.low hg hk)
theorem Lk.put {w wr w' : World} {g M W K : Nat} {dA : Option Addr} {dn dc : Nat} {rA : Option Addr} {rn rc nM nM' : Nat} {sf sf' : List UInt8 → Option Value} {ws : List Int} (h : Lk w wr g M W K dA dn dc rA rn rc nM sf ws)
    (hg : wr.grownBy w' (some M)) (hm : MapAt w' M nM' sf') (h1 : g ≠ M) (h3 : W ≠ M) (hk : w.heap.size ≤ M) : Lk w w' g M W K dA dn dc rA rn rc nM' sf' ws :=
  ⟨(hg.block g h.blk.lt (by simpa using h1)).trans h.blk, hm, (hg.block W h.why.lt (by simpa using h3)).trans h.why, below_own h.low hg hk⟩
theorem ints_set (l : List Int) (i : Nat) (x : Int) : (ints l).set i (.int .i64 x) = ints (l.set i x) := by unfold ints; rw [List.map_set]
theorem Lk.set {w wr : World} {g M W K : Nat} {dA : Option Addr} {dn dc : Nat} {rA : Option Addr} {rn rc nM : Nat} {sf : List UInt8 → Option Value} {ws : List Int} (h : Lk w wr g M W K dA dn dc rA rn rc nM sf ws)
    (i : Nat) (x : Int) (h1 : g ≠ W) (h2 : M ≠ W) (hk : w.heap.size ≤ W) : Lk w (wr.setCell ⟨W, i, none⟩ (.int .i64 x)) g M W K dA dn dc rA rn rc nM sf (ws.set i x) :=
  ⟨h.blk.other h1 _, h.src.heap (heap_setCell_other wr _ M _ h2), by rw [← ints_set]; exact h.why.set i _, h.low.setCell hk _⟩
theorem Lk.cells {w wr : World} {g M W K : Nat} {dA : Option Addr} {dn dc : Nat} {rA : Option Addr} {rn rc nM : Nat} {sf : List UInt8 → Option Value} {ws : List Int} (h : Lk w wr g M W K dA dn dc rA rn rc nM sf ws) :
    wr.cell? ⟨g, 0, none⟩ = some (.map (some M)) ∧ wr.cell? ⟨g, 1, none⟩ = some (.slice dA dn dc) ∧ wr.cell? ⟨g, 2, none⟩ = some (.slice rA rn rc) ∧ wr.cell? ⟨g, 3, none⟩ = some (.slice (some ⟨W, 0, none⟩) dn dn) ∧ wr.cell? ⟨g, 4, none⟩ = some (.map (some K)) :=
  ⟨h.blk.cell 0, h.blk.cell 1, h.blk.cell 2, h.blk.cell 3, h.blk.cell 4⟩
/-- The counts by path. -/
def ManyAt (w : World) (Y n : Nat) (c : List UInt8 → Nat) : Prop :=
  ∃ f : List UInt8 → Option Value, MapAt w Y n f ∧ ∀ s, (f s).getD (.int .i64 0) = .int .i64 ((c s : Nat) : Int)
theorem intZero (w : World) : (zeroValue 3).run Try.prog w = .ok (.int .i64 0) w := by kernel_rfl
theorem ManyAt.heap {w w1 : World} {Y n : Nat} {c : List UInt8 → Nat} (h : ManyAt w Y n c) (hh : w1.heap[Y]? = w.heap[Y]?) : ManyAt w1 Y n c := by obtain ⟨f, h1, h2⟩ := h; exact ⟨f, h1.heap hh, h2⟩
theorem ManyAt.below {w w1 : World} {Y n : Nat} {c : List UInt8 → Nat} (h : ManyAt w Y n c) (hb : Below w.heap.size w w1) : ManyAt w1 Y n c := by obtain ⟨f, h1, h2⟩ := h; exact ⟨f, h1.below hb, h2⟩
theorem ManyAt.mono {w : World} {Y n n' : Nat} {c : List UInt8 → Nat} (h : ManyAt w Y n c) (hn : n ≤ n') : ManyAt w Y n' c := by obtain ⟨f, h1, h2⟩ := h; exact ⟨f, h1.mono hn, h2⟩
theorem ManyAt.same {w : World} {Y n : Nat} {c c' : List UInt8 → Nat} (h : ManyAt w Y n c) (hc : ∀ s, c' s = c s) : ManyAt w Y n c' := by obtain ⟨f, h1, h2⟩ := h; exact ⟨f, h1, fun s => by rw [hc]; exact h2 s⟩
theorem ManyAt.lt {w : World} {Y n : Nat} {c : List UInt8 → Nat} (h : ManyAt w Y n c) : Y < w.heap.size := by obtain ⟨f, h1, h2⟩ := h; exact h1.lt
theorem ManyAt.look {w : World} {Y n : Nat} {c : List UInt8 → Nat} (h : ManyAt w Y n c) (s : ByteArray) (hs : s.size ≤ 2097152) (w' : World) (hb : Below w.heap.size w w') :
    (Instr.lookup 67 (.map (some Y)) (.string s) false).run Try.prog w' = .ok (.int .i64 ((c s.data.toList : Nat) : Int)) w' := by
  obtain ⟨f, h1, h2⟩ := h
  rw [(h1.below hb).look Try.underlying67 (intZero w') (s := s) (by unfold maxLen; omega), h2]
theorem ManyAt.put {w : World} {Y n : Nat} {c c' : List UInt8 → Nat} (h : ManyAt w Y n c) (hn : n < 1000) (s : ByteArray) (hs : s.size ≤ 2097152) (h1 : c' s.data.toList = c s.data.toList + 1) (h2 : ∀ t, t ≠ s.data.toList → c' t = c t) :
    ∃ w', (Instr.mapUpdate 67 (.map (some Y)) (.string s) (.int .i64 ((c s.data.toList : Nat) + 1))).run Try.prog w = .ok () w' ∧ ManyAt w' Y (n + 1) c' ∧ w.grownBy w' (some Y) := by
  obtain ⟨f, hm, hf⟩ := h
  obtain ⟨w', hrun, hm', hg⟩ := hm.put Try.underlying67 (by unfold maxLen; omega) (s := s) (by unfold maxLen; omega) (.int .i64 ((c s.data.toList : Nat) + 1))
  refine ⟨w', hrun, ⟨_, hm', fun t => ?_⟩, hg⟩
  by_cases ht : t = s.data.toList
  · subst ht; rw [updM_same, h1]; rfl
  · rw [updM_other _ ht, h2 t ht]; exact hf t
theorem KidsAt.look {w : World} {K base n : Nat} {kd : List UInt8 → List Nat} (h : KidsAt w K base n kd) (s : ByteArray) (hs : s.size ≤ 2097152) (hl : (kd s.data.toList).length ≤ 1000) :
    ∃ A c, (∀ w', Below w.heap.size w w' → (Instr.lookup 53 (.map (some K)) (.string s) false).run Try.prog w' = .ok (.slice A (kd s.data.toList).length c) w') ∧ Sl 1 w A (kd s.data.toList).length ((kd s.data.toList).map (fun j => .int .i64 (j : Nat))) := by
  obtain ⟨f, hm, ho, hi⟩ := h
  obtain ⟨A, c, he, _, hsl⟩ := ownsRow_sl (ho s.data.toList) (by omega)
  exact ⟨A, c, fun w' hb => by rw [(hm.below hb).look Try.underlying53 (kidsZero w') (s := s) (by unfold maxLen; omega), he], hsl⟩
theorem set_rep (i : Nat) (t : List Int) (x y : Int) : (List.replicate i (0 : Int) ++ x :: t).set i y = List.replicate i 0 ++ y :: t := by
  rw [List.set_append_right _ _ (by simp)]; simp
theorem get_rep (i : Nat) (t : List Int) (x : Int) : (ints (List.replicate i (0 : Int) ++ x :: t))[i]? = some (.int .i64 x) := by
  unfold ints; rw [List.getElem?_map, List.getElem?_append_right (by simp)]; simp
theorem rep_succ (i : Nat) (t : List Int) : List.replicate (i + 1) (0 : Int) ++ t = List.replicate i 0 ++ 0 :: t := by
  rw [List.replicate_succ', List.append_assoc]; rfl
end Go.Proofs.Ytcagonpnjionhaa

/-! Both sides, looked at: the program's look. -/
set_option linter.unusedVariables false
set_option linter.unusedSimpArgs false
namespace Go.Proofs.Ytcagonpnjionhaa
open Go.RowKit

def Looked (w : World) (dA : Option Addr) (dn dc : Nat) (rA : Option Addr) (rn rc : Nat) (S D : List En) (R : List Ru) (e : Ending) (w' : World) : Prop :=
  if (checkE S && checkE D) = true then ∃ g M W Kb base, e = .returned (.pointer (some ⟨g, 0, none⟩)) ∧ base ≤ w'.heap.size ∧ Sides w' g M W Kb base dA dn dc rA rn rc S D R (whyU S D R)
  else e = .returned (.pointer none)
theorem looked_no {w : World} {dA : Option Addr} {dn dc : Nat} {rA : Option Addr} {rn rc : Nat} {S D : List En} {R : List Ru} {w' : World} (h : (checkE S && checkE D) = false) : Looked w dA dn dc rA rn rc S D R (.returned (.pointer none)) w' := by
  unfold Looked; rw [h]; rfl
theorem looked_yes {w : World} {dA : Option Addr} {dn dc : Nat} {rA : Option Addr} {rn rc : Nat} {S D : List En} {R : List Ru} {w' : World} {g M W Kb base : Nat} (h : (checkE S && checkE D) = true) (hb : base ≤ w'.heap.size) (hs : Sides w' g M W Kb base dA dn dc rA rn rc S D R (whyU S D R)) : Looked w dA dn dc rA rn rc S D R (.returned (.pointer (some ⟨g, 0, none⟩))) w' := by
  unfold Looked; rw [h]; exact ⟨g, M, W, Kb, base, rfl, hb, hs⟩
set_option maxRecDepth 100000 in
set_option maxHeartbeats 8000000 in
theorem look_any (sA : Option Addr) (sn sc : Nat) (dA : Option Addr) (dn dc : Nat) (rA : Option Addr) (rn rc : Nat) (S D : List En) (R : List Ru) (w : World)
    (hs : Sl 11 w sA sn (encEs S)) (hd : Sl 11 w dA dn (encEs D)) (hr : Sl 4 w rA rn (encUs R)) (hsp : ∀ x ∈ S, x.path.size ≤ 2097152) (hdp : ∀ x ∈ D, x.path.size ≤ 2097152) (hR : ∀ r ∈ R, r.pat.size ≤ 140737488355328) (hsn : sn ≤ 500) (hdn : dn ≤ 500) :
    Calls Try.prog 20 #[.slice sA sn sc, .slice dA dn dc, .slice rA rn rc] w fun e w' => Looked w dA dn dc rA rn rc S D R e w' ∧ Below w.heap.size w w' := by
  have HS := Lib.hid hs
  have HD := Lib.hid hd
  have HRr := Lib.hid hr
  have HSP := Lib.hid hsp
  have HDP := Lib.hid hdp
  have HRP := Lib.hid hR
  have HC1 := Lib.hid (fun w' h => checkL_any sA sn sc S w' (hs.below h) hsp (by omega))
  have HC2 := Lib.hid (fun w' h => checkL_any dA dn dc D w' (hd.below h) hdp (by omega))
  have HSL := Lib.hid hs.enLen
  have HDL := Lib.hid hd.enLen
  have hmm := @run_makeMap Try.prog
  have hmk := run_make_row' (P := Try.prog) 51 3 (.int .i64 0) 8 Try.underlying51 infoInt rfl .i64 .i64 dn (by omega) (by omega)
  clear hs hd hr hsp hdp hR
  go_enter Try.func20, Try.ntmps20
  go_wp2_with fail
  refine (HC1.out w (Below.refl _ _)).mono ?_
  rintro e w1 ⟨⟨k, rfl, hk⟩, hb1⟩
  have B1 := Lib.hid hb1
  clear hb1 HC1
  obtain ⟨c1, hc1⟩ : ∃ c1, checkE S = c1 := ⟨_, rfl⟩
  have HCS := Lib.hid hc1
  rw [hc1] at hk
  clear hc1
  cases c1 with
  | false =>
    have hk1 : (k != 0) = true := by simpa using hk
    go_wp2_with fail
    go_ret
    exact ⟨looked_no (by rw [HCS.out]; rfl), B1.out⟩
  | true =>
  obtain rfl : k = 0 := by simpa using hk
  clear hk
  go_wp2_with fail
  refine (HC2.out w1 B1.out).mono ?_
  rintro e w2 ⟨⟨k, rfl, hk⟩, hb2⟩
  have B2 := Lib.hid (B1.out.trans (hb2.mono B1.out.size))
  clear hb2 HC2 B1
  obtain ⟨c2, hc2⟩ : ∃ c2, checkE D = c2 := ⟨_, rfl⟩
  have HCD := Lib.hid hc2
  rw [hc2] at hk
  clear hc2
  cases c2 with
  | false =>
    have hk1 : (k != 0) = true := by simpa using hk
    go_wp2_with fail
    go_ret
    exact ⟨looked_no (by rw [HCS.out, HCD.out]; rfl), B2.out⟩
  | true =>
  obtain rfl : k = 0 := by simpa using hk
  clear hk
  have HLY := Lib.hid (fun (w' : World) (g M W Kb base : Nat) (hb : base ≤ w'.heap.size) (hs : Sides w' g M W Kb base dA dn dc rA rn rc S D R (whyU S D R)) => looked_yes (w := w) (by rw [HCS.out, HCD.out]; rfl) hb hs)
  clear HCS HCD
  go_wp2_with fail
  obtain ⟨w3, hw3⟩ : ∃ w3, (((w2.alloc (.map #[] 0)).alloc (.cells (madeCells #[.int .i64 0] dn) 3)).alloc (.map #[] 0)).alloc (.cells #[.map (some w2.heap.size), .slice dA dn dc, .slice rA rn rc, .slice (some ⟨w2.heap.size + 1, 0, none⟩) dn dn, .map (some (w2.heap.size + 1 + 1))] 55) = w3 := ⟨_, rfl⟩
  have hz : w3.heap.size = w2.heap.size + 1 + 1 + 1 + 1 := by rw [← hw3]; simp only [World.size_alloc]
  have hz1 : (w2.alloc (.map #[] 0)).heap.size = w2.heap.size + 1 := World.size_alloc _ _
  have hz2 : ((w2.alloc (.map #[] 0)).alloc (.cells (madeCells #[.int .i64 0] dn) 3)).heap.size = w2.heap.size + 1 + 1 := by simp only [World.size_alloc]
  have hz3 : (((w2.alloc (.map #[] 0)).alloc (.cells (madeCells #[.int .i64 0] dn) 3)).alloc (.map #[] 0)).heap.size = w2.heap.size + 1 + 1 + 1 := by simp only [World.size_alloc]
  have hM3 : MapAt w3 w2.heap.size 0 (srcF (S.take 0)) := by rw [← hw3]; exact (((MapAt.made w2).alloc _).alloc _).alloc _
  have hW3 : Blk w3 (w2.heap.size + 1) 3 (ints (List.replicate dn 0)) := by
    have := ((Blk.newA (w2.alloc (.map #[] 0)) 3 (madeCells #[.int .i64 0] dn)).alloc (.map #[] 0)).alloc (.cells #[.map (some w2.heap.size), .slice dA dn dc, .slice rA rn rc, .slice (some ⟨w2.heap.size + 1, 0, none⟩) dn dn, .map (some (w2.heap.size + 1 + 1))] 55)
    rw [madeInts, hz1, hw3] at this; exact this
  have hK3 : MapAt w3 (w2.heap.size + 1 + 1) 0 (fun _ => none) := by
    have := (MapAt.made ((w2.alloc (.map #[] 0)).alloc (.cells (madeCells #[.int .i64 0] dn) 3))).alloc (.cells #[.map (some w2.heap.size), .slice dA dn dc, .slice rA rn rc, .slice (some ⟨w2.heap.size + 1, 0, none⟩) dn dn, .map (some (w2.heap.size + 1 + 1))] 55)
    rw [hz2, hw3] at this; exact this
  have hG3 : Blk w3 (w2.heap.size + 1 + 1 + 1) 55 [.map (some w2.heap.size), .slice dA dn dc, .slice rA rn rc, .slice (some ⟨w2.heap.size + 1, 0, none⟩) dn dn, .map (some (w2.heap.size + 1 + 1))] := by
    have := Blk.newA (((w2.alloc (.map #[] 0)).alloc (.cells (madeCells #[.int .i64 0] dn) 3)).alloc (.map #[] 0)) 55 #[.map (some w2.heap.size), .slice dA dn dc, .slice rA rn rc, .slice (some ⟨w2.heap.size + 1, 0, none⟩) dn dn, .map (some (w2.heap.size + 1 + 1))]
    rw [hz3, hw3] at this; exact this
  have hB3 : Below w.heap.size w w3 := by
    rw [← hw3]
    have h2 := B2.out
    exact (((h2.alloc h2.size _).alloc (h2.alloc h2.size _).size _).alloc ((h2.alloc h2.size _).alloc (h2.alloc h2.size _).size _).size _).alloc (((h2.alloc h2.size _).alloc (h2.alloc h2.size _).size _).alloc ((h2.alloc h2.size _).alloc (h2.alloc h2.size _).size _).size _).size _
  have hw2 := B2.out.size
  rw [hw3]
  clear hw3 hz1 hz2 hz3 B2 hmk
  generalize hM : w2.heap.size = M at *
  generalize hW : M + 1 = W at *
  generalize hK : W + 1 = Kb at *
  generalize hg : Kb + 1 = g at *
  have n1 : g ≠ M := by omega
  have n2 : W ≠ M := by omega
  have n3 : g ≠ W := by omega
  have n4 : M ≠ W := by omega
  have n5 : g ≠ Kb := by omega
  have n6 : M ≠ Kb := by omega
  have n7 : W ≠ Kb := by omega
  have n8 : Kb ≠ M := by omega
  have n9 : Kb ≠ W := by omega
  have a1 : w.heap.size ≤ M := by omega
  have a2 : w.heap.size ≤ W := by omega
  have a3 : w.heap.size ≤ Kb := by omega
  have a4 : w.heap.size ≤ g := by omega
  have a5 : Kb < g := by omega
  have a6 : M < g := by omega
  have a7 : W < g := by omega
  have L3 := Lib.hid (show Lk w w3 g M W Kb dA dn dc rA rn rc 0 (srcF (S.take 0)) (List.replicate dn 0) from ⟨hG3, hM3, hW3, hB3⟩)
  have K3 := Lib.hid hK3
  clear hG3 hM3 hW3 hB3 hK3 hM hW hK hg hw2 hz
  go_loopw [35] (fun v wr => ∃ i : Nat, v = .int .i64 i ∧ i ≤ sn ∧ Lk w wr g M W Kb dA dn dc rA rn rc i (srcF (S.take i)) (List.replicate dn 0) ∧ MapAt wr Kb 0 (fun _ => none)) (fun v _ => sn - (intOf v).toNat)
  case atStart => exact ⟨0, rfl, Nat.zero_le _, L3.out, K3.out⟩
  case round =>
    clear L3 K3
    obtain ⟨i, rfl, hi, hlk, hkm⟩ := hrel
    have HLK := Lib.hid hlk
    have HKM := Lib.hid hkm
    clear hlk hkm
    rcases Nat.lt_or_ge i sn with h | h
    · obtain ⟨b, o, x, hA, hrr, hsg⟩ := (HS.out.below HLK.out.low).enRow h
      have HSN := Lib.hid (srcF_snoc hrr)
      have hxp := HSP.out x (List.mem_of_getElem? hrr)
      obtain ⟨k0, k1, k2, k3, k4, k5, k6, k7, k8, k9, k10⟩ := enCells hsg
      have hi2 : (i : Int) < (sn : Int) := by omega
      subst hA
      have N4 := Lib.hid (show Blk (wr.alloc (.cells #[.string x.path, .int .i64 x.kind, .int .i64 x.size, .int .i64 x.m0, .int .i64 x.m1, .int .i64 x.m2, .int .i64 x.m3, .int .i64 x.m4, .string x.target, .string x.sum, .int .i64 x.group] 37)) wr.heap.size 37 (encE x) from Blk.newA wr 37 #[.string x.path, .int .i64 x.kind, .int .i64 x.size, .int .i64 x.m0, .int .i64 x.m1, .int .i64 x.m2, .int .i64 x.m3, .int .i64 x.m4, .string x.target, .string x.sum, .int .i64 x.group])
      have hb4 := ((Below.refl wr.heap.size wr).alloc (Nat.le_refl _) (.cells #[.string x.path, .int .i64 x.kind, .int .i64 x.size, .int .i64 x.m0, .int .i64 x.m1, .int .i64 x.m2, .int .i64 x.m3, .int .i64 x.m4, .string x.target, .string x.sum, .int .i64 x.group] 37))
      have L4 := Lib.hid (HLK.out.below hb4)
      have K4 := Lib.hid (HKM.out.below hb4)
      have hlt : M < wr.heap.size := HLK.out.src.lt
      clear hb4 HLK HKM hrr
      skip
      go_wp2_with fail
      obtain ⟨w4, hw4⟩ : ∃ w4, wr.alloc (.cells #[.string x.path, .int .i64 x.kind, .int .i64 x.size, .int .i64 x.m0, .int .i64 x.m1, .int .i64 x.m2, .int .i64 x.m3, .int .i64 x.m4, .string x.target, .string x.sum, .int .i64 x.group] 37) = w4 := ⟨_, rfl⟩
      have hne : wr.heap.size ≠ M := fun e => by rw [e] at hlt; exact Nat.lt_irrefl _ hlt
      rw [hw4] at N4 L4 K4 ⊢
      clear hw4 k0 k1 k2 k3 k4 k5 k6 k7 k8 k9 k10
      have L5 := Lib.hid (L4.out.below (Below.refl _ _).drew)
      have K5 := Lib.hid (K4.out.below (Below.refl _ _).drew)
      have N5 := Lib.hid N4.out.drew
      clear L4 K4 N4
      obtain ⟨w6, hput, hm6, hg6⟩ := L5.out.src.put Try.underlying52 (by unfold maxLen; omega) (s := x.path) (by unfold maxLen; omega) (aggE x)
      obtain ⟨c0, c1, c2, c3, c4, c5, c6, c7, c8, c9, c10⟩ := encE_cells (x := x) N5.out
      obtain ⟨g0, _⟩ := L5.out.cells
      refine wp_region_held_drew (S := (fun w' => w4.drew.grownBy w' (some M))) (by kernel_rfl) (gb (Below.refl _ _) _) (fun hHeld => ?_)
      refine wpAnyH_take (i := 0) (oi := ?oi1) (v := ?v1) ?hi1 ?hs1 ?hf1 ?hr1 ?hQ1 (Or.inl ⟨?hg1, ?hy1⟩) hHeld ?rest1
      case hi1 => simp only [List.getElem?_toArray, List.getElem?_cons_succ, List.getElem?_cons_zero]; rfl
      case hs1 => kernel_rfl
      case hf1 => kernel_rfl
      case hr1 => kernel_rfl
      case hg1 => rfl
      case hy1 => (intro w hSw; first | (go_simp; done) | (go_simp; with_reducible rfl))
      case hQ1 => exact fun _ _ _ h => h
      try simp only [Act.put, List.setIfInBounds_toArray, List.set_cons_zero, List.set_cons_succ]
      refine wpAnyH_take (i := 1) (oi := ?oi2) (v := ?v2) ?hi2 ?hs2 ?hf2 ?hr2 ?hQ2 (Or.inl ⟨?hg2, ?hy2⟩) hHeld ?rest2
      case hi2 => simp only [List.getElem?_toArray, List.getElem?_cons_succ, List.getElem?_cons_zero]; rfl
      case hs2 => kernel_rfl
      case hf2 => kernel_rfl
      case hr2 => kernel_rfl
      case hg2 => rfl
      case hy2 => (intro w hSw; have x0 := cell_grown g0 hSw n1; first | (go_simp; done) | (go_simp; with_reducible rfl))
      case hQ2 => exact fun _ _ _ h => h
      try simp only [Act.put, List.setIfInBounds_toArray, List.set_cons_zero, List.set_cons_succ]
      refine wpAnyH_take (i := 2) (oi := ?oi3) (v := ?v3) ?hi3 ?hs3 ?hf3 ?hr3 ?hQ3 (Or.inl ⟨?hg3, ?hy3⟩) hHeld ?rest3
      case hi3 => simp only [List.getElem?_toArray, List.getElem?_cons_succ, List.getElem?_cons_zero]; rfl
      case hs3 => kernel_rfl
      case hf3 => kernel_rfl
      case hr3 => kernel_rfl
      case hg3 => rfl
      case hy3 => (intro w hSw; have x0 := cell_grown g0 hSw n1; first | (go_simp; done) | (go_simp; with_reducible rfl))
      case hQ3 => exact fun _ _ _ h => h
      try simp only [Act.put, List.setIfInBounds_toArray, List.set_cons_zero, List.set_cons_succ]
      refine wpAnyH_take (i := 3) (oi := ?oi4) (v := ?v4) ?hi4 ?hs4 ?hf4 ?hr4 ?hQ4 (Or.inl ⟨?hg4, ?hy4⟩) hHeld ?rest4
      case hi4 => simp only [List.getElem?_toArray, List.getElem?_cons_succ, List.getElem?_cons_zero]; rfl
      case hs4 => kernel_rfl
      case hf4 => kernel_rfl
      case hr4 => kernel_rfl
      case hg4 => rfl
      case hy4 => (intro w hSw; have x0 := cell_grown g0 hSw n1; first | (go_simp; done) | (go_simp; with_reducible rfl))
      case hQ4 => exact fun _ _ _ h => h
      try simp only [Act.put, List.setIfInBounds_toArray, List.set_cons_zero, List.set_cons_succ]
      refine wpAnyH_take (i := 4) (oi := ?oi5) (v := ?v5) ?hi5 ?hs5 ?hf5 ?hr5 ?hQ5 (Or.inl ⟨?hg5, ?hy5⟩) hHeld ?rest5
      case hi5 => simp only [List.getElem?_toArray, List.getElem?_cons_succ, List.getElem?_cons_zero]; rfl
      case hs5 => kernel_rfl
      case hf5 => kernel_rfl
      case hr5 => kernel_rfl
      case hg5 => rfl
      case hy5 => (intro w hSw; have x0 := cell_grown c0 hSw hne; first | (go_simp; done) | (go_simp; with_reducible rfl))
      case hQ5 => exact fun _ _ _ h => h
      try simp only [Act.put, List.setIfInBounds_toArray, List.set_cons_zero, List.set_cons_succ]
      refine wpAnyH_take (i := 5) (oi := ?oi6) (v := ?v6) ?hi6 ?hs6 ?hf6 ?hr6 ?hQ6 (Or.inl ⟨?hg6, ?hy6⟩) hHeld ?rest6
      case hi6 => simp only [List.getElem?_toArray, List.getElem?_cons_succ, List.getElem?_cons_zero]; rfl
      case hs6 => kernel_rfl
      case hf6 => kernel_rfl
      case hr6 => kernel_rfl
      case hg6 => rfl
      case hy6 => (intro w hSw; have x0 := cell_grown c0 hSw hne; first | (go_simp; done) | (go_simp; with_reducible rfl))
      case hQ6 => exact fun _ _ _ h => h
      try simp only [Act.put, List.setIfInBounds_toArray, List.set_cons_zero, List.set_cons_succ]
      refine wpAnyH_take (i := 6) (oi := ?oi7) (v := ?v7) ?hi7 ?hs7 ?hf7 ?hr7 ?hQ7 (Or.inl ⟨?hg7, ?hy7⟩) hHeld ?rest7
      case hi7 => simp only [List.getElem?_toArray, List.getElem?_cons_succ, List.getElem?_cons_zero]; rfl
      case hs7 => kernel_rfl
      case hf7 => kernel_rfl
      case hr7 => kernel_rfl
      case hg7 => rfl
      case hy7 => (intro w hSw; have x0 := cell_grown c0 hSw hne; have x1 := cell_grown c1 hSw hne; have x2 := cell_grown c2 hSw hne; have x3 := cell_grown c3 hSw hne; have x4 := cell_grown c4 hSw hne; have x5 := cell_grown c5 hSw hne; have x6 := cell_grown c6 hSw hne; have x7 := cell_grown c7 hSw hne; have x8 := cell_grown c8 hSw hne; have x9 := cell_grown c9 hSw hne; have x10 := cell_grown c10 hSw hne; first | (go_simp; done) | (go_simp; with_reducible rfl))
      case hQ7 => exact fun _ _ _ h => h
      try simp only [Act.put, List.setIfInBounds_toArray, List.set_cons_zero, List.set_cons_succ]
      refine wpAnyH_ready (rs := [7]) (by kernel_rfl) (by simp) ?_
      refine AllReadyH.cons (o := ?oi8) ?hi8 (fun K hK => ?_) AllReadyH.nil
      case hi8 => simp only [List.getElem?_toArray, List.getElem?_cons_succ, List.getElem?_cons_zero]; rfl
      refine step_mapUpdate rfl 52 (.tmp 42) (.tmp 44) (.tmp 45) rfl rfl rfl rfl hput ?_
      refine hK.out _ _ (hg6) (fun hHeld2 => ?_)
      clear hK K hHeld
      have hHeld := hHeld2
      clear hHeld2
      try simp only [Act.put, List.setIfInBounds_toArray, List.set_cons_zero, List.set_cons_succ]
      refine wpAnyH_done (by kernel_rfl) ?_ _
      have L6 := Lib.hid (L5.out.put hg6 (by rw [HSN.out] at hm6; exact hm6) n1 n2 a1)
      have K6 := Lib.hid (K5.out.grown hg6 (by simpa using n8))
      clear hHeld g0 c0 c1 c2 c3 c4 c5 c6 c7 c8 c9 c10 L5 K5 N5 hput hm6 hg6
      go_wp2_with fail
      go_roundw
      case rel => exact ⟨i + 1, by go_num, by omega, L6.out, K6.out⟩
      case measure => simp [intOf] <;> omega
    · obtain rfl : i = sn := by omega
      have hin : ¬ ((i : Int) < (i : Int)) := by omega
      have L7 := Lib.hid (show Lk w wr g M W Kb dA dn dc rA rn rc 1000 (srcF S) (List.replicate dn 0) by have := HLK.out; rw [List.take_of_length_le (by rw [HSL.out]; exact Nat.le_refl _)] at this; exact ⟨this.blk, this.src.mono (by omega), this.why, this.low⟩)
      have K7 := Lib.hid HKM.out
      clear hi h HLK HKM HS HSP HSL
      have Y8 := Lib.hid (MapAt.made wr)
      have hbY := ((Below.refl wr.heap.size wr).alloc (Nat.le_refl _) (.map #[] 0))
      have L8 := Lib.hid (L7.out.below hbY)
      have K8 := Lib.hid (K7.out.below hbY)
      have hzY : (wr.alloc (.map #[] 0)).heap.size = wr.heap.size + 1 := World.size_alloc _ _
      have hgY : g < wr.heap.size := L7.out.blk.lt
      clear hbY L7 K7
      go_wp2_with fail
      obtain ⟨w8, hw8⟩ : ∃ w8, wr.alloc (.map #[] 0) = w8 := ⟨_, rfl⟩
      rw [hw8] at Y8 L8 K8 hzY ⊢
      clear hw8
      generalize hY : wr.heap.size = Y at *
      obtain ⟨base, hbs⟩ : ∃ base, Y + 1 = base := ⟨_, rfl⟩
      have m1 : Y ≠ M := by omega
      have m2 : Y ≠ W := by omega
      have m3 : Y ≠ Kb := by omega
      have m4 : Y ≠ g := by omega
      have m5 : Y < base := by omega
      have m6 : g < base := by omega
      have m7 : Kb < base := by omega
      have m8 : M < base := by omega
      have m9 : W < base := by omega
      have m10 : w.heap.size ≤ Y := by omega
      have KK8 := Lib.hid (show KidsAt w8 Kb base 0 (kdT D 0) from ⟨fun _ => none, K8.out, fun s => ⟨by simp [kdT], .inl ⟨rfl, rfl⟩⟩, fun s t b h => by cases h⟩)
      have hbase : base ≤ w8.heap.size := by omega
      clear hzY hbs hY K8 hgY
      go_loopw [50] (fun v wr => ∃ i : Nat, v = .int .i64 i ∧ i ≤ dn ∧ Lk w wr g M W Kb dA dn dc rA rn rc 1000 (srcF S) (List.replicate dn 0) ∧ KidsAt wr Kb base i (kdT D i) ∧ MapAt wr Y 0 (fun _ => none) ∧ base ≤ wr.heap.size) (fun v _ => dn - (intOf v).toNat)
      case atStart => exact ⟨0, rfl, Nat.zero_le _, L8.out, KK8.out, Y8.out, hbase⟩
      case round =>
        clear L8 KK8 Y8 hbase
        obtain ⟨i, rfl, hi, hlk, hkm, hym, hbase⟩ := hrel
        have HLK := Lib.hid hlk
        have HKM := Lib.hid hkm
        have HYM := Lib.hid hym
        clear hlk hkm hym
        rcases Nat.lt_or_ge i dn with h | h
        · obtain ⟨b, o, x, hA, hrr, hsg⟩ := (HD.out.below HLK.out.low).enRow h
          have HSN := Lib.hid (show updK (kdT D i) (parentB x.path.data.toList) i = kdT D (i + 1) from funext fun t => by
            unfold updK
            split
            · rename_i e; rw [e, kdT_same hrr]
            · rename_i e; rw [kdT_other hrr e])
          have hxp := HDP.out x (List.mem_of_getElem? hrr)
          obtain ⟨k0, k1, k2, k3, k4, k5, k6, k7, k8, k9, k10⟩ := enCells hsg
          have hi2 : (i : Int) < (dn : Int) := by omega
          subst hA
          have N4 := Lib.hid (show Blk (wr.alloc (.cells #[.string x.path, .int .i64 x.kind, .int .i64 x.size, .int .i64 x.m0, .int .i64 x.m1, .int .i64 x.m2, .int .i64 x.m3, .int .i64 x.m4, .string x.target, .string x.sum, .int .i64 x.group] 37)) wr.heap.size 37 (encE x) from Blk.newA wr 37 #[.string x.path, .int .i64 x.kind, .int .i64 x.size, .int .i64 x.m0, .int .i64 x.m1, .int .i64 x.m2, .int .i64 x.m3, .int .i64 x.m4, .string x.target, .string x.sum, .int .i64 x.group])
          have hb4 := ((Below.refl wr.heap.size wr).alloc (Nat.le_refl _) (.cells #[.string x.path, .int .i64 x.kind, .int .i64 x.size, .int .i64 x.m0, .int .i64 x.m1, .int .i64 x.m2, .int .i64 x.m3, .int .i64 x.m4, .string x.target, .string x.sum, .int .i64 x.group] 37))
          have L4 := Lib.hid (HLK.out.below hb4)
          have K4 := Lib.hid (HKM.out.below hb4)
          have Y4 := Lib.hid (HYM.out.below hb4)
          have hbase4 := Nat.le_trans hbase hb4.size
          clear hb4 HLK HKM HYM hrr hbase
          obtain ⟨c0, c1, c2, c3, c4, c5, c6, c7, c8, c9, c10⟩ := encE_cells (x := x) N4.out
          go_wp2_with fail
          refine (parent_any x.path _ (by omega)).mono ?_
          rintro e w5 ⟨rfl, rfl⟩
          clear k0 k1 k2 k3 k4 k5 k6 k7 k8 k9 k10 c0 c1 c2 c3 c4 c5 c6 c7 c8 c9 c10
          go_wp2_with fail
          obtain ⟨w4, hw4⟩ : ∃ w4, wr.alloc (.cells #[.string x.path, .int .i64 x.kind, .int .i64 x.size, .int .i64 x.m0, .int .i64 x.m1, .int .i64 x.m2, .int .i64 x.m3, .int .i64 x.m4, .string x.target, .string x.sum, .int .i64 x.group] 37) = w4 := ⟨_, rfl⟩
          rw [hw4] at N4 L4 K4 Y4 hbase4 ⊢
          clear hw4 N4
          have L5 := Lib.hid (L4.out.below (Below.refl _ _).drew)
          have K5 := Lib.hid (K4.out.below (Below.refl _ _).drew)
          have Y5 := Lib.hid (Y4.out.below (Below.refl _ _).drew)
          have hbase5 : base ≤ w4.drew.heap.size := hbase4
          clear L4 K4 Y4 hbase4
          have hpl : (str (parentB x.path.data.toList)).size ≤ 2097152 := by have := parentB_size x.path; omega
          obtain ⟨v, hlk, hst⟩ := K5.out.step m7 hbase5 (by omega) (str (parentB x.path.data.toList)) hpl (by have := kdT_len D i (parentB x.path.data.toList); exact Nat.le_trans this (by omega)) i
          obtain ⟨g0, g1, g2, g3, g4⟩ := L5.out.cells
          have hKg : ∀ w', KeepK base Kb w4.drew w' → w'.cell? ⟨g, 4, none⟩ = some (.map (some Kb)) := fun w' h => (World.cell?_of_block (w := w4.drew) (h g m6 n5)).trans g4
          have hKr : KeepK base Kb w4.drew w4.drew := fun _ _ _ => rfl
          have hg00 : ∀ w', KeepK base Kb w4.drew w' → w'.cell? ⟨g, 0, none⟩ = some (.map (some M)) := fun w' h => (World.cell?_of_block (w := w4.drew) (h g m6 n5)).trans g0
          refine wp_region_held_drew (S := (fun w' => KeepK base Kb w4.drew w')) (by kernel_rfl) (hKr) (fun hHeld => ?_)
          refine wpAnyH_take (i := 0) (oi := ?oi9) (v := ?v9) ?hi9 ?hs9 ?hf9 ?hr9 ?hQ9 (Or.inl ⟨?hg9, ?hy9⟩) hHeld ?rest9
          case hi9 => simp only [List.getElem?_toArray, List.getElem?_cons_succ, List.getElem?_cons_zero]; rfl
          case hs9 => kernel_rfl
          case hf9 => kernel_rfl
          case hr9 => kernel_rfl
          case hg9 => rfl
          case hy9 => (intro w hSw; first | (go_simp; done) | (go_simp; with_reducible rfl))
          case hQ9 => exact fun _ _ _ h => h
          try simp only [Act.put, List.setIfInBounds_toArray, List.set_cons_zero, List.set_cons_succ]
          refine wpAnyH_take (i := 1) (oi := ?oi10) (v := ?v10) ?hi10 ?hs10 ?hf10 ?hr10 ?hQ10 (Or.inl ⟨?hg10, ?hy10⟩) hHeld ?rest10
          case hi10 => simp only [List.getElem?_toArray, List.getElem?_cons_succ, List.getElem?_cons_zero]; rfl
          case hs10 => kernel_rfl
          case hf10 => kernel_rfl
          case hr10 => kernel_rfl
          case hg10 => rfl
          case hy10 => (intro w hSw; have x0 := hKg w hSw; have x1 := hg00 w hSw; first | (go_simp; done) | (go_simp; with_reducible rfl))
          case hQ10 => exact fun _ _ _ h => h
          try simp only [Act.put, List.setIfInBounds_toArray, List.set_cons_zero, List.set_cons_succ]
          refine wpAnyH_take (i := 2) (oi := ?oi11) (v := ?v11) ?hi11 ?hs11 ?hf11 ?hr11 ?hQ11 (Or.inl ⟨?hg11, ?hy11⟩) hHeld ?rest11
          case hi11 => simp only [List.getElem?_toArray, List.getElem?_cons_succ, List.getElem?_cons_zero]; rfl
          case hs11 => kernel_rfl
          case hf11 => kernel_rfl
          case hr11 => kernel_rfl
          case hg11 => rfl
          case hy11 => (intro w hSw; have x0 := hKg w hSw; have x1 := hg00 w hSw; first | (go_simp; done) | (go_simp; with_reducible rfl))
          case hQ11 => exact fun _ _ _ h => h
          try simp only [Act.put, List.setIfInBounds_toArray, List.set_cons_zero, List.set_cons_succ]
          refine wpAnyH_take (i := 3) (oi := ?oi12) (v := ?v12) ?hi12 ?hs12 ?hf12 ?hr12 ?hQ12 (Or.inl ⟨?hg12, ?hy12⟩) hHeld ?rest12
          case hi12 => simp only [List.getElem?_toArray, List.getElem?_cons_succ, List.getElem?_cons_zero]; rfl
          case hs12 => kernel_rfl
          case hf12 => kernel_rfl
          case hr12 => kernel_rfl
          case hg12 => rfl
          case hy12 => (intro w hSw; have x0 := hKg w hSw; have x1 := hg00 w hSw; first | (go_simp; done) | (go_simp; with_reducible rfl))
          case hQ12 => exact fun _ _ _ h => h
          try simp only [Act.put, List.setIfInBounds_toArray, List.set_cons_zero, List.set_cons_succ]
          refine wpAnyH_take (i := 4) (oi := ?oi13) (v := ?v13) ?hi13 ?hs13 ?hf13 ?hr13 ?hQ13 (Or.inl ⟨?hg13, ?hy13⟩) hHeld ?rest13
          case hi13 => simp only [List.getElem?_toArray, List.getElem?_cons_succ, List.getElem?_cons_zero]; rfl
          case hs13 => kernel_rfl
          case hf13 => kernel_rfl
          case hr13 => kernel_rfl
          case hg13 => rfl
          case hy13 => (intro w hSw; first | (go_simp; done) | (go_simp; with_reducible rfl))
          case hQ13 => exact fun _ _ _ h => h
          try simp only [Act.put, List.setIfInBounds_toArray, List.set_cons_zero, List.set_cons_succ]
          refine wpAnyH_take (i := 5) (oi := ?oi14) (v := ?v14) ?hi14 ?hs14 ?hf14 ?hr14 ?hQ14 (Or.inl ⟨?hg14, ?hy14⟩) hHeld ?rest14
          case hi14 => simp only [List.getElem?_toArray, List.getElem?_cons_succ, List.getElem?_cons_zero]; rfl
          case hs14 => kernel_rfl
          case hf14 => kernel_rfl
          case hr14 => kernel_rfl
          case hg14 => rfl
          case hy14 => (intro w hSw; first | (go_simp; done) | (go_simp; with_reducible rfl))
          case hQ14 => exact fun _ _ _ h => h
          try simp only [Act.put, List.setIfInBounds_toArray, List.set_cons_zero, List.set_cons_succ]
          refine wpAnyH_take (i := 6) (oi := ?oi15) (v := ?v15) ?hi15 ?hs15 ?hf15 ?hr15 ?hQ15 (Or.inl ⟨?hg15, ?hy15⟩) hHeld ?rest15
          case hi15 => simp only [List.getElem?_toArray, List.getElem?_cons_succ, List.getElem?_cons_zero]; rfl
          case hs15 => kernel_rfl
          case hf15 => kernel_rfl
          case hr15 => kernel_rfl
          case hg15 => rfl
          case hy15 => (intro w hSw; have x0 := hKg w hSw; have x1 := hg00 w hSw; first | (go_simp; done) | (go_simp; with_reducible rfl))
          case hQ15 => exact fun _ _ _ h => h
          try simp only [Act.put, List.setIfInBounds_toArray, List.set_cons_zero, List.set_cons_succ]
          refine wpAnyH_take (i := 7) (oi := ?oi16) (v := ?v16) ?hi16 ?hs16 ?hf16 ?hr16 ?hQ16 (Or.inl ⟨?hg16, ?hy16⟩) hHeld ?rest16
          case hi16 => simp only [List.getElem?_toArray, List.getElem?_cons_succ, List.getElem?_cons_zero]; rfl
          case hs16 => kernel_rfl
          case hf16 => kernel_rfl
          case hr16 => kernel_rfl
          case hg16 => rfl
          case hy16 => (intro w hSw; have x0 := hKg w hSw; have x1 := hg00 w hSw; first | (go_simp; done) | (go_simp; with_reducible rfl))
          case hQ16 => exact fun _ _ _ h => h
          try simp only [Act.put, List.setIfInBounds_toArray, List.set_cons_zero, List.set_cons_succ]
          refine wpAnyH_take (i := 8) (oi := ?oi17) (v := ?v17) ?hi17 ?hs17 ?hf17 ?hr17 ?hQ17 (Or.inl ⟨?hg17, ?hy17⟩) hHeld ?rest17
          case hi17 => simp only [List.getElem?_toArray, List.getElem?_cons_succ, List.getElem?_cons_zero]; rfl
          case hs17 => kernel_rfl
          case hf17 => kernel_rfl
          case hr17 => kernel_rfl
          case hg17 => rfl
          case hy17 => (intro w hSw; have x0 := hKg w hSw; have x1 := hg00 w hSw; first | (go_simp; done) | (go_simp; with_reducible rfl))
          case hQ17 => exact fun _ _ _ h => h
          try simp only [Act.put, List.setIfInBounds_toArray, List.set_cons_zero, List.set_cons_succ]
          refine wpAnyH_take (i := 9) (oi := ?oi18) (v := ?v18) ?hi18 ?hs18 ?hf18 ?hr18 ?hQ18 (Or.inl ⟨?hg18, ?hy18⟩) hHeld ?rest18
          case hi18 => simp only [List.getElem?_toArray, List.getElem?_cons_succ, List.getElem?_cons_zero]; rfl
          case hs18 => kernel_rfl
          case hf18 => kernel_rfl
          case hr18 => kernel_rfl
          case hg18 => rfl
          case hy18 => (intro w hSw; first | (go_simp; done) | (go_simp; with_reducible rfl))
          case hQ18 => exact fun _ _ _ h => h
          try simp only [Act.put, List.setIfInBounds_toArray, List.set_cons_zero, List.set_cons_succ]
          refine wpAnyH_take (i := 11) (oi := ?oi19) (v := ?v19) ?hi19 ?hs19 ?hf19 ?hr19 ?hQ19 (Or.inl ⟨?hg19, ?hy19⟩) hHeld ?rest19
          case hi19 => simp only [List.getElem?_toArray, List.getElem?_cons_succ, List.getElem?_cons_zero]; rfl
          case hs19 => kernel_rfl
          case hf19 => kernel_rfl
          case hr19 => kernel_rfl
          case hg19 => rfl
          case hy19 => (intro w hSw; first | (go_simp; done) | (go_simp; with_reducible rfl))
          case hQ19 => exact fun _ _ _ h => h
          try simp only [Act.put, List.setIfInBounds_toArray, List.set_cons_zero, List.set_cons_succ]
          refine wpAnyH_ready (rs := [10, 12]) (by kernel_rfl) (by simp) ?_
          refine AllReadyH.cons (o := ?oa20) ?ha20 (fun K hK => ?eA) (AllReadyH.cons (o := ?ob20) ?hb20 (fun K hK => ?eB) AllReadyH.nil)
          case ha20 => simp only [List.getElem?_toArray, List.getElem?_cons_succ, List.getElem?_cons_zero]; rfl
          case hb20 => simp only [List.getElem?_toArray, List.getElem?_cons_succ, List.getElem?_cons_zero]; rfl
          case eA =>
            refine step_lookup rfl 53 (.tmp 66) (.tmp 67) false rfl rfl rfl (hlk _ (Below.refl _ _)) ?_
            refine hK.out _ _ (hKr) (fun hHeld2 => ?_)
            clear hK K hHeld
            have hHeld := hHeld2
            clear hHeld2
            try simp only [Act.put, List.setIfInBounds_toArray, List.set_cons_zero, List.set_cons_succ]
            refine wpAnyH_ready (rs := [12]) (by kernel_rfl) (by simp) ?_
            refine AllReadyH.cons (o := ?oi21) ?hi21 (fun K hK => ?_) AllReadyH.nil
            case hi21 => simp only [List.getElem?_toArray, List.getElem?_cons_succ, List.getElem?_cons_zero]; rfl
            go_simp
            have hbA := ((Below.refl w4.drew.heap.size w4.drew).alloc (Nat.le_refl _) (.cells #[.int .i64 i] 3))
            have hBA : Blk (w4.drew.alloc (.cells #[.int .i64 i] 3)) w4.drew.heap.size 3 [.int .i64 i] := Blk.new w4.drew 3 [.int .i64 i]
            have hKA : KeepK base Kb w4.drew (w4.drew.alloc (.cells #[.int .i64 i] 3)) := fun j hj _ => hbA.block j (by omega)
            obtain ⟨v', w6, hap, hK6, w7, hput, hk7, hkk7, hb7, hz7⟩ := hst (w4.drew.alloc (.cells #[.int .i64 i] 3)) w4.drew.heap.size hbA (Nat.le_refl _) hBA
            refine hK.out _ _ (hKA) (fun hHeld2 => ?_)
            clear hK K hHeld
            have hHeld := hHeld2
            clear hHeld2
            try simp only [Act.put, List.setIfInBounds_toArray, List.set_cons_zero, List.set_cons_succ]
            refine wpAnyH_ready (rs := [13]) (by kernel_rfl) (by simp) ?_
            refine AllReadyH.cons (o := ?oi22) ?hi22 (fun K hK => ?_) AllReadyH.nil
            case hi22 => simp only [List.getElem?_toArray, List.getElem?_cons_succ, List.getElem?_cons_zero]; rfl
            refine step_append_run rfl (.tmp 68) (.tmp 70) 51 51 rfl rfl rfl hap ?_
            refine hK.out _ _ (hK6) (fun hHeld2 => ?_)
            clear hK K hHeld
            have hHeld := hHeld2
            clear hHeld2
            try simp only [Act.put, List.setIfInBounds_toArray, List.set_cons_zero, List.set_cons_succ]
            refine wpAnyH_ready (rs := [14]) (by kernel_rfl) (by simp) ?_
            refine AllReadyH.cons (o := ?oi23) ?hi23 (fun K hK => ?_) AllReadyH.nil
            case hi23 => simp only [List.getElem?_toArray, List.getElem?_cons_succ, List.getElem?_cons_zero]; rfl
            refine step_mapUpdate rfl 53 (.tmp 61) (.tmp 62) (.tmp 71) rfl rfl rfl rfl hput ?_
            refine hK.out _ _ (hkk7) (fun hHeld2 => ?_)
            clear hK K hHeld
            have hHeld := hHeld2
            clear hHeld2
            try simp only [Act.put, List.setIfInBounds_toArray, List.set_cons_zero, List.set_cons_succ]
            refine wpAnyH_done (by kernel_rfl) ?_ _
            have K7 := Lib.hid (show KidsAt w7 Kb base (i + 1) (kdT D (i + 1)) by rw [← HSN.out]; exact hk7)
            have L7 := Lib.hid (L5.out.keep (hkk7 g m6 n5) (hkk7 M m8 n6) (hkk7 W m9 n7) (L5.out.low.trans (hb7 w.heap.size a3)))
            have Y7 := Lib.hid (Y5.out.heap (hkk7 Y m5 m3))
            have hbase7 : base ≤ w7.heap.size := Nat.le_trans (Nat.le_trans hbase5 hbA.size) hz7
            clear hHeld g0 g1 g2 g3 g4 L5 K5 Y5 hap hput hk7 hkk7 hb7 hz7 hKA hbA hBA hK6 hst hlk hKg hKr hg00
            go_wp2_with fail
            go_roundw
            case rel => exact ⟨i + 1, by go_num, by omega, L7.out, K7.out, Y7.out, hbase7⟩
            case measure => simp [intOf] <;> omega
          case eB =>
            go_simp
            have hbA := ((Below.refl w4.drew.heap.size w4.drew).alloc (Nat.le_refl _) (.cells #[.int .i64 i] 3))
            have hBA : Blk (w4.drew.alloc (.cells #[.int .i64 i] 3)) w4.drew.heap.size 3 [.int .i64 i] := Blk.new w4.drew 3 [.int .i64 i]
            have hKA : KeepK base Kb w4.drew (w4.drew.alloc (.cells #[.int .i64 i] 3)) := fun j hj _ => hbA.block j (by omega)
            obtain ⟨v', w6, hap, hK6, w7, hput, hk7, hkk7, hb7, hz7⟩ := hst (w4.drew.alloc (.cells #[.int .i64 i] 3)) w4.drew.heap.size hbA (Nat.le_refl _) hBA
            refine hK.out _ _ (hKA) (fun hHeld2 => ?_)
            clear hK K hHeld
            have hHeld := hHeld2
            clear hHeld2
            try simp only [Act.put, List.setIfInBounds_toArray, List.set_cons_zero, List.set_cons_succ]
            refine wpAnyH_ready (rs := [10]) (by kernel_rfl) (by simp) ?_
            refine AllReadyH.cons (o := ?oi24) ?hi24 (fun K hK => ?_) AllReadyH.nil
            case hi24 => simp only [List.getElem?_toArray, List.getElem?_cons_succ, List.getElem?_cons_zero]; rfl
            refine step_lookup rfl 53 (.tmp 66) (.tmp 67) false rfl rfl rfl (hlk _ hbA) ?_
            refine hK.out _ _ (hKA) (fun hHeld2 => ?_)
            clear hK K hHeld
            have hHeld := hHeld2
            clear hHeld2
            try simp only [Act.put, List.setIfInBounds_toArray, List.set_cons_zero, List.set_cons_succ]
            refine wpAnyH_ready (rs := [13]) (by kernel_rfl) (by simp) ?_
            refine AllReadyH.cons (o := ?oi25) ?hi25 (fun K hK => ?_) AllReadyH.nil
            case hi25 => simp only [List.getElem?_toArray, List.getElem?_cons_succ, List.getElem?_cons_zero]; rfl
            refine step_append_run rfl (.tmp 68) (.tmp 70) 51 51 rfl rfl rfl hap ?_
            refine hK.out _ _ (hK6) (fun hHeld2 => ?_)
            clear hK K hHeld
            have hHeld := hHeld2
            clear hHeld2
            try simp only [Act.put, List.setIfInBounds_toArray, List.set_cons_zero, List.set_cons_succ]
            refine wpAnyH_ready (rs := [14]) (by kernel_rfl) (by simp) ?_
            refine AllReadyH.cons (o := ?oi26) ?hi26 (fun K hK => ?_) AllReadyH.nil
            case hi26 => simp only [List.getElem?_toArray, List.getElem?_cons_succ, List.getElem?_cons_zero]; rfl
            refine step_mapUpdate rfl 53 (.tmp 61) (.tmp 62) (.tmp 71) rfl rfl rfl rfl hput ?_
            refine hK.out _ _ (hkk7) (fun hHeld2 => ?_)
            clear hK K hHeld
            have hHeld := hHeld2
            clear hHeld2
            try simp only [Act.put, List.setIfInBounds_toArray, List.set_cons_zero, List.set_cons_succ]
            refine wpAnyH_done (by kernel_rfl) ?_ _
            have K7 := Lib.hid (show KidsAt w7 Kb base (i + 1) (kdT D (i + 1)) by rw [← HSN.out]; exact hk7)
            have L7 := Lib.hid (L5.out.keep (hkk7 g m6 n5) (hkk7 M m8 n6) (hkk7 W m9 n7) (L5.out.low.trans (hb7 w.heap.size a3)))
            have Y7 := Lib.hid (Y5.out.heap (hkk7 Y m5 m3))
            have hbase7 : base ≤ w7.heap.size := Nat.le_trans (Nat.le_trans hbase5 hbA.size) hz7
            clear hHeld g0 g1 g2 g3 g4 L5 K5 Y5 hap hput hk7 hkk7 hb7 hz7 hKA hbA hBA hK6 hst hlk hKg hKr hg00
            go_wp2_with fail
            go_roundw
            case rel => exact ⟨i + 1, by go_num, by omega, L7.out, K7.out, Y7.out, hbase7⟩
            case measure => simp [intOf] <;> omega
        · obtain rfl : i = dn := by omega
          have hin : ¬ ((i : Int) < (i : Int)) := by omega
          have K7 := Lib.hid (show KidsAt wr Kb base 1000 (kdT D D.length) by rw [HDL.out]; exact HKM.out.mono (by omega))
          have Y7 := Lib.hid HYM.out
          have L7 := Lib.hid HLK.out
          clear hi h HLK HKM HYM
          have hwr : IntKind.wrap .i64 ((i : Int) - 1) = (i : Int) - 1 := by rw [IntKind.wrap_i64]; omega
          go_wp2_with fail
          have L8 := Lib.hid (show Lk w wr g M W Kb dA i dc rA rn rc 1000 (srcF S) (List.replicate i 0 ++ whyL S R (kidsN D) (D.drop i)) by rw [List.drop_of_length_le (by rw [HDL.out]; exact Nat.le_refl _)]; rw [whyL, List.append_nil]; exact L7.out)
          have Y8 := Lib.hid (show ManyAt wr Y (i - i) (fun s => cntGo s (D.drop i) (whyL S R (kidsN D) (D.drop i))) from ⟨fun _ => none, Y7.out.mono (Nat.zero_le _), fun s => by rw [List.drop_of_length_le (by rw [HDL.out]; exact Nat.le_refl _)]; rfl⟩)
          clear L7 Y7
          go_loopw [14] (fun v wr => ∃ j : Nat, v = .int .i64 ((j : Int) - 1) ∧ j ≤ i ∧ Lk w wr g M W Kb dA i dc rA rn rc 1000 (srcF S) (List.replicate j 0 ++ whyL S R (kidsN D) (D.drop j)) ∧ KidsAt wr Kb base 1000 (kdT D D.length) ∧ ManyAt wr Y (i - j) (fun s => cntGo s (D.drop j) (whyL S R (kidsN D) (D.drop j))) ∧ base ≤ wr.heap.size) (fun v _ => (intOf v + 1).toNat)
          case atStart => exact ⟨i, rfl, Nat.le_refl _, L8.out, K7.out, Y8.out, hbase⟩
          case round =>
            clear L8 K7 Y8 hbase hwr
            obtain ⟨j, rfl, hj, hlk, hkm, hym, hbase⟩ := hrel
            have HLK := Lib.hid hlk
            have HKM := Lib.hid hkm
            have HYM := Lib.hid hym
            clear hlk hkm hym
            rcases Nat.eq_zero_or_pos j with rfl | h
            skip
            · have L9 := Lib.hid (HLY.out _ g M W Kb base hbase ⟨HLK.out.blk, HLK.out.src, HD.out.below HLK.out.low, HRr.out.below HLK.out.low, HLK.out.why, HKM.out⟩)
              have B9 := Lib.hid HLK.out.low
              have hm1 : ((0 : Nat) : Int) - 1 = -1 := rfl
              rw [hm1]
              clear HLK HKM HYM hm1
              go_wp2_with fail
              go_ret
              exact ⟨L9.out, B9.out⟩
            obtain ⟨k, rfl⟩ : ∃ k, j = k + 1 := ⟨j - 1, by omega⟩
            rw [show ((k + 1 : Nat) : Int) - 1 = (k : Int) by omega]
            obtain ⟨b, o, x, hA, hrr, hsg⟩ := (HD.out.below HLK.out.low).enRow (show k < i by omega)
            have HWL := Lib.hid (whyL_drop (S := S) (R := R) (kn := kidsN D) hrr)
            have hxp := HDP.out x (List.mem_of_getElem? hrr)
            have HDR := Lib.hid (show D.drop k = x :: D.drop (k + 1) by obtain ⟨h1, h2⟩ := List.getElem?_eq_some_iff.1 hrr; rw [List.drop_eq_getElem_cons h1, h2])
            have HSW := Lib.hid (show stepW S R (kidsN D) x (D.drop (k + 1)) (whyL S R (kidsN D) (D.drop (k + 1))) = if firstU S R x = 0 ∧ x.kind = 2 ∧ (((cntGo x.path.data.toList (D.drop (k + 1)) (whyL S R (kidsN D) (D.drop (k + 1))) : Nat) : Int) ≠ x.size ∨ ((kidsN D x.path.data.toList : Nat) : Int) ≠ x.size) then 4 else firstU S R x from rfl)
            have hcl : ∀ s, cntGo s (D.drop (k + 1)) (whyL S R (kidsN D) (D.drop (k + 1))) ≤ 500 := fun s => Nat.le_trans (cntGo_le s _ _) (by rw [List.length_drop, HDL.out]; omega)
            generalize hws : whyL S R (kidsN D) (D.drop (k + 1)) = ws at *
            generalize hst : stepW S R (kidsN D) x (D.drop (k + 1)) ws = st at *
            clear hws hst
            have HLK := Lib.hid (show Lk w wr g M W Kb dA i dc rA rn rc 1000 (srcF S) (List.replicate k 0 ++ 0 :: ws) by have := HLK.out; rw [rep_succ] at this; exact this)
            obtain ⟨k0, k1, k2, k3, k4, k5, k6, k7, k8, k9, k10⟩ := enCells hsg
            have hi0 : (0 : Int) ≤ (k : Int) := by omega
            have hi2 : (k : Int) < (i : Int) := by omega
            have hi3 : decide ((0 : Int) ≤ (k : Int)) = true := decide_eq_true hi0
            subst hA
            have N4 := Lib.hid (show Blk (wr.alloc (.cells #[.string x.path, .int .i64 x.kind, .int .i64 x.size, .int .i64 x.m0, .int .i64 x.m1, .int .i64 x.m2, .int .i64 x.m3, .int .i64 x.m4, .string x.target, .string x.sum, .int .i64 x.group] 37)) wr.heap.size 37 (encE x) from Blk.newA wr 37 #[.string x.path, .int .i64 x.kind, .int .i64 x.size, .int .i64 x.m0, .int .i64 x.m1, .int .i64 x.m2, .int .i64 x.m3, .int .i64 x.m4, .string x.target, .string x.sum, .int .i64 x.group])
            have hb4 := ((Below.refl wr.heap.size wr).alloc (Nat.le_refl _) (.cells #[.string x.path, .int .i64 x.kind, .int .i64 x.size, .int .i64 x.m0, .int .i64 x.m1, .int .i64 x.m2, .int .i64 x.m3, .int .i64 x.m4, .string x.target, .string x.sum, .int .i64 x.group] 37))
            have hlt : W < wr.heap.size := HLK.out.why.lt
            have hlt2 : Y < wr.heap.size := HYM.out.lt
            have L4 := Lib.hid (HLK.out.below hb4)
            have K4 := Lib.hid (HKM.out.below hb4)
            have Y4 := Lib.hid (HYM.out.below hb4)
            have hbase4 := Nat.le_trans hbase hb4.size
            clear hb4 HLK HKM HYM hrr hbase
            go_wp2_with fail
            obtain ⟨w4, hw4⟩ : ∃ w4, wr.alloc (.cells #[.string x.path, .int .i64 x.kind, .int .i64 x.size, .int .i64 x.m0, .int .i64 x.m1, .int .i64 x.m2, .int .i64 x.m3, .int .i64 x.m4, .string x.target, .string x.sum, .int .i64 x.group] 37) = w4 := ⟨_, rfl⟩
            rw [hw4] at N4 L4 K4 Y4 hbase4 ⊢
            clear hw4 k0 k1 k2 k3 k4 k5 k6 k7 k8 k9 k10
            have hne : wr.heap.size ≠ W := fun e => by rw [e] at hlt; exact Nat.lt_irrefl _ hlt
            have hne2 : wr.heap.size ≠ Y := fun e => by rw [e] at hlt2; exact Nat.lt_irrefl _ hlt2
            generalize wr.heap.size = t at *
            have L5 := Lib.hid (L4.out.below (Below.refl _ _).drew)
            have K5 := Lib.hid (K4.out.below (Below.refl _ _).drew)
            have Y5 := Lib.hid (Y4.out.below (Below.refl _ _).drew)
            have N5 := Lib.hid N4.out.drew
            have hbase5 : base ≤ w4.drew.heap.size := hbase4
            clear L4 K4 Y4 N4 hbase4 hlt hlt2
            obtain ⟨g0, g1, g2, g3, g4⟩ := L5.out.cells
            obtain ⟨c0, c1, c2, c3, c4, c5, c6, c7, c8, c9, c10⟩ := encE_cells (x := x) N5.out
            have HFI := Lib.hid (first_any x w4.drew g M 1000 W Kb (some ⟨b, o, none⟩) i dc rA rn rc S R L5.out.blk L5.out.src (HRr.out.below L5.out.low) HRP.out hxp)
            generalize hfu : firstU S R x = fu at *
            clear hfu
            refine wp_region_held_drew (S := (fun w' => w4.drew.grownBy w' (some W))) (by kernel_rfl) (gb (Below.refl _ _) _) (fun hHeld => ?_)
            refine wpAnyH_take (i := 0) (oi := ?oi27) (v := ?v27) ?hi27 ?hs27 ?hf27 ?hr27 ?hQ27 (Or.inl ⟨?hg27, ?hy27⟩) hHeld ?rest27
            case hi27 => simp only [List.getElem?_toArray, List.getElem?_cons_succ, List.getElem?_cons_zero]; rfl
            case hs27 => kernel_rfl
            case hf27 => kernel_rfl
            case hr27 => kernel_rfl
            case hg27 => rfl
            case hy27 => (intro w hSw; first | (go_simp; done) | (go_simp; with_reducible rfl))
            case hQ27 => exact fun _ _ _ h => h
            try simp only [Act.put, List.setIfInBounds_toArray, List.set_cons_zero, List.set_cons_succ]
            refine wpAnyH_take (i := 1) (oi := ?oi28) (v := ?v28) ?hi28 ?hs28 ?hf28 ?hr28 ?hQ28 (Or.inl ⟨?hg28, ?hy28⟩) hHeld ?rest28
            case hi28 => simp only [List.getElem?_toArray, List.getElem?_cons_succ, List.getElem?_cons_zero]; rfl
            case hs28 => kernel_rfl
            case hf28 => kernel_rfl
            case hr28 => kernel_rfl
            case hg28 => rfl
            case hy28 => (intro w hSw; have x0 := cell_grown g0 hSw n3; have x3 := cell_grown g3 hSw n3; first | (go_simp; done) | (go_simp; with_reducible rfl))
            case hQ28 => exact fun _ _ _ h => h
            try simp only [Act.put, List.setIfInBounds_toArray, List.set_cons_zero, List.set_cons_succ]
            refine wpAnyH_take (i := 2) (oi := ?oi29) (v := ?v29) ?hi29 ?hs29 ?hf29 ?hr29 ?hQ29 (Or.inl ⟨?hg29, ?hy29⟩) hHeld ?rest29
            case hi29 => simp only [List.getElem?_toArray, List.getElem?_cons_succ, List.getElem?_cons_zero]; rfl
            case hs29 => kernel_rfl
            case hf29 => kernel_rfl
            case hr29 => kernel_rfl
            case hg29 => rfl
            case hy29 => (intro w hSw; have x0 := cell_grown g0 hSw n3; have x3 := cell_grown g3 hSw n3; first | (go_simp; done) | (go_simp; with_reducible rfl))
            case hQ29 => exact fun _ _ _ h => h
            try simp only [Act.put, List.setIfInBounds_toArray, List.set_cons_zero, List.set_cons_succ]
            refine wpAnyH_take (i := 3) (oi := ?oi30) (v := ?v30) ?hi30 ?hs30 ?hf30 ?hr30 ?hQ30 (Or.inl ⟨?hg30, ?hy30⟩) hHeld ?rest30
            case hi30 => simp only [List.getElem?_toArray, List.getElem?_cons_succ, List.getElem?_cons_zero]; rfl
            case hs30 => kernel_rfl
            case hf30 => kernel_rfl
            case hr30 => kernel_rfl
            case hg30 => rfl
            case hy30 => (intro w hSw; have x0 := cell_grown g0 hSw n3; have x3 := cell_grown g3 hSw n3; first | (go_simp; done) | (go_simp; with_reducible rfl))
            case hQ30 => exact fun _ _ _ h => h
            try simp only [Act.put, List.setIfInBounds_toArray, List.set_cons_zero, List.set_cons_succ]
            refine wpAnyH_take (i := 4) (oi := ?oi31) (v := ?v31) ?hi31 ?hs31 ?hf31 ?hr31 ?hQ31 (Or.inl ⟨?hg31, ?hy31⟩) hHeld ?rest31
            case hi31 => simp only [List.getElem?_toArray, List.getElem?_cons_succ, List.getElem?_cons_zero]; rfl
            case hs31 => kernel_rfl
            case hf31 => kernel_rfl
            case hr31 => kernel_rfl
            case hg31 => rfl
            case hy31 => (intro w hSw; first | (go_simp; done) | (go_simp; with_reducible rfl))
            case hQ31 => exact fun _ _ _ h => h
            try simp only [Act.put, List.setIfInBounds_toArray, List.set_cons_zero, List.set_cons_succ]
            refine wpAnyH_take (i := 5) (oi := ?oi32) (v := ?v32) ?hi32 ?hs32 ?hf32 ?hr32 ?hQ32 (Or.inl ⟨?hg32, ?hy32⟩) hHeld ?rest32
            case hi32 => simp only [List.getElem?_toArray, List.getElem?_cons_succ, List.getElem?_cons_zero]; rfl
            case hs32 => kernel_rfl
            case hf32 => kernel_rfl
            case hr32 => kernel_rfl
            case hg32 => rfl
            case hy32 => (intro w hSw; first | (go_simp; done) | (go_simp; with_reducible rfl))
            case hQ32 => exact fun _ _ _ h => h
            try simp only [Act.put, List.setIfInBounds_toArray, List.set_cons_zero, List.set_cons_succ]
            refine wpAnyH_take (i := 6) (oi := ?oi33) (v := ?v33) ?hi33 ?hs33 ?hf33 ?hr33 ?hQ33 (Or.inl ⟨?hg33, ?hy33⟩) hHeld ?rest33
            case hi33 => simp only [List.getElem?_toArray, List.getElem?_cons_succ, List.getElem?_cons_zero]; rfl
            case hs33 => kernel_rfl
            case hf33 => kernel_rfl
            case hr33 => kernel_rfl
            case hg33 => rfl
            case hy33 => (intro w hSw; have x0 := cell_grown c0 hSw hne; have x1 := cell_grown c1 hSw hne; have x2 := cell_grown c2 hSw hne; have x3 := cell_grown c3 hSw hne; have x4 := cell_grown c4 hSw hne; have x5 := cell_grown c5 hSw hne; have x6 := cell_grown c6 hSw hne; have x7 := cell_grown c7 hSw hne; have x8 := cell_grown c8 hSw hne; have x9 := cell_grown c9 hSw hne; have x10 := cell_grown c10 hSw hne; first | (go_simp; done) | (go_simp; with_reducible rfl))
            case hQ33 => exact fun _ _ _ h => h
            try simp only [Act.put, List.setIfInBounds_toArray, List.set_cons_zero, List.set_cons_succ]
            refine wpAnyH_ready (rs := [7]) (by kernel_rfl) (by simp) ?_
            refine AllReadyH.cons (o := ?oi34) ?hi34 (fun K hK => ?_) AllReadyH.nil
            case hi34 => simp only [List.getElem?_toArray, List.getElem?_cons_succ, List.getElem?_cons_zero]; rfl
            go_simp; go_at_call 34; refine HFI.out.mono ?_; rintro e w6 ⟨rfl, hb6⟩; go_wp2_with fail
            refine hK.out _ _ ((gb hb6 _)) (fun hHeld2 => ?_)
            clear hK K hHeld
            have hHeld := hHeld2
            clear hHeld2
            try simp only [Act.put, List.setIfInBounds_toArray, List.set_cons_zero, List.set_cons_succ]
            have L6 := Lib.hid (L5.out.below hb6)
            have d9 := L6.out.why.cell k
            rw [get_rep] at d9
            have f9 := L6.out.why.frozen k
            refine wpAnyH_take (i := 8) (oi := ?oi35) (v := ?v35) ?hi35 ?hs35 ?hf35 ?hr35 ?hQ35 (Or.inl ⟨?hg35, ?hy35⟩) hHeld ?rest35
            case hi35 => simp only [List.getElem?_toArray, List.getElem?_cons_succ, List.getElem?_cons_zero]; rfl
            case hs35 => kernel_rfl
            case hf35 => kernel_rfl
            case hr35 => kernel_rfl
            case hg35 => rfl
            case hy35 => (intro w hSw; first | (go_simp; done) | (go_simp; with_reducible rfl))
            case hQ35 => exact fun _ _ _ h => h
            try simp only [Act.put, List.setIfInBounds_toArray, List.set_cons_zero, List.set_cons_succ]
            refine wpAnyH_ready (rs := [9]) (by kernel_rfl) (by simp) ?_
            refine AllReadyH.cons (o := ?oi36) ?hi36 (fun K hK => ?_) AllReadyH.nil
            case hi36 => simp only [List.getElem?_toArray, List.getElem?_cons_succ, List.getElem?_cons_zero]; rfl
            go_simp
            refine hK.out _ _ ((grown_set (gb hb6 _) _ _)) (fun hHeld2 => ?_)
            clear hK K hHeld
            have hHeld := hHeld2
            clear hHeld2
            try simp only [Act.put, List.setIfInBounds_toArray, List.set_cons_zero, List.set_cons_succ]
            refine wpAnyH_done (by kernel_rfl) ?_ _
            have L7 := Lib.hid (show Lk w (w6.setCell ⟨W, k, none⟩ (.int .i64 fu)) g M W Kb (some ⟨b, o, none⟩) i dc rA rn rc 1000 (srcF S) (List.replicate k 0 ++ fu :: ws) by have := L6.out.set k fu n3 n4 a2; rw [set_rep] at this; exact this)
            have K7 := Lib.hid (show KidsAt (w6.setCell ⟨W, k, none⟩ (.int .i64 fu)) Kb base 1000 (kdT D D.length) from (K5.out.below hb6).heapK (fun j h => heap_setCell_other w6 ⟨W, k, none⟩ j _ (show j ≠ W by rcases h with h | h <;> omega)))
            have Y7 := Lib.hid ((Y5.out.below hb6).heap (heap_setCell_other w6 ⟨W, k, none⟩ Y (.int .i64 fu) m2))
            have N7 := Lib.hid ((N5.out.below hb6).other (a := ⟨W, k, none⟩) hne (.int .i64 fu))
            have hbase7 : base ≤ (w6.setCell ⟨W, k, none⟩ (.int .i64 fu)).heap.size := by rw [World.size_setCell]; exact Nat.le_trans hbase5 hb6.size
            clear hHeld g0 g1 g2 g3 g4 c0 c1 c2 c3 c4 c5 c6 c7 c8 c9 c10 L5 K5 Y5 N5 L6 HFI hb6 d9 f9 hbase5
            generalize w6.setCell ⟨W, k, none⟩ (.int .i64 fu) = w7 at *
            obtain ⟨g0, g1, g2, g3, g4⟩ := L7.out.cells
            obtain ⟨c0, c1, c2, c3, c4, c5, c6, c7, c8, c9, c10⟩ := encE_cells (x := x) N7.out
            have d7 := L7.out.why.cell k
            rw [get_rep] at d7
            have f7 := L7.out.why.frozen k
            have hwk : IntKind.wrap .i64 ((k : Int) - 1) = (k : Int) - 1 := by rw [IntKind.wrap_i64]; omega
            by_cases hfz : fu = 0
            · subst hfz
              by_cases hk2 : x.kind = 2
              · have e1 : (x.kind == 2) = true := by rw [hk2]; rfl
                have hlkm := fun n => Y7.out.look x.path hxp (w7.drewN n) (below_drewN (Below.refl _ _) n)
                obtain ⟨kA, kc, hlkk, _⟩ := K7.out.look x.path hxp (by have := kdT_len D D.length x.path.data.toList; rw [HDL.out] at this ⊢; omega)
                have hlkk := fun n => hlkk (w7.drewN n) (below_drewN (Below.refl _ _) n)
                have HSW := Lib.hid (HSW.out.trans (show _ = if (((cntGo x.path.data.toList (D.drop (k + 1)) ws : Nat) : Int) ≠ x.size ∨ ((kidsN D x.path.data.toList : Nat) : Int) ≠ x.size) then 4 else 0 by simp [hk2]))
                have hkn : kidsN D x.path.data.toList = (kdT D D.length x.path.data.toList).length := rfl
                rw [hkn] at HSW
                clear hkn
                by_cases hc1 : ((cntGo x.path.data.toList (D.drop (k + 1)) ws : Nat) : Int) = x.size
                · by_cases hc2 : (((kdT D D.length x.path.data.toList).length : Nat) : Int) = x.size
                  · have HST := Lib.hid (show st = 0 by rw [HSW.out]; exact if_neg (by rintro (h | h); exact h hc1; exact h hc2))
                    have e2 : (((cntGo x.path.data.toList (D.drop (k + 1)) ws : Nat) : Int) != x.size) = false := by simpa using hc1
                    have e3 : ((((kdT D D.length x.path.data.toList).length : Nat) : Int) != x.size) = false := by simpa using hc2
                    clear hc1 hc2 hk2 HSW
                    go_wp2_with fail
                    go_quiet (fail)
                    have L8 := Lib.hid (L7.out.below (below_drewN (Below.refl _ _) nq))
                    have K8 := Lib.hid (K7.out.below (below_drewN (Below.refl _ _) nq))
                    have Y8 := Lib.hid (Y7.out.below (below_drewN (Below.refl _ _) nq))
                    have N8 := Lib.hid (N7.out.drewN nq)
                    have hbase8 : base ≤ (w7.drewN nq).heap.size := by rw [World.heap_drewN]; exact hbase7
                    clear L7 K7 Y7 N7 hbase7 d7 f7 g0 g1 g2 g3 g4 c0 c1 c2 c3 c4 c5 c6 c7 c8 c9 c10
                    generalize w7.drewN nq = w8 at *
                    obtain ⟨g0, g1, g2, g3, g4⟩ := L8.out.cells
                    obtain ⟨c0, c1, c2, c3, c4, c5, c6, c7, c8, c9, c10⟩ := encE_cells (x := x) N8.out
                    have d7 := L8.out.why.cell k
                    rw [get_rep] at d7
                    have f7 := L8.out.why.frozen k
                    go_wp2_with fail
                    refine (parent_any x.path _ (by omega)).mono ?_
                    rintro e w9 ⟨rfl, rfl⟩
                    have hpl : (str (parentB x.path.data.toList)).size ≤ 2097152 := by have := parentB_size x.path; omega
                    have hlk := Y8.out.look (str (parentB x.path.data.toList)) hpl _ (Below.refl _ _)
                    have hcq := hcl (str (parentB x.path.data.toList)).data.toList
                    obtain ⟨w9, hput, hm9, hg9⟩ := Y8.out.put (c' := fun s => cntGo s (x :: D.drop (k + 1)) (0 :: ws)) (by omega) (str (parentB x.path.data.toList)) hpl (by
                      show cntGo (parentB x.path.data.toList) (x :: D.drop (k + 1)) (0 :: ws) = _
                      rw [cntGo, if_pos ⟨rfl, rfl⟩, Nat.add_comm]; rfl) (by
                      intro t ht
                      show cntGo t (x :: D.drop (k + 1)) (0 :: ws) = _
                      rw [cntGo, if_neg (fun h => ht h.2.symm), Nat.zero_add])
                    have hwc : IntKind.wrap .i64 ((cntGo (str (parentB x.path.data.toList)).data.toList (D.drop (k + 1)) ws : Int) + 1) = (cntGo (str (parentB x.path.data.toList)).data.toList (D.drop (k + 1)) ws : Int) + 1 := by rw [IntKind.wrap_i64]; omega
                    have L9 := Lib.hid (L8.out.grown hg9 (Ne.symm m4) (Ne.symm m1) (Ne.symm m2) m10)
                    have K9 := Lib.hid (K8.out.grown hg9 (Ne.symm m3) m5)
                    have hbase9 := Nat.le_trans hbase8 hg9.size
                    generalize hcc : cntGo (str (parentB x.path.data.toList)).data.toList (D.drop (k + 1)) ws = cc at *
                    go_wp2_with fail
                    go_roundw
                    case rel => exact ⟨k, by first | rfl | go_num, by omega, by rw [HWL.out, HST.out]; exact L9.out, K9.out, by rw [HWL.out, HST.out, HDR.out]; exact hm9.mono (by omega), hbase9⟩
                    case measure => simp [intOf] <;> omega
                  · have HST := Lib.hid (show st = 4 by rw [HSW.out]; exact if_pos (Or.inr hc2))
                    have e2 : (((cntGo x.path.data.toList (D.drop (k + 1)) ws : Nat) : Int) != x.size) = false := by simpa using hc1
                    have e3 : ((((kdT D D.length x.path.data.toList).length : Nat) : Int) != x.size) = true := by simpa using hc2
                    clear hc1 hc2 hk2 HSW
                    go_wp2_with fail
                    go_quiet (fail)
                    have L8 := Lib.hid (L7.out.below (below_drewN (Below.refl _ _) nq))
                    have K8 := Lib.hid (K7.out.below (below_drewN (Below.refl _ _) nq))
                    have Y8 := Lib.hid (Y7.out.below (below_drewN (Below.refl _ _) nq))
                    have N8 := Lib.hid (N7.out.drewN nq)
                    have hbase8 : base ≤ (w7.drewN nq).heap.size := by rw [World.heap_drewN]; exact hbase7
                    clear L7 K7 Y7 N7 hbase7 d7 f7 g0 g1 g2 g3 g4 c0 c1 c2 c3 c4 c5 c6 c7 c8 c9 c10
                    generalize w7.drewN nq = w8 at *
                    obtain ⟨g0, g1, g2, g3, g4⟩ := L8.out.cells
                    obtain ⟨c0, c1, c2, c3, c4, c5, c6, c7, c8, c9, c10⟩ := encE_cells (x := x) N8.out
                    have d7 := L8.out.why.cell k
                    rw [get_rep] at d7
                    have f7 := L8.out.why.frozen k
                    have L9 := Lib.hid (show Lk w (w8.setCell ⟨W, k, none⟩ (.int .i64 4)) g M W Kb (some ⟨b, o, none⟩) i dc rA rn rc 1000 (srcF S) (List.replicate k 0 ++ 4 :: ws) by have := L8.out.set k 4 n3 n4 a2; rw [set_rep] at this; exact this)
                    have K9 := Lib.hid (show KidsAt (w8.setCell ⟨W, k, none⟩ (.int .i64 4)) Kb base 1000 (kdT D D.length) from K8.out.heapK (fun j h => heap_setCell_other w8 ⟨W, k, none⟩ j _ (show j ≠ W by rcases h with h | h <;> omega)))
                    have Y9 := Lib.hid (Y8.out.heap (heap_setCell_other w8 ⟨W, k, none⟩ Y (.int .i64 4) m2))
                    have hbase9 : base ≤ (w8.setCell ⟨W, k, none⟩ (.int .i64 4)).heap.size := by rw [World.size_setCell]; exact hbase8
                    go_wp2_with fail
                    go_roundw
                    case rel => exact ⟨k, by first | rfl | go_num, by omega, by rw [HWL.out, HST.out]; exact L9.out, K9.out, by rw [HWL.out, HST.out, HDR.out]; exact (show ManyAt _ Y (i - k) (fun s => cntGo s (x :: D.drop (k + 1)) (4 :: ws)) from (Y9.out.mono (by omega)).same (fun s => by rw [cntGo, if_neg (fun h => absurd h.1 (by decide)), Nat.zero_add])), hbase9⟩
                    case measure => simp [intOf] <;> omega
                · have HST := Lib.hid (show st = 4 by rw [HSW.out]; exact if_pos (Or.inl hc1))
                  have e2 : (((cntGo x.path.data.toList (D.drop (k + 1)) ws : Nat) : Int) != x.size) = true := by simpa using hc1
                  clear hc1 hk2 HSW
                  go_wp2_with fail
                  go_quiet (fail)
                  have L8 := Lib.hid (L7.out.below (below_drewN (Below.refl _ _) nq))
                  have K8 := Lib.hid (K7.out.below (below_drewN (Below.refl _ _) nq))
                  have Y8 := Lib.hid (Y7.out.below (below_drewN (Below.refl _ _) nq))
                  have N8 := Lib.hid (N7.out.drewN nq)
                  have hbase8 : base ≤ (w7.drewN nq).heap.size := by rw [World.heap_drewN]; exact hbase7
                  clear L7 K7 Y7 N7 hbase7 d7 f7 g0 g1 g2 g3 g4 c0 c1 c2 c3 c4 c5 c6 c7 c8 c9 c10
                  generalize w7.drewN nq = w8 at *
                  obtain ⟨g0, g1, g2, g3, g4⟩ := L8.out.cells
                  obtain ⟨c0, c1, c2, c3, c4, c5, c6, c7, c8, c9, c10⟩ := encE_cells (x := x) N8.out
                  have d7 := L8.out.why.cell k
                  rw [get_rep] at d7
                  have f7 := L8.out.why.frozen k
                  have L9 := Lib.hid (show Lk w (w8.setCell ⟨W, k, none⟩ (.int .i64 4)) g M W Kb (some ⟨b, o, none⟩) i dc rA rn rc 1000 (srcF S) (List.replicate k 0 ++ 4 :: ws) by have := L8.out.set k 4 n3 n4 a2; rw [set_rep] at this; exact this)
                  have K9 := Lib.hid (show KidsAt (w8.setCell ⟨W, k, none⟩ (.int .i64 4)) Kb base 1000 (kdT D D.length) from K8.out.heapK (fun j h => heap_setCell_other w8 ⟨W, k, none⟩ j _ (show j ≠ W by rcases h with h | h <;> omega)))
                  have Y9 := Lib.hid (Y8.out.heap (heap_setCell_other w8 ⟨W, k, none⟩ Y (.int .i64 4) m2))
                  have hbase9 : base ≤ (w8.setCell ⟨W, k, none⟩ (.int .i64 4)).heap.size := by rw [World.size_setCell]; exact hbase8
                  go_wp2_with fail
                  go_roundw
                  case rel => exact ⟨k, by first | rfl | go_num, by omega, by rw [HWL.out, HST.out]; exact L9.out, K9.out, by rw [HWL.out, HST.out, HDR.out]; exact (show ManyAt _ Y (i - k) (fun s => cntGo s (x :: D.drop (k + 1)) (4 :: ws)) from (Y9.out.mono (by omega)).same (fun s => by rw [cntGo, if_neg (fun h => absurd h.1 (by decide)), Nat.zero_add])), hbase9⟩
                  case measure => simp [intOf] <;> omega
              · have e1 : (x.kind == 2) = false := by rw [beq_eq_false_iff_ne]; exact hk2
                have HST := Lib.hid (show st = 0 by rw [HSW.out]; exact if_neg (fun h => hk2 h.2.1))
                clear hk2
                go_wp2_with fail
                go_quiet (fail)
                have L8 := Lib.hid (L7.out.below (below_drewN (Below.refl _ _) nq))
                have K8 := Lib.hid (K7.out.below (below_drewN (Below.refl _ _) nq))
                have Y8 := Lib.hid (Y7.out.below (below_drewN (Below.refl _ _) nq))
                have N8 := Lib.hid (N7.out.drewN nq)
                have hbase8 : base ≤ (w7.drewN nq).heap.size := by rw [World.heap_drewN]; exact hbase7
                clear L7 K7 Y7 N7 hbase7 d7 f7 g0 g1 g2 g3 g4 c0 c1 c2 c3 c4 c5 c6 c7 c8 c9 c10
                generalize w7.drewN nq = w8 at *
                obtain ⟨g0, g1, g2, g3, g4⟩ := L8.out.cells
                obtain ⟨c0, c1, c2, c3, c4, c5, c6, c7, c8, c9, c10⟩ := encE_cells (x := x) N8.out
                have d7 := L8.out.why.cell k
                rw [get_rep] at d7
                have f7 := L8.out.why.frozen k
                go_wp2_with fail
                refine (parent_any x.path _ (by omega)).mono ?_
                rintro e w9 ⟨rfl, rfl⟩
                have hpl : (str (parentB x.path.data.toList)).size ≤ 2097152 := by have := parentB_size x.path; omega
                have hlk := Y8.out.look (str (parentB x.path.data.toList)) hpl _ (Below.refl _ _)
                have hcq := hcl (str (parentB x.path.data.toList)).data.toList
                obtain ⟨w9, hput, hm9, hg9⟩ := Y8.out.put (c' := fun s => cntGo s (x :: D.drop (k + 1)) (0 :: ws)) (by omega) (str (parentB x.path.data.toList)) hpl (by
                  show cntGo (parentB x.path.data.toList) (x :: D.drop (k + 1)) (0 :: ws) = _
                  rw [cntGo, if_pos ⟨rfl, rfl⟩, Nat.add_comm]; rfl) (by
                  intro t ht
                  show cntGo t (x :: D.drop (k + 1)) (0 :: ws) = _
                  rw [cntGo, if_neg (fun h => ht h.2.symm), Nat.zero_add])
                have hwc : IntKind.wrap .i64 ((cntGo (str (parentB x.path.data.toList)).data.toList (D.drop (k + 1)) ws : Int) + 1) = (cntGo (str (parentB x.path.data.toList)).data.toList (D.drop (k + 1)) ws : Int) + 1 := by rw [IntKind.wrap_i64]; omega
                have L9 := Lib.hid (L8.out.grown hg9 (Ne.symm m4) (Ne.symm m1) (Ne.symm m2) m10)
                have K9 := Lib.hid (K8.out.grown hg9 (Ne.symm m3) m5)
                have hbase9 := Nat.le_trans hbase8 hg9.size
                generalize hcc : cntGo (str (parentB x.path.data.toList)).data.toList (D.drop (k + 1)) ws = cc at *
                go_wp2_with fail
                go_roundw
                case rel => exact ⟨k, by first | rfl | go_num, by omega, by rw [HWL.out, HST.out]; exact L9.out, K9.out, by rw [HWL.out, HST.out, HDR.out]; exact hm9.mono (by omega), hbase9⟩
                case measure => simp [intOf] <;> omega
            · have e1 : (fu == 0) = false := by rw [beq_eq_false_iff_ne]; exact hfz
              have HST := Lib.hid (show st = fu by rw [HSW.out]; exact if_neg (fun h => hfz h.1))
              have HCN := Lib.hid (show ∀ s, cntGo s (x :: D.drop (k + 1)) (fu :: ws) = cntGo s (D.drop (k + 1)) ws from fun s => by rw [cntGo, if_neg (fun h => hfz h.1), Nat.zero_add])
              clear hfz
              go_wp2_with fail
              go_quiet (fail)
              have L8 := Lib.hid (L7.out.below (below_drewN (Below.refl _ _) nq))
              have K8 := Lib.hid (K7.out.below (below_drewN (Below.refl _ _) nq))
              have Y8 := Lib.hid (Y7.out.below (below_drewN (Below.refl _ _) nq))
              have N8 := Lib.hid (N7.out.drewN nq)
              have hbase8 : base ≤ (w7.drewN nq).heap.size := by rw [World.heap_drewN]; exact hbase7
              clear L7 K7 Y7 N7 hbase7 d7 f7 g0 g1 g2 g3 g4 c0 c1 c2 c3 c4 c5 c6 c7 c8 c9 c10
              generalize w7.drewN nq = w8 at *
              obtain ⟨g0, g1, g2, g3, g4⟩ := L8.out.cells
              obtain ⟨c0, c1, c2, c3, c4, c5, c6, c7, c8, c9, c10⟩ := encE_cells (x := x) N8.out
              have d7 := L8.out.why.cell k
              rw [get_rep] at d7
              have f7 := L8.out.why.frozen k
              go_wp2_with fail
              go_roundw
              case rel => exact ⟨k, by first | rfl | go_num, by omega, by rw [HWL.out, HST.out]; exact L8.out, K8.out, by rw [HWL.out, HST.out, HDR.out]; exact (Y8.out.mono (by omega)).same HCN.out, hbase8⟩
              case measure => simp [intOf] <;> omega
end Go.Proofs.Ytcagonpnjionhaa
