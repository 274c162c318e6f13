import Derived.Test.YthkjnpbbgfagkaaDoorMine
import Derived.Test.YthkjnpbbgfagkaaDoorJO
import Derived.Test.YthkjnpbbgfagkaaDoorKeys
import Derived.Maps.OwnSet
import Derived.StringKeys
set_option linter.unusedVariables false
set_option linter.unusedSimpArgs false
namespace Go.Proofs.YthkjnpbbgfagkaaDoor
open Go.RowKit Go.Maps

/-- How a record reads in a map. -/
def datR (r : Rec) : DataW Unit := .agg [.lit (.int .i64 r.kind), .lit (.string r.path.data.toList), .lit (.int .i64 r.num), .lit (.string r.sum.data.toList)]
def RR : Value → Option (DataW Unit × List MemPlace)
  | .agg ⟨[.int .i64 k, .string p, .int .i64 m, .string s]⟩ => some (datR ⟨k, p, m, s⟩, [])
  | _ => none
theorem RR_enc (r : Rec) : RR (.agg (encR r).toArray) = some (datR r, []) := rfl
theorem datR_inj {a b : Rec} (h : datR a = datR b) : a = b := by
  cases a; cases b
  simp only [datR, DataW.agg.injEq, List.cons.injEq, DataW.lit.injEq, Lit.int.injEq, Lit.string.injEq, true_and, and_true] at h
  obtain ⟨h1, h2, h3, h4⟩ := h
  rw [h1, ky_inj h2, h3, ky_inj h4]
theorem RR_inv {v : Value} {r : Rec} {ps : List MemPlace} (h : RR v = some (datR r, ps)) : v = .agg (encR r).toArray := by
  unfold RR at h
  split at h
  · simp only [Option.some.injEq, Prod.mk.injEq] at h
    rw [← datR_inj h.1]; rfl
  · cases h
/-- A map holds what is open. -/
def MRel (D : DataW Unit) (acc : List Rec) : Prop := ∀ q, Maps.has D (.string q) = (getP acc q).isSome ∧ ∀ z, D.atKey (.string q) z = ((getP acc q).map datR).getD z
theorem MRel_nil : MRel (.map []) [] := fun q => ⟨rfl, fun z => rfl⟩
theorem isKeyStr (q : List UInt8) : WideAt.IsKeyLit (.string q) := by simp [WideAt.IsKeyLit]
theorem MRel.put {D : DataW Unit} {acc acc' : List Rec} {r : Rec} {p : List UInt8} (h : MRel D acc) (hD : Maps.IsMap D) (he : ∀ q, getP acc' q = if q = p then some r else getP acc q) : MRel (D.put (.string p) (datR r)) acc' := by
  intro q
  rw [he q]
  by_cases hq : q = p
  · subst hq
    rw [if_pos rfl]
    exact ⟨Maps.has_put_same hD (isKeyStr q) _, fun z => Maps.atKey_put_same hD (isKeyStr q) _ z⟩
  · have hn : (Lit.string q) ≠ .string p := by simpa using hq
    rw [if_neg hq, Maps.has_put_other hn]
    exact ⟨(h q).1, fun z => (Maps.atKey_put_other hn _ z).trans ((h q).2 z)⟩
theorem MRel.del {D : DataW Unit} {acc acc' : List Rec} {p : List UInt8} (h : MRel D acc) (he : ∀ q, getP acc' q = if q = p then none else getP acc q) : MRel (D.del (.string p)) acc' := by
  intro q
  rw [he q]
  by_cases hq : q = p
  · subst hq
    rw [if_pos rfl]
    exact ⟨Maps.has_del_same, fun z => Maps.atKey_del_same z⟩
  · have hn : (Lit.string q) ≠ .string p := by simpa using hq
    rw [if_neg hq, Maps.has_del_other hn]
    exact ⟨(h q).1, fun z => (Maps.atKey_del_other hn z).trans ((h q).2 z)⟩
theorem MRel.same {D : DataW Unit} {acc acc' : List Rec} (h : MRel D acc) (he : ∀ q, getP acc' q = getP acc q) : MRel D acc' := by
  intro q; rw [he q]; exact h q

theorem keyed9 : Keyed Tryd.prog 9 := string_keyed Tryd.underlying9
theorem zero31 (w : World) : (zeroValue 31).run Tryd.prog w = .ok (.agg (encR zeroRec).toArray) w := by
  obtain ⟨i, hi, hz, _, _⟩ := info_parts info31
  simp [zeroValue, typeInfo, hi, hz, encR, zeroRec, str]
abbrev MOwn (w : World) (b n : Nat) (D : DataW Unit) : Prop := w.ownsMap Tryd.prog 9 RR b n D
theorem MOwn.look {w : World} {b n : Nat} {D : DataW Unit} {acc : List Rec} (h : MOwn w b n D) (hr : MRel D acc) {p : ByteArray} (hp : p.size ≤ maxLen) :
    (Instr.lookup 63 (.map (some b)) (.string p) true).run Tryd.prog w = .ok (.tuple #[.agg (encR ((getP acc p.data.toList).getD zeroRec)).toArray, .bool (getP acc p.data.toList).isSome]) w := by
  obtain ⟨v, ps, hrun, hv⟩ := World.ownsMap.look_ok h keyed9 Tryd.underlying63 (zero31 w) (RR_enc zeroRec) (WideMaps.keyOf_string_mk Tryd.underlying9 hp)
  rw [hrun, (hr _).1]
  rw [(hr _).2] at hv
  have : ((getP acc p.data.toList).map datR).getD (datR zeroRec) = datR ((getP acc p.data.toList).getD zeroRec) := by cases getP acc p.data.toList <;> rfl
  rw [this] at hv
  rw [RR_inv hv]
theorem MOwn.look1 {w : World} {b n : Nat} {D : DataW Unit} {acc : List Rec} (h : MOwn w b n D) (hr : MRel D acc) {p : ByteArray} (hp : p.size ≤ maxLen) :
    (Instr.lookup 63 (.map (some b)) (.string p) false).run Tryd.prog w = .ok (.agg (encR ((getP acc p.data.toList).getD zeroRec)).toArray) w := by
  obtain ⟨v, ps, hrun, hv⟩ := World.ownsMap.lookup h keyed9 Tryd.underlying63 (zero31 w) (RR_enc zeroRec) (WideMaps.keyOf_string_mk Tryd.underlying9 hp)
  rw [hrun]
  rw [(hr _).2] at hv
  have : ((getP acc p.data.toList).map datR).getD (datR zeroRec) = datR ((getP acc p.data.toList).getD zeroRec) := by cases getP acc p.data.toList <;> rfl
  rw [this] at hv
  rw [RR_inv hv]
theorem MOwn.put {w : World} {b n : Nat} {D : DataW Unit} (h : MOwn w b n D) (hn : n < maxLen) {p : ByteArray} (hp : p.size ≤ maxLen) (r : Rec) :
    ∃ w', (Instr.mapUpdate 63 (.map (some b)) (.string p) (.agg (encR r).toArray)).run Tryd.prog w = .ok () w' ∧ MOwn w' b (n + 1) (D.put (.string p.data.toList) (datR r)) ∧ w.grownBy w' (some b) :=
  World.ownsMap.update h keyed9 Tryd.underlying63 hn (WideMaps.keyOf_string_mk Tryd.underlying9 hp) (RR_enc r)
theorem MOwn.del {w : World} {b n : Nat} {D : DataW Unit} (h : MOwn w b n D) {p : ByteArray} (hp : p.size ≤ maxLen) (ty : TypeId) :
    ∃ w', (Builtin.delete_ #[63, 9] ty #[.map (some b), .string p]).run Tryd.prog w = .ok (.tuple #[]) w' ∧ MOwn w' b n (D.del (.string p.data.toList)) ∧ w.grownBy w' (some b) := by
  obtain ⟨w', h1, h2, h3⟩ := World.ownsMap.drop h keyed9 Tryd.underlying63 (WideMaps.keyOf_string_mk Tryd.underlying9 hp) ty
  exact ⟨w', h1, h2, h3.grown⟩
/-- A map's keys, sorted, are those of what is open, in its order. -/
theorem MOwn.keys {w : World} {b n : Nat} {D : DataW Unit} {acc : List Rec} (h : MOwn w b n D) (hr : MRel D acc) (hs : Srt acc) {ss : List (List UInt8)} (hp : ss.Perm (strKeys D)) : ss.mergeSort (fun x y => decide (x ≤ y)) = acc.map ky := by
  obtain ⟨es, rfl, hpw, hk⟩ := World.ownsMap.entries h keyed9
  have hks : ∀ p ∈ es, ∃ x, p.1 = .string x := by
    obtain ⟨es', h1, h2⟩ := World.ownsMap.keysOf h
    cases h1
    intro p hp
    obtain ⟨key, hkey⟩ := h2 p hp
    obtain ⟨x, _, hx, _⟩ := Maps.keyOf_str Tryd.underlying9 hkey
    exact ⟨x, hx⟩
  have hsk : (acc.map ky).Pairwise (· < ·) := List.pairwise_map.2 hs
  have hnd : (acc.map ky).Nodup := hsk.imp fun {a b} h e => by rw [e] at h; exact List.lt_irrefl _ h
  have hperm := perm_strKeys hpw hks hnd (fun x => by
    rw [(hr x).1]
    constructor
    · intro hx
      obtain ⟨r, hr, rfl⟩ := List.mem_map.1 hx
      rw [getP_of_mem hs hr]; rfl
    · intro hx
      obtain ⟨r, hr⟩ := Option.isSome_iff_exists.1 hx
      have := getP_ky hr
      exact List.mem_map.2 ⟨r, this.2, this.1⟩)
  rw [mergeSort_of_perm (hp.trans hperm.symm)]
  exact List.mergeSort_of_pairwise (hsk.imp fun {a b} h => by simpa using List.le_of_lt h)
end Go.Proofs.YthkjnpbbgfagkaaDoor
