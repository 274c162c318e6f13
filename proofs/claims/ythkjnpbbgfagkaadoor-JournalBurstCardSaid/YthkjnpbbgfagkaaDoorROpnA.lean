import Derived.Test.YthkjnpbbgfagkaaDoorWithout
set_option linter.unusedVariables false
set_option linter.unusedSimpArgs false
namespace Go.Proofs.YthkjnpbbgfagkaaDoor
open Go.RowKit Go.Maps

/-! plain laws on rows of records -/
theorem encs_cons (r : Rec) (l : List Rec) : encs (r :: l) = encR r ++ encs l := rfl
theorem encs_app' (a b : List Rec) : encs (a ++ b) = encs a ++ encs b := by simp [encs]
theorem set_behind {α : Type} (a b : List α) (k : Nat) (u : α) : (a ++ b).set (a.length + k) u = a ++ b.set k u := by
  rw [List.set_append_right _ _ (by omega), Nat.add_sub_cancel_left]
theorem encs_set_num (a b : List Rec) (x : Rec) (n : Int) : (encs (a ++ x :: b)).set (a.length * 4 + 2) (.int .i64 n) = encs (a ++ { x with num := n } :: b) := by
  rw [encs_app', encs_app', ← encs_len, set_behind, encs_cons, encs_cons]; rfl
theorem encs_set_all (a b : List Rec) (x y : Rec) : ((((encs (a ++ x :: b)).set (a.length * 4) (.int .i64 y.kind)).set (a.length * 4 + 1) (.string y.path)).set (a.length * 4 + 2) (.int .i64 y.num)).set (a.length * 4 + 3) (.string y.sum) = encs (a ++ y :: b) := by
  have e0 : ∀ (b : List Value) (u : Value), (encs a ++ b).set (encs a).length u = encs a ++ b.set 0 u := fun b u => set_behind (encs a) b 0 u
  rw [encs_app', encs_app', ← encs_len, e0, set_behind, set_behind, set_behind, encs_cons, encs_cons]; rfl
theorem setN_cons_ne {x : Rec} {l : List Rec} {p : ByteArray} {n : Int} (h : x.path ≠ p) : setN (x :: l) p n = x :: setN l p n := by simp [setN, h]
theorem setN_snoc (l : List Rec) (x : Rec) (p : ByteArray) (n : Int) : setN (l ++ [x]) p n = setN l p n ++ [if x.path = p then { x with num := n } else x] := by simp [setN]
theorem setN_len (l : List Rec) (p : ByteArray) (n : Int) : (setN l p n).length = l.length := by simp [setN]
/-- A round of the loop that turns a number. -/
theorem setN_step_ne {acc : List Rec} {j : Nat} {x : Rec} {p : ByteArray} (n : Int) (hx : acc[j]? = some x) (h : x.path ≠ p) : setN (acc.take j) p n ++ acc.drop j = setN (acc.take (j + 1)) p n ++ acc.drop (j + 1) := by
  have hj : j < acc.length := (List.getElem?_eq_some_iff.1 hx).1
  have he : acc[j] = x := (List.getElem?_eq_some_iff.1 hx).2
  rw [take_snoc hx, setN_snoc, if_neg h, drop_cons hj, he]; simp
theorem setN_step_eq {acc : List Rec} {j : Nat} {x : Rec} {p : ByteArray} (n : Int) (hx : acc[j]? = some x) (h : x.path = p) :
    (encs (setN (acc.take j) p n ++ acc.drop j)).set (j * 4 + 2) (.int .i64 n) = encs (setN (acc.take (j + 1)) p n ++ acc.drop (j + 1)) := by
  have hj : j < acc.length := (List.getElem?_eq_some_iff.1 hx).1
  have he : acc[j] = x := (List.getElem?_eq_some_iff.1 hx).2
  have hl : (setN (acc.take j) p n).length = j := by rw [setN_len, List.length_take]; omega
  have := encs_set_num (setN (acc.take j) p n) (acc.drop (j + 1)) x n
  rw [hl] at this
  rw [drop_cons hj, he, this, take_snoc hx, setN_snoc, if_pos h]; simp
theorem setN_at {acc : List Rec} {j : Nat} {p : ByteArray} {n : Int} (hj : j < acc.length) : (setN (acc.take j) p n ++ acc.drop j)[j]? = acc[j]? := by
  rw [List.getElem?_append_right (by rw [setN_len, List.length_take]; omega), setN_len, List.length_take, List.getElem?_drop]
  congr 1; omega
/-- A round of the loop that makes room. -/
theorem room_step {acc : List Rec} {k : Nat} {x y : Rec} (hx : acc[k]? = some x) :
    ((((encs (acc.take (k + 1) ++ y :: acc.drop (k + 1))).set ((k + 1) * 4) (.int .i64 x.kind)).set ((k + 1) * 4 + 1) (.string x.path)).set ((k + 1) * 4 + 2) (.int .i64 x.num)).set ((k + 1) * 4 + 3) (.string x.sum) = encs (acc.take k ++ x :: acc.drop k) := by
  have hj : k < acc.length := (List.getElem?_eq_some_iff.1 hx).1
  have he : acc[k] = x := (List.getElem?_eq_some_iff.1 hx).2
  have hl : (acc.take (k + 1)).length = k + 1 := by rw [List.length_take]; omega
  have := encs_set_all (acc.take (k + 1)) (acc.drop (k + 1)) y x
  rw [hl] at this
  rw [this, take_snoc hx, drop_cons hj, he]; simp
theorem room_at {acc : List Rec} {k : Nat} {y : Rec} (hk : k < acc.length) : (acc.take (k + 1) ++ y :: acc.drop (k + 1))[k]? = acc[k]? := by
  rw [List.getElem?_append_left (by rw [List.length_take]; omega), List.getElem?_take]; simp
theorem room_last {acc : List Rec} {k : Nat} {x y : Rec} (hk : k ≤ acc.length) :
    ((((encs (acc.take k ++ y :: acc.drop k)).set (k * 4) (.int .i64 x.kind)).set (k * 4 + 1) (.string x.path)).set (k * 4 + 2) (.int .i64 x.num)).set (k * 4 + 3) (.string x.sum) = encs (acc.take k ++ x :: acc.drop k) := by
  have hl : (acc.take k).length = k := by rw [List.length_take]; omega
  have := encs_set_all (acc.take k) (acc.drop k) y x
  rwa [hl] at this
theorem insK_at (r : Rec) : ∀ (a b : List Rec), (∀ x ∈ a, ky x < ky r) → (∀ x, b.head? = some x → ¬ ky x < ky r) → insK r (a ++ b) = a ++ r :: b := by
  intro a
  induction a with
  | nil =>
    intro b _ hb
    cases b with
    | nil => rfl
    | cons x b => simp only [List.nil_append, insK]; rw [if_neg (hb x rfl)]
  | cons x a ih =>
    intro b ha hb
    rw [List.cons_append, insK, if_pos (ha x List.mem_cons_self), ih b (fun y hy => ha y (List.mem_cons_of_mem _ hy)) hb]; rfl
/-- Where the loop that makes room ends, the record belongs. -/
theorem room_end {acc : List Rec} {r : Rec} {k : Nat} (hs : Srt acc) (hne : ∀ x ∈ acc, ky x ≠ ky r) (hk : k ≤ acc.length) (hlo : k = 0 ∨ ∃ x, acc[k - 1]? = some x ∧ ¬ ky r < ky x) (hhi : k < acc.length → ∃ x, acc[k]? = some x ∧ ky r < ky x) :
    insK r acc = acc.take k ++ r :: acc.drop k := by
  have := insK_at r (acc.take k) (acc.drop k) (fun x hx => ?_) (fun x hx => ?_)
  · rwa [List.take_append_drop] at this
  · rcases hlo with rfl | ⟨y, hy, hlt⟩
    · simp at hx
    · obtain ⟨j, hj, rfl⟩ := List.mem_iff_getElem.1 hx
      rw [List.length_take] at hj
      rw [List.getElem_take]
      have hyl : k - 1 < acc.length := (List.getElem?_eq_some_iff.1 hy).1
      have hye : acc[k - 1] = y := (List.getElem?_eq_some_iff.1 hy).2
      have hyr : ky y < ky r := lt_of_not hlt (fun e => hne y (hye ▸ List.getElem_mem _) e.symm)
      rcases Nat.lt_or_ge j (k - 1) with h1 | h1
      · have := List.pairwise_iff_getElem.1 hs j (k - 1) (by omega) hyl h1
        rw [hye] at this
        exact List.lt_trans this hyr
      · have e : j = k - 1 := by omega
        subst e; rw [hye]; exact hyr
  · rcases Nat.lt_or_ge k acc.length with h | h
    · obtain ⟨y, hy, hlt⟩ := hhi h
      rw [List.head?_drop, hy] at hx
      obtain rfl := Option.some.inj hx
      exact fun h2 => List.lt_irrefl _ (List.lt_trans hlt h2)
    · rw [List.drop_of_length_le h] at hx; cases hx
/-- Four cells of a row at once. -/
theorem own_set4 {w : World} {base g cap n : Nat} {xs : List Value} {T : TypeId} {sz : Nat} (h : w.ownsRow base T sz (.slice (some ⟨g, 0, none⟩) n cap) n xs) (j : Nat) (b0 b1 b2 b3 : Value) :
    ((((w.setCell ⟨g, j, none⟩ b0).setCell ⟨g, j + 1, none⟩ b1).setCell ⟨g, j + 2, none⟩ b2).setCell ⟨g, j + 3, none⟩ b3).ownsRow base T sz (.slice (some ⟨g, 0, none⟩) n cap) n ((((xs.set j b0).set (j + 1) b1).set (j + 2) b2).set (j + 3) b3) :=
  ((((h.stored j b0).1.stored (j + 1) b1).1.stored (j + 2) b2).1.stored (j + 3) b3).1
end Go.Proofs.YthkjnpbbgfagkaaDoor
