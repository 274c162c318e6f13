import Derived.Test.YthkjnpbbgfagkaaDoorJL
/-! What is open behind records: no program here. -/
namespace Go.Proofs.YthkjnpbbgfagkaaDoor

def ky (r : Rec) : List UInt8 := r.path.data.toList
theorem ky_inj {a b : ByteArray} (h : a.data.toList = b.data.toList) : a = b := by
  cases a; cases b; simp only at h; rw [Array.toList_inj.1 h]
theorem ky_eq {r : Rec} {p : ByteArray} : ky r = p.data.toList ↔ r.path = p := ⟨fun h => ky_inj h, fun h => by rw [← h]; rfl⟩
/-- All but those of one path. -/
def wout (l : List Rec) (p : ByteArray) : List Rec := l.filter fun x => decide (x.path ≠ p)
/-- A path's number turned. -/
def setN (l : List Rec) (p : ByteArray) (n : Int) : List Rec := l.map fun x => if x.path = p then { x with num := n } else x
/-- A record in its place. -/
def insK (r : Rec) : List Rec → List Rec
  | [] => [r]
  | x :: l => if ky x < ky r then x :: insK r l else r :: x :: l
def openStep (acc : List Rec) (r : Rec) : List Rec :=
  if ¬ May r then acc else if r.kind = 2 then setN acc r.path r.num else if r.kind = 1 then insK r (wout acc r.path) else wout acc r.path
def openL (l : List Rec) : List Rec := l.foldl openStep []
def Srt (l : List Rec) : Prop := l.Pairwise fun a b => ky a < ky b
theorem openL_snoc (l : List Rec) (r : Rec) : openL (l ++ [r]) = openStep (openL l) r := by simp [openL]
theorem lt_of_not {a b : List UInt8} (h : ¬ a < b) (hne : a ≠ b) : b < a := by
  by_cases h2 : b < a
  · exact h2
  · exact absurd (List.le_antisymm (List.not_lt.1 h2) (List.not_lt.1 h)) hne
theorem insK_mem {r x : Rec} {l : List Rec} : x ∈ insK r l ↔ x = r ∨ x ∈ l := by
  induction l with
  | nil => simp [insK]
  | cons y l ih =>
    unfold insK; split
    · simp only [List.mem_cons, ih]; constructor
      · rintro (h | h | h) <;> simp [h]
      · rintro (h | h | h) <;> simp [h]
    · simp
theorem insK_len (r : Rec) (l : List Rec) : (insK r l).length = l.length + 1 := by
  induction l with
  | nil => rfl
  | cons y l ih => unfold insK; split <;> simp [ih]
theorem insK_srt {r : Rec} {l : List Rec} (h : Srt l) (hne : ∀ x ∈ l, ky x ≠ ky r) : Srt (insK r l) := by
  induction l with
  | nil => simp [insK, Srt]
  | cons y l ih =>
    have h1 := List.pairwise_cons.1 h
    unfold insK; split
    · rename_i hlt
      refine List.pairwise_cons.2 ⟨fun x hx => ?_, ih h1.2 fun x hx => hne x (List.mem_cons_of_mem _ hx)⟩
      rcases insK_mem.1 hx with rfl | hx
      · exact hlt
      · exact h1.1 x hx
    · rename_i hlt
      have hry := lt_of_not hlt (hne y List.mem_cons_self)
      refine List.pairwise_cons.2 ⟨fun x hx => ?_, h⟩
      rcases List.mem_cons.1 hx with rfl | hx
      · exact hry
      · exact List.lt_trans hry (h1.1 x hx)
theorem wout_srt {l : List Rec} (h : Srt l) (p : ByteArray) : Srt (wout l p) := List.Pairwise.filter _ h
theorem wout_ne {l : List Rec} {p : ByteArray} : ∀ x ∈ wout l p, ky x ≠ p.data.toList := fun x hx e => by
  have := (List.mem_filter.1 hx).2
  simp only [decide_eq_true_eq] at this
  exact this (ky_eq.1 e)
theorem setN_srt {l : List Rec} (h : Srt l) (p : ByteArray) (n : Int) : Srt (setN l p n) := by
  refine List.pairwise_map.2 (h.imp fun {a b} hab => ?_)
  have hk : ∀ a : Rec, ky (if a.path = p then { a with num := n } else a) = ky a := fun a => by split <;> rfl
  rw [hk, hk]; exact hab
theorem step_srt {acc : List Rec} (h : Srt acc) (r : Rec) : Srt (openStep acc r) := by
  unfold openStep; split
  · exact h
  · split
    · exact setN_srt h _ _
    · split
      · exact insK_srt (wout_srt h _) wout_ne
      · exact wout_srt h _
theorem openL_srt (l : List Rec) : Srt (openL l) := by
  have : ∀ (l acc : List Rec), Srt acc → Srt (l.foldl openStep acc) := by
    intro l
    induction l with
    | nil => exact fun acc h => h
    | cons r l ih => exact fun acc h => ih _ (step_srt h r)
  exact this l [] List.Pairwise.nil
/-- Where a path's record lies. -/
def getP (l : List Rec) (p : List UInt8) : Option Rec := l.find? fun x => decide (ky x = p)
theorem getP_wout (l : List Rec) (p : ByteArray) (q : List UInt8) : getP (wout l p) q = if q = p.data.toList then none else getP l q := by
  induction l with
  | nil => simp [getP, wout]
  | cons x l ih =>
    simp only [getP, wout] at ih ⊢
    by_cases h1 : x.path = p
    · rw [List.filter_cons_of_neg (by simpa using h1), ih, List.find?_cons]
      split
      · rfl
      · rename_i h2
        rw [decide_eq_false (by intro h3; exact h2 (h3.symm.trans (ky_eq.2 h1)))]
    · rw [List.filter_cons_of_pos (by simpa using h1), List.find?_cons, List.find?_cons, ih]
      by_cases h2 : ky x = q
      · have h3 : ¬ q = p.data.toList := fun h3 => h1 (ky_eq.1 (h2.trans h3))
        simp only [decide_eq_true h2, if_neg h3]
      · rw [decide_eq_false h2]
theorem getP_insK (r : Rec) (l : List Rec) (q : List UInt8) (hne : ∀ x ∈ l, ky x ≠ ky r) : getP (insK r l) q = if q = ky r then some r else getP l q := by
  induction l with
  | nil => 
    simp only [getP, insK, List.find?_cons, List.find?_nil]
    by_cases h : ky r = q
    · rw [decide_eq_true h, if_pos h.symm]
    · rw [decide_eq_false h, if_neg fun h2 => h h2.symm]
  | cons x l ih =>
    have hx := hne x List.mem_cons_self
    have ih := ih fun y hy => hne y (List.mem_cons_of_mem _ hy)
    simp only [getP] at ih ⊢
    unfold insK; split
    · rw [List.find?_cons, ih, List.find?_cons]
      by_cases h : ky x = q
      · have h3 : ¬ q = ky r := fun h2 => hx (h.trans h2)
        simp only [decide_eq_true h, if_neg h3]
      · rw [decide_eq_false h]
    · rw [List.find?_cons]
      by_cases h : ky r = q
      · rw [decide_eq_true h, if_pos h.symm]
      · rw [decide_eq_false h, if_neg fun h2 => h h2.symm]
theorem getP_setN (l : List Rec) (p : ByteArray) (n : Int) (q : List UInt8) : getP (setN l p n) q = if q = p.data.toList then (getP l q).map (fun x => { x with num := n }) else getP l q := by
  induction l with
  | nil => simp [getP, setN]
  | cons x l ih =>
    simp only [getP, setN, List.map_cons, List.find?_cons] at ih ⊢
    have hk : ky (if x.path = p then { x with num := n } else x) = ky x := by split <;> rfl
    rw [hk, ih]
    by_cases h : ky x = q
    · by_cases h2 : x.path = p
      · have h3 : q = p.data.toList := h.symm.trans (ky_eq.2 h2)
        simp only [decide_eq_true h, if_pos h2, if_pos h3, Option.map_some]
      · have h3 : ¬ q = p.data.toList := fun h3 => h2 (ky_eq.1 (h.trans h3))
        simp only [decide_eq_true h, if_neg h2, if_neg h3]
    · rw [decide_eq_false h]
theorem getP_ky {l : List Rec} {q : List UInt8} {r : Rec} (h : getP l q = some r) : ky r = q ∧ r ∈ l := by
  have h1 := List.find?_some h
  exact ⟨by simpa using h1, List.mem_of_find?_eq_some h⟩
theorem getP_none {l : List Rec} {q : List UInt8} (h : getP l q = none) : ∀ x ∈ l, ky x ≠ q := fun x hx => by
  have := List.find?_eq_none.1 h x hx; simpa using this
theorem getP_of_mem {l : List Rec} (h : Srt l) {r : Rec} (hr : r ∈ l) : getP l (ky r) = some r := by
  induction l with
  | nil => cases hr
  | cons x l ih =>
    have h1 := List.pairwise_cons.1 h
    simp only [getP, List.find?_cons]
    rcases List.mem_cons.1 hr with rfl | hr
    · simp
    · rw [decide_eq_false (by intro e; have := h1.1 r hr; rw [e] at this; exact List.lt_irrefl _ this)]
      exact ih h1.2 hr
theorem setN_none {l : List Rec} {p : ByteArray} (n : Int) (h : getP l p.data.toList = none) : setN l p n = l := by
  have := getP_none h
  exact (List.map_congr_left fun x hx => if_neg fun e => this x hx (ky_eq.2 e)).trans (List.map_id _)
/-- What holds of each that is open. -/
def Opn (r : Rec) : Prop := r.kind = 1 ∧ 0 < r.path.size ∧ r.path.size ≤ 200 ∧ 0 ≤ r.num ∧ r.num ≤ 65536 ∧ r.sum.size = 32
theorem step_opn {acc : List Rec} (h : ∀ x ∈ acc, Opn x) (r : Rec) : ∀ x ∈ openStep acc r, Opn x := by
  unfold openStep; split
  · exact h
  · rename_i hm
    have hm : May r := Decidable.not_not.1 hm
    obtain ⟨m1, m2, m3, m4, m5, m6, m7, m8⟩ := hm
    split
    · intro x hx
      obtain ⟨y, hy, rfl⟩ := List.mem_map.1 hx
      obtain ⟨a, b, c, d, e, f⟩ := h y hy
      split
      · exact ⟨a, b, c, m5, m6, f⟩
      · exact ⟨a, b, c, d, e, f⟩
    · rename_i h2
      split
      · rename_i h1
        intro x hx
        rcases insK_mem.1 hx with rfl | hx
        · exact ⟨h1, m3, m4, m5, m6, by omega⟩
        · exact h x (List.mem_filter.1 hx).1
      · intro x hx; exact h x (List.mem_filter.1 hx).1
theorem openL_opn (l : List Rec) : ∀ x ∈ openL l, Opn x := by
  have : ∀ (l acc : List Rec), (∀ x ∈ acc, Opn x) → ∀ x ∈ l.foldl openStep acc, Opn x := by
    intro l
    induction l with
    | nil => exact fun acc h => h
    | cons r l ih => exact fun acc h => ih _ (step_opn h r)
  exact this l [] (by simp)
theorem step_len (acc : List Rec) (r : Rec) : (openStep acc r).length ≤ acc.length + 1 := by
  unfold openStep wout setN; split
  · omega
  · split
    · simp
    · split
      · rw [insK_len]; have := List.length_filter_le (fun x => decide (x.path ≠ r.path)) acc; omega
      · have := List.length_filter_le (fun x => decide (x.path ≠ r.path)) acc; omega
theorem openL_len (l : List Rec) : (openL l).length ≤ l.length := by
  have : ∀ (l acc : List Rec), (l.foldl openStep acc).length ≤ acc.length + l.length := by
    intro l
    induction l with
    | nil => exact fun acc => by simp
    | cons r l ih => exact fun acc => by have := ih (openStep acc r); have := step_len acc r; simp only [List.foldl_cons, List.length_cons]; omega
  have := this l []
  simpa [openL] using this
end Go.Proofs.YthkjnpbbgfagkaaDoor
