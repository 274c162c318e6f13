import Derived.Test.YthkjnpbbgfagkaaDoorRSho
import Derived.Test.YthkjnpbbgfagkaaDoorBytes
/-! Plain laws on what is open: no program here. -/
set_option linter.unusedVariables false
set_option linter.unusedSimpArgs false
namespace Go.Proofs.YthkjnpbbgfagkaaDoor

/-! 1. the fewest records leave the same open -/
theorem openL_app (a b : List Rec) : openL (a ++ b) = b.foldl openStep (openL a) := by simp [openL]
theorem step_yes {acc : List Rec} {r : Rec} (h : May r) : openStep acc r = if r.kind = 2 then setN acc r.path r.num else if r.kind = 1 then insK r (wout acc r.path) else wout acc r.path := by
  unfold openStep; rw [if_neg (by simpa using h)]
theorem step_no {acc : List Rec} {r : Rec} (h : ¬ May r) : openStep acc r = acc := by unfold openStep; rw [if_pos h]
theorem wout_self {acc : List Rec} {p : ByteArray} (h : ∀ x ∈ acc, ky x ≠ p.data.toList) : wout acc p = acc := List.filter_eq_self.2 fun x hx => by
  simp only [decide_eq_true_eq]; exact fun e => h x hx (ky_eq.2 e)
theorem setN_self {acc : List Rec} {p : ByteArray} (n : Int) (h : ∀ x ∈ acc, ky x ≠ p.data.toList) : setN acc p n = acc := by
  refine (List.map_congr_left fun x hx => if_neg fun e => h x hx (ky_eq.2 e)).trans (List.map_id _)
theorem opn_may {r : Rec} (h : Opn r) : May { r with num := 0 } := by
  obtain ⟨a, b, c, d, e, f⟩ := h
  refine ⟨by simp only; omega, by simp only; omega, b, c, by simp only; omega, by simp only; omega, .inr rfl, .inl ⟨a, f⟩⟩
theorem opn_may2 {r : Rec} (h : Opn r) : May ⟨2, r.path, r.num, str []⟩ := by
  obtain ⟨a, b, c, d, e, f⟩ := h
  exact ⟨by simp only; omega, by simp only; omega, b, c, d, e, .inl rfl, .inr ⟨by simp only; omega, by simp [str, ByteArray.size]⟩⟩
theorem srt_snoc {a : List Rec} {r : Rec} (h : Srt (a ++ [r])) : Srt a ∧ ∀ x ∈ a, ky x < ky r := by
  have := List.pairwise_append.1 h
  exact ⟨this.1, fun x hx => this.2.2 x hx r (by simp)⟩
theorem sho1_step {acc : List Rec} {r : Rec} (ho : Opn r) (hlt : ∀ x ∈ acc, ky x < ky r) : (sho1 r).foldl openStep acc = acc ++ [r] := by
  have hne : ∀ x ∈ acc, ky x ≠ r.path.data.toList := fun x hx e => List.lt_irrefl (ky r) (by have := hlt x hx; rwa [show ky x = ky r from e] at this)
  have h1 : openStep acc { r with num := 0 } = acc ++ [{ r with num := 0 }] := by
    rw [step_yes (opn_may ho), if_neg (by simp only [ho.1]; omega), if_pos ho.1]
    simp only
    rw [wout_self hne]
    have := insK_at { r with num := 0 } acc [] hlt (by simp)
    rwa [List.append_nil] at this
  unfold sho1
  split
  · rename_i hn
    simp only [List.foldl_cons, List.foldl_nil, h1]
    rw [step_yes (opn_may2 ho), if_pos rfl]
    simp only
    have : setN (acc ++ [{ r with num := 0 }]) r.path r.num = setN acc r.path r.num ++ [{ r with num := r.num }] := by rw [setN_snoc]; simp
    rw [this, setN_self _ hne]
  · rename_i hn
    have : r.num = 0 := by have := ho.2.2.2.1; omega
    simp only [List.foldl_cons, List.foldl_nil, h1]
    congr 2
    cases r; simp only at this; rw [this]
theorem open_short_aux : ∀ (n : Nat) (O : List Rec), O.length = n → Srt O → (∀ x ∈ O, Opn x) → openL (shoL O) = O := by
  intro n
  induction n with
  | zero => intro O hl _ _; rw [List.eq_nil_of_length_eq_zero hl]; rfl
  | succ n ih =>
    intro O hl hs ho
    rcases List.eq_nil_or_concat O with rfl | ⟨a, r, rfl⟩
    · simp at hl
    · rw [List.concat_eq_append] at *
      obtain ⟨h1, h2⟩ := srt_snoc hs
      rw [shoL_snoc, openL_app, ih a (by simpa using hl) h1 fun x hx => ho x (by simp [hx])]
      exact sho1_step (ho r (by simp)) h2
theorem open_short (l : List Rec) : openL (shoL (openL l)) = openL l := open_short_aux _ _ rfl (openL_srt l) (openL_opn l)

/-! 2. no record of them can be spared -/
def key (r : Rec) : Int × ByteArray := (r.kind, r.path)
/-- What must be said for what is open. -/
def Told (L : List Rec) (x : Rec) : Prop := (1, x.path) ∈ L.map key ∧ (0 < x.num → (2, x.path) ∈ L.map key)
theorem Told.more {L : List Rec} {x : Rec} (h : Told L x) (r : Rec) : Told (L ++ [r]) x := by
  refine ⟨?_, fun hn => ?_⟩
  · rw [List.map_append]; exact List.mem_append_left _ h.1
  · rw [List.map_append]; exact List.mem_append_left _ (h.2 hn)
theorem told_aux : ∀ (n : Nat) (L : List Rec), L.length = n → ∀ x ∈ openL L, Told L x := by
  intro n
  induction n with
  | zero => intro L hl x hx; rw [List.eq_nil_of_length_eq_zero hl] at hx; cases hx
  | succ n ih =>
    intro L hl x hx
    rcases List.eq_nil_or_concat L with rfl | ⟨a, r, rfl⟩
    · simp at hl
    · rw [List.concat_eq_append] at *
      have ih := ih a (by simpa using hl)
      rw [openL_snoc] at hx
      by_cases hm : May r
      · rw [step_yes hm] at hx
        split at hx
        · rename_i h2
          obtain ⟨y, hy, rfl⟩ := List.mem_map.1 hx
          have := ih y hy
          by_cases hp : y.path = r.path
          · rw [if_pos hp]
            refine ⟨(this.more r).1, fun _ => ?_⟩
            rw [List.map_append]
            refine List.mem_append_right _ (by simp [key, h2, hp])
          · rw [if_neg hp]; exact this.more r
        · split at hx
          · rename_i h2 h1
            rcases insK_mem.1 hx with rfl | hx
            · refine ⟨by rw [List.map_append]; exact List.mem_append_right _ (by simp [key, h1]), fun hn => ?_⟩
              obtain ⟨m1, m2, m3, m4, m5, m6, m7, m8⟩ := hm
              omega
            · exact (ih x (List.mem_filter.1 hx).1).more r
          · exact (ih x (List.mem_filter.1 hx).1).more r
      · rw [step_no hm] at hx
        exact (ih x hx).more r
theorem told (L : List Rec) : ∀ x ∈ openL L, Told L x := told_aux _ L rfl
theorem sho1_key {r x : Rec} (hk : r.kind = 1) (h : x ∈ sho1 r) : x.path = r.path ∧ (key x = (1, r.path) ∨ 0 < r.num ∧ key x = (2, r.path)) := by
  unfold sho1 at h
  split at h
  · rename_i hn
    simp only [List.mem_cons, List.not_mem_nil, or_false] at h
    rcases h with rfl | rfl
    · exact ⟨rfl, .inl (by simp [key, hk])⟩
    · exact ⟨rfl, .inr ⟨hn, rfl⟩⟩
  · simp only [List.mem_cons, List.not_mem_nil, or_false] at h
    subst h; exact ⟨rfl, .inl (by simp [key, hk])⟩
theorem sho_keys : ∀ (O : List Rec), Srt O → (∀ x ∈ O, Opn x) → ((shoL O).map key).Nodup := by
  intro O
  induction O with
  | nil => intro _ _; simp [shoL]
  | cons r O ih =>
    intro hs ho
    have h1 := List.pairwise_cons.1 hs
    have e : shoL (r :: O) = sho1 r ++ shoL O := rfl
    rw [e, List.map_append, List.nodup_append]
    have hk := (ho r List.mem_cons_self).1
    refine ⟨?_, ih h1.2 fun x hx => ho x (List.mem_cons_of_mem _ hx), fun a ha b hb => ?_⟩
    · unfold sho1; split
      · simp [key, hk]
      · simp
    · obtain ⟨x, hx, rfl⟩ := List.mem_map.1 ha
      obtain ⟨y, hy, rfl⟩ := List.mem_map.1 hb
      obtain ⟨z, hz, hyz⟩ := List.mem_flatMap.1 hy
      have a1 := (sho1_key hk hx).1
      have a2 := (sho1_key (ho z (List.mem_cons_of_mem _ hz)).1 hyz).1
      intro e
      have e2 : x.path = y.path := congrArg Prod.snd e
      have hlt := h1.1 z hz
      rw [show ky r = ky z by rw [ky, ky, ← a1, ← a2, e2]] at hlt
      exact List.lt_irrefl _ hlt
theorem short_needed {l : List Rec} {i : Nat} (hi : i < (shoL (openL l)).length) : openL ((shoL (openL l)).take i ++ (shoL (openL l)).drop (i + 1)) ≠ openL l := by
  intro h
  have hnd := sho_keys _ (openL_srt l) (openL_opn l)
  have hx : (shoL (openL l))[i] ∈ shoL (openL l) := List.getElem_mem _
  obtain ⟨r, hr, hxr⟩ := List.mem_flatMap.1 hx
  have hT : Told ((shoL (openL l)).take i ++ (shoL (openL l)).drop (i + 1)) r := told _ r (by rw [h]; exact hr)
  have hkey : key (shoL (openL l))[i] ∈ ((shoL (openL l)).take i ++ (shoL (openL l)).drop (i + 1)).map key := by
    rcases (sho1_key (openL_opn l r hr).1 hxr).2 with e | ⟨hn, e⟩
    · rw [e]; exact hT.1
    · rw [e]; exact hT.2 hn
  generalize shoL (openL l) = S at *
  have hS : S = S.take i ++ S[i] :: S.drop (i + 1) := by rw [← drop_cons hi, List.take_append_drop]
  rw [hS, List.map_append, List.map_cons, List.nodup_append] at hnd
  obtain ⟨_, h2, h3⟩ := hnd
  rw [List.map_append] at hkey
  rcases List.mem_append.1 hkey with hk | hk
  · exact h3 _ hk _ List.mem_cons_self rfl
  · exact (List.nodup_cons.1 h2).1 hk
theorem short_may {l : List Rec} {x : Rec} (h : x ∈ shoL (openL l)) : May x := by
  obtain ⟨r, hr, hx⟩ := List.mem_flatMap.1 h
  have ho := openL_opn l r hr
  unfold sho1 at hx
  split at hx
  · simp only [List.mem_cons, List.not_mem_nil, or_false] at hx
    rcases hx with rfl | rfl
    · exact opn_may ho
    · exact opn_may2 ho
  · simp only [List.mem_cons, List.not_mem_nil, or_false] at hx
    subst hx; exact opn_may ho

/-! 3. records of other paths, and those that may not be -/
theorem open_may (l : List Rec) : openL (mayL l) = openL l := by
  have : ∀ (l acc : List Rec), (mayL l).foldl openStep acc = l.foldl openStep acc := by
    intro l
    induction l with
    | nil => intro acc; rfl
    | cons r l ih =>
      intro acc
      by_cases h : May r
      · have : mayL (r :: l) = r :: mayL l := by simp [mayL, h]
        rw [this, List.foldl_cons, List.foldl_cons, ih]
      · have : mayL (r :: l) = mayL l := by simp [mayL, h]
        rw [this, List.foldl_cons, ih, step_no h]
  exact this l []
/-- Those of one path. -/
def ofP (l : List Rec) (p : ByteArray) : List Rec := l.filter fun x => decide (x.path = p)
theorem ofP_ins_eq {r : Rec} {L : List Rec} {p : ByteArray} (hr : r.path = p) (h : ∀ x ∈ L, x.path ≠ p) : ofP (insK r L) p = [r] := by
  induction L with
  | nil => simp [insK, ofP, hr]
  | cons x L ih =>
    have hx := h x List.mem_cons_self
    have ih := ih fun y hy => h y (List.mem_cons_of_mem _ hy)
    unfold insK
    split
    · simp only [ofP] at ih ⊢
      rw [List.filter_cons_of_neg (by simpa using hx), ih]
    · simp only [ofP]
      rw [List.filter_cons_of_pos (by simpa using hr), List.filter_cons_of_neg (by simpa using hx)]
      rw [List.filter_eq_nil_iff.2 fun y hy => by simpa using h y (List.mem_cons_of_mem _ hy)]
theorem ofP_ins_ne {r : Rec} {L : List Rec} {p : ByteArray} (hr : r.path ≠ p) : ofP (insK r L) p = ofP L p := by
  induction L with
  | nil => simp [insK, ofP, hr]
  | cons x L ih =>
    unfold insK
    split
    · simp only [ofP, List.filter_cons] at ih ⊢
      rw [ih]
    · simp only [ofP]
      rw [List.filter_cons_of_neg (by simpa using hr)]
theorem ofP_wout_ne {L : List Rec} {p q : ByteArray} (h : q ≠ p) : ofP (wout L q) p = ofP L p := by
  simp only [ofP, wout, List.filter_filter]
  refine List.filter_congr fun x _ => ?_
  by_cases hx : x.path = p
  · have : x.path ≠ q := fun e => h (e.symm.trans hx)
    simp [hx, Ne.symm h]
  · simp [hx]
theorem ofP_setN_ne {L : List Rec} {p q : ByteArray} (n : Int) (h : q ≠ p) : ofP (setN L q n) p = ofP L p := by
  induction L with
  | nil => rfl
  | cons x L ih =>
    simp only [ofP, setN, List.map_cons] at ih ⊢
    by_cases hx : x.path = q
    · rw [if_pos hx, List.filter_cons_of_neg (by simp only [hx]; simpa using h), List.filter_cons_of_neg (by rw [hx]; simpa using h), ih]
    · rw [if_neg hx, List.filter_cons, List.filter_cons, ih]
theorem ofP_setN_eq {L : List Rec} {p : ByteArray} (n : Int) : ofP (setN L p n) p = setN (ofP L p) p n := by
  induction L with
  | nil => rfl
  | cons x L ih =>
    simp only [ofP, setN, List.map_cons] at ih ⊢
    by_cases hx : x.path = p
    · rw [if_pos hx, List.filter_cons_of_pos (by simpa using hx), List.filter_cons_of_pos (by simpa using hx), List.map_cons, if_pos hx, ih]
    · rw [if_neg hx, List.filter_cons_of_neg (by simpa using hx), List.filter_cons_of_neg (by simpa using hx), ih]
theorem ofP_nil {L : List Rec} {p : ByteArray} (h : ∀ x ∈ L, x.path ≠ p) : ofP L p = [] := List.filter_eq_nil_iff.2 fun y hy => by simpa using h y hy
theorem wout_nil_of {L : List Rec} {p : ByteArray} : wout (ofP L p) p = [] := List.filter_eq_nil_iff.2 fun y hy => by
  have := (List.mem_filter.1 hy).2
  simpa using this
theorem wout_paths {L : List Rec} {p : ByteArray} : ∀ x ∈ wout L p, x.path ≠ p := fun x hx => by simpa using (List.mem_filter.1 hx).2
theorem step_eq {acc : List Rec} {r : Rec} {p : ByteArray} (h : r.path = p) : ofP (openStep acc r) p = openStep (ofP acc p) r := by
  subst h
  by_cases hm : May r
  · rw [step_yes hm, step_yes hm]
    split
    · exact ofP_setN_eq _
    · split
      · rw [ofP_ins_eq rfl wout_paths, wout_nil_of]; rfl
      · rw [ofP_nil wout_paths, wout_nil_of]
  · rw [step_no hm, step_no hm]
theorem step_ne {acc : List Rec} {r : Rec} {p : ByteArray} (h : r.path ≠ p) : ofP (openStep acc r) p = ofP acc p := by
  by_cases hm : May r
  · rw [step_yes hm]
    split
    · exact ofP_setN_ne _ h
    · split
      · rw [ofP_ins_ne h, ofP_wout_ne h]
      · rw [ofP_wout_ne h]
  · rw [step_no hm]
theorem open_apart (l : List Rec) (p : ByteArray) : ofP (openL l) p = openL (ofP l p) := by
  have : ∀ (l acc : List Rec), ofP (l.foldl openStep acc) p = (ofP l p).foldl openStep (ofP acc p) := by
    intro l
    induction l with
    | nil => intro acc; rfl
    | cons r l ih =>
      intro acc
      rw [List.foldl_cons, ih]
      by_cases h : r.path = p
      · have : ofP (r :: l) p = r :: ofP l p := by simp [ofP, h]
        rw [this, List.foldl_cons, step_eq h]
      · have : ofP (r :: l) p = ofP l p := by simp [ofP, h]
        rw [this, step_ne h]
  exact this l []
theorem ofP_yes {l : List Rec} {r : Rec} {p : ByteArray} (h : r.path = p) : ofP (l ++ [r]) p = ofP l p ++ [r] := by simp [ofP, h]
theorem ofP_no {l : List Rec} {r : Rec} {p : ByteArray} (h : r.path ≠ p) : ofP (l ++ [r]) p = ofP l p := by simp [ofP, h]
theorem ofP_len (l : List Rec) (p : ByteArray) : (ofP l p).length ≤ l.length := List.length_filter_le _ _
end Go.Proofs.YthkjnpbbgfagkaaDoor
