import Derived.Test.YthkjnpbbgfagkaaDoorJL
/-! Plain laws on the bytes of many records: no program here. -/
namespace Go.Proofs.YthkjnpbbgfagkaaDoor

def flat (l : List Rec) : List UInt8 := l.flatMap putRec
theorem flat_nil : flat [] = [] := rfl
theorem flat_cons (r : Rec) (l : List Rec) : flat (r :: l) = putRec r ++ flat l := rfl
theorem flat_app (a b : List Rec) : flat (a ++ b) = flat a ++ flat b := by simp [flat]
theorem putRec_pos (r : Rec) : 0 < (putRec r).length := by
  have := putN_len_pos (recB r).length
  simp only [putRec, List.length_append]; omega
/-- No record's bytes are the beginning of another's. -/
theorem putRec_prefix {r r' : Rec} (h : May r) (h' : May r') {k : Nat} (hk : (putRec r).take k = putRec r') (hkl : k ≤ (putRec r).length) : k = (putRec r).length := by
  have a := oneR_put h []
  have b := oneR_put h' ((putRec r).drop k)
  rw [← hk, List.take_append_drop] at b
  rw [List.append_nil, b] at a
  simp only [Prod.mk.injEq] at a
  have := a.2
  rw [List.length_take] at this
  omega
theorem oneR_cut {r : Rec} (h : May r) (b : List UInt8) {c : Nat} (hc : c < (putRec r).length) : (oneR ((putRec r ++ b).take c)).2 = 0 := by
  rcases oneR_cases ((putRec r ++ b).take c) with h0 | ⟨r', k, ho, hk, hkl⟩
  · rw [h0]
  · obtain ⟨hm, ht, _⟩ := oneR_canon ho hk
    rw [List.length_take] at hkl
    rw [List.take_take, Nat.min_eq_left (by omega), List.take_append_of_le_length (by omega)] at ht
    have := putRec_prefix h hm ht (by omega)
    omega
theorem torn : ∀ (own : List Rec) (c f : Nat), (∀ r ∈ own, May r) → c ≤ (flat own).length → c ≤ f →
    ∃ k, k ≤ own.length ∧ allR f ((flat own).take c) = (own.take k, (flat (own.take k)).length) ∧ (flat (own.take k)).length ≤ c ∧ (k < own.length → c < (flat (own.take (k + 1))).length) := by
  intro own
  induction own with
  | nil =>
    intro c f _ hc hf
    refine ⟨0, Nat.le_refl _, ?_, by simp [flat], fun h => by simp at h⟩
    rw [flat_nil, List.take_nil, allR_none oneR_nil]; rfl
  | cons r own ih =>
    intro c f hm hc hf
    have hr := hm r List.mem_cons_self
    rw [flat_cons] at hc ⊢
    rcases Nat.lt_or_ge c (putRec r).length with h | h
    · refine ⟨0, Nat.zero_le _, ?_, by simp [flat], fun _ => ?_⟩
      · rw [allR_none (oneR_cut hr _ h)]; rfl
      · rw [List.take_succ_cons, List.take_zero, flat_cons, List.length_append]; omega
    · have hp := putRec_pos r
      obtain ⟨f, rfl⟩ : ∃ f', f = f' + 1 := ⟨f - 1, by omega⟩
      rw [List.length_append] at hc
      obtain ⟨k, h1, h2, h4, h3⟩ := ih (c - (putRec r).length) f (fun x hx => hm x (List.mem_cons_of_mem _ hx)) (by omega) (by omega)
      have ht : (putRec r ++ flat own).take c = putRec r ++ (flat own).take (c - (putRec r).length) := by
        rw [List.take_append, List.take_of_length_le h]
      refine ⟨k + 1, by simp; omega, ?_, by rw [List.take_succ_cons, flat_cons, List.length_append]; omega, fun hlt => ?_⟩
      · rw [ht, allR_some (oneR_put hr _) hp, List.drop_left, h2, List.take_succ_cons, flat_cons, List.length_append]
      · have := h3 (by simpa using hlt)
        rw [List.take_succ_cons, flat_cons, List.length_append]; omega
/-- Whole records, and behind them nothing that begins with one. -/
theorem allR_flat : ∀ (own : List Rec) (b : List UInt8) (f : Nat), (∀ r ∈ own, May r) → (oneR b).2 = 0 → (flat own).length ≤ f → allR f (flat own ++ b) = (own, (flat own).length) := by
  intro own
  induction own with
  | nil => intro b f _ hb _; rw [flat_nil, List.nil_append, allR_none hb]; rfl
  | cons r own ih =>
    intro b f hm hb hf
    rw [flat_cons, List.length_append] at hf
    have hp := putRec_pos r
    obtain ⟨f, rfl⟩ : ∃ f', f = f' + 1 := ⟨f - 1, by omega⟩
    rw [flat_cons, List.append_assoc, allR_some (oneR_put (hm r List.mem_cons_self) _) hp, List.drop_left, ih b f (fun x hx => hm x (List.mem_cons_of_mem _ hx)) hb (by omega), List.length_append]

/-! bursts -/
/-- Bytes as one number, the first the least. -/
def valB : List UInt8 → Nat
  | [] => 0
  | c :: l => c.toNat ^^^ 256 * valB l
theorem sh1_even (x : Nat) : sh1 (2 * x) = x := by unfold sh1; rw [if_neg (by omega)]; omega
theorem shN_pow : ∀ n x, shN n (2 ^ n * x) = x := by
  intro n
  induction n with
  | zero => intro x; simp [shN]
  | succ n ih => intro x; rw [shN, Nat.pow_succ, Nat.mul_comm (2 ^ n) 2, Nat.mul_assoc, sh1_even, ih]
theorem crcL_val : ∀ (l : List UInt8) (w : Nat), crcL w l = shN (8 * l.length) (w ^^^ valB l) := by
  intro l
  induction l with
  | nil => intro w; simp [crcL, valB, shN]
  | cons c l ih =>
    intro w
    have h1 : crcL w (c :: l) = crcL (crcB w c.toNat) l := rfl
    have h2 : valB l = shN 8 (256 * valB l) := (shN_pow 8 (valB l)).symm
    rw [h1, ih, crcB_eq]
    conv => lhs; rw [h2]
    rw [← shN_xor, List.length_cons, show 8 * (l.length + 1) = 8 + 8 * l.length by omega, shN_add, valB, Nat.xor_assoc]
theorem sh1_ne {w : Nat} (h : w ≠ 0) (hlt : w < 4294967296) : sh1 w ≠ 0 ∧ sh1 w < 4294967296 := by
  unfold sh1
  split
  · refine ⟨fun e => ?_, xor_lt32 (by omega) (by omega)⟩
    have : w / 2 = 3988292384 := by
      have := congrArg (fun x => x ^^^ 3988292384) e
      simp only [Nat.xor_assoc, Nat.xor_self, Nat.xor_zero, Nat.zero_xor] at this
      exact this
    omega
  · omega
theorem shN_ne : ∀ n w, w ≠ 0 → w < 4294967296 → shN n w ≠ 0 := by
  intro n
  induction n with
  | zero => intro w h _; exact h
  | succ n ih => intro w h hlt; exact ih _ (sh1_ne h hlt).1 (sh1_ne h hlt).2
theorem xor_inj {a b c : Nat} (h : a ^^^ b = a ^^^ c) : b = c := by
  have := congrArg (fun x => a ^^^ x) h
  simpa [← Nat.xor_assoc, Nat.xor_self, Nat.zero_xor] using this
theorem valB_app : ∀ (a b : List UInt8), valB (a ++ b) = valB a ^^^ 2 ^ (8 * a.length) * valB b := by
  intro a
  induction a with
  | nil => intro b; simp [valB]
  | cons c a ih =>
    intro b
    have e : ∀ x y : Nat, 256 * (x ^^^ y) = 256 * x ^^^ 256 * y := fun x y => by
      have := Nat.shiftLeft_xor_distrib (a := x) (b := y) (i := 8)
      simpa [Nat.shiftLeft_eq, Nat.mul_comm] using this
    rw [List.cons_append, valB, ih, valB, e, Nat.xor_assoc, List.length_cons, ← Nat.mul_assoc]
    congr 3
    rw [show 8 * (a.length + 1) = 8 * a.length + 8 by omega, Nat.pow_add]; omega
theorem xor_sum {c : Nat} (v : Nat) (h : c < 256) : c ^^^ 256 * v = c + 256 * v := by
  apply Nat.eq_of_testBit_eq
  intro i
  have e1 : (c + 256 * v) % 256 = c := by omega
  have e2 : (c + 256 * v) / 256 = v := by omega
  rw [Nat.testBit_xor, show (256 : Nat) = 2 ^ 8 by rfl, Nat.testBit_two_pow_mul]
  rcases Nat.lt_or_ge i 8 with h1 | h1
  · have := Nat.testBit_mod_two_pow (c + 256 * v) 8 i
    rw [show (2 : Nat) ^ 8 = 256 by rfl, e1] at this
    rw [this]; simp [h1, show ¬ 8 ≤ i by omega]
  · have hc : c.testBit i = false := Nat.testBit_lt_two_pow (Nat.lt_of_lt_of_le h (Nat.pow_le_pow_right (n := 2) (i := 8) (by omega) h1))
    have := Nat.testBit_div_two_pow (n := 8) (c + 256 * v) (i - 8)
    rw [show (2 : Nat) ^ 8 = 256 by rfl, e2, show i - 8 + 8 = i by omega] at this
    rw [hc, this]; simp [h1]
theorem ones_sub {w : Nat} (h : w < 4294967296) : w ^^^ (4294967295 - w) = 4294967295 := by
  apply Nat.eq_of_testBit_eq
  intro i
  have e1 := Nat.testBit_two_pow_sub_succ (n := 32) (x := w) h i
  rw [show (2 : Nat) ^ 32 - (w + 1) = 4294967295 - w by omega] at e1
  have e2 := Nat.testBit_two_pow_sub_one 32 i
  rw [show (2 : Nat) ^ 32 - 1 = 4294967295 by omega] at e2
  rw [Nat.testBit_xor, e1, e2]
  rcases Nat.lt_or_ge i 32 with h1 | h1
  · simp [h1]
  · have hc : w.testBit i = false := Nat.testBit_lt_two_pow (Nat.lt_of_lt_of_le h (Nat.pow_le_pow_right (n := 2) (i := 32) (by omega) h1))
    simp [hc, show ¬ i < 32 by omega]
theorem shN_inj {n a b : Nat} (ha : a < 4294967296) (hb : b < 4294967296) (h : shN n a = shN n b) : a = b := by
  by_cases hab : a ^^^ b = 0
  · have := xor_inj (a := a) (b := a) (c := b) (by rw [Nat.xor_self, hab])
    exact this
  · have := shN_ne n _ hab (xor_lt32 ha hb)
    rw [shN_xor, h, Nat.xor_self] at this
    exact absurd rfl this
/-- The sum of bytes and their seal is always one. -/
theorem sealed_sum (b : List UInt8) (s : List UInt8) (hs : s.length = 4) : (sealB (crcOf b) = s) ↔ crcL 4294967295 (b ++ s) = shN 32 4294967295 := by
  obtain ⟨x0, x1, x2, x3, rfl⟩ : ∃ x0 x1 x2 x3, s = [x0, x1, x2, x3] := by
    match s, hs with
    | [x0, x1, x2, x3], _ => exact ⟨x0, x1, x2, x3, rfl⟩
  have hW : crcL 4294967295 b < 4294967296 := crcL_lt (by omega)
  have hO : crcOf b = 4294967295 - crcL 4294967295 b := rfl
  have hsum : crcL 4294967295 (b ++ [x0, x1, x2, x3]) = crcL (crcL 4294967295 b) [x0, x1, x2, x3] := by simp [crcL]
  rw [hsum, crcL_val, hO]
  generalize crcL 4294967295 b = W at hW
  have b0 := x0.toNat_lt
  have b1 := x1.toNat_lt
  have b2 := x2.toNat_lt
  have b3 := x3.toNat_lt
  have hV : valB [x0, x1, x2, x3] = x0.toNat + 256 * (x1.toNat + 256 * (x2.toNat + 256 * x3.toNat)) := by
    simp only [valB, Nat.mul_zero, Nat.xor_zero]
    rw [xor_sum _ (by omega), xor_sum _ (by omega), xor_sum _ (by omega)]
  have hlt : valB [x0, x1, x2, x3] < 4294967296 := by rw [hV]; omega
  have ho := ones_sub hW
  constructor
  · intro h
    have hx : valB [x0, x1, x2, x3] = 4294967295 - W := by
      rw [hV]
      simp only [sealB, List.cons.injEq, and_true] at h
      obtain ⟨h0, h1, h2, h3⟩ := h
      have := congrArg UInt8.toNat h0
      have := congrArg UInt8.toNat h1
      have := congrArg UInt8.toNat h2
      have := congrArg UInt8.toNat h3
      simp only [UInt8.toNat_ofNat'] at *
      omega
    rw [hx, ho]; rfl
  · intro h
    have h1 : W ^^^ valB [x0, x1, x2, x3] = 4294967295 := shN_inj (n := 32) (xor_lt32 hW hlt) (by omega) h
    have hx : valB [x0, x1, x2, x3] = 4294967295 - W := xor_inj (h1.trans ho.symm)
    rw [hV] at hx
    simp only [sealB, List.cons.injEq, and_true]
    refine ⟨?_, ?_, ?_, ?_⟩ <;> apply UInt8.toNat.inj <;> simp only [UInt8.toNat_ofNat'] <;> omega
/-- A burst of 32 bits or fewer breaks a seal. -/
theorem burst_breaks {b b' : List UInt8} {n k bits : Nat} (hl : b.length = n + 4) (hl' : b'.length = n + 4) (ho : openS b = (b.take n, 0)) (hk : k ≤ 8 * n) (h0 : bits ≠ 0) (hlt : bits < 4294967296) (hv : valB b' = valB b ^^^ 2 ^ k * bits) : openS b' = ([], 6) := by
  have e1 : ∀ x : List UInt8, x.length = n + 4 → (sealB (crcOf (x.take n)) = x.drop n ↔ crcL 4294967295 x = shN 32 4294967295) := fun x hx => by
    have := sealed_sum (x.take n) (x.drop n) (by rw [List.length_drop]; omega)
    rw [List.take_append_drop] at this
    exact this
  have hb : sealB (crcOf (b.take n)) = b.drop n := by
    unfold openS at ho
    rw [if_neg (by omega), hl, Nat.add_sub_cancel] at ho
    split at ho
    · assumption
    · simp at ho
  have hc := (e1 b hl).1 hb
  unfold openS
  rw [if_neg (by omega), hl', Nat.add_sub_cancel, if_neg]
  intro hb'
  have hc' := (e1 b' hl').1 hb'
  rw [crcL_val, hl', hv, ← Nat.xor_assoc, shN_xor, ← hl, ← crcL_val, hc] at hc'
  have hz : shN (8 * b.length) (2 ^ k * bits) = 0 := xor_inj (a := shN 32 4294967295) (by rw [hc', Nat.xor_zero])
  rw [hl, show 8 * (n + 4) = k + (8 * (n + 4) - k) by omega, shN_add, shN_pow] at hz
  exact shN_ne _ _ h0 hlt hz
end Go.Proofs.YthkjnpbbgfagkaaDoor
