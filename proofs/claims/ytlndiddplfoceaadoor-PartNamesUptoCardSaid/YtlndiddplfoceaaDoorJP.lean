/-! Plain laws on numbers in bytes: no program here. -/
namespace Go.Proofs.YtlndiddplfoceaaDoor

def mxI (a b : Int) : Int := if a < b then b else a
def mnI (a b : Int) : Int := if b < a then b else a
def clampN (m : Int) : Nat := (mnI (mxI m 0) 4611686018427387903).toNat
theorem clamp_eq (m : Int) : mnI (mxI m 0) 4611686018427387903 = (clampN m : Int) := by unfold clampN mnI mxI; split <;> split <;> omega
theorem clamp_le (m : Int) : clampN m ≤ 4611686018427387903 := by unfold clampN mnI mxI; split <;> split <;> omega
/-- the bytes of a number, least bits first -/
def grp : Nat → Nat → List UInt8
  | 0, n => [UInt8.ofNat n]
  | f+1, n => if n ≤ 127 then [UInt8.ofNat n] else UInt8.ofNat (n % 128 + 128) :: grp f (n / 128)
def putN (m : Int) : List UInt8 := grp 9 (clampN m)
theorem grp_one {f n : Nat} (h : n ≤ 127) : grp f n = [UInt8.ofNat n] := by cases f <;> simp [grp, h]
theorem grp_more {f n : Nat} (h : 127 < n) : grp (f+1) n = UInt8.ofNat (n % 128 + 128) :: grp f (n / 128) := by rw [grp, if_neg (by omega)]
theorem grp_pos (f n : Nat) : 0 < (grp f n).length := by cases f <;> simp [grp]; split <;> simp
theorem grp_le (f n : Nat) : (grp f n).length ≤ f + 1 := by
  induction f generalizing n with
  | zero => simp [grp]
  | succ f ih => simp only [grp]; split <;> simp; exact ih _

def putT (s : ByteArray) : List UInt8 := putN s.size ++ s.data.toList
theorem putN_len_le (m : Int) : (putN m).length ≤ 10 := grp_le 9 _
theorem putN_len_pos (m : Int) : 0 < (putN m).length := grp_pos 9 _
theorem putT_len (s : ByteArray) : (putT s).length = (putN s.size).length + s.size := by simp only [putT, List.length_append]; rfl


def str (l : List UInt8) : ByteArray := ⟨l.toArray⟩
def addL (q m j : Nat) : Except Nat (Nat × Nat) → Except Nat (Nat × Nat)
  | .error e => .error e
  | .ok (n, k) => .ok (q + m * n, k + j)
/-- A number at the head of bytes: its value and how many bytes it has; or the error (5: its form, 4: the bytes end). -/
def getL : Nat → List UInt8 → Bool → Except Nat (Nat × Nat)
  | 0, _, _ => .error 5
  | _+1, [], _ => .error 4
  | f+1, c :: l, first =>
    if 127 < c.toNat then addL (c.toNat % 128) 128 1 (getL f l false)
    else if c.toNat = 0 ∧ first = false then .error 5 else .ok (c.toNat, 1)
/-- What Get answers: the number, the place behind it, the error. -/
def getR (p : Int) : Except Nat (Nat × Nat) → Int × Int × Int
  | .error e => (0, 0, e)
  | .ok (n, k) => if 4611686018427387903 < n then (0, 0, 7) else (n, p + k, 0)
def getS (b : List UInt8) (p : Int) : Int × Int × Int :=
  if p < 0 ∨ (b.length : Int) < p then (0, 0, 3) else getR p (getL 9 (b.drop p.toNat) true)
theorem addL_addL (q m j a : Nat) (x : Except Nat (Nat × Nat)) : addL q m j (addL a 128 1 x) = addL (q + m * a) (m * 128) (j + 1) x := by
  rcases x with e | ⟨n, k⟩
  · rfl
  · simp only [addL, Nat.mul_add, Nat.mul_assoc, Nat.add_assoc, Nat.add_comm j 1]
theorem addL_one (x : Except Nat (Nat × Nat)) : addL 0 1 0 x = x := by rcases x with e | ⟨n, k⟩ <;> simp [addL]
theorem getL_more {f : Nat} {c : UInt8} {l : List UInt8} {first : Bool} (h : 127 < c.toNat) : getL (f+1) (c :: l) first = addL (c.toNat % 128) 128 1 (getL f l false) := by rw [getL, if_pos h]
theorem getL_zero {f : Nat} {c : UInt8} {l : List UInt8} (h : c.toNat = 0) : getL (f+1) (c :: l) false = .error 5 := by rw [getL, if_neg (by omega), if_pos ⟨h, rfl⟩]
theorem getL_last {f : Nat} {c : UInt8} {l : List UInt8} {first : Bool} (h : ¬ 127 < c.toNat) (h0 : c.toNat ≠ 0 ∨ first = true) : getL (f+1) (c :: l) first = .ok (c.toNat, 1) := by
  rw [getL, if_neg h, if_neg]
  rintro ⟨h1, h2⟩
  rcases h0 with h0 | h0
  · exact h0 h1
  · rw [h0] at h2; cases h2
theorem drop_cons {α : Type} {bs : List α} {k : Nat} (h : k < bs.length) : bs.drop k = bs[k] :: bs.drop (k + 1) := (List.drop_eq_getElem_cons h)
theorem getL_ok : ∀ f l first n k, getL f l first = .ok (n, k) → 1 ≤ k ∧ k ≤ l.length ∧ k ≤ f := by
  intro f
  induction f with
  | zero => intro l first n k h; simp [getL] at h
  | succ f ih =>
    intro l first n k h
    cases l with
    | nil => simp [getL] at h
    | cons c l =>
      rw [getL] at h
      split at h
      · rcases hx : getL f l false with e | ⟨m, j⟩
        · rw [hx] at h; simp [addL] at h
        · rw [hx] at h
          have := ih l false m j hx
          simp only [addL, Except.ok.injEq, Prod.mk.injEq] at h
          simp only [List.length_cons]; omega
      · split at h
        · cases h
        · simp only [Except.ok.injEq, Prod.mk.injEq] at h
          simp only [List.length_cons]; omega
theorem getL_err : ∀ f l first e, getL f l first = .error e → e = 4 ∨ e = 5 := by
  intro f
  induction f with
  | zero => intro l first e h; simp [getL] at h; omega
  | succ f ih =>
    intro l first e h
    cases l with
    | nil => simp [getL] at h; omega
    | cons c l =>
      rw [getL] at h
      split at h
      · rcases hx : getL f l false with e' | ⟨m, j⟩
        · rw [hx] at h; simp only [addL, Except.error.injEq] at h; subst h; exact ih l false _ hx
        · rw [hx] at h; simp [addL] at h
      · split at h
        · simp only [Except.error.injEq] at h; omega
        · cases h
theorem getS_cases (b : List UInt8) (p : Int) : (∃ x to : Nat, getS b p = ((x : Int), (to : Int), (0 : Int)) ∧ x ≤ 4611686018427387903 ∧ 0 ≤ p ∧ p < to ∧ to ≤ b.length ∧ to ≤ p + 9) ∨ ∃ e : Int, getS b p = (0, 0, e) ∧ e ≠ 0 ∧ 0 < e ∧ e < 8 := by
  unfold getS
  split
  · exact .inr ⟨3, rfl, by omega, by omega, by omega⟩
  · rename_i hp
    rcases hx : getL 9 (b.drop p.toNat) true with e | ⟨n, k⟩
    · have := getL_err _ _ _ _ hx
      exact .inr ⟨e, rfl, by omega, by omega, by omega⟩
    · have := getL_ok _ _ _ _ _ hx
      simp only [List.length_drop] at this
      simp only [getR]
      split
      · exact .inr ⟨7, rfl, by omega, by omega, by omega⟩
      · refine .inl ⟨n, p.toNat + k, ?_, by omega, by omega, by omega, by omega, by omega⟩
        rw [show ((p.toNat + k : Nat) : Int) = p + k by omega]
/-- The number whose bytes these are, least first; the top bit of each doesn't count. -/
def valLE (l : List UInt8) : Nat := l.foldr (fun c a => c.toNat % 128 + 128 * a) 0
theorem valLE_cons (c : UInt8) (l : List UInt8) : valLE (c :: l) = c.toNat % 128 + 128 * valLE l := rfl
theorem valLE_append (xs ys : List UInt8) : valLE (xs ++ ys) = valLE xs + 128 ^ xs.length * valLE ys := by
  induction xs with
  | nil => simp [valLE]
  | cons c l ih =>
    simp only [List.cons_append, valLE_cons, ih, List.length_cons, Nat.pow_succ, Nat.mul_add, Nat.mul_assoc, Nat.add_assoc]
    rw [Nat.mul_left_comm]
theorem valLE_ge {xs ys : List UInt8} (h : 0 < xs.length) : 128 * valLE ys ≤ valLE (xs ++ ys) := by
  rw [valLE_append]
  have h1 : 128 ^ 1 ≤ 128 ^ xs.length := Nat.pow_le_pow_right (by omega) h
  have := Nat.mul_le_mul_right (valLE ys) h1
  omega
theorem getL_run : ∀ j f l first, j < f → (hj : j < l.length) → (∀ i, i < j → 127 < (l.getD i 0).toNat) → ¬ 127 < (l[j]).toNat → ((l[j]).toNat ≠ 0 ∨ (j = 0 ∧ first = true)) →
    getL f l first = .ok (valLE (l.take (j + 1)), j + 1) := by
  intro j
  induction j with
  | zero =>
    intro f l first hf hj hup h1 h0
    obtain ⟨f, rfl⟩ : ∃ f', f = f' + 1 := ⟨f - 1, by omega⟩
    cases l with
    | nil => simp at hj
    | cons c l =>
      simp only [List.getElem_cons_zero] at h1 h0
      rw [getL_last h1 (by rcases h0 with h | h; exact .inl h; exact .inr h.2)]
      simp [valLE]; omega
  | succ j ih =>
    intro f l first hf hj hup h1 h0
    obtain ⟨f, rfl⟩ : ∃ f', f = f' + 1 := ⟨f - 1, by omega⟩
    cases l with
    | nil => simp at hj
    | cons c l =>
      simp only [List.getElem_cons_succ] at h1 h0
      have hc := hup 0 (by omega)
      simp at hc
      rw [getL_more hc, ih f l false (by omega) (by simpa using hj) (fun i hi => by simpa using hup (i+1) (by omega)) h1 (by left; rcases h0 with h | h; exact h; omega)]
      simp only [addL, List.take_succ_cons, valLE_cons]
theorem getL_run0 : ∀ j f l first, j < f → (hj : j < l.length) → (∀ i, i < j → 127 < (l.getD i 0).toNat) → (l[j]).toNat = 0 → (0 < j ∨ first = false) → getL f l first = .error 5 := by
  intro j
  induction j with
  | zero =>
    intro f l first hf hj hup h1 h0
    obtain ⟨f, rfl⟩ : ∃ f', f = f' + 1 := ⟨f - 1, by omega⟩
    cases l with
    | nil => simp at hj
    | cons c l =>
      obtain rfl : first = false := by rcases h0 with h | h; omega; exact h
      exact getL_zero (by simpa using h1)
  | succ j ih =>
    intro f l first hf hj hup h1 h0
    obtain ⟨f, rfl⟩ : ∃ f', f = f' + 1 := ⟨f - 1, by omega⟩
    cases l with
    | nil => simp at hj
    | cons c l =>
      have hc := hup 0 (by omega)
      simp at hc
      rw [getL_more hc, ih f l false (by omega) (by simpa using hj) (fun i hi => by simpa using hup (i+1) (by omega)) (by simpa using h1) (.inr rfl)]
      rfl
theorem getL_end : ∀ f l first, l.length < f → (∀ i, i < l.length → 127 < (l.getD i 0).toNat) → getL f l first = .error 4 := by
  intro f
  induction f with
  | zero => intro l first h; omega
  | succ f ih =>
    intro l first h hup
    cases l with
    | nil => rfl
    | cons c l =>
      have hc := hup 0 (by simp)
      simp at hc
      rw [getL_more hc, ih l false (by simpa using h) (fun i hi => by simpa using hup (i+1) (by simpa using hi))]
      rfl
theorem getL_long : ∀ f l first, f ≤ l.length → (∀ i, i < f → 127 < (l.getD i 0).toNat) → getL f l first = .error 5 := by
  intro f
  induction f with
  | zero => intro l first h hup; rfl
  | succ f ih =>
    intro l first h hup
    cases l with
    | nil => simp at h
    | cons c l =>
      have hc := hup 0 (by omega)
      simp at hc
      rw [getL_more hc, ih l false (by simpa using h) (fun i hi => by simpa using hup (i+1) (by omega))]
      rfl
/-- What GetText answers: the text, the place behind it, the error. -/
def getTR (b : List UInt8) (most : Int) : Int × Int × Int → List UInt8 × Int × Int
  | (n, to, e) => if e ≠ 0 then ([], 0, e) else if mxI most 0 < n then ([], 0, 7) else if (b.length : Int) - to < n then ([], 0, 4) else ((b.drop to.toNat).take n.toNat, to + n, 0)
def getT (b : List UInt8) (p most : Int) : List UInt8 × Int × Int := getTR b most (getS b p)


end Go.Proofs.YtlndiddplfoceaaDoor
