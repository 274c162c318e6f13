/-! Plain laws on the sum of 32 bits: no program here. -/
namespace Go.Proofs.YthkjnpbbgfagkaaDoor

def tabL : List Nat := [0, 498536548, 997073096, 651767980, 1994146192, 1802195444, 1303535960, 1342533948, 3988292384, 4027552580, 3604390888, 3412177804, 2607071920, 2262029012, 2685067896, 3183342108]
def tabAt (i : Nat) : Nat := tabL.getD i 0
def nib (w : Nat) : Nat := (w / 16) ^^^ tabAt (w % 16)
def crcB (w c : Nat) : Nat := nib (nib (w ^^^ c))
def crcL (w : Nat) (l : List UInt8) : Nat := l.foldl (fun w c => crcB w c.toNat) w
def crcOf (l : List UInt8) : Nat := 4294967295 - crcL 4294967295 l
def sh1 (w : Nat) : Nat := if w % 2 = 1 then (w / 2) ^^^ 3988292384 else w / 2
def shN : Nat → Nat → Nat
  | 0, w => w
  | n+1, w => shN n (sh1 w)

theorem xor_lt32 {a b : Nat} (ha : a < 4294967296) (hb : b < 4294967296) : a ^^^ b < 4294967296 := Nat.xor_lt_two_pow (n := 32) ha hb
theorem tabAt_lt (i : Nat) : tabAt i < 4294967296 := by
  unfold tabAt
  rcases Nat.lt_or_ge i 16 with h | h
  · have : ∀ j : Fin 16, tabL.getD j.val 0 < 4294967296 := by decide
    exact this ⟨i, h⟩
  · rw [List.getD_eq_getElem?_getD, List.getElem?_eq_none (by simpa [tabL] using h)]; decide
theorem nib_lt {w : Nat} (h : w < 4294967296) : nib w < 4294967296 := xor_lt32 (by omega) (tabAt_lt _)
theorem crcB_lt {w c : Nat} (h : w < 4294967296) (hc : c < 256) : crcB w c < 4294967296 := nib_lt (nib_lt (xor_lt32 h (by omega)))
theorem crcL_lt {l : List UInt8} : ∀ {w : Nat}, w < 4294967296 → crcL w l < 4294967296 := by
  induction l with
  | nil => intro w h; exact h
  | cons c l ih => intro w h; exact ih (crcB_lt h c.toNat_lt)
theorem crcL_snoc (w : Nat) (l : List UInt8) (c : UInt8) : crcL w (l ++ [c]) = crcB (crcL w l) c.toNat := by simp [crcL]
theorem crcOf_lt (l : List UInt8) : crcOf l < 4294967296 := by unfold crcOf; omega

theorem xor_mod2 (a b : Nat) : (a ^^^ b) % 2 = (a % 2 + b % 2) % 2 := by
  have := Nat.testBit_xor a b 0
  simp only [Nat.testBit_zero] at this
  rcases Nat.mod_two_eq_zero_or_one a with ha | ha <;> rcases Nat.mod_two_eq_zero_or_one b with hb | hb <;> rcases Nat.mod_two_eq_zero_or_one (a ^^^ b) with hc | hc <;> simp [ha, hb, hc] at this ⊢
theorem xor_div2 (a b : Nat) : (a ^^^ b) / 2 = a / 2 ^^^ b / 2 := by
  apply Nat.eq_of_testBit_eq
  intro i
  simp only [Nat.testBit_xor, Nat.testBit_div_two]
theorem sh1_xor (a b : Nat) : sh1 (a ^^^ b) = sh1 a ^^^ sh1 b := by
  unfold sh1
  rw [xor_mod2, xor_div2]
  rcases Nat.mod_two_eq_zero_or_one a with ha | ha <;> rcases Nat.mod_two_eq_zero_or_one b with hb | hb <;> simp only [ha, hb] <;> simp
  · rw [Nat.xor_assoc]
  · rw [Nat.xor_assoc, Nat.xor_assoc, Nat.xor_comm 3988292384]
  · rw [Nat.xor_assoc, Nat.xor_comm (b / 2), ← Nat.xor_assoc 3988292384]; simp
theorem shN_xor : ∀ n a b, shN n (a ^^^ b) = shN n a ^^^ shN n b := by
  intro n
  induction n with
  | zero => intro a b; rfl
  | succ n ih => intro a b; simp only [shN, sh1_xor, ih]
theorem shN_add : ∀ n m a, shN (n + m) a = shN m (shN n a) := by
  intro n
  induction n with
  | zero => intro m a; simp [shN]
  | succ n ih => intro m a; rw [show n + 1 + m = (n + m) + 1 by omega]; simp only [shN, ih]
theorem nib_eq (w : Nat) : nib w = shN 4 w := by
  have h1 : w = (16 * (w / 16)) ^^^ (w % 16) := by
    apply Nat.eq_of_testBit_eq
    intro i
    rw [Nat.testBit_xor, show (16 : Nat) = 2 ^ 4 by rfl, Nat.testBit_two_pow_mul, Nat.testBit_mod_two_pow, Nat.testBit_div_two_pow]
    rcases Nat.lt_or_ge i 4 with h | h
    · simp [h, show ¬ 4 ≤ i by omega]
    · simp [h, show ¬ i < 4 by omega]
  have h2 : shN 4 (16 * (w / 16)) = w / 16 := by
    have e : ∀ x, sh1 (2 * x) = x := by intro x; unfold sh1; rw [if_neg (by omega)]; omega
    rw [show 16 * (w / 16) = 2 * (2 * (2 * (2 * (w / 16)))) by omega]
    simp only [shN, e]
  have h3 : ∀ j : Fin 16, shN 4 j.val = tabAt j.val := by decide
  unfold nib
  conv => rhs; rw [h1]
  rw [shN_xor, h2, h3 ⟨w % 16, by omega⟩]
theorem crcB_eq (w c : Nat) : crcB w c = shN 8 (w ^^^ c) := by
  unfold crcB; rw [nib_eq, nib_eq, ← shN_add]
/-- The four bytes of a sum. -/
def sealB (x : Nat) : List UInt8 := [UInt8.ofNat x, UInt8.ofNat (x / 256), UInt8.ofNat (x / 65536), UInt8.ofNat (x / 16777216)]
theorem sealB_len (x : Nat) : (sealB x).length = 4 := rfl
/-- Open of what is sealed: what stands ahead of the seal; or the error. -/
def openS (b : List UInt8) : List UInt8 × Int :=
  if b.length < 4 then ([], 4) else if sealB (crcOf (b.take (b.length - 4))) = b.drop (b.length - 4) then (b.take (b.length - 4), 0) else ([], 6)


end Go.Proofs.YthkjnpbbgfagkaaDoor
