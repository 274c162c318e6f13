import Derived.Test.YthkjnpbbgfagkaaDoorJT
/-! Plain laws on a burst: no program here. -/
namespace Go.Proofs.YthkjnpbbgfagkaaDoor

theorem mul_xor (n x y : Nat) : 2 ^ n * (x ^^^ y) = 2 ^ n * x ^^^ 2 ^ n * y := by
  have := Nat.shiftLeft_xor_distrib (a := x) (b := y) (i := n)
  simpa [Nat.shiftLeft_eq, Nat.mul_comm] using this
theorem valB_set : ∀ (j : Nat) (l : List UInt8) (x y : UInt8) (e : Nat), l[j]? = some x → y.toNat = x.toNat ^^^ 2 ^ e → valB (l.set j y) = valB l ^^^ 2 ^ (8 * j + e) := by
  intro j
  induction j with
  | zero =>
    intro l x y e hx hy
    cases l with
    | nil => simp at hx
    | cons c l =>
      simp only [List.getElem?_cons_zero, Option.some.injEq] at hx
      subst hx
      simp only [List.set_cons_zero, valB, hy, Nat.mul_zero, Nat.zero_add]
      rw [Nat.xor_assoc, Nat.xor_assoc, Nat.xor_comm (2 ^ e)]
  | succ j ih =>
    intro l x y e hx hy
    cases l with
    | nil => simp at hx
    | cons c l =>
      simp only [List.getElem?_cons_succ] at hx
      simp only [List.set_cons_succ, valB, ih l x y e hx hy]
      have := mul_xor 8 (valB l) (2 ^ (8 * j + e))
      rw [show (2 : Nat) ^ 8 = 256 by rfl] at this
      rw [this, Nat.xor_assoc, show 256 * 2 ^ (8 * j + e) = 2 ^ (8 * (j + 1) + e) by rw [show 8 * (j + 1) + e = 8 + (8 * j + e) by omega, Nat.pow_add 2 8]]
theorem mod_bit (B i : Nat) (h : B / 2 ^ i % 2 = 1) : B % 2 ^ (i + 1) = B % 2 ^ i ^^^ 2 ^ i := by
  apply Nat.eq_of_testBit_eq
  intro j
  have hb : B.testBit i = true := by rw [Nat.testBit_eq_decide_div_mod_eq, h]; rfl
  rw [Nat.testBit_xor, Nat.testBit_mod_two_pow, Nat.testBit_mod_two_pow, Nat.testBit_two_pow]
  rcases Nat.lt_trichotomy j i with h1 | h1 | h1
  · simp [h1, show j < i + 1 by omega, show ¬ i = j by omega]
  · subst h1; simp [hb]
  · simp [show ¬ j < i + 1 by omega, show ¬ j < i by omega, show ¬ i = j by omega]
theorem mod_nobit (B i : Nat) (h : B / 2 ^ i % 2 = 0) : B % 2 ^ (i + 1) = B % 2 ^ i := by
  apply Nat.eq_of_testBit_eq
  intro j
  have hb : B.testBit i = false := by rw [Nat.testBit_eq_decide_div_mod_eq, h]; rfl
  rw [Nat.testBit_mod_two_pow, Nat.testBit_mod_two_pow]
  rcases Nat.lt_trichotomy j i with h1 | h1 | h1
  · simp [h1, show j < i + 1 by omega]
  · subst h1; simp [hb]
  · simp [show ¬ j < i + 1 by omega, show ¬ j < i by omega]
/-- One bit more of a burst. -/
theorem burst_step {cur old : List UInt8} {from' k i B : Nat} {x y : UInt8} (hx : cur[from' + (k + i) / 8]? = some x) (hy : y.toNat = x.toNat ^^^ 2 ^ ((k + i) % 8)) (hb : B / 2 ^ i % 2 = 1)
    (ht : cur.take from' = old.take from') (hv : valB (cur.drop from') = valB (old.drop from') ^^^ 2 ^ k * (B % 2 ^ i)) :
    (cur.set (from' + (k + i) / 8) y).take from' = old.take from' ∧ valB ((cur.set (from' + (k + i) / 8) y).drop from') = valB (old.drop from') ^^^ 2 ^ k * (B % 2 ^ (i + 1)) := by
  constructor
  · rw [List.take_set, ht, List.set_eq_of_length_le (by rw [List.length_take]; omega)]
  · rw [List.drop_set, if_neg (by omega), Nat.add_sub_cancel_left, valB_set _ _ x y _ (by rw [List.getElem?_drop]; exact hx) hy, hv, mod_bit B i hb, mul_xor, Nat.xor_assoc]
    congr 2
    rw [← Nat.pow_add]
    congr 1; omega
theorem burst_all {own : List Rec} {r : Rec} {cur : List UInt8} {k B : Nat} (hm : ∀ x ∈ own, May x) (hr : May r) (hl : cur.length = (flat own ++ putRec r).length)
    (ht : cur.take ((flat own).length + (putN (recB r).length).length) = (flat own ++ putRec r).take ((flat own).length + (putN (recB r).length).length))
    (hv : valB (cur.drop ((flat own).length + (putN (recB r).length).length)) = valB ((flat own ++ putRec r).drop ((flat own).length + (putN (recB r).length).length)) ^^^ 2 ^ k * B)
    (hk : k ≤ 8 * (recB r).length) (h0 : B ≠ 0) (hB : B < 4294967296) : allR cur.length cur = (own, (flat own).length) := by
  have hrl := recB_le hr
  have h4 : (sealB (crcOf (recB r))).length = 4 := rfl
  have hp : putRec r = putN (recB r).length ++ (recB r ++ sealB (crcOf (recB r))) := rfl
  have e1 : (flat own ++ putRec r).drop ((flat own).length + (putN (recB r).length).length) = recB r ++ sealB (crcOf (recB r)) := by
    rw [← List.drop_drop, List.drop_left, hp, List.drop_left]
  have e2 : (flat own ++ putRec r).take ((flat own).length + (putN (recB r).length).length) = flat own ++ putN (recB r).length := by
    rw [hp, ← List.append_assoc, List.take_append_of_le_length (by simp), List.take_of_length_le (by simp)]
  rw [e1] at hv
  rw [e2] at ht
  have hlen : (cur.drop ((flat own).length + (putN (recB r).length).length)).length = (recB r).length + 4 := by
    rw [List.length_drop, hl, hp]; simp only [List.length_append, h4]; omega
  have hbr := burst_breaks (n := (recB r).length) (by simp only [List.length_append, h4]) hlen (by rw [openS_seal]; simp) hk h0 hB hv
  have hc : cur = flat own ++ (putN (recB r).length ++ cur.drop ((flat own).length + (putN (recB r).length).length)) := by
    conv => lhs; rw [← List.take_append_drop ((flat own).length + (putN (recB r).length).length) cur]
    rw [ht, List.append_assoc]
  generalize cur.drop ((flat own).length + (putN (recB r).length).length) = X at *
  have hone : (oneR (putN (recB r).length ++ X)).2 = 0 := by
    have hS := getS_put [] X (recB r).length (by omega)
    simp only [List.nil_append, List.length_nil, Nat.zero_add] at hS
    unfold oneR
    rw [show (0 : Int) = ((0 : Nat) : Int) from rfl, hS, oneR1]
    rw [if_neg (by simp only [List.length_append, hlen]; omega)]
    rw [Int.toNat_natCast, List.drop_left, show (((recB r).length : Int) + 4).toNat = (recB r).length + 4 by omega, List.take_of_length_le (by omega), hbr, oneR2, if_pos (by omega)]; rfl
  have := allR_flat own _ cur.length hm hone (by rw [hl, List.length_append]; omega)
  rwa [← hc] at this
end Go.Proofs.YthkjnpbbgfagkaaDoor
