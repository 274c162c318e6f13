import Derived.Test.YthkjnpbbgfagkaaDoorJJ
/-! Plain laws: what is read is what was put. -/
namespace Go.Proofs.YthkjnpbbgfagkaaDoor

theorem grp_same : ∀ f g n, n < 128 ^ (f+1) → n < 128 ^ (g+1) → grp f n = grp g n := by
  intro f
  induction f with
  | zero =>
    intro g n hf hg
    rw [show (128 : Nat) ^ (0 + 1) = 128 from rfl] at hf
    rw [grp_one (by omega), grp_one (by omega)]
  | succ f ih =>
    intro g n hf hg
    rcases Nat.lt_or_ge 127 n with h | h
    · obtain ⟨g, rfl⟩ : ∃ g', g = g' + 1 := ⟨g - 1, by
        rcases g with _ | g
        · rw [show (128 : Nat) ^ (0 + 1) = 128 from rfl] at hg; omega
        · omega⟩
      rw [grp_more h, grp_more h, ih g (n / 128) (by rw [Nat.div_lt_iff_lt_mul (by omega)]; rw [Nat.pow_succ] at hf; exact hf) (by rw [Nat.div_lt_iff_lt_mul (by omega)]; rw [Nat.pow_succ] at hg; exact hg)]
    · rw [grp_one h, grp_one h]
theorem clampN_nat (n : Nat) (h : n ≤ 4611686018427387903) : clampN n = n := by
  unfold clampN mnI mxI; (repeat' split) <;> omega
theorem putN_nat (n : Nat) (h : n ≤ 4611686018427387903) : putN n = grp 9 n := by unfold putN; rw [clampN_nat n h]

theorem getL_canon : ∀ f l first n k, getL f l first = .ok (n, k) → 1 ≤ k ∧ n < 128 ^ k ∧ l.take k = grp (k - 1) n ∧ (first = false → n ≠ 0) := by
  intro f
  induction f with
  | zero => intro l first n k h; simp [getL] at h
  | succ f ih =>
    intro l first n k h
    cases l with
    | nil => simp [getL] at h
    | cons c l =>
      have hc := c.toNat_lt
      rw [getL] at h
      split at h
      · rename_i h127
        rcases hx : getL f l false with e | ⟨m, j⟩
        · rw [hx] at h; simp [addL] at h
        · rw [hx] at h
          simp only [addL, Except.ok.injEq, Prod.mk.injEq] at h
          obtain ⟨h1, h2, h3, h4⟩ := ih l false m j hx
          have hm := h4 rfl
          obtain ⟨rfl, rfl⟩ := h
          refine ⟨by omega, ?_, ?_, fun _ => by omega⟩
          · rw [Nat.pow_succ]; omega
          · obtain ⟨j, rfl⟩ : ∃ j', j = j' + 1 := ⟨j - 1, by omega⟩
            simp only [Nat.add_sub_cancel] at h3 ⊢
            rw [List.take_succ_cons, h3, grp_more (by omega)]
            congr 1
            · rw [← UInt8.toNat_inj]; simp; omega
            · congr 1; omega
      · rename_i h127
        split at h
        · cases h
        · rename_i h0
          simp only [Except.ok.injEq, Prod.mk.injEq] at h
          obtain ⟨rfl, rfl⟩ := h
          refine ⟨by omega, by omega, ?_, ?_⟩
          · simp [grp]
          · intro hf hz; exact h0 ⟨hz, hf⟩
theorem getS_canon {b : List UInt8} {p x to : Nat} (h : getS b p = ((x : Int), (to : Int), 0)) : (b.drop p).take (to - p) = putN x ∧ p < to ∧ to ≤ b.length ∧ x ≤ 4611686018427387903 := by
  rcases getS_cases b p with ⟨x', to', hg, hx, hp, hpt, htl, hto⟩ | ⟨e0, hg, he, _⟩
  · rw [h] at hg
    simp only [Prod.mk.injEq, Int.natCast_inj, and_true] at hg
    obtain ⟨rfl, rfl⟩ := hg
    refine ⟨?_, by omega, htl, hx⟩
    unfold getS at h
    rw [if_neg (by omega), Int.toNat_natCast] at h
    rcases hl : getL 9 (b.drop p) true with e | ⟨n, k⟩
    · rw [hl] at h; simp only [getR, Prod.mk.injEq] at h; have := getL_err _ _ _ _ hl; omega
    · rw [hl] at h
      simp only [getR] at h
      split at h
      · simp at h
      · simp only [Prod.mk.injEq, Int.natCast_inj, and_true] at h
        obtain ⟨rfl, h2⟩ := h
        obtain ⟨h1, h3, h4, _⟩ := getL_canon _ _ _ _ _ hl
        have hk := getL_ok _ _ _ _ _ hl
        rw [show to - p = k by omega, h4, putN_nat n hx]
        exact grp_same _ _ _ (by rw [show k - 1 + 1 = k by omega]; exact h3) (by omega)
  · rw [h] at hg
    simp only [Prod.mk.injEq] at hg
    exact absurd hg.2.2.symm he

/-- A number that was put is read. -/
theorem getL_grp : ∀ f g n first l, n < 128 ^ (f+1) → f < g → (first = true ∨ n ≠ 0) → getL g (grp f n ++ l) first = .ok (n, (grp f n).length) := by
  intro f
  induction f with
  | zero =>
    intro g n first l hn hg h0
    obtain ⟨g, rfl⟩ : ∃ g', g = g' + 1 := ⟨g - 1, by omega⟩
    rw [show (128 : Nat) ^ (0 + 1) = 128 from rfl] at hn
    rw [grp_one (by omega)]
    simp only [List.cons_append, List.nil_append, List.length_singleton]
    have e : (UInt8.ofNat n).toNat = n := by simp; omega
    rw [getL_last (by rw [e]; omega) (by rw [e]; rcases h0 with h | h; exact .inr h; exact .inl h), e]
  | succ f ih =>
    intro g n first l hn hg h0
    obtain ⟨g, rfl⟩ : ∃ g', g = g' + 1 := ⟨g - 1, by omega⟩
    rcases Nat.lt_or_ge 127 n with h | h
    · rw [grp_more h, List.cons_append]
      have e : (UInt8.ofNat (n % 128 + 128)).toNat = n % 128 + 128 := by simp; omega
      rw [getL_more (by rw [e]; omega), e, ih g (n / 128) false l (by rw [Nat.div_lt_iff_lt_mul (by omega)]; rw [Nat.pow_succ] at hn; exact hn) (by omega) (.inr (by omega))]
      simp only [addL, List.length_cons]
      congr 2
      omega
    · rw [grp_one h]
      simp only [List.cons_append, List.nil_append, List.length_singleton]
      have e : (UInt8.ofNat n).toNat = n := by simp; omega
      rw [getL_last (by rw [e]; omega) (by rw [e]; rcases h0 with h | h; exact .inr h; exact .inl h), e]
theorem getS_put (pre rest : List UInt8) (n : Nat) (h : n ≤ 4611686018427387903) : getS (pre ++ (putN n ++ rest)) pre.length = ((n : Int), ((pre.length + (putN n).length : Nat) : Int), 0) := by
  unfold getS
  rw [if_neg (by simp only [List.length_append]; omega), Int.toNat_natCast, List.drop_left, putN_nat n h, grp_same 9 8 n (by omega) (by omega), getL_grp 8 9 n true rest (by omega) (by omega) (.inl rfl)]
  simp only [getR]
  rw [if_neg (by omega)]
  simp
theorem openS_ok {b x : List UInt8} (h : openS b = (x, 0)) : b = x ++ sealB (crcOf x) ∧ b.length = x.length + 4 := by
  unfold openS at h
  split at h
  · simp at h
  · rename_i h4
    split at h
    · rename_i hs
      simp only [Prod.mk.injEq, and_true] at h
      subst h
      refine ⟨?_, by rw [List.length_take]; omega⟩
      rw [hs, List.take_append_drop]
    · simp at h
theorem openS_seal (x : List UInt8) : openS (x ++ sealB (crcOf x)) = (x, 0) := by
  have hl : (x ++ sealB (crcOf x)).length - 4 = x.length := by simp [sealB]
  unfold openS
  rw [if_neg (by simp [sealB]), hl, List.take_left, List.drop_left, if_pos rfl]
theorem str_size' (l : List UInt8) : (str l).size = l.length := by simp [str, ByteArray.size]
theorem str_data' (l : List UInt8) : (str l).data.toList = l := by simp [str]
theorem str_of' (s : ByteArray) : str s.data.toList = s := by simp [str]
/-- What is read as a text was put. -/
theorem getT_canon {b p : List UInt8} {a to : Nat} {most : Int} (h : getT b a most = (p, (to : Int), 0)) : (b.drop a).take (to - a) = putT (str p) ∧ a < to ∧ to ≤ b.length ∧ (p.length : Int) ≤ mxI most 0 := by
  unfold getT at h
  rcases getS_cases b a with ⟨x, t1, hg, hx, hp, hpt, htl, hto⟩ | ⟨e0, hg, he, _⟩
  · have hc := getS_canon hg
    rw [hg, getTR, if_neg (by omega)] at h
    split at h
    · simp at h
    · split at h
      · simp at h
      · rename_i h1 h2
        simp only [Prod.mk.injEq, and_true, Int.toNat_natCast] at h
        obtain ⟨rfl, h3⟩ := h
        have h3' : to = t1 + x := by omega
        have hxl : ((b.drop t1).take x).length = x := by rw [List.length_take, List.length_drop]; omega
        refine ⟨?_, by omega, by omega, by rw [hxl]; omega⟩
        rw [putT, str_size', str_data', hxl, ← hc.1, show to - a = (t1 - a) + x by omega, List.take_add, List.drop_drop, show a + (t1 - a) = t1 by omega]
  · rw [hg, getTR, if_pos he] at h
    simp only [Prod.mk.injEq] at h
    exact absurd h.2.2 he
theorem getT_put (pre rest : List UInt8) (s : ByteArray) (most : Int) (h : (s.size : Int) ≤ most) (hs : s.size ≤ 4611686018427387903) :
    getT (pre ++ (putT s ++ rest)) pre.length most = (s.data.toList, ((pre.length + (putT s).length : Nat) : Int), 0) := by
  unfold getT putT
  rw [List.append_assoc, getS_put _ _ _ hs, getTR]
  have hm : mxI most 0 = most := by unfold mxI; split <;> omega
  have hds : s.data.toList.length = s.size := rfl
  rw [if_neg (by omega), hm, if_neg (by omega), if_neg (by simp only [List.length_append, hds]; omega)]
  simp only [Int.toNat_natCast, Prod.mk.injEq, and_true]
  constructor
  · rw [← List.append_assoc, List.drop_append_of_le_length (by simp), List.drop_of_length_le (by simp), List.nil_append, ← hds, List.take_left]
  · simp only [List.length_append, hds]; omega
end Go.Proofs.YthkjnpbbgfagkaaDoor
