import Derived.Test.YtlndiddplfoceaaPSp
/-! delta: told, one, length. -/
set_option linter.unusedVariables false
set_option linter.unusedSimpArgs false
namespace Go.Proofs.Ytlndiddplfoceaa
open Go.RowKit
attribute [local go_sem] max2_I max_two_I

/-- An op that may be over a basis of so many bytes. -/
def OneOk (base : Int) (o : OpV) : Prop := (0 < o.n ∧ o.off = 0 ∧ o.len = 0) ∨ (o.n = 0 ∧ 0 ≤ o.off ∧ 1 ≤ o.len ∧ o.off ≤ base ∧ o.len ≤ base - o.off)
instance (base : Int) (o : OpV) : Decidable (OneOk base o) := by unfold OneOk; infer_instance
/-- How many bytes an op makes. -/
def lenO (o : OpV) : Int := if 0 < o.n then o.n else mxI o.len 0

set_option maxRecDepth 100000 in
theorem told_any (x : OpV) (w : World) : Calls Try.prog 14 #[.agg #[.int .i64 x.off, .int .i64 x.len, .slice x.A x.n x.c]] w fun e w' => e = .returned (.bool (decide (0 < x.n))) ∧ Below w.heap.size w w' := by
  go_enter Try.func14, Try.ntmps14
  go_wp2_with fail
  have hbk : Blk (w.alloc (.cells #[.int .i64 x.off, .int .i64 x.len, .slice x.A x.n x.c] 35)) w.heap.size 35 [.int .i64 x.off, .int .i64 x.len, .slice x.A x.n x.c] := Blk.new w _ _
  have c2 := hbk.cell 2
  go_wp2_with fail
  go_ret
  refine ⟨?_, (Below.refl _ _).alloc (Nat.le_refl _) _⟩
  first | rfl | (congr 2; simp)
set_option maxRecDepth 100000 in
theorem length_any (x : OpV) (w : World) (hl : -9223372036854775808 ≤ x.len ∧ x.len ≤ 9223372036854775807) : Calls Try.prog 18 #[.agg #[.int .i64 x.off, .int .i64 x.len, .slice x.A x.n x.c]] w fun e w' => e = .returned (.int .i64 (lenO x)) ∧ Below w.heap.size w w' := by
  go_enter Try.func18, Try.ntmps18
  go_wp2_with fail
  have hbk : Blk (w.alloc (.cells #[.int .i64 x.off, .int .i64 x.len, .slice x.A x.n x.c] 35)) w.heap.size 35 [.int .i64 x.off, .int .i64 x.len, .slice x.A x.n x.c] := Blk.new w _ _
  have hb : Below w.heap.size w (w.alloc (.cells #[.int .i64 x.off, .int .i64 x.len, .slice x.A x.n x.c] 35)) := (Below.refl _ _).alloc (Nat.le_refl _) _
  refine (told_any x _).mono ?_
  rintro e w1 ⟨rfl, hb1⟩
  have hbk1 := hbk.below hb1
  have c1 := hbk1.cell 1
  have c2 := hbk1.cell 2
  have HB := Lib.hid (hb.trans (hb1.mono hb.size))
  clear hbk hb hb1 hbk1
  by_cases h : 0 < x.n
  · have hd : decide (0 < x.n) = true := by simpa using h
    go_wp2_with fail
    go_ret
    exact ⟨by unfold lenO; rw [if_pos h]; rfl, HB.out⟩
  · have hd : decide (0 < x.n) = false := by simpa using h
    go_wp2_with fail
    go_ret
    exact ⟨by unfold lenO; rw [if_neg h]; rfl, HB.out⟩
set_option maxRecDepth 100000 in
set_option maxHeartbeats 1000000 in
theorem one_any (x : OpV) (base : Int) (w : World) (hl : -9223372036854775808 ≤ x.len ∧ x.len ≤ 9223372036854775807) (ho : -9223372036854775808 ≤ x.off ∧ x.off ≤ 9223372036854775807) (hb0 : 0 ≤ base) (hb1 : base ≤ 131072) :
    Calls Try.prog 17 #[.agg #[.int .i64 x.off, .int .i64 x.len, .slice x.A x.n x.c], .int .i64 base] w fun e w' => (∃ c : Int, e = .returned (.int .i64 c) ∧ ((c == 0) = true ↔ OneOk base x)) ∧ Below w.heap.size w w' := by
  go_enter Try.func17, Try.ntmps17
  go_wp2_with fail
  have hbk : Blk (w.alloc (.cells #[.int .i64 x.off, .int .i64 x.len, .slice x.A x.n x.c] 35)) w.heap.size 35 [.int .i64 x.off, .int .i64 x.len, .slice x.A x.n x.c] := Blk.new w _ _
  have hb : Below w.heap.size w (w.alloc (.cells #[.int .i64 x.off, .int .i64 x.len, .slice x.A x.n x.c] 35)) := (Below.refl _ _).alloc (Nat.le_refl _) _
  refine (told_any x _).mono ?_
  rintro e w1 ⟨rfl, hb1⟩
  have hbk1 := hbk.below hb1
  have c0 := hbk1.cell 0
  have c1 := hbk1.cell 1
  have c2 := hbk1.cell 2
  have HB := Lib.hid (hb.trans (hb1.mono hb.size))
  clear hbk hb hb1 hbk1
  have HOK : Hid (OneOk base x ↔ (0 < x.n ∧ x.off = 0 ∧ x.len = 0) ∨ (x.n = 0 ∧ 0 ≤ x.off ∧ 1 ≤ x.len ∧ x.off ≤ base ∧ x.len ≤ base - x.off)) := Lib.hid Iff.rfl
  by_cases h : 0 < x.n
  · have hd : decide (0 < x.n) = true := by simpa using h
    by_cases h0 : x.off = 0
    · have q0 : (x.off != 0) = false := by simpa using h0
      by_cases h1 : x.len = 0
      · have q1 : (x.len != 0) = false := by simpa using h1
        have K := Lib.hid (HOK.out.2 (.inl ⟨h, h0, h1⟩))
        clear h h0 h1
        go_wp2_with fail
        go_ret
        exact ⟨⟨0, rfl, ⟨fun _ => K.out, fun _ => rfl⟩⟩, HB.out⟩
      · have q1 : (x.len != 0) = true := by simpa using h1
        have K := Lib.hid (show ¬ OneOk base x from fun hk => by have := HOK.out.1 hk; omega)
        clear h h0 h1
        go_wp2_with fail
        go_ret
        exact ⟨⟨2, rfl, ⟨(fun e => nomatch e), fun k => absurd k K.out⟩⟩, HB.out⟩
    · have q0 : (x.off != 0) = true := by simpa using h0
      have K := Lib.hid (show ¬ OneOk base x from fun hk => by have := HOK.out.1 hk; omega)
      clear h h0
      go_wp2_with fail
      go_ret
      exact ⟨⟨2, rfl, ⟨(fun e => nomatch e), fun k => absurd k K.out⟩⟩, HB.out⟩
  · have hd : decide (0 < x.n) = false := by simpa using h
    by_cases h0 : x.off < 0
    · have K := Lib.hid (show ¬ OneOk base x from fun hk => by have := HOK.out.1 hk; omega)
      go_wp2_with fail
      go_ret
      exact ⟨⟨2, rfl, ⟨(fun e => nomatch e), fun k => absurd k K.out⟩⟩, HB.out⟩
    · by_cases h1 : x.len < 1
      · have K := Lib.hid (show ¬ OneOk base x from fun hk => by have := HOK.out.1 hk; omega)
        go_wp2_with fail
        go_ret
        exact ⟨⟨2, rfl, ⟨(fun e => nomatch e), fun k => absurd k K.out⟩⟩, HB.out⟩
      · by_cases h2 : base < x.off
        · have K := Lib.hid (show ¬ OneOk base x from fun hk => by have := HOK.out.1 hk; omega)
          go_wp2_with fail
          go_ret
          exact ⟨⟨3, rfl, ⟨(fun e => nomatch e), fun k => absurd k K.out⟩⟩, HB.out⟩
        · by_cases h3 : base - x.off < x.len
          · have K := Lib.hid (show ¬ OneOk base x from fun hk => by have := HOK.out.1 hk; omega)
            go_wp2_with fail
            go_ret
            exact ⟨⟨3, rfl, ⟨(fun e => nomatch e), fun k => absurd k K.out⟩⟩, HB.out⟩
          · have K := Lib.hid (HOK.out.2 (.inr ⟨by omega, by omega, by omega, by omega, by omega⟩))
            go_wp2_with fail
            go_ret
            exact ⟨⟨0, rfl, ⟨fun _ => K.out, fun _ => rfl⟩⟩, HB.out⟩
end Go.Proofs.Ytlndiddplfoceaa
