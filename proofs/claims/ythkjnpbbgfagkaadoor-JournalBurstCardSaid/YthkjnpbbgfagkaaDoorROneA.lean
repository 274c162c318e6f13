import Derived.Test.YthkjnpbbgfagkaaDoorROne
set_option linter.unusedVariables false
set_option linter.unusedSimpArgs false
namespace Go.Proofs.YthkjnpbbgfagkaaDoor
open Go.RowKit

theorem ROne_any (A : Option Addr) (n c : Nat) (bs : List UInt8) (p : Nat) (w : World) (hs : Sl 1 w A n (bys bs)) (hn : n ≤ 1099511627776) (hc : n ≤ c) (hp : p ≤ n) :
    Calls Tryd.prog 36 #[.slice A n c, .int .i64 p] w fun e w' => e = .returned (roneV p (oneR (bs.drop p))) ∧ Below w.heap.size w w' := by
  have hl : bs.length = n := by have := hs.len; simpa [bys] using this
  have hdl : (bs.drop p).length = n - p := by rw [List.length_drop, hl]
  rcases getS_cases (bs.drop p) 0 with ⟨x, to, hg, hx, _, hpt, htl, hto⟩ | ⟨e0, hg, he, he0, he8⟩
  · by_cases h1 : p + to + x + 4 ≤ n
    · have htwo := oneR_two hg (by omega)
      rw [List.drop_drop] at htwo
      generalize hO : openS ((bs.drop (p + to)).take (x + 4)) = O at htwo
      obtain ⟨own, e2⟩ := O
      by_cases he2 : e2 = 0
      · subst he2
        simp only [oneR2, ne_eq, not_true, if_false] at htwo
        have o2 := (openS_ok hO).2
        have hown0 : own.length = x := by rw [List.length_take, List.length_drop, hl] at o2; omega
        cases own with
        | nil => exact ROne_nil A n c bs p w hs hn hc hp x to hg hx htl h1 hO (by rw [htwo]; rfl)
        | cons c0 l =>
          generalize hT : getT (c0 :: l) 1 200 = T at *
          obtain ⟨pa, t1, e1⟩ := T
          have hB : bodyR (c0 :: l) = bodyR1 (c0 :: l) c0 (pa, t1, e1) := by rw [bodyR, hT]
          by_cases he1 : e1 = 0
          · subst he1
            simp only [bodyR1, ne_eq, not_true, if_false] at hB
            rcases getS_cases (c0 :: l) t1 with ⟨x2, t3, hg2, hx2, _, hpt2, htl2, hto2⟩ | ⟨e3, hg2, he3, _, _⟩
            · rw [hg2] at hB
              simp only [bodyR2, ne_eq, not_true, if_false, Int.toNat_natCast] at hB
              by_cases hm : May ⟨c0.toNat, str pa, x2, str ((c0 :: l).drop t3)⟩
              · refine ROne_yes A n c bs p w hs hn hc hp x to hg hx htl h1 _ hO c0 l rfl pa t1 hT x2 t3 hg2 (by omega) hm ?_
                rw [htwo, hB, mayR, decide_eq_true hm]; rfl
              · refine ROne_not A n c bs p w hs hn hc hp x to hg hx htl h1 _ hO c0 l rfl pa t1 hT x2 t3 hg2 (by omega) hm ?_
                rw [htwo, hB, mayR, decide_eq_false hm]; rfl
            · rw [hg2] at hB
              simp only [bodyR2, ne_eq, he3, not_false_eq_true, if_true] at hB
              exact ROne_num A n c bs p w hs hn hc hp x to hg hx htl h1 _ hO c0 l rfl pa t1 hT _ _ e3 hg2 he3 (by rw [htwo, hB]; rfl)
          · simp only [bodyR1, ne_eq, he1, not_false_eq_true, if_true] at hB
            exact ROne_text A n c bs p w hs hn hc hp x to hg hx htl h1 _ hO c0 l rfl pa t1 e1 hT he1 (by rw [htwo, hB]; rfl)
      · exact ROne_seal A n c bs p w hs hn hc hp x to hg hx htl h1 own e2 hO he2 (by rw [htwo, oneR2, if_pos he2])
    · refine ROne_short A n c bs p w hs hn hc hp (oneR_err hg (.inr (by omega))) x (p + to) (getS_shift (by omega) hg) hx (by omega) (by omega)
  · exact ROne_get A n c bs p w hs hn hc hp (oneR_err hg (.inl he)) e0 (getS_shift_err (by omega) hg he) he
end Go.Proofs.YthkjnpbbgfagkaaDoor
