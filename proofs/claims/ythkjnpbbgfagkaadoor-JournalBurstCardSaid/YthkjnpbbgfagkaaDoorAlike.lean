import Derived.Test.YthkjnpbbgfagkaaDoorSame
set_option linter.unusedVariables false
set_option linter.unusedSimpArgs false
namespace Go.Proofs.YthkjnpbbgfagkaaDoor
open Go.RowKit

theorem eqRec (k m k' m' : Int) (p s p' s' : ByteArray) (w : World) : (Op.equalIn 10000 31 (.agg #[.int .i64 k, .string p, .int .i64 m, .string s]) (.agg #[.int .i64 k', .string p', .int .i64 m', .string s'])).run Tryd.prog w = .ok (k == k' && (p.toList == p'.toList && (m == m' && s.toList == s'.toList))) w := by
  have u3 := Tryd.underlying3
  have u9 := Tryd.underlying9
  have hS : Tryd.prog.underlying 31 = some (.struct (Tryd.prog.fieldsOf 31)) := by kernel_rfl
  have hp : Tryd.prog.stoodInHeld 31 = false := by kernel_rfl
  rw [show (10000 : Nat) = 9999 + 1 from rfl, run_equalIn_agg w 9999 31 _ _ hS hp]
  simp only [Program.fieldsOf, Tryd.underlying31]
  go_simp
  by_cases h1 : k = k' <;> by_cases h2 : p.toList = p'.toList <;> by_cases h3 : m = m' <;> by_cases h4 : s.toList = s'.toList <;> simp [h1, h2, h3, h4]
theorem neRec {k m k' m' : Int} {p s p' s' : ByteArray} (h : (⟨k, p, m, s⟩ : Rec) ≠ ⟨k', p', m', s'⟩) (w : World) : (Op.equalIn 10000 31 (.agg #[.int .i64 k, .string p, .int .i64 m, .string s]) (.agg #[.int .i64 k', .string p', .int .i64 m', .string s'])).run Tryd.prog w = .ok false w := by
  rw [eqRec]
  congr 1
  rw [Bool.eq_false_iff]
  intro e
  simp only [Bool.and_eq_true, beq_iff_eq] at e
  obtain ⟨e1, e2, e3, e4⟩ := e
  rw [ByteArray.toList_eq, ByteArray.toList_eq] at e2 e4
  exact h (by rw [e1, ky_inj e2, e3, ky_inj e4])

set_option maxRecDepth 100000 in
set_option maxHeartbeats 2000000 in
theorem alike_any (A : Option Addr) (n c : Nat) (l : List Rec) (A' : Option Addr) (n' c' : Nat) (l' : List Rec) (w : World) (hs : Sl 4 w A n (encs l)) (hs' : Sl 4 w A' n' (encs l')) :
    Calls Tryd.prog 25 #[.slice A n c, .slice A' n' c'] w fun e w' => e = .returned (.bool (decide (l = l'))) ∧ Below w.heap.size w w' := by
  have HL := Lib.hid hs.recs
  have HL' := Lib.hid hs'.recs
  have hm := hs.max
  have hm' := hs'.max
  go_enter Tryd.func25, Tryd.ntmps25
  by_cases hn : n = n'
  · subst hn
    go_wp2_with fail
    go_loopw [14] (fun a wr => ∃ i : Nat, a = .int .i64 i ∧ i ≤ n ∧ Below w.heap.size w wr ∧ ∀ j, j < i → l[j]? = l'[j]?) (fun a _ => n - (intOf a).toNat)
    case atStart => exact ⟨0, rfl, by omega, Below.refl _ _, by intro j hj; omega⟩
    case round =>
      obtain ⟨i, rfl, hi, hb, hall⟩ := hrel
      have HALL := Lib.hid hall
      clear hall
      rcases Nat.lt_or_ge i n with h | h
      · obtain ⟨b, o, k, p, m, s, rfl, hr, c0, c1, c2, c3⟩ := (hs.below hb).row4 h
        obtain ⟨b', o', k', p', m', s', rfl, hr', d0, d1, d2, d3⟩ := ((hs'.below hb).below ((Below.refl _ _).alloc (Nat.le_refl _) (.cells (encR ⟨k, p, m, s⟩).toArray 31))).row4 h
        obtain ⟨y0, y1, y2, y3⟩ := Box4.mk_alloc wr ⟨k, p, m, s⟩ 31
        have HR := Lib.hid hr
        have HR' := Lib.hid hr'
        have hbA := hb.alloc hb.size (.cells (encR ⟨k, p, m, s⟩).toArray 31)
        have HBA := Lib.hid hbA
        simp only [encR] at HBA d0 d1 d2 d3
        clear hr hr' hbA
        by_cases e0 : (⟨k, p, m, s⟩ : Rec) = ⟨k', p', m', s'⟩
        · simp only [Rec.mk.injEq] at e0
          obtain ⟨rfl, rfl, rfl, rfl⟩ := e0
          go_wp2_with fail
          generalize hwA : wr.alloc (.cells #[.int .i64 k, .string p, .int .i64 m, .string s] 31) = wA at *
          clear hwA
          go_quiet (fail)
          go_wp2_with fail
          go_roundw
          case rel => exact ⟨i+1, by go_num, by omega, below_drewN HBA.out _, upto_snoc HALL.out HR.out HR'.out⟩
          case measure => simp [intOf]; omega
        · have E0 := Lib.hid e0
          have hne := fun w => neRec e0 w
          clear e0
          go_wp2_with fail
          generalize hwA : wr.alloc (.cells #[.int .i64 k, .string p, .int .i64 m, .string s] 31) = wA at *
          clear hwA
          go_quiet (fail)
          go_wp2_with fail
          go_ret
          exact ⟨by rw [decide_eq_false (lists_ne HR.out HR'.out E0.out)]; rfl, below_drewN HBA.out _⟩
      · obtain rfl : i = n := by omega
        go_wp2_with fail
        go_ret
        exact ⟨by rw [decide_eq_true (lists_eq HL.out HL'.out HALL.out)]; rfl, hb⟩
  · go_wp2_with fail
    go_ret
    exact ⟨by rw [decide_eq_false (fun e => hn (by rw [← HL.out, ← HL'.out, e]))]; rfl, Below.refl _ _⟩
end Go.Proofs.YthkjnpbbgfagkaaDoor
