import Derived.Test.YthkjnpbbgfagkaaDoorMapR
set_option linter.unusedVariables false
set_option linter.unusedSimpArgs false
namespace Go.Proofs.YthkjnpbbgfagkaaDoor
open Go.RowKit

theorem bne_t {α : Type} [DecidableEq α] {a b : α} (h : a ≠ b) : (a != b) = true := by simp [h]
theorem str_bne {a b : ByteArray} (h : a ≠ b) : (a.toList == b.toList) = false := by
  rw [beq_eq_false_iff_ne, ByteArray.toList_eq, ByteArray.toList_eq]
  exact fun e => h (ky_inj e)
theorem lists_ne {α : Type} {a b : List α} {i : Nat} {x y : α} (ha : a[i]? = some x) (hb : b[i]? = some y) (h : x ≠ y) : a ≠ b := fun e => by
  rw [e, hb] at ha; exact h (Option.some.inj ha).symm
theorem lists_eq {α : Type} {a b : List α} {n : Nat} (ha : a.length = n) (hb : b.length = n) (h : ∀ j, j < n → a[j]? = b[j]?) : a = b := by
  apply List.ext_getElem?
  intro j
  rcases Nat.lt_or_ge j n with hj | hj
  · exact h j hj
  · rw [List.getElem?_eq_none (by omega), List.getElem?_eq_none (by omega)]
theorem upto_snoc {α : Type} {a b : List α} {i : Nat} {x : α} (h : ∀ j, j < i → a[j]? = b[j]?) (ha : a[i]? = some x) (hb : b[i]? = some x) : ∀ j, j < i + 1 → a[j]? = b[j]? := by
  intro j hj
  rcases Nat.lt_or_ge j i with h1 | h1
  · exact h j h1
  · obtain rfl : j = i := by omega
    rw [ha, hb]

set_option maxRecDepth 100000 in
set_option maxHeartbeats 2000000 in
theorem same_any (A : Option Addr) (n c : Nat) (l : List Rec) (A' : Option Addr) (n' c' : Nat) (l' : List Rec) (w : World) (hs : Sl 4 w A n (encs l)) (hs' : Sl 4 w A' n' (encs l')) :
    Calls Tryd.prog 18 #[.slice A n c, .slice A' n' c'] w fun e w' => e = .returned (.bool (decide (l = l'))) ∧ Below w.heap.size w w' := by
  have HL := Lib.hid hs.recs
  have HL' := Lib.hid hs'.recs
  have hm := hs.max
  have hm' := hs'.max
  go_enter Tryd.func18, Tryd.ntmps18
  by_cases hn : n = n'
  · subst hn
    go_wp2_with fail
    go_loopw [14] (fun a wr => ∃ i : Nat, a = .int .i64 i ∧ i ≤ n ∧ Below w.heap.size w wr ∧ ∀ j, j < i → l[j]? = l'[j]?) (fun a _ => n - (intOf a).toNat)
    case atStart => exact ⟨0, rfl, by omega, Below.refl _ _, by intro j hj; omega⟩
    case round =>
      obtain ⟨i, rfl, hi, hb, hall⟩ := hrel
      have HALL := Lib.hid hall
      clear hall
      rcases Nat.lt_or_ge i n with h | h
      · obtain ⟨b, o, k, p, m, s, rfl, hr, c0, c1, c2, c3⟩ := (hs.below hb).row4 h
        obtain ⟨b', o', k', p', m', s', rfl, hr', d0, d1, d2, d3⟩ := ((hs'.below hb).below ((Below.refl _ _).alloc (Nat.le_refl _) (.cells (encR ⟨k, p, m, s⟩).toArray 31))).row4 h
        obtain ⟨y0, y1, y2, y3⟩ := Box4.mk_alloc wr ⟨k, p, m, s⟩ 31
        have HR := Lib.hid hr
        have HR' := Lib.hid hr'
        have hbA := hb.alloc hb.size (.cells (encR ⟨k, p, m, s⟩).toArray 31)
        have HBA := Lib.hid hbA
        simp only [encR] at HBA d0 d1 d2 d3
        clear hr hr' hbA
        by_cases e0 : k = k'
        · subst e0
          by_cases e1 : p = p'
          · subst e1
            by_cases e2 : m = m'
            · subst e2
              by_cases e3 : s = s'
              · subst e3
                go_wp2_with fail
                generalize hwA : wr.alloc (.cells #[.int .i64 k, .string p, .int .i64 m, .string s] 31) = wA at *
                clear hwA
                go_quiet (fail)
                go_wp2_with fail
                go_roundw
                case rel => exact ⟨i+1, by go_num, by omega, below_drewN HBA.out _, upto_snoc HALL.out HR.out HR'.out⟩
                case measure => simp [intOf]; omega
              · have f3 := str_bne e3
                have E3 := Lib.hid e3
                clear e3
                go_wp2_with fail
                generalize hwA : wr.alloc (.cells #[.int .i64 k, .string p, .int .i64 m, .string s] 31) = wA at *
                clear hwA
                go_quiet (fail)
                go_wp2_with fail
                go_ret
                exact ⟨by rw [decide_eq_false (lists_ne HR.out HR'.out (by simp; exact E3.out))]; rfl, below_drewN HBA.out _⟩
            · have f2 := bne_t e2
              clear e2
              go_wp2_with fail
              generalize hwA : wr.alloc (.cells #[.int .i64 k, .string p, .int .i64 m, .string s] 31) = wA at *
              clear hwA
              go_quiet (fail)
              go_wp2_with fail
              go_ret
              exact ⟨by rw [decide_eq_false (lists_ne HR.out HR'.out (by simp; intro e; simp [e] at f2))]; rfl, below_drewN HBA.out _⟩
          · have f1 := str_bne e1
            have E1 := Lib.hid e1
            clear e1
            go_wp2_with fail
            generalize hwA : wr.alloc (.cells #[.int .i64 k, .string p, .int .i64 m, .string s] 31) = wA at *
            clear hwA
            go_quiet (fail)
            go_wp2_with fail
            go_ret
            exact ⟨by rw [decide_eq_false (lists_ne HR.out HR'.out (by simp; exact fun e => (E1.out e).elim))]; rfl, below_drewN HBA.out _⟩
        · have f0 := bne_t e0
          clear e0
          go_wp2_with fail
          generalize hwA : wr.alloc (.cells #[.int .i64 k, .string p, .int .i64 m, .string s] 31) = wA at *
          clear hwA
          go_quiet (fail)
          go_wp2_with fail
          go_ret
          exact ⟨by rw [decide_eq_false (lists_ne HR.out HR'.out (by simp; intro e; simp [e] at f0))]; rfl, below_drewN HBA.out _⟩
      · obtain rfl : i = n := by omega
        go_wp2_with fail
        go_ret
        exact ⟨by rw [decide_eq_true (lists_eq HL.out HL'.out HALL.out)]; rfl, hb⟩
  · go_wp2_with fail
    go_ret
    exact ⟨by rw [decide_eq_false (fun e => hn (by rw [← HL.out, ← HL'.out, e]))]; rfl, Below.refl _ _⟩
end Go.Proofs.YthkjnpbbgfagkaaDoor
