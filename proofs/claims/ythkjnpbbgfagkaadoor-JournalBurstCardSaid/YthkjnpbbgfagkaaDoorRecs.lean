import Derived.Test.YthkjnpbbgfagkaaDoorRAll
set_option linter.unusedVariables false
set_option linter.unusedSimpArgs false
namespace Go.Proofs.YthkjnpbbgfagkaaDoor
open Go.RowKit

theorem encs_get : ∀ {l : List Rec} {i : Nat} (hi : i < l.length), (encs l)[i * 4]? = some (.int .i64 l[i].kind) ∧ (encs l)[i * 4 + 1]? = some (.string l[i].path) ∧ (encs l)[i * 4 + 2]? = some (.int .i64 l[i].num) ∧ (encs l)[i * 4 + 3]? = some (.string l[i].sum)
  | r :: l, 0, _ => ⟨rfl, rfl, rfl, rfl⟩
  | r :: l, i+1, h => by
    have := encs_get (l := l) (i := i) (by simpa using h)
    have h4 : ∀ k, (encs (r :: l))[(i+1) * 4 + k]? = (encs l)[i * 4 + k]? := fun k => by
      rw [show encs (r :: l) = encR r ++ encs l from rfl, List.getElem?_append_right (by simp [encR]; omega)]
      congr 1
      simp [encR]; omega
    exact ⟨(h4 0).trans this.1, (h4 1).trans this.2.1, (h4 2).trans this.2.2.1, (h4 3).trans this.2.2.2⟩
theorem Sl.row4 {w : World} {A : Option Addr} {n : Nat} {l : List Rec} (h : Sl 4 w A n (encs l)) {i : Nat} (hi : i < n) : ∃ (b o : Nat) (k : Int) (p : ByteArray) (m : Int) (s : ByteArray), A = some ⟨b, o, none⟩ ∧ l[i]? = some ⟨k, p, m, s⟩ ∧ w.cell? ⟨b, o + i * 4, none⟩ = some (.int .i64 k) ∧ w.cell? ⟨b, o + i * 4 + 1, none⟩ = some (.string p) ∧ w.cell? ⟨b, o + i * 4 + 2, none⟩ = some (.int .i64 m) ∧ w.cell? ⟨b, o + i * 4 + 3, none⟩ = some (.string s) := by
  have hl : l.length = n := by have := h.len; rw [encs_len] at this; omega
  obtain ⟨g0, g1, g2, g3⟩ := encs_get (l := l) (i := i) (by omega)
  rcases h.at_ with h0 | ⟨b, o, rfl, hc⟩
  · rw [h0] at g0; simp at g0
  · exact ⟨b, o, _, _, _, _, rfl, by rw [List.getElem?_eq_getElem (by omega)], hc _ _ g0, hc _ _ g1, hc _ _ g2, hc _ _ g3⟩

def lightR (l : List Rec) : Prop := l.length ≤ 40 ∧ ∀ r ∈ l, r.path.size ≤ 300 ∧ r.sum.size ≤ 300
instance (l : List Rec) : Decidable (lightR l) := by unfold lightR; infer_instance

set_option maxRecDepth 100000 in
set_option maxHeartbeats 1000000 in
theorem light_any (A : Option Addr) (n c : Nat) (l : List Rec) (w : World) (hs : Sl 4 w A n (encs l)) :
    Calls Tryd.prog 11 #[.slice A n c] w fun e w' => e = .returned (.bool (decide (lightR l))) ∧ Below w.heap.size w w' := by
  have hl : l.length = n := by have := hs.len; rw [encs_len] at this; omega
  have HL := Lib.hid hl
  have hm := hs.max
  clear hl
  go_enter Tryd.func11, Tryd.ntmps11
  by_cases hn : n ≤ 40
  · go_wp2_with fail
    go_loopw [10] (fun a wr => ∃ i : Nat, a = .int .i64 i ∧ i ≤ n ∧ Below w.heap.size w wr ∧ ∀ j, j < i → ∀ r, l[j]? = some r → r.path.size ≤ 300 ∧ r.sum.size ≤ 300) (fun a _ => n - (intOf a).toNat)
    case atStart => exact ⟨0, rfl, by omega, Below.refl _ _, by intro j hj; omega⟩
    case round =>
      obtain ⟨i, rfl, hi, hb, hall⟩ := hrel
      have HALL := Lib.hid hall
      clear hall
      rcases Nat.lt_or_ge i n with h | h
      · obtain ⟨b, o, k, p, m, s, rfl, hr, c0, c1, c2, c3⟩ := (hs.below hb).row4 h
        by_cases h1 : (p.size : Int) ≤ 300
        · by_cases h2 : (s.size : Int) ≤ 300
          · go_wp2_with fail
            go_roundw
            case rel => 
              refine ⟨i+1, by go_num, by omega, hb.alloc hb.size _, ?_⟩
              intro j hj r hjr
              rcases Nat.lt_or_ge j i with h3 | h3
              · exact HALL.out j h3 r hjr
              · obtain rfl : j = i := by omega
                rw [hr] at hjr
                obtain rfl := Option.some.inj hjr
                exact ⟨by simp only; omega, by simp only; omega⟩
            case measure => simp [intOf]; omega
          · go_wp2_with fail
            go_ret
            have hno : ¬ lightR l := by
              rintro ⟨_, h3⟩
              have := (h3 _ (List.mem_of_getElem? hr)).2
              simp only at this; omega
            exact ⟨by rw [decide_eq_false hno]; rfl, hb.alloc hb.size _⟩
        · go_wp2_with fail
          go_ret
          have hno : ¬ lightR l := by
            rintro ⟨_, h3⟩
            have := (h3 _ (List.mem_of_getElem? hr)).1
            simp only at this; omega
          exact ⟨by rw [decide_eq_false hno]; rfl, hb.alloc hb.size _⟩
      · go_wp2_with fail
        go_ret
        have hyes : lightR l := by
          refine ⟨by rw [HL.out]; exact hn, fun r hr => ?_⟩
          obtain ⟨j, hj, rfl⟩ := List.mem_iff_getElem.1 hr
          exact HALL.out j (by have := HL.out; omega) _ (List.getElem?_eq_getElem hj)
        exact ⟨by rw [decide_eq_true hyes]; rfl, hb⟩
  · go_wp2
    go_ret
    have hno : ¬ lightR l := by
      intro h3
      have h4 := h3.1
      rw [HL.out] at h4
      exact hn h4
    exact ⟨by rw [decide_eq_false hno]; rfl, Below.refl _ _⟩
end Go.Proofs.YthkjnpbbgfagkaaDoor
