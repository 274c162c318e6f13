import Derived.Test.YthkjnpbbgfagkaaDoorRows
import Derived.Test.YthkjnpbbgfagkaaDoorNum
import Derived.Test.YthkjnpbbgfagkaaDoorJP
set_option linter.unusedVariables false
set_option linter.unusedSimpArgs false
namespace Go.Proofs.YthkjnpbbgfagkaaDoor
open Go.RowKit
attribute [local go_sem] max2_I min2_I max_two_I min_two_I

/-- The byte at a place of a slice that reads as bytes. -/
theorem Sl.byte {w : World} {A : Option Addr} {n : Nat} {bs : List UInt8} (h : Sl 1 w A n (bys bs)) {k : Nat} (hk : k < n) :
    ∃ b o, A = some ⟨b, o, none⟩ ∧ ∃ hk2 : k < bs.length, w.cell? ⟨b, o + k, none⟩ = some (.int .u8 (bs[k].toNat : Int)) ∧ b < w.heap.size := by
  have hl : bs.length = n := by have := h.len; simpa [bys] using this
  rcases h.at_ with h0 | ⟨b, o, rfl, hc⟩
  · have : bs = [] := by simpa [bys] using h0
    subst this; simp at hl; omega
  · have := hc k (bv bs[k]) (bys_get (List.getElem?_eq_getElem (by omega)))
    exact ⟨b, o, rfl, by omega, this, World.block_lt_of_cell? w _ this⟩

/-- What a byte adds. -/
theorem get_bits {q j : Nat} (c : UInt8) (hj : j < 9) (hq : q < 2 ^ (7 * j)) :
    bits BinOp.or IntKind.i64 (q : Int) (wrap64 (wrap64 (bits BinOp.and IntKind.u8 (c.toNat : Int) 127) * 2 ^ (7 * j))) = ((q + 2 ^ (7 * j) * (c.toNat % 128) : Nat) : Int) ∧ q + 2 ^ (7 * j) * (c.toNat % 128) < 2 ^ (7 * (j + 1)) := by
  have hc : c.toNat < 256 := c.toNat_lt
  have hp : 2 ^ (7 * j) ≤ 2 ^ 56 := Nat.pow_le_pow_right (by omega) (by omega)
  have hp2 : 2 ^ (7 * (j + 1)) = 2 ^ (7 * j) * 128 := by rw [show 7 * (j + 1) = 7 * j + 7 by omega, Nat.pow_add]
  have hm : 2 ^ (7 * j) * (c.toNat % 128) ≤ 2 ^ (7 * j) * 127 := Nat.mul_le_mul_left _ (by omega)
  rw [u8_and127 _ hc]
  have e1 : wrap64 ((c.toNat % 128 : Nat) : Int) = ((c.toNat % 128 : Nat) : Int) := by unfold wrap64; omega
  have e2 : (((c.toNat % 128 : Nat) : Int) * 2 ^ (7 * j)) = ((2 ^ (7 * j) * (c.toNat % 128) : Nat) : Int) := by push_cast; rw [Int.mul_comm]
  have hb : 2 ^ (7 * j) * (c.toNat % 128) < 2 ^ 63 := by omega
  rw [e1, e2]
  have hor : ∀ a, 2 ^ (7 * j) * a + q = 2 ^ (7 * j) * a ||| q := fun a => Nat.two_pow_add_eq_or_of_lt hq a
  clear e2
  generalize 2 ^ (7 * j) = M at *
  have hM : (q + M * (c.toNat % 128)) < M * 128 := by omega
  refine ⟨?_, by omega⟩
  have e3 : wrap64 ((M * (c.toNat % 128) : Nat) : Int) = ((M * (c.toNat % 128) : Nat) : Int) := by unfold wrap64; omega
  rw [e3, i64_or_n _ _ (by omega) (by omega)]
  congr 1
  rw [Nat.or_comm, Nat.add_comm]
  exact (hor (c.toNat % 128)).symm
set_option maxRecDepth 100000 in
set_option maxHeartbeats 400000 in
theorem Get_in (A : Option Addr) (n c : Nat) (bs : List UInt8) (p : Nat) (w : World) (hs : Sl 1 w A n (bys bs)) (hn : n ≤ 1099511627776) (hp : p ≤ n) :
    Calls Tryd.prog 24 #[.slice A n c, .int .i64 p] w fun e w' => e = .returned (.tuple #[.int .i64 (getS bs p).1, .int .i64 (getS bs p).2.1, .int .i64 (getS bs p).2.2]) ∧ w = w' := by
  have hl : bs.length = n := by have := hs.len; simpa [bys] using this
  have HL := Lib.hid hl
  clear hl
  go_enter Tryd.func24, Tryd.ntmps24
  go_wp2
  have hin : getS bs p = getR p (getL 9 (bs.drop p) true) := by
    unfold getS
    rw [if_neg (by rw [HL.out]; omega)]; rfl
  have HIN := Lib.hid hin
  clear hin
  go_loop [7, 18] (fun a i => ∃ q j f : Nat, a = .int .i64 q ∧ i = .int .i64 j ∧ j + f = 9 ∧ p + j ≤ n ∧ q < 2 ^ (7 * j) ∧ getL 9 (bs.drop p) true = addL q (2 ^ (7 * j)) j (getL f (bs.drop (p + j)) (decide (j = 0)))) (fun _ i => 9 - (intOf i).toNat)
  case atStart => exact ⟨0, 0, 9, rfl, rfl, rfl, by omega, by omega, by rw [show (2 : Nat) ^ (7 * 0) = 1 from rfl, addL_one]; rfl⟩
  case round =>
    obtain ⟨q, j, f, rfl, rfl, hjf, hpj, hq, heq⟩ := hrel
    have HE := Lib.hid heq
    have HQ := Lib.hid hq
    clear heq hq
    have hj : j ≤ 9 := by omega
    by_cases h9 : j < 9
    · obtain ⟨f, rfl⟩ : ∃ f', f = f' + 1 := ⟨f - 1, by omega⟩
      by_cases hend : p + j < n
      · obtain ⟨b, o, rfl, hk2, hcell, _⟩ := hs.byte hend
        have hd := drop_cons hk2
        generalize hcb : bs[p + j] = cb at *
        have hcb256 : cb.toNat < 256 := cb.toNat_lt
        rw [hd] at HE
        clear hcb hs hd
        have HG := Lib.hid (get_bits cb h9 HQ.out)
        by_cases h127 : 127 < cb.toNat
        · rw [getL_more h127, addL_addL] at HE
          go_wp2
          rw [HG.out.1]
          go_round
          case rel => exact ⟨_, j + 1, f, rfl, by go_num, by omega, by omega, HG.out.2, by rw [HE.out, show 7 * (j + 1) = 7 * j + 7 by omega, Nat.pow_add]; simp [Nat.add_assoc]⟩
          case measure => simp [intOf]; omega
        · have hm : cb.toNat % 128 = cb.toNat := Nat.mod_eq_of_lt (by omega)
          by_cases h0 : cb.toNat = 0 ∧ 0 < j
          · rw [show decide (j = 0) = false by simp; omega, getL_zero h0.1] at HE
            have hfin : getS bs p = (0, 0, 5) := by rw [HIN.out, HE.out]; rfl
            have HF := Lib.hid hfin
            obtain ⟨h0, hj0⟩ := h0
            have h00 : cb.toNat ≤ 0 := by omega
            clear hfin HIN HE h0
            go_wp2
            go_ret3
            exact ⟨by rw [HF.out]; rfl, rfl⟩
          · rw [getL_last h127 (by simp; omega)] at HE
            have hfin : getS bs p = getR p (.ok (q + 2 ^ (7 * j) * (cb.toNat % 128), j + 1)) := by
              rw [HIN.out, HE.out, hm]; simp only [addL, Nat.add_comm 1 j]
            have HF := Lib.hid hfin
            clear hfin HIN HE
            by_cases h00 : cb.toNat = 0
            · have hj0 : ¬ 0 < j := by omega
              have h01 : cb.toNat ≤ 0 := by omega
              rw [h00] at HG HF
              rw [show ((0:Nat):Int) = 0 from rfl] at HG
              clear h0 h00
              go_wp2
              all_goals
                go_ret3
                refine ⟨?_, rfl⟩
                have hg := HG.out.1
                rw [HF.out, getR]
                first
                | (rw [if_pos (by omega)]; exact ret3_eq rfl rfl rfl)
                | (rw [if_neg (by omega)]; exact ret3_eq (by dsimp only; omega) (by dsimp only; omega) rfl)
            · have h01 : 0 < cb.toNat := by omega
              clear h0 h00
              go_wp2
              all_goals
                go_ret3
                refine ⟨?_, rfl⟩
                have hg := HG.out.1
                rw [HF.out, getR]
                first
                | (rw [if_pos (by omega)]; exact ret3_eq rfl rfl rfl)
                | (rw [if_neg (by omega)]; exact ret3_eq (by dsimp only; omega) (by dsimp only; omega) rfl)
      · rw [List.drop_eq_nil_of_le (show bs.length ≤ p + j by rw [HL.out]; omega)] at HE
        have hfin : getS bs p = (0, 0, 4) := by rw [HIN.out, HE.out]; rfl
        have HF := Lib.hid hfin
        clear hfin HIN HE
        go_wp2
        go_ret3
        exact ⟨by rw [HF.out]; rfl, rfl⟩
    · obtain rfl : f = 0 := by omega
      have hfin : getS bs p = (0, 0, 5) := by rw [HIN.out, HE.out]; rfl
      have HF := Lib.hid hfin
      clear hfin HIN HE
      go_wp2
      go_ret3
      exact ⟨by rw [HF.out]; rfl, rfl⟩

set_option maxRecDepth 100000 in
set_option maxHeartbeats 400000 in
theorem Get_any (A : Option Addr) (n c : Nat) (bs : List UInt8) (p : Int) (w : World) (hs : Sl 1 w A n (bys bs)) (hn : n ≤ 1099511627776) :
    Calls Tryd.prog 24 #[.slice A n c, .int .i64 p] w fun e w' => e = .returned (.tuple #[.int .i64 (getS bs p).1, .int .i64 (getS bs p).2.1, .int .i64 (getS bs p).2.2]) ∧ w = w' := by
  by_cases hp : 0 ≤ p ∧ p ≤ n
  · obtain ⟨k, rfl⟩ := Int.eq_ofNat_of_zero_le hp.1
    exact Get_in A n c bs k w hs hn (by omega)
  · have hl : bs.length = n := by have := hs.len; simpa [bys] using this
    have hfin : getS bs p = (0, 0, 3) := by unfold getS; rw [if_pos (by omega)]
    have HF := Lib.hid hfin
    clear hfin hl
    by_cases h0 : p < 0
    · clear hp
      go_enter Tryd.func24, Tryd.ntmps24
      go_wp2
      go_ret3
      exact ⟨by rw [HF.out]; rfl, rfl⟩
    · have h1 : (n : Int) < p := by omega
      clear hp
      go_enter Tryd.func24, Tryd.ntmps24
      go_wp2
      go_ret3
      exact ⟨by rw [HF.out]; rfl, rfl⟩
end Go.Proofs.YthkjnpbbgfagkaaDoor
