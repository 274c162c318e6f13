import Derived.Test.YthkjnpbbgfagkaaDoorRTxt
import Derived.Test.YthkjnpbbgfagkaaDoorJC
import Derived.Laws.BitsAllLaws
set_option linter.unusedVariables false
set_option linter.unusedSimpArgs false
namespace Go.Proofs.YthkjnpbbgfagkaaDoor
open Go.RowKit

set_option maxRecDepth 100000 in
set_option maxHeartbeats 400000 in
theorem Shift_any (N n : Nat) (w : World) (hN : N < 4294967296) (hn : n ≤ 1000) :
    Calls Tryd.prog 54 #[.int .u32 N, .int .i64 n] w fun e w' => e = .returned (.int .u32 (shN n N)) ∧ w = w' := by
  go_enter Tryd.func54, Tryd.ntmps54
  go_wp2
  go_loop [0, 5] (fun a i => ∃ j q : Nat, a = .int .u32 q ∧ i = .int .i64 j ∧ j ≤ n ∧ q < 4294967296 ∧ shN n N = shN (n - j) q) (fun _ i => n - (intOf i).toNat)
  case atStart => exact ⟨0, N, rfl, rfl, by omega, hN, rfl⟩
  case round =>
    obtain ⟨j, q, rfl, rfl, hj, hq, heq⟩ := hrel
    have HE := Lib.hid heq
    clear heq
    by_cases h : j < n
    · obtain ⟨m, hm⟩ : ∃ m, n - j = m + 1 := ⟨n - j - 1, by omega⟩
      have hx := u32_xor_nat (q / 2) 3988292384 (by omega) (by omega)
      have HX := Lib.hid hx
      have HM := Lib.hid hm
      clear hx hm
      have hx0 : bits BinOp.xor IntKind.u32 ((q : Int) / 2) 3988292384 = ((q / 2 ^^^ 3988292384 : Nat) : Int) := by
        have := HX.out
        rw [← this]; rfl
      have HX0 := Lib.hid hx0
      clear hx0
      by_cases h2 : q % 2 = 1
      · have h3 : 0 < (q : Int) % 2 := by omega
        have HS := Lib.hid h2
        clear h2
        go_wp2
        go_round
        case rel => exact ⟨j + 1, q / 2 ^^^ 3988292384, by rw [HX0.out], by go_num, by omega, xor_lt32 (by omega) (by decide), by rw [HE.out, HM.out, show n - (j + 1) = m by have := HM.out; omega, shN, sh1, if_pos HS.out]⟩
        case measure => simp [intOf]; omega
      · go_wp2
        go_round
        case rel => exact ⟨j + 1, q / 2, by go_num, by go_num, by omega, by omega, by rw [HE.out, HM.out, show n - (j + 1) = m by have := HM.out; omega, shN, sh1, if_neg h2]⟩
        case measure => simp [intOf]; omega
    · go_wp2
      go_ret
      obtain rfl : j = n := by omega
      exact ⟨by rw [HE.out, Nat.sub_self]; rfl, rfl⟩

theorem u32_and15 (X : Nat) (h : X < 4294967296) : bits .and .u32 (X : Int) 15 = ((X % 16 : Nat) : Int) := by
  have := u32_and_nat X 15 h (by decide)
  rw [show ((15 : Nat) : Int) = 15 from rfl] at this
  rw [this, show (15 : Nat) = 2 ^ 4 - 1 by rfl, Nat.and_two_pow_sub_one_eq_mod]
theorem nib_bits (X : Nat) (h : X < 4294967296) : bits .xor .u32 ((X : Int) / 16) (tabAt (X % 16) : Int) = (nib X : Int) := by
  have := u32_xor_nat (X / 16) (tabAt (X % 16)) (by omega) (tabAt_lt _)
  exact this
theorem not_bits (W : Nat) (h : W < 4294967296) : bits .xor .u32 IntKind.u32.max (W : Int) = ((4294967295 - W : Nat) : Int) := by
  have h1 := u32_xor_nat 4294967295 W (by decide) h
  have h2 : (4294967295 ^^^ W : Nat) = 4294967295 - W := by
    have := BitVec.allOnes_xor (x := BitVec.ofNat 32 W)
    have h3 := congrArg BitVec.toNat this
    rw [BitVec.toNat_xor, BitVec.toNat_not, BitVec.toNat_allOnes, BitVec.toNat_ofNat, Nat.mod_eq_of_lt (by omega)] at h3
    exact h3
  rw [← h2, ← h1]; rfl
def Tab (w : World) : Prop := ∀ i, i < 16 → w.cell? ⟨0, i, none⟩ = some (.int .u32 (tabAt i))
set_option maxRecDepth 100000 in
set_option maxHeartbeats 400000 in
theorem Of_one (A : Option Addr) (n c : Nat) (bs : List UInt8) (g cp : Nat) (w : World) (hs : Sl 1 w A n (bys bs)) (hn : n ≤ 1099511627776) (hg : w.cell? ⟨g, 0, none⟩ = some (.slice A n c)) (ht : Tab w) :
    Calls Tryd.prog 53 #[.slice (some ⟨g, 0, none⟩) 1 cp] w fun e w' => e = .returned (.int .u32 (crcOf bs)) ∧ w = w' := by
  have hl : bs.length = n := by have := hs.len; simpa [bys] using this
  have HT := Lib.hid ht
  clear ht
  go_enter Tryd.func53, Tryd.ntmps53
  go_wp2
  refine wp_loop_rounds 2 ?_
  rw [rounds_succ]
  go_wp2
  go_loop [3, 16] (fun a i => ∃ k W : Nat, a = .int .u32 W ∧ i = .int .i64 k ∧ k ≤ n ∧ W < 4294967296 ∧ W = crcL 4294967295 (bs.take k)) (fun _ i => n - (intOf i).toNat)
  case atStart => exact ⟨0, 4294967295, rfl, rfl, by omega, by decide, rfl⟩
  case round =>
    obtain ⟨k, W, rfl, rfl, hk, hW, heq⟩ := hrel
    have HE := Lib.hid heq
    clear heq
    by_cases h : k < n
    · obtain ⟨b, o, rfl, hk2, hcell, _⟩ := hs.byte h
      have htk : bs.take (k + 1) = bs.take k ++ [bs[k]] := by rw [List.take_succ_eq_append_getElem hk2]
      have HTK := Lib.hid htk
      clear htk
      generalize bs[k] = cb at *
      have hcb : cb.toNat < 256 := cb.toNat_lt
      have hx1 := u32_xor_nat W cb.toNat hW (by omega)
      have hX := xor_lt32 hW (show cb.toNat < 4294967296 by omega)
      have hfin : crcB W cb.toNat = nib (nib (W ^^^ cb.toNat)) := rfl
      have HFN := Lib.hid hfin
      clear hfin
      generalize W ^^^ cb.toNat = X at *
      have ha1 := u32_and15 X hX
      have hc1 := HT.out (X % 16) (by omega)
      have hx2 := nib_bits X hX
      have hY := nib_lt hX
      generalize nib X = Y at *
      have ha2 := u32_and15 Y hY
      have hc2 := HT.out (Y % 16) (by omega)
      have hx3 := nib_bits Y hY
      have hZ := nib_lt hY
      generalize nib Y = Z at *
      go_wp2
      go_round
      case rel => exact ⟨k + 1, Z, rfl, by go_num, by omega, hZ, by rw [HTK.out, crcL_snoc, ← HE.out, HFN.out]⟩
      case measure => simp [intOf]; omega
    · go_wp2
      rw [rounds_succ]
      go_wp2
      go_ret
      obtain rfl : k = n := by omega
      refine ⟨?_, rfl⟩
      have e1 : crcL 4294967295 bs = W := by rw [HE.out, List.take_of_length_le (by omega)]
      rw [crcOf, e1, ← not_bits W hW]
      rfl
end Go.Proofs.YthkjnpbbgfagkaaDoor
