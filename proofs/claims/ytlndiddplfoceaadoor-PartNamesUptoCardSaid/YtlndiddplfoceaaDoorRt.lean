import Derived.Test.YtlndiddplfoceaaDoorShA
/-! The document's sums: turned, and words out of bytes: plain laws. -/
set_option linter.unusedVariables false
set_option linter.unusedSimpArgs false
namespace Go.Proofs.YtlndiddplfoceaaDoor
open Go.RowKit

theorem bits_or_comm (k : IntKind) (x y : Int) : bits .or k x y = bits .or k y x := by
  unfold bits
  simp only
  rw [BitVec.or_comm]
set_option maxHeartbeats 400000 in
theorem rturned_any (x n : Int) (w : World) (h1 : 1 ≤ n) (h2 : n ≤ 31) :
    Calls Tryd.prog 29 #[.int .u32 x, .int .u64 n] w fun e w' => e = .returned (.int .u32 (turnI x n)) ∧ w' = w := by
  go_enter Tryd.func29, Tryd.ntmps29
  have hw : IntKind.u64.wrap (32 - n) = 32 - n := by rw [IntKind.wrap_u64]; omega
  go_wp2_with fail
  go_ret
  exact ⟨by unfold turnI; rw [bits_or_comm]; rfl, rfl⟩
/-- A word out of four bytes, as the document spells it. -/
def beR (b : List UInt8) (t : Nat) : Int :=
  bits .or .u32 (bits .or .u32 (bits .or .u32 ((((b[4 * t]?.getD 0).toNat : Nat) : Int) % 4294967296 * 16777216 % 4294967296) ((((b[4 * t + 1]?.getD 0).toNat : Nat) : Int) % 4294967296 * 65536 % 4294967296))
    ((((b[4 * t + 2]?.getD 0).toNat : Nat) : Int) % 4294967296 * 256 % 4294967296)) ((((b[4 * t + 3]?.getD 0).toNat : Nat) : Int) % 4294967296)
theorem u32_or (a b : Nat) (ha : a < 4294967296) (hb : b < 4294967296) : bits .or .u32 (a : Int) (b : Int) = ((a ||| b : Nat) : Int) :=
  (bits_nat .u32 32 (by decide) (fun n h0 h1 => by rw [IntKind.wrap_u32]; omega) a b ha hb).2
theorem or_lt32 (a b : Nat) (ha : a < 4294967296) (hb : b < 4294967296) : a ||| b < 4294967296 := Nat.or_lt_two_pow (n := 32) ha hb
theorem or_mul256 (a b : Nat) : (a ||| b) * 256 = a * 256 ||| b * 256 := by
  have := Nat.shiftLeft_or_distrib (i := 8) (a := a) (b := b)
  simpa [Nat.shiftLeft_eq] using this
theorem beR_nat (x0 x1 x2 x3 : Nat) (h0 : x0 < 256) (h1 : x1 < 256) (h2 : x2 < 256) (h3 : x3 < 256) :
    bits .or .u32 (bits .or .u32 (bits .or .u32 ((x0 : Int) % 4294967296 * 16777216 % 4294967296) ((x1 : Int) % 4294967296 * 65536 % 4294967296)) ((x2 : Int) % 4294967296 * 256 % 4294967296)) ((x3 : Int) % 4294967296) =
    bits .or .u32 (bits .or .u32 (bits .or .u32 (bits .or .u32 ((0 : Int) * 256 % 4294967296) ((x0 : Int) % 4294967296) * 256 % 4294967296) ((x1 : Int) % 4294967296) * 256 % 4294967296) ((x2 : Int) % 4294967296) * 256 % 4294967296) ((x3 : Int) % 4294967296) := by
  have e0 : (x0 : Int) % 4294967296 * 16777216 % 4294967296 = ((x0 * 16777216 : Nat) : Int) := by omega
  have e1 : (x1 : Int) % 4294967296 * 65536 % 4294967296 = ((x1 * 65536 : Nat) : Int) := by omega
  have e2 : (x2 : Int) % 4294967296 * 256 % 4294967296 = ((x2 * 256 : Nat) : Int) := by omega
  have e3 : (x3 : Int) % 4294967296 = ((x3 : Nat) : Int) := by omega
  have f0 : (x0 : Int) % 4294967296 = ((x0 : Nat) : Int) := by omega
  have f1 : (x1 : Int) % 4294967296 = ((x1 : Nat) : Int) := by omega
  have f2 : (x2 : Int) % 4294967296 = ((x2 : Nat) : Int) := by omega
  have l1 : x0 * 16777216 ||| x1 * 65536 < 4294967296 := or_lt32 _ _ (by omega) (by omega)
  have l2 : x0 * 16777216 ||| x1 * 65536 ||| x2 * 256 < 4294967296 := or_lt32 _ _ l1 (by omega)
  have m1 : x0 * 256 ||| x1 < 65536 := Nat.or_lt_two_pow (n := 16) (by omega) (by omega)
  have m2 : (x0 * 256 ||| x1) * 256 ||| x2 < 16777216 := Nat.or_lt_two_pow (n := 24) (by omega) (by omega)
  rw [e0, e1, e2, e3, f0, f1, f2, u32_or _ _ (by omega) (by omega), u32_or _ _ l1 (by omega), u32_or _ _ l2 (by omega)]
  rw [show (0 : Int) * 256 % 4294967296 = ((0 : Nat) : Int) by rfl, u32_or 0 x0 (by omega) (by omega), Nat.zero_or,
    show (x0 : Int) * 256 % 4294967296 = ((x0 * 256 : Nat) : Int) by omega, u32_or _ _ (by omega) (by omega),
    show ((x0 * 256 ||| x1 : Nat) : Int) * 256 % 4294967296 = (((x0 * 256 ||| x1) * 256 : Nat) : Int) by omega, u32_or _ _ (by omega) (by omega),
    show (((x0 * 256 ||| x1) * 256 ||| x2 : Nat) : Int) * 256 % 4294967296 = ((((x0 * 256 ||| x1) * 256 ||| x2) * 256 : Nat) : Int) by omega, u32_or _ _ (by omega) (by omega)]
  rw [or_mul256, or_mul256, or_mul256, show x0 * 256 * 256 * 256 = x0 * 16777216 by omega, show x1 * 256 * 256 = x1 * 65536 by omega]
theorem be_eq (b : List UInt8) (t : Nat) : beR b t = beI b t 4 :=
  beR_nat _ _ _ _ (UInt8.toNat_lt _) (UInt8.toNat_lt _) (UInt8.toNat_lt _) (UInt8.toNat_lt _)
end Go.Proofs.YtlndiddplfoceaaDoor
