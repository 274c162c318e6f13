import Derived.Test.YthkjnpbbgfagkaaDoorJP
import Derived.Test.YthkjnpbbgfagkaaDoorJC
/-! Plain laws on records: no program here. -/
namespace Go.Proofs.YthkjnpbbgfagkaaDoor

structure Rec where
  kind : Int
  path : ByteArray
  num : Int
  sum : ByteArray
deriving DecidableEq
/-- May a record be? -/
def May (r : Rec) : Prop := 1 ≤ r.kind ∧ r.kind ≤ 4 ∧ 0 < r.path.size ∧ r.path.size ≤ 200 ∧ 0 ≤ r.num ∧ r.num ≤ 65536 ∧ (r.kind = 2 ∨ r.num = 0) ∧ (r.kind = 1 ∧ r.sum.size = 32 ∨ r.kind ≠ 1 ∧ r.sum.size = 0)
instance (r : Rec) : Decidable (May r) := by unfold May; infer_instance
def mayR (r : Rec) : Bool := decide (May r)
/-- A record's body, and its bytes. -/
def recB (r : Rec) : List UInt8 := UInt8.ofNat r.kind.toNat :: (putT r.path ++ putN r.num ++ r.sum.data.toList)
def putRec (r : Rec) : List UInt8 := putN (recB r).length ++ (recB r ++ sealB (crcOf (recB r)))
def zeroRec : Rec := ⟨0, str [], 0, str []⟩
/-- The record of a body, as the program makes it, and whether it may be. -/
def bodyR2 (b : List UInt8) (c : UInt8) (p : List UInt8) : Int × Int × Int → Rec × Bool
  | (n, to, e) => if e ≠ 0 then (zeroRec, false) else (⟨c.toNat, str p, n, str (b.drop to.toNat)⟩, mayR ⟨c.toNat, str p, n, str (b.drop to.toNat)⟩)
def bodyR1 (b : List UInt8) (c : UInt8) : List UInt8 × Int × Int → Rec × Bool
  | (p, to, e) => if e ≠ 0 then (zeroRec, false) else bodyR2 b c p (getS b to)
def bodyR : List UInt8 → Rec × Bool
  | [] => (zeroRec, false)
  | c :: l => bodyR1 (c :: l) c (getT (c :: l) 1 200)
/-- The record with which bytes begin, and how many bytes it has; 0: none. -/
def oneR3 (k : Int) : Rec × Bool → Rec × Int
  | (r, ok) => if ok = true then (r, k) else (zeroRec, 0)
def oneR2 (k : Int) : List UInt8 × Int → Rec × Int
  | (own, e) => if e ≠ 0 then (zeroRec, 0) else oneR3 k (bodyR own)
def oneR1 (b : List UInt8) : Int × Int × Int → Rec × Int
  | (n, to, e) => if e ≠ 0 ∨ (b.length : Int) - to < n ∨ (b.length : Int) - to - n < 4 then (zeroRec, 0) else oneR2 (to + n + 4) (openS ((b.drop to.toNat).take (n + 4).toNat))
def oneR (b : List UInt8) : Rec × Int := oneR1 b (getS b 0)
theorem oneR_cases (b : List UInt8) : oneR b = (zeroRec, 0) ∨ ∃ (r : Rec) (k : Nat), oneR b = (r, (k : Int)) ∧ 0 < k ∧ k ≤ b.length := by
  unfold oneR
  rcases getS_cases b 0 with ⟨x, to, hg, hx, hp, hpt, htl, hto⟩ | ⟨e0, hg, he, he0, he8⟩
  · rw [hg, oneR1]
    split
    · exact .inl rfl
    · rename_i h
      unfold oneR2
      split
      rename_i own e ho
      split
      · exact .inl rfl
      · unfold oneR3
        split
        rename_i r ok hr
        split
        · exact .inr ⟨r, to + x + 4, by simp, by omega, by omega⟩
        · exact .inl rfl
  · rw [hg, oneR1, if_pos (.inl he)]; exact .inl rfl
/-- The records of bytes, and how many bytes they have. -/
def allR : Nat → List UInt8 → List Rec × Nat
  | 0, _ => ([], 0)
  | f+1, b => if (oneR b).2 = 0 then ([], 0) else ((oneR b).1 :: (allR f (b.drop (oneR b).2.toNat)).1, (oneR b).2.toNat + (allR f (b.drop (oneR b).2.toNat)).2)
theorem allR_none {f : Nat} {b : List UInt8} (h : (oneR b).2 = 0) : allR f b = ([], 0) := by
  cases f
  · rfl
  · rw [allR, if_pos h]
theorem allR_some {f : Nat} {b : List UInt8} {r : Rec} {k : Nat} (h : oneR b = (r, (k : Int))) (hk : 0 < k) : allR (f+1) b = (r :: (allR f (b.drop k)).1, k + (allR f (b.drop k)).2) := by
  rw [allR, if_neg (by rw [h]; show (k : Int) ≠ 0; omega), h]; simp
theorem oneR_nil : (oneR []).2 = 0 := rfl
end Go.Proofs.YthkjnpbbgfagkaaDoor
