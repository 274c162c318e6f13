import Derived.Test.YtlndiddplfoceaaDoorBase
import Derived.Laws.RangeAny
import Derived.Lib.OthersKept
/-! A path's parts: plain laws. -/
set_option linter.unusedVariables false
set_option linter.unusedSimpArgs false
namespace Go.Proofs.YtlndiddplfoceaaDoor
open Go.RowKit

/-- What stands behind a rune's first byte is no ASCII. -/
theorem decode_gap (s : ByteArray) (pos : Nat) (h : pos < s.size) : 1 ≤ (Utf8.decode s pos).2 ∧ pos + (Utf8.decode s pos).2 ≤ s.size ∧ ∀ j, pos < j → j < pos + (Utf8.decode s pos).2 → 128 ≤ (s.get! j).toNat := by
  have key : ∀ k, s.get! (pos + k) = s.get! (pos + k) := fun _ => rfl
  simp only [Utf8.decode]
  split
  · exact ⟨by simp, by simp; omega, fun j h1 h2 => by simp at h2; omega⟩
  split
  · rename_i h1 h2
    split
    · simp only [Bool.and_eq_true, decide_eq_true_eq, beq_iff_eq] at h2
      refine ⟨by simp, by simp; omega, fun j h3 h4 => ?_⟩
      simp at h4
      obtain rfl : j = pos + 1 := by omega
      omega
    · exact ⟨by simp, by simp; omega, fun j h1 h2 => by simp at h2; omega⟩
  split
  · rename_i h1 h2 h3
    split
    · simp only [Bool.and_eq_true, decide_eq_true_eq, beq_iff_eq] at h3
      refine ⟨by simp, by simp; omega, fun j h4 h5 => ?_⟩
      simp at h5
      obtain rfl | rfl : j = pos + 1 ∨ j = pos + 2 := by omega
      · omega
      · omega
    · exact ⟨by simp, by simp; omega, fun j h1 h2 => by simp at h2; omega⟩
  split
  · rename_i h1 h2 h3 h4
    split
    · simp only [Bool.and_eq_true, decide_eq_true_eq, beq_iff_eq] at h4
      refine ⟨by simp, by simp; omega, fun j h5 h6 => ?_⟩
      simp at h6
      obtain rfl | rfl | rfl : j = pos + 1 ∨ j = pos + 2 ∨ j = pos + 3 := by omega
      · omega
      · omega
      · omega
    · exact ⟨by simp, by simp; omega, fun j h1 h2 => by simp at h2; omega⟩
  · exact ⟨by simp, by simp; omega, fun j h1 h2 => by simp at h2; omega⟩
theorem get_bang (s : ByteArray) (j : Nat) (h : j < s.size) : s.get! j = s[j]'h := by
  simp [ByteArray.get!, getElem!_pos, h]; rfl
theorem data_at (s : ByteArray) (j : Nat) (h : j < s.size) : s.data.toList[j]? = some (s[j]'h) := by
  rw [List.getElem?_eq_getElem (by simpa using h)]; simp; rfl

/-- The parts that a slash has ended among the first bytes, and where the next one begins. -/
def cutN (l : List UInt8) : Nat → List (List UInt8) × Nat
  | 0 => ([], 0)
  | i+1 => if l[i]? = some 47 then ((cutN l i).1 ++ [(l.drop (cutN l i).2).take (i - (cutN l i).2)], i + 1) else cutN l i
def splitB (l : List UInt8) : List (List UInt8) := if l = [] then [] else (cutN l l.length).1 ++ [l.drop (cutN l l.length).2]
theorem cutN_slash {l : List UInt8} {i : Nat} (h : l[i]? = some 47) : cutN l (i + 1) = ((cutN l i).1 ++ [(l.drop (cutN l i).2).take (i - (cutN l i).2)], i + 1) := by rw [cutN, if_pos h]
theorem cutN_other {l : List UInt8} {i : Nat} (h : l[i]? ≠ some 47) : cutN l (i + 1) = cutN l i := by rw [cutN, if_neg h]
theorem cutN_le (l : List UInt8) (i : Nat) : (cutN l i).2 ≤ i ∧ (cutN l i).1.length ≤ i := by
  induction i with
  | zero => simp [cutN]
  | succ i ih =>
    rw [cutN]; split
    · simp; omega
    · omega
theorem cutN_skip (l : List UInt8) (i : Nat) : ∀ k, (∀ j, i ≤ j → j < i + k → l[j]? ≠ some 47) → cutN l (i + k) = cutN l i
  | 0, _ => rfl
  | k+1, h => by
    rw [show i + (k + 1) = (i + k) + 1 by omega, cutN_other (h _ (by omega) (by omega))]
    exact cutN_skip l i k fun j h1 h2 => h j h1 (by omega)
/-- The text between two places. -/
theorem extract_str (s : ByteArray) (f i : Nat) (h1 : f ≤ i) (h2 : i ≤ s.size) : s.extract f i = str ((s.data.toList.drop f).take (i - f)) := by
  have : (s.extract f i).data.toList = (s.data.toList.drop f).take (i - f) := by
    rw [ByteArray.data_extract, Array.toList_extract, List.extract_eq_take_drop]
  rw [← this, str_of]
def strs (L : List (List UInt8)) : List Value := L.map fun x => .string (str x)
theorem strs_len (L : List (List UInt8)) : (strs L).length = L.length := by simp [strs]
theorem strs_snoc (L : List (List UInt8)) (x : List UInt8) : strs (L ++ [x]) = strs L ++ [.string (str x)] := by simp [strs]
theorem strs_get {L : List (List UInt8)} {i : Nat} {x : List UInt8} (h : L[i]? = some x) : (strs L)[i]? = some (.string (str x)) := by simp [strs, h]
theorem str_inj {a b : List UInt8} (h : str a = str b) : a = b := by
  have := congrArg (fun s : ByteArray => s.data.toList) h
  simpa [str] using this
theorem splitB_len (l : List UInt8) : (splitB l).length ≤ l.length + 1 := by
  unfold splitB; split
  · simp
  · have := (cutN_le l l.length).2; simp; omega
/-- Is a path under another? -/
def pfxB (X Y : List (List UInt8)) : Bool := decide (X.take Y.length = Y)
end Go.Proofs.YtlndiddplfoceaaDoor
