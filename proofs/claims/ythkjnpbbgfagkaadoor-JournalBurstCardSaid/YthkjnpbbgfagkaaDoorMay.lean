import Derived.Test.YthkjnpbbgfagkaaDoorRCrc
import Derived.Test.YthkjnpbbgfagkaaDoorJJ
set_option linter.unusedVariables false
set_option linter.unusedSimpArgs false
namespace Go.Proofs.YthkjnpbbgfagkaaDoor
open Go.RowKit

def encR (r : Rec) : List Value := [.int .i64 r.kind, .string r.path, .int .i64 r.num, .string r.sum]
theorem empty_size (s : ByteArray) : s.toList.isEmpty = decide (s.size = 0) := by
  rw [ByteArray.toList_eq]
  obtain ⟨⟨l⟩⟩ := s
  cases l
  · rfl
  · rfl
theorem nil_size (s : ByteArray) : s.toList = [] ↔ s.size = 0 := by
  rw [← List.isEmpty_iff, empty_size, decide_eq_true_eq]
theorem ret_bool {a b : Bool} (h : a = b) : Ending.returned (.bool a) = Ending.returned (.bool b) := by rw [h]

set_option maxRecDepth 100000 in
set_option maxHeartbeats 1000000 in
theorem may_any (r : Rec) (w : World) :
    Calls Tryd.prog 27 #[.agg (encR r).toArray] w fun e w' => e = .returned (.bool (mayR r)) ∧ Below w.heap.size w w' := by
  obtain ⟨k, p, n, s⟩ := r
  have HP := Lib.hid (nil_size p)
  have HE := Lib.hid (empty_size p)
  have hq : mayR ⟨k, p, n, s⟩ = decide (May ⟨k, p, n, s⟩) := rfl
  have HQ := Lib.hid hq
  clear hq
  simp only [encR]
  go_enter Tryd.func27, Tryd.ntmps27
  go_wp2
  all_goals
    go_ret
    refine ⟨ret_bool ?_, (Below.refl _ _).alloc (Nat.le_refl _) _⟩
    rw [HQ.out]
    rw [Bool.eq_iff_iff]
    (try simp only [HP.out, HE.out, beq_iff_eq, beq_eq_false_iff_ne, ne_eq, decide_eq_true_eq, decide_eq_false_iff_not] at *)
    simp only [beq_iff_eq, decide_eq_true_eq, May, Bool.false_eq_true, false_iff, Bool.and_eq_true]
    omega

set_option maxRecDepth 100000 in
set_option maxHeartbeats 1000000 in
theorem RMay_any (r : Rec) (w : World) :
    Calls Tryd.prog 31 #[.agg (encR r).toArray] w fun e w' => e = .returned (.bool (mayR r)) ∧ Below w.heap.size w w' := by
  obtain ⟨k, p, n, s⟩ := r
  have HP := Lib.hid (nil_size p)
  have HE := Lib.hid (empty_size p)
  have HS := Lib.hid (nil_size s)
  have HES := Lib.hid (empty_size s)
  have hq : mayR ⟨k, p, n, s⟩ = decide (May ⟨k, p, n, s⟩) := rfl
  have HQ := Lib.hid hq
  clear hq
  simp only [encR]
  go_enter Tryd.func31, Tryd.ntmps31
  go_wp2
  all_goals
    go_ret
    refine ⟨ret_bool ?_, (Below.refl _ _).alloc (Nat.le_refl _) _⟩
    rw [HQ.out]
    rw [Bool.eq_iff_iff]
    (try simp only [HP.out, HE.out, HS.out, HES.out, beq_iff_eq, beq_eq_false_iff_ne, ne_eq, decide_eq_true_eq, decide_eq_false_iff_not] at *)
    (try simp only [beq_iff_eq, decide_eq_true_eq, May, Bool.false_eq_true, false_iff, true_iff, Bool.and_eq_true, Bool.or_eq_true])
    omega
end Go.Proofs.YthkjnpbbgfagkaaDoor