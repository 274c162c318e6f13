import Derived.Test.YtlndiddplfoceaaDoorShA
set_option linter.unusedVariables false
set_option linter.unusedSimpArgs false
namespace Go.Proofs.YtlndiddplfoceaaDoor
open Go.RowKit

def homeB : List UInt8 := [46, 114, 101, 109, 111, 114, 97, 47]
def nameB (l : List UInt8) : List UInt8 := homeB ++ (hexB (shaB l)).take 32
theorem hexB_len (l : List UInt8) : (hexB l).length = 2 * l.length := by
  unfold hexB; induction l with
  | nil => rfl
  | cons a l ih => rw [List.flatMap_cons, List.length_append, ih]; simp; omega
theorem nameB_str (l : List UInt8) : (⟨#[46, 114, 101, 109, 111, 114, 97, 47]⟩ : ByteArray) ++ (str (hexB (shaB l))).extract 0 32 = str (nameB l) := by
  apply ByteArray.ext
  simp [str, nameB, homeB]
theorem shaB_len (b : List UInt8) : (shaB b).length = 32 := by unfold shaB sumX; rw [digB_len]; rfl
set_option maxRecDepth 100000 in
set_option maxHeartbeats 1000000 in
theorem name_any (s : ByteArray) (w : World) (hs : s.size ≤ 1099511627776) :
    Calls Tryd.prog 4 #[.string s] w fun e w' => e = .returned (.string (str (nameB s.data.toList))) ∧ Below w.heap.size w w' := by
  obtain ⟨c1, w1, hcv, hc1, hsl1, hb1, hlt1⟩ := conv_bytes (P := Tryd.prog) w 9 26 5 s Tryd.underlying9 Tryd.underlying26 Tryd.underlying5 (by omega)
  have S1 := Lib.hid hsl1
  have B1 := Lib.hid hb1
  have L1 := Lib.hid (shaB_len s.data.toList)
  clear hsl1 hb1 hlt1
  go_enter Tryd.func4, Tryd.ntmps4
  go_wp2_with fail
  refine (sum_any _ _ _ s.data.toList w1 S1.out hc1 (by omega)).mono ?_
  rintro e w2 ⟨rfl, hb2⟩
  have B2 := Lib.hid (B1.out.trans (hb2.mono B1.out.size))
  clear hb2
  go_wp2_with fail
  refine (text_any _ w2 (by rw [str_size, L1.out]; decide)).mono ?_
  rintro e w3 ⟨rfl, hb3⟩
  have B3 := Lib.hid (B2.out.trans (hb3.mono B2.out.size))
  clear hb3
  have hz : (str (hexB (str (shaB s.data.toList)).data.toList)).size = 64 := by rw [str_size, hexB_len, str_data, L1.out]
  go_wp2_with fail
  go_ret
  exact ⟨by rw [← nameB_str, str_data]; rfl, B3.out⟩
end Go.Proofs.YtlndiddplfoceaaDoor
