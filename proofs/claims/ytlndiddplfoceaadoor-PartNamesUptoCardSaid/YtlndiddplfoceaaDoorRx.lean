import Derived.Test.YtlndiddplfoceaaDoorRs
import Derived.Test.YtlndiddplfoceaaDoorPN
import Derived.Test.YtlndiddplfoceaaDoorNu
/-! The document's Text, and its Name. -/
set_option linter.unusedVariables false
set_option linter.unusedSimpArgs false
namespace Go.Proofs.YtlndiddplfoceaaDoor
open Go.RowKit

set_option maxRecDepth 100000 in
set_option maxHeartbeats 1000000 in
theorem rtext_any (s : ByteArray) (w : World) (hs : s.size ≤ 1099511627776) :
    Calls Tryd.prog 11 #[.string s] w fun e w' => e = .returned (.string (str (hexB s.data.toList))) ∧ Below w.heap.size w w' := by
  obtain ⟨j0, ji, jz0, jz1, jz2⟩ := info_parts infoB
  go_enter Tryd.func11, Tryd.ntmps11
  have hmk := run_make (P := Tryd.prog) (w := w) 26 5 j0 (.int .u8 0) Tryd.underlying26 ji jz0 .i64 .i64 0 (2 * (s.size : Int)) (by omega) (by omega) (by rw [jz2]; omega) (by omega)
  rw [show (0 : Int).toNat = 0 from rfl, show (2 * (s.size : Int)).toNat = 2 * s.size by omega, jz1] at hmk
  have hown0 := World.ownsRow_made (base := w.heap.size) (e := 5) (size := 1) w (madeCells (Value.int .u8 0).cells (2 * s.size * 1)) (2 * s.size) (Nat.le_refl _) (by unfold maxLen; omega) (size_madeCells _ _)
  have hb0 : Below w.heap.size w (w.alloc (.cells (madeCells (Value.int .u8 0).cells (2 * s.size * 1)) 5)) := (Below.refl _ _).alloc (Nat.le_refl _) _
  generalize w.alloc (.cells (madeCells (Value.int .u8 0).cells (2 * s.size * 1)) 5) = w1 at *
  have O2 := Lib.hid hown0
  have B2 := Lib.hid hb0
  clear hown0 hb0
  go_wp2_with fail
  clear hmk
  go_loopw [3, 4] (fun v u wr => ∃ i : Nat, u = .int .i64 i ∧ i ≤ s.size ∧ wr.ownsRow w.heap.size 5 1 v (2 * i) (bys (hexB (s.data.toList.take i))) ∧ Below w.heap.size w wr) (fun _ u _ => s.size - (intOf u).toNat)
  case atStart => exact ⟨0, rfl, by omega, O2.out, B2.out⟩
  case round =>
    obtain ⟨i, rfl, hi, hown, hb⟩ := hrel
    rcases Nat.lt_or_ge i s.size with h | h
    · obtain ⟨x, hxs⟩ : ∃ x, s[i]'h = x := ⟨_, rfl⟩
      have hx : s.data.toList[i]? = some x := by rw [data_at s i h, hxs]
      have htk : hexB (s.data.toList.take (i + 1)) = hexB (s.data.toList.take i) ++ [digU (x.toNat / 16), digU (x.toNat % 16)] := by rw [List.take_add_one, hx]; simp [hexB]
      have HTK := Lib.hid htk
      have hx8 : x.toNat < 256 := x.toNat_lt
      have q1 := fun h => dig_get (x.toNat / 16) h
      have q2 := fun h => dig_get (x.toNat % 16) h
      have m1 : IntKind.u8.wrap ((x.toNat : Int) / 16) = (x.toNat : Int) / 16 := by rw [IntKind.wrap_u8]; omega
      have m2 : (x.toNat : Int) / 16 < 16 := by omega
      have m7 : 0 ≤ (x.toNat : Int) / 16 := by omega
      have m8 : 0 ≤ (x.toNat : Int) % 16 := by omega
      have m3 : ((x.toNat : Int) / 16).toNat = x.toNat / 16 := by omega
      have m4 : (x.toNat : Int).tmod 16 = (x.toNat : Int) % 16 := Int.tmod_eq_emod_of_nonneg (by omega)
      have m5 : (x.toNat : Int) % 16 < 16 := by omega
      have m6 : ((x.toNat : Int) % 16).toNat = x.toNat % 16 := by omega
      have OW := Lib.hid hown
      have BE := Lib.hid hb
      clear hown hb hx htk
      have hownA := (OW.out.alloc (.cells #[bv (digU (x.toNat / 16)), bv (digU (x.toNat % 16))] 5)).drew
      have hslN : Sl 1 (wr.alloc (.cells #[bv (digU (x.toNat / 16)), bv (digU (x.toNat % 16))] 5)).drew (some ⟨wr.heap.size, 0, none⟩) 2 (bys [digU (x.toNat / 16), digU (x.toNat % 16)]) :=
        Sl.drew ⟨rfl, by omega, .inr ⟨_, 0, rfl, fun j u hj => by rw [World.cell?_alloc_new]; simpa [bys] using hj⟩⟩
      obtain ⟨v3, w3, hap, hown3, hg3, hob3⟩ := run_append_at (P := Tryd.prog) w.heap.size 26 26 5 j0 _ 1 1 Tryd.underlying26 ji jz0 jz1 jz2 rfl (by decide) hownA (c := 2) hslN (by omega) (bys_one _) (by omega) (by omega) (Nat.le_trans BE.out.size (by simp))
      rw [← bys_append, ← HTK.out] at hown3
      have hbel3 := ((BE.out.alloc BE.out.size (.cells #[bv (digU (x.toNat / 16)), bv (digU (x.toNat % 16))] 5)).drew).grown hg3 (Nat.le_trans BE.out.size (by simp)) (fun k hk => (hownA.lt k hk).1)
      have R3 := Lib.hid (And.intro hown3 hbel3)
      simp only [bv] at hap
      clear hown3 hg3 hob3 hbel3 hslN hownA ji jz0 jz1 jz2
      go_wp2_with fail
      go_region_law (refine step_append_run rfl (.tmp 15) (.tmp 26) 26 26 rfl (by simp [Act.eval, Act.put]) (by simp [Act.eval, Act.put]) hap ?_)
      all_goals
        clear q1 q2 m1 m2 m3 m4 m5 m6 m7 m8 hap
        go_wp2_with fail
        go_roundw
        case rel => exact ⟨i + 1, by go_num, by omega, by have := R3.out.1; rwa [show 2 * i + 2 = 2 * (i + 1) by omega] at this, R3.out.2⟩
        case measure => simp [intOf]; omega
    · have ei : i = s.size := by omega
      have hfin : wr.ownsRow w.heap.size 5 1 u3 (2 * s.size) (bys (hexB s.data.toList)) := by
        rw [ei] at hown
        rwa [List.take_of_length_le (by rw [Array.length_toList]; exact Nat.le_refl _)] at hown
      obtain ⟨Af, cf, rfl, hcf, hslf, _, _⟩ := own_sl hfin
      have hcv2 := run_conv_str (P := Tryd.prog) (src := 26) Tryd.underlying26 Tryd.underlying5 (dst := 9) Tryd.underlying9 (c := cf) hslf
      have BE := Lib.hid hb
      clear hown hb hfin hslf ei
      go_wp2_with fail
      go_ret
      exact ⟨rfl, BE.out⟩
set_option maxRecDepth 100000 in
set_option maxHeartbeats 1000000 in
theorem rname_any (s : ByteArray) (w : World) (hs : s.size ≤ 1099511627776) (hT : TabK w) (h0 : 0 < w.heap.size) :
    Calls Tryd.prog 5 #[.string s] w fun e w' => e = .returned (.string (str (nameB s.data.toList))) ∧ Below w.heap.size w w' := by
  obtain ⟨c1, w1, hcv, hc1, hsl1, hb1, hlt1⟩ := conv_bytes (P := Tryd.prog) w 9 26 5 s Tryd.underlying9 Tryd.underlying26 Tryd.underlying5 (by omega)
  have S1 := Lib.hid hsl1
  have B1 := Lib.hid hb1
  have T1 := Lib.hid (hT.below hb1 h0)
  have Z1 := Lib.hid (Nat.lt_of_lt_of_le h0 hb1.size)
  have L1 := Lib.hid (shaB_len s.data.toList)
  clear hsl1 hb1 hlt1 hT
  go_enter Tryd.func5, Tryd.ntmps5
  go_wp2_with fail
  refine (rsum_any _ _ _ s.data.toList w1 S1.out (by omega) T1.out Z1.out).mono ?_
  rintro e w2 ⟨rfl, hb2⟩
  have B2 := Lib.hid (B1.out.trans (hb2.mono B1.out.size))
  clear hb2
  go_wp2_with fail
  refine (rtext_any _ w2 (by rw [str_size, L1.out]; decide)).mono ?_
  rintro e w3 ⟨rfl, hb3⟩
  have B3 := Lib.hid (B2.out.trans (hb3.mono B2.out.size))
  clear hb3
  have hz : (str (hexB (str (shaB s.data.toList)).data.toList)).size = 64 := by rw [str_size, hexB_len, str_data, L1.out]
  go_wp2_with fail
  go_ret
  exact ⟨by rw [← nameB_str, str_data]; rfl, B3.out⟩
end Go.Proofs.YtlndiddplfoceaaDoor
