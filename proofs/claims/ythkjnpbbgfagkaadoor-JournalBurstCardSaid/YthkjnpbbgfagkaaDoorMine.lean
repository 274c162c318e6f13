import Derived.Test.YthkjnpbbgfagkaaDoorRecs
set_option linter.unusedVariables false
set_option linter.unusedSimpArgs false
namespace Go.Proofs.YthkjnpbbgfagkaaDoor
open Go.RowKit

theorem Sl.recs {w : World} {A : Option Addr} {n : Nat} {l : List Rec} (h : Sl 4 w A n (encs l)) : l.length = n := by
  have := h.len; rw [encs_len] at this; omega
theorem take_snoc {l : List Rec} {i : Nat} {r : Rec} (h : l[i]? = some r) : l.take (i+1) = l.take i ++ [r] := by
  rw [List.take_add_one, h]; rfl

set_option maxRecDepth 100000 in
set_option maxHeartbeats 1000000 in
theorem mine_any (A : Option Addr) (n c : Nat) (l : List Rec) (w : World) (hs : Sl 4 w A n (encs l)) (hn : n ≤ 1099511627776) :
    Calls Tryd.prog 14 #[.slice A n c] w fun e w' => ∃ v, e = .returned v ∧ w'.ownsRow w.heap.size 31 4 v n (encs l) ∧ Below w.heap.size w w' := by
  have HL := Lib.hid hs.recs
  obtain ⟨i0, hi, hz0, hz1, hz2⟩ := info_parts info31
  go_enter Tryd.func14, Tryd.ntmps14
  go_wp2_with fail
  go_loopw [3, 8] (fun v a wr => ∃ i : Nat, a = .int .i64 i ∧ i ≤ n ∧ wr.ownsRow w.heap.size 31 4 v i (encs (l.take i)) ∧ Below w.heap.size w wr) (fun _ a _ => n - (intOf a).toNat)
  case atStart => exact ⟨0, rfl, by omega, World.ownsRow_nil _ _ _ _, Below.refl _ _⟩
  case round =>
    obtain ⟨i, rfl, hin, hown, hb⟩ := hrel
    rcases Nat.lt_or_ge i n with h | h
    · obtain ⟨b, o, k, p, m, s, rfl, hr, c0, c1, c2, c3⟩ := (hs.below hb).row4 h
      have hown2 := (hown.alloc (.cells (encR ⟨k, p, m, s⟩).toArray 23))
      have hbY := hb.alloc hb.size (.cells (encR ⟨k, p, m, s⟩).toArray 23)
      obtain ⟨v3, w3, hap3, hown3, _, hb3⟩ := run_append_one (P := Tryd.prog) (w0 := w) w.heap.size 32 32 31 i0 _ 4 48 Tryd.underlying32 hi hz0 hz1 hz2 rfl (by decide) hown2 hbY (encR ⟨k, p, m, s⟩) rfl (encR_one _) 1 (by omega) (by omega) hbY.size
      rw [← encs_snoc, ← take_snoc hr] at hown3
      have HO3 := Lib.hid hown3
      have HB3 := Lib.hid hb3
      simp only [encR, World.size_alloc] at hap3 ⊢
      clear hown3 hb3 hown2 hbY hown hb hi hz0 hz1 hz2
      go_wp2_with (at_builtin; refine halt_in ?_)
      refine Halted.out (wpList_append_run rfl _ _ _ _ rfl rfl rfl hap3 ?_)
      clear hap3
      go_wp2_with fail
      go_roundw
      case rel => exact ⟨i+1, by go_num, by omega, HO3.out, HB3.out⟩
      case measure => simp [intOf]; omega
    · obtain rfl : i = n := by omega
      have HO := Lib.hid hown
      have HB := Lib.hid hb
      clear hown hb
      go_wp2_with fail
      go_ret
      have := HL.out
      exact ⟨_, rfl, by have h2 := HO.out; rwa [List.take_of_length_le (by omega)] at h2, HB.out⟩
end Go.Proofs.YthkjnpbbgfagkaaDoor
