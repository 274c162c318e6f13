import Derived.Test.YthkjnpbbgfagkaaDoorSame
set_option linter.unusedVariables false
set_option linter.unusedSimpArgs false
namespace Go.Proofs.YthkjnpbbgfagkaaDoor
open Go.RowKit Go.Maps

theorem wout_snoc_ne {l : List Rec} {r : Rec} {p : ByteArray} (h : r.path ≠ p) : wout (l ++ [r]) p = wout l p ++ [r] := by simp [wout, h]
theorem wout_snoc_eq {l : List Rec} {r : Rec} {p : ByteArray} (h : r.path = p) : wout (l ++ [r]) p = wout l p := by simp [wout, h]
theorem wout_len (l : List Rec) (p : ByteArray) : (wout l p).length ≤ l.length := List.length_filter_le _ _

set_option maxRecDepth 100000 in
set_option maxHeartbeats 1000000 in
theorem without_any (A : Option Addr) (n c : Nat) (l : List Rec) (q : ByteArray) (w : World) (hs : Sl 4 w A n (encs l)) (hn : n ≤ 1099511627776) :
    Calls Tryd.prog 39 #[.slice A n c, .string q] w fun e w' => ∃ v, e = .returned v ∧ w'.ownsRow w.heap.size 23 4 v (wout l q).length (encs (wout l q)) ∧ Below w.heap.size w w' := by
  have HL := Lib.hid hs.recs
  obtain ⟨i0, hi, hz0, hz1, hz2⟩ := info_parts info23
  go_enter Tryd.func39, Tryd.ntmps39
  go_wp2_with fail
  go_loopw [5, 10] (fun v a wr => ∃ i : Nat, a = .int .i64 i ∧ i ≤ n ∧ wr.ownsRow w.heap.size 23 4 v (wout (l.take i) q).length (encs (wout (l.take i) q)) ∧ Below w.heap.size w wr) (fun _ a _ => n - (intOf a).toNat)
  case atStart => exact ⟨0, rfl, by omega, World.ownsRow_nil _ _ _ _, Below.refl _ _⟩
  case round =>
    obtain ⟨i, rfl, hin, hown, hb⟩ := hrel
    rcases Nat.lt_or_ge i n with h | h
    · obtain ⟨b, o, k, p, m, s, rfl, hr, c0, c1, c2, c3⟩ := (hs.below hb).row4 h
      have hwl : (wout (l.take i) q).length ≤ i := by have := wout_len (l.take i) q; rw [List.length_take] at this; omega
      have htk := take_snoc hr
      have HT := Lib.hid htk
      clear htk hr
      have hown1 := hown.alloc (.cells (encR ⟨k, p, m, s⟩).toArray 23)
      have hbX := hb.alloc hb.size (.cells (encR ⟨k, p, m, s⟩).toArray 23)
      by_cases hp : p = q
      · have hw : wout (l.take i ++ [⟨k, p, m, s⟩]) q = wout (l.take i) q := wout_snoc_eq hp
        have HW := Lib.hid hw
        have HO := Lib.hid hown1
        have HB := Lib.hid hbX
        subst hp
        clear hw hown hown1 hbX hb hi hz0 hz1 hz2
        go_wp2_with fail
        go_roundw
        case rel => exact ⟨i+1, by go_num, by omega, by rw [HT.out, HW.out]; exact HO.out, HB.out⟩
        case measure => simp [intOf]; omega
      · have hw : wout (l.take i ++ [⟨k, p, m, s⟩]) q = wout (l.take i) q ++ [⟨k, p, m, s⟩] := wout_snoc_ne hp
        have HW := Lib.hid hw
        have hown2 := (hown1.alloc (.cells (encR ⟨k, p, m, s⟩).toArray 23))
        have hbY := hbX.alloc hbX.size (.cells (encR ⟨k, p, m, s⟩).toArray 23)
        obtain ⟨v3, w3, hap3, hown3, _, hb3⟩ := run_append_one (P := Tryd.prog) (w0 := w) w.heap.size 25 25 23 i0 _ 4 48 Tryd.underlying25 hi hz0 hz1 hz2 rfl (by decide) hown1 hbX (encR ⟨k, p, m, s⟩) rfl (encR_one _) 1 (by omega) (by omega) hbX.size
        rw [← encs_snoc] at hown3
        have HO3 := Lib.hid hown3
        have HB3 := Lib.hid hb3
        have hb1 := str_bne hp
        simp only [encR, World.size_alloc] at hap3 ⊢
        clear hown3 hb3 hown2 hbY hown1 hbX hown hb hi hz0 hz1 hz2 hw hp
        go_wp2_with (at_builtin; refine halt_in ?_)
        refine Halted.out (wpList_append_run rfl _ _ _ _ rfl rfl rfl hap3 ?_)
        clear hap3
        go_wp2_with fail
        go_roundw
        case rel => exact ⟨i+1, by go_num, by omega, by rw [HT.out, HW.out, List.length_append]; exact HO3.out, HB3.out⟩
        case measure => simp [intOf]; omega
    · obtain rfl : i = n := by omega
      have HO := Lib.hid hown
      have HB := Lib.hid hb
      clear hown hb
      go_wp2_with fail
      go_ret
      have := HL.out
      exact ⟨_, rfl, by have h2 := HO.out; rwa [List.take_of_length_le (by omega)] at h2, HB.out⟩
end Go.Proofs.YthkjnpbbgfagkaaDoor
