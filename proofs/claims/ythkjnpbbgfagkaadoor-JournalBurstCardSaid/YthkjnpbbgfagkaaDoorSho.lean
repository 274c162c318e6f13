import Derived.Test.YthkjnpbbgfagkaaDoorOpn
set_option linter.unusedVariables false
set_option linter.unusedSimpArgs false
namespace Go.Proofs.YthkjnpbbgfagkaaDoor
open Go.RowKit Go.Maps

/-- The fewest records of one that is open. -/
def sho1 (r : Rec) : List Rec := if 0 < r.num then [{ r with num := 0 }, ⟨2, r.path, r.num, str []⟩] else [{ r with num := 0 }]
def shoL (l : List Rec) : List Rec := l.flatMap sho1
theorem shoL_snoc (l : List Rec) (r : Rec) : shoL (l ++ [r]) = shoL l ++ sho1 r := by simp [shoL]
theorem sho1_len (r : Rec) : (sho1 r).length ≤ 2 := by unfold sho1; split <;> simp
theorem shoL_len (l : List Rec) : (shoL l).length ≤ 2 * l.length := by
  induction l with
  | nil => simp [shoL]
  | cons r l ih => have := sho1_len r; simp only [shoL, List.flatMap_cons, List.length_append, List.length_cons] at ih ⊢; omega
theorem encs_app (a b : List Rec) : encs (a ++ b) = encs a ++ encs b := by simp [encs]

set_option maxRecDepth 100000 in
set_option maxHeartbeats 4000000 in
theorem Sho_any (A : Option Addr) (n c : Nat) (l : List Rec) (w : World) (hs : Sl 4 w A n (encs l)) (hn : n ≤ 1099511627776) :
    Calls Tryd.prog 21 #[.slice A n c] w fun e w' => ∃ v, e = .returned v ∧ w'.ownsRow w.heap.size 31 4 v (shoL (openL l)).length (encs (shoL (openL l))) ∧ Below w.heap.size w w' := by
  have hln := hs.recs
  obtain ⟨i0, hi, hz0, hz1, hz2⟩ := info_parts info31
  go_enter Tryd.func21, Tryd.ntmps21
  go_wp2_with fail
  refine (Opn_any _ _ _ _ _ hs hn).mono ?_
  rintro e w1 ⟨v, rfl, hown, hb1⟩
  have hacc : (openL l).length ≤ n := by have := openL_len l; omega
  generalize hA : openL l = acc at hown hacc
  have HA := Lib.hid hA
  have HB1 := Lib.hid hb1
  clear hA hb1 hs hln
  obtain ⟨A2, k2, rfl, hk2, hsl, _, _⟩ := own_sl hown
  clear hown
  go_wp2_with fail
  go_loopw [3, 10] (fun v a wr => ∃ i : Nat, a = .int .i64 i ∧ i ≤ acc.length ∧ wr.ownsRow w1.heap.size 31 4 v (shoL (acc.take i)).length (encs (shoL (acc.take i))) ∧ Below w1.heap.size w1 wr) (fun _ a _ => acc.length - (intOf a).toNat)
  case atStart => exact ⟨0, rfl, by omega, World.ownsRow_nil _ _ _ _, Below.refl _ _⟩
  case round =>
    obtain ⟨i, rfl, hin, hown, hb⟩ := hrel
    rcases Nat.lt_or_ge i acc.length with h | h
    · obtain ⟨b, o, k, p, m, s, rfl, hr, c0, c1, c2, c3⟩ := (hsl.below hb).row4 h
      have hlen : (shoL (acc.take i)).length ≤ 2 * i := by have := shoL_len (acc.take i); rw [List.length_take] at this; omega
      have htk := take_snoc hr
      have HT := Lib.hid htk
      clear htk
      have hown2 := (hown.alloc (.cells (encR ⟨k, p, 0, s⟩).toArray 31))
      have hbY := hb.alloc hb.size (.cells (encR ⟨k, p, 0, s⟩).toArray 31)
      obtain ⟨v3, w3, hap3, hown3, hg3, hb3⟩ := run_append_one (P := Tryd.prog) (w0 := w1) w1.heap.size 32 32 31 i0 _ 4 48 Tryd.underlying32 hi hz0 hz1 hz2 rfl (by decide) hown2 hbY (encR ⟨k, p, 0, s⟩) rfl (encR_one _) 1 (by omega) (by omega) hbY.size
      have hown3' := hown3
      rw [← encs_snoc] at hown3
      simp only [encR, World.size_alloc] at hap3
      by_cases hm : 0 < m
      · have hs1 : sho1 ⟨k, p, m, s⟩ = [⟨k, p, 0, s⟩, ⟨2, p, m, str []⟩] := if_pos hm
        have HS1 := Lib.hid hs1
        clear hs1
        have hbx := ((Box4.mk_alloc wr ⟨k, p, 0, s⟩ 31).below ((Below.refl _ _).alloc (Nat.le_refl _) (.cells (encR ⟨k, p, 0, s⟩).toArray 31)))
        have hrow := fun k' hk => (hown.lt k' hk).2
        have y1 : w3.cell? ⟨wr.heap.size, 1, none⟩ = some (.string p) := hg3.cell hbx.c1 (by
          intro e
          have := hrow _ e.symm
          simp only at this; omega)
        obtain ⟨v4, w4, hap4, hown4, hg4, hb4⟩ := run_append_one (P := Tryd.prog) (w0 := w1) w1.heap.size 32 32 31 i0 _ 4 48 Tryd.underlying32 hi hz0 hz1 hz2 rfl (by decide) hown3 hb3 (encR ⟨2, p, m, str []⟩) rfl (encR_one _) 1 (by omega) (by omega) hb3.size
        rw [← encs_snoc] at hown4
        simp only [encR, World.size_alloc] at hap4
        have hsz3 : wr.heap.size < w3.heap.size := World.block_lt_of_cell? w3 _ y1
        have HO4 := Lib.hid hown4
        have HB4 := Lib.hid hb4
        clear hown4 hb4 hg4 hown3 hb3 hown2 hbY hown hb hi hz0 hz1 hz2 hown3' hg3 hbx hrow
        go_wp2_with (at_builtin; refine halt_in ?_)
        refine Halted.out (wpList_append_run rfl _ _ _ _ rfl rfl rfl hap3 ?_)
        clear hap3
        go_wp2_with (at_builtin; refine halt_in ?_)
        refine Halted.out (wpList_append_run rfl _ _ _ _ rfl rfl rfl hap4 ?_)
        clear hap4
        go_wp2_with fail
        go_roundw
        case rel => exact ⟨i+1, by go_num, by omega, by rw [HT.out, shoL_snoc, HS1.out, List.length_append]; have h4 := HO4.out; rw [List.append_assoc] at h4; exact h4, HB4.out⟩
        case measure => simp [intOf]; omega
      · have hs1 : sho1 ⟨k, p, m, s⟩ = [⟨k, p, 0, s⟩] := if_neg hm
        have HS1 := Lib.hid hs1
        clear hs1
        have HO3 := Lib.hid hown3
        have HB3 := Lib.hid hb3
        clear hown3 hb3 hown2 hbY hown hb hi hz0 hz1 hz2 hown3' hg3
        go_wp2_with (at_builtin; refine halt_in ?_)
        refine Halted.out (wpList_append_run rfl _ _ _ _ rfl rfl rfl hap3 ?_)
        clear hap3
        go_wp2_with fail
        go_roundw
        case rel => exact ⟨i+1, by go_num, by omega, by rw [HT.out, shoL_snoc, HS1.out, List.length_append]; exact HO3.out, HB3.out⟩
        case measure => simp [intOf]; omega
    · obtain rfl : i = acc.length := by omega
      have HO := Lib.hid hown
      have HB := Lib.hid hb
      clear hown hb
      go_wp2_with fail
      go_ret
      refine ⟨_, rfl, ?_, HB1.out.trans (HB.out.mono HB1.out.size)⟩
      have h3 := own_base_mono HO.out HB1.out.size
      rw [List.take_length] at h3
      rw [HA.out]; exact h3
end Go.Proofs.YthkjnpbbgfagkaaDoor
