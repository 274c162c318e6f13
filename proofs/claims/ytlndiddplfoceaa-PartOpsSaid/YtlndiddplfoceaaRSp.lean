import Derived.Test.YtlndiddplfoceaaOps
set_option linter.unusedVariables false
set_option linter.unusedSimpArgs false
namespace Go.Proofs.Ytlndiddplfoceaa
open Go.RowKit
attribute [local go_sem] max2_I max_two_I

theorem ownDrewN {w : World} {base : Nat} {e : TypeId} {sz : Nat} {v : Value} {n : Nat} {cs : List Value} (h : w.ownsRow base e sz v n cs) (m : Nat) : (w.drewN m).ownsRow base e sz v n cs := own_below h (below_drewN (Below.refl _ _) m)
theorem mx_old (old : Int) : 0 ≤ mxI old 0 := by unfold mxI; split <;> omega
theorem mx_old_le (old : Int) (h : old ≤ 9223372036854775807) : mxI old 0 ≤ 9223372036854775807 := by unfold mxI; split <;> omega
set_option maxRecDepth 100000 in
set_option maxHeartbeats 20000000 in
theorem rsplit_any (A : Option Addr) (n c : Nat) (l : List OpV) (old M : Int) (w : World) (hM : mxI old 0 = M) (hs : Sl 3 w A n (encsO l)) (hn : n ≤ 1099511627776)
    (hlo : -9223372036854775808 ≤ old) (hhi : old ≤ 9223372036854775807) (hin : ∀ o ∈ l, -9223372036854775808 ≤ o.off ∧ o.off ≤ 9223372036854775807) :
    Calls Try.prog 11 #[.slice A n c, .int .i64 old] w fun e w' => ((∀ o ∈ l, ¬ BadO M o) ∧ (∃ v, e = .returned (.tuple #[v, .bool true]) ∧ w'.ownsRow w.heap.size 35 3 v n (encsO l)) ∨ (∃ o ∈ l, BadO M o) ∧ e = .returned (.tuple #[.slice none 0 0, .bool false])) ∧ Below w.heap.size w w' := by
  have HL := Lib.hid hs.ops
  obtain ⟨i0, hi, hz0, hz1, hz2⟩ := info_parts infoO
  have hm0 := mx_old old
  have hm1 := mx_old_le old hhi
  rw [hM] at hm0 hm1
  have HIN := Lib.hid hin
  clear hin
  go_enter Try.func11, Try.ntmps11
  go_wp2_with fail
  clear hM
  go_loopw [6, 7] (fun v a wr => ∃ i : Nat, a = .int .i64 i ∧ i ≤ n ∧ wr.ownsRow w.heap.size 35 3 v i (encsO (l.take i)) ∧ (∀ o ∈ l.take i, ¬ BadO M o) ∧ Below w.heap.size w wr) (fun _ a _ => n - (intOf a).toNat)
  case atStart => exact ⟨0, rfl, by omega, World.ownsRow_nil _ _ _ _, by simp, Below.refl _ _⟩
  case round =>
    obtain ⟨i, rfl, hin, hown, hall, hb⟩ := hrel
    have HALL := Lib.hid hall
    have HOW := Lib.hid hown
    have HB := Lib.hid hb
    clear hall hown hb
    rcases Nat.lt_or_ge i n with h | h
    · obtain ⟨b, o, x, rfl, hr, c0, c1, c2⟩ := (hs.below HB.out).row3 h
      have hmem : x ∈ l := List.mem_of_getElem? hr
      obtain ⟨hx0, hx1⟩ := HIN.out x hmem
      have HR := Lib.hid hr
      clear hmem hr
      by_cases h0 : x.n = 0
      · have h0i : ((x.n : Int) == 0) = true := by simp [h0]
        by_cases h1 : x.off < 0
        · clear hi hz0 hz1 hz2
          have e1 : decide (x.off < 0) = true := decide_eq_true h1
          go_wp2_with fail
          go_quiet (fail)
          go_wp2_with fail
          go_ret2
          exact ⟨.inr ⟨⟨x, List.mem_of_getElem? HR.out, by omega, by omega⟩, rfl⟩, below_drewN HB.out _⟩
        · by_cases h2 : x.len < 1
          · clear hi hz0 hz1 hz2
            have e1 : decide (x.off < 0) = false := decide_eq_false h1
            have e2 : decide (x.len < 1) = true := decide_eq_true h2
            go_wp2_with fail
            go_quiet (fail)
            go_wp2_with fail
            go_ret2
            exact ⟨.inr ⟨⟨x, List.mem_of_getElem? HR.out, by omega, by omega⟩, rfl⟩, below_drewN HB.out _⟩
          · by_cases h3 : M < x.off
            · clear hi hz0 hz1 hz2
              have e1 : decide (x.off < 0) = false := decide_eq_false h1
              have e2 : decide (x.len < 1) = false := decide_eq_false h2
              have e3 : decide (M < x.off) = true := decide_eq_true h3
              go_wp2_with fail
              go_quiet (fail)
              go_wp2_with fail
              go_ret2
              exact ⟨.inr ⟨⟨x, List.mem_of_getElem? HR.out, by omega, by omega⟩, rfl⟩, below_drewN HB.out _⟩
            · by_cases h4 : M - x.off < x.len
              · clear hi hz0 hz1 hz2
                have e1 : decide (x.off < 0) = false := decide_eq_false h1
                have e2 : decide (x.len < 1) = false := decide_eq_false h2
                have e3 : decide (M < x.off) = false := decide_eq_false h3
                have e4 : decide (M - x.off < x.len) = true := decide_eq_true h4
                go_wp2_with fail
                go_quiet (fail)
                go_wp2_with fail
                go_ret2
                exact ⟨.inr ⟨⟨x, List.mem_of_getElem? HR.out, by omega, by omega⟩, rfl⟩, below_drewN HB.out _⟩
              · have good : ¬ BadO M x := by unfold BadO; omega
                have e1 : decide (x.off < 0) = false := decide_eq_false h1
                have e2 : decide (x.len < 1) = false := decide_eq_false h2
                have e3 : decide (M < x.off) = false := decide_eq_false h3
                have e4 : decide (M - x.off < x.len) = false := decide_eq_false h4
                clear h0
                go_wp2_with fail
                go_quiet (fail)
                have hownD := ownDrewN HOW.out nq
                have hbD := below_drewN HB.out nq
                obtain ⟨v3, w3, hap3, hown3, _, hb3⟩ := run_append_one (P := Try.prog) (w0 := w) w.heap.size 22 22 35 i0 _ 3 40 Try.underlying22 hi hz0 hz1 hz2 rfl (by decide) hownD hbD (encO x) rfl (encO_one _) 1 (by omega) (by omega) hbD.size
                rw [← encsO_snoc, ← take_snocO HR.out] at hown3
                have HO3 := Lib.hid hown3
                have HB3 := Lib.hid hb3
                have HG := Lib.hid good
                simp only [encO] at hap3 ⊢
                clear hown3 hb3 hownD hbD hi hz0 hz1 hz2 good
                go_wp2_with (at_builtin; refine halt_in ?_)
                refine Halted.out (wpList_append_run rfl _ _ _ _ rfl rfl rfl hap3 ?_)
                clear hap3
                go_wp2_with fail
                go_roundw
                case rel => exact ⟨i+1, by go_num, by omega, HO3.out, fun y hy => (mem_take_snoc HR.out hy).elim (HALL.out y) (fun e => e ▸ HG.out), HB3.out⟩
                case measure => simp [intOf]; omega
      · have h0i : ((x.n : Int) == 0) = false := by simpa using h0
        have good : ¬ BadO M x := by unfold BadO; omega
        go_wp2_with fail
        go_quiet (fail)
        have hownD := ownDrewN HOW.out nq
        have hbD := below_drewN HB.out nq
        obtain ⟨v3, w3, hap3, hown3, _, hb3⟩ := run_append_one (P := Try.prog) (w0 := w) w.heap.size 22 22 35 i0 _ 3 40 Try.underlying22 hi hz0 hz1 hz2 rfl (by decide) hownD hbD (encO x) rfl (encO_one _) 1 (by omega) (by omega) hbD.size
        rw [← encsO_snoc, ← take_snocO HR.out] at hown3
        have HO3 := Lib.hid hown3
        have HB3 := Lib.hid hb3
        have HG := Lib.hid good
        simp only [encO] at hap3 ⊢
        clear hown3 hb3 hownD hbD hi hz0 hz1 hz2 good
        go_wp2_with (at_builtin; refine halt_in ?_)
        refine Halted.out (wpList_append_run rfl _ _ _ _ rfl rfl rfl hap3 ?_)
        clear hap3
        go_wp2_with fail
        go_roundw
        case rel => exact ⟨i+1, by go_num, by omega, HO3.out, fun y hy => (mem_take_snoc HR.out hy).elim (HALL.out y) (fun e => e ▸ HG.out), HB3.out⟩
        case measure => simp [intOf]; omega
    · obtain rfl : i = n := by omega
      clear hi hz0 hz1 hz2
      go_wp2_with fail
      go_ret2
      have hlen := HL.out
      have h2 := HOW.out
      have h3 := HALL.out
      rw [List.take_of_length_le (by omega)] at h2 h3
      exact ⟨.inl ⟨h3, _, rfl, h2⟩, HB.out⟩
end Go.Proofs.Ytlndiddplfoceaa
