import Derived.Test.YthkjnpbbgfagkaaDoorROneA
set_option linter.unusedVariables false
set_option linter.unusedSimpArgs false
namespace Go.Proofs.YthkjnpbbgfagkaaDoor
open Go.RowKit

theorem info23 : (Tryd.prog.info? 23).map (fun i => (i.zero, i.size, i.bytes)) = some (some (.agg #[.int .i64 0, .string ⟨#[]⟩, .int .i64 0, .string ⟨#[]⟩]), 4, 48) := by kernel_rfl

set_option maxRecDepth 100000 in
set_option maxHeartbeats 1000000 in
theorem RAll_any (A : Option Addr) (n c : Nat) (bs : List UInt8) (w : World) (hs : Sl 1 w A n (bys bs)) (hn : n ≤ 1099511627776) (hc : n ≤ c) :
    Calls Tryd.prog 17 #[.slice A n c] w fun e w' => ∃ v, e = .returned (.tuple #[v, .int .i64 (allR n bs).2]) ∧ w'.ownsRow w.heap.size 23 4 v (allR n bs).1.length (encs (allR n bs).1) ∧ Below w.heap.size w w' := by
  have hl : bs.length = n := by have := hs.len; simpa [bys] using this
  have HL := Lib.hid hl
  clear hl
  obtain ⟨i0, hi, hz0, hz1, hz2⟩ := info_parts info23
  go_enter Tryd.func17, Tryd.ntmps17
  go_wp2_with fail
  go_loopw [4, 5] (fun v a wr => ∃ q f : Nat, ∃ recs : List Rec, a = .int .i64 q ∧ q ≤ n ∧ recs.length ≤ q ∧ n - q ≤ f ∧ wr.ownsRow w.heap.size 23 4 v recs.length (encs recs) ∧ Below w.heap.size w wr ∧ allR n bs = (recs ++ (allR f (bs.drop q)).1, q + (allR f (bs.drop q)).2)) (fun _ a _ => n - (intOf a).toNat)
  case atStart => exact ⟨0, n, [], rfl, by omega, by simp, by omega, World.ownsRow_nil _ _ _ _, Below.refl _ _, by simp⟩
  case round =>
    obtain ⟨q, f, recs, rfl, hq, hrq, hf, hown, hb, heq⟩ := hrel
    have HE := Lib.hid heq
    clear heq
    have hsr := (hs.below hb)
    rcases oneR_cases (bs.drop q) with hz | ⟨r, k, ho, hk, hkl⟩
    · have HZ := Lib.hid hz
      clear hz
      go_wp2_with fail
      refine (ROne_any _ _ _ _ _ _ hsr hn hc hq).mono ?_
      rintro e w1 ⟨rfl, hb1⟩
      rw [HZ.out, roneV, if_pos rfl]
      simp only [encR, zeroRec]
      have HO := Lib.hid (own_below hown hb1)
      have HB := Lib.hid (hb.trans (hb1.mono hb.size))
      clear hown hb hb1
      go_wp2_with fail
      go_ret2
      have hend : allR n bs = (recs, q) := by rw [HE.out, allR_none (by rw [HZ.out])]; simp
      refine ⟨_, by rw [hend]; rfl, by rw [hend]; exact HO.out.alloc _, (HB.out).alloc HB.out.size _⟩
    · have hkl' : k ≤ n - q := by rw [List.length_drop, HL.out] at hkl; exact hkl
      obtain ⟨f, rfl⟩ : ∃ f', f = f' + 1 := ⟨f - 1, by omega⟩
      have HO := Lib.hid ho
      have hst := allR_some (f := f) ho hk
      have HST := Lib.hid hst
      clear ho hst hkl
      go_wp2_with fail
      refine (ROne_any _ _ _ _ _ _ hsr hn hc hq).mono ?_
      rintro e w1 ⟨rfl, hb1⟩
      rw [HO.out, roneV, if_neg (by omega)]
      have hown1 := own_below hown hb1
      have hbX := hb.trans (hb1.mono hb.size)
      have hown2 := hown1.alloc (.cells (encR r).toArray 23)
      have hbY := hbX.alloc hbX.size (.cells (encR r).toArray 23)
      obtain ⟨v3, w3, hap3, hown3, _, hb3⟩ := run_append_one (P := Tryd.prog) (w0 := w) w.heap.size 25 25 23 i0 _ 4 48 Tryd.underlying25 hi hz0 hz1 hz2 rfl (by decide) hown2 hbY (encR r) rfl (encR_one r) 1 (by omega) (by omega) hbY.size
      rw [← encs_snoc] at hown3
      have HO3 := Lib.hid hown3
      have HB3 := Lib.hid hb3
      simp only [encR, World.size_alloc] at hap3 ⊢
      clear hown3 hb3 hown1 hown2 hbX hbY hown hb hb1 hi hz0 hz1 hz2
      go_wp2_with (at_builtin; refine halt_in ?_)
      refine Halted.out (wpList_append_run rfl _ _ _ _ rfl rfl rfl hap3 ?_)
      clear hap3
      go_wp2_with fail
      go_roundw
      case rel => exact ⟨q + k, f, recs ++ [r], by go_num, by omega, by simp; omega, by omega, by rw [List.length_append]; exact HO3.out, HB3.out, by rw [HE.out, HST.out, List.drop_drop]; simp [Nat.add_assoc]⟩
      case measure => simp [intOf]; omega
end Go.Proofs.YthkjnpbbgfagkaaDoor
