import Derived.Test.YtlndiddplfoceaaDoorPSp
import Derived.Test.YtlndiddplfoceaaDoorPV
set_option linter.unusedVariables false
set_option linter.unusedSimpArgs false
namespace Go.Proofs.YtlndiddplfoceaaDoor
open Go.RowKit

attribute [local go_sem] str_toList
def xo : OpV := ⟨2, 3, none, 0, 0, []⟩
theorem sl_xo (w : World) : Sl 3 (w.alloc (.cells (encO xo).toArray 32)) (some ⟨w.heap.size, 0, none⟩) 1 (encsO [xo]) :=
  ⟨rfl, by omega, .inr ⟨_, 0, rfl, fun j u hj => by rw [World.cell?_alloc_new]; simpa [encsO] using hj⟩⟩
theorem split_bad (w : World) (c : Nat) : Calls Tryd.prog 15 #[.slice (some ⟨w.heap.size, 0, none⟩) 1 c, .int .i64 4] (w.alloc (.cells #[.int .i64 2, .int .i64 3, .slice none 0 0] 32)) fun e w' => e = .returned (.tuple #[.slice none 0 0, .bool false]) ∧ Below w.heap.size w w' := by
  refine (psplit_any _ 1 c [xo] 4 4 _ rfl (sl_xo w) (by omega) (by omega) (by omega) (by simp [xo]) (by intro o ho; simp only [List.mem_singleton] at ho; subst ho; exact ⟨Sl.nil _ _ _, by simp [xo]⟩)).mono ?_
  rintro e w' ⟨h, hb⟩
  refine ⟨?_, ((Below.refl _ _).alloc (Nat.le_refl _) _).trans (hb.mono (by simp))⟩
  rcases h with ⟨hno, _⟩ | ⟨_, rfl⟩
  · exact absurd (show BadO 4 xo by decide) (hno xo (by simp))
  · rfl
theorem split_ok (w : World) (c : Nat) : Calls Tryd.prog 15 #[.slice (some ⟨w.heap.size, 0, none⟩) 1 c, .int .i64 5] (w.alloc (.cells #[.int .i64 2, .int .i64 3, .slice none 0 0] 32)) fun e w' => (∃ A c', e = .returned (.tuple #[.slice A 1 c', .bool true])) ∧ Below w.heap.size w w' := by
  refine (psplit_any _ 1 c [xo] 5 5 _ rfl (sl_xo w) (by omega) (by omega) (by omega) (by simp [xo]) (by intro o ho; simp only [List.mem_singleton] at ho; subst ho; exact ⟨Sl.nil _ _ _, by simp [xo]⟩)).mono ?_
  rintro e w' ⟨h, hb⟩
  refine ⟨?_, ((Below.refl _ _).alloc (Nat.le_refl _) _).trans (hb.mono (by simp))⟩
  rcases h with ⟨_, v, l', rfl, hown, _⟩ | ⟨⟨o, ho, hbad⟩, _⟩
  · obtain ⟨A, c', rfl, _⟩ := own_sl hown
    exact ⟨A, c', rfl⟩
  · simp only [List.mem_singleton] at ho; subst ho
    exact absurd hbad (by decide)
set_option maxRecDepth 100000 in
set_option maxHeartbeats 1000000 in
theorem awake_any (w : World) : Calls Tryd.prog 8 #[] w fun e w' => e = .returned (.bool true) ∧ Below w.heap.size w w' := by
  go_enter Tryd.func8, Tryd.ntmps8
  go_wp2_with fail
  refine (split_bad w _).mono ?_
  rintro e w1 ⟨rfl, hb1⟩
  have B1 := Lib.hid hb1
  clear hb1
  go_wp2_with fail
  refine (split_ok w1 _).mono ?_
  rintro e w2 ⟨⟨A2, c2, rfl⟩, hb2⟩
  have B2 := Lib.hid (B1.out.trans (hb2.mono B1.out.size))
  clear hb2
  go_wp2_with fail
  refine (name_any ⟨#[97]⟩ w2 (by decide)).mono ?_
  rintro e w3 ⟨rfl, hb3⟩
  have B3 := Lib.hid (B2.out.trans (hb3.mono B2.out.size))
  clear hb3
  rw [show (⟨#[97]⟩ : ByteArray).data.toList = [97] from rfl, nameB_a]
  go_wp2_with fail
  go_ret
  exact ⟨rfl, B3.out⟩
end Go.Proofs.YtlndiddplfoceaaDoor
