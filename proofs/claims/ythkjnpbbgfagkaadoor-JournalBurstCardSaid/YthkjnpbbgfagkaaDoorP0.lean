import Derived.Test.YthkjnpbbgfagkaaDoorRows
import Derived.Test.YthkjnpbbgfagkaaDoorTie
import Derived.Test.YthkjnpbbgfagkaaDoorCards
import Derived.Test.YthkjnpbbgfagkaaDoorL3
import Derived.ProofKit
import Derived.SizedLaws
import Derived.LaidLaws
import Derived.LaidMore
import Derived.OpenShut
import Derived.Stop.Joined
import Derived.SevenTiedAt
import Derived.Lib.LaidTab
import Derived.Lib.SmallJoins
set_option linter.unusedVariables false
set_option linter.unusedSimpArgs false
namespace Go.Proofs.YthkjnpbbgfagkaaDoor
open Go.ChangeShapes Go.WideShapes Go.ChangeAt Go.RowKit Go.Joins

theorem own : ownKnob Tryd.prog.godebug = none := by kernel_rfl
theorem laidOut : laidOutB Tryd.prog = true := by kernel_rfl
theorem gT : Tryd.prog.globalNamed "remora/crc.table" = some 0 := by kernel_rfl
abbrev laid1 : List (String × DataW Unit) := [("remora/crc.table", Rows.laid_remora_crc_table)]
def crcZ : List Int := tabL.map fun n : Nat => (n : Int)
theorem laid1_tab : Rows.laid_remora_crc_table (H := Unit) = Lib.tabData .u32 crcZ := by rfl
theorem door_met (os : Os) (args : Array Value) : laidMetH Tryd.prog laid1 ((World.doorLaid Tryd.prog 400 os).forCall (fun _ _ => 0) ⟨#[], args, []⟩).memory :=
  laidMetH_of_parts3 (fuel := 8) (laidMet_of_run' 8 (by kernel_rfl) (by kernel_rfl)) (by kernel_rfl) (by kernel_rfl)
theorem gTT : (Tryd.prog.globals[0]?).map (·.type) = some 89 := by kernel_rfl
theorem cells48 : Tryd.prog.cellsOf 48 = 1 := by kernel_rfl
theorem cells89 : Tryd.prog.cellsOf 89 = 16 := by kernel_rfl
theorem laid_tab {W : World} (h : laidMetH Tryd.prog laid1 W) : Tab W ∧ 0 < W.heap.size := by
  rw [MakeChecks.laidMetH_plain _ _ _ (by kernel_rfl)] at h
  unfold laid1 at h
  rw [laid1_tab] at h
  have hT := Lib.tabIs_of_head gT gTT Tryd.underlying89 Tryd.underlying48 cells48 cells89 h
  have hc : Tab W := fun i hi => by
    have := hT.cell gT i (by simpa [crcZ, tabL] using hi)
    rw [this]
    congr 2
    unfold crcZ tabAt
    rw [List.getD_eq_getElem?_getD, List.getD_eq_getElem?_getD, List.getElem?_map]
    cases tabL[i]? <;> rfl
  exact ⟨hc, World.block_lt_of_cell? W _ (hc 0 (by omega))⟩
end Go.Proofs.YthkjnpbbgfagkaaDoor
