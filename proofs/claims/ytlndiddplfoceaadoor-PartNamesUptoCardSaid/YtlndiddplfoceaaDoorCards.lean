/-
  DERIVED. GIVEN WITH THE SEED: THE CARDS: each row of YtlndiddplfoceaaDoorRows.lean that lists a variable, with what it lists TIED to the program's text (the seventh form; the later family's looks); each row that meets fmt, with fmt's text TOLD by the authors' own Lean function (tested against real Go, not proved from fmt's source: count such statements apart). THE CARD IS WHAT COUNTS. Prove the row's statement (the work); the ties are given (YtlndiddplfoceaaDoorTie.lean); close each card by the builder's one call (the guide's Derived/Test/ToyasCard.lean, 'card_holds'). Laid BY PROGRAM, IN A SANDBOX (cutbox-door.mjs). By AI agents, Wed Nov 11 2026. No macro, syntax, notation, axiom, sorry.
-/
import Derived.Test.YtlndiddplfoceaaDoorRows
import GoSem.ClaimSeven
namespace Go.Proofs.YtlndiddplfoceaaDoor
namespace Rows

/-- THE TIED CARD OF 'remoralaw35.PartNames'. -/
def partNamesCard : Claim7 := { stood := { row := partNamesRow, standIns := [], harness := (true, "f83b2d5359b72e31ba5f15df26da53219d098db8c113c0f165b1f48faee81307"), looks := false }, kinds := [], alts := [], laidByText := true, laidKinds := [.data], laidTests := true, laidLooks := .later }
def PartNamesCardSaid : Prop := Claim7.holds Tryd.pinned (.plain (OpenSpec.ofChange partNamesSpec)) partNamesCard

/-- THE SECOND FORM's CARD OF 'remoralaw35.PartNames'. -/
def partNamesUptoCard : Claim7 := { stood := { row := partNamesUptoRow, standIns := [], harness := (true, "f83b2d5359b72e31ba5f15df26da53219d098db8c113c0f165b1f48faee81307"), looks := false }, kinds := [], alts := [], laidByText := true, laidKinds := [.data], laidTests := true, laidLooks := .later }
def PartNamesUptoCardSaid : Prop := Claim7.holds Tryd.pinned (.plain (OpenSpec.upto partNamesSpec)) partNamesUptoCard
end Rows
end Go.Proofs.YtlndiddplfoceaaDoor
