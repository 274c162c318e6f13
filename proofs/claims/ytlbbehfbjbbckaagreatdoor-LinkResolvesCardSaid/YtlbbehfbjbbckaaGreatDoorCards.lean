/-
  DERIVED. GIVEN WITH THE SEED: THE CARDS: each row of YtlbbehfbjbbckaaGreatDoorRows.lean that lists a variable, with what it lists TIED to the program's text (the seventh form; the later family's looks); each row that meets fmt, with fmt's text TOLD by the authors' own Lean function (tested against real Go, not proved from fmt's source: count such statements apart). THE CARD IS WHAT COUNTS. Prove the row's statement (the work); the ties are given (YtlbbehfbjbbckaaGreatDoorTie.lean); close each card by the builder's one call (the guide's Derived/Test/ToyasCard.lean, 'card_holds'). Laid BY PROGRAM, IN A SANDBOX (cutbox-door.mjs). By AI agents, Wed Nov 11 2026. No macro, syntax, notation, axiom, sorry.
-/
import Derived.Test.YtlbbehfbjbbckaaGreatDoorRows
import GoSem.ClaimSeven
namespace Go.Proofs.YtlbbehfbjbbckaaGreatDoor
namespace Rows

/-- THE TIED CARD OF 'remoralaw18.LinkResolves'. -/
def linkResolvesCard : Claim7 := { stood := { row := linkResolvesRow, standIns := [], harness := (true, "63f8b14539c5237dea00341c6498ffcc5c4eebeb6938525979321131077b2a08"), looks := false }, kinds := [], alts := [], laidByText := true, laidKinds := [.data, .pinned], laidTests := true, laidLooks := .later }
def LinkResolvesCardSaid : Prop := Claim7.holds Tryz.pinned (.plain (OpenSpec.ofChange linkResolvesSpec)) linkResolvesCard

/-- THE TIED CARD OF 'remoralaw35.PartPlays'. -/
def partPlaysCard : Claim7 := { stood := { row := partPlaysRow, standIns := [], harness := (true, "63f8b14539c5237dea00341c6498ffcc5c4eebeb6938525979321131077b2a08"), looks := false }, kinds := [], alts := [], laidByText := true, laidKinds := [.data], laidTests := true, laidLooks := .later }
def PartPlaysCardSaid : Prop := Claim7.holds Tryz.pinned (.plain (OpenSpec.ofChange partPlaysSpec)) partPlaysCard

/-- THE TIED CARD OF 'remoralaw18.LinkWithin'. -/
def linkWithinCard : Claim7 := { stood := { row := linkWithinRow, standIns := [], harness := (true, "63f8b14539c5237dea00341c6498ffcc5c4eebeb6938525979321131077b2a08"), looks := false }, kinds := [], alts := [], laidByText := true, laidKinds := [.data, .pinned], laidTests := true, laidLooks := .later }
def LinkWithinCardSaid : Prop := Claim7.holds Tryz.pinned (.plain (OpenSpec.ofChange linkWithinSpec)) linkWithinCard

/-- THE TIED CARD OF 'remoralaw18.LinkGroups'. -/
def linkGroupsCard : Claim7 := { stood := { row := linkGroupsRow, standIns := [], harness := (true, "63f8b14539c5237dea00341c6498ffcc5c4eebeb6938525979321131077b2a08"), looks := false }, kinds := [], alts := [], laidByText := true, laidKinds := [.data, .pinned], laidTests := true, laidLooks := .later }
def LinkGroupsCardSaid : Prop := Claim7.holds Tryz.pinned (.plain (OpenSpec.ofChange linkGroupsSpec)) linkGroupsCard

/-- THE TIED CARD OF 'remoralaw18.LinkInos'. -/
def linkInosCard : Claim7 := { stood := { row := linkInosRow, standIns := [], harness := (true, "63f8b14539c5237dea00341c6498ffcc5c4eebeb6938525979321131077b2a08"), looks := false }, kinds := [], alts := [], laidByText := true, laidKinds := [.data, .pinned], laidTests := true, laidLooks := .later }
def LinkInosCardSaid : Prop := Claim7.holds Tryz.pinned (.plain (OpenSpec.ofChange linkInosSpec)) linkInosCard

/-- THE SECOND FORM's CARD OF 'remoralaw18.LinkResolves'. -/
def linkResolvesUptoCard : Claim7 := { stood := { row := linkResolvesUptoRow, standIns := [], harness := (true, "63f8b14539c5237dea00341c6498ffcc5c4eebeb6938525979321131077b2a08"), looks := false }, kinds := [], alts := [], laidByText := true, laidKinds := [.data, .pinned], laidTests := true, laidLooks := .later }
def LinkResolvesUptoCardSaid : Prop := Claim7.holds Tryz.pinned (.plain (OpenSpec.upto linkResolvesSpec)) linkResolvesUptoCard

/-- THE SECOND FORM's CARD OF 'remoralaw35.PartPlays'. -/
def partPlaysUptoCard : Claim7 := { stood := { row := partPlaysUptoRow, standIns := [], harness := (true, "63f8b14539c5237dea00341c6498ffcc5c4eebeb6938525979321131077b2a08"), looks := false }, kinds := [], alts := [], laidByText := true, laidKinds := [.data], laidTests := true, laidLooks := .later }
def PartPlaysUptoCardSaid : Prop := Claim7.holds Tryz.pinned (.plain (OpenSpec.upto partPlaysSpec)) partPlaysUptoCard

/-- THE SECOND FORM's CARD OF 'remoralaw18.LinkWithin'. -/
def linkWithinUptoCard : Claim7 := { stood := { row := linkWithinUptoRow, standIns := [], harness := (true, "63f8b14539c5237dea00341c6498ffcc5c4eebeb6938525979321131077b2a08"), looks := false }, kinds := [], alts := [], laidByText := true, laidKinds := [.data, .pinned], laidTests := true, laidLooks := .later }
def LinkWithinUptoCardSaid : Prop := Claim7.holds Tryz.pinned (.plain (OpenSpec.upto linkWithinSpec)) linkWithinUptoCard

/-- THE SECOND FORM's CARD OF 'remoralaw18.LinkGroups'. -/
def linkGroupsUptoCard : Claim7 := { stood := { row := linkGroupsUptoRow, standIns := [], harness := (true, "63f8b14539c5237dea00341c6498ffcc5c4eebeb6938525979321131077b2a08"), looks := false }, kinds := [], alts := [], laidByText := true, laidKinds := [.data, .pinned], laidTests := true, laidLooks := .later }
def LinkGroupsUptoCardSaid : Prop := Claim7.holds Tryz.pinned (.plain (OpenSpec.upto linkGroupsSpec)) linkGroupsUptoCard

/-- THE SECOND FORM's CARD OF 'remoralaw18.LinkInos'. -/
def linkInosUptoCard : Claim7 := { stood := { row := linkInosUptoRow, standIns := [], harness := (true, "63f8b14539c5237dea00341c6498ffcc5c4eebeb6938525979321131077b2a08"), looks := false }, kinds := [], alts := [], laidByText := true, laidKinds := [.data, .pinned], laidTests := true, laidLooks := .later }
def LinkInosUptoCardSaid : Prop := Claim7.holds Tryz.pinned (.plain (OpenSpec.upto linkInosSpec)) linkInosUptoCard
end Rows
end Go.Proofs.YtlbbehfbjbbckaaGreatDoor
