/-
  DERIVED. GIVEN WITH THE SEED: THE CARDS: each row of YthkjnpbbgfagkaaDoorRows.lean that lists a variable, with what it lists TIED to the program's text (the seventh form; the later family's looks); each row that meets fmt, with fmt's text TOLD by the authors' own Lean function (tested against real Go, not proved from fmt's source: count such statements apart). THE CARD IS WHAT COUNTS. Prove the row's statement (the work); the ties are given (YthkjnpbbgfagkaaDoorTie.lean); close each card by the builder's one call (the guide's Derived/Test/ToyasCard.lean, 'card_holds'). Laid BY PROGRAM, IN A SANDBOX (cutbox-door.mjs). By AI agents, Wed Nov 11 2026. No macro, syntax, notation, axiom, sorry.
-/
import Derived.Test.YthkjnpbbgfagkaaDoorRows
import GoSem.ClaimSeven
namespace Go.Proofs.YthkjnpbbgfagkaaDoor
namespace Rows

/-- THE TIED CARD OF 'remoralaw34.JournalPuts'. -/
def journalPutsCard : Claim7 := { stood := { row := journalPutsRow, standIns := [], harness := (true, "69c991392f708e7af07e4a245f32fc16141418b987f012f5c237a7175cf309a1"), looks := false }, kinds := [], alts := [], laidByText := true, laidKinds := [.data], laidTests := true, laidLooks := .later }
def JournalPutsCardSaid : Prop := Claim7.holds Tryd.pinned (.plain (OpenSpec.ofChange journalPutsSpec)) journalPutsCard

/-- THE TIED CARD OF 'remoralaw34.JournalReads'. -/
def journalReadsCard : Claim7 := { stood := { row := journalReadsRow, standIns := [], harness := (true, "69c991392f708e7af07e4a245f32fc16141418b987f012f5c237a7175cf309a1"), looks := false }, kinds := [], alts := [], laidByText := true, laidKinds := [.data], laidTests := true, laidLooks := .later }
def JournalReadsCardSaid : Prop := Claim7.holds Tryd.pinned (.plain (OpenSpec.ofChange journalReadsSpec)) journalReadsCard

/-- THE TIED CARD OF 'remoralaw34.JournalOpens'. -/
def journalOpensCard : Claim7 := { stood := { row := journalOpensRow, standIns := [], harness := (true, "69c991392f708e7af07e4a245f32fc16141418b987f012f5c237a7175cf309a1"), looks := false }, kinds := [], alts := [], laidByText := true, laidKinds := [.data], laidTests := true, laidLooks := .later }
def JournalOpensCardSaid : Prop := Claim7.holds Tryd.pinned (.plain (OpenSpec.ofChange journalOpensSpec)) journalOpensCard

/-- THE TIED CARD OF 'remoralaw34.JournalTorn'. -/
def journalTornCard : Claim7 := { stood := { row := journalTornRow, standIns := [], harness := (true, "69c991392f708e7af07e4a245f32fc16141418b987f012f5c237a7175cf309a1"), looks := false }, kinds := [], alts := [], laidByText := true, laidKinds := [.data], laidTests := true, laidLooks := .later }
def JournalTornCardSaid : Prop := Claim7.holds Tryd.pinned (.plain (OpenSpec.ofChange journalTornSpec)) journalTornCard

/-- THE TIED CARD OF 'remoralaw34.JournalBurst'. -/
def journalBurstCard : Claim7 := { stood := { row := journalBurstRow, standIns := [], harness := (true, "69c991392f708e7af07e4a245f32fc16141418b987f012f5c237a7175cf309a1"), looks := false }, kinds := [], alts := [], laidByText := true, laidKinds := [.data], laidTests := true, laidLooks := .later }
def JournalBurstCardSaid : Prop := Claim7.holds Tryd.pinned (.plain (OpenSpec.ofChange journalBurstSpec)) journalBurstCard

/-- THE TIED CARD OF 'remoralaw34.JournalShort'. -/
def journalShortCard : Claim7 := { stood := { row := journalShortRow, standIns := [], harness := (true, "69c991392f708e7af07e4a245f32fc16141418b987f012f5c237a7175cf309a1"), looks := false }, kinds := [], alts := [], laidByText := true, laidKinds := [.data], laidTests := true, laidLooks := .later }
def JournalShortCardSaid : Prop := Claim7.holds Tryd.pinned (.plain (OpenSpec.ofChange journalShortSpec)) journalShortCard

/-- THE TIED CARD OF 'remoralaw34.JournalApart'. -/
def journalApartCard : Claim7 := { stood := { row := journalApartRow, standIns := [], harness := (true, "69c991392f708e7af07e4a245f32fc16141418b987f012f5c237a7175cf309a1"), looks := false }, kinds := [], alts := [], laidByText := true, laidKinds := [.data], laidTests := true, laidLooks := .later }
def JournalApartCardSaid : Prop := Claim7.holds Tryd.pinned (.plain (OpenSpec.ofChange journalApartSpec)) journalApartCard

/-- THE TIED CARD OF 'remoralaw34.JournalSealed'. -/
def journalSealedCard : Claim7 := { stood := { row := journalSealedRow, standIns := [], harness := (true, "69c991392f708e7af07e4a245f32fc16141418b987f012f5c237a7175cf309a1"), looks := false }, kinds := [], alts := [], laidByText := true, laidKinds := [.data], laidTests := true, laidLooks := .later }
def JournalSealedCardSaid : Prop := Claim7.holds Tryd.pinned (.plain (OpenSpec.ofChange journalSealedSpec)) journalSealedCard

/-- THE SECOND FORM's CARD OF 'remoralaw34.JournalPuts'. -/
def journalPutsUptoCard : Claim7 := { stood := { row := journalPutsUptoRow, standIns := [], harness := (true, "69c991392f708e7af07e4a245f32fc16141418b987f012f5c237a7175cf309a1"), looks := false }, kinds := [], alts := [], laidByText := true, laidKinds := [.data], laidTests := true, laidLooks := .later }
def JournalPutsUptoCardSaid : Prop := Claim7.holds Tryd.pinned (.plain (OpenSpec.upto journalPutsSpec)) journalPutsUptoCard

/-- THE SECOND FORM's CARD OF 'remoralaw34.JournalReads'. -/
def journalReadsUptoCard : Claim7 := { stood := { row := journalReadsUptoRow, standIns := [], harness := (true, "69c991392f708e7af07e4a245f32fc16141418b987f012f5c237a7175cf309a1"), looks := false }, kinds := [], alts := [], laidByText := true, laidKinds := [.data], laidTests := true, laidLooks := .later }
def JournalReadsUptoCardSaid : Prop := Claim7.holds Tryd.pinned (.plain (OpenSpec.upto journalReadsSpec)) journalReadsUptoCard

/-- THE SECOND FORM's CARD OF 'remoralaw34.JournalOpens'. -/
def journalOpensUptoCard : Claim7 := { stood := { row := journalOpensUptoRow, standIns := [], harness := (true, "69c991392f708e7af07e4a245f32fc16141418b987f012f5c237a7175cf309a1"), looks := false }, kinds := [], alts := [], laidByText := true, laidKinds := [.data], laidTests := true, laidLooks := .later }
def JournalOpensUptoCardSaid : Prop := Claim7.holds Tryd.pinned (.plain (OpenSpec.upto journalOpensSpec)) journalOpensUptoCard

/-- THE SECOND FORM's CARD OF 'remoralaw34.JournalTorn'. -/
def journalTornUptoCard : Claim7 := { stood := { row := journalTornUptoRow, standIns := [], harness := (true, "69c991392f708e7af07e4a245f32fc16141418b987f012f5c237a7175cf309a1"), looks := false }, kinds := [], alts := [], laidByText := true, laidKinds := [.data], laidTests := true, laidLooks := .later }
def JournalTornUptoCardSaid : Prop := Claim7.holds Tryd.pinned (.plain (OpenSpec.upto journalTornSpec)) journalTornUptoCard

/-- THE SECOND FORM's CARD OF 'remoralaw34.JournalBurst'. -/
def journalBurstUptoCard : Claim7 := { stood := { row := journalBurstUptoRow, standIns := [], harness := (true, "69c991392f708e7af07e4a245f32fc16141418b987f012f5c237a7175cf309a1"), looks := false }, kinds := [], alts := [], laidByText := true, laidKinds := [.data], laidTests := true, laidLooks := .later }
def JournalBurstUptoCardSaid : Prop := Claim7.holds Tryd.pinned (.plain (OpenSpec.upto journalBurstSpec)) journalBurstUptoCard

/-- THE SECOND FORM's CARD OF 'remoralaw34.JournalShort'. -/
def journalShortUptoCard : Claim7 := { stood := { row := journalShortUptoRow, standIns := [], harness := (true, "69c991392f708e7af07e4a245f32fc16141418b987f012f5c237a7175cf309a1"), looks := false }, kinds := [], alts := [], laidByText := true, laidKinds := [.data], laidTests := true, laidLooks := .later }
def JournalShortUptoCardSaid : Prop := Claim7.holds Tryd.pinned (.plain (OpenSpec.upto journalShortSpec)) journalShortUptoCard

/-- THE SECOND FORM's CARD OF 'remoralaw34.JournalApart'. -/
def journalApartUptoCard : Claim7 := { stood := { row := journalApartUptoRow, standIns := [], harness := (true, "69c991392f708e7af07e4a245f32fc16141418b987f012f5c237a7175cf309a1"), looks := false }, kinds := [], alts := [], laidByText := true, laidKinds := [.data], laidTests := true, laidLooks := .later }
def JournalApartUptoCardSaid : Prop := Claim7.holds Tryd.pinned (.plain (OpenSpec.upto journalApartSpec)) journalApartUptoCard

/-- THE SECOND FORM's CARD OF 'remoralaw34.JournalSealed'. -/
def journalSealedUptoCard : Claim7 := { stood := { row := journalSealedUptoRow, standIns := [], harness := (true, "69c991392f708e7af07e4a245f32fc16141418b987f012f5c237a7175cf309a1"), looks := false }, kinds := [], alts := [], laidByText := true, laidKinds := [.data], laidTests := true, laidLooks := .later }
def JournalSealedUptoCardSaid : Prop := Claim7.holds Tryd.pinned (.plain (OpenSpec.upto journalSealedSpec)) journalSealedUptoCard
end Rows
end Go.Proofs.YthkjnpbbgfagkaaDoor
