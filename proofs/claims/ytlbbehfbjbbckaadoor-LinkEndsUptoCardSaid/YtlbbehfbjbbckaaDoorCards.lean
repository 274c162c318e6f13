/-
  DERIVED. GIVEN WITH THE SEED: THE CARDS: each row of YtlbbehfbjbbckaaDoorRows.lean that lists a variable, with what it lists TIED to the program's text (the seventh form; the later family's looks); each row that meets fmt, with fmt's text TOLD by the authors' own Lean function (tested against real Go, not proved from fmt's source: count such statements apart). THE CARD IS WHAT COUNTS. Prove the row's statement (the work); the ties are given (YtlbbehfbjbbckaaDoorTie.lean); close each card by the builder's one call (the guide's Derived/Test/ToyasCard.lean, 'card_holds'). Laid BY PROGRAM, IN A SANDBOX (cutbox-door.mjs). By AI agents, Wed Nov 11 2026. No macro, syntax, notation, axiom, sorry.
-/
import Derived.Test.YtlbbehfbjbbckaaDoorRows
import GoSem.ClaimSeven
namespace Go.Proofs.YtlbbehfbjbbckaaDoor
namespace Rows

/-- THE TIED CARD OF 'remoralaw18.LinkTexts'. -/
def linkTextsCard : Claim7 := { stood := { row := linkTextsRow, standIns := [], harness := (true, "f82ce0adbaa4add632082c9913988b372011230c6403d31507e90119c8674153"), looks := false }, kinds := [], alts := [], laidByText := true, laidKinds := [.data, .pinned], laidTests := true, laidLooks := .later }
def LinkTextsCardSaid : Prop := Claim7.holds Tryd.pinned (.plain (OpenSpec.ofChange linkTextsSpec)) linkTextsCard

/-- THE TIED CARD OF 'remoralaw18.LinkBack'. -/
def linkBackCard : Claim7 := { stood := { row := linkBackRow, standIns := [], harness := (true, "f82ce0adbaa4add632082c9913988b372011230c6403d31507e90119c8674153"), looks := false }, kinds := [], alts := [], laidByText := true, laidKinds := [.data, .pinned], laidTests := true, laidLooks := .later }
def LinkBackCardSaid : Prop := Claim7.holds Tryd.pinned (.plain (OpenSpec.ofChange linkBackSpec)) linkBackCard

/-- THE TIED CARD OF 'remoralaw18.LinkEnds'. -/
def linkEndsCard : Claim7 := { stood := { row := linkEndsRow, standIns := [], harness := (true, "f82ce0adbaa4add632082c9913988b372011230c6403d31507e90119c8674153"), looks := false }, kinds := [], alts := [], laidByText := true, laidKinds := [.data, .pinned], laidTests := true, laidLooks := .later }
def LinkEndsCardSaid : Prop := Claim7.holds Tryd.pinned (.plain (OpenSpec.ofChange linkEndsSpec)) linkEndsCard

/-- THE SECOND FORM's CARD OF 'remoralaw18.LinkTexts'. -/
def linkTextsUptoCard : Claim7 := { stood := { row := linkTextsUptoRow, standIns := [], harness := (true, "f82ce0adbaa4add632082c9913988b372011230c6403d31507e90119c8674153"), looks := false }, kinds := [], alts := [], laidByText := true, laidKinds := [.data, .pinned], laidTests := true, laidLooks := .later }
def LinkTextsUptoCardSaid : Prop := Claim7.holds Tryd.pinned (.plain (OpenSpec.upto linkTextsSpec)) linkTextsUptoCard

/-- THE SECOND FORM's CARD OF 'remoralaw18.LinkBack'. -/
def linkBackUptoCard : Claim7 := { stood := { row := linkBackUptoRow, standIns := [], harness := (true, "f82ce0adbaa4add632082c9913988b372011230c6403d31507e90119c8674153"), looks := false }, kinds := [], alts := [], laidByText := true, laidKinds := [.data, .pinned], laidTests := true, laidLooks := .later }
def LinkBackUptoCardSaid : Prop := Claim7.holds Tryd.pinned (.plain (OpenSpec.upto linkBackSpec)) linkBackUptoCard

/-- THE SECOND FORM's CARD OF 'remoralaw18.LinkEnds'. -/
def linkEndsUptoCard : Claim7 := { stood := { row := linkEndsUptoRow, standIns := [], harness := (true, "f82ce0adbaa4add632082c9913988b372011230c6403d31507e90119c8674153"), looks := false }, kinds := [], alts := [], laidByText := true, laidKinds := [.data, .pinned], laidTests := true, laidLooks := .later }
def LinkEndsUptoCardSaid : Prop := Claim7.holds Tryd.pinned (.plain (OpenSpec.upto linkEndsSpec)) linkEndsUptoCard
end Rows
end Go.Proofs.YtlbbehfbjbbckaaDoor
