/-
  NARROWER THAN 'FOR EVERY INPUT', by the rows' own cells (each row's printed sentence says how): JournalPuts: laid · JournalReads: laid · JournalOpens: laid · JournalTorn: laid · JournalBurst: laid · JournalShort: laid · JournalApart: laid · JournalSealed: laid.
  DERIVED. THE GIVEN ROWS OF THIS SEAT. 8 by the template 'for every input the law returns true; each argument reads behind the call as it read before'; 0 by the template 'total and deterministic' (their statements: YthkjnpbbgfagkaaDoorTotals.lean).
  GIVEN WITH THE SEED: the statements are not yours to turn. If you find one false, say at which input.
  Laid BY PROGRAM, IN A SANDBOX (cutbox-rows.mjs): the forced cells as the released guide's own fill.sh prints them over the translation 6c3d98e63fe13026… (all of the seat's roots in one cut). By AI agents, Wed Nov 11 2026. No macro, syntax, notation, axiom, sorry.
-/
import Derived.Test.YthkjnpbbgfagkaaDoorChecked
import GoSem.Claim
import GoSem.ClaimJoined
import GoSem.ClaimMapViews
import Derived.JoinedTies
import Derived.KernelRfl
namespace Go.Proofs.YthkjnpbbgfagkaaDoor
/- THE CELL 'sum', in the pinned program and in every row, IS THE sha256 OF THE DUMP (.gsa) THAT YthkjnpbbgfagkaaDoorProg.lean LOADS. Nothing in Lean hashes anything: it is a label: what it is worth is what the hold of that sum in a sandbox is worth. -/
noncomputable def Tryd.pinned : Pinned := { name := "ythkjnpbbgfagkaadoor", sum := "6c3d98e63fe13026a96b5e22d78104334f11fca1a0499519779c189a4da87656", checked := Tryd.checked }
namespace Rows
def none {H : Type} : Left H := { results := [], args := [] }

/- WHAT THE LISTED PACKAGE-LEVEL VARIABLES READ AS WHEN THE CALL BEGINS. Each datum BY PROGRAM (the guide's laid-datum.mjs) off the statement by which the dump's own 'gosem.cut.vars' lays the variable. In a bare row this is a premise. The card (YthkjnpbbgfagkaaDoorCards.lean) ties it to the program's text. -/
def laid_remora_crc_table {H : Type} : DataW H := .agg [.lit (.int .u32 0), .lit (.int .u32 498536548), .lit (.int .u32 997073096), .lit (.int .u32 651767980), .lit (.int .u32 1994146192), .lit (.int .u32 1802195444), .lit (.int .u32 1303535960), .lit (.int .u32 1342533948), .lit (.int .u32 3988292384), .lit (.int .u32 4027552580), .lit (.int .u32 3604390888), .lit (.int .u32 3412177804), .lit (.int .u32 2607071920), .lit (.int .u32 2262029012), .lit (.int .u32 2685067896), .lit (.int .u32 3183342108)]

/-- 'remoralaw34.JournalPuts': WHATEVER THE INPUT: true; the input reads as it did. -/
def journalPutsSpec : ChangeSpec := { name := "journalPuts", fn := fun _ => fun
  | [d] => { results := [.lit (.bool true)], args := [d] }
  | _ => none }
def journalPutsRow : OpenClaim := { program := "ythkjnpbbgfagkaadoor", sum := "6c3d98e63fe13026a96b5e22d78104334f11fca1a0499519779c189a4da87656", func := "remora/remoralaw34.JournalPuts", spec := "journalPuts", unfollowed := true, recurses := true, named := ["remora/crc.table"], apart := false, laid := [("remora/crc.table", laid_remora_crc_table)] }
def JournalPutsSaid : Prop := journalPutsRow.holds Tryd.pinned (OpenSpec.ofChange journalPutsSpec)

/-- ITS FALSE NEIGHBOUR: 'it returns false'. Refute it at one input. -/
def journalPutsWrong : ChangeSpec := { name := "journalPuts", fn := fun _ => fun
  | [d] => { results := [.lit (.bool false)], args := [d] }
  | _ => none }
def JournalPutsWrongFalsely : Prop := journalPutsRow.holds Tryd.pinned (OpenSpec.ofChange journalPutsWrong)

/-- 'remoralaw34.JournalReads': WHATEVER THE INPUT: true; the input reads as it did. -/
def journalReadsSpec : ChangeSpec := { name := "journalReads", fn := fun _ => fun
  | [d] => { results := [.lit (.bool true)], args := [d] }
  | _ => none }
def journalReadsRow : OpenClaim := { program := "ythkjnpbbgfagkaadoor", sum := "6c3d98e63fe13026a96b5e22d78104334f11fca1a0499519779c189a4da87656", func := "remora/remoralaw34.JournalReads", spec := "journalReads", unfollowed := true, recurses := true, named := ["remora/crc.table"], apart := false, laid := [("remora/crc.table", laid_remora_crc_table)] }
def JournalReadsSaid : Prop := journalReadsRow.holds Tryd.pinned (OpenSpec.ofChange journalReadsSpec)

/-- ITS FALSE NEIGHBOUR: 'it returns false'. Refute it at one input. -/
def journalReadsWrong : ChangeSpec := { name := "journalReads", fn := fun _ => fun
  | [d] => { results := [.lit (.bool false)], args := [d] }
  | _ => none }
def JournalReadsWrongFalsely : Prop := journalReadsRow.holds Tryd.pinned (OpenSpec.ofChange journalReadsWrong)

/-- 'remoralaw34.JournalOpens': WHATEVER THE INPUT: true; the input reads as it did. -/
def journalOpensSpec : ChangeSpec := { name := "journalOpens", fn := fun _ => fun
  | [d] => { results := [.lit (.bool true)], args := [d] }
  | _ => none }
def journalOpensRow : OpenClaim := { program := "ythkjnpbbgfagkaadoor", sum := "6c3d98e63fe13026a96b5e22d78104334f11fca1a0499519779c189a4da87656", func := "remora/remoralaw34.JournalOpens", spec := "journalOpens", unfollowed := true, recurses := true, named := ["remora/crc.table"], apart := false, laid := [("remora/crc.table", laid_remora_crc_table)] }
def JournalOpensSaid : Prop := journalOpensRow.holds Tryd.pinned (OpenSpec.ofChange journalOpensSpec)

/-- ITS FALSE NEIGHBOUR: 'it returns false'. Refute it at one input. -/
def journalOpensWrong : ChangeSpec := { name := "journalOpens", fn := fun _ => fun
  | [d] => { results := [.lit (.bool false)], args := [d] }
  | _ => none }
def JournalOpensWrongFalsely : Prop := journalOpensRow.holds Tryd.pinned (OpenSpec.ofChange journalOpensWrong)

/-- 'remoralaw34.JournalTorn': WHATEVER THE INPUT: true; the input reads as it did. -/
def journalTornSpec : ChangeSpec := { name := "journalTorn", fn := fun _ => fun
  | [d1, d2] => { results := [.lit (.bool true)], args := [d1, d2] }
  | _ => none }
def journalTornRow : OpenClaim := { program := "ythkjnpbbgfagkaadoor", sum := "6c3d98e63fe13026a96b5e22d78104334f11fca1a0499519779c189a4da87656", func := "remora/remoralaw34.JournalTorn", spec := "journalTorn", unfollowed := true, recurses := true, named := ["remora/crc.table"], apart := false, laid := [("remora/crc.table", laid_remora_crc_table)] }
def JournalTornSaid : Prop := journalTornRow.holds Tryd.pinned (OpenSpec.ofChange journalTornSpec)

/-- ITS FALSE NEIGHBOUR: 'it returns false'. Refute it at one input. -/
def journalTornWrong : ChangeSpec := { name := "journalTorn", fn := fun _ => fun
  | [d1, d2] => { results := [.lit (.bool false)], args := [d1, d2] }
  | _ => none }
def JournalTornWrongFalsely : Prop := journalTornRow.holds Tryd.pinned (OpenSpec.ofChange journalTornWrong)

/-- 'remoralaw34.JournalBurst': WHATEVER THE INPUT: true; the input reads as it did. -/
def journalBurstSpec : ChangeSpec := { name := "journalBurst", fn := fun _ => fun
  | [d1, d2, d3] => { results := [.lit (.bool true)], args := [d1, d2, d3] }
  | _ => none }
def journalBurstRow : OpenClaim := { program := "ythkjnpbbgfagkaadoor", sum := "6c3d98e63fe13026a96b5e22d78104334f11fca1a0499519779c189a4da87656", func := "remora/remoralaw34.JournalBurst", spec := "journalBurst", unfollowed := true, recurses := true, named := ["remora/crc.table"], apart := false, laid := [("remora/crc.table", laid_remora_crc_table)] }
def JournalBurstSaid : Prop := journalBurstRow.holds Tryd.pinned (OpenSpec.ofChange journalBurstSpec)

/-- ITS FALSE NEIGHBOUR: 'it returns false'. Refute it at one input. -/
def journalBurstWrong : ChangeSpec := { name := "journalBurst", fn := fun _ => fun
  | [d1, d2, d3] => { results := [.lit (.bool false)], args := [d1, d2, d3] }
  | _ => none }
def JournalBurstWrongFalsely : Prop := journalBurstRow.holds Tryd.pinned (OpenSpec.ofChange journalBurstWrong)

/-- 'remoralaw34.JournalShort': WHATEVER THE INPUT: true; the input reads as it did. -/
def journalShortSpec : ChangeSpec := { name := "journalShort", fn := fun _ => fun
  | [d] => { results := [.lit (.bool true)], args := [d] }
  | _ => none }
def journalShortRow : OpenClaim := { program := "ythkjnpbbgfagkaadoor", sum := "6c3d98e63fe13026a96b5e22d78104334f11fca1a0499519779c189a4da87656", func := "remora/remoralaw34.JournalShort", spec := "journalShort", unfollowed := true, recurses := true, named := ["remora/crc.table"], apart := false, laid := [("remora/crc.table", laid_remora_crc_table)] }
def JournalShortSaid : Prop := journalShortRow.holds Tryd.pinned (OpenSpec.ofChange journalShortSpec)

/-- ITS FALSE NEIGHBOUR: 'it returns false'. Refute it at one input. -/
def journalShortWrong : ChangeSpec := { name := "journalShort", fn := fun _ => fun
  | [d] => { results := [.lit (.bool false)], args := [d] }
  | _ => none }
def JournalShortWrongFalsely : Prop := journalShortRow.holds Tryd.pinned (OpenSpec.ofChange journalShortWrong)

/-- 'remoralaw34.JournalApart': WHATEVER THE INPUT: true; the input reads as it did. -/
def journalApartSpec : ChangeSpec := { name := "journalApart", fn := fun _ => fun
  | [d1, d2] => { results := [.lit (.bool true)], args := [d1, d2] }
  | _ => none }
def journalApartRow : OpenClaim := { program := "ythkjnpbbgfagkaadoor", sum := "6c3d98e63fe13026a96b5e22d78104334f11fca1a0499519779c189a4da87656", func := "remora/remoralaw34.JournalApart", spec := "journalApart", unfollowed := true, recurses := true, named := ["remora/crc.table"], apart := false, laid := [("remora/crc.table", laid_remora_crc_table)] }
def JournalApartSaid : Prop := journalApartRow.holds Tryd.pinned (OpenSpec.ofChange journalApartSpec)

/-- ITS FALSE NEIGHBOUR: 'it returns false'. Refute it at one input. -/
def journalApartWrong : ChangeSpec := { name := "journalApart", fn := fun _ => fun
  | [d1, d2] => { results := [.lit (.bool false)], args := [d1, d2] }
  | _ => none }
def JournalApartWrongFalsely : Prop := journalApartRow.holds Tryd.pinned (OpenSpec.ofChange journalApartWrong)

/-- 'remoralaw34.JournalSealed': WHATEVER THE INPUT: true; the input reads as it did. -/
def journalSealedSpec : ChangeSpec := { name := "journalSealed", fn := fun _ => fun
  | [d] => { results := [.lit (.bool true)], args := [d] }
  | _ => none }
def journalSealedRow : OpenClaim := { program := "ythkjnpbbgfagkaadoor", sum := "6c3d98e63fe13026a96b5e22d78104334f11fca1a0499519779c189a4da87656", func := "remora/remoralaw34.JournalSealed", spec := "journalSealed", unfollowed := true, recurses := true, named := ["remora/crc.table"], apart := false, laid := [("remora/crc.table", laid_remora_crc_table)] }
def JournalSealedSaid : Prop := journalSealedRow.holds Tryd.pinned (OpenSpec.ofChange journalSealedSpec)

/-- ITS FALSE NEIGHBOUR: 'it returns false'. Refute it at one input. -/
def journalSealedWrong : ChangeSpec := { name := "journalSealed", fn := fun _ => fun
  | [d] => { results := [.lit (.bool false)], args := [d] }
  | _ => none }
def JournalSealedWrongFalsely : Prop := journalSealedRow.holds Tryd.pinned (OpenSpec.ofChange journalSealedWrong)

/- THE SECOND FORM. 'bulk': how many values and letters a reading holds, each counted each time it is reached (what is shared counts as often as it is met; a slice's spare places count too). A statement '..UptoSaid' is the law's where the arguments, and the package variables that the reading takes, are together of bulk at most 1048576: NARROWER than '..Said'. Prove '..Said' where nothing that the law and all that it calls make is longer than what came in: it says more and counts as full. Else prove '..UptoSaid'. A law counts once. -/
mutual
def uptoBulk {H : Type} : DataW H → Nat
  | .lit (.string bytes) => bytes.length + 1
  | .lit _ => 1
  | .nil => 1
  | .ptr d => uptoBulk d + 1
  | .slice elems spare => uptoBulkAll elems + uptoBulkAll spare + 1
  | .agg parts => uptoBulkAll parts + 1
  | .iface _ d => uptoBulk d + 1
  | .map entries => uptoBulkEntries entries + 1
  | .held _ => 1
def uptoBulkAll {H : Type} : List (DataW H) → Nat
  | [] => 0
  | d :: r => uptoBulk d + uptoBulkAll r
def uptoBulkEntries {H : Type} : List (Lit × DataW H) → Nat
  | [] => 0
  | x :: r => uptoBulkEntry x + uptoBulkEntries r
def uptoBulkEntry {H : Type} : Lit × DataW H → Nat
  | (.string bytes, d) => bytes.length + uptoBulk d + 1
  | (_, d) => uptoBulk d + 1
 end
def uptoSmall : (H : Type) → List (DataW H) → Bool := fun _ ds => decide (uptoBulkAll ds ≤ 1048576)
def OpenSpec.upto (s : _root_.Go.ChangeSpec) : _root_.Go.OpenSpec := { _root_.Go.OpenSpec.ofChange s with cond := some uptoSmall }

/-- 'remoralaw34.JournalPuts', WHERE WHAT IT READS IS OF BULK AT MOST 1048576: true; the input reads as it did. -/
def journalPutsUptoRow : OpenClaim := { program := "ythkjnpbbgfagkaadoor", sum := "6c3d98e63fe13026a96b5e22d78104334f11fca1a0499519779c189a4da87656", func := "remora/remoralaw34.JournalPuts", spec := "journalPuts", unfollowed := true, recurses := true, named := ["remora/crc.table"], apart := false, laid := [("remora/crc.table", laid_remora_crc_table)], narrowed := true }
def JournalPutsUptoSaid : Prop := journalPutsUptoRow.holds Tryd.pinned (OpenSpec.upto journalPutsSpec)

/-- 'remoralaw34.JournalReads', WHERE WHAT IT READS IS OF BULK AT MOST 1048576: true; the input reads as it did. -/
def journalReadsUptoRow : OpenClaim := { program := "ythkjnpbbgfagkaadoor", sum := "6c3d98e63fe13026a96b5e22d78104334f11fca1a0499519779c189a4da87656", func := "remora/remoralaw34.JournalReads", spec := "journalReads", unfollowed := true, recurses := true, named := ["remora/crc.table"], apart := false, laid := [("remora/crc.table", laid_remora_crc_table)], narrowed := true }
def JournalReadsUptoSaid : Prop := journalReadsUptoRow.holds Tryd.pinned (OpenSpec.upto journalReadsSpec)

/-- 'remoralaw34.JournalOpens', WHERE WHAT IT READS IS OF BULK AT MOST 1048576: true; the input reads as it did. -/
def journalOpensUptoRow : OpenClaim := { program := "ythkjnpbbgfagkaadoor", sum := "6c3d98e63fe13026a96b5e22d78104334f11fca1a0499519779c189a4da87656", func := "remora/remoralaw34.JournalOpens", spec := "journalOpens", unfollowed := true, recurses := true, named := ["remora/crc.table"], apart := false, laid := [("remora/crc.table", laid_remora_crc_table)], narrowed := true }
def JournalOpensUptoSaid : Prop := journalOpensUptoRow.holds Tryd.pinned (OpenSpec.upto journalOpensSpec)

/-- 'remoralaw34.JournalTorn', WHERE WHAT IT READS IS OF BULK AT MOST 1048576: true; the input reads as it did. -/
def journalTornUptoRow : OpenClaim := { program := "ythkjnpbbgfagkaadoor", sum := "6c3d98e63fe13026a96b5e22d78104334f11fca1a0499519779c189a4da87656", func := "remora/remoralaw34.JournalTorn", spec := "journalTorn", unfollowed := true, recurses := true, named := ["remora/crc.table"], apart := false, laid := [("remora/crc.table", laid_remora_crc_table)], narrowed := true }
def JournalTornUptoSaid : Prop := journalTornUptoRow.holds Tryd.pinned (OpenSpec.upto journalTornSpec)

/-- 'remoralaw34.JournalBurst', WHERE WHAT IT READS IS OF BULK AT MOST 1048576: true; the input reads as it did. -/
def journalBurstUptoRow : OpenClaim := { program := "ythkjnpbbgfagkaadoor", sum := "6c3d98e63fe13026a96b5e22d78104334f11fca1a0499519779c189a4da87656", func := "remora/remoralaw34.JournalBurst", spec := "journalBurst", unfollowed := true, recurses := true, named := ["remora/crc.table"], apart := false, laid := [("remora/crc.table", laid_remora_crc_table)], narrowed := true }
def JournalBurstUptoSaid : Prop := journalBurstUptoRow.holds Tryd.pinned (OpenSpec.upto journalBurstSpec)

/-- 'remoralaw34.JournalShort', WHERE WHAT IT READS IS OF BULK AT MOST 1048576: true; the input reads as it did. -/
def journalShortUptoRow : OpenClaim := { program := "ythkjnpbbgfagkaadoor", sum := "6c3d98e63fe13026a96b5e22d78104334f11fca1a0499519779c189a4da87656", func := "remora/remoralaw34.JournalShort", spec := "journalShort", unfollowed := true, recurses := true, named := ["remora/crc.table"], apart := false, laid := [("remora/crc.table", laid_remora_crc_table)], narrowed := true }
def JournalShortUptoSaid : Prop := journalShortUptoRow.holds Tryd.pinned (OpenSpec.upto journalShortSpec)

/-- 'remoralaw34.JournalApart', WHERE WHAT IT READS IS OF BULK AT MOST 1048576: true; the input reads as it did. -/
def journalApartUptoRow : OpenClaim := { program := "ythkjnpbbgfagkaadoor", sum := "6c3d98e63fe13026a96b5e22d78104334f11fca1a0499519779c189a4da87656", func := "remora/remoralaw34.JournalApart", spec := "journalApart", unfollowed := true, recurses := true, named := ["remora/crc.table"], apart := false, laid := [("remora/crc.table", laid_remora_crc_table)], narrowed := true }
def JournalApartUptoSaid : Prop := journalApartUptoRow.holds Tryd.pinned (OpenSpec.upto journalApartSpec)

/-- 'remoralaw34.JournalSealed', WHERE WHAT IT READS IS OF BULK AT MOST 1048576: true; the input reads as it did. -/
def journalSealedUptoRow : OpenClaim := { program := "ythkjnpbbgfagkaadoor", sum := "6c3d98e63fe13026a96b5e22d78104334f11fca1a0499519779c189a4da87656", func := "remora/remoralaw34.JournalSealed", spec := "journalSealed", unfollowed := true, recurses := true, named := ["remora/crc.table"], apart := false, laid := [("remora/crc.table", laid_remora_crc_table)], narrowed := true }
def JournalSealedUptoSaid : Prop := journalSealedUptoRow.holds Tryd.pinned (OpenSpec.upto journalSealedSpec)

end Rows
end Go.Proofs.YthkjnpbbgfagkaaDoor
