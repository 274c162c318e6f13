/- JournalOpens: for every slice of records, what the program tells to be open, and the fewest records of it, are the document's (beyond 40 records, or texts of 300 bytes, nothing is compared); under the condition that crc.table reads as the program's own text lays it (tied). -/
import Derived.Test.YthkjnpbbgfagkaaDoorPOpens
set_option linter.unusedVariables false
set_option linter.unusedSimpArgs false
namespace Go.Proofs.YthkjnpbbgfagkaaDoor
open Go

theorem journalOpens_card : Rows.JournalOpensCardSaid :=
  Claim7.holds_tied_plain_at .later [] [.data] true (true, "69c991392f708e7af07e4a245f32fc16141418b987f012f5c237a7175cf309a1") false
    opens_holds (fun _ h => by cases h) (by kernel_rfl) (fun _ h => by cases h) journalOpens_row_tie rfl ⟨rfl, rfl⟩ (by kernel_rfl) rfl
    (fun f fn hf hfn => by
      obtain rfl : f = 5 := Option.some.inj ((show Tryd.prog.funcNamed "remora/remoralaw34.JournalOpens" = some 5 by kernel_rfl).symm.trans hf) |>.symm
      obtain rfl : fn = Tryd.f5 := (Option.some.inj (Tryd.func5.symm.trans hfn)).symm
      exact ⟨by kernel_rfl, fun j t ht => by
        rw [Tryd.params5] at ht
        have h3 : t = 25 := by
          rcases j with _ | j
          · simpa using ht.symm
          · simp at ht
        subst h3
        exact (show Tryd.prog.wantsStandIn 25 = false by kernel_rfl)⟩)
    (by kernel_rfl)
end Go.Proofs.YthkjnpbbgfagkaaDoor
