/- JournalReads: for every slice of bytes, the records that the program reads of it, and how many bytes they have, are the document's (beyond 2,000 bytes nothing is compared); under the condition that crc.table reads as the program's own text lays it (tied). -/
import Derived.Test.YthkjnpbbgfagkaaDoorPReads
set_option linter.unusedVariables false
set_option linter.unusedSimpArgs false
namespace Go.Proofs.YthkjnpbbgfagkaaDoor
open Go

theorem journalReads_card : Rows.JournalReadsCardSaid :=
  Claim7.holds_tied_plain_at .later [] [.data] true (true, "69c991392f708e7af07e4a245f32fc16141418b987f012f5c237a7175cf309a1") false
    reads_holds (fun _ h => by cases h) (by kernel_rfl) (fun _ h => by cases h) journalReads_row_tie rfl ⟨rfl, rfl⟩ (by kernel_rfl) rfl
    (fun f fn hf hfn => by
      obtain rfl : f = 4 := Option.some.inj ((show Tryd.prog.funcNamed "remora/remoralaw34.JournalReads" = some 4 by kernel_rfl).symm.trans hf) |>.symm
      obtain rfl : fn = Tryd.f4 := (Option.some.inj (Tryd.func4.symm.trans hfn)).symm
      exact ⟨by kernel_rfl, fun j t ht => by
        rw [Tryd.params4] at ht
        have h3 : t = 27 := by
          rcases j with _ | j
          · simpa using ht.symm
          · simp at ht
        subst h3
        exact (show Tryd.prog.wantsStandIn 27 = false by kernel_rfl)⟩)
    (by kernel_rfl)
end Go.Proofs.YthkjnpbbgfagkaaDoor
