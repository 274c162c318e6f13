/- JournalShort: for every slice of records: what is open behind the fewest records is what was open, the fewest of these are they themselves, and without any one of them something else is open (beyond 40 records, or texts of 300 bytes, nothing is looked at); under the condition that crc.table reads as the program's own text lays it (tied). -/
import Derived.Test.YthkjnpbbgfagkaaDoorPShort
set_option linter.unusedVariables false
set_option linter.unusedSimpArgs false
namespace Go.Proofs.YthkjnpbbgfagkaaDoor
open Go

theorem journalShort_card : Rows.JournalShortCardSaid :=
  Claim7.holds_tied_plain_at .later [] [.data] true (true, "69c991392f708e7af07e4a245f32fc16141418b987f012f5c237a7175cf309a1") false
    short_holds (fun _ h => by cases h) (by kernel_rfl) (fun _ h => by cases h) journalShort_row_tie rfl ⟨rfl, rfl⟩ (by kernel_rfl) rfl
    (fun f fn hf hfn => by
      obtain rfl : f = 8 := Option.some.inj ((show Tryd.prog.funcNamed "remora/remoralaw34.JournalShort" = some 8 by kernel_rfl).symm.trans hf) |>.symm
      obtain rfl : fn = Tryd.f8 := (Option.some.inj (Tryd.func8.symm.trans hfn)).symm
      exact ⟨by kernel_rfl, fun j t ht => by
        rw [Tryd.params8] at ht
        have h3 : t = 25 := by
          rcases j with _ | j
          · simpa using ht.symm
          · simp at ht
        subst h3
        exact (show Tryd.prog.wantsStandIn 25 = false by kernel_rfl)⟩)
    (by kernel_rfl)
end Go.Proofs.YthkjnpbbgfagkaaDoor
