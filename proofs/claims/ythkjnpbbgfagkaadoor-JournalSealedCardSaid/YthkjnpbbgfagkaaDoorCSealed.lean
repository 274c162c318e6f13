/- JournalSealed: for every slice of records: a record's bytes are a number and as many bytes, sealed, which open and begin with the Kind, and one by one the records are read as they were (beyond 40 records, or texts of 300 bytes, nothing is looked at); under the condition that crc.table reads as the program's own text lays it (tied). -/
import Derived.Test.YthkjnpbbgfagkaaDoorPSealed
set_option linter.unusedVariables false
set_option linter.unusedSimpArgs false
namespace Go.Proofs.YthkjnpbbgfagkaaDoor
open Go

theorem journalSealed_card : Rows.JournalSealedCardSaid :=
  Claim7.holds_tied_plain_at .later [] [.data] true (true, "69c991392f708e7af07e4a245f32fc16141418b987f012f5c237a7175cf309a1") false
    sealed_holds (fun _ h => by cases h) (by kernel_rfl) (fun _ h => by cases h) journalSealed_row_tie rfl ⟨rfl, rfl⟩ (by kernel_rfl) rfl
    (fun f fn hf hfn => by
      obtain rfl : f = 10 := Option.some.inj ((show Tryd.prog.funcNamed "remora/remoralaw34.JournalSealed" = some 10 by kernel_rfl).symm.trans hf) |>.symm
      obtain rfl : fn = Tryd.f10 := (Option.some.inj (Tryd.func10.symm.trans hfn)).symm
      exact ⟨by kernel_rfl, fun j t ht => by
        rw [Tryd.params10] at ht
        have h3 : t = 25 := by
          rcases j with _ | j
          · simpa using ht.symm
          · simp at ht
        subst h3
        exact (show Tryd.prog.wantsStandIn 25 = false by kernel_rfl)⟩)
    (by kernel_rfl)
end Go.Proofs.YthkjnpbbgfagkaaDoor
