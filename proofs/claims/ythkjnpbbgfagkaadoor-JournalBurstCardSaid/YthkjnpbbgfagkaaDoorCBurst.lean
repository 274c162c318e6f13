/- JournalBurst: for every slice of records, every place and every pattern of 32 bits: where bits of the pattern are turned behind the length of the last record, all records but that one are told (beyond 40 records, or texts of 300 bytes, nothing is looked at); under the condition that crc.table reads as the program's own text lays it (tied). -/
import Derived.Test.YthkjnpbbgfagkaaDoorPBurst
set_option linter.unusedVariables false
set_option linter.unusedSimpArgs false
namespace Go.Proofs.YthkjnpbbgfagkaaDoor
open Go

theorem journalBurst_card : Rows.JournalBurstCardSaid :=
  Claim7.holds_tied_plain_at .later [] [.data] true (true, "69c991392f708e7af07e4a245f32fc16141418b987f012f5c237a7175cf309a1") false
    burst_holds (fun _ h => by cases h) (by kernel_rfl) (fun _ h => by cases h) journalBurst_row_tie rfl ⟨rfl, rfl⟩ (by kernel_rfl) rfl
    (fun f fn hf hfn => by
      obtain rfl : f = 7 := Option.some.inj ((show Tryd.prog.funcNamed "remora/remoralaw34.JournalBurst" = some 7 by kernel_rfl).symm.trans hf) |>.symm
      obtain rfl : fn = Tryd.f7 := (Option.some.inj (Tryd.func7.symm.trans hfn)).symm
      exact ⟨by kernel_rfl, fun j t ht => by
        rw [Tryd.params7] at ht
        have h3 : t = 25 ∨ t = 47 ∨ t = 48 := by
          rcases j with _ | _ | _ | j
          · exact Or.inl (by simpa using ht.symm)
          · exact Or.inr (Or.inl (by simpa using ht.symm))
          · exact Or.inr (Or.inr (by simpa using ht.symm))
          · simp at ht
        rcases h3 with rfl | rfl | rfl
        · exact (show Tryd.prog.wantsStandIn 25 = false by kernel_rfl)
        · exact (show Tryd.prog.wantsStandIn 47 = false by kernel_rfl)
        · exact (show Tryd.prog.wantsStandIn 48 = false by kernel_rfl)⟩)
    (by kernel_rfl)
end Go.Proofs.YthkjnpbbgfagkaaDoor
