import Derived.Test.YtlndiddplfoceaaDoorPN
set_option linter.unusedVariables false
namespace Go.Proofs.YtlndiddplfoceaaDoor
set_option maxRecDepth 1000000 in
theorem shaB_a : shaB [97] = [202, 151, 129, 18, 202, 27, 189, 202, 250, 194, 49, 179, 154, 35, 220, 77, 167, 134, 239, 248, 20, 124, 78, 114, 185, 128, 119, 133, 175, 238, 72, 187] := by decide +kernel
theorem nameB_a : nameB [97] = [46, 114, 101, 109, 111, 114, 97, 47, 99, 97, 57, 55, 56, 49, 49, 50, 99, 97, 49, 98, 98, 100, 99, 97, 102, 97, 99, 50, 51, 49, 98, 51, 57, 97, 50, 51, 100, 99, 52, 100] := by
  unfold nameB; rw [shaB_a]; decide
end Go.Proofs.YtlndiddplfoceaaDoor
