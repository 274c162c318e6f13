import Derived.Test.YtlndiddplfoceaaDoorBase
import Derived.Deep.RegionHeld2
/-! A region that draws its order: the condition that holds between its operations, made stronger on the way. -/
namespace Go.Proofs.YtlndiddplfoceaaDoor

theorem wpAnyH_change {P : Program} {md : Region.Mode} {ops : Array Oper} {Q : Exit → Act → World → Prop} {S S' : World → Prop} (hi : ∀ w, S' w → S w) :
    ∀ (fuel : Nat) (listed : Array Bool) (a : Act) (w : World), wpAnyH P md ops Q S' fuel listed a w → wpAnyH P md ops Q S fuel listed a w
  | 0, _, _, _, h => h
  | fuel + 1, _, _, _, h => ⟨h.1, fun i hr => wpOp_mono (fun _ _ h' => ⟨hi _ h'.1, wpAnyH_change hi fuel _ _ _ h'.2⟩) (h.2 i hr)⟩
end Go.Proofs.YtlndiddplfoceaaDoor
