/- The condition of a region that draws its order may be made stronger underway. -/
import Derived.Deep.RegionHeld3
namespace Go.Proofs.YtbcmjjcbjojakaaDoor
section
variable {P : Program} {ops : Array Oper} {Q : Exit → Act → World → Prop} {md : Region.Mode} {S T : World → Prop}
theorem held_more (hST : ∀ w, T w → S w) : ∀ (fuel : Nat) (listed : Array Bool) (a : Act) (w : World), wpAnyH P md ops Q T fuel listed a w → wpAnyH P md ops Q S fuel listed a w
  | 0, _, _, _, h => h
  | fuel + 1, _, _, _, h => ⟨h.1, fun i hi => wpOp_mono (fun a' w' h' => ⟨hST w' h'.1, held_more hST fuel _ a' w' h'.2⟩) (h.2 i hi)⟩
end
end Go.Proofs.YtbcmjjcbjojakaaDoor
