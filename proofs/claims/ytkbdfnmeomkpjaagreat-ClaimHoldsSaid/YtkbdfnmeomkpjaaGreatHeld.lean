/- A region's walk that keeps a fact may keep a stronger one from here on; no condition. -/
import Derived.Test.YtkbdfnmeomkpjaaGreatMem
namespace Go.Proofs.YtkbdfnmeomkpjaaGreat
open Go.RowKit

theorem wpAnyH_stronger {P : Program} {md : Region.Mode} {ops : Array Oper} {Q : Exit → Act → World → Prop} {S S' : World → Prop} (hS : ∀ w, S' w → S w) :
    ∀ (fuel : Nat) (listed : Array Bool) (a : Act) (w : World), wpAnyH P md ops Q S' fuel listed a w → wpAnyH P md ops Q S fuel listed a w
  | 0, _, _, _, h => h
  | fuel + 1, _, _, _, h => ⟨h.1, fun i hi => wpOp_mono (fun a' w' h' => ⟨hS _ h'.1, wpAnyH_stronger hS fuel _ a' w' h'.2⟩) (h.2 i hi)⟩

end Go.Proofs.YtkbdfnmeomkpjaaGreat
