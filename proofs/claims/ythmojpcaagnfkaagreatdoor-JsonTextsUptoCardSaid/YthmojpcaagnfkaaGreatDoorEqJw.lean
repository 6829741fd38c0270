/-
  rostrumlaw05.works answers true: the run, gone through by the kernel.
-/
import Derived.Test.YthmojpcaagnfkaaGreatDoorEqO
namespace Go.Proofs.YthmojpcaagnfkaaGreatDoor
open Go.RowKit
set_option maxRecDepth 1000000

theorem worksJ_run : isTrueQ (cqR 62 [] AS.nil trueK) = true := by kernel_rfl
theorem worksJ_all (w : World) (hE : EnvQ w) : Calls Tryz.prog 62 #[] w fun e w' => e = .returned (.bool true) ∧ Below w.heap.size w w' := by
  letI : Tab := ⟨w⟩
  exact closed_trueQ (callR_ok hE) cqR_rel worksJ_run w (Below.refl _ _)
end Go.Proofs.YthmojpcaagnfkaaGreatDoor
