/-
  rostrumlaw28.StateNames answers true: the run, gone through by the kernel.
-/
import Derived.Test.YtoimnfnndgcieabGreatDoorEqS
import Derived.KernelRfl
namespace Go.Proofs.YtoimnfnndgcieabGreatDoor
open Go.RowKit
set_option maxRecDepth 1000000

theorem stateNames_run : isTrueQ (cqS 3 [] AS.nil trueK) = true := by kernel_rfl
theorem stateNames_all (w : World) (hE : EnvQ w) : Calls Tryz.prog 3 #[] w fun e w' => e = .returned (.bool true) ∧ Below w.heap.size w w' := by
  letI : Tab := ⟨w⟩
  exact closed_trueQ (callS_ok hE) cqS_rel stateNames_run w (Below.refl _ _)
end Go.Proofs.YtoimnfnndgcieabGreatDoor
