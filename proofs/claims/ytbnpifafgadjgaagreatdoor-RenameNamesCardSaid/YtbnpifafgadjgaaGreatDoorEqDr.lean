/-
  rostrumlaw22.RenameNames answers true: the run, gone through by the kernel over the answers told beforehand.
-/
import Derived.Test.YtbnpifafgadjgaaGreatDoorEqDlm
import Derived.KernelRfl
namespace Go.Proofs.YtbnpifafgadjgaaGreatDoor
open Go.RowKit
set_option maxRecDepth 1000000

theorem renameNames_run : isTrueQ (cq4 4 [] AS.nil trueK) = true := by kernel_rfl
theorem renameNames_all (w : World) (hE : EnvQ w) : Calls Tryz.prog 4 #[] w fun e w' => e = .returned (.bool true) ∧ Below w.heap.size w w' := by
  letI : Tab := ⟨w⟩
  exact closed_trueQ (call4_ok hE) cq4_rel renameNames_run w (Below.refl _ _)
end Go.Proofs.YtbnpifafgadjgaaGreatDoor
