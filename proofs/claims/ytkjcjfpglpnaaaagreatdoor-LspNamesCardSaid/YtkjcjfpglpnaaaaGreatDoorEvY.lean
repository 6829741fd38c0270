/-
  rostrumlaw08.LspNames answers true: the run, gone through by the kernel.
-/
import Derived.Test.YtkjcjfpglpnaaaaGreatDoorEvX
namespace Go.Proofs.YtkjcjfpglpnaaaaGreatDoor
open Go.RowKit
set_option maxRecDepth 1000000

theorem lspNames_run : isTrueA (evLsp 3 [] ⟨.leaf, 0⟩) = true := by kernel_rfl
theorem lspNames_any (w : World) : Calls Tryz.prog 3 #[] w fun e w' => e = .returned (.bool true) ∧ Below w.heap.size w w' := closed_true evLsp_ok lspNames_run w
end Go.Proofs.YtkjcjfpglpnaaaaGreatDoor
