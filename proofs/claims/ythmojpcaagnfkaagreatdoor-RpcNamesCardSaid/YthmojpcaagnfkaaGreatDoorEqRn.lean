/-
  rostrumlaw07.RpcNames answers true: the run, gone through by the kernel over the answers told beforehand.
-/
import Derived.Test.YthmojpcaagnfkaaGreatDoorEqRm
namespace Go.Proofs.YthmojpcaagnfkaaGreatDoor
open Go.RowKit
set_option maxRecDepth 1000000

noncomputable def orcRn : List (Nat × (List AV → AS → Option (AV × AS))) := (53, memoA eqRmL53) :: (58, memoA eqRmL58) :: (59, memoA eqRmL59) :: orcB
theorem orcRn_ok [Tab] (hT : EnvQ Tab.w0) : ∀ p ∈ orcRn, OneOK Tryz.prog p.1 p.2 :=
  List.forall_mem_cons.2 ⟨eqRmL53_ok hT, List.forall_mem_cons.2 ⟨eqRmL58_ok hT, List.forall_mem_cons.2 ⟨eqRmL59_ok hT, orcB_ok hT⟩⟩⟩
noncomputable def cqRn : CallQ := evQ Tryz.prog (fnL fsQ) (orcQ orcRn) 100000 260
theorem rpcNames_run : isTrueQ (cqRn 10 [] AS.nil trueK) = true := by kernel_rfl
theorem rpcNames_all (w : World) (hE : EnvQ w) : Calls Tryz.prog 10 #[] w fun e w' => e = .returned (.bool true) ∧ Below w.heap.size w w' := by
  letI : Tab := ⟨w⟩
  exact closed_trueQ (evF_ok (hooks_ok mixedQ) fsQ_ok (orcL_ok (orcRn_ok hE)) 260) (evQ_ok (orcQ_rel orcRn) 260) rpcNames_run w (Below.refl _ _)
end Go.Proofs.YthmojpcaagnfkaaGreatDoor
