/-
  Closed calls, gone through by the kernel: what they answer.
-/
import Derived.Test.YtbnpifafgadjgaaGreatDoorEqP
import Derived.KernelRfl
namespace Go.Proofs.YtbnpifafgadjgaaGreatDoor
open Go.RowKit
set_option maxRecDepth 1000000

noncomputable def eqDw0 : Mem := ⟨[], .mapp 0, [(0, .mapb [(.str [u8 95], .int .u8 (8), 0), (.str [u8 108, u8 101, u8 116], .int .u8 (3), 1), (.str [u8 114, u8 101, u8 99], .int .u8 (3), 2), (.str [u8 105, u8 110], .int .u8 (3), 3), (.str [u8 102, u8 117, u8 110], .int .u8 (3), 4), (.str [u8 105, u8 102], .int .u8 (3), 5), (.str [u8 116, u8 104, u8 101, u8 110], .int .u8 (3), 6), (.str [u8 101, u8 108, u8 115, u8 101], .int .u8 (3), 7), (.str [u8 109, u8 97, u8 116, u8 99, u8 104], .int .u8 (3), 8), (.str [u8 119, u8 105, u8 116, u8 104], .int .u8 (3), 9), (.str [u8 116, u8 114, u8 117, u8 101], .int .u8 (3), 10), (.str [u8 102, u8 97, u8 108, u8 115, u8 101], .int .u8 (3), 11), (.str [u8 109, u8 111, u8 100], .int .u8 (3), 12)] 13)], 2⟩
theorem eqDw0_run : memB' eqDw0 cqR 100 = true := by kernel_rfl
theorem eqDw0_ok [Tab] (hT : EnvQ Tab.w0) : MemOK Tryz.prog 100 eqDw0 := mem_ok (callR_ok hT) cqR_rel rfl eqDw0_run
end Go.Proofs.YtbnpifafgadjgaaGreatDoor


/-
  Closed calls, gone through by the kernel: function by function.
-/
namespace Go.Proofs.YtbnpifafgadjgaaGreatDoor
open Go.RowKit
set_option maxRecDepth 1000000

theorem eqDwL100_ok [Tab] (hT : EnvQ Tab.w0) : OneOK Tryz.prog 100 (memoA [eqDw0]) := memo_one (List.forall_mem_cons.2 ⟨eqDw0_ok hT, fun _ h => nomatch h⟩)
noncomputable def eqDwL100 : List Mem := [eqDw0]
end Go.Proofs.YtbnpifafgadjgaaGreatDoor


/-
  The quick machine at the program, over answers told beforehand.
-/
namespace Go.Proofs.YtbnpifafgadjgaaGreatDoor
open Go.RowKit
set_option maxRecDepth 1000000

noncomputable def orc1 : List (Nat × (List AV → AS → Option (AV × AS))) := (100, memoA eqDwL100) :: orcB
theorem orc1_ok [Tab] (hT : EnvQ Tab.w0) : ∀ p ∈ orc1, OneOK Tryz.prog p.1 p.2 :=
  List.forall_mem_cons.2 ⟨eqDwL100_ok hT, orcB_ok hT⟩
noncomputable def call1 : Nat → List AV → AS → Option (AV × AS) := evF Tryz.prog (hooks Tryz.prog) (fnL fsQ) (orcL orc1) 100000 260
noncomputable def cq1 : CallQ := evQ Tryz.prog (fnL fsQ) (orcQ orc1) 100000 260
theorem call1_ok [Tab] (hT : EnvQ Tab.w0) : CallOK Tryz.prog call1 := evF_ok (hooks_ok mixedQ) fsQ_ok (orcL_ok (orc1_ok hT)) 260
theorem cq1_rel [Tab] : CallRel call1 cq1 := evQ_ok (orcQ_rel _) 260
end Go.Proofs.YtbnpifafgadjgaaGreatDoor
