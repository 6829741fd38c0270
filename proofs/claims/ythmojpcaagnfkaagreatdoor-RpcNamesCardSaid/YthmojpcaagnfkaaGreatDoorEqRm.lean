/-
  Closed calls, gone through by the kernel: function by function.
-/
import Derived.Test.YthmojpcaagnfkaaGreatDoorEqRma
import Derived.Test.YthmojpcaagnfkaaGreatDoorEqRmb
import Derived.Test.YthmojpcaagnfkaaGreatDoorEqRmc
namespace Go.Proofs.YthmojpcaagnfkaaGreatDoor
open Go.RowKit
set_option maxRecDepth 1000000

theorem eqRmL53_ok [Tab] (hT : EnvQ Tab.w0) : OneOK Tryz.prog 53 (memoA [eqRm0]) := memo_one (List.forall_mem_cons.2 ⟨eqRm0_ok hT, fun _ h => nomatch h⟩)
noncomputable def eqRmL53 : List Mem := [eqRm0]
theorem eqRmL58_ok [Tab] (hT : EnvQ Tab.w0) : OneOK Tryz.prog 58 (memoA [eqRm1, eqRm2, eqRm3, eqRm4, eqRm5, eqRm6, eqRm7, eqRm8, eqRm9, eqRm10, eqRm11, eqRm12, eqRm13, eqRm14, eqRm15, eqRm16, eqRm17, eqRm18, eqRm19, eqRm20, eqRm21, eqRm22, eqRm23, eqRm24, eqRm25, eqRm26, eqRm27, eqRm28]) := memo_one (List.forall_mem_cons.2 ⟨eqRm1_ok hT, List.forall_mem_cons.2 ⟨eqRm2_ok hT, List.forall_mem_cons.2 ⟨eqRm3_ok hT, List.forall_mem_cons.2 ⟨eqRm4_ok hT, List.forall_mem_cons.2 ⟨eqRm5_ok hT, List.forall_mem_cons.2 ⟨eqRm6_ok hT, List.forall_mem_cons.2 ⟨eqRm7_ok hT, List.forall_mem_cons.2 ⟨eqRm8_ok hT, List.forall_mem_cons.2 ⟨eqRm9_ok hT, List.forall_mem_cons.2 ⟨eqRm10_ok hT, List.forall_mem_cons.2 ⟨eqRm11_ok hT, List.forall_mem_cons.2 ⟨eqRm12_ok hT, List.forall_mem_cons.2 ⟨eqRm13_ok hT, List.forall_mem_cons.2 ⟨eqRm14_ok hT, List.forall_mem_cons.2 ⟨eqRm15_ok hT, List.forall_mem_cons.2 ⟨eqRm16_ok hT, List.forall_mem_cons.2 ⟨eqRm17_ok hT, List.forall_mem_cons.2 ⟨eqRm18_ok hT, List.forall_mem_cons.2 ⟨eqRm19_ok hT, List.forall_mem_cons.2 ⟨eqRm20_ok hT, List.forall_mem_cons.2 ⟨eqRm21_ok hT, List.forall_mem_cons.2 ⟨eqRm22_ok hT, List.forall_mem_cons.2 ⟨eqRm23_ok hT, List.forall_mem_cons.2 ⟨eqRm24_ok hT, List.forall_mem_cons.2 ⟨eqRm25_ok hT, List.forall_mem_cons.2 ⟨eqRm26_ok hT, List.forall_mem_cons.2 ⟨eqRm27_ok hT, List.forall_mem_cons.2 ⟨eqRm28_ok hT, fun _ h => nomatch h⟩⟩⟩⟩⟩⟩⟩⟩⟩⟩⟩⟩⟩⟩⟩⟩⟩⟩⟩⟩⟩⟩⟩⟩⟩⟩⟩⟩)
noncomputable def eqRmL58 : List Mem := [eqRm1, eqRm2, eqRm3, eqRm4, eqRm5, eqRm6, eqRm7, eqRm8, eqRm9, eqRm10, eqRm11, eqRm12, eqRm13, eqRm14, eqRm15, eqRm16, eqRm17, eqRm18, eqRm19, eqRm20, eqRm21, eqRm22, eqRm23, eqRm24, eqRm25, eqRm26, eqRm27, eqRm28]
theorem eqRmL59_ok [Tab] (hT : EnvQ Tab.w0) : OneOK Tryz.prog 59 (memoA [eqRm29, eqRm30, eqRm31, eqRm32]) := memo_one (List.forall_mem_cons.2 ⟨eqRm29_ok hT, List.forall_mem_cons.2 ⟨eqRm30_ok hT, List.forall_mem_cons.2 ⟨eqRm31_ok hT, List.forall_mem_cons.2 ⟨eqRm32_ok hT, fun _ h => nomatch h⟩⟩⟩⟩)
noncomputable def eqRmL59 : List Mem := [eqRm29, eqRm30, eqRm31, eqRm32]
end Go.Proofs.YthmojpcaagnfkaaGreatDoor
