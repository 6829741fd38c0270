/-
  Closed calls, gone through by the kernel: what they answer.
-/
import Derived.Test.YthmojpcaagnfkaaGreatDoorEqO
import Derived.KernelRfl
namespace Go.Proofs.YthmojpcaagnfkaaGreatDoor
open Go.RowKit
set_option maxRecDepth 1000000

noncomputable def eqRm22 : Mem := ⟨[.str [u8 123, u8 34, u8 106, u8 115, u8 111, u8 110, u8 114, u8 112, u8 99, u8 34, u8 58, u8 34, u8 50, u8 46, u8 48, u8 34, u8 44, u8 34, u8 109, u8 101, u8 116, u8 104, u8 111, u8 100, u8 34, u8 58, u8 34, u8 109, u8 34, u8 44, u8 34, u8 112, u8 97, u8 114, u8 97, u8 109, u8 115, u8 34, u8 58, u8 110, u8 117, u8 108, u8 108, u8 125]], .tup [.agg [.int .u8 (0), .int .u8 (0), .str [], .nils, .nils, .str [], .int .u8 (0), .str [], .nils, .nils, .int .u8 (0), .str [], .nils, .nils, .int .i64 (0), .str []], .int .i64 (73)], [], 213⟩
theorem eqRm22_run : memB' eqRm22 cqR 58 = true := by kernel_rfl
theorem eqRm22_ok [Tab] (hT : EnvQ Tab.w0) : MemOK Tryz.prog 58 eqRm22 := mem_ok (callR_ok hT) cqR_rel rfl eqRm22_run
noncomputable def eqRm23 : Mem := ⟨[.str [u8 123, u8 34, u8 106, u8 115, u8 111, u8 110, u8 114, u8 112, u8 99, u8 34, u8 58, u8 34, u8 50, u8 46, u8 48, u8 34, u8 44, u8 34, u8 109, u8 101, u8 116, u8 104, u8 111, u8 100, u8 34, u8 58, u8 34, u8 109, u8 34, u8 44, u8 34, u8 112, u8 97, u8 114, u8 97, u8 109, u8 115, u8 34, u8 58, u8 123, u8 125, u8 44, u8 34, u8 114, u8 101, u8 115, u8 117, u8 108, u8 116, u8 34, u8 58, u8 49, u8 44, u8 34, u8 101, u8 114, u8 114, u8 111, u8 114, u8 34, u8 58, u8 50, u8 125]], .tup [.agg [.int .u8 (2), .int .u8 (0), .str [], .nils, .nils, .str [u8 109], .int .u8 (7), .str [], .nils, .nils, .int .u8 (0), .str [], .nils, .nils, .int .i64 (0), .str []], .int .i64 (0)], [], 566⟩
theorem eqRm23_run : memB' eqRm23 cqR 58 = true := by kernel_rfl
theorem eqRm23_ok [Tab] (hT : EnvQ Tab.w0) : MemOK Tryz.prog 58 eqRm23 := mem_ok (callR_ok hT) cqR_rel rfl eqRm23_run
noncomputable def eqRm24 : Mem := ⟨[.str [u8 123, u8 34, u8 106, u8 115, u8 111, u8 110, u8 114, u8 112, u8 99, u8 34, u8 58, u8 34, u8 50, u8 46, u8 48, u8 34, u8 44, u8 34, u8 109, u8 101, u8 116, u8 104, u8 111, u8 100, u8 34, u8 58, u8 34, u8 109, u8 34, u8 125]], .tup [.agg [.int .u8 (2), .int .u8 (0), .str [], .nils, .nils, .str [u8 109], .int .u8 (0), .str [], .nils, .nils, .int .u8 (0), .str [], .nils, .nils, .int .i64 (0), .str []], .int .i64 (0)], [], 161⟩
theorem eqRm24_run : memB' eqRm24 cqR 58 = true := by kernel_rfl
theorem eqRm24_ok [Tab] (hT : EnvQ Tab.w0) : MemOK Tryz.prog 58 eqRm24 := mem_ok (callR_ok hT) cqR_rel rfl eqRm24_run
noncomputable def eqRm25 : Mem := ⟨[.str [u8 123, u8 34, u8 106, u8 115, u8 111, u8 110, u8 114, u8 112, u8 99, u8 34, u8 58, u8 34, u8 50, u8 46, u8 48, u8 34, u8 44, u8 34, u8 109, u8 101, u8 116, u8 104, u8 111, u8 100, u8 34, u8 58, u8 49, u8 125]], .tup [.agg [.int .u8 (0), .int .u8 (0), .str [], .nils, .nils, .str [], .int .u8 (0), .str [], .nils, .nils, .int .u8 (0), .str [], .nils, .nils, .int .i64 (0), .str []], .int .i64 (73)], [], 284⟩
theorem eqRm25_run : memB' eqRm25 cqR 58 = true := by kernel_rfl
theorem eqRm25_ok [Tab] (hT : EnvQ Tab.w0) : MemOK Tryz.prog 58 eqRm25 := mem_ok (callR_ok hT) cqR_rel rfl eqRm25_run
noncomputable def eqRm26 : Mem := ⟨[.str [u8 123, u8 34, u8 106, u8 115, u8 111, u8 110, u8 114, u8 112, u8 99, u8 34, u8 58, u8 34, u8 50, u8 46, u8 48, u8 34, u8 44, u8 34, u8 114, u8 101, u8 115, u8 117, u8 108, u8 116, u8 34, u8 58, u8 49, u8 125]], .tup [.agg [.int .u8 (0), .int .u8 (0), .str [], .nils, .nils, .str [], .int .u8 (0), .str [], .nils, .nils, .int .u8 (0), .str [], .nils, .nils, .int .i64 (0), .str []], .int .i64 (73)], [], 280⟩
theorem eqRm26_run : memB' eqRm26 cqR 58 = true := by kernel_rfl
theorem eqRm26_ok [Tab] (hT : EnvQ Tab.w0) : MemOK Tryz.prog 58 eqRm26 := mem_ok (callR_ok hT) cqR_rel rfl eqRm26_run
noncomputable def eqRm27 : Mem := ⟨[.str [u8 123, u8 34, u8 106, u8 115, u8 111, u8 110, u8 114, u8 112, u8 99, u8 34, u8 58, u8 50, u8 44, u8 34, u8 109, u8 101, u8 116, u8 104, u8 111, u8 100, u8 34, u8 58, u8 34, u8 109, u8 34, u8 125]], .tup [.agg [.int .u8 (0), .int .u8 (0), .str [], .nils, .nils, .str [], .int .u8 (0), .str [], .nils, .nils, .int .u8 (0), .str [], .nils, .nils, .int .i64 (0), .str []], .int .i64 (73)], [], 258⟩
theorem eqRm27_run : memB' eqRm27 cqR 58 = true := by kernel_rfl
theorem eqRm27_ok [Tab] (hT : EnvQ Tab.w0) : MemOK Tryz.prog 58 eqRm27 := mem_ok (callR_ok hT) cqR_rel rfl eqRm27_run
noncomputable def eqRm28 : Mem := ⟨[.str [u8 123, u8 34, u8 109, u8 101, u8 116, u8 104, u8 111, u8 100, u8 34, u8 58, u8 34, u8 109, u8 34, u8 125]], .tup [.agg [.int .u8 (0), .int .u8 (0), .str [], .nils, .nils, .str [], .int .u8 (0), .str [], .nils, .nils, .int .u8 (0), .str [], .nils, .nils, .int .i64 (0), .str []], .int .i64 (73)], [], 79⟩
theorem eqRm28_run : memB' eqRm28 cqR 58 = true := by kernel_rfl
theorem eqRm28_ok [Tab] (hT : EnvQ Tab.w0) : MemOK Tryz.prog 58 eqRm28 := mem_ok (callR_ok hT) cqR_rel rfl eqRm28_run
noncomputable def eqRm29 : Mem := ⟨[.str [u8 91, u8 93]], .agg [.int .u8 (1), .str [], .nils, .nils], [], 18⟩
theorem eqRm29_run : memB' eqRm29 cqR 59 = true := by kernel_rfl
theorem eqRm29_ok [Tab] (hT : EnvQ Tab.w0) : MemOK Tryz.prog 59 eqRm29 := mem_ok (callR_ok hT) cqR_rel rfl eqRm29_run
noncomputable def eqRm30 : Mem := ⟨[.str [u8 123, u8 34, u8 105, u8 100, u8 34, u8 58, u8 34, u8 97, u8 34, u8 125]], .agg [.int .u8 (5), .str [u8 97], .nils, .nils], [], 75⟩
theorem eqRm30_run : memB' eqRm30 cqR 59 = true := by kernel_rfl
theorem eqRm30_ok [Tab] (hT : EnvQ Tab.w0) : MemOK Tryz.prog 59 eqRm30 := mem_ok (callR_ok hT) cqR_rel rfl eqRm30_run
noncomputable def eqRm31 : Mem := ⟨[.str [u8 123, u8 34, u8 105, u8 100, u8 34, u8 58, u8 49, u8 46, u8 53, u8 125]], .agg [.int .u8 (1), .str [], .nils, .nils], [], 288⟩
theorem eqRm31_run : memB' eqRm31 cqR 59 = true := by kernel_rfl
theorem eqRm31_ok [Tab] (hT : EnvQ Tab.w0) : MemOK Tryz.prog 59 eqRm31 := mem_ok (callR_ok hT) cqR_rel rfl eqRm31_run
noncomputable def eqRm32 : Mem := ⟨[.str [u8 123, u8 125]], .agg [.int .u8 (1), .str [], .nils, .nils], [], 20⟩
theorem eqRm32_run : memB' eqRm32 cqR 59 = true := by kernel_rfl
theorem eqRm32_ok [Tab] (hT : EnvQ Tab.w0) : MemOK Tryz.prog 59 eqRm32 := mem_ok (callR_ok hT) cqR_rel rfl eqRm32_run
end Go.Proofs.YthmojpcaagnfkaaGreatDoor
