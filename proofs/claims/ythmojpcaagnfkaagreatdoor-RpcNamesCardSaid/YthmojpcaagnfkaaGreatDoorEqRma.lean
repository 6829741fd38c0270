/-
  Closed calls, gone through by the kernel: what they answer.
-/
import Derived.Test.YthmojpcaagnfkaaGreatDoorEqO
import Derived.KernelRfl
namespace Go.Proofs.YthmojpcaagnfkaaGreatDoor
open Go.RowKit
set_option maxRecDepth 1000000

noncomputable def eqRm0 : Mem := ⟨[], .bool true, [], 1679⟩
theorem eqRm0_run : memB' eqRm0 cqR 53 = true := by kernel_rfl
theorem eqRm0_ok [Tab] (hT : EnvQ Tab.w0) : MemOK Tryz.prog 53 eqRm0 := mem_ok (callR_ok hT) cqR_rel rfl eqRm0_run
noncomputable def eqRm1 : Mem := ⟨[.str [u8 49]], .tup [.agg [.int .u8 (0), .int .u8 (0), .str [], .nils, .nils, .str [], .int .u8 (0), .str [], .nils, .nils, .int .u8 (0), .str [], .nils, .nils, .int .i64 (0), .str []], .int .i64 (73)], [], 148⟩
theorem eqRm1_run : memB' eqRm1 cqR 58 = true := by kernel_rfl
theorem eqRm1_ok [Tab] (hT : EnvQ Tab.w0) : MemOK Tryz.prog 58 eqRm1 := mem_ok (callR_ok hT) cqR_rel rfl eqRm1_run
noncomputable def eqRm2 : Mem := ⟨[.str [u8 91, u8 93]], .tup [.agg [.int .u8 (0), .int .u8 (0), .str [], .nils, .nils, .str [], .int .u8 (0), .str [], .nils, .nils, .int .u8 (0), .str [], .nils, .nils, .int .i64 (0), .str []], .int .i64 (73)], [], 25⟩
theorem eqRm2_run : memB' eqRm2 cqR 58 = true := by kernel_rfl
theorem eqRm2_ok [Tab] (hT : EnvQ Tab.w0) : MemOK Tryz.prog 58 eqRm2 := mem_ok (callR_ok hT) cqR_rel rfl eqRm2_run
noncomputable def eqRm3 : Mem := ⟨[.str [u8 123, u8 34, u8 106, u8 115, u8 111, u8 110, u8 114, u8 112, u8 99, u8 34, u8 58, u8 34, u8 49, u8 46, u8 48, u8 34, u8 44, u8 34, u8 109, u8 101, u8 116, u8 104, u8 111, u8 100, u8 34, u8 58, u8 34, u8 109, u8 34, u8 125]], .tup [.agg [.int .u8 (0), .int .u8 (0), .str [], .nils, .nils, .str [], .int .u8 (0), .str [], .nils, .nils, .int .u8 (0), .str [], .nils, .nils, .int .i64 (0), .str []], .int .i64 (73)], [], 139⟩
theorem eqRm3_run : memB' eqRm3 cqR 58 = true := by kernel_rfl
theorem eqRm3_ok [Tab] (hT : EnvQ Tab.w0) : MemOK Tryz.prog 58 eqRm3 := mem_ok (callR_ok hT) cqR_rel rfl eqRm3_run
noncomputable def eqRm4 : Mem := ⟨[.str [u8 123, u8 34, u8 106, u8 115, u8 111, u8 110, u8 114, u8 112, u8 99, u8 34, u8 58, u8 34, u8 50, u8 46, u8 48, u8 34, u8 44, u8 34, u8 105, u8 100, u8 34, u8 58, u8 34, u8 97, u8 34, u8 44, u8 34, u8 101, u8 114, u8 114, u8 111, u8 114, u8 34, u8 58, u8 123, u8 34, u8 99, u8 111, u8 100, u8 101, u8 34, u8 58, u8 49, u8 44, u8 34, u8 109, u8 101, u8 115, u8 115, u8 97, u8 103, u8 101, u8 34, u8 58, u8 34, u8 34, u8 44, u8 34, u8 100, u8 97, u8 116, u8 97, u8 34, u8 58, u8 50, u8 125, u8 44, u8 34, u8 112, u8 97, u8 114, u8 97, u8 109, u8 115, u8 34, u8 58, u8 55, u8 125]], .tup [.agg [.int .u8 (4), .int .u8 (5), .str [u8 97], .nils, .nils, .str [], .int .u8 (0), .str [], .nils, .nils, .int .u8 (0), .str [], .nils, .nils, .int .i64 (1), .str []], .int .i64 (0)], [], 874⟩
theorem eqRm4_run : memB' eqRm4 cqR 58 = true := by kernel_rfl
theorem eqRm4_ok [Tab] (hT : EnvQ Tab.w0) : MemOK Tryz.prog 58 eqRm4 := mem_ok (callR_ok hT) cqR_rel rfl eqRm4_run
noncomputable def eqRm5 : Mem := ⟨[.str [u8 123, u8 34, u8 106, u8 115, u8 111, u8 110, u8 114, u8 112, u8 99, u8 34, u8 58, u8 34, u8 50, u8 46, u8 48, u8 34, u8 44, u8 34, u8 105, u8 100, u8 34, u8 58, u8 49, u8 44, u8 34, u8 101, u8 114, u8 114, u8 111, u8 114, u8 34, u8 58, u8 91, u8 93, u8 125]], .tup [.agg [.int .u8 (0), .int .u8 (0), .str [], .nils, .nils, .str [], .int .u8 (0), .str [], .nils, .nils, .int .u8 (0), .str [], .nils, .nils, .int .i64 (0), .str []], .int .i64 (73)], [], 331⟩
theorem eqRm5_run : memB' eqRm5 cqR 58 = true := by kernel_rfl
theorem eqRm5_ok [Tab] (hT : EnvQ Tab.w0) : MemOK Tryz.prog 58 eqRm5 := mem_ok (callR_ok hT) cqR_rel rfl eqRm5_run
noncomputable def eqRm6 : Mem := ⟨[.str [u8 123, u8 34, u8 106, u8 115, u8 111, u8 110, u8 114, u8 112, u8 99, u8 34, u8 58, u8 34, u8 50, u8 46, u8 48, u8 34, u8 44, u8 34, u8 105, u8 100, u8 34, u8 58, u8 49, u8 44, u8 34, u8 101, u8 114, u8 114, u8 111, u8 114, u8 34, u8 58, u8 123, u8 34, u8 99, u8 111, u8 100, u8 101, u8 34, u8 58, u8 49, u8 44, u8 34, u8 109, u8 101, u8 115, u8 115, u8 97, u8 103, u8 101, u8 34, u8 58, u8 50, u8 125, u8 125]], .tup [.agg [.int .u8 (0), .int .u8 (0), .str [], .nils, .nils, .str [], .int .u8 (0), .str [], .nils, .nils, .int .u8 (0), .str [], .nils, .nils, .int .i64 (0), .str []], .int .i64 (73)], [], 760⟩
theorem eqRm6_run : memB' eqRm6 cqR 58 = true := by kernel_rfl
theorem eqRm6_ok [Tab] (hT : EnvQ Tab.w0) : MemOK Tryz.prog 58 eqRm6 := mem_ok (callR_ok hT) cqR_rel rfl eqRm6_run
noncomputable def eqRm7 : Mem := ⟨[.str [u8 123, u8 34, u8 106, u8 115, u8 111, u8 110, u8 114, u8 112, u8 99, u8 34, u8 58, u8 34, u8 50, u8 46, u8 48, u8 34, u8 44, u8 34, u8 105, u8 100, u8 34, u8 58, u8 49, u8 44, u8 34, u8 101, u8 114, u8 114, u8 111, u8 114, u8 34, u8 58, u8 123, u8 34, u8 99, u8 111, u8 100, u8 101, u8 34, u8 58, u8 49, u8 46, u8 53, u8 44, u8 34, u8 109, u8 101, u8 115, u8 115, u8 97, u8 103, u8 101, u8 34, u8 58, u8 34, u8 34, u8 125, u8 125]], .tup [.agg [.int .u8 (0), .int .u8 (0), .str [], .nils, .nils, .str [], .int .u8 (0), .str [], .nils, .nils, .int .u8 (0), .str [], .nils, .nils, .int .i64 (0), .str []], .int .i64 (73)], [], 662⟩
theorem eqRm7_run : memB' eqRm7 cqR 58 = true := by kernel_rfl
theorem eqRm7_ok [Tab] (hT : EnvQ Tab.w0) : MemOK Tryz.prog 58 eqRm7 := mem_ok (callR_ok hT) cqR_rel rfl eqRm7_run
noncomputable def eqRm8 : Mem := ⟨[.str [u8 123, u8 34, u8 106, u8 115, u8 111, u8 110, u8 114, u8 112, u8 99, u8 34, u8 58, u8 34, u8 50, u8 46, u8 48, u8 34, u8 44, u8 34, u8 105, u8 100, u8 34, u8 58, u8 49, u8 44, u8 34, u8 101, u8 114, u8 114, u8 111, u8 114, u8 34, u8 58, u8 123, u8 34, u8 99, u8 111, u8 100, u8 101, u8 34, u8 58, u8 49, u8 125, u8 125]], .tup [.agg [.int .u8 (0), .int .u8 (0), .str [], .nils, .nils, .str [], .int .u8 (0), .str [], .nils, .nils, .int .u8 (0), .str [], .nils, .nils, .int .i64 (0), .str []], .int .i64 (73)], [], 576⟩
theorem eqRm8_run : memB' eqRm8 cqR 58 = true := by kernel_rfl
theorem eqRm8_ok [Tab] (hT : EnvQ Tab.w0) : MemOK Tryz.prog 58 eqRm8 := mem_ok (callR_ok hT) cqR_rel rfl eqRm8_run
noncomputable def eqRm9 : Mem := ⟨[.str [u8 123, u8 34, u8 106, u8 115, u8 111, u8 110, u8 114, u8 112, u8 99, u8 34, u8 58, u8 34, u8 50, u8 46, u8 48, u8 34, u8 44, u8 34, u8 105, u8 100, u8 34, u8 58, u8 49, u8 44, u8 34, u8 101, u8 114, u8 114, u8 111, u8 114, u8 34, u8 58, u8 123, u8 34, u8 109, u8 101, u8 115, u8 115, u8 97, u8 103, u8 101, u8 34, u8 58, u8 34, u8 34, u8 125, u8 125]], .tup [.agg [.int .u8 (0), .int .u8 (0), .str [], .nils, .nils, .str [], .int .u8 (0), .str [], .nils, .nils, .int .u8 (0), .str [], .nils, .nils, .int .i64 (0), .str []], .int .i64 (73)], [], 394⟩
theorem eqRm9_run : memB' eqRm9 cqR 58 = true := by kernel_rfl
theorem eqRm9_ok [Tab] (hT : EnvQ Tab.w0) : MemOK Tryz.prog 58 eqRm9 := mem_ok (callR_ok hT) cqR_rel rfl eqRm9_run
noncomputable def eqRm10 : Mem := ⟨[.str [u8 123, u8 34, u8 106, u8 115, u8 111, u8 110, u8 114, u8 112, u8 99, u8 34, u8 58, u8 34, u8 50, u8 46, u8 48, u8 34, u8 44, u8 34, u8 105, u8 100, u8 34, u8 58, u8 49, u8 44, u8 34, u8 109, u8 101, u8 116, u8 104, u8 111, u8 100, u8 34, u8 58, u8 34, u8 109, u8 34, u8 44, u8 34, u8 112, u8 97, u8 114, u8 97, u8 109, u8 115, u8 34, u8 58, u8 91, u8 93, u8 125]], .tup [.agg [.int .u8 (1), .int .u8 (4), .str [u8 49], .nils, .nils, .str [u8 109], .int .u8 (6), .str [], .nils, .nils, .int .u8 (0), .str [], .nils, .nils, .int .i64 (0), .str []], .int .i64 (0)], [], 450⟩
theorem eqRm10_run : memB' eqRm10 cqR 58 = true := by kernel_rfl
theorem eqRm10_ok [Tab] (hT : EnvQ Tab.w0) : MemOK Tryz.prog 58 eqRm10 := mem_ok (callR_ok hT) cqR_rel rfl eqRm10_run
end Go.Proofs.YthmojpcaagnfkaaGreatDoor
