/-
  Closed calls, gone through by the kernel: what they answer.
-/
import Derived.Test.YthmojpcaagnfkaaGreatDoorEqO
import Derived.KernelRfl
namespace Go.Proofs.YthmojpcaagnfkaaGreatDoor
open Go.RowKit
set_option maxRecDepth 1000000

noncomputable def eqRm11 : Mem := ⟨[.str [u8 123, u8 34, u8 106, u8 115, u8 111, u8 110, u8 114, u8 112, u8 99, u8 34, u8 58, u8 34, u8 50, u8 46, u8 48, u8 34, u8 44, u8 34, u8 105, u8 100, u8 34, u8 58, u8 49, u8 44, u8 34, u8 114, u8 101, u8 115, u8 117, u8 108, u8 116, u8 34, u8 58, u8 49, u8 44, u8 34, u8 101, u8 114, u8 114, u8 111, u8 114, u8 34, u8 58, u8 123, u8 34, u8 99, u8 111, u8 100, u8 101, u8 34, u8 58, u8 49, u8 44, u8 34, u8 109, u8 101, u8 115, u8 115, u8 97, u8 103, u8 101, u8 34, u8 58, u8 34, u8 34, u8 125, u8 125]], .tup [.agg [.int .u8 (0), .int .u8 (0), .str [], .nils, .nils, .str [], .int .u8 (0), .str [], .nils, .nils, .int .u8 (0), .str [], .nils, .nils, .int .i64 (0), .str []], .int .i64 (73)], [], 738⟩
theorem eqRm11_run : memB' eqRm11 cqR 58 = true := by kernel_rfl
theorem eqRm11_ok [Tab] (hT : EnvQ Tab.w0) : MemOK Tryz.prog 58 eqRm11 := mem_ok (callR_ok hT) cqR_rel rfl eqRm11_run
noncomputable def eqRm12 : Mem := ⟨[.str [u8 123, u8 34, u8 106, u8 115, u8 111, u8 110, u8 114, u8 112, u8 99, u8 34, u8 58, u8 34, u8 50, u8 46, u8 48, u8 34, u8 44, u8 34, u8 105, u8 100, u8 34, u8 58, u8 49, u8 44, u8 34, u8 114, u8 101, u8 115, u8 117, u8 108, u8 116, u8 34, u8 58, u8 110, u8 117, u8 108, u8 108, u8 125]], .tup [.agg [.int .u8 (3), .int .u8 (4), .str [u8 49], .nils, .nils, .str [], .int .u8 (0), .str [], .nils, .nils, .int .u8 (1), .str [], .nils, .nils, .int .i64 (0), .str []], .int .i64 (0)], [], 393⟩
theorem eqRm12_run : memB' eqRm12 cqR 58 = true := by kernel_rfl
theorem eqRm12_ok [Tab] (hT : EnvQ Tab.w0) : MemOK Tryz.prog 58 eqRm12 := mem_ok (callR_ok hT) cqR_rel rfl eqRm12_run
noncomputable def eqRm13 : Mem := ⟨[.str [u8 123, u8 34, u8 106, u8 115, u8 111, u8 110, u8 114, u8 112, u8 99, u8 34, u8 58, u8 34, u8 50, u8 46, u8 48, u8 34, u8 44, u8 34, u8 105, u8 100, u8 34, u8 58, u8 49, u8 46, u8 53, u8 44, u8 34, u8 109, u8 101, u8 116, u8 104, u8 111, u8 100, u8 34, u8 58, u8 34, u8 109, u8 34, u8 125]], .tup [.agg [.int .u8 (0), .int .u8 (0), .str [], .nils, .nils, .str [], .int .u8 (0), .str [], .nils, .nils, .int .u8 (0), .str [], .nils, .nils, .int .i64 (0), .str []], .int .i64 (73)], [], 422⟩
theorem eqRm13_run : memB' eqRm13 cqR 58 = true := by kernel_rfl
theorem eqRm13_ok [Tab] (hT : EnvQ Tab.w0) : MemOK Tryz.prog 58 eqRm13 := mem_ok (callR_ok hT) cqR_rel rfl eqRm13_run
noncomputable def eqRm14 : Mem := ⟨[.str [u8 123, u8 34, u8 106, u8 115, u8 111, u8 110, u8 114, u8 112, u8 99, u8 34, u8 58, u8 34, u8 50, u8 46, u8 48, u8 34, u8 44, u8 34, u8 105, u8 100, u8 34, u8 58, u8 49, u8 101, u8 50, u8 44, u8 34, u8 109, u8 101, u8 116, u8 104, u8 111, u8 100, u8 34, u8 58, u8 34, u8 34, u8 125]], .tup [.agg [.int .u8 (1), .int .u8 (4), .str [u8 49, u8 101, u8 50], .nils, .nils, .str [], .int .u8 (0), .str [], .nils, .nils, .int .u8 (0), .str [], .nils, .nils, .int .i64 (0), .str []], .int .i64 (0)], [], 423⟩
theorem eqRm14_run : memB' eqRm14 cqR 58 = true := by kernel_rfl
theorem eqRm14_ok [Tab] (hT : EnvQ Tab.w0) : MemOK Tryz.prog 58 eqRm14 := mem_ok (callR_ok hT) cqR_rel rfl eqRm14_run
noncomputable def eqRm15 : Mem := ⟨[.str [u8 123, u8 34, u8 106, u8 115, u8 111, u8 110, u8 114, u8 112, u8 99, u8 34, u8 58, u8 34, u8 50, u8 46, u8 48, u8 34, u8 44, u8 34, u8 105, u8 100, u8 34, u8 58, u8 49, u8 125]], .tup [.agg [.int .u8 (0), .int .u8 (0), .str [], .nils, .nils, .str [], .int .u8 (0), .str [], .nils, .nils, .int .u8 (0), .str [], .nils, .nils, .int .i64 (0), .str []], .int .i64 (73)], [], 272⟩
theorem eqRm15_run : memB' eqRm15 cqR 58 = true := by kernel_rfl
theorem eqRm15_ok [Tab] (hT : EnvQ Tab.w0) : MemOK Tryz.prog 58 eqRm15 := mem_ok (callR_ok hT) cqR_rel rfl eqRm15_run
noncomputable def eqRm16 : Mem := ⟨[.str [u8 123, u8 34, u8 106, u8 115, u8 111, u8 110, u8 114, u8 112, u8 99, u8 34, u8 58, u8 34, u8 50, u8 46, u8 48, u8 34, u8 44, u8 34, u8 105, u8 100, u8 34, u8 58, u8 57, u8 50, u8 50, u8 51, u8 51, u8 55, u8 50, u8 48, u8 51, u8 54, u8 56, u8 53, u8 52, u8 55, u8 55, u8 53, u8 56, u8 48, u8 56, u8 44, u8 34, u8 109, u8 101, u8 116, u8 104, u8 111, u8 100, u8 34, u8 58, u8 34, u8 109, u8 34, u8 125]], .tup [.agg [.int .u8 (0), .int .u8 (0), .str [], .nils, .nils, .str [], .int .u8 (0), .str [], .nils, .nils, .int .u8 (0), .str [], .nils, .nils, .int .i64 (0), .str []], .int .i64 (73)], [], 395⟩
theorem eqRm16_run : memB' eqRm16 cqR 58 = true := by kernel_rfl
theorem eqRm16_ok [Tab] (hT : EnvQ Tab.w0) : MemOK Tryz.prog 58 eqRm16 := mem_ok (callR_ok hT) cqR_rel rfl eqRm16_run
noncomputable def eqRm17 : Mem := ⟨[.str [u8 123, u8 34, u8 106, u8 115, u8 111, u8 110, u8 114, u8 112, u8 99, u8 34, u8 58, u8 34, u8 50, u8 46, u8 48, u8 34, u8 44, u8 34, u8 105, u8 100, u8 34, u8 58, u8 91, u8 93, u8 44, u8 34, u8 109, u8 101, u8 116, u8 104, u8 111, u8 100, u8 34, u8 58, u8 34, u8 109, u8 34, u8 125]], .tup [.agg [.int .u8 (0), .int .u8 (0), .str [], .nils, .nils, .str [], .int .u8 (0), .str [], .nils, .nils, .int .u8 (0), .str [], .nils, .nils, .int .i64 (0), .str []], .int .i64 (73)], [], 209⟩
theorem eqRm17_run : memB' eqRm17 cqR 58 = true := by kernel_rfl
theorem eqRm17_ok [Tab] (hT : EnvQ Tab.w0) : MemOK Tryz.prog 58 eqRm17 := mem_ok (callR_ok hT) cqR_rel rfl eqRm17_run
noncomputable def eqRm18 : Mem := ⟨[.str [u8 123, u8 34, u8 106, u8 115, u8 111, u8 110, u8 114, u8 112, u8 99, u8 34, u8 58, u8 34, u8 50, u8 46, u8 48, u8 34, u8 44, u8 34, u8 105, u8 100, u8 34, u8 58, u8 110, u8 117, u8 108, u8 108, u8 44, u8 34, u8 101, u8 114, u8 114, u8 111, u8 114, u8 34, u8 58, u8 123, u8 34, u8 99, u8 111, u8 100, u8 101, u8 34, u8 58, u8 45, u8 51, u8 50, u8 55, u8 48, u8 48, u8 44, u8 34, u8 109, u8 101, u8 115, u8 115, u8 97, u8 103, u8 101, u8 34, u8 58, u8 34, u8 120, u8 34, u8 125, u8 125]], .tup [.agg [.int .u8 (4), .int .u8 (1), .str [], .nils, .nils, .str [], .int .u8 (0), .str [], .nils, .nils, .int .u8 (0), .str [], .nils, .nils, .int .i64 (-32700), .str [u8 120]], .int .i64 (0)], [], 542⟩
theorem eqRm18_run : memB' eqRm18 cqR 58 = true := by kernel_rfl
theorem eqRm18_ok [Tab] (hT : EnvQ Tab.w0) : MemOK Tryz.prog 58 eqRm18 := mem_ok (callR_ok hT) cqR_rel rfl eqRm18_run
noncomputable def eqRm19 : Mem := ⟨[.str [u8 123, u8 34, u8 106, u8 115, u8 111, u8 110, u8 114, u8 112, u8 99, u8 34, u8 58, u8 34, u8 50, u8 46, u8 48, u8 34, u8 44, u8 34, u8 105, u8 100, u8 34, u8 58, u8 110, u8 117, u8 108, u8 108, u8 44, u8 34, u8 109, u8 101, u8 116, u8 104, u8 111, u8 100, u8 34, u8 58, u8 34, u8 109, u8 34, u8 125]], .tup [.agg [.int .u8 (0), .int .u8 (0), .str [], .nils, .nils, .str [], .int .u8 (0), .str [], .nils, .nils, .int .u8 (0), .str [], .nils, .nils, .int .i64 (0), .str []], .int .i64 (73)], [], 206⟩
theorem eqRm19_run : memB' eqRm19 cqR 58 = true := by kernel_rfl
theorem eqRm19_ok [Tab] (hT : EnvQ Tab.w0) : MemOK Tryz.prog 58 eqRm19 := mem_ok (callR_ok hT) cqR_rel rfl eqRm19_run
noncomputable def eqRm20 : Mem := ⟨[.str [u8 123, u8 34, u8 106, u8 115, u8 111, u8 110, u8 114, u8 112, u8 99, u8 34, u8 58, u8 34, u8 50, u8 46, u8 48, u8 34, u8 44, u8 34, u8 105, u8 100, u8 34, u8 58, u8 110, u8 117, u8 108, u8 108, u8 44, u8 34, u8 114, u8 101, u8 115, u8 117, u8 108, u8 116, u8 34, u8 58, u8 49, u8 125]], .tup [.agg [.int .u8 (0), .int .u8 (0), .str [], .nils, .nils, .str [], .int .u8 (0), .str [], .nils, .nils, .int .u8 (0), .str [], .nils, .nils, .int .i64 (0), .str []], .int .i64 (73)], [], 330⟩
theorem eqRm20_run : memB' eqRm20 cqR 58 = true := by kernel_rfl
theorem eqRm20_ok [Tab] (hT : EnvQ Tab.w0) : MemOK Tryz.prog 58 eqRm20 := mem_ok (callR_ok hT) cqR_rel rfl eqRm20_run
noncomputable def eqRm21 : Mem := ⟨[.str [u8 123, u8 34, u8 106, u8 115, u8 111, u8 110, u8 114, u8 112, u8 99, u8 34, u8 58, u8 34, u8 50, u8 46, u8 48, u8 34, u8 44, u8 34, u8 109, u8 101, u8 116, u8 104, u8 111, u8 100, u8 34, u8 58, u8 34, u8 109, u8 34, u8 44, u8 34, u8 112, u8 97, u8 114, u8 97, u8 109, u8 115, u8 34, u8 58, u8 49, u8 125]], .tup [.agg [.int .u8 (0), .int .u8 (0), .str [], .nils, .nils, .str [], .int .u8 (0), .str [], .nils, .nils, .int .u8 (0), .str [], .nils, .nils, .int .i64 (0), .str []], .int .i64 (73)], [], 339⟩
theorem eqRm21_run : memB' eqRm21 cqR 58 = true := by kernel_rfl
theorem eqRm21_ok [Tab] (hT : EnvQ Tab.w0) : MemOK Tryz.prog 58 eqRm21 := mem_ok (callR_ok hT) cqR_rel rfl eqRm21_run
end Go.Proofs.YthmojpcaagnfkaaGreatDoor
