/-
  Closed calls, gone through by the kernel: what they answer.
-/
import Derived.Test.YtambgppdjlhdaaaGreatDoorEqIom
import Derived.KernelRfl
namespace Go.Proofs.YtambgppdjlhdaaaGreatDoor
open Go.RowKit
set_option maxRecDepth 1000000

noncomputable def eqIg0 : Mem := ⟨[.str []], .tup [.nils, .int .i64 (0)], [], 172⟩
theorem eqIg0_run : memB' eqIg0 cq3 12 = true := by kernel_rfl
theorem eqIg0_ok [Tab] (hT : EnvQ Tab.w0) : MemOK Tryz.prog 12 eqIg0 := mem_ok (call3_ok hT) cq3_rel rfl eqIg0_run
noncomputable def eqIg1 : Mem := ⟨[.str [u8 108, u8 101, u8 116, u8 32, u8 120, u8 32, u8 61, u8 32, u8 40, u8 49]], .tup [.slu 816 0 1 4, .int .i64 (0)], [(816, .cells [.int .i64 (10), .int .i64 (10), .int .i64 (2), .str [u8 109, u8 105, u8 115, u8 115, u8 105, u8 110, u8 103, u8 32, u8 41]] 55)], 852⟩
theorem eqIg1_run : memB' eqIg1 cq3 12 = true := by kernel_rfl
theorem eqIg1_ok [Tab] (hT : EnvQ Tab.w0) : MemOK Tryz.prog 12 eqIg1 := mem_ok (call3_ok hT) cq3_rel rfl eqIg1_run
noncomputable def eqIg2 : Mem := ⟨[.str [u8 108, u8 101, u8 116, u8 32, u8 120, u8 32, u8 61, u8 32, u8 36]], .tup [.slu 525 0 1 4, .int .i64 (0)], [(525, .cells [.int .i64 (8), .int .i64 (9), .int .i64 (1), .str [u8 98, u8 97, u8 100, u8 32, u8 116, u8 111, u8 107, u8 101, u8 110]] 55)], 559⟩
theorem eqIg2_run : memB' eqIg2 cq3 12 = true := by kernel_rfl
theorem eqIg2_ok [Tab] (hT : EnvQ Tab.w0) : MemOK Tryz.prog 12 eqIg2 := mem_ok (call3_ok hT) cq3_rel rfl eqIg2_run
noncomputable def eqIg3 : Mem := ⟨[.str [u8 41, u8 32, u8 108, u8 101, u8 116]], .tup [.slu 636 0 4 4, .int .i64 (0)], [(636, .cells [.int .i64 (0), .int .i64 (1), .int .i64 (3), .str [u8 110, u8 111, u8 116, u8 32, u8 101, u8 120, u8 112, u8 101, u8 99, u8 116, u8 101, u8 100, u8 32, u8 104, u8 101, u8 114, u8 101], .int .i64 (5), .int .i64 (5), .int .i64 (2), .str [u8 109, u8 105, u8 115, u8 115, u8 105, u8 110, u8 103, u8 32, u8 112, u8 97, u8 116, u8 116, u8 101, u8 114, u8 110], .int .i64 (5), .int .i64 (5), .int .i64 (2), .str [u8 109, u8 105, u8 115, u8 115, u8 105, u8 110, u8 103, u8 32, u8 61], .int .i64 (5), .int .i64 (5), .int .i64 (2), .str [u8 109, u8 105, u8 115, u8 115, u8 105, u8 110, u8 103, u8 32, u8 101, u8 120, u8 112, u8 114]] 55)], 653⟩
theorem eqIg3_run : memB' eqIg3 cq3 12 = true := by kernel_rfl
theorem eqIg3_ok [Tab] (hT : EnvQ Tab.w0) : MemOK Tryz.prog 12 eqIg3 := mem_ok (call3_ok hT) cq3_rel rfl eqIg3_run
noncomputable def eqIg4 : Mem := ⟨[.str [u8 36, u8 32, u8 41, u8 32, u8 108, u8 101, u8 116, u8 32, u8 120, u8 32, u8 61, u8 32, u8 49]], .tup [.slu 672 0 2 4, .int .i64 (0)], [(672, .cells [.int .i64 (0), .int .i64 (3), .int .i64 (3), .str [u8 110, u8 111, u8 116, u8 32, u8 101, u8 120, u8 112, u8 101, u8 99, u8 116, u8 101, u8 100, u8 32, u8 104, u8 101, u8 114, u8 101], .int .i64 (0), .int .i64 (1), .int .i64 (1), .str [u8 98, u8 97, u8 100, u8 32, u8 116, u8 111, u8 107, u8 101, u8 110]] 55)], 755⟩
theorem eqIg4_run : memB' eqIg4 cq3 12 = true := by kernel_rfl
theorem eqIg4_ok [Tab] (hT : EnvQ Tab.w0) : MemOK Tryz.prog 12 eqIg4 := mem_ok (call3_ok hT) cq3_rel rfl eqIg4_run
noncomputable def eqIg5 : Mem := ⟨[.str [u8 108, u8 101, u8 116, u8 32, u8 120, u8 32, u8 61, u8 32, u8 122, u8 32, u8 121]], .tup [.slu 1591 0 2 4, .int .i64 (0)], [(1591, .cells [.int .i64 (8), .int .i64 (9), .int .i64 (4), .str [u8 110, u8 111, u8 116, u8 104, u8 105, u8 110, u8 103, u8 32, u8 104, u8 97, u8 115, u8 32, u8 116, u8 104, u8 101, u8 32, u8 110, u8 97, u8 109, u8 101, u8 32, u8 122], .int .i64 (10), .int .i64 (11), .int .i64 (4), .str [u8 110, u8 111, u8 116, u8 104, u8 105, u8 110, u8 103, u8 32, u8 104, u8 97, u8 115, u8 32, u8 116, u8 104, u8 101, u8 32, u8 110, u8 97, u8 109, u8 101, u8 32, u8 121]] 55)], 1611⟩
theorem eqIg5_run : memB' eqIg5 cq3 12 = true := by kernel_rfl
theorem eqIg5_ok [Tab] (hT : EnvQ Tab.w0) : MemOK Tryz.prog 12 eqIg5 := mem_ok (call3_ok hT) cq3_rel rfl eqIg5_run
noncomputable def eqIg6 : Mem := ⟨[.str [u8 108, u8 101, u8 116, u8 32, u8 102, u8 32, u8 40, u8 97, u8 44, u8 32, u8 97, u8 41, u8 32, u8 61, u8 32, u8 122]], .tup [.slu 2266 0 2 4, .int .i64 (0)], [(2266, .cells [.int .i64 (10), .int .i64 (11), .int .i64 (5), .str [u8 116, u8 119, u8 105, u8 99, u8 101, u8 32, u8 104, u8 101, u8 114, u8 101, u8 58, u8 32, u8 97], .int .i64 (15), .int .i64 (16), .int .i64 (4), .str [u8 110, u8 111, u8 116, u8 104, u8 105, u8 110, u8 103, u8 32, u8 104, u8 97, u8 115, u8 32, u8 116, u8 104, u8 101, u8 32, u8 110, u8 97, u8 109, u8 101, u8 32, u8 122]] 55)], 2321⟩
theorem eqIg6_run : memB' eqIg6 cq3 12 = true := by kernel_rfl
theorem eqIg6_ok [Tab] (hT : EnvQ Tab.w0) : MemOK Tryz.prog 12 eqIg6 := mem_ok (call3_ok hT) cq3_rel rfl eqIg6_run
noncomputable def eqIg7 : Mem := ⟨[.str [u8 108, u8 101, u8 116, u8 32, u8 120, u8 32, u8 61, u8 32, u8 49, u8 32, u8 43, u8 32, u8 116, u8 114, u8 117, u8 101]], .tup [.slu 2230 0 1 4, .int .i64 (0)], [(2230, .cells [.int .i64 (12), .int .i64 (16), .int .i64 (6), .str [u8 116, u8 121, u8 112, u8 101, u8 115, u8 32, u8 116, u8 104, u8 97, u8 116, u8 32, u8 99, u8 97, u8 110, u8 39, u8 116, u8 32, u8 98, u8 101, u8 32, u8 97, u8 108, u8 105, u8 107, u8 101]] 55)], 2375⟩
theorem eqIg7_run : memB' eqIg7 cq3 12 = true := by kernel_rfl
theorem eqIg7_ok [Tab] (hT : EnvQ Tab.w0) : MemOK Tryz.prog 12 eqIg7 := mem_ok (call3_ok hT) cq3_rel rfl eqIg7_run
noncomputable def eqIg8 : Mem := ⟨[.str [u8 108, u8 101, u8 116, u8 32, u8 102, u8 32, u8 120, u8 32, u8 61, u8 32, u8 120, u8 32, u8 120]], .tup [.slu 2509 0 1 4, .int .i64 (0)], [(2509, .cells [.int .i64 (10), .int .i64 (13), .int .i64 (7), .str [u8 97, u8 32, u8 116, u8 121, u8 112, u8 101, u8 32, u8 119, u8 105, u8 116, u8 104, u8 105, u8 110, u8 32, u8 105, u8 116, u8 115, u8 101, u8 108, u8 102]] 55)], 2811⟩
theorem eqIg8_run : memB' eqIg8 cq3 12 = true := by kernel_rfl
theorem eqIg8_ok [Tab] (hT : EnvQ Tab.w0) : MemOK Tryz.prog 12 eqIg8 := mem_ok (call3_ok hT) cq3_rel rfl eqIg8_run
noncomputable def eqIg9 : Mem := ⟨[.str [u8 108, u8 101, u8 116, u8 32, u8 120, u8 32, u8 61, u8 32, u8 49, u8 32, u8 43, u8 32, u8 116, u8 114, u8 117, u8 101, u8 32, u8 108, u8 101, u8 116, u8 32, u8 121, u8 32, u8 61, u8 32, u8 120, u8 32, u8 43, u8 32, u8 49, u8 32, u8 108, u8 101, u8 116, u8 32, u8 122, u8 32, u8 61, u8 32, u8 110, u8 111, u8 116, u8 32, u8 49]], .tup [.slu 6682 0 2 4, .int .i64 (0)], [(6682, .cells [.int .i64 (12), .int .i64 (16), .int .i64 (6), .str [u8 116, u8 121, u8 112, u8 101, u8 115, u8 32, u8 116, u8 104, u8 97, u8 116, u8 32, u8 99, u8 97, u8 110, u8 39, u8 116, u8 32, u8 98, u8 101, u8 32, u8 97, u8 108, u8 105, u8 107, u8 101], .int .i64 (39), .int .i64 (44), .int .i64 (6), .str [u8 116, u8 121, u8 112, u8 101, u8 115, u8 32, u8 116, u8 104, u8 97, u8 116, u8 32, u8 99, u8 97, u8 110, u8 39, u8 116, u8 32, u8 98, u8 101, u8 32, u8 97, u8 108, u8 105, u8 107, u8 101]] 55)], 7021⟩
theorem eqIg9_run : memB' eqIg9 cq3 12 = true := by kernel_rfl
theorem eqIg9_ok [Tab] (hT : EnvQ Tab.w0) : MemOK Tryz.prog 12 eqIg9 := mem_ok (call3_ok hT) cq3_rel rfl eqIg9_run
noncomputable def eqIg10 : Mem := ⟨[.str []], .bool true, [], 172⟩
theorem eqIg10_run : memB' eqIg10 cq3 14 = true := by kernel_rfl
theorem eqIg10_ok [Tab] (hT : EnvQ Tab.w0) : MemOK Tryz.prog 14 eqIg10 := mem_ok (call3_ok hT) cq3_rel rfl eqIg10_run
noncomputable def eqIg11 : Mem := ⟨[.str [u8 108, u8 101, u8 116, u8 32, u8 120, u8 32, u8 61, u8 32, u8 40, u8 49]], .bool false, [], 852⟩
theorem eqIg11_run : memB' eqIg11 cq3 14 = true := by kernel_rfl
theorem eqIg11_ok [Tab] (hT : EnvQ Tab.w0) : MemOK Tryz.prog 14 eqIg11 := mem_ok (call3_ok hT) cq3_rel rfl eqIg11_run
noncomputable def eqIg12 : Mem := ⟨[.str [u8 108, u8 101, u8 116, u8 32, u8 120, u8 32, u8 61, u8 32, u8 36]], .bool false, [], 559⟩
theorem eqIg12_run : memB' eqIg12 cq3 14 = true := by kernel_rfl
theorem eqIg12_ok [Tab] (hT : EnvQ Tab.w0) : MemOK Tryz.prog 14 eqIg12 := mem_ok (call3_ok hT) cq3_rel rfl eqIg12_run
end Go.Proofs.YtambgppdjlhdaaaGreatDoor
