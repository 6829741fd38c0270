/-
  Closed calls, gone through by the kernel: what they answer.
-/
import Derived.Test.YtbnpifafgadjgaaGreatDoorEqDwm
import Derived.KernelRfl
namespace Go.Proofs.YtbnpifafgadjgaaGreatDoor
open Go.RowKit
set_option maxRecDepth 1000000

noncomputable def eqDt0 : Mem := ⟨[.str [u8 108, u8 101, u8 116, u8 32, u8 120, u8 32, u8 61, u8 32, u8 49, u8 32, u8 108, u8 101, u8 116, u8 32, u8 102, u8 32, u8 121, u8 32, u8 61, u8 32, u8 120, u8 32, u8 43, u8 32, u8 121, u8 32, u8 120]], .tup [.slu 242 0 23 2, .int .i64 (0)], [(242, .cells [.int .u8 (3), .str [u8 108, u8 101, u8 116], .int .u8 (1), .str [u8 32], .int .u8 (4), .str [u8 120], .int .u8 (1), .str [u8 32], .int .u8 (8), .str [u8 61], .int .u8 (1), .str [u8 32], .int .u8 (5), .str [u8 49], .int .u8 (1), .str [u8 32], .int .u8 (3), .str [u8 108, u8 101, u8 116], .int .u8 (1), .str [u8 32], .int .u8 (4), .str [u8 102], .int .u8 (1), .str [u8 32], .int .u8 (4), .str [u8 121], .int .u8 (1), .str [u8 32], .int .u8 (8), .str [u8 61], .int .u8 (1), .str [u8 32], .int .u8 (4), .str [u8 120], .int .u8 (1), .str [u8 32], .int .u8 (8), .str [u8 43], .int .u8 (1), .str [u8 32], .int .u8 (4), .str [u8 121], .int .u8 (1), .str [u8 32], .int .u8 (4), .str [u8 120]] 64)], 243⟩
theorem eqDt0_run : memB' eqDt0 cq1 44 = true := by kernel_rfl
theorem eqDt0_ok [Tab] (hT : EnvQ Tab.w0) : MemOK Tryz.prog 44 eqDt0 := mem_ok (call1_ok hT) cq1_rel rfl eqDt0_run
noncomputable def eqDt1 : Mem := ⟨[.str [u8 108, u8 101, u8 116, u8 32, u8 102, u8 32, u8 121, u8 32, u8 61, u8 32, u8 122]], .tup [.slu 106 0 9 2, .int .i64 (0)], [(106, .cells [.int .u8 (3), .str [u8 108, u8 101, u8 116], .int .u8 (1), .str [u8 32], .int .u8 (4), .str [u8 102], .int .u8 (1), .str [u8 32], .int .u8 (4), .str [u8 121], .int .u8 (1), .str [u8 32], .int .u8 (8), .str [u8 61], .int .u8 (1), .str [u8 32], .int .u8 (4), .str [u8 122]] 64)], 107⟩
theorem eqDt1_run : memB' eqDt1 cq1 44 = true := by kernel_rfl
theorem eqDt1_ok [Tab] (hT : EnvQ Tab.w0) : MemOK Tryz.prog 44 eqDt1 := mem_ok (call1_ok hT) cq1_rel rfl eqDt1_run
noncomputable def eqDt2 : Mem := ⟨[.str [u8 108, u8 101, u8 116, u8 32, u8 120, u8 32, u8 61]], .tup [.slu 58 0 5 2, .int .i64 (0)], [(58, .cells [.int .u8 (3), .str [u8 108, u8 101, u8 116], .int .u8 (1), .str [u8 32], .int .u8 (4), .str [u8 120], .int .u8 (1), .str [u8 32], .int .u8 (8), .str [u8 61]] 64)], 59⟩
theorem eqDt2_run : memB' eqDt2 cq1 44 = true := by kernel_rfl
theorem eqDt2_ok [Tab] (hT : EnvQ Tab.w0) : MemOK Tryz.prog 44 eqDt2 := mem_ok (call1_ok hT) cq1_rel rfl eqDt2_run
noncomputable def eqDt3 : Mem := ⟨[.str [u8 108, u8 101, u8 116, u8 32, u8 120, u8 32, u8 61, u8 32, u8 49]], .tup [.slu 70 0 7 2, .int .i64 (0)], [(70, .cells [.int .u8 (3), .str [u8 108, u8 101, u8 116], .int .u8 (1), .str [u8 32], .int .u8 (4), .str [u8 120], .int .u8 (1), .str [u8 32], .int .u8 (8), .str [u8 61], .int .u8 (1), .str [u8 32], .int .u8 (5), .str [u8 49]] 64)], 71⟩
theorem eqDt3_run : memB' eqDt3 cq1 44 = true := by kernel_rfl
theorem eqDt3_ok [Tab] (hT : EnvQ Tab.w0) : MemOK Tryz.prog 44 eqDt3 := mem_ok (call1_ok hT) cq1_rel rfl eqDt3_run
noncomputable def eqDt4 : Mem := ⟨[.str [u8 108, u8 101, u8 116, u8 32, u8 120, u8 32, u8 61, u8 32, u8 49, u8 32, u8 108, u8 101, u8 116, u8 32, u8 121, u8 32, u8 61, u8 32, u8 120]], .tup [.slu 156 0 15 2, .int .i64 (0)], [(156, .cells [.int .u8 (3), .str [u8 108, u8 101, u8 116], .int .u8 (1), .str [u8 32], .int .u8 (4), .str [u8 120], .int .u8 (1), .str [u8 32], .int .u8 (8), .str [u8 61], .int .u8 (1), .str [u8 32], .int .u8 (5), .str [u8 49], .int .u8 (1), .str [u8 32], .int .u8 (3), .str [u8 108, u8 101, u8 116], .int .u8 (1), .str [u8 32], .int .u8 (4), .str [u8 121], .int .u8 (1), .str [u8 32], .int .u8 (8), .str [u8 61], .int .u8 (1), .str [u8 32], .int .u8 (4), .str [u8 120]] 64)], 157⟩
theorem eqDt4_run : memB' eqDt4 cq1 44 = true := by kernel_rfl
theorem eqDt4_ok [Tab] (hT : EnvQ Tab.w0) : MemOK Tryz.prog 44 eqDt4 := mem_ok (call1_ok hT) cq1_rel rfl eqDt4_run
noncomputable def eqDt5 : Mem := ⟨[.str [u8 108, u8 101, u8 116, u8 32, u8 120, u8 32, u8 61, u8 32, u8 102, u8 115, u8 116]], .tup [.slu 82 0 7 2, .int .i64 (0)], [(82, .cells [.int .u8 (3), .str [u8 108, u8 101, u8 116], .int .u8 (1), .str [u8 32], .int .u8 (4), .str [u8 120], .int .u8 (1), .str [u8 32], .int .u8 (8), .str [u8 61], .int .u8 (1), .str [u8 32], .int .u8 (4), .str [u8 102, u8 115, u8 116]] 64)], 83⟩
theorem eqDt5_run : memB' eqDt5 cq1 44 = true := by kernel_rfl
theorem eqDt5_ok [Tab] (hT : EnvQ Tab.w0) : MemOK Tryz.prog 44 eqDt5 := mem_ok (call1_ok hT) cq1_rel rfl eqDt5_run
noncomputable def eqDt6 : Mem := ⟨[.str [u8 108, u8 101, u8 116, u8 32, u8 40, u8 97, u8 44, u8 32, u8 98, u8 41, u8 32, u8 61, u8 32, u8 49, u8 32, u8 108, u8 101, u8 116, u8 32, u8 102, u8 32, u8 40, u8 99, u8 44, u8 32, u8 100, u8 41, u8 32, u8 61, u8 32, u8 102, u8 117, u8 110, u8 32, u8 101, u8 32, u8 45, u8 62, u8 32, u8 108, u8 101, u8 116, u8 32, u8 103, u8 32, u8 61, u8 32, u8 99, u8 32, u8 105, u8 110, u8 32, u8 109, u8 97, u8 116, u8 99, u8 104, u8 32, u8 103, u8 32, u8 119, u8 105, u8 116, u8 104, u8 32, u8 104, u8 32, u8 45, u8 62, u8 32, u8 97]], .tup [.slu 566 0 53 2, .int .i64 (0)], [(566, .cells [.int .u8 (3), .str [u8 108, u8 101, u8 116], .int .u8 (1), .str [u8 32], .int .u8 (8), .str [u8 40], .int .u8 (4), .str [u8 97], .int .u8 (8), .str [u8 44], .int .u8 (1), .str [u8 32], .int .u8 (4), .str [u8 98], .int .u8 (8), .str [u8 41], .int .u8 (1), .str [u8 32], .int .u8 (8), .str [u8 61], .int .u8 (1), .str [u8 32], .int .u8 (5), .str [u8 49], .int .u8 (1), .str [u8 32], .int .u8 (3), .str [u8 108, u8 101, u8 116], .int .u8 (1), .str [u8 32], .int .u8 (4), .str [u8 102], .int .u8 (1), .str [u8 32], .int .u8 (8), .str [u8 40], .int .u8 (4), .str [u8 99], .int .u8 (8), .str [u8 44], .int .u8 (1), .str [u8 32], .int .u8 (4), .str [u8 100], .int .u8 (8), .str [u8 41], .int .u8 (1), .str [u8 32], .int .u8 (8), .str [u8 61], .int .u8 (1), .str [u8 32], .int .u8 (3), .str [u8 102, u8 117, u8 110], .int .u8 (1), .str [u8 32], .int .u8 (4), .str [u8 101], .int .u8 (1), .str [u8 32], .int .u8 (8), .str [u8 45, u8 62], .int .u8 (1), .str [u8 32], .int .u8 (3), .str [u8 108, u8 101, u8 116], .int .u8 (1), .str [u8 32], .int .u8 (4), .str [u8 103], .int .u8 (1), .str [u8 32], .int .u8 (8), .str [u8 61], .int .u8 (1), .str [u8 32], .int .u8 (4), .str [u8 99], .int .u8 (1), .str [u8 32], .int .u8 (3), .str [u8 105, u8 110], .int .u8 (1), .str [u8 32], .int .u8 (3), .str [u8 109, u8 97, u8 116, u8 99, u8 104], .int .u8 (1), .str [u8 32], .int .u8 (4), .str [u8 103], .int .u8 (1), .str [u8 32], .int .u8 (3), .str [u8 119, u8 105, u8 116, u8 104], .int .u8 (1), .str [u8 32], .int .u8 (4), .str [u8 104], .int .u8 (1), .str [u8 32], .int .u8 (8), .str [u8 45, u8 62], .int .u8 (1), .str [u8 32], .int .u8 (4), .str [u8 97]] 64)], 567⟩
theorem eqDt6_run : memB' eqDt6 cq1 44 = true := by kernel_rfl
theorem eqDt6_ok [Tab] (hT : EnvQ Tab.w0) : MemOK Tryz.prog 44 eqDt6 := mem_ok (call1_ok hT) cq1_rel rfl eqDt6_run
noncomputable def eqDt7 : Mem := ⟨[.str [u8 108, u8 101, u8 116, u8 32, u8 102, u8 32, u8 120, u8 32, u8 61, u8 32, u8 121, u8 32, u8 43, u8 32, u8 102, u8 32, u8 122]], .tup [.slu 168 0 15 2, .int .i64 (0)], [(168, .cells [.int .u8 (3), .str [u8 108, u8 101, u8 116], .int .u8 (1), .str [u8 32], .int .u8 (4), .str [u8 102], .int .u8 (1), .str [u8 32], .int .u8 (4), .str [u8 120], .int .u8 (1), .str [u8 32], .int .u8 (8), .str [u8 61], .int .u8 (1), .str [u8 32], .int .u8 (4), .str [u8 121], .int .u8 (1), .str [u8 32], .int .u8 (8), .str [u8 43], .int .u8 (1), .str [u8 32], .int .u8 (4), .str [u8 102], .int .u8 (1), .str [u8 32], .int .u8 (4), .str [u8 122]] 64)], 169⟩
theorem eqDt7_run : memB' eqDt7 cq1 44 = true := by kernel_rfl
theorem eqDt7_ok [Tab] (hT : EnvQ Tab.w0) : MemOK Tryz.prog 44 eqDt7 := mem_ok (call1_ok hT) cq1_rel rfl eqDt7_run
noncomputable def eqDt8 : Mem := ⟨[.str [u8 108, u8 101, u8 116, u8 32, u8 120, u8 32, u8 61, u8 32, u8 49, u8 32, u8 108, u8 101, u8 116, u8 32, u8 120, u8 32, u8 61, u8 32, u8 120, u8 32, u8 108, u8 101, u8 116, u8 32, u8 121, u8 32, u8 61, u8 32, u8 120]], .tup [.slu 242 0 23 2, .int .i64 (0)], [(242, .cells [.int .u8 (3), .str [u8 108, u8 101, u8 116], .int .u8 (1), .str [u8 32], .int .u8 (4), .str [u8 120], .int .u8 (1), .str [u8 32], .int .u8 (8), .str [u8 61], .int .u8 (1), .str [u8 32], .int .u8 (5), .str [u8 49], .int .u8 (1), .str [u8 32], .int .u8 (3), .str [u8 108, u8 101, u8 116], .int .u8 (1), .str [u8 32], .int .u8 (4), .str [u8 120], .int .u8 (1), .str [u8 32], .int .u8 (8), .str [u8 61], .int .u8 (1), .str [u8 32], .int .u8 (4), .str [u8 120], .int .u8 (1), .str [u8 32], .int .u8 (3), .str [u8 108, u8 101, u8 116], .int .u8 (1), .str [u8 32], .int .u8 (4), .str [u8 121], .int .u8 (1), .str [u8 32], .int .u8 (8), .str [u8 61], .int .u8 (1), .str [u8 32], .int .u8 (4), .str [u8 120]] 64)], 243⟩
theorem eqDt8_run : memB' eqDt8 cq1 44 = true := by kernel_rfl
theorem eqDt8_ok [Tab] (hT : EnvQ Tab.w0) : MemOK Tryz.prog 44 eqDt8 := mem_ok (call1_ok hT) cq1_rel rfl eqDt8_run
end Go.Proofs.YtbnpifafgadjgaaGreatDoor


/-
  Closed calls, gone through by the kernel: what they answer.
-/
namespace Go.Proofs.YtbnpifafgadjgaaGreatDoor
open Go.RowKit
set_option maxRecDepth 1000000

noncomputable def eqDt9 : Mem := ⟨[.str [u8 108, u8 101, u8 116, u8 32, u8 102, u8 32, u8 120, u8 32, u8 61, u8 32, u8 120, u8 32, u8 43, u8 32, u8 49]], .tup [.slu 132 0 13 2, .int .i64 (0)], [(132, .cells [.int .u8 (3), .str [u8 108, u8 101, u8 116], .int .u8 (1), .str [u8 32], .int .u8 (4), .str [u8 102], .int .u8 (1), .str [u8 32], .int .u8 (4), .str [u8 120], .int .u8 (1), .str [u8 32], .int .u8 (8), .str [u8 61], .int .u8 (1), .str [u8 32], .int .u8 (4), .str [u8 120], .int .u8 (1), .str [u8 32], .int .u8 (8), .str [u8 43], .int .u8 (1), .str [u8 32], .int .u8 (5), .str [u8 49]] 64)], 133⟩
theorem eqDt9_run : memB' eqDt9 cq1 44 = true := by kernel_rfl
theorem eqDt9_ok [Tab] (hT : EnvQ Tab.w0) : MemOK Tryz.prog 44 eqDt9 := mem_ok (call1_ok hT) cq1_rel rfl eqDt9_run
noncomputable def eqDt10 : Mem := ⟨[.str [u8 121]], .tup [.slu 20 0 1 2, .int .i64 (0)], [(20, .cells [.int .u8 (4), .str [u8 121]] 64)], 21⟩
theorem eqDt10_run : memB' eqDt10 cq1 44 = true := by kernel_rfl
theorem eqDt10_ok [Tab] (hT : EnvQ Tab.w0) : MemOK Tryz.prog 44 eqDt10 := mem_ok (call1_ok hT) cq1_rel rfl eqDt10_run
noncomputable def eqDt11 : Mem := ⟨[.str [u8 108, u8 101, u8 116, u8 32, u8 102, u8 32, u8 121, u8 32, u8 61, u8 32, u8 121, u8 32, u8 43, u8 32, u8 49]], .tup [.slu 132 0 13 2, .int .i64 (0)], [(132, .cells [.int .u8 (3), .str [u8 108, u8 101, u8 116], .int .u8 (1), .str [u8 32], .int .u8 (4), .str [u8 102], .int .u8 (1), .str [u8 32], .int .u8 (4), .str [u8 121], .int .u8 (1), .str [u8 32], .int .u8 (8), .str [u8 61], .int .u8 (1), .str [u8 32], .int .u8 (4), .str [u8 121], .int .u8 (1), .str [u8 32], .int .u8 (8), .str [u8 43], .int .u8 (1), .str [u8 32], .int .u8 (5), .str [u8 49]] 64)], 133⟩
theorem eqDt11_run : memB' eqDt11 cq1 44 = true := by kernel_rfl
theorem eqDt11_ok [Tab] (hT : EnvQ Tab.w0) : MemOK Tryz.prog 44 eqDt11 := mem_ok (call1_ok hT) cq1_rel rfl eqDt11_run
noncomputable def eqDt12 : Mem := ⟨[.str [u8 102]], .tup [.slu 20 0 1 2, .int .i64 (0)], [(20, .cells [.int .u8 (4), .str [u8 102]] 64)], 21⟩
theorem eqDt12_run : memB' eqDt12 cq1 44 = true := by kernel_rfl
theorem eqDt12_ok [Tab] (hT : EnvQ Tab.w0) : MemOK Tryz.prog 44 eqDt12 := mem_ok (call1_ok hT) cq1_rel rfl eqDt12_run
noncomputable def eqDt13 : Mem := ⟨[.str [u8 108, u8 101, u8 116, u8 32, u8 102, u8 32, u8 102, u8 32, u8 61, u8 32, u8 102, u8 32, u8 43, u8 32, u8 49]], .tup [.slu 132 0 13 2, .int .i64 (0)], [(132, .cells [.int .u8 (3), .str [u8 108, u8 101, u8 116], .int .u8 (1), .str [u8 32], .int .u8 (4), .str [u8 102], .int .u8 (1), .str [u8 32], .int .u8 (4), .str [u8 102], .int .u8 (1), .str [u8 32], .int .u8 (8), .str [u8 61], .int .u8 (1), .str [u8 32], .int .u8 (4), .str [u8 102], .int .u8 (1), .str [u8 32], .int .u8 (8), .str [u8 43], .int .u8 (1), .str [u8 32], .int .u8 (5), .str [u8 49]] 64)], 133⟩
theorem eqDt13_run : memB' eqDt13 cq1 44 = true := by kernel_rfl
theorem eqDt13_ok [Tab] (hT : EnvQ Tab.w0) : MemOK Tryz.prog 44 eqDt13 := mem_ok (call1_ok hT) cq1_rel rfl eqDt13_run
noncomputable def eqDt14 : Mem := ⟨[.str [u8 120]], .tup [.slu 20 0 1 2, .int .i64 (0)], [(20, .cells [.int .u8 (4), .str [u8 120]] 64)], 21⟩
theorem eqDt14_run : memB' eqDt14 cq1 44 = true := by kernel_rfl
theorem eqDt14_ok [Tab] (hT : EnvQ Tab.w0) : MemOK Tryz.prog 44 eqDt14 := mem_ok (call1_ok hT) cq1_rel rfl eqDt14_run
noncomputable def eqDt15 : Mem := ⟨[.str [u8 108, u8 101, u8 116]], .tup [.slu 20 0 1 2, .int .i64 (0)], [(20, .cells [.int .u8 (3), .str [u8 108, u8 101, u8 116]] 64)], 21⟩
theorem eqDt15_run : memB' eqDt15 cq1 44 = true := by kernel_rfl
theorem eqDt15_ok [Tab] (hT : EnvQ Tab.w0) : MemOK Tryz.prog 44 eqDt15 := mem_ok (call1_ok hT) cq1_rel rfl eqDt15_run
noncomputable def eqDt16 : Mem := ⟨[.str [u8 49]], .tup [.slu 8 0 1 2, .int .i64 (0)], [(8, .cells [.int .u8 (5), .str [u8 49]] 64)], 9⟩
theorem eqDt16_run : memB' eqDt16 cq1 44 = true := by kernel_rfl
theorem eqDt16_ok [Tab] (hT : EnvQ Tab.w0) : MemOK Tryz.prog 44 eqDt16 := mem_ok (call1_ok hT) cq1_rel rfl eqDt16_run
noncomputable def eqDt17 : Mem := ⟨[.str [u8 95]], .tup [.slu 20 0 1 2, .int .i64 (0)], [(20, .cells [.int .u8 (8), .str [u8 95]] 64)], 21⟩
theorem eqDt17_run : memB' eqDt17 cq1 44 = true := by kernel_rfl
theorem eqDt17_ok [Tab] (hT : EnvQ Tab.w0) : MemOK Tryz.prog 44 eqDt17 := mem_ok (call1_ok hT) cq1_rel rfl eqDt17_run
end Go.Proofs.YtbnpifafgadjgaaGreatDoor


/-
  Closed calls, gone through by the kernel: what they answer.
-/
namespace Go.Proofs.YtbnpifafgadjgaaGreatDoor
open Go.RowKit
set_option maxRecDepth 1000000

noncomputable def eqDt18 : Mem := ⟨[.str []], .tup [.nils, .int .i64 (0)], [], 1⟩
theorem eqDt18_run : memB' eqDt18 cq1 44 = true := by kernel_rfl
theorem eqDt18_ok [Tab] (hT : EnvQ Tab.w0) : MemOK Tryz.prog 44 eqDt18 := mem_ok (call1_ok hT) cq1_rel rfl eqDt18_run
noncomputable def eqDt19 : Mem := ⟨[.str [u8 97, u8 32, u8 98]], .tup [.slu 44 0 3 2, .int .i64 (0)], [(44, .cells [.int .u8 (4), .str [u8 97], .int .u8 (1), .str [u8 32], .int .u8 (4), .str [u8 98]] 64)], 45⟩
theorem eqDt19_run : memB' eqDt19 cq1 44 = true := by kernel_rfl
theorem eqDt19_ok [Tab] (hT : EnvQ Tab.w0) : MemOK Tryz.prog 44 eqDt19 := mem_ok (call1_ok hT) cq1_rel rfl eqDt19_run
noncomputable def eqDt20 : Mem := ⟨[.str [u8 255]], .tup [.nils, .int .i64 (4)], [], 0⟩
theorem eqDt20_run : memB' eqDt20 cq1 44 = true := by kernel_rfl
theorem eqDt20_ok [Tab] (hT : EnvQ Tab.w0) : MemOK Tryz.prog 44 eqDt20 := mem_ok (call1_ok hT) cq1_rel rfl eqDt20_run
noncomputable def eqDt21 : Mem := ⟨[.str [u8 108, u8 101, u8 116, u8 32, u8 102, u8 32, u8 120, u8 32, u8 61, u8 32, u8 102, u8 117, u8 110, u8 32, u8 121, u8 32, u8 45, u8 62, u8 32, u8 120]], .tup [.slu 166 0 15 2, .int .i64 (0)], [(166, .cells [.int .u8 (3), .str [u8 108, u8 101, u8 116], .int .u8 (1), .str [u8 32], .int .u8 (4), .str [u8 102], .int .u8 (1), .str [u8 32], .int .u8 (4), .str [u8 120], .int .u8 (1), .str [u8 32], .int .u8 (8), .str [u8 61], .int .u8 (1), .str [u8 32], .int .u8 (3), .str [u8 102, u8 117, u8 110], .int .u8 (1), .str [u8 32], .int .u8 (4), .str [u8 121], .int .u8 (1), .str [u8 32], .int .u8 (8), .str [u8 45, u8 62], .int .u8 (1), .str [u8 32], .int .u8 (4), .str [u8 120]] 64)], 167⟩
theorem eqDt21_run : memB' eqDt21 cq1 44 = true := by kernel_rfl
theorem eqDt21_ok [Tab] (hT : EnvQ Tab.w0) : MemOK Tryz.prog 44 eqDt21 := mem_ok (call1_ok hT) cq1_rel rfl eqDt21_run
noncomputable def eqDt22 : Mem := ⟨[.str [u8 108, u8 101, u8 116, u8 32, u8 102, u8 32, u8 121, u8 32, u8 61, u8 32, u8 102, u8 117, u8 110, u8 32, u8 121, u8 32, u8 45, u8 62, u8 32, u8 121]], .tup [.slu 166 0 15 2, .int .i64 (0)], [(166, .cells [.int .u8 (3), .str [u8 108, u8 101, u8 116], .int .u8 (1), .str [u8 32], .int .u8 (4), .str [u8 102], .int .u8 (1), .str [u8 32], .int .u8 (4), .str [u8 121], .int .u8 (1), .str [u8 32], .int .u8 (8), .str [u8 61], .int .u8 (1), .str [u8 32], .int .u8 (3), .str [u8 102, u8 117, u8 110], .int .u8 (1), .str [u8 32], .int .u8 (4), .str [u8 121], .int .u8 (1), .str [u8 32], .int .u8 (8), .str [u8 45, u8 62], .int .u8 (1), .str [u8 32], .int .u8 (4), .str [u8 121]] 64)], 167⟩
theorem eqDt22_run : memB' eqDt22 cq1 44 = true := by kernel_rfl
theorem eqDt22_ok [Tab] (hT : EnvQ Tab.w0) : MemOK Tryz.prog 44 eqDt22 := mem_ok (call1_ok hT) cq1_rel rfl eqDt22_run
noncomputable def eqDt23 : Mem := ⟨[.str [u8 108, u8 101, u8 116, u8 32, u8 102, u8 32, u8 120, u8 32, u8 61, u8 32, u8 102, u8 117, u8 110, u8 32, u8 121, u8 32, u8 45, u8 62, u8 32, u8 121]], .tup [.slu 166 0 15 2, .int .i64 (0)], [(166, .cells [.int .u8 (3), .str [u8 108, u8 101, u8 116], .int .u8 (1), .str [u8 32], .int .u8 (4), .str [u8 102], .int .u8 (1), .str [u8 32], .int .u8 (4), .str [u8 120], .int .u8 (1), .str [u8 32], .int .u8 (8), .str [u8 61], .int .u8 (1), .str [u8 32], .int .u8 (3), .str [u8 102, u8 117, u8 110], .int .u8 (1), .str [u8 32], .int .u8 (4), .str [u8 121], .int .u8 (1), .str [u8 32], .int .u8 (8), .str [u8 45, u8 62], .int .u8 (1), .str [u8 32], .int .u8 (4), .str [u8 121]] 64)], 167⟩
theorem eqDt23_run : memB' eqDt23 cq1 44 = true := by kernel_rfl
theorem eqDt23_ok [Tab] (hT : EnvQ Tab.w0) : MemOK Tryz.prog 44 eqDt23 := mem_ok (call1_ok hT) cq1_rel rfl eqDt23_run
noncomputable def eqDt24 : Mem := ⟨[.str [u8 108, u8 101, u8 116, u8 32, u8 102, u8 32, u8 40, u8 120, u8 44, u8 32, u8 121, u8 41, u8 32, u8 61, u8 32, u8 120]], .tup [.slu 160 0 14 2, .int .i64 (0)], [(160, .cells [.int .u8 (3), .str [u8 108, u8 101, u8 116], .int .u8 (1), .str [u8 32], .int .u8 (4), .str [u8 102], .int .u8 (1), .str [u8 32], .int .u8 (8), .str [u8 40], .int .u8 (4), .str [u8 120], .int .u8 (8), .str [u8 44], .int .u8 (1), .str [u8 32], .int .u8 (4), .str [u8 121], .int .u8 (8), .str [u8 41], .int .u8 (1), .str [u8 32], .int .u8 (8), .str [u8 61], .int .u8 (1), .str [u8 32], .int .u8 (4), .str [u8 120]] 64)], 161⟩
theorem eqDt24_run : memB' eqDt24 cq1 44 = true := by kernel_rfl
theorem eqDt24_ok [Tab] (hT : EnvQ Tab.w0) : MemOK Tryz.prog 44 eqDt24 := mem_ok (call1_ok hT) cq1_rel rfl eqDt24_run
noncomputable def eqDt25 : Mem := ⟨[.str [u8 108, u8 101, u8 116, u8 32, u8 102, u8 32, u8 40, u8 121, u8 44, u8 32, u8 121, u8 41, u8 32, u8 61, u8 32, u8 121]], .tup [.slu 160 0 14 2, .int .i64 (0)], [(160, .cells [.int .u8 (3), .str [u8 108, u8 101, u8 116], .int .u8 (1), .str [u8 32], .int .u8 (4), .str [u8 102], .int .u8 (1), .str [u8 32], .int .u8 (8), .str [u8 40], .int .u8 (4), .str [u8 121], .int .u8 (8), .str [u8 44], .int .u8 (1), .str [u8 32], .int .u8 (4), .str [u8 121], .int .u8 (8), .str [u8 41], .int .u8 (1), .str [u8 32], .int .u8 (8), .str [u8 61], .int .u8 (1), .str [u8 32], .int .u8 (4), .str [u8 121]] 64)], 161⟩
theorem eqDt25_run : memB' eqDt25 cq1 44 = true := by kernel_rfl
theorem eqDt25_ok [Tab] (hT : EnvQ Tab.w0) : MemOK Tryz.prog 44 eqDt25 := mem_ok (call1_ok hT) cq1_rel rfl eqDt25_run
noncomputable def eqDt26 : Mem := ⟨[.str [u8 108, u8 101, u8 116, u8 32, u8 102, u8 32, u8 40, u8 97, u8 44, u8 32, u8 98, u8 41, u8 32, u8 61, u8 32, u8 49]], .tup [.slu 148 0 14 2, .int .i64 (0)], [(148, .cells [.int .u8 (3), .str [u8 108, u8 101, u8 116], .int .u8 (1), .str [u8 32], .int .u8 (4), .str [u8 102], .int .u8 (1), .str [u8 32], .int .u8 (8), .str [u8 40], .int .u8 (4), .str [u8 97], .int .u8 (8), .str [u8 44], .int .u8 (1), .str [u8 32], .int .u8 (4), .str [u8 98], .int .u8 (8), .str [u8 41], .int .u8 (1), .str [u8 32], .int .u8 (8), .str [u8 61], .int .u8 (1), .str [u8 32], .int .u8 (5), .str [u8 49]] 64)], 149⟩
theorem eqDt26_run : memB' eqDt26 cq1 44 = true := by kernel_rfl
theorem eqDt26_ok [Tab] (hT : EnvQ Tab.w0) : MemOK Tryz.prog 44 eqDt26 := mem_ok (call1_ok hT) cq1_rel rfl eqDt26_run
end Go.Proofs.YtbnpifafgadjgaaGreatDoor


/-
  Closed calls, gone through by the kernel: what they answer.
-/
namespace Go.Proofs.YtbnpifafgadjgaaGreatDoor
open Go.RowKit
set_option maxRecDepth 1000000

noncomputable def eqDt27 : Mem := ⟨[.str [u8 97]], .tup [.slu 20 0 1 2, .int .i64 (0)], [(20, .cells [.int .u8 (4), .str [u8 97]] 64)], 21⟩
theorem eqDt27_run : memB' eqDt27 cq1 44 = true := by kernel_rfl
theorem eqDt27_ok [Tab] (hT : EnvQ Tab.w0) : MemOK Tryz.prog 44 eqDt27 := mem_ok (call1_ok hT) cq1_rel rfl eqDt27_run
noncomputable def eqDt28 : Mem := ⟨[.str [u8 108, u8 101, u8 116, u8 32, u8 102, u8 32, u8 40, u8 97, u8 44, u8 32, u8 97, u8 41, u8 32, u8 61, u8 32, u8 49]], .tup [.slu 148 0 14 2, .int .i64 (0)], [(148, .cells [.int .u8 (3), .str [u8 108, u8 101, u8 116], .int .u8 (1), .str [u8 32], .int .u8 (4), .str [u8 102], .int .u8 (1), .str [u8 32], .int .u8 (8), .str [u8 40], .int .u8 (4), .str [u8 97], .int .u8 (8), .str [u8 44], .int .u8 (1), .str [u8 32], .int .u8 (4), .str [u8 97], .int .u8 (8), .str [u8 41], .int .u8 (1), .str [u8 32], .int .u8 (8), .str [u8 61], .int .u8 (1), .str [u8 32], .int .u8 (5), .str [u8 49]] 64)], 149⟩
theorem eqDt28_run : memB' eqDt28 cq1 44 = true := by kernel_rfl
theorem eqDt28_ok [Tab] (hT : EnvQ Tab.w0) : MemOK Tryz.prog 44 eqDt28 := mem_ok (call1_ok hT) cq1_rel rfl eqDt28_run
noncomputable def eqDt29 : Mem := ⟨[.str [u8 108, u8 101, u8 116, u8 32, u8 102, u8 32, u8 120, u8 32, u8 61, u8 32, u8 102, u8 115, u8 116, u8 32, u8 120]], .tup [.slu 130 0 11 2, .int .i64 (0)], [(130, .cells [.int .u8 (3), .str [u8 108, u8 101, u8 116], .int .u8 (1), .str [u8 32], .int .u8 (4), .str [u8 102], .int .u8 (1), .str [u8 32], .int .u8 (4), .str [u8 120], .int .u8 (1), .str [u8 32], .int .u8 (8), .str [u8 61], .int .u8 (1), .str [u8 32], .int .u8 (4), .str [u8 102, u8 115, u8 116], .int .u8 (1), .str [u8 32], .int .u8 (4), .str [u8 120]] 64)], 131⟩
theorem eqDt29_run : memB' eqDt29 cq1 44 = true := by kernel_rfl
theorem eqDt29_ok [Tab] (hT : EnvQ Tab.w0) : MemOK Tryz.prog 44 eqDt29 := mem_ok (call1_ok hT) cq1_rel rfl eqDt29_run
noncomputable def eqDt30 : Mem := ⟨[.str [u8 102, u8 115, u8 116]], .tup [.slu 20 0 1 2, .int .i64 (0)], [(20, .cells [.int .u8 (4), .str [u8 102, u8 115, u8 116]] 64)], 21⟩
theorem eqDt30_run : memB' eqDt30 cq1 44 = true := by kernel_rfl
theorem eqDt30_ok [Tab] (hT : EnvQ Tab.w0) : MemOK Tryz.prog 44 eqDt30 := mem_ok (call1_ok hT) cq1_rel rfl eqDt30_run
noncomputable def eqDt31 : Mem := ⟨[.str [u8 108, u8 101, u8 116, u8 32, u8 102, u8 32, u8 102, u8 115, u8 116, u8 32, u8 61, u8 32, u8 102, u8 115, u8 116, u8 32, u8 102, u8 115, u8 116]], .tup [.slu 130 0 11 2, .int .i64 (0)], [(130, .cells [.int .u8 (3), .str [u8 108, u8 101, u8 116], .int .u8 (1), .str [u8 32], .int .u8 (4), .str [u8 102], .int .u8 (1), .str [u8 32], .int .u8 (4), .str [u8 102, u8 115, u8 116], .int .u8 (1), .str [u8 32], .int .u8 (8), .str [u8 61], .int .u8 (1), .str [u8 32], .int .u8 (4), .str [u8 102, u8 115, u8 116], .int .u8 (1), .str [u8 32], .int .u8 (4), .str [u8 102, u8 115, u8 116]] 64)], 131⟩
theorem eqDt31_run : memB' eqDt31 cq1 44 = true := by kernel_rfl
theorem eqDt31_ok [Tab] (hT : EnvQ Tab.w0) : MemOK Tryz.prog 44 eqDt31 := mem_ok (call1_ok hT) cq1_rel rfl eqDt31_run
noncomputable def eqDt32 : Mem := ⟨[.str [u8 108, u8 101, u8 116, u8 32, u8 102, u8 32, u8 120, u8 32, u8 61, u8 32, u8 121]], .tup [.slu 106 0 9 2, .int .i64 (0)], [(106, .cells [.int .u8 (3), .str [u8 108, u8 101, u8 116], .int .u8 (1), .str [u8 32], .int .u8 (4), .str [u8 102], .int .u8 (1), .str [u8 32], .int .u8 (4), .str [u8 120], .int .u8 (1), .str [u8 32], .int .u8 (8), .str [u8 61], .int .u8 (1), .str [u8 32], .int .u8 (4), .str [u8 121]] 64)], 107⟩
theorem eqDt32_run : memB' eqDt32 cq1 44 = true := by kernel_rfl
theorem eqDt32_ok [Tab] (hT : EnvQ Tab.w0) : MemOK Tryz.prog 44 eqDt32 := mem_ok (call1_ok hT) cq1_rel rfl eqDt32_run
noncomputable def eqDt33 : Mem := ⟨[.str [u8 108, u8 101, u8 116, u8 32, u8 102, u8 32, u8 121, u8 32, u8 61, u8 32, u8 121]], .tup [.slu 106 0 9 2, .int .i64 (0)], [(106, .cells [.int .u8 (3), .str [u8 108, u8 101, u8 116], .int .u8 (1), .str [u8 32], .int .u8 (4), .str [u8 102], .int .u8 (1), .str [u8 32], .int .u8 (4), .str [u8 121], .int .u8 (1), .str [u8 32], .int .u8 (8), .str [u8 61], .int .u8 (1), .str [u8 32], .int .u8 (4), .str [u8 121]] 64)], 107⟩
theorem eqDt33_run : memB' eqDt33 cq1 44 = true := by kernel_rfl
theorem eqDt33_ok [Tab] (hT : EnvQ Tab.w0) : MemOK Tryz.prog 44 eqDt33 := mem_ok (call1_ok hT) cq1_rel rfl eqDt33_run
noncomputable def eqDt34 : Mem := ⟨[.str [u8 108, u8 101, u8 116, u8 32, u8 102, u8 32, u8 120, u8 32, u8 61, u8 32, u8 40]], .tup [.slu 96 0 9 2, .int .i64 (0)], [(96, .cells [.int .u8 (3), .str [u8 108, u8 101, u8 116], .int .u8 (1), .str [u8 32], .int .u8 (4), .str [u8 102], .int .u8 (1), .str [u8 32], .int .u8 (4), .str [u8 120], .int .u8 (1), .str [u8 32], .int .u8 (8), .str [u8 61], .int .u8 (1), .str [u8 32], .int .u8 (8), .str [u8 40]] 64)], 97⟩
theorem eqDt34_run : memB' eqDt34 cq1 44 = true := by kernel_rfl
theorem eqDt34_ok [Tab] (hT : EnvQ Tab.w0) : MemOK Tryz.prog 44 eqDt34 := mem_ok (call1_ok hT) cq1_rel rfl eqDt34_run
end Go.Proofs.YtbnpifafgadjgaaGreatDoor


/-
  Closed calls, gone through by the kernel: function by function.
-/
namespace Go.Proofs.YtbnpifafgadjgaaGreatDoor
open Go.RowKit
set_option maxRecDepth 1000000

theorem eqDtL44_ok [Tab] (hT : EnvQ Tab.w0) : OneOK Tryz.prog 44 (memoA [eqDt0, eqDt1, eqDt2, eqDt3, eqDt4, eqDt5, eqDt6, eqDt7, eqDt8, eqDt9, eqDt10, eqDt11, eqDt12, eqDt13, eqDt14, eqDt15, eqDt16, eqDt17, eqDt18, eqDt19, eqDt20, eqDt21, eqDt22, eqDt23, eqDt24, eqDt25, eqDt26, eqDt27, eqDt28, eqDt29, eqDt30, eqDt31, eqDt32, eqDt33, eqDt34]) := memo_one (List.forall_mem_cons.2 ⟨eqDt0_ok hT, List.forall_mem_cons.2 ⟨eqDt1_ok hT, List.forall_mem_cons.2 ⟨eqDt2_ok hT, List.forall_mem_cons.2 ⟨eqDt3_ok hT, List.forall_mem_cons.2 ⟨eqDt4_ok hT, List.forall_mem_cons.2 ⟨eqDt5_ok hT, List.forall_mem_cons.2 ⟨eqDt6_ok hT, List.forall_mem_cons.2 ⟨eqDt7_ok hT, List.forall_mem_cons.2 ⟨eqDt8_ok hT, List.forall_mem_cons.2 ⟨eqDt9_ok hT, List.forall_mem_cons.2 ⟨eqDt10_ok hT, List.forall_mem_cons.2 ⟨eqDt11_ok hT, List.forall_mem_cons.2 ⟨eqDt12_ok hT, List.forall_mem_cons.2 ⟨eqDt13_ok hT, List.forall_mem_cons.2 ⟨eqDt14_ok hT, List.forall_mem_cons.2 ⟨eqDt15_ok hT, List.forall_mem_cons.2 ⟨eqDt16_ok hT, List.forall_mem_cons.2 ⟨eqDt17_ok hT, List.forall_mem_cons.2 ⟨eqDt18_ok hT, List.forall_mem_cons.2 ⟨eqDt19_ok hT, List.forall_mem_cons.2 ⟨eqDt20_ok hT, List.forall_mem_cons.2 ⟨eqDt21_ok hT, List.forall_mem_cons.2 ⟨eqDt22_ok hT, List.forall_mem_cons.2 ⟨eqDt23_ok hT, List.forall_mem_cons.2 ⟨eqDt24_ok hT, List.forall_mem_cons.2 ⟨eqDt25_ok hT, List.forall_mem_cons.2 ⟨eqDt26_ok hT, List.forall_mem_cons.2 ⟨eqDt27_ok hT, List.forall_mem_cons.2 ⟨eqDt28_ok hT, List.forall_mem_cons.2 ⟨eqDt29_ok hT, List.forall_mem_cons.2 ⟨eqDt30_ok hT, List.forall_mem_cons.2 ⟨eqDt31_ok hT, List.forall_mem_cons.2 ⟨eqDt32_ok hT, List.forall_mem_cons.2 ⟨eqDt33_ok hT, List.forall_mem_cons.2 ⟨eqDt34_ok hT, fun _ h => nomatch h⟩⟩⟩⟩⟩⟩⟩⟩⟩⟩⟩⟩⟩⟩⟩⟩⟩⟩⟩⟩⟩⟩⟩⟩⟩⟩⟩⟩⟩⟩⟩⟩⟩⟩⟩)
noncomputable def eqDtL44 : List Mem := [eqDt0, eqDt1, eqDt2, eqDt3, eqDt4, eqDt5, eqDt6, eqDt7, eqDt8, eqDt9, eqDt10, eqDt11, eqDt12, eqDt13, eqDt14, eqDt15, eqDt16, eqDt17, eqDt18, eqDt19, eqDt20, eqDt21, eqDt22, eqDt23, eqDt24, eqDt25, eqDt26, eqDt27, eqDt28, eqDt29, eqDt30, eqDt31, eqDt32, eqDt33, eqDt34]
end Go.Proofs.YtbnpifafgadjgaaGreatDoor


/-
  The quick machine at the program, over answers told beforehand.
-/
namespace Go.Proofs.YtbnpifafgadjgaaGreatDoor
open Go.RowKit
set_option maxRecDepth 1000000

noncomputable def orc2 : List (Nat × (List AV → AS → Option (AV × AS))) := (44, memoA eqDtL44) :: orc1
theorem orc2_ok [Tab] (hT : EnvQ Tab.w0) : ∀ p ∈ orc2, OneOK Tryz.prog p.1 p.2 :=
  List.forall_mem_cons.2 ⟨eqDtL44_ok hT, orc1_ok hT⟩
noncomputable def call2 : Nat → List AV → AS → Option (AV × AS) := evF Tryz.prog (hooks Tryz.prog) (fnL fsQ) (orcL orc2) 100000 260
noncomputable def cq2 : CallQ := evQ Tryz.prog (fnL fsQ) (orcQ orc2) 100000 260
theorem call2_ok [Tab] (hT : EnvQ Tab.w0) : CallOK Tryz.prog call2 := evF_ok (hooks_ok mixedQ) fsQ_ok (orcL_ok (orc2_ok hT)) 260
theorem cq2_rel [Tab] : CallRel call2 cq2 := evQ_ok (orcQ_rel _) 260
end Go.Proofs.YtbnpifafgadjgaaGreatDoor
