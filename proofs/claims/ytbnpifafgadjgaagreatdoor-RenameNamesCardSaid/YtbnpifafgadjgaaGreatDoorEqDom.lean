/-
  Closed calls, gone through by the kernel: what they answer.
-/
import Derived.Test.YtbnpifafgadjgaaGreatDoorEqDtm
import Derived.KernelRfl
namespace Go.Proofs.YtbnpifafgadjgaaGreatDoor
open Go.RowKit
set_option maxRecDepth 1000000

noncomputable def eqDo0 : Mem := ⟨[.str [u8 108, u8 101, u8 116, u8 32, u8 120, u8 32, u8 61, u8 32, u8 49, u8 32, u8 108, u8 101, u8 116, u8 32, u8 102, u8 32, u8 121, u8 32, u8 61, u8 32, u8 120, u8 32, u8 43, u8 32, u8 121, u8 32, u8 120]], .tup [.slu 1805 0 2 11, .int .i64 (0)], [(1805, .cells [.int .i64 (0), .int .i64 (9), .bool false, .slu 1325 0 1 6, .int .u8 (2), .int .i64 (8), .int .i64 (9), .bool false, .str [u8 49], .nils, .nils, .int .i64 (10), .int .i64 (27), .bool false, .slu 1510 0 2 6, .int .u8 (9), .int .i64 (20), .int .i64 (27), .bool false, .str [u8 43], .nils, .slu 1739 0 2 7] 88), (1325, .cells [.int .u8 (15), .int .u8 (0), .int .i64 (4), .int .i64 (5), .str [u8 120], .nils] 136), (1510, .cells [.int .u8 (15), .int .u8 (0), .int .i64 (14), .int .i64 (15), .str [u8 102], .nils, .int .u8 (15), .int .u8 (0), .int .i64 (16), .int .i64 (17), .str [u8 121], .nils] 136), (1739, .cells [.int .u8 (1), .int .i64 (20), .int .i64 (21), .bool false, .str [u8 120], .nils, .nils, .int .u8 (8), .int .i64 (24), .int .i64 (27), .bool false, .str [], .nils, .slu 1737 0 2 7] 86), (1737, .cells [.int .u8 (1), .int .i64 (24), .int .i64 (25), .bool false, .str [u8 121], .nils, .nils, .int .u8 (1), .int .i64 (26), .int .i64 (27), .bool false, .str [u8 120], .nils, .nils] 86)], 1807⟩
theorem eqDo0_run : memB' eqDo0 cq2 14 = true := by kernel_rfl
theorem eqDo0_ok [Tab] (hT : EnvQ Tab.w0) : MemOK Tryz.prog 14 eqDo0 := mem_ok (call2_ok hT) cq2_rel rfl eqDo0_run
noncomputable def eqDo1 : Mem := ⟨[.str [u8 108, u8 101, u8 116, u8 32, u8 102, u8 32, u8 121, u8 32, u8 61, u8 32, u8 122]], .tup [.slu 764 0 1 11, .int .i64 (0)], [(764, .cells [.int .i64 (0), .int .i64 (11), .bool false, .slu 700 0 2 6, .int .u8 (1), .int .i64 (10), .int .i64 (11), .bool false, .str [u8 122], .nils, .nils] 88), (700, .cells [.int .u8 (15), .int .u8 (0), .int .i64 (4), .int .i64 (5), .str [u8 102], .nils, .int .u8 (15), .int .u8 (0), .int .i64 (6), .int .i64 (7), .str [u8 121], .nils] 136)], 766⟩
theorem eqDo1_run : memB' eqDo1 cq2 14 = true := by kernel_rfl
theorem eqDo1_ok [Tab] (hT : EnvQ Tab.w0) : MemOK Tryz.prog 14 eqDo1 := mem_ok (call2_ok hT) cq2_rel rfl eqDo1_run
noncomputable def eqDo2 : Mem := ⟨[.str [u8 108, u8 101, u8 116, u8 32, u8 120, u8 32, u8 61]], .tup [.nils, .int .i64 (50)], [], 486⟩
theorem eqDo2_run : memB' eqDo2 cq2 14 = true := by kernel_rfl
theorem eqDo2_ok [Tab] (hT : EnvQ Tab.w0) : MemOK Tryz.prog 14 eqDo2 := mem_ok (call2_ok hT) cq2_rel rfl eqDo2_run
noncomputable def eqDo3 : Mem := ⟨[.str [u8 108, u8 101, u8 116, u8 32, u8 120, u8 32, u8 61, u8 32, u8 49]], .tup [.slu 631 0 1 11, .int .i64 (0)], [(631, .cells [.int .i64 (0), .int .i64 (9), .bool false, .slu 573 0 1 6, .int .u8 (2), .int .i64 (8), .int .i64 (9), .bool false, .str [u8 49], .nils, .nils] 88), (573, .cells [.int .u8 (15), .int .u8 (0), .int .i64 (4), .int .i64 (5), .str [u8 120], .nils] 136)], 633⟩
theorem eqDo3_run : memB' eqDo3 cq2 14 = true := by kernel_rfl
theorem eqDo3_ok [Tab] (hT : EnvQ Tab.w0) : MemOK Tryz.prog 14 eqDo3 := mem_ok (call2_ok hT) cq2_rel rfl eqDo3_run
noncomputable def eqDo4 : Mem := ⟨[.str [u8 108, u8 101, u8 116, u8 32, u8 120, u8 32, u8 61, u8 32, u8 49, u8 32, u8 108, u8 101, u8 116, u8 32, u8 121, u8 32, u8 61, u8 32, u8 120]], .tup [.slu 1183 0 2 11, .int .i64 (0)], [(1183, .cells [.int .i64 (0), .int .i64 (9), .bool false, .slu 990 0 1 6, .int .u8 (2), .int .i64 (8), .int .i64 (9), .bool false, .str [u8 49], .nils, .nils, .int .i64 (10), .int .i64 (19), .bool false, .slu 1122 0 1 6, .int .u8 (1), .int .i64 (18), .int .i64 (19), .bool false, .str [u8 120], .nils, .nils] 88), (990, .cells [.int .u8 (15), .int .u8 (0), .int .i64 (4), .int .i64 (5), .str [u8 120], .nils] 136), (1122, .cells [.int .u8 (15), .int .u8 (0), .int .i64 (14), .int .i64 (15), .str [u8 121], .nils] 136)], 1185⟩
theorem eqDo4_run : memB' eqDo4 cq2 14 = true := by kernel_rfl
theorem eqDo4_ok [Tab] (hT : EnvQ Tab.w0) : MemOK Tryz.prog 14 eqDo4 := mem_ok (call2_ok hT) cq2_rel rfl eqDo4_run
noncomputable def eqDo5 : Mem := ⟨[.str [u8 108, u8 101, u8 116, u8 32, u8 120, u8 32, u8 61, u8 32, u8 102, u8 115, u8 116]], .tup [.slu 643 0 1 11, .int .i64 (0)], [(643, .cells [.int .i64 (0), .int .i64 (11), .bool false, .slu 585 0 1 6, .int .u8 (1), .int .i64 (8), .int .i64 (11), .bool false, .str [u8 102, u8 115, u8 116], .nils, .nils] 88), (585, .cells [.int .u8 (15), .int .u8 (0), .int .i64 (4), .int .i64 (5), .str [u8 120], .nils] 136)], 645⟩
theorem eqDo5_run : memB' eqDo5 cq2 14 = true := by kernel_rfl
theorem eqDo5_ok [Tab] (hT : EnvQ Tab.w0) : MemOK Tryz.prog 14 eqDo5 := mem_ok (call2_ok hT) cq2_rel rfl eqDo5_run
noncomputable def eqDo6 : Mem := ⟨[.str [u8 108, u8 101, u8 116, u8 32, u8 40, u8 97, u8 44, u8 32, u8 98, u8 41, u8 32, u8 61, u8 32, u8 49, u8 32, u8 108, u8 101, u8 116, u8 32, u8 102, u8 32, u8 40, u8 99, u8 44, u8 32, u8 100, u8 41, u8 32, u8 61, u8 32, u8 102, u8 117, u8 110, u8 32, u8 101, u8 32, u8 45, u8 62, u8 32, u8 108, u8 101, u8 116, u8 32, u8 103, u8 32, u8 61, u8 32, u8 99, u8 32, u8 105, u8 110, u8 32, u8 109, u8 97, u8 116, u8 99, u8 104, u8 32, u8 103, u8 32, u8 119, u8 105, u8 116, u8 104, u8 32, u8 104, u8 32, u8 45, u8 62, u8 32, u8 97]], .tup [.slu 4149 0 2 11, .int .i64 (0)], [(4149, .cells [.int .i64 (0), .int .i64 (14), .bool false, .slu 2922 0 1 6, .int .u8 (2), .int .i64 (13), .int .i64 (14), .bool false, .str [u8 49], .nils, .nils, .int .i64 (15), .int .i64 (71), .bool false, .slu 3271 0 2 6, .int .u8 (11), .int .i64 (30), .int .i64 (71), .bool false, .str [], .slu 3510 0 1 6, .slu 4002 0 1 7] 88), (2922, .cells [.int .u8 (18), .int .u8 (0), .int .i64 (4), .int .i64 (10), .str [], .slu 2920 0 2 6] 136), (3271, .cells [.int .u8 (15), .int .u8 (0), .int .i64 (19), .int .i64 (20), .str [u8 102], .nils, .int .u8 (18), .int .u8 (0), .int .i64 (21), .int .i64 (27), .str [], .slu 3269 0 2 6] 136), (3510, .cells [.int .u8 (15), .int .u8 (0), .int .i64 (34), .int .i64 (35), .str [u8 101], .nils] 136), (4002, .cells [.int .u8 (14), .int .i64 (39), .int .i64 (71), .bool false, .str [], .slu 3713 0 1 6, .slu 4000 0 2 7] 86), (2920, .cells [.int .u8 (15), .int .u8 (0), .int .i64 (5), .int .i64 (6), .str [u8 97], .nils, .int .u8 (15), .int .u8 (0), .int .i64 (8), .int .i64 (9), .str [u8 98], .nils] 136), (3269, .cells [.int .u8 (15), .int .u8 (0), .int .i64 (22), .int .i64 (23), .str [u8 99], .nils, .int .u8 (15), .int .u8 (0), .int .i64 (25), .int .i64 (26), .str [u8 100], .nils] 136), (3713, .cells [.int .u8 (15), .int .u8 (0), .int .i64 (43), .int .i64 (44), .str [u8 103], .nils] 136), (4000, .cells [.int .u8 (1), .int .i64 (47), .int .i64 (48), .bool false, .str [u8 99], .nils, .nils, .int .u8 (13), .int .i64 (52), .int .i64 (71), .bool false, .str [], .slu 3959 0 1 6, .slu 3999 0 2 7] 86), (3959, .cells [.int .u8 (15), .int .u8 (0), .int .i64 (65), .int .i64 (66), .str [u8 104], .nils] 136), (3999, .cells [.int .u8 (1), .int .i64 (58), .int .i64 (59), .bool false, .str [u8 103], .nils, .nils, .int .u8 (1), .int .i64 (70), .int .i64 (71), .bool false, .str [u8 97], .nils, .nils] 86)], 4151⟩
theorem eqDo6_run : memB' eqDo6 cq2 14 = true := by kernel_rfl
theorem eqDo6_ok [Tab] (hT : EnvQ Tab.w0) : MemOK Tryz.prog 14 eqDo6 := mem_ok (call2_ok hT) cq2_rel rfl eqDo6_run
noncomputable def eqDo7 : Mem := ⟨[.str [u8 108, u8 101, u8 116, u8 32, u8 102, u8 32, u8 120, u8 32, u8 61, u8 32, u8 121, u8 32, u8 43, u8 32, u8 102, u8 32, u8 122]], .tup [.slu 1265 0 1 11, .int .i64 (0)], [(1265, .cells [.int .i64 (0), .int .i64 (17), .bool false, .slu 973 0 2 6, .int .u8 (9), .int .i64 (10), .int .i64 (17), .bool false, .str [u8 43], .nils, .slu 1202 0 2 7] 88), (973, .cells [.int .u8 (15), .int .u8 (0), .int .i64 (4), .int .i64 (5), .str [u8 102], .nils, .int .u8 (15), .int .u8 (0), .int .i64 (6), .int .i64 (7), .str [u8 120], .nils] 136), (1202, .cells [.int .u8 (1), .int .i64 (10), .int .i64 (11), .bool false, .str [u8 121], .nils, .nils, .int .u8 (8), .int .i64 (14), .int .i64 (17), .bool false, .str [], .nils, .slu 1200 0 2 7] 86), (1200, .cells [.int .u8 (1), .int .i64 (14), .int .i64 (15), .bool false, .str [u8 102], .nils, .nils, .int .u8 (1), .int .i64 (16), .int .i64 (17), .bool false, .str [u8 122], .nils, .nils] 86)], 1267⟩
theorem eqDo7_run : memB' eqDo7 cq2 14 = true := by kernel_rfl
theorem eqDo7_ok [Tab] (hT : EnvQ Tab.w0) : MemOK Tryz.prog 14 eqDo7 := mem_ok (call2_ok hT) cq2_rel rfl eqDo7_run
end Go.Proofs.YtbnpifafgadjgaaGreatDoor


/-
  Closed calls, gone through by the kernel: what they answer.
-/
namespace Go.Proofs.YtbnpifafgadjgaaGreatDoor
open Go.RowKit
set_option maxRecDepth 1000000

noncomputable def eqDo8 : Mem := ⟨[.str [u8 108, u8 101, u8 116, u8 32, u8 120, u8 32, u8 61, u8 32, u8 49, u8 32, u8 108, u8 101, u8 116, u8 32, u8 120, u8 32, u8 61, u8 32, u8 120, u8 32, u8 108, u8 101, u8 116, u8 32, u8 121, u8 32, u8 61, u8 32, u8 120]], .tup [.slu 1735 0 3 11, .int .i64 (0)], [(1735, .cells [.int .i64 (0), .int .i64 (9), .bool false, .slu 1407 0 1 6, .int .u8 (2), .int .i64 (8), .int .i64 (9), .bool false, .str [u8 49], .nils, .nils, .int .i64 (10), .int .i64 (19), .bool false, .slu 1539 0 1 6, .int .u8 (1), .int .i64 (18), .int .i64 (19), .bool false, .str [u8 120], .nils, .nils, .int .i64 (20), .int .i64 (29), .bool false, .slu 1674 0 1 6, .int .u8 (1), .int .i64 (28), .int .i64 (29), .bool false, .str [u8 120], .nils, .nils] 88), (1407, .cells [.int .u8 (15), .int .u8 (0), .int .i64 (4), .int .i64 (5), .str [u8 120], .nils] 136), (1539, .cells [.int .u8 (15), .int .u8 (0), .int .i64 (14), .int .i64 (15), .str [u8 120], .nils] 136), (1674, .cells [.int .u8 (15), .int .u8 (0), .int .i64 (24), .int .i64 (25), .str [u8 121], .nils] 136)], 1737⟩
theorem eqDo8_run : memB' eqDo8 cq2 14 = true := by kernel_rfl
theorem eqDo8_ok [Tab] (hT : EnvQ Tab.w0) : MemOK Tryz.prog 14 eqDo8 := mem_ok (call2_ok hT) cq2_rel rfl eqDo8_run
noncomputable def eqDo9 : Mem := ⟨[.str [u8 108, u8 101, u8 116, u8 32, u8 102, u8 32, u8 120, u8 32, u8 61, u8 32, u8 120, u8 32, u8 43, u8 32, u8 49]], .tup [.slu 1062 0 1 11, .int .i64 (0)], [(1062, .cells [.int .i64 (0), .int .i64 (15), .bool false, .slu 869 0 2 6, .int .u8 (9), .int .i64 (10), .int .i64 (15), .bool false, .str [u8 43], .nils, .slu 1007 0 2 7] 88), (869, .cells [.int .u8 (15), .int .u8 (0), .int .i64 (4), .int .i64 (5), .str [u8 102], .nils, .int .u8 (15), .int .u8 (0), .int .i64 (6), .int .i64 (7), .str [u8 120], .nils] 136), (1007, .cells [.int .u8 (1), .int .i64 (10), .int .i64 (11), .bool false, .str [u8 120], .nils, .nils, .int .u8 (2), .int .i64 (14), .int .i64 (15), .bool false, .str [u8 49], .nils, .nils] 86)], 1064⟩
theorem eqDo9_run : memB' eqDo9 cq2 14 = true := by kernel_rfl
theorem eqDo9_ok [Tab] (hT : EnvQ Tab.w0) : MemOK Tryz.prog 14 eqDo9 := mem_ok (call2_ok hT) cq2_rel rfl eqDo9_run
noncomputable def eqDo10 : Mem := ⟨[.str [u8 108, u8 101, u8 116, u8 32, u8 102, u8 32, u8 121, u8 32, u8 61, u8 32, u8 121, u8 32, u8 43, u8 32, u8 49]], .tup [.slu 1062 0 1 11, .int .i64 (0)], [(1062, .cells [.int .i64 (0), .int .i64 (15), .bool false, .slu 869 0 2 6, .int .u8 (9), .int .i64 (10), .int .i64 (15), .bool false, .str [u8 43], .nils, .slu 1007 0 2 7] 88), (869, .cells [.int .u8 (15), .int .u8 (0), .int .i64 (4), .int .i64 (5), .str [u8 102], .nils, .int .u8 (15), .int .u8 (0), .int .i64 (6), .int .i64 (7), .str [u8 121], .nils] 136), (1007, .cells [.int .u8 (1), .int .i64 (10), .int .i64 (11), .bool false, .str [u8 121], .nils, .nils, .int .u8 (2), .int .i64 (14), .int .i64 (15), .bool false, .str [u8 49], .nils, .nils] 86)], 1064⟩
theorem eqDo10_run : memB' eqDo10 cq2 14 = true := by kernel_rfl
theorem eqDo10_ok [Tab] (hT : EnvQ Tab.w0) : MemOK Tryz.prog 14 eqDo10 := mem_ok (call2_ok hT) cq2_rel rfl eqDo10_run
noncomputable def eqDo11 : Mem := ⟨[.str [u8 108, u8 101, u8 116, u8 32, u8 102, u8 32, u8 102, u8 32, u8 61, u8 32, u8 102, u8 32, u8 43, u8 32, u8 49]], .tup [.slu 1062 0 1 11, .int .i64 (0)], [(1062, .cells [.int .i64 (0), .int .i64 (15), .bool false, .slu 869 0 2 6, .int .u8 (9), .int .i64 (10), .int .i64 (15), .bool false, .str [u8 43], .nils, .slu 1007 0 2 7] 88), (869, .cells [.int .u8 (15), .int .u8 (0), .int .i64 (4), .int .i64 (5), .str [u8 102], .nils, .int .u8 (15), .int .u8 (0), .int .i64 (6), .int .i64 (7), .str [u8 102], .nils] 136), (1007, .cells [.int .u8 (1), .int .i64 (10), .int .i64 (11), .bool false, .str [u8 102], .nils, .nils, .int .u8 (2), .int .i64 (14), .int .i64 (15), .bool false, .str [u8 49], .nils, .nils] 86)], 1064⟩
theorem eqDo11_run : memB' eqDo11 cq2 14 = true := by kernel_rfl
theorem eqDo11_ok [Tab] (hT : EnvQ Tab.w0) : MemOK Tryz.prog 14 eqDo11 := mem_ok (call2_ok hT) cq2_rel rfl eqDo11_run
noncomputable def eqDo12 : Mem := ⟨[.str [u8 108, u8 101, u8 116, u8 32, u8 102, u8 32, u8 120, u8 32, u8 61, u8 32, u8 102, u8 117, u8 110, u8 32, u8 121, u8 32, u8 45, u8 62, u8 32, u8 120]], .tup [.slu 1136 0 1 11, .int .i64 (0)], [(1136, .cells [.int .i64 (0), .int .i64 (20), .bool false, .slu 922 0 2 6, .int .u8 (11), .int .i64 (10), .int .i64 (20), .bool false, .str [], .slu 1049 0 1 6, .slu 1075 0 1 7] 88), (922, .cells [.int .u8 (15), .int .u8 (0), .int .i64 (4), .int .i64 (5), .str [u8 102], .nils, .int .u8 (15), .int .u8 (0), .int .i64 (6), .int .i64 (7), .str [u8 120], .nils] 136), (1049, .cells [.int .u8 (15), .int .u8 (0), .int .i64 (14), .int .i64 (15), .str [u8 121], .nils] 136), (1075, .cells [.int .u8 (1), .int .i64 (19), .int .i64 (20), .bool false, .str [u8 120], .nils, .nils] 86)], 1138⟩
theorem eqDo12_run : memB' eqDo12 cq2 14 = true := by kernel_rfl
theorem eqDo12_ok [Tab] (hT : EnvQ Tab.w0) : MemOK Tryz.prog 14 eqDo12 := mem_ok (call2_ok hT) cq2_rel rfl eqDo12_run
noncomputable def eqDo13 : Mem := ⟨[.str [u8 108, u8 101, u8 116, u8 32, u8 102, u8 32, u8 121, u8 32, u8 61, u8 32, u8 102, u8 117, u8 110, u8 32, u8 121, u8 32, u8 45, u8 62, u8 32, u8 121]], .tup [.slu 1136 0 1 11, .int .i64 (0)], [(1136, .cells [.int .i64 (0), .int .i64 (20), .bool false, .slu 922 0 2 6, .int .u8 (11), .int .i64 (10), .int .i64 (20), .bool false, .str [], .slu 1049 0 1 6, .slu 1075 0 1 7] 88), (922, .cells [.int .u8 (15), .int .u8 (0), .int .i64 (4), .int .i64 (5), .str [u8 102], .nils, .int .u8 (15), .int .u8 (0), .int .i64 (6), .int .i64 (7), .str [u8 121], .nils] 136), (1049, .cells [.int .u8 (15), .int .u8 (0), .int .i64 (14), .int .i64 (15), .str [u8 121], .nils] 136), (1075, .cells [.int .u8 (1), .int .i64 (19), .int .i64 (20), .bool false, .str [u8 121], .nils, .nils] 86)], 1138⟩
theorem eqDo13_run : memB' eqDo13 cq2 14 = true := by kernel_rfl
theorem eqDo13_ok [Tab] (hT : EnvQ Tab.w0) : MemOK Tryz.prog 14 eqDo13 := mem_ok (call2_ok hT) cq2_rel rfl eqDo13_run
noncomputable def eqDo14 : Mem := ⟨[.str [u8 108, u8 101, u8 116, u8 32, u8 102, u8 32, u8 120, u8 32, u8 61, u8 32, u8 102, u8 117, u8 110, u8 32, u8 121, u8 32, u8 45, u8 62, u8 32, u8 121]], .tup [.slu 1136 0 1 11, .int .i64 (0)], [(1136, .cells [.int .i64 (0), .int .i64 (20), .bool false, .slu 922 0 2 6, .int .u8 (11), .int .i64 (10), .int .i64 (20), .bool false, .str [], .slu 1049 0 1 6, .slu 1075 0 1 7] 88), (922, .cells [.int .u8 (15), .int .u8 (0), .int .i64 (4), .int .i64 (5), .str [u8 102], .nils, .int .u8 (15), .int .u8 (0), .int .i64 (6), .int .i64 (7), .str [u8 120], .nils] 136), (1049, .cells [.int .u8 (15), .int .u8 (0), .int .i64 (14), .int .i64 (15), .str [u8 121], .nils] 136), (1075, .cells [.int .u8 (1), .int .i64 (19), .int .i64 (20), .bool false, .str [u8 121], .nils, .nils] 86)], 1138⟩
theorem eqDo14_run : memB' eqDo14 cq2 14 = true := by kernel_rfl
theorem eqDo14_ok [Tab] (hT : EnvQ Tab.w0) : MemOK Tryz.prog 14 eqDo14 := mem_ok (call2_ok hT) cq2_rel rfl eqDo14_run
noncomputable def eqDo15 : Mem := ⟨[.str [u8 108, u8 101, u8 116, u8 32, u8 102, u8 32, u8 40, u8 120, u8 44, u8 32, u8 121, u8 41, u8 32, u8 61, u8 32, u8 120]], .tup [.slu 1150 0 1 11, .int .i64 (0)], [(1150, .cells [.int .i64 (0), .int .i64 (16), .bool false, .slu 1069 0 2 6, .int .u8 (1), .int .i64 (15), .int .i64 (16), .bool false, .str [u8 120], .nils, .nils] 88), (1069, .cells [.int .u8 (15), .int .u8 (0), .int .i64 (4), .int .i64 (5), .str [u8 102], .nils, .int .u8 (18), .int .u8 (0), .int .i64 (6), .int .i64 (12), .str [], .slu 1067 0 2 6] 136), (1067, .cells [.int .u8 (15), .int .u8 (0), .int .i64 (7), .int .i64 (8), .str [u8 120], .nils, .int .u8 (15), .int .u8 (0), .int .i64 (10), .int .i64 (11), .str [u8 121], .nils] 136)], 1152⟩
theorem eqDo15_run : memB' eqDo15 cq2 14 = true := by kernel_rfl
theorem eqDo15_ok [Tab] (hT : EnvQ Tab.w0) : MemOK Tryz.prog 14 eqDo15 := mem_ok (call2_ok hT) cq2_rel rfl eqDo15_run
end Go.Proofs.YtbnpifafgadjgaaGreatDoor


/-
  Closed calls, gone through by the kernel: what they answer.
-/
namespace Go.Proofs.YtbnpifafgadjgaaGreatDoor
open Go.RowKit
set_option maxRecDepth 1000000

noncomputable def eqDo16 : Mem := ⟨[.str [u8 108, u8 101, u8 116, u8 32, u8 102, u8 32, u8 40, u8 121, u8 44, u8 32, u8 121, u8 41, u8 32, u8 61, u8 32, u8 121]], .tup [.slu 1150 0 1 11, .int .i64 (0)], [(1150, .cells [.int .i64 (0), .int .i64 (16), .bool false, .slu 1069 0 2 6, .int .u8 (1), .int .i64 (15), .int .i64 (16), .bool false, .str [u8 121], .nils, .nils] 88), (1069, .cells [.int .u8 (15), .int .u8 (0), .int .i64 (4), .int .i64 (5), .str [u8 102], .nils, .int .u8 (18), .int .u8 (0), .int .i64 (6), .int .i64 (12), .str [], .slu 1067 0 2 6] 136), (1067, .cells [.int .u8 (15), .int .u8 (0), .int .i64 (7), .int .i64 (8), .str [u8 121], .nils, .int .u8 (15), .int .u8 (0), .int .i64 (10), .int .i64 (11), .str [u8 121], .nils] 136)], 1152⟩
theorem eqDo16_run : memB' eqDo16 cq2 14 = true := by kernel_rfl
theorem eqDo16_ok [Tab] (hT : EnvQ Tab.w0) : MemOK Tryz.prog 14 eqDo16 := mem_ok (call2_ok hT) cq2_rel rfl eqDo16_run
noncomputable def eqDo17 : Mem := ⟨[.str [u8 108, u8 101, u8 116, u8 32, u8 102, u8 32, u8 40, u8 97, u8 44, u8 32, u8 98, u8 41, u8 32, u8 61, u8 32, u8 49]], .tup [.slu 1138 0 1 11, .int .i64 (0)], [(1138, .cells [.int .i64 (0), .int .i64 (16), .bool false, .slu 1057 0 2 6, .int .u8 (2), .int .i64 (15), .int .i64 (16), .bool false, .str [u8 49], .nils, .nils] 88), (1057, .cells [.int .u8 (15), .int .u8 (0), .int .i64 (4), .int .i64 (5), .str [u8 102], .nils, .int .u8 (18), .int .u8 (0), .int .i64 (6), .int .i64 (12), .str [], .slu 1055 0 2 6] 136), (1055, .cells [.int .u8 (15), .int .u8 (0), .int .i64 (7), .int .i64 (8), .str [u8 97], .nils, .int .u8 (15), .int .u8 (0), .int .i64 (10), .int .i64 (11), .str [u8 98], .nils] 136)], 1140⟩
theorem eqDo17_run : memB' eqDo17 cq2 14 = true := by kernel_rfl
theorem eqDo17_ok [Tab] (hT : EnvQ Tab.w0) : MemOK Tryz.prog 14 eqDo17 := mem_ok (call2_ok hT) cq2_rel rfl eqDo17_run
noncomputable def eqDo18 : Mem := ⟨[.str [u8 108, u8 101, u8 116, u8 32, u8 102, u8 32, u8 40, u8 97, u8 44, u8 32, u8 97, u8 41, u8 32, u8 61, u8 32, u8 49]], .tup [.slu 1138 0 1 11, .int .i64 (0)], [(1138, .cells [.int .i64 (0), .int .i64 (16), .bool false, .slu 1057 0 2 6, .int .u8 (2), .int .i64 (15), .int .i64 (16), .bool false, .str [u8 49], .nils, .nils] 88), (1057, .cells [.int .u8 (15), .int .u8 (0), .int .i64 (4), .int .i64 (5), .str [u8 102], .nils, .int .u8 (18), .int .u8 (0), .int .i64 (6), .int .i64 (12), .str [], .slu 1055 0 2 6] 136), (1055, .cells [.int .u8 (15), .int .u8 (0), .int .i64 (7), .int .i64 (8), .str [u8 97], .nils, .int .u8 (15), .int .u8 (0), .int .i64 (10), .int .i64 (11), .str [u8 97], .nils] 136)], 1140⟩
theorem eqDo18_run : memB' eqDo18 cq2 14 = true := by kernel_rfl
theorem eqDo18_ok [Tab] (hT : EnvQ Tab.w0) : MemOK Tryz.prog 14 eqDo18 := mem_ok (call2_ok hT) cq2_rel rfl eqDo18_run
noncomputable def eqDo19 : Mem := ⟨[.str [u8 108, u8 101, u8 116, u8 32, u8 102, u8 32, u8 120, u8 32, u8 61, u8 32, u8 102, u8 115, u8 116, u8 32, u8 120]], .tup [.slu 941 0 1 11, .int .i64 (0)], [(941, .cells [.int .i64 (0), .int .i64 (15), .bool false, .slu 792 0 2 6, .int .u8 (8), .int .i64 (10), .int .i64 (15), .bool false, .str [], .nils, .slu 892 0 2 7] 88), (792, .cells [.int .u8 (15), .int .u8 (0), .int .i64 (4), .int .i64 (5), .str [u8 102], .nils, .int .u8 (15), .int .u8 (0), .int .i64 (6), .int .i64 (7), .str [u8 120], .nils] 136), (892, .cells [.int .u8 (1), .int .i64 (10), .int .i64 (13), .bool false, .str [u8 102, u8 115, u8 116], .nils, .nils, .int .u8 (1), .int .i64 (14), .int .i64 (15), .bool false, .str [u8 120], .nils, .nils] 86)], 943⟩
theorem eqDo19_run : memB' eqDo19 cq2 14 = true := by kernel_rfl
theorem eqDo19_ok [Tab] (hT : EnvQ Tab.w0) : MemOK Tryz.prog 14 eqDo19 := mem_ok (call2_ok hT) cq2_rel rfl eqDo19_run
noncomputable def eqDo20 : Mem := ⟨[.str [u8 108, u8 101, u8 116, u8 32, u8 102, u8 32, u8 102, u8 115, u8 116, u8 32, u8 61, u8 32, u8 102, u8 115, u8 116, u8 32, u8 102, u8 115, u8 116]], .tup [.slu 941 0 1 11, .int .i64 (0)], [(941, .cells [.int .i64 (0), .int .i64 (19), .bool false, .slu 792 0 2 6, .int .u8 (8), .int .i64 (12), .int .i64 (19), .bool false, .str [], .nils, .slu 892 0 2 7] 88), (792, .cells [.int .u8 (15), .int .u8 (0), .int .i64 (4), .int .i64 (5), .str [u8 102], .nils, .int .u8 (15), .int .u8 (0), .int .i64 (6), .int .i64 (9), .str [u8 102, u8 115, u8 116], .nils] 136), (892, .cells [.int .u8 (1), .int .i64 (12), .int .i64 (15), .bool false, .str [u8 102, u8 115, u8 116], .nils, .nils, .int .u8 (1), .int .i64 (16), .int .i64 (19), .bool false, .str [u8 102, u8 115, u8 116], .nils, .nils] 86)], 943⟩
theorem eqDo20_run : memB' eqDo20 cq2 14 = true := by kernel_rfl
theorem eqDo20_ok [Tab] (hT : EnvQ Tab.w0) : MemOK Tryz.prog 14 eqDo20 := mem_ok (call2_ok hT) cq2_rel rfl eqDo20_run
noncomputable def eqDo21 : Mem := ⟨[.str [u8 108, u8 101, u8 116, u8 32, u8 102, u8 32, u8 120, u8 32, u8 61, u8 32, u8 121]], .tup [.slu 764 0 1 11, .int .i64 (0)], [(764, .cells [.int .i64 (0), .int .i64 (11), .bool false, .slu 700 0 2 6, .int .u8 (1), .int .i64 (10), .int .i64 (11), .bool false, .str [u8 121], .nils, .nils] 88), (700, .cells [.int .u8 (15), .int .u8 (0), .int .i64 (4), .int .i64 (5), .str [u8 102], .nils, .int .u8 (15), .int .u8 (0), .int .i64 (6), .int .i64 (7), .str [u8 120], .nils] 136)], 766⟩
theorem eqDo21_run : memB' eqDo21 cq2 14 = true := by kernel_rfl
theorem eqDo21_ok [Tab] (hT : EnvQ Tab.w0) : MemOK Tryz.prog 14 eqDo21 := mem_ok (call2_ok hT) cq2_rel rfl eqDo21_run
noncomputable def eqDo22 : Mem := ⟨[.str [u8 108, u8 101, u8 116, u8 32, u8 102, u8 32, u8 121, u8 32, u8 61, u8 32, u8 121]], .tup [.slu 764 0 1 11, .int .i64 (0)], [(764, .cells [.int .i64 (0), .int .i64 (11), .bool false, .slu 700 0 2 6, .int .u8 (1), .int .i64 (10), .int .i64 (11), .bool false, .str [u8 121], .nils, .nils] 88), (700, .cells [.int .u8 (15), .int .u8 (0), .int .i64 (4), .int .i64 (5), .str [u8 102], .nils, .int .u8 (15), .int .u8 (0), .int .i64 (6), .int .i64 (7), .str [u8 121], .nils] 136)], 766⟩
theorem eqDo22_run : memB' eqDo22 cq2 14 = true := by kernel_rfl
theorem eqDo22_ok [Tab] (hT : EnvQ Tab.w0) : MemOK Tryz.prog 14 eqDo22 := mem_ok (call2_ok hT) cq2_rel rfl eqDo22_run
noncomputable def eqDo23 : Mem := ⟨[.str [u8 108, u8 101, u8 116, u8 32, u8 102, u8 32, u8 120, u8 32, u8 61, u8 32, u8 40]], .tup [.nils, .int .i64 (50)], [], 879⟩
theorem eqDo23_run : memB' eqDo23 cq2 14 = true := by kernel_rfl
theorem eqDo23_ok [Tab] (hT : EnvQ Tab.w0) : MemOK Tryz.prog 14 eqDo23 := mem_ok (call2_ok hT) cq2_rel rfl eqDo23_run
end Go.Proofs.YtbnpifafgadjgaaGreatDoor


/-
  Closed calls, gone through by the kernel: function by function.
-/
namespace Go.Proofs.YtbnpifafgadjgaaGreatDoor
open Go.RowKit
set_option maxRecDepth 1000000

theorem eqDoL14_ok [Tab] (hT : EnvQ Tab.w0) : OneOK Tryz.prog 14 (memoA [eqDo0, eqDo1, eqDo2, eqDo3, eqDo4, eqDo5, eqDo6, eqDo7, eqDo8, eqDo9, eqDo10, eqDo11, eqDo12, eqDo13, eqDo14, eqDo15, eqDo16, eqDo17, eqDo18, eqDo19, eqDo20, eqDo21, eqDo22, eqDo23]) := memo_one (List.forall_mem_cons.2 ⟨eqDo0_ok hT, List.forall_mem_cons.2 ⟨eqDo1_ok hT, List.forall_mem_cons.2 ⟨eqDo2_ok hT, List.forall_mem_cons.2 ⟨eqDo3_ok hT, List.forall_mem_cons.2 ⟨eqDo4_ok hT, List.forall_mem_cons.2 ⟨eqDo5_ok hT, List.forall_mem_cons.2 ⟨eqDo6_ok hT, List.forall_mem_cons.2 ⟨eqDo7_ok hT, List.forall_mem_cons.2 ⟨eqDo8_ok hT, List.forall_mem_cons.2 ⟨eqDo9_ok hT, List.forall_mem_cons.2 ⟨eqDo10_ok hT, List.forall_mem_cons.2 ⟨eqDo11_ok hT, List.forall_mem_cons.2 ⟨eqDo12_ok hT, List.forall_mem_cons.2 ⟨eqDo13_ok hT, List.forall_mem_cons.2 ⟨eqDo14_ok hT, List.forall_mem_cons.2 ⟨eqDo15_ok hT, List.forall_mem_cons.2 ⟨eqDo16_ok hT, List.forall_mem_cons.2 ⟨eqDo17_ok hT, List.forall_mem_cons.2 ⟨eqDo18_ok hT, List.forall_mem_cons.2 ⟨eqDo19_ok hT, List.forall_mem_cons.2 ⟨eqDo20_ok hT, List.forall_mem_cons.2 ⟨eqDo21_ok hT, List.forall_mem_cons.2 ⟨eqDo22_ok hT, List.forall_mem_cons.2 ⟨eqDo23_ok hT, fun _ h => nomatch h⟩⟩⟩⟩⟩⟩⟩⟩⟩⟩⟩⟩⟩⟩⟩⟩⟩⟩⟩⟩⟩⟩⟩⟩)
noncomputable def eqDoL14 : List Mem := [eqDo0, eqDo1, eqDo2, eqDo3, eqDo4, eqDo5, eqDo6, eqDo7, eqDo8, eqDo9, eqDo10, eqDo11, eqDo12, eqDo13, eqDo14, eqDo15, eqDo16, eqDo17, eqDo18, eqDo19, eqDo20, eqDo21, eqDo22, eqDo23]
end Go.Proofs.YtbnpifafgadjgaaGreatDoor


/-
  The quick machine at the program, over answers told beforehand.
-/
namespace Go.Proofs.YtbnpifafgadjgaaGreatDoor
open Go.RowKit
set_option maxRecDepth 1000000

noncomputable def orc3 : List (Nat × (List AV → AS → Option (AV × AS))) := (14, memoA eqDoL14) :: orc2
theorem orc3_ok [Tab] (hT : EnvQ Tab.w0) : ∀ p ∈ orc3, OneOK Tryz.prog p.1 p.2 :=
  List.forall_mem_cons.2 ⟨eqDoL14_ok hT, orc2_ok hT⟩
noncomputable def call3 : Nat → List AV → AS → Option (AV × AS) := evF Tryz.prog (hooks Tryz.prog) (fnL fsQ) (orcL orc3) 100000 260
noncomputable def cq3 : CallQ := evQ Tryz.prog (fnL fsQ) (orcQ orc3) 100000 260
theorem call3_ok [Tab] (hT : EnvQ Tab.w0) : CallOK Tryz.prog call3 := evF_ok (hooks_ok mixedQ) fsQ_ok (orcL_ok (orc3_ok hT)) 260
theorem cq3_rel [Tab] : CallRel call3 cq3 := evQ_ok (orcQ_rel _) 260
end Go.Proofs.YtbnpifafgadjgaaGreatDoor
