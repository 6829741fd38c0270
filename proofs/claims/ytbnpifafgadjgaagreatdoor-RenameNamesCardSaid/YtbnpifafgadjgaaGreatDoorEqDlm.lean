/-
  Closed calls, gone through by the kernel: what they answer.
-/
import Derived.Test.YtbnpifafgadjgaaGreatDoorEqDom
import Derived.KernelRfl
namespace Go.Proofs.YtbnpifafgadjgaaGreatDoor
open Go.RowKit
set_option maxRecDepth 1000000

noncomputable def eqDl0 : Mem := ⟨[.str [u8 108, u8 101, u8 116, u8 32, u8 120, u8 32, u8 61, u8 32, u8 49, u8 32, u8 108, u8 101, u8 116, u8 32, u8 102, u8 32, u8 121, u8 32, u8 61, u8 32, u8 120, u8 32, u8 43, u8 32, u8 121, u8 32, u8 120], .int .i64 (20)], .tup [.agg [.int .i64 (4), .int .i64 (5)], .int .i64 (0)], [], 2045⟩
theorem eqDl0_run : memB' eqDl0 cq3 6 = true := by kernel_rfl
theorem eqDl0_ok [Tab] (hT : EnvQ Tab.w0) : MemOK Tryz.prog 6 eqDl0 := mem_ok (call3_ok hT) cq3_rel rfl eqDl0_run
noncomputable def eqDl1 : Mem := ⟨[.str [u8 108, u8 101, u8 116, u8 32, u8 120, u8 32, u8 61, u8 32, u8 49, u8 32, u8 108, u8 101, u8 116, u8 32, u8 102, u8 32, u8 121, u8 32, u8 61, u8 32, u8 120, u8 32, u8 43, u8 32, u8 121, u8 32, u8 120], .int .i64 (5)], .tup [.agg [.int .i64 (4), .int .i64 (5)], .int .i64 (0)], [], 2045⟩
theorem eqDl1_run : memB' eqDl1 cq3 6 = true := by kernel_rfl
theorem eqDl1_ok [Tab] (hT : EnvQ Tab.w0) : MemOK Tryz.prog 6 eqDl1 := mem_ok (call3_ok hT) cq3_rel rfl eqDl1_run
noncomputable def eqDl2 : Mem := ⟨[.str [u8 108, u8 101, u8 116, u8 32, u8 120, u8 32, u8 61, u8 32, u8 49, u8 32, u8 108, u8 101, u8 116, u8 32, u8 102, u8 32, u8 121, u8 32, u8 61, u8 32, u8 120, u8 32, u8 43, u8 32, u8 121, u8 32, u8 120], .int .i64 (26)], .tup [.agg [.int .i64 (4), .int .i64 (5)], .int .i64 (0)], [], 2045⟩
theorem eqDl2_run : memB' eqDl2 cq3 6 = true := by kernel_rfl
theorem eqDl2_ok [Tab] (hT : EnvQ Tab.w0) : MemOK Tryz.prog 6 eqDl2 := mem_ok (call3_ok hT) cq3_rel rfl eqDl2_run
noncomputable def eqDl3 : Mem := ⟨[.str [u8 108, u8 101, u8 116, u8 32, u8 120, u8 32, u8 61, u8 32, u8 49, u8 32, u8 108, u8 101, u8 116, u8 32, u8 102, u8 32, u8 121, u8 32, u8 61, u8 32, u8 120, u8 32, u8 43, u8 32, u8 121, u8 32, u8 120], .int .i64 (26)], .tup [.slu 4110 0 3 2, .int .i64 (0)], [(4110, .cells [.int .i64 (4), .int .i64 (5), .int .i64 (20), .int .i64 (21), .int .i64 (26), .int .i64 (27)] 24)], 4149⟩
theorem eqDl3_run : memB' eqDl3 cq3 7 = true := by kernel_rfl
theorem eqDl3_ok [Tab] (hT : EnvQ Tab.w0) : MemOK Tryz.prog 7 eqDl3 := mem_ok (call3_ok hT) cq3_rel rfl eqDl3_run
noncomputable def eqDl4 : Mem := ⟨[.str [u8 108, u8 101, u8 116, u8 32, u8 120, u8 32, u8 61, u8 32, u8 49, u8 32, u8 108, u8 101, u8 116, u8 32, u8 102, u8 32, u8 121, u8 32, u8 61, u8 32, u8 120, u8 32, u8 43, u8 32, u8 121, u8 32, u8 120], .int .i64 (0)], .tup [.agg [.int .i64 (0), .int .i64 (0)], .int .i64 (5)], [], 2045⟩
theorem eqDl4_run : memB' eqDl4 cq3 6 = true := by kernel_rfl
theorem eqDl4_ok [Tab] (hT : EnvQ Tab.w0) : MemOK Tryz.prog 6 eqDl4 := mem_ok (call3_ok hT) cq3_rel rfl eqDl4_run
noncomputable def eqDl5 : Mem := ⟨[.str [u8 108, u8 101, u8 116, u8 32, u8 120, u8 32, u8 61, u8 32, u8 49, u8 32, u8 108, u8 101, u8 116, u8 32, u8 102, u8 32, u8 121, u8 32, u8 61, u8 32, u8 120, u8 32, u8 43, u8 32, u8 121, u8 32, u8 120], .int .i64 (99)], .tup [.agg [.int .i64 (0), .int .i64 (0)], .int .i64 (1)], [], 1808⟩
theorem eqDl5_run : memB' eqDl5 cq3 6 = true := by kernel_rfl
theorem eqDl5_ok [Tab] (hT : EnvQ Tab.w0) : MemOK Tryz.prog 6 eqDl5 := mem_ok (call3_ok hT) cq3_rel rfl eqDl5_run
noncomputable def eqDl6 : Mem := ⟨[.str [u8 108, u8 101, u8 116, u8 32, u8 102, u8 32, u8 121, u8 32, u8 61, u8 32, u8 122]], .tup [.slu 886 0 1 2, .int .i64 (0)], [(886, .cells [.int .i64 (10), .int .i64 (11)] 24)], 887⟩
theorem eqDl6_run : memB' eqDl6 cq3 8 = true := by kernel_rfl
theorem eqDl6_ok [Tab] (hT : EnvQ Tab.w0) : MemOK Tryz.prog 8 eqDl6 := mem_ok (call3_ok hT) cq3_rel rfl eqDl6_run
noncomputable def eqDl7 : Mem := ⟨[.str [u8 108, u8 101, u8 116, u8 32, u8 102, u8 32, u8 121, u8 32, u8 61, u8 32, u8 122]], .tup [.slu 949 0 1 2, .int .i64 (0)], [(949, .cells [.int .i64 (6), .int .i64 (7)] 24)], 950⟩
theorem eqDl7_run : memB' eqDl7 cq3 9 = true := by kernel_rfl
theorem eqDl7_ok [Tab] (hT : EnvQ Tab.w0) : MemOK Tryz.prog 9 eqDl7 := mem_ok (call3_ok hT) cq3_rel rfl eqDl7_run
noncomputable def eqDl8 : Mem := ⟨[.str [u8 108, u8 101, u8 116, u8 32, u8 102, u8 32, u8 121, u8 32, u8 61, u8 32, u8 122], .int .i64 (10)], .tup [.agg [.int .i64 (0), .int .i64 (0)], .int .i64 (5)], [], 895⟩
theorem eqDl8_run : memB' eqDl8 cq3 6 = true := by kernel_rfl
theorem eqDl8_ok [Tab] (hT : EnvQ Tab.w0) : MemOK Tryz.prog 6 eqDl8 := mem_ok (call3_ok hT) cq3_rel rfl eqDl8_run
noncomputable def eqDl9 : Mem := ⟨[.str [u8 108, u8 101, u8 116, u8 32, u8 120, u8 32, u8 61], .int .i64 (4)], .tup [.agg [.int .i64 (0), .int .i64 (0)], .int .i64 (50)], [], 487⟩
theorem eqDl9_run : memB' eqDl9 cq3 6 = true := by kernel_rfl
theorem eqDl9_ok [Tab] (hT : EnvQ Tab.w0) : MemOK Tryz.prog 6 eqDl9 := mem_ok (call3_ok hT) cq3_rel rfl eqDl9_run
noncomputable def eqDl10 : Mem := ⟨[.str [u8 108, u8 101, u8 116, u8 32, u8 120, u8 32, u8 61], .int .i64 (-1)], .tup [.agg [.int .i64 (0), .int .i64 (0)], .int .i64 (50)], [], 487⟩
theorem eqDl10_run : memB' eqDl10 cq3 6 = true := by kernel_rfl
theorem eqDl10_ok [Tab] (hT : EnvQ Tab.w0) : MemOK Tryz.prog 6 eqDl10 := mem_ok (call3_ok hT) cq3_rel rfl eqDl10_run
noncomputable def eqDl11 : Mem := ⟨[.str [u8 108, u8 101, u8 116, u8 32, u8 120, u8 32, u8 61], .int .i64 (-1)], .tup [.nils, .int .i64 (50)], [], 489⟩
theorem eqDl11_run : memB' eqDl11 cq3 7 = true := by kernel_rfl
theorem eqDl11_ok [Tab] (hT : EnvQ Tab.w0) : MemOK Tryz.prog 7 eqDl11 := mem_ok (call3_ok hT) cq3_rel rfl eqDl11_run
noncomputable def eqDl12 : Mem := ⟨[.str [u8 108, u8 101, u8 116, u8 32, u8 120, u8 32, u8 61, u8 32, u8 49], .int .i64 (-1)], .tup [.agg [.int .i64 (0), .int .i64 (0)], .int .i64 (1)], [], 634⟩
theorem eqDl12_run : memB' eqDl12 cq3 6 = true := by kernel_rfl
theorem eqDl12_ok [Tab] (hT : EnvQ Tab.w0) : MemOK Tryz.prog 6 eqDl12 := mem_ok (call3_ok hT) cq3_rel rfl eqDl12_run
noncomputable def eqDl13 : Mem := ⟨[.str [u8 108, u8 101, u8 116, u8 32, u8 120, u8 32, u8 61, u8 32, u8 49], .int .i64 (-1)], .tup [.nils, .int .i64 (1)], [], 636⟩
theorem eqDl13_run : memB' eqDl13 cq3 7 = true := by kernel_rfl
theorem eqDl13_ok [Tab] (hT : EnvQ Tab.w0) : MemOK Tryz.prog 7 eqDl13 := mem_ok (call3_ok hT) cq3_rel rfl eqDl13_run
end Go.Proofs.YtbnpifafgadjgaaGreatDoor


/-
  Closed calls, gone through by the kernel: what they answer.
-/
namespace Go.Proofs.YtbnpifafgadjgaaGreatDoor
open Go.RowKit
set_option maxRecDepth 1000000

noncomputable def eqDl14 : Mem := ⟨[.str [u8 108, u8 101, u8 116, u8 32, u8 120, u8 32, u8 61, u8 32, u8 49], .int .i64 (10)], .tup [.agg [.int .i64 (0), .int .i64 (0)], .int .i64 (1)], [], 634⟩
theorem eqDl14_run : memB' eqDl14 cq3 6 = true := by kernel_rfl
theorem eqDl14_ok [Tab] (hT : EnvQ Tab.w0) : MemOK Tryz.prog 6 eqDl14 := mem_ok (call3_ok hT) cq3_rel rfl eqDl14_run
noncomputable def eqDl15 : Mem := ⟨[.str [u8 108, u8 101, u8 116, u8 32, u8 120, u8 32, u8 61, u8 32, u8 49], .int .i64 (10)], .tup [.nils, .int .i64 (1)], [], 636⟩
theorem eqDl15_run : memB' eqDl15 cq3 7 = true := by kernel_rfl
theorem eqDl15_ok [Tab] (hT : EnvQ Tab.w0) : MemOK Tryz.prog 7 eqDl15 := mem_ok (call3_ok hT) cq3_rel rfl eqDl15_run
noncomputable def eqDl16 : Mem := ⟨[.str [u8 108, u8 101, u8 116, u8 32, u8 120, u8 32, u8 61, u8 32, u8 49], .int .i64 (8)], .tup [.agg [.int .i64 (0), .int .i64 (0)], .int .i64 (5)], [], 695⟩
theorem eqDl16_run : memB' eqDl16 cq3 6 = true := by kernel_rfl
theorem eqDl16_ok [Tab] (hT : EnvQ Tab.w0) : MemOK Tryz.prog 6 eqDl16 := mem_ok (call3_ok hT) cq3_rel rfl eqDl16_run
noncomputable def eqDl17 : Mem := ⟨[.str [u8 108, u8 101, u8 116, u8 32, u8 120, u8 32, u8 61, u8 32, u8 49], .int .i64 (8)], .tup [.nils, .int .i64 (5)], [], 697⟩
theorem eqDl17_run : memB' eqDl17 cq3 7 = true := by kernel_rfl
theorem eqDl17_ok [Tab] (hT : EnvQ Tab.w0) : MemOK Tryz.prog 7 eqDl17 := mem_ok (call3_ok hT) cq3_rel rfl eqDl17_run
noncomputable def eqDl18 : Mem := ⟨[.str [u8 108, u8 101, u8 116, u8 32, u8 120, u8 32, u8 61]], .tup [.nils, .int .i64 (50)], [], 486⟩
theorem eqDl18_run : memB' eqDl18 cq3 8 = true := by kernel_rfl
theorem eqDl18_ok [Tab] (hT : EnvQ Tab.w0) : MemOK Tryz.prog 8 eqDl18 := mem_ok (call3_ok hT) cq3_rel rfl eqDl18_run
noncomputable def eqDl19 : Mem := ⟨[.str [u8 108, u8 101, u8 116, u8 32, u8 120, u8 32, u8 61]], .tup [.nils, .int .i64 (50)], [], 486⟩
theorem eqDl19_run : memB' eqDl19 cq3 9 = true := by kernel_rfl
theorem eqDl19_ok [Tab] (hT : EnvQ Tab.w0) : MemOK Tryz.prog 9 eqDl19 := mem_ok (call3_ok hT) cq3_rel rfl eqDl19_run
noncomputable def eqDl20 : Mem := ⟨[.str [u8 108, u8 101, u8 116, u8 32, u8 120, u8 32, u8 61, u8 32, u8 49, u8 32, u8 108, u8 101, u8 116, u8 32, u8 121, u8 32, u8 61, u8 32, u8 120], .int .i64 (19)], .tup [.agg [.int .i64 (4), .int .i64 (5)], .int .i64 (0)], [], 1325⟩
theorem eqDl20_run : memB' eqDl20 cq3 6 = true := by kernel_rfl
theorem eqDl20_ok [Tab] (hT : EnvQ Tab.w0) : MemOK Tryz.prog 6 eqDl20 := mem_ok (call3_ok hT) cq3_rel rfl eqDl20_run
noncomputable def eqDl21 : Mem := ⟨[.str [u8 108, u8 101, u8 116, u8 32, u8 120, u8 32, u8 61, u8 32, u8 102, u8 115, u8 116], .int .i64 (9)], .tup [.agg [.int .i64 (0), .int .i64 (0)], .int .i64 (5)], [], 732⟩
theorem eqDl21_run : memB' eqDl21 cq3 6 = true := by kernel_rfl
theorem eqDl21_ok [Tab] (hT : EnvQ Tab.w0) : MemOK Tryz.prog 6 eqDl21 := mem_ok (call3_ok hT) cq3_rel rfl eqDl21_run
noncomputable def eqDl22 : Mem := ⟨[.str [u8 108, u8 101, u8 116, u8 32, u8 40, u8 97, u8 44, u8 32, u8 98, u8 41, u8 32, u8 61, u8 32, u8 49, u8 32, u8 108, u8 101, u8 116, u8 32, u8 102, u8 32, u8 40, u8 99, u8 44, u8 32, u8 100, u8 41, u8 32, u8 61, u8 32, u8 102, u8 117, u8 110, u8 32, u8 101, u8 32, u8 45, u8 62, u8 32, u8 108, u8 101, u8 116, u8 32, u8 103, u8 32, u8 61, u8 32, u8 99, u8 32, u8 105, u8 110, u8 32, u8 109, u8 97, u8 116, u8 99, u8 104, u8 32, u8 103, u8 32, u8 119, u8 105, u8 116, u8 104, u8 32, u8 104, u8 32, u8 45, u8 62, u8 32, u8 97]], .tup [.slu 4888 0 3 2, .int .i64 (0)], [(4888, .cells [.int .i64 (25), .int .i64 (26), .int .i64 (34), .int .i64 (35), .int .i64 (65), .int .i64 (66)] 24)], 4927⟩
theorem eqDl22_run : memB' eqDl22 cq3 9 = true := by kernel_rfl
theorem eqDl22_ok [Tab] (hT : EnvQ Tab.w0) : MemOK Tryz.prog 9 eqDl22 := mem_ok (call3_ok hT) cq3_rel rfl eqDl22_run
noncomputable def eqDl23 : Mem := ⟨[.str [u8 108, u8 101, u8 116, u8 32, u8 102, u8 32, u8 120, u8 32, u8 61, u8 32, u8 121, u8 32, u8 43, u8 32, u8 102, u8 32, u8 122]], .tup [.slu 1447 0 3 2, .int .i64 (0)], [(1447, .cells [.int .i64 (10), .int .i64 (11), .int .i64 (14), .int .i64 (15), .int .i64 (16), .int .i64 (17)] 24)], 1486⟩
theorem eqDl23_run : memB' eqDl23 cq3 8 = true := by kernel_rfl
theorem eqDl23_ok [Tab] (hT : EnvQ Tab.w0) : MemOK Tryz.prog 8 eqDl23 := mem_ok (call3_ok hT) cq3_rel rfl eqDl23_run
noncomputable def eqDl24 : Mem := ⟨[.str [u8 108, u8 101, u8 116, u8 32, u8 120, u8 32, u8 61, u8 32, u8 49, u8 32, u8 108, u8 101, u8 116, u8 32, u8 120, u8 32, u8 61, u8 32, u8 120, u8 32, u8 108, u8 101, u8 116, u8 32, u8 121, u8 32, u8 61, u8 32, u8 120], .int .i64 (28)], .tup [.agg [.int .i64 (14), .int .i64 (15)], .int .i64 (0)], [], 1955⟩
theorem eqDl24_run : memB' eqDl24 cq3 6 = true := by kernel_rfl
theorem eqDl24_ok [Tab] (hT : EnvQ Tab.w0) : MemOK Tryz.prog 6 eqDl24 := mem_ok (call3_ok hT) cq3_rel rfl eqDl24_run
noncomputable def eqDl25 : Mem := ⟨[.str [u8 108, u8 101, u8 116, u8 32, u8 102, u8 32, u8 120, u8 32, u8 61, u8 32, u8 120, u8 32, u8 43, u8 32, u8 49], .int .i64 (7), .str [u8 121]], .tup [.slu 1283 0 2 3, .int .i64 (0)], [(1283, .cells [.int .i64 (6), .int .i64 (7), .str [u8 121], .int .i64 (10), .int .i64 (11), .str [u8 121]] 68)], 2540⟩
theorem eqDl25_run : memB' eqDl25 cq3 12 = true := by kernel_rfl
theorem eqDl25_ok [Tab] (hT : EnvQ Tab.w0) : MemOK Tryz.prog 12 eqDl25 := mem_ok (call3_ok hT) cq3_rel rfl eqDl25_run
noncomputable def eqDl26 : Mem := ⟨[.str [u8 108, u8 101, u8 116, u8 32, u8 102, u8 32, u8 120, u8 32, u8 61, u8 32, u8 120, u8 32, u8 43, u8 32, u8 49], .int .i64 (10), .str [u8 121]], .tup [.slu 1278 0 2 3, .int .i64 (0)], [(1278, .cells [.int .i64 (6), .int .i64 (7), .str [u8 121], .int .i64 (10), .int .i64 (11), .str [u8 121]] 68)], 2535⟩
theorem eqDl26_run : memB' eqDl26 cq3 12 = true := by kernel_rfl
theorem eqDl26_ok [Tab] (hT : EnvQ Tab.w0) : MemOK Tryz.prog 12 eqDl26 := mem_ok (call3_ok hT) cq3_rel rfl eqDl26_run
noncomputable def eqDl27 : Mem := ⟨[.str [u8 108, u8 101, u8 116, u8 32, u8 102, u8 32, u8 120, u8 32, u8 61, u8 32, u8 120, u8 32, u8 43, u8 32, u8 49], .int .i64 (11), .str [u8 121]], .tup [.slu 1285 0 2 3, .int .i64 (0)], [(1285, .cells [.int .i64 (6), .int .i64 (7), .str [u8 121], .int .i64 (10), .int .i64 (11), .str [u8 121]] 68)], 2542⟩
theorem eqDl27_run : memB' eqDl27 cq3 12 = true := by kernel_rfl
theorem eqDl27_ok [Tab] (hT : EnvQ Tab.w0) : MemOK Tryz.prog 12 eqDl27 := mem_ok (call3_ok hT) cq3_rel rfl eqDl27_run
end Go.Proofs.YtbnpifafgadjgaaGreatDoor


/-
  Closed calls, gone through by the kernel: what they answer.
-/
namespace Go.Proofs.YtbnpifafgadjgaaGreatDoor
open Go.RowKit
set_option maxRecDepth 1000000

noncomputable def eqDl28 : Mem := ⟨[.str [u8 108, u8 101, u8 116, u8 32, u8 102, u8 32, u8 120, u8 32, u8 61, u8 32, u8 120, u8 32, u8 43, u8 32, u8 49], .int .i64 (6), .str [u8 102]], .tup [.slu 1276 0 2 3, .int .i64 (0)], [(1276, .cells [.int .i64 (6), .int .i64 (7), .str [u8 102], .int .i64 (10), .int .i64 (11), .str [u8 102]] 68)], 2533⟩
theorem eqDl28_run : memB' eqDl28 cq3 12 = true := by kernel_rfl
theorem eqDl28_ok [Tab] (hT : EnvQ Tab.w0) : MemOK Tryz.prog 12 eqDl28 := mem_ok (call3_ok hT) cq3_rel rfl eqDl28_run
noncomputable def eqDl29 : Mem := ⟨[.str [u8 108, u8 101, u8 116, u8 32, u8 102, u8 32, u8 120, u8 32, u8 61, u8 32, u8 120, u8 32, u8 43, u8 32, u8 49], .int .i64 (6), .str [u8 120]], .tup [.nils, .int .i64 (0)], [], 2533⟩
theorem eqDl29_run : memB' eqDl29 cq3 12 = true := by kernel_rfl
theorem eqDl29_ok [Tab] (hT : EnvQ Tab.w0) : MemOK Tryz.prog 12 eqDl29 := mem_ok (call3_ok hT) cq3_rel rfl eqDl29_run
noncomputable def eqDl30 : Mem := ⟨[.str [u8 108, u8 101, u8 116, u8 32, u8 102, u8 32, u8 120, u8 32, u8 61, u8 32, u8 120, u8 32, u8 43, u8 32, u8 49], .int .i64 (8), .str [u8 121]], .tup [.nils, .int .i64 (5)], [], 1204⟩
theorem eqDl30_run : memB' eqDl30 cq3 12 = true := by kernel_rfl
theorem eqDl30_ok [Tab] (hT : EnvQ Tab.w0) : MemOK Tryz.prog 12 eqDl30 := mem_ok (call3_ok hT) cq3_rel rfl eqDl30_run
noncomputable def eqDl31 : Mem := ⟨[.str [u8 108, u8 101, u8 116, u8 32, u8 102, u8 32, u8 120, u8 32, u8 61, u8 32, u8 120, u8 32, u8 43, u8 32, u8 49], .int .i64 (-1), .str [u8 121]], .tup [.nils, .int .i64 (5)], [], 1204⟩
theorem eqDl31_run : memB' eqDl31 cq3 12 = true := by kernel_rfl
theorem eqDl31_ok [Tab] (hT : EnvQ Tab.w0) : MemOK Tryz.prog 12 eqDl31 := mem_ok (call3_ok hT) cq3_rel rfl eqDl31_run
noncomputable def eqDl32 : Mem := ⟨[.str [u8 108, u8 101, u8 116, u8 32, u8 102, u8 32, u8 120, u8 32, u8 61, u8 32, u8 120, u8 32, u8 43, u8 32, u8 49], .int .i64 (99), .str [u8 121]], .tup [.nils, .int .i64 (5)], [], 1204⟩
theorem eqDl32_run : memB' eqDl32 cq3 12 = true := by kernel_rfl
theorem eqDl32_ok [Tab] (hT : EnvQ Tab.w0) : MemOK Tryz.prog 12 eqDl32 := mem_ok (call3_ok hT) cq3_rel rfl eqDl32_run
noncomputable def eqDl33 : Mem := ⟨[.str [u8 108, u8 101, u8 116, u8 32, u8 102, u8 32, u8 120, u8 32, u8 61, u8 32, u8 120, u8 32, u8 43, u8 32, u8 49], .int .i64 (6), .str [u8 108, u8 101, u8 116]], .tup [.nils, .int .i64 (62)], [], 1271⟩
theorem eqDl33_run : memB' eqDl33 cq3 12 = true := by kernel_rfl
theorem eqDl33_ok [Tab] (hT : EnvQ Tab.w0) : MemOK Tryz.prog 12 eqDl33 := mem_ok (call3_ok hT) cq3_rel rfl eqDl33_run
noncomputable def eqDl34 : Mem := ⟨[.str [u8 108, u8 101, u8 116, u8 32, u8 102, u8 32, u8 120, u8 32, u8 61, u8 32, u8 120, u8 32, u8 43, u8 32, u8 49], .int .i64 (6), .str [u8 49]], .tup [.nils, .int .i64 (62)], [], 1259⟩
theorem eqDl34_run : memB' eqDl34 cq3 12 = true := by kernel_rfl
theorem eqDl34_ok [Tab] (hT : EnvQ Tab.w0) : MemOK Tryz.prog 12 eqDl34 := mem_ok (call3_ok hT) cq3_rel rfl eqDl34_run
noncomputable def eqDl35 : Mem := ⟨[.str [u8 108, u8 101, u8 116, u8 32, u8 102, u8 32, u8 120, u8 32, u8 61, u8 32, u8 120, u8 32, u8 43, u8 32, u8 49], .int .i64 (6), .str [u8 95]], .tup [.nils, .int .i64 (62)], [], 1271⟩
theorem eqDl35_run : memB' eqDl35 cq3 12 = true := by kernel_rfl
theorem eqDl35_ok [Tab] (hT : EnvQ Tab.w0) : MemOK Tryz.prog 12 eqDl35 := mem_ok (call3_ok hT) cq3_rel rfl eqDl35_run
noncomputable def eqDl36 : Mem := ⟨[.str [u8 108, u8 101, u8 116, u8 32, u8 102, u8 32, u8 120, u8 32, u8 61, u8 32, u8 120, u8 32, u8 43, u8 32, u8 49], .int .i64 (6), .str []], .tup [.nils, .int .i64 (62)], [], 1251⟩
theorem eqDl36_run : memB' eqDl36 cq3 12 = true := by kernel_rfl
theorem eqDl36_ok [Tab] (hT : EnvQ Tab.w0) : MemOK Tryz.prog 12 eqDl36 := mem_ok (call3_ok hT) cq3_rel rfl eqDl36_run
noncomputable def eqDl37 : Mem := ⟨[.str [u8 108, u8 101, u8 116, u8 32, u8 102, u8 32, u8 120, u8 32, u8 61, u8 32, u8 120, u8 32, u8 43, u8 32, u8 49], .int .i64 (6), .str [u8 97, u8 32, u8 98]], .tup [.nils, .int .i64 (62)], [], 1295⟩
theorem eqDl37_run : memB' eqDl37 cq3 12 = true := by kernel_rfl
theorem eqDl37_ok [Tab] (hT : EnvQ Tab.w0) : MemOK Tryz.prog 12 eqDl37 := mem_ok (call3_ok hT) cq3_rel rfl eqDl37_run
noncomputable def eqDl38 : Mem := ⟨[.str [u8 108, u8 101, u8 116, u8 32, u8 102, u8 32, u8 120, u8 32, u8 61, u8 32, u8 120, u8 32, u8 43, u8 32, u8 49], .int .i64 (6), .str [u8 255]], .tup [.nils, .int .i64 (62)], [], 1250⟩
theorem eqDl38_run : memB' eqDl38 cq3 12 = true := by kernel_rfl
theorem eqDl38_ok [Tab] (hT : EnvQ Tab.w0) : MemOK Tryz.prog 12 eqDl38 := mem_ok (call3_ok hT) cq3_rel rfl eqDl38_run
noncomputable def eqDl39 : Mem := ⟨[.str [u8 108, u8 101, u8 116, u8 32, u8 102, u8 32, u8 120, u8 32, u8 61, u8 32, u8 102, u8 117, u8 110, u8 32, u8 121, u8 32, u8 45, u8 62, u8 32, u8 120], .int .i64 (6), .str [u8 121]], .tup [.nils, .int .i64 (63)], [], 2767⟩
theorem eqDl39_run : memB' eqDl39 cq3 12 = true := by kernel_rfl
theorem eqDl39_ok [Tab] (hT : EnvQ Tab.w0) : MemOK Tryz.prog 12 eqDl39 := mem_ok (call3_ok hT) cq3_rel rfl eqDl39_run
noncomputable def eqDl40 : Mem := ⟨[.str [u8 108, u8 101, u8 116, u8 32, u8 102, u8 32, u8 120, u8 32, u8 61, u8 32, u8 102, u8 117, u8 110, u8 32, u8 121, u8 32, u8 45, u8 62, u8 32, u8 121], .int .i64 (6), .str [u8 121]], .tup [.slu 1356 0 1 3, .int .i64 (0)], [(1356, .cells [.int .i64 (6), .int .i64 (7), .str [u8 121]] 68)], 2684⟩
theorem eqDl40_run : memB' eqDl40 cq3 12 = true := by kernel_rfl
theorem eqDl40_ok [Tab] (hT : EnvQ Tab.w0) : MemOK Tryz.prog 12 eqDl40 := mem_ok (call3_ok hT) cq3_rel rfl eqDl40_run
noncomputable def eqDl41 : Mem := ⟨[.str [u8 108, u8 101, u8 116, u8 32, u8 102, u8 32, u8 40, u8 120, u8 44, u8 32, u8 121, u8 41, u8 32, u8 61, u8 32, u8 120], .int .i64 (7), .str [u8 121]], .tup [.nils, .int .i64 (63)], [], 2795⟩
theorem eqDl41_run : memB' eqDl41 cq3 12 = true := by kernel_rfl
theorem eqDl41_ok [Tab] (hT : EnvQ Tab.w0) : MemOK Tryz.prog 12 eqDl41 := mem_ok (call3_ok hT) cq3_rel rfl eqDl41_run
end Go.Proofs.YtbnpifafgadjgaaGreatDoor


/-
  Closed calls, gone through by the kernel: what they answer.
-/
namespace Go.Proofs.YtbnpifafgadjgaaGreatDoor
open Go.RowKit
set_option maxRecDepth 1000000

noncomputable def eqDl42 : Mem := ⟨[.str [u8 108, u8 101, u8 116, u8 32, u8 102, u8 32, u8 40, u8 97, u8 44, u8 32, u8 98, u8 41, u8 32, u8 61, u8 32, u8 49], .int .i64 (10), .str [u8 97]], .tup [.nils, .int .i64 (63)], [], 2645⟩
theorem eqDl42_run : memB' eqDl42 cq3 12 = true := by kernel_rfl
theorem eqDl42_ok [Tab] (hT : EnvQ Tab.w0) : MemOK Tryz.prog 12 eqDl42 := mem_ok (call3_ok hT) cq3_rel rfl eqDl42_run
noncomputable def eqDl43 : Mem := ⟨[.str [u8 108, u8 101, u8 116, u8 32, u8 102, u8 32, u8 120, u8 32, u8 61, u8 32, u8 102, u8 115, u8 116, u8 32, u8 120], .int .i64 (10), .str [u8 121]], .tup [.nils, .int .i64 (5)], [], 1099⟩
theorem eqDl43_run : memB' eqDl43 cq3 12 = true := by kernel_rfl
theorem eqDl43_ok [Tab] (hT : EnvQ Tab.w0) : MemOK Tryz.prog 12 eqDl43 := mem_ok (call3_ok hT) cq3_rel rfl eqDl43_run
noncomputable def eqDl44 : Mem := ⟨[.str [u8 108, u8 101, u8 116, u8 32, u8 102, u8 32, u8 120, u8 32, u8 61, u8 32, u8 102, u8 115, u8 116, u8 32, u8 120], .int .i64 (6), .str [u8 102, u8 115, u8 116]], .tup [.nils, .int .i64 (63)], [], 2337⟩
theorem eqDl44_run : memB' eqDl44 cq3 12 = true := by kernel_rfl
theorem eqDl44_ok [Tab] (hT : EnvQ Tab.w0) : MemOK Tryz.prog 12 eqDl44 := mem_ok (call3_ok hT) cq3_rel rfl eqDl44_run
noncomputable def eqDl45 : Mem := ⟨[.str [u8 108, u8 101, u8 116, u8 32, u8 102, u8 32, u8 120, u8 32, u8 61, u8 32, u8 121], .int .i64 (10), .str [u8 122]], .tup [.nils, .int .i64 (5)], [], 896⟩
theorem eqDl45_run : memB' eqDl45 cq3 12 = true := by kernel_rfl
theorem eqDl45_ok [Tab] (hT : EnvQ Tab.w0) : MemOK Tryz.prog 12 eqDl45 := mem_ok (call3_ok hT) cq3_rel rfl eqDl45_run
noncomputable def eqDl46 : Mem := ⟨[.str [u8 108, u8 101, u8 116, u8 32, u8 102, u8 32, u8 120, u8 32, u8 61, u8 32, u8 121], .int .i64 (6), .str [u8 121]], .tup [.nils, .int .i64 (63)], [], 1847⟩
theorem eqDl46_run : memB' eqDl46 cq3 12 = true := by kernel_rfl
theorem eqDl46_ok [Tab] (hT : EnvQ Tab.w0) : MemOK Tryz.prog 12 eqDl46 := mem_ok (call3_ok hT) cq3_rel rfl eqDl46_run
noncomputable def eqDl47 : Mem := ⟨[.str [u8 108, u8 101, u8 116, u8 32, u8 102, u8 32, u8 120, u8 32, u8 61, u8 32, u8 40], .int .i64 (6), .str [u8 121]], .tup [.nils, .int .i64 (50)], [], 881⟩
theorem eqDl47_run : memB' eqDl47 cq3 12 = true := by kernel_rfl
theorem eqDl47_ok [Tab] (hT : EnvQ Tab.w0) : MemOK Tryz.prog 12 eqDl47 := mem_ok (call3_ok hT) cq3_rel rfl eqDl47_run
noncomputable def eqDl48 : Mem := ⟨[.str [u8 108, u8 101, u8 116, u8 32, u8 102, u8 32, u8 120, u8 32, u8 61, u8 32, u8 120, u8 32, u8 43, u8 32, u8 49], .int .i64 (6), .str [u8 121]], .tup [.slu 1276 0 2 3, .int .i64 (0)], [(1276, .cells [.int .i64 (6), .int .i64 (7), .str [u8 121], .int .i64 (10), .int .i64 (11), .str [u8 121]] 68)], 2533⟩
theorem eqDl48_run : memB' eqDl48 cq3 12 = true := by kernel_rfl
theorem eqDl48_ok [Tab] (hT : EnvQ Tab.w0) : MemOK Tryz.prog 12 eqDl48 := mem_ok (call3_ok hT) cq3_rel rfl eqDl48_run
noncomputable def eqDl49 : Mem := ⟨[], .bool true, [], 3784⟩
theorem eqDl49_run : memB' eqDl49 cq3 13 = true := by kernel_rfl
theorem eqDl49_ok [Tab] (hT : EnvQ Tab.w0) : MemOK Tryz.prog 13 eqDl49 := mem_ok (call3_ok hT) cq3_rel rfl eqDl49_run
end Go.Proofs.YtbnpifafgadjgaaGreatDoor


/-
  Closed calls, gone through by the kernel: function by function.
-/
namespace Go.Proofs.YtbnpifafgadjgaaGreatDoor
open Go.RowKit
set_option maxRecDepth 1000000

theorem eqDlL6_ok [Tab] (hT : EnvQ Tab.w0) : OneOK Tryz.prog 6 (memoA [eqDl0, eqDl1, eqDl2, eqDl4, eqDl5, eqDl8, eqDl9, eqDl10, eqDl12, eqDl14, eqDl16, eqDl20, eqDl21, eqDl24]) := memo_one (List.forall_mem_cons.2 ⟨eqDl0_ok hT, List.forall_mem_cons.2 ⟨eqDl1_ok hT, List.forall_mem_cons.2 ⟨eqDl2_ok hT, List.forall_mem_cons.2 ⟨eqDl4_ok hT, List.forall_mem_cons.2 ⟨eqDl5_ok hT, List.forall_mem_cons.2 ⟨eqDl8_ok hT, List.forall_mem_cons.2 ⟨eqDl9_ok hT, List.forall_mem_cons.2 ⟨eqDl10_ok hT, List.forall_mem_cons.2 ⟨eqDl12_ok hT, List.forall_mem_cons.2 ⟨eqDl14_ok hT, List.forall_mem_cons.2 ⟨eqDl16_ok hT, List.forall_mem_cons.2 ⟨eqDl20_ok hT, List.forall_mem_cons.2 ⟨eqDl21_ok hT, List.forall_mem_cons.2 ⟨eqDl24_ok hT, fun _ h => nomatch h⟩⟩⟩⟩⟩⟩⟩⟩⟩⟩⟩⟩⟩⟩)
noncomputable def eqDlL6 : List Mem := [eqDl0, eqDl1, eqDl2, eqDl4, eqDl5, eqDl8, eqDl9, eqDl10, eqDl12, eqDl14, eqDl16, eqDl20, eqDl21, eqDl24]
theorem eqDlL7_ok [Tab] (hT : EnvQ Tab.w0) : OneOK Tryz.prog 7 (memoA [eqDl3, eqDl11, eqDl13, eqDl15, eqDl17]) := memo_one (List.forall_mem_cons.2 ⟨eqDl3_ok hT, List.forall_mem_cons.2 ⟨eqDl11_ok hT, List.forall_mem_cons.2 ⟨eqDl13_ok hT, List.forall_mem_cons.2 ⟨eqDl15_ok hT, List.forall_mem_cons.2 ⟨eqDl17_ok hT, fun _ h => nomatch h⟩⟩⟩⟩⟩)
noncomputable def eqDlL7 : List Mem := [eqDl3, eqDl11, eqDl13, eqDl15, eqDl17]
theorem eqDlL8_ok [Tab] (hT : EnvQ Tab.w0) : OneOK Tryz.prog 8 (memoA [eqDl6, eqDl18, eqDl23]) := memo_one (List.forall_mem_cons.2 ⟨eqDl6_ok hT, List.forall_mem_cons.2 ⟨eqDl18_ok hT, List.forall_mem_cons.2 ⟨eqDl23_ok hT, fun _ h => nomatch h⟩⟩⟩)
noncomputable def eqDlL8 : List Mem := [eqDl6, eqDl18, eqDl23]
theorem eqDlL9_ok [Tab] (hT : EnvQ Tab.w0) : OneOK Tryz.prog 9 (memoA [eqDl7, eqDl19, eqDl22]) := memo_one (List.forall_mem_cons.2 ⟨eqDl7_ok hT, List.forall_mem_cons.2 ⟨eqDl19_ok hT, List.forall_mem_cons.2 ⟨eqDl22_ok hT, fun _ h => nomatch h⟩⟩⟩)
noncomputable def eqDlL9 : List Mem := [eqDl7, eqDl19, eqDl22]
theorem eqDlL12_ok [Tab] (hT : EnvQ Tab.w0) : OneOK Tryz.prog 12 (memoA [eqDl25, eqDl26, eqDl27, eqDl28, eqDl29, eqDl30, eqDl31, eqDl32, eqDl33, eqDl34, eqDl35, eqDl36, eqDl37, eqDl38, eqDl39, eqDl40, eqDl41, eqDl42, eqDl43, eqDl44, eqDl45, eqDl46, eqDl47, eqDl48]) := memo_one (List.forall_mem_cons.2 ⟨eqDl25_ok hT, List.forall_mem_cons.2 ⟨eqDl26_ok hT, List.forall_mem_cons.2 ⟨eqDl27_ok hT, List.forall_mem_cons.2 ⟨eqDl28_ok hT, List.forall_mem_cons.2 ⟨eqDl29_ok hT, List.forall_mem_cons.2 ⟨eqDl30_ok hT, List.forall_mem_cons.2 ⟨eqDl31_ok hT, List.forall_mem_cons.2 ⟨eqDl32_ok hT, List.forall_mem_cons.2 ⟨eqDl33_ok hT, List.forall_mem_cons.2 ⟨eqDl34_ok hT, List.forall_mem_cons.2 ⟨eqDl35_ok hT, List.forall_mem_cons.2 ⟨eqDl36_ok hT, List.forall_mem_cons.2 ⟨eqDl37_ok hT, List.forall_mem_cons.2 ⟨eqDl38_ok hT, List.forall_mem_cons.2 ⟨eqDl39_ok hT, List.forall_mem_cons.2 ⟨eqDl40_ok hT, List.forall_mem_cons.2 ⟨eqDl41_ok hT, List.forall_mem_cons.2 ⟨eqDl42_ok hT, List.forall_mem_cons.2 ⟨eqDl43_ok hT, List.forall_mem_cons.2 ⟨eqDl44_ok hT, List.forall_mem_cons.2 ⟨eqDl45_ok hT, List.forall_mem_cons.2 ⟨eqDl46_ok hT, List.forall_mem_cons.2 ⟨eqDl47_ok hT, List.forall_mem_cons.2 ⟨eqDl48_ok hT, fun _ h => nomatch h⟩⟩⟩⟩⟩⟩⟩⟩⟩⟩⟩⟩⟩⟩⟩⟩⟩⟩⟩⟩⟩⟩⟩⟩)
noncomputable def eqDlL12 : List Mem := [eqDl25, eqDl26, eqDl27, eqDl28, eqDl29, eqDl30, eqDl31, eqDl32, eqDl33, eqDl34, eqDl35, eqDl36, eqDl37, eqDl38, eqDl39, eqDl40, eqDl41, eqDl42, eqDl43, eqDl44, eqDl45, eqDl46, eqDl47, eqDl48]
theorem eqDlL13_ok [Tab] (hT : EnvQ Tab.w0) : OneOK Tryz.prog 13 (memoA [eqDl49]) := memo_one (List.forall_mem_cons.2 ⟨eqDl49_ok hT, fun _ h => nomatch h⟩)
noncomputable def eqDlL13 : List Mem := [eqDl49]
end Go.Proofs.YtbnpifafgadjgaaGreatDoor


/-
  The quick machine at the program, over answers told beforehand.
-/
namespace Go.Proofs.YtbnpifafgadjgaaGreatDoor
open Go.RowKit
set_option maxRecDepth 1000000

noncomputable def orc4 : List (Nat × (List AV → AS → Option (AV × AS))) := (6, memoA eqDlL6) :: (7, memoA eqDlL7) :: (8, memoA eqDlL8) :: (9, memoA eqDlL9) :: (12, memoA eqDlL12) :: (13, memoA eqDlL13) :: orc3
theorem orc4_ok [Tab] (hT : EnvQ Tab.w0) : ∀ p ∈ orc4, OneOK Tryz.prog p.1 p.2 :=
  List.forall_mem_cons.2 ⟨eqDlL6_ok hT, List.forall_mem_cons.2 ⟨eqDlL7_ok hT, List.forall_mem_cons.2 ⟨eqDlL8_ok hT, List.forall_mem_cons.2 ⟨eqDlL9_ok hT, List.forall_mem_cons.2 ⟨eqDlL12_ok hT, List.forall_mem_cons.2 ⟨eqDlL13_ok hT, orc3_ok hT⟩⟩⟩⟩⟩⟩
noncomputable def call4 : Nat → List AV → AS → Option (AV × AS) := evF Tryz.prog (hooks Tryz.prog) (fnL fsQ) (orcL orc4) 100000 260
noncomputable def cq4 : CallQ := evQ Tryz.prog (fnL fsQ) (orcQ orc4) 100000 260
theorem call4_ok [Tab] (hT : EnvQ Tab.w0) : CallOK Tryz.prog call4 := evF_ok (hooks_ok mixedQ) fsQ_ok (orcL_ok (orc4_ok hT)) 260
theorem cq4_rel [Tab] : CallRel call4 cq4 := evQ_ok (orcQ_rel _) 260
end Go.Proofs.YtbnpifafgadjgaaGreatDoor
