/-
  Closed calls, gone through by the kernel: what they answer.
-/
import Derived.Test.YtambgppdjlhdaaaGreatDoorEqIom
import Derived.KernelRfl
namespace Go.Proofs.YtambgppdjlhdaaaGreatDoor
open Go.RowKit
set_option maxRecDepth 1000000

noncomputable def eqIg13 : Mem := ⟨[.str [u8 41, u8 32, u8 108, u8 101, u8 116]], .bool false, [], 653⟩
theorem eqIg13_run : memB' eqIg13 cq3 14 = true := by kernel_rfl
theorem eqIg13_ok [Tab] (hT : EnvQ Tab.w0) : MemOK Tryz.prog 14 eqIg13 := mem_ok (call3_ok hT) cq3_rel rfl eqIg13_run
noncomputable def eqIg14 : Mem := ⟨[.str [u8 36, u8 32, u8 41, u8 32, u8 108, u8 101, u8 116, u8 32, u8 120, u8 32, u8 61, u8 32, u8 49]], .bool false, [], 755⟩
theorem eqIg14_run : memB' eqIg14 cq3 14 = true := by kernel_rfl
theorem eqIg14_ok [Tab] (hT : EnvQ Tab.w0) : MemOK Tryz.prog 14 eqIg14 := mem_ok (call3_ok hT) cq3_rel rfl eqIg14_run
noncomputable def eqIg15 : Mem := ⟨[.str [u8 108, u8 101, u8 116, u8 32, u8 120, u8 32, u8 61, u8 32, u8 122, u8 32, u8 121]], .bool false, [], 1611⟩
theorem eqIg15_run : memB' eqIg15 cq3 14 = true := by kernel_rfl
theorem eqIg15_ok [Tab] (hT : EnvQ Tab.w0) : MemOK Tryz.prog 14 eqIg15 := mem_ok (call3_ok hT) cq3_rel rfl eqIg15_run
noncomputable def eqIg16 : Mem := ⟨[.str [u8 108, u8 101, u8 116, u8 32, u8 102, u8 32, u8 40, u8 97, u8 44, u8 32, u8 97, u8 41, u8 32, u8 61, u8 32, u8 122]], .bool false, [], 2321⟩
theorem eqIg16_run : memB' eqIg16 cq3 14 = true := by kernel_rfl
theorem eqIg16_ok [Tab] (hT : EnvQ Tab.w0) : MemOK Tryz.prog 14 eqIg16 := mem_ok (call3_ok hT) cq3_rel rfl eqIg16_run
noncomputable def eqIg17 : Mem := ⟨[.str [u8 108, u8 101, u8 116, u8 32, u8 120, u8 32, u8 61, u8 32, u8 49, u8 32, u8 43, u8 32, u8 116, u8 114, u8 117, u8 101]], .bool false, [], 2375⟩
theorem eqIg17_run : memB' eqIg17 cq3 14 = true := by kernel_rfl
theorem eqIg17_ok [Tab] (hT : EnvQ Tab.w0) : MemOK Tryz.prog 14 eqIg17 := mem_ok (call3_ok hT) cq3_rel rfl eqIg17_run
noncomputable def eqIg18 : Mem := ⟨[.str [u8 108, u8 101, u8 116, u8 32, u8 102, u8 32, u8 120, u8 32, u8 61, u8 32, u8 120, u8 32, u8 120]], .bool false, [], 2811⟩
theorem eqIg18_run : memB' eqIg18 cq3 14 = true := by kernel_rfl
theorem eqIg18_ok [Tab] (hT : EnvQ Tab.w0) : MemOK Tryz.prog 14 eqIg18 := mem_ok (call3_ok hT) cq3_rel rfl eqIg18_run
noncomputable def eqIg19 : Mem := ⟨[.str [u8 108, u8 101, u8 116, u8 32, u8 120, u8 32, u8 61, u8 32, u8 49, u8 32, u8 43, u8 32, u8 116, u8 114, u8 117, u8 101, u8 32, u8 108, u8 101, u8 116, u8 32, u8 121, u8 32, u8 61, u8 32, u8 120, u8 32, u8 43, u8 32, u8 49, u8 32, u8 108, u8 101, u8 116, u8 32, u8 122, u8 32, u8 61, u8 32, u8 110, u8 111, u8 116, u8 32, u8 49]], .bool false, [], 7021⟩
theorem eqIg19_run : memB' eqIg19 cq3 14 = true := by kernel_rfl
theorem eqIg19_ok [Tab] (hT : EnvQ Tab.w0) : MemOK Tryz.prog 14 eqIg19 := mem_ok (call3_ok hT) cq3_rel rfl eqIg19_run
end Go.Proofs.YtambgppdjlhdaaaGreatDoor
