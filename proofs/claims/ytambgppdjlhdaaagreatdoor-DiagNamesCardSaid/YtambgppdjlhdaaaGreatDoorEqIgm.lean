/-
  Closed calls, gone through by the kernel: what they answer.
-/
import Derived.Test.YtambgppdjlhdaaaGreatDoorEqIum
import Derived.KernelRfl
import Derived.Test.YtambgppdjlhdaaaGreatDoorEqIga
import Derived.Test.YtambgppdjlhdaaaGreatDoorEqIgb
namespace Go.Proofs.YtambgppdjlhdaaaGreatDoor
open Go.RowKit
set_option maxRecDepth 1000000

noncomputable def eqIh0 : Mem := ⟨[.str [u8 255]], .tup [.nils, .int .i64 (4)], [], 2⟩
theorem eqIh0_run : memB' eqIh0 cqT3 12 = true := by kernel_rfl
theorem eqIh0_ok [Tab] (hT : EnvQ Tab.w0) : MemOK Tryz.prog 12 eqIh0 := mem_ok (callT3_ok hT) cqT3_rel rfl eqIh0_run
noncomputable def eqIh1 : Mem := ⟨[.str [u8 255]], .bool false, [], 2⟩
theorem eqIh1_run : memB' eqIh1 cqT3 14 = true := by kernel_rfl
theorem eqIh1_ok [Tab] (hT : EnvQ Tab.w0) : MemOK Tryz.prog 14 eqIh1 := mem_ok (callT3_ok hT) cqT3_rel rfl eqIh1_run
noncomputable def eqIh2 : Mem := ⟨[.str [u8 108, u8 101, u8 116, u8 32, u8 120, u8 32, u8 61, u8 32, u8 121]], .tup [.slu 1270 0 1 4, .int .i64 (0)], [(1270, .cells [.int .i64 (8), .int .i64 (9), .int .i64 (4), .str [u8 110, u8 111, u8 116, u8 104, u8 105, u8 110, u8 103, u8 32, u8 104, u8 97, u8 115, u8 32, u8 116, u8 104, u8 101, u8 32, u8 110, u8 97, u8 109, u8 101, u8 32, u8 121]] 55)], 1271⟩
theorem eqIh2_run : memB' eqIh2 cqT3 12 = true := by kernel_rfl
theorem eqIh2_ok [Tab] (hT : EnvQ Tab.w0) : MemOK Tryz.prog 12 eqIh2 := mem_ok (callT3_ok hT) cqT3_rel rfl eqIh2_run
noncomputable def eqIh3 : Mem := ⟨[.str [u8 108, u8 101, u8 116, u8 32, u8 120, u8 32, u8 61, u8 32, u8 49, u8 32, u8 43, u8 32, u8 50]], .tup [.nils, .int .i64 (0)], [], 3455⟩
theorem eqIh3_run : memB' eqIh3 cqT3 12 = true := by kernel_rfl
theorem eqIh3_ok [Tab] (hT : EnvQ Tab.w0) : MemOK Tryz.prog 12 eqIh3 := mem_ok (callT3_ok hT) cqT3_rel rfl eqIh3_run
noncomputable def eqIh4 : Mem := ⟨[.str [u8 108, u8 101, u8 116, u8 32, u8 120, u8 32, u8 61, u8 32, u8 49, u8 32, u8 43, u8 32, u8 50]], .bool true, [], 3455⟩
theorem eqIh4_run : memB' eqIh4 cqT3 14 = true := by kernel_rfl
theorem eqIh4_ok [Tab] (hT : EnvQ Tab.w0) : MemOK Tryz.prog 14 eqIh4 := mem_ok (callT3_ok hT) cqT3_rel rfl eqIh4_run
end Go.Proofs.YtambgppdjlhdaaaGreatDoor


/-
  Closed calls, gone through by the kernel: function by function.
-/
namespace Go.Proofs.YtambgppdjlhdaaaGreatDoor
open Go.RowKit
set_option maxRecDepth 1000000

theorem eqIhL12_ok [Tab] (hT : EnvQ Tab.w0) : OneOK Tryz.prog 12 (memoA [eqIh0, eqIh2, eqIh3]) := memo_one (List.forall_mem_cons.2 ⟨eqIh0_ok hT, List.forall_mem_cons.2 ⟨eqIh2_ok hT, List.forall_mem_cons.2 ⟨eqIh3_ok hT, fun _ h => nomatch h⟩⟩⟩)
noncomputable def eqIhL12 : List Mem := [eqIh0, eqIh2, eqIh3]
theorem eqIhL14_ok [Tab] (hT : EnvQ Tab.w0) : OneOK Tryz.prog 14 (memoA [eqIh1, eqIh4]) := memo_one (List.forall_mem_cons.2 ⟨eqIh1_ok hT, List.forall_mem_cons.2 ⟨eqIh4_ok hT, fun _ h => nomatch h⟩⟩)
noncomputable def eqIhL14 : List Mem := [eqIh1, eqIh4]
end Go.Proofs.YtambgppdjlhdaaaGreatDoor


/-
  Closed calls, gone through by the kernel: function by function.
-/
namespace Go.Proofs.YtambgppdjlhdaaaGreatDoor
open Go.RowKit
set_option maxRecDepth 1000000

theorem eqIgL12_ok [Tab] (hT : EnvQ Tab.w0) : OneOK Tryz.prog 12 (memoA [eqIg0, eqIg1, eqIg2, eqIg3, eqIg4, eqIg5, eqIg6, eqIg7, eqIg8, eqIg9]) := memo_one (List.forall_mem_cons.2 ⟨eqIg0_ok hT, List.forall_mem_cons.2 ⟨eqIg1_ok hT, List.forall_mem_cons.2 ⟨eqIg2_ok hT, List.forall_mem_cons.2 ⟨eqIg3_ok hT, List.forall_mem_cons.2 ⟨eqIg4_ok hT, List.forall_mem_cons.2 ⟨eqIg5_ok hT, List.forall_mem_cons.2 ⟨eqIg6_ok hT, List.forall_mem_cons.2 ⟨eqIg7_ok hT, List.forall_mem_cons.2 ⟨eqIg8_ok hT, List.forall_mem_cons.2 ⟨eqIg9_ok hT, fun _ h => nomatch h⟩⟩⟩⟩⟩⟩⟩⟩⟩⟩)
noncomputable def eqIgL12 : List Mem := [eqIg0, eqIg1, eqIg2, eqIg3, eqIg4, eqIg5, eqIg6, eqIg7, eqIg8, eqIg9]
theorem eqIgL14_ok [Tab] (hT : EnvQ Tab.w0) : OneOK Tryz.prog 14 (memoA [eqIg10, eqIg11, eqIg12, eqIg13, eqIg14, eqIg15, eqIg16, eqIg17, eqIg18, eqIg19]) := memo_one (List.forall_mem_cons.2 ⟨eqIg10_ok hT, List.forall_mem_cons.2 ⟨eqIg11_ok hT, List.forall_mem_cons.2 ⟨eqIg12_ok hT, List.forall_mem_cons.2 ⟨eqIg13_ok hT, List.forall_mem_cons.2 ⟨eqIg14_ok hT, List.forall_mem_cons.2 ⟨eqIg15_ok hT, List.forall_mem_cons.2 ⟨eqIg16_ok hT, List.forall_mem_cons.2 ⟨eqIg17_ok hT, List.forall_mem_cons.2 ⟨eqIg18_ok hT, List.forall_mem_cons.2 ⟨eqIg19_ok hT, fun _ h => nomatch h⟩⟩⟩⟩⟩⟩⟩⟩⟩⟩)
noncomputable def eqIgL14 : List Mem := [eqIg10, eqIg11, eqIg12, eqIg13, eqIg14, eqIg15, eqIg16, eqIg17, eqIg18, eqIg19]
end Go.Proofs.YtambgppdjlhdaaaGreatDoor


/-
  The quick machine at the program, over answers told beforehand: diag.Of, diag.Typable.
-/
namespace Go.Proofs.YtambgppdjlhdaaaGreatDoor
open Go.RowKit
set_option maxRecDepth 1000000

noncomputable def orc6 : List (Nat × (List AV → AS → Option (AV × AS))) := (12, orO (memoA eqIgL12) (orO (memoA eqIhL12) (callT3 12))) :: (14, orO (memoA eqIgL14) (memoA eqIhL14)) :: orcT3
theorem orc6_ok [Tab] (hT : EnvQ Tab.w0) : ∀ p ∈ orc6, OneOK Tryz.prog p.1 p.2 :=
  List.forall_mem_cons.2 ⟨orO_ok (eqIgL12_ok hT) (orO_ok (eqIhL12_ok hT) (oneOf_call (callT3_ok hT) (eqIgL12_ok hT).fn)), List.forall_mem_cons.2 ⟨orO_ok (eqIgL14_ok hT) (eqIhL14_ok hT), orcT3_ok hT⟩⟩
noncomputable def call6 : Nat → List AV → AS → Option (AV × AS) := callG orc6
noncomputable def cq6 : CallQ := cqG orc6
theorem call6_ok [Tab] (hT : EnvQ Tab.w0) : CallOK Tryz.prog call6 := callG_ok (orc6_ok hT)
theorem cq6_rel [Tab] : CallRel call6 cq6 := cqG_rel orc6
end Go.Proofs.YtambgppdjlhdaaaGreatDoor


/-
  rostrumlaw24.DiagNames answers true: the run, gone through by the kernel over the answers told beforehand.
-/
namespace Go.Proofs.YtambgppdjlhdaaaGreatDoor
open Go.RowKit
set_option maxRecDepth 1000000

theorem diagNames_run : isTrueQ (cq6 4 [] AS.nil trueK) = true := by kernel_rfl
theorem diagNames_all (w : World) (hE : EnvQ w) : Calls Tryz.prog 4 #[] w fun e w' => e = .returned (.bool true) ∧ Below w.heap.size w w' := by
  letI : Tab := ⟨w⟩
  exact closed_trueQ (call6_ok hE) cq6_rel diagNames_run w (Below.refl _ _)
end Go.Proofs.YtambgppdjlhdaaaGreatDoor
