/-
  Closed calls, gone through by the kernel: what they answer.
-/
import Derived.Test.YtambgppdjlhdaaaGreatDoorEqIwm
import Derived.KernelRfl
import Derived.Test.YtambgppdjlhdaaaGreatDoorEqIom
namespace Go.Proofs.YtambgppdjlhdaaaGreatDoor
open Go.RowKit
set_option maxRecDepth 1000000

noncomputable def eqIu0 : Mem := ⟨[.str [u8 108, u8 101, u8 116, u8 32, u8 120, u8 32, u8 61, u8 32, u8 49, u8 32, u8 43, u8 32, u8 50]], .tup [.slu 96 0 11 2, .int .i64 (0)], [(96, .cells [.int .u8 (3), .str [u8 108, u8 101, u8 116], .int .u8 (1), .str [u8 32], .int .u8 (4), .str [u8 120], .int .u8 (1), .str [u8 32], .int .u8 (8), .str [u8 61], .int .u8 (1), .str [u8 32], .int .u8 (5), .str [u8 49], .int .u8 (1), .str [u8 32], .int .u8 (8), .str [u8 43], .int .u8 (1), .str [u8 32], .int .u8 (5), .str [u8 50]] 76)], 97⟩
theorem eqIu0_run : memB' eqIu0 cq1 52 = true := by kernel_rfl
theorem eqIu0_ok [Tab] (hT : EnvQ Tab.w0) : MemOK Tryz.prog 52 eqIu0 := mem_ok (call1_ok hT) cq1_rel rfl eqIu0_run
noncomputable def eqIu1 : Mem := ⟨[.str [u8 108, u8 101, u8 116, u8 32, u8 120, u8 32, u8 61, u8 32, u8 121]], .tup [.slu 82 0 7 2, .int .i64 (0)], [(82, .cells [.int .u8 (3), .str [u8 108, u8 101, u8 116], .int .u8 (1), .str [u8 32], .int .u8 (4), .str [u8 120], .int .u8 (1), .str [u8 32], .int .u8 (8), .str [u8 61], .int .u8 (1), .str [u8 32], .int .u8 (4), .str [u8 121]] 76)], 83⟩
theorem eqIu1_run : memB' eqIu1 cq1 52 = true := by kernel_rfl
theorem eqIu1_ok [Tab] (hT : EnvQ Tab.w0) : MemOK Tryz.prog 52 eqIu1 := mem_ok (call1_ok hT) cq1_rel rfl eqIu1_run
end Go.Proofs.YtambgppdjlhdaaaGreatDoor


/-
  Closed calls, gone through by the kernel: function by function.
-/
namespace Go.Proofs.YtambgppdjlhdaaaGreatDoor
open Go.RowKit
set_option maxRecDepth 1000000

theorem eqIuL52_ok [Tab] (hT : EnvQ Tab.w0) : OneOK Tryz.prog 52 (memoA [eqIu0, eqIu1]) := memo_one (List.forall_mem_cons.2 ⟨eqIu0_ok hT, List.forall_mem_cons.2 ⟨eqIu1_ok hT, fun _ h => nomatch h⟩⟩)
noncomputable def eqIuL52 : List Mem := [eqIu0, eqIu1]
end Go.Proofs.YtambgppdjlhdaaaGreatDoor


/-
  Answers told beforehand, and the machine where none is told.
-/
namespace Go.Proofs.YtambgppdjlhdaaaGreatDoor
open Go.RowKit
set_option maxRecDepth 1000000

/-- One oracle, or another. -/
noncomputable def orO (g h : List AV → AS → Option (AV × AS)) (args : List AV) (s : AS) : Option (AV × AS) := match g args s with
  | some r => some r
  | none => h args s
theorem orO_ok [Tab] {P : Program} {f : Nat} {g h : List AV → AS → Option (AV × AS)} (hg : OneOK P f g) (hh : OneOK P f h) : OneOK P f (orO g h) := by
  refine ⟨hg.fn, fun args s v s' he hnp => ?_, fun args s u s' he => ?_⟩
  · unfold orO at he
    split at he
    · rename_i r hr
      exact hg.calls args s v s' (hr.trans he) hnp
    · exact hh.calls args s v s' he hnp
  · unfold orO at he
    split at he
    · rename_i r hr
      exact hg.pans args s u s' (hr.trans he)
    · exact hh.pans args s u s' he
theorem oneOf_call [Tab] {P : Program} {call : Nat → List AV → AS → Option (AV × AS)} (hc : CallOK P call) {f : Nat} (hf : ∃ fn, P.funcs[f]? = some fn ∧ fn.body.isNone = false ∧ (fn.name == "runtime.NumGoroutine") = false) : OneOK P f (call f) :=
  ⟨hf, fun args s v s' he hnp => hc.calls f args s v s' he hnp, fun args s u s' he => hc.pans f args s u s' he⟩
noncomputable def orcT2 : List (Nat × (List AV → AS → Option (AV × AS))) := (52, orO (memoA eqItL52) (orO (memoA eqIuL52) (call1 52))) :: orc1
theorem orcT2_ok [Tab] (hT : EnvQ Tab.w0) : ∀ p ∈ orcT2, OneOK Tryz.prog p.1 p.2 :=
  List.forall_mem_cons.2 ⟨orO_ok (eqItL52_ok hT) (orO_ok (eqIuL52_ok hT) (oneOf_call (call1_ok hT) (eqItL52_ok hT).fn)), orc1_ok hT⟩
noncomputable def callT2 : Nat → List AV → AS → Option (AV × AS) := callG orcT2
theorem callT2_ok [Tab] (hT : EnvQ Tab.w0) : CallOK Tryz.prog callT2 := callG_ok (orcT2_ok hT)
noncomputable def cqT2 : CallQ := cqG orcT2
theorem cqT2_rel [Tab] : CallRel callT2 cqT2 := cqG_rel orcT2
end Go.Proofs.YtambgppdjlhdaaaGreatDoor


/-
  Closed calls, gone through by the kernel: what they answer.
-/
namespace Go.Proofs.YtambgppdjlhdaaaGreatDoor
open Go.RowKit
set_option maxRecDepth 1000000

noncomputable def eqIp0 : Mem := ⟨[.str [u8 108, u8 101, u8 116, u8 32, u8 120, u8 32, u8 61, u8 32, u8 49, u8 32, u8 43, u8 32, u8 50]], .tup [.slu 929 0 1 11, .int .i64 (0)], [(929, .cells [.int .i64 (0), .int .i64 (13), .bool false, .slu 742 0 1 6, .int .u8 (9), .int .i64 (8), .int .i64 (13), .bool false, .str [u8 43], .nils, .slu 880 0 2 7] 39), (742, .cells [.int .u8 (15), .int .u8 (0), .int .i64 (4), .int .i64 (5), .str [u8 120], .nils] 37), (880, .cells [.int .u8 (2), .int .i64 (8), .int .i64 (9), .bool false, .str [u8 49], .nils, .nils, .int .u8 (2), .int .i64 (12), .int .i64 (13), .bool false, .str [u8 50], .nils, .nils] 35)], 931⟩
theorem eqIp0_run : memB' eqIp0 cqT2 21 = true := by kernel_rfl
theorem eqIp0_ok [Tab] (hT : EnvQ Tab.w0) : MemOK Tryz.prog 21 eqIp0 := mem_ok (callT2_ok hT) cqT2_rel rfl eqIp0_run
noncomputable def eqIp1 : Mem := ⟨[.str [u8 108, u8 101, u8 116, u8 32, u8 120, u8 32, u8 61, u8 32, u8 121]], .tup [.slu 643 0 1 11, .int .i64 (0)], [(643, .cells [.int .i64 (0), .int .i64 (9), .bool false, .slu 585 0 1 6, .int .u8 (1), .int .i64 (8), .int .i64 (9), .bool false, .str [u8 121], .nils, .nils] 39), (585, .cells [.int .u8 (15), .int .u8 (0), .int .i64 (4), .int .i64 (5), .str [u8 120], .nils] 37)], 645⟩
theorem eqIp1_run : memB' eqIp1 cqT2 21 = true := by kernel_rfl
theorem eqIp1_ok [Tab] (hT : EnvQ Tab.w0) : MemOK Tryz.prog 21 eqIp1 := mem_ok (callT2_ok hT) cqT2_rel rfl eqIp1_run
end Go.Proofs.YtambgppdjlhdaaaGreatDoor


/-
  Closed calls, gone through by the kernel: function by function.
-/
namespace Go.Proofs.YtambgppdjlhdaaaGreatDoor
open Go.RowKit
set_option maxRecDepth 1000000

theorem eqIpL21_ok [Tab] (hT : EnvQ Tab.w0) : OneOK Tryz.prog 21 (memoA [eqIp0, eqIp1]) := memo_one (List.forall_mem_cons.2 ⟨eqIp0_ok hT, List.forall_mem_cons.2 ⟨eqIp1_ok hT, fun _ h => nomatch h⟩⟩)
noncomputable def eqIpL21 : List Mem := [eqIp0, eqIp1]
end Go.Proofs.YtambgppdjlhdaaaGreatDoor


/-
  Answers told beforehand, and the machine where none is told: ast.Of.
-/
namespace Go.Proofs.YtambgppdjlhdaaaGreatDoor
open Go.RowKit
set_option maxRecDepth 1000000

noncomputable def orcT3 : List (Nat × (List AV → AS → Option (AV × AS))) := (21, orO (memoA eqIoL21) (orO (memoA eqIpL21) (callT2 21))) :: orcT2
theorem orcT3_ok [Tab] (hT : EnvQ Tab.w0) : ∀ p ∈ orcT3, OneOK Tryz.prog p.1 p.2 :=
  List.forall_mem_cons.2 ⟨orO_ok (eqIoL21_ok hT) (orO_ok (eqIpL21_ok hT) (oneOf_call (callT2_ok hT) (eqIoL21_ok hT).fn)), orcT2_ok hT⟩
noncomputable def callT3 : Nat → List AV → AS → Option (AV × AS) := callG orcT3
noncomputable def cqT3 : CallQ := cqG orcT3
theorem callT3_ok [Tab] (hT : EnvQ Tab.w0) : CallOK Tryz.prog callT3 := callG_ok (orcT3_ok hT)
theorem cqT3_rel [Tab] : CallRel callT3 cqT3 := cqG_rel orcT3
end Go.Proofs.YtambgppdjlhdaaaGreatDoor
