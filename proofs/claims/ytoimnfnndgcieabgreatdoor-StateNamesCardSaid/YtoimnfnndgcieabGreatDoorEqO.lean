/-
  The quick machine at the program: its calls, the library's by contracts, json.Parse with its deferred closure.
-/
import Derived.Test.YtoimnfnndgcieabGreatDoorEqX
import Derived.Test.YtoimnfnndgcieabGreatDoorEqE
import Derived.Test.YtoimnfnndgcieabGreatDoorEqM
import Derived.Test.YtoimnfnndgcieabGreatDoorEwC
namespace Go.Proofs.YtoimnfnndgcieabGreatDoor
open Go.RowKit
set_option maxRecDepth 1000000

theorem mixedQ : Tryz.prog.follows .mixedOrders = true := by kernel_rfl
/-- Oracles in the plain form, for the quick machine. -/
noncomputable def orcQ (l : List (Nat × (List AV → AS → Option (AV × AS)))) : Nat → Option OQ := List.rec (motive := fun _ => Nat → Option OQ) (fun _ => none) (fun p _ ih f => Bool.rec (motive := fun _ => Option OQ) (ih f) (some (orcD p.2)) (Nat.beq f p.1)) l
theorem orcQ_rel [Tab] : ∀ (l : List (Nat × (List AV → AS → Option (AV × AS)))) (f : Nat), OrcRel (orcL l f) (orcQ l f)
  | [], _ => trivial
  | p :: r, f => by
    show OrcRel (cond (Nat.beq f p.1) (some p.2) (orcL r f)) (Bool.rec (motive := fun _ => Option OQ) (orcQ r f) (some (orcD p.2)) (Nat.beq f p.1))
    cases Nat.beq f p.1 with
    | true => exact orcD_ok p.2
    | false => exact orcQ_rel r f
noncomputable def call0 : Nat → List AV → AS → Option (AV × AS) := evF Tryz.prog (hooks Tryz.prog) (fnL fsQ) (orcL orcB) 100000 200
noncomputable def cq0 : CallQ := evQ Tryz.prog (fnL fsQ) (orcQ orcB) 100000 200
theorem call0_ok [Tab] (hT : EnvQ Tab.w0) : CallOK Tryz.prog call0 := evF_ok (hooks_ok mixedQ) fsQ_ok (orcL_ok (orcB_ok hT)) 200
theorem cq0_rel [Tab] : CallRel call0 cq0 := evQ_ok (orcQ_rel _) 200
noncomputable def parseO : Nat × (List AV → AS → Option (AV × AS)) := (10, guardedA Tryz.prog call0 (fnL fsQ) 100000 Tryz.f10)
noncomputable def oqP (f : Nat) : Option OQ := Bool.rec (motive := fun _ => Option OQ) (orcQ orcB f) (some (guardedQ Tryz.prog cq0 (fnL fsQ) 100000 Tryz.f10)) (Nat.beq f 10)
theorem oqP_rel [Tab] (f : Nat) : OrcRel (orcL (parseO :: orcB) f) (oqP f) := by
  show OrcRel (cond (Nat.beq f 10) (some parseO.2) (orcL orcB f)) (Bool.rec (motive := fun _ => Option OQ) (orcQ orcB f) (some (guardedQ Tryz.prog cq0 (fnL fsQ) 100000 Tryz.f10)) (Nat.beq f 10))
  cases Nat.beq f 10 with
  | true => exact guardedQ_ok cq0_rel
  | false => exact orcQ_rel orcB f
theorem parseO_ok [Tab] (hT : EnvQ Tab.w0) : OneOK Tryz.prog parseO.1 parseO.2 := guardedA_ok mixedQ (call0_ok hT) fsQ_ok Tryz.func10 (by rfl) (by rfl)
noncomputable def callR : Nat → List AV → AS → Option (AV × AS) := evF Tryz.prog (hooks Tryz.prog) (fnL fsQ) (orcL (parseO :: orcB)) 100000 260
noncomputable def cqR : CallQ := evQ Tryz.prog (fnL fsQ) oqP 100000 260
theorem callR_ok [Tab] (hT : EnvQ Tab.w0) : CallOK Tryz.prog callR := evF_ok (hooks_ok mixedQ) fsQ_ok (orcL_ok (List.forall_mem_cons.2 ⟨parseO_ok hT, orcB_ok hT⟩)) 260
theorem cqR_rel [Tab] : CallRel callR cqR := evQ_ok oqP_rel 260
end Go.Proofs.YtoimnfnndgcieabGreatDoor
