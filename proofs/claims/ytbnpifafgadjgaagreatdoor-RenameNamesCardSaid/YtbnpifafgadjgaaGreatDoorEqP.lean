/-
  The quick machine at the program: its calls, the library's by contracts.
-/
import Derived.Test.YtbnpifafgadjgaaGreatDoorEqXd
import Derived.Test.YtbnpifafgadjgaaGreatDoorEqE
import Derived.Test.YtbnpifafgadjgaaGreatDoorEqM
import Derived.Test.YtbnpifafgadjgaaGreatDoorEwF
namespace Go.Proofs.YtbnpifafgadjgaaGreatDoor
open Go.RowKit
set_option maxRecDepth 1000000

theorem mixedQ : Tryz.prog.follows .mixedOrders = true := by kernel_rfl
/-- Oracles in the plain form, for the quick machine. -/
noncomputable def orcQ (l : List (Nat × (List AV → AS → Option (AV × AS)))) : Nat → Option OQ := List.rec (motive := fun _ => Nat → Option OQ) (fun _ => none) (fun p _ ih f => Bool.rec (motive := fun _ => Option OQ) (ih f) (some (orcD p.2)) (Nat.beq f p.1)) l
theorem orcQ_rel [Tab] : ∀ (l : List (Nat × (List AV → AS → Option (AV × AS)))) (f : Nat), OrcRel (orcL l f) (orcQ l f)
  | [], _ => trivial
  | p :: r, f => by
    show OrcRel (cond (Nat.beq f p.1) (some p.2) (orcL r f)) (Bool.rec (motive := fun _ => Option OQ) (orcQ r f) (some (orcD p.2)) (Nat.beq f p.1))
    cases Nat.beq f p.1 with
    | true => exact orcD_ok p.2
    | false => exact orcQ_rel r f
noncomputable def callR : Nat → List AV → AS → Option (AV × AS) := evF Tryz.prog (hooks Tryz.prog) (fnL fsQ) (orcL orcB) 100000 260
noncomputable def cqR : CallQ := evQ Tryz.prog (fnL fsQ) (orcQ orcB) 100000 260
theorem callR_ok [Tab] (hT : EnvQ Tab.w0) : CallOK Tryz.prog callR := evF_ok (hooks_ok mixedQ) fsQ_ok (orcL_ok (orcB_ok hT)) 260
theorem cqR_rel [Tab] : CallRel callR cqR := evQ_ok (orcQ_rel _) 260
end Go.Proofs.YtbnpifafgadjgaaGreatDoor
