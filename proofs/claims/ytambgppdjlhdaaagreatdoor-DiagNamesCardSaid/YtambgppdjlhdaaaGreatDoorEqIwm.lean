/-
  The quick machine at the program: its calls, the library's by contracts; infer.Make and (*maker).try with their deferred closures, (*maker).fun with its range over a function.
-/
import Derived.Test.YtambgppdjlhdaaaGreatDoorEqXi
import Derived.Test.YtambgppdjlhdaaaGreatDoorEqG
import Derived.Test.YtambgppdjlhdaaaGreatDoorEqM
import Derived.Test.YtambgppdjlhdaaaGreatDoorEwH
import Derived.KernelRfl
namespace Go.Proofs.YtambgppdjlhdaaaGreatDoor
open Go.RowKit
set_option maxRecDepth 1000000

theorem mixedQ : Tryz.prog.follows .mixedOrders = true := by kernel_rfl
/-- Oracles in the plain form, for the quick machine. -/
noncomputable def orcQ (l : List (Nat × (List AV → AS → Option (AV × AS)))) : Nat → Option OQ := List.rec (motive := fun _ => Nat → Option OQ) (fun _ => none) (fun p _ ih f => Bool.rec (motive := fun _ => Option OQ) (ih f) (some (orcD p.2)) (Nat.beq f p.1)) l
theorem orcQ_rel [Tab] : ∀ (l : List (Nat × (List AV → AS → Option (AV × AS)))) (f : Nat), OrcRel (orcL l f) (orcQ l f)
  | [], _ => trivial
  | p :: r, f => by
    show OrcRel (cond (Nat.beq f p.1) (some p.2) (orcL r f)) (Bool.rec (motive := fun _ => Option OQ) (orcQ r f) (some (orcD p.2)) (Nat.beq f p.1))
    cases Nat.beq f p.1 with
    | true => exact orcD_ok p.2
    | false => exact orcQ_rel r f
/-- (*maker).fun calls itself through others: a tower. -/
noncomputable def callN (l : List (Nat × (List AV → AS → Option (AV × AS)))) (k : Nat) : Nat → List AV → AS → Option (AV × AS) := Nat.rec (motive := fun _ => Nat → List AV → AS → Option (AV × AS)) (evF Tryz.prog (hooks Tryz.prog) (fnL fsQ) (orcL l) 100000 260)
  (fun _ ih => evF Tryz.prog (hooks Tryz.prog) (fnL fsQ) (orcL ((40, rangedA Tryz.prog ih bkQ 100000 Tryz.f40) :: l)) 100000 260) k
noncomputable def oqN (l : List (Nat × (List AV → AS → Option (AV × AS)))) (cq : CallQ) (f : Nat) : Option OQ := Bool.rec (motive := fun _ => Option OQ) (orcQ l f) (some (rangedQ Tryz.prog cq bkQ 100000 Tryz.f40)) (Nat.beq f 40)
noncomputable def cqN (l : List (Nat × (List AV → AS → Option (AV × AS)))) (k : Nat) : CallQ := Nat.rec (motive := fun _ => CallQ) (evQ Tryz.prog (fnL fsQ) (orcQ l) 100000 260)
  (fun _ ih => evQ Tryz.prog (fnL fsQ) (oqN l ih) 100000 260) k
theorem callN_ok [Tab] {l : List (Nat × (List AV → AS → Option (AV × AS)))} (hl : ∀ p ∈ l, OneOK Tryz.prog p.1 p.2) : ∀ k, CallOK Tryz.prog (callN l k)
  | 0 => evF_ok (hooks_ok mixedQ) fsQ_ok (orcL_ok hl) 260
  | k + 1 => evF_ok (hooks_ok mixedQ) fsQ_ok (orcL_ok (List.forall_mem_cons.2 ⟨rangedA_ok mixedQ (callN_ok hl k) bkQ_ok Tryz.func40 (by rfl) (by rfl), hl⟩)) 260
theorem oqN_rel [Tab] {l : List (Nat × (List AV → AS → Option (AV × AS)))} {call : Nat → List AV → AS → Option (AV × AS)} {cq : CallQ} (h : CallRel call cq) (f : Nat) : OrcRel (orcL ((40, rangedA Tryz.prog call bkQ 100000 Tryz.f40) :: l) f) (oqN l cq f) := by
  show OrcRel (cond (Nat.beq f 40) (some (rangedA Tryz.prog call bkQ 100000 Tryz.f40)) (orcL l f)) (oqN l cq f)
  unfold oqN
  cases Nat.beq f 40 with
  | true => exact rangedQ_ok h
  | false => exact orcQ_rel l f
theorem cqN_rel [Tab] (l : List (Nat × (List AV → AS → Option (AV × AS)))) : ∀ k, CallRel (callN l k) (cqN l k)
  | 0 => evQ_ok (orcQ_rel l) 260
  | k + 1 => evQ_ok (oqN_rel (cqN_rel l k)) 260
/-- infer.Make, (*maker).try. -/
noncomputable def callG (l : List (Nat × (List AV → AS → Option (AV × AS)))) : Nat → List AV → AS → Option (AV × AS) := evF Tryz.prog (hooks Tryz.prog) (fnL fsQ) (orcL ((8, guardedA Tryz.prog (callN l 12) (fnL fsQ) 100000 Tryz.f8) :: (49, guardedA Tryz.prog (callN l 12) (fnL fsQ) 100000 Tryz.f49) :: l)) 100000 260
noncomputable def oqG (l : List (Nat × (List AV → AS → Option (AV × AS)))) (f : Nat) : Option OQ := Bool.rec (motive := fun _ => Option OQ) (Bool.rec (motive := fun _ => Option OQ) (orcQ l f) (some (guardedQ Tryz.prog (cqN l 12) (fnL fsQ) 100000 Tryz.f49)) (Nat.beq f 49)) (some (guardedQ Tryz.prog (cqN l 12) (fnL fsQ) 100000 Tryz.f8)) (Nat.beq f 8)
noncomputable def cqG (l : List (Nat × (List AV → AS → Option (AV × AS)))) : CallQ := evQ Tryz.prog (fnL fsQ) (oqG l) 100000 260
theorem callG_ok [Tab] {l : List (Nat × (List AV → AS → Option (AV × AS)))} (hl : ∀ p ∈ l, OneOK Tryz.prog p.1 p.2) : CallOK Tryz.prog (callG l) :=
  evF_ok (hooks_ok mixedQ) fsQ_ok (orcL_ok (List.forall_mem_cons.2 ⟨guardedA_ok mixedQ (callN_ok hl 12) fsQ_ok Tryz.func8 (by rfl) (by rfl), List.forall_mem_cons.2 ⟨guardedA_ok mixedQ (callN_ok hl 12) fsQ_ok Tryz.func49 (by rfl) (by rfl), hl⟩⟩)) 260
theorem cqG_rel [Tab] (l : List (Nat × (List AV → AS → Option (AV × AS)))) : CallRel (callG l) (cqG l) := by
  refine evQ_ok (fun f => ?_) 260
  show OrcRel (cond (Nat.beq f 8) (some (guardedA Tryz.prog (callN l 12) (fnL fsQ) 100000 Tryz.f8)) (cond (Nat.beq f 49) (some (guardedA Tryz.prog (callN l 12) (fnL fsQ) 100000 Tryz.f49)) (orcL l f))) (oqG l f)
  unfold oqG
  cases Nat.beq f 8 with
  | true => exact guardedQ_ok (cqN_rel l 12)
  | false =>
    cases Nat.beq f 49 with
    | true => exact guardedQ_ok (cqN_rel l 12)
    | false => exact orcQ_rel l f
noncomputable def callR : Nat → List AV → AS → Option (AV × AS) := callG orcB
noncomputable def cqR : CallQ := cqG orcB
theorem callR_ok [Tab] (hT : EnvQ Tab.w0) : CallOK Tryz.prog callR := callG_ok (orcB_ok hT)
theorem cqR_rel [Tab] : CallRel callR cqR := cqG_rel orcB
end Go.Proofs.YtambgppdjlhdaaaGreatDoor


/-
  Closed calls, gone through by the kernel: what they answer.
-/
namespace Go.Proofs.YtambgppdjlhdaaaGreatDoor
open Go.RowKit
set_option maxRecDepth 1000000

noncomputable def eqIw0 : Mem := ⟨[], .mapp 0, [(0, .mapb [(.str [u8 95], .int .u8 (8), 0), (.str [u8 108, u8 101, u8 116], .int .u8 (3), 1), (.str [u8 114, u8 101, u8 99], .int .u8 (3), 2), (.str [u8 105, u8 110], .int .u8 (3), 3), (.str [u8 102, u8 117, u8 110], .int .u8 (3), 4), (.str [u8 105, u8 102], .int .u8 (3), 5), (.str [u8 116, u8 104, u8 101, u8 110], .int .u8 (3), 6), (.str [u8 101, u8 108, u8 115, u8 101], .int .u8 (3), 7), (.str [u8 109, u8 97, u8 116, u8 99, u8 104], .int .u8 (3), 8), (.str [u8 119, u8 105, u8 116, u8 104], .int .u8 (3), 9), (.str [u8 116, u8 114, u8 117, u8 101], .int .u8 (3), 10), (.str [u8 102, u8 97, u8 108, u8 115, u8 101], .int .u8 (3), 11), (.str [u8 109, u8 111, u8 100], .int .u8 (3), 12)] 13)], 2⟩
theorem eqIw0_run : memB' eqIw0 cqR 149 = true := by kernel_rfl
theorem eqIw0_ok [Tab] (hT : EnvQ Tab.w0) : MemOK Tryz.prog 149 eqIw0 := mem_ok (callR_ok hT) cqR_rel rfl eqIw0_run
end Go.Proofs.YtambgppdjlhdaaaGreatDoor


/-
  Closed calls, gone through by the kernel: function by function.
-/
namespace Go.Proofs.YtambgppdjlhdaaaGreatDoor
open Go.RowKit
set_option maxRecDepth 1000000

theorem eqIwL149_ok [Tab] (hT : EnvQ Tab.w0) : OneOK Tryz.prog 149 (memoA [eqIw0]) := memo_one (List.forall_mem_cons.2 ⟨eqIw0_ok hT, fun _ h => nomatch h⟩)
noncomputable def eqIwL149 : List Mem := [eqIw0]
end Go.Proofs.YtambgppdjlhdaaaGreatDoor


/-
  The quick machine at the program, over answers told beforehand.
-/
namespace Go.Proofs.YtambgppdjlhdaaaGreatDoor
open Go.RowKit
set_option maxRecDepth 1000000

noncomputable def orc1 : List (Nat × (List AV → AS → Option (AV × AS))) := (149, memoA eqIwL149) :: orcB
theorem orc1_ok [Tab] (hT : EnvQ Tab.w0) : ∀ p ∈ orc1, OneOK Tryz.prog p.1 p.2 :=
  List.forall_mem_cons.2 ⟨eqIwL149_ok hT, orcB_ok hT⟩
noncomputable def call1 : Nat → List AV → AS → Option (AV × AS) := callG orc1
noncomputable def cq1 : CallQ := cqG orc1
theorem call1_ok [Tab] (hT : EnvQ Tab.w0) : CallOK Tryz.prog call1 := callG_ok (orc1_ok hT)
theorem cq1_rel [Tab] : CallRel call1 cq1 := cqG_rel orc1
end Go.Proofs.YtambgppdjlhdaaaGreatDoor
