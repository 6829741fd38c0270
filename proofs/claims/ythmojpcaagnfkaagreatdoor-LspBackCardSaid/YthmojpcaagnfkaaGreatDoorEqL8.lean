/-
  rostrumlaw08.awake answers true: the run, gone through by the kernel; lsp.Decode, that loops over a map, by the plain machine.
-/
import Derived.Test.YthmojpcaagnfkaaGreatDoorEqO
namespace Go.Proofs.YthmojpcaagnfkaaGreatDoor
open Go.RowKit
set_option maxRecDepth 1000000

noncomputable def callD8 : Nat → List AV → AS → Option (AV × AS) := evF Tryz.prog (hooks Tryz.prog) (fnL fsQ) (orcL orcB) 100000 60
theorem one_of_call [Tab] {P : Program} {call : Nat → List AV → AS → Option (AV × AS)} (hc : CallOK P call) {f : Nat} {fn : Func} (hf : P.funcs[f]? = some fn) (hb : fn.body.isNone = false) (hn : (fn.name == "runtime.NumGoroutine") = false) : OneOK P f (call f) :=
  ⟨⟨fn, hf, hb, hn⟩, fun args s v s' he hp => hc.calls f args s v s' he hp, fun args s u s' he => hc.pans f args s u s' he⟩
noncomputable def orc8 : List (Nat × (List AV → AS → Option (AV × AS))) := (19, callD8 19) :: orcB
theorem orc8_ok [Tab] (hT : EnvQ Tab.w0) : ∀ p ∈ orc8, OneOK Tryz.prog p.1 p.2 :=
  List.forall_mem_cons.2 ⟨one_of_call (evF_ok (hooks_ok mixedQ) fsQ_ok (orcL_ok (orcB_ok hT)) 60) Tryz.func19 (by rfl) (by rfl), orcB_ok hT⟩
noncomputable def cq8 : CallQ := evQ Tryz.prog (fnL fsQ) (orcQ orc8) 100000 100
theorem awake8_run : isTrueQ (cq8 23 [] AS.nil trueK) = true := by kernel_rfl
theorem awake8_all (w : World) (hE : EnvQ w) : Calls Tryz.prog 23 #[] w fun e w' => e = .returned (.bool true) ∧ Below w.heap.size w w' := by
  letI : Tab := ⟨w⟩
  exact closed_trueQ (evF_ok (hooks_ok mixedQ) fsQ_ok (orcL_ok (orc8_ok hE)) 100) (evQ_ok (orcQ_rel orc8) 100) awake8_run w (Below.refl _ _)
end Go.Proofs.YthmojpcaagnfkaaGreatDoor
