/-
  rostrumlaw28.StateNames answers true: the run, gone through by the kernel; json.Parse with its deferred closure; lsp.Decode, that loops over a map, by the plain machine.
-/
import Derived.Test.YtoimnfnndgcieabGreatDoorEqO
namespace Go.Proofs.YtoimnfnndgcieabGreatDoor
open Go.RowKit
set_option maxRecDepth 1000000

noncomputable def callD8 : Nat → List AV → AS → Option (AV × AS) := evF Tryz.prog (hooks Tryz.prog) (fnL fsQ) (orcL orcB) 100000 60
theorem one_of_call [Tab] {P : Program} {call : Nat → List AV → AS → Option (AV × AS)} (hc : CallOK P call) {f : Nat} {fn : Func} (hf : P.funcs[f]? = some fn) (hb : fn.body.isNone = false) (hn : (fn.name == "runtime.NumGoroutine") = false) : OneOK P f (call f) :=
  ⟨⟨fn, hf, hb, hn⟩, fun args s v s' he hp => hc.calls f args s v s' he hp, fun args s u s' he => hc.pans f args s u s' he⟩
/-- How often a byte stands in a text. -/
noncomputable def countA (args : List AV) (s : AS) : Option (AV × AS) := match args with
  | [.str l, .str [c]] => some (.int .i64 (Lib.countByte l c), s)
  | _ => none
theorem countA_ok [Tab] : OneOK Tryz.prog 195 countA := by
  refine ⟨⟨_, Tryz.func195, by rfl, by rfl⟩, fun args s v s' he _ E w xs h hf hv => ?_, fun args s u s' he => ?_⟩
  · unfold countA at he
    split at he
    · rename_i l c
      injection he with he
      injection he with e1 e2
      subst e1
      subst e2
      obtain ⟨x, y, rfl, hx, hy⟩ := two_arg hv
      cases hx
      cases hy
      exact callEnd_below h (.int _ _) ((Tryz.strings_Count_one ⟨l.toArray⟩ c w).mono fun e w' hq => ⟨by simpa using hq.1, by rw [hq.2]; exact Below.refl _ _⟩)
    · cases he
  · unfold countA at he
    split at he <;> cases he
noncomputable def orcS8 : List (Nat × (List AV → AS → Option (AV × AS))) := (36, callD8 36) :: (195, countA) :: orcB
theorem orcS8_ok [Tab] (hT : EnvQ Tab.w0) : ∀ p ∈ orcS8, OneOK Tryz.prog p.1 p.2 :=
  List.forall_mem_cons.2 ⟨one_of_call (evF_ok (hooks_ok mixedQ) fsQ_ok (orcL_ok (orcB_ok hT)) 60) Tryz.func36 (by rfl) (by rfl), List.forall_mem_cons.2 ⟨countA_ok, orcB_ok hT⟩⟩
noncomputable def oqS (f : Nat) : Option OQ := Bool.rec (motive := fun _ => Option OQ) (orcQ orcS8 f) (some (guardedQ Tryz.prog cq0 (fnL fsQ) 100000 Tryz.f10)) (Nat.beq f 10)
theorem oqS_rel [Tab] (f : Nat) : OrcRel (orcL (parseO :: orcS8) f) (oqS f) := by
  show OrcRel (cond (Nat.beq f 10) (some parseO.2) (orcL orcS8 f)) (Bool.rec (motive := fun _ => Option OQ) (orcQ orcS8 f) (some (guardedQ Tryz.prog cq0 (fnL fsQ) 100000 Tryz.f10)) (Nat.beq f 10))
  cases Nat.beq f 10 with
  | true => exact guardedQ_ok cq0_rel
  | false => exact orcQ_rel orcS8 f
noncomputable def callS : Nat → List AV → AS → Option (AV × AS) := evF Tryz.prog (hooks Tryz.prog) (fnL fsQ) (orcL (parseO :: orcS8)) 100000 260
noncomputable def cqS : CallQ := evQ Tryz.prog (fnL fsQ) oqS 100000 260
theorem callS_ok [Tab] (hT : EnvQ Tab.w0) : CallOK Tryz.prog callS := evF_ok (hooks_ok mixedQ) fsQ_ok (orcL_ok (List.forall_mem_cons.2 ⟨parseO_ok hT, orcS8_ok hT⟩)) 260
theorem cqS_rel [Tab] : CallRel callS cqS := evQ_ok oqS_rel 260
end Go.Proofs.YtoimnfnndgcieabGreatDoor
