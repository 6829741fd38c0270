/-
  The walk of json.Parse.
-/
import Derived.Test.YtlnkjacbdolhnaaGreatDoorJpN
import Derived.Defers
import Derived.Recover
namespace Go.Proofs.YtlnkjacbdolhnaaGreatDoor
open Go.RowKit

theorem assertE (c : Int) (w : World) : (Instr.typeAssert (.iface 33 (.int .i64 c)) 20 33 true).run Tryz.prog w = .ok (.tuple #[.int .i64 c, .bool true]) w := by kernel_rfl
theorem assertN (w : World) : (Instr.typeAssert .nilIface 20 33 true).run Tryz.prog w = .ok (.tuple #[.int .i64 0, .bool false]) w := by kernel_rfl
set_option maxRecDepth 100000 in
/-- What the deferred closure does where a number was thrown. -/
theorem parseD_pan (A : Nat) (c y : Int) (x0 x1 x2 x3 : Value) (w : World) (hC : Cel w A 25 #[x0, x1, x2, x3]) (hE : Cel w (A + 1) 33 #[.int .i64 y]) :
    CallsD Tryz.prog 33 #[.pointer (some ⟨A, 0, none⟩), .pointer (some ⟨A + 1, 0, none⟩)] (.panicking [{ v := .iface 33 (.int .i64 c), recovered := false }]) w fun e u' w' =>
      e = .returned (.tuple #[]) ∧ u' = .panicking [{ v := .iface 33 (.int .i64 c), recovered := true }] ∧ w' = (lay4 w A 0 (.int .u8 0) (.string ⟨#[]⟩) (.slice none 0 0) (.slice none 0 0)).setCell ⟨A + 1, 0, none⟩ (.int .i64 c) := by
  have a0 := hC.cell 0
  have a1 := hC.cell 1
  have a2 := hC.cell 2
  have a3 := hC.cell 3
  have f0 := hC.froz 0
  have f1 := hC.froz 1
  have f2 := hC.froz 2
  have f3 := hC.froz 3
  have b0 := hE.cell 0
  have g0 := hE.froz 0
  simp only [List.getElem?_toArray, List.getElem?_cons_zero, List.getElem?_cons_succ] at a0 a1 a2 a3 b0
  refine callsD_of_wpS Tryz.func33 rfl fun c₀ cs hu => ?_
  apply wpS_seq
  apply wpS_region
  have hta := assertE c
  simp [wpOpsS, go_sem, recoverD, hu, Tryz.ntmps33, Exit.thenS, hta]
  apply wpS_seq
  apply wpS_region
  simp [wpOpsS, go_sem, Exit.thenS]
  refine wpS_cond (t := true) (by simp [Act.eval, Array.replicate]) ?_
  simp only [if_true]
  apply wpS_region
  unfold lay4
  simp [wpOpsS, go_sem, a0, a1, a2, a3, b0, f0, f1, f2, f3, g0, bodyPostS, results, Tryz.results33]
/-- What it does where nothing was thrown. -/
theorem parseD_idle (A : Nat) (w : World) : CallsD Tryz.prog 33 #[.pointer (some ⟨A, 0, none⟩), .pointer (some ⟨A + 1, 0, none⟩)] .returning w fun e u' w' => e = .returned (.tuple #[]) ∧ u' = .returning ∧ w' = w := by
  refine callsD_of_wpS Tryz.func33 rfl fun c₀ cs hu => ?_
  apply wpS_seq
  apply wpS_region
  have hta := assertN
  simp [wpOpsS, go_sem, recoverD, hu, Tryz.ntmps33, Exit.thenS, hta]
  apply wpS_seq
  apply wpS_region
  simp [wpOpsS, go_sem, Exit.thenS]
  refine wpS_cond (t := false) (by simp [Act.eval, Array.replicate]) ?_
  simp only [Bool.false_eq_true, if_false]
  refine wpS_of_wp (wp_skip ?_)
  cases c₀
  simp_all [bodyPostS, results, Tryz.results33]
end Go.Proofs.YtlnkjacbdolhnaaGreatDoor
