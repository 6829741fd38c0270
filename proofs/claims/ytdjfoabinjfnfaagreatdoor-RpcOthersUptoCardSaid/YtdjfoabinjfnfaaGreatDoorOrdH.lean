/-
  A region that draws its order, kept under one condition S: one operation alone, one taken first, one that is not wanted. No program.
-/
import Derived.OrdersHeld
import Derived.Deep.RegionHeld
import Derived.Test.YtdjfoabinjfnfaaGreatDoorM00
namespace Go.Proofs.YtdjfoabinjfnfaaGreatDoor
open Go.RowKit
theorem Cel.rng {w : World} {b : Nat} {t : TypeId} {l : List Value} (h : Cel w b t l.toArray) : w.rangeAt b 0 l := fun j v hv => by rw [h.cell]; simpa using hv
section
variable {P : Program} {ops : Array Oper} {Q : Exit → Act → World → Prop} {md : Region.Mode} {S : World → Prop}
theorem hOne {i : Nat} {o : Oper} {fuel : Nat} {listed : Array Bool} {a : Act} {w : World} (hr : Region.ready md ops listed = [i]) (ho' : ops.toList[i]? = some o)
    (h : ∀ K' : Act → World → Prop, Shut (∀ a w, S w → wpAnyH P md ops Q S fuel (listed.setIfInBounds i true) a w → K' a w) → if Region.wanted o (yielded ops a.tmps) = true then Oper.wp P o a w K' Q else K' (a.put o.dst undef) w) : wpAnyH P md ops Q S (fuel + 1) listed a w :=
  wpAnyH_ready hr (by simp) (AllReadyH.cons (by rw [← Array.getElem?_toList]; exact ho') (fun K' hK => h K' (fun a w hS hW => hK.out a w hS (fun _ => hW))) AllReadyH.nil)
theorem hTake {i : Nat} {oi : Oper} {v : Value} {fuel : Nat} {listed : Array Bool} {a : Act} {w : World} (hi : ops.toList[i]? = some oi)
    (hs : Region.noSelect ops = true) (hf : Region.free md ops listed i = true) (hr : (Region.ready md ops listed).contains i = true)
    (hQ : ∀ c a w, Q (.panic c) (a.put oi.dst v) w → Q (.panic c) a w) (hy : YieldsIf P ops S oi v a) (hS : S w)
    (h : wpAnyH P md ops Q S fuel (listed.setIfInBounds i true) (a.put oi.dst v) w) : wpAnyH P md ops Q S (fuel + 1) listed a w :=
  wpAnyH_take (by rw [← Array.getElem?_toList]; exact hi) hs hf hr hQ hy hS h
end
end Go.Proofs.YtdjfoabinjfnfaaGreatDoor
