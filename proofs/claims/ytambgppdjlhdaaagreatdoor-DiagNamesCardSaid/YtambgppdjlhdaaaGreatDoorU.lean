/-
  Words for memory, of no program: a block that is known whole; what of it stays behind draws, new blocks, stores and calls.
-/
import Derived.Below
import Derived.Lib.Hide
import Derived.Laws.OwnMore
import Derived.Deep.Draws
import Derived.Laws.Rows
import Derived.WalkKit
namespace Go.Proofs.YtambgppdjlhdaaaGreatDoor
open Go.RowKit

/-- Block b is just these cells of type t, none of them frozen. -/
def Cel (w : World) (b : Nat) (t : TypeId) (cs : Array Value) : Prop := w.heap[b]? = some (.cells cs t (0, 0))

section
variable {w w' : World} {b : Nat} {t : TypeId} {cs : Array Value}

theorem Cel.lt (h : Cel w b t cs) : b < w.heap.size := by
  rcases Nat.lt_or_ge b w.heap.size with h1 | h1
  · exact h1
  · unfold Cel at h
    rw [Array.getElem?_eq_none h1] at h
    cases h
theorem Cel.cell (h : Cel w b t cs) (i : Nat) : w.cell? ⟨b, i, none⟩ = cs[i]? := by
  unfold Cel at h
  simp [World.cell?, h]
theorem Cel.froz (h : Cel w b t cs) (i : Nat) : w.frozen? ⟨b, i, none⟩ = false := by
  unfold Cel at h
  simp [World.frozen?, h]
theorem Cel.fresh (w : World) (t : TypeId) (cs : Array Value) : Cel (w.alloc (.cells cs t)) w.heap.size t cs := by
  unfold Cel
  show (w.heap.push _)[w.heap.size]? = _
  simp
theorem Cel.drew (h : Cel w b t cs) : Cel w.drew b t cs := h
theorem Cel.drewN (h : Cel w b t cs) (n : Nat) : Cel (w.drewN n) b t cs := h
theorem Cel.alloc (h : Cel w b t cs) (o : Obj) : Cel (w.alloc o) b t cs := (Below.heap_alloc w o b h.lt).trans h
theorem Cel.set (h : Cel w b t cs) (i : Nat) (u : Value) : Cel (w.setCell ⟨b, i, none⟩ u) b t (cs.setIfInBounds i u) := by
  unfold Cel at h ⊢
  simp [World.setCell, Array.getElem?_modify, h]
theorem Cel.away (h : Cel w b t cs) {p : Addr} (hp : b ≠ p.block) (u : Value) : Cel (w.setCell p u) b t cs := (Below.heap_setCell w p u b hp).trans h
theorem Cel.below {B : Nat} (h : Cel w b t cs) (hb : Below B w w') (hg : b < B) : Cel w' b t cs := (hb.block b hg).trans h
end

/-- The facts that a walk asks of a block of three cells. -/
theorem Cel.three {w : World} {b : Nat} {t : TypeId} {x y z : Value} (h : Cel w b t #[x, y, z]) :
    w.cell? ⟨b, 0, none⟩ = some x ∧ w.cell? ⟨b, 1, none⟩ = some y ∧ w.cell? ⟨b, 2, none⟩ = some z ∧
    w.frozen? ⟨b, 0, none⟩ = false ∧ w.frozen? ⟨b, 1, none⟩ = false ∧ w.frozen? ⟨b, 2, none⟩ = false :=
  ⟨h.cell 0, h.cell 1, h.cell 2, h.froz 0, h.froz 1, h.froz 2⟩
/-- A block of three cells that has been written over, cell by cell. -/
theorem Cel.over3 {w : World} {b : Nat} {t : TypeId} {x y z x' y' z' : Value} (h : Cel w b t #[x, y, z]) :
    Cel (((w.setCell ⟨b, 0, none⟩ x').setCell ⟨b, 1, none⟩ y').setCell ⟨b, 2, none⟩ z') b t #[x', y', z'] := ((h.set 0 x').set 1 y').set 2 z'
theorem bel_drewN {B : Nat} {a w : World} (h : Below B a w) (n : Nat) : Below B a (w.drewN n) := ⟨h.os, h.tape, h.output, h.size, h.block⟩

/-- A frame read back as a function of its slots: what a cut's relation asks. -/
theorem meetF {a : Act} {F : (Nat → Value) → Array Value} {X : Prop} (h1 : a = ⟨F (fun k => a.tmps.getD k undef), []⟩) (h2 : X) : ∃ u, a = ⟨F u, []⟩ ∧ X := ⟨_, h1, h2⟩
end Go.Proofs.YtambgppdjlhdaaaGreatDoor
