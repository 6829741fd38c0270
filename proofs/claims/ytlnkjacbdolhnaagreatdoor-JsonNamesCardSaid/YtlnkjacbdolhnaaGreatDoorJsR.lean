/-
  The walks of the document's Count and Deep.
-/
import Derived.Test.YtlnkjacbdolhnaaGreatDoorM07
import Derived.Test.YtlnkjacbdolhnaaGreatDoorProg
import Derived.Tactics
import Derived.Tactics2
import Derived.WalkKit
import Derived.LoopTactic
import Derived.KernelRfl
import Derived.Handy
namespace Go.Proofs.YtlnkjacbdolhnaaGreatDoor
open Go.RowKit

theorem four_cells {w : World} {g o i : Nat} {z : JE} (h : ∀ (q : Nat) (u : Value), (encJ z)[q]? = some u → w.cell? ⟨g, o + i * 4 + q, none⟩ = some u) :
    w.cell? ⟨g, o + i * 4, none⟩ = some (.int .u8 z.1.kind) ∧ w.cell? ⟨g, o + i * 4 + 1, none⟩ = some (.string z.1.text) ∧ w.cell? ⟨g, o + i * 4 + 2, none⟩ = some z.2.1 ∧ w.cell? ⟨g, o + i * 4 + 3, none⟩ = some z.2.2 :=
  ⟨h 0 _ rfl, h 1 _ rfl, h 2 _ rfl, h 3 _ rfl⟩
/-- The value at a place of the list, and its four cells, in a world that has grown. -/
theorem JV.at {w wr : World} {X : Nat → Prop} {zs : List JE} {A : Option Addr} (h2 : ∀ z ∈ zs, JV w X z.1 z.2.1 z.2.2)
    (h3 : 0 < zs.length → ∃ g o, A = some ⟨g, o, none⟩ ∧ X g ∧ g < w.heap.size ∧ ∀ j z, zs[j]? = some z → ∀ (i : Nat) (u : Value), (encJ z)[i]? = some u → w.cell? ⟨g, o + j * 4 + i, none⟩ = some u)
    (hB : Below w.heap.size w wr) {i : Nat} (hi : i < zs.length) :
    ∃ g o z, zs[i]? = some z ∧ z ∈ zs ∧ A = some ⟨g, o, none⟩ ∧ JV wr X z.1 z.2.1 z.2.2 ∧ wr.cell? ⟨g, o + i * 4, none⟩ = some (.int .u8 z.1.kind) ∧ wr.cell? ⟨g, o + i * 4 + 1, none⟩ = some (.string z.1.text) ∧ wr.cell? ⟨g, o + i * 4 + 2, none⟩ = some z.2.1 ∧ wr.cell? ⟨g, o + i * 4 + 3, none⟩ = some z.2.2 := by
  obtain ⟨g, o, q1, _, q3, q4⟩ := h3 (by omega)
  have hz : zs[i]? = some zs[i] := List.getElem?_eq_getElem hi
  have hm : zs[i] ∈ zs := List.getElem_mem hi
  obtain ⟨c0, c1, c2, c3⟩ := four_cells (q4 i _ hz)
  exact ⟨g, o, zs[i], hz, hm, q1, (h2 _ hm).later hB, (hB.cell (p := ⟨g, o + i * 4, none⟩) q3).trans c0, (hB.cell (p := ⟨g, o + i * 4 + 1, none⟩) q3).trans c1, (hB.cell (p := ⟨g, o + i * 4 + 2, none⟩) q3).trans c2, (hB.cell (p := ⟨g, o + i * 4 + 3, none⟩) q3).trans c3⟩
end Go.Proofs.YtlnkjacbdolhnaaGreatDoor
