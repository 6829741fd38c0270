/-
  The walk of the document's form over JSON values, over contracts of a Number's own text and of a valid text.
-/
import Derived.Test.YtlnkjacbdolhnaaGreatDoorM04
namespace Go.Proofs.YtlnkjacbdolhnaaGreatDoor
open Go.RowKit

def OwnSaysS (f : Nat) (Own : List UInt8 → List UInt8 × Int) : Prop := ∀ (s : ByteArray) (w : World), s.size ≤ 1000000 →
    Calls Tryz.prog f #[.string s] w fun e w' => e = .returned (.tuple #[.string ⟨(Own s.data.toList).1.toArray⟩, .int .i64 (Own s.data.toList).2]) ∧ Below w.heap.size w w'
def ValSays (f : Nat) (Val : List UInt8 → Bool) : Prop := ∀ (s : ByteArray) (w : World), s.size ≤ 1000000 →
    Calls Tryz.prog f #[.string s] w fun e w' => e = .returned (.bool (Val s.data.toList)) ∧ Below w.heap.size w w'

def FI (w wr : World) (A1 : Option Addr) (n c1 : Nat) (A : Option Addr) (m c : Nat) : Prop := w.heap.size < wr.heap.size ∧ wr.cell? ⟨w.heap.size, 2, none⟩ = some (.slice A1 n c1) ∧ wr.cell? ⟨w.heap.size, 3, none⟩ = some (.slice A m c) ∧ Below w.heap.size w wr
theorem FI.step {w wr w1 : World} {A1 : Option Addr} {n c1 : Nat} {A : Option Addr} {m c : Nat} (h : FI w wr A1 n c1 A m c) (hb : Below wr.heap.size wr w1) : FI w w1 A1 n c1 A m c := by
  obtain ⟨h1, h2, h3, h4⟩ := h
  exact ⟨Nat.lt_of_lt_of_le h1 hb.size, (hb.cell (p := ⟨w.heap.size, 2, none⟩) h1).trans h2, (hb.cell (p := ⟨w.heap.size, 3, none⟩) h1).trans h3, h4.trans (hb.mono (Nat.le_of_lt h1))⟩
end Go.Proofs.YtlnkjacbdolhnaaGreatDoor
