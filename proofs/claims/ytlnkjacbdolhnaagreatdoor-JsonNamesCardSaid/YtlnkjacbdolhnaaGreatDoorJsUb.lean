/-
  The walks of the document's Rune and Valid: a text is valid just if the library says so.
-/
import Derived.Test.YtlnkjacbdolhnaaGreatDoorJsUa
import Derived.Test.YtlnkjacbdolhnaaGreatDoorJsQ
namespace Go.Proofs.YtlnkjacbdolhnaaGreatDoor
open Go.RowKit

theorem nonempty_f {s : ByteArray} (h : s ≠ ⟨#[]⟩) : s.toList.isEmpty = false := by
  rw [jtl_eq, empty_iff]; exact decide_eq_false h
def RuneEnd (l : List UInt8) (w : World) (e : Ending) (w' : World) : Prop := e = .returned (.tuple #[.int .i64 (rrune l).1, .int .i64 (rrune l).2]) ∧ Below w.heap.size w w'
/-- None of the first q - 1 counts is a character's. -/
def NoR (l : List UInt8) (q : Nat) : Prop := ∀ k, 1 ≤ k → k < q → k ≤ l.length → rok l k = false
theorem NoR.step {l : List UInt8} {q : Nat} (h : NoR l q) (hq : rok l q = false) : NoR l (q + 1) := fun k h1 h2 h3 => by
  by_cases e : k = q
  · subst e; exact hq
  · exact h k h1 (by omega) h3
end Go.Proofs.YtlnkjacbdolhnaaGreatDoor
