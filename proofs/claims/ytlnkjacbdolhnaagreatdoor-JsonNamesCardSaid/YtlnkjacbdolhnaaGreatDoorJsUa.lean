/-
  The walks of the document's bits, Rune and Valid.
-/
import Derived.Test.YtlnkjacbdolhnaaGreatDoorJsU
import Derived.Test.YtlnkjacbdolhnaaGreatDoorM00
namespace Go.Proofs.YtlnkjacbdolhnaaGreatDoor
open Go.RowKit

theorem getD_at (s : ByteArray) (k : Nat) (h : k < s.size) : s.data.toList.getD k 0 = s[k] := by
  rw [List.getD_eq_getElem?_getD, bytes_at s k h]; rfl
end Go.Proofs.YtlnkjacbdolhnaaGreatDoor
