/-
  The walks of the document's Put and bits.
-/
import Derived.Test.YtlnkjacbdolhnaaGreatDoorJsV
import Derived.Test.YtlnkjacbdolhnaaGreatDoorJsO
import Derived.Lib.SlBytesRow
namespace Go.Proofs.YtlnkjacbdolhnaaGreatDoor
open Go.RowKit

def PutEnd (p : Int) (w : World) (e : Ending) (w' : World) : Prop := e = .returned (.string ⟨(rput p).toArray⟩) ∧ Below w.heap.size w w'
/-- bits, byte by byte. -/
def rbp (l : List UInt8) (h : Int) : Nat → Int
  | 0 => 0
  | 1 => ((l.getD 0 0).toNat : Int) - h
  | q + 2 => rbp l h (q + 1) * 64 + (l.getD (q + 1) 0).toNat - 128
end Go.Proofs.YtlnkjacbdolhnaaGreatDoor
