/-
  The walks of the document's bits, Rune and Valid.
-/
import Derived.Test.YtlnkjacbdolhnaaGreatDoorJsU
import Derived.Test.YtlnkjacbdolhnaaGreatDoorM00
namespace Go.Proofs.YtlnkjacbdolhnaaGreatDoor
open Go.RowKit

end Go.Proofs.YtlnkjacbdolhnaaGreatDoor
