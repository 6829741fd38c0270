/-
  rostrumlaw05.JsonTexts answers true: works() by the kernel's run, the rest by the walk.
-/
import Derived.Test.YthmojpcaagnfkaaGreatDoorJsTexts
import Derived.Test.YthmojpcaagnfkaaGreatDoorEqJw
namespace Go.Proofs.YthmojpcaagnfkaaGreatDoor
open Go.RowKit

theorem jsonTexts_all (a b : Jsn) (X : Nat → Prop) (w : World) (va1 va2 vb1 vb2 : Value) (hE : EnvU w) (hVa : JV w X a va1 va2) (hVb : JV w X b vb1 vb2) (hba : jbulk a ≤ 10000000) (hbb : jbulk b ≤ 10000000) :
    Calls Tryz.prog 14 #[.agg #[.int .u8 a.kind, .string a.text, va1, va2], .agg #[.int .u8 b.kind, .string b.text, vb1, vb2]] w fun e w' => e = .returned (.bool true) ∧ Below w.heap.size w w' :=
  jsonTexts_any (fun w h => worksJ_all w ⟨h.1, h.2⟩) a b X w va1 va2 vb1 vb2 hE hVa hVb hba hbb
end Go.Proofs.YthmojpcaagnfkaaGreatDoor
