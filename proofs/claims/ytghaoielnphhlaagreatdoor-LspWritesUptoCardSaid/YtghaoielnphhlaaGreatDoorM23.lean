/-
  The walk of the JSON reader's escape.
-/
import Derived.Test.YtghaoielnphhlaaGreatDoorM22
namespace Go.Proofs.YtghaoielnphhlaaGreatDoor
open Go.RowKit

/-- The tables, laid ahead of the reader's block. -/
def EnvB (b : Nat) (w : World) : Prop := ∃ W0, EnvC W0 ∧ W0.heap.size ≤ b ∧ Below W0.heap.size W0 w
theorem EnvB.env {b : Nat} {w : World} (h : EnvB b w) : EnvC w := by
  obtain ⟨W0, h1, _, h3⟩ := h
  exact h1.below h3
theorem EnvB.but {b : Nat} {w w' : World} (h : EnvB b w) (hb : But w.heap.size b w w') : EnvB b w' := by
  obtain ⟨W0, h1, h2, h3⟩ := h
  exact ⟨W0, h1, h2, h3.trans (hb.below h2 h3.size)⟩
theorem EnvB.below {b : Nat} {w w' : World} (h : EnvB b w) (hb : Below w.heap.size w w') : EnvB b w' := h.but (But.of hb)
def EscEnd (b it : Nat) (w : World) (R : Option (List UInt8 × List UInt8)) (e : Ending) (w' : World) : Prop := But w.heap.size b w w' ∧ (match R with | none => e = Pan 4 | some (t, r) => e = .returned (.string (ofL t)) ∧ RJ w' b r it)
def mkOK (c : UInt8) : Bool := match jmark c with
  | some m => decide (0 ≤ Lib.indexByte [34, 92, 98, 102, 110, 114, 116] c) && decide (Lib.indexByte [34, 92, 98, 102, 110, 114, 116] c < 7) && decide (([34, 92, 8, 12, 10, 13, 9] : List UInt8).getD (Lib.indexByte [34, 92, 98, 102, 110, 114, 116] c).toNat 0 = m)
  | none => decide (Lib.indexByte [34, 92, 98, 102, 110, 114, 116] c = -1)
end Go.Proofs.YtghaoielnphhlaaGreatDoor


/-
  The walk of the JSON reader's text.
-/
namespace Go.Proofs.YtghaoielnphhlaaGreatDoor
open Go.RowKit

/-- How much is left. -/
def lenAt (w : World) (b : Nat) : Nat := match w.cell? ⟨b, 0, none⟩ with
  | some (.string S) => S.size
  | _ => 0
/-- A String, from its first quote on. -/
def jtxt (s : List UInt8) : Option (List UInt8 × List UInt8) := match s with
  | 34 :: r => jStr Lib.validD [] r
  | _ => none
theorem EnvB.bel {b B : Nat} {w w' : World} (h : EnvB b w) (hb : Below B w w') (hlt : b < B) : EnvB b w' := by
  obtain ⟨W0, h1, h2, h3⟩ := h
  exact ⟨W0, h1, h2, h3.trans (hb.mono (by omega))⟩
/-- What a round of text knows. -/
def TxtI (b it B bb : Nat) (w : World) (R : Option (List UInt8 × List UInt8)) (wr : World) : Prop :=
  ∃ acc s' : List UInt8, OB B wr bb acc ∧ RJ wr b s' it ∧ But B b w wr ∧ EnvB b wr ∧ jStr Lib.validD acc s' = R ∧ acc.length + s'.length ≤ 1000000
end Go.Proofs.YtghaoielnphhlaaGreatDoor
