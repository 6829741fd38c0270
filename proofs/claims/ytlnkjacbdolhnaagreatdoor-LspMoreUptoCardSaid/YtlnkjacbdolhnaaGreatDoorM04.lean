/-
  The walk of the document's twice: does a name stand twice, in a value or in one within?
-/
import Derived.Test.YtlnkjacbdolhnaaGreatDoorJsB
import Derived.Test.YtlnkjacbdolhnaaGreatDoorM01
namespace Go.Proofs.YtlnkjacbdolhnaaGreatDoor
open Go.RowKit

/-- No name stands twice among the first q. -/
def NoDup (n : List ByteArray) (q : Nat) : Prop := ∀ (i j : Nat) (x y : ByteArray), i < j → j < q → n[i]? = some x → n[j]? = some y → x ≠ y
/-- None of the first p is the q-th. -/
def NoneIs (n : List ByteArray) (_q p : Nat) (S : ByteArray) : Prop := ∀ (i : Nat) (x : ByteArray), i < p → n[i]? = some x → x ≠ S
theorem NoDup.step {n : List ByteArray} {q : Nat} {S : ByteArray} (h : NoDup n q) (hS : n[q]? = some S) (h2 : NoneIs n q q S) : NoDup n (q + 1) := fun i j x y hi hj e1 e2 => by
  by_cases hjq : j < q
  · exact h i j x y hi hjq e1 e2
  · have : j = q := by omega
    subst this
    rw [hS] at e2
    injection e2 with e2
    subst e2
    exact h2 i x hi e1
theorem NoneIs.step {n : List ByteArray} {q p : Nat} {S T : ByteArray} (h : NoneIs n q p S) (hT : n[p]? = some T) (hne : T ≠ S) : NoneIs n q (p + 1) S := fun i x hi e => by
  by_cases hip : i < p
  · exact h i x hip e
  · have : i = p := by omega
    subst this
    rw [hT] at e
    injection e with e
    subst e
    exact hne
end Go.Proofs.YtlnkjacbdolhnaaGreatDoor


/-
  The walks of the document's digit, Check and Print over JSON values, over contracts of form and text.
-/
namespace Go.Proofs.YtlnkjacbdolhnaaGreatDoor
open Go.RowKit

def FormSays (f : Nat) (F : Jsn → Bool) : Prop := ∀ (j : Jsn) (X : Nat → Prop) (w : World) (vn vl : Value), JV w X j vn vl → jbulk j ≤ 1000000 →
    Calls Tryz.prog f #[.agg #[.int .u8 j.kind, .string j.text, vn, vl]] w fun e w' => e = .returned (.bool (F j)) ∧ Below w.heap.size w w'
/-- The text of a value that may be (G): an Object has as many names as values. -/
def TextSays (f : Nat) (G : Jsn → Bool) (F : Jsn → List UInt8) : Prop := ∀ (j : Jsn) (X : Nat → Prop) (w : World) (vn vl : Value), JV w X j vn vl → jbulk j ≤ 1000000 → G j = true →
    Calls Tryz.prog f #[.agg #[.int .u8 j.kind, .string j.text, vn, vl]] w fun e w' => e = .returned (.string ⟨(F j).toArray⟩) ∧ Below w.heap.size w w'
end Go.Proofs.YtlnkjacbdolhnaaGreatDoor
