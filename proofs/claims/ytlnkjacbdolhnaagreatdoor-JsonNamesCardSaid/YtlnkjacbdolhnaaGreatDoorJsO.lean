/-
  The walks of the document's digit, Check and Print over JSON values, over contracts of form and text.
-/
import Derived.Test.YtlnkjacbdolhnaaGreatDoorJsN
import Derived.Test.YtlnkjacbdolhnaaGreatDoorJsR
namespace Go.Proofs.YtlnkjacbdolhnaaGreatDoor
open Go.RowKit

def FormSays (f : Nat) (F : Jsn → Bool) : Prop := ∀ (j : Jsn) (X : Nat → Prop) (w : World) (vn vl : Value), JV w X j vn vl → jbulk j ≤ 1000000 →
    Calls Tryz.prog f #[.agg #[.int .u8 j.kind, .string j.text, vn, vl]] w fun e w' => e = .returned (.bool (F j)) ∧ Below w.heap.size w w'
/-- A boxed value behind a call that makes memory. -/
theorem box_step {w W W' : World} {k : Int} {s : ByteArray} {vn vl : Value} (h : Cel W w.heap.size 25 #[.int .u8 k, .string s, vn, vl] ∧ Below w.heap.size w W) (hb : Below W.heap.size W W') : Cel W' w.heap.size 25 #[.int .u8 k, .string s, vn, vl] ∧ Below w.heap.size w W' :=
  ⟨h.1.below hb h.1.lt, h.2.trans (hb.mono (Nat.le_of_lt h.1.lt))⟩
theorem box_cells {W : World} {b : Nat} {k : Int} {s : ByteArray} {vn vl : Value} (h : Cel W b 25 #[.int .u8 k, .string s, vn, vl]) : W.cell? ⟨b, 0, none⟩ = some (.int .u8 k) ∧ W.cell? ⟨b, 1, none⟩ = some (.string s) ∧ W.cell? ⟨b, 2, none⟩ = some vn ∧ W.cell? ⟨b, 3, none⟩ = some vl :=
  ⟨h.cell 0, h.cell 1, h.cell 2, h.cell 3⟩
theorem check_form {Own : List UInt8 → List UInt8 × Int} {Val : List UInt8 → Bool} {j : Jsn} (h : jcheck Own Val j = 0) : jform Own Val j = true := by
  unfold jcheck at h
  by_cases h1 : 64 < jdeep j
  · rw [if_pos h1] at h; cases h
  rw [if_neg h1] at h
  by_cases h2 : 65536 < jcount j
  · rw [if_pos h2] at h; cases h
  rw [if_neg h2] at h
  by_cases h3 : jform Own Val j = false
  · rw [if_pos h3] at h; cases h
  · simpa using h3
/-- The text of a value that may be (G): an Object has as many names as values. -/
def TextSays (f : Nat) (G : Jsn → Bool) (F : Jsn → List UInt8) : Prop := ∀ (j : Jsn) (X : Nat → Prop) (w : World) (vn vl : Value), JV w X j vn vl → jbulk j ≤ 1000000 → G j = true →
    Calls Tryz.prog f #[.agg #[.int .u8 j.kind, .string j.text, vn, vl]] w fun e w' => e = .returned (.string ⟨(F j).toArray⟩) ∧ Below w.heap.size w w'
end Go.Proofs.YtlnkjacbdolhnaaGreatDoor
