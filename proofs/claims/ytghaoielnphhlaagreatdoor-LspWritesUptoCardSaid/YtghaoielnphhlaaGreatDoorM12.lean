/-
  The walk of the document's twice: does a name stand twice, in a value or in one within?
-/
import Derived.Test.YtghaoielnphhlaaGreatDoorM01
import Derived.Test.YtghaoielnphhlaaGreatDoorM00
import Derived.Test.YtghaoielnphhlaaGreatDoorM11
import Derived.Lib.SlBytesRow
import Derived.Test.YtghaoielnphhlaaGreatDoorDecE
import Derived.Test.YtghaoielnphhlaaGreatDoorShelf
import Derived.Shelf.Unicode.ValidAny
namespace Go.Proofs.YtghaoielnphhlaaGreatDoor
open Go.RowKit

/-- No name stands twice among the first q. -/
def NoDup (n : List ByteArray) (q : Nat) : Prop := ∀ (i j : Nat) (x y : ByteArray), i < j → j < q → n[i]? = some x → n[j]? = some y → x ≠ y
/-- None of the first p is the q-th. -/
def NoneIs (n : List ByteArray) (_q p : Nat) (S : ByteArray) : Prop := ∀ (i : Nat) (x : ByteArray), i < p → n[i]? = some x → x ≠ S
theorem NoDup.step {n : List ByteArray} {q : Nat} {S : ByteArray} (h : NoDup n q) (hS : n[q]? = some S) (h2 : NoneIs n q q S) : NoDup n (q + 1) := fun i j x y hi hj e1 e2 => by
  by_cases hjq : j < q
  · exact h i j x y hi hjq e1 e2
  · have : j = q := by omega
    subst this
    rw [hS] at e2
    injection e2 with e2
    subst e2
    exact h2 i x hi e1
theorem NoneIs.step {n : List ByteArray} {q p : Nat} {S T : ByteArray} (h : NoneIs n q p S) (hT : n[p]? = some T) (hne : T ≠ S) : NoneIs n q (p + 1) S := fun i x hi e => by
  by_cases hip : i < p
  · exact h i x hip e
  · have : i = p := by omega
    subst this
    rw [hT] at e
    injection e with e
    subst e
    exact hne
end Go.Proofs.YtghaoielnphhlaaGreatDoor


/-
  The walks of the document's digit, Check and Print over JSON values, over contracts of form and text.
-/
namespace Go.Proofs.YtghaoielnphhlaaGreatDoor
open Go.RowKit

def FormSays (f : Nat) (F : Jsn → Bool) : Prop := ∀ (j : Jsn) (X : Nat → Prop) (w : World) (vn vl : Value), JV w X j vn vl → jbulk j ≤ 1000000 →
    Calls Tryz.prog f #[.agg #[.int .u8 j.kind, .string j.text, vn, vl]] w fun e w' => e = .returned (.bool (F j)) ∧ Below w.heap.size w w'
/-- The text of a value that may be (G): an Object has as many names as values. -/
def TextSays (f : Nat) (G : Jsn → Bool) (F : Jsn → List UInt8) : Prop := ∀ (j : Jsn) (X : Nat → Prop) (w : World) (vn vl : Value), JV w X j vn vl → jbulk j ≤ 1000000 → G j = true →
    Calls Tryz.prog f #[.agg #[.int .u8 j.kind, .string j.text, vn, vl]] w fun e w' => e = .returned (.string ⟨(F j).toArray⟩) ∧ Below w.heap.size w w'
end Go.Proofs.YtghaoielnphhlaaGreatDoor


/-
  The walks of the document's Put and bits.
-/
namespace Go.Proofs.YtghaoielnphhlaaGreatDoor
open Go.RowKit

def PutEnd (p : Int) (w : World) (e : Ending) (w' : World) : Prop := e = .returned (.string ⟨(rput p).toArray⟩) ∧ Below w.heap.size w w'
/-- bits, byte by byte. -/
def rbp (l : List UInt8) (h : Int) : Nat → Int
  | 0 => 0
  | 1 => ((l.getD 0 0).toNat : Int) - h
  | q + 2 => rbp l h (q + 1) * 64 + (l.getD (q + 1) 0).toNat - 128
end Go.Proofs.YtghaoielnphhlaaGreatDoor


/-
  The walks of the document's bits, Rune and Valid.
-/
namespace Go.Proofs.YtghaoielnphhlaaGreatDoor
open Go.RowKit

end Go.Proofs.YtghaoielnphhlaaGreatDoor


/-
  The walk of the document's form over JSON values, over contracts of a Number's own text and of a valid text.
-/
namespace Go.Proofs.YtghaoielnphhlaaGreatDoor
open Go.RowKit

def OwnSaysS (f : Nat) (Own : List UInt8 → List UInt8 × Int) : Prop := ∀ (s : ByteArray) (w : World), s.size ≤ 1000000 →
    Calls Tryz.prog f #[.string s] w fun e w' => e = .returned (.tuple #[.string ⟨(Own s.data.toList).1.toArray⟩, .int .i64 (Own s.data.toList).2]) ∧ Below w.heap.size w w'
def ValSays (f : Nat) (Val : List UInt8 → Bool) : Prop := ∀ (s : ByteArray) (w : World), s.size ≤ 1000000 →
    Calls Tryz.prog f #[.string s] w fun e w' => e = .returned (.bool (Val s.data.toList)) ∧ Below w.heap.size w w'

def FI (w wr : World) (A1 : Option Addr) (n c1 : Nat) (A : Option Addr) (m c : Nat) : Prop := w.heap.size < wr.heap.size ∧ wr.cell? ⟨w.heap.size, 2, none⟩ = some (.slice A1 n c1) ∧ wr.cell? ⟨w.heap.size, 3, none⟩ = some (.slice A m c) ∧ Below w.heap.size w wr
theorem FI.step {w wr w1 : World} {A1 : Option Addr} {n c1 : Nat} {A : Option Addr} {m c : Nat} (h : FI w wr A1 n c1 A m c) (hb : Below wr.heap.size wr w1) : FI w w1 A1 n c1 A m c := by
  obtain ⟨h1, h2, h3, h4⟩ := h
  exact ⟨Nat.lt_of_lt_of_le h1 hb.size, (hb.cell (p := ⟨w.heap.size, 2, none⟩) h1).trans h2, (hb.cell (p := ⟨w.heap.size, 3, none⟩) h1).trans h3, h4.trans (hb.mono (Nat.le_of_lt h1))⟩
end Go.Proofs.YtghaoielnphhlaaGreatDoor


/-
  The walks of the document's Rune and Valid: a text is valid just if the library says so.
-/
namespace Go.Proofs.YtghaoielnphhlaaGreatDoor
open Go.RowKit

def RuneEnd (l : List UInt8) (w : World) (e : Ending) (w' : World) : Prop := e = .returned (.tuple #[.int .i64 (rrune l).1, .int .i64 (rrune l).2]) ∧ Below w.heap.size w w'
/-- None of the first q - 1 counts is a character's. -/
def NoR (l : List UInt8) (q : Nat) : Prop := ∀ k, 1 ≤ k → k < q → k ≤ l.length → rok l k = false
theorem NoR.step {l : List UInt8} {q : Nat} (h : NoR l q) (hq : rok l q = false) : NoR l (q + 1) := fun k h1 h2 h3 => by
  by_cases e : k = q
  · subst e; exact hq
  · exact h k h1 (by omega) h3
end Go.Proofs.YtghaoielnphhlaaGreatDoor


/-
  The walks of utf.Valid, of slices.ContainsFunc over strings, and of json.form.
-/
namespace Go.Proofs.YtghaoielnphhlaaGreatDoor
open Go.RowKit

/-- What the calls ask of memory: the table of powers of ten, the two tables of utf8. -/
def EnvU (w : World) : Prop := Env w ∧ Lib.Utf8Tabs 0 1 w
theorem EnvU.below {w w' : World} (h : EnvU w) (hb : Below w.heap.size w w') : EnvU w' := by
  obtain ⟨h1, h2, h3⟩ := h
  exact ⟨h1.below hb, fun c hc => (hb.cell (World.block_lt_of_cell? w _ (h2 c hc))).trans (h2 c hc),
    fun i hi => ⟨(hb.cell (World.block_lt_of_cell? w _ (h3 i hi).1)).trans (h3 i hi).1, (hb.cell (World.block_lt_of_cell? w _ (h3 i hi).2)).trans (h3 i hi).2⟩⟩
theorem EnvU.at {w w' : World} {B : Nat} (h : EnvU w) (hB : w.heap.size ≤ B) (hb : Below B w w') : EnvU w' := h.below (hb.mono hB)

def ValEnd (b : Bool) (w : World) (e : Ending) (w' : World) : Prop := e = .returned (.bool b) ∧ Below w.heap.size w w'
/-- A function value that answers p of each of these strings. -/
def PredS (g : Nat) (p : ByteArray → Bool) (w : World) (l : List ByteArray) : Prop :=
  ∀ (W : World) (x : ByteArray), x ∈ l → Below w.heap.size w W → Calls Tryz.prog g #[.string x] W (ValEnd (p x) W)
end Go.Proofs.YtghaoielnphhlaaGreatDoor
