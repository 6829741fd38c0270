/-
  The walk of the document's text of a value that may be.
-/
import Derived.Test.YtghaoielnphhlaaGreatDoorM19
import Derived.Test.YtghaoielnphhlaaGreatDoorM12
import Derived.Test.YtghaoielnphhlaaGreatDoorM01
import Derived.Test.YtghaoielnphhlaaGreatDoorShelf
import Derived.Shelf.Strings.Builder1
import Derived.Maps.AppendAt
import Derived.Test.YtghaoielnphhlaaGreatDoorM10
namespace Go.Proofs.YtghaoielnphhlaaGreatDoor
open Go.RowKit

def nbulk (n : List ByteArray) : Nat := (n.map fun b => b.size + 1).sum
/-- The box of the value that the call was handed, behind calls and draws. -/
def Box (w : World) (k : Int) (s : ByteArray) (vn vl : Value) (W : World) : Prop := Cel W w.heap.size 25 #[.int .u8 k, .string s, vn, vl] ∧ Below w.heap.size w W
end Go.Proofs.YtghaoielnphhlaaGreatDoor


/-
  The walks of strings.Builder's WriteByte and WriteString at a builder of the call's own; what blocks they turn.
-/
namespace Go.Proofs.YtghaoielnphhlaaGreatDoor
open Go.RowKit

/-- Block k is the buffer of the builder in block b. -/
def IsBuf (w : World) (b k : Nat) : Prop := ∃ n c, w.cell? ⟨b, 1, none⟩ = some (.slice (some ⟨k, 0, none⟩) n c)
/-- The builder in block b, its first cell p, its buffer v, holds these bytes. -/
def BDv (w : World) (b : Nat) (p v : Value) (l : List UInt8) : Prop := w.heap[b]? = some (.cells #[p, v] 101 (0, 0)) ∧ RowB w 0 v l ∧ v.ownBlock ≠ some b
def BD (w : World) (b : Nat) (l : List UInt8) : Prop := ∃ p v, (p = .pointer none ∨ p = .pointer (some ⟨b, 0, none⟩)) ∧ BDv w b p v l
/-- From w to w' nothing was turned but the builder in block b, and its buffer. -/
structure Wr (b : Nat) (w w' : World) : Prop where
  os : w'.os = w.os
  tape : w'.tape = w.tape
  output : w'.output = w.output
  size : w.heap.size ≤ w'.heap.size
  block : ∀ k, k < w.heap.size → k ≠ b → ¬ IsBuf w b k → w'.heap[k]? = w.heap[k]?
  buf : ∀ k, IsBuf w' b k → w.heap.size ≤ k ∨ IsBuf w b k
theorem Wr.refl (b : Nat) (w : World) : Wr b w w := ⟨rfl, rfl, rfl, Nat.le_refl _, fun _ _ _ _ => rfl, fun _ h => .inr h⟩
theorem Wr.trans {b : Nat} {w w1 w2 : World} (h : Wr b w w1) (k : Wr b w1 w2) : Wr b w w2 :=
  ⟨k.os.trans h.os, k.tape.trans h.tape, k.output.trans h.output, Nat.le_trans h.size k.size,
    fun i hi hb hn => (k.block i (Nat.lt_of_lt_of_le hi h.size) hb (fun hh => (h.buf i hh).elim (fun e => by omega) hn)).trans (h.block i hi hb hn),
    fun i hi => (k.buf i hi).elim (fun e => .inl (Nat.le_trans h.size e)) (h.buf i)⟩
theorem Wr.cell {b : Nat} {w w' : World} (h : Wr b w w') {p : Addr} (hp : p.block < w.heap.size) (hb : p.block ≠ b) (hn : ¬ IsBuf w b p.block) : w'.cell? p = w.cell? p := by
  unfold World.cell?; rw [h.block _ hp hb hn]
theorem Wr.below {b : Nat} {w w' : World} (h : Below w.heap.size w w') (hb : b < w.heap.size) : Wr b w w' :=
  ⟨h.os, h.tape, h.output, h.size, fun k hk _ _ => h.block k hk, fun k ⟨n, c, e⟩ => .inr ⟨n, c, by rw [← e]; exact (h.cell (p := ⟨b, 1, none⟩) hb).symm⟩⟩
theorem BDv.cell1 {w : World} {b : Nat} {p v : Value} {l : List UInt8} (h : BDv w b p v l) : w.cell? ⟨b, 1, none⟩ = some v := by rw [Lib.cell_of_heap h.1]; rfl
theorem BDv.lt {w : World} {b : Nat} {p v : Value} {l : List UInt8} (h : BDv w b p v l) : b < w.heap.size := by
  rcases Nat.lt_or_ge b w.heap.size with h' | h'
  · exact h'
  · have := h.1; simp [Array.getElem?_eq_none h'] at this
theorem BD.lt {w : World} {b : Nat} {l : List UInt8} (h : BD w b l) : b < w.heap.size := by obtain ⟨p, v, _, h⟩ := h; exact h.lt
theorem own_buf {w : World} {v : Value} {l : List UInt8} (h : RowB w 0 v l) {k : Nat} : v.ownBlock = some k ↔ ∃ n c, v = .slice (some ⟨k, 0, none⟩) n c := by
  rcases h.2 with ⟨rfl, _⟩ | ⟨g, cap, cur, rfl, _⟩
  · simp [Value.ownBlock]
  · simp [Value.ownBlock]
theorem BDv.isBuf {w : World} {b : Nat} {p v : Value} {l : List UInt8} (h : BDv w b p v l) {k : Nat} : IsBuf w b k ↔ v.ownBlock = some k := by
  rw [own_buf h.2.1]
  unfold IsBuf
  rw [h.cell1]
  simp
/-- A builder stays what it is behind whatever turns neither it nor its buffer. -/
theorem BD.below {w w' : World} {b : Nat} {l : List UInt8} (h : BD w b l) (hb : Below w.heap.size w w') : BD w' b l := by
  obtain ⟨p, v, hp, h⟩ := h
  exact ⟨p, v, hp, (hb.block b h.lt).trans h.1, h.2.1.below hb, h.2.2⟩

/-- Behind copyCheck the builder bears its own address. -/
def CcEnd (b : Nat) (l : List UInt8) (w : World) (e : Ending) (w' : World) : Prop := e = .returned (.tuple #[]) ∧ (∃ v, BDv w' b (.pointer (some ⟨b, 0, none⟩)) v l) ∧ Wr b w w'
/-- What a write leaves. -/
def WrEnd (b : Nat) (l : List UInt8) (w w' : World) : Prop := BD w' b l ∧ Wr b w w'
end Go.Proofs.YtghaoielnphhlaaGreatDoor


/-
  The walks of json.marks and json.quote.
-/
namespace Go.Proofs.YtghaoielnphhlaaGreatDoor
open Go.RowKit

/-- What stands behind a backslash. -/
def markI (b : Int) : Int × Bool :=
  if b = 34 then (34, true) else if b = 92 then (92, true) else if b = 8 then (98, true) else if b = 12 then (102, true) else if b = 10 then (110, true) else if b = 13 then (114, true) else if b = 9 then (116, true) else (0, false)
def markIx (b : Int) : Int :=
  if b = 34 then 0 else if b = 92 then 1 else if b = 8 then 2 else if b = 12 then 3 else if b = 10 then 4 else if b = 13 then 5 else if b = 9 then 6 else -1
def MarkEnd (b : Int) (w : World) (e : Ending) (w' : World) : Prop := e = .returned (.tuple #[.int .u8 (markI b).1, .bool (markI b).2]) ∧ w' = w
def hexA : ByteArray := ⟨#[48, 49, 50, 51, 52, 53, 54, 55, 56, 57, 97, 98, 99, 100, 101, 102]⟩
end Go.Proofs.YtghaoielnphhlaaGreatDoor
