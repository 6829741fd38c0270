/-
  Four hex digits, by way of strings.ToLower. No program.
-/
import Derived.Test.YtlnkjacbdolhnaaGreatDoorM15
import Derived.Lib.MapLaws
import Derived.Lib.TrimAscii
import Derived.Shelf.Strings.CaseAny
import Derived.Test.YtlnkjacbdolhnaaGreatDoorJsQ
import Derived.Lib.SlBytesRow
import Derived.Lib.AppendStr
import Derived.Test.YtlnkjacbdolhnaaGreatDoorM00
import Derived.Test.YtlnkjacbdolhnaaGreatDoorShelf
import Derived.Shelf.Strings.Builder1
import Derived.Maps.AppendAt
import Derived.Test.YtlnkjacbdolhnaaGreatDoorM03
import Derived.Test.YtlnkjacbdolhnaaGreatDoorJsUa
import Derived.Test.YtlnkjacbdolhnaaGreatDoorM10
namespace Go.Proofs.YtlnkjacbdolhnaaGreatDoor

/-- The place of a byte among the digits of escapes. -/
def jhl (c : UInt8) : Option Nat := if 48 ≤ c.toNat ∧ c.toNat ≤ 57 then some (c.toNat - 48) else if 97 ≤ c.toNat ∧ c.toNat ≤ 102 then some (c.toNat - 87) else none
def hexL : Nat → List UInt8 → Option Nat
  | n, [] => some n
  | n, c :: r => match jhl c with
    | none => none
    | some k => hexL (n * 16 + k) r
def hexV : Nat → List UInt8 → Option Nat
  | n, [] => some n
  | n, c :: r => match jhv c with
    | none => none
    | some k => hexV (n * 16 + k) r
def lowOf (c : UInt8) : UInt8 := Lib.lowerB c
/-- Of each row of the table: a rune from 128 on becomes none of the digits. -/
def rowHex (x : Lib.CaseRow) : Bool :=
  decide (x.2.1 < 128) || (decide (128 ≤ x.1) && (decide (x.delta 1 > 1114111) || decide (128 ≤ (x.1 : Int) + x.delta 1) || (decide (x.1 = x.2.1) && decide (103 ≤ (x.1 : Int) + x.delta 1))))
end Go.Proofs.YtlnkjacbdolhnaaGreatDoor


/-
  The walks of utf.Put, utf.Pair, and of what reads escapes.
-/
namespace Go.Proofs.YtlnkjacbdolhnaaGreatDoor
open Go.RowKit

/-- The code point of two units, as it is handed back. -/
def pairV (a b : Nat) : Value := match jpair a b with
  | none => .tuple #[.int .i64 0, .bool false]
  | some p => .tuple #[.int .i64 (p : Int), .bool true]
end Go.Proofs.YtlnkjacbdolhnaaGreatDoor


/-
  The walk of the document's digit.
-/
namespace Go.Proofs.YtlnkjacbdolhnaaGreatDoor
open Go.RowKit

end Go.Proofs.YtlnkjacbdolhnaaGreatDoor


/-
  The walk of the document's Quote over a String's bytes.
-/
namespace Go.Proofs.YtlnkjacbdolhnaaGreatDoor
open Go.RowKit

/-- A row of bytes of the call's own. -/
def RowB (w : World) (B : Nat) (v : Value) (l : List UInt8) : Prop := w.ownsRow B 5 1 v l.length (l.map fun b => Value.int .u8 b.toNat)
theorem RowB.snoc {w : World} {B : Nat} {v : Value} {l : List UInt8} {t : ByteArray} (h : w.ownsRow B 5 1 v (l.length + t.size) ((l.map fun b => Value.int .u8 b.toNat) ++ Lib.strCells t)) : RowB w B v (l ++ t.data.toList) := by
  unfold RowB
  rw [List.length_append, List.map_append]
  exact h
theorem RowB.one {w : World} (u : UInt8) : RowB (w.alloc (.cells #[.int .u8 u.toNat] 5)) w.heap.size (.slice (some ⟨w.heap.size, 0, none⟩) 1 1) [u] :=
  ⟨rfl, Or.inr ⟨w.heap.size, 1, #[.int .u8 u.toNat], rfl, Nat.le_refl _, Cel.fresh w 5 #[.int .u8 u.toNat], Nat.le_refl _, by unfold maxLen; omega, rfl, rfl⟩⟩
/-- What is held behind q bytes. -/
def qHeld (s : List UInt8) (q : Nat) : List UInt8 := 34 :: (s.take q).flatMap jesc
/-- A character as it stands in a String's text, by its number. -/
def jescI (b : Int) : List UInt8 :=
  if b = 34 then [92, 34] else if b = 92 then [92, 92] else if b = 8 then [92, 98] else if b = 12 then [92, 102] else if b = 10 then [92, 110] else if b = 13 then [92, 114] else if b = 9 then [92, 116] else if b < 32 then [92, 117, 48, 48, jhex (b.toNat / 16), jhex (b.toNat % 16)] else [UInt8.ofNat b.toNat]
theorem RowB.below {w w' : World} {B : Nat} {v : Value} {l : List UInt8} (h : RowB w B v l) (hb : Below w.heap.size w w') : RowB w' B v l :=
  World.ownsRow.kept (row := none) h ⟨hb.os, hb.tape, hb.output, hb.size, fun k hk _ => hb.block k hk⟩ (by rcases v.ownBlock with _ | g <;> simp)
end Go.Proofs.YtlnkjacbdolhnaaGreatDoor


/-
  The walk of the document's text of a value that may be.
-/
namespace Go.Proofs.YtlnkjacbdolhnaaGreatDoor
open Go.RowKit

def nbulk (n : List ByteArray) : Nat := (n.map fun b => b.size + 1).sum
/-- The box of the value that the call was handed, behind calls and draws. -/
def Box (w : World) (k : Int) (s : ByteArray) (vn vl : Value) (W : World) : Prop := Cel W w.heap.size 25 #[.int .u8 k, .string s, vn, vl] ∧ Below w.heap.size w W
end Go.Proofs.YtlnkjacbdolhnaaGreatDoor


/-
  The walks of strings.Builder's WriteByte and WriteString at a builder of the call's own; what blocks they turn.
-/
namespace Go.Proofs.YtlnkjacbdolhnaaGreatDoor
open Go.RowKit

/-- Block k is the buffer of the builder in block b. -/
def IsBuf (w : World) (b k : Nat) : Prop := ∃ n c, w.cell? ⟨b, 1, none⟩ = some (.slice (some ⟨k, 0, none⟩) n c)
/-- The builder in block b, its first cell p, its buffer v, holds these bytes. -/
def BDv (w : World) (b : Nat) (p v : Value) (l : List UInt8) : Prop := w.heap[b]? = some (.cells #[p, v] 93 (0, 0)) ∧ RowB w 0 v l ∧ v.ownBlock ≠ some b
def BD (w : World) (b : Nat) (l : List UInt8) : Prop := ∃ p v, (p = .pointer none ∨ p = .pointer (some ⟨b, 0, none⟩)) ∧ BDv w b p v l
/-- From w to w' nothing was turned but the builder in block b, and its buffer. -/
structure Wr (b : Nat) (w w' : World) : Prop where
  os : w'.os = w.os
  tape : w'.tape = w.tape
  output : w'.output = w.output
  size : w.heap.size ≤ w'.heap.size
  block : ∀ k, k < w.heap.size → k ≠ b → ¬ IsBuf w b k → w'.heap[k]? = w.heap[k]?
  buf : ∀ k, IsBuf w' b k → w.heap.size ≤ k ∨ IsBuf w b k
theorem Wr.refl (b : Nat) (w : World) : Wr b w w := ⟨rfl, rfl, rfl, Nat.le_refl _, fun _ _ _ _ => rfl, fun _ h => .inr h⟩
theorem Wr.trans {b : Nat} {w w1 w2 : World} (h : Wr b w w1) (k : Wr b w1 w2) : Wr b w w2 :=
  ⟨k.os.trans h.os, k.tape.trans h.tape, k.output.trans h.output, Nat.le_trans h.size k.size,
    fun i hi hb hn => (k.block i (Nat.lt_of_lt_of_le hi h.size) hb (fun hh => (h.buf i hh).elim (fun e => by omega) hn)).trans (h.block i hi hb hn),
    fun i hi => (k.buf i hi).elim (fun e => .inl (Nat.le_trans h.size e)) (h.buf i)⟩
theorem Wr.cell {b : Nat} {w w' : World} (h : Wr b w w') {p : Addr} (hp : p.block < w.heap.size) (hb : p.block ≠ b) (hn : ¬ IsBuf w b p.block) : w'.cell? p = w.cell? p := by
  unfold World.cell?; rw [h.block _ hp hb hn]
theorem Wr.below {b : Nat} {w w' : World} (h : Below w.heap.size w w') (hb : b < w.heap.size) : Wr b w w' :=
  ⟨h.os, h.tape, h.output, h.size, fun k hk _ _ => h.block k hk, fun k ⟨n, c, e⟩ => .inr ⟨n, c, by rw [← e]; exact (h.cell (p := ⟨b, 1, none⟩) hb).symm⟩⟩
theorem BDv.cell1 {w : World} {b : Nat} {p v : Value} {l : List UInt8} (h : BDv w b p v l) : w.cell? ⟨b, 1, none⟩ = some v := by rw [Lib.cell_of_heap h.1]; rfl
theorem BDv.lt {w : World} {b : Nat} {p v : Value} {l : List UInt8} (h : BDv w b p v l) : b < w.heap.size := by
  rcases Nat.lt_or_ge b w.heap.size with h' | h'
  · exact h'
  · have := h.1; simp [Array.getElem?_eq_none h'] at this
theorem BD.lt {w : World} {b : Nat} {l : List UInt8} (h : BD w b l) : b < w.heap.size := by obtain ⟨p, v, _, h⟩ := h; exact h.lt
theorem own_buf {w : World} {v : Value} {l : List UInt8} (h : RowB w 0 v l) {k : Nat} : v.ownBlock = some k ↔ ∃ n c, v = .slice (some ⟨k, 0, none⟩) n c := by
  rcases h.2 with ⟨rfl, _⟩ | ⟨g, cap, cur, rfl, _⟩
  · simp [Value.ownBlock]
  · simp [Value.ownBlock]
theorem BDv.isBuf {w : World} {b : Nat} {p v : Value} {l : List UInt8} (h : BDv w b p v l) {k : Nat} : IsBuf w b k ↔ v.ownBlock = some k := by
  rw [own_buf h.2.1]
  unfold IsBuf
  rw [h.cell1]
  simp
/-- A builder stays what it is behind whatever turns neither it nor its buffer. -/
theorem BD.below {w w' : World} {b : Nat} {l : List UInt8} (h : BD w b l) (hb : Below w.heap.size w w') : BD w' b l := by
  obtain ⟨p, v, hp, h⟩ := h
  exact ⟨p, v, hp, (hb.block b h.lt).trans h.1, h.2.1.below hb, h.2.2⟩

/-- Behind copyCheck the builder bears its own address. -/
def CcEnd (b : Nat) (l : List UInt8) (w : World) (e : Ending) (w' : World) : Prop := e = .returned (.tuple #[]) ∧ (∃ v, BDv w' b (.pointer (some ⟨b, 0, none⟩)) v l) ∧ Wr b w w'
/-- What a write leaves. -/
def WrEnd (b : Nat) (l : List UInt8) (w w' : World) : Prop := BD w' b l ∧ Wr b w w'
end Go.Proofs.YtlnkjacbdolhnaaGreatDoor


/-
  The walks of json.marks and json.quote.
-/
namespace Go.Proofs.YtlnkjacbdolhnaaGreatDoor
open Go.RowKit

/-- What stands behind a backslash. -/
def markI (b : Int) : Int × Bool :=
  if b = 34 then (34, true) else if b = 92 then (92, true) else if b = 8 then (98, true) else if b = 12 then (102, true) else if b = 10 then (110, true) else if b = 13 then (114, true) else if b = 9 then (116, true) else (0, false)
def markIx (b : Int) : Int :=
  if b = 34 then 0 else if b = 92 then 1 else if b = 8 then 2 else if b = 12 then 3 else if b = 10 then 4 else if b = 13 then 5 else if b = 9 then 6 else -1
def MarkEnd (b : Int) (w : World) (e : Ending) (w' : World) : Prop := e = .returned (.tuple #[.int .u8 (markI b).1, .bool (markI b).2]) ∧ w' = w
def hexA : ByteArray := ⟨#[48, 49, 50, 51, 52, 53, 54, 55, 56, 57, 97, 98, 99, 100, 101, 102]⟩
end Go.Proofs.YtlnkjacbdolhnaaGreatDoor


/-
  The walks of json.write and json.Print.
-/
namespace Go.Proofs.YtlnkjacbdolhnaaGreatDoor
open Go.RowKit

/-- These blocks are none of the builder's. -/
def Off (w : World) (b : Nat) (X : Nat → Prop) : Prop := ∀ k, X k → k < w.heap.size ∧ k ≠ b ∧ ¬ IsBuf w b k
theorem Off.wr {w w' : World} {b : Nat} {X : Nat → Prop} (h : Off w b X) (hW : Wr b w w') : Off w' b X := fun k hk => by
  obtain ⟨h1, h2, h3⟩ := h k hk
  exact ⟨Nat.lt_of_lt_of_le h1 hW.size, h2, fun e => (hW.buf k e).elim (fun e => by omega) h3⟩
theorem Off.cell {w w' : World} {b : Nat} {X : Nat → Prop} (h : Off w b X) (hW : Wr b w w') (p : Addr) (hp : X p.block) (_ : p.block < w.heap.size) : w'.cell? p = w.cell? p := by
  obtain ⟨h1, h2, h3⟩ := h _ hp
  exact hW.cell h1 h2 h3
theorem JV.wr {w w' : World} {b : Nat} {X : Nat → Prop} {j : Jsn} {vn vl : Value} (h : JV w X j vn vl) (hO : Off w b X) (hW : Wr b w w') : JV w' X j vn vl :=
  JV.keep hW.size (hO.cell hW) (fun _ h _ => h) j h
theorem StrL.wr {w w' : World} {b : Nat} {X : Nat → Prop} {v : Value} {L : List ByteArray} (h : StrL w X v L) (hO : Off w b X) (hW : Wr b w w') : StrL w' X v L :=
  h.keep hW.size (hO.cell hW) (fun _ h _ => h)
theorem Wr.alloc {w : World} {b : Nat} (hb : b < w.heap.size) (o : Obj) : Wr b w (w.alloc o) := Wr.below ((Below.refl _ _).alloc (Nat.le_refl _) _) hb
def WriteSays (Own : List UInt8 → List UInt8 × Int) (Val : List UInt8 → Bool) (j : Jsn) : Prop := ∀ (b : Nat) (l : List UInt8) (X : Nat → Prop) (w : World) (vn vl : Value), BD w b l → JV w X j vn vl → Off w b X → jbulk j ≤ 1000000 → jform Own Val j = true → l.length + 20 * jbulk j ≤ 10000000000 →
    Calls Tryz.prog 37 #[.pointer (some ⟨b, 0, none⟩), .agg #[.int .u8 j.kind, .string j.text, vn, vl]] w fun e w' => e = .returned (.tuple #[]) ∧ WrEnd b (l ++ jtext j) w w'

end Go.Proofs.YtlnkjacbdolhnaaGreatDoor
