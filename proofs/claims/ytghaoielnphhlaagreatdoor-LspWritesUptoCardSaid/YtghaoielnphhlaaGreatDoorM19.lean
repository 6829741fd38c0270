/-
  What is printed is read as it was, with blanks between what it is made of. No program.
-/
import Derived.Test.YtghaoielnphhlaaGreatDoorM18
import Derived.Test.YtghaoielnphhlaaGreatDoorM08
import Derived.Test.YtghaoielnphhlaaGreatDoorM12
import Derived.Test.YtghaoielnphhlaaGreatDoorShelf
import Derived.Shelf.Strings.SlTrimAscii
import Derived.Lib.MapLaws
import Derived.Lib.TrimAscii
import Derived.Shelf.Strings.CaseAny
import Derived.Lib.SlBytesRow
import Derived.Lib.AppendStr
namespace Go.Proofs.YtghaoielnphhlaaGreatDoor

/-! ### Blanks -/
def Bk (b : List UInt8) : Prop := ∀ c ∈ b, jblank c = true
/-- What follows an item: blanks, and the end, or a comma and the next one. -/
def ArrT (e : UInt8) : List (List UInt8 → Prop) → List UInt8 → Prop
  | [], t => ∃ b, Bk b ∧ t = b ++ [e]
  | p :: ps, t => ∃ b b' x t', Bk b ∧ Bk b' ∧ p x ∧ ArrT e ps t' ∧ t = b ++ 44 :: (b' ++ x ++ t')
def ArrA (e : UInt8) : List (List UInt8 → Prop) → List UInt8 → Prop
  | [], t => ∃ b, Bk b ∧ t = b ++ [e]
  | p :: ps, t => ∃ b x t', Bk b ∧ p x ∧ ArrT e ps t' ∧ t = b ++ x ++ t'
def MemB (nm : ByteArray) (p : List UInt8 → Prop) (t : List UInt8) : Prop := ∃ b b' x, Bk b ∧ Bk b' ∧ p x ∧ t = jquote nm.data.toList ++ b ++ 58 :: (b' ++ x)
/-- A value's text, with blanks between what it is made of. -/
def JB : Jsn → List UInt8 → Prop := Jsn.para fun k s n l t =>
  if k = 6 then ∃ t', ArrA 93 (l.map (·.2)) t' ∧ t = 91 :: t' else if k = 7 then ∃ t', ArrA 125 (List.zipWith MemB n (l.map (·.2))) t' ∧ t = 123 :: t' else t = jtext1 k s n []
def OwnNumJ (Own : List UInt8 → List UInt8 × Int) : Prop := ∀ l, Own l = (l, 0) → l ≠ [] ∧ ∀ c ∈ l, jnumc c = true
def NoNum (r : List UInt8) : Prop := ∀ c t, r = c :: t → jnumc c = false
/-- How a value's text begins. -/
def HeadOK (t : List UInt8) : Prop := ∃ c u, t = c :: u ∧ jblank c = false ∧ c ≠ 93 ∧ c ≠ 125
/-! ### A value's text, read -/
def ReadsJ (Own : List UInt8 → List UInt8 × Int) (Val : List UInt8 → Bool) (j : Jsn) : Prop := ∀ (f it : Nat) (t r : List UInt8), JB j t → jform Own Val j = true → jtwice j = false → jdeep j ≤ f → it + jcount j ≤ 65536 → NoNum r →
  jval Own Val f it (t ++ r) = .ok (j, it + jcount j, r)
/-- What is read behind an item. -/
def jcont {σ : Type} (one : σ → List UInt8 → Except Int (σ × List UInt8)) (b : UInt8) (st : σ) (s : List UInt8) : Except Int (σ × List UInt8) := match jblk s with
  | [] => .error 4
  | c :: r => if c = 44 then jLoop one b st r else if c = b then .ok (st, r) else .error 4
end Go.Proofs.YtghaoielnphhlaaGreatDoor


/-
  What is read may be printed; what is printed, with blanks, is read as it was. No program.
-/
namespace Go.Proofs.YtghaoielnphhlaaGreatDoor

/-- What a value is that was read. -/
structure GoodJ (Own : List UInt8 → List UInt8 × Int) (Val : List UInt8 → Bool) (f it : Nat) (j : Jsn) (it' : Nat) : Prop where
  form : jform Own Val j = true
  twice : jtwice j = false
  deep : jdeep j ≤ f
  count : it' = it + jcount j
  most : it' ≤ 65536
def OwnOwn (Own : List UInt8 → List UInt8 × Int) : Prop := ∀ l, (Own l).2 = 0 → Own (Own l).1 = ((Own l).1, 0)
end Go.Proofs.YtghaoielnphhlaaGreatDoor


/-
  The walks of the JSON reader: what it throws, blanks, what is taken.
-/
namespace Go.Proofs.YtghaoielnphhlaaGreatDoor
open Go.RowKit

/-- The reader in block b: what is left, how many values there were. -/
def RJ (w : World) (b : Nat) (s : List UInt8) (it : Nat) : Prop := Cel w b 97 #[.string (ofL s), .int .i64 (it : Int)]
/-- What is thrown. -/
def Pan (e : Int) : Ending := .panicked [{ v := .iface 33 (.int .i64 e), recovered := false }]
theorem RJ.below {w w' : World} {b : Nat} {s : List UInt8} {it : Nat} (h : RJ w b s it) (hb : Below w.heap.size w w') : RJ w' b s it := Cel.below h hb (Cel.lt h)
theorem RJ.lt {w : World} {b : Nat} {s : List UInt8} {it : Nat} (h : RJ w b s it) : b < w.heap.size := Cel.lt h
theorem RJ.set {w : World} {b : Nat} {s s' : List UInt8} {it : Nat} (h : RJ w b s it) : RJ (w.setCell ⟨b, 0, none⟩ (.string (ofL s'))) b s' it := by
  have := Cel.set h 0 (.string (ofL s'))
  exact this
theorem But.set0 {w : World} {b : Nat} (u : Value) : But w.heap.size b w (w.setCell ⟨b, 0, none⟩ u) := (But.refl _ b w).set 0 u
def blk4 : ByteArray := ⟨#[32, 9, 10, 13]⟩
/-- What is left behind a text that is taken, if it is next. -/
def jtk (p s : List UInt8) : List UInt8 := if p.isPrefixOf s = true then s.drop p.length else s
end Go.Proofs.YtghaoielnphhlaaGreatDoor


/-
  Four hex digits, by way of strings.ToLower. No program.
-/
namespace Go.Proofs.YtghaoielnphhlaaGreatDoor

/-- The place of a byte among the digits of escapes. -/
def jhl (c : UInt8) : Option Nat := if 48 ≤ c.toNat ∧ c.toNat ≤ 57 then some (c.toNat - 48) else if 97 ≤ c.toNat ∧ c.toNat ≤ 102 then some (c.toNat - 87) else none
def hexL : Nat → List UInt8 → Option Nat
  | n, [] => some n
  | n, c :: r => match jhl c with
    | none => none
    | some k => hexL (n * 16 + k) r
def hexV : Nat → List UInt8 → Option Nat
  | n, [] => some n
  | n, c :: r => match jhv c with
    | none => none
    | some k => hexV (n * 16 + k) r
def lowOf (c : UInt8) : UInt8 := Lib.lowerB c
/-- Of each row of the table: a rune from 128 on becomes none of the digits. -/
def rowHex (x : Lib.CaseRow) : Bool :=
  decide (x.2.1 < 128) || (decide (128 ≤ x.1) && (decide (x.delta 1 > 1114111) || decide (128 ≤ (x.1 : Int) + x.delta 1) || (decide (x.1 = x.2.1) && decide (103 ≤ (x.1 : Int) + x.delta 1))))
end Go.Proofs.YtghaoielnphhlaaGreatDoor


/-
  The walks of utf.Put, utf.Pair, and of what reads escapes.
-/
namespace Go.Proofs.YtghaoielnphhlaaGreatDoor
open Go.RowKit

/-- The code point of two units, as it is handed back. -/
def pairV (a b : Nat) : Value := match jpair a b with
  | none => .tuple #[.int .i64 0, .bool false]
  | some p => .tuple #[.int .i64 (p : Int), .bool true]
end Go.Proofs.YtghaoielnphhlaaGreatDoor


/-
  The walk of the document's digit.
-/
namespace Go.Proofs.YtghaoielnphhlaaGreatDoor
open Go.RowKit

end Go.Proofs.YtghaoielnphhlaaGreatDoor


/-
  The walk of the document's Quote over a String's bytes.
-/
namespace Go.Proofs.YtghaoielnphhlaaGreatDoor
open Go.RowKit

/-- A row of bytes of the call's own. -/
def RowB (w : World) (B : Nat) (v : Value) (l : List UInt8) : Prop := w.ownsRow B 5 1 v l.length (l.map fun b => Value.int .u8 b.toNat)
theorem RowB.snoc {w : World} {B : Nat} {v : Value} {l : List UInt8} {t : ByteArray} (h : w.ownsRow B 5 1 v (l.length + t.size) ((l.map fun b => Value.int .u8 b.toNat) ++ Lib.strCells t)) : RowB w B v (l ++ t.data.toList) := by
  unfold RowB
  rw [List.length_append, List.map_append]
  exact h
theorem RowB.one {w : World} (u : UInt8) : RowB (w.alloc (.cells #[.int .u8 u.toNat] 5)) w.heap.size (.slice (some ⟨w.heap.size, 0, none⟩) 1 1) [u] :=
  ⟨rfl, Or.inr ⟨w.heap.size, 1, #[.int .u8 u.toNat], rfl, Nat.le_refl _, Cel.fresh w 5 #[.int .u8 u.toNat], Nat.le_refl _, by unfold maxLen; omega, rfl, rfl⟩⟩
/-- What is held behind q bytes. -/
def qHeld (s : List UInt8) (q : Nat) : List UInt8 := 34 :: (s.take q).flatMap jesc
/-- A character as it stands in a String's text, by its number. -/
def jescI (b : Int) : List UInt8 :=
  if b = 34 then [92, 34] else if b = 92 then [92, 92] else if b = 8 then [92, 98] else if b = 12 then [92, 102] else if b = 10 then [92, 110] else if b = 13 then [92, 114] else if b = 9 then [92, 116] else if b < 32 then [92, 117, 48, 48, jhex (b.toNat / 16), jhex (b.toNat % 16)] else [UInt8.ofNat b.toNat]
theorem RowB.below {w w' : World} {B : Nat} {v : Value} {l : List UInt8} (h : RowB w B v l) (hb : Below w.heap.size w w') : RowB w' B v l :=
  World.ownsRow.kept (row := none) h ⟨hb.os, hb.tape, hb.output, hb.size, fun k hk _ => hb.block k hk⟩ (by rcases v.ownBlock with _ | g <;> simp)
end Go.Proofs.YtghaoielnphhlaaGreatDoor
