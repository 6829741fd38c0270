/-
  The walks of slices.EqualFunc over JSON values, and of json.Same.
-/
import Derived.Test.YtlnkjacbdolhnaaGreatDoorJsB
import Derived.Test.YtlnkjacbdolhnaaGreatDoorShelf
import Derived.Test.YtlnkjacbdolhnaaGreatDoorM00
import Derived.Lib.ValidLaws
namespace Go.Proofs.YtlnkjacbdolhnaaGreatDoor
open Go.RowKit


/-- A function value that tells of any of these and any of those whether they are the same. -/
def PredJ2 (g : Nat) (w : World) (X Y : Nat → Prop) (l m : List Jsn) : Prop :=
  ∀ (W : World) (x y : Jsn) (vn vl un ul : Value), x ∈ l → y ∈ m → Below w.heap.size w W → JV W X x vn vl → JV W Y y un ul →
    Calls Tryz.prog g #[.agg #[.int .u8 x.kind, .string x.text, vn, vl], .agg #[.int .u8 y.kind, .string y.text, un, ul]] W fun e w' => e = .returned (.bool (jsame x y)) ∧ Below W.heap.size W w'

end Go.Proofs.YtlnkjacbdolhnaaGreatDoor


/-
  The walks of slices.Clone over strings, and of json.own: a value in new memory.
-/
namespace Go.Proofs.YtlnkjacbdolhnaaGreatDoor
open Go.RowKit

theorem jl_append_run {P : Program} {w w' : World} {ops : Array Oper} {rest : List Oper} {o : Oper} {a : Act} {Q : Exit → Act → World → Prop} (hw : Region.wanted o (yielded ops a.tmps) = true) (s x : Operand) (t1 t2 : TypeId)
    (hop : o.op = Op.call { callee := Callee.builtin Builtin.append, args := #[s, x], argTypes := #[t1, t2] }) (vs vx v : Value) (hs : a.eval s = vs) (hx : a.eval x = vx) (hrun : (Builtin.append_ #[t1, t2] o.type #[vs, vx]).run P w = .ok v w')
    (h : wpList P ops Q rest (a.put o.dst v) w') : wpList P ops Q (o :: rest) a w :=
  wpList_step fun K hK => by
    rw [if_pos hw]
    unfold Oper.wp
    simp [execOp, hop, resolve, invoke, builtin, hs, hx, hrun, Result.andThen]
    exact hK _ _ h
theorem infoJ : (Tryz.prog.info? 25).map (fun i => (i.zero, i.size, i.bytes)) = some (some (.agg #[.int .u8 0, .string ByteArray.empty, .slice none 0 0, .slice none 0 0]), 4, 72) := by kernel_rfl

def CloneEnd (L : List ByteArray) (w : World) (e : Ending) (w' : World) : Prop := ∃ v' gn, e = .returned v' ∧ w.heap.size ≤ gn ∧ NamO w' 9 w.heap.size w'.heap.size gn v' L ∧ Below w.heap.size w w'
def OwnJEnd (j : Jsn) (w : World) (e : Ending) (w' : World) : Prop := ∃ vn vl, e = .returned (.agg #[.int .u8 j.kind, .string j.text, vn, vl]) ∧ OwnJ w' 9 25 j w.heap.size w'.heap.size vn vl ∧ Below w.heap.size w w'
def OwnSays (f : Nat) (j : Jsn) : Prop := ∀ (X : Nat → Prop) (w : World) (vn vl : Value), JV w X j vn vl → jbulk j ≤ 1000000000000 → Calls Tryz.prog f #[.agg #[.int .u8 j.kind, .string j.text, vn, vl]] w (OwnJEnd j w)

end Go.Proofs.YtlnkjacbdolhnaaGreatDoor


/-
  The walk of json.Same.
-/
namespace Go.Proofs.YtlnkjacbdolhnaaGreatDoor
open Go.RowKit

end Go.Proofs.YtlnkjacbdolhnaaGreatDoor


/-
  Plain facts on characters: the document's Put, bits and Rune as functions of bytes, and that a text is valid in the document's words just if it is so in the library's. No program.
-/
namespace Go.Proofs.YtlnkjacbdolhnaaGreatDoor

/-- A code point's bytes, as numbers. -/
def rputN (p : Nat) : List Nat :=
  if 1114111 < p ∨ (55296 ≤ p ∧ p ≤ 57343) then []
  else if p < 128 then [p]
  else if p < 2048 then [192 + p / 64, 128 + p % 64]
  else if p < 65536 then [224 + p / 4096, 128 + p / 64 % 64, 128 + p % 64]
  else [240 + p / 262144, 128 + p / 4096 % 64, 128 + p / 64 % 64, 128 + p % 64]
def rput (p : Int) : List UInt8 := if p < 0 then [] else (rputN p.toNat).map UInt8.ofNat
/-- What the bytes would be of. -/
def rhead (n : Nat) : Int := if n = 2 then 192 else if n = 3 then 224 else if n = 4 then 240 else 0
def rbits : List UInt8 → Int
  | [] => 0
  | a :: t => t.foldl (fun o b => o * 64 + b.toNat - 128) ((a.toNat : Int) - rhead (t.length + 1))
/-- Are the first k bytes a character's? -/
def rok (l : List UInt8) (k : Nat) : Bool := decide (0 ≤ rbits (l.take k)) && decide (rput (rbits (l.take k)) = l.take k)
/-- The first character. -/
def rrune (l : List UInt8) : Int × Nat :=
  if l = [] then (-1, 0)
  else if rok l 1 = true then (rbits (l.take 1), 1)
  else if 2 ≤ l.length ∧ rok l 2 = true then (rbits (l.take 2), 2)
  else if 3 ≤ l.length ∧ rok l 3 = true then (rbits (l.take 3), 3)
  else if 4 ≤ l.length ∧ rok l 4 = true then (rbits (l.take 4), 4)
  else (-1, 1)

/-- Three bytes of a character; four. -/
def R3 (a b c : Nat) : Prop := 224 ≤ a ∧ a ≤ 239 ∧ 128 ≤ b ∧ b ≤ 191 ∧ 128 ≤ c ∧ c ≤ 191 ∧ (a = 224 → 160 ≤ b) ∧ (a = 237 → b ≤ 159)
def R4 (a b c d : Nat) : Prop := 240 ≤ a ∧ a ≤ 244 ∧ 128 ≤ b ∧ b ≤ 191 ∧ 128 ≤ c ∧ c ≤ 191 ∧ 128 ≤ d ∧ d ≤ 191 ∧ (a = 240 → 144 ≤ b) ∧ (a = 244 → b ≤ 143)
end Go.Proofs.YtlnkjacbdolhnaaGreatDoor
