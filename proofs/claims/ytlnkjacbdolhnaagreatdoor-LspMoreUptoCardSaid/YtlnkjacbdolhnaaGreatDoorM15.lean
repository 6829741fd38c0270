/-
  The walks of rpc.own, rpc.none, rpc.str.
-/
import Derived.Test.YtlnkjacbdolhnaaGreatDoorM03
import Derived.Test.YtlnkjacbdolhnaaGreatDoorM13
import Derived.Test.YtlnkjacbdolhnaaGreatDoorM14
import Derived.Test.YtlnkjacbdolhnaaGreatDoorM00
import Derived.Test.YtlnkjacbdolhnaaGreatDoorM09
import Derived.Test.YtlnkjacbdolhnaaGreatDoorShelf
import Derived.Shelf.Strings.SlTrimAscii
namespace Go.Proofs.YtlnkjacbdolhnaaGreatDoor
open Go.RowKit


end Go.Proofs.YtlnkjacbdolhnaaGreatDoor


/-
  JSON texts read, as plain data. No program.
-/
namespace Go.Proofs.YtlnkjacbdolhnaaGreatDoor

def jblank (c : UInt8) : Bool := c == 32 || c == 9 || c == 10 || c == 13
def jblk (s : List UInt8) : List UInt8 := s.dropWhile jblank
/-- A hex digit. -/
def jhv (c : UInt8) : Option Nat :=
  if 48 ≤ c.toNat ∧ c.toNat ≤ 57 then some (c.toNat - 48) else if 97 ≤ c.toNat ∧ c.toNat ≤ 102 then some (c.toNat - 87) else if 65 ≤ c.toNat ∧ c.toNat ≤ 70 then some (c.toNat - 55) else none
/-- Four hex digits. -/
def junit : List UInt8 → Option (Nat × List UInt8)
  | a :: b :: c :: d :: r => match jhv a, jhv b, jhv c, jhv d with
    | some a, some b, some c, some d => some (((a * 16 + b) * 16 + c) * 16 + d, r)
    | _, _, _, _ => none
  | _ => none
def jpair (a b : Nat) : Option Nat := if 55296 ≤ a ∧ a < 56320 ∧ 56320 ≤ b ∧ b < 57344 then some (65536 + (a - 55296) * 1024 + (b - 56320)) else none
/-- The mark behind a backslash. -/
def jmark (c : UInt8) : Option UInt8 :=
  if c = 34 then some 34 else if c = 92 then some 92 else if c = 47 then some 47 else if c = 98 then some 8 else if c = 102 then some 12 else if c = 110 then some 10 else if c = 114 then some 13 else if c = 116 then some 9 else none
/-- What stands behind a backslash and an u. -/
def jescU (r : List UInt8) : Option (List UInt8 × List UInt8) := match junit r with
  | none => none
  | some (a, r1) => if rput a ≠ [] then some (rput a, r1) else match r1 with
    | 92 :: 117 :: r2 => match junit r2 with
      | none => none
      | some (b, r3) => match jpair a b with
        | none => none
        | some p => some (rput p, r3)
    | _ => none
/-- What stands behind a backslash. -/
def jescape : List UInt8 → Option (List UInt8 × List UInt8)
  | [] => none
  | c :: r => match jmark c with
    | some m => some ([m], r)
    | none => if c = 117 then jescU r else none
/-- The rest of a String's text, behind its first quote. -/
def jstrF (Val : List UInt8 → Bool) : Nat → List UInt8 → List UInt8 → Option (List UInt8 × List UInt8)
  | 0, _, _ => none
  | _ + 1, _, [] => none
  | k + 1, acc, c :: r =>
    if c = 34 then (if Val acc then some (acc, r) else none)
    else if c = 92 then (match jescape r with
      | none => none
      | some (t, r') => jstrF Val k (acc ++ t) r')
    else if c.toNat < 32 then none
    else jstrF Val k (acc ++ [c]) r
def jStr (Val : List UInt8 → Bool) (acc s : List UInt8) : Option (List UInt8 × List UInt8) := jstrF Val (s.length + 1) acc s
/-- The bytes of a number. -/
def jnumc (c : UInt8) : Bool := (decide (48 ≤ c.toNat) && decide (c.toNat ≤ 57)) || c == 43 || c == 45 || c == 46 || c == 101 || c == 69
/-- Things with commas between, up to a bracket. -/
def jloopF {σ : Type} (one : σ → List UInt8 → Except Int (σ × List UInt8)) (b : UInt8) : Nat → σ → List UInt8 → Except Int (σ × List UInt8)
  | 0, _, _ => .error 4
  | k + 1, st, s => match one st (jblk s) with
    | .error e => .error e
    | .ok (st', s') => match jblk s' with
      | [] => .error 4
      | c :: r => if c = 44 then jloopF one b k st' r else if c = b then .ok (st', r) else .error 4
def Shorter {σ : Type} (one : σ → List UInt8 → Except Int (σ × List UInt8)) : Prop := ∀ st s st' s', one st s = .ok (st', s') → s'.length ≤ s.length
def jLoop {σ : Type} (one : σ → List UInt8 → Except Int (σ × List UInt8)) (b : UInt8) (st : σ) (s : List UInt8) : Except Int (σ × List UInt8) := jloopF one b (s.length + 1) st s
/-- What stands in an Array, or an Object, behind its first bracket. -/
def jList {σ : Type} (one : σ → List UInt8 → Except Int (σ × List UInt8)) (b : UInt8) (st : σ) (s : List UInt8) : Except Int (σ × List UInt8) :=
  match jblk s with
  | [] => jLoop one b st []
  | c :: r => if c = b then .ok (st, r) else jLoop one b st (c :: r)
def ofL (l : List UInt8) : ByteArray := ⟨l.toArray⟩
abbrev JR := Except Int (Jsn × Nat × List UInt8)
abbrev SA := Nat × List Jsn
abbrev SO := Nat × List ByteArray × List Jsn
/-- One item of an Array. -/
def jitA (val : Nat → List UInt8 → JR) (st : SA) (s : List UInt8) : Except Int (SA × List UInt8) := match val st.1 s with
  | .error e => .error e
  | .ok (j, it, r) => .ok ((it, st.2 ++ [j]), r)
/-- One member of an Object. -/
def jitO (Val : List UInt8 → Bool) (val : Nat → List UInt8 → JR) (st : SO) (s : List UInt8) : Except Int (SO × List UInt8) := match s with
  | 34 :: s1 => match jStr Val [] s1 with
    | none => .error 4
    | some (n, s2) => if (st.2.1.any fun b => decide (b = ofL n)) = true then .error 6 else match jblk s2 with
      | 58 :: s3 => match val st.1 (jblk s3) with
        | .error e => .error e
        | .ok (j, it, r) => .ok ((it, st.2.1 ++ [ofL n], st.2.2 ++ [j]), r)
      | _ => .error 4
  | _ => .error 4
/-- A value; f: how many more may stand within one another; it: how many there were. -/
def jval (Own : List UInt8 → List UInt8 × Int) (Val : List UInt8 → Bool) : Nat → Nat → List UInt8 → JR
  | 0, _, _ => .error 61
  | f + 1, it, s =>
    if 65536 < it + 1 then .error 40
    else if [110, 117, 108, 108].isPrefixOf s then .ok (⟨1, ofL [], [], []⟩, it + 1, s.drop 4)
    else if [116, 114, 117, 101].isPrefixOf s then .ok (⟨2, ofL [], [], []⟩, it + 1, s.drop 4)
    else if [102, 97, 108, 115, 101].isPrefixOf s then .ok (⟨3, ofL [], [], []⟩, it + 1, s.drop 5)
    else if [34].isPrefixOf s then match jStr Val [] (s.drop 1) with
      | none => .error 4
      | some (t, r) => .ok (⟨5, ofL t, [], []⟩, it + 1, r)
    else if [91].isPrefixOf s then match jList (jitA fun it s => jval Own Val f it s) 93 (it + 1, []) (s.drop 1) with
      | .error e => .error e
      | .ok (st, r) => .ok (⟨6, ofL [], [], st.2⟩, st.1, r)
    else if [123].isPrefixOf s then match jList (jitO Val fun it s => jval Own Val f it s) 125 (it + 1, [], []) (s.drop 1) with
      | .error e => .error e
      | .ok (st, r) => .ok (⟨7, ofL [], st.2.1, st.2.2⟩, st.1, r)
    else if (Own (s.takeWhile jnumc)).2 = 0 then .ok (⟨4, ofL (Own (s.takeWhile jnumc)).1, [], []⟩, it + 1, s.dropWhile jnumc)
    else .error (Own (s.takeWhile jnumc)).2
def jparse (Own : List UInt8 → List UInt8 × Int) (Val : List UInt8 → Bool) (s : List UInt8) : Except Int Jsn :=
  if 262144 < s.length then .error 40
  else match jval Own Val 64 0 (jblk s) with
    | .error e => .error e
    | .ok (j, _, r) => if jblk r = [] then .ok j else .error 4
end Go.Proofs.YtlnkjacbdolhnaaGreatDoor


/-
  What is printed is read as it was, with blanks between what it is made of. No program.
-/
namespace Go.Proofs.YtlnkjacbdolhnaaGreatDoor

/-! ### Blanks -/
def Bk (b : List UInt8) : Prop := ∀ c ∈ b, jblank c = true
/-- What follows an item: blanks, and the end, or a comma and the next one. -/
def ArrT (e : UInt8) : List (List UInt8 → Prop) → List UInt8 → Prop
  | [], t => ∃ b, Bk b ∧ t = b ++ [e]
  | p :: ps, t => ∃ b b' x t', Bk b ∧ Bk b' ∧ p x ∧ ArrT e ps t' ∧ t = b ++ 44 :: (b' ++ x ++ t')
def ArrA (e : UInt8) : List (List UInt8 → Prop) → List UInt8 → Prop
  | [], t => ∃ b, Bk b ∧ t = b ++ [e]
  | p :: ps, t => ∃ b x t', Bk b ∧ p x ∧ ArrT e ps t' ∧ t = b ++ x ++ t'
def MemB (nm : ByteArray) (p : List UInt8 → Prop) (t : List UInt8) : Prop := ∃ b b' x, Bk b ∧ Bk b' ∧ p x ∧ t = jquote nm.data.toList ++ b ++ 58 :: (b' ++ x)
/-- A value's text, with blanks between what it is made of. -/
def JB : Jsn → List UInt8 → Prop := Jsn.para fun k s n l t =>
  if k = 6 then ∃ t', ArrA 93 (l.map (·.2)) t' ∧ t = 91 :: t' else if k = 7 then ∃ t', ArrA 125 (List.zipWith MemB n (l.map (·.2))) t' ∧ t = 123 :: t' else t = jtext1 k s n []
def OwnNumJ (Own : List UInt8 → List UInt8 × Int) : Prop := ∀ l, Own l = (l, 0) → l ≠ [] ∧ ∀ c ∈ l, jnumc c = true
def NoNum (r : List UInt8) : Prop := ∀ c t, r = c :: t → jnumc c = false
/-- How a value's text begins. -/
def HeadOK (t : List UInt8) : Prop := ∃ c u, t = c :: u ∧ jblank c = false ∧ c ≠ 93 ∧ c ≠ 125
/-! ### A value's text, read -/
def ReadsJ (Own : List UInt8 → List UInt8 × Int) (Val : List UInt8 → Bool) (j : Jsn) : Prop := ∀ (f it : Nat) (t r : List UInt8), JB j t → jform Own Val j = true → jtwice j = false → jdeep j ≤ f → it + jcount j ≤ 65536 → NoNum r →
  jval Own Val f it (t ++ r) = .ok (j, it + jcount j, r)
/-- What is read behind an item. -/
def jcont {σ : Type} (one : σ → List UInt8 → Except Int (σ × List UInt8)) (b : UInt8) (st : σ) (s : List UInt8) : Except Int (σ × List UInt8) := match jblk s with
  | [] => .error 4
  | c :: r => if c = 44 then jLoop one b st r else if c = b then .ok (st, r) else .error 4
end Go.Proofs.YtlnkjacbdolhnaaGreatDoor


/-
  What is read may be printed; what is printed, with blanks, is read as it was. No program.
-/
namespace Go.Proofs.YtlnkjacbdolhnaaGreatDoor

/-- What a value is that was read. -/
structure GoodJ (Own : List UInt8 → List UInt8 × Int) (Val : List UInt8 → Bool) (f it : Nat) (j : Jsn) (it' : Nat) : Prop where
  form : jform Own Val j = true
  twice : jtwice j = false
  deep : jdeep j ≤ f
  count : it' = it + jcount j
  most : it' ≤ 65536
def OwnOwn (Own : List UInt8 → List UInt8 × Int) : Prop := ∀ l, (Own l).2 = 0 → Own (Own l).1 = ((Own l).1, 0)
end Go.Proofs.YtlnkjacbdolhnaaGreatDoor


/-
  Words for memory: from one world to another nothing of what lay below B was turned but one block. No program.
-/
namespace Go.Proofs.YtlnkjacbdolhnaaGreatDoor
open Go.RowKit

/-- From w to w' nothing below B was turned but block b. -/
structure But (B b : Nat) (w w' : World) : Prop where
  os : w'.os = w.os
  tape : w'.tape = w.tape
  output : w'.output = w.output
  size : w.heap.size ≤ w'.heap.size
  block : ∀ k, k < B → k ≠ b → w'.heap[k]? = w.heap[k]?
section
variable {B b : Nat} {w w' w1 w2 : World}
theorem But.refl (B b : Nat) (w : World) : But B b w w := ⟨rfl, rfl, rfl, Nat.le_refl _, fun _ _ _ => rfl⟩
theorem But.trans (h : But B b w w1) (k : But B b w1 w2) : But B b w w2 :=
  ⟨k.os.trans h.os, k.tape.trans h.tape, k.output.trans h.output, Nat.le_trans h.size k.size, fun i hi hb => (k.block i hi hb).trans (h.block i hi hb)⟩
theorem But.mono {B' : Nat} (h : But B b w w') (hB : B' ≤ B) : But B' b w w' := ⟨h.os, h.tape, h.output, h.size, fun k hk => h.block k (Nat.lt_of_lt_of_le hk hB)⟩
theorem But.of (h : Below B w w') : But B b w w' := ⟨h.os, h.tape, h.output, h.size, fun k hk _ => h.block k hk⟩
theorem But.below (h : But B b w w') {C : Nat} (hb : C ≤ b) (hC : C ≤ B) : Below C w w' := ⟨h.os, h.tape, h.output, h.size, fun k hk => h.block k (by omega) (by omega)⟩
theorem But.set (h : But B b w w') (i : Nat) (u : Value) : But B b w (w'.setCell ⟨b, i, none⟩ u) :=
  ⟨h.os, h.tape, h.output, by simpa using h.size, fun k hk hb => (Below.heap_setCell w' _ u k hb).trans (h.block k hk hb)⟩
theorem But.setCell (h : But B b w w') {p : Addr} (hp : B ≤ p.block) (u : Value) : But B b w (w'.setCell p u) :=
  ⟨h.os, h.tape, h.output, by simpa using h.size, fun k hk hb => (Below.heap_setCell w' _ u k (by omega)).trans (h.block k hk hb)⟩
theorem But.alloc (h : But B b w w') (hB : B ≤ w'.heap.size) (o : Obj) : But B b w (w'.alloc o) := h.trans (But.of ((Below.refl _ _).alloc hB _))
theorem But.drew (h : But B b w w') : But B b w w'.drew := ⟨h.os, h.tape, h.output, h.size, h.block⟩
theorem But.drewN (h : But B b w w') (n : Nat) : But B b w (w'.drewN n) := ⟨h.os, h.tape, h.output, h.size, h.block⟩
theorem But.grown {row : Option Nat} (h : But B b w w') (hg : w'.grownBy w1 row) (hB : B ≤ w'.heap.size) (hr : ∀ k, row = some k → B ≤ k) : But B b w w1 := h.trans (But.of (Below.grown (Below.refl _ _) hg hB hr))
theorem But.cell (h : But B b w w') {p : Addr} (hp : p.block < B) (hb : p.block ≠ b) : w'.cell? p = w.cell? p := World.cell?_of_block (w := w) (h.block p.block hp hb)
theorem But.frozen (h : But B b w w') {p : Addr} (hp : p.block < B) (hb : p.block ≠ b) : w'.frozen? p = w.frozen? p := World.frozen?_of_block (w := w) (h.block p.block hp hb)
theorem Cel.but {c : Nat} {t : TypeId} {cs : Array Value} (hc : Cel w c t cs) (h : But B b w w') (hB : c < B) (hb : c ≠ b) : Cel w' c t cs := (h.block c hB hb).trans hc
end
end Go.Proofs.YtlnkjacbdolhnaaGreatDoor


/-
  The walks of the JSON reader: what it throws, blanks, what is taken.
-/
namespace Go.Proofs.YtlnkjacbdolhnaaGreatDoor
open Go.RowKit

/-- The reader in block b: what is left, how many values there were. -/
def RJ (w : World) (b : Nat) (s : List UInt8) (it : Nat) : Prop := Cel w b 88 #[.string (ofL s), .int .i64 (it : Int)]
/-- What is thrown. -/
def Pan (e : Int) : Ending := .panicked [{ v := .iface 33 (.int .i64 e), recovered := false }]
theorem RJ.below {w w' : World} {b : Nat} {s : List UInt8} {it : Nat} (h : RJ w b s it) (hb : Below w.heap.size w w') : RJ w' b s it := Cel.below h hb (Cel.lt h)
theorem RJ.lt {w : World} {b : Nat} {s : List UInt8} {it : Nat} (h : RJ w b s it) : b < w.heap.size := Cel.lt h
theorem RJ.set {w : World} {b : Nat} {s s' : List UInt8} {it : Nat} (h : RJ w b s it) : RJ (w.setCell ⟨b, 0, none⟩ (.string (ofL s'))) b s' it := by
  have := Cel.set h 0 (.string (ofL s'))
  exact this
theorem But.set0 {w : World} {b : Nat} (u : Value) : But w.heap.size b w (w.setCell ⟨b, 0, none⟩ u) := (But.refl _ b w).set 0 u
def blk4 : ByteArray := ⟨#[32, 9, 10, 13]⟩
/-- What is left behind a text that is taken, if it is next. -/
def jtk (p s : List UInt8) : List UInt8 := if p.isPrefixOf s = true then s.drop p.length else s
end Go.Proofs.YtlnkjacbdolhnaaGreatDoor
