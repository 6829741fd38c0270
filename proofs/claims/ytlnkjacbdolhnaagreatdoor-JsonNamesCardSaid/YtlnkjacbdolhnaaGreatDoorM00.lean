/-
  Plain facts on lists and bytes: how long the run of bytes at the head of a list is that meet a test. No program.
-/
import Derived.Lib.Hide
import Derived.Lib.Atoi
import Derived.Below
import Derived.Laws.OwnMore
import Derived.Deep.Draws
import Derived.Laws.Rows
import Derived.WalkKit
namespace Go.Proofs.YtlnkjacbdolhnaaGreatDoor

/-- How many elements at the head meet p. -/
def twl {α : Type} (p : α → Bool) (l : List α) : Nat := (l.takeWhile p).length

theorem twl_le {α : Type} (p : α → Bool) (l : List α) : twl p l ≤ l.length := by
  induction l with
  | nil => simp [twl]
  | cons a l ih =>
    unfold twl at *
    by_cases h : p a = true
    · simp [h]; omega
    · simp [h]

/-- The byte at a place of a string, and of its list. -/
theorem bytes_at (s : ByteArray) (i : Nat) (h : i < s.size) : s.data.toList[i]? = some s[i] := by
  have h' : i < s.data.size := h
  rw [Array.getElem?_toList, Array.getElem?_eq_getElem h']
  rfl

theorem bytes_len (s : ByteArray) : s.data.toList.length = s.size := by rw [Array.length_toList]; rfl

def isDig (c : UInt8) : Bool := decide (48 ≤ c.toNat) && decide (c.toNat ≤ 57)
theorem isDig_t {c : UInt8} (h : isDig c = true) : 48 ≤ c.toNat ∧ c.toNat ≤ 57 := by simpa [isDig] using h
/-- How many digits stand at a place. -/
def runN (l : List UInt8) (i : Nat) : Nat := twl isDig (l.drop i)

end Go.Proofs.YtlnkjacbdolhnaaGreatDoor


/-
  What rostrumref04 makes of a decimal's text, as plain functions on lists of bytes: parse in four stages, and the strip of noughts.
-/
namespace Go.Proofs.YtlnkjacbdolhnaaGreatDoor

/-- A worth. -/
structure Wth where
  minus : Bool
  digits : List UInt8
  exp : Int
  deriving DecidableEq

/-- A numeral's worth, read on from n, and read no further once it is 100000000 or more. -/
def powTo (n : Int) : List UInt8 → Int
  | [] => n
  | c :: l => if n < 100000000 then powTo (n * 10 + c.toNat - 48) l else n

/-- What rostrumref04.power makes of digits. -/
def powN (l : List UInt8) : Int := powTo 0 l

def isZ (c : UInt8) : Bool := decide (c.toNat = 48)

/-- How many noughts stand at the end. -/
def tz (d : List UInt8) : Nat := twl isZ d.reverse

/-- The noughts at both ends go; those at the end raise the power. -/
def strip (m : Bool) (d : List UInt8) (e : Int) : Wth :=
  let d1 := d.drop (twl isZ d)
  let d2 := d1.take (d1.length - tz d1)
  if d2 = [] then ⟨false, [], 0⟩ else ⟨m, d2, e + tz d1⟩

def parse4 (l : List UInt8) (m : Bool) (d : List UInt8) (e : Int) (i : Nat) : Option Wth :=
  if i ≠ l.length then none else some (strip m d e)

/-- Does this byte stand there? -/
def isAt (l : List UInt8) (i : Nat) (n : Nat) : Bool := (l[i]?.map (·.toNat)) == some n

/-- The sign of a power: 43 and 45 are passed over. -/
def powSign (l : List UInt8) (i : Nat) : Int × Nat :=
  if isAt l i 45 then (-1, i + 1) else if isAt l i 43 then (1, i + 1) else (1, i)

def parse3b (l : List UInt8) (m : Bool) (d : List UInt8) (e : Int) (sg : Int) (j : Nat) : Option Wth :=
  let n := runN l j
  if n = 0 then none else parse4 l m d (e + sg * powN ((l.drop j).take n)) (j + n)

def parse3 (l : List UInt8) (m : Bool) (d : List UInt8) (e : Int) (i : Nat) : Option Wth :=
  if isAt l i 101 || isAt l i 69 then parse3b l m d e (powSign l (i + 1)).1 (powSign l (i + 1)).2
  else parse4 l m d e i

def parse2 (l : List UInt8) (m : Bool) (d : List UInt8) (i : Nat) : Option Wth :=
  if isAt l i 46 then
    let n := runN l (i + 1)
    if n = 0 then none else parse3 l m (d ++ (l.drop (i + 1)).take n) (-(n : Int)) (i + 1 + n)
  else parse3 l m d 0 i

def parse1 (l : List UInt8) (m : Bool) (i : Nat) : Option Wth :=
  let n := runN l i
  if n = 0 then none
  else if decide (1 < n) && isAt l i 48 then none
  else parse2 l m ((l.drop i).take n) (i + n)

/-- rostrumref04.parse. -/
def parseL (l : List UInt8) : Option Wth := if isAt l 0 45 then parse1 l true 1 else parse1 l false 0

/-- rostrumref04.Get: the worth, and the error (0: none, 4: no decimal, 40: too large). -/
def getL (l : List UInt8) : Wth × Int :=
  match parseL l with
  | none => (⟨false, [], 0⟩, 4)
  | some x => if 200 < x.digits.length ∨ x.exp < -9999 ∨ 9999 < x.exp then (⟨false, [], 0⟩, 40) else (x, 0)

theorem bytes_mk (b : ByteArray) : (⟨b.data.toList.toArray⟩ : ByteArray) = b := by cases b; rfl
/-! ### The program's own reader, state by state -/

/-- What the reader holds. -/
structure Rst where
  s : List UInt8
  m : Bool
  d : List UInt8
  e : Int

/-- The sign, if there is one, and what stands behind it. -/
def signL : List UInt8 → Bool × List UInt8
  | [] => (false, [])
  | c :: t => if c.toNat = 45 then (true, t) else (false, c :: t)

/-- May these digits stand ahead of the point? -/
def wholeOk : List UInt8 → Bool
  | [] => false
  | c :: t => t.isEmpty || decide (¬ c.toNat = 48)

def wholeL (l : List UInt8) : Option Rst :=
  let g := (signL l).2.takeWhile isDig
  if wholeOk g then some ⟨(signL l).2.dropWhile isDig, (signL l).1, g, 0⟩ else none

def partL (r : Rst) : Option Rst :=
  match r.s with
  | [] => some r
  | c :: t =>
    if c.toNat = 46 then
      let g := t.takeWhile isDig
      if g = [] then none else some ⟨t.dropWhile isDig, r.m, r.d ++ g, r.e - g.length⟩
    else some r

/-- A numeral of digits. -/
def numL : Int → List UInt8 → Int
  | n, [] => n
  | n, c :: t => numL (n * 10 + c.toNat - 48) t

/-- What power makes of the digits behind the e. -/
def powL (g : List UInt8) : Int :=
  let h := g.dropWhile isZ
  if h.length < 9 then numL 0 h else 1073741824

def signP : List UInt8 → Bool × List UInt8
  | [] => (false, [])
  | c :: t => if c.toNat = 45 then (true, t) else if c.toNat = 43 then (false, t) else (false, c :: t)

def powerL (r : Rst) : Option Rst :=
  match r.s with
  | [] => some r
  | c :: t =>
    if c.toNat = 101 ∨ c.toNat = 69 then
      let g := (signP t).2.takeWhile isDig
      if g = [] ∨ ¬ (signP t).2.dropWhile isDig = [] then none
      else some ⟨[], r.m, r.d, r.e + (if (signP t).1 then -(powL g) else powL g)⟩
    else none

theorem numL_bd : ∀ (l : List UInt8) (n : Int), (∀ c, c ∈ l → isDig c = true) → 0 ≤ n → 0 ≤ numL n l ∧ numL n l < (n + 1) * 10 ^ l.length
  | [], n, _, h0 => by simp [numL]; omega
  | c :: l, n, h, h0 => by
    have hd := isDig_t (h c (by simp))
    have ih := numL_bd l (n * 10 + c.toNat - 48) (fun x hx => h x (by simp [hx])) (by omega)
    refine ⟨by unfold numL; exact ih.1, ?_⟩
    unfold numL
    refine Int.lt_of_lt_of_le ih.2 ?_
    rw [List.length_cons, Int.pow_succ, Int.mul_comm ((10 : Int) ^ l.length) 10, ← Int.mul_assoc]
    exact Int.mul_le_mul_of_nonneg_right (by omega) (Int.pow_nonneg (by omega))
theorem numL_small (l : List UInt8) (h : ∀ c, c ∈ l → isDig c = true) (hl : l.length < 9) : 0 ≤ numL 0 l ∧ numL 0 l < 100000000 := by
  have h1 := numL_bd l 0 h (by omega)
  have h2 : (10 : Int) ^ l.length ≤ 10 ^ 8 := by
    have : (10 : Nat) ^ l.length ≤ 10 ^ 8 := Nat.pow_le_pow_right (by omega) (by omega)
    exact_mod_cast this
  refine ⟨h1.1, ?_⟩
  have h3 := h1.2
  have h4 : (10 : Int) ^ 8 = 100000000 := by decide
  omega
theorem decFrom_num : ∀ (l : List UInt8) (acc : Nat), (∀ c, c ∈ l → isDig c = true) → ∃ m : Nat, Go.Lib.decFrom acc l = some m ∧ (m : Int) = numL acc l
  | [], acc, _ => ⟨acc, rfl, rfl⟩
  | c :: l, acc, h => by
    have hd := isDig_t (h c (by simp))
    obtain ⟨m, h1, h2⟩ := decFrom_num l (acc * 10 + (c.toNat - 48)) (fun x hx => h x (by simp [hx]))
    refine ⟨m, ?_, ?_⟩
    · unfold Go.Lib.decFrom
      simp only [Go.Lib.digitVal, hd, and_self, if_true]
      exact h1
    · rw [h2]
      have e : ((acc * 10 + (c.toNat - 48) : Nat) : Int) = (acc : Int) * 10 + c.toNat - 48 := by omega
      rw [e]
      rfl
theorem atoi_zero (l : List UInt8) (h : ∀ c, c ∈ l → isDig c = true) : Go.Lib.atoi (48 :: l) = some (numL 0 l) := by
  obtain ⟨m, h1, h2⟩ := decFrom_num l 0 h
  have e1 : Go.Lib.decNat (48 :: l) = some m := by
    unfold Go.Lib.decNat
    simp only [List.isEmpty_cons, Bool.false_eq_true, if_false]
    unfold Go.Lib.decFrom
    exact h1
  unfold Go.Lib.atoi
  simp only [show ((48 : UInt8) == 45) = false by decide, show ((48 : UInt8) == 43) = false by decide, Bool.false_eq_true, if_false, e1, Option.map_some]
  rw [h2]; rfl
theorem mem_takeWhile_dig {l : List UInt8} {c : UInt8} (h : c ∈ l.takeWhile isDig) : isDig c = true := by
  have := List.all_takeWhile (p := isDig) (l := l)
  rw [List.all_eq_true] at this
  exact this _ h

def decL (l : List UInt8) : Option Rst := (wholeL l).bind fun r => (partL r).bind powerL

theorem dropWhile_length_le {p : UInt8 → Bool} (l : List UInt8) : (l.dropWhile p).length ≤ l.length := by
  have h := congrArg List.length (List.takeWhile_append_dropWhile (p := p) (l := l))
  rw [List.length_append] at h
  omega
theorem takeDrop_length {p : UInt8 → Bool} (l : List UInt8) : (l.takeWhile p).length + (l.dropWhile p).length = l.length := by
  have h := congrArg List.length (List.takeWhile_append_dropWhile (p := p) (l := l))
  rwa [List.length_append] at h
theorem signL_len (l : List UInt8) : (signL l).2.length ≤ l.length := by
  unfold signL; split
  · simp
  · split <;> simp
theorem wholeL_bd {l : List UInt8} {r : Rst} (h : wholeL l = some r) : r.s.length + r.d.length ≤ l.length ∧ r.e = 0 := by
  unfold wholeL at h
  simp only at h
  split at h
  · injection h with h
    subst h
    have h1 := takeDrop_length (p := isDig) (signL l).2
    have h2 := signL_len l
    exact ⟨by simp only; omega, rfl⟩
  · cases h
theorem partL_bd {r r' : Rst} (h : partL r = some r') : r'.s.length ≤ r.s.length ∧ r'.d.length ≤ r.d.length + r.s.length ∧ r.e - r.s.length ≤ r'.e ∧ r'.e ≤ r.e := by
  unfold partL at h
  split at h
  · injection h with h
    subst h
    omega
  · rename_i c t hs
    rw [hs]
    split at h
    · simp only at h
      split at h
      · cases h
      · injection h with h
        subst h
        have h1 := takeDrop_length (p := isDig) t
        simp only [List.length_append, List.length_cons]
        omega
    · injection h with h
      subst h
      rw [hs]
      simp only [List.length_cons]
      omega
theorem powL_bd {g : List UInt8} (h : ∀ c, c ∈ g → isDig c = true) : 0 ≤ powL g ∧ powL g ≤ 1073741824 := by
  unfold powL
  simp only
  split
  · rename_i h9
    have := numL_small (g.dropWhile isZ) (fun c hc => h c (List.dropWhile_subset _ hc)) h9
    omega
  · omega
theorem powerL_bd {r r' : Rst} (h : powerL r = some r') : r'.d = r.d ∧ r.e - 1073741824 ≤ r'.e ∧ r'.e ≤ r.e + 1073741824 := by
  unfold powerL at h
  split at h
  · injection h with h
    subst h
    exact ⟨rfl, by omega, by omega⟩
  · split at h
    · rename_i c t hs _
      simp only at h
      split at h
      · cases h
      · injection h with h
        have hb := powL_bd (g := (signP t).2.takeWhile isDig) (fun c hc => mem_takeWhile_dig hc)
        subst h
        refine ⟨rfl, ?_⟩
        simp only
        split <;> omega
    · cases h
theorem decL_bd {l : List UInt8} {r : Rst} (h : decL l = some r) : r.d.length ≤ 2 * l.length ∧ -1073741824 - (l.length : Int) ≤ r.e ∧ r.e ≤ 1073741824 := by
  unfold decL at h
  rw [Option.bind_eq_some_iff] at h
  obtain ⟨r1, h1, h2⟩ := h
  rw [Option.bind_eq_some_iff] at h2
  obtain ⟨r2, h2, h3⟩ := h2
  have a := wholeL_bd h1
  have b := partL_bd h2
  have c := powerL_bd h3
  rw [c.1]
  omega

/-- The noughts at the end go. -/
def trimR (d : List UInt8) : List UInt8 := (d.reverse.dropWhile isZ).reverse

/-- dec.get: the worth, and the error (0: none, 4: no decimal, 40: too large). -/
def decGetL (l : List UInt8) : Wth × Int :=
  match decL l with
  | none => (⟨false, [], 0⟩, 4)
  | some r =>
    let d := (trimR r.d).dropWhile isZ
    let e := r.e + (r.d.length - (trimR r.d).length : Nat)
    if d = [] then (⟨false, [], 0⟩, 0)
    else if 200 < d.length ∨ e < -9999 ∨ 9999 < e then (⟨false, [], 0⟩, 40) else (⟨r.m, d, e⟩, 0)

/-! ### Whole numbers -/

/-- The number that digits spell. -/
def decV (l : List UInt8) : Nat := l.foldl (fun n c => n * 10 + (c.toNat - 48)) 0

theorem wholeL_dig {l : List UInt8} {r : Rst} (h : wholeL l = some r) : ∀ c, c ∈ r.d → isDig c = true := by
  unfold wholeL at h
  simp only at h
  split at h
  · injection h with h
    subst h
    exact fun c hc => mem_takeWhile_dig hc
  · cases h
theorem partL_dig {r r' : Rst} (h : partL r = some r') (hd : ∀ c, c ∈ r.d → isDig c = true) : ∀ c, c ∈ r'.d → isDig c = true := by
  unfold partL at h
  split at h
  · injection h with h
    subst h; exact hd
  · split at h
    · simp only at h
      split at h
      · cases h
      · injection h with h
        subst h
        intro c hc
        simp only [List.mem_append] at hc
        exact hc.elim (hd c) (fun hc => mem_takeWhile_dig hc)
    · injection h with h
      subst h; exact hd
theorem decL_dig {l : List UInt8} {r : Rst} (h : decL l = some r) : ∀ c, c ∈ r.d → isDig c = true := by
  unfold decL at h
  rw [Option.bind_eq_some_iff] at h
  obtain ⟨r1, h1, h2⟩ := h
  rw [Option.bind_eq_some_iff] at h2
  obtain ⟨r2, h2, h3⟩ := h2
  rw [(powerL_bd h3).1]
  exact partL_dig h2 (wholeL_dig h1)
theorem decGetL_dig (l : List UInt8) : ∀ c, c ∈ (decGetL l).1.digits → isDig c = true := by
  unfold decGetL
  split
  · intro c hc; cases hc
  · rename_i r hr
    simp only
    split
    · intro c hc; cases hc
    · split
      · intro c hc; cases hc
      · intro c hc
        have h1 : c ∈ trimR r.d := List.dropWhile_subset _ hc
        unfold trimR at h1
        have h2 := List.dropWhile_subset _ (List.mem_reverse.1 h1)
        exact decL_dig hr c (List.mem_reverse.1 h2)

/-- 2 to the power 63. -/
def two63 : Nat := 9223372036854775808

/-- dec.Int: the whole number, and the error (1: no integer, 64: too large). -/
def intL (l : List UInt8) : Int × Int :=
  let x := (decGetL l).1
  if (decGetL l).2 ≠ 0 then (0, (decGetL l).2)
  else if x.exp < 0 then (0, 1)
  else if 19 < (x.digits.length : Int) + x.exp then (0, 64)
  else
    let u := decV (x.digits ++ List.replicate x.exp.toNat 48)
    if x.minus = true ∧ u ≤ two63 then (-(u : Int), 0)
    else if x.minus = false ∧ u < two63 then ((u : Int), 0)
    else (0, 64)

end Go.Proofs.YtlnkjacbdolhnaaGreatDoor


/-
  The plain law: what dec.get and rostrumref04.Get make of a text is the same. No program.
-/
namespace Go.Proofs.YtlnkjacbdolhnaaGreatDoor

/-- parse4 on what is left. -/
def p4 (rest : List UInt8) (m : Bool) (d : List UInt8) (e : Int) : Option Wth := if rest = [] then some (strip m d e) else none
def p3 (rest : List UInt8) (m : Bool) (d : List UInt8) (e : Int) : Option Wth :=
  match rest with
  | [] => some (strip m d e)
  | c :: t =>
    if c.toNat = 101 ∨ c.toNat = 69 then
      if (signP t).2.takeWhile isDig = [] then none
      else p4 ((signP t).2.dropWhile isDig) m d (e + (if (signP t).1 then -1 else 1) * powN ((signP t).2.takeWhile isDig))
    else none
def p2 (rest : List UInt8) (m : Bool) (d : List UInt8) : Option Wth :=
  match rest with
  | [] => p3 [] m d 0
  | c :: t =>
    if c.toNat = 46 then
      if t.takeWhile isDig = [] then none else p3 (t.dropWhile isDig) m (d ++ t.takeWhile isDig) (-((t.takeWhile isDig).length : Int))
    else p3 (c :: t) m d 0
def p1 (rest : List UInt8) (m : Bool) : Option Wth :=
  if wholeOk (rest.takeWhile isDig) then p2 (rest.dropWhile isDig) m (rest.takeWhile isDig) else none

/-! ### The strip of noughts -/
theorem trimR_cons (c : UInt8) (d : List UInt8) : trimR (c :: d) = if isZ c = true ∧ trimR d = [] then [] else c :: trimR d := by
  unfold trimR
  rw [List.reverse_cons, List.dropWhile_append]
  cases hh : (d.reverse.dropWhile isZ).isEmpty
  · have hne : ¬ (d.reverse.dropWhile isZ) = [] := by simpa using hh
    simp [hne]
  · have hem : (d.reverse.dropWhile isZ) = [] := by simpa using hh
    cases hz : isZ c <;> simp [hem, hz]
theorem trimR_drop (d : List UInt8) : (trimR d).dropWhile isZ = trimR (d.dropWhile isZ) := by
  induction d with
  | nil => rfl
  | cons c d ih =>
    rw [trimR_cons]
    cases hz : isZ c
    · simp [hz, trimR_cons]
    · rw [List.dropWhile_cons_of_pos hz, ← ih]
      by_cases h : trimR d = []
      · simp [h]
      · simp [h, hz]
/-! ### The end: the limits -/
def fin (m : Bool) (d : List UInt8) (e : Int) : Wth × Int :=
  if (trimR d).dropWhile isZ = [] then (⟨false, [], 0⟩, 0)
  else if 200 < ((trimR d).dropWhile isZ).length ∨ e + (d.length - (trimR d).length : Nat) < -9999 ∨ 9999 < e + (d.length - (trimR d).length : Nat) then (⟨false, [], 0⟩, 40)
  else (⟨m, (trimR d).dropWhile isZ, e + (d.length - (trimR d).length : Nat)⟩, 0)

theorem decGetL_fin (l : List UInt8) : decGetL l = match decL l with | none => (⟨false, [], 0⟩, 4) | some r => fin r.m r.d r.e := rfl
def endL : Option Wth → Wth × Int
  | none => (⟨false, [], 0⟩, 4)
  | some x => if 200 < x.digits.length ∨ x.exp < -9999 ∨ 9999 < x.exp then (⟨false, [], 0⟩, 40) else (x, 0)
end Go.Proofs.YtlnkjacbdolhnaaGreatDoor


/-
  Words for memory, of no program: a block that is known whole; what of it stays behind draws, new blocks, stores and calls.
-/
namespace Go.Proofs.YtlnkjacbdolhnaaGreatDoor
open Go.RowKit

/-- Block b is just these cells of type t, none of them frozen. -/
def Cel (w : World) (b : Nat) (t : TypeId) (cs : Array Value) : Prop := w.heap[b]? = some (.cells cs t (0, 0))

section
variable {w w' : World} {b : Nat} {t : TypeId} {cs : Array Value}

theorem Cel.lt (h : Cel w b t cs) : b < w.heap.size := by
  rcases Nat.lt_or_ge b w.heap.size with h1 | h1
  · exact h1
  · unfold Cel at h
    rw [Array.getElem?_eq_none h1] at h
    cases h
theorem Cel.cell (h : Cel w b t cs) (i : Nat) : w.cell? ⟨b, i, none⟩ = cs[i]? := by
  unfold Cel at h
  simp [World.cell?, h]
theorem Cel.froz (h : Cel w b t cs) (i : Nat) : w.frozen? ⟨b, i, none⟩ = false := by
  unfold Cel at h
  simp [World.frozen?, h]
theorem Cel.fresh (w : World) (t : TypeId) (cs : Array Value) : Cel (w.alloc (.cells cs t)) w.heap.size t cs := by
  unfold Cel
  show (w.heap.push _)[w.heap.size]? = _
  simp
theorem Cel.drew (h : Cel w b t cs) : Cel w.drew b t cs := h
theorem Cel.drewN (h : Cel w b t cs) (n : Nat) : Cel (w.drewN n) b t cs := h
theorem Cel.alloc (h : Cel w b t cs) (o : Obj) : Cel (w.alloc o) b t cs := (Below.heap_alloc w o b h.lt).trans h
theorem Cel.set (h : Cel w b t cs) (i : Nat) (u : Value) : Cel (w.setCell ⟨b, i, none⟩ u) b t (cs.setIfInBounds i u) := by
  unfold Cel at h ⊢
  simp [World.setCell, Array.getElem?_modify, h]
theorem Cel.away (h : Cel w b t cs) {p : Addr} (hp : b ≠ p.block) (u : Value) : Cel (w.setCell p u) b t cs := (Below.heap_setCell w p u b hp).trans h
theorem Cel.below {B : Nat} (h : Cel w b t cs) (hb : Below B w w') (hg : b < B) : Cel w' b t cs := (hb.block b hg).trans h
end

/-- The facts that a walk asks of a block of three cells. -/
theorem Cel.three {w : World} {b : Nat} {t : TypeId} {x y z : Value} (h : Cel w b t #[x, y, z]) :
    w.cell? ⟨b, 0, none⟩ = some x ∧ w.cell? ⟨b, 1, none⟩ = some y ∧ w.cell? ⟨b, 2, none⟩ = some z ∧
    w.frozen? ⟨b, 0, none⟩ = false ∧ w.frozen? ⟨b, 1, none⟩ = false ∧ w.frozen? ⟨b, 2, none⟩ = false :=
  ⟨h.cell 0, h.cell 1, h.cell 2, h.froz 0, h.froz 1, h.froz 2⟩
/-- A block of three cells that has been written over, cell by cell. -/
theorem Cel.over3 {w : World} {b : Nat} {t : TypeId} {x y z x' y' z' : Value} (h : Cel w b t #[x, y, z]) :
    Cel (((w.setCell ⟨b, 0, none⟩ x').setCell ⟨b, 1, none⟩ y').setCell ⟨b, 2, none⟩ z') b t #[x', y', z'] := ((h.set 0 x').set 1 y').set 2 z'
theorem bel_drewN {B : Nat} {a w : World} (h : Below B a w) (n : Nat) : Below B a (w.drewN n) := ⟨h.os, h.tape, h.output, h.size, h.block⟩

/-- A frame read back as a function of its slots: what a cut's relation asks. -/
theorem meetF {a : Act} {F : (Nat → Value) → Array Value} {X : Prop} (h1 : a = ⟨F (fun k => a.tmps.getD k undef), []⟩) (h2 : X) : ∃ u, a = ⟨F u, []⟩ ∧ X := ⟨_, h1, h2⟩
end Go.Proofs.YtlnkjacbdolhnaaGreatDoor
