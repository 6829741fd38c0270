/-
  The walk of the document's Same over JSON values.
-/
import Derived.Test.YtghaoielnphhlaaGreatDoorM00
import Derived.BigQuiet
import Derived.Lib.Strings
import Derived.Deep.QuietTactic
import Derived.Deep.RegionHeld3
import Derived.Lib.Hide
import Derived.Lib.Atoi
namespace Go.Proofs.YtghaoielnphhlaaGreatDoor
open Go.RowKit

theorem jtl_eq (s : ByteArray) : s.toList = s.data.toList := Go.Lib.toList_data s
theorem jstr_ext {a b : ByteArray} (h : a.data.toList = b.data.toList) : a = b := by
  cases a; cases b
  simp only [ByteArray.mk.injEq]
  exact Array.toList_inj.1 h
theorem jeq_f {a b : ByteArray} (h : a ≠ b) : (a.toList == b.toList) = false := by
  rw [jtl_eq, jtl_eq]
  cases h2 : (a.data.toList == b.data.toList) with
  | false => rfl
  | true => exact absurd (jstr_ext (eq_of_beq h2)) h
theorem StrL.at {w wr : World} {X : Nat → Prop} {L : List ByteArray} {A : Option Addr} {c n : Nat} (h : StrL w X (.slice A n c) L) (hB : Below w.heap.size w wr) {i : Nat} (hi : i < L.length) :
    ∃ g o, A = some ⟨g, o, none⟩ ∧ wr.cell? ⟨g, o + i, none⟩ = some (.string L[i]) := by
  obtain ⟨A', c', he, h1⟩ := h
  injection he with he1 _ _
  subst he1
  obtain ⟨g, o, q1, _, q3, q4⟩ := h1 (by omega)
  exact ⟨g, o, q1, (hB.cell (p := ⟨g, o + i, none⟩) q3).trans (q4 i _ (List.getElem?_eq_getElem hi))⟩
theorem StrL.len {w : World} {X : Nat → Prop} {v : Value} {L : List ByteArray} (h : StrL w X v L) : ∃ A c, v = .slice A L.length c := by
  obtain ⟨A, c, h1, _⟩ := h
  exact ⟨A, c, h1⟩

theorem js_kind {k s n l k' s' n' l'} (h : k ≠ k') : jsame ⟨k, s, n, l⟩ ⟨k', s', n', l'⟩ = false := by
  rw [jsame_eq1]; simp [h]
theorem js_text {k s n l k' s' n' l'} (h : s ≠ s') : jsame ⟨k, s, n, l⟩ ⟨k', s', n', l'⟩ = false := by
  rw [jsame_eq1]; simp [h]
theorem js_names {k s n l k' s' n' l'} (h : n ≠ n') : jsame ⟨k, s, n, l⟩ ⟨k', s', n', l'⟩ = false := by
  rw [jsame_eq1]; simp [h]
theorem js_len {k s n l k' s' n' l'} (h : l.length ≠ l'.length) : jsame ⟨k, s, n, l⟩ ⟨k', s', n', l'⟩ = false := by
  rw [jsame_eq1]; simp [h]
theorem js_list {k s n l l'} (h : l.length = l'.length) : jsame ⟨k, s, n, l⟩ ⟨k, s, n, l'⟩ = (l.zip l').all fun p => jsame p.1 p.2 := by
  rw [jsame_eq1]; simp [h]
/-- How far two lists are the same, item by item. -/
def sameTo (zs ys : List JE) (q : Nat) : Bool := ((zs.zip ys).take q).all fun p => jsame p.1.1 p.2.1
theorem sameTo_step {zs ys : List JE} {q : Nat} {z y : JE} (h1 : zs[q]? = some z) (h2 : ys[q]? = some y) : sameTo zs ys (q + 1) = (sameTo zs ys q && jsame z.1 y.1) := by
  unfold sameTo
  have h3 : (zs.zip ys)[q]? = some (z, y) := List.getElem?_zip_eq_some.2 ⟨h1, h2⟩
  rw [List.take_add_one, h3]
  simp
theorem sameTo_full (zs ys : List JE) : sameTo zs ys (max zs.length ys.length) = ((zs.map (·.1)).zip (ys.map (·.1))).all fun p => jsame p.1 p.2 := by
  unfold sameTo
  rw [List.take_of_length_le (by rw [List.length_zip]; omega), List.zip_map, List.all_map]
  rfl
theorem sameTo_false {zs ys : List JE} {q : Nat} (h : sameTo zs ys q = false) : (((zs.map (·.1)).zip (ys.map (·.1))).all fun p => jsame p.1 p.2) = false := by
  rw [← sameTo_full]
  unfold sameTo at h ⊢
  rw [List.take_of_length_le (by rw [List.length_zip]; omega)]
  rw [List.all_eq_false] at h ⊢
  obtain ⟨p, hp, hn⟩ := h
  exact ⟨p, List.mem_of_mem_take hp, hn⟩

def SameSays (f : Nat) (a : Jsn) : Prop := ∀ (b : Jsn) (X Y : Nat → Prop) (w : World) (vn vl un ul : Value), JV w X a vn vl → JV w Y b un ul → jbulk a ≤ 1000000000000000 → jbulk b ≤ 1000000000000000 →
    Calls Tryz.prog f #[.agg #[.int .u8 a.kind, .string a.text, vn, vl], .agg #[.int .u8 b.kind, .string b.text, un, ul]] w fun e w' => e = .returned (.bool (jsame a b)) ∧ Below w.heap.size w w'

end Go.Proofs.YtghaoielnphhlaaGreatDoor


/-
  Plain facts on lists and bytes: how long the run of bytes at the head of a list is that meet a test. No program.
-/
namespace Go.Proofs.YtghaoielnphhlaaGreatDoor

/-- How many elements at the head meet p. -/
def twl {α : Type} (p : α → Bool) (l : List α) : Nat := (l.takeWhile p).length

theorem twl_le {α : Type} (p : α → Bool) (l : List α) : twl p l ≤ l.length := by
  induction l with
  | nil => simp [twl]
  | cons a l ih =>
    unfold twl at *
    by_cases h : p a = true
    · simp [h]; omega
    · simp [h]

theorem twl_step {α : Type} (p : α → Bool) : ∀ (l : List α) (k : Nat) (c : α), k ≤ twl p l → l[k]? = some c → p c = true → k + 1 ≤ twl p l
  | [], k, c, _, h, _ => by simp at h
  | a :: l, 0, c, _, h, hp => by
    simp at h; subst h
    simp [twl, hp]
  | a :: l, k + 1, c, hk, h, hp => by
    simp at h
    by_cases ha : p a = true
    · have h1 : twl p (a :: l) = twl p l + 1 := by simp [twl, ha]
      rw [h1] at hk ⊢
      have := twl_step p l k c (by omega) h hp
      omega
    · have h1 : twl p (a :: l) = 0 := by simp [twl, ha]
      omega

theorem twl_stop {α : Type} (p : α → Bool) : ∀ (l : List α) (k : Nat) (c : α), k ≤ twl p l → l[k]? = some c → p c = false → twl p l = k
  | [], k, c, _, h, _ => by simp at h
  | a :: l, 0, c, _, h, hp => by
    simp at h; subst h
    simp [twl, hp]
  | a :: l, k + 1, c, hk, h, hp => by
    simp at h
    by_cases ha : p a = true
    · have h1 : twl p (a :: l) = twl p l + 1 := by simp [twl, ha]
      rw [h1] at hk ⊢
      have := twl_stop p l k c (by omega) h hp
      omega
    · have h1 : twl p (a :: l) = 0 := by simp [twl, ha]
      omega

theorem twl_end {α : Type} (p : α → Bool) (l : List α) (k : Nat) (hk : k ≤ twl p l) (h : l.length ≤ k) : twl p l = k := by
  have := twl_le p l
  omega

/-- The byte at a place of a string, and of its list. -/
theorem bytes_at (s : ByteArray) (i : Nat) (h : i < s.size) : s.data.toList[i]? = some s[i] := by
  have h' : i < s.data.size := h
  rw [Array.getElem?_toList, Array.getElem?_eq_getElem h']
  rfl

theorem bytes_len (s : ByteArray) : s.data.toList.length = s.size := by rw [Array.length_toList]; rfl

def isDig (c : UInt8) : Bool := decide (48 ≤ c.toNat) && decide (c.toNat ≤ 57)
theorem isDig_t {c : UInt8} (h : isDig c = true) : 48 ≤ c.toNat ∧ c.toNat ≤ 57 := by simpa [isDig] using h
/-- How many digits stand at a place. -/
def runN (l : List UInt8) (i : Nat) : Nat := twl isDig (l.drop i)

theorem runN_le (l : List UInt8) (i : Nat) (h : i ≤ l.length) : i + runN l i ≤ l.length := by
  have := twl_le isDig (l.drop i)
  simp at this
  unfold runN; omega
theorem runN_step (l : List UInt8) (i k : Nat) (c : UInt8) (hk : k ≤ runN l i) (h : l[i + k]? = some c) (hp : isDig c = true) : k + 1 ≤ runN l i :=
  twl_step isDig _ k c hk (by simpa using h) hp
theorem runN_stop (l : List UInt8) (i k : Nat) (c : UInt8) (hk : k ≤ runN l i) (h : l[i + k]? = some c) (hp : isDig c = false) : runN l i = k :=
  twl_stop isDig _ k c hk (by simpa using h) hp
theorem runN_end (l : List UInt8) (i k : Nat) (hk : k ≤ runN l i) (h : l.length ≤ i + k) : runN l i = k :=
  twl_end isDig _ k hk (by simp; omega)
theorem runN_dig (l : List UInt8) (i : Nat) : ∀ j, j < runN l i → ∃ c, l[i + j]? = some c ∧ isDig c = true := by
  intro j hj
  unfold runN twl at hj
  have h1 : ((l.drop i).takeWhile isDig)[j]? = some ((l.drop i).takeWhile isDig)[j] := List.getElem?_eq_getElem hj
  refine ⟨((l.drop i).takeWhile isDig)[j], ?_, ?_⟩
  · have h2 : (l.drop i)[j]? = ((l.drop i).takeWhile isDig ++ (l.drop i).dropWhile isDig)[j]? := by rw [List.takeWhile_append_dropWhile]
    rw [← List.getElem?_drop, h2, List.getElem?_append_left hj, h1]
  · have hm : ((l.drop i).takeWhile isDig)[j] ∈ (l.drop i).takeWhile isDig := List.getElem_mem hj
    have := List.all_takeWhile (p := isDig) (l := l.drop i)
    rw [List.all_eq_true] at this
    exact this _ hm
end Go.Proofs.YtghaoielnphhlaaGreatDoor


/-
  What rostrumref04 makes of a decimal's text, as plain functions on lists of bytes: parse in four stages, and the strip of noughts.
-/
namespace Go.Proofs.YtghaoielnphhlaaGreatDoor

/-- A worth. -/
structure Wth where
  minus : Bool
  digits : List UInt8
  exp : Int
  deriving DecidableEq

/-- A numeral's worth, read on from n, and read no further once it is 100000000 or more. -/
def powTo (n : Int) : List UInt8 → Int
  | [] => n
  | c :: l => if n < 100000000 then powTo (n * 10 + c.toNat - 48) l else n

theorem powTo_big {n : Int} (l : List UInt8) (h : ¬ n < 100000000) : powTo n l = n := by
  cases l with
  | nil => rfl
  | cons c l => simp [powTo, h]
theorem drop_cons_at {l : List UInt8} {k : Nat} {c : UInt8} (h : l[k]? = some c) : l.drop k = c :: l.drop (k + 1) := by
  have hk : k < l.length := by
    rcases Nat.lt_or_ge k l.length with h1 | h1
    · exact h1
    · rw [List.getElem?_eq_none h1] at h; cases h
  rw [List.drop_eq_getElem_cons hk]
  rw [List.getElem?_eq_getElem hk] at h
  injection h with h
  rw [h]
theorem powTo_drop (n : Int) (l : List UInt8) (k : Nat) (c : UInt8) (h : l[k]? = some c) (hn : n < 100000000) : powTo n (l.drop k) = powTo (n * 10 + c.toNat - 48) (l.drop (k + 1)) := by
  rw [drop_cons_at h, powTo, if_pos hn]
theorem powTo_end (n : Int) (l : List UInt8) (k : Nat) (h : l.length ≤ k) : powTo n (l.drop k) = n := by
  rw [List.drop_eq_nil_of_le h]; rfl

/-- What rostrumref04.power makes of digits. -/
def powN (l : List UInt8) : Int := powTo 0 l

theorem powTo_bd : ∀ (l : List UInt8) (n : Int), (∀ c, c ∈ l → isDig c = true) → 0 ≤ n → n ≤ 1000000000 → 0 ≤ powTo n l ∧ powTo n l ≤ 1000000000
  | [], n, _, h0, h1 => ⟨h0, h1⟩
  | c :: l, n, h, h0, h1 => by
    unfold powTo
    have hd := isDig_t (h c (by simp))
    split
    · exact powTo_bd l _ (fun c hc => h c (by simp [hc])) (by omega) (by omega)
    · exact ⟨h0, h1⟩
theorem powN_bd (l : List UInt8) (h : ∀ c, c ∈ l → isDig c = true) : 0 ≤ powN l ∧ powN l ≤ 1000000000 := powTo_bd l 0 h (by omega) (by omega)

def isZ (c : UInt8) : Bool := decide (c.toNat = 48)

/-- How many noughts stand at the end. -/
def tz (d : List UInt8) : Nat := twl isZ d.reverse

/-- The noughts at both ends go; those at the end raise the power. -/
def strip (m : Bool) (d : List UInt8) (e : Int) : Wth :=
  let d1 := d.drop (twl isZ d)
  let d2 := d1.take (d1.length - tz d1)
  if d2 = [] then ⟨false, [], 0⟩ else ⟨m, d2, e + tz d1⟩

theorem strip_of (m : Bool) (D : List UInt8) (e : Int) {f z : Nat} {E : List UInt8} (hf : twl isZ D = f) (hz : tz (D.drop f) = z) (hE : E = (D.drop f).take ((D.drop f).length - z)) :
    strip m D e = if E = [] then ⟨false, [], 0⟩ else ⟨m, E, e + z⟩ := by
  subst hf hz hE; rfl

def parse4 (l : List UInt8) (m : Bool) (d : List UInt8) (e : Int) (i : Nat) : Option Wth :=
  if i ≠ l.length then none else some (strip m d e)

/-- Does this byte stand there? -/
def isAt (l : List UInt8) (i : Nat) (n : Nat) : Bool := (l[i]?.map (·.toNat)) == some n

/-- The sign of a power: 43 and 45 are passed over. -/
def powSign (l : List UInt8) (i : Nat) : Int × Nat :=
  if isAt l i 45 then (-1, i + 1) else if isAt l i 43 then (1, i + 1) else (1, i)

def parse3b (l : List UInt8) (m : Bool) (d : List UInt8) (e : Int) (sg : Int) (j : Nat) : Option Wth :=
  let n := runN l j
  if n = 0 then none else parse4 l m d (e + sg * powN ((l.drop j).take n)) (j + n)

def parse3 (l : List UInt8) (m : Bool) (d : List UInt8) (e : Int) (i : Nat) : Option Wth :=
  if isAt l i 101 || isAt l i 69 then parse3b l m d e (powSign l (i + 1)).1 (powSign l (i + 1)).2
  else parse4 l m d e i

def parse2 (l : List UInt8) (m : Bool) (d : List UInt8) (i : Nat) : Option Wth :=
  if isAt l i 46 then
    let n := runN l (i + 1)
    if n = 0 then none else parse3 l m (d ++ (l.drop (i + 1)).take n) (-(n : Int)) (i + 1 + n)
  else parse3 l m d 0 i

def parse1 (l : List UInt8) (m : Bool) (i : Nat) : Option Wth :=
  let n := runN l i
  if n = 0 then none
  else if decide (1 < n) && isAt l i 48 then none
  else parse2 l m ((l.drop i).take n) (i + n)

/-- rostrumref04.parse. -/
def parseL (l : List UInt8) : Option Wth := if isAt l 0 45 then parse1 l true 1 else parse1 l false 0

/-- rostrumref04.Get: the worth, and the error (0: none, 4: no decimal, 40: too large). -/
def getL (l : List UInt8) : Wth × Int :=
  match parseL l with
  | none => (⟨false, [], 0⟩, 4)
  | some x => if 200 < x.digits.length ∨ x.exp < -9999 ∨ 9999 < x.exp then (⟨false, [], 0⟩, 40) else (x, 0)

theorem isAt_t {l : List UInt8} {i n : Nat} {c : UInt8} (h : l[i]? = some c) (hc : c.toNat = n) : isAt l i n = true := by simp [isAt, h, hc]
theorem isAt_f {l : List UInt8} {i n : Nat} {c : UInt8} (h : l[i]? = some c) (hc : ¬ c.toNat = n) : isAt l i n = false := by simp [isAt, h, hc]
theorem isAt_none {l : List UInt8} {i n : Nat} (h : l.length ≤ i) : isAt l i n = false := by simp [isAt, List.getElem?_eq_none h]
theorem isAt_lt {l : List UInt8} {i n : Nat} (h : isAt l i n = true) : i < l.length := by
  rcases Nat.lt_or_ge i l.length with h1 | h1
  · exact h1
  · rw [isAt_none h1] at h; cases h
theorem isAt_byte {l : List UInt8} {i n : Nat} {c : UInt8} (h : l[i]? = some c) : isAt l i n = decide ((c.toNat : Int) = n) := by
  unfold isAt
  rw [h, Bool.eq_iff_iff]
  simp
  omega
theorem isZ_beq (c : UInt8) : isZ c = ((c.toNat : Int) == 48) := by
  unfold isZ; rw [Bool.eq_iff_iff]; simp; omega
theorem tz_at (D : List UInt8) (f j : Nat) (hj : f + j < D.length) : (D.drop f).reverse[j]? = D[D.length - 1 - j]? := by
  rw [List.getElem?_reverse (by simp; omega), List.getElem?_drop]
  congr 1
  simp
  omega
theorem tz_step (D : List UInt8) (f j : Nat) (c : UInt8) (hj : f + j < D.length) (hk : j ≤ tz (D.drop f)) (h : D[D.length - 1 - j]? = some c) (hz : isZ c = true) : j + 1 ≤ tz (D.drop f) :=
  twl_step isZ _ j c hk (by rw [tz_at D f j hj, h]) hz
theorem tz_stop (D : List UInt8) (f j : Nat) (c : UInt8) (hj : f + j < D.length) (hk : j ≤ tz (D.drop f)) (h : D[D.length - 1 - j]? = some c) (hz : isZ c = false) : tz (D.drop f) = j :=
  twl_stop isZ _ j c hk (by rw [tz_at D f j hj, h]) hz
theorem tz_end (D : List UInt8) (f j : Nat) (hj : D.length ≤ f + j) (hk : j ≤ tz (D.drop f)) : tz (D.drop f) = j :=
  twl_end isZ _ j hk (by simp; omega)
theorem tz_le (D : List UInt8) : tz D ≤ D.length := by
  have := twl_le isZ D.reverse
  simpa [tz] using this
theorem bytes_mk (b : ByteArray) : (⟨b.data.toList.toArray⟩ : ByteArray) = b := by cases b; rfl
theorem isAt_beq {l : List UInt8} {i n : Nat} {c : UInt8} (h : l[i]? = some c) : isAt l i n = ((c.toNat : Int) == n) := by
  rw [isAt_byte h, Bool.eq_iff_iff]; simp
/-! ### The program's own reader, state by state -/

/-- What the reader holds. -/
structure Rst where
  s : List UInt8
  m : Bool
  d : List UInt8
  e : Int

/-- The sign, if there is one, and what stands behind it. -/
def signL : List UInt8 → Bool × List UInt8
  | [] => (false, [])
  | c :: t => if c.toNat = 45 then (true, t) else (false, c :: t)

/-- May these digits stand ahead of the point? -/
def wholeOk : List UInt8 → Bool
  | [] => false
  | c :: t => t.isEmpty || decide (¬ c.toNat = 48)

def wholeL (l : List UInt8) : Option Rst :=
  let g := (signL l).2.takeWhile isDig
  if wholeOk g then some ⟨(signL l).2.dropWhile isDig, (signL l).1, g, 0⟩ else none

def partL (r : Rst) : Option Rst :=
  match r.s with
  | [] => some r
  | c :: t =>
    if c.toNat = 46 then
      let g := t.takeWhile isDig
      if g = [] then none else some ⟨t.dropWhile isDig, r.m, r.d ++ g, r.e - g.length⟩
    else some r

/-- A numeral of digits. -/
def numL : Int → List UInt8 → Int
  | n, [] => n
  | n, c :: t => numL (n * 10 + c.toNat - 48) t

/-- What power makes of the digits behind the e. -/
def powL (g : List UInt8) : Int :=
  let h := g.dropWhile isZ
  if h.length < 9 then numL 0 h else 1073741824

def signP : List UInt8 → Bool × List UInt8
  | [] => (false, [])
  | c :: t => if c.toNat = 45 then (true, t) else if c.toNat = 43 then (false, t) else (false, c :: t)

def powerL (r : Rst) : Option Rst :=
  match r.s with
  | [] => some r
  | c :: t =>
    if c.toNat = 101 ∨ c.toNat = 69 then
      let g := (signP t).2.takeWhile isDig
      if g = [] ∨ ¬ (signP t).2.dropWhile isDig = [] then none
      else some ⟨[], r.m, r.d, r.e + (if (signP t).1 then -(powL g) else powL g)⟩
    else none

theorem numL_bd : ∀ (l : List UInt8) (n : Int), (∀ c, c ∈ l → isDig c = true) → 0 ≤ n → 0 ≤ numL n l ∧ numL n l < (n + 1) * 10 ^ l.length
  | [], n, _, h0 => by simp [numL]; omega
  | c :: l, n, h, h0 => by
    have hd := isDig_t (h c (by simp))
    have ih := numL_bd l (n * 10 + c.toNat - 48) (fun x hx => h x (by simp [hx])) (by omega)
    refine ⟨by unfold numL; exact ih.1, ?_⟩
    unfold numL
    refine Int.lt_of_lt_of_le ih.2 ?_
    rw [List.length_cons, Int.pow_succ, Int.mul_comm ((10 : Int) ^ l.length) 10, ← Int.mul_assoc]
    exact Int.mul_le_mul_of_nonneg_right (by omega) (Int.pow_nonneg (by omega))
theorem numL_small (l : List UInt8) (h : ∀ c, c ∈ l → isDig c = true) (hl : l.length < 9) : 0 ≤ numL 0 l ∧ numL 0 l < 100000000 := by
  have h1 := numL_bd l 0 h (by omega)
  have h2 : (10 : Int) ^ l.length ≤ 10 ^ 8 := by
    have : (10 : Nat) ^ l.length ≤ 10 ^ 8 := Nat.pow_le_pow_right (by omega) (by omega)
    exact_mod_cast this
  refine ⟨h1.1, ?_⟩
  have h3 := h1.2
  have h4 : (10 : Int) ^ 8 = 100000000 := by decide
  omega
theorem decFrom_num : ∀ (l : List UInt8) (acc : Nat), (∀ c, c ∈ l → isDig c = true) → ∃ m : Nat, Go.Lib.decFrom acc l = some m ∧ (m : Int) = numL acc l
  | [], acc, _ => ⟨acc, rfl, rfl⟩
  | c :: l, acc, h => by
    have hd := isDig_t (h c (by simp))
    obtain ⟨m, h1, h2⟩ := decFrom_num l (acc * 10 + (c.toNat - 48)) (fun x hx => h x (by simp [hx]))
    refine ⟨m, ?_, ?_⟩
    · unfold Go.Lib.decFrom
      simp only [Go.Lib.digitVal, hd, and_self, if_true]
      exact h1
    · rw [h2]
      have e : ((acc * 10 + (c.toNat - 48) : Nat) : Int) = (acc : Int) * 10 + c.toNat - 48 := by omega
      rw [e]
      rfl
theorem atoi_zero (l : List UInt8) (h : ∀ c, c ∈ l → isDig c = true) : Go.Lib.atoi (48 :: l) = some (numL 0 l) := by
  obtain ⟨m, h1, h2⟩ := decFrom_num l 0 h
  have e1 : Go.Lib.decNat (48 :: l) = some m := by
    unfold Go.Lib.decNat
    simp only [List.isEmpty_cons, Bool.false_eq_true, if_false]
    unfold Go.Lib.decFrom
    exact h1
  unfold Go.Lib.atoi
  simp only [show ((48 : UInt8) == 45) = false by decide, show ((48 : UInt8) == 43) = false by decide, Bool.false_eq_true, if_false, e1, Option.map_some]
  rw [h2]; rfl
theorem mem_takeWhile_dig {l : List UInt8} {c : UInt8} (h : c ∈ l.takeWhile isDig) : isDig c = true := by
  have := List.all_takeWhile (p := isDig) (l := l)
  rw [List.all_eq_true] at this
  exact this _ h

def decL (l : List UInt8) : Option Rst := (wholeL l).bind fun r => (partL r).bind powerL

theorem dropWhile_length_le {p : UInt8 → Bool} (l : List UInt8) : (l.dropWhile p).length ≤ l.length := by
  have h := congrArg List.length (List.takeWhile_append_dropWhile (p := p) (l := l))
  rw [List.length_append] at h
  omega
theorem takeDrop_length {p : UInt8 → Bool} (l : List UInt8) : (l.takeWhile p).length + (l.dropWhile p).length = l.length := by
  have h := congrArg List.length (List.takeWhile_append_dropWhile (p := p) (l := l))
  rwa [List.length_append] at h
theorem signL_len (l : List UInt8) : (signL l).2.length ≤ l.length := by
  unfold signL; split
  · simp
  · split <;> simp
theorem wholeL_bd {l : List UInt8} {r : Rst} (h : wholeL l = some r) : r.s.length + r.d.length ≤ l.length ∧ r.e = 0 := by
  unfold wholeL at h
  simp only at h
  split at h
  · injection h with h
    subst h
    have h1 := takeDrop_length (p := isDig) (signL l).2
    have h2 := signL_len l
    exact ⟨by simp only; omega, rfl⟩
  · cases h
theorem partL_bd {r r' : Rst} (h : partL r = some r') : r'.s.length ≤ r.s.length ∧ r'.d.length ≤ r.d.length + r.s.length ∧ r.e - r.s.length ≤ r'.e ∧ r'.e ≤ r.e := by
  unfold partL at h
  split at h
  · injection h with h
    subst h
    omega
  · rename_i c t hs
    rw [hs]
    split at h
    · simp only at h
      split at h
      · cases h
      · injection h with h
        subst h
        have h1 := takeDrop_length (p := isDig) t
        simp only [List.length_append, List.length_cons]
        omega
    · injection h with h
      subst h
      rw [hs]
      simp only [List.length_cons]
      omega
theorem powL_bd {g : List UInt8} (h : ∀ c, c ∈ g → isDig c = true) : 0 ≤ powL g ∧ powL g ≤ 1073741824 := by
  unfold powL
  simp only
  split
  · rename_i h9
    have := numL_small (g.dropWhile isZ) (fun c hc => h c (List.dropWhile_subset _ hc)) h9
    omega
  · omega
theorem powerL_bd {r r' : Rst} (h : powerL r = some r') : r'.d = r.d ∧ r.e - 1073741824 ≤ r'.e ∧ r'.e ≤ r.e + 1073741824 := by
  unfold powerL at h
  split at h
  · injection h with h
    subst h
    exact ⟨rfl, by omega, by omega⟩
  · split at h
    · rename_i c t hs _
      simp only at h
      split at h
      · cases h
      · injection h with h
        have hb := powL_bd (g := (signP t).2.takeWhile isDig) (fun c hc => mem_takeWhile_dig hc)
        subst h
        refine ⟨rfl, ?_⟩
        simp only
        split <;> omega
    · cases h
theorem decL_bd {l : List UInt8} {r : Rst} (h : decL l = some r) : r.d.length ≤ 2 * l.length ∧ -1073741824 - (l.length : Int) ≤ r.e ∧ r.e ≤ 1073741824 := by
  unfold decL at h
  rw [Option.bind_eq_some_iff] at h
  obtain ⟨r1, h1, h2⟩ := h
  rw [Option.bind_eq_some_iff] at h2
  obtain ⟨r2, h2, h3⟩ := h2
  have a := wholeL_bd h1
  have b := partL_bd h2
  have c := powerL_bd h3
  rw [c.1]
  omega

/-- The noughts at the end go. -/
def trimR (d : List UInt8) : List UInt8 := (d.reverse.dropWhile isZ).reverse

/-- dec.get: the worth, and the error (0: none, 4: no decimal, 40: too large). -/
def decGetL (l : List UInt8) : Wth × Int :=
  match decL l with
  | none => (⟨false, [], 0⟩, 4)
  | some r =>
    let d := (trimR r.d).dropWhile isZ
    let e := r.e + (r.d.length - (trimR r.d).length : Nat)
    if d = [] then (⟨false, [], 0⟩, 0)
    else if 200 < d.length ∨ e < -9999 ∨ 9999 < e then (⟨false, [], 0⟩, 40) else (⟨r.m, d, e⟩, 0)

/-! ### Whole numbers -/

/-- The number that digits spell. -/
def decV (l : List UInt8) : Nat := l.foldl (fun n c => n * 10 + (c.toNat - 48)) 0

theorem decV_snoc (l : List UInt8) (c : UInt8) : decV (l ++ [c]) = decV l * 10 + (c.toNat - 48) := by simp [decV]
theorem take_snoc_at {l : List UInt8} {k : Nat} {c : UInt8} (h : l[k]? = some c) : l.take (k + 1) = l.take k ++ [c] := by
  have hk : k < l.length := by
    rcases Nat.lt_or_ge k l.length with h1 | h1
    · exact h1
    · rw [List.getElem?_eq_none h1] at h; cases h
  rw [List.take_succ_eq_append_getElem hk]
  rw [List.getElem?_eq_getElem hk] at h
  injection h with h
  rw [h]
theorem decV_step {l : List UInt8} {k : Nat} {c : UInt8} (h : l[k]? = some c) : decV (l.take (k + 1)) = decV (l.take k) * 10 + (c.toNat - 48) := by
  rw [take_snoc_at h, decV_snoc]
theorem foldl_lt : ∀ (l : List UInt8) (n k : Nat), (∀ c, c ∈ l → isDig c = true) → n < 10 ^ k → l.foldl (fun n c => n * 10 + (c.toNat - 48)) n < 10 ^ (k + l.length)
  | [], n, k, _, h => h
  | c :: l, n, k, hd, h => by
    have h1 := isDig_t (hd c (by simp))
    have := foldl_lt l (n * 10 + (c.toNat - 48)) (k + 1) (fun x hx => hd x (by simp [hx])) (by rw [Nat.pow_succ]; omega)
    rw [show k + (c :: l).length = k + 1 + l.length by simp; omega]
    exact this
theorem decV_lt (l : List UInt8) (h : ∀ c, c ∈ l → isDig c = true) : decV l < 10 ^ l.length := by
  have := foldl_lt l 0 0 h (by decide)
  rwa [Nat.zero_add] at this

theorem wholeL_dig {l : List UInt8} {r : Rst} (h : wholeL l = some r) : ∀ c, c ∈ r.d → isDig c = true := by
  unfold wholeL at h
  simp only at h
  split at h
  · injection h with h
    subst h
    exact fun c hc => mem_takeWhile_dig hc
  · cases h
theorem partL_dig {r r' : Rst} (h : partL r = some r') (hd : ∀ c, c ∈ r.d → isDig c = true) : ∀ c, c ∈ r'.d → isDig c = true := by
  unfold partL at h
  split at h
  · injection h with h
    subst h; exact hd
  · split at h
    · simp only at h
      split at h
      · cases h
      · injection h with h
        subst h
        intro c hc
        simp only [List.mem_append] at hc
        exact hc.elim (hd c) (fun hc => mem_takeWhile_dig hc)
    · injection h with h
      subst h; exact hd
theorem decL_dig {l : List UInt8} {r : Rst} (h : decL l = some r) : ∀ c, c ∈ r.d → isDig c = true := by
  unfold decL at h
  rw [Option.bind_eq_some_iff] at h
  obtain ⟨r1, h1, h2⟩ := h
  rw [Option.bind_eq_some_iff] at h2
  obtain ⟨r2, h2, h3⟩ := h2
  rw [(powerL_bd h3).1]
  exact partL_dig h2 (wholeL_dig h1)
theorem decGetL_dig (l : List UInt8) : ∀ c, c ∈ (decGetL l).1.digits → isDig c = true := by
  unfold decGetL
  split
  · intro c hc; cases hc
  · rename_i r hr
    simp only
    split
    · intro c hc; cases hc
    · split
      · intro c hc; cases hc
      · intro c hc
        have h1 : c ∈ trimR r.d := List.dropWhile_subset _ hc
        unfold trimR at h1
        have h2 := List.dropWhile_subset _ (List.mem_reverse.1 h1)
        exact decL_dig hr c (List.mem_reverse.1 h2)

/-- 2 to the power 63. -/
def two63 : Nat := 9223372036854775808

/-- dec.Int: the whole number, and the error (1: no integer, 64: too large). -/
def intL (l : List UInt8) : Int × Int :=
  let x := (decGetL l).1
  if (decGetL l).2 ≠ 0 then (0, (decGetL l).2)
  else if x.exp < 0 then (0, 1)
  else if 19 < (x.digits.length : Int) + x.exp then (0, 64)
  else
    let u := decV (x.digits ++ List.replicate x.exp.toNat 48)
    if x.minus = true ∧ u ≤ two63 then (-(u : Int), 0)
    else if x.minus = false ∧ u < two63 then ((u : Int), 0)
    else (0, 64)

theorem intL_of {l : List UInt8} {m : Bool} {dd : List UInt8} {k U : Nat} (h : decGetL l = (⟨m, dd, (k : Int)⟩, 0)) (hs : dd.length + k ≤ 19) (hU : decV (dd ++ List.replicate k 48) = U) :
    (m = true → U ≤ two63 → intL l = (-(U : Int), 0)) ∧ (m = true → two63 < U → intL l = (0, 64)) ∧ (m = false → U < two63 → intL l = ((U : Int), 0)) ∧ (m = false → two63 ≤ U → intL l = (0, 64)) := by
  have e : intL l = if m = true ∧ U ≤ two63 then (-(U : Int), 0) else if m = false ∧ U < two63 then ((U : Int), 0) else (0, 64) := by
    unfold intL
    rw [h]
    simp only [ne_eq, not_true_eq_false, if_false, Int.toNat_natCast]
    rw [if_neg (by omega), if_neg (by omega), hU]
  rw [e]
  refine ⟨?_, ?_, ?_, ?_⟩
  · rintro rfl h1; rw [if_pos ⟨rfl, h1⟩]
  · rintro rfl h1; rw [if_neg (fun hh => absurd hh.2 (by omega)), if_neg (fun hh => by cases hh.1)]
  · rintro rfl h1; rw [if_neg (fun hh => by cases hh.1), if_pos ⟨rfl, h1⟩]
  · rintro rfl h1; rw [if_neg (fun hh => by cases hh.1), if_neg (fun hh => absurd hh.2 (by omega))]
theorem le63 {U : Nat} (h : (U : Int) ≤ 9223372036854775808) : U ≤ two63 := by unfold two63; omega
theorem lt63 {U : Nat} (h : (U : Int) < 9223372036854775808) : U < two63 := by unfold two63; omega
theorem ge63 {U : Nat} (h : ¬ (U : Int) < 9223372036854775808) : two63 ≤ U := by unfold two63; omega
theorem gt63 {U : Nat} (h : ¬ (U : Int) ≤ 9223372036854775808) : two63 < U := by unfold two63; omega
end Go.Proofs.YtghaoielnphhlaaGreatDoor
