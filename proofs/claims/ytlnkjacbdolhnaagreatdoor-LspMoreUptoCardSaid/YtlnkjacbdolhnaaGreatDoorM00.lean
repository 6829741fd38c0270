/-
  JSON values as plain data, and what the document says of them. No program.
-/
import Derived.Lib.Hide
import Derived.Lib.Atoi
import Derived.Below
import Derived.Laws.OwnMore
import Derived.Deep.Draws
import Derived.Laws.Rows
import Derived.WalkKit
import Derived.Laws.AppendOwn
import Derived.Maps.AppendAt
namespace Go.Proofs.YtlnkjacbdolhnaaGreatDoor

/-- A value: its kind, its text, its names, its list. -/
structure Jsn where
  kind : Int
  text : ByteArray
  names : List ByteArray
  list : List Jsn

/-- Recursion over the values within. -/
def Jsn.para {α : Type} (f : Int → ByteArray → List ByteArray → List (Jsn × α) → α) : Jsn → α
  | ⟨k, s, n, l⟩ => f k s n (l.attach.map fun ⟨x, _⟩ => (x, Jsn.para f x))
theorem Jsn.para_eq {α : Type} (f : Int → ByteArray → List ByteArray → List (Jsn × α) → α) (k : Int) (s : ByteArray) (n : List ByteArray) (l : List Jsn) :
    Jsn.para f ⟨k, s, n, l⟩ = f k s n (l.map fun x => (x, Jsn.para f x)) := by
  rw [Jsn.para]
  congr 1
  rw [← List.attach_map_subtype_val l, List.map_map]
  simp
/-- Induction over the values within. -/
theorem Jsn.ind {P : Jsn → Prop} (h : ∀ k s n l, (∀ x ∈ l, P x) → P (.mk k s n l)) : ∀ j, P j
  | ⟨k, s, n, l⟩ => h k s n l fun x _ => Jsn.ind h x
theorem map_pair {α β : Type} (g : Jsn → α) (h : Jsn × α → β) (l : List Jsn) : (l.map fun x => (x, g x)).map h = l.map fun x => h (x, g x) := by rw [List.map_map]; rfl

/-- How deep. -/
def jdeep : Jsn → Nat := Jsn.para fun _ _ _ l => (l.map (·.2)).foldr max 0 + 1
def jdeeps (l : List Jsn) : Nat := (l.map jdeep).foldr max 0
/-- How many values. -/
def jcount : Jsn → Nat := Jsn.para fun _ _ _ l => (l.map (·.2)).sum + 1
def jcounts (l : List Jsn) : Nat := (l.map jcount).sum
/-- May it be, but for names that stand twice? -/
def jform (Own : List UInt8 → List UInt8 × Int) (Val : List UInt8 → Bool) : Jsn → Bool := Jsn.para fun k s n l =>
  if k = 1 ∨ k = 2 ∨ k = 3 then s.data.toList.isEmpty && n.isEmpty && l.isEmpty
  else if k = 4 then decide (Own s.data.toList = (s.data.toList, 0)) && n.isEmpty && l.isEmpty
  else if k = 5 then Val s.data.toList && n.isEmpty && l.isEmpty
  else if k = 6 then s.data.toList.isEmpty && n.isEmpty && (l.map (·.2)).all id
  else if k = 7 then s.data.toList.isEmpty && decide (n.length = l.length) && n.all (fun b => Val b.data.toList) && (l.map (·.2)).all id
  else false
/-- Does a name stand twice? -/
def dupB : List ByteArray → Bool
  | [] => false
  | x :: r => r.any (fun y => decide (y = x)) || dupB r
def jtwice : Jsn → Bool := Jsn.para fun _ _ n l => dupB n || (l.map (·.2)).any id
def jcheck (Own : List UInt8 → List UInt8 × Int) (Val : List UInt8 → Bool) (j : Jsn) : Int :=
  if 64 < jdeep j then 61 else if 65536 < jcount j then 40 else if jform Own Val j = false then 4 else if jtwice j = true then 6 else 0

/-- A digit below 16; a character as it stands in a String's text; a String's text. -/
def jhex (n : Nat) : UInt8 := UInt8.ofNat (if n < 10 then 48 + n else 87 + n)
def jesc (c : UInt8) : List UInt8 :=
  if c = 34 then [92, 34] else if c = 92 then [92, 92] else if c = 8 then [92, 98] else if c = 12 then [92, 102] else if c = 10 then [92, 110] else if c = 13 then [92, 114] else if c = 9 then [92, 116]
  else if c.toNat < 32 then [92, 117, 48, 48, jhex (c.toNat / 16), jhex (c.toNat % 16)] else [c]
def jquote (s : List UInt8) : List UInt8 := 34 :: (s.flatMap jesc ++ [34])

/-- The items of an Array, of an Object: with commas between; f: is it the first? -/
def jitems : Bool → List (List UInt8) → List UInt8
  | _, [] => []
  | f, x :: r => (if f then [] else [44]) ++ x ++ jitems false r
def jpairs : Bool → List ByteArray → List (List UInt8) → List UInt8
  | _, _, [] => []
  | f, n, x :: r => (if f then [] else [44]) ++ (jquote (n.headD ByteArray.empty).data.toList ++ 58 :: x) ++ jpairs false n.tail r
def jtext1 (k : Int) (s : ByteArray) (n : List ByteArray) (l : List (List UInt8)) : List UInt8 :=
  if k = 1 then [110, 117, 108, 108] else if k = 2 then [116, 114, 117, 101] else if k = 3 then [102, 97, 108, 115, 101] else if k = 4 then s.data.toList else if k = 5 then jquote s.data.toList
  else if k = 7 then 123 :: (jpairs true n l ++ [125]) else 91 :: (jitems true l ++ [93])
def jtext : Jsn → List UInt8 := Jsn.para fun k s n l => jtext1 k s n (l.map (·.2))
def jprint (Own : List UInt8 → List UInt8 × Int) (Val : List UInt8 → Bool) (j : Jsn) : List UInt8 × Int :=
  if jcheck Own Val j ≠ 0 then ([], jcheck Own Val j) else if 262144 < (jtext j).length then ([], 40) else (jtext j, 0)

/-- The first place of a name; what it has. -/
def jfind (n : List ByteArray) (s : ByteArray) : Option Nat := n.findIdx? (fun b => decide (b = s))
def jget (j : Jsn) (s : ByteArray) : Option Jsn :=
  if j.kind = 7 then (match jfind j.names s with | none => none | some i => j.list[i]?) else none

/-- The same? -/
def jsame : Jsn → Jsn → Bool := Jsn.para fun k s n l j =>
  decide (k = j.kind) && decide (s = j.text) && decide (n = j.names) && decide (l.length = j.list.length) && ((l.map (·.2)).zip j.list).all fun p => p.1 p.2
theorem jsame_eq1 (k : Int) (s : ByteArray) (n : List ByteArray) (l : List Jsn) (j : Jsn) : jsame ⟨k, s, n, l⟩ j =
    (decide (k = j.kind) && decide (s = j.text) && decide (n = j.names) && decide (l.length = j.list.length) && (l.zip j.list).all fun p => jsame p.1 p.2) := by
  conv => lhs; unfold jsame
  rw [Jsn.para_eq, map_pair, List.length_map]
  have : ((l.map fun x => jsame x).zip j.list).all (fun p => p.1 p.2) = (l.zip j.list).all fun p => jsame p.1 p.2 := by
    rw [List.zip_map_left, List.all_map]; rfl
  rw [← this]; rfl
theorem zip_all_eq : ∀ (l q : List Jsn), (∀ x ∈ l, ∀ y, jsame x y = true ↔ x = y) → l.length = q.length → ((l.zip q).all (fun p => jsame p.1 p.2) = true ↔ l = q)
  | [], [], _, _ => by simp
  | [], _ :: _, _, h => by simp at h
  | _ :: _, [], _, h => by simp at h
  | x :: r, y :: q, h, hl => by
    have h1 := zip_all_eq r q (fun z hz => h z (by simp [hz])) (by simpa using hl)
    have h2 := h x (by simp) y
    simp only [List.zip_cons_cons, List.all_cons, Bool.and_eq_true, h1, h2, List.cons.injEq]
theorem jsame_eq : ∀ (a b : Jsn), jsame a b = true ↔ a = b := by
  refine Jsn.ind fun k s n l ih b => ?_
  obtain ⟨k', s', n', l'⟩ := b
  rw [jsame_eq1]
  simp only [Bool.and_eq_true, decide_eq_true_eq, Jsn.mk.injEq]
  constructor
  · rintro ⟨⟨⟨⟨h1, h2⟩, h3⟩, h4⟩, h5⟩
    exact ⟨h1, h2, h3, (zip_all_eq l l' ih h4).1 h5⟩
  · rintro ⟨h1, h2, h3, rfl⟩
    exact ⟨⟨⟨⟨h1, h2⟩, h3⟩, rfl⟩, (zip_all_eq l l ih rfl).2 rfl⟩
theorem jsame_refl (a : Jsn) : jsame a a = true := (jsame_eq a a).2 rfl
/-- How much there is to it: every part, every byte. -/
def jbulk : Jsn → Nat := Jsn.para fun _ s n l => 1 + s.size + (n.map fun b => b.size + 1).sum + (l.map (·.2)).sum
def jbulks (l : List Jsn) : Nat := (l.map jbulk).sum
theorem jbulk_eq (k : Int) (s : ByteArray) (n : List ByteArray) (l : List Jsn) : jbulk ⟨k, s, n, l⟩ = 1 + s.size + (n.map fun b => b.size + 1).sum + jbulks l := by
  conv => lhs; unfold jbulk
  rw [Jsn.para_eq, map_pair]; rfl
theorem mem_sum {α : Type} (f : α → Nat) {x : α} : ∀ {l : List α}, x ∈ l → f x ≤ (l.map f).sum
  | [], h => by cases h
  | y :: r, h => by
    rcases List.mem_cons.1 h with rfl | h
    · simp
    · have := mem_sum f h; simp; omega
theorem jbulks_mem {x : Jsn} {l : List Jsn} (h : x ∈ l) : jbulk x ≤ jbulks l := mem_sum jbulk h
theorem len_le_sum {α : Type} (f : α → Nat) (hf : ∀ x, 1 ≤ f x) : ∀ (l : List α), l.length ≤ (l.map f).sum
  | [] => by simp
  | x :: r => by have := len_le_sum f hf r; have := hf x; simp; omega
theorem jbulk_pos (j : Jsn) : 1 ≤ jbulk j := by obtain ⟨k, s, n, l⟩ := j; rw [jbulk_eq]; omega
/-- What a bound on a value's bulk bounds. -/
theorem bulk_parts {j : Jsn} {m : Nat} (h : jbulk j ≤ m) : j.text.size ≤ m ∧ j.names.length ≤ m ∧ j.list.length ≤ m ∧ (∀ b ∈ j.names, b.size ≤ m) ∧ ∀ x ∈ j.list, jbulk x < jbulk j := by
  obtain ⟨k, s, n, l⟩ := j
  rw [jbulk_eq] at h ⊢
  have h1 := len_le_sum (fun b : ByteArray => b.size + 1) (fun _ => by omega) n
  have h2 := len_le_sum jbulk jbulk_pos l
  have h3 : jbulks l = (l.map jbulk).sum := rfl
  refine ⟨by simp only; omega, by simp only; omega, by simp only; omega, fun b hb => ?_, fun x hx => ?_⟩
  · have := mem_sum (fun b : ByteArray => b.size + 1) hb; simp only at this; omega
  · have hx' : x ∈ l := hx
    have := jbulks_mem hx'; omega
end Go.Proofs.YtlnkjacbdolhnaaGreatDoor


/-
  Plain facts on lists and bytes: how long the run of bytes at the head of a list is that meet a test. No program.
-/
namespace Go.Proofs.YtlnkjacbdolhnaaGreatDoor

/-- How many elements at the head meet p. -/
def twl {α : Type} (p : α → Bool) (l : List α) : Nat := (l.takeWhile p).length

theorem twl_le {α : Type} (p : α → Bool) (l : List α) : twl p l ≤ l.length := by
  induction l with
  | nil => simp [twl]
  | cons a l ih =>
    unfold twl at *
    by_cases h : p a = true
    · simp [h]; omega
    · simp [h]

theorem twl_step {α : Type} (p : α → Bool) : ∀ (l : List α) (k : Nat) (c : α), k ≤ twl p l → l[k]? = some c → p c = true → k + 1 ≤ twl p l
  | [], k, c, _, h, _ => by simp at h
  | a :: l, 0, c, _, h, hp => by
    simp at h; subst h
    simp [twl, hp]
  | a :: l, k + 1, c, hk, h, hp => by
    simp at h
    by_cases ha : p a = true
    · have h1 : twl p (a :: l) = twl p l + 1 := by simp [twl, ha]
      rw [h1] at hk ⊢
      have := twl_step p l k c (by omega) h hp
      omega
    · have h1 : twl p (a :: l) = 0 := by simp [twl, ha]
      omega

theorem twl_stop {α : Type} (p : α → Bool) : ∀ (l : List α) (k : Nat) (c : α), k ≤ twl p l → l[k]? = some c → p c = false → twl p l = k
  | [], k, c, _, h, _ => by simp at h
  | a :: l, 0, c, _, h, hp => by
    simp at h; subst h
    simp [twl, hp]
  | a :: l, k + 1, c, hk, h, hp => by
    simp at h
    by_cases ha : p a = true
    · have h1 : twl p (a :: l) = twl p l + 1 := by simp [twl, ha]
      rw [h1] at hk ⊢
      have := twl_stop p l k c (by omega) h hp
      omega
    · have h1 : twl p (a :: l) = 0 := by simp [twl, ha]
      omega

theorem twl_end {α : Type} (p : α → Bool) (l : List α) (k : Nat) (hk : k ≤ twl p l) (h : l.length ≤ k) : twl p l = k := by
  have := twl_le p l
  omega

/-- The byte at a place of a string, and of its list. -/
theorem bytes_at (s : ByteArray) (i : Nat) (h : i < s.size) : s.data.toList[i]? = some s[i] := by
  have h' : i < s.data.size := h
  rw [Array.getElem?_toList, Array.getElem?_eq_getElem h']
  rfl

theorem bytes_len (s : ByteArray) : s.data.toList.length = s.size := by rw [Array.length_toList]; rfl

def isDig (c : UInt8) : Bool := decide (48 ≤ c.toNat) && decide (c.toNat ≤ 57)
theorem isDig_t {c : UInt8} (h : isDig c = true) : 48 ≤ c.toNat ∧ c.toNat ≤ 57 := by simpa [isDig] using h
/-- How many digits stand at a place. -/
def runN (l : List UInt8) (i : Nat) : Nat := twl isDig (l.drop i)

theorem runN_le (l : List UInt8) (i : Nat) (h : i ≤ l.length) : i + runN l i ≤ l.length := by
  have := twl_le isDig (l.drop i)
  simp at this
  unfold runN; omega
theorem runN_step (l : List UInt8) (i k : Nat) (c : UInt8) (hk : k ≤ runN l i) (h : l[i + k]? = some c) (hp : isDig c = true) : k + 1 ≤ runN l i :=
  twl_step isDig _ k c hk (by simpa using h) hp
theorem runN_stop (l : List UInt8) (i k : Nat) (c : UInt8) (hk : k ≤ runN l i) (h : l[i + k]? = some c) (hp : isDig c = false) : runN l i = k :=
  twl_stop isDig _ k c hk (by simpa using h) hp
theorem runN_end (l : List UInt8) (i k : Nat) (hk : k ≤ runN l i) (h : l.length ≤ i + k) : runN l i = k :=
  twl_end isDig _ k hk (by simp; omega)
theorem runN_dig (l : List UInt8) (i : Nat) : ∀ j, j < runN l i → ∃ c, l[i + j]? = some c ∧ isDig c = true := by
  intro j hj
  unfold runN twl at hj
  have h1 : ((l.drop i).takeWhile isDig)[j]? = some ((l.drop i).takeWhile isDig)[j] := List.getElem?_eq_getElem hj
  refine ⟨((l.drop i).takeWhile isDig)[j], ?_, ?_⟩
  · have h2 : (l.drop i)[j]? = ((l.drop i).takeWhile isDig ++ (l.drop i).dropWhile isDig)[j]? := by rw [List.takeWhile_append_dropWhile]
    rw [← List.getElem?_drop, h2, List.getElem?_append_left hj, h1]
  · have hm : ((l.drop i).takeWhile isDig)[j] ∈ (l.drop i).takeWhile isDig := List.getElem_mem hj
    have := List.all_takeWhile (p := isDig) (l := l.drop i)
    rw [List.all_eq_true] at this
    exact this _ hm
end Go.Proofs.YtlnkjacbdolhnaaGreatDoor


/-
  What rostrumref04 makes of a decimal's text, as plain functions on lists of bytes: parse in four stages, and the strip of noughts.
-/
namespace Go.Proofs.YtlnkjacbdolhnaaGreatDoor

/-- A worth. -/
structure Wth where
  minus : Bool
  digits : List UInt8
  exp : Int
  deriving DecidableEq

/-- A numeral's worth, read on from n, and read no further once it is 100000000 or more. -/
def powTo (n : Int) : List UInt8 → Int
  | [] => n
  | c :: l => if n < 100000000 then powTo (n * 10 + c.toNat - 48) l else n

theorem powTo_big {n : Int} (l : List UInt8) (h : ¬ n < 100000000) : powTo n l = n := by
  cases l with
  | nil => rfl
  | cons c l => simp [powTo, h]
theorem drop_cons_at {l : List UInt8} {k : Nat} {c : UInt8} (h : l[k]? = some c) : l.drop k = c :: l.drop (k + 1) := by
  have hk : k < l.length := by
    rcases Nat.lt_or_ge k l.length with h1 | h1
    · exact h1
    · rw [List.getElem?_eq_none h1] at h; cases h
  rw [List.drop_eq_getElem_cons hk]
  rw [List.getElem?_eq_getElem hk] at h
  injection h with h
  rw [h]
theorem powTo_drop (n : Int) (l : List UInt8) (k : Nat) (c : UInt8) (h : l[k]? = some c) (hn : n < 100000000) : powTo n (l.drop k) = powTo (n * 10 + c.toNat - 48) (l.drop (k + 1)) := by
  rw [drop_cons_at h, powTo, if_pos hn]
theorem powTo_end (n : Int) (l : List UInt8) (k : Nat) (h : l.length ≤ k) : powTo n (l.drop k) = n := by
  rw [List.drop_eq_nil_of_le h]; rfl

/-- What rostrumref04.power makes of digits. -/
def powN (l : List UInt8) : Int := powTo 0 l

theorem powTo_bd : ∀ (l : List UInt8) (n : Int), (∀ c, c ∈ l → isDig c = true) → 0 ≤ n → n ≤ 1000000000 → 0 ≤ powTo n l ∧ powTo n l ≤ 1000000000
  | [], n, _, h0, h1 => ⟨h0, h1⟩
  | c :: l, n, h, h0, h1 => by
    unfold powTo
    have hd := isDig_t (h c (by simp))
    split
    · exact powTo_bd l _ (fun c hc => h c (by simp [hc])) (by omega) (by omega)
    · exact ⟨h0, h1⟩
theorem powN_bd (l : List UInt8) (h : ∀ c, c ∈ l → isDig c = true) : 0 ≤ powN l ∧ powN l ≤ 1000000000 := powTo_bd l 0 h (by omega) (by omega)

def isZ (c : UInt8) : Bool := decide (c.toNat = 48)

/-- How many noughts stand at the end. -/
def tz (d : List UInt8) : Nat := twl isZ d.reverse

/-- The noughts at both ends go; those at the end raise the power. -/
def strip (m : Bool) (d : List UInt8) (e : Int) : Wth :=
  let d1 := d.drop (twl isZ d)
  let d2 := d1.take (d1.length - tz d1)
  if d2 = [] then ⟨false, [], 0⟩ else ⟨m, d2, e + tz d1⟩

theorem strip_of (m : Bool) (D : List UInt8) (e : Int) {f z : Nat} {E : List UInt8} (hf : twl isZ D = f) (hz : tz (D.drop f) = z) (hE : E = (D.drop f).take ((D.drop f).length - z)) :
    strip m D e = if E = [] then ⟨false, [], 0⟩ else ⟨m, E, e + z⟩ := by
  subst hf hz hE; rfl

def parse4 (l : List UInt8) (m : Bool) (d : List UInt8) (e : Int) (i : Nat) : Option Wth :=
  if i ≠ l.length then none else some (strip m d e)

/-- Does this byte stand there? -/
def isAt (l : List UInt8) (i : Nat) (n : Nat) : Bool := (l[i]?.map (·.toNat)) == some n

/-- The sign of a power: 43 and 45 are passed over. -/
def powSign (l : List UInt8) (i : Nat) : Int × Nat :=
  if isAt l i 45 then (-1, i + 1) else if isAt l i 43 then (1, i + 1) else (1, i)

def parse3b (l : List UInt8) (m : Bool) (d : List UInt8) (e : Int) (sg : Int) (j : Nat) : Option Wth :=
  let n := runN l j
  if n = 0 then none else parse4 l m d (e + sg * powN ((l.drop j).take n)) (j + n)

def parse3 (l : List UInt8) (m : Bool) (d : List UInt8) (e : Int) (i : Nat) : Option Wth :=
  if isAt l i 101 || isAt l i 69 then parse3b l m d e (powSign l (i + 1)).1 (powSign l (i + 1)).2
  else parse4 l m d e i

def parse2 (l : List UInt8) (m : Bool) (d : List UInt8) (i : Nat) : Option Wth :=
  if isAt l i 46 then
    let n := runN l (i + 1)
    if n = 0 then none else parse3 l m (d ++ (l.drop (i + 1)).take n) (-(n : Int)) (i + 1 + n)
  else parse3 l m d 0 i

def parse1 (l : List UInt8) (m : Bool) (i : Nat) : Option Wth :=
  let n := runN l i
  if n = 0 then none
  else if decide (1 < n) && isAt l i 48 then none
  else parse2 l m ((l.drop i).take n) (i + n)

/-- rostrumref04.parse. -/
def parseL (l : List UInt8) : Option Wth := if isAt l 0 45 then parse1 l true 1 else parse1 l false 0

/-- rostrumref04.Get: the worth, and the error (0: none, 4: no decimal, 40: too large). -/
def getL (l : List UInt8) : Wth × Int :=
  match parseL l with
  | none => (⟨false, [], 0⟩, 4)
  | some x => if 200 < x.digits.length ∨ x.exp < -9999 ∨ 9999 < x.exp then (⟨false, [], 0⟩, 40) else (x, 0)

theorem isAt_t {l : List UInt8} {i n : Nat} {c : UInt8} (h : l[i]? = some c) (hc : c.toNat = n) : isAt l i n = true := by simp [isAt, h, hc]
theorem isAt_f {l : List UInt8} {i n : Nat} {c : UInt8} (h : l[i]? = some c) (hc : ¬ c.toNat = n) : isAt l i n = false := by simp [isAt, h, hc]
theorem isAt_none {l : List UInt8} {i n : Nat} (h : l.length ≤ i) : isAt l i n = false := by simp [isAt, List.getElem?_eq_none h]
theorem isAt_lt {l : List UInt8} {i n : Nat} (h : isAt l i n = true) : i < l.length := by
  rcases Nat.lt_or_ge i l.length with h1 | h1
  · exact h1
  · rw [isAt_none h1] at h; cases h
theorem isAt_byte {l : List UInt8} {i n : Nat} {c : UInt8} (h : l[i]? = some c) : isAt l i n = decide ((c.toNat : Int) = n) := by
  unfold isAt
  rw [h, Bool.eq_iff_iff]
  simp
  omega
theorem isZ_beq (c : UInt8) : isZ c = ((c.toNat : Int) == 48) := by
  unfold isZ; rw [Bool.eq_iff_iff]; simp; omega
theorem tz_at (D : List UInt8) (f j : Nat) (hj : f + j < D.length) : (D.drop f).reverse[j]? = D[D.length - 1 - j]? := by
  rw [List.getElem?_reverse (by simp; omega), List.getElem?_drop]
  congr 1
  simp
  omega
theorem tz_step (D : List UInt8) (f j : Nat) (c : UInt8) (hj : f + j < D.length) (hk : j ≤ tz (D.drop f)) (h : D[D.length - 1 - j]? = some c) (hz : isZ c = true) : j + 1 ≤ tz (D.drop f) :=
  twl_step isZ _ j c hk (by rw [tz_at D f j hj, h]) hz
theorem tz_stop (D : List UInt8) (f j : Nat) (c : UInt8) (hj : f + j < D.length) (hk : j ≤ tz (D.drop f)) (h : D[D.length - 1 - j]? = some c) (hz : isZ c = false) : tz (D.drop f) = j :=
  twl_stop isZ _ j c hk (by rw [tz_at D f j hj, h]) hz
theorem tz_end (D : List UInt8) (f j : Nat) (hj : D.length ≤ f + j) (hk : j ≤ tz (D.drop f)) : tz (D.drop f) = j :=
  twl_end isZ _ j hk (by simp; omega)
theorem tz_le (D : List UInt8) : tz D ≤ D.length := by
  have := twl_le isZ D.reverse
  simpa [tz] using this
theorem bytes_mk (b : ByteArray) : (⟨b.data.toList.toArray⟩ : ByteArray) = b := by cases b; rfl
theorem isAt_beq {l : List UInt8} {i n : Nat} {c : UInt8} (h : l[i]? = some c) : isAt l i n = ((c.toNat : Int) == n) := by
  rw [isAt_byte h, Bool.eq_iff_iff]; simp
/-! ### The program's own reader, state by state -/

/-- What the reader holds. -/
structure Rst where
  s : List UInt8
  m : Bool
  d : List UInt8
  e : Int

/-- The sign, if there is one, and what stands behind it. -/
def signL : List UInt8 → Bool × List UInt8
  | [] => (false, [])
  | c :: t => if c.toNat = 45 then (true, t) else (false, c :: t)

/-- May these digits stand ahead of the point? -/
def wholeOk : List UInt8 → Bool
  | [] => false
  | c :: t => t.isEmpty || decide (¬ c.toNat = 48)

def wholeL (l : List UInt8) : Option Rst :=
  let g := (signL l).2.takeWhile isDig
  if wholeOk g then some ⟨(signL l).2.dropWhile isDig, (signL l).1, g, 0⟩ else none

def partL (r : Rst) : Option Rst :=
  match r.s with
  | [] => some r
  | c :: t =>
    if c.toNat = 46 then
      let g := t.takeWhile isDig
      if g = [] then none else some ⟨t.dropWhile isDig, r.m, r.d ++ g, r.e - g.length⟩
    else some r

/-- A numeral of digits. -/
def numL : Int → List UInt8 → Int
  | n, [] => n
  | n, c :: t => numL (n * 10 + c.toNat - 48) t

/-- What power makes of the digits behind the e. -/
def powL (g : List UInt8) : Int :=
  let h := g.dropWhile isZ
  if h.length < 9 then numL 0 h else 1073741824

def signP : List UInt8 → Bool × List UInt8
  | [] => (false, [])
  | c :: t => if c.toNat = 45 then (true, t) else if c.toNat = 43 then (false, t) else (false, c :: t)

def powerL (r : Rst) : Option Rst :=
  match r.s with
  | [] => some r
  | c :: t =>
    if c.toNat = 101 ∨ c.toNat = 69 then
      let g := (signP t).2.takeWhile isDig
      if g = [] ∨ ¬ (signP t).2.dropWhile isDig = [] then none
      else some ⟨[], r.m, r.d, r.e + (if (signP t).1 then -(powL g) else powL g)⟩
    else none

theorem numL_bd : ∀ (l : List UInt8) (n : Int), (∀ c, c ∈ l → isDig c = true) → 0 ≤ n → 0 ≤ numL n l ∧ numL n l < (n + 1) * 10 ^ l.length
  | [], n, _, h0 => by simp [numL]; omega
  | c :: l, n, h, h0 => by
    have hd := isDig_t (h c (by simp))
    have ih := numL_bd l (n * 10 + c.toNat - 48) (fun x hx => h x (by simp [hx])) (by omega)
    refine ⟨by unfold numL; exact ih.1, ?_⟩
    unfold numL
    refine Int.lt_of_lt_of_le ih.2 ?_
    rw [List.length_cons, Int.pow_succ, Int.mul_comm ((10 : Int) ^ l.length) 10, ← Int.mul_assoc]
    exact Int.mul_le_mul_of_nonneg_right (by omega) (Int.pow_nonneg (by omega))
theorem numL_small (l : List UInt8) (h : ∀ c, c ∈ l → isDig c = true) (hl : l.length < 9) : 0 ≤ numL 0 l ∧ numL 0 l < 100000000 := by
  have h1 := numL_bd l 0 h (by omega)
  have h2 : (10 : Int) ^ l.length ≤ 10 ^ 8 := by
    have : (10 : Nat) ^ l.length ≤ 10 ^ 8 := Nat.pow_le_pow_right (by omega) (by omega)
    exact_mod_cast this
  refine ⟨h1.1, ?_⟩
  have h3 := h1.2
  have h4 : (10 : Int) ^ 8 = 100000000 := by decide
  omega
theorem decFrom_num : ∀ (l : List UInt8) (acc : Nat), (∀ c, c ∈ l → isDig c = true) → ∃ m : Nat, Go.Lib.decFrom acc l = some m ∧ (m : Int) = numL acc l
  | [], acc, _ => ⟨acc, rfl, rfl⟩
  | c :: l, acc, h => by
    have hd := isDig_t (h c (by simp))
    obtain ⟨m, h1, h2⟩ := decFrom_num l (acc * 10 + (c.toNat - 48)) (fun x hx => h x (by simp [hx]))
    refine ⟨m, ?_, ?_⟩
    · unfold Go.Lib.decFrom
      simp only [Go.Lib.digitVal, hd, and_self, if_true]
      exact h1
    · rw [h2]
      have e : ((acc * 10 + (c.toNat - 48) : Nat) : Int) = (acc : Int) * 10 + c.toNat - 48 := by omega
      rw [e]
      rfl
theorem atoi_zero (l : List UInt8) (h : ∀ c, c ∈ l → isDig c = true) : Go.Lib.atoi (48 :: l) = some (numL 0 l) := by
  obtain ⟨m, h1, h2⟩ := decFrom_num l 0 h
  have e1 : Go.Lib.decNat (48 :: l) = some m := by
    unfold Go.Lib.decNat
    simp only [List.isEmpty_cons, Bool.false_eq_true, if_false]
    unfold Go.Lib.decFrom
    exact h1
  unfold Go.Lib.atoi
  simp only [show ((48 : UInt8) == 45) = false by decide, show ((48 : UInt8) == 43) = false by decide, Bool.false_eq_true, if_false, e1, Option.map_some]
  rw [h2]; rfl
theorem mem_takeWhile_dig {l : List UInt8} {c : UInt8} (h : c ∈ l.takeWhile isDig) : isDig c = true := by
  have := List.all_takeWhile (p := isDig) (l := l)
  rw [List.all_eq_true] at this
  exact this _ h

def decL (l : List UInt8) : Option Rst := (wholeL l).bind fun r => (partL r).bind powerL

theorem dropWhile_length_le {p : UInt8 → Bool} (l : List UInt8) : (l.dropWhile p).length ≤ l.length := by
  have h := congrArg List.length (List.takeWhile_append_dropWhile (p := p) (l := l))
  rw [List.length_append] at h
  omega
theorem takeDrop_length {p : UInt8 → Bool} (l : List UInt8) : (l.takeWhile p).length + (l.dropWhile p).length = l.length := by
  have h := congrArg List.length (List.takeWhile_append_dropWhile (p := p) (l := l))
  rwa [List.length_append] at h
theorem signL_len (l : List UInt8) : (signL l).2.length ≤ l.length := by
  unfold signL; split
  · simp
  · split <;> simp
theorem wholeL_bd {l : List UInt8} {r : Rst} (h : wholeL l = some r) : r.s.length + r.d.length ≤ l.length ∧ r.e = 0 := by
  unfold wholeL at h
  simp only at h
  split at h
  · injection h with h
    subst h
    have h1 := takeDrop_length (p := isDig) (signL l).2
    have h2 := signL_len l
    exact ⟨by simp only; omega, rfl⟩
  · cases h
theorem partL_bd {r r' : Rst} (h : partL r = some r') : r'.s.length ≤ r.s.length ∧ r'.d.length ≤ r.d.length + r.s.length ∧ r.e - r.s.length ≤ r'.e ∧ r'.e ≤ r.e := by
  unfold partL at h
  split at h
  · injection h with h
    subst h
    omega
  · rename_i c t hs
    rw [hs]
    split at h
    · simp only at h
      split at h
      · cases h
      · injection h with h
        subst h
        have h1 := takeDrop_length (p := isDig) t
        simp only [List.length_append, List.length_cons]
        omega
    · injection h with h
      subst h
      rw [hs]
      simp only [List.length_cons]
      omega
theorem powL_bd {g : List UInt8} (h : ∀ c, c ∈ g → isDig c = true) : 0 ≤ powL g ∧ powL g ≤ 1073741824 := by
  unfold powL
  simp only
  split
  · rename_i h9
    have := numL_small (g.dropWhile isZ) (fun c hc => h c (List.dropWhile_subset _ hc)) h9
    omega
  · omega
theorem powerL_bd {r r' : Rst} (h : powerL r = some r') : r'.d = r.d ∧ r.e - 1073741824 ≤ r'.e ∧ r'.e ≤ r.e + 1073741824 := by
  unfold powerL at h
  split at h
  · injection h with h
    subst h
    exact ⟨rfl, by omega, by omega⟩
  · split at h
    · rename_i c t hs _
      simp only at h
      split at h
      · cases h
      · injection h with h
        have hb := powL_bd (g := (signP t).2.takeWhile isDig) (fun c hc => mem_takeWhile_dig hc)
        subst h
        refine ⟨rfl, ?_⟩
        simp only
        split <;> omega
    · cases h
theorem decL_bd {l : List UInt8} {r : Rst} (h : decL l = some r) : r.d.length ≤ 2 * l.length ∧ -1073741824 - (l.length : Int) ≤ r.e ∧ r.e ≤ 1073741824 := by
  unfold decL at h
  rw [Option.bind_eq_some_iff] at h
  obtain ⟨r1, h1, h2⟩ := h
  rw [Option.bind_eq_some_iff] at h2
  obtain ⟨r2, h2, h3⟩ := h2
  have a := wholeL_bd h1
  have b := partL_bd h2
  have c := powerL_bd h3
  rw [c.1]
  omega

/-- The noughts at the end go. -/
def trimR (d : List UInt8) : List UInt8 := (d.reverse.dropWhile isZ).reverse

/-- dec.get: the worth, and the error (0: none, 4: no decimal, 40: too large). -/
def decGetL (l : List UInt8) : Wth × Int :=
  match decL l with
  | none => (⟨false, [], 0⟩, 4)
  | some r =>
    let d := (trimR r.d).dropWhile isZ
    let e := r.e + (r.d.length - (trimR r.d).length : Nat)
    if d = [] then (⟨false, [], 0⟩, 0)
    else if 200 < d.length ∨ e < -9999 ∨ 9999 < e then (⟨false, [], 0⟩, 40) else (⟨r.m, d, e⟩, 0)

/-! ### Whole numbers -/

/-- The number that digits spell. -/
def decV (l : List UInt8) : Nat := l.foldl (fun n c => n * 10 + (c.toNat - 48)) 0

theorem decV_snoc (l : List UInt8) (c : UInt8) : decV (l ++ [c]) = decV l * 10 + (c.toNat - 48) := by simp [decV]
theorem take_snoc_at {l : List UInt8} {k : Nat} {c : UInt8} (h : l[k]? = some c) : l.take (k + 1) = l.take k ++ [c] := by
  have hk : k < l.length := by
    rcases Nat.lt_or_ge k l.length with h1 | h1
    · exact h1
    · rw [List.getElem?_eq_none h1] at h; cases h
  rw [List.take_succ_eq_append_getElem hk]
  rw [List.getElem?_eq_getElem hk] at h
  injection h with h
  rw [h]
theorem decV_step {l : List UInt8} {k : Nat} {c : UInt8} (h : l[k]? = some c) : decV (l.take (k + 1)) = decV (l.take k) * 10 + (c.toNat - 48) := by
  rw [take_snoc_at h, decV_snoc]
theorem foldl_lt : ∀ (l : List UInt8) (n k : Nat), (∀ c, c ∈ l → isDig c = true) → n < 10 ^ k → l.foldl (fun n c => n * 10 + (c.toNat - 48)) n < 10 ^ (k + l.length)
  | [], n, k, _, h => h
  | c :: l, n, k, hd, h => by
    have h1 := isDig_t (hd c (by simp))
    have := foldl_lt l (n * 10 + (c.toNat - 48)) (k + 1) (fun x hx => hd x (by simp [hx])) (by rw [Nat.pow_succ]; omega)
    rw [show k + (c :: l).length = k + 1 + l.length by simp; omega]
    exact this
theorem decV_lt (l : List UInt8) (h : ∀ c, c ∈ l → isDig c = true) : decV l < 10 ^ l.length := by
  have := foldl_lt l 0 0 h (by decide)
  rwa [Nat.zero_add] at this

theorem wholeL_dig {l : List UInt8} {r : Rst} (h : wholeL l = some r) : ∀ c, c ∈ r.d → isDig c = true := by
  unfold wholeL at h
  simp only at h
  split at h
  · injection h with h
    subst h
    exact fun c hc => mem_takeWhile_dig hc
  · cases h
theorem partL_dig {r r' : Rst} (h : partL r = some r') (hd : ∀ c, c ∈ r.d → isDig c = true) : ∀ c, c ∈ r'.d → isDig c = true := by
  unfold partL at h
  split at h
  · injection h with h
    subst h; exact hd
  · split at h
    · simp only at h
      split at h
      · cases h
      · injection h with h
        subst h
        intro c hc
        simp only [List.mem_append] at hc
        exact hc.elim (hd c) (fun hc => mem_takeWhile_dig hc)
    · injection h with h
      subst h; exact hd
theorem decL_dig {l : List UInt8} {r : Rst} (h : decL l = some r) : ∀ c, c ∈ r.d → isDig c = true := by
  unfold decL at h
  rw [Option.bind_eq_some_iff] at h
  obtain ⟨r1, h1, h2⟩ := h
  rw [Option.bind_eq_some_iff] at h2
  obtain ⟨r2, h2, h3⟩ := h2
  rw [(powerL_bd h3).1]
  exact partL_dig h2 (wholeL_dig h1)
theorem decGetL_dig (l : List UInt8) : ∀ c, c ∈ (decGetL l).1.digits → isDig c = true := by
  unfold decGetL
  split
  · intro c hc; cases hc
  · rename_i r hr
    simp only
    split
    · intro c hc; cases hc
    · split
      · intro c hc; cases hc
      · intro c hc
        have h1 : c ∈ trimR r.d := List.dropWhile_subset _ hc
        unfold trimR at h1
        have h2 := List.dropWhile_subset _ (List.mem_reverse.1 h1)
        exact decL_dig hr c (List.mem_reverse.1 h2)

/-- 2 to the power 63. -/
def two63 : Nat := 9223372036854775808

/-- dec.Int: the whole number, and the error (1: no integer, 64: too large). -/
def intL (l : List UInt8) : Int × Int :=
  let x := (decGetL l).1
  if (decGetL l).2 ≠ 0 then (0, (decGetL l).2)
  else if x.exp < 0 then (0, 1)
  else if 19 < (x.digits.length : Int) + x.exp then (0, 64)
  else
    let u := decV (x.digits ++ List.replicate x.exp.toNat 48)
    if x.minus = true ∧ u ≤ two63 then (-(u : Int), 0)
    else if x.minus = false ∧ u < two63 then ((u : Int), 0)
    else (0, 64)

theorem intL_of {l : List UInt8} {m : Bool} {dd : List UInt8} {k U : Nat} (h : decGetL l = (⟨m, dd, (k : Int)⟩, 0)) (hs : dd.length + k ≤ 19) (hU : decV (dd ++ List.replicate k 48) = U) :
    (m = true → U ≤ two63 → intL l = (-(U : Int), 0)) ∧ (m = true → two63 < U → intL l = (0, 64)) ∧ (m = false → U < two63 → intL l = ((U : Int), 0)) ∧ (m = false → two63 ≤ U → intL l = (0, 64)) := by
  have e : intL l = if m = true ∧ U ≤ two63 then (-(U : Int), 0) else if m = false ∧ U < two63 then ((U : Int), 0) else (0, 64) := by
    unfold intL
    rw [h]
    simp only [ne_eq, not_true_eq_false, if_false, Int.toNat_natCast]
    rw [if_neg (by omega), if_neg (by omega), hU]
  rw [e]
  refine ⟨?_, ?_, ?_, ?_⟩
  · rintro rfl h1; rw [if_pos ⟨rfl, h1⟩]
  · rintro rfl h1; rw [if_neg (fun hh => absurd hh.2 (by omega)), if_neg (fun hh => by cases hh.1)]
  · rintro rfl h1; rw [if_neg (fun hh => by cases hh.1), if_pos ⟨rfl, h1⟩]
  · rintro rfl h1; rw [if_neg (fun hh => by cases hh.1), if_neg (fun hh => absurd hh.2 (by omega))]
theorem le63 {U : Nat} (h : (U : Int) ≤ 9223372036854775808) : U ≤ two63 := by unfold two63; omega
theorem lt63 {U : Nat} (h : (U : Int) < 9223372036854775808) : U < two63 := by unfold two63; omega
theorem ge63 {U : Nat} (h : ¬ (U : Int) < 9223372036854775808) : two63 ≤ U := by unfold two63; omega
theorem gt63 {U : Nat} (h : ¬ (U : Int) ≤ 9223372036854775808) : two63 < U := by unfold two63; omega
end Go.Proofs.YtlnkjacbdolhnaaGreatDoor


/-
  lsp.Decode, plainly: it hangs on the params' members alone. No program.
-/
namespace Go.Proofs.YtlnkjacbdolhnaaGreatDoor

def yTextDocument : ByteArray := ⟨#[116, 101, 120, 116, 68, 111, 99, 117, 109, 101, 110, 116]⟩
def yUri : ByteArray := ⟨#[117, 114, 105]⟩
def yPosition : ByteArray := ⟨#[112, 111, 115, 105, 116, 105, 111, 110]⟩
def yLine : ByteArray := ⟨#[108, 105, 110, 101]⟩
def yCharacter : ByteArray := ⟨#[99, 104, 97, 114, 97, 99, 116, 101, 114]⟩
def yVersion : ByteArray := ⟨#[118, 101, 114, 115, 105, 111, 110]⟩
def yWidth : ByteArray := ⟨#[119, 105, 100, 116, 104]⟩
def yNewName : ByteArray := ⟨#[110, 101, 119, 78, 97, 109, 101]⟩
def yId : ByteArray := ⟨#[105, 100]⟩
def yText : ByteArray := ⟨#[116, 101, 120, 116]⟩
def yContentChanges : ByteArray := ⟨#[99, 111, 110, 116, 101, 110, 116, 67, 104, 97, 110, 103, 101, 115]⟩
def yRange : ByteArray := ⟨#[114, 97, 110, 103, 101]⟩
def yStart : ByteArray := ⟨#[115, 116, 97, 114, 116]⟩
def yEnd : ByteArray := ⟨#[101, 110, 100]⟩
def yNone : ByteArray := ⟨#[120, 45, 110, 111, 110, 101]⟩
/-- A member; of kind 0: there is none. -/
def memJ (j : Jsn) (x : ByteArray) : Jsn := (jget j x).getD ⟨0, ⟨#[]⟩, [], []⟩
structure Ch where
  whole : Bool
  a : Int
  b : Int
  c : Int
  d : Int
  t : ByteArray
structure LM where
  kind : Int
  uri : ByteArray
  version : Int
  text : ByteArray
  line : Int
  char : Int
  width : Int
  id : Jsn
  chs : List Ch
def zeroLM (k : Int) : LM := ⟨k, ⟨#[]⟩, 0, ⟨#[]⟩, 0, 0, 0, ⟨0, ⟨#[]⟩, [], []⟩, []⟩
/-- A count, if it is one. -/
def cntJ (j : Jsn) : Option Int := if j.kind = 4 ∧ (intL j.text.data.toList).2 = 0 ∧ 0 ≤ (intL j.text.data.toList).1 ∧ (intL j.text.data.toList).1 ≤ 2147483647 then some (intL j.text.data.toList).1 else none
def lNum (v : Jsn) (t : Int) : Bool × Int := match cntJ v with
  | some n => (true, n)
  | none => (false, t)
def lTxt (v : Jsn) (t : ByteArray) : Bool × ByteArray := if v.kind = 5 then (true, v.text) else (false, t)
def lPos (v : Jsn) (p : Int × Int) : Bool × Int × Int := match lNum (memJ v yLine) p.1 with
  | (true, a) => ((lNum (memJ v yCharacter) p.2).1, a, (lNum (memJ v yCharacter) p.2).2)
  | (false, a) => (false, a, p.2)
def isIdJ (j : Jsn) : Bool := decide (j.kind = 5) || decide (j.kind = 4) && decide ((intL j.text.data.toList).2 = 0)
abbrev Rd := Jsn → LM → Bool × LM
def rAt : Rd := fun v m => ((lPos (memJ v yPosition) (m.line, m.char)).1, { m with line := (lPos (memJ v yPosition) (m.line, m.char)).2.1, char := (lPos (memJ v yPosition) (m.line, m.char)).2.2 })
def rVer : Rd := fun v m => ((lNum (memJ (memJ v yTextDocument) yVersion) m.version).1, { m with version := (lNum (memJ (memJ v yTextDocument) yVersion) m.version).2 })
def rLoose : Rd := fun v m => (decide (v.kind = 0) || decide (v.kind = 1) || decide (v.kind = 7), m)
def rInit : Rd := fun v m => (decide (v.kind = 0) || decide (v.kind = 7), m)
def rFmt : Rd := fun v m => if (memJ v yWidth).kind = 0 then (true, { m with width := 80 }) else
  ((lNum (memJ v yWidth) 80).1 && decide (20 ≤ (lNum (memJ v yWidth) 80).2) && decide ((lNum (memJ v yWidth) 80).2 ≤ 200), { m with width := (lNum (memJ v yWidth) 80).2 })
def rName : Rd := fun v m => ((lTxt (memJ v yNewName) m.text).1, { m with text := (lTxt (memJ v yNewName) m.text).2 })
def rCancel : Rd := fun v m => (isIdJ (memJ v yId), { m with id := memJ v yId })
def rText : Rd := fun v m => ((lTxt (memJ (memJ v yTextDocument) yText) m.text).1, { m with text := (lTxt (memJ (memJ v yTextDocument) yText) m.text).2 })
def oneCh (x : Jsn) : Option Ch := if (memJ x yText).kind = 5 then
    (if (memJ x yRange).kind = 0 then some ⟨true, 0, 0, 0, 0, (memJ x yText).text⟩ else
      match lPos (memJ (memJ x yRange) yStart) (0, 0), lPos (memJ (memJ x yRange) yEnd) (0, 0) with
      | (true, a, b), (true, c, d) => some ⟨false, a, b, c, d, (memJ x yText).text⟩
      | _, _ => none)
  else none
def chgs : List Jsn → List Ch → Bool × List Ch
  | [], acc => (true, acc)
  | x :: l, acc => match oneCh x with
    | some c => chgs l (acc ++ [c])
    | none => (false, acc)
def rChs : Rd := fun v m => if (memJ v yContentChanges).kind = 6 then ((chgs (memJ v yContentChanges).list m.chs).1, { m with chs := (chgs (memJ v yContentChanges).list m.chs).2 }) else (false, m)
def docStep (v : Jsn) (a : Bool × LM) (f : Rd) : Bool × LM := ((f v a.2).1 && a.1, (f v a.2).2)
def rDoc (fs : List Rd) : Rd := fun v m => fs.foldl (docStep v) ((lTxt (memJ (memJ v yTextDocument) yUri) m.uri).1, { m with uri := (lTxt (memJ (memJ v yTextDocument) yUri) m.uri).2 })
def mName1 : ByteArray := ⟨#[105, 110, 105, 116, 105, 97, 108, 105, 122, 101]⟩
def mName2 : ByteArray := ⟨#[115, 104, 117, 116, 100, 111, 119, 110]⟩
def mName3 : ByteArray := ⟨#[116, 101, 120, 116, 68, 111, 99, 117, 109, 101, 110, 116, 47, 102, 111, 114, 109, 97, 116, 116, 105, 110, 103]⟩
def mName4 : ByteArray := ⟨#[116, 101, 120, 116, 68, 111, 99, 117, 109, 101, 110, 116, 47, 114, 101, 110, 97, 109, 101]⟩
def mName5 : ByteArray := ⟨#[116, 101, 120, 116, 68, 111, 99, 117, 109, 101, 110, 116, 47, 100, 101, 102, 105, 110, 105, 116, 105, 111, 110]⟩
def mName6 : ByteArray := ⟨#[116, 101, 120, 116, 68, 111, 99, 117, 109, 101, 110, 116, 47, 104, 111, 118, 101, 114]⟩
def mName7 : ByteArray := ⟨#[116, 101, 120, 116, 68, 111, 99, 117, 109, 101, 110, 116, 47, 100, 105, 97, 103, 110, 111, 115, 116, 105, 99]⟩
def mName8 : ByteArray := ⟨#[105, 110, 105, 116, 105, 97, 108, 105, 122, 101, 100]⟩
def mName9 : ByteArray := ⟨#[101, 120, 105, 116]⟩
def mName10 : ByteArray := ⟨#[36, 47, 99, 97, 110, 99, 101, 108, 82, 101, 113, 117, 101, 115, 116]⟩
def mName11 : ByteArray := ⟨#[116, 101, 120, 116, 68, 111, 99, 117, 109, 101, 110, 116, 47, 100, 105, 100, 79, 112, 101, 110]⟩
def mName12 : ByteArray := ⟨#[116, 101, 120, 116, 68, 111, 99, 117, 109, 101, 110, 116, 47, 100, 105, 100, 67, 104, 97, 110, 103, 101]⟩
def mName13 : ByteArray := ⟨#[116, 101, 120, 116, 68, 111, 99, 117, 109, 101, 110, 116, 47, 100, 105, 100, 67, 108, 111, 115, 101]⟩
/-- The methods: name, kind, how its params are read. -/
def lMethods : List (ByteArray × Int × Rd) := [(mName1, 1, rInit), (mName2, 2, rLoose), (mName3, 3, rDoc [rFmt]), (mName4, 4, rDoc [rAt, rName]), (mName5, 5, rDoc [rAt]), (mName6, 6, rDoc [rAt]), (mName7, 7, rDoc []), (mName8, 8, rLoose), (mName9, 9, rLoose), (mName10, 10, rCancel), (mName11, 11, rDoc [rVer, rText]), (mName12, 12, rDoc [rVer, rChs]), (mName13, 13, rDoc [])]
def ldecOf (k : Int) (rd : Rd) (v : Jsn) : LM × Int := if (rd v (zeroLM k)).1 = true then ((rd v (zeroLM k)).2, 0) else (zeroLM 0, 69)
def ldec (s : ByteArray) (v : Jsn) : LM × Int := match lMethods.find? (fun p => decide (p.1 = s)) with
  | some p => ldecOf p.2.1 p.2.2 v
  | none => (zeroLM 0, 68)
/-- The same members but one that is not looked at. -/
def Alike (v w : Jsn) : Prop := v.kind = w.kind ∧ ∀ x, x ≠ yNone → memJ v x = memJ w x
theorem yTextDocument_ne : yTextDocument ≠ yNone := by decide
theorem yPosition_ne : yPosition ≠ yNone := by decide
theorem yWidth_ne : yWidth ≠ yNone := by decide
theorem yNewName_ne : yNewName ≠ yNone := by decide
theorem yId_ne : yId ≠ yNone := by decide
theorem yContentChanges_ne : yContentChanges ≠ yNone := by decide
theorem doc_alike {v w : Jsn} (h : Alike v w) : ∀ (fs : List Rd), (∀ f ∈ fs, ∀ m, f v m = f w m) → ∀ m, rDoc fs v m = rDoc fs w m := fun fs hf m => by
  unfold rDoc
  rw [h.2 _ yTextDocument_ne]
  have h1 : ∀ (fs : List Rd), (∀ f ∈ fs, ∀ m, f v m = f w m) → ∀ a, fs.foldl (docStep v) a = fs.foldl (docStep w) a := by
    intro fs
    induction fs with
    | nil => intro _ a; rfl
    | cons f fs ih =>
      intro hf a
      have e : docStep v a f = docStep w a f := by unfold docStep; rw [hf f (by simp)]
      rw [List.foldl_cons, List.foldl_cons, e]
      exact ih (fun g hg => hf g (by simp [hg])) _
  exact h1 fs hf _
theorem ldec_alike {v w : Jsn} (h : Alike v w) (s : ByteArray) : ldec s v = ldec s w := by
  have e1 : ∀ m, rAt v m = rAt w m := fun m => by unfold rAt; rw [h.2 _ yPosition_ne]
  have e2 : ∀ m, rVer v m = rVer w m := fun m => by unfold rVer; rw [h.2 _ yTextDocument_ne]
  have e3 : ∀ m, rLoose v m = rLoose w m := fun m => by unfold rLoose; rw [h.1]
  have e4 : ∀ m, rInit v m = rInit w m := fun m => by unfold rInit; rw [h.1]
  have e5 : ∀ m, rFmt v m = rFmt w m := fun m => by unfold rFmt; rw [h.2 _ yWidth_ne]
  have e6 : ∀ m, rName v m = rName w m := fun m => by unfold rName; rw [h.2 _ yNewName_ne]
  have e7 : ∀ m, rCancel v m = rCancel w m := fun m => by unfold rCancel; rw [h.2 _ yId_ne]
  have e8 : ∀ m, rText v m = rText w m := fun m => by unfold rText; rw [h.2 _ yTextDocument_ne]
  have e9 : ∀ m, rChs v m = rChs w m := fun m => by unfold rChs; rw [h.2 _ yContentChanges_ne]
  have key : ∀ p ∈ lMethods, ∀ m, p.2.2 v m = p.2.2 w m := by
    intro p hp m
    unfold lMethods at hp
    simp only [List.mem_cons, List.not_mem_nil, or_false] at hp
    rcases hp with rfl | rfl | rfl | rfl | rfl | rfl | rfl | rfl | rfl | rfl | rfl | rfl | rfl
    · exact e4 m
    · exact e3 m
    · exact doc_alike h _ (fun f hf => by simp at hf; subst hf; exact e5) m
    · exact doc_alike h _ (fun f hf => by simp at hf; rcases hf with rfl | rfl <;> first | exact e1 | exact e6) m
    · exact doc_alike h _ (fun f hf => by simp at hf; subst hf; exact e1) m
    · exact doc_alike h _ (fun f hf => by simp at hf; subst hf; exact e1) m
    · exact doc_alike h _ (fun f hf => by simp at hf) m
    · exact e3 m
    · exact e3 m
    · exact e7 m
    · exact doc_alike h _ (fun f hf => by simp at hf; rcases hf with rfl | rfl <;> first | exact e2 | exact e8) m
    · exact doc_alike h _ (fun f hf => by simp at hf; rcases hf with rfl | rfl <;> first | exact e2 | exact e9) m
    · exact doc_alike h _ (fun f hf => by simp at hf) m
  unfold ldec
  rcases hf : lMethods.find? (fun p => decide (p.1 = s)) with _ | p
  · rw [hf]
  · have hm := List.mem_of_find?_eq_some hf
    rw [hf]
    dsimp only
    unfold ldecOf
    rw [key p hm]
end Go.Proofs.YtlnkjacbdolhnaaGreatDoor


/-
  An object the other way about, with a member more that is not looked at, is alike. No program.
-/
namespace Go.Proofs.YtlnkjacbdolhnaaGreatDoor

/-- What stands in the new row when i things are left to take from the end of the old one; x is put in ahead of the thing number n - 1. -/
def revl {α : Type} (x : α) (n : Nat) (l : List α) (i : Nat) : List α := if i < n then (l.drop n).reverse ++ x :: ((l.take n).drop i).reverse else (l.drop i).reverse
section
variable {α : Type}
theorem drop_at {l : List α} {i : Nat} {a : α} (h : l[i]? = some a) : l.drop i = a :: l.drop (i + 1) := by
  obtain ⟨hi, e⟩ := List.getElem?_eq_some_iff.1 h
  rw [List.drop_eq_getElem_cons hi, e]
theorem revl_top (x : α) (n : Nat) (l : List α) (h : n ≤ l.length) : revl x n l l.length = [] := by
  unfold revl
  rw [if_neg (by omega), List.drop_eq_nil_of_le (Nat.le_refl _)]
  rfl
theorem revl_put (x : α) (l : List α) (i : Nat) {a : α} (h : l[i]? = some a) : revl x (i + 1) l i = (revl x (i + 1) l (i + 1) ++ [x]) ++ [a] := by
  have hi := (List.getElem?_eq_some_iff.1 h).1
  have e : (l.take (i + 1)).drop i = [a] := by
    rw [List.take_add_one, h]
    exact List.drop_left' (by rw [List.length_take]; omega)
  unfold revl
  rw [if_pos (by omega), if_neg (by omega), e]
  simp
theorem revl_next (x : α) (n : Nat) (l : List α) (i : Nat) {a : α} (h : l[i]? = some a) (hn : i + 1 ≠ n) : revl x n l i = revl x n l (i + 1) ++ [a] := by
  unfold revl
  by_cases hi : i < n
  · have h' : (l.take n)[i]? = some a := by rw [List.getElem?_take, if_pos hi, h]
    rw [if_pos hi, if_pos (by omega), drop_at h']
    simp
  · rw [if_neg hi, if_neg (by omega), drop_at h]
    simp
theorem revl_len (x : α) (n : Nat) (l : List α) (i : Nat) (hn : n ≤ l.length) : (revl x n l i).length = l.length - i + if i < n then 1 else 0 := by
  unfold revl
  by_cases hi : i < n
  · rw [if_pos hi, if_pos hi]
    simp
    omega
  · rw [if_neg hi, if_neg hi]
    simp
theorem revl_mem (x : α) (n : Nat) (l : List α) (i : Nat) {y : α} (h : y ∈ revl x n l i) : y = x ∨ y ∈ l := by
  unfold revl at h
  split at h
  · rcases List.mem_append.1 h with h | h
    · exact .inr (List.mem_of_mem_drop (List.mem_reverse.1 h))
    · rcases List.mem_cons.1 h with h | h
      · exact .inl h
      · exact .inr (List.mem_of_mem_take (List.mem_of_mem_drop (List.mem_reverse.1 h)))
  · exact .inr (List.mem_of_mem_drop (List.mem_reverse.1 h))
theorem revl_perm (x : α) (n : Nat) (l : List α) : (revl x n l 0).Perm (if 0 < n then x :: l else l) := by
  unfold revl
  by_cases hn : 0 < n
  · rw [if_pos hn, if_pos hn, List.drop_zero]
    refine List.perm_middle.trans (List.Perm.cons _ ?_)
    refine ((List.reverse_perm _).append (List.reverse_perm _)).trans (List.perm_append_comm.trans ?_)
    rw [List.take_append_drop]
  · rw [if_neg hn, if_neg hn, List.drop_zero]
    exact List.reverse_perm _
end
theorem revl_map {α β : Type} (f : α → β) (x : α) (n : Nat) (l : List α) (i : Nat) : (revl x n l i).map f = revl (f x) n (l.map f) i := by
  unfold revl
  split <;> simp [List.map_reverse, List.map_drop, List.map_take]
theorem sum_perm {l r : List Nat} (h : l.Perm r) : l.sum = r.sum := by
  induction h with
  | nil => rfl
  | cons x _ ih => rw [List.sum_cons, List.sum_cons, ih]
  | swap x y l => rw [List.sum_cons, List.sum_cons, List.sum_cons, List.sum_cons]; omega
  | trans _ _ h1 h2 => rw [h1, h2]
theorem revl_sum {α : Type} (f : α → Nat) (x : α) (n : Nat) (l : List α) : ((revl x n l 0).map f).sum ≤ f x + (l.map f).sum := by
  rw [sum_perm ((revl_perm x n l).map f)]
  split
  · rw [List.map_cons, List.sum_cons]; exact Nat.le_refl _
  · omega
theorem rev_bulk (s : ByteArray) (ns : List ByteArray) (ls : List Jsn) (n : Nat) (more : Jsn) : jbulk ⟨7, ⟨#[]⟩, revl yNone n ns 0, revl more n ls 0⟩ ≤ 10 + jbulk more + jbulk ⟨7, s, ns, ls⟩ := by
  rw [jbulk_eq, jbulk_eq]
  have h1 := revl_sum (fun b : ByteArray => b.size + 1) yNone n ns
  have h2 := revl_sum jbulk more n ls
  have h3 : yNone.size = 6 := rfl
  have h4 : (⟨#[]⟩ : ByteArray).size = 0 := rfl
  unfold jbulks
  omega
theorem revl_zip {α β : Type} (x : α) (y : β) (n : Nat) (l : List α) (r : List β) (hl : l.length = r.length) (hn : n ≤ l.length) : ∀ k i, i + k = l.length → (revl x n l i).zip (revl y n r i) = revl (x, y) n (l.zip r) i := by
  have hz : (l.zip r).length = l.length := by rw [List.length_zip]; omega
  intro k
  induction k with
  | zero =>
    intro i hi
    obtain rfl : i = l.length := by omega
    rw [revl_top x n l hn, ← hz, revl_top (x, y) n (l.zip r) (by omega)]
    rfl
  | succ k ih =>
    intro i hi
    have ha : l[i]? = some l[i] := List.getElem?_eq_getElem (by omega)
    have hb : r[i]? = some r[i] := List.getElem?_eq_getElem (by omega)
    have hc : (l.zip r)[i]? = some (l[i], r[i]) := by rw [List.getElem?_eq_getElem (by omega), List.getElem_zip]
    have he : (revl x n l (i + 1)).length = (revl y n r (i + 1)).length := by rw [revl_len x n l _ hn, revl_len y n r _ (by omega), hl]
    by_cases h : i + 1 = n
    · subst h
      rw [revl_put x l i ha, revl_put y r i hb, revl_put (x, y) (l.zip r) i hc, List.zip_append (by simp [he]), List.zip_append he, ih (i + 1) (by omega)]
      rfl
    · rw [revl_next x n l i ha h, revl_next y n r i hb h, revl_next (x, y) n (l.zip r) i hc h, List.zip_append he, ih (i + 1) (by omega)]
      rfl
theorem findM_cons (a : ByteArray) (n : List ByteArray) (s : ByteArray) : jfind (a :: n) s = if a = s then some 0 else (jfind n s).map (· + 1) := by
  unfold jfind
  rw [List.findIdx?_cons]
  by_cases h : a = s <;> simp [h]
def lkM (n : List ByteArray) (l : List Jsn) (s : ByteArray) : Option Jsn := match jfind n s with | none => none | some i => l[i]?
theorem lkM_cons (a : ByteArray) (n : List ByteArray) (x : Jsn) (l : List Jsn) (s : ByteArray) : lkM (a :: n) (x :: l) s = if a = s then some x else lkM n l s := by
  unfold lkM
  rw [findM_cons]
  by_cases h : a = s
  · simp [h]
  · simp only [h, if_false]
    rcases jfind n s with _ | i
    · rfl
    · simp
theorem lkM_mem (s : ByteArray) (y : Jsn) : ∀ (n : List ByteArray) (l : List Jsn), n.length = l.length → n.Nodup → (lkM n l s = some y ↔ (s, y) ∈ n.zip l)
  | [], [], _, _ => by unfold lkM jfind; simp
  | [], _ :: _, h, _ => by simp at h
  | _ :: _, [], h, _ => by simp at h
  | a :: n, x :: l, h, hd => by
    obtain ⟨h1, h2⟩ := List.nodup_cons.1 hd
    have ih := lkM_mem s y n l (by simpa using h) h2
    rw [lkM_cons, List.zip_cons_cons, List.mem_cons, Prod.mk.injEq]
    by_cases e : a = s
    · subst e
      rw [if_pos rfl]
      constructor
      · intro h'; injection h' with h'; exact .inl ⟨rfl, h'.symm⟩
      · rintro (⟨_, h'⟩ | h')
        · rw [h']
        · exact absurd (List.of_mem_zip h').1 h1
    · rw [if_neg e, ih]
      constructor
      · exact .inr
      · rintro (⟨h', _⟩ | h')
        · exact absurd h'.symm e
        · exact h'
theorem memJ_lk {o : Jsn} (h : o.kind = 7) (s : ByteArray) : memJ o s = (lkM o.names o.list s).getD ⟨0, ⟨#[]⟩, [], []⟩ := by
  unfold memJ jget lkM; simp only [if_pos h]
  try (rcases jfind o.names s with _ | i <;> rfl)
theorem alike_rev (s : ByteArray) (ns : List ByteArray) (ls : List Jsn) (n : Nat) (hn : n ≤ ns.length) (hl : ns.length = ls.length) (hd : ns.Nodup) (hx : yNone ∉ ns) (more : Jsn) :
    Alike ⟨7, s, ns, ls⟩ ⟨7, ⟨#[]⟩, revl yNone n ns 0, revl more n ls 0⟩ := by
  refine ⟨rfl, fun x hne => ?_⟩
  rw [memJ_lk rfl, memJ_lk rfl]
  congr 1
  dsimp only
  have hlen : (revl yNone n ns 0).length = (revl more n ls 0).length := by rw [revl_len _ n ns _ hn, revl_len _ n ls _ (by omega), hl]
  have hnd : (revl yNone n ns 0).Nodup := by
    refine (revl_perm yNone n ns).nodup_iff.2 ?_
    split
    · exact List.nodup_cons.2 ⟨hx, hd⟩
    · exact hd
  have h : ∀ y, lkM ns ls x = some y ↔ lkM (revl yNone n ns 0) (revl more n ls 0) x = some y := fun y => by
    rw [lkM_mem x y _ _ hl hd, lkM_mem x y _ _ hlen hnd, revl_zip yNone more n ns ls hl hn ns.length 0 (by omega), (revl_perm (yNone, more) n (ns.zip ls)).mem_iff]
    split
    · rw [List.mem_cons, Prod.mk.injEq]
      constructor
      · exact .inr
      · rintro (⟨h, _⟩ | h)
        · exact absurd h hne
        · exact h
    · exact Iff.rfl
  rcases ha : lkM ns ls x with _ | y
  · rcases hb : lkM (revl yNone n ns 0) (revl more n ls 0) x with _ | z
    · rfl
    · have := (h z).2 hb; rw [ha] at this; cases this
  · exact ((h y).1 ha).symm
theorem memJ_bulkQ (v : Jsn) (y : ByteArray) : jbulk (memJ v y) ≤ jbulk v := by
  have h0 := jbulk_pos v
  unfold memJ
  rcases h : jget v y with _ | x
  · have : jbulk ⟨0, ⟨#[]⟩, [], []⟩ = 1 := by rw [jbulk_eq]; rfl
    show jbulk ⟨0, ⟨#[]⟩, [], []⟩ ≤ _
    omega
  · show jbulk x ≤ _
    unfold jget at h
    split at h
    · split at h
      · cases h
      · rename_i i hi
        have hm := List.mem_of_getElem? h
        obtain ⟨k, s, n, l⟩ := v
        have := jbulks_mem hm
        rw [jbulk_eq]
        dsimp only at this
        omega
    · cases h
theorem list_bulk (v : Jsn) : v.list.length ≤ jbulk v := (bulk_parts (Nat.le_refl (jbulk v))).2.2.1
/-- What a message's id and changes are bounded by. -/
def SmM (v : Jsn) (N : Nat) (m : LM) : Prop := jbulk m.id ≤ jbulk v ∧ m.chs.length ≤ N * jbulk v
theorem chgs_len : ∀ (l : List Jsn) (acc : List Ch), (chgs l acc).2.length ≤ acc.length + l.length
  | [], acc => by unfold chgs; simp
  | x :: l, acc => by
    unfold chgs
    split
    · rename_i c _
      have := chgs_len l (acc ++ [c])
      simp at this ⊢
      omega
    · simp
theorem SmM.more {v : Jsn} {N : Nat} {m : LM} (h : SmM v N m) : SmM v (N + 1) m := ⟨h.1, Nat.le_trans h.2 (Nat.mul_le_mul_right _ (Nat.le_succ _))⟩
def KpM (v : Jsn) (f : Rd) : Prop := ∀ N m, SmM v N m → SmM v (N + 1) (f v m).2
theorem kp_at (v : Jsn) : KpM v rAt := fun _ _ h => SmM.more ⟨h.1, h.2⟩
theorem kp_ver (v : Jsn) : KpM v rVer := fun _ _ h => SmM.more ⟨h.1, h.2⟩
theorem kp_loose (v : Jsn) : KpM v rLoose := fun _ _ h => SmM.more ⟨h.1, h.2⟩
theorem kp_init (v : Jsn) : KpM v rInit := fun _ _ h => SmM.more ⟨h.1, h.2⟩
theorem kp_name (v : Jsn) : KpM v rName := fun _ _ h => SmM.more ⟨h.1, h.2⟩
theorem kp_text (v : Jsn) : KpM v rText := fun _ _ h => SmM.more ⟨h.1, h.2⟩
theorem kp_fmt (v : Jsn) : KpM v rFmt := fun _ _ h => by
  unfold rFmt
  split <;> exact SmM.more ⟨h.1, h.2⟩
theorem kp_cancel (v : Jsn) : KpM v rCancel := fun _ _ h => SmM.more ⟨memJ_bulkQ v yId, h.2⟩
theorem kp_chs (v : Jsn) : KpM v rChs := fun N m h => by
  unfold rChs
  split
  · refine ⟨h.1, ?_⟩
    have h1 := chgs_len (memJ v yContentChanges).list m.chs
    have h2 := list_bulk (memJ v yContentChanges)
    have h3 := memJ_bulkQ v yContentChanges
    have h4 := h.2
    rw [Nat.add_mul]
    show (chgs (memJ v yContentChanges).list m.chs).2.length ≤ _
    omega
  · exact h.more
theorem kp_fold (v : Jsn) : ∀ (fs : List Rd), (∀ f ∈ fs, KpM v f) → ∀ N (a : Bool × LM), SmM v N a.2 → SmM v (N + fs.length) (fs.foldl (docStep v) a).2
  | [], _, _, _, h => h
  | f :: fs, hf, N, a, h => by
    rw [List.foldl_cons, List.length_cons, show N + (fs.length + 1) = N + 1 + fs.length by omega]
    exact kp_fold v fs (fun g hg => hf g (by simp [hg])) (N + 1) (docStep v a f) (hf f (by simp) N a.2 h)
theorem kp_doc (v : Jsn) (fs : List Rd) (hf : ∀ f ∈ fs, KpM v f) (k : Int) : SmM v fs.length (rDoc fs v (zeroLM k)).2 := by
  unfold rDoc
  have := kp_fold v fs hf 0 ((lTxt (memJ (memJ v yTextDocument) yUri) (zeroLM k).uri).1, { zeroLM k with uri := (lTxt (memJ (memJ v yTextDocument) yUri) (zeroLM k).uri).2 }) ⟨by
    have h0 := jbulk_pos v
    have : jbulk ⟨0, ⟨#[]⟩, [], []⟩ = 1 := by rw [jbulk_eq]; rfl
    show jbulk ⟨0, ⟨#[]⟩, [], []⟩ ≤ _
    omega, Nat.zero_le _⟩
  rwa [Nat.zero_add] at this
theorem SmM.zero (v : Jsn) (N : Nat) (k : Int) : SmM v N (zeroLM k) := ⟨by
    have h0 := jbulk_pos v
    have : jbulk ⟨0, ⟨#[]⟩, [], []⟩ = 1 := by rw [jbulk_eq]; rfl
    show jbulk ⟨0, ⟨#[]⟩, [], []⟩ ≤ _
    omega, Nat.zero_le _⟩
theorem SmM.le {v : Jsn} {N M : Nat} {m : LM} (h : SmM v N m) (hn : N ≤ M) : SmM v M m := ⟨h.1, Nat.le_trans h.2 (Nat.mul_le_mul_right _ hn)⟩
/-- What is read is no greater than what it is read of. -/
theorem ldec_small (s : ByteArray) (v : Jsn) : SmM v 3 (ldec s v).1 := by
  have key : ∀ p ∈ lMethods, SmM v 3 (p.2.2 v (zeroLM p.2.1)).2 := by
    intro p hp
    unfold lMethods at hp
    simp only [List.mem_cons, List.not_mem_nil, or_false] at hp
    have z : ∀ k, SmM v 0 (zeroLM k) := fun k => SmM.zero v 0 k
    rcases hp with rfl | rfl | rfl | rfl | rfl | rfl | rfl | rfl | rfl | rfl | rfl | rfl | rfl
    · exact (kp_init v 0 _ (z _)).le (by omega)
    · exact (kp_loose v 0 _ (z _)).le (by omega)
    · exact (kp_doc v _ (fun f hf => by simp at hf; subst hf; exact kp_fmt v) _).le (by simp)
    · exact (kp_doc v _ (fun f hf => by simp at hf; rcases hf with rfl | rfl <;> first | exact kp_at v | exact kp_name v) _).le (by simp)
    · exact (kp_doc v _ (fun f hf => by simp at hf; subst hf; exact kp_at v) _).le (by simp)
    · exact (kp_doc v _ (fun f hf => by simp at hf; subst hf; exact kp_at v) _).le (by simp)
    · exact (kp_doc v _ (fun f hf => by simp at hf) _).le (by simp)
    · exact (kp_loose v 0 _ (z _)).le (by omega)
    · exact (kp_loose v 0 _ (z _)).le (by omega)
    · exact (kp_cancel v 0 _ (z _)).le (by omega)
    · exact (kp_doc v _ (fun f hf => by simp at hf; rcases hf with rfl | rfl <;> first | exact kp_ver v | exact kp_text v) _).le (by simp)
    · exact (kp_doc v _ (fun f hf => by simp at hf; rcases hf with rfl | rfl <;> first | exact kp_ver v | exact kp_chs v) _).le (by simp)
    · exact (kp_doc v _ (fun f hf => by simp at hf) _).le (by simp)
  unfold ldec
  rcases hf : lMethods.find? (fun p => decide (p.1 = s)) with _ | p
  · rw [hf]
    exact SmM.zero v 3 0
  · have hm := List.mem_of_find?_eq_some hf
    rw [hf]
    dsimp only
    unfold ldecOf
    split
    · exact key p hm
    · exact SmM.zero v 3 0
end Go.Proofs.YtlnkjacbdolhnaaGreatDoor


/-
  Words for memory, of no program: a block that is known whole; what of it stays behind draws, new blocks, stores and calls.
-/
namespace Go.Proofs.YtlnkjacbdolhnaaGreatDoor
open Go.RowKit

/-- Block b is just these cells of type t, none of them frozen. -/
def Cel (w : World) (b : Nat) (t : TypeId) (cs : Array Value) : Prop := w.heap[b]? = some (.cells cs t (0, 0))

section
variable {w w' : World} {b : Nat} {t : TypeId} {cs : Array Value}

theorem Cel.lt (h : Cel w b t cs) : b < w.heap.size := by
  rcases Nat.lt_or_ge b w.heap.size with h1 | h1
  · exact h1
  · unfold Cel at h
    rw [Array.getElem?_eq_none h1] at h
    cases h
theorem Cel.cell (h : Cel w b t cs) (i : Nat) : w.cell? ⟨b, i, none⟩ = cs[i]? := by
  unfold Cel at h
  simp [World.cell?, h]
theorem Cel.froz (h : Cel w b t cs) (i : Nat) : w.frozen? ⟨b, i, none⟩ = false := by
  unfold Cel at h
  simp [World.frozen?, h]
theorem Cel.fresh (w : World) (t : TypeId) (cs : Array Value) : Cel (w.alloc (.cells cs t)) w.heap.size t cs := by
  unfold Cel
  show (w.heap.push _)[w.heap.size]? = _
  simp
theorem Cel.drew (h : Cel w b t cs) : Cel w.drew b t cs := h
theorem Cel.drewN (h : Cel w b t cs) (n : Nat) : Cel (w.drewN n) b t cs := h
theorem Cel.alloc (h : Cel w b t cs) (o : Obj) : Cel (w.alloc o) b t cs := (Below.heap_alloc w o b h.lt).trans h
theorem Cel.set (h : Cel w b t cs) (i : Nat) (u : Value) : Cel (w.setCell ⟨b, i, none⟩ u) b t (cs.setIfInBounds i u) := by
  unfold Cel at h ⊢
  simp [World.setCell, Array.getElem?_modify, h]
theorem Cel.away (h : Cel w b t cs) {p : Addr} (hp : b ≠ p.block) (u : Value) : Cel (w.setCell p u) b t cs := (Below.heap_setCell w p u b hp).trans h
theorem Cel.below {B : Nat} (h : Cel w b t cs) (hb : Below B w w') (hg : b < B) : Cel w' b t cs := (hb.block b hg).trans h
end

/-- The facts that a walk asks of a block of three cells. -/
theorem Cel.three {w : World} {b : Nat} {t : TypeId} {x y z : Value} (h : Cel w b t #[x, y, z]) :
    w.cell? ⟨b, 0, none⟩ = some x ∧ w.cell? ⟨b, 1, none⟩ = some y ∧ w.cell? ⟨b, 2, none⟩ = some z ∧
    w.frozen? ⟨b, 0, none⟩ = false ∧ w.frozen? ⟨b, 1, none⟩ = false ∧ w.frozen? ⟨b, 2, none⟩ = false :=
  ⟨h.cell 0, h.cell 1, h.cell 2, h.froz 0, h.froz 1, h.froz 2⟩
/-- A block of three cells that has been written over, cell by cell. -/
theorem Cel.over3 {w : World} {b : Nat} {t : TypeId} {x y z x' y' z' : Value} (h : Cel w b t #[x, y, z]) :
    Cel (((w.setCell ⟨b, 0, none⟩ x').setCell ⟨b, 1, none⟩ y').setCell ⟨b, 2, none⟩ z') b t #[x', y', z'] := ((h.set 0 x').set 1 y').set 2 z'
theorem bel_drewN {B : Nat} {a w : World} (h : Below B a w) (n : Nat) : Below B a (w.drewN n) := ⟨h.os, h.tape, h.output, h.size, h.block⟩

/-- A frame read back as a function of its slots: what a cut's relation asks. -/
theorem meetF {a : Act} {F : (Nat → Value) → Array Value} {X : Prop} (h1 : a = ⟨F (fun k => a.tmps.getD k undef), []⟩) (h2 : X) : ∃ u, a = ⟨F u, []⟩ ∧ X := ⟨_, h1, h2⟩
end Go.Proofs.YtlnkjacbdolhnaaGreatDoor


/-
  JSON values as they lie in memory: read only; and of the call's own, each value within in an interval of blocks of its own. No program.
-/
namespace Go.Proofs.YtlnkjacbdolhnaaGreatDoor
open Go.RowKit

/-- A slice of strings that reads as this list; its array lies in a block of X. -/
def StrL (w : World) (X : Nat → Prop) (v : Value) (L : List ByteArray) : Prop :=
  ∃ A c, v = .slice A L.length c ∧ (0 < L.length → ∃ g o, A = some ⟨g, o, none⟩ ∧ X g ∧ g < w.heap.size ∧ ∀ j x, L[j]? = some x → w.cell? ⟨g, o + j, none⟩ = some (.string x))

/-- A value as it lies: it, the slice of its names, the slice of its list. -/
abbrev JE := Jsn × Value × Value
def encJ (z : JE) : List Value := [.int .u8 z.1.kind, .string z.1.text, z.2.1, z.2.2]
theorem encJ_len (z : JE) : (encJ z).length = 4 := rfl

/-- What the list's cells are, the children told by predicates. -/
def JCp (w : World) (g : Nat) : Nat → List (Jsn × (Value → Value → Prop)) → Prop
  | _, [] => True
  | o, x :: r => (∃ vn vl, (∀ (i : Nat) (u : Value), (encJ (x.1, vn, vl))[i]? = some u → w.cell? ⟨g, o + i, none⟩ = some u) ∧ x.2 vn vl) ∧ JCp w g (o + 4) r
/-- These two slices are a value's names and list; all its arrays lie in blocks of X. -/
def JV (w : World) (X : Nat → Prop) : Jsn → Value → Value → Prop := Jsn.para fun k _ ns l vn vl =>
  0 ≤ k ∧ k ≤ 255 ∧ StrL w X vn ns ∧ ∃ A c, vl = .slice A l.length c ∧ (0 < l.length → ∃ g o, A = some ⟨g, o, none⟩ ∧ X g ∧ g < w.heap.size ∧ JCp w g o l)
def JC (w : World) (X : Nat → Prop) (g o : Nat) (l : List Jsn) : Prop := JCp w g o (l.map fun x => (x, JV w X x))
theorem JV_eq (w : World) (X : Nat → Prop) (k : Int) (s : ByteArray) (ns : List ByteArray) (l : List Jsn) (vn vl : Value) : JV w X ⟨k, s, ns, l⟩ vn vl =
    (0 ≤ k ∧ k ≤ 255 ∧ StrL w X vn ns ∧ ∃ A c, vl = .slice A l.length c ∧ (0 < l.length → ∃ g o, A = some ⟨g, o, none⟩ ∧ X g ∧ g < w.heap.size ∧ JC w X g o l)) := by
  conv => lhs; unfold JV
  rw [Jsn.para_eq, List.length_map]
  rfl
theorem JC_cons (w : World) (X : Nat → Prop) (g o : Nat) (x : Jsn) (r : List Jsn) : JC w X g o (x :: r) =
    ((∃ vn vl, (∀ (i : Nat) (u : Value), (encJ (x, vn, vl))[i]? = some u → w.cell? ⟨g, o + i, none⟩ = some u) ∧ JV w X x vn vl) ∧ JC w X g (o + 4) r) := rfl

theorem JC.elems {w : World} {X : Nat → Prop} {g : Nat} : ∀ {l : List Jsn} {o : Nat}, JC w X g o l →
    ∃ zs : List JE, zs.map (·.1) = l ∧ (∀ z ∈ zs, JV w X z.1 z.2.1 z.2.2) ∧ ∀ j z, zs[j]? = some z → ∀ (i : Nat) (u : Value), (encJ z)[i]? = some u → w.cell? ⟨g, o + j * 4 + i, none⟩ = some u
  | [], _, _ => ⟨[], rfl, (fun _ h => by cases h), (fun _ _ h => by simp at h)⟩
  | x :: r, o, h => by
    rw [JC_cons] at h
    obtain ⟨⟨vn, vl, hc, hv⟩, hr⟩ := h
    obtain ⟨zs, h1, h2, h3⟩ := JC.elems hr
    refine ⟨(x, vn, vl) :: zs, by simp [h1], fun z hz => ?_, fun j z hz i u hu => ?_⟩
    · rcases List.mem_cons.1 hz with rfl | hz
      · exact hv
      · exact h2 z hz
    · cases j with
      | zero =>
        simp at hz; subst hz
        have := hc i u hu
        simpa using this
      | succ j =>
        have := h3 j z (by simpa using hz) i u hu
        rwa [show o + 4 + j * 4 + i = o + (j + 1) * 4 + i by omega] at this
theorem JC.of_elems {w : World} {X : Nat → Prop} {g : Nat} : ∀ (zs : List JE) (o : Nat), (∀ z ∈ zs, JV w X z.1 z.2.1 z.2.2) → (∀ j z, zs[j]? = some z → ∀ (i : Nat) (u : Value), (encJ z)[i]? = some u → w.cell? ⟨g, o + j * 4 + i, none⟩ = some u) → JC w X g o (zs.map (·.1))
  | [], _, _, _ => trivial
  | z :: zs, o, h2, h3 => by
    rw [List.map_cons, JC_cons]
    refine ⟨⟨z.2.1, z.2.2, fun i u hu => ?_, h2 z (by simp)⟩, JC.of_elems zs (o + 4) (fun y hy => h2 y (by simp [hy])) fun j y hy i u hu => ?_⟩
    · have := h3 0 z rfl i u hu
      simpa using this
    · have := h3 (j + 1) y (by simpa using hy) i u hu
      rwa [show o + 4 + j * 4 + i = o + (j + 1) * 4 + i by omega]

/-- What a value's list is: its elements as they lie. -/
theorem JV.elems {w : World} {X : Nat → Prop} {k : Int} {s : ByteArray} {ns : List ByteArray} {l : List Jsn} {vn vl : Value} (h : JV w X (.mk k s ns l) vn vl) :
    ∃ (A : Option Addr) (c : Nat) (zs : List JE), vl = .slice A zs.length c ∧ zs.map (·.1) = l ∧ (∀ z ∈ zs, JV w X z.1 z.2.1 z.2.2) ∧
      (0 < zs.length → ∃ g o, A = some ⟨g, o, none⟩ ∧ X g ∧ g < w.heap.size ∧ ∀ j z, zs[j]? = some z → ∀ (i : Nat) (u : Value), (encJ z)[i]? = some u → w.cell? ⟨g, o + j * 4 + i, none⟩ = some u) := by
  rw [JV_eq] at h
  obtain ⟨_, _, _, A, c, rfl, hl⟩ := h
  by_cases hp : 0 < l.length
  · obtain ⟨g, o, rfl, hX, hg, hC⟩ := hl hp
    obtain ⟨zs, h1, h2, h3⟩ := hC.elems
    have hlen : zs.length = l.length := by rw [← h1, List.length_map]
    exact ⟨_, c, zs, by rw [hlen], h1, h2, fun _ => ⟨g, o, rfl, hX, hg, h3⟩⟩
  · have : l = [] := List.eq_nil_of_length_eq_zero (by omega)
    subst this
    exact ⟨A, c, [], rfl, rfl, (fun _ h => by cases h), (fun h => by simp at h)⟩
theorem JV.names {w : World} {X : Nat → Prop} {j : Jsn} {vn vl : Value} (h : JV w X j vn vl) : StrL w X vn j.names := by
  obtain ⟨k, s, n, l⟩ := j; rw [JV_eq] at h; exact h.2.2.1
theorem JV.kind {w : World} {X : Nat → Prop} {j : Jsn} {vn vl : Value} (h : JV w X j vn vl) : 0 ≤ j.kind ∧ j.kind ≤ 255 := by
  obtain ⟨k, s, n, l⟩ := j; rw [JV_eq] at h; exact ⟨h.1, h.2.1⟩
theorem JV.forms {w : World} {X : Nat → Prop} {j : Jsn} {vn vl : Value} (h : JV w X j vn vl) : ∃ A n c A' n' c', vn = .slice A n c ∧ vl = .slice A' n' c' := by
  obtain ⟨k, s, n, l⟩ := j; rw [JV_eq] at h
  obtain ⟨_, _, ⟨A, c, h1, _⟩, A', c', h2, _⟩ := h
  exact ⟨A, _, c, A', _, c', h1, h2⟩
theorem JV.of_elems {w : World} {X : Nat → Prop} {k : Int} {s : ByteArray} {ns : List ByteArray} {vn : Value} {A : Option Addr} {c : Nat} {zs : List JE} {l : List Jsn} (hk0 : 0 ≤ k) (hk1 : k ≤ 255) (hn : StrL w X vn ns) (hz : zs.map (·.1) = l) (h2 : ∀ z ∈ zs, JV w X z.1 z.2.1 z.2.2)
    (h3 : 0 < zs.length → ∃ g o, A = some ⟨g, o, none⟩ ∧ X g ∧ g < w.heap.size ∧ ∀ j z, zs[j]? = some z → ∀ (i : Nat) (u : Value), (encJ z)[i]? = some u → w.cell? ⟨g, o + j * 4 + i, none⟩ = some u) :
    JV w X (.mk k s ns l) vn (.slice A zs.length c) := by
  subst hz
  rw [JV_eq]
  refine ⟨hk0, hk1, hn, A, c, by rw [List.length_map], fun hp => ?_⟩
  obtain ⟨g, o, q1, q2, q3, q4⟩ := h3 (by simpa using hp)
  exact ⟨g, o, q1, q2, q3, JC.of_elems zs o h2 q4⟩

section
variable {w w' : World} {X Y : Nat → Prop}
theorem StrL.keep {v : Value} {L : List ByteArray} (h : StrL w X v L) (hs : w.heap.size ≤ w'.heap.size) (hk : ∀ p : Addr, X p.block → p.block < w.heap.size → w'.cell? p = w.cell? p) (hXY : ∀ b, X b → b < w.heap.size → Y b) : StrL w' Y v L := by
  obtain ⟨A, c, rfl, h1⟩ := h
  refine ⟨A, c, rfl, fun hp => ?_⟩
  obtain ⟨g, o, rfl, q1, q2, q3⟩ := h1 hp
  exact ⟨g, o, rfl, hXY _ q1 q2, Nat.lt_of_lt_of_le q2 hs, fun j x hx => (hk _ q1 q2).trans (q3 j x hx)⟩
theorem JV.keep (hs : w.heap.size ≤ w'.heap.size) (hk : ∀ p : Addr, X p.block → p.block < w.heap.size → w'.cell? p = w.cell? p) (hXY : ∀ b, X b → b < w.heap.size → Y b) : ∀ (j : Jsn) {vn vl : Value}, JV w X j vn vl → JV w' Y j vn vl := by
  refine Jsn.ind ?_
  intro k s n l ih vn vl h
  have hn := h.names
  have hkd := h.kind
  obtain ⟨A, c, zs, rfl, hz, h2, h3⟩ := h.elems
  refine JV.of_elems hkd.1 hkd.2 (hn.keep hs hk hXY) hz (fun z hz' => ih z.1 (by rw [← hz]; exact List.mem_map_of_mem hz') (h2 z hz')) fun hp => ?_
  obtain ⟨g, o, rfl, q1, q2, q3⟩ := h3 hp
  exact ⟨g, o, rfl, hXY _ q1 q2, Nat.lt_of_lt_of_le q2 hs, fun j z hz' i u hu => (hk _ q1 q2).trans (q3 j z hz' i u hu)⟩
theorem JV.below {B : Nat} {j : Jsn} {vn vl : Value} (h : JV w X j vn vl) (hb : Below B w w') (hX : ∀ b, X b → b < w.heap.size → b < B) : JV w' X j vn vl :=
  JV.keep hb.size (fun _p h1 h2 => hb.cell (hX _ h1 h2)) (fun _ h _ => h) j h
theorem JV.more {j : Jsn} {vn vl : Value} (h : JV w X j vn vl) (hXY : ∀ b, X b → b < w.heap.size → Y b) : JV w Y j vn vl := JV.keep (Nat.le_refl _) (fun _ _ _ => rfl) hXY j h
theorem JV.later {j : Jsn} {vn vl : Value} (h : JV w X j vn vl) (hb : Below w.heap.size w w') : JV w' X j vn vl := h.below hb (fun _ _ h => h)
theorem JV.alloc {j : Jsn} {vn vl : Value} (h : JV w X j vn vl) (o : Obj) : JV (w.alloc o) X j vn vl := JV.keep (by simp) (fun p _ hp => World.cell?_alloc_lt w o p hp) (fun _ h _ => h) j h
theorem JV.drew {j : Jsn} {vn vl : Value} (h : JV w X j vn vl) : JV w.drew X j vn vl := JV.keep (w := w) (w' := w.drew) (Nat.le_refl _) (fun _ _ _ => rfl) (fun _ h _ => h) j h
theorem JV.drewN {j : Jsn} {vn vl : Value} (h : JV w X j vn vl) (n : Nat) : JV (w.drewN n) X j vn vl := JV.keep (w := w) (w' := w.drewN n) (Nat.le_refl _) (fun _ _ _ => rfl) (fun _ h _ => h) j h
theorem StrL.later {v : Value} {L : List ByteArray} (h : StrL w X v L) (hb : Below w.heap.size w w') : StrL w' X v L := h.keep hb.size (fun _p _ hp => hb.cell hp) (fun _ h _ => h)
end
end Go.Proofs.YtlnkjacbdolhnaaGreatDoor


/-
  JSON values in memory of the call's own: each value within lies in an interval of blocks of its own. No program.
-/
namespace Go.Proofs.YtlnkjacbdolhnaaGreatDoor
open Go.RowKit

/-- Names in a block of the call's own. -/
def NamO (w : World) (tS : TypeId) (lo hi gn : Nat) (vn : Value) (ns : List ByteArray) : Prop :=
  ∃ A c, vn = .slice A ns.length c ∧ (0 < ns.length → A = some ⟨gn, 0, none⟩ ∧ lo ≤ gn ∧ gn < hi ∧ ∃ cs : Array Value, Cel w gn tS cs ∧ ∀ (j : Nat) (x : ByteArray), ns[j]? = some x → cs[j]? = some (Value.string x))
/-- How an element lies: its names, its list, its interval. -/
abbrev OE := Value × Value × Nat × Nat
/-- The elements of a list of the call's own, told by predicates. -/
def KidO (gl gn lo hi : Nat) (cs : Array Value) (l : List (Jsn × (Nat → Nat → Value → Value → Prop))) (ws : List OE) : Prop :=
  ws.length = l.length ∧
  (∀ (i : Nat) x u, l[i]? = some x → ws[i]? = some u → (∀ (q : Nat) (v : Value), (encJ (x.1, u.1, u.2.1))[q]? = some v → cs[i * 4 + q]? = some v) ∧ lo ≤ u.2.2.1 ∧ u.2.2.1 ≤ u.2.2.2 ∧ u.2.2.2 ≤ hi ∧
    ¬ (u.2.2.1 ≤ gl ∧ gl < u.2.2.2) ∧ ¬ (u.2.2.1 ≤ gn ∧ gn < u.2.2.2) ∧ x.2 u.2.2.1 u.2.2.2 u.1 u.2.1) ∧
  (∀ (i j : Nat) (u v : OE), i < j → ws[i]? = some u → ws[j]? = some v → u.2.2.2 ≤ v.2.2.1)
/-- A value of the call's own, in the blocks from lo up to ahead of hi; none of its cells is frozen. -/
def OwnJ (w : World) (tS tJ : TypeId) : Jsn → Nat → Nat → Value → Value → Prop := Jsn.para fun k _ ns l lo hi vn vl =>
  0 ≤ k ∧ k ≤ 255 ∧ ∃ (gn gl : Nat) (cs : Array Value) (A : Option Addr) (c : Nat) (ws : List OE),
    NamO w tS lo hi gn vn ns ∧ vl = .slice A l.length c ∧ (0 < l.length → A = some ⟨gl, 0, none⟩ ∧ lo ≤ gl ∧ gl < hi ∧ gl ≠ gn ∧ Cel w gl tJ cs) ∧ KidO gl gn lo hi cs l ws
theorem OwnJ_eq (w : World) (tS tJ : TypeId) (k : Int) (s : ByteArray) (ns : List ByteArray) (l : List Jsn) (lo hi : Nat) (vn vl : Value) : OwnJ w tS tJ ⟨k, s, ns, l⟩ lo hi vn vl =
    (0 ≤ k ∧ k ≤ 255 ∧ ∃ (gn gl : Nat) (cs : Array Value) (A : Option Addr) (c : Nat) (ws : List OE),
      NamO w tS lo hi gn vn ns ∧ vl = .slice A l.length c ∧ (0 < l.length → A = some ⟨gl, 0, none⟩ ∧ lo ≤ gl ∧ gl < hi ∧ gl ≠ gn ∧ Cel w gl tJ cs) ∧ KidO gl gn lo hi cs (l.map fun x => (x, OwnJ w tS tJ x)) ws) := by
  conv => lhs; unfold OwnJ
  rw [Jsn.para_eq]
  simp only [List.length_map]
  rfl

theorem NamO.keep {w w' : World} {tS : TypeId} {lo hi lo' hi' gn : Nat} {vn : Value} {ns : List ByteArray} (h : NamO w tS lo hi gn vn ns) (hk : ∀ b, lo ≤ b → b < hi → w'.heap[b]? = w.heap[b]?) (h1 : lo' ≤ lo) (h2 : hi ≤ hi') : NamO w' tS lo' hi' gn vn ns := by
  obtain ⟨A, c, rfl, q⟩ := h
  refine ⟨A, c, rfl, fun hp => ?_⟩
  obtain ⟨e, q1, q2, cs, q3, q4⟩ := q hp
  exact ⟨e, by omega, by omega, cs, (hk gn q1 q2).trans q3, q4⟩
theorem KidO.imp {gl gn lo hi lo' hi' : Nat} {cs : Array Value} {l l' : List (Jsn × (Nat → Nat → Value → Value → Prop))} {ws : List OE} (h : KidO gl gn lo hi cs l ws) (h1 : lo' ≤ lo) (h2 : hi ≤ hi') (hl : l'.length = l.length)
    (hx : ∀ (i : Nat) x x', l[i]? = some x → l'[i]? = some x' → x'.1 = x.1 ∧ ∀ a b vn vl, lo ≤ a → b ≤ hi → x.2 a b vn vl → x'.2 a b vn vl) : KidO gl gn lo' hi' cs l' ws := by
  obtain ⟨k1, k2, k3⟩ := h
  refine ⟨by omega, fun i x' u hx' hu => ?_, k3⟩
  have hi' : i < l'.length := (List.getElem?_eq_some_iff.1 hx').1
  have hxi : l[i]? = some (l[i]'(by omega)) := List.getElem?_eq_getElem (by omega)
  obtain ⟨q1, q2, q3, q4, q5, q6, q7⟩ := k2 i _ u hxi hu
  obtain ⟨e1, e2⟩ := hx i _ _ hxi hx'
  exact ⟨by rw [e1]; exact q1, by omega, q3, by omega, q5, q6, e2 _ _ _ _ q2 q4 q7⟩
theorem OwnJ.keep {w w' : World} {tS tJ : TypeId} : ∀ (j : Jsn) {lo hi lo' hi' : Nat} {vn vl : Value}, OwnJ w tS tJ j lo hi vn vl → (∀ b, lo ≤ b → b < hi → w'.heap[b]? = w.heap[b]?) → lo' ≤ lo → hi ≤ hi' → OwnJ w' tS tJ j lo' hi' vn vl := by
  refine Jsn.ind fun k s n l ih => ?_
  intro lo hi lo' hi' vn vl h hk h1 h2
  rw [OwnJ_eq] at h ⊢
  obtain ⟨k0, k1, gn, gl, cs, A, c, ws, q1, q2, q4, q5⟩ := h
  refine ⟨k0, k1, gn, gl, cs, A, c, ws, q1.keep hk h1 h2, q2, fun hp => ?_, q5.imp h1 h2 (by simp) fun i x x' hx hx' => ?_⟩
  · obtain ⟨e1, e2, e3, e0, e4⟩ := q4 hp
    exact ⟨e1, by omega, by omega, e0, (hk gl e2 e3).trans e4⟩
  · rw [List.getElem?_map] at hx hx'
    rcases hj : l[i]? with _ | y
    · rw [hj] at hx; cases hx
    · rw [hj] at hx hx'
      injection hx with hx
      injection hx' with hx'
      subst hx
      subst hx'
      refine ⟨rfl, fun a b vn vl ha hb hP => ?_⟩
      exact ih y (List.mem_of_getElem? hj) hP (fun c h3 h4 => hk c (by omega) (by omega)) (Nat.le_refl _) (Nat.le_refl _)
/-- Read only. -/
theorem OwnJ.jv {w : World} {tS tJ : TypeId} : ∀ (j : Jsn) {lo hi : Nat} {vn vl : Value}, OwnJ w tS tJ j lo hi vn vl → JV w (fun b => lo ≤ b ∧ b < hi) j vn vl := by
  refine Jsn.ind fun k s n l ih => ?_
  intro lo hi vn vl h
  rw [OwnJ_eq] at h
  obtain ⟨k0, k1, gn, gl, cs, A, c, ws, ⟨An, cn, rfl, q1⟩, rfl, q4, q5, q6, _⟩ := h
  rw [List.length_map] at q5
  have hzl : (l.zip ws).length = l.length := by rw [List.length_zip]; omega
  have hzg : ∀ (i : Nat) (z : Jsn × OE), (l.zip ws)[i]? = some z → l[i]? = some z.1 ∧ ws[i]? = some z.2 := fun i z h => List.getElem?_zip_eq_some.1 h
  have e : ((l.zip ws).map fun z => ((z.1, z.2.1, z.2.2.1) : JE)).map (·.1) = l := by
    rw [List.map_map]
    show (l.zip ws).map (fun z => z.1) = l
    rw [show (fun z : Jsn × OE => z.1) = Prod.fst from rfl, List.map_fst_zip (by omega)]
  have hlen : ((l.zip ws).map fun z => ((z.1, z.2.1, z.2.2.1) : JE)).length = l.length := by rw [List.length_map, hzl]
  rw [← hlen]
  refine JV.of_elems k0 k1 ⟨An, cn, rfl, fun hp => ?_⟩ e (fun z hz => ?_) fun hp => ?_
  · obtain ⟨e1, e2, e3, cc, e4, e5⟩ := q1 hp
    exact ⟨gn, 0, e1, ⟨e2, e3⟩, e4.lt, fun j x hx => by rw [Nat.zero_add, e4.cell]; exact e5 j x hx⟩
  · rw [List.mem_map] at hz
    obtain ⟨y, hy, rfl⟩ := hz
    obtain ⟨i, hi⟩ := List.mem_iff_getElem?.1 hy
    obtain ⟨hl1, hl2⟩ := hzg i y hi
    obtain ⟨_, r2, _, r4, _, _, r7⟩ := q6 i (y.1, OwnJ w tS tJ y.1) y.2 (by rw [List.getElem?_map, hl1]; rfl) hl2
    exact (ih y.1 (List.mem_of_getElem? hl1) r7).more (fun b hb _ => ⟨Nat.le_trans r2 hb.1, Nat.lt_of_lt_of_le hb.2 r4⟩)
  · rw [hlen] at hp
    obtain ⟨e1, e2, e3, _, e4⟩ := q4 hp
    refine ⟨gl, 0, e1, ⟨e2, e3⟩, e4.lt, fun j z hz i u hu => ?_⟩
    rw [List.getElem?_map] at hz
    rcases hj : (l.zip ws)[j]? with _ | y
    · rw [hj] at hz; cases hz
    · rw [hj] at hz
      injection hz with hz
      subst hz
      obtain ⟨hl1, hl2⟩ := hzg j y hj
      obtain ⟨r1, _⟩ := q6 j (y.1, OwnJ w tS tJ y.1) y.2 (by rw [List.getElem?_map, hl1]; rfl) hl2
      rw [Nat.zero_add, e4.cell]
      exact r1 i u hu
end Go.Proofs.YtlnkjacbdolhnaaGreatDoor


/-
  A row of JSON values that a call fills, one behind the other, each in memory of its own. No program.
-/
namespace Go.Proofs.YtlnkjacbdolhnaaGreatDoor
open Go.RowKit

def rowCells (l : List Jsn) (ws : List OE) : List Value := (l.zip ws).flatMap fun p => encJ (p.1, p.2.1, p.2.2.1)
theorem rowCells_snoc {l : List Jsn} {ws : List OE} (h : ws.length = l.length) (x : Jsn) (u : OE) : rowCells (l ++ [x]) (ws ++ [u]) = rowCells l ws ++ encJ (x, u.1, u.2.1) := by
  unfold rowCells
  rw [List.zip_append h.symm]
  simp
theorem rowCells_at : ∀ (l : List Jsn) (ws : List OE) (i : Nat) (x : Jsn) (u : OE), l[i]? = some x → ws[i]? = some u → ∀ (q : Nat) (v : Value), (encJ (x, u.1, u.2.1))[q]? = some v → (rowCells l ws)[i * 4 + q]? = some v
  | [], _, _, _, _, h, _, _, _, _ => by simp at h
  | _ :: _, [], _, _, _, _, h, _, _, _ => by simp at h
  | y :: l, z :: ws, 0, x, u, h1, h2, q, v, h3 => by
    simp at h1 h2; subst h1; subst h2
    have hq : q < 4 := (List.getElem?_eq_some_iff.1 h3).1
    have : rowCells (y :: l) (z :: ws) = encJ (y, z.1, z.2.1) ++ rowCells l ws := rfl
    rw [this, Nat.zero_mul, Nat.zero_add, List.getElem?_append_left hq]
    exact h3
  | y :: l, z :: ws, i + 1, x, u, h1, h2, q, v, h3 => by
    have := rowCells_at l ws i x u (by simpa using h1) (by simpa using h2) q v h3
    have e : rowCells (y :: l) (z :: ws) = encJ (y, z.1, z.2.1) ++ rowCells l ws := rfl
    rw [e, List.getElem?_append_right (by show 4 ≤ _; omega)]
    show (rowCells l ws)[(i + 1) * 4 + q - 4]? = some v
    rw [show (i + 1) * 4 + q - 4 = i * 4 + q by omega]
    exact this

/-- A row of values, each in an interval of blocks of its own, in which the row's block does not lie. -/
def RowW (w : World) (B : Nat) (tS tJ : TypeId) (v : Value) (l : List Jsn) (ws : List OE) : Prop := ws.length = l.length ∧ w.ownsRow B tJ 4 v l.length (rowCells l ws) ∧
  (∀ (i : Nat) x u, l[i]? = some x → ws[i]? = some u → B ≤ u.2.2.1 ∧ u.2.2.1 ≤ u.2.2.2 ∧ u.2.2.2 ≤ w.heap.size ∧ (∀ g, v.ownBlock = some g → ¬ (u.2.2.1 ≤ g ∧ g < u.2.2.2)) ∧ OwnJ w tS tJ x u.2.2.1 u.2.2.2 u.1 u.2.1) ∧
  (∀ (i j : Nat) (u z : OE), i < j → ws[i]? = some u → ws[j]? = some z → u.2.2.2 ≤ z.2.2.1)
def RowO (w : World) (B : Nat) (tS tJ : TypeId) (v : Value) (l : List Jsn) : Prop := ∃ ws : List OE, RowW w B tS tJ v l ws
theorem RowO.nil (w : World) (B : Nat) (tS tJ : TypeId) : RowO w B tS tJ (.slice none 0 0) [] :=
  ⟨[], rfl, World.ownsRow_nil _ _ _ _, (fun i x u h => by simp at h), (fun i j u z _ h => by simp at h)⟩
theorem RowO.below {w w' : World} {B : Nat} {tS tJ : TypeId} {v : Value} {l : List Jsn} (h : RowO w B tS tJ v l) (hb : Below w.heap.size w w') : RowO w' B tS tJ v l := by
  obtain ⟨ws, h1, h2, h3, h4⟩ := h
  refine ⟨ws, h1, h2.kept (row := none) ⟨hb.os, hb.tape, hb.output, hb.size, fun k hk _ => hb.block k hk⟩ (by rcases hv : v.ownBlock with _ | g <;> simp), fun i x u hx hu => ?_, h4⟩
  obtain ⟨q1, q2, q3, q4, q5⟩ := h3 i x u hx hu
  exact ⟨q1, q2, Nat.le_trans q3 hb.size, q4, OwnJ.keep x q5 (fun b _ hb2 => hb.block b (by omega)) (Nat.le_refl _) (Nat.le_refl _)⟩

/-- One value more: it was made behind the row (W1 to w2), laid into a block (w3), appended (w4). -/
theorem RowW.snoc {wr W1 w2 w4 : World} {B : Nat} {tS tJ : TypeId} {v v' : Value} {l : List Jsn} {ws : List OE} {x : Jsn} {vn vl : Value} (h : RowW wr B tS tJ v l ws) (hs : wr.heap.size ≤ W1.heap.size) (h12 : Below wr.heap.size wr w2) (hs2 : W1.heap.size ≤ w2.heap.size) (hB : B ≤ wr.heap.size)
    (hx : OwnJ w2 tS tJ x W1.heap.size w2.heap.size vn vl) {cs3 : Array Value}
    (hown : w4.ownsRow B tJ 4 v' (l.length + 1) (rowCells l ws ++ encJ (x, vn, vl)))
    (hgr : (w2.alloc (.cells cs3 tJ)).grownBy w4 v.ownBlock) (hbl : v'.ownBlock = v.ownBlock ∨ v'.ownBlock = some (w2.alloc (.cells cs3 tJ)).heap.size) : RowW w4 B tS tJ v' (l ++ [x]) (ws ++ [(vn, vl, W1.heap.size, w2.heap.size)]) := by
  have hvl : ∀ g, v.ownBlock = some g → B ≤ g ∧ g < wr.heap.size := h.2.1.lt
  obtain ⟨h1, h20, h30, h4⟩ := h
  have h2 : w2.ownsRow B tJ 4 v l.length (rowCells l ws) := h20.kept (row := none) ⟨h12.os, h12.tape, h12.output, h12.size, fun k hk _ => h12.block k hk⟩ (by rcases hv : v.ownBlock with _ | g <;> simp)
  have h12s := h12.size
  have h3 : ∀ (i : Nat) x u, l[i]? = some x → ws[i]? = some u → B ≤ u.2.2.1 ∧ u.2.2.1 ≤ u.2.2.2 ∧ u.2.2.2 ≤ wr.heap.size ∧ (∀ g, v.ownBlock = some g → ¬ (u.2.2.1 ≤ g ∧ g < u.2.2.2)) ∧ OwnJ w2 tS tJ x u.2.2.1 u.2.2.2 u.1 u.2.1 := fun i x u hx hu => by
    obtain ⟨q1, q2, q3, q4, q5⟩ := h30 i x u hx hu
    exact ⟨q1, q2, q3, q4, OwnJ.keep x q5 (fun b _ hb2 => h12.block b (by omega)) (Nat.le_refl _) (Nat.le_refl _)⟩
  have hgs := hgr.size
  simp at hgs hbl
  have hkeep : ∀ (y : Jsn) (a b : Nat) (yn yl : Value), OwnJ w2 tS tJ y a b yn yl → b ≤ w2.heap.size → (∀ g, v.ownBlock = some g → ¬ (a ≤ g ∧ g < b)) → OwnJ w4 tS tJ y a b yn yl := fun y a b yn yl hy hb hg =>
    OwnJ.keep y hy (fun c h5 h6 => (hgr.block c (by simp; omega) (fun e => hg c e.symm ⟨h5, h6⟩)).trans (Below.heap_alloc w2 _ c (by omega))) (Nat.le_refl _) (Nat.le_refl _)
  refine ⟨by simp [h1], ?_, fun i y u hy hu => ?_, fun i j u z hij hu hz => ?_⟩
  · rw [rowCells_snoc h1, List.length_append]
    exact hown
  · have hvb : ∀ (a b : Nat), b ≤ w2.heap.size → (∀ g, v.ownBlock = some g → ¬ (a ≤ g ∧ g < b)) → ∀ g, v'.ownBlock = some g → ¬ (a ≤ g ∧ g < b) := fun a b hb hg g hg' => by
      rcases hbl with e | e
      · exact hg g (by rw [← e]; exact hg')
      · rw [e] at hg'; injection hg' with hg'; omega
    by_cases hi : i < l.length
    · rw [List.getElem?_append_left hi] at hy
      rw [List.getElem?_append_left (by omega)] at hu
      obtain ⟨q1, q2, q3, q4, q5⟩ := h3 i y u hy hu
      exact ⟨q1, q2, by omega, hvb _ _ (by omega) q4, hkeep y _ _ _ _ q5 (by omega) q4⟩
    · rw [List.getElem?_append_right (by omega)] at hy
      rw [List.getElem?_append_right (by omega)] at hu
      have hi0 : i - l.length = 0 := by
        have := (List.getElem?_eq_some_iff.1 hy).1
        simp at this; omega
      rw [h1, hi0] at hu
      rw [hi0] at hy
      simp at hy hu
      subst hy
      subst hu
      have hn : ∀ g, v.ownBlock = some g → ¬ (W1.heap.size ≤ g ∧ g < w2.heap.size) := fun g hg => by have := hvl g hg; omega
      exact ⟨by dsimp only; omega, hs2, by dsimp only; omega, hvb _ _ (Nat.le_refl _) hn, hkeep _ _ _ _ _ hx (Nat.le_refl _) hn⟩
  · have hjl : j < (ws ++ [(vn, vl, W1.heap.size, w2.heap.size)]).length := (List.getElem?_eq_some_iff.1 hz).1
    simp at hjl
    rw [List.getElem?_append_left (by omega)] at hu
    by_cases hj : j < ws.length
    · rw [List.getElem?_append_left hj] at hz
      exact h4 i j u z hij hu hz
    · rw [List.getElem?_append_right (by omega), show j - ws.length = 0 by omega] at hz
      simp at hz
      subst hz
      have hil : i < l.length := by omega
      obtain ⟨_, _, q3, _⟩ := h3 i _ u (List.getElem?_eq_getElem hil) hu
      dsimp only
      omega

theorem OwnJ.forms {w : World} {tS tJ : TypeId} {j : Jsn} {lo hi : Nat} {vn vl : Value} (h : OwnJ w tS tJ j lo hi vn vl) : ∃ A n c A' n' c', vn = .slice A n c ∧ vl = .slice A' n' c' := by
  obtain ⟨k, s, n, l⟩ := j; rw [OwnJ_eq] at h
  obtain ⟨_, _, gn, gl, cs, A, c, ws, ⟨A2, c2, h1, _⟩, h2, _⟩ := h
  exact ⟨A2, _, c2, A, _, c, h1, h2⟩
/-- The row, whole, as a value's list. -/
theorem RowO.kids {w : World} {B : Nat} {tS tJ : TypeId} {v : Value} {l : List Jsn} (h : RowO w B tS tJ v l) :
    ∃ (gl : Nat) (cs : Array Value) (A : Option Addr) (c : Nat) (ws : List OE), v = .slice A l.length c ∧ (0 < l.length → A = some ⟨gl, 0, none⟩ ∧ B ≤ gl ∧ gl < w.heap.size ∧ Cel w gl tJ cs) ∧ ∀ gn, w.heap.size ≤ gn → KidO gl gn B w.heap.size cs (l.map fun x => (x, OwnJ w tS tJ x)) ws := by
  obtain ⟨ws, h1, h2, h3, h4⟩ := h
  rcases h2.2 with ⟨rfl, h0⟩ | ⟨g, cap, cur, rfl, hg, hh, hnc, hcm, hcs, htk⟩
  · have : l = [] := List.eq_nil_of_length_eq_zero h0
    subst this
    have hw : ws = [] := List.eq_nil_of_length_eq_zero (by rw [h1]; rfl)
    subst hw
    exact ⟨0, #[], none, 0, [], rfl, (fun h => by simp at h), fun gn _ => ⟨rfl, (fun i x u h => by simp at h), (fun i j u v _ h => by simp at h)⟩⟩
  · refine ⟨g, cur, some ⟨g, 0, none⟩, cap, ws, rfl, fun _ => ⟨rfl, hg, (Array.getElem?_eq_some_iff.1 hh).1, hh⟩, fun gn hgn => ⟨by simp [h1], fun i x u hx hu => ?_, h4⟩⟩
    rw [List.getElem?_map] at hx
    rcases hj : l[i]? with _ | y
    · rw [hj] at hx; cases hx
    · rw [hj] at hx
      injection hx with hx
      subst hx
      obtain ⟨q1, q2, q3, q4, q5⟩ := h3 i y u hj hu
      refine ⟨fun q v hv => ?_, q1, q2, q3, q4 g rfl, by omega, q5⟩
      have h5 := rowCells_at l ws i y u hj hu q v hv
      rw [← htk, List.getElem?_take] at h5
      split at h5
      · rwa [Array.getElem?_toList] at h5
      · cases h5

end Go.Proofs.YtlnkjacbdolhnaaGreatDoor
