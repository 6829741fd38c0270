/-
  JSON values as plain data, and what the document says of them. No program.
-/
import Derived.Lib.Hide
namespace Go.Proofs.YthmojpcaagnfkaaGreatDoor

/-- A value: its kind, its text, its names, its list. -/
structure Jsn where
  kind : Int
  text : ByteArray
  names : List ByteArray
  list : List Jsn

/-- Recursion over the values within. -/
def Jsn.para {α : Type} (f : Int → ByteArray → List ByteArray → List (Jsn × α) → α) : Jsn → α
  | ⟨k, s, n, l⟩ => f k s n (l.attach.map fun ⟨x, _⟩ => (x, Jsn.para f x))
theorem Jsn.para_eq {α : Type} (f : Int → ByteArray → List ByteArray → List (Jsn × α) → α) (k : Int) (s : ByteArray) (n : List ByteArray) (l : List Jsn) :
    Jsn.para f ⟨k, s, n, l⟩ = f k s n (l.map fun x => (x, Jsn.para f x)) := by
  rw [Jsn.para]
  congr 1
  rw [← List.attach_map_subtype_val l, List.map_map]
  simp
/-- Induction over the values within. -/
theorem Jsn.ind {P : Jsn → Prop} (h : ∀ k s n l, (∀ x ∈ l, P x) → P (.mk k s n l)) : ∀ j, P j
  | ⟨k, s, n, l⟩ => h k s n l fun x _ => Jsn.ind h x
theorem map_pair {α β : Type} (g : Jsn → α) (h : Jsn × α → β) (l : List Jsn) : (l.map fun x => (x, g x)).map h = l.map fun x => h (x, g x) := by rw [List.map_map]; rfl

/-- How deep. -/
def jdeep : Jsn → Nat := Jsn.para fun _ _ _ l => (l.map (·.2)).foldr max 0 + 1
def jdeeps (l : List Jsn) : Nat := (l.map jdeep).foldr max 0
theorem jdeep_eq (k : Int) (s : ByteArray) (n : List ByteArray) (l : List Jsn) : jdeep ⟨k, s, n, l⟩ = jdeeps l + 1 := by
  unfold jdeep jdeeps; rw [Jsn.para_eq, map_pair]; rfl
theorem jdeeps_nil : jdeeps [] = 0 := rfl
theorem jdeeps_cons (x : Jsn) (r : List Jsn) : jdeeps (x :: r) = max (jdeep x) (jdeeps r) := rfl
/-- How many values. -/
def jcount : Jsn → Nat := Jsn.para fun _ _ _ l => (l.map (·.2)).sum + 1
def jcounts (l : List Jsn) : Nat := (l.map jcount).sum
theorem jcount_eq (k : Int) (s : ByteArray) (n : List ByteArray) (l : List Jsn) : jcount ⟨k, s, n, l⟩ = jcounts l + 1 := by
  unfold jcount jcounts; rw [Jsn.para_eq, map_pair]; rfl
theorem jcounts_nil : jcounts [] = 0 := rfl
theorem jcounts_cons (x : Jsn) (r : List Jsn) : jcounts (x :: r) = jcount x + jcounts r := by simp [jcounts]
theorem jdeep_pos (j : Jsn) : 1 ≤ jdeep j := by obtain ⟨k, s, n, l⟩ := j; rw [jdeep_eq]; omega
theorem jcount_pos (j : Jsn) : 1 ≤ jcount j := by obtain ⟨k, s, n, l⟩ := j; rw [jcount_eq]; omega
theorem jdeeps_app (m : List Jsn) : ∀ (l : List Jsn), jdeeps (l ++ m) = max (jdeeps l) (jdeeps m)
  | [] => by simp [jdeeps_nil]
  | x :: l => by rw [List.cons_append, jdeeps_cons, jdeeps_cons, jdeeps_app m l, Nat.max_assoc]
theorem jcounts_app (m : List Jsn) : ∀ (l : List Jsn), jcounts (l ++ m) = jcounts l + jcounts m
  | [] => by simp [jcounts_nil]
  | x :: l => by rw [List.cons_append, jcounts_cons, jcounts_cons, jcounts_app m l, Nat.add_assoc]
theorem jdeeps_mem {x : Jsn} : ∀ {l : List Jsn}, x ∈ l → jdeep x ≤ jdeeps l
  | [], h => by cases h
  | y :: r, h => by
    rw [jdeeps_cons]
    rcases List.mem_cons.1 h with rfl | h
    · exact Nat.le_max_left _ _
    · exact Nat.le_trans (jdeeps_mem h) (Nat.le_max_right _ _)
theorem jcounts_mem {x : Jsn} : ∀ {l : List Jsn}, x ∈ l → jcount x ≤ jcounts l
  | [], h => by cases h
  | y :: r, h => by
    rw [jcounts_cons]
    rcases List.mem_cons.1 h with rfl | h
    · exact Nat.le_add_right _ _
    · exact Nat.le_trans (jcounts_mem h) (Nat.le_add_left _ _)
theorem jlen_count : ∀ (l : List Jsn), l.length ≤ jcounts l
  | [] => by simp
  | x :: r => by have := jlen_count r; have := jcount_pos x; rw [jcounts_cons, List.length_cons]; omega
theorem sum_le_sum {α : Type} (f g : α → Nat) : ∀ (l : List α), (∀ x ∈ l, f x ≤ g x) → (l.map f).sum ≤ (l.map g).sum
  | [], _ => by simp
  | x :: r, h => by
    have := sum_le_sum f g r (fun y hy => h y (by simp [hy]))
    have := h x (by simp)
    simp; omega
theorem deeps_le_of : ∀ (l : List Jsn), (∀ x ∈ l, jdeep x ≤ jcount x) → jdeeps l ≤ jcounts l
  | [], _ => Nat.zero_le _
  | x :: r, h => by
    have := deeps_le_of r (fun y hy => h y (by simp [hy]))
    have := h x (by simp)
    rw [jdeeps_cons, jcounts_cons]; omega
theorem jdeep_le_count : ∀ (j : Jsn), jdeep j ≤ jcount j := by
  refine Jsn.ind fun k s n l ih => ?_
  have := deeps_le_of l ih
  rw [jdeep_eq, jcount_eq]; omega
/-- Deeper than that many. -/
theorem jdeeps_lt (m : Nat) : ∀ (l : List Jsn), m < jdeeps l ↔ ∃ x ∈ l, m < jdeep x
  | [] => by simp [jdeeps_nil]
  | x :: r => by
    have ih := jdeeps_lt m r
    simp only [jdeeps_cons, List.mem_cons, exists_eq_or_imp, ← ih]
    omega

/-- May it be, but for names that stand twice? -/
def jform (Own : List UInt8 → List UInt8 × Int) (Val : List UInt8 → Bool) : Jsn → Bool := Jsn.para fun k s n l =>
  if k = 1 ∨ k = 2 ∨ k = 3 then s.data.toList.isEmpty && n.isEmpty && l.isEmpty
  else if k = 4 then decide (Own s.data.toList = (s.data.toList, 0)) && n.isEmpty && l.isEmpty
  else if k = 5 then Val s.data.toList && n.isEmpty && l.isEmpty
  else if k = 6 then s.data.toList.isEmpty && n.isEmpty && (l.map (·.2)).all id
  else if k = 7 then s.data.toList.isEmpty && decide (n.length = l.length) && n.all (fun b => Val b.data.toList) && (l.map (·.2)).all id
  else false
theorem jform_eq (Own : List UInt8 → List UInt8 × Int) (Val : List UInt8 → Bool) (k : Int) (s : ByteArray) (n : List ByteArray) (l : List Jsn) : jform Own Val ⟨k, s, n, l⟩ =
    if k = 1 ∨ k = 2 ∨ k = 3 then s.data.toList.isEmpty && n.isEmpty && l.isEmpty
    else if k = 4 then decide (Own s.data.toList = (s.data.toList, 0)) && n.isEmpty && l.isEmpty
    else if k = 5 then Val s.data.toList && n.isEmpty && l.isEmpty
    else if k = 6 then s.data.toList.isEmpty && n.isEmpty && l.all (jform Own Val)
    else if k = 7 then s.data.toList.isEmpty && decide (n.length = l.length) && n.all (fun b => Val b.data.toList) && l.all (jform Own Val)
    else false := by
  have h1 : ((l.map fun x => (x, Jsn.para (fun k s n l =>
      if k = 1 ∨ k = 2 ∨ k = 3 then s.data.toList.isEmpty && n.isEmpty && l.isEmpty
      else if k = 4 then decide (Own s.data.toList = (s.data.toList, 0)) && n.isEmpty && l.isEmpty
      else if k = 5 then Val s.data.toList && n.isEmpty && l.isEmpty
      else if k = 6 then s.data.toList.isEmpty && n.isEmpty && (l.map (·.2)).all id
      else if k = 7 then s.data.toList.isEmpty && decide (n.length = l.length) && n.all (fun b => Val b.data.toList) && (l.map (·.2)).all id
      else false) x)).map (·.2)).all id = l.all (jform Own Val) := by
    rw [map_pair, List.all_map]; rfl
  conv => lhs; unfold jform
  rw [Jsn.para_eq]
  simp only [h1, List.isEmpty_map, List.length_map]

/-- Does a name stand twice? -/
def dupB : List ByteArray → Bool
  | [] => false
  | x :: r => r.any (fun y => decide (y = x)) || dupB r
def jtwice : Jsn → Bool := Jsn.para fun _ _ n l => dupB n || (l.map (·.2)).any id
theorem jtwice_eq (k : Int) (s : ByteArray) (n : List ByteArray) (l : List Jsn) : jtwice ⟨k, s, n, l⟩ = (dupB n || l.any jtwice) := by
  conv => lhs; unfold jtwice
  rw [Jsn.para_eq, map_pair, List.any_map]; rfl

def jcheck (Own : List UInt8 → List UInt8 × Int) (Val : List UInt8 → Bool) (j : Jsn) : Int :=
  if 64 < jdeep j then 61 else if 65536 < jcount j then 40 else if jform Own Val j = false then 4 else if jtwice j = true then 6 else 0

/-- A digit below 16; a character as it stands in a String's text; a String's text. -/
def jhex (n : Nat) : UInt8 := UInt8.ofNat (if n < 10 then 48 + n else 87 + n)
def jesc (c : UInt8) : List UInt8 :=
  if c = 34 then [92, 34] else if c = 92 then [92, 92] else if c = 8 then [92, 98] else if c = 12 then [92, 102] else if c = 10 then [92, 110] else if c = 13 then [92, 114] else if c = 9 then [92, 116]
  else if c.toNat < 32 then [92, 117, 48, 48, jhex (c.toNat / 16), jhex (c.toNat % 16)] else [c]
def jquote (s : List UInt8) : List UInt8 := 34 :: (s.flatMap jesc ++ [34])

/-- The items of an Array, of an Object: with commas between; f: is it the first? -/
def jitems : Bool → List (List UInt8) → List UInt8
  | _, [] => []
  | f, x :: r => (if f then [] else [44]) ++ x ++ jitems false r
def jpairs : Bool → List ByteArray → List (List UInt8) → List UInt8
  | _, _, [] => []
  | f, n, x :: r => (if f then [] else [44]) ++ (jquote (n.headD ByteArray.empty).data.toList ++ 58 :: x) ++ jpairs false n.tail r
def jtext1 (k : Int) (s : ByteArray) (n : List ByteArray) (l : List (List UInt8)) : List UInt8 :=
  if k = 1 then [110, 117, 108, 108] else if k = 2 then [116, 114, 117, 101] else if k = 3 then [102, 97, 108, 115, 101] else if k = 4 then s.data.toList else if k = 5 then jquote s.data.toList
  else if k = 7 then 123 :: (jpairs true n l ++ [125]) else 91 :: (jitems true l ++ [93])
def jtext : Jsn → List UInt8 := Jsn.para fun k s n l => jtext1 k s n (l.map (·.2))
theorem jtext_eq (k : Int) (s : ByteArray) (n : List ByteArray) (l : List Jsn) : jtext ⟨k, s, n, l⟩ = jtext1 k s n (l.map jtext) := by
  unfold jtext; rw [Jsn.para_eq, map_pair]

def jprint (Own : List UInt8 → List UInt8 × Int) (Val : List UInt8 → Bool) (j : Jsn) : List UInt8 × Int :=
  if jcheck Own Val j ≠ 0 then ([], jcheck Own Val j) else if 262144 < (jtext j).length then ([], 40) else (jtext j, 0)

/-- The first place of a name; what it has. -/
def jfind (n : List ByteArray) (s : ByteArray) : Option Nat := n.findIdx? (fun b => decide (b = s))
def jget (j : Jsn) (s : ByteArray) : Option Jsn :=
  if j.kind = 7 then (match jfind j.names s with | none => none | some i => j.list[i]?) else none

/-- The same? -/
def jsame : Jsn → Jsn → Bool := Jsn.para fun k s n l j =>
  decide (k = j.kind) && decide (s = j.text) && decide (n = j.names) && decide (l.length = j.list.length) && ((l.map (·.2)).zip j.list).all fun p => p.1 p.2
theorem jsame_eq1 (k : Int) (s : ByteArray) (n : List ByteArray) (l : List Jsn) (j : Jsn) : jsame ⟨k, s, n, l⟩ j =
    (decide (k = j.kind) && decide (s = j.text) && decide (n = j.names) && decide (l.length = j.list.length) && (l.zip j.list).all fun p => jsame p.1 p.2) := by
  conv => lhs; unfold jsame
  rw [Jsn.para_eq, map_pair, List.length_map]
  have : ((l.map fun x => jsame x).zip j.list).all (fun p => p.1 p.2) = (l.zip j.list).all fun p => jsame p.1 p.2 := by
    rw [List.zip_map_left, List.all_map]; rfl
  rw [← this]; rfl
theorem zip_all_eq : ∀ (l q : List Jsn), (∀ x ∈ l, ∀ y, jsame x y = true ↔ x = y) → l.length = q.length → ((l.zip q).all (fun p => jsame p.1 p.2) = true ↔ l = q)
  | [], [], _, _ => by simp
  | [], _ :: _, _, h => by simp at h
  | _ :: _, [], _, h => by simp at h
  | x :: r, y :: q, h, hl => by
    have h1 := zip_all_eq r q (fun z hz => h z (by simp [hz])) (by simpa using hl)
    have h2 := h x (by simp) y
    simp only [List.zip_cons_cons, List.all_cons, Bool.and_eq_true, h1, h2, List.cons.injEq]
theorem jsame_eq : ∀ (a b : Jsn), jsame a b = true ↔ a = b := by
  refine Jsn.ind fun k s n l ih b => ?_
  obtain ⟨k', s', n', l'⟩ := b
  rw [jsame_eq1]
  simp only [Bool.and_eq_true, decide_eq_true_eq, Jsn.mk.injEq]
  constructor
  · rintro ⟨⟨⟨⟨h1, h2⟩, h3⟩, h4⟩, h5⟩
    exact ⟨h1, h2, h3, (zip_all_eq l l' ih h4).1 h5⟩
  · rintro ⟨h1, h2, h3, rfl⟩
    exact ⟨⟨⟨⟨h1, h2⟩, h3⟩, rfl⟩, (zip_all_eq l l ih rfl).2 rfl⟩
theorem jsame_refl (a : Jsn) : jsame a a = true := (jsame_eq a a).2 rfl
theorem jsame_comm (a b : Jsn) : jsame a b = jsame b a := by
  rw [Bool.eq_iff_iff, jsame_eq, jsame_eq, eq_comm]

/-- How much there is to it: every part, every byte. -/
def jbulk : Jsn → Nat := Jsn.para fun _ s n l => 1 + s.size + (n.map fun b => b.size + 1).sum + (l.map (·.2)).sum
def jbulks (l : List Jsn) : Nat := (l.map jbulk).sum
theorem jbulk_eq (k : Int) (s : ByteArray) (n : List ByteArray) (l : List Jsn) : jbulk ⟨k, s, n, l⟩ = 1 + s.size + (n.map fun b => b.size + 1).sum + jbulks l := by
  conv => lhs; unfold jbulk
  rw [Jsn.para_eq, map_pair]; rfl
theorem jcount_bulk : ∀ (j : Jsn), jcount j ≤ jbulk j := by
  refine Jsn.ind fun k s n l ih => ?_
  have h1 : jcounts l ≤ jbulks l := sum_le_sum _ _ l ih
  rw [jcount_eq, jbulk_eq]; omega
theorem mem_sum {α : Type} (f : α → Nat) {x : α} : ∀ {l : List α}, x ∈ l → f x ≤ (l.map f).sum
  | [], h => by cases h
  | y :: r, h => by
    rcases List.mem_cons.1 h with rfl | h
    · simp
    · have := mem_sum f h; simp; omega
theorem jbulks_mem {x : Jsn} {l : List Jsn} (h : x ∈ l) : jbulk x ≤ jbulks l := mem_sum jbulk h
theorem len_le_sum {α : Type} (f : α → Nat) (hf : ∀ x, 1 ≤ f x) : ∀ (l : List α), l.length ≤ (l.map f).sum
  | [] => by simp
  | x :: r => by have := len_le_sum f hf r; have := hf x; simp; omega
theorem jbulk_pos (j : Jsn) : 1 ≤ jbulk j := by obtain ⟨k, s, n, l⟩ := j; rw [jbulk_eq]; omega
/-- What a bound on a value's bulk bounds. -/
theorem bulk_parts {j : Jsn} {m : Nat} (h : jbulk j ≤ m) : j.text.size ≤ m ∧ j.names.length ≤ m ∧ j.list.length ≤ m ∧ (∀ b ∈ j.names, b.size ≤ m) ∧ ∀ x ∈ j.list, jbulk x < jbulk j := by
  obtain ⟨k, s, n, l⟩ := j
  rw [jbulk_eq] at h ⊢
  have h1 := len_le_sum (fun b : ByteArray => b.size + 1) (fun _ => by omega) n
  have h2 := len_le_sum jbulk jbulk_pos l
  have h3 : jbulks l = (l.map jbulk).sum := rfl
  refine ⟨by simp only; omega, by simp only; omega, by simp only; omega, fun b hb => ?_, fun x hx => ?_⟩
  · have := mem_sum (fun b : ByteArray => b.size + 1) hb; simp only at this; omega
  · have hx' : x ∈ l := hx
    have := jbulks_mem hx'; omega
end Go.Proofs.YthmojpcaagnfkaaGreatDoor
