/-
  JSON values as plain data, and what the document says of them. No program.
-/
import Derived.Lib.Hide
import Derived.Lib.ValidLaws
import Derived.Below
import Derived.Laws.OwnMore
import Derived.Deep.Draws
import Derived.Laws.Rows
import Derived.WalkKit
namespace Go.Proofs.YtdjfoabinjfnfaaGreatDoor
structure Jsn where
  kind : Int
  text : ByteArray
  names : List ByteArray
  list : List Jsn
def Jsn.para {α : Type} (f : Int → ByteArray → List ByteArray → List (Jsn × α) → α) : Jsn → α
  | ⟨k, s, n, l⟩ => f k s n (l.attach.map fun ⟨x, _⟩ => (x, Jsn.para f x))
theorem Jsn.para_eq {α : Type} (f : Int → ByteArray → List ByteArray → List (Jsn × α) → α) (k : Int) (s : ByteArray) (n : List ByteArray) (l : List Jsn) :
    Jsn.para f ⟨k, s, n, l⟩ = f k s n (l.map fun x => (x, Jsn.para f x)) := by
  rw [Jsn.para]
  congr 1
  rw [← List.attach_map_subtype_val l, List.map_map]
  simp
theorem Jsn.ind {P : Jsn → Prop} (h : ∀ k s n l, (∀ x ∈ l, P x) → P (.mk k s n l)) : ∀ j, P j
  | ⟨k, s, n, l⟩ => h k s n l fun x _ => Jsn.ind h x
theorem map_pair {α β : Type} (g : Jsn → α) (h : Jsn × α → β) (l : List Jsn) : (l.map fun x => (x, g x)).map h = l.map fun x => h (x, g x) := by rw [List.map_map]; rfl
def jdeep : Jsn → Nat := Jsn.para fun _ _ _ l => (l.map (·.2)).foldr max 0 + 1
def jdeeps (l : List Jsn) : Nat := (l.map jdeep).foldr max 0
theorem jdeep_eq (k : Int) (s : ByteArray) (n : List ByteArray) (l : List Jsn) : jdeep ⟨k, s, n, l⟩ = jdeeps l + 1 := by
  unfold jdeep jdeeps; rw [Jsn.para_eq, map_pair]; rfl
theorem jdeeps_nil : jdeeps [] = 0 := rfl
theorem jdeeps_cons (x : Jsn) (r : List Jsn) : jdeeps (x :: r) = max (jdeep x) (jdeeps r) := rfl
def jcount : Jsn → Nat := Jsn.para fun _ _ _ l => (l.map (·.2)).sum + 1
def jcounts (l : List Jsn) : Nat := (l.map jcount).sum
theorem jcount_eq (k : Int) (s : ByteArray) (n : List ByteArray) (l : List Jsn) : jcount ⟨k, s, n, l⟩ = jcounts l + 1 := by
  unfold jcount jcounts; rw [Jsn.para_eq, map_pair]; rfl
theorem jcounts_nil : jcounts [] = 0 := rfl
theorem jcounts_cons (x : Jsn) (r : List Jsn) : jcounts (x :: r) = jcount x + jcounts r := by simp [jcounts]
theorem jcount_pos (j : Jsn) : 1 ≤ jcount j := by obtain ⟨k, s, n, l⟩ := j; rw [jcount_eq]; omega
theorem jdeeps_app (m : List Jsn) : ∀ (l : List Jsn), jdeeps (l ++ m) = max (jdeeps l) (jdeeps m)
  | [] => by simp [jdeeps_nil]
  | x :: l => by rw [List.cons_append, jdeeps_cons, jdeeps_cons, jdeeps_app m l, Nat.max_assoc]
theorem jcounts_app (m : List Jsn) : ∀ (l : List Jsn), jcounts (l ++ m) = jcounts l + jcounts m
  | [] => by simp [jcounts_nil]
  | x :: l => by rw [List.cons_append, jcounts_cons, jcounts_cons, jcounts_app m l, Nat.add_assoc]
theorem jdeeps_mem {x : Jsn} : ∀ {l : List Jsn}, x ∈ l → jdeep x ≤ jdeeps l
  | [], h => by cases h
  | y :: r, h => by
    rw [jdeeps_cons]
    rcases List.mem_cons.1 h with rfl | h
    · exact Nat.le_max_left _ _
    · exact Nat.le_trans (jdeeps_mem h) (Nat.le_max_right _ _)
theorem jcounts_mem {x : Jsn} : ∀ {l : List Jsn}, x ∈ l → jcount x ≤ jcounts l
  | [], h => by cases h
  | y :: r, h => by
    rw [jcounts_cons]
    rcases List.mem_cons.1 h with rfl | h
    · exact Nat.le_add_right _ _
    · exact Nat.le_trans (jcounts_mem h) (Nat.le_add_left _ _)
theorem jlen_count : ∀ (l : List Jsn), l.length ≤ jcounts l
  | [] => by simp
  | x :: r => by have := jlen_count r; have := jcount_pos x; rw [jcounts_cons, List.length_cons]; omega
theorem sum_le_sum {α : Type} (f g : α → Nat) : ∀ (l : List α), (∀ x ∈ l, f x ≤ g x) → (l.map f).sum ≤ (l.map g).sum
  | [], _ => by simp
  | x :: r, h => by
    have := sum_le_sum f g r (fun y hy => h y (by simp [hy]))
    have := h x (by simp)
    simp; omega
theorem deeps_le_of : ∀ (l : List Jsn), (∀ x ∈ l, jdeep x ≤ jcount x) → jdeeps l ≤ jcounts l
  | [], _ => Nat.zero_le _
  | x :: r, h => by
    have := deeps_le_of r (fun y hy => h y (by simp [hy]))
    have := h x (by simp)
    rw [jdeeps_cons, jcounts_cons]; omega
theorem jdeep_le_count : ∀ (j : Jsn), jdeep j ≤ jcount j := by
  refine Jsn.ind fun k s n l ih => ?_
  have := deeps_le_of l ih
  rw [jdeep_eq, jcount_eq]; omega
theorem jdeeps_lt (m : Nat) : ∀ (l : List Jsn), m < jdeeps l ↔ ∃ x ∈ l, m < jdeep x
  | [] => by simp [jdeeps_nil]
  | x :: r => by
    have ih := jdeeps_lt m r
    simp only [jdeeps_cons, List.mem_cons, exists_eq_or_imp, ← ih]
    omega
def jform (Own : List UInt8 → List UInt8 × Int) (Val : List UInt8 → Bool) : Jsn → Bool := Jsn.para fun k s n l =>
  if k = 1 ∨ k = 2 ∨ k = 3 then s.data.toList.isEmpty && n.isEmpty && l.isEmpty
  else if k = 4 then decide (Own s.data.toList = (s.data.toList, 0)) && n.isEmpty && l.isEmpty
  else if k = 5 then Val s.data.toList && n.isEmpty && l.isEmpty
  else if k = 6 then s.data.toList.isEmpty && n.isEmpty && (l.map (·.2)).all id
  else if k = 7 then s.data.toList.isEmpty && decide (n.length = l.length) && n.all (fun b => Val b.data.toList) && (l.map (·.2)).all id
  else false
theorem jform_eq (Own : List UInt8 → List UInt8 × Int) (Val : List UInt8 → Bool) (k : Int) (s : ByteArray) (n : List ByteArray) (l : List Jsn) : jform Own Val ⟨k, s, n, l⟩ =
    if k = 1 ∨ k = 2 ∨ k = 3 then s.data.toList.isEmpty && n.isEmpty && l.isEmpty
    else if k = 4 then decide (Own s.data.toList = (s.data.toList, 0)) && n.isEmpty && l.isEmpty
    else if k = 5 then Val s.data.toList && n.isEmpty && l.isEmpty
    else if k = 6 then s.data.toList.isEmpty && n.isEmpty && l.all (jform Own Val)
    else if k = 7 then s.data.toList.isEmpty && decide (n.length = l.length) && n.all (fun b => Val b.data.toList) && l.all (jform Own Val)
    else false := by
  have h1 : ((l.map fun x => (x, Jsn.para (fun k s n l =>
      if k = 1 ∨ k = 2 ∨ k = 3 then s.data.toList.isEmpty && n.isEmpty && l.isEmpty
      else if k = 4 then decide (Own s.data.toList = (s.data.toList, 0)) && n.isEmpty && l.isEmpty
      else if k = 5 then Val s.data.toList && n.isEmpty && l.isEmpty
      else if k = 6 then s.data.toList.isEmpty && n.isEmpty && (l.map (·.2)).all id
      else if k = 7 then s.data.toList.isEmpty && decide (n.length = l.length) && n.all (fun b => Val b.data.toList) && (l.map (·.2)).all id
      else false) x)).map (·.2)).all id = l.all (jform Own Val) := by
    rw [map_pair, List.all_map]; rfl
  conv => lhs; unfold jform
  rw [Jsn.para_eq]
  simp only [h1, List.isEmpty_map, List.length_map]
def dupB : List ByteArray → Bool
  | [] => false
  | x :: r => r.any (fun y => decide (y = x)) || dupB r
def jtwice : Jsn → Bool := Jsn.para fun _ _ n l => dupB n || (l.map (·.2)).any id
theorem jtwice_eq (k : Int) (s : ByteArray) (n : List ByteArray) (l : List Jsn) : jtwice ⟨k, s, n, l⟩ = (dupB n || l.any jtwice) := by
  conv => lhs; unfold jtwice
  rw [Jsn.para_eq, map_pair, List.any_map]; rfl
def jcheck (Own : List UInt8 → List UInt8 × Int) (Val : List UInt8 → Bool) (j : Jsn) : Int :=
  if 64 < jdeep j then 61 else if 65536 < jcount j then 40 else if jform Own Val j = false then 4 else if jtwice j = true then 6 else 0
def jhex (n : Nat) : UInt8 := UInt8.ofNat (if n < 10 then 48 + n else 87 + n)
def jesc (c : UInt8) : List UInt8 :=
  if c = 34 then [92, 34] else if c = 92 then [92, 92] else if c = 8 then [92, 98] else if c = 12 then [92, 102] else if c = 10 then [92, 110] else if c = 13 then [92, 114] else if c = 9 then [92, 116]
  else if c.toNat < 32 then [92, 117, 48, 48, jhex (c.toNat / 16), jhex (c.toNat % 16)] else [c]
def jquote (s : List UInt8) : List UInt8 := 34 :: (s.flatMap jesc ++ [34])
def jitems : Bool → List (List UInt8) → List UInt8
  | _, [] => []
  | f, x :: r => (if f then [] else [44]) ++ x ++ jitems false r
def jpairs : Bool → List ByteArray → List (List UInt8) → List UInt8
  | _, _, [] => []
  | f, n, x :: r => (if f then [] else [44]) ++ (jquote (n.headD ByteArray.empty).data.toList ++ 58 :: x) ++ jpairs false n.tail r
def jtext1 (k : Int) (s : ByteArray) (n : List ByteArray) (l : List (List UInt8)) : List UInt8 :=
  if k = 1 then [110, 117, 108, 108] else if k = 2 then [116, 114, 117, 101] else if k = 3 then [102, 97, 108, 115, 101] else if k = 4 then s.data.toList else if k = 5 then jquote s.data.toList
  else if k = 7 then 123 :: (jpairs true n l ++ [125]) else 91 :: (jitems true l ++ [93])
def jtext : Jsn → List UInt8 := Jsn.para fun k s n l => jtext1 k s n (l.map (·.2))
theorem jtext_eq (k : Int) (s : ByteArray) (n : List ByteArray) (l : List Jsn) : jtext ⟨k, s, n, l⟩ = jtext1 k s n (l.map jtext) := by
  unfold jtext; rw [Jsn.para_eq, map_pair]
def jprint (Own : List UInt8 → List UInt8 × Int) (Val : List UInt8 → Bool) (j : Jsn) : List UInt8 × Int :=
  if jcheck Own Val j ≠ 0 then ([], jcheck Own Val j) else if 262144 < (jtext j).length then ([], 40) else (jtext j, 0)
def jfind (n : List ByteArray) (s : ByteArray) : Option Nat := n.findIdx? (fun b => decide (b = s))
def jget (j : Jsn) (s : ByteArray) : Option Jsn :=
  if j.kind = 7 then (match jfind j.names s with | none => none | some i => j.list[i]?) else none
def jsame : Jsn → Jsn → Bool := Jsn.para fun k s n l j =>
  decide (k = j.kind) && decide (s = j.text) && decide (n = j.names) && decide (l.length = j.list.length) && ((l.map (·.2)).zip j.list).all fun p => p.1 p.2
theorem jsame_eq1 (k : Int) (s : ByteArray) (n : List ByteArray) (l : List Jsn) (j : Jsn) : jsame ⟨k, s, n, l⟩ j =
    (decide (k = j.kind) && decide (s = j.text) && decide (n = j.names) && decide (l.length = j.list.length) && (l.zip j.list).all fun p => jsame p.1 p.2) := by
  conv => lhs; unfold jsame
  rw [Jsn.para_eq, map_pair, List.length_map]
  have : ((l.map fun x => jsame x).zip j.list).all (fun p => p.1 p.2) = (l.zip j.list).all fun p => jsame p.1 p.2 := by
    rw [List.zip_map_left, List.all_map]; rfl
  rw [← this]; rfl
theorem zip_all_eq : ∀ (l q : List Jsn), (∀ x ∈ l, ∀ y, jsame x y = true ↔ x = y) → l.length = q.length → ((l.zip q).all (fun p => jsame p.1 p.2) = true ↔ l = q)
  | [], [], _, _ => by simp
  | [], _ :: _, _, h => by simp at h
  | _ :: _, [], _, h => by simp at h
  | x :: r, y :: q, h, hl => by
    have h1 := zip_all_eq r q (fun z hz => h z (by simp [hz])) (by simpa using hl)
    have h2 := h x (by simp) y
    simp only [List.zip_cons_cons, List.all_cons, Bool.and_eq_true, h1, h2, List.cons.injEq]
theorem jsame_eq : ∀ (a b : Jsn), jsame a b = true ↔ a = b := by
  refine Jsn.ind fun k s n l ih b => ?_
  obtain ⟨k', s', n', l'⟩ := b
  rw [jsame_eq1]
  simp only [Bool.and_eq_true, decide_eq_true_eq, Jsn.mk.injEq]
  constructor
  · rintro ⟨⟨⟨⟨h1, h2⟩, h3⟩, h4⟩, h5⟩
    exact ⟨h1, h2, h3, (zip_all_eq l l' ih h4).1 h5⟩
  · rintro ⟨h1, h2, h3, rfl⟩
    exact ⟨⟨⟨⟨h1, h2⟩, h3⟩, rfl⟩, (zip_all_eq l l ih rfl).2 rfl⟩
theorem jsame_refl (a : Jsn) : jsame a a = true := (jsame_eq a a).2 rfl
def jbulk : Jsn → Nat := Jsn.para fun _ s n l => 1 + s.size + (n.map fun b => b.size + 1).sum + (l.map (·.2)).sum
def jbulks (l : List Jsn) : Nat := (l.map jbulk).sum
theorem jbulk_eq (k : Int) (s : ByteArray) (n : List ByteArray) (l : List Jsn) : jbulk ⟨k, s, n, l⟩ = 1 + s.size + (n.map fun b => b.size + 1).sum + jbulks l := by
  conv => lhs; unfold jbulk
  rw [Jsn.para_eq, map_pair]; rfl
theorem jcount_bulk : ∀ (j : Jsn), jcount j ≤ jbulk j := by
  refine Jsn.ind fun k s n l ih => ?_
  have h1 : jcounts l ≤ jbulks l := sum_le_sum _ _ l ih
  rw [jcount_eq, jbulk_eq]; omega
theorem mem_sum {α : Type} (f : α → Nat) {x : α} : ∀ {l : List α}, x ∈ l → f x ≤ (l.map f).sum
  | [], h => by cases h
  | y :: r, h => by
    rcases List.mem_cons.1 h with rfl | h
    · simp
    · have := mem_sum f h; simp; omega
theorem jbulks_mem {x : Jsn} {l : List Jsn} (h : x ∈ l) : jbulk x ≤ jbulks l := mem_sum jbulk h
theorem len_le_sum {α : Type} (f : α → Nat) (hf : ∀ x, 1 ≤ f x) : ∀ (l : List α), l.length ≤ (l.map f).sum
  | [] => by simp
  | x :: r => by have := len_le_sum f hf r; have := hf x; simp; omega
theorem jbulk_pos (j : Jsn) : 1 ≤ jbulk j := by obtain ⟨k, s, n, l⟩ := j; rw [jbulk_eq]; omega
theorem bulk_parts {j : Jsn} {m : Nat} (h : jbulk j ≤ m) : j.text.size ≤ m ∧ j.names.length ≤ m ∧ j.list.length ≤ m ∧ (∀ b ∈ j.names, b.size ≤ m) ∧ ∀ x ∈ j.list, jbulk x < jbulk j := by
  obtain ⟨k, s, n, l⟩ := j
  rw [jbulk_eq] at h ⊢
  have h1 := len_le_sum (fun b : ByteArray => b.size + 1) (fun _ => by omega) n
  have h2 := len_le_sum jbulk jbulk_pos l
  have h3 : jbulks l = (l.map jbulk).sum := rfl
  refine ⟨by simp only; omega, by simp only; omega, by simp only; omega, fun b hb => ?_, fun x hx => ?_⟩
  · have := mem_sum (fun b : ByteArray => b.size + 1) hb; simp only at this; omega
  · have hx' : x ∈ l := hx
    have := jbulks_mem hx'; omega
end Go.Proofs.YtdjfoabinjfnfaaGreatDoor
namespace Go.Proofs.YtdjfoabinjfnfaaGreatDoor
def rputN (p : Nat) : List Nat :=
  if 1114111 < p ∨ (55296 ≤ p ∧ p ≤ 57343) then []
  else if p < 128 then [p]
  else if p < 2048 then [192 + p / 64, 128 + p % 64]
  else if p < 65536 then [224 + p / 4096, 128 + p / 64 % 64, 128 + p % 64]
  else [240 + p / 262144, 128 + p / 4096 % 64, 128 + p / 64 % 64, 128 + p % 64]
def rput (p : Int) : List UInt8 := if p < 0 then [] else (rputN p.toNat).map UInt8.ofNat
def rhead (n : Nat) : Int := if n = 2 then 192 else if n = 3 then 224 else if n = 4 then 240 else 0
def rbits : List UInt8 → Int
  | [] => 0
  | a :: t => t.foldl (fun o b => o * 64 + b.toNat - 128) ((a.toNat : Int) - rhead (t.length + 1))
def rok (l : List UInt8) (k : Nat) : Bool := decide (0 ≤ rbits (l.take k)) && decide (rput (rbits (l.take k)) = l.take k)
def rrune (l : List UInt8) : Int × Nat :=
  if l = [] then (-1, 0)
  else if rok l 1 = true then (rbits (l.take 1), 1)
  else if 2 ≤ l.length ∧ rok l 2 = true then (rbits (l.take 2), 2)
  else if 3 ≤ l.length ∧ rok l 3 = true then (rbits (l.take 3), 3)
  else if 4 ≤ l.length ∧ rok l 4 = true then (rbits (l.take 4), 4)
  else (-1, 1)
theorem ofNat_eq {x : Nat} {a : UInt8} (hx : x < 256) : UInt8.ofNat x = a ↔ x = a.toNat := by
  constructor
  · rintro rfl; rw [UInt8.toNat_ofNat']; omega
  · rintro rfl; simp
theorem rput_neg {p : Int} (h : p < 0) : rput p = [] := by unfold rput; rw [if_pos h]
theorem rput_pos {p : Int} (h : 0 ≤ p) : rput p = (rputN p.toNat).map UInt8.ofNat := by unfold rput; rw [if_neg (by omega)]
theorem rputN_1 {p : Nat} (h : p < 128) : rputN p = [p] := by
  unfold rputN; rw [if_neg (by omega), if_pos h]
theorem rputN_2 {p : Nat} (h : 128 ≤ p) (h2 : p < 2048) : rputN p = [192 + p / 64, 128 + p % 64] := by
  unfold rputN; rw [if_neg (by omega), if_neg (by omega), if_pos h2]
theorem rputN_3 {p : Nat} (h : 2048 ≤ p) (h2 : p < 65536) (h3 : ¬ (55296 ≤ p ∧ p ≤ 57343)) : rputN p = [224 + p / 4096, 128 + p / 64 % 64, 128 + p % 64] := by
  unfold rputN; rw [if_neg (by omega), if_neg (by omega), if_neg (by omega), if_pos h2]
theorem rputN_4 {p : Nat} (h : 65536 ≤ p) (h2 : p ≤ 1114111) : rputN p = [240 + p / 262144, 128 + p / 4096 % 64, 128 + p / 64 % 64, 128 + p % 64] := by
  unfold rputN; rw [if_neg (by omega), if_neg (by omega), if_neg (by omega), if_neg (by omega)]
theorem rputN_0 {p : Nat} (h : 1114111 < p ∨ (55296 ≤ p ∧ p ≤ 57343)) : rputN p = [] := by
  unfold rputN; rw [if_pos h]
theorem rputN_cases (p : Nat) : (rputN p = [] ∧ (1114111 < p ∨ (55296 ≤ p ∧ p ≤ 57343))) ∨ (rputN p = [p] ∧ p < 128) ∨ (rputN p = [192 + p / 64, 128 + p % 64] ∧ 128 ≤ p ∧ p < 2048) ∨
    (rputN p = [224 + p / 4096, 128 + p / 64 % 64, 128 + p % 64] ∧ 2048 ≤ p ∧ p < 65536 ∧ ¬ (55296 ≤ p ∧ p ≤ 57343)) ∨
    (rputN p = [240 + p / 262144, 128 + p / 4096 % 64, 128 + p / 64 % 64, 128 + p % 64] ∧ 65536 ≤ p ∧ p ≤ 1114111) := by
  by_cases h0 : 1114111 < p ∨ (55296 ≤ p ∧ p ≤ 57343)
  · exact .inl ⟨rputN_0 h0, h0⟩
  by_cases h1 : p < 128
  · exact .inr (.inl ⟨rputN_1 h1, h1⟩)
  by_cases h2 : p < 2048
  · exact .inr (.inr (.inl ⟨rputN_2 (by omega) h2, by omega, h2⟩))
  by_cases h3 : p < 65536
  · exact .inr (.inr (.inr (.inl ⟨rputN_3 (by omega) h3 (by omega), by omega, h3, by omega⟩)))
  · exact .inr (.inr (.inr (.inr ⟨rputN_4 (by omega) (by omega), by omega, by omega⟩)))
theorem rok1 (a : UInt8) (t : List UInt8) : rok (a :: t) 1 = true ↔ a.toNat < 128 := by
  have hb : rbits ((a :: t).take 1) = a.toNat := by simp [rbits, rhead]
  have ht : (a :: t).take 1 = [a] := by simp
  unfold rok
  rw [hb, ht, Bool.and_eq_true, decide_eq_true_eq, decide_eq_true_eq, rput_pos (by omega), Int.toNat_natCast]
  have ha := a.toNat_lt
  rcases rputN_cases a.toNat with ⟨h, _⟩ | ⟨h, h1⟩ | ⟨h, h1, h2⟩ | ⟨h, h1, h2⟩ | ⟨h, h1, h2⟩ <;> rw [h] <;> simp <;> omega
theorem rok2 (a b : UInt8) (t : List UInt8) : rok (a :: b :: t) 2 = true ↔ (194 ≤ a.toNat ∧ a.toNat ≤ 223 ∧ 128 ≤ b.toNat ∧ b.toNat ≤ 191) := by
  have ht : (a :: b :: t).take 2 = [a, b] := by simp
  obtain ⟨p, hp⟩ : ∃ p, rbits [a, b] = p := ⟨_, rfl⟩
  have hp2 : p = ((a.toNat : Int) - 192) * 64 + b.toNat - 128 := by rw [← hp]; simp [rbits, rhead]
  unfold rok
  rw [ht, hp, Bool.and_eq_true, decide_eq_true_eq, decide_eq_true_eq]
  have ha := a.toNat_lt
  have hb := b.toNat_lt
  constructor
  · rintro ⟨h0, h⟩
    obtain ⟨q, rfl⟩ := Int.eq_ofNat_of_zero_le h0
    rw [rput_pos h0, Int.toNat_natCast] at h
    rcases rputN_cases q with ⟨e, _⟩ | ⟨e, _⟩ | ⟨e, h1, h2⟩ | ⟨e, h1, h2⟩ | ⟨e, h1, h2⟩ <;> rw [e] at h <;> simp only [List.map_cons, List.map_nil, List.cons.injEq, reduceCtorEq, and_false, and_true] at h
    rw [ofNat_eq (by omega), ofNat_eq (by omega)] at h
    omega
  · intro h
    obtain ⟨q, rfl⟩ := Int.eq_ofNat_of_zero_le (show 0 ≤ p by omega)
    refine ⟨by omega, ?_⟩
    rw [rput_pos (by omega), Int.toNat_natCast, rputN_2 (by omega) (by omega)]
    simp only [List.map_cons, List.map_nil, List.cons.injEq, and_true]
    rw [ofNat_eq (by omega), ofNat_eq (by omega)]
    omega
def R3 (a b c : Nat) : Prop := 224 ≤ a ∧ a ≤ 239 ∧ 128 ≤ b ∧ b ≤ 191 ∧ 128 ≤ c ∧ c ≤ 191 ∧ (a = 224 → 160 ≤ b) ∧ (a = 237 → b ≤ 159)
def R4 (a b c d : Nat) : Prop := 240 ≤ a ∧ a ≤ 244 ∧ 128 ≤ b ∧ b ≤ 191 ∧ 128 ≤ c ∧ c ≤ 191 ∧ 128 ≤ d ∧ d ≤ 191 ∧ (a = 240 → 144 ≤ b) ∧ (a = 244 → b ≤ 143)
theorem rok3 (a b c : UInt8) (t : List UInt8) : rok (a :: b :: c :: t) 3 = true ↔ R3 a.toNat b.toNat c.toNat := by
  have ht : (a :: b :: c :: t).take 3 = [a, b, c] := by simp
  obtain ⟨p, hp⟩ : ∃ p, rbits [a, b, c] = p := ⟨_, rfl⟩
  have hp2 : p = (((a.toNat : Int) - 224) * 64 + b.toNat - 128) * 64 + c.toNat - 128 := by rw [← hp]; simp [rbits, rhead]
  unfold rok R3
  rw [ht, hp, Bool.and_eq_true, decide_eq_true_eq, decide_eq_true_eq]
  have ha := a.toNat_lt
  have hb := b.toNat_lt
  have hc := c.toNat_lt
  constructor
  · rintro ⟨h0, h⟩
    obtain ⟨q, rfl⟩ := Int.eq_ofNat_of_zero_le h0
    rw [rput_pos h0, Int.toNat_natCast] at h
    rcases rputN_cases q with ⟨e, _⟩ | ⟨e, _⟩ | ⟨e, h1, h2⟩ | ⟨e, h1, h2, h3⟩ | ⟨e, h1, h2⟩ <;> rw [e] at h <;> simp only [List.map_cons, List.map_nil, List.cons.injEq, reduceCtorEq, and_false, and_true] at h
    rw [ofNat_eq (by omega), ofNat_eq (by omega), ofNat_eq (by omega)] at h
    omega
  · intro h
    obtain ⟨q, rfl⟩ := Int.eq_ofNat_of_zero_le (show 0 ≤ p by omega)
    refine ⟨by omega, ?_⟩
    rw [rput_pos (by omega), Int.toNat_natCast, rputN_3 (by omega) (by omega) (by omega)]
    simp only [List.map_cons, List.map_nil, List.cons.injEq, and_true]
    rw [ofNat_eq (by omega), ofNat_eq (by omega), ofNat_eq (by omega)]
    omega
theorem rok4 (a b c d : UInt8) (t : List UInt8) : rok (a :: b :: c :: d :: t) 4 = true ↔ R4 a.toNat b.toNat c.toNat d.toNat := by
  have ht : (a :: b :: c :: d :: t).take 4 = [a, b, c, d] := by simp
  obtain ⟨p, hp⟩ : ∃ p, rbits [a, b, c, d] = p := ⟨_, rfl⟩
  have hp2 : p = ((((a.toNat : Int) - 240) * 64 + b.toNat - 128) * 64 + c.toNat - 128) * 64 + d.toNat - 128 := by rw [← hp]; simp [rbits, rhead]
  unfold rok R4
  rw [ht, hp, Bool.and_eq_true, decide_eq_true_eq, decide_eq_true_eq]
  have ha := a.toNat_lt
  have hb := b.toNat_lt
  have hc := c.toNat_lt
  have hd := d.toNat_lt
  constructor
  · rintro ⟨h0, h⟩
    obtain ⟨q, rfl⟩ := Int.eq_ofNat_of_zero_le h0
    rw [rput_pos h0, Int.toNat_natCast] at h
    rcases rputN_cases q with ⟨e, _⟩ | ⟨e, _⟩ | ⟨e, h1, h2⟩ | ⟨e, h1, h2, h3⟩ | ⟨e, h1, h2⟩ <;> rw [e] at h <;> simp only [List.map_cons, List.map_nil, List.cons.injEq, reduceCtorEq, and_false, and_true] at h
    rw [ofNat_eq (by omega), ofNat_eq (by omega), ofNat_eq (by omega), ofNat_eq (by omega)] at h
    omega
  · intro h
    obtain ⟨q, rfl⟩ := Int.eq_ofNat_of_zero_le (show 0 ≤ p by omega)
    refine ⟨by omega, ?_⟩
    rw [rput_pos (by omega), Int.toNat_natCast, rputN_4 (by omega) (by omega)]
    simp only [List.map_cons, List.map_nil, List.cons.injEq, and_true]
    rw [ofNat_eq (by omega), ofNat_eq (by omega), ofNat_eq (by omega), ofNat_eq (by omega)]
    omega
theorem dec1 (n b0 b1 b2 b3 : Nat) (h : b0 < 128) : Lib.decodeN n b0 b1 b2 b3 = (b0, 1) := by unfold Lib.decodeN; rw [if_pos h]
theorem dec2 (n b0 b1 b2 b3 : Nat) (hn : 1 < n) (h : 194 ≤ b0 ∧ b0 ≤ 223 ∧ 128 ≤ b1 ∧ b1 ≤ 191) : (Lib.decodeN n b0 b1 b2 b3).2 = 2 := by
  unfold Lib.decodeN; rw [if_neg (by omega), if_pos (by omega), if_pos (by omega)]
theorem dec3 (n b0 b1 b2 b3 : Nat) (hn : 2 < n) (h : R3 b0 b1 b2) : (Lib.decodeN n b0 b1 b2 b3).2 = 3 := by
  unfold R3 at h
  unfold Lib.decodeN; rw [if_neg (by omega), if_neg (by omega), if_pos (by omega), if_pos (by omega)]
theorem dec4 (n b0 b1 b2 b3 : Nat) (hn : 3 < n) (h : R4 b0 b1 b2 b3) : (Lib.decodeN n b0 b1 b2 b3).2 = 4 := by
  unfold R4 at h
  unfold Lib.decodeN; rw [if_neg (by omega), if_neg (by omega), if_neg (by omega), if_pos (by omega), if_pos (by omega)]
theorem dec0 (n b0 b1 b2 b3 : Nat) (h0 : b0 < 256) (h1 : b1 < 256) (h2 : b2 < 256) (h3 : b3 < 256) (n1 : ¬ b0 < 128) (n2 : ¬ (1 < n ∧ 194 ≤ b0 ∧ b0 ≤ 223 ∧ 128 ≤ b1 ∧ b1 ≤ 191)) (n3 : ¬ (2 < n ∧ R3 b0 b1 b2)) (n4 : ¬ (3 < n ∧ R4 b0 b1 b2 b3)) : Lib.decodeN n b0 b1 b2 b3 = (65533, 1) := by
  unfold R3 at n3
  unfold R4 at n4
  unfold Lib.decodeN
  rw [if_neg n1]
  by_cases c2 : b0 / 32 = 6 ∧ (1 < n ∧ b1 / 64 = 2)
  · rw [if_pos c2, if_neg (by omega)]
  rw [if_neg c2]
  by_cases c3 : b0 / 16 = 14 ∧ (1 < n ∧ b1 / 64 = 2) ∧ (2 < n ∧ b2 / 64 = 2)
  · rw [if_pos c3, if_neg (by omega)]
  rw [if_neg c3]
  by_cases c4 : b0 / 8 = 30 ∧ (1 < n ∧ b1 / 64 = 2) ∧ (2 < n ∧ b2 / 64 = 2) ∧ (3 < n ∧ b3 / 64 = 2)
  · rw [if_pos c4, if_neg (by omega)]
  rw [if_neg c4]
theorem rrune_1 {l : List UInt8} (hne : l ≠ []) (h : rok l 1 = true) : rrune l = (rbits (l.take 1), 1) := by unfold rrune; rw [if_neg hne, if_pos h]
theorem rok_pos {l : List UInt8} {k : Nat} (h : rok l k = true) : 0 ≤ rbits (l.take k) := by unfold rok at h; rw [Bool.and_eq_true, decide_eq_true_eq] at h; exact h.1
theorem rrune_cases (l : List UInt8) (hne : l ≠ []) :
    (∃ k, 1 ≤ k ∧ k ≤ 4 ∧ k ≤ l.length ∧ rok l k = true ∧ rrune l = (rbits (l.take k), k) ∧ (Lib.decodeL l).2 = k ∧ ¬ ((Lib.decodeL l).1 = 65533 ∧ (Lib.decodeL l).2 = 1)) ∨
    (rrune l = (-1, 1) ∧ Lib.decodeL l = (65533, 1)) := by
  have h0 := (l.getD 0 0).toNat_lt
  have h1 := (l.getD 1 0).toNat_lt
  have h2 := (l.getD 2 0).toNat_lt
  have h3 := (l.getD 3 0).toNat_lt
  have hl : 1 ≤ l.length := List.length_pos_iff.2 hne
  have k1 : rok l 1 = true ↔ (l.getD 0 0).toNat < 128 := by
    match l, hne with
    | a :: t, _ => exact rok1 a t
  have k2 : (2 ≤ l.length ∧ rok l 2 = true) ↔ (1 < l.length ∧ 194 ≤ (l.getD 0 0).toNat ∧ (l.getD 0 0).toNat ≤ 223 ∧ 128 ≤ (l.getD 1 0).toNat ∧ (l.getD 1 0).toNat ≤ 191) := by
    match l, hne with
    | [a], _ => simp
    | a :: b :: t, _ => rw [rok2]; simp
  have k3 : (3 ≤ l.length ∧ rok l 3 = true) ↔ (2 < l.length ∧ R3 (l.getD 0 0).toNat (l.getD 1 0).toNat (l.getD 2 0).toNat) := by
    match l, hne with
    | [a], _ => simp
    | [a, b], _ => simp
    | a :: b :: c :: t, _ => rw [rok3]; simp
  have k4 : (4 ≤ l.length ∧ rok l 4 = true) ↔ (3 < l.length ∧ R4 (l.getD 0 0).toNat (l.getD 1 0).toNat (l.getD 2 0).toNat (l.getD 3 0).toNat) := by
    match l, hne with
    | [a], _ => simp
    | [a, b], _ => simp
    | [a, b, c], _ => simp
    | a :: b :: c :: d :: t, _ => rw [rok4]; simp
  have hd := Lib.decodeL_N l
  by_cases c1 : rok l 1 = true
  · left
    have e := dec1 l.length (l.getD 0 0).toNat (l.getD 1 0).toNat (l.getD 2 0).toNat (l.getD 3 0).toNat (k1.1 c1)
    have := k1.1 c1
    exact ⟨1, by omega, by omega, by omega, c1, rrune_1 hne c1, by rw [hd, e], by rw [hd, e]; simp only; omega⟩
  by_cases c2 : 2 ≤ l.length ∧ rok l 2 = true
  · left
    have e := dec2 l.length (l.getD 0 0).toNat (l.getD 1 0).toNat (l.getD 2 0).toNat (l.getD 3 0).toNat (k2.1 c2).1 (k2.1 c2).2
    exact ⟨2, by omega, by omega, c2.1, c2.2, (by unfold rrune; rw [if_neg hne, if_neg c1, if_pos c2]), by rw [hd, e], by rw [hd, e]; simp⟩
  by_cases c3 : 3 ≤ l.length ∧ rok l 3 = true
  · left
    have e := dec3 l.length (l.getD 0 0).toNat (l.getD 1 0).toNat (l.getD 2 0).toNat (l.getD 3 0).toNat (k3.1 c3).1 (k3.1 c3).2
    exact ⟨3, by omega, by omega, c3.1, c3.2, (by unfold rrune; rw [if_neg hne, if_neg c1, if_neg c2, if_pos c3]), by rw [hd, e], by rw [hd, e]; simp⟩
  by_cases c4 : 4 ≤ l.length ∧ rok l 4 = true
  · left
    have e := dec4 l.length (l.getD 0 0).toNat (l.getD 1 0).toNat (l.getD 2 0).toNat (l.getD 3 0).toNat (k4.1 c4).1 (k4.1 c4).2
    exact ⟨4, by omega, by omega, c4.1, c4.2, (by unfold rrune; rw [if_neg hne, if_neg c1, if_neg c2, if_neg c3, if_pos c4]), by rw [hd, e], by rw [hd, e]; simp⟩
  · right
    exact ⟨by unfold rrune; rw [if_neg hne, if_neg c1, if_neg c2, if_neg c3, if_neg c4],
      by rw [hd]; exact dec0 _ _ _ _ _ h0 h1 h2 h3 (fun h => c1 (k1.2 h)) (fun h => c2 (k2.2 h)) (fun h => c3 (k3.2 h)) (fun h => c4 (k4.2 h))⟩
theorem valid_rune (l : List UInt8) (hne : l ≠ []) : Lib.validD l = if (rrune l).1 < 0 then false else Lib.validD (l.drop (rrune l).2) := by
  rw [Lib.validD_step l hne]
  rcases rrune_cases l hne with ⟨k, h1, _, _, hok, hr, hd, hn⟩ | ⟨hr, hd⟩
  · have := rok_pos hok
    rw [if_neg hn, hr, if_neg (show ¬ (rbits (l.take k), k).1 < 0 by simp only; omega), hd]
  · rw [hd, hr]; rfl
theorem rrune_width (l : List UInt8) (hne : l ≠ []) : 1 ≤ (rrune l).2 ∧ (rrune l).2 ≤ l.length := by
  have hl : 1 ≤ l.length := List.length_pos_iff.2 hne
  rcases rrune_cases l hne with ⟨k, h1, _, h3, hok, hr, hd, hn⟩ | ⟨hr, hd⟩
  · rw [hr]; exact ⟨h1, h3⟩
  · rw [hr]; exact ⟨Nat.le_refl _, hl⟩
end Go.Proofs.YtdjfoabinjfnfaaGreatDoor
namespace Go.Proofs.YtdjfoabinjfnfaaGreatDoor
def jblank (c : UInt8) : Bool := c == 32 || c == 9 || c == 10 || c == 13
def jblk (s : List UInt8) : List UInt8 := s.dropWhile jblank
theorem jblk_le (s : List UInt8) : (jblk s).length ≤ s.length := (List.dropWhile_sublist _).length_le
def jhv (c : UInt8) : Option Nat :=
  if 48 ≤ c.toNat ∧ c.toNat ≤ 57 then some (c.toNat - 48) else if 97 ≤ c.toNat ∧ c.toNat ≤ 102 then some (c.toNat - 87) else if 65 ≤ c.toNat ∧ c.toNat ≤ 70 then some (c.toNat - 55) else none
def junit : List UInt8 → Option (Nat × List UInt8)
  | a :: b :: c :: d :: r => match jhv a, jhv b, jhv c, jhv d with
    | some a, some b, some c, some d => some (((a * 16 + b) * 16 + c) * 16 + d, r)
    | _, _, _, _ => none
  | _ => none
def jpair (a b : Nat) : Option Nat := if 55296 ≤ a ∧ a < 56320 ∧ 56320 ≤ b ∧ b < 57344 then some (65536 + (a - 55296) * 1024 + (b - 56320)) else none
def jmark (c : UInt8) : Option UInt8 :=
  if c = 34 then some 34 else if c = 92 then some 92 else if c = 47 then some 47 else if c = 98 then some 8 else if c = 102 then some 12 else if c = 110 then some 10 else if c = 114 then some 13 else if c = 116 then some 9 else none
def jescU (r : List UInt8) : Option (List UInt8 × List UInt8) := match junit r with
  | none => none
  | some (a, r1) => if rput a ≠ [] then some (rput a, r1) else match r1 with
    | 92 :: 117 :: r2 => match junit r2 with
      | none => none
      | some (b, r3) => match jpair a b with
        | none => none
        | some p => some (rput p, r3)
    | _ => none
def jescape : List UInt8 → Option (List UInt8 × List UInt8)
  | [] => none
  | c :: r => match jmark c with
    | some m => some ([m], r)
    | none => if c = 117 then jescU r else none
theorem junit_lt {s r : List UInt8} {a : Nat} (h : junit s = some (a, r)) : s.length = r.length + 4 ∧ a < 65536 := by
  unfold junit at h
  split at h
  · split at h
    · rename_i a' b' c' d' ha hb hc hd
      injection h with h
      injection h with h1 h2
      subst h1; subst h2
      have hv : ∀ {c : UInt8} {n : Nat}, jhv c = some n → n < 16 := by
        intro c n h
        unfold jhv at h
        split at h
        · injection h with h; omega
        · split at h
          · injection h with h; omega
          · split at h
            · injection h with h; omega
            · cases h
      have := hv ha
      have := hv hb
      have := hv hc
      have := hv hd
      exact ⟨by simp, by omega⟩
    · cases h
  · cases h
theorem jescU_lt {s r t : List UInt8} (h : jescU s = some (t, r)) : r.length < s.length ∧ t.length + r.length ≤ s.length := by
  unfold jescU at h
  split at h
  · cases h
  · rename_i a r1 hu
    have h1 := junit_lt hu
    have hp : ∀ p : Nat, (rput p).length ≤ 4 := by
      intro p
      rw [rput_pos (by omega)]
      rw [List.length_map]
      rcases rputN_cases (Int.toNat p) with h | h | h | h | h <;> (rw [h.1]; simp)
    split at h
    · injection h with h
      injection h with h2 h3
      subst h2; subst h3
      have := hp a
      omega
    · split at h
      · rename_i r2 
        split at h
        · cases h
        · rename_i b r3 hu2
          have h2 := junit_lt hu2
          split at h
          · cases h
          · rename_i p hpp
            injection h with h
            injection h with h3 h4
            subst h3; subst h4
            have := hp p
            simp at h1
            omega
      · cases h
theorem jescape_lt {s r t : List UInt8} (h : jescape s = some (t, r)) : r.length < s.length ∧ t.length + r.length ≤ s.length := by
  unfold jescape at h
  split at h
  · cases h
  · split at h
    · injection h with h
      injection h with h2 h3
      subst h2; subst h3
      simp
      omega
    · split at h
      · have := jescU_lt h
        simp
        omega
      · cases h
def jstrF (Val : List UInt8 → Bool) : Nat → List UInt8 → List UInt8 → Option (List UInt8 × List UInt8)
  | 0, _, _ => none
  | _ + 1, _, [] => none
  | k + 1, acc, c :: r =>
    if c = 34 then (if Val acc then some (acc, r) else none)
    else if c = 92 then (match jescape r with
      | none => none
      | some (t, r') => jstrF Val k (acc ++ t) r')
    else if c.toNat < 32 then none
    else jstrF Val k (acc ++ [c]) r
theorem jstrF_more (Val : List UInt8 → Bool) : ∀ (k m : Nat) (acc s : List UInt8), s.length < k → s.length < m → jstrF Val k acc s = jstrF Val m acc s
  | 0, _, _, _, h, _ => absurd h (Nat.not_lt_zero _)
  | _ + 1, 0, _, _, _, h => absurd h (Nat.not_lt_zero _)
  | k + 1, m + 1, acc, [], _, _ => rfl
  | k + 1, m + 1, acc, c :: r, h1, h2 => by
    simp only [List.length_cons] at h1 h2
    unfold jstrF
    split
    · rfl
    · split
      · split
        · rfl
        · rename_i t r' he
          have := (jescape_lt he).1
          exact jstrF_more Val k m _ _ (by omega) (by omega)
      · split
        · rfl
        · exact jstrF_more Val k m _ _ (by omega) (by omega)
def jStr (Val : List UInt8 → Bool) (acc s : List UInt8) : Option (List UInt8 × List UInt8) := jstrF Val (s.length + 1) acc s
theorem jStr_nil (Val : List UInt8 → Bool) (acc : List UInt8) : jStr Val acc [] = none := rfl
theorem jStr_quote (Val : List UInt8 → Bool) (acc r : List UInt8) : jStr Val acc (34 :: r) = if Val acc then some (acc, r) else none := by
  unfold jStr jstrF; rw [if_pos rfl]
theorem jStr_esc (Val : List UInt8 → Bool) (acc r : List UInt8) : jStr Val acc (92 :: r) = match jescape r with | none => none | some (t, r') => jStr Val (acc ++ t) r' := by
  conv => lhs; unfold jStr jstrF
  rw [if_neg (by decide), if_pos rfl]
  split
  · rfl
  · rename_i t r' he
    have := (jescape_lt he).1
    exact jstrF_more Val _ _ _ _ (by simp; omega) (by omega)
theorem jStr_low (Val : List UInt8 → Bool) (acc r : List UInt8) {c : UInt8} (h : c.toNat < 32) : jStr Val acc (c :: r) = none := by
  have h1 : c ≠ 34 := fun e => by subst e; simp at h
  have h2 : c ≠ 92 := fun e => by subst e; simp at h
  unfold jStr jstrF
  rw [if_neg h1, if_neg h2, if_pos h]
theorem jStr_else (Val : List UInt8 → Bool) (acc r : List UInt8) {c : UInt8} (h1 : c ≠ 34) (h2 : c ≠ 92) (h : ¬ c.toNat < 32) : jStr Val acc (c :: r) = jStr Val (acc ++ [c]) r := by
  conv => lhs; unfold jStr jstrF
  rw [if_neg h1, if_neg h2, if_neg h]
  exact jstrF_more Val _ _ _ _ (by simp) (by omega)
theorem jstrF_lt (Val : List UInt8 → Bool) : ∀ (k : Nat) (acc s t r : List UInt8), jstrF Val k acc s = some (t, r) → r.length < s.length ∧ t.length + r.length ≤ acc.length + s.length
  | 0, _, _, _, _, h => by cases h
  | k + 1, acc, [], _, _, h => by cases h
  | k + 1, acc, c :: s, t, r, h => by
    unfold jstrF at h
    split at h
    · split at h
      · injection h with h; injection h with h1 h2; subst h1; subst h2; simp
      · cases h
    · split at h
      · split at h
        · cases h
        · rename_i t' r' he
          have h1 := jescape_lt he
          have h2 := jstrF_lt Val k _ _ _ _ h
          simp at h2 ⊢
          omega
      · split at h
        · cases h
        · have h2 := jstrF_lt Val k _ _ _ _ h
          simp at h2 ⊢
          omega
theorem jStr_lt (Val : List UInt8 → Bool) {acc s t r : List UInt8} (h : jStr Val acc s = some (t, r)) : r.length < s.length ∧ t.length + r.length ≤ acc.length + s.length := jstrF_lt Val _ _ _ _ _ h
def jnumc (c : UInt8) : Bool := (decide (48 ≤ c.toNat) && decide (c.toNat ≤ 57)) || c == 43 || c == 45 || c == 46 || c == 101 || c == 69
def jloopF {σ : Type} (one : σ → List UInt8 → Except Int (σ × List UInt8)) (b : UInt8) : Nat → σ → List UInt8 → Except Int (σ × List UInt8)
  | 0, _, _ => .error 4
  | k + 1, st, s => match one st (jblk s) with
    | .error e => .error e
    | .ok (st', s') => match jblk s' with
      | [] => .error 4
      | c :: r => if c = 44 then jloopF one b k st' r else if c = b then .ok (st', r) else .error 4
def Shorter {σ : Type} (one : σ → List UInt8 → Except Int (σ × List UInt8)) : Prop := ∀ st s st' s', one st s = .ok (st', s') → s'.length ≤ s.length
theorem jloopF_more {σ : Type} {one : σ → List UInt8 → Except Int (σ × List UInt8)} (h : Shorter one) (b : UInt8) : ∀ (k m : Nat) (st : σ) (s : List UInt8), s.length < k → s.length < m → jloopF one b k st s = jloopF one b m st s
  | 0, _, _, _, h, _ => absurd h (Nat.not_lt_zero _)
  | _ + 1, 0, _, _, _, h => absurd h (Nat.not_lt_zero _)
  | k + 1, m + 1, st, s, h1, h2 => by
    unfold jloopF
    split
    · rfl
    · rename_i st' s' ho
      have h3 := h _ _ _ _ ho
      have h4 := jblk_le s
      split
      · rfl
      · rename_i c r hb
        have h5 := jblk_le s'
        rw [hb] at h5
        simp at h5
        split
        · exact jloopF_more h b k m _ _ (by omega) (by omega)
        · rfl
def jLoop {σ : Type} (one : σ → List UInt8 → Except Int (σ × List UInt8)) (b : UInt8) (st : σ) (s : List UInt8) : Except Int (σ × List UInt8) := jloopF one b (s.length + 1) st s
theorem jLoop_eq {σ : Type} {one : σ → List UInt8 → Except Int (σ × List UInt8)} (h : Shorter one) (b : UInt8) (st : σ) (s : List UInt8) : jLoop one b st s = match one st (jblk s) with
    | .error e => .error e
    | .ok (st', s') => match jblk s' with
      | [] => .error 4
      | c :: r => if c = 44 then jLoop one b st' r else if c = b then .ok (st', r) else .error 4 := by
  conv => lhs; unfold jLoop jloopF
  split
  · rfl
  · rename_i st' s' ho
    have h3 := h _ _ _ _ ho
    have h4 := jblk_le s
    split
    · rfl
    · rename_i c r hb
      have h5 := jblk_le s'
      rw [hb] at h5
      simp at h5
      split
      · exact jloopF_more h b _ _ _ _ (by omega) (by omega)
      · rfl
theorem jloopF_shorter {σ : Type} {one : σ → List UInt8 → Except Int (σ × List UInt8)} (h : Shorter one) (b : UInt8) : ∀ (k : Nat) (st : σ) (s : List UInt8) (st' : σ) (s' : List UInt8), jloopF one b k st s = .ok (st', s') → s'.length < s.length
  | 0, _, _, _, _, h => by cases h
  | k + 1, st, s, st', s', he => by
    unfold jloopF at he
    split at he
    · cases he
    · rename_i st1 s1 ho
      have h3 := h _ _ _ _ ho
      have h4 := jblk_le s
      split at he
      · cases he
      · rename_i c r hb
        have h5 := jblk_le s1
        rw [hb] at h5
        simp at h5
        split at he
        · have := jloopF_shorter h b k _ _ _ _ he
          omega
        · split at he
          · injection he with he
            injection he with h6 h7
            subst h7
            omega
          · cases he
def jList {σ : Type} (one : σ → List UInt8 → Except Int (σ × List UInt8)) (b : UInt8) (st : σ) (s : List UInt8) : Except Int (σ × List UInt8) :=
  match jblk s with
  | [] => jLoop one b st []
  | c :: r => if c = b then .ok (st, r) else jLoop one b st (c :: r)
theorem jList_shorter {σ : Type} {one : σ → List UInt8 → Except Int (σ × List UInt8)} (h : Shorter one) (b : UInt8) {st : σ} {s : List UInt8} {st' : σ} {s' : List UInt8} (he : jList one b st s = .ok (st', s')) : s'.length < s.length := by
  unfold jList at he
  have h4 := jblk_le s
  split at he
  · have := jloopF_shorter h b _ _ _ _ _ he
    simp at this
  · rename_i c r hb
    rw [hb] at h4
    split at he
    · injection he with he
      injection he with h6 h7
      subst h7
      simp at h4
      omega
    · have := jloopF_shorter h b _ _ _ _ _ he
      omega
theorem jloopF_items {σ : Type} {P : σ → Prop} {one : σ → List UInt8 → Except Int (σ × List UInt8)} (hp : ∀ st s st' s', one st s = .ok (st', s') → P st → P st') (b : UInt8) : ∀ (k : Nat) (st : σ) (s : List UInt8) (st' : σ) (s' : List UInt8), jloopF one b k st s = .ok (st', s') → P st → P st'
  | 0, _, _, _, _, h, _ => by cases h
  | k + 1, st, s, st', s', he, h0 => by
    unfold jloopF at he
    split at he
    · cases he
    · rename_i st1 s1 ho
      have h3 := hp _ _ _ _ ho h0
      split at he
      · cases he
      · split at he
        · exact jloopF_items hp b k _ _ _ _ he h3
        · split at he
          · injection he with he
            injection he with h6 h7
            subst h6
            exact h3
          · cases he
theorem jList_items {σ : Type} {P : σ → Prop} {one : σ → List UInt8 → Except Int (σ × List UInt8)} (_h : Shorter one) (hp : ∀ st s st' s', one st s = .ok (st', s') → P st → P st') (b : UInt8) {st : σ} {s : List UInt8} {st' : σ} {s' : List UInt8} (he : jList one b st s = .ok (st', s')) (h0 : P st) : P st' := by
  unfold jList at he
  split at he
  · exact jloopF_items hp b _ _ _ _ _ he h0
  · split at he
    · injection he with he
      injection he with h6 h7
      subst h6
      exact h0
    · exact jloopF_items hp b _ _ _ _ _ he h0
def ofL (l : List UInt8) : ByteArray := ⟨l.toArray⟩
abbrev JR := Except Int (Jsn × Nat × List UInt8)
abbrev SA := Nat × List Jsn
abbrev SO := Nat × List ByteArray × List Jsn
def jitA (val : Nat → List UInt8 → JR) (st : SA) (s : List UInt8) : Except Int (SA × List UInt8) := match val st.1 s with
  | .error e => .error e
  | .ok (j, it, r) => .ok ((it, st.2 ++ [j]), r)
def jitO (Val : List UInt8 → Bool) (val : Nat → List UInt8 → JR) (st : SO) (s : List UInt8) : Except Int (SO × List UInt8) := match s with
  | 34 :: s1 => match jStr Val [] s1 with
    | none => .error 4
    | some (n, s2) => if (st.2.1.any fun b => decide (b = ofL n)) = true then .error 6 else match jblk s2 with
      | 58 :: s3 => match val st.1 (jblk s3) with
        | .error e => .error e
        | .ok (j, it, r) => .ok ((it, st.2.1 ++ [ofL n], st.2.2 ++ [j]), r)
      | _ => .error 4
  | _ => .error 4
def jval (Own : List UInt8 → List UInt8 × Int) (Val : List UInt8 → Bool) : Nat → Nat → List UInt8 → JR
  | 0, _, _ => .error 61
  | f + 1, it, s =>
    if 65536 < it + 1 then .error 40
    else if [110, 117, 108, 108].isPrefixOf s then .ok (⟨1, ofL [], [], []⟩, it + 1, s.drop 4)
    else if [116, 114, 117, 101].isPrefixOf s then .ok (⟨2, ofL [], [], []⟩, it + 1, s.drop 4)
    else if [102, 97, 108, 115, 101].isPrefixOf s then .ok (⟨3, ofL [], [], []⟩, it + 1, s.drop 5)
    else if [34].isPrefixOf s then match jStr Val [] (s.drop 1) with
      | none => .error 4
      | some (t, r) => .ok (⟨5, ofL t, [], []⟩, it + 1, r)
    else if [91].isPrefixOf s then match jList (jitA fun it s => jval Own Val f it s) 93 (it + 1, []) (s.drop 1) with
      | .error e => .error e
      | .ok (st, r) => .ok (⟨6, ofL [], [], st.2⟩, st.1, r)
    else if [123].isPrefixOf s then match jList (jitO Val fun it s => jval Own Val f it s) 125 (it + 1, [], []) (s.drop 1) with
      | .error e => .error e
      | .ok (st, r) => .ok (⟨7, ofL [], st.2.1, st.2.2⟩, st.1, r)
    else if (Own (s.takeWhile jnumc)).2 = 0 then .ok (⟨4, ofL (Own (s.takeWhile jnumc)).1, [], []⟩, it + 1, s.dropWhile jnumc)
    else .error (Own (s.takeWhile jnumc)).2
def jparse (Own : List UInt8 → List UInt8 × Int) (Val : List UInt8 → Bool) (s : List UInt8) : Except Int Jsn :=
  if 262144 < s.length then .error 40
  else match jval Own Val 64 0 (jblk s) with
    | .error e => .error e
    | .ok (j, _, r) => if jblk r = [] then .ok j else .error 4
theorem jval_shorter (Own : List UInt8 → List UInt8 × Int) (Val : List UInt8 → Bool) : ∀ (f it : Nat) (s : List UInt8) (j : Jsn) (it' : Nat) (r : List UInt8), jval Own Val f it s = .ok (j, it', r) → r.length ≤ s.length ∧ it < it'
  | 0, _, _, _, _, _, h => by cases h
  | f + 1, it, s, j, it', r, h => by
    have hA : Shorter (jitA fun it s => jval Own Val f it s) := by
      intro st s st' s' h
      unfold jitA at h
      split at h
      · cases h
      · rename_i hv
        injection h with h
        injection h with h1 h2
        subst h2
        exact (jval_shorter Own Val f _ _ _ _ _ hv).1
    have hO : Shorter (jitO Val fun it s => jval Own Val f it s) := by
      intro st s st' s' h
      unfold jitO at h
      split at h
      · split at h
        · cases h
        · rename_i s1 n s2 hn
          have h1 := (jStr_lt Val hn).1
          split at h
          · cases h
          · split at h
            · rename_i s3 hb
              have h2 := jblk_le s2
              have h3 := jblk_le s3
              rw [hb] at h2
              split at h
              · cases h
              · rename_i hv
                have h4 := (jval_shorter Own Val f _ _ _ _ _ hv).1
                injection h with h
                injection h with h5 h6
                subst h6
                simp at h2 ⊢
                omega
            · cases h
      · cases h
    have hd : ∀ k, (s.drop k).length ≤ s.length := fun k => by simp
    unfold jval at h
    split at h
    · cases h
    · split at h
      · injection h with h; injection h with h1 h2; injection h2 with h2 h3; subst h2; subst h3; exact ⟨hd _, by omega⟩
      · split at h
        · injection h with h; injection h with h1 h2; injection h2 with h2 h3; subst h2; subst h3; exact ⟨hd _, by omega⟩
        · split at h
          · injection h with h; injection h with h1 h2; injection h2 with h2 h3; subst h2; subst h3; exact ⟨hd _, by omega⟩
          · split at h
            · split at h
              · cases h
              · rename_i hs
                injection h with h; injection h with h1 h2; injection h2 with h2 h3; subst h2; subst h3
                have := (jStr_lt Val hs).1
                have := hd 1
                exact ⟨by omega, by omega⟩
            · split at h
              · split at h
                · cases h
                · rename_i st r' hl
                  injection h with h; injection h with h1 h2; injection h2 with h2 h3; subst h2; subst h3
                  have := jList_shorter hA 93 hl
                  have := hd 1
                  refine ⟨by omega, ?_⟩
                  have := jList_items (P := fun st : SA => it < st.1) hA (fun st s st' s' ho hp => ?_) 93 hl (by simp)
                  · exact this
                  · unfold jitA at ho
                    split at ho
                    · cases ho
                    · rename_i hv
                      have h4 := (jval_shorter Own Val f _ _ _ _ _ hv).2
                      injection ho with ho
                      injection ho with h5 h6
                      subst h5
                      simp only at hp ⊢
                      omega
              · split at h
                · split at h
                  · cases h
                  · rename_i st r' hl
                    injection h with h; injection h with h1 h2; injection h2 with h2 h3; subst h2; subst h3
                    have := jList_shorter hO 125 hl
                    have := hd 1
                    refine ⟨by omega, ?_⟩
                    have := jList_items (P := fun st : SO => it < st.1) hO (fun st s st' s' ho hp => ?_) 125 hl (by simp)
                    · exact this
                    · unfold jitO at ho
                      split at ho
                      · split at ho
                        · cases ho
                        · split at ho
                          · cases ho
                          · split at ho
                            · split at ho
                              · cases ho
                              · rename_i hv
                                have h4 := (jval_shorter Own Val f _ _ _ _ _ hv).2
                                injection ho with ho
                                injection ho with h5 h6
                                subst h5
                                simp only at hp ⊢
                                omega
                            · cases ho
                      · cases ho
                · split at h
                  · injection h with h; injection h with h1 h2; injection h2 with h2 h3; subst h2; subst h3
                    exact ⟨(List.dropWhile_sublist _).length_le, by omega⟩
                  · cases h
end Go.Proofs.YtdjfoabinjfnfaaGreatDoor
namespace Go.Proofs.YtdjfoabinjfnfaaGreatDoor
theorem shorterA {Own : List UInt8 → List UInt8 × Int} {Val : List UInt8 → Bool} (f : Nat) : Shorter (jitA fun it s => jval Own Val f it s) := by
  intro st s st' s' h
  unfold jitA at h
  split at h
  · cases h
  · rename_i hv
    injection h with h
    injection h with h1 h2
    subst h2
    exact (jval_shorter Own Val f _ _ _ _ _ hv).1
theorem shorterO {Own : List UInt8 → List UInt8 × Int} {Val : List UInt8 → Bool} (f : Nat) : Shorter (jitO Val fun it s => jval Own Val f it s) := by
  intro st s st' s' h
  unfold jitO at h
  split at h
  · split at h
    · cases h
    · rename_i s1 n s2 hn
      have h1 := (jStr_lt Val hn).1
      split at h
      · cases h
      · split at h
        · rename_i s3 hb
          have h2 := jblk_le s2
          have h3 := jblk_le s3
          rw [hb] at h2
          split at h
          · cases h
          · rename_i hv
            have h4 := (jval_shorter Own Val f _ _ _ _ _ hv).1
            injection h with h
            injection h with h5 h6
            subst h6
            simp at h2 ⊢
            omega
        · cases h
  · cases h
theorem jescape_cons (c : UInt8) (r : List UInt8) : jescape (c :: r) = match jmark c with | some m => some ([m], r) | none => if c = 117 then jescU r else none := rfl
def Bk (b : List UInt8) : Prop := ∀ c ∈ b, jblank c = true
def ArrT (e : UInt8) : List (List UInt8 → Prop) → List UInt8 → Prop
  | [], t => ∃ b, Bk b ∧ t = b ++ [e]
  | p :: ps, t => ∃ b b' x t', Bk b ∧ Bk b' ∧ p x ∧ ArrT e ps t' ∧ t = b ++ 44 :: (b' ++ x ++ t')
def ArrA (e : UInt8) : List (List UInt8 → Prop) → List UInt8 → Prop
  | [], t => ∃ b, Bk b ∧ t = b ++ [e]
  | p :: ps, t => ∃ b x t', Bk b ∧ p x ∧ ArrT e ps t' ∧ t = b ++ x ++ t'
def MemB (nm : ByteArray) (p : List UInt8 → Prop) (t : List UInt8) : Prop := ∃ b b' x, Bk b ∧ Bk b' ∧ p x ∧ t = jquote nm.data.toList ++ b ++ 58 :: (b' ++ x)
def JB : Jsn → List UInt8 → Prop := Jsn.para fun k s n l t =>
  if k = 6 then ∃ t', ArrA 93 (l.map (·.2)) t' ∧ t = 91 :: t' else if k = 7 then ∃ t', ArrA 125 (List.zipWith MemB n (l.map (·.2))) t' ∧ t = 123 :: t' else t = jtext1 k s n []
def OwnNumJ (Own : List UInt8 → List UInt8 × Int) : Prop := ∀ l, Own l = (l, 0) → l ≠ [] ∧ ∀ c ∈ l, jnumc c = true
def NoNum (r : List UInt8) : Prop := ∀ c t, r = c :: t → jnumc c = false
def HeadOK (t : List UInt8) : Prop := ∃ c u, t = c :: u ∧ jblank c = false ∧ c ≠ 93 ∧ c ≠ 125
def ReadsJ (Own : List UInt8 → List UInt8 × Int) (Val : List UInt8 → Bool) (j : Jsn) : Prop := ∀ (f it : Nat) (t r : List UInt8), JB j t → jform Own Val j = true → jtwice j = false → jdeep j ≤ f → it + jcount j ≤ 65536 → NoNum r →
  jval Own Val f it (t ++ r) = .ok (j, it + jcount j, r)
def jcont {σ : Type} (one : σ → List UInt8 → Except Int (σ × List UInt8)) (b : UInt8) (st : σ) (s : List UInt8) : Except Int (σ × List UInt8) := match jblk s with
  | [] => .error 4
  | c :: r => if c = 44 then jLoop one b st r else if c = b then .ok (st, r) else .error 4
theorem ofL_toList (n : ByteArray) : ofL n.data.toList = n := by unfold ofL; simp
end Go.Proofs.YtdjfoabinjfnfaaGreatDoor
namespace Go.Proofs.YtdjfoabinjfnfaaGreatDoor
theorem jcounts_one (x : Jsn) : jcounts [x] = jcount x := by rw [jcounts_cons, jcounts_nil]; rfl
theorem jdeeps_one (x : Jsn) : jdeeps [x] = jdeep x := by rw [jdeeps_cons, jdeeps_nil]; exact Nat.max_zero _
structure GoodJ (Own : List UInt8 → List UInt8 × Int) (Val : List UInt8 → Bool) (f it : Nat) (j : Jsn) (it' : Nat) : Prop where
  form : jform Own Val j = true
  twice : jtwice j = false
  deep : jdeep j ≤ f
  count : it' = it + jcount j
  most : it' ≤ 65536
def OwnOwn (Own : List UInt8 → List UInt8 × Int) : Prop := ∀ l, (Own l).2 = 0 → Own (Own l).1 = ((Own l).1, 0)
theorem jStr_val (Val : List UInt8 → Bool) : ∀ (k : Nat) (acc s t r : List UInt8), jstrF Val k acc s = some (t, r) → Val t = true
  | 0, _, _, _, _, h => by cases h
  | k + 1, acc, [], _, _, h => by cases h
  | k + 1, acc, c :: s, t, r, h => by
    unfold jstrF at h
    split at h
    · split at h
      · rename_i hv; injection h with h; injection h with h1 h2; subst h1; exact hv
      · cases h
    · split at h
      · split at h
        · cases h
        · exact jStr_val Val k _ _ _ _ h
      · split at h
        · cases h
        · exact jStr_val Val k _ _ _ _ h
theorem dupB_snoc (b : ByteArray) : ∀ (n : List ByteArray), dupB n = false → (n.any fun x => decide (x = b)) = false → dupB (n ++ [b]) = false
  | [], _, _ => rfl
  | x :: r, h, hb => by
    unfold dupB at h
    rw [Bool.or_eq_false_iff] at h
    rw [List.any_cons, Bool.or_eq_false_iff] at hb
    rw [List.cons_append]
    unfold dupB
    rw [dupB_snoc b r h.2 hb.2, List.any_append, h.1]
    simp only [Bool.false_or, Bool.or_false, List.any_cons, List.any_nil]
    have := hb.1
    rw [decide_eq_false_iff_not] at this ⊢
    exact fun e => this e.symm
theorem toList_ofL (l : List UInt8) : (ofL l).data.toList = l := by unfold ofL; simp
theorem jval_good {Own : List UInt8 → List UInt8 × Int} {Val : List UInt8 → Bool} (hOO : OwnOwn Own) : ∀ (f it : Nat) (s : List UInt8) (j : Jsn) (it' : Nat) (r : List UInt8), jval Own Val f it s = .ok (j, it', r) → GoodJ Own Val f it j it'
  | 0, _, _, _, _, _, h => by cases h
  | f + 1, it, s, j, it', r, h => by
    have leaf : ∀ (k : Int) (t : ByteArray), jform Own Val ⟨k, t, [], []⟩ = true → it + 1 ≤ 65536 → GoodJ Own Val (f + 1) it ⟨k, t, [], []⟩ (it + 1) := fun k t hf hm =>
      ⟨hf, by rw [jtwice_eq]; rfl, by rw [jdeep_eq, jdeeps_nil]; omega, by rw [jcount_eq, jcounts_nil], hm⟩
    unfold jval at h
    split at h
    · cases h
    · rename_i hm
      split at h
      · injection h with h; injection h with h1 h2; injection h2 with h2 h3; subst h1; subst h2
        exact leaf _ _ (by rw [jform_eq]; rfl) (by omega)
      · split at h
        · injection h with h; injection h with h1 h2; injection h2 with h2 h3; subst h1; subst h2
          exact leaf _ _ (by rw [jform_eq]; rfl) (by omega)
        · split at h
          · injection h with h; injection h with h1 h2; injection h2 with h2 h3; subst h1; subst h2
            exact leaf _ _ (by rw [jform_eq]; rfl) (by omega)
          · split at h
            · split at h
              · cases h
              · rename_i hs
                injection h with h; injection h with h1 h2; injection h2 with h2 h3; subst h1; subst h2
                have := jStr_val Val _ _ _ _ _ hs
                exact leaf _ _ (by rw [jform_eq, if_neg (by decide), if_neg (by decide), if_pos rfl, toList_ofL, this]; rfl) (by omega)
            · split at h
              · split at h
                · cases h
                · rename_i st r' hl
                  injection h with h; injection h with h1 h2; injection h2 with h2 h3; subst h1; subst h2
                  have hp := jList_items (P := fun st : SA => (∀ x ∈ st.2, jform Own Val x = true ∧ jtwice x = false) ∧ jdeeps st.2 ≤ f ∧ st.1 = it + 1 + jcounts st.2 ∧ st.1 ≤ 65536) (shorterA f) (fun st s st' s' ho hp => ?_) 93 hl ⟨fun _ hx => (nomatch hx), Nat.zero_le _, rfl, by omega⟩
                  · obtain ⟨p1, p2, p3, p4⟩ := hp
                    refine ⟨?_, ?_, by rw [jdeep_eq]; omega, by rw [jcount_eq]; omega, p4⟩
                    · rw [jform_eq, if_neg (by decide), if_neg (by decide), if_neg (by decide), if_pos rfl, toList_ofL]
                      simp only [List.isEmpty_nil, Bool.true_and]
                      exact List.all_eq_true.2 fun x hx => (p1 x hx).1
                    · rw [jtwice_eq]
                      simp only [dupB, Bool.false_or]
                      exact List.any_eq_false.2 fun x hx => by rw [(p1 x hx).2]; decide
                  · unfold jitA at ho
                    split at ho
                    · cases ho
                    · rename_i hv
                      have hg := jval_good hOO f _ _ _ _ _ hv
                      injection ho with ho
                      injection ho with h5 h6
                      subst h5
                      obtain ⟨p1, p2, p3, p4⟩ := hp
                      have := hg.count
                      have := hg.deep
                      refine ⟨fun x hx => ?_, ?_, ?_, hg.most⟩
                      · rw [List.mem_append, List.mem_singleton] at hx
                        rcases hx with hx | rfl
                        · exact p1 x hx
                        · exact ⟨hg.form, hg.twice⟩
                      · simp only
                        rw [jdeeps_app, jdeeps_one]
                        omega
                      · simp only
                        rw [jcounts_app, jcounts_one]
                        omega
              · split at h
                · split at h
                  · cases h
                  · rename_i st r' hl
                    injection h with h; injection h with h1 h2; injection h2 with h2 h3; subst h1; subst h2
                    have hp := jList_items (P := fun st : SO => (∀ x ∈ st.2.2, jform Own Val x = true ∧ jtwice x = false) ∧ jdeeps st.2.2 ≤ f ∧ st.1 = it + 1 + jcounts st.2.2 ∧ st.1 ≤ 65536 ∧ st.2.1.length = st.2.2.length ∧ (∀ b ∈ st.2.1, Val b.data.toList = true) ∧ dupB st.2.1 = false) (shorterO f) (fun st s st' s' ho hp => ?_) 125 hl ⟨fun _ hx => (nomatch hx), Nat.zero_le _, rfl, by simp only; omega, rfl, fun _ hx => (nomatch hx), rfl⟩
                    · obtain ⟨p1, p2, p3, p4, p5, p6, p7⟩ := hp
                      refine ⟨?_, ?_, by rw [jdeep_eq]; omega, by rw [jcount_eq]; omega, p4⟩
                      · rw [jform_eq, if_neg (by decide), if_neg (by decide), if_neg (by decide), if_neg (by decide), if_pos rfl, toList_ofL]
                        simp only [List.isEmpty_nil, Bool.true_and, p5, decide_true]
                        rw [Bool.and_eq_true]
                        exact ⟨List.all_eq_true.2 fun x hx => p6 x hx, List.all_eq_true.2 fun x hx => (p1 x hx).1⟩
                      · rw [jtwice_eq, p7, Bool.false_or]
                        exact List.any_eq_false.2 fun x hx => by rw [(p1 x hx).2]; decide
                    · unfold jitO at ho
                      split at ho
                      · split at ho
                        · cases ho
                        · rename_i hs
                          split at ho
                          · cases ho
                          · rename_i hnd
                            split at ho
                            · split at ho
                              · cases ho
                              · rename_i hv
                                have hg := jval_good hOO f _ _ _ _ _ hv
                                injection ho with ho
                                injection ho with h5 h6
                                subst h5
                                obtain ⟨p1, p2, p3, p4, p5, p6, p7⟩ := hp
                                have := hg.count
                                have := hg.deep
                                have hvv := jStr_val Val _ _ _ _ _ hs
                                refine ⟨fun x hx => ?_, ?_, ?_, hg.most, ?_, fun b hb => ?_, ?_⟩
                                · rw [List.mem_append, List.mem_singleton] at hx
                                  rcases hx with hx | rfl
                                  · exact p1 x hx
                                  · exact ⟨hg.form, hg.twice⟩
                                · simp only
                                  rw [jdeeps_app, jdeeps_one]
                                  omega
                                · simp only
                                  rw [jcounts_app, jcounts_one]
                                  omega
                                · simp only [List.length_append, List.length_singleton]
                                  omega
                                · rw [List.mem_append, List.mem_singleton] at hb
                                  rcases hb with hb | rfl
                                  · exact p6 b hb
                                  · rw [toList_ofL]; exact hvv
                                · exact dupB_snoc _ _ p7 (Bool.eq_false_iff.2 hnd)
                            · cases ho
                      · cases ho
                · split at h
                  · rename_i ho
                    injection h with h; injection h with h1 h2; injection h2 with h2 h3; subst h1; subst h2
                    exact leaf _ _ (by rw [jform_eq, if_neg (by decide), if_pos rfl, toList_ofL, hOO _ ho]; simp) (by omega)
                  · cases h
theorem jparse_check {Own : List UInt8 → List UInt8 × Int} {Val : List UInt8 → Bool} (hOO : OwnOwn Own) {s : List UInt8} {j : Jsn} (h : jparse Own Val s = .ok j) : jcheck Own Val j = 0 := by
  unfold jparse at h
  split at h
  · cases h
  · split at h
    · cases h
    · rename_i hv
      have hg := jval_good hOO _ _ _ _ _ _ hv
      split at h
      · injection h with h
        subst h
        have := hg.count
        have := hg.most
        have := hg.deep
        unfold jcheck
        rw [if_neg (by omega), if_neg (by omega), if_neg (by rw [hg.form]; decide), if_neg (by rw [hg.twice]; decide)]
      · cases h
theorem jcheck_parts {Own : List UInt8 → List UInt8 × Int} {Val : List UInt8 → Bool} {j : Jsn} (h : jcheck Own Val j = 0) : jdeep j ≤ 64 ∧ jcount j ≤ 65536 ∧ jform Own Val j = true ∧ jtwice j = false := by
  unfold jcheck at h
  split at h
  · cases h
  · split at h
    · cases h
    · split at h
      · cases h
      · split at h
        · cases h
        · rename_i h1 h2 h3 h4
          refine ⟨by omega, by omega, ?_, ?_⟩
          · cases hf : jform Own Val j
            · exact absurd hf h3
            · rfl
          · cases hf : jtwice j
            · rfl
            · exact absurd hf h4
end Go.Proofs.YtdjfoabinjfnfaaGreatDoor
namespace Go.Proofs.YtdjfoabinjfnfaaGreatDoor
open Go.RowKit
def Cel (w : World) (b : Nat) (t : TypeId) (cs : Array Value) : Prop := w.heap[b]? = some (.cells cs t (0, 0))
section
variable {w w' : World} {b : Nat} {t : TypeId} {cs : Array Value}
theorem Cel.lt (h : Cel w b t cs) : b < w.heap.size := by
  rcases Nat.lt_or_ge b w.heap.size with h1 | h1
  · exact h1
  · unfold Cel at h
    rw [Array.getElem?_eq_none h1] at h
    cases h
theorem Cel.cell (h : Cel w b t cs) (i : Nat) : w.cell? ⟨b, i, none⟩ = cs[i]? := by
  unfold Cel at h
  simp [World.cell?, h]
theorem Cel.froz (h : Cel w b t cs) (i : Nat) : w.frozen? ⟨b, i, none⟩ = false := by
  unfold Cel at h
  simp [World.frozen?, h]
theorem Cel.fresh (w : World) (t : TypeId) (cs : Array Value) : Cel (w.alloc (.cells cs t)) w.heap.size t cs := by
  unfold Cel
  show (w.heap.push _)[w.heap.size]? = _
  simp
theorem Cel.drew (h : Cel w b t cs) : Cel w.drew b t cs := h
theorem Cel.drewN (h : Cel w b t cs) (n : Nat) : Cel (w.drewN n) b t cs := h
theorem Cel.alloc (h : Cel w b t cs) (o : Obj) : Cel (w.alloc o) b t cs := (Below.heap_alloc w o b h.lt).trans h
theorem Cel.set (h : Cel w b t cs) (i : Nat) (u : Value) : Cel (w.setCell ⟨b, i, none⟩ u) b t (cs.setIfInBounds i u) := by
  unfold Cel at h ⊢
  simp [World.setCell, Array.getElem?_modify, h]
theorem Cel.away (h : Cel w b t cs) {p : Addr} (hp : b ≠ p.block) (u : Value) : Cel (w.setCell p u) b t cs := (Below.heap_setCell w p u b hp).trans h
theorem Cel.below {B : Nat} (h : Cel w b t cs) (hb : Below B w w') (hg : b < B) : Cel w' b t cs := (hb.block b hg).trans h
end
theorem Cel.three {w : World} {b : Nat} {t : TypeId} {x y z : Value} (h : Cel w b t #[x, y, z]) :
    w.cell? ⟨b, 0, none⟩ = some x ∧ w.cell? ⟨b, 1, none⟩ = some y ∧ w.cell? ⟨b, 2, none⟩ = some z ∧
    w.frozen? ⟨b, 0, none⟩ = false ∧ w.frozen? ⟨b, 1, none⟩ = false ∧ w.frozen? ⟨b, 2, none⟩ = false :=
  ⟨h.cell 0, h.cell 1, h.cell 2, h.froz 0, h.froz 1, h.froz 2⟩
theorem Cel.over3 {w : World} {b : Nat} {t : TypeId} {x y z x' y' z' : Value} (h : Cel w b t #[x, y, z]) :
    Cel (((w.setCell ⟨b, 0, none⟩ x').setCell ⟨b, 1, none⟩ y').setCell ⟨b, 2, none⟩ z') b t #[x', y', z'] := ((h.set 0 x').set 1 y').set 2 z'
theorem bel_drewN {B : Nat} {a w : World} (h : Below B a w) (n : Nat) : Below B a (w.drewN n) := ⟨h.os, h.tape, h.output, h.size, h.block⟩
theorem meetF {a : Act} {F : (Nat → Value) → Array Value} {X : Prop} (h1 : a = ⟨F (fun k => a.tmps.getD k undef), []⟩) (h2 : X) : ∃ u, a = ⟨F u, []⟩ ∧ X := ⟨_, h1, h2⟩
end Go.Proofs.YtdjfoabinjfnfaaGreatDoor
namespace Go.Proofs.YtdjfoabinjfnfaaGreatDoor
open Go.RowKit
structure But (B b : Nat) (w w' : World) : Prop where
  os : w'.os = w.os
  tape : w'.tape = w.tape
  output : w'.output = w.output
  size : w.heap.size ≤ w'.heap.size
  block : ∀ k, k < B → k ≠ b → w'.heap[k]? = w.heap[k]?
section
variable {B b : Nat} {w w' w1 w2 : World}
theorem But.refl (B b : Nat) (w : World) : But B b w w := ⟨rfl, rfl, rfl, Nat.le_refl _, fun _ _ _ => rfl⟩
theorem But.trans (h : But B b w w1) (k : But B b w1 w2) : But B b w w2 :=
  ⟨k.os.trans h.os, k.tape.trans h.tape, k.output.trans h.output, Nat.le_trans h.size k.size, fun i hi hb => (k.block i hi hb).trans (h.block i hi hb)⟩
theorem But.mono {B' : Nat} (h : But B b w w') (hB : B' ≤ B) : But B' b w w' := ⟨h.os, h.tape, h.output, h.size, fun k hk => h.block k (Nat.lt_of_lt_of_le hk hB)⟩
theorem But.of (h : Below B w w') : But B b w w' := ⟨h.os, h.tape, h.output, h.size, fun k hk _ => h.block k hk⟩
theorem But.below (h : But B b w w') {C : Nat} (hb : C ≤ b) (hC : C ≤ B) : Below C w w' := ⟨h.os, h.tape, h.output, h.size, fun k hk => h.block k (by omega) (by omega)⟩
theorem But.set (h : But B b w w') (i : Nat) (u : Value) : But B b w (w'.setCell ⟨b, i, none⟩ u) :=
  ⟨h.os, h.tape, h.output, by simpa using h.size, fun k hk hb => (Below.heap_setCell w' _ u k hb).trans (h.block k hk hb)⟩
theorem But.setCell (h : But B b w w') {p : Addr} (hp : B ≤ p.block) (u : Value) : But B b w (w'.setCell p u) :=
  ⟨h.os, h.tape, h.output, by simpa using h.size, fun k hk hb => (Below.heap_setCell w' _ u k (by omega)).trans (h.block k hk hb)⟩
theorem But.alloc (h : But B b w w') (hB : B ≤ w'.heap.size) (o : Obj) : But B b w (w'.alloc o) := h.trans (But.of ((Below.refl _ _).alloc hB _))
theorem But.drew (h : But B b w w') : But B b w w'.drew := ⟨h.os, h.tape, h.output, h.size, h.block⟩
theorem But.drewN (h : But B b w w') (n : Nat) : But B b w (w'.drewN n) := ⟨h.os, h.tape, h.output, h.size, h.block⟩
theorem But.grown {row : Option Nat} (h : But B b w w') (hg : w'.grownBy w1 row) (hB : B ≤ w'.heap.size) (hr : ∀ k, row = some k → B ≤ k) : But B b w w1 := h.trans (But.of (Below.grown (Below.refl _ _) hg hB hr))
theorem But.cell (h : But B b w w') {p : Addr} (hp : p.block < B) (hb : p.block ≠ b) : w'.cell? p = w.cell? p := World.cell?_of_block (w := w) (h.block p.block hp hb)
theorem But.frozen (h : But B b w w') {p : Addr} (hp : p.block < B) (hb : p.block ≠ b) : w'.frozen? p = w.frozen? p := World.frozen?_of_block (w := w) (h.block p.block hp hb)
theorem Cel.but {c : Nat} {t : TypeId} {cs : Array Value} (hc : Cel w c t cs) (h : But B b w w') (hB : c < B) (hb : c ≠ b) : Cel w' c t cs := (h.block c hB hb).trans hc
end
end Go.Proofs.YtdjfoabinjfnfaaGreatDoor
namespace Go.Proofs.YtdjfoabinjfnfaaGreatDoor
open Go.RowKit
def StrL (w : World) (X : Nat → Prop) (v : Value) (L : List ByteArray) : Prop :=
  ∃ A c, v = .slice A L.length c ∧ (0 < L.length → ∃ g o, A = some ⟨g, o, none⟩ ∧ X g ∧ g < w.heap.size ∧ ∀ j x, L[j]? = some x → w.cell? ⟨g, o + j, none⟩ = some (.string x))
abbrev JE := Jsn × Value × Value
def encJ (z : JE) : List Value := [.int .u8 z.1.kind, .string z.1.text, z.2.1, z.2.2]
theorem encJ_len (z : JE) : (encJ z).length = 4 := rfl
def JCp (w : World) (g : Nat) : Nat → List (Jsn × (Value → Value → Prop)) → Prop
  | _, [] => True
  | o, x :: r => (∃ vn vl, (∀ (i : Nat) (u : Value), (encJ (x.1, vn, vl))[i]? = some u → w.cell? ⟨g, o + i, none⟩ = some u) ∧ x.2 vn vl) ∧ JCp w g (o + 4) r
def JV (w : World) (X : Nat → Prop) : Jsn → Value → Value → Prop := Jsn.para fun k _ ns l vn vl =>
  0 ≤ k ∧ k ≤ 255 ∧ StrL w X vn ns ∧ ∃ A c, vl = .slice A l.length c ∧ (0 < l.length → ∃ g o, A = some ⟨g, o, none⟩ ∧ X g ∧ g < w.heap.size ∧ JCp w g o l)
def JC (w : World) (X : Nat → Prop) (g o : Nat) (l : List Jsn) : Prop := JCp w g o (l.map fun x => (x, JV w X x))
theorem JV_eq (w : World) (X : Nat → Prop) (k : Int) (s : ByteArray) (ns : List ByteArray) (l : List Jsn) (vn vl : Value) : JV w X ⟨k, s, ns, l⟩ vn vl =
    (0 ≤ k ∧ k ≤ 255 ∧ StrL w X vn ns ∧ ∃ A c, vl = .slice A l.length c ∧ (0 < l.length → ∃ g o, A = some ⟨g, o, none⟩ ∧ X g ∧ g < w.heap.size ∧ JC w X g o l)) := by
  conv => lhs; unfold JV
  rw [Jsn.para_eq, List.length_map]
  rfl
theorem JC_cons (w : World) (X : Nat → Prop) (g o : Nat) (x : Jsn) (r : List Jsn) : JC w X g o (x :: r) =
    ((∃ vn vl, (∀ (i : Nat) (u : Value), (encJ (x, vn, vl))[i]? = some u → w.cell? ⟨g, o + i, none⟩ = some u) ∧ JV w X x vn vl) ∧ JC w X g (o + 4) r) := rfl
theorem JC.elems {w : World} {X : Nat → Prop} {g : Nat} : ∀ {l : List Jsn} {o : Nat}, JC w X g o l →
    ∃ zs : List JE, zs.map (·.1) = l ∧ (∀ z ∈ zs, JV w X z.1 z.2.1 z.2.2) ∧ ∀ j z, zs[j]? = some z → ∀ (i : Nat) (u : Value), (encJ z)[i]? = some u → w.cell? ⟨g, o + j * 4 + i, none⟩ = some u
  | [], _, _ => ⟨[], rfl, (fun _ h => by cases h), (fun _ _ h => by simp at h)⟩
  | x :: r, o, h => by
    rw [JC_cons] at h
    obtain ⟨⟨vn, vl, hc, hv⟩, hr⟩ := h
    obtain ⟨zs, h1, h2, h3⟩ := JC.elems hr
    refine ⟨(x, vn, vl) :: zs, by simp [h1], fun z hz => ?_, fun j z hz i u hu => ?_⟩
    · rcases List.mem_cons.1 hz with rfl | hz
      · exact hv
      · exact h2 z hz
    · cases j with
      | zero =>
        simp at hz; subst hz
        have := hc i u hu
        simpa using this
      | succ j =>
        have := h3 j z (by simpa using hz) i u hu
        rwa [show o + 4 + j * 4 + i = o + (j + 1) * 4 + i by omega] at this
theorem JC.of_elems {w : World} {X : Nat → Prop} {g : Nat} : ∀ (zs : List JE) (o : Nat), (∀ z ∈ zs, JV w X z.1 z.2.1 z.2.2) → (∀ j z, zs[j]? = some z → ∀ (i : Nat) (u : Value), (encJ z)[i]? = some u → w.cell? ⟨g, o + j * 4 + i, none⟩ = some u) → JC w X g o (zs.map (·.1))
  | [], _, _, _ => trivial
  | z :: zs, o, h2, h3 => by
    rw [List.map_cons, JC_cons]
    refine ⟨⟨z.2.1, z.2.2, fun i u hu => ?_, h2 z (by simp)⟩, JC.of_elems zs (o + 4) (fun y hy => h2 y (by simp [hy])) fun j y hy i u hu => ?_⟩
    · have := h3 0 z rfl i u hu
      simpa using this
    · have := h3 (j + 1) y (by simpa using hy) i u hu
      rwa [show o + 4 + j * 4 + i = o + (j + 1) * 4 + i by omega]
theorem JV.elems {w : World} {X : Nat → Prop} {k : Int} {s : ByteArray} {ns : List ByteArray} {l : List Jsn} {vn vl : Value} (h : JV w X (.mk k s ns l) vn vl) :
    ∃ (A : Option Addr) (c : Nat) (zs : List JE), vl = .slice A zs.length c ∧ zs.map (·.1) = l ∧ (∀ z ∈ zs, JV w X z.1 z.2.1 z.2.2) ∧
      (0 < zs.length → ∃ g o, A = some ⟨g, o, none⟩ ∧ X g ∧ g < w.heap.size ∧ ∀ j z, zs[j]? = some z → ∀ (i : Nat) (u : Value), (encJ z)[i]? = some u → w.cell? ⟨g, o + j * 4 + i, none⟩ = some u) := by
  rw [JV_eq] at h
  obtain ⟨_, _, _, A, c, rfl, hl⟩ := h
  by_cases hp : 0 < l.length
  · obtain ⟨g, o, rfl, hX, hg, hC⟩ := hl hp
    obtain ⟨zs, h1, h2, h3⟩ := hC.elems
    have hlen : zs.length = l.length := by rw [← h1, List.length_map]
    exact ⟨_, c, zs, by rw [hlen], h1, h2, fun _ => ⟨g, o, rfl, hX, hg, h3⟩⟩
  · have : l = [] := List.eq_nil_of_length_eq_zero (by omega)
    subst this
    exact ⟨A, c, [], rfl, rfl, (fun _ h => by cases h), (fun h => by simp at h)⟩
theorem JV.names {w : World} {X : Nat → Prop} {j : Jsn} {vn vl : Value} (h : JV w X j vn vl) : StrL w X vn j.names := by
  obtain ⟨k, s, n, l⟩ := j; rw [JV_eq] at h; exact h.2.2.1
theorem JV.kind {w : World} {X : Nat → Prop} {j : Jsn} {vn vl : Value} (h : JV w X j vn vl) : 0 ≤ j.kind ∧ j.kind ≤ 255 := by
  obtain ⟨k, s, n, l⟩ := j; rw [JV_eq] at h; exact ⟨h.1, h.2.1⟩
theorem JV.forms {w : World} {X : Nat → Prop} {j : Jsn} {vn vl : Value} (h : JV w X j vn vl) : ∃ A n c A' n' c', vn = .slice A n c ∧ vl = .slice A' n' c' := by
  obtain ⟨k, s, n, l⟩ := j; rw [JV_eq] at h
  obtain ⟨_, _, ⟨A, c, h1, _⟩, A', c', h2, _⟩ := h
  exact ⟨A, _, c, A', _, c', h1, h2⟩
theorem JV.of_elems {w : World} {X : Nat → Prop} {k : Int} {s : ByteArray} {ns : List ByteArray} {vn : Value} {A : Option Addr} {c : Nat} {zs : List JE} {l : List Jsn} (hk0 : 0 ≤ k) (hk1 : k ≤ 255) (hn : StrL w X vn ns) (hz : zs.map (·.1) = l) (h2 : ∀ z ∈ zs, JV w X z.1 z.2.1 z.2.2)
    (h3 : 0 < zs.length → ∃ g o, A = some ⟨g, o, none⟩ ∧ X g ∧ g < w.heap.size ∧ ∀ j z, zs[j]? = some z → ∀ (i : Nat) (u : Value), (encJ z)[i]? = some u → w.cell? ⟨g, o + j * 4 + i, none⟩ = some u) :
    JV w X (.mk k s ns l) vn (.slice A zs.length c) := by
  subst hz
  rw [JV_eq]
  refine ⟨hk0, hk1, hn, A, c, by rw [List.length_map], fun hp => ?_⟩
  obtain ⟨g, o, q1, q2, q3, q4⟩ := h3 (by simpa using hp)
  exact ⟨g, o, q1, q2, q3, JC.of_elems zs o h2 q4⟩
section
variable {w w' : World} {X Y : Nat → Prop}
theorem StrL.keep {v : Value} {L : List ByteArray} (h : StrL w X v L) (hs : w.heap.size ≤ w'.heap.size) (hk : ∀ p : Addr, X p.block → p.block < w.heap.size → w'.cell? p = w.cell? p) (hXY : ∀ b, X b → b < w.heap.size → Y b) : StrL w' Y v L := by
  obtain ⟨A, c, rfl, h1⟩ := h
  refine ⟨A, c, rfl, fun hp => ?_⟩
  obtain ⟨g, o, rfl, q1, q2, q3⟩ := h1 hp
  exact ⟨g, o, rfl, hXY _ q1 q2, Nat.lt_of_lt_of_le q2 hs, fun j x hx => (hk _ q1 q2).trans (q3 j x hx)⟩
theorem JV.keep (hs : w.heap.size ≤ w'.heap.size) (hk : ∀ p : Addr, X p.block → p.block < w.heap.size → w'.cell? p = w.cell? p) (hXY : ∀ b, X b → b < w.heap.size → Y b) : ∀ (j : Jsn) {vn vl : Value}, JV w X j vn vl → JV w' Y j vn vl := by
  refine Jsn.ind ?_
  intro k s n l ih vn vl h
  have hn := h.names
  have hkd := h.kind
  obtain ⟨A, c, zs, rfl, hz, h2, h3⟩ := h.elems
  refine JV.of_elems hkd.1 hkd.2 (hn.keep hs hk hXY) hz (fun z hz' => ih z.1 (by rw [← hz]; exact List.mem_map_of_mem hz') (h2 z hz')) fun hp => ?_
  obtain ⟨g, o, rfl, q1, q2, q3⟩ := h3 hp
  exact ⟨g, o, rfl, hXY _ q1 q2, Nat.lt_of_lt_of_le q2 hs, fun j z hz' i u hu => (hk _ q1 q2).trans (q3 j z hz' i u hu)⟩
theorem JV.below {B : Nat} {j : Jsn} {vn vl : Value} (h : JV w X j vn vl) (hb : Below B w w') (hX : ∀ b, X b → b < w.heap.size → b < B) : JV w' X j vn vl :=
  JV.keep hb.size (fun _p h1 h2 => hb.cell (hX _ h1 h2)) (fun _ h _ => h) j h
theorem JV.more {j : Jsn} {vn vl : Value} (h : JV w X j vn vl) (hXY : ∀ b, X b → b < w.heap.size → Y b) : JV w Y j vn vl := JV.keep (Nat.le_refl _) (fun _ _ _ => rfl) hXY j h
theorem JV.later {j : Jsn} {vn vl : Value} (h : JV w X j vn vl) (hb : Below w.heap.size w w') : JV w' X j vn vl := h.below hb (fun _ _ h => h)
theorem JV.alloc {j : Jsn} {vn vl : Value} (h : JV w X j vn vl) (o : Obj) : JV (w.alloc o) X j vn vl := JV.keep (by simp) (fun p _ hp => World.cell?_alloc_lt w o p hp) (fun _ h _ => h) j h
theorem JV.drew {j : Jsn} {vn vl : Value} (h : JV w X j vn vl) : JV w.drew X j vn vl := JV.keep (w := w) (w' := w.drew) (Nat.le_refl _) (fun _ _ _ => rfl) (fun _ h _ => h) j h
theorem JV.drewN {j : Jsn} {vn vl : Value} (h : JV w X j vn vl) (n : Nat) : JV (w.drewN n) X j vn vl := JV.keep (w := w) (w' := w.drewN n) (Nat.le_refl _) (fun _ _ _ => rfl) (fun _ h _ => h) j h
theorem StrL.later {v : Value} {L : List ByteArray} (h : StrL w X v L) (hb : Below w.heap.size w w') : StrL w' X v L := h.keep hb.size (fun _p _ hp => hb.cell hp) (fun _ h _ => h)
end
end Go.Proofs.YtdjfoabinjfnfaaGreatDoor
