/-
  JSON values as plain data, and what the document says of them. No program.
-/
import Derived.Lib.Hide
import Derived.Below
import Derived.Laws.OwnMore
import Derived.Deep.Draws
import Derived.Laws.Rows
import Derived.WalkKit
import Derived.Test.YtghaoielnphhlaaGreatDoorProg
import Derived.Tactics
import Derived.Tactics2
import Derived.LoopTactic
import Derived.KernelRfl
import Derived.Handy
namespace Go.Proofs.YtghaoielnphhlaaGreatDoor

/-- A value: its kind, its text, its names, its list. -/
structure Jsn where
  kind : Int
  text : ByteArray
  names : List ByteArray
  list : List Jsn

/-- Recursion over the values within. -/
def Jsn.para {α : Type} (f : Int → ByteArray → List ByteArray → List (Jsn × α) → α) : Jsn → α
  | ⟨k, s, n, l⟩ => f k s n (l.attach.map fun ⟨x, _⟩ => (x, Jsn.para f x))
theorem Jsn.para_eq {α : Type} (f : Int → ByteArray → List ByteArray → List (Jsn × α) → α) (k : Int) (s : ByteArray) (n : List ByteArray) (l : List Jsn) :
    Jsn.para f ⟨k, s, n, l⟩ = f k s n (l.map fun x => (x, Jsn.para f x)) := by
  rw [Jsn.para]
  congr 1
  rw [← List.attach_map_subtype_val l, List.map_map]
  simp
/-- Induction over the values within. -/
theorem Jsn.ind {P : Jsn → Prop} (h : ∀ k s n l, (∀ x ∈ l, P x) → P (.mk k s n l)) : ∀ j, P j
  | ⟨k, s, n, l⟩ => h k s n l fun x _ => Jsn.ind h x
theorem map_pair {α β : Type} (g : Jsn → α) (h : Jsn × α → β) (l : List Jsn) : (l.map fun x => (x, g x)).map h = l.map fun x => h (x, g x) := by rw [List.map_map]; rfl

/-- How deep. -/
def jdeep : Jsn → Nat := Jsn.para fun _ _ _ l => (l.map (·.2)).foldr max 0 + 1
def jdeeps (l : List Jsn) : Nat := (l.map jdeep).foldr max 0
/-- How many values. -/
def jcount : Jsn → Nat := Jsn.para fun _ _ _ l => (l.map (·.2)).sum + 1
def jcounts (l : List Jsn) : Nat := (l.map jcount).sum
/-- May it be, but for names that stand twice? -/
def jform (Own : List UInt8 → List UInt8 × Int) (Val : List UInt8 → Bool) : Jsn → Bool := Jsn.para fun k s n l =>
  if k = 1 ∨ k = 2 ∨ k = 3 then s.data.toList.isEmpty && n.isEmpty && l.isEmpty
  else if k = 4 then decide (Own s.data.toList = (s.data.toList, 0)) && n.isEmpty && l.isEmpty
  else if k = 5 then Val s.data.toList && n.isEmpty && l.isEmpty
  else if k = 6 then s.data.toList.isEmpty && n.isEmpty && (l.map (·.2)).all id
  else if k = 7 then s.data.toList.isEmpty && decide (n.length = l.length) && n.all (fun b => Val b.data.toList) && (l.map (·.2)).all id
  else false
/-- Does a name stand twice? -/
def dupB : List ByteArray → Bool
  | [] => false
  | x :: r => r.any (fun y => decide (y = x)) || dupB r
def jtwice : Jsn → Bool := Jsn.para fun _ _ n l => dupB n || (l.map (·.2)).any id
def jcheck (Own : List UInt8 → List UInt8 × Int) (Val : List UInt8 → Bool) (j : Jsn) : Int :=
  if 64 < jdeep j then 61 else if 65536 < jcount j then 40 else if jform Own Val j = false then 4 else if jtwice j = true then 6 else 0

/-- A digit below 16; a character as it stands in a String's text; a String's text. -/
def jhex (n : Nat) : UInt8 := UInt8.ofNat (if n < 10 then 48 + n else 87 + n)
def jesc (c : UInt8) : List UInt8 :=
  if c = 34 then [92, 34] else if c = 92 then [92, 92] else if c = 8 then [92, 98] else if c = 12 then [92, 102] else if c = 10 then [92, 110] else if c = 13 then [92, 114] else if c = 9 then [92, 116]
  else if c.toNat < 32 then [92, 117, 48, 48, jhex (c.toNat / 16), jhex (c.toNat % 16)] else [c]
def jquote (s : List UInt8) : List UInt8 := 34 :: (s.flatMap jesc ++ [34])

/-- The items of an Array, of an Object: with commas between; f: is it the first? -/
def jitems : Bool → List (List UInt8) → List UInt8
  | _, [] => []
  | f, x :: r => (if f then [] else [44]) ++ x ++ jitems false r
def jpairs : Bool → List ByteArray → List (List UInt8) → List UInt8
  | _, _, [] => []
  | f, n, x :: r => (if f then [] else [44]) ++ (jquote (n.headD ByteArray.empty).data.toList ++ 58 :: x) ++ jpairs false n.tail r
def jtext1 (k : Int) (s : ByteArray) (n : List ByteArray) (l : List (List UInt8)) : List UInt8 :=
  if k = 1 then [110, 117, 108, 108] else if k = 2 then [116, 114, 117, 101] else if k = 3 then [102, 97, 108, 115, 101] else if k = 4 then s.data.toList else if k = 5 then jquote s.data.toList
  else if k = 7 then 123 :: (jpairs true n l ++ [125]) else 91 :: (jitems true l ++ [93])
def jtext : Jsn → List UInt8 := Jsn.para fun k s n l => jtext1 k s n (l.map (·.2))
def jprint (Own : List UInt8 → List UInt8 × Int) (Val : List UInt8 → Bool) (j : Jsn) : List UInt8 × Int :=
  if jcheck Own Val j ≠ 0 then ([], jcheck Own Val j) else if 262144 < (jtext j).length then ([], 40) else (jtext j, 0)

/-- The first place of a name; what it has. -/
def jfind (n : List ByteArray) (s : ByteArray) : Option Nat := n.findIdx? (fun b => decide (b = s))
def jget (j : Jsn) (s : ByteArray) : Option Jsn :=
  if j.kind = 7 then (match jfind j.names s with | none => none | some i => j.list[i]?) else none

/-- The same? -/
def jsame : Jsn → Jsn → Bool := Jsn.para fun k s n l j =>
  decide (k = j.kind) && decide (s = j.text) && decide (n = j.names) && decide (l.length = j.list.length) && ((l.map (·.2)).zip j.list).all fun p => p.1 p.2
theorem jsame_eq1 (k : Int) (s : ByteArray) (n : List ByteArray) (l : List Jsn) (j : Jsn) : jsame ⟨k, s, n, l⟩ j =
    (decide (k = j.kind) && decide (s = j.text) && decide (n = j.names) && decide (l.length = j.list.length) && (l.zip j.list).all fun p => jsame p.1 p.2) := by
  conv => lhs; unfold jsame
  rw [Jsn.para_eq, map_pair, List.length_map]
  have : ((l.map fun x => jsame x).zip j.list).all (fun p => p.1 p.2) = (l.zip j.list).all fun p => jsame p.1 p.2 := by
    rw [List.zip_map_left, List.all_map]; rfl
  rw [← this]; rfl
theorem zip_all_eq : ∀ (l q : List Jsn), (∀ x ∈ l, ∀ y, jsame x y = true ↔ x = y) → l.length = q.length → ((l.zip q).all (fun p => jsame p.1 p.2) = true ↔ l = q)
  | [], [], _, _ => by simp
  | [], _ :: _, _, h => by simp at h
  | _ :: _, [], _, h => by simp at h
  | x :: r, y :: q, h, hl => by
    have h1 := zip_all_eq r q (fun z hz => h z (by simp [hz])) (by simpa using hl)
    have h2 := h x (by simp) y
    simp only [List.zip_cons_cons, List.all_cons, Bool.and_eq_true, h1, h2, List.cons.injEq]
theorem jsame_eq : ∀ (a b : Jsn), jsame a b = true ↔ a = b := by
  refine Jsn.ind fun k s n l ih b => ?_
  obtain ⟨k', s', n', l'⟩ := b
  rw [jsame_eq1]
  simp only [Bool.and_eq_true, decide_eq_true_eq, Jsn.mk.injEq]
  constructor
  · rintro ⟨⟨⟨⟨h1, h2⟩, h3⟩, h4⟩, h5⟩
    exact ⟨h1, h2, h3, (zip_all_eq l l' ih h4).1 h5⟩
  · rintro ⟨h1, h2, h3, rfl⟩
    exact ⟨⟨⟨⟨h1, h2⟩, h3⟩, rfl⟩, (zip_all_eq l l ih rfl).2 rfl⟩
theorem jsame_refl (a : Jsn) : jsame a a = true := (jsame_eq a a).2 rfl
/-- How much there is to it: every part, every byte. -/
def jbulk : Jsn → Nat := Jsn.para fun _ s n l => 1 + s.size + (n.map fun b => b.size + 1).sum + (l.map (·.2)).sum
def jbulks (l : List Jsn) : Nat := (l.map jbulk).sum
theorem jbulk_eq (k : Int) (s : ByteArray) (n : List ByteArray) (l : List Jsn) : jbulk ⟨k, s, n, l⟩ = 1 + s.size + (n.map fun b => b.size + 1).sum + jbulks l := by
  conv => lhs; unfold jbulk
  rw [Jsn.para_eq, map_pair]; rfl
theorem mem_sum {α : Type} (f : α → Nat) {x : α} : ∀ {l : List α}, x ∈ l → f x ≤ (l.map f).sum
  | [], h => by cases h
  | y :: r, h => by
    rcases List.mem_cons.1 h with rfl | h
    · simp
    · have := mem_sum f h; simp; omega
theorem jbulks_mem {x : Jsn} {l : List Jsn} (h : x ∈ l) : jbulk x ≤ jbulks l := mem_sum jbulk h
theorem len_le_sum {α : Type} (f : α → Nat) (hf : ∀ x, 1 ≤ f x) : ∀ (l : List α), l.length ≤ (l.map f).sum
  | [] => by simp
  | x :: r => by have := len_le_sum f hf r; have := hf x; simp; omega
theorem jbulk_pos (j : Jsn) : 1 ≤ jbulk j := by obtain ⟨k, s, n, l⟩ := j; rw [jbulk_eq]; omega
/-- What a bound on a value's bulk bounds. -/
theorem bulk_parts {j : Jsn} {m : Nat} (h : jbulk j ≤ m) : j.text.size ≤ m ∧ j.names.length ≤ m ∧ j.list.length ≤ m ∧ (∀ b ∈ j.names, b.size ≤ m) ∧ ∀ x ∈ j.list, jbulk x < jbulk j := by
  obtain ⟨k, s, n, l⟩ := j
  rw [jbulk_eq] at h ⊢
  have h1 := len_le_sum (fun b : ByteArray => b.size + 1) (fun _ => by omega) n
  have h2 := len_le_sum jbulk jbulk_pos l
  have h3 : jbulks l = (l.map jbulk).sum := rfl
  refine ⟨by simp only; omega, by simp only; omega, by simp only; omega, fun b hb => ?_, fun x hx => ?_⟩
  · have := mem_sum (fun b : ByteArray => b.size + 1) hb; simp only at this; omega
  · have hx' : x ∈ l := hx
    have := jbulks_mem hx'; omega
end Go.Proofs.YtghaoielnphhlaaGreatDoor


/-
  Words for memory, of no program: a block that is known whole; what of it stays behind draws, new blocks, stores and calls.
-/
namespace Go.Proofs.YtghaoielnphhlaaGreatDoor
open Go.RowKit

/-- Block b is just these cells of type t, none of them frozen. -/
def Cel (w : World) (b : Nat) (t : TypeId) (cs : Array Value) : Prop := w.heap[b]? = some (.cells cs t (0, 0))

section
variable {w w' : World} {b : Nat} {t : TypeId} {cs : Array Value}

theorem Cel.lt (h : Cel w b t cs) : b < w.heap.size := by
  rcases Nat.lt_or_ge b w.heap.size with h1 | h1
  · exact h1
  · unfold Cel at h
    rw [Array.getElem?_eq_none h1] at h
    cases h
theorem Cel.cell (h : Cel w b t cs) (i : Nat) : w.cell? ⟨b, i, none⟩ = cs[i]? := by
  unfold Cel at h
  simp [World.cell?, h]
theorem Cel.froz (h : Cel w b t cs) (i : Nat) : w.frozen? ⟨b, i, none⟩ = false := by
  unfold Cel at h
  simp [World.frozen?, h]
theorem Cel.fresh (w : World) (t : TypeId) (cs : Array Value) : Cel (w.alloc (.cells cs t)) w.heap.size t cs := by
  unfold Cel
  show (w.heap.push _)[w.heap.size]? = _
  simp
theorem Cel.drew (h : Cel w b t cs) : Cel w.drew b t cs := h
theorem Cel.drewN (h : Cel w b t cs) (n : Nat) : Cel (w.drewN n) b t cs := h
theorem Cel.alloc (h : Cel w b t cs) (o : Obj) : Cel (w.alloc o) b t cs := (Below.heap_alloc w o b h.lt).trans h
theorem Cel.set (h : Cel w b t cs) (i : Nat) (u : Value) : Cel (w.setCell ⟨b, i, none⟩ u) b t (cs.setIfInBounds i u) := by
  unfold Cel at h ⊢
  simp [World.setCell, Array.getElem?_modify, h]
theorem Cel.away (h : Cel w b t cs) {p : Addr} (hp : b ≠ p.block) (u : Value) : Cel (w.setCell p u) b t cs := (Below.heap_setCell w p u b hp).trans h
theorem Cel.below {B : Nat} (h : Cel w b t cs) (hb : Below B w w') (hg : b < B) : Cel w' b t cs := (hb.block b hg).trans h
end

/-- The facts that a walk asks of a block of three cells. -/
theorem Cel.three {w : World} {b : Nat} {t : TypeId} {x y z : Value} (h : Cel w b t #[x, y, z]) :
    w.cell? ⟨b, 0, none⟩ = some x ∧ w.cell? ⟨b, 1, none⟩ = some y ∧ w.cell? ⟨b, 2, none⟩ = some z ∧
    w.frozen? ⟨b, 0, none⟩ = false ∧ w.frozen? ⟨b, 1, none⟩ = false ∧ w.frozen? ⟨b, 2, none⟩ = false :=
  ⟨h.cell 0, h.cell 1, h.cell 2, h.froz 0, h.froz 1, h.froz 2⟩
/-- A block of three cells that has been written over, cell by cell. -/
theorem Cel.over3 {w : World} {b : Nat} {t : TypeId} {x y z x' y' z' : Value} (h : Cel w b t #[x, y, z]) :
    Cel (((w.setCell ⟨b, 0, none⟩ x').setCell ⟨b, 1, none⟩ y').setCell ⟨b, 2, none⟩ z') b t #[x', y', z'] := ((h.set 0 x').set 1 y').set 2 z'
theorem bel_drewN {B : Nat} {a w : World} (h : Below B a w) (n : Nat) : Below B a (w.drewN n) := ⟨h.os, h.tape, h.output, h.size, h.block⟩

/-- A frame read back as a function of its slots: what a cut's relation asks. -/
theorem meetF {a : Act} {F : (Nat → Value) → Array Value} {X : Prop} (h1 : a = ⟨F (fun k => a.tmps.getD k undef), []⟩) (h2 : X) : ∃ u, a = ⟨F u, []⟩ ∧ X := ⟨_, h1, h2⟩
end Go.Proofs.YtghaoielnphhlaaGreatDoor


/-
  JSON values as they lie in memory: read only; and of the call's own, each value within in an interval of blocks of its own. No program.
-/
namespace Go.Proofs.YtghaoielnphhlaaGreatDoor
open Go.RowKit

/-- A slice of strings that reads as this list; its array lies in a block of X. -/
def StrL (w : World) (X : Nat → Prop) (v : Value) (L : List ByteArray) : Prop :=
  ∃ A c, v = .slice A L.length c ∧ (0 < L.length → ∃ g o, A = some ⟨g, o, none⟩ ∧ X g ∧ g < w.heap.size ∧ ∀ j x, L[j]? = some x → w.cell? ⟨g, o + j, none⟩ = some (.string x))

/-- A value as it lies: it, the slice of its names, the slice of its list. -/
abbrev JE := Jsn × Value × Value
def encJ (z : JE) : List Value := [.int .u8 z.1.kind, .string z.1.text, z.2.1, z.2.2]
/-- What the list's cells are, the children told by predicates. -/
def JCp (w : World) (g : Nat) : Nat → List (Jsn × (Value → Value → Prop)) → Prop
  | _, [] => True
  | o, x :: r => (∃ vn vl, (∀ (i : Nat) (u : Value), (encJ (x.1, vn, vl))[i]? = some u → w.cell? ⟨g, o + i, none⟩ = some u) ∧ x.2 vn vl) ∧ JCp w g (o + 4) r
/-- These two slices are a value's names and list; all its arrays lie in blocks of X. -/
def JV (w : World) (X : Nat → Prop) : Jsn → Value → Value → Prop := Jsn.para fun k _ ns l vn vl =>
  0 ≤ k ∧ k ≤ 255 ∧ StrL w X vn ns ∧ ∃ A c, vl = .slice A l.length c ∧ (0 < l.length → ∃ g o, A = some ⟨g, o, none⟩ ∧ X g ∧ g < w.heap.size ∧ JCp w g o l)
def JC (w : World) (X : Nat → Prop) (g o : Nat) (l : List Jsn) : Prop := JCp w g o (l.map fun x => (x, JV w X x))
theorem JV_eq (w : World) (X : Nat → Prop) (k : Int) (s : ByteArray) (ns : List ByteArray) (l : List Jsn) (vn vl : Value) : JV w X ⟨k, s, ns, l⟩ vn vl =
    (0 ≤ k ∧ k ≤ 255 ∧ StrL w X vn ns ∧ ∃ A c, vl = .slice A l.length c ∧ (0 < l.length → ∃ g o, A = some ⟨g, o, none⟩ ∧ X g ∧ g < w.heap.size ∧ JC w X g o l)) := by
  conv => lhs; unfold JV
  rw [Jsn.para_eq, List.length_map]
  rfl
theorem JC_cons (w : World) (X : Nat → Prop) (g o : Nat) (x : Jsn) (r : List Jsn) : JC w X g o (x :: r) =
    ((∃ vn vl, (∀ (i : Nat) (u : Value), (encJ (x, vn, vl))[i]? = some u → w.cell? ⟨g, o + i, none⟩ = some u) ∧ JV w X x vn vl) ∧ JC w X g (o + 4) r) := rfl

theorem JC.elems {w : World} {X : Nat → Prop} {g : Nat} : ∀ {l : List Jsn} {o : Nat}, JC w X g o l →
    ∃ zs : List JE, zs.map (·.1) = l ∧ (∀ z ∈ zs, JV w X z.1 z.2.1 z.2.2) ∧ ∀ j z, zs[j]? = some z → ∀ (i : Nat) (u : Value), (encJ z)[i]? = some u → w.cell? ⟨g, o + j * 4 + i, none⟩ = some u
  | [], _, _ => ⟨[], rfl, (fun _ h => by cases h), (fun _ _ h => by simp at h)⟩
  | x :: r, o, h => by
    rw [JC_cons] at h
    obtain ⟨⟨vn, vl, hc, hv⟩, hr⟩ := h
    obtain ⟨zs, h1, h2, h3⟩ := JC.elems hr
    refine ⟨(x, vn, vl) :: zs, by simp [h1], fun z hz => ?_, fun j z hz i u hu => ?_⟩
    · rcases List.mem_cons.1 hz with rfl | hz
      · exact hv
      · exact h2 z hz
    · cases j with
      | zero =>
        simp at hz; subst hz
        have := hc i u hu
        simpa using this
      | succ j =>
        have := h3 j z (by simpa using hz) i u hu
        rwa [show o + 4 + j * 4 + i = o + (j + 1) * 4 + i by omega] at this
theorem JC.of_elems {w : World} {X : Nat → Prop} {g : Nat} : ∀ (zs : List JE) (o : Nat), (∀ z ∈ zs, JV w X z.1 z.2.1 z.2.2) → (∀ j z, zs[j]? = some z → ∀ (i : Nat) (u : Value), (encJ z)[i]? = some u → w.cell? ⟨g, o + j * 4 + i, none⟩ = some u) → JC w X g o (zs.map (·.1))
  | [], _, _, _ => trivial
  | z :: zs, o, h2, h3 => by
    rw [List.map_cons, JC_cons]
    refine ⟨⟨z.2.1, z.2.2, fun i u hu => ?_, h2 z (by simp)⟩, JC.of_elems zs (o + 4) (fun y hy => h2 y (by simp [hy])) fun j y hy i u hu => ?_⟩
    · have := h3 0 z rfl i u hu
      simpa using this
    · have := h3 (j + 1) y (by simpa using hy) i u hu
      rwa [show o + 4 + j * 4 + i = o + (j + 1) * 4 + i by omega]

/-- What a value's list is: its elements as they lie. -/
theorem JV.elems {w : World} {X : Nat → Prop} {k : Int} {s : ByteArray} {ns : List ByteArray} {l : List Jsn} {vn vl : Value} (h : JV w X (.mk k s ns l) vn vl) :
    ∃ (A : Option Addr) (c : Nat) (zs : List JE), vl = .slice A zs.length c ∧ zs.map (·.1) = l ∧ (∀ z ∈ zs, JV w X z.1 z.2.1 z.2.2) ∧
      (0 < zs.length → ∃ g o, A = some ⟨g, o, none⟩ ∧ X g ∧ g < w.heap.size ∧ ∀ j z, zs[j]? = some z → ∀ (i : Nat) (u : Value), (encJ z)[i]? = some u → w.cell? ⟨g, o + j * 4 + i, none⟩ = some u) := by
  rw [JV_eq] at h
  obtain ⟨_, _, _, A, c, rfl, hl⟩ := h
  by_cases hp : 0 < l.length
  · obtain ⟨g, o, rfl, hX, hg, hC⟩ := hl hp
    obtain ⟨zs, h1, h2, h3⟩ := hC.elems
    have hlen : zs.length = l.length := by rw [← h1, List.length_map]
    exact ⟨_, c, zs, by rw [hlen], h1, h2, fun _ => ⟨g, o, rfl, hX, hg, h3⟩⟩
  · have : l = [] := List.eq_nil_of_length_eq_zero (by omega)
    subst this
    exact ⟨A, c, [], rfl, rfl, (fun _ h => by cases h), (fun h => by simp at h)⟩
theorem JV.names {w : World} {X : Nat → Prop} {j : Jsn} {vn vl : Value} (h : JV w X j vn vl) : StrL w X vn j.names := by
  obtain ⟨k, s, n, l⟩ := j; rw [JV_eq] at h; exact h.2.2.1
theorem JV.kind {w : World} {X : Nat → Prop} {j : Jsn} {vn vl : Value} (h : JV w X j vn vl) : 0 ≤ j.kind ∧ j.kind ≤ 255 := by
  obtain ⟨k, s, n, l⟩ := j; rw [JV_eq] at h; exact ⟨h.1, h.2.1⟩
theorem JV.forms {w : World} {X : Nat → Prop} {j : Jsn} {vn vl : Value} (h : JV w X j vn vl) : ∃ A n c A' n' c', vn = .slice A n c ∧ vl = .slice A' n' c' := by
  obtain ⟨k, s, n, l⟩ := j; rw [JV_eq] at h
  obtain ⟨_, _, ⟨A, c, h1, _⟩, A', c', h2, _⟩ := h
  exact ⟨A, _, c, A', _, c', h1, h2⟩
theorem JV.of_elems {w : World} {X : Nat → Prop} {k : Int} {s : ByteArray} {ns : List ByteArray} {vn : Value} {A : Option Addr} {c : Nat} {zs : List JE} {l : List Jsn} (hk0 : 0 ≤ k) (hk1 : k ≤ 255) (hn : StrL w X vn ns) (hz : zs.map (·.1) = l) (h2 : ∀ z ∈ zs, JV w X z.1 z.2.1 z.2.2)
    (h3 : 0 < zs.length → ∃ g o, A = some ⟨g, o, none⟩ ∧ X g ∧ g < w.heap.size ∧ ∀ j z, zs[j]? = some z → ∀ (i : Nat) (u : Value), (encJ z)[i]? = some u → w.cell? ⟨g, o + j * 4 + i, none⟩ = some u) :
    JV w X (.mk k s ns l) vn (.slice A zs.length c) := by
  subst hz
  rw [JV_eq]
  refine ⟨hk0, hk1, hn, A, c, by rw [List.length_map], fun hp => ?_⟩
  obtain ⟨g, o, q1, q2, q3, q4⟩ := h3 (by simpa using hp)
  exact ⟨g, o, q1, q2, q3, JC.of_elems zs o h2 q4⟩

section
variable {w w' : World} {X Y : Nat → Prop}
theorem StrL.keep {v : Value} {L : List ByteArray} (h : StrL w X v L) (hs : w.heap.size ≤ w'.heap.size) (hk : ∀ p : Addr, X p.block → p.block < w.heap.size → w'.cell? p = w.cell? p) (hXY : ∀ b, X b → b < w.heap.size → Y b) : StrL w' Y v L := by
  obtain ⟨A, c, rfl, h1⟩ := h
  refine ⟨A, c, rfl, fun hp => ?_⟩
  obtain ⟨g, o, rfl, q1, q2, q3⟩ := h1 hp
  exact ⟨g, o, rfl, hXY _ q1 q2, Nat.lt_of_lt_of_le q2 hs, fun j x hx => (hk _ q1 q2).trans (q3 j x hx)⟩
theorem JV.keep (hs : w.heap.size ≤ w'.heap.size) (hk : ∀ p : Addr, X p.block → p.block < w.heap.size → w'.cell? p = w.cell? p) (hXY : ∀ b, X b → b < w.heap.size → Y b) : ∀ (j : Jsn) {vn vl : Value}, JV w X j vn vl → JV w' Y j vn vl := by
  refine Jsn.ind ?_
  intro k s n l ih vn vl h
  have hn := h.names
  have hkd := h.kind
  obtain ⟨A, c, zs, rfl, hz, h2, h3⟩ := h.elems
  refine JV.of_elems hkd.1 hkd.2 (hn.keep hs hk hXY) hz (fun z hz' => ih z.1 (by rw [← hz]; exact List.mem_map_of_mem hz') (h2 z hz')) fun hp => ?_
  obtain ⟨g, o, rfl, q1, q2, q3⟩ := h3 hp
  exact ⟨g, o, rfl, hXY _ q1 q2, Nat.lt_of_lt_of_le q2 hs, fun j z hz' i u hu => (hk _ q1 q2).trans (q3 j z hz' i u hu)⟩
theorem JV.below {B : Nat} {j : Jsn} {vn vl : Value} (h : JV w X j vn vl) (hb : Below B w w') (hX : ∀ b, X b → b < w.heap.size → b < B) : JV w' X j vn vl :=
  JV.keep hb.size (fun _p h1 h2 => hb.cell (hX _ h1 h2)) (fun _ h _ => h) j h
theorem JV.more {j : Jsn} {vn vl : Value} (h : JV w X j vn vl) (hXY : ∀ b, X b → b < w.heap.size → Y b) : JV w Y j vn vl := JV.keep (Nat.le_refl _) (fun _ _ _ => rfl) hXY j h
theorem JV.later {j : Jsn} {vn vl : Value} (h : JV w X j vn vl) (hb : Below w.heap.size w w') : JV w' X j vn vl := h.below hb (fun _ _ h => h)
theorem JV.alloc {j : Jsn} {vn vl : Value} (h : JV w X j vn vl) (o : Obj) : JV (w.alloc o) X j vn vl := JV.keep (by simp) (fun p _ hp => World.cell?_alloc_lt w o p hp) (fun _ h _ => h) j h
theorem JV.drew {j : Jsn} {vn vl : Value} (h : JV w X j vn vl) : JV w.drew X j vn vl := JV.keep (w := w) (w' := w.drew) (Nat.le_refl _) (fun _ _ _ => rfl) (fun _ h _ => h) j h
theorem JV.drewN {j : Jsn} {vn vl : Value} (h : JV w X j vn vl) (n : Nat) : JV (w.drewN n) X j vn vl := JV.keep (w := w) (w' := w.drewN n) (Nat.le_refl _) (fun _ _ _ => rfl) (fun _ h _ => h) j h
theorem StrL.later {v : Value} {L : List ByteArray} (h : StrL w X v L) (hb : Below w.heap.size w w') : StrL w' X v L := h.keep hb.size (fun _p _ hp => hb.cell hp) (fun _ h _ => h)
end
end Go.Proofs.YtghaoielnphhlaaGreatDoor


/-
  The walks of the document's Count and Deep.
-/
namespace Go.Proofs.YtghaoielnphhlaaGreatDoor
open Go.RowKit

theorem four_cells {w : World} {g o i : Nat} {z : JE} (h : ∀ (q : Nat) (u : Value), (encJ z)[q]? = some u → w.cell? ⟨g, o + i * 4 + q, none⟩ = some u) :
    w.cell? ⟨g, o + i * 4, none⟩ = some (.int .u8 z.1.kind) ∧ w.cell? ⟨g, o + i * 4 + 1, none⟩ = some (.string z.1.text) ∧ w.cell? ⟨g, o + i * 4 + 2, none⟩ = some z.2.1 ∧ w.cell? ⟨g, o + i * 4 + 3, none⟩ = some z.2.2 :=
  ⟨h 0 _ rfl, h 1 _ rfl, h 2 _ rfl, h 3 _ rfl⟩
/-- The value at a place of the list, and its four cells, in a world that has grown. -/
theorem JV.at {w wr : World} {X : Nat → Prop} {zs : List JE} {A : Option Addr} (h2 : ∀ z ∈ zs, JV w X z.1 z.2.1 z.2.2)
    (h3 : 0 < zs.length → ∃ g o, A = some ⟨g, o, none⟩ ∧ X g ∧ g < w.heap.size ∧ ∀ j z, zs[j]? = some z → ∀ (i : Nat) (u : Value), (encJ z)[i]? = some u → w.cell? ⟨g, o + j * 4 + i, none⟩ = some u)
    (hB : Below w.heap.size w wr) {i : Nat} (hi : i < zs.length) :
    ∃ g o z, zs[i]? = some z ∧ z ∈ zs ∧ A = some ⟨g, o, none⟩ ∧ JV wr X z.1 z.2.1 z.2.2 ∧ wr.cell? ⟨g, o + i * 4, none⟩ = some (.int .u8 z.1.kind) ∧ wr.cell? ⟨g, o + i * 4 + 1, none⟩ = some (.string z.1.text) ∧ wr.cell? ⟨g, o + i * 4 + 2, none⟩ = some z.2.1 ∧ wr.cell? ⟨g, o + i * 4 + 3, none⟩ = some z.2.2 := by
  obtain ⟨g, o, q1, _, q3, q4⟩ := h3 (by omega)
  have hz : zs[i]? = some zs[i] := List.getElem?_eq_getElem hi
  have hm : zs[i] ∈ zs := List.getElem_mem hi
  obtain ⟨c0, c1, c2, c3⟩ := four_cells (q4 i _ hz)
  exact ⟨g, o, zs[i], hz, hm, q1, (h2 _ hm).later hB, (hB.cell (p := ⟨g, o + i * 4, none⟩) q3).trans c0, (hB.cell (p := ⟨g, o + i * 4 + 1, none⟩) q3).trans c1, (hB.cell (p := ⟨g, o + i * 4 + 2, none⟩) q3).trans c2, (hB.cell (p := ⟨g, o + i * 4 + 3, none⟩) q3).trans c3⟩
end Go.Proofs.YtghaoielnphhlaaGreatDoor


/-
  The walks of slices.ContainsFunc over JSON values, json.count and json.deep.
-/
namespace Go.Proofs.YtghaoielnphhlaaGreatDoor
open Go.RowKit

/-- A function value that answers p of each of these values, wherever they are read. -/
def PredJ (g : Nat) (lb : Array Value) (p : Jsn → Bool) (w : World) (X : Nat → Prop) (l : List Jsn) : Prop :=
  ∀ (W : World) (x : Jsn) (vn vl : Value), x ∈ l → Below w.heap.size w W → JV W X x vn vl → Calls Tryz.prog g (#[.agg #[.int .u8 x.kind, .string x.text, vn, vl]] ++ lb) W fun e w' => e = .returned (.bool (p x)) ∧ Below W.heap.size W w'
def IdxEnd (b : Bool) (w : World) (e : Ending) (w' : World) : Prop := ∃ i : Int, e = .returned (.int .i64 i) ∧ decide (0 ≤ i) = b ∧ Below w.heap.size w w'
def CountEnd (n : Nat) (w : World) (e : Ending) (w' : World) : Prop := ∃ m : Nat, e = .returned (.int .i64 m) ∧ (65536 < m ∨ m = n) ∧ 1 ≤ m ∧ m ≤ n ∧ Below w.heap.size w w'
def DeepSays (x : Jsn) : Prop := ∀ (X : Nat → Prop) (w : World) (vn vl : Value) (m : Nat), JV w X x vn vl → m ≤ 1000 → jbulk x ≤ 1000000000000000 →
    Calls Tryz.prog 64 #[.agg #[.int .u8 x.kind, .string x.text, vn, vl], .int .i64 m] w fun e w' => e = .returned (.bool (decide (65 < m + jdeep x))) ∧ Below w.heap.size w w'
end Go.Proofs.YtghaoielnphhlaaGreatDoor
