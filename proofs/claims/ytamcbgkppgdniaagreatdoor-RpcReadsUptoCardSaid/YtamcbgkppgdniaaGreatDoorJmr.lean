/-
  Words for memory, of no program: a block that is known whole; what of it stays behind draws, new blocks, stores and calls.
-/
import Derived.Below
import Derived.Lib.Hide
import Derived.Laws.OwnMore
import Derived.Deep.Draws
import Derived.Laws.Rows
import Derived.WalkKit
namespace Go.Proofs.YtamcbgkppgdniaaGreatDoor
open Go.RowKit

/-- Block b is just these cells of type t, none of them frozen. -/
def Cel (w : World) (b : Nat) (t : TypeId) (cs : Array Value) : Prop := w.heap[b]? = some (.cells cs t (0, 0))

section
variable {w w' : World} {b : Nat} {t : TypeId} {cs : Array Value}

theorem Cel.lt (h : Cel w b t cs) : b < w.heap.size := by
  rcases Nat.lt_or_ge b w.heap.size with h1 | h1
  · exact h1
  · unfold Cel at h
    rw [Array.getElem?_eq_none h1] at h
    cases h
theorem Cel.cell (h : Cel w b t cs) (i : Nat) : w.cell? ⟨b, i, none⟩ = cs[i]? := by
  unfold Cel at h
  simp [World.cell?, h]
theorem Cel.froz (h : Cel w b t cs) (i : Nat) : w.frozen? ⟨b, i, none⟩ = false := by
  unfold Cel at h
  simp [World.frozen?, h]
theorem Cel.fresh (w : World) (t : TypeId) (cs : Array Value) : Cel (w.alloc (.cells cs t)) w.heap.size t cs := by
  unfold Cel
  show (w.heap.push _)[w.heap.size]? = _
  simp
theorem Cel.drew (h : Cel w b t cs) : Cel w.drew b t cs := h
theorem Cel.drewN (h : Cel w b t cs) (n : Nat) : Cel (w.drewN n) b t cs := h
theorem Cel.alloc (h : Cel w b t cs) (o : Obj) : Cel (w.alloc o) b t cs := (Below.heap_alloc w o b h.lt).trans h
theorem Cel.set (h : Cel w b t cs) (i : Nat) (u : Value) : Cel (w.setCell ⟨b, i, none⟩ u) b t (cs.setIfInBounds i u) := by
  unfold Cel at h ⊢
  simp [World.setCell, Array.getElem?_modify, h]
theorem Cel.away (h : Cel w b t cs) {p : Addr} (hp : b ≠ p.block) (u : Value) : Cel (w.setCell p u) b t cs := (Below.heap_setCell w p u b hp).trans h
theorem Cel.below {B : Nat} (h : Cel w b t cs) (hb : Below B w w') (hg : b < B) : Cel w' b t cs := (hb.block b hg).trans h
end

/-- The facts that a walk asks of a block of three cells. -/
theorem Cel.three {w : World} {b : Nat} {t : TypeId} {x y z : Value} (h : Cel w b t #[x, y, z]) :
    w.cell? ⟨b, 0, none⟩ = some x ∧ w.cell? ⟨b, 1, none⟩ = some y ∧ w.cell? ⟨b, 2, none⟩ = some z ∧
    w.frozen? ⟨b, 0, none⟩ = false ∧ w.frozen? ⟨b, 1, none⟩ = false ∧ w.frozen? ⟨b, 2, none⟩ = false :=
  ⟨h.cell 0, h.cell 1, h.cell 2, h.froz 0, h.froz 1, h.froz 2⟩
/-- A block of three cells that has been written over, cell by cell. -/
theorem Cel.over3 {w : World} {b : Nat} {t : TypeId} {x y z x' y' z' : Value} (h : Cel w b t #[x, y, z]) :
    Cel (((w.setCell ⟨b, 0, none⟩ x').setCell ⟨b, 1, none⟩ y').setCell ⟨b, 2, none⟩ z') b t #[x', y', z'] := ((h.set 0 x').set 1 y').set 2 z'
theorem bel_drewN {B : Nat} {a w : World} (h : Below B a w) (n : Nat) : Below B a (w.drewN n) := ⟨h.os, h.tape, h.output, h.size, h.block⟩

/-- A frame read back as a function of its slots: what a cut's relation asks. -/
theorem meetF {a : Act} {F : (Nat → Value) → Array Value} {X : Prop} (h1 : a = ⟨F (fun k => a.tmps.getD k undef), []⟩) (h2 : X) : ∃ u, a = ⟨F u, []⟩ ∧ X := ⟨_, h1, h2⟩
end Go.Proofs.YtamcbgkppgdniaaGreatDoor


/-
  Words for memory: from one world to another nothing of what lay below B was turned but one block. No program.
-/
namespace Go.Proofs.YtamcbgkppgdniaaGreatDoor
open Go.RowKit

/-- From w to w' nothing below B was turned but block b. -/
structure But (B b : Nat) (w w' : World) : Prop where
  os : w'.os = w.os
  tape : w'.tape = w.tape
  output : w'.output = w.output
  size : w.heap.size ≤ w'.heap.size
  block : ∀ k, k < B → k ≠ b → w'.heap[k]? = w.heap[k]?
section
variable {B b : Nat} {w w' w1 w2 : World}
theorem But.refl (B b : Nat) (w : World) : But B b w w := ⟨rfl, rfl, rfl, Nat.le_refl _, fun _ _ _ => rfl⟩
theorem But.trans (h : But B b w w1) (k : But B b w1 w2) : But B b w w2 :=
  ⟨k.os.trans h.os, k.tape.trans h.tape, k.output.trans h.output, Nat.le_trans h.size k.size, fun i hi hb => (k.block i hi hb).trans (h.block i hi hb)⟩
theorem But.mono {B' : Nat} (h : But B b w w') (hB : B' ≤ B) : But B' b w w' := ⟨h.os, h.tape, h.output, h.size, fun k hk => h.block k (Nat.lt_of_lt_of_le hk hB)⟩
theorem But.of (h : Below B w w') : But B b w w' := ⟨h.os, h.tape, h.output, h.size, fun k hk _ => h.block k hk⟩
theorem But.below (h : But B b w w') {C : Nat} (hb : C ≤ b) (hC : C ≤ B) : Below C w w' := ⟨h.os, h.tape, h.output, h.size, fun k hk => h.block k (by omega) (by omega)⟩
theorem But.set (h : But B b w w') (i : Nat) (u : Value) : But B b w (w'.setCell ⟨b, i, none⟩ u) :=
  ⟨h.os, h.tape, h.output, by simpa using h.size, fun k hk hb => (Below.heap_setCell w' _ u k hb).trans (h.block k hk hb)⟩
theorem But.setCell (h : But B b w w') {p : Addr} (hp : B ≤ p.block) (u : Value) : But B b w (w'.setCell p u) :=
  ⟨h.os, h.tape, h.output, by simpa using h.size, fun k hk hb => (Below.heap_setCell w' _ u k (by omega)).trans (h.block k hk hb)⟩
theorem But.alloc (h : But B b w w') (hB : B ≤ w'.heap.size) (o : Obj) : But B b w (w'.alloc o) := h.trans (But.of ((Below.refl _ _).alloc hB _))
theorem But.drew (h : But B b w w') : But B b w w'.drew := ⟨h.os, h.tape, h.output, h.size, h.block⟩
theorem But.drewN (h : But B b w w') (n : Nat) : But B b w (w'.drewN n) := ⟨h.os, h.tape, h.output, h.size, h.block⟩
theorem But.grown {row : Option Nat} (h : But B b w w') (hg : w'.grownBy w1 row) (hB : B ≤ w'.heap.size) (hr : ∀ k, row = some k → B ≤ k) : But B b w w1 := h.trans (But.of (Below.grown (Below.refl _ _) hg hB hr))
theorem But.cell (h : But B b w w') {p : Addr} (hp : p.block < B) (hb : p.block ≠ b) : w'.cell? p = w.cell? p := World.cell?_of_block (w := w) (h.block p.block hp hb)
theorem But.frozen (h : But B b w w') {p : Addr} (hp : p.block < B) (hb : p.block ≠ b) : w'.frozen? p = w.frozen? p := World.frozen?_of_block (w := w) (h.block p.block hp hb)
theorem Cel.but {c : Nat} {t : TypeId} {cs : Array Value} (hc : Cel w c t cs) (h : But B b w w') (hB : c < B) (hb : c ≠ b) : Cel w' c t cs := (h.block c hB hb).trans hc
end
end Go.Proofs.YtamcbgkppgdniaaGreatDoor


/-
  Plain facts on lists and bytes: how long the run of bytes at the head of a list is that meet a test. No program.
-/
namespace Go.Proofs.YtamcbgkppgdniaaGreatDoor

/-- How many elements at the head meet p. -/
def twl {α : Type} (p : α → Bool) (l : List α) : Nat := (l.takeWhile p).length

theorem twl_le {α : Type} (p : α → Bool) (l : List α) : twl p l ≤ l.length := by
  induction l with
  | nil => simp [twl]
  | cons a l ih =>
    unfold twl at *
    by_cases h : p a = true
    · simp [h]; omega
    · simp [h]

theorem twl_step {α : Type} (p : α → Bool) : ∀ (l : List α) (k : Nat) (c : α), k ≤ twl p l → l[k]? = some c → p c = true → k + 1 ≤ twl p l
  | [], k, c, _, h, _ => by simp at h
  | a :: l, 0, c, _, h, hp => by
    simp at h; subst h
    simp [twl, hp]
  | a :: l, k + 1, c, hk, h, hp => by
    simp at h
    by_cases ha : p a = true
    · have h1 : twl p (a :: l) = twl p l + 1 := by simp [twl, List.takeWhile_cons, ha]
      rw [h1] at hk ⊢
      have := twl_step p l k c (by omega) h hp
      omega
    · have h1 : twl p (a :: l) = 0 := by simp [twl, List.takeWhile_cons, ha]
      omega

theorem twl_stop {α : Type} (p : α → Bool) : ∀ (l : List α) (k : Nat) (c : α), k ≤ twl p l → l[k]? = some c → p c = false → twl p l = k
  | [], k, c, _, h, _ => by simp at h
  | a :: l, 0, c, _, h, hp => by
    simp at h; subst h
    simp [twl, List.takeWhile_cons, hp]
  | a :: l, k + 1, c, hk, h, hp => by
    simp at h
    by_cases ha : p a = true
    · have h1 : twl p (a :: l) = twl p l + 1 := by simp [twl, List.takeWhile_cons, ha]
      rw [h1] at hk ⊢
      have := twl_stop p l k c (by omega) h hp
      omega
    · have h1 : twl p (a :: l) = 0 := by simp [twl, List.takeWhile_cons, ha]
      omega

theorem twl_end {α : Type} (p : α → Bool) (l : List α) (k : Nat) (hk : k ≤ twl p l) (h : l.length ≤ k) : twl p l = k := by
  have := twl_le p l
  omega

/-- The byte at a place of a string, and of its list. -/
theorem bytes_at (s : ByteArray) (i : Nat) (h : i < s.size) : s.data.toList[i]? = some s[i] := by
  have h' : i < s.data.size := h
  rw [Array.getElem?_toList, Array.getElem?_eq_getElem h']
  rfl

theorem bytes_len (s : ByteArray) : s.data.toList.length = s.size := by rw [Array.length_toList]; rfl

def isDig (c : UInt8) : Bool := decide (48 ≤ c.toNat) && decide (c.toNat ≤ 57)
theorem isDig_t {c : UInt8} (h : isDig c = true) : 48 ≤ c.toNat ∧ c.toNat ≤ 57 := by simpa [isDig] using h
theorem isDig_f {c : UInt8} (h : isDig c = false) : ¬ (48 ≤ c.toNat ∧ c.toNat ≤ 57) := by
  intro hh; rw [isDig] at h; simp [hh] at h

/-- How many digits stand at a place. -/
def runN (l : List UInt8) (i : Nat) : Nat := twl isDig (l.drop i)

theorem runN_le (l : List UInt8) (i : Nat) (h : i ≤ l.length) : i + runN l i ≤ l.length := by
  have := twl_le isDig (l.drop i)
  simp at this
  unfold runN; omega
theorem runN_step (l : List UInt8) (i k : Nat) (c : UInt8) (hk : k ≤ runN l i) (h : l[i + k]? = some c) (hp : isDig c = true) : k + 1 ≤ runN l i :=
  twl_step isDig _ k c hk (by simpa using h) hp
theorem runN_stop (l : List UInt8) (i k : Nat) (c : UInt8) (hk : k ≤ runN l i) (h : l[i + k]? = some c) (hp : isDig c = false) : runN l i = k :=
  twl_stop isDig _ k c hk (by simpa using h) hp
theorem runN_end (l : List UInt8) (i k : Nat) (hk : k ≤ runN l i) (h : l.length ≤ i + k) : runN l i = k :=
  twl_end isDig _ k hk (by simp; omega)
theorem runN_dig (l : List UInt8) (i : Nat) : ∀ j, j < runN l i → ∃ c, l[i + j]? = some c ∧ isDig c = true := by
  intro j hj
  unfold runN twl at hj
  have h1 : ((l.drop i).takeWhile isDig)[j]? = some ((l.drop i).takeWhile isDig)[j] := List.getElem?_eq_getElem hj
  refine ⟨((l.drop i).takeWhile isDig)[j], ?_, ?_⟩
  · have h2 : (l.drop i)[j]? = ((l.drop i).takeWhile isDig ++ (l.drop i).dropWhile isDig)[j]? := by rw [List.takeWhile_append_dropWhile]
    rw [← List.getElem?_drop, h2, List.getElem?_append_left hj, h1]
  · have hm : ((l.drop i).takeWhile isDig)[j] ∈ (l.drop i).takeWhile isDig := List.getElem_mem hj
    have := List.all_takeWhile (p := isDig) (l := l.drop i)
    rw [List.all_eq_true] at this
    exact this _ hm
end Go.Proofs.YtamcbgkppgdniaaGreatDoor
