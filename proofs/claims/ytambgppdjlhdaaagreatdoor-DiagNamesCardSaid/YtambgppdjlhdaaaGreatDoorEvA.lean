/-
  An abstract machine for closed runs: values without block numbers of their own, memory as a tree of blocks; how they stand to the model's. No program.
-/
import Derived.Test.YtambgppdjlhdaaaGreatDoorU
import Derived.Deep.MidRow
import Derived.Deep.AppendSrc
import Derived.LoopN
import Derived.Orders
import Derived.Lib.ItoaNum
import Derived.Test.YtambgppdjlhdaaaGreatDoorDecS
namespace Go.Proofs.YtambgppdjlhdaaaGreatDoor
open Go.RowKit

/-- A tree of numbered things. -/
inductive Tr (α : Type) where
  | leaf
  | node (l : Tr α) (v : α) (r : Tr α)
noncomputable def Tr.get {α : Type} (d : α) (t : Tr α) : Nat → α :=
  Tr.rec (motive := fun _ => Nat → α) (fun _ => d) (fun _ v _ gl gr k => Bool.rec (motive := fun _ => α) (Bool.rec (motive := fun _ => α) (gr (Nat.sub (Nat.div k 2) 1)) (gl (Nat.div k 2)) (Nat.beq (Nat.mod k 2) 1)) v (Nat.beq k 0)) t
def Tr.one {α : Type} (d : α) (x : α) : Nat → Nat → Tr α
  | 0, _ => .leaf
  | f+1, k => cond (Nat.beq k 0) (Tr.node .leaf x .leaf) (cond (Nat.beq (Nat.mod k 2) 1) (Tr.node (Tr.one d x f (Nat.div k 2)) d .leaf) (Tr.node .leaf d (Tr.one d x f (Nat.sub (Nat.div k 2) 1))))
noncomputable def Tr.set {α : Type} (d : α) (x : α) (f k : Nat) (t : Tr α) : Tr α :=
  Tr.rec (motive := fun _ => Nat → Tr α) (fun k => Tr.one d x f k) (fun l v r sl sr k => Bool.rec (motive := fun _ => Tr α) (Bool.rec (motive := fun _ => Tr α) (Tr.node l v (sr (Nat.sub (Nat.div k 2) 1))) (Tr.node (sl (Nat.div k 2)) v r) (Nat.beq (Nat.mod k 2) 1)) (Tr.node l x r) (Nat.beq k 0)) t k
theorem Tr.get_leaf {α : Type} (d : α) (k : Nat) : (Tr.leaf).get d k = d := rfl
theorem Tr.get_node {α : Type} (d : α) (l r : Tr α) (v : α) (k : Nat) : (Tr.node l v r).get d k = if k = 0 then v else if k % 2 = 1 then l.get d (k / 2) else r.get d (k / 2 - 1) := by
  show Bool.rec (motive := fun _ => α) (Bool.rec (motive := fun _ => α) (r.get d (k / 2 - 1)) (l.get d (k / 2)) (Nat.beq (k % 2) 1)) v (Nat.beq k 0) = _
  by_cases h : k = 0
  · subst h; rfl
  · have e : Nat.beq k 0 = false := by rw [Bool.eq_false_iff]; exact fun h' => h (Nat.eq_of_beq_eq_true h')
    rw [if_neg h, e]
    by_cases h2 : k % 2 = 1
    · rw [if_pos h2, h2]; rfl
    · have e2 : Nat.beq (k % 2) 1 = false := by rw [Bool.eq_false_iff]; exact fun h' => h2 (Nat.eq_of_beq_eq_true h')
      rw [if_neg h2, e2]
theorem Tr.set_node {α : Type} (d x : α) (f k : Nat) (l r : Tr α) (v : α) : Tr.set d x f k (.node l v r) = if k = 0 then Tr.node l x r else if k % 2 = 1 then Tr.node (Tr.set d x f (k / 2) l) v r else Tr.node l v (Tr.set d x f (k / 2 - 1) r) := by
  show Bool.rec (motive := fun _ => Tr α) (Bool.rec (motive := fun _ => Tr α) (Tr.node l v (Tr.set d x f (k / 2 - 1) r)) (Tr.node (Tr.set d x f (k / 2) l) v r) (Nat.beq (k % 2) 1)) (Tr.node l x r) (Nat.beq k 0) = _
  by_cases h : k = 0
  · subst h; rfl
  · have e : Nat.beq k 0 = false := by rw [Bool.eq_false_iff]; exact fun h' => h (Nat.eq_of_beq_eq_true h')
    rw [if_neg h, e]
    by_cases h2 : k % 2 = 1
    · rw [if_pos h2, h2]; rfl
    · have e2 : Nat.beq (k % 2) 1 = false := by rw [Bool.eq_false_iff]; exact fun h' => h2 (Nat.eq_of_beq_eq_true h')
      rw [if_neg h2, e2]
theorem Tr.one_succ {α : Type} (d x : α) (f k : Nat) : Tr.one d x (f+1) k = if k = 0 then Tr.node .leaf x .leaf else if k % 2 = 1 then Tr.node (Tr.one d x f (k / 2)) d .leaf else Tr.node .leaf d (Tr.one d x f (k / 2 - 1)) := by
  show cond (Nat.beq k 0) (Tr.node .leaf x .leaf) (cond (Nat.beq (k % 2) 1) (Tr.node (Tr.one d x f (k / 2)) d .leaf) (Tr.node .leaf d (Tr.one d x f (k / 2 - 1)))) = _
  by_cases h : k = 0
  · subst h; rfl
  · have e : Nat.beq k 0 = false := by rw [Bool.eq_false_iff]; exact fun h' => h (Nat.eq_of_beq_eq_true h')
    rw [if_neg h, e]
    by_cases h2 : k % 2 = 1
    · rw [if_pos h2, h2]; rfl
    · have e2 : Nat.beq (k % 2) 1 = false := by rw [Bool.eq_false_iff]; exact fun h' => h2 (Nat.eq_of_beq_eq_true h')
      rw [if_neg h2, e2]; rfl
theorem Tr.get_one_ne {α : Type} (d x : α) : ∀ (f k j : Nat), j ≠ k → (Tr.one d x f k).get d j = d
  | 0, _, _, _ => rfl
  | f+1, k, j, h => by
    rw [Tr.one_succ]
    split
    · rw [Tr.get_node]; split
      · omega
      · split <;> rfl
    · split
      · rw [Tr.get_node]; split
        · rfl
        · split
          · exact Tr.get_one_ne d x f _ _ (by omega)
          · rfl
      · rw [Tr.get_node]; split
        · rfl
        · split
          · rfl
          · exact Tr.get_one_ne d x f _ _ (by omega)
theorem Tr.get_one {α : Type} (d x : α) : ∀ (f k : Nat), k + 1 < 2 ^ f → (Tr.one d x f k).get d k = x
  | 0, k, h => by simp at h
  | f+1, k, h => by
    rw [Tr.one_succ]
    have h2 : 2 ^ (f + 1) = 2 * 2 ^ f := by rw [Nat.pow_succ]; omega
    split <;> (try split) <;> rw [Tr.get_node] <;> simp_all <;> exact Tr.get_one d x f _ (by omega)
theorem Tr.get_set_ne {α : Type} (d x : α) (f k j : Nat) (t : Tr α) (h : j ≠ k) : (Tr.set d x f k t).get d j = t.get d j := by
  induction t generalizing k j with
  | leaf => exact Tr.get_one_ne d x f k j h
  | node l v r ihl ihr =>
    rw [Tr.set_node]
    split
    · rw [Tr.get_node, Tr.get_node]; split
      · omega
      · rfl
    · split
      · rw [Tr.get_node, Tr.get_node]; split
        · rfl
        · split
          · rw [ihl _ _ (by omega)]
          · rfl
      · rw [Tr.get_node, Tr.get_node]; split
        · rfl
        · split
          · rfl
          · rw [ihr _ _ (by omega)]
theorem Tr.get_set {α : Type} (d x : α) (f k : Nat) (t : Tr α) (h : k + 1 < 2 ^ f) : (Tr.set d x f k t).get d k = x := by
  induction t generalizing k with
  | leaf => exact Tr.get_one d x f k h
  | node l v r ihl ihr =>
    rw [Tr.set_node]
    split <;> (try split) <;> rw [Tr.get_node] <;> simp_all
    · exact ihl _ (by omega)
    · exact ihr _ (by omega)

/-- Values. -/
inductive AV where
  | top
  | undef
  | int (k : IntKind) (n : Int)
  | bool (b : Bool)
  | str (s : List UInt8)
  | nilp
  | ptr (b o : Nat)
  | nils
  | sl (b o len cap : Nat)
  | slu (b o len esz : Nat)
  | nilm
  | mapp (b : Nat)
  | nilfn
  | fn (f : Nat) (cs : List AV)
  | fnm (f : Nat) (cs : List AV)
  | nili
  | ifc (t : Nat) (v : AV)
  | agg (cs : List AV)
  | tup (vs : List AV)
  | pan (v : Value)
  | symI (b : Nat) (k : IntKind) (lo hi : Int)
  | symS (b : Nat)
  | symT (b : Nat) (lo hi : Int)
  | symZ (n : Nat)
  | sle
/-- Blocks. -/
inductive AB where
  | none
  | cells (cs : List AV) (ty : Nat)
  | froz (cs : List AV) (ty : Nat)
  | mapb (es : List (AV × AV × Nat)) (clock : Nat)
  | iter (m clock : Nat) (cur : Option Nat)
  | zero (n ty : Nat)
/-- Signs of a way. -/
inductive Hx where
  | x0 | x1 | x2 | x3 | x4 | x5 | x6 | x7 | x8 | x9 | x10 | x11 | x12 | x13 | x14 | x15
noncomputable def Hx.of (n : Nat) : Hx := Nat.rec (motive := fun _ => Hx) .x0 (fun n _ => Nat.rec (motive := fun _ => Hx) .x1 (fun n _ => Nat.rec (motive := fun _ => Hx) .x2 (fun n _ => Nat.rec (motive := fun _ => Hx) .x3 (fun n _ => Nat.rec (motive := fun _ => Hx) .x4 (fun n _ => Nat.rec (motive := fun _ => Hx) .x5 (fun n _ => Nat.rec (motive := fun _ => Hx) .x6 (fun n _ => Nat.rec (motive := fun _ => Hx) .x7 (fun n _ => Nat.rec (motive := fun _ => Hx) .x8 (fun n _ => Nat.rec (motive := fun _ => Hx) .x9 (fun n _ => Nat.rec (motive := fun _ => Hx) .x10 (fun n _ => Nat.rec (motive := fun _ => Hx) .x11 (fun n _ => Nat.rec (motive := fun _ => Hx) .x12 (fun n _ => Nat.rec (motive := fun _ => Hx) .x13 (fun n _ => Nat.rec (motive := fun _ => Hx) .x14 (fun n _ => .x15) n) n) n) n) n) n) n) n) n) n) n) n) n) n) n
def Hx.val : Hx → Nat
  | .x0 => 0
  | .x1 => 1
  | .x2 => 2
  | .x3 => 3
  | .x4 => 4
  | .x5 => 5
  | .x6 => 6
  | .x7 => 7
  | .x8 => 8
  | .x9 => 9
  | .x10 => 10
  | .x11 => 11
  | .x12 => 12
  | .x13 => 13
  | .x14 => 14
  | .x15 => 15
theorem Hx.of_val : ∀ n, n < 16 → (Hx.of n).val = n
  | 0, _ => rfl
  | 1, _ => rfl
  | 2, _ => rfl
  | 3, _ => rfl
  | 4, _ => rfl
  | 5, _ => rfl
  | 6, _ => rfl
  | 7, _ => rfl
  | 8, _ => rfl
  | 9, _ => rfl
  | 10, _ => rfl
  | 11, _ => rfl
  | 12, _ => rfl
  | 13, _ => rfl
  | 14, _ => rfl
  | 15, _ => rfl
  | n + 16, h => by omega
theorem Hx.of_inj {m n : Nat} (hm : m < 16) (hn : n < 16) (h : Hx.of m = Hx.of n) : m = n := by rw [← Hx.of_val m hm, ← Hx.of_val n hn, h]
inductive H1 where
  | e
  | mk (a0 a1 a2 a3 a4 a5 a6 a7 a8 a9 a10 a11 a12 a13 a14 a15 : AB)
noncomputable def H1.g0 (t : H1) : AB := H1.rec (motive := fun _ => AB) AB.none (fun a0 _ _ _ _ _ _ _ _ _ _ _ _ _ _ _ => a0) t
noncomputable def H1.s0 (v : AB) (t : H1) : H1 := H1.rec (motive := fun _ => H1) (.mk v AB.none AB.none AB.none AB.none AB.none AB.none AB.none AB.none AB.none AB.none AB.none AB.none AB.none AB.none AB.none) (fun _ a1 a2 a3 a4 a5 a6 a7 a8 a9 a10 a11 a12 a13 a14 a15 => .mk v a1 a2 a3 a4 a5 a6 a7 a8 a9 a10 a11 a12 a13 a14 a15) t
noncomputable def H1.g1 (t : H1) : AB := H1.rec (motive := fun _ => AB) AB.none (fun _ a1 _ _ _ _ _ _ _ _ _ _ _ _ _ _ => a1) t
noncomputable def H1.s1 (v : AB) (t : H1) : H1 := H1.rec (motive := fun _ => H1) (.mk AB.none v AB.none AB.none AB.none AB.none AB.none AB.none AB.none AB.none AB.none AB.none AB.none AB.none AB.none AB.none) (fun a0 _ a2 a3 a4 a5 a6 a7 a8 a9 a10 a11 a12 a13 a14 a15 => .mk a0 v a2 a3 a4 a5 a6 a7 a8 a9 a10 a11 a12 a13 a14 a15) t
noncomputable def H1.g2 (t : H1) : AB := H1.rec (motive := fun _ => AB) AB.none (fun _ _ a2 _ _ _ _ _ _ _ _ _ _ _ _ _ => a2) t
noncomputable def H1.s2 (v : AB) (t : H1) : H1 := H1.rec (motive := fun _ => H1) (.mk AB.none AB.none v AB.none AB.none AB.none AB.none AB.none AB.none AB.none AB.none AB.none AB.none AB.none AB.none AB.none) (fun a0 a1 _ a3 a4 a5 a6 a7 a8 a9 a10 a11 a12 a13 a14 a15 => .mk a0 a1 v a3 a4 a5 a6 a7 a8 a9 a10 a11 a12 a13 a14 a15) t
noncomputable def H1.g3 (t : H1) : AB := H1.rec (motive := fun _ => AB) AB.none (fun _ _ _ a3 _ _ _ _ _ _ _ _ _ _ _ _ => a3) t
noncomputable def H1.s3 (v : AB) (t : H1) : H1 := H1.rec (motive := fun _ => H1) (.mk AB.none AB.none AB.none v AB.none AB.none AB.none AB.none AB.none AB.none AB.none AB.none AB.none AB.none AB.none AB.none) (fun a0 a1 a2 _ a4 a5 a6 a7 a8 a9 a10 a11 a12 a13 a14 a15 => .mk a0 a1 a2 v a4 a5 a6 a7 a8 a9 a10 a11 a12 a13 a14 a15) t
noncomputable def H1.g4 (t : H1) : AB := H1.rec (motive := fun _ => AB) AB.none (fun _ _ _ _ a4 _ _ _ _ _ _ _ _ _ _ _ => a4) t
noncomputable def H1.s4 (v : AB) (t : H1) : H1 := H1.rec (motive := fun _ => H1) (.mk AB.none AB.none AB.none AB.none v AB.none AB.none AB.none AB.none AB.none AB.none AB.none AB.none AB.none AB.none AB.none) (fun a0 a1 a2 a3 _ a5 a6 a7 a8 a9 a10 a11 a12 a13 a14 a15 => .mk a0 a1 a2 a3 v a5 a6 a7 a8 a9 a10 a11 a12 a13 a14 a15) t
noncomputable def H1.g5 (t : H1) : AB := H1.rec (motive := fun _ => AB) AB.none (fun _ _ _ _ _ a5 _ _ _ _ _ _ _ _ _ _ => a5) t
noncomputable def H1.s5 (v : AB) (t : H1) : H1 := H1.rec (motive := fun _ => H1) (.mk AB.none AB.none AB.none AB.none AB.none v AB.none AB.none AB.none AB.none AB.none AB.none AB.none AB.none AB.none AB.none) (fun a0 a1 a2 a3 a4 _ a6 a7 a8 a9 a10 a11 a12 a13 a14 a15 => .mk a0 a1 a2 a3 a4 v a6 a7 a8 a9 a10 a11 a12 a13 a14 a15) t
noncomputable def H1.g6 (t : H1) : AB := H1.rec (motive := fun _ => AB) AB.none (fun _ _ _ _ _ _ a6 _ _ _ _ _ _ _ _ _ => a6) t
noncomputable def H1.s6 (v : AB) (t : H1) : H1 := H1.rec (motive := fun _ => H1) (.mk AB.none AB.none AB.none AB.none AB.none AB.none v AB.none AB.none AB.none AB.none AB.none AB.none AB.none AB.none AB.none) (fun a0 a1 a2 a3 a4 a5 _ a7 a8 a9 a10 a11 a12 a13 a14 a15 => .mk a0 a1 a2 a3 a4 a5 v a7 a8 a9 a10 a11 a12 a13 a14 a15) t
noncomputable def H1.g7 (t : H1) : AB := H1.rec (motive := fun _ => AB) AB.none (fun _ _ _ _ _ _ _ a7 _ _ _ _ _ _ _ _ => a7) t
noncomputable def H1.s7 (v : AB) (t : H1) : H1 := H1.rec (motive := fun _ => H1) (.mk AB.none AB.none AB.none AB.none AB.none AB.none AB.none v AB.none AB.none AB.none AB.none AB.none AB.none AB.none AB.none) (fun a0 a1 a2 a3 a4 a5 a6 _ a8 a9 a10 a11 a12 a13 a14 a15 => .mk a0 a1 a2 a3 a4 a5 a6 v a8 a9 a10 a11 a12 a13 a14 a15) t
noncomputable def H1.g8 (t : H1) : AB := H1.rec (motive := fun _ => AB) AB.none (fun _ _ _ _ _ _ _ _ a8 _ _ _ _ _ _ _ => a8) t
noncomputable def H1.s8 (v : AB) (t : H1) : H1 := H1.rec (motive := fun _ => H1) (.mk AB.none AB.none AB.none AB.none AB.none AB.none AB.none AB.none v AB.none AB.none AB.none AB.none AB.none AB.none AB.none) (fun a0 a1 a2 a3 a4 a5 a6 a7 _ a9 a10 a11 a12 a13 a14 a15 => .mk a0 a1 a2 a3 a4 a5 a6 a7 v a9 a10 a11 a12 a13 a14 a15) t
noncomputable def H1.g9 (t : H1) : AB := H1.rec (motive := fun _ => AB) AB.none (fun _ _ _ _ _ _ _ _ _ a9 _ _ _ _ _ _ => a9) t
noncomputable def H1.s9 (v : AB) (t : H1) : H1 := H1.rec (motive := fun _ => H1) (.mk AB.none AB.none AB.none AB.none AB.none AB.none AB.none AB.none AB.none v AB.none AB.none AB.none AB.none AB.none AB.none) (fun a0 a1 a2 a3 a4 a5 a6 a7 a8 _ a10 a11 a12 a13 a14 a15 => .mk a0 a1 a2 a3 a4 a5 a6 a7 a8 v a10 a11 a12 a13 a14 a15) t
noncomputable def H1.g10 (t : H1) : AB := H1.rec (motive := fun _ => AB) AB.none (fun _ _ _ _ _ _ _ _ _ _ a10 _ _ _ _ _ => a10) t
noncomputable def H1.s10 (v : AB) (t : H1) : H1 := H1.rec (motive := fun _ => H1) (.mk AB.none AB.none AB.none AB.none AB.none AB.none AB.none AB.none AB.none AB.none v AB.none AB.none AB.none AB.none AB.none) (fun a0 a1 a2 a3 a4 a5 a6 a7 a8 a9 _ a11 a12 a13 a14 a15 => .mk a0 a1 a2 a3 a4 a5 a6 a7 a8 a9 v a11 a12 a13 a14 a15) t
noncomputable def H1.g11 (t : H1) : AB := H1.rec (motive := fun _ => AB) AB.none (fun _ _ _ _ _ _ _ _ _ _ _ a11 _ _ _ _ => a11) t
noncomputable def H1.s11 (v : AB) (t : H1) : H1 := H1.rec (motive := fun _ => H1) (.mk AB.none AB.none AB.none AB.none AB.none AB.none AB.none AB.none AB.none AB.none AB.none v AB.none AB.none AB.none AB.none) (fun a0 a1 a2 a3 a4 a5 a6 a7 a8 a9 a10 _ a12 a13 a14 a15 => .mk a0 a1 a2 a3 a4 a5 a6 a7 a8 a9 a10 v a12 a13 a14 a15) t
noncomputable def H1.g12 (t : H1) : AB := H1.rec (motive := fun _ => AB) AB.none (fun _ _ _ _ _ _ _ _ _ _ _ _ a12 _ _ _ => a12) t
noncomputable def H1.s12 (v : AB) (t : H1) : H1 := H1.rec (motive := fun _ => H1) (.mk AB.none AB.none AB.none AB.none AB.none AB.none AB.none AB.none AB.none AB.none AB.none AB.none v AB.none AB.none AB.none) (fun a0 a1 a2 a3 a4 a5 a6 a7 a8 a9 a10 a11 _ a13 a14 a15 => .mk a0 a1 a2 a3 a4 a5 a6 a7 a8 a9 a10 a11 v a13 a14 a15) t
noncomputable def H1.g13 (t : H1) : AB := H1.rec (motive := fun _ => AB) AB.none (fun _ _ _ _ _ _ _ _ _ _ _ _ _ a13 _ _ => a13) t
noncomputable def H1.s13 (v : AB) (t : H1) : H1 := H1.rec (motive := fun _ => H1) (.mk AB.none AB.none AB.none AB.none AB.none AB.none AB.none AB.none AB.none AB.none AB.none AB.none AB.none v AB.none AB.none) (fun a0 a1 a2 a3 a4 a5 a6 a7 a8 a9 a10 a11 a12 _ a14 a15 => .mk a0 a1 a2 a3 a4 a5 a6 a7 a8 a9 a10 a11 a12 v a14 a15) t
noncomputable def H1.g14 (t : H1) : AB := H1.rec (motive := fun _ => AB) AB.none (fun _ _ _ _ _ _ _ _ _ _ _ _ _ _ a14 _ => a14) t
noncomputable def H1.s14 (v : AB) (t : H1) : H1 := H1.rec (motive := fun _ => H1) (.mk AB.none AB.none AB.none AB.none AB.none AB.none AB.none AB.none AB.none AB.none AB.none AB.none AB.none AB.none v AB.none) (fun a0 a1 a2 a3 a4 a5 a6 a7 a8 a9 a10 a11 a12 a13 _ a15 => .mk a0 a1 a2 a3 a4 a5 a6 a7 a8 a9 a10 a11 a12 a13 v a15) t
noncomputable def H1.g15 (t : H1) : AB := H1.rec (motive := fun _ => AB) AB.none (fun _ _ _ _ _ _ _ _ _ _ _ _ _ _ _ a15 => a15) t
noncomputable def H1.s15 (v : AB) (t : H1) : H1 := H1.rec (motive := fun _ => H1) (.mk AB.none AB.none AB.none AB.none AB.none AB.none AB.none AB.none AB.none AB.none AB.none AB.none AB.none AB.none AB.none v) (fun a0 a1 a2 a3 a4 a5 a6 a7 a8 a9 a10 a11 a12 a13 a14 _ => .mk a0 a1 a2 a3 a4 a5 a6 a7 a8 a9 a10 a11 a12 a13 a14 v) t
noncomputable def H1.get (i : Hx) : H1 → AB := Hx.rec (motive := fun _ => H1 → AB) H1.g0 H1.g1 H1.g2 H1.g3 H1.g4 H1.g5 H1.g6 H1.g7 H1.g8 H1.g9 H1.g10 H1.g11 H1.g12 H1.g13 H1.g14 H1.g15 i
noncomputable def H1.set (i : Hx) : AB → H1 → H1 := Hx.rec (motive := fun _ => AB → H1 → H1) H1.s0 H1.s1 H1.s2 H1.s3 H1.s4 H1.s5 H1.s6 H1.s7 H1.s8 H1.s9 H1.s10 H1.s11 H1.s12 H1.s13 H1.s14 H1.s15 i
theorem H1.get_e (i : Hx) : H1.e.get i = AB.none := by cases i <;> rfl
theorem H1.get_set (i : Hx) (v : AB) (t : H1) : (H1.set i v t).get i = v := by cases i <;> cases t <;> rfl
theorem H1.get_set_ne {i j : Hx} (h : j ≠ i) (v : AB) (t : H1) : (H1.set i v t).get j = t.get j := by cases i <;> cases j <;> first | exact absurd rfl h | (cases t <;> rfl)
theorem H1.set_comm {i j : Hx} (h : j ≠ i) (v u : AB) (t : H1) : H1.set i v (H1.set j u t) = H1.set j u (H1.set i v t) := by cases i <;> cases j <;> first | exact absurd rfl h | (cases t <;> rfl)
theorem H1.set_set (i : Hx) (v u : AB) (t : H1) : H1.set i v (H1.set i u t) = H1.set i v t := by cases i <;> cases t <;> rfl
inductive H2 where
  | e
  | mk (a0 a1 a2 a3 a4 a5 a6 a7 a8 a9 a10 a11 a12 a13 a14 a15 : H1)
noncomputable def H2.g0 (t : H2) : H1 := H2.rec (motive := fun _ => H1) H1.e (fun a0 _ _ _ _ _ _ _ _ _ _ _ _ _ _ _ => a0) t
noncomputable def H2.s0 (v : H1) (t : H2) : H2 := H2.rec (motive := fun _ => H2) (.mk v H1.e H1.e H1.e H1.e H1.e H1.e H1.e H1.e H1.e H1.e H1.e H1.e H1.e H1.e H1.e) (fun _ a1 a2 a3 a4 a5 a6 a7 a8 a9 a10 a11 a12 a13 a14 a15 => .mk v a1 a2 a3 a4 a5 a6 a7 a8 a9 a10 a11 a12 a13 a14 a15) t
noncomputable def H2.g1 (t : H2) : H1 := H2.rec (motive := fun _ => H1) H1.e (fun _ a1 _ _ _ _ _ _ _ _ _ _ _ _ _ _ => a1) t
noncomputable def H2.s1 (v : H1) (t : H2) : H2 := H2.rec (motive := fun _ => H2) (.mk H1.e v H1.e H1.e H1.e H1.e H1.e H1.e H1.e H1.e H1.e H1.e H1.e H1.e H1.e H1.e) (fun a0 _ a2 a3 a4 a5 a6 a7 a8 a9 a10 a11 a12 a13 a14 a15 => .mk a0 v a2 a3 a4 a5 a6 a7 a8 a9 a10 a11 a12 a13 a14 a15) t
noncomputable def H2.g2 (t : H2) : H1 := H2.rec (motive := fun _ => H1) H1.e (fun _ _ a2 _ _ _ _ _ _ _ _ _ _ _ _ _ => a2) t
noncomputable def H2.s2 (v : H1) (t : H2) : H2 := H2.rec (motive := fun _ => H2) (.mk H1.e H1.e v H1.e H1.e H1.e H1.e H1.e H1.e H1.e H1.e H1.e H1.e H1.e H1.e H1.e) (fun a0 a1 _ a3 a4 a5 a6 a7 a8 a9 a10 a11 a12 a13 a14 a15 => .mk a0 a1 v a3 a4 a5 a6 a7 a8 a9 a10 a11 a12 a13 a14 a15) t
noncomputable def H2.g3 (t : H2) : H1 := H2.rec (motive := fun _ => H1) H1.e (fun _ _ _ a3 _ _ _ _ _ _ _ _ _ _ _ _ => a3) t
noncomputable def H2.s3 (v : H1) (t : H2) : H2 := H2.rec (motive := fun _ => H2) (.mk H1.e H1.e H1.e v H1.e H1.e H1.e H1.e H1.e H1.e H1.e H1.e H1.e H1.e H1.e H1.e) (fun a0 a1 a2 _ a4 a5 a6 a7 a8 a9 a10 a11 a12 a13 a14 a15 => .mk a0 a1 a2 v a4 a5 a6 a7 a8 a9 a10 a11 a12 a13 a14 a15) t
noncomputable def H2.g4 (t : H2) : H1 := H2.rec (motive := fun _ => H1) H1.e (fun _ _ _ _ a4 _ _ _ _ _ _ _ _ _ _ _ => a4) t
noncomputable def H2.s4 (v : H1) (t : H2) : H2 := H2.rec (motive := fun _ => H2) (.mk H1.e H1.e H1.e H1.e v H1.e H1.e H1.e H1.e H1.e H1.e H1.e H1.e H1.e H1.e H1.e) (fun a0 a1 a2 a3 _ a5 a6 a7 a8 a9 a10 a11 a12 a13 a14 a15 => .mk a0 a1 a2 a3 v a5 a6 a7 a8 a9 a10 a11 a12 a13 a14 a15) t
noncomputable def H2.g5 (t : H2) : H1 := H2.rec (motive := fun _ => H1) H1.e (fun _ _ _ _ _ a5 _ _ _ _ _ _ _ _ _ _ => a5) t
noncomputable def H2.s5 (v : H1) (t : H2) : H2 := H2.rec (motive := fun _ => H2) (.mk H1.e H1.e H1.e H1.e H1.e v H1.e H1.e H1.e H1.e H1.e H1.e H1.e H1.e H1.e H1.e) (fun a0 a1 a2 a3 a4 _ a6 a7 a8 a9 a10 a11 a12 a13 a14 a15 => .mk a0 a1 a2 a3 a4 v a6 a7 a8 a9 a10 a11 a12 a13 a14 a15) t
noncomputable def H2.g6 (t : H2) : H1 := H2.rec (motive := fun _ => H1) H1.e (fun _ _ _ _ _ _ a6 _ _ _ _ _ _ _ _ _ => a6) t
noncomputable def H2.s6 (v : H1) (t : H2) : H2 := H2.rec (motive := fun _ => H2) (.mk H1.e H1.e H1.e H1.e H1.e H1.e v H1.e H1.e H1.e H1.e H1.e H1.e H1.e H1.e H1.e) (fun a0 a1 a2 a3 a4 a5 _ a7 a8 a9 a10 a11 a12 a13 a14 a15 => .mk a0 a1 a2 a3 a4 a5 v a7 a8 a9 a10 a11 a12 a13 a14 a15) t
noncomputable def H2.g7 (t : H2) : H1 := H2.rec (motive := fun _ => H1) H1.e (fun _ _ _ _ _ _ _ a7 _ _ _ _ _ _ _ _ => a7) t
noncomputable def H2.s7 (v : H1) (t : H2) : H2 := H2.rec (motive := fun _ => H2) (.mk H1.e H1.e H1.e H1.e H1.e H1.e H1.e v H1.e H1.e H1.e H1.e H1.e H1.e H1.e H1.e) (fun a0 a1 a2 a3 a4 a5 a6 _ a8 a9 a10 a11 a12 a13 a14 a15 => .mk a0 a1 a2 a3 a4 a5 a6 v a8 a9 a10 a11 a12 a13 a14 a15) t
noncomputable def H2.g8 (t : H2) : H1 := H2.rec (motive := fun _ => H1) H1.e (fun _ _ _ _ _ _ _ _ a8 _ _ _ _ _ _ _ => a8) t
noncomputable def H2.s8 (v : H1) (t : H2) : H2 := H2.rec (motive := fun _ => H2) (.mk H1.e H1.e H1.e H1.e H1.e H1.e H1.e H1.e v H1.e H1.e H1.e H1.e H1.e H1.e H1.e) (fun a0 a1 a2 a3 a4 a5 a6 a7 _ a9 a10 a11 a12 a13 a14 a15 => .mk a0 a1 a2 a3 a4 a5 a6 a7 v a9 a10 a11 a12 a13 a14 a15) t
noncomputable def H2.g9 (t : H2) : H1 := H2.rec (motive := fun _ => H1) H1.e (fun _ _ _ _ _ _ _ _ _ a9 _ _ _ _ _ _ => a9) t
noncomputable def H2.s9 (v : H1) (t : H2) : H2 := H2.rec (motive := fun _ => H2) (.mk H1.e H1.e H1.e H1.e H1.e H1.e H1.e H1.e H1.e v H1.e H1.e H1.e H1.e H1.e H1.e) (fun a0 a1 a2 a3 a4 a5 a6 a7 a8 _ a10 a11 a12 a13 a14 a15 => .mk a0 a1 a2 a3 a4 a5 a6 a7 a8 v a10 a11 a12 a13 a14 a15) t
noncomputable def H2.g10 (t : H2) : H1 := H2.rec (motive := fun _ => H1) H1.e (fun _ _ _ _ _ _ _ _ _ _ a10 _ _ _ _ _ => a10) t
noncomputable def H2.s10 (v : H1) (t : H2) : H2 := H2.rec (motive := fun _ => H2) (.mk H1.e H1.e H1.e H1.e H1.e H1.e H1.e H1.e H1.e H1.e v H1.e H1.e H1.e H1.e H1.e) (fun a0 a1 a2 a3 a4 a5 a6 a7 a8 a9 _ a11 a12 a13 a14 a15 => .mk a0 a1 a2 a3 a4 a5 a6 a7 a8 a9 v a11 a12 a13 a14 a15) t
noncomputable def H2.g11 (t : H2) : H1 := H2.rec (motive := fun _ => H1) H1.e (fun _ _ _ _ _ _ _ _ _ _ _ a11 _ _ _ _ => a11) t
noncomputable def H2.s11 (v : H1) (t : H2) : H2 := H2.rec (motive := fun _ => H2) (.mk H1.e H1.e H1.e H1.e H1.e H1.e H1.e H1.e H1.e H1.e H1.e v H1.e H1.e H1.e H1.e) (fun a0 a1 a2 a3 a4 a5 a6 a7 a8 a9 a10 _ a12 a13 a14 a15 => .mk a0 a1 a2 a3 a4 a5 a6 a7 a8 a9 a10 v a12 a13 a14 a15) t
noncomputable def H2.g12 (t : H2) : H1 := H2.rec (motive := fun _ => H1) H1.e (fun _ _ _ _ _ _ _ _ _ _ _ _ a12 _ _ _ => a12) t
noncomputable def H2.s12 (v : H1) (t : H2) : H2 := H2.rec (motive := fun _ => H2) (.mk H1.e H1.e H1.e H1.e H1.e H1.e H1.e H1.e H1.e H1.e H1.e H1.e v H1.e H1.e H1.e) (fun a0 a1 a2 a3 a4 a5 a6 a7 a8 a9 a10 a11 _ a13 a14 a15 => .mk a0 a1 a2 a3 a4 a5 a6 a7 a8 a9 a10 a11 v a13 a14 a15) t
noncomputable def H2.g13 (t : H2) : H1 := H2.rec (motive := fun _ => H1) H1.e (fun _ _ _ _ _ _ _ _ _ _ _ _ _ a13 _ _ => a13) t
noncomputable def H2.s13 (v : H1) (t : H2) : H2 := H2.rec (motive := fun _ => H2) (.mk H1.e H1.e H1.e H1.e H1.e H1.e H1.e H1.e H1.e H1.e H1.e H1.e H1.e v H1.e H1.e) (fun a0 a1 a2 a3 a4 a5 a6 a7 a8 a9 a10 a11 a12 _ a14 a15 => .mk a0 a1 a2 a3 a4 a5 a6 a7 a8 a9 a10 a11 a12 v a14 a15) t
noncomputable def H2.g14 (t : H2) : H1 := H2.rec (motive := fun _ => H1) H1.e (fun _ _ _ _ _ _ _ _ _ _ _ _ _ _ a14 _ => a14) t
noncomputable def H2.s14 (v : H1) (t : H2) : H2 := H2.rec (motive := fun _ => H2) (.mk H1.e H1.e H1.e H1.e H1.e H1.e H1.e H1.e H1.e H1.e H1.e H1.e H1.e H1.e v H1.e) (fun a0 a1 a2 a3 a4 a5 a6 a7 a8 a9 a10 a11 a12 a13 _ a15 => .mk a0 a1 a2 a3 a4 a5 a6 a7 a8 a9 a10 a11 a12 a13 v a15) t
noncomputable def H2.g15 (t : H2) : H1 := H2.rec (motive := fun _ => H1) H1.e (fun _ _ _ _ _ _ _ _ _ _ _ _ _ _ _ a15 => a15) t
noncomputable def H2.s15 (v : H1) (t : H2) : H2 := H2.rec (motive := fun _ => H2) (.mk H1.e H1.e H1.e H1.e H1.e H1.e H1.e H1.e H1.e H1.e H1.e H1.e H1.e H1.e H1.e v) (fun a0 a1 a2 a3 a4 a5 a6 a7 a8 a9 a10 a11 a12 a13 a14 _ => .mk a0 a1 a2 a3 a4 a5 a6 a7 a8 a9 a10 a11 a12 a13 a14 v) t
noncomputable def H2.get (i : Hx) : H2 → H1 := Hx.rec (motive := fun _ => H2 → H1) H2.g0 H2.g1 H2.g2 H2.g3 H2.g4 H2.g5 H2.g6 H2.g7 H2.g8 H2.g9 H2.g10 H2.g11 H2.g12 H2.g13 H2.g14 H2.g15 i
noncomputable def H2.set (i : Hx) : H1 → H2 → H2 := Hx.rec (motive := fun _ => H1 → H2 → H2) H2.s0 H2.s1 H2.s2 H2.s3 H2.s4 H2.s5 H2.s6 H2.s7 H2.s8 H2.s9 H2.s10 H2.s11 H2.s12 H2.s13 H2.s14 H2.s15 i
theorem H2.get_e (i : Hx) : H2.e.get i = H1.e := by cases i <;> rfl
theorem H2.get_set (i : Hx) (v : H1) (t : H2) : (H2.set i v t).get i = v := by cases i <;> cases t <;> rfl
theorem H2.get_set_ne {i j : Hx} (h : j ≠ i) (v : H1) (t : H2) : (H2.set i v t).get j = t.get j := by cases i <;> cases j <;> first | exact absurd rfl h | (cases t <;> rfl)
theorem H2.set_comm {i j : Hx} (h : j ≠ i) (v u : H1) (t : H2) : H2.set i v (H2.set j u t) = H2.set j u (H2.set i v t) := by cases i <;> cases j <;> first | exact absurd rfl h | (cases t <;> rfl)
theorem H2.set_set (i : Hx) (v u : H1) (t : H2) : H2.set i v (H2.set i u t) = H2.set i v t := by cases i <;> cases t <;> rfl
inductive H3 where
  | e
  | mk (a0 a1 a2 a3 a4 a5 a6 a7 a8 a9 a10 a11 a12 a13 a14 a15 : H2)
noncomputable def H3.g0 (t : H3) : H2 := H3.rec (motive := fun _ => H2) H2.e (fun a0 _ _ _ _ _ _ _ _ _ _ _ _ _ _ _ => a0) t
noncomputable def H3.s0 (v : H2) (t : H3) : H3 := H3.rec (motive := fun _ => H3) (.mk v H2.e H2.e H2.e H2.e H2.e H2.e H2.e H2.e H2.e H2.e H2.e H2.e H2.e H2.e H2.e) (fun _ a1 a2 a3 a4 a5 a6 a7 a8 a9 a10 a11 a12 a13 a14 a15 => .mk v a1 a2 a3 a4 a5 a6 a7 a8 a9 a10 a11 a12 a13 a14 a15) t
noncomputable def H3.g1 (t : H3) : H2 := H3.rec (motive := fun _ => H2) H2.e (fun _ a1 _ _ _ _ _ _ _ _ _ _ _ _ _ _ => a1) t
noncomputable def H3.s1 (v : H2) (t : H3) : H3 := H3.rec (motive := fun _ => H3) (.mk H2.e v H2.e H2.e H2.e H2.e H2.e H2.e H2.e H2.e H2.e H2.e H2.e H2.e H2.e H2.e) (fun a0 _ a2 a3 a4 a5 a6 a7 a8 a9 a10 a11 a12 a13 a14 a15 => .mk a0 v a2 a3 a4 a5 a6 a7 a8 a9 a10 a11 a12 a13 a14 a15) t
noncomputable def H3.g2 (t : H3) : H2 := H3.rec (motive := fun _ => H2) H2.e (fun _ _ a2 _ _ _ _ _ _ _ _ _ _ _ _ _ => a2) t
noncomputable def H3.s2 (v : H2) (t : H3) : H3 := H3.rec (motive := fun _ => H3) (.mk H2.e H2.e v H2.e H2.e H2.e H2.e H2.e H2.e H2.e H2.e H2.e H2.e H2.e H2.e H2.e) (fun a0 a1 _ a3 a4 a5 a6 a7 a8 a9 a10 a11 a12 a13 a14 a15 => .mk a0 a1 v a3 a4 a5 a6 a7 a8 a9 a10 a11 a12 a13 a14 a15) t
noncomputable def H3.g3 (t : H3) : H2 := H3.rec (motive := fun _ => H2) H2.e (fun _ _ _ a3 _ _ _ _ _ _ _ _ _ _ _ _ => a3) t
noncomputable def H3.s3 (v : H2) (t : H3) : H3 := H3.rec (motive := fun _ => H3) (.mk H2.e H2.e H2.e v H2.e H2.e H2.e H2.e H2.e H2.e H2.e H2.e H2.e H2.e H2.e H2.e) (fun a0 a1 a2 _ a4 a5 a6 a7 a8 a9 a10 a11 a12 a13 a14 a15 => .mk a0 a1 a2 v a4 a5 a6 a7 a8 a9 a10 a11 a12 a13 a14 a15) t
noncomputable def H3.g4 (t : H3) : H2 := H3.rec (motive := fun _ => H2) H2.e (fun _ _ _ _ a4 _ _ _ _ _ _ _ _ _ _ _ => a4) t
noncomputable def H3.s4 (v : H2) (t : H3) : H3 := H3.rec (motive := fun _ => H3) (.mk H2.e H2.e H2.e H2.e v H2.e H2.e H2.e H2.e H2.e H2.e H2.e H2.e H2.e H2.e H2.e) (fun a0 a1 a2 a3 _ a5 a6 a7 a8 a9 a10 a11 a12 a13 a14 a15 => .mk a0 a1 a2 a3 v a5 a6 a7 a8 a9 a10 a11 a12 a13 a14 a15) t
noncomputable def H3.g5 (t : H3) : H2 := H3.rec (motive := fun _ => H2) H2.e (fun _ _ _ _ _ a5 _ _ _ _ _ _ _ _ _ _ => a5) t
noncomputable def H3.s5 (v : H2) (t : H3) : H3 := H3.rec (motive := fun _ => H3) (.mk H2.e H2.e H2.e H2.e H2.e v H2.e H2.e H2.e H2.e H2.e H2.e H2.e H2.e H2.e H2.e) (fun a0 a1 a2 a3 a4 _ a6 a7 a8 a9 a10 a11 a12 a13 a14 a15 => .mk a0 a1 a2 a3 a4 v a6 a7 a8 a9 a10 a11 a12 a13 a14 a15) t
noncomputable def H3.g6 (t : H3) : H2 := H3.rec (motive := fun _ => H2) H2.e (fun _ _ _ _ _ _ a6 _ _ _ _ _ _ _ _ _ => a6) t
noncomputable def H3.s6 (v : H2) (t : H3) : H3 := H3.rec (motive := fun _ => H3) (.mk H2.e H2.e H2.e H2.e H2.e H2.e v H2.e H2.e H2.e H2.e H2.e H2.e H2.e H2.e H2.e) (fun a0 a1 a2 a3 a4 a5 _ a7 a8 a9 a10 a11 a12 a13 a14 a15 => .mk a0 a1 a2 a3 a4 a5 v a7 a8 a9 a10 a11 a12 a13 a14 a15) t
noncomputable def H3.g7 (t : H3) : H2 := H3.rec (motive := fun _ => H2) H2.e (fun _ _ _ _ _ _ _ a7 _ _ _ _ _ _ _ _ => a7) t
noncomputable def H3.s7 (v : H2) (t : H3) : H3 := H3.rec (motive := fun _ => H3) (.mk H2.e H2.e H2.e H2.e H2.e H2.e H2.e v H2.e H2.e H2.e H2.e H2.e H2.e H2.e H2.e) (fun a0 a1 a2 a3 a4 a5 a6 _ a8 a9 a10 a11 a12 a13 a14 a15 => .mk a0 a1 a2 a3 a4 a5 a6 v a8 a9 a10 a11 a12 a13 a14 a15) t
noncomputable def H3.g8 (t : H3) : H2 := H3.rec (motive := fun _ => H2) H2.e (fun _ _ _ _ _ _ _ _ a8 _ _ _ _ _ _ _ => a8) t
noncomputable def H3.s8 (v : H2) (t : H3) : H3 := H3.rec (motive := fun _ => H3) (.mk H2.e H2.e H2.e H2.e H2.e H2.e H2.e H2.e v H2.e H2.e H2.e H2.e H2.e H2.e H2.e) (fun a0 a1 a2 a3 a4 a5 a6 a7 _ a9 a10 a11 a12 a13 a14 a15 => .mk a0 a1 a2 a3 a4 a5 a6 a7 v a9 a10 a11 a12 a13 a14 a15) t
noncomputable def H3.g9 (t : H3) : H2 := H3.rec (motive := fun _ => H2) H2.e (fun _ _ _ _ _ _ _ _ _ a9 _ _ _ _ _ _ => a9) t
noncomputable def H3.s9 (v : H2) (t : H3) : H3 := H3.rec (motive := fun _ => H3) (.mk H2.e H2.e H2.e H2.e H2.e H2.e H2.e H2.e H2.e v H2.e H2.e H2.e H2.e H2.e H2.e) (fun a0 a1 a2 a3 a4 a5 a6 a7 a8 _ a10 a11 a12 a13 a14 a15 => .mk a0 a1 a2 a3 a4 a5 a6 a7 a8 v a10 a11 a12 a13 a14 a15) t
noncomputable def H3.g10 (t : H3) : H2 := H3.rec (motive := fun _ => H2) H2.e (fun _ _ _ _ _ _ _ _ _ _ a10 _ _ _ _ _ => a10) t
noncomputable def H3.s10 (v : H2) (t : H3) : H3 := H3.rec (motive := fun _ => H3) (.mk H2.e H2.e H2.e H2.e H2.e H2.e H2.e H2.e H2.e H2.e v H2.e H2.e H2.e H2.e H2.e) (fun a0 a1 a2 a3 a4 a5 a6 a7 a8 a9 _ a11 a12 a13 a14 a15 => .mk a0 a1 a2 a3 a4 a5 a6 a7 a8 a9 v a11 a12 a13 a14 a15) t
noncomputable def H3.g11 (t : H3) : H2 := H3.rec (motive := fun _ => H2) H2.e (fun _ _ _ _ _ _ _ _ _ _ _ a11 _ _ _ _ => a11) t
noncomputable def H3.s11 (v : H2) (t : H3) : H3 := H3.rec (motive := fun _ => H3) (.mk H2.e H2.e H2.e H2.e H2.e H2.e H2.e H2.e H2.e H2.e H2.e v H2.e H2.e H2.e H2.e) (fun a0 a1 a2 a3 a4 a5 a6 a7 a8 a9 a10 _ a12 a13 a14 a15 => .mk a0 a1 a2 a3 a4 a5 a6 a7 a8 a9 a10 v a12 a13 a14 a15) t
noncomputable def H3.g12 (t : H3) : H2 := H3.rec (motive := fun _ => H2) H2.e (fun _ _ _ _ _ _ _ _ _ _ _ _ a12 _ _ _ => a12) t
noncomputable def H3.s12 (v : H2) (t : H3) : H3 := H3.rec (motive := fun _ => H3) (.mk H2.e H2.e H2.e H2.e H2.e H2.e H2.e H2.e H2.e H2.e H2.e H2.e v H2.e H2.e H2.e) (fun a0 a1 a2 a3 a4 a5 a6 a7 a8 a9 a10 a11 _ a13 a14 a15 => .mk a0 a1 a2 a3 a4 a5 a6 a7 a8 a9 a10 a11 v a13 a14 a15) t
noncomputable def H3.g13 (t : H3) : H2 := H3.rec (motive := fun _ => H2) H2.e (fun _ _ _ _ _ _ _ _ _ _ _ _ _ a13 _ _ => a13) t
noncomputable def H3.s13 (v : H2) (t : H3) : H3 := H3.rec (motive := fun _ => H3) (.mk H2.e H2.e H2.e H2.e H2.e H2.e H2.e H2.e H2.e H2.e H2.e H2.e H2.e v H2.e H2.e) (fun a0 a1 a2 a3 a4 a5 a6 a7 a8 a9 a10 a11 a12 _ a14 a15 => .mk a0 a1 a2 a3 a4 a5 a6 a7 a8 a9 a10 a11 a12 v a14 a15) t
noncomputable def H3.g14 (t : H3) : H2 := H3.rec (motive := fun _ => H2) H2.e (fun _ _ _ _ _ _ _ _ _ _ _ _ _ _ a14 _ => a14) t
noncomputable def H3.s14 (v : H2) (t : H3) : H3 := H3.rec (motive := fun _ => H3) (.mk H2.e H2.e H2.e H2.e H2.e H2.e H2.e H2.e H2.e H2.e H2.e H2.e H2.e H2.e v H2.e) (fun a0 a1 a2 a3 a4 a5 a6 a7 a8 a9 a10 a11 a12 a13 _ a15 => .mk a0 a1 a2 a3 a4 a5 a6 a7 a8 a9 a10 a11 a12 a13 v a15) t
noncomputable def H3.g15 (t : H3) : H2 := H3.rec (motive := fun _ => H2) H2.e (fun _ _ _ _ _ _ _ _ _ _ _ _ _ _ _ a15 => a15) t
noncomputable def H3.s15 (v : H2) (t : H3) : H3 := H3.rec (motive := fun _ => H3) (.mk H2.e H2.e H2.e H2.e H2.e H2.e H2.e H2.e H2.e H2.e H2.e H2.e H2.e H2.e H2.e v) (fun a0 a1 a2 a3 a4 a5 a6 a7 a8 a9 a10 a11 a12 a13 a14 _ => .mk a0 a1 a2 a3 a4 a5 a6 a7 a8 a9 a10 a11 a12 a13 a14 v) t
noncomputable def H3.get (i : Hx) : H3 → H2 := Hx.rec (motive := fun _ => H3 → H2) H3.g0 H3.g1 H3.g2 H3.g3 H3.g4 H3.g5 H3.g6 H3.g7 H3.g8 H3.g9 H3.g10 H3.g11 H3.g12 H3.g13 H3.g14 H3.g15 i
noncomputable def H3.set (i : Hx) : H2 → H3 → H3 := Hx.rec (motive := fun _ => H2 → H3 → H3) H3.s0 H3.s1 H3.s2 H3.s3 H3.s4 H3.s5 H3.s6 H3.s7 H3.s8 H3.s9 H3.s10 H3.s11 H3.s12 H3.s13 H3.s14 H3.s15 i
theorem H3.get_e (i : Hx) : H3.e.get i = H2.e := by cases i <;> rfl
theorem H3.get_set (i : Hx) (v : H2) (t : H3) : (H3.set i v t).get i = v := by cases i <;> cases t <;> rfl
theorem H3.get_set_ne {i j : Hx} (h : j ≠ i) (v : H2) (t : H3) : (H3.set i v t).get j = t.get j := by cases i <;> cases j <;> first | exact absurd rfl h | (cases t <;> rfl)
theorem H3.set_comm {i j : Hx} (h : j ≠ i) (v u : H2) (t : H3) : H3.set i v (H3.set j u t) = H3.set j u (H3.set i v t) := by cases i <;> cases j <;> first | exact absurd rfl h | (cases t <;> rfl)
theorem H3.set_set (i : Hx) (v u : H2) (t : H3) : H3.set i v (H3.set i u t) = H3.set i v t := by cases i <;> cases t <;> rfl
inductive H4 where
  | e
  | mk (a0 a1 a2 a3 a4 a5 a6 a7 a8 a9 a10 a11 a12 a13 a14 a15 : H3)
noncomputable def H4.g0 (t : H4) : H3 := H4.rec (motive := fun _ => H3) H3.e (fun a0 _ _ _ _ _ _ _ _ _ _ _ _ _ _ _ => a0) t
noncomputable def H4.s0 (v : H3) (t : H4) : H4 := H4.rec (motive := fun _ => H4) (.mk v H3.e H3.e H3.e H3.e H3.e H3.e H3.e H3.e H3.e H3.e H3.e H3.e H3.e H3.e H3.e) (fun _ a1 a2 a3 a4 a5 a6 a7 a8 a9 a10 a11 a12 a13 a14 a15 => .mk v a1 a2 a3 a4 a5 a6 a7 a8 a9 a10 a11 a12 a13 a14 a15) t
noncomputable def H4.g1 (t : H4) : H3 := H4.rec (motive := fun _ => H3) H3.e (fun _ a1 _ _ _ _ _ _ _ _ _ _ _ _ _ _ => a1) t
noncomputable def H4.s1 (v : H3) (t : H4) : H4 := H4.rec (motive := fun _ => H4) (.mk H3.e v H3.e H3.e H3.e H3.e H3.e H3.e H3.e H3.e H3.e H3.e H3.e H3.e H3.e H3.e) (fun a0 _ a2 a3 a4 a5 a6 a7 a8 a9 a10 a11 a12 a13 a14 a15 => .mk a0 v a2 a3 a4 a5 a6 a7 a8 a9 a10 a11 a12 a13 a14 a15) t
noncomputable def H4.g2 (t : H4) : H3 := H4.rec (motive := fun _ => H3) H3.e (fun _ _ a2 _ _ _ _ _ _ _ _ _ _ _ _ _ => a2) t
noncomputable def H4.s2 (v : H3) (t : H4) : H4 := H4.rec (motive := fun _ => H4) (.mk H3.e H3.e v H3.e H3.e H3.e H3.e H3.e H3.e H3.e H3.e H3.e H3.e H3.e H3.e H3.e) (fun a0 a1 _ a3 a4 a5 a6 a7 a8 a9 a10 a11 a12 a13 a14 a15 => .mk a0 a1 v a3 a4 a5 a6 a7 a8 a9 a10 a11 a12 a13 a14 a15) t
noncomputable def H4.g3 (t : H4) : H3 := H4.rec (motive := fun _ => H3) H3.e (fun _ _ _ a3 _ _ _ _ _ _ _ _ _ _ _ _ => a3) t
noncomputable def H4.s3 (v : H3) (t : H4) : H4 := H4.rec (motive := fun _ => H4) (.mk H3.e H3.e H3.e v H3.e H3.e H3.e H3.e H3.e H3.e H3.e H3.e H3.e H3.e H3.e H3.e) (fun a0 a1 a2 _ a4 a5 a6 a7 a8 a9 a10 a11 a12 a13 a14 a15 => .mk a0 a1 a2 v a4 a5 a6 a7 a8 a9 a10 a11 a12 a13 a14 a15) t
noncomputable def H4.g4 (t : H4) : H3 := H4.rec (motive := fun _ => H3) H3.e (fun _ _ _ _ a4 _ _ _ _ _ _ _ _ _ _ _ => a4) t
noncomputable def H4.s4 (v : H3) (t : H4) : H4 := H4.rec (motive := fun _ => H4) (.mk H3.e H3.e H3.e H3.e v H3.e H3.e H3.e H3.e H3.e H3.e H3.e H3.e H3.e H3.e H3.e) (fun a0 a1 a2 a3 _ a5 a6 a7 a8 a9 a10 a11 a12 a13 a14 a15 => .mk a0 a1 a2 a3 v a5 a6 a7 a8 a9 a10 a11 a12 a13 a14 a15) t
noncomputable def H4.g5 (t : H4) : H3 := H4.rec (motive := fun _ => H3) H3.e (fun _ _ _ _ _ a5 _ _ _ _ _ _ _ _ _ _ => a5) t
noncomputable def H4.s5 (v : H3) (t : H4) : H4 := H4.rec (motive := fun _ => H4) (.mk H3.e H3.e H3.e H3.e H3.e v H3.e H3.e H3.e H3.e H3.e H3.e H3.e H3.e H3.e H3.e) (fun a0 a1 a2 a3 a4 _ a6 a7 a8 a9 a10 a11 a12 a13 a14 a15 => .mk a0 a1 a2 a3 a4 v a6 a7 a8 a9 a10 a11 a12 a13 a14 a15) t
noncomputable def H4.g6 (t : H4) : H3 := H4.rec (motive := fun _ => H3) H3.e (fun _ _ _ _ _ _ a6 _ _ _ _ _ _ _ _ _ => a6) t
noncomputable def H4.s6 (v : H3) (t : H4) : H4 := H4.rec (motive := fun _ => H4) (.mk H3.e H3.e H3.e H3.e H3.e H3.e v H3.e H3.e H3.e H3.e H3.e H3.e H3.e H3.e H3.e) (fun a0 a1 a2 a3 a4 a5 _ a7 a8 a9 a10 a11 a12 a13 a14 a15 => .mk a0 a1 a2 a3 a4 a5 v a7 a8 a9 a10 a11 a12 a13 a14 a15) t
noncomputable def H4.g7 (t : H4) : H3 := H4.rec (motive := fun _ => H3) H3.e (fun _ _ _ _ _ _ _ a7 _ _ _ _ _ _ _ _ => a7) t
noncomputable def H4.s7 (v : H3) (t : H4) : H4 := H4.rec (motive := fun _ => H4) (.mk H3.e H3.e H3.e H3.e H3.e H3.e H3.e v H3.e H3.e H3.e H3.e H3.e H3.e H3.e H3.e) (fun a0 a1 a2 a3 a4 a5 a6 _ a8 a9 a10 a11 a12 a13 a14 a15 => .mk a0 a1 a2 a3 a4 a5 a6 v a8 a9 a10 a11 a12 a13 a14 a15) t
noncomputable def H4.g8 (t : H4) : H3 := H4.rec (motive := fun _ => H3) H3.e (fun _ _ _ _ _ _ _ _ a8 _ _ _ _ _ _ _ => a8) t
noncomputable def H4.s8 (v : H3) (t : H4) : H4 := H4.rec (motive := fun _ => H4) (.mk H3.e H3.e H3.e H3.e H3.e H3.e H3.e H3.e v H3.e H3.e H3.e H3.e H3.e H3.e H3.e) (fun a0 a1 a2 a3 a4 a5 a6 a7 _ a9 a10 a11 a12 a13 a14 a15 => .mk a0 a1 a2 a3 a4 a5 a6 a7 v a9 a10 a11 a12 a13 a14 a15) t
noncomputable def H4.g9 (t : H4) : H3 := H4.rec (motive := fun _ => H3) H3.e (fun _ _ _ _ _ _ _ _ _ a9 _ _ _ _ _ _ => a9) t
noncomputable def H4.s9 (v : H3) (t : H4) : H4 := H4.rec (motive := fun _ => H4) (.mk H3.e H3.e H3.e H3.e H3.e H3.e H3.e H3.e H3.e v H3.e H3.e H3.e H3.e H3.e H3.e) (fun a0 a1 a2 a3 a4 a5 a6 a7 a8 _ a10 a11 a12 a13 a14 a15 => .mk a0 a1 a2 a3 a4 a5 a6 a7 a8 v a10 a11 a12 a13 a14 a15) t
noncomputable def H4.g10 (t : H4) : H3 := H4.rec (motive := fun _ => H3) H3.e (fun _ _ _ _ _ _ _ _ _ _ a10 _ _ _ _ _ => a10) t
noncomputable def H4.s10 (v : H3) (t : H4) : H4 := H4.rec (motive := fun _ => H4) (.mk H3.e H3.e H3.e H3.e H3.e H3.e H3.e H3.e H3.e H3.e v H3.e H3.e H3.e H3.e H3.e) (fun a0 a1 a2 a3 a4 a5 a6 a7 a8 a9 _ a11 a12 a13 a14 a15 => .mk a0 a1 a2 a3 a4 a5 a6 a7 a8 a9 v a11 a12 a13 a14 a15) t
noncomputable def H4.g11 (t : H4) : H3 := H4.rec (motive := fun _ => H3) H3.e (fun _ _ _ _ _ _ _ _ _ _ _ a11 _ _ _ _ => a11) t
noncomputable def H4.s11 (v : H3) (t : H4) : H4 := H4.rec (motive := fun _ => H4) (.mk H3.e H3.e H3.e H3.e H3.e H3.e H3.e H3.e H3.e H3.e H3.e v H3.e H3.e H3.e H3.e) (fun a0 a1 a2 a3 a4 a5 a6 a7 a8 a9 a10 _ a12 a13 a14 a15 => .mk a0 a1 a2 a3 a4 a5 a6 a7 a8 a9 a10 v a12 a13 a14 a15) t
noncomputable def H4.g12 (t : H4) : H3 := H4.rec (motive := fun _ => H3) H3.e (fun _ _ _ _ _ _ _ _ _ _ _ _ a12 _ _ _ => a12) t
noncomputable def H4.s12 (v : H3) (t : H4) : H4 := H4.rec (motive := fun _ => H4) (.mk H3.e H3.e H3.e H3.e H3.e H3.e H3.e H3.e H3.e H3.e H3.e H3.e v H3.e H3.e H3.e) (fun a0 a1 a2 a3 a4 a5 a6 a7 a8 a9 a10 a11 _ a13 a14 a15 => .mk a0 a1 a2 a3 a4 a5 a6 a7 a8 a9 a10 a11 v a13 a14 a15) t
noncomputable def H4.g13 (t : H4) : H3 := H4.rec (motive := fun _ => H3) H3.e (fun _ _ _ _ _ _ _ _ _ _ _ _ _ a13 _ _ => a13) t
noncomputable def H4.s13 (v : H3) (t : H4) : H4 := H4.rec (motive := fun _ => H4) (.mk H3.e H3.e H3.e H3.e H3.e H3.e H3.e H3.e H3.e H3.e H3.e H3.e H3.e v H3.e H3.e) (fun a0 a1 a2 a3 a4 a5 a6 a7 a8 a9 a10 a11 a12 _ a14 a15 => .mk a0 a1 a2 a3 a4 a5 a6 a7 a8 a9 a10 a11 a12 v a14 a15) t
noncomputable def H4.g14 (t : H4) : H3 := H4.rec (motive := fun _ => H3) H3.e (fun _ _ _ _ _ _ _ _ _ _ _ _ _ _ a14 _ => a14) t
noncomputable def H4.s14 (v : H3) (t : H4) : H4 := H4.rec (motive := fun _ => H4) (.mk H3.e H3.e H3.e H3.e H3.e H3.e H3.e H3.e H3.e H3.e H3.e H3.e H3.e H3.e v H3.e) (fun a0 a1 a2 a3 a4 a5 a6 a7 a8 a9 a10 a11 a12 a13 _ a15 => .mk a0 a1 a2 a3 a4 a5 a6 a7 a8 a9 a10 a11 a12 a13 v a15) t
noncomputable def H4.g15 (t : H4) : H3 := H4.rec (motive := fun _ => H3) H3.e (fun _ _ _ _ _ _ _ _ _ _ _ _ _ _ _ a15 => a15) t
noncomputable def H4.s15 (v : H3) (t : H4) : H4 := H4.rec (motive := fun _ => H4) (.mk H3.e H3.e H3.e H3.e H3.e H3.e H3.e H3.e H3.e H3.e H3.e H3.e H3.e H3.e H3.e v) (fun a0 a1 a2 a3 a4 a5 a6 a7 a8 a9 a10 a11 a12 a13 a14 _ => .mk a0 a1 a2 a3 a4 a5 a6 a7 a8 a9 a10 a11 a12 a13 a14 v) t
noncomputable def H4.get (i : Hx) : H4 → H3 := Hx.rec (motive := fun _ => H4 → H3) H4.g0 H4.g1 H4.g2 H4.g3 H4.g4 H4.g5 H4.g6 H4.g7 H4.g8 H4.g9 H4.g10 H4.g11 H4.g12 H4.g13 H4.g14 H4.g15 i
noncomputable def H4.set (i : Hx) : H3 → H4 → H4 := Hx.rec (motive := fun _ => H3 → H4 → H4) H4.s0 H4.s1 H4.s2 H4.s3 H4.s4 H4.s5 H4.s6 H4.s7 H4.s8 H4.s9 H4.s10 H4.s11 H4.s12 H4.s13 H4.s14 H4.s15 i
theorem H4.get_e (i : Hx) : H4.e.get i = H3.e := by cases i <;> rfl
theorem H4.get_set (i : Hx) (v : H3) (t : H4) : (H4.set i v t).get i = v := by cases i <;> cases t <;> rfl
theorem H4.get_set_ne {i j : Hx} (h : j ≠ i) (v : H3) (t : H4) : (H4.set i v t).get j = t.get j := by cases i <;> cases j <;> first | exact absurd rfl h | (cases t <;> rfl)
theorem H4.set_comm {i j : Hx} (h : j ≠ i) (v u : H3) (t : H4) : H4.set i v (H4.set j u t) = H4.set j u (H4.set i v t) := by cases i <;> cases j <;> first | exact absurd rfl h | (cases t <;> rfl)
theorem H4.set_set (i : Hx) (v u : H3) (t : H4) : H4.set i v (H4.set i u t) = H4.set i v t := by cases i <;> cases t <;> rfl
/-- Blocks by number. -/
structure Hp where
  a : H4
  o : Nat → AB
noncomputable def Hp.nil : Hp := ⟨.e, fun _ => .none⟩
noncomputable def hx0 (b : Nat) : Hx := Hx.of (Nat.mod b 16)
noncomputable def hx1 (b : Nat) : Hx := Hx.of (Nat.mod (Nat.div b 16) 16)
noncomputable def hx2 (b : Nat) : Hx := Hx.of (Nat.mod (Nat.div b 256) 16)
noncomputable def hx3 (b : Nat) : Hx := Hx.of (Nat.div b 4096)
noncomputable def H4.at (b : Nat) (t : H4) : AB := H1.get (hx0 b) (H2.get (hx1 b) (H3.get (hx2 b) (H4.get (hx3 b) t)))
noncomputable def H4.put (b : Nat) (v : AB) (t : H4) : H4 := H4.set (hx3 b) (H3.set (hx2 b) (H2.set (hx1 b) (H1.set (hx0 b) v (H2.get (hx1 b) (H3.get (hx2 b) (H4.get (hx3 b) t)))) (H3.get (hx2 b) (H4.get (hx3 b) t))) (H4.get (hx3 b) t)) t
noncomputable def Hp.get (h : Hp) (b : Nat) : AB := Bool.rec (motive := fun _ => AB) (h.o b) (h.a.at b) (Nat.ble (Nat.succ b) 65536)
noncomputable def Hp.set (h : Hp) (b : Nat) (v : AB) : Hp := Bool.rec (motive := fun _ => Hp) ⟨h.a, fun c => Bool.rec (motive := fun _ => AB) (h.o c) v (Nat.beq c b)⟩ ⟨h.a.put b v, h.o⟩ (Nat.ble (Nat.succ b) 65536)
theorem hx_inj {b c : Nat} (hb : b < 65536) (hc : c < 65536) (h0 : hx0 b = hx0 c) (h1 : hx1 b = hx1 c) (h2 : hx2 b = hx2 c) (h3 : hx3 b = hx3 c) : b = c := by
  have e0 : b % 16 = c % 16 := Hx.of_inj (Nat.mod_lt _ (by omega)) (Nat.mod_lt _ (by omega)) h0
  have e1 : b / 16 % 16 = c / 16 % 16 := Hx.of_inj (Nat.mod_lt _ (by omega)) (Nat.mod_lt _ (by omega)) h1
  have e2 : b / 256 % 16 = c / 256 % 16 := Hx.of_inj (Nat.mod_lt _ (by omega)) (Nat.mod_lt _ (by omega)) h2
  have e3 : b / 4096 = c / 4096 := Hx.of_inj (by omega) (by omega) h3
  omega
theorem H4.at_put (b : Nat) (v : AB) (t : H4) : (t.put b v).at b = v := by
  unfold H4.at H4.put
  rw [H4.get_set, H3.get_set, H2.get_set, H1.get_set]
theorem H4.at_put_ne {b c : Nat} (hb : b < 65536) (hc : c < 65536) (h : c ≠ b) (v : AB) (t : H4) : (t.put b v).at c = t.at c := by
  unfold H4.at H4.put
  by_cases e3 : hx3 c = hx3 b
  · rw [e3, H4.get_set]
    by_cases e2 : hx2 c = hx2 b
    · rw [e2, H3.get_set]
      by_cases e1 : hx1 c = hx1 b
      · rw [e1, H2.get_set]
        by_cases e0 : hx0 c = hx0 b
        · exact absurd (hx_inj hc hb e0 e1 e2 e3) h
        · rw [H1.get_set_ne e0]
      · rw [H2.get_set_ne e1]
    · rw [H3.get_set_ne e2]
  · rw [H4.get_set_ne e3]
theorem Hp.get_nil (b : Nat) : Hp.nil.get b = .none := by
  unfold Hp.get
  cases Nat.ble (Nat.succ b) 65536 with
  | false => rfl
  | true =>
    show H4.e.at b = .none
    unfold H4.at
    rw [H4.get_e, H3.get_e, H2.get_e, H1.get_e]
theorem Hp.get_set (h : Hp) (b : Nat) (v : AB) : (h.set b v).get b = v := by
  unfold Hp.set Hp.get
  cases Nat.ble (Nat.succ b) 65536 with
  | false =>
    show Bool.rec (motive := fun _ => AB) (h.o b) v (Nat.beq b b) = v
    rw [show Nat.beq b b = true from Nat.beq_refl b]
  | true => exact H4.at_put b v h.a
theorem Hp.get_set_ne (h : Hp) {b c : Nat} (v : AB) (hn : c ≠ b) : (h.set b v).get c = h.get c := by
  unfold Hp.set Hp.get
  cases eb : Nat.ble (Nat.succ b) 65536 with
  | false =>
    cases ec : Nat.ble (Nat.succ c) 65536 with
    | true => rfl
    | false =>
      show Bool.rec (motive := fun _ => AB) (h.o c) v (Nat.beq c b) = h.o c
      rw [show Nat.beq c b = false from by rw [Bool.eq_false_iff]; exact fun e => hn (Nat.eq_of_beq_eq_true e)]
  | true =>
    cases ec : Nat.ble (Nat.succ c) 65536 with
    | false => rfl
    | true => exact H4.at_put_ne (Nat.le_of_ble_eq_true eb) (Nat.le_of_ble_eq_true ec) hn v h.a
theorem H4.put_comm {b c : Nat} (hb : b < 65536) (hc : c < 65536) (h : c ≠ b) (v u : AB) (t : H4) : (t.put c u).put b v = (t.put b v).put c u := by
  unfold H4.put
  by_cases e3 : hx3 c = hx3 b
  · rw [e3, H4.get_set, H4.get_set, H4.set_set, H4.set_set]
    by_cases e2 : hx2 c = hx2 b
    · rw [e2, H3.get_set, H3.get_set, H3.set_set, H3.set_set]
      by_cases e1 : hx1 c = hx1 b
      · rw [e1, H2.get_set, H2.get_set, H2.set_set, H2.set_set]
        have e0 : hx0 c ≠ hx0 b := fun e0 => h (hx_inj hc hb e0 e1 e2 e3)
        rw [H1.set_comm e0]
      · rw [H2.get_set_ne e1, H2.get_set_ne (Ne.symm e1), H2.set_comm e1]
    · rw [H3.get_set_ne e2, H3.get_set_ne (Ne.symm e2), H3.set_comm e2]
  · rw [H4.get_set_ne e3, H4.get_set_ne (Ne.symm e3), H4.set_comm e3]
theorem Hp.set_comm (h : Hp) {b c : Nat} (v u : AB) (hn : c ≠ b) : (h.set c u).set b v = (h.set b v).set c u := by
  unfold Hp.set
  cases eb : Nat.ble (Nat.succ b) 65536 with
  | false =>
    cases ec : Nat.ble (Nat.succ c) 65536 with
    | true => rfl
    | false =>
      show Hp.mk _ _ = Hp.mk _ _
      congr 1
      funext q
      dsimp only
      cases e1 : Nat.beq q b <;> cases e2 : Nat.beq q c <;> try rfl
      exact absurd ((Nat.eq_of_beq_eq_true e2).symm.trans (Nat.eq_of_beq_eq_true e1)) hn
  | true =>
    cases ec : Nat.ble (Nat.succ c) 65536 with
    | false => rfl
    | true =>
      show Hp.mk _ _ = Hp.mk _ _
      congr 1
      exact H4.put_comm (Nat.le_of_ble_eq_true eb) (Nat.le_of_ble_eq_true ec) hn v u h.a
/-- Memory: the blocks, the next one's number. -/
structure AS where
  h : Hp
  n : Nat
/-- How abstract blocks lie: which there are; where; how many cells; what a look over a map is, to the sign. -/
structure AEnv where
  ok : Nat → Prop
  r : Nat → Nat
  k : Nat → Nat
  z : Nat → Obj
structure AEnv.le (E F : AEnv) : Prop where
  ok : ∀ b, E.ok b → F.ok b
  r : ∀ b, E.ok b → F.r b = E.r b
  k : ∀ b, E.ok b → F.k b = E.k b
theorem AEnv.le.refl (E : AEnv) : E.le E := ⟨fun _ h => h, fun _ _ => rfl, fun _ _ => rfl⟩
theorem AEnv.le.trans {E F G : AEnv} (h : E.le F) (g : F.le G) : E.le G :=
  ⟨fun b hb => g.ok b (h.ok b hb), fun b hb => (g.r b (h.ok b hb)).trans (h.r b hb), fun b hb => (g.k b (h.ok b hb)).trans (h.k b hb)⟩

/-- Numbers that stand for whole numbers and for texts: values that are not told, by signs. -/
noncomputable def unI (n : Nat) : Int := if n % 2 = 0 then (n / 2 : Nat) else Int.negSucc (n / 2)
theorem unI_at (i : Int) : ∃ n, unI n = i := by
  cases i with
  | ofNat m => exact ⟨2 * m, by unfold unI; rw [if_pos (by omega)]; show Int.ofNat (2 * m / 2) = _; congr 1; omega⟩
  | negSucc m => exact ⟨2 * m + 1, by unfold unI; rw [if_neg (by omega)]; congr 1; omega⟩
def unSf : Nat → Nat → List UInt8
  | 0, _ => []
  | f + 1, n => if n % 257 = 256 then [] else UInt8.ofNat (n % 257) :: unSf f (n / 257)
noncomputable def unS (n : Nat) : List UInt8 := unSf (n + 1) n
def enS : List UInt8 → Nat
  | [] => 256
  | c :: l => c.toNat + 257 * enS l
theorem enS_len : ∀ l : List UInt8, l.length < enS l
  | [] => by show 0 < 256; omega
  | c :: l => by
    have := enS_len l
    show l.length + 1 < c.toNat + 257 * enS l
    omega
theorem unSf_enS : ∀ (l : List UInt8) (f : Nat), l.length < f → unSf f (enS l) = l
  | _, 0, h => by omega
  | [], f + 1, _ => rfl
  | c :: l, f + 1, h => by
    have hc := c.toNat_lt
    show (if (c.toNat + 257 * enS l) % 257 = 256 then [] else UInt8.ofNat ((c.toNat + 257 * enS l) % 257) :: unSf f ((c.toNat + 257 * enS l) / 257)) = _
    have e1 : (c.toNat + 257 * enS l) % 257 = c.toNat := by omega
    have e2 : (c.toNat + 257 * enS l) / 257 = enS l := by omega
    rw [e1, e2, if_neg (by omega), unSf_enS l f (by simp at h; omega), UInt8.ofNat_toNat]
theorem unS_at (l : List UInt8) : ∃ n, unS n = l := ⟨enS l, unSf_enS l _ (by have := enS_len l; omega)⟩
/-- A whole number's own form. -/
def txtN (n : Int) : List UInt8 :=
  if (decGetL (Lib.itoa n)).1.digits = [] then [48]
  else (if (decGetL (Lib.itoa n)).1.minus then 45 :: (decGetL (Lib.itoa n)).1.digits else (decGetL (Lib.itoa n)).1.digits) ++ (if (decGetL (Lib.itoa n)).1.exp = 0 then [] else 101 :: Lib.itoa (decGetL (Lib.itoa n)).1.exp)

/-- A value stands for a value. -/
inductive VR (E : AEnv) : AV → Value → Prop
  | top (v : Value) : VR E .top v
  | undef : VR E .undef (.tuple #[])
  | int (k : IntKind) (n : Int) : VR E (.int k n) (.int k n)
  | bool (b : Bool) : VR E (.bool b) (.bool b)
  | str (l : List UInt8) : VR E (.str l) (.string ⟨l.toArray⟩)
  | nilp : VR E .nilp (.pointer none)
  | ptr (b o : Nat) (h : E.ok b) : VR E (.ptr b o) (.pointer (some ⟨E.r b, o, none⟩))
  | nils : VR E .nils (.slice none 0 0)
  | sl (b o len cap : Nat) (h : E.ok b) : VR E (.sl b o len cap) (.slice (some ⟨E.r b, o, none⟩) len cap)
  | slu (b o len esz cap : Nat) (h : E.ok b) (hl : len ≤ cap) (hk : o + cap * esz = E.k b) : VR E (.slu b o len esz) (.slice (some ⟨E.r b, o, none⟩) len cap)
  | nilm : VR E .nilm (.map none)
  | mapp (b : Nat) (h : E.ok b) : VR E (.mapp b) (.map (some (E.r b)))
  | nilfn : VR E .nilfn .nilFunc
  | fn (f : Nat) (cs : List AV) (vs : Array Value) (hl : cs.length = vs.size) (h : ∀ (i : Nat) c v, cs[i]? = some c → vs[i]? = some v → VR E c v) : VR E (.fn f cs) (.func (.func f) #[] vs)
  | fnm (f : Nat) (cs : List AV) (vs : Array Value) (hl : cs.length = vs.size) (h : ∀ (i : Nat) c v, cs[i]? = some c → vs[i]? = some v → VR E c v) : VR E (.fnm f cs) (.func (.func f) vs #[])
  | nili : VR E .nili .nilIface
  | ifc (t : Nat) (a : AV) (v : Value) (h : VR E a v) : VR E (.ifc t a) (.iface t v)
  | agg (cs : List AV) (vs : Array Value) (hl : cs.length = vs.size) (h : ∀ (i : Nat) c v, cs[i]? = some c → vs[i]? = some v → VR E c v) : VR E (.agg cs) (.agg vs)
  | tup (cs : List AV) (vs : Array Value) (hl : cs.length = vs.size) (h : ∀ (i : Nat) c v, cs[i]? = some c → vs[i]? = some v → VR E c v) : VR E (.tup cs) (.tuple vs)
  | symI (b : Nat) (k : IntKind) (lo hi n : Int) (h : E.ok b) (hn : unI (E.k b) = n) (h1 : lo ≤ n) (h2 : n ≤ hi) : VR E (.symI b k lo hi) (.int k n)
  | symS (b : Nat) (s : List UInt8) (h : E.ok b) (hs : unS (E.k b) = s) : VR E (.symS b) (.string ⟨s.toArray⟩)
  | symT (b : Nat) (lo hi n : Int) (h : E.ok b) (hn : unI (E.k b) = n) (h1 : lo ≤ n) (h2 : n ≤ hi) : VR E (.symT b lo hi) (.string ⟨(txtN n).toArray⟩)
  | symZ (n : Nat) (s : List UInt8) (hn : s.length = n) : VR E (.symZ n) (.string ⟨s.toArray⟩)
  | sle (a : Option Addr) (c : Nat) : VR E .sle (.slice a 0 c)
theorem VR.mono {E F : AEnv} (hE : E.le F) {a : AV} {v : Value} (h : VR E a v) : VR F a v := by
  induction h with
  | top v => exact .top v
  | undef => exact .undef
  | int k n => exact .int k n
  | bool b => exact .bool b
  | str l => exact .str l
  | nilp => exact .nilp
  | ptr b o h => rw [← hE.r b h]; exact .ptr b o (hE.ok b h)
  | nils => exact .nils
  | sl b o len cap h => rw [← hE.r b h]; exact .sl b o len cap (hE.ok b h)
  | slu b o len esz cap h hl hk => rw [← hE.r b h]; exact .slu b o len esz cap (hE.ok b h) hl (by rw [hk, hE.k b h])
  | nilm => exact .nilm
  | mapp b h => rw [← hE.r b h]; exact .mapp b (hE.ok b h)
  | nilfn => exact .nilfn
  | fn f cs vs hl h ih => exact .fn f cs vs hl ih
  | fnm f cs vs hl h ih => exact .fnm f cs vs hl ih
  | nili => exact .nili
  | ifc t a v h ih => exact .ifc t a v ih
  | agg cs vs hl h ih => exact .agg cs vs hl ih
  | tup cs vs hl h ih => exact .tup cs vs hl ih
  | symI b k lo hi n h hn h1 h2 => exact .symI b k lo hi n (hE.ok b h) (by rw [hE.k b h]; exact hn) h1 h2
  | symS b s h hs => exact .symS b s (hE.ok b h) (by rw [hE.k b h]; exact hs)
  | symT b lo hi n h hn h1 h2 => exact .symT b lo hi n (hE.ok b h) (by rw [hE.k b h]; exact hn) h1 h2
  | symZ n s hn => exact .symZ n s hn
  | sle a c => exact .sle a c
/-- Lists of values. -/
structure VL (E : AEnv) (l : List AV) (a : List Value) : Prop where
  len : l.length = a.length
  at_ : ∀ (i : Nat) c v, l[i]? = some c → a[i]? = some v → VR E c v
theorem VL.mono {E F : AEnv} (hE : E.le F) {l : List AV} {a : List Value} (h : VL E l a) : VL F l a := ⟨h.len, fun i c v h1 h2 => (h.at_ i c v h1 h2).mono hE⟩
theorem VL.nil {E : AEnv} : VL E [] [] := ⟨rfl, fun i c v h _ => by simp at h⟩
theorem VL.cons {E : AEnv} {c : AV} {v : Value} {l : List AV} {a : List Value} (h : VR E c v) (h2 : VL E l a) : VL E (c :: l) (v :: a) :=
  ⟨by simp [h2.len], fun i c' v' h1 h3 => by
    cases i with
    | zero => simp at h1 h3; subst h1; subst h3; exact h
    | succ i => exact h2.at_ i c' v' (by simpa using h1) (by simpa using h3)⟩
theorem VL.head {E : AEnv} {c : AV} {v : Value} {l : List AV} {a : List Value} (h : VL E (c :: l) (v :: a)) : VR E c v := h.at_ 0 _ _ rfl rfl
theorem VL.tail {E : AEnv} {c : AV} {v : Value} {l : List AV} {a : List Value} (h : VL E (c :: l) (v :: a)) : VL E l a :=
  ⟨by have := h.len; simpa using this, fun i c' v' h1 h2 => h.at_ (i + 1) c' v' (by simpa using h1) (by simpa using h2)⟩
theorem VL.append {E : AEnv} {l l' : List AV} {a a' : List Value} (h : VL E l a) (h' : VL E l' a') : VL E (l ++ l') (a ++ a') :=
  ⟨by simp [h.len, h'.len], fun i c v h1 h2 => by
    rcases Nat.lt_or_ge i l.length with hi | hi
    · rw [List.getElem?_append_left hi] at h1
      rw [List.getElem?_append_left (by rw [← h.len]; exact hi)] at h2
      exact h.at_ i c v h1 h2
    · rw [List.getElem?_append_right hi] at h1
      rw [List.getElem?_append_right (by rw [← h.len]; exact hi), ← h.len] at h2
      exact h'.at_ _ c v h1 h2⟩
theorem VL.take {E : AEnv} {l : List AV} {a : List Value} (h : VL E l a) (n : Nat) : VL E (l.take n) (a.take n) :=
  ⟨by simp [h.len], fun i c v h1 h2 => by
    rw [List.getElem?_take] at h1 h2
    split at h1
    · rename_i hi; rw [if_pos hi] at h2; exact h.at_ i c v h1 h2
    · cases h1⟩
theorem VL.drop {E : AEnv} {l : List AV} {a : List Value} (h : VL E l a) (n : Nat) : VL E (l.drop n) (a.drop n) :=
  ⟨by simp [h.len], fun i c v h1 h2 => by rw [List.getElem?_drop] at h1 h2; exact h.at_ _ c v h1 h2⟩
theorem VL.exists_at {E : AEnv} {l : List AV} {a : List Value} (h : VL E l a) {i : Nat} {c : AV} (hc : l[i]? = some c) : ∃ v, a[i]? = some v ∧ VR E c v := by
  have hi : i < a.length := by rw [← h.len]; exact (List.getElem?_eq_some_iff.1 hc).1
  exact ⟨a[i], List.getElem?_eq_getElem hi, h.at_ i c _ hc (List.getElem?_eq_getElem hi)⟩

/-- A block stands for a block. -/
def BR (E : AEnv) (b : Nat) : AB → Obj → Prop
  | .none, _ => True
  | .cells cs ty, o => ∃ (c : Array Value) (fz : Nat × Nat), o = .cells c ty fz ∧ c.size = E.k b ∧ cs.length ≤ c.size ∧ VL E cs (c.toList.take cs.length) ∧ (∀ i, i < c.size → ¬ (fz.1 ≤ i ∧ i < fz.2))
  | .froz cs ty, o => ∃ (c : Array Value) (fz : Nat × Nat), o = .cells c ty fz ∧ c.size = E.k b ∧ cs.length ≤ c.size ∧ VL E cs (c.toList.take cs.length)
  | .mapb es clock, o => ∃ xs : Array MapEntry, o = .map xs clock ∧ VL E (es.map (·.1)) (xs.toList.map (·.key)) ∧ VL E (es.map (·.2.1)) (xs.toList.map (·.val)) ∧ es.map (·.2.2) = xs.toList.map (·.born)
  | .iter m clock cur, o => E.ok m ∧ E.z b = o ∧ ∃ seen : Array Nat, o = .mapIter (some (E.r m)) clock seen clock ∧ seen.back? = cur
  | .zero n ty, o => ∃ c : Array Value, o = .cells c ty ∧ c.toList = List.replicate n (.int .u8 0) ∧ n = E.k b
theorem BR.mono {E F : AEnv} (hE : E.le F) {b : Nat} (hb : E.ok b) (hz : F.z b = E.z b) {x : AB} {o : Obj} (h : BR E b x o) : BR F b x o := by
  cases x with
  | none => trivial
  | cells cs ty =>
    obtain ⟨c, fz, h1, h2, h3, h4, h5⟩ := h
    exact ⟨c, fz, h1, by rw [hE.k b hb]; exact h2, h3, h4.mono hE, h5⟩
  | froz cs ty =>
    obtain ⟨c, fz, h1, h2, h3, h4⟩ := h
    exact ⟨c, fz, h1, by rw [hE.k b hb]; exact h2, h3, h4.mono hE⟩
  | mapb es clock =>
    obtain ⟨xs, h1, h2, h3, h4⟩ := h
    exact ⟨xs, h1, h2.mono hE, h3.mono hE, h4⟩
  | iter m clock cur =>
    obtain ⟨h0, hz', seen, h1, h2⟩ := h
    exact ⟨hE.ok m h0, hz.trans hz', seen, by rw [hE.r m h0]; exact h1, h2⟩
  | zero n ty =>
    obtain ⟨c, h1, h2, h3⟩ := h
    exact ⟨c, h1, h2, by rw [hE.k b hb]; exact h3⟩
noncomputable def AS.nil : AS := ⟨.nil, 0⟩
noncomputable def AS.get (s : AS) (b : Nat) : AB := s.h.get b
noncomputable def AS.put (s : AS) (b : Nat) (x : AB) : AS := ⟨s.h.set b x, s.n⟩
noncomputable def AS.new (s : AS) (x : AB) : AS := ⟨s.h.set s.n x, Nat.succ s.n⟩
theorem AS.get_nil (n b : Nat) : AS.get ⟨.nil, n⟩ b = .none := Hp.get_nil b
theorem AS.get_put_ne (s : AS) (b : Nat) (x : AB) (c : Nat) (h : c ≠ b) : (s.put b x).get c = s.get c := Hp.get_set_ne _ _ h
theorem AS.get_put (s : AS) (b : Nat) (x : AB) (_ : b < 1000000000) : (s.put b x).get b = x := Hp.get_set _ _ _
theorem AS.get_new_ne (s : AS) (x : AB) (c : Nat) (h : c ≠ s.n) : (s.new x).get c = s.get c := Hp.get_set_ne _ _ h
theorem AS.get_new (s : AS) (x : AB) (_ : s.n < 1000000000) : (s.new x).get s.n = x := Hp.get_set _ _ _
theorem AS.put_comm (s : AS) {b c : Nat} (x y : AB) (hbc : b ≠ c) : (s.put c y).put b x = (s.put b x).put c y := congrArg (fun h => AS.mk h s.n) (Hp.set_comm s.h x y (Ne.symm hbc))
/-- Memory stands for memory. -/
structure HR0 (E : AEnv) (g : Nat → AB) (w : World) : Prop where
  at_ : ∀ b, g b ≠ .none → E.ok b ∧ b < 1000000000 ∧ ∃ o, w.heap[E.r b]? = some o ∧ BR E b (g b) o
  inj : ∀ b c, g b ≠ .none → g c ≠ .none → E.r b = E.r c → b = c
/-- What a step turns. -/
structure Stp (E : AEnv) (g : Nat → AB) (w : World) (E' : AEnv) (g' : Nat → AB) (w' : World) : Prop where
  os : w'.os = w.os
  tape : w'.tape = w.tape
  output : w'.output = w.output
  size : w.heap.size ≤ w'.heap.size
  le : E.le E'
  z : ∀ b, E.ok b → E'.z b = E.z b
  keep : ∀ d, d < w.heap.size → (∀ b, g b ≠ .none → E.r b ≠ d) → w'.heap[d]? = w.heap[d]?
  dom : ∀ b, g' b ≠ .none → w.heap.size ≤ E'.r b ∨ ∃ c, g c ≠ .none ∧ E.r c = E'.r b
/-- Numbers given out. -/
structure Grow (E : AEnv) (n : Nat) (E' : AEnv) (n' : Nat) : Prop where
  le : n ≤ n'
  ok : ∀ b, E'.ok b → E.ok b ∨ (n ≤ b ∧ b < n')
theorem Grow.refl (E : AEnv) (n : Nat) : Grow E n E n := ⟨Nat.le_refl _, fun _ h => .inl h⟩
theorem Grow.trans {E F G : AEnv} {n m k : Nat} (h : Grow E n F m) (g : Grow F m G k) : Grow E n G k :=
  ⟨Nat.le_trans h.le g.le, fun b hb => by
    have := h.le
    have := g.le
    rcases g.ok b hb with h1 | h1
    · rcases h.ok b h1 with h2 | h2
      · exact .inl h2
      · right; omega
    · right; omega⟩
theorem Stp.refl (E : AEnv) (g : Nat → AB) (w : World) : Stp E g w E g w := ⟨rfl, rfl, rfl, Nat.le_refl _, AEnv.le.refl E, fun _ _ => rfl, fun _ _ _ => rfl, fun b hb => .inr ⟨b, hb, rfl⟩⟩
theorem Stp.trans {E F G : AEnv} {s t u : Nat → AB} {w x y : World} (h : Stp E s w F t x) (g : Stp F t x G u y) : Stp E s w G u y := by
  refine ⟨g.os.trans h.os, g.tape.trans h.tape, g.output.trans h.output, Nat.le_trans h.size g.size, h.le.trans g.le, fun b hb => (g.z b (h.le.ok b hb)).trans (h.z b hb), fun d hd hn => ?_, fun b hb => ?_⟩
  · refine (g.keep d (Nat.lt_of_lt_of_le hd h.size) fun b hb e => ?_).trans (h.keep d hd hn)
    rcases h.dom b hb with h1 | ⟨c, hc, h1⟩
    · omega
    · exact hn c hc (h1.trans e)
  · rcases g.dom b hb with h1 | ⟨c, hc, h1⟩
    · exact .inl (Nat.le_trans h.size h1)
    · rcases h.dom c hc with h2 | ⟨d, hd, h2⟩
      · exact .inl (by rw [← h1]; exact h2)
      · exact .inr ⟨d, hd, h2.trans h1⟩
/-- From nothing on: all that was there is as it was. -/
theorem Stp.below {E F : AEnv} {s t : Nat → AB} {w x : World} (h : Stp E s w F t x) (h0 : ∀ b, s b = .none) : Below w.heap.size w x :=
  ⟨h.os, h.tape, h.output, h.size, fun d hd => h.keep d hd fun b hb => absurd (h0 b) hb⟩
/-- The world that a run began in: what was there stands. -/
class Tab where
  w0 : World
structure HR [Tab] (E : AEnv) (g : Nat → AB) (w : World) : Prop extends HR0 E g w where
  tab : Below Tab.w0.heap.size Tab.w0 w
  apart : ∀ b, g b ≠ .none → Tab.w0.heap.size ≤ E.r b
theorem HR.lift [Tab] {E E' : AEnv} {g g' : Nat → AB} {w w' : World} (h : HR E g w) (q : HR0 E' g' w' ∧ Stp E g w E' g' w') : HR E' g' w' ∧ Stp E g w E' g' w' := by
  obtain ⟨q1, q2⟩ := q
  have hs := h.tab.size
  refine ⟨⟨q1, ⟨q2.os.trans h.tab.os, q2.tape.trans h.tab.tape, q2.output.trans h.tab.output, Nat.le_trans hs q2.size, fun d hd => (q2.keep d (Nat.lt_of_lt_of_le hd hs) fun b hb e => ?_).trans (h.tab.block d hd)⟩, fun b hb => ?_⟩, q2⟩
  · have := h.apart b hb
    omega
  · rcases q2.dom b hb with h1 | ⟨c, hc, h1⟩
    · exact Nat.le_trans hs h1
    · rw [← h1]; exact h.apart c hc
/-- Nothing is known yet. -/
theorem HR.start [Tab] {E : AEnv} {g : Nat → AB} {w : World} (h0 : ∀ b, g b = .none) (hw : Below Tab.w0.heap.size Tab.w0 w) : HR E g w :=
  ⟨⟨fun b hb => absurd (h0 b) hb, fun b _ hb => absurd (h0 b) hb⟩, hw, fun b hb => absurd (h0 b) hb⟩
end Go.Proofs.YtambgppdjlhdaaaGreatDoor
