/-
  An abstract machine for closed runs: values without block numbers of their own, memory as a tree of blocks; how they stand to the model's. No program.
-/
import Derived.Test.YtkjcjfpglpnaaaaGreatDoorU
import Derived.Deep.MidRow
import Derived.Deep.AppendSrc
import Derived.LoopN
import Derived.Orders
namespace Go.Proofs.YtkjcjfpglpnaaaaGreatDoor
open Go.RowKit

/-- A tree of numbered things. -/
inductive Tr (α : Type) where
  | leaf
  | node (l : Tr α) (v : α) (r : Tr α)
noncomputable def Tr.get {α : Type} (d : α) (t : Tr α) : Nat → α :=
  Tr.rec (motive := fun _ => Nat → α) (fun _ => d) (fun _ v _ gl gr k => Bool.rec (motive := fun _ => α) (Bool.rec (motive := fun _ => α) (gr (Nat.sub (Nat.div k 2) 1)) (gl (Nat.div k 2)) (Nat.beq (Nat.mod k 2) 1)) v (Nat.beq k 0)) t
def Tr.one {α : Type} (d : α) (x : α) : Nat → Nat → Tr α
  | 0, _ => .leaf
  | f+1, k => cond (Nat.beq k 0) (Tr.node .leaf x .leaf) (cond (Nat.beq (Nat.mod k 2) 1) (Tr.node (Tr.one d x f (Nat.div k 2)) d .leaf) (Tr.node .leaf d (Tr.one d x f (Nat.sub (Nat.div k 2) 1))))
noncomputable def Tr.set {α : Type} (d : α) (x : α) (f k : Nat) (t : Tr α) : Tr α :=
  Tr.rec (motive := fun _ => Nat → Tr α) (fun k => Tr.one d x f k) (fun l v r sl sr k => Bool.rec (motive := fun _ => Tr α) (Bool.rec (motive := fun _ => Tr α) (Tr.node l v (sr (Nat.sub (Nat.div k 2) 1))) (Tr.node (sl (Nat.div k 2)) v r) (Nat.beq (Nat.mod k 2) 1)) (Tr.node l x r) (Nat.beq k 0)) t k
theorem Tr.get_leaf {α : Type} (d : α) (k : Nat) : (Tr.leaf).get d k = d := rfl
theorem Tr.get_node {α : Type} (d : α) (l r : Tr α) (v : α) (k : Nat) : (Tr.node l v r).get d k = if k = 0 then v else if k % 2 = 1 then l.get d (k / 2) else r.get d (k / 2 - 1) := by
  show Bool.rec (motive := fun _ => α) (Bool.rec (motive := fun _ => α) (r.get d (k / 2 - 1)) (l.get d (k / 2)) (Nat.beq (k % 2) 1)) v (Nat.beq k 0) = _
  by_cases h : k = 0
  · subst h; rfl
  · have e : Nat.beq k 0 = false := by rw [Bool.eq_false_iff]; exact fun h' => h (Nat.eq_of_beq_eq_true h')
    rw [if_neg h, e]
    by_cases h2 : k % 2 = 1
    · rw [if_pos h2, h2]; rfl
    · have e2 : Nat.beq (k % 2) 1 = false := by rw [Bool.eq_false_iff]; exact fun h' => h2 (Nat.eq_of_beq_eq_true h')
      rw [if_neg h2, e2]
theorem Tr.set_node {α : Type} (d x : α) (f k : Nat) (l r : Tr α) (v : α) : Tr.set d x f k (.node l v r) = if k = 0 then Tr.node l x r else if k % 2 = 1 then Tr.node (Tr.set d x f (k / 2) l) v r else Tr.node l v (Tr.set d x f (k / 2 - 1) r) := by
  show Bool.rec (motive := fun _ => Tr α) (Bool.rec (motive := fun _ => Tr α) (Tr.node l v (Tr.set d x f (k / 2 - 1) r)) (Tr.node (Tr.set d x f (k / 2) l) v r) (Nat.beq (k % 2) 1)) (Tr.node l x r) (Nat.beq k 0) = _
  by_cases h : k = 0
  · subst h; rfl
  · have e : Nat.beq k 0 = false := by rw [Bool.eq_false_iff]; exact fun h' => h (Nat.eq_of_beq_eq_true h')
    rw [if_neg h, e]
    by_cases h2 : k % 2 = 1
    · rw [if_pos h2, h2]; rfl
    · have e2 : Nat.beq (k % 2) 1 = false := by rw [Bool.eq_false_iff]; exact fun h' => h2 (Nat.eq_of_beq_eq_true h')
      rw [if_neg h2, e2]
theorem Tr.one_succ {α : Type} (d x : α) (f k : Nat) : Tr.one d x (f+1) k = if k = 0 then Tr.node .leaf x .leaf else if k % 2 = 1 then Tr.node (Tr.one d x f (k / 2)) d .leaf else Tr.node .leaf d (Tr.one d x f (k / 2 - 1)) := by
  show cond (Nat.beq k 0) (Tr.node .leaf x .leaf) (cond (Nat.beq (k % 2) 1) (Tr.node (Tr.one d x f (k / 2)) d .leaf) (Tr.node .leaf d (Tr.one d x f (k / 2 - 1)))) = _
  by_cases h : k = 0
  · subst h; rfl
  · have e : Nat.beq k 0 = false := by rw [Bool.eq_false_iff]; exact fun h' => h (Nat.eq_of_beq_eq_true h')
    rw [if_neg h, e]
    by_cases h2 : k % 2 = 1
    · rw [if_pos h2, h2]; rfl
    · have e2 : Nat.beq (k % 2) 1 = false := by rw [Bool.eq_false_iff]; exact fun h' => h2 (Nat.eq_of_beq_eq_true h')
      rw [if_neg h2, e2]; rfl
theorem Tr.get_one_ne {α : Type} (d x : α) : ∀ (f k j : Nat), j ≠ k → (Tr.one d x f k).get d j = d
  | 0, _, _, _ => rfl
  | f+1, k, j, h => by
    rw [Tr.one_succ]
    split
    · rw [Tr.get_node]; split
      · omega
      · split <;> rfl
    · split
      · rw [Tr.get_node]; split
        · rfl
        · split
          · exact Tr.get_one_ne d x f _ _ (by omega)
          · rfl
      · rw [Tr.get_node]; split
        · rfl
        · split
          · rfl
          · exact Tr.get_one_ne d x f _ _ (by omega)
theorem Tr.get_one {α : Type} (d x : α) : ∀ (f k : Nat), k + 1 < 2 ^ f → (Tr.one d x f k).get d k = x
  | 0, k, h => by simp at h
  | f+1, k, h => by
    rw [Tr.one_succ]
    have h2 : 2 ^ (f + 1) = 2 * 2 ^ f := by rw [Nat.pow_succ]; omega
    split <;> (try split) <;> rw [Tr.get_node] <;> simp_all <;> exact Tr.get_one d x f _ (by omega)
theorem Tr.get_set_ne {α : Type} (d x : α) (f k j : Nat) (t : Tr α) (h : j ≠ k) : (Tr.set d x f k t).get d j = t.get d j := by
  induction t generalizing k j with
  | leaf => exact Tr.get_one_ne d x f k j h
  | node l v r ihl ihr =>
    rw [Tr.set_node]
    split
    · rw [Tr.get_node, Tr.get_node]; split
      · omega
      · rfl
    · split
      · rw [Tr.get_node, Tr.get_node]; split
        · rfl
        · split
          · rw [ihl _ _ (by omega)]
          · rfl
      · rw [Tr.get_node, Tr.get_node]; split
        · rfl
        · split
          · rfl
          · rw [ihr _ _ (by omega)]
theorem Tr.get_set {α : Type} (d x : α) (f k : Nat) (t : Tr α) (h : k + 1 < 2 ^ f) : (Tr.set d x f k t).get d k = x := by
  induction t generalizing k with
  | leaf => exact Tr.get_one d x f k h
  | node l v r ihl ihr =>
    rw [Tr.set_node]
    split <;> (try split) <;> rw [Tr.get_node] <;> simp_all
    · exact ihl _ (by omega)
    · exact ihr _ (by omega)

/-- Values. -/
inductive AV where
  | top
  | undef
  | int (k : IntKind) (n : Int)
  | bool (b : Bool)
  | str (s : List UInt8)
  | nilp
  | ptr (b o : Nat)
  | nils
  | sl (b o len cap : Nat)
  | slu (b o len esz : Nat)
  | nilm
  | mapp (b : Nat)
  | nilfn
  | fn (f : Nat) (cs : List AV)
  | fnm (f : Nat) (cs : List AV)
  | nili
  | ifc (t : Nat) (v : AV)
  | agg (cs : List AV)
  | tup (vs : List AV)
/-- Blocks. -/
inductive AB where
  | none
  | cells (cs : List AV)
  | mapb (es : List (AV × AV × Nat)) (clock : Nat)
  | iter (m clock : Nat) (cur : Option Nat)
/-- Memory: the blocks, the next one's number. -/
structure AS where
  h : Tr AB
  n : Nat
/-- How abstract blocks lie: which there are; where; how many cells; what a look over a map is, to the sign. -/
structure Env where
  ok : Nat → Prop
  r : Nat → Nat
  k : Nat → Nat
  z : Nat → Obj
structure Env.le (E F : Env) : Prop where
  ok : ∀ b, E.ok b → F.ok b
  r : ∀ b, E.ok b → F.r b = E.r b
  k : ∀ b, E.ok b → F.k b = E.k b
theorem Env.le.refl (E : Env) : E.le E := ⟨fun _ h => h, fun _ _ => rfl, fun _ _ => rfl⟩
theorem Env.le.trans {E F G : Env} (h : E.le F) (g : F.le G) : E.le G :=
  ⟨fun b hb => g.ok b (h.ok b hb), fun b hb => (g.r b (h.ok b hb)).trans (h.r b hb), fun b hb => (g.k b (h.ok b hb)).trans (h.k b hb)⟩

/-- A value stands for a value. -/
inductive VR (E : Env) : AV → Value → Prop
  | top (v : Value) : VR E .top v
  | undef : VR E .undef (.tuple #[])
  | int (k : IntKind) (n : Int) : VR E (.int k n) (.int k n)
  | bool (b : Bool) : VR E (.bool b) (.bool b)
  | str (l : List UInt8) : VR E (.str l) (.string ⟨l.toArray⟩)
  | nilp : VR E .nilp (.pointer none)
  | ptr (b o : Nat) (h : E.ok b) : VR E (.ptr b o) (.pointer (some ⟨E.r b, o, none⟩))
  | nils : VR E .nils (.slice none 0 0)
  | sl (b o len cap : Nat) (h : E.ok b) : VR E (.sl b o len cap) (.slice (some ⟨E.r b, o, none⟩) len cap)
  | slu (b o len esz cap : Nat) (h : E.ok b) (hl : len ≤ cap) (hk : o + cap * esz = E.k b) : VR E (.slu b o len esz) (.slice (some ⟨E.r b, o, none⟩) len cap)
  | nilm : VR E .nilm (.map none)
  | mapp (b : Nat) (h : E.ok b) : VR E (.mapp b) (.map (some (E.r b)))
  | nilfn : VR E .nilfn .nilFunc
  | fn (f : Nat) (cs : List AV) (vs : Array Value) (hl : cs.length = vs.size) (h : ∀ (i : Nat) c v, cs[i]? = some c → vs[i]? = some v → VR E c v) : VR E (.fn f cs) (.func (.func f) #[] vs)
  | fnm (f : Nat) (cs : List AV) (vs : Array Value) (hl : cs.length = vs.size) (h : ∀ (i : Nat) c v, cs[i]? = some c → vs[i]? = some v → VR E c v) : VR E (.fnm f cs) (.func (.func f) vs #[])
  | nili : VR E .nili .nilIface
  | ifc (t : Nat) (a : AV) (v : Value) (h : VR E a v) : VR E (.ifc t a) (.iface t v)
  | agg (cs : List AV) (vs : Array Value) (hl : cs.length = vs.size) (h : ∀ (i : Nat) c v, cs[i]? = some c → vs[i]? = some v → VR E c v) : VR E (.agg cs) (.agg vs)
  | tup (cs : List AV) (vs : Array Value) (hl : cs.length = vs.size) (h : ∀ (i : Nat) c v, cs[i]? = some c → vs[i]? = some v → VR E c v) : VR E (.tup cs) (.tuple vs)
theorem VR.mono {E F : Env} (hE : E.le F) {a : AV} {v : Value} (h : VR E a v) : VR F a v := by
  induction h with
  | top v => exact .top v
  | undef => exact .undef
  | int k n => exact .int k n
  | bool b => exact .bool b
  | str l => exact .str l
  | nilp => exact .nilp
  | ptr b o h => rw [← hE.r b h]; exact .ptr b o (hE.ok b h)
  | nils => exact .nils
  | sl b o len cap h => rw [← hE.r b h]; exact .sl b o len cap (hE.ok b h)
  | slu b o len esz cap h hl hk => rw [← hE.r b h]; exact .slu b o len esz cap (hE.ok b h) hl (by rw [hk, hE.k b h])
  | nilm => exact .nilm
  | mapp b h => rw [← hE.r b h]; exact .mapp b (hE.ok b h)
  | nilfn => exact .nilfn
  | fn f cs vs hl h ih => exact .fn f cs vs hl ih
  | fnm f cs vs hl h ih => exact .fnm f cs vs hl ih
  | nili => exact .nili
  | ifc t a v h ih => exact .ifc t a v ih
  | agg cs vs hl h ih => exact .agg cs vs hl ih
  | tup cs vs hl h ih => exact .tup cs vs hl ih
/-- Lists of values. -/
structure VL (E : Env) (l : List AV) (a : List Value) : Prop where
  len : l.length = a.length
  at_ : ∀ (i : Nat) c v, l[i]? = some c → a[i]? = some v → VR E c v
theorem VL.mono {E F : Env} (hE : E.le F) {l : List AV} {a : List Value} (h : VL E l a) : VL F l a := ⟨h.len, fun i c v h1 h2 => (h.at_ i c v h1 h2).mono hE⟩
theorem VL.nil {E : Env} : VL E [] [] := ⟨rfl, fun i c v h _ => by simp at h⟩
theorem VL.cons {E : Env} {c : AV} {v : Value} {l : List AV} {a : List Value} (h : VR E c v) (h2 : VL E l a) : VL E (c :: l) (v :: a) :=
  ⟨by simp [h2.len], fun i c' v' h1 h3 => by
    cases i with
    | zero => simp at h1 h3; subst h1; subst h3; exact h
    | succ i => exact h2.at_ i c' v' (by simpa using h1) (by simpa using h3)⟩
theorem VL.head {E : Env} {c : AV} {v : Value} {l : List AV} {a : List Value} (h : VL E (c :: l) (v :: a)) : VR E c v := h.at_ 0 _ _ rfl rfl
theorem VL.tail {E : Env} {c : AV} {v : Value} {l : List AV} {a : List Value} (h : VL E (c :: l) (v :: a)) : VL E l a :=
  ⟨by have := h.len; simpa using this, fun i c' v' h1 h2 => h.at_ (i + 1) c' v' (by simpa using h1) (by simpa using h2)⟩
theorem VL.append {E : Env} {l l' : List AV} {a a' : List Value} (h : VL E l a) (h' : VL E l' a') : VL E (l ++ l') (a ++ a') :=
  ⟨by simp [h.len, h'.len], fun i c v h1 h2 => by
    rcases Nat.lt_or_ge i l.length with hi | hi
    · rw [List.getElem?_append_left hi] at h1
      rw [List.getElem?_append_left (by rw [← h.len]; exact hi)] at h2
      exact h.at_ i c v h1 h2
    · rw [List.getElem?_append_right hi] at h1
      rw [List.getElem?_append_right (by rw [← h.len]; exact hi), ← h.len] at h2
      exact h'.at_ _ c v h1 h2⟩
theorem VL.take {E : Env} {l : List AV} {a : List Value} (h : VL E l a) (n : Nat) : VL E (l.take n) (a.take n) :=
  ⟨by simp [h.len], fun i c v h1 h2 => by
    rw [List.getElem?_take] at h1 h2
    split at h1
    · rename_i hi; rw [if_pos hi] at h2; exact h.at_ i c v h1 h2
    · cases h1⟩
theorem VL.drop {E : Env} {l : List AV} {a : List Value} (h : VL E l a) (n : Nat) : VL E (l.drop n) (a.drop n) :=
  ⟨by simp [h.len], fun i c v h1 h2 => by rw [List.getElem?_drop] at h1 h2; exact h.at_ _ c v h1 h2⟩
theorem VL.exists_at {E : Env} {l : List AV} {a : List Value} (h : VL E l a) {i : Nat} {c : AV} (hc : l[i]? = some c) : ∃ v, a[i]? = some v ∧ VR E c v := by
  have hi : i < a.length := by rw [← h.len]; exact (List.getElem?_eq_some_iff.1 hc).1
  exact ⟨a[i], List.getElem?_eq_getElem hi, h.at_ i c _ hc (List.getElem?_eq_getElem hi)⟩

/-- A block stands for a block. -/
def BR (E : Env) (b : Nat) : AB → Obj → Prop
  | .none, _ => True
  | .cells cs, o => ∃ (c : Array Value) (ty : TypeId) (fz : Nat × Nat), o = .cells c ty fz ∧ c.size = E.k b ∧ cs.length ≤ c.size ∧ VL E cs (c.toList.take cs.length) ∧ (∀ i, i < c.size → ¬ (fz.1 ≤ i ∧ i < fz.2))
  | .mapb es clock, o => ∃ xs : Array MapEntry, o = .map xs clock ∧ VL E (es.map (·.1)) (xs.toList.map (·.key)) ∧ VL E (es.map (·.2.1)) (xs.toList.map (·.val)) ∧ es.map (·.2.2) = xs.toList.map (·.born)
  | .iter m clock cur, o => E.ok m ∧ E.z b = o ∧ ∃ seen : Array Nat, o = .mapIter (some (E.r m)) clock seen clock ∧ seen.back? = cur
theorem BR.mono {E F : Env} (hE : E.le F) {b : Nat} (hb : E.ok b) (hz : F.z b = E.z b) {x : AB} {o : Obj} (h : BR E b x o) : BR F b x o := by
  cases x with
  | none => trivial
  | cells cs =>
    obtain ⟨c, ty, fz, h1, h2, h3, h4, h5⟩ := h
    exact ⟨c, ty, fz, h1, by rw [hE.k b hb]; exact h2, h3, h4.mono hE, h5⟩
  | mapb es clock =>
    obtain ⟨xs, h1, h2, h3, h4⟩ := h
    exact ⟨xs, h1, h2.mono hE, h3.mono hE, h4⟩
  | iter m clock cur =>
    obtain ⟨h0, hz', seen, h1, h2⟩ := h
    exact ⟨hE.ok m h0, hz.trans hz', seen, by rw [hE.r m h0]; exact h1, h2⟩
noncomputable def AS.get (s : AS) (b : Nat) : AB := s.h.get .none b
noncomputable def AS.put (s : AS) (b : Nat) (x : AB) : AS := ⟨s.h.set .none x 40 b, s.n⟩
noncomputable def AS.new (s : AS) (x : AB) : AS := ⟨s.h.set .none x 40 s.n, Nat.succ s.n⟩
theorem AS.get_put_ne (s : AS) (b : Nat) (x : AB) (c : Nat) (h : c ≠ b) : (s.put b x).get c = s.get c := Tr.get_set_ne _ _ _ _ _ _ h
theorem AS.get_put (s : AS) (b : Nat) (x : AB) (h : b < 1000000000) : (s.put b x).get b = x := Tr.get_set _ _ _ _ _ (by omega)
theorem AS.get_new_ne (s : AS) (x : AB) (c : Nat) (h : c ≠ s.n) : (s.new x).get c = s.get c := Tr.get_set_ne _ _ _ _ _ _ h
theorem AS.get_new (s : AS) (x : AB) (h : s.n < 1000000000) : (s.new x).get s.n = x := Tr.get_set _ _ _ _ _ (by omega)
/-- Memory stands for memory. -/
structure HR (E : Env) (g : Nat → AB) (w : World) : Prop where
  at_ : ∀ b, g b ≠ .none → E.ok b ∧ b < 1000000000 ∧ ∃ o, w.heap[E.r b]? = some o ∧ BR E b (g b) o
  inj : ∀ b c, g b ≠ .none → g c ≠ .none → E.r b = E.r c → b = c
/-- What a step turns. -/
structure Stp (E : Env) (g : Nat → AB) (w : World) (E' : Env) (g' : Nat → AB) (w' : World) : Prop where
  os : w'.os = w.os
  tape : w'.tape = w.tape
  output : w'.output = w.output
  size : w.heap.size ≤ w'.heap.size
  le : E.le E'
  z : ∀ b, E.ok b → E'.z b = E.z b
  keep : ∀ d, d < w.heap.size → (∀ b, g b ≠ .none → E.r b ≠ d) → w'.heap[d]? = w.heap[d]?
  dom : ∀ b, g' b ≠ .none → w.heap.size ≤ E'.r b ∨ ∃ c, g c ≠ .none ∧ E.r c = E'.r b
/-- Numbers given out. -/
structure Grow (E : Env) (n : Nat) (E' : Env) (n' : Nat) : Prop where
  le : n ≤ n'
  ok : ∀ b, E'.ok b → E.ok b ∨ (n ≤ b ∧ b < n')
theorem Grow.refl (E : Env) (n : Nat) : Grow E n E n := ⟨Nat.le_refl _, fun _ h => .inl h⟩
theorem Grow.trans {E F G : Env} {n m k : Nat} (h : Grow E n F m) (g : Grow F m G k) : Grow E n G k :=
  ⟨Nat.le_trans h.le g.le, fun b hb => by
    have := h.le
    have := g.le
    rcases g.ok b hb with h1 | h1
    · rcases h.ok b h1 with h2 | h2
      · exact .inl h2
      · right; omega
    · right; omega⟩
theorem Stp.refl (E : Env) (g : Nat → AB) (w : World) : Stp E g w E g w := ⟨rfl, rfl, rfl, Nat.le_refl _, Env.le.refl E, fun _ _ => rfl, fun _ _ _ => rfl, fun b hb => .inr ⟨b, hb, rfl⟩⟩
theorem Stp.trans {E F G : Env} {s t u : Nat → AB} {w x y : World} (h : Stp E s w F t x) (g : Stp F t x G u y) : Stp E s w G u y := by
  refine ⟨g.os.trans h.os, g.tape.trans h.tape, g.output.trans h.output, Nat.le_trans h.size g.size, h.le.trans g.le, fun b hb => (g.z b (h.le.ok b hb)).trans (h.z b hb), fun d hd hn => ?_, fun b hb => ?_⟩
  · refine (g.keep d (Nat.lt_of_lt_of_le hd h.size) fun b hb e => ?_).trans (h.keep d hd hn)
    rcases h.dom b hb with h1 | ⟨c, hc, h1⟩
    · omega
    · exact hn c hc (h1.trans e)
  · rcases g.dom b hb with h1 | ⟨c, hc, h1⟩
    · exact .inl (Nat.le_trans h.size h1)
    · rcases h.dom c hc with h2 | ⟨d, hd, h2⟩
      · exact .inl (by rw [← h1]; exact h2)
      · exact .inr ⟨d, hd, h2.trans h1⟩
/-- From nothing on: all that was there is as it was. -/
theorem Stp.below {E F : Env} {s t : Nat → AB} {w x : World} (h : Stp E s w F t x) (h0 : ∀ b, s b = .none) : Below w.heap.size w x :=
  ⟨h.os, h.tape, h.output, h.size, fun d hd => h.keep d hd fun b hb => absurd (h0 b) hb⟩
end Go.Proofs.YtkjcjfpglpnaaaaGreatDoor
