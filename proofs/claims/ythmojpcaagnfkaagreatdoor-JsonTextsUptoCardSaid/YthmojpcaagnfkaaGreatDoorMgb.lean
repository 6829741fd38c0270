/-
  The abstract machine: regions that draw their order: one operation's step, two that may change places. No program.
-/
import Derived.Test.YthmojpcaagnfkaaGreatDoorMga
import Derived.Lib.Bytealg
import Derived.Defers
import Derived.Recover
namespace Go.Proofs.YthmojpcaagnfkaaGreatDoor
open Go.RowKit

/-- What the evaluator does hangs on the operands alone. -/
theorem opA_congr {P : Program} {o : Op} {ev ev' : Operand → AV} {s : AS} (h : ∀ x ∈ o.operands, ev x = ev' x) : opA P o ev s = opA P o ev' s := by
  have pairs : ∀ ps : Array (Nat × Operand), (∀ x ∈ (ps.toList.map (·.2)).toArray, ev x = ev' x) → (ps.toList.map fun p => (p.1, ev p.2)) = (ps.toList.map fun p => (p.1, ev' p.2)) := fun ps hp =>
    List.map_congr_left fun p hm => by
      rw [hp p.2 (by simpa using ⟨p.1, by simpa using hm⟩)]
  cases o <;> try rfl
  case move x => exact congrArg (fun v => some (v, s)) (h x (by simp [Op.operands]))
  case assign x => exact congrArg (fun v => some (v, s)) (h x (by simp [Op.operands]))
  case pick c a b => unfold opA; dsimp only; rw [h c (by simp [Op.operands]), h a (by simp [Op.operands]), h b (by simp [Op.operands])]
  case box t x => unfold opA; dsimp only; rw [h x (by simp [Op.operands])]
  case build t ps => unfold opA; dsimp only; rw [pairs ps h]
  case buildSlice t n ps => unfold opA; dsimp only; rw [pairs ps h]
  case insert t m k v => unfold opA; dsimp only; rw [h m (by simp [Op.operands]), h k (by simp [Op.operands]), h v (by simp [Op.operands])]
  case mapUpdate t m k v => unfold opA; dsimp only; rw [h m (by simp [Op.operands]), h k (by simp [Op.operands]), h v (by simp [Op.operands])]
  case load t a => unfold opA; dsimp only; rw [h a (by simp [Op.operands])]
  case store t a v => unfold opA; dsimp only; rw [h a (by simp [Op.operands]), h v (by simp [Op.operands])]
  case nilCheck x => unfold opA; dsimp only; rw [h x (by simp [Op.operands])]
  case binOp op t x y ty => unfold opA; dsimp only; rw [h x (by simp [Op.operands]), h y (by simp [Op.operands])]
  case unOp op t x => unfold opA; dsimp only; rw [h x (by simp [Op.operands])]
  case convert a b x => unfold opA; dsimp only; rw [h x (by simp [Op.operands])]
  case makeInterface t x => unfold opA; dsimp only; rw [h x (by simp [Op.operands])]
  case makeFunc fn first captured =>
    cases fn <;> try rfl
    unfold opA
    dsimp only
    rw [show captured.toList.map ev = captured.toList.map ev' from List.map_congr_left fun x hx => h x (by simp only [Op.operands, Array.mem_append]; right; simpa using hx), show first.toList.map ev = first.toList.map ev' from List.map_congr_left fun x hx => h x (by simp only [Op.operands, Array.mem_append]; left; simpa using hx)]
  case makeMap t r => cases r <;> rfl
  case makeSlice t l c => unfold opA; dsimp only; rw [h l (by simp [Op.operands]), h c (by simp [Op.operands])]
  case slice t x lo hi mx =>
    unfold opA
    dsimp only
    have e1 : lo.map ev = lo.map ev' := by
      cases lo with
      | none => rfl
      | some y => exact congrArg some (h y (by simp [Op.operands]))
    have e2 : hi.map ev = hi.map ev' := by
      cases hi with
      | none => rfl
      | some y => exact congrArg some (h y (by simp [Op.operands]))
    have e3 : mx.map ev = mx.map ev' := by
      cases mx with
      | none => rfl
      | some y => exact congrArg some (h y (by simp [Op.operands]))
    rw [h x (by simp [Op.operands]), e1, e2, e3]
  case fieldAddr t x f => unfold opA; dsimp only; rw [h x (by simp [Op.operands])]
  case field t x f => unfold opA; dsimp only; rw [h x (by simp [Op.operands])]
  case indexAddr t x i => unfold opA; dsimp only; rw [h x (by simp [Op.operands]), h i (by simp [Op.operands])]
  case index t x i => unfold opA; dsimp only; rw [h x (by simp [Op.operands]), h i (by simp [Op.operands])]
  case lookup t x i ok => unfold opA; dsimp only; rw [h x (by simp [Op.operands]), h i (by simp [Op.operands])]
  case extract x i => unfold opA; dsimp only; rw [h x (by simp [Op.operands])]
  case range t x => unfold opA; dsimp only; rw [h x (by simp [Op.operands])]
  case entry x => unfold opA; dsimp only; rw [h x (by simp [Op.operands])]
  case typeAssert x a b ok => unfold opA; dsimp only; rw [h x (by simp [Op.operands])]
theorem evOp_congr [Tab] {P : Program} {call : Nat → List AV → AS → Option (AV × AS)} {ops : Array Oper} {o : Oper} {f f' : Nat → AV} (h : ∀ k ∈ o.looksAt ops, f k = f' k) : evOp P call o (oevF f) = evOp P call o (oevF f') := by
  have hop : ∀ x ∈ o.op.operands, oevF f x = oevF f' x := by
    intro x hx
    cases x with
    | tmp k => exact h k (List.mem_append_left _ (List.mem_filterMap.2 ⟨.tmp k, by simpa using hx, rfl⟩))
    | _ => rfl
  funext s
  unfold evOp
  split
  · rename_i c hc
    rw [hc] at hop
    simp only [Op.operands, Call.operands] at hop
    have hargs : c.args.toList.map (oevF f) = c.args.toList.map (oevF f') := List.map_congr_left fun x hx => hop x (by simp only [Array.mem_append]; right; simpa using hx)
    unfold callA
    rw [hargs]
    split
    · rename_i g hg
      rw [hg] at hop
      rw [hop g (by simp)]
    · rfl
    · rfl
  · exact opA_congr hop
theorem wantF_congr [Tab] {ops : Array Oper} {o : Oper} {f f' : Nat → AV} (h : ∀ k ∈ o.looksAt ops, f k = f' k) : wantF ops o f = wantF ops o f' := by
  unfold wantF
  split
  · rfl
  · rename_i q hg
    split
    · rename_i oj hj
      replace hj : ops[q.1]? = some oj := by rw [nthO_eq, Array.getElem?_toList] at hj; exact hj
      split
      · rename_i d hd
        rw [h d (by simp [Oper.looksAt, hg, hj, hd])]
      · rfl
    · rfl
/-- Classes: 0 none of memory; 1 reads; 2 makes a block; 3 may do anything. -/
noncomputable def clsO (o : Oper) : Nat := match o.op with
  | .alloc _ => 2
  | .box _ _ => 2
  | .buildSlice _ _ _ => 2
  | .makeMap _ _ => 2
  | .makeSlice _ _ _ => 2
  | .store _ _ _ => 3
  | .insert _ _ _ _ => 3
  | .mapUpdate _ _ _ _ => 3
  | .range _ _ => 3
  | .entry _ => 1
  | .load _ _ => 1
  | .lookup _ _ _ _ => 1
  | .convert _ _ _ => 1
  | .call c => match c.callee with
    | .builtin .len => 1
    | _ => 3
  | _ => 0
theorem withS_all {s s' : AS} {r : Option AV} {v : AV} (h : withS s r = some (v, s')) : s' = s ∧ ∀ s2, withS s2 r = some (v, s2) := by
  cases r with
  | none => cases h
  | some u =>
    injection h with h
    injection h with e1 e2
    subst e1
    subst e2
    exact ⟨rfl, fun _ => rfl⟩
theorem evOp_pure [Tab] {P : Program} {call : Nat → List AV → AS → Option (AV × AS)} {o : Oper} {ev : Operand → AV} {s s' : AS} {v : AV} (hc : clsO o = 0) (h : evOp P call o ev s = some (v, s')) : s' = s ∧ ∀ s2, evOp P call o ev s2 = some (v, s2) := by
  obtain ⟨dst, op, type, pos, after, guard⟩ := o
  cases op <;> try (cases hc; done)
  all_goals try (cases h; done)
  all_goals try (exact withS_all h)
  case move x => injection h with h; injection h with e1 e2; subst e1; subst e2; exact ⟨rfl, fun _ => rfl⟩
  case assign x => injection h with h; injection h with e1 e2; subst e1; subst e2; exact ⟨rfl, fun _ => rfl⟩
  case pick c a b =>
    unfold evOp opA at h ⊢
    dsimp only at h ⊢
    split at h
    · rename_i q hq
      injection h with h
      injection h with e1 e2
      subst e1
      subst e2
      exact ⟨rfl, fun s2 => rfl⟩
    · cases h
  case nilCheck x =>
    unfold evOp opA at h ⊢
    dsimp only at h ⊢
    split at h
    · injection h with h
      injection h with e1 e2
      subst e1
      subst e2
      exact ⟨rfl, fun s2 => rfl⟩
    · injection h with h
      injection h with e1 e2
      subst e1
      subst e2
      exact ⟨rfl, fun s2 => rfl⟩
    · injection h with h
      injection h with e1 e2
      subst e1
      subst e2
      exact ⟨rfl, fun s2 => rfl⟩
    · cases h
  case makeInterface t x =>
    unfold evOp opA at h ⊢
    dsimp only at h ⊢
    split at h
    · rename_i d hd
      cases hid : ifcD d with
      | true => rw [hid] at h; cases h
      | false =>
        rw [hid] at h
        injection h with h
        injection h with e1 e2
        subst e1
        subst e2
        exact ⟨rfl, fun s2 => rfl⟩
    · cases h
  case makeFunc fn first captured =>
    cases fn <;> try (cases h; done)
    unfold evOp opA at h ⊢
    dsimp only at h ⊢
    split at h
    · injection h with h
      injection h with e1 e2
      subst e1
      subst e2
      exact ⟨rfl, fun s2 => rfl⟩
    · split at h
      · injection h with h
        injection h with e1 e2
        subst e1
        subst e2
        exact ⟨rfl, fun s2 => rfl⟩
      · cases h
  case call c =>
    unfold clsO at hc
    dsimp only at hc
    split at hc <;> cases hc
theorem newA_n [Tab] {s s' : AS} {cs : List AV} {ty : Nat} {v : AV} (h : newA s cs ty = some (v, s')) : s'.n = s.n + 1 := by
  obtain ⟨_, _, rfl⟩ := newA_ok h
  rfl
theorem cond_some {α : Type} {c : Bool} {a : Option α} {x : α} (h : cond c a none = some x) : a = some x := by
  cases c
  · cases h
  · exact h
theorem evOp_read [Tab] {P : Program} {call : Nat → List AV → AS → Option (AV × AS)} {o : Oper} {ev : Operand → AV} {s s' : AS} {v : AV} (hc : clsO o = 1) (h : evOp P call o ev s = some (v, s')) (hn : s'.n = s.n) : s' = s := by
  obtain ⟨dst, op, type, pos, after, guard⟩ := o
  cases op <;> try (cases hc; done)
  case load t a => exact (withS_all h).1
  case lookup t x i ok => exact (withS_all h).1
  case entry x => exact (withS_all h).1
  case convert a b x =>
    replace h : convA P a b (ev x) s = some (v, s') := h
    unfold convA at h
    repeat' (first | (split at h) | (cases h; done) | (injection h with h; injection h with e1 e2; exact e2.symm))
    all_goals try (cases h; done)
    all_goals try (injection h with h; injection h with e1 e2; exact e2.symm)
    all_goals first
      | (have h := cond_some h
         injection h with h
         injection h with e1 e2
         exact e2.symm)
      | (have h := cond_some (cond_some h)
         injection h with h
         injection h with e1 e2
         exact e2.symm)
      | (have h := cond_some h
         cases h)
      | (have hx := newA_n (by assumption)
         injection h with h
         injection h with e1 e2
         subst e2
         omega)
  case call c =>
    unfold clsO at hc
    dsimp only at hc
    split at hc
    · rename_i hcal
      unfold evOp callA at h
      dsimp only at h
      rw [hcal] at h
      replace h := (noPan_ok h).1
      unfold builtinA at h
      dsimp only at h
      split at h
      · exact (withS_all h).1
      · cases h
    · cases hc
theorem newA_all [Tab] {s s' : AS} {cs : List AV} {ty : Nat} {v : AV} (h : newA s cs ty = some (v, s')) : s' = s.new (.cells cs ty) ∧ ∀ s2 : AS, s2.n = s.n → newA s2 cs ty = some (v, s2.new (.cells cs ty)) := by
  obtain ⟨h1, rfl, rfl⟩ := newA_ok h
  refine ⟨rfl, fun s2 h2 => ?_⟩
  unfold newA at h ⊢
  rw [h2]
  cases hb : Nat.ble (Nat.succ s.n) 1000000000 with
  | false => rw [hb] at h; cases h
  | true => rfl
theorem evOp_new [Tab] {P : Program} {call : Nat → List AV → AS → Option (AV × AS)} {o : Oper} {ev : Operand → AV} {s s' : AS} {v : AV} (hc : clsO o = 2) (h : evOp P call o ev s = some (v, s')) : ∃ c, c ≠ .none ∧ s' = s.new c ∧ ∀ s2 : AS, s2.n = s.n → evOp P call o ev s2 = some (v, s2.new c) := by
  obtain ⟨dst, op, type, pos, after, guard⟩ := o
  cases op <;> try (cases hc; done)
  case alloc t =>
    replace h : allocA P t s = some (v, s') := h
    show ∃ c, c ≠ .none ∧ s' = s.new c ∧ ∀ s2 : AS, s2.n = s.n → allocA P t s2 = some (v, s2.new c)
    unfold allocA at h ⊢
    split at h
    · rename_i cs hz
      obtain ⟨h1, h2⟩ := newA_all h
      exact ⟨_, (by intro e; cases e), h1, h2⟩
    · cases h
  case box t x =>
    replace h : boxA t (ev x) s = some (v, s') := h
    show ∃ c, c ≠ .none ∧ s' = s.new c ∧ ∀ s2 : AS, s2.n = s.n → boxA t (ev x) s2 = some (v, s2.new c)
    unfold boxA at h ⊢
    split at h
    · rename_i cs hz
      obtain ⟨h1, h2⟩ := newA_all h
      exact ⟨_, (by intro e; cases e), h1, h2⟩
    · cases h
  case buildSlice t len ps =>
    replace h : buildSliceA P t len (ps.toList.map fun p => (p.1, ev p.2)) s = some (v, s') := h
    show ∃ c, c ≠ .none ∧ s' = s.new c ∧ ∀ s2 : AS, s2.n = s.n → buildSliceA P t len (ps.toList.map fun p => (p.1, ev p.2)) s2 = some (v, s2.new c)
    unfold buildSliceA at h ⊢
    split at h
    · split at h
      · rename_i ie hie
        split at h
        · rename_i zs hz
          cases h1 : Nat.beq zs.length ie.size with
          | false => rw [h1] at h; cases h
          | true =>
          cases h2 : Nat.ble (Nat.mul len ie.size) 16777216 with
          | false => rw [h1, h2] at h; cases h
          | true =>
          cases h3 : Nat.ble 1 ie.size with
          | false => rw [h1, h2, h3] at h; cases h
          | true =>
            rw [h1, h2, h3] at h
            simp only [cond_true] at h ⊢
            split at h
            · rename_i cs hf
              split at h
              · rename_i b q s'' hn
                injection h with h
                injection h with e1 e2
                subst e1
                subst e2
                obtain ⟨g1, g2⟩ := newA_all hn
                exact ⟨_, (by intro e; cases e), g1, fun s2 hs => by rw [g2 s2 hs]⟩
              · cases h
            · cases h
        · cases h
      · cases h
    · cases h
  case makeSlice t l c =>
    replace h : makeSliceA P t (ev l) (ev c) s = some (v, s') := h
    show ∃ c', c' ≠ .none ∧ s' = s.new c' ∧ ∀ s2 : AS, s2.n = s.n → makeSliceA P t (ev l) (ev c) s2 = some (v, s2.new c')
    unfold makeSliceA at h ⊢
    split at h
    · rename_i kl n kc m e1 e2
      split at h
      · rename_i e hu
        split at h
        · rename_i ie hie
          split at h
          · rename_i zs hz
            cases h1 : Nat.beq zs.length ie.size with
            | false => rw [h1] at h; cases h
            | true =>
            cases h2 : Nat.ble n m with
            | false => rw [h1, h2] at h; cases h
            | true =>
            cases h3 : Nat.ble m 1000000 with
            | false => rw [h1, h2, h3] at h; cases h
            | true =>
            cases h4 : Nat.ble (Nat.mul ie.bytes m) 281474976710656 with
            | false => rw [h1, h2, h3, h4] at h; cases h
            | true =>
            cases h5 : Nat.ble 1 ie.size with
            | false => rw [h1, h2, h3, h4, h5] at h; cases h
            | true =>
              rw [h1, h2, h3, h4, h5] at h
              simp only [cond_true] at h ⊢
              cases hbig : bigA zs n m with
              | true =>
                rw [hbig] at h
                simp only [cond_true] at h ⊢
                cases h6 : Nat.ble (Nat.succ s.n) 1000000000 with
                | false => rw [h6] at h; cases h
                | true =>
                  rw [h6] at h
                  injection h with h
                  injection h with e1 e2
                  subst e1
                  subst e2
                  exact ⟨_, (by intro e; cases e), rfl, fun s2 hs => by rw [hs, h6]; rfl⟩
              | false =>
                rw [hbig] at h
                simp only [cond_false] at h ⊢
                split at h
                · rename_i b q s'' hn
                  injection h with h
                  injection h with e1 e2
                  subst e1
                  subst e2
                  obtain ⟨g1, g2⟩ := newA_all hn
                  exact ⟨_, (by intro e; cases e), g1, fun s2 hs => by rw [g2 s2 hs]⟩
                · cases h
          · cases h
        · cases h
      · cases h
    · cases h
  case makeMap t r =>
    cases r with
    | some _ => cases h
    | none =>
      replace h : makeMapA s = some (v, s') := h
      show ∃ c, c ≠ .none ∧ s' = s.new c ∧ ∀ s2 : AS, s2.n = s.n → makeMapA s2 = some (v, s2.new c)
      unfold makeMapA at h ⊢
      cases hb : Nat.ble (Nat.succ s.n) 1000000000 with
      | false => rw [hb] at h; cases h
      | true =>
        rw [hb] at h
        injection h with h
        injection h with e1 e2
        subst e1
        subst e2
        exact ⟨_, (by intro e; cases e), rfl, fun s2 hs => by rw [hs, hb]; rfl⟩
  case call c =>
    unfold clsO at hc
    dsimp only at hc
    split at hc <;> cases hc
/-- A conversion: it reads, or it makes a block. -/
noncomputable def isConv (o : Oper) : Bool := match o.op with
  | .convert _ _ _ => true
  | _ => false
theorem evOp_conv [Tab] {P : Program} {call : Nat → List AV → AS → Option (AV × AS)} {o : Oper} {ev : Operand → AV} {s s' : AS} {v : AV} (hc : isConv o = true) (h : evOp P call o ev s = some (v, s')) (hn : s'.n = s.n + 1) : ∃ c, c ≠ .none ∧ s' = s.new c ∧ ∀ s2 : AS, s2.n = s.n → evOp P call o ev s2 = some (v, s2.new c) := by
  obtain ⟨dst, op, type, pos, after, guard⟩ := o
  cases op <;> try (cases hc; done)
  rename_i a b x
  replace h : convA P a b (ev x) s = some (v, s') := h
  show ∃ c, c ≠ .none ∧ s' = s.new c ∧ ∀ s2 : AS, s2.n = s.n → convA P a b (ev x) s2 = some (v, s2.new c)
  have no : ∀ {u : AV}, (some (u, s) : Option (AV × AS)) = some (v, s') → False := fun e => by
    injection e with e
    injection e with e1 e2
    subst e2
    omega
  unfold convA at h ⊢
  split at h
  · cases h
  · split at h
    · split at h
      · exact (no h).elim
      · split at h
        · exact (no (cond_some h)).elim
        · cases h
      · cases h
    · exfalso
      repeat' (first | (split at h) | (cases h; done) | exact no h | (have h := cond_some h))
    · split at h
      · split at h
        · split at h
          · split at h
            · rename_i c q s'' hq
              injection h with h
              injection h with e1 e2
              subst e1
              subst e2
              obtain ⟨g1, g2⟩ := newA_all hq
              exact ⟨_, (by intro e; cases e), g1, fun s2 hs => by simp only [g2 s2 hs]⟩
            · cases h
          · cases h
        · cases h
      · cases h
    · cases h
/-- A region's state: slots; memory; blocks made and not yet seen by anything that acts; memory as it stood ahead of what has acted; what has been read. -/
structure DS where
  t : Nat → AV
  g : AS
  x : Nat → AB
  hist : Nat → AS → Prop
  rds : Nat → AS → Prop
  st : Nat → Nat → Prop
noncomputable def addS (h : Nat → Nat → Prop) (i b : Nat) : Nat → Nat → Prop := fun e c => h e c ∨ (e = i ∧ c = b)
noncomputable def updT (f : Nat → AV) (d : Option Nat) (v : AV) : Nat → AV := fun k => if d = some k then v else f k
noncomputable def addH (h : Nat → AS → Prop) (i : Nat) (g : AS) : Nat → AS → Prop := fun e s => h e s ∨ (e = i ∧ s = g)
noncomputable def addR (h : Nat → AS → Prop) (i : Nat) (c : AS → Prop) : Nat → AS → Prop := fun e s => h e s ∧ (e = i → c s)
noncomputable def updF {α : Type} (f : Nat → α) (i : Nat) (v : α) : Nat → α := fun k => if k = i then v else f k
/-- Blocks laid. -/
noncomputable def preA (base : Nat) (p : Nat → Bool) (x : Nat → AB) : Nat → AS → AS
  | 0, g => g
  | k + 1, g => match p k with
    | false => preA base p x k g
    | true => match x k with
      | .none => preA base p x k g
      | c => (preA base p x k g).put (Nat.add base k) c
theorem preA_n [Tab] (base : Nat) (p : Nat → Bool) (x : Nat → AB) (g : AS) : ∀ k, (preA base p x k g).n = g.n
  | 0 => rfl
  | k + 1 => by
    unfold preA
    split
    · exact preA_n base p x g k
    · split
      · exact preA_n base p x g k
      · exact preA_n base p x g k
theorem preA_out [Tab] (base : Nat) (p : Nat → Bool) (x : Nat → AB) (g : AS) {b : Nat} : ∀ k, (∀ j, j < k → b = base + j → p j = false ∨ x j = .none) → (preA base p x k g).get b = g.get b
  | 0, _ => rfl
  | k + 1, h => by
    have ih := preA_out base p x g k fun j hj => h j (Nat.lt_succ_of_lt hj)
    unfold preA
    split
    · exact ih
    · rename_i hp
      split
      · exact ih
      · rename_i hne
        by_cases e : b = base + k
        · rcases h k (Nat.lt_succ_self _) e with h1 | h1
          · rw [hp] at h1; cases h1
          · exact absurd h1 hne
        · exact ((preA base p x k g).get_put_ne (base + k) _ b e).trans ih
theorem preA_in [Tab] (base : Nat) (p : Nat → Bool) (x : Nat → AB) (g : AS) {j : Nat} : ∀ k, j < k → p j = true → x j ≠ .none → base + j < 1000000000 → (preA base p x k g).get (base + j) = x j
  | 0, h, _, _, _ => absurd h (Nat.not_lt_zero _)
  | k + 1, h, hp, hx, hl => by
    by_cases e : j = k
    · subst e
      unfold preA
      rw [hp]
      dsimp only
      split
      · rename_i h0; exact absurd h0 hx
      · exact (preA base p x j g).get_put (base + j) _ hl
    · have ih := preA_in base p x g k (by omega) hp hx hl
      unfold preA
      split
      · exact ih
      · split
        · exact ih
        · exact ((preA base p x k g).get_put_ne (base + k) _ _ (by omega)).trans ih
theorem preA_congr [Tab] {base : Nat} {p p' : Nat → Bool} {x x' : Nat → AB} {g : AS} : ∀ k, (∀ j, j < k → p j = p' j ∧ (p j = true → x j = x' j)) → preA base p x k g = preA base p' x' k g
  | 0, _ => rfl
  | k + 1, h => by
    have ih := preA_congr (base := base) (g := g) k fun j hj => h j (Nat.lt_succ_of_lt hj)
    obtain ⟨h1, h2⟩ := h k (Nat.lt_succ_self _)
    unfold preA
    rw [← h1, ih]
    split
    · rfl
    · rename_i hp
      rw [h2 hp]
/-- One operation. -/
noncomputable def StepD (P : Program) (call : Nat → List AV → AS → Option (AV × AS)) (nt : Nat) (ops : Array Oper) (base : Nat) (anc : Nat → Nat → Bool) (sB : Nat → Bool) (i : Nat) (d d' : DS) : Prop :=
  ∃ o, ops[i]? = some o ∧ (∀ k, o.dst = some k → k < nt) ∧
  ((wantF ops o d.t = some false ∧ d' = { d with t := updT d.t o.dst .undef })
  ∨ (wantF ops o d.t = some true ∧ clsO o = 0 ∧ ∃ v, (∀ s, evOp P call o (oevF d.t) s = some (v, s)) ∧ d' = { d with t := updT d.t o.dst v })
  ∨ (wantF ops o d.t = some true ∧ clsO o = 1 ∧ ∃ v, evOp P call o (oevF d.t) d.g = some (v, d.g) ∧ (∀ e gb, d.hist e gb → anc e i = false → evOp P call o (oevF d.t) gb = some (v, gb)) ∧
      d' = { d with t := updT d.t o.dst v, rds := addR d.rds i fun s => evOp P call o (oevF d.t) s = some (v, s) })
  ∨ (wantF ops o d.t = some true ∧ (clsO o = 2 ∨ isConv o = true) ∧ ∃ v c, c ≠ .none ∧ (∀ s : AS, s.n = base + i → evOp P call o (oevF d.t) s = some (v, s.new c)) ∧ d' = { d with t := updT d.t o.dst v, x := updF d.x i c })
  ∨ (wantF ops o d.t = some true ∧ clsO o = 3 ∧ sB i = false ∧ ∃ v g', evOp P call o (oevF d.t) (preA base (fun k => anc k i) d.x ops.size d.g) = some (v, g') ∧ (∀ r, anc r i = false → d.rds r g') ∧
      d' = { t := updT d.t o.dst v, g := g', x := fun k => if anc k i = true then .none else d.x k, hist := addH d.hist i d.g, rds := d.rds, st := d.st })
  ∨ (wantF ops o d.t = some true ∧ sB i = true ∧ ∃ b y, d.g.get b ≠ .none ∧ (∀ s : AS, s.get b = d.g.get b → evOp P call o (oevF d.t) s = some (.undef, s.put b y)) ∧ (∀ p c, d.st p c → anc p i = false → c ≠ b) ∧
      d' = { d with t := updT d.t o.dst .undef, g := d.g.put b y, st := addS d.st i b }))
theorem updT_comm {f : Nat → AV} {d e : Option Nat} {u v : AV} (h : ∀ k, d = some k → e ≠ some k) : updT (updT f d u) e v = updT (updT f e v) d u := by
  funext k
  unfold updT
  by_cases h1 : d = some k
  · rw [if_neg (h k h1), if_pos h1, if_pos h1]
  · rw [if_neg h1, if_neg h1]
theorem updF_comm {α : Type} {f : Nat → α} {i j : Nat} {u v : α} (h : i ≠ j) : updF (updF f i u) j v = updF (updF f j v) i u := by
  funext k
  unfold updF
  by_cases h1 : k = i
  · subst h1; rw [if_neg h, if_pos rfl, if_pos rfl]
  · rw [if_neg h1, if_neg h1]
/-- Two that are apart, and of which one at most acts, may change places. -/
theorem StepD.swap [Tab] {P : Program} {call : Nat → List AV → AS → Option (AV × AS)} {nt : Nat} {ops : Array Oper} {base : Nat} {anc : Nat → Nat → Bool} {sB : Nat → Bool} {p i : Nat} {op oi : Oper} {d d1 d2 : DS} (hop : ops[p]? = some op) (hoi : ops[i]? = some oi) (hpi : p ≠ i) (h1 : anc p i = false) (h2 : anc i p = false) (hap : op.apart ops oi = true) (hne : clsO op ≠ 3 ∨ clsO oi ≠ 3 ∨ (sB p = true ∧ sB i = true)) (hp1 : sB p = true → clsO oi ≠ 1) (hi1 : sB i = true → clsO op ≠ 1) (hs3 : ∀ j o, ops[j]? = some o → sB j = true → clsO o = 3)
    (hp : StepD P call nt ops base anc sB p d d1) (hi : StepD P call nt ops base anc sB i d1 d2) : ∃ d1', StepD P call nt ops base anc sB i d d1' ∧ StepD P call nt ops base anc sB p d1' d2 := by
  obtain ⟨a1, a2, a3⟩ := Oper.apart_spec hap
  obtain ⟨op', hop', hdp, hp⟩ := hp
  obtain ⟨oi', hoi', hdi, hi⟩ := hi
  rw [hop] at hop'
  injection hop' with hop'
  subst hop'
  rw [hoi] at hoi'
  injection hoi' with hoi'
  subst hoi'
  have ei : ∀ (v : AV), evOp P call oi (oevF (updT d.t op.dst v)) = evOp P call oi (oevF d.t) := fun v => evOp_congr (ops := ops) fun k hk => if_neg fun e => a1 k e hk
  have ep : ∀ (v : AV), evOp P call op (oevF (updT d.t oi.dst v)) = evOp P call op (oevF d.t) := fun v => evOp_congr (ops := ops) fun k hk => if_neg fun e => a3 k e hk
  have wi : ∀ (v : AV), wantF ops oi (updT d.t op.dst v) = wantF ops oi d.t := fun v => wantF_congr fun k hk => if_neg fun e => a1 k e hk
  have wp : ∀ (v : AV), wantF ops op (updT d.t oi.dst v) = wantF ops op d.t := fun v => wantF_congr fun k hk => if_neg fun e => a3 k e hk
  have hc : ∀ (u v : AV), updT (updT d.t op.dst u) oi.dst v = updT (updT d.t oi.dst v) op.dst u := fun u v => updT_comm a2
  rcases hp with ⟨hwp, rfl⟩ | ⟨hwp, cp, u, hu, rfl⟩ | ⟨hwp, cp, u, hu, hh, rfl⟩ | ⟨hwp, cp, u, cb, hc1, hu, rfl⟩ | ⟨hwp, cp, np, u, g1, hu, hr, rfl⟩ | ⟨hwp, np, b, y, hb0, hu, hs, rfl⟩
  · rcases hi with ⟨hwi, rfl⟩ | ⟨hwi, ci, v, hv, rfl⟩ | ⟨hwi, ci, v, hv, hhi, rfl⟩ | ⟨hwi, ci, v, c2, hc2, hv, rfl⟩ | ⟨hwi, ci, ni, v, g2, hv, hri, rfl⟩ | ⟨hwi, ni, c, z, hc0, hv, hsi, rfl⟩
    · dsimp only at hwi
      rw [wi] at hwi
      exact ⟨_, ⟨oi, hoi, hdi, .inl ⟨hwi, rfl⟩⟩, ⟨op, hop, hdp, .inl ⟨(by rw [wp]; exact hwp), (by simp only [hc, ei, ep])⟩⟩⟩
    · dsimp only at hwi hv
      rw [wi] at hwi
      simp only [ei] at hv
      exact ⟨_, ⟨oi, hoi, hdi, .inr (.inl ⟨hwi, ci, v, hv, rfl⟩)⟩, ⟨op, hop, hdp, .inl ⟨(by rw [wp]; exact hwp), (by simp only [hc, ei, ep])⟩⟩⟩
    · dsimp only at hwi hv hhi
      rw [wi] at hwi
      simp only [ei] at hv
      simp only [ei] at hhi
      exact ⟨_, ⟨oi, hoi, hdi, .inr (.inr (.inl ⟨hwi, ci, v, hv, hhi, rfl⟩))⟩, ⟨op, hop, hdp, .inl ⟨(by rw [wp]; exact hwp), (by simp only [hc, ei, ep])⟩⟩⟩
    · dsimp only at hwi hv
      rw [wi] at hwi
      simp only [ei] at hv
      exact ⟨_, ⟨oi, hoi, hdi, .inr (.inr (.inr (.inl ⟨hwi, ci, v, c2, hc2, hv, rfl⟩)))⟩, ⟨op, hop, hdp, .inl ⟨(by rw [wp]; exact hwp), (by simp only [hc, ei, ep])⟩⟩⟩
    · dsimp only at hwi hv hri
      rw [wi] at hwi
      simp only [ei] at hv
      exact ⟨_, ⟨oi, hoi, hdi, .inr (.inr (.inr (.inr (.inl ⟨hwi, ci, ni, v, g2, hv, hri, rfl⟩))))⟩, ⟨op, hop, hdp, .inl ⟨(by rw [wp]; exact hwp), (by simp only [hc, ei, ep])⟩⟩⟩
    · dsimp only at hwi hv
      rw [wi] at hwi
      simp only [ei] at hv
      exact ⟨_, ⟨oi, hoi, hdi, .inr (.inr (.inr (.inr (.inr ⟨hwi, ni, c, z, hc0, hv, hsi, rfl⟩))))⟩, ⟨op, hop, hdp, .inl ⟨(by rw [wp]; exact hwp), (by simp only [hc, ei, ep])⟩⟩⟩
  · rcases hi with ⟨hwi, rfl⟩ | ⟨hwi, ci, v, hv, rfl⟩ | ⟨hwi, ci, v, hv, hhi, rfl⟩ | ⟨hwi, ci, v, c2, hc2, hv, rfl⟩ | ⟨hwi, ci, ni, v, g2, hv, hri, rfl⟩ | ⟨hwi, ni, c, z, hc0, hv, hsi, rfl⟩
    · dsimp only at hwi
      rw [wi] at hwi
      exact ⟨_, ⟨oi, hoi, hdi, .inl ⟨hwi, rfl⟩⟩, ⟨op, hop, hdp, .inr (.inl ⟨(by rw [wp]; exact hwp), cp, u, (by simp only [ep]; exact hu), (by simp only [hc, ei, ep])⟩)⟩⟩
    · dsimp only at hwi hv
      rw [wi] at hwi
      simp only [ei] at hv
      exact ⟨_, ⟨oi, hoi, hdi, .inr (.inl ⟨hwi, ci, v, hv, rfl⟩)⟩, ⟨op, hop, hdp, .inr (.inl ⟨(by rw [wp]; exact hwp), cp, u, (by simp only [ep]; exact hu), (by simp only [hc, ei, ep])⟩)⟩⟩
    · dsimp only at hwi hv hhi
      rw [wi] at hwi
      simp only [ei] at hv
      simp only [ei] at hhi
      exact ⟨_, ⟨oi, hoi, hdi, .inr (.inr (.inl ⟨hwi, ci, v, hv, hhi, rfl⟩))⟩, ⟨op, hop, hdp, .inr (.inl ⟨(by rw [wp]; exact hwp), cp, u, (by simp only [ep]; exact hu), (by simp only [hc, ei, ep])⟩)⟩⟩
    · dsimp only at hwi hv
      rw [wi] at hwi
      simp only [ei] at hv
      exact ⟨_, ⟨oi, hoi, hdi, .inr (.inr (.inr (.inl ⟨hwi, ci, v, c2, hc2, hv, rfl⟩)))⟩, ⟨op, hop, hdp, .inr (.inl ⟨(by rw [wp]; exact hwp), cp, u, (by simp only [ep]; exact hu), (by simp only [hc, ei, ep])⟩)⟩⟩
    · dsimp only at hwi hv hri
      rw [wi] at hwi
      simp only [ei] at hv
      exact ⟨_, ⟨oi, hoi, hdi, .inr (.inr (.inr (.inr (.inl ⟨hwi, ci, ni, v, g2, hv, hri, rfl⟩))))⟩, ⟨op, hop, hdp, .inr (.inl ⟨(by rw [wp]; exact hwp), cp, u, (by simp only [ep]; exact hu), (by simp only [hc, ei, ep])⟩)⟩⟩
    · dsimp only at hwi hv
      rw [wi] at hwi
      simp only [ei] at hv
      exact ⟨_, ⟨oi, hoi, hdi, .inr (.inr (.inr (.inr (.inr ⟨hwi, ni, c, z, hc0, hv, hsi, rfl⟩))))⟩, ⟨op, hop, hdp, .inr (.inl ⟨(by rw [wp]; exact hwp), cp, u, (by simp only [ep]; exact hu), (by simp only [hc, ei, ep])⟩)⟩⟩
  · rcases hi with ⟨hwi, rfl⟩ | ⟨hwi, ci, v, hv, rfl⟩ | ⟨hwi, ci, v, hv, hhi, rfl⟩ | ⟨hwi, ci, v, c2, hc2, hv, rfl⟩ | ⟨hwi, ci, ni, v, g2, hv, hri, rfl⟩ | ⟨hwi, ni, c, z, hc0, hv, hsi, rfl⟩
    · dsimp only at hwi
      rw [wi] at hwi
      exact ⟨_, ⟨oi, hoi, hdi, .inl ⟨hwi, rfl⟩⟩, ⟨op, hop, hdp, .inr (.inr (.inl ⟨(by rw [wp]; exact hwp), cp, u, (by simp only [ep]; exact hu), (by simp only [ep]; exact hh), (by simp only [hc, ei, ep])⟩))⟩⟩
    · dsimp only at hwi hv
      rw [wi] at hwi
      simp only [ei] at hv
      exact ⟨_, ⟨oi, hoi, hdi, .inr (.inl ⟨hwi, ci, v, hv, rfl⟩)⟩, ⟨op, hop, hdp, .inr (.inr (.inl ⟨(by rw [wp]; exact hwp), cp, u, (by simp only [ep]; exact hu), (by simp only [ep]; exact hh), (by simp only [hc, ei, ep])⟩))⟩⟩
    · dsimp only at hwi hv hhi
      rw [wi] at hwi
      simp only [ei] at hv
      simp only [ei] at hhi
      have hx : ∀ (A B : AS → Prop), addR (addR d.rds p A) i B = addR (addR d.rds i B) p A := fun A B => by
        funext e z
        unfold addR
        exact propext ⟨fun h => ⟨⟨h.1.1, h.2⟩, h.1.2⟩, fun h => ⟨⟨h.1.1, h.2⟩, h.1.2⟩⟩
      exact ⟨_, ⟨oi, hoi, hdi, .inr (.inr (.inl ⟨hwi, ci, v, hv, hhi, rfl⟩))⟩, ⟨op, hop, hdp, .inr (.inr (.inl ⟨(by rw [wp]; exact hwp), cp, u, (by simp only [ep]; exact hu), (by simp only [ep]; exact hh), (by simp only [hc, ei, ep, hx])⟩))⟩⟩
    · dsimp only at hwi hv
      rw [wi] at hwi
      simp only [ei] at hv
      exact ⟨_, ⟨oi, hoi, hdi, .inr (.inr (.inr (.inl ⟨hwi, ci, v, c2, hc2, hv, rfl⟩)))⟩, ⟨op, hop, hdp, .inr (.inr (.inl ⟨(by rw [wp]; exact hwp), cp, u, (by simp only [ep]; exact hu), (by simp only [ep]; exact hh), (by simp only [hc, ei, ep])⟩))⟩⟩
    · dsimp only at hwi hv hri
      rw [wi] at hwi
      simp only [ei] at hv
      have hu2 := (hri p h1).2 rfl
      have hx : (fun s => d.rds s) = d.rds := rfl
      exact ⟨_, ⟨oi, hoi, hdi, .inr (.inr (.inr (.inr (.inl ⟨hwi, ci, ni, v, g2, hv, fun r hr2 => (hri r hr2).1, rfl⟩))))⟩, ⟨op, hop, hdp, .inr (.inr (.inl ⟨(by rw [wp]; exact hwp), cp, u, (by simp only [ep]; exact hu2), (fun e gb he ha => by
          simp only [ep]
          rcases he with he | ⟨rfl, rfl⟩
          · exact hh e gb he ha
          · exact hu), (by simp only [hc, ei, ep])⟩))⟩⟩
    · exact absurd cp (hi1 ni)
  · rcases hi with ⟨hwi, rfl⟩ | ⟨hwi, ci, v, hv, rfl⟩ | ⟨hwi, ci, v, hv, hhi, rfl⟩ | ⟨hwi, ci, v, c2, hc2, hv, rfl⟩ | ⟨hwi, ci, ni, v, g2, hv, hri, rfl⟩ | ⟨hwi, ni, c, z, hc0, hv, hsi, rfl⟩
    · dsimp only at hwi
      rw [wi] at hwi
      exact ⟨_, ⟨oi, hoi, hdi, .inl ⟨hwi, rfl⟩⟩, ⟨op, hop, hdp, .inr (.inr (.inr (.inl ⟨(by rw [wp]; exact hwp), cp, u, cb, hc1, (by simp only [ep]; exact hu), (by simp only [hc, ei, ep])⟩)))⟩⟩
    · dsimp only at hwi hv
      rw [wi] at hwi
      simp only [ei] at hv
      exact ⟨_, ⟨oi, hoi, hdi, .inr (.inl ⟨hwi, ci, v, hv, rfl⟩)⟩, ⟨op, hop, hdp, .inr (.inr (.inr (.inl ⟨(by rw [wp]; exact hwp), cp, u, cb, hc1, (by simp only [ep]; exact hu), (by simp only [hc, ei, ep])⟩)))⟩⟩
    · dsimp only at hwi hv hhi
      rw [wi] at hwi
      simp only [ei] at hv
      simp only [ei] at hhi
      exact ⟨_, ⟨oi, hoi, hdi, .inr (.inr (.inl ⟨hwi, ci, v, hv, hhi, rfl⟩))⟩, ⟨op, hop, hdp, .inr (.inr (.inr (.inl ⟨(by rw [wp]; exact hwp), cp, u, cb, hc1, (by simp only [ep]; exact hu), (by simp only [hc, ei, ep])⟩)))⟩⟩
    · dsimp only at hwi hv
      rw [wi] at hwi
      simp only [ei] at hv
      exact ⟨_, ⟨oi, hoi, hdi, .inr (.inr (.inr (.inl ⟨hwi, ci, v, c2, hc2, hv, rfl⟩)))⟩, ⟨op, hop, hdp, .inr (.inr (.inr (.inl ⟨(by rw [wp]; exact hwp), cp, u, cb, hc1, (by simp only [ep]; exact hu), (by simp only [hc, ei, ep, updF_comm hpi])⟩)))⟩⟩
    · dsimp only at hwi hv hri
      rw [wi] at hwi
      simp only [ei] at hv
      rw [preA_congr (base := base) (g := d.g) (p := fun k => anc k i) (x := updF d.x p cb) (x' := d.x) (p' := fun k => anc k i) ops.size (fun j hj => ⟨rfl, fun hj2 => show (if j = p then cb else d.x j) = d.x j from if_neg fun e => by rw [e, h1] at hj2; cases hj2⟩)] at hv
      have hx : (fun k => if anc k i = true then AB.none else updF d.x p cb k) = updF (fun k => if anc k i = true then AB.none else d.x k) p cb := by
        funext k
        unfold updF
        by_cases e : k = p
        · subst e; rw [if_pos rfl, if_pos rfl, if_neg (by rw [h1]; intro e; cases e)]
        · rw [if_neg e, if_neg e]
      exact ⟨_, ⟨oi, hoi, hdi, .inr (.inr (.inr (.inr (.inl ⟨hwi, ci, ni, v, g2, hv, hri, rfl⟩))))⟩, ⟨op, hop, hdp, .inr (.inr (.inr (.inl ⟨(by rw [wp]; exact hwp), cp, u, cb, hc1, (by simp only [ep]; exact hu), (by simp only [hc, ei, ep, hx])⟩)))⟩⟩
    · dsimp only at hwi hv
      rw [wi] at hwi
      simp only [ei] at hv
      exact ⟨_, ⟨oi, hoi, hdi, .inr (.inr (.inr (.inr (.inr ⟨hwi, ni, c, z, hc0, hv, hsi, rfl⟩))))⟩, ⟨op, hop, hdp, .inr (.inr (.inr (.inl ⟨(by rw [wp]; exact hwp), cp, u, cb, hc1, (by simp only [ep]; exact hu), (by simp only [hc, ei, ep])⟩)))⟩⟩
  · rcases hi with ⟨hwi, rfl⟩ | ⟨hwi, ci, v, hv, rfl⟩ | ⟨hwi, ci, v, hv, hhi, rfl⟩ | ⟨hwi, ci, v, c2, hc2, hv, rfl⟩ | ⟨hwi, ci, ni, v, g2, hv, hri, rfl⟩ | ⟨hwi, ni, c, z, hc0, hv, hsi, rfl⟩
    · dsimp only at hwi
      rw [wi] at hwi
      exact ⟨_, ⟨oi, hoi, hdi, .inl ⟨hwi, rfl⟩⟩, ⟨op, hop, hdp, .inr (.inr (.inr (.inr (.inl ⟨(by rw [wp]; exact hwp), cp, np, u, g1, (by simp only [ep]; exact hu), hr, (by simp only [hc, ei, ep])⟩))))⟩⟩
    · dsimp only at hwi hv
      rw [wi] at hwi
      simp only [ei] at hv
      exact ⟨_, ⟨oi, hoi, hdi, .inr (.inl ⟨hwi, ci, v, hv, rfl⟩)⟩, ⟨op, hop, hdp, .inr (.inr (.inr (.inr (.inl ⟨(by rw [wp]; exact hwp), cp, np, u, g1, (by simp only [ep]; exact hu), hr, (by simp only [hc, ei, ep])⟩))))⟩⟩
    · dsimp only at hwi hv hhi
      rw [wi] at hwi
      simp only [ei] at hv
      simp only [ei] at hhi
      have hv0 := hhi p d.g (.inr ⟨rfl, rfl⟩) h1
      exact ⟨_, ⟨oi, hoi, hdi, .inr (.inr (.inl ⟨hwi, ci, v, hv0, fun e gb he ha => hhi e gb (.inl he) ha, rfl⟩))⟩, ⟨op, hop, hdp, .inr (.inr (.inr (.inr (.inl ⟨(by rw [wp]; exact hwp), cp, np, u, g1, (by simp only [ep]; exact hu), (fun r hr2 => ⟨hr r hr2, fun _ => hv⟩), (by simp only [hc, ei, ep])⟩))))⟩⟩
    · dsimp only at hwi hv
      rw [wi] at hwi
      simp only [ei] at hv
      have hx : updF (fun k => if anc k p = true then AB.none else d.x k) i c2 = (fun k => if anc k p = true then AB.none else updF d.x i c2 k) := by
        funext k
        unfold updF
        by_cases e : k = i
        · subst e; rw [if_pos rfl, if_pos rfl, if_neg (by rw [h2]; intro e; cases e)]
        · rw [if_neg e, if_neg e]
      exact ⟨_, ⟨oi, hoi, hdi, .inr (.inr (.inr (.inl ⟨hwi, ci, v, c2, hc2, hv, rfl⟩)))⟩, ⟨op, hop, hdp, .inr (.inr (.inr (.inr (.inl ⟨(by rw [wp]; exact hwp), cp, np, u, g1, (by simp only [ep]; rw [preA_congr (base := base) (g := d.g) (p := fun k => anc k p) (x := updF d.x i c2) (x' := d.x) (p' := fun k => anc k p) ops.size (fun j hj => ⟨rfl, fun hj2 => show (if j = i then c2 else d.x j) = d.x j from if_neg fun e => by rw [e, h2] at hj2; cases hj2⟩)]; exact hu), hr, (by simp only [hc, ei, ep, hx])⟩))))⟩⟩
    · exact hne.elim (fun h => absurd cp h) fun h => h.elim (fun h => absurd ci h) fun h => by rw [np] at h; cases h.1
    · exact hne.elim (fun h => absurd cp h) fun h => h.elim (fun h => absurd (hs3 i oi hoi ni) h) fun h => by rw [np] at h; cases h.1
  · rcases hi with ⟨hwi, rfl⟩ | ⟨hwi, ci, v, hv, rfl⟩ | ⟨hwi, ci, v, hv, hhi, rfl⟩ | ⟨hwi, ci, v, c2, hc2, hv, rfl⟩ | ⟨hwi, ci, ni, v, g2, hv, hri, rfl⟩ | ⟨hwi, ni, c, z, hc0, hv, hsi, rfl⟩
    · dsimp only at hwi
      rw [wi] at hwi
      exact ⟨_, ⟨oi, hoi, hdi, .inl ⟨hwi, rfl⟩⟩, ⟨op, hop, hdp, .inr (.inr (.inr (.inr (.inr ⟨(by rw [wp]; exact hwp), np, b, y, hb0, (by simp only [ep]; exact hu), hs, (by simp only [hc, ei, ep])⟩))))⟩⟩
    · dsimp only at hwi hv
      rw [wi] at hwi
      simp only [ei] at hv
      exact ⟨_, ⟨oi, hoi, hdi, .inr (.inl ⟨hwi, ci, v, hv, rfl⟩)⟩, ⟨op, hop, hdp, .inr (.inr (.inr (.inr (.inr ⟨(by rw [wp]; exact hwp), np, b, y, hb0, (by simp only [ep]; exact hu), hs, (by simp only [hc, ei, ep])⟩))))⟩⟩
    · exact absurd ci (hp1 np)
    · dsimp only at hwi hv
      rw [wi] at hwi
      simp only [ei] at hv
      exact ⟨_, ⟨oi, hoi, hdi, .inr (.inr (.inr (.inl ⟨hwi, ci, v, c2, hc2, hv, rfl⟩)))⟩, ⟨op, hop, hdp, .inr (.inr (.inr (.inr (.inr ⟨(by rw [wp]; exact hwp), np, b, y, hb0, (by simp only [ep]; exact hu), hs, (by simp only [hc, ei, ep])⟩))))⟩⟩
    · exact hne.elim (fun h => absurd (hs3 p op hop np) h) fun h => h.elim (fun h => absurd ci h) fun h => by rw [ni] at h; cases h.2
    · dsimp only at hwi hv
      rw [wi] at hwi
      simp only [ei] at hv
      have hbc : b ≠ c := hsi p b (.inr ⟨rfl, rfl⟩) h1
      have e1 : (d.g.put b y).get c = d.g.get c := d.g.get_put_ne b y c (Ne.symm hbc)
      rw [e1] at hc0 hv
      have e2 : (d.g.put c z).get b = d.g.get b := d.g.get_put_ne c z b hbc
      have hx : (d.g.put b y).put c z = (d.g.put c z).put b y := d.g.put_comm z y (Ne.symm hbc)
      have hz : addS (addS d.st p b) i c = addS (addS d.st i c) p b := by
        funext e q
        unfold addS
        exact propext ⟨fun h => h.elim (fun h => h.elim (fun h => .inl (.inl h)) .inr) (fun h => .inl (.inr h)), fun h => h.elim (fun h => h.elim (fun h => .inl (.inl h)) .inr) (fun h => .inl (.inr h))⟩
      exact ⟨_, ⟨oi, hoi, hdi, .inr (.inr (.inr (.inr (.inr ⟨hwi, ni, c, z, hc0, hv, fun q cc hq ha => hsi q cc (.inl hq) ha, rfl⟩))))⟩, ⟨op, hop, hdp, .inr (.inr (.inr (.inr (.inr ⟨(by rw [wp]; exact hwp), np, b, y, (by dsimp only; rw [e2]; exact hb0), (by dsimp only; simp only [ep, e2]; exact hu), (fun q cc hq ha => hq.elim (fun hq => hs q cc hq ha) (fun hq => by rw [hq.2]; exact Ne.symm hbc)), (by simp only [hc, hx, hz])⟩))))⟩⟩
end Go.Proofs.YthmojpcaagnfkaaGreatDoor


/-
  The abstract machine: regions that draw their order, whole. No program.
-/
namespace Go.Proofs.YthmojpcaagnfkaaGreatDoor
open Go.RowKit

/-- Blocks laid over memory. -/
noncomputable def ov (g xf : Nat → AB) (b : Nat) : AB := match xf b with
  | .none => g b
  | c => c
theorem ov_none {g xf : Nat → AB} {b : Nat} (h : xf b = .none) : ov g xf b = g b := by unfold ov; rw [h]
theorem ov_some {g xf : Nat → AB} {b : Nat} (h : xf b ≠ .none) : ov g xf b = xf b := by
  unfold ov
  split
  · rename_i h0; exact absurd h0 h
  · rfl
theorem HR.sub [Tab] {E : AEnv} {g g1 : Nat → AB} {w : World} (h : HR E g w) (hs : ∀ b, g1 b ≠ .none → g1 b = g b) : HR E g1 w :=
  ⟨⟨fun b hb => by
    have e := hs b hb
    rw [e]
    exact h.at_ b (by rw [← e]; exact hb), fun b c hb hc => h.inj b c (by rw [← hs b hb]; exact hb) (by rw [← hs c hc]; exact hc)⟩, h.tab, fun b hb => h.apart b (by rw [← hs b hb]; exact hb)⟩
/-- What stands aside stands. -/
theorem frame [Tab] {E E' : AEnv} {g g' xf : Nat → AB} {w w' : World} (h : HR E (ov g xf) w) (hd : ∀ b, xf b ≠ .none → g b = .none) (h' : HR E' g' w') (hs : Stp E g w E' g' w') :
    HR E' (ov g' xf) w' ∧ Stp E (ov g xf) w E' (ov g' xf) w' ∧ ∀ b, xf b ≠ .none → g' b = .none := by
  have hx : ∀ b, xf b ≠ .none → E.ok b ∧ b < 1000000000 ∧ E'.r b = E.r b ∧ (∃ o, w.heap[E.r b]? = some o ∧ w'.heap[E.r b]? = some o ∧ BR E b (xf b) o) := by
    intro b hb
    have e1 := ov_some (g := g) hb
    obtain ⟨q1, q2, o, q3, q4⟩ := h.at_ b (by rw [e1]; exact hb)
    rw [e1] at q4
    refine ⟨q1, q2, hs.le.r b q1, o, q3, ?_, q4⟩
    rw [hs.keep _ (Array.getElem?_eq_some_iff.1 q3).1 fun c hc e => ?_]
    · exact q3
    · have hcx : xf c = .none := by
        cases hcc : xf c with
        | none => rfl
        | cells cs => have := hd c (by rw [hcc]; intro e; cases e); exact absurd this hc
        | froz cs ty => have := hd c (by rw [hcc]; intro e; cases e); exact absurd this hc
        | mapb es k => have := hd c (by rw [hcc]; intro e; cases e); exact absurd this hc
        | iter a b c => have := hd _ (by rw [hcc]; intro e; cases e); exact absurd this hc
        | zero a b => have := hd _ (by rw [hcc]; intro e; cases e); exact absurd this hc
      have := h.inj c b (by rw [ov_none hcx]; exact hc) (by rw [e1]; exact hb) e
      subst this
      exact hb hcx
  have hold : ∀ c, g c ≠ .none → xf c = .none := fun c hc => by
    cases hcc : xf c with
    | none => rfl
    | cells cs => have := hd c (by rw [hcc]; intro e; cases e); exact absurd this hc
    | froz cs ty => have := hd c (by rw [hcc]; intro e; cases e); exact absurd this hc
    | mapb es k => have := hd c (by rw [hcc]; intro e; cases e); exact absurd this hc
    | iter a b k => have := hd c (by rw [hcc]; intro e; cases e); exact absurd this hc
    | zero a b => have := hd c (by rw [hcc]; intro e; cases e); exact absurd this hc
  have hdis : ∀ b, xf b ≠ .none → g' b = .none := by
    intro b hb
    cases hg : g' b with
    | none => rfl
    | _ =>
      exfalso
      obtain ⟨q1, _, q3, o, q4, _⟩ := hx b hb
      rcases hs.dom b (by rw [hg]; intro e; cases e) with h1 | ⟨c, hc, h1⟩
      · have := (Array.getElem?_eq_some_iff.1 q4).1
        omega
      · have := h.inj c b (by rw [ov_none (hold c hc)]; exact hc) (by rw [ov_some hb]; exact hb) (h1.trans q3)
        subst this
        exact hb (hold c hc)
  have hdec : ∀ b, ov g' xf b ≠ .none → (xf b ≠ .none ∧ ov g' xf b = xf b) ∨ (xf b = .none ∧ ov g' xf b = g' b ∧ g' b ≠ .none) := by
    intro b hb
    by_cases e : xf b = .none
    · exact .inr ⟨e, ov_none e, by rw [← ov_none (g := g') e]; exact hb⟩
    · exact .inl ⟨e, ov_some e⟩
  have hap : ∀ b, ov g' xf b ≠ .none → Tab.w0.heap.size ≤ E'.r b := fun b hb => by
    rcases hdec b hb with ⟨e1, e2⟩ | ⟨e1, e2, e3⟩
    · rw [(hx b e1).2.2.1]; exact h.apart b (by rw [ov_some e1]; exact e1)
    · exact h'.apart b e3
  refine ⟨⟨⟨fun b hb => ?_, fun b c hb hc he => ?_⟩, h'.tab, hap⟩, ⟨hs.os, hs.tape, hs.output, hs.size, hs.le, hs.z, fun d hdl hn => hs.keep d hdl fun b hb => hn b (by rw [ov_none (hold b hb)]; exact hb), fun b hb => ?_⟩, hdis⟩
  · rcases hdec b hb with ⟨e1, e2⟩ | ⟨e1, e2, e3⟩
    · rw [e2]
      obtain ⟨q1, q2, q3, o, q4, q5, q6⟩ := hx b e1
      exact ⟨hs.le.ok b q1, q2, o, by rw [q3]; exact q5, q6.mono hs.le q1 (hs.z b q1)⟩
    · rw [e2]
      exact h'.at_ b e3
  · have mix : ∀ b c, xf b ≠ .none → xf c = .none → g' c ≠ .none → E'.r b = E'.r c → False := by
      intro b c hb hcx hc he
      obtain ⟨q1, _, q3, o, q4, _⟩ := hx b hb
      rcases hs.dom c hc with h1 | ⟨c0, hc0, h1⟩
      · have := (Array.getElem?_eq_some_iff.1 q4).1
        omega
      · have := h.inj c0 b (by rw [ov_none (hold c0 hc0)]; exact hc0) (by rw [ov_some hb]; exact hb) (by rw [h1, ← he, q3])
        subst this
        exact hb (hold c0 hc0)
    rcases hdec b hb with ⟨e1, e2⟩ | ⟨e1, e2, e3⟩ <;> rcases hdec c hc with ⟨f1, f2⟩ | ⟨f1, f2, f3⟩
    · obtain ⟨_, _, q3, _⟩ := hx b e1
      obtain ⟨_, _, r3, _⟩ := hx c f1
      rw [q3, r3] at he
      exact h.inj b c (by rw [ov_some e1]; exact e1) (by rw [ov_some f1]; exact f1) he
    · exact (mix b c e1 f1 f3 he).elim
    · exact (mix c b f1 e1 e3 he.symm).elim
    · exact h'.inj b c e3 f3 he
  · rcases hdec b hb with ⟨e1, e2⟩ | ⟨e1, e2, e3⟩
    · exact .inr ⟨b, by rw [ov_some e1]; exact e1, (hx b e1).2.2.1.symm⟩
    · rcases hs.dom b e3 with h1 | ⟨c, hc, h1⟩
      · exact .inl h1
      · exact .inr ⟨c, by rw [ov_none (hold c hc)]; exact hc, h1⟩
/-- A region's blocks by their numbers. -/
noncomputable def xOf (base n : Nat) (p : Nat → Bool) (x : Nat → AB) (b : Nat) : AB := if base ≤ b ∧ b < base + n ∧ p (b - base) = true then x (b - base) else .none
theorem preA_get [Tab] {base n : Nat} {p : Nat → Bool} {x : Nat → AB} {g : AS} (hl : base + n ≤ 1000000000) (b : Nat) : (preA base p x n g).get b = ov g.get (xOf base n p x) b := by
  by_cases h : base ≤ b ∧ b < base + n ∧ p (b - base) = true
  · have e1 : xOf base n p x b = x (b - base) := if_pos h
    by_cases hx : x (b - base) = .none
    · rw [ov_none (e1.trans hx)]
      exact preA_out base p x g n fun j hj e => .inr (by rw [e, Nat.add_sub_cancel_left] at hx; exact hx)
    · rw [ov_some (by rw [e1]; exact hx), e1]
      have := preA_in base p x g (j := b - base) n (by omega) h.2.2 hx (by omega)
      rwa [show base + (b - base) = b by omega] at this
  · have e1 : xOf base n p x b = .none := if_neg h
    rw [ov_none e1]
    refine preA_out base p x g n fun j hj e => ?_
    left
    cases hp : p j with
    | false => rfl
    | true => exact absurd ⟨by omega, by omega, by rw [e, Nat.add_sub_cancel_left]; exact hp⟩ h
noncomputable def allP : Nat → Bool := fun _ => true
/-- How a region stands in its midst. -/
structure InvD [Tab] (E0 : AEnv) (g0 : Nat → AB) (w0 : World) (a0 : Act) (nt n base : Nat) (R : List Nat) (d : DS) (E : AEnv) (a : Act) (w : World) : Prop where
  t : TR E nt d.t a
  h : HR E (ov d.g.get (xOf base n allP d.x)) w
  lim : base + n ≤ d.g.n
  lim2 : base + n ≤ 1000000000
  fresh : Fresh E d.g.n
  un : ∀ k ∈ R, k < n ∧ ¬ E.ok (base + k) ∧ d.x k = .none
  dis : ∀ b, xOf base n allP d.x b ≠ .none → d.g.get b = .none
  stp : Stp E0 g0 w0 E (ov d.g.get (xOf base n allP d.x)) w
  ok : ∀ b, E.ok b → E0.ok b ∨ (base ≤ b ∧ b < d.g.n)
  df : a.defers = a0.defers
theorem updT_TR [Tab] {E : AEnv} {nt : Nat} {f : Nat → AV} {a : Act} {d : Option Nat} {v : AV} {x : Value} (h : TR E nt f a) (hv : VR E v x) (hd : ∀ k, d = some k → k < nt) : TR E nt (updT f d v) (a.put d x) := h.put hv hd fun _ => rfl
/-- An operation that makes a block. -/
theorem evOp_ok2 [Tab] {P : Program} {call : Nat → List AV → AS → Option (AV × AS)} {o : Oper} {f : Nat → AV} {nt : Nat} {a : Act} {s s' : AS} {v : AV} {E : AEnv} {w : World} (hcl : clsO o = 2 ∨ isConv o = true) (ht : TR E nt f a) (h : HR E s.get w) (hf : ¬ E.ok s.n) (he : evOp P call o (oevF f) s = some (v, s'))
    {next : Act → World → Prop} {Q : Exit → Act → World → Prop} (hk : ∀ x E' w', VR E' v x → HR E' s'.get w' → Stp E s.get w E' s'.get w' → Grow E s.n E' s'.n → next (a.put o.dst x) w') : o.wp P a w next Q := by
  have hn : ∀ c, o.op ≠ .call c := fun c e => by
    rcases hcl with hcl | hcl
    · unfold clsO at hcl
      rw [e] at hcl
      dsimp only at hcl
      split at hcl <;> cases hcl
    · unfold isConv at hcl
      rw [e] at hcl
      cases hcl
  have ho : opA P o.op (oevF f) s = some (v, s') := by
    unfold evOp at he
    split at he
    · rename_i c hc; exact absurd hc (hn c)
    · exact he
  obtain ⟨n, x, w', E', q1, q2, q3, q4, q5, q6⟩ := opA_ok (o := o) (oevF_ok ht) h hf ho
  unfold Oper.wp
  rw [q1]
  rcases q2 with rfl | ⟨rfl, rfl⟩
  · exact hk x E' w' q3 q4 q5 q6
  · exact hk undef E' w' q3 q4 q5 q6
theorem step_wp [Tab] {P : Program} {call : Nat → List AV → AS → Option (AV × AS)} (hc : CallOK P call) {ops : Array Oper} {anc : Nat → Nat → Bool} {sB : Nat → Bool} {E0 : AEnv} {g0 : Nat → AB} {w0 : World} {a0 : Act} {nt base : Nat} {R R' : List Nat} {d d' : DS} {E : AEnv} {a : Act} {w : World} {i : Nat} {Q : Exit → Act → World → Prop}
    (hI : InvD E0 g0 w0 a0 nt ops.size base R d E a w) (hi : i ∈ R) (hR : ∀ k, k ∈ R' → k ∈ R ∧ k ≠ i) (hs : StepD P call nt ops base anc sB i d d') {K : Act → World → Prop} (hK : ∀ E' a' w', InvD E0 g0 w0 a0 nt ops.size base R' d' E' a' w' → K a' w') : wpOp P ops Q i K a w := by
  obtain ⟨o, ho, hd, hs⟩ := hs
  obtain ⟨hin, hiok, hix⟩ := hI.un i hi
  have un' : ∀ k ∈ R', k < ops.size ∧ ¬ E.ok (base + k) ∧ d.x k = .none := fun k hk => hI.un k (hR k hk).1
  -- what is carried out at memory that stands whole, but for the blocks aside
  have plain : ∀ v g', wantF ops o d.t = some true → evOp P call o (oevF d.t) d.g = some (v, g') → g'.n = d.g.n → d'.t = updT d.t o.dst v → d'.g = g' → d'.x = d.x → wpOp P ops Q i K a w := by
    intro v g' hw hev hgn e1 e2 e3
    unfold wpOp
    rw [ho]
    dsimp only
    rw [if_pos (wantF_ok hI.t hw)]
    have hg : HR E d.g.get w := hI.h.sub fun b hb => by
      by_cases e : xOf base ops.size allP d.x b = .none
      · rw [ov_none e]
      · exact absurd (hI.dis b e) hb
    refine .inl (evOp_ok hc hI.t hg hI.fresh hev fun x E' w' q1 q2 q3 q4 => hK E' _ w' ?_)
    obtain ⟨r1, r2, r3⟩ := frame hI.h hI.dis q2 q3
    rw [← e3] at r1
    rw [← e2] at r1 r2
    refine ⟨by rw [e1]; exact updT_TR (hI.t.mono q3.le) q1 hd, r1, by rw [e2, hgn]; exact hI.lim, hI.lim2, by rw [e2]; exact hI.fresh.grow q4, fun k hk => ?_, by rw [e2, e3]; exact r3, ?_, fun b hb => ?_, (put_defers _ _ _).trans hI.df⟩
    · obtain ⟨u1, u2, u3⟩ := un' k hk
      refine ⟨u1, fun hok => ?_, by rw [e3]; exact u3⟩
      rcases q4.ok _ hok with h1 | h1
      · exact u2 h1
      · omega
    · rw [e3]
      exact hI.stp.trans r2
    · rcases q4.ok b hb with h1 | h1
      · rw [e2, hgn]; exact hI.ok b h1
      · omega
  rcases hs with ⟨hw, rfl⟩ | ⟨hw, cl, v, hv, rfl⟩ | ⟨hw, cl, v, hv, hh, rfl⟩ | ⟨hw, cl, v, c, hc0, hv, rfl⟩ | ⟨hw, cl, _, v, g', hv, hr, rfl⟩ | ⟨hw, _, bb, y, _, hv, _, rfl⟩
  · unfold wpOp
    rw [ho]
    dsimp only
    rw [if_neg (by rw [wantF_ok hI.t hw]; intro e; cases e)]
    exact hK E _ w ⟨updT_TR hI.t .undef hd, hI.h, hI.lim, hI.lim2, hI.fresh, un', hI.dis, hI.stp, hI.ok, (put_defers _ _ _).trans hI.df⟩
  · exact plain v _ hw (hv d.g) rfl rfl rfl rfl
  · exact plain v _ hw hv rfl rfl rfl rfl
  · unfold wpOp
    rw [ho]
    dsimp only
    rw [if_pos (wantF_ok hI.t hw)]
    have hg : HR E d.g.get w := hI.h.sub fun b hb => by
      by_cases e : xOf base ops.size allP d.x b = .none
      · rw [ov_none e]
      · exact absurd (hI.dis b e) hb
    have hev := hv ⟨d.g.h, base + i⟩ rfl
    refine .inl (evOp_ok2 cl hI.t (s := ⟨d.g.h, base + i⟩) hg hiok hev fun x E' w' q1 q2 q3 q4 => hK E' _ w' ?_)
    obtain ⟨r1, r2, r3⟩ := frame hI.h hI.dis q2 q3
    have hxi : xOf base ops.size allP d.x (base + i) = .none := by
      unfold xOf
      split
      · rw [Nat.add_sub_cancel_left]; exact hix
      · rfl
    have hlim := hI.lim2
    have hfun : ov (AS.new ⟨d.g.h, base + i⟩ c).get (xOf base ops.size allP d.x) = ov d.g.get (xOf base ops.size allP (updF d.x i c)) := by
      funext b
      by_cases e : b = base + i
      · subst e
        have e2 : xOf base ops.size allP (updF d.x i c) (base + i) = c := by
          unfold xOf
          rw [if_pos ⟨by omega, by omega, rfl⟩, Nat.add_sub_cancel_left]
          exact if_pos rfl
        rw [ov_none hxi, ov_some (by rw [e2]; exact hc0), e2]
        exact AS.get_new ⟨d.g.h, base + i⟩ c (by show base + i < _; omega)
      · have e2 : xOf base ops.size allP (updF d.x i c) b = xOf base ops.size allP d.x b := by
          unfold xOf
          split
          · exact if_neg (by omega)
          · rfl
        have e3 : (AS.new ⟨d.g.h, base + i⟩ c).get b = d.g.get b := AS.get_new_ne ⟨d.g.h, base + i⟩ c b e
        by_cases e4 : xOf base ops.size allP d.x b = .none
        · rw [ov_none e4, ov_none (e2.trans e4), e3]
        · rw [ov_some e4, ov_some (by rw [e2]; exact e4), e2]
    rw [hfun] at r1 r2
    refine ⟨updT_TR (hI.t.mono q3.le) q1 hd, r1, hI.lim, hI.lim2, fun b hb => ?_, fun k hk => ?_, fun b hb => ?_, hI.stp.trans r2, fun b hb => ?_, (put_defers _ _ _).trans hI.df⟩
    · rcases q4.ok b hb with h1 | h1
      · exact hI.fresh b h1
      · have := hI.lim
        have h2 : b < base + i + 1 := h1.2
        show b < d.g.n
        omega
    · obtain ⟨u1, u2, u3⟩ := un' k hk
      refine ⟨u1, fun hok => ?_, by show updF d.x i c k = _; rw [show updF d.x i c k = d.x k from if_neg (hR k hk).2]; exact u3⟩
      rcases q4.ok _ hok with h1 | h1
      · exact u2 h1
      · have h2 : base + k < base + i + 1 := h1.2
        have h3 : base + i ≤ base + k := h1.1
        exact (hR k hk).2 (by omega)
    · by_cases e : b = base + i
      · subst e
        cases hgn : d.g.get (base + i) with
        | none => rfl
        | _ => exact absurd (hg.at_ (base + i) (by rw [hgn]; intro e; cases e)).1 hiok
      · refine hI.dis b ?_
        have e2 : xOf base ops.size allP (updF d.x i c) b = xOf base ops.size allP d.x b := by
          unfold xOf
          split
          · exact if_neg (by omega)
          · rfl
        rw [← e2]
        exact hb
    · rcases q4.ok b hb with h1 | h1
      · exact hI.ok b h1
      · have := hI.lim
        have h2 : b < base + i + 1 := h1.2
        have h3 : base + i ≤ b := h1.1
        right
        exact ⟨by omega, by show b < d.g.n; omega⟩
  · unfold wpOp
    rw [ho]
    dsimp only
    rw [if_pos (wantF_ok hI.t hw)]
    have hlim := hI.lim2
    -- the blocks that it waits for, and those aside
    have hpre : (preA base (fun k => anc k i) d.x ops.size d.g).get = ov d.g.get (xOf base ops.size (fun k => anc k i) d.x) := funext fun b => preA_get hlim b
    have hsplit : ov (preA base (fun k => anc k i) d.x ops.size d.g).get (xOf base ops.size (fun k => !anc k i) d.x) = ov d.g.get (xOf base ops.size allP d.x) := by
      funext b
      rw [hpre]
      by_cases hb : base ≤ b ∧ b < base + ops.size
      · have e0 : xOf base ops.size allP d.x b = d.x (b - base) := if_pos ⟨hb.1, hb.2, rfl⟩
        cases ha : anc (b - base) i with
        | true =>
          have e1 : xOf base ops.size (fun k => !anc k i) d.x b = .none := if_neg (by simp [ha])
          have e2 : xOf base ops.size (fun k => anc k i) d.x b = d.x (b - base) := if_pos ⟨hb.1, hb.2, ha⟩
          rw [ov_none e1]
          unfold ov
          rw [e0, e2]
        | false =>
          have e1 : xOf base ops.size (fun k => !anc k i) d.x b = d.x (b - base) := if_pos ⟨hb.1, hb.2, by simp [ha]⟩
          have e2 : xOf base ops.size (fun k => anc k i) d.x b = .none := if_neg (by simp [ha])
          unfold ov
          rw [e0, e1, e2]
      · have e0 : xOf base ops.size allP d.x b = .none := if_neg (fun h => hb ⟨h.1, h.2.1⟩)
        have e1 : xOf base ops.size (fun k => !anc k i) d.x b = .none := if_neg (fun h => hb ⟨h.1, h.2.1⟩)
        have e2 : xOf base ops.size (fun k => anc k i) d.x b = .none := if_neg (fun h => hb ⟨h.1, h.2.1⟩)
        rw [ov_none e0, ov_none e1, ov_none e2]
    have hdis2 : ∀ b, xOf base ops.size (fun k => !anc k i) d.x b ≠ .none → (preA base (fun k => anc k i) d.x ops.size d.g).get b = .none := by
      intro b hb
      unfold xOf at hb
      split at hb
      · rename_i h1
        obtain ⟨h1, h2, h3⟩ := h1
        have e2 : xOf base ops.size (fun k => anc k i) d.x b = .none := if_neg (fun h => by simp [h.2.2] at h3)
        rw [hpre, ov_none e2]
        exact hI.dis b (by rw [show xOf base ops.size allP d.x b = d.x (b - base) from if_pos ⟨h1, h2, rfl⟩]; exact hb)
      · exact absurd rfl hb
    have hI2 := hI.h
    rw [← hsplit] at hI2
    have hg : HR E (preA base (fun k => anc k i) d.x ops.size d.g).get w := hI2.sub fun b hb => by
      by_cases e : xOf base ops.size (fun k => !anc k i) d.x b = .none
      · rw [ov_none e]
      · exact absurd (hdis2 b e) hb
    have hn := preA_n base (fun k => anc k i) d.x d.g ops.size
    refine .inl (evOp_ok hc hI.t hg (by rw [hn]; exact hI.fresh) hv fun x E' w' q1 q2 q3 q4 => hK E' _ w' ?_)
    obtain ⟨r1, r2, r3⟩ := frame hI2 hdis2 q2 q3
    rw [hn] at q4
    have hfun : xOf base ops.size (fun k => !anc k i) d.x = xOf base ops.size allP (fun k => if anc k i = true then .none else d.x k) := by
      funext b
      unfold xOf
      by_cases hb : base ≤ b ∧ b < base + ops.size
      · rw [if_pos (⟨hb.1, hb.2, rfl⟩ : base ≤ b ∧ b < base + ops.size ∧ allP (b - base) = true)]
        cases ha : anc (b - base) i with
        | true =>
          rw [if_neg (by simp [ha])]
          exact (if_pos ha).symm
        | false =>
          rw [if_pos ⟨hb.1, hb.2, by simp [ha]⟩]
          exact (if_neg (by rw [ha]; intro e; cases e)).symm
      · rw [if_neg (fun h => hb ⟨h.1, h.2.1⟩), if_neg (fun h => hb ⟨h.1, h.2.1⟩)]
    rw [hfun] at r1 r2 r3
    have hle := q4.le
    have hsp := hI.stp
    rw [← hsplit, hfun] at hsp
    refine ⟨updT_TR (hI.t.mono q3.le) q1 hd, r1, Nat.le_trans hI.lim hle, hI.lim2, hI.fresh.grow q4, fun k hk => ?_, r3, hsp.trans r2, fun b hb => ?_, (put_defers _ _ _).trans hI.df⟩
    · obtain ⟨u1, u2, u3⟩ := un' k hk
      refine ⟨u1, fun hok => ?_, ?_⟩
      · rcases q4.ok _ hok with h1 | h1
        · exact u2 h1
        · have := hI.lim
          omega
      · show (if anc k i = true then AB.none else d.x k) = .none
        split
        · rfl
        · exact u3
    · have := hI.lim
      rcases q4.ok b hb with h1 | h1
      · rcases hI.ok b h1 with h2 | h2
        · exact .inl h2
        · right; exact ⟨h2.1, by show b < g'.n; omega⟩
      · right; exact ⟨by omega, h1.2⟩
  · exact plain .undef _ hw (hv d.g rfl) rfl rfl rfl rfl
end Go.Proofs.YthmojpcaagnfkaaGreatDoor


/-
  The abstract machine: every order of a drawn region; the region as it is reckoned. No program.
-/
namespace Go.Proofs.YthmojpcaagnfkaaGreatDoor
open Go.RowKit

/-- A row of operations. -/
noncomputable def Chain (P : Program) (call : Nat → List AV → AS → Option (AV × AS)) (nt : Nat) (ops : Array Oper) (base : Nat) (anc : Nat → Nat → Bool) (sB : Nat → Bool) : List Nat → DS → DS → Prop
  | [], d, e => d = e
  | i :: r, d, e => ∃ d1, StepD P call nt ops base anc sB i d d1 ∧ Chain P call nt ops base anc sB r d1 e
theorem Chain.front [Tab] {P : Program} {call : Nat → List AV → AS → Option (AV × AS)} {nt : Nat} {ops : Array Oper} {base : Nat} {anc : Nat → Nat → Bool} {sB : Nat → Bool} {i : Nat} {oi : Oper} (hs3 : ∀ j o, ops[j]? = some o → sB j = true → clsO o = 3) (hoi : ops[i]? = some oi) {l2 : List Nat} {e : DS} : ∀ (l1 : List Nat) (d : DS),
    (∀ p ∈ l1, p ≠ i ∧ anc p i = false ∧ anc i p = false ∧ ∃ op, ops[p]? = some op ∧ op.apart ops oi = true ∧ (clsO op ≠ 3 ∨ clsO oi ≠ 3 ∨ (sB p = true ∧ sB i = true)) ∧ (sB p = true → clsO oi ≠ 1) ∧ (sB i = true → clsO op ≠ 1)) → Chain P call nt ops base anc sB (l1 ++ i :: l2) d e → ∃ d1, StepD P call nt ops base anc sB i d d1 ∧ Chain P call nt ops base anc sB (l1 ++ l2) d1 e
  | [], d, _, h => h
  | p :: l1, d, hl, h => by
    obtain ⟨dp, h1, h2⟩ := h
    obtain ⟨d1, h3, h4⟩ := Chain.front hs3 hoi l1 dp (fun q hq => hl q (by simp [hq])) h2
    obtain ⟨g1, g2, g3, op, g4, g5, g6, g7, g8⟩ := hl p (by simp)
    obtain ⟨d1', q1, q2⟩ := StepD.swap g4 hoi g1 g2 g3 g5 g6 g7 g8 hs3 h1 h3
    exact ⟨d1', q1, d1, q2, h4⟩
/-- Who must come up ahead. -/
inductive AncR (ops : Array Oper) : Nat → Nat → Prop
  | dep (i : Nat) (o : Oper) (e : Edge) (ho : ops[i]? = some o) (he : e ∈ o.after) (hb : Region.binds .any e = true) : AncR ops e.on i
  | more (i : Nat) (o : Oper) (e : Edge) (ho : ops[i]? = some o) (he : e ∈ o.after) (hb : Region.binds .any e = true) (j : Nat) (h : AncR ops j e.on) : AncR ops j i
/-- What is asked of a region's text. -/
structure StatOK (ops : Array Oper) (anc : Nat → Nat → Bool) (sB : Nat → Bool) : Prop where
  dep : ∀ (i : Nat) (o : Oper), ops[i]? = some o → ∀ e ∈ o.after, Region.binds .any e = true → e.on < i
  lt : ∀ e i, anc e i = true → e < i
  up : ∀ e i, anc e i = true → AncR ops e i
  pair : ∀ (p i : Nat) (op oi : Oper), p < i → ops[p]? = some op → ops[i]? = some oi → anc p i = false → op.apart ops oi = true ∧ (clsO op ≠ 3 ∨ clsO oi ≠ 3 ∨ (sB p = true ∧ sB i = true)) ∧ (sB p = true → clsO oi ≠ 1) ∧ (sB i = true → clsO op ≠ 1)
  spec : ∀ (j : Nat) (o : Oper), ops[j]? = some o → sB j = true → clsO o = 3
noncomputable def DownC (ops : Array Oper) (listed : Array Bool) : Prop := ∀ (i : Nat) (o : Oper), ops[i]? = some o → listed.getD i true = true → ∀ e ∈ o.after, Region.binds .any e = true → listed.getD e.on false = true
theorem getD_tf {l : Array Bool} {i : Nat} (h : l.getD i false = true) : l.getD i true = true := by
  by_cases hi : i < l.size
  · simp [hi] at h ⊢; exact h
  · simp [Array.getElem?_eq_none (Nat.le_of_not_lt hi)] at h
theorem AncR.listed [Tab] {ops : Array Oper} {listed : Array Bool} (hd : DownC ops listed) {j i : Nat} (h : AncR ops j i) : (∀ o, ops[i]? = some o → ∀ e ∈ o.after, Region.binds .any e = true → listed.getD e.on false = true) → listed.getD j false = true := by
  induction h with
  | dep i o e ho he hb => intro hi; exact hi o ho e he hb
  | more i o e ho he hb j h ih =>
    intro hi
    exact ih fun o' ho' e' he' hb' => hd e.on o' ho' (getD_tf (hi o ho e he hb)) e' he' hb'
theorem any_ok [Tab] {P : Program} {call : Nat → List AV → AS → Option (AV × AS)} (hc : CallOK P call) {ops : Array Oper} {anc : Nat → Nat → Bool} {sB : Nat → Bool} (hst : StatOK ops anc sB) {E0 : AEnv} {g0 : Nat → AB} {w0 : World} {a0 : Act} {nt base : Nat} {Q : Exit → Act → World → Prop} {dF : DS}
    (hQ : ∀ E a w, InvD E0 g0 w0 a0 nt ops.size base [] dF E a w → Q .normal a w) : ∀ (fuel : Nat) (R : List Nat) (listed : Array Bool) (d : DS) (E : AEnv) (a : Act) (w : World), InvD E0 g0 w0 a0 nt ops.size base R d E a w →
    listed.size = ops.size → (∀ k, k ∈ R ↔ k < ops.size ∧ listed.getD k true = false) → DownC ops listed → R.Pairwise (· < ·) → R.length ≤ fuel → Chain P call nt ops base anc sB R d dF → wpAny P .any ops Q fuel listed a w := by
  intro fuel
  induction fuel with
  | zero =>
    intro R listed d E a w hI hsz hR hD hpw hlen hch
    have hR0 : R = [] := List.eq_nil_of_length_eq_zero (by omega)
    subst hR0
    cases hch
    refine ⟨?_, hQ E a w hI⟩
    rw [List.eq_nil_iff_forall_not_mem]
    intro i hi
    obtain ⟨h1, o, h2, _⟩ := mem_ready.1 hi
    have : i ∈ ([] : List Nat) := (hR i).2 ⟨(Array.getElem?_eq_some_iff.1 h2).1, h1⟩
    cases this
  | succ fuel ih =>
    intro R listed d E a w hI hsz hR hD hpw hlen hch
    refine ⟨fun h0 => ?_, fun i hi => ?_⟩
    · have hR0 : R = [] := by
        cases R with
        | nil => rfl
        | cons r R =>
          exfalso
          obtain ⟨hr1, hr2⟩ := (hR r).1 (by simp)
          have hready : r ∈ Region.ready .any ops listed := by
            refine mem_ready.2 ⟨hr2, ops[r], Array.getElem?_eq_getElem hr1, fun e he hb => ?_⟩
            have hlt := hst.dep r _ (Array.getElem?_eq_getElem hr1) e he hb
            cases hl : listed.getD e.on true with
            | true =>
              by_cases hi : e.on < listed.size
              · simp [hi] at hl ⊢; exact hl
              · omega
            | false =>
              have hm := (hR e.on).2 ⟨by omega, hl⟩
              rcases List.mem_cons.1 hm with h | h
              · omega
              · have := List.rel_of_pairwise_cons hpw h
                omega
          rw [h0] at hready
          cases hready
      subst hR0
      cases hch
      exact hQ E a w hI
    · obtain ⟨hun, oi, hoi, hall⟩ := mem_ready.1 hi
      have hiR : i ∈ R := (hR i).2 ⟨(Array.getElem?_eq_some_iff.1 hoi).1, hun⟩
      obtain ⟨l1, l2, rfl⟩ := List.append_of_mem hiR
      have hl1 : ∀ p ∈ l1, p < i := fun p hp => (List.pairwise_append.1 hpw).2.2 p hp i (by simp)
      have hl2 : ∀ p ∈ l2, i < p := fun p hp => List.rel_of_pairwise_cons (List.pairwise_append.1 hpw).2.1 hp
      obtain ⟨d1, hs, hch1⟩ := Chain.front hst.spec hoi l1 d (fun p hp => by
        obtain ⟨hp1, hp2⟩ := (hR p).1 (by simp [hp])
        have hpi := hl1 p hp
        have ha : anc p i = false := by
          cases h : anc p i with
          | false => rfl
          | true =>
            exfalso
            have := (hst.up p i h).listed hD (fun o ho e he hb => by rw [hoi] at ho; injection ho with ho; subst ho; exact hall e he hb)
            have := getD_tf this
            rw [hp2] at this
            cases this
        have hb : anc i p = false := by
          cases h : anc i p with
          | false => rfl
          | true => have := hst.lt i p h; omega
        obtain ⟨q1, q2⟩ := hst.pair p i _ oi hpi (Array.getElem?_eq_getElem hp1) hoi ha
        exact ⟨by omega, ha, hb, ops[p], Array.getElem?_eq_getElem hp1, q1, q2⟩) hch
      have hsub : ∀ k, k ∈ l1 ++ l2 → k ∈ l1 ++ i :: l2 ∧ k ≠ i := fun k hk => by
        rcases List.mem_append.1 hk with h | h
        · have := hl1 k h
          exact ⟨by simp [h], by omega⟩
        · have := hl2 k h
          exact ⟨by simp [h], by omega⟩
      refine step_wp hc hI hiR hsub hs fun E' a' w' hI' => ?_
      have hilt : i < listed.size := by rw [hsz]; exact (Array.getElem?_eq_some_iff.1 hoi).1
      have hset : ∀ (b : Bool) k, (listed.setIfInBounds i true).getD k b = if k = i then true else listed.getD k b := by
        intro b k
        by_cases e : k = i
        · subst e
          simp [Array.getElem?_setIfInBounds, hilt]
        · rw [if_neg e]
          simp [Array.getElem?_setIfInBounds, Ne.symm e]
      refine ih (l1 ++ l2) _ d1 E' a' w' hI' (by simpa using hsz) (fun k => ?_) (fun k o hk hl e he hb => ?_) ?_ (by simp at hlen ⊢; omega) hch1
      · rw [hset]
        constructor
        · intro hk
          obtain ⟨q1, q2⟩ := hsub k hk
          rw [if_neg q2]
          exact (hR k).1 q1
        · rintro ⟨q1, q2⟩
          by_cases e : k = i
          · rw [if_pos e] at q2; cases q2
          · rw [if_neg e] at q2
            have := (hR k).2 ⟨q1, q2⟩
            simp at this ⊢
            rcases this with h | h | h
            · exact .inl h
            · exact absurd h e
            · exact .inr h
      · rw [hset]
        split
        · rfl
        · rw [hset] at hl
          by_cases e2 : k = i
          · subst e2
            rw [hoi] at hk
            injection hk with hk
            subst hk
            exact hall e he hb
          · rw [if_neg e2] at hl
            exact hD k o hk hl e he hb
      · have h1 := List.pairwise_append.1 hpw
        exact List.pairwise_append.2 ⟨h1.1, (List.pairwise_cons.1 h1.2.1).2, fun p hp q hq => h1.2.2 p hp q (by simp [hq])⟩
end Go.Proofs.YthmojpcaagnfkaaGreatDoor


/-
  The abstract machine: drawn regions, reckoned. No program.
-/
namespace Go.Proofs.YthmojpcaagnfkaaGreatDoor
open Go.RowKit

noncomputable def maskE (ms : Tr Nat) : List Edge → Nat → Nat
  | [], s => s
  | e :: r, s => maskE ms r (cond (Region.binds .any e) (Nat.lor s (Nat.lor (Nat.shiftLeft 1 e.on) (ms.get 0 e.on))) s)
theorem maskE_bit [Tab] (ms : Tr Nat) {j : Nat} : ∀ (l : List Edge) (s : Nat), Nat.testBit (maskE ms l s) j = true → Nat.testBit s j = true ∨ ∃ e ∈ l, Region.binds .any e = true ∧ (e.on = j ∨ Nat.testBit (ms.get 0 e.on) j = true)
  | [], s, h => .inl h
  | e :: r, s, h => by
    rcases maskE_bit ms r _ h with h1 | ⟨e', h1, h2, h3⟩
    · cases hb : Region.binds .any e with
      | false => rw [hb] at h1; exact .inl h1
      | true =>
        rw [hb] at h1
        replace h1 : Nat.testBit (s ||| (1 <<< e.on ||| ms.get 0 e.on)) j = true := h1
        rw [Nat.testBit_or, Nat.testBit_or] at h1
        simp only [Bool.or_eq_true] at h1
        rcases h1 with h1 | h1 | h1
        · exact .inl h1
        · refine .inr ⟨e, by simp, hb, .inl ?_⟩
          rw [Nat.testBit_shiftLeft] at h1
          simp only [Bool.and_eq_true, decide_eq_true_eq] at h1
          have h7 := h1.2
          have h8 := h1.1
          cases hk : j - e.on with
          | zero => omega
          | succ k =>
            rw [hk, Nat.testBit_succ] at h7
            simp at h7
        · exact .inr ⟨e, by simp, hb, .inr h1⟩
    · exact .inr ⟨e', by simp [h1], h2, h3⟩
noncomputable def masksT : List Oper → Nat → Tr Nat → Tr Nat
  | [], _, ms => ms
  | o :: r, i, ms => masksT r (Nat.succ i) (ms.set 0 (maskE ms o.after.toList 0) 20 i)
theorem masksT_lt [Tab] : ∀ (l : List Oper) (i : Nat) (ms : Tr Nat) (j : Nat), j < i → (masksT l i ms).get 0 j = ms.get 0 j
  | [], _, _, _, _ => rfl
  | o :: r, i, ms, j, h => by
    rw [masksT, masksT_lt r (i + 1) _ j (by omega), Tr.get_set_ne _ _ _ _ _ _ (by omega)]
theorem masksT_at [Tab] : ∀ (l : List Oper) (i : Nat) (ms : Tr Nat) (j : Nat) (o : Oper), i + l.length ≤ 1000 → (∀ q, i ≤ q → ms.get 0 q = 0) → l[j]? = some o →
    ∃ ms' : Tr Nat, (masksT l i ms).get 0 (i + j) = maskE ms' o.after.toList 0 ∧ (∀ q, q < i + j → ms'.get 0 q = (masksT l i ms).get 0 q) ∧ (∀ q, i + j ≤ q → ms'.get 0 q = 0)
  | [], _, _, _, _, _, _, h => by simp at h
  | o' :: r, i, ms, 0, o, hl, h0, h => by
    simp at h
    subst h
    simp only [List.length_cons] at hl
    refine ⟨ms, ?_, fun q hq => ?_, fun q hq => h0 q hq⟩
    · rw [masksT, Nat.add_zero, masksT_lt r (i + 1) _ i (by omega), Tr.get_set _ _ _ _ _ (by omega)]
    · rw [masksT, masksT_lt r (i + 1) _ q (by omega), Tr.get_set_ne _ _ _ _ _ _ (by omega)]
  | o' :: r, i, ms, j + 1, o, hl, h0, h => by
    simp only [List.length_cons] at hl
    obtain ⟨ms', q1, q2, q3⟩ := masksT_at r (i + 1) (ms.set 0 (maskE ms o'.after.toList 0) 20 i) j o (by omega) (fun q hq => by rw [Tr.get_set_ne _ _ _ _ _ _ (by omega)]; exact h0 q (by omega)) (by simpa using h)
    refine ⟨ms', ?_, fun q hq => ?_, fun q hq => q3 q (by omega)⟩
    · rw [masksT, show i + (j + 1) = i + 1 + j by omega]; exact q1
    · rw [masksT]; exact q2 q (by omega)
noncomputable def ancM (ms : Tr Nat) (e i : Nat) : Bool := Nat.testBit (ms.get 0 i) e
noncomputable def depE : List Edge → Nat → Bool
  | [], _ => true
  | e :: r, i => cond (Region.binds .any e) (cond (Nat.ble (Nat.succ e.on) i) (depE r i) false) (depE r i)
/-- A store that some store or call has no order with. -/
noncomputable def storeO (o : Oper) : Bool := match o.op with
  | .store _ _ _ => true
  | _ => false
noncomputable def partB (ms : Tr Nat) (i : Nat) : List Oper → Nat → Bool
  | [], _ => false
  | op :: r, p => cond (cond (Nat.beq (clsO op) 3) (cond (Nat.beq p i) false (cond (ancM ms p i) false (cond (ancM ms i p) false true))) false) true (partB ms i r (Nat.succ p))
noncomputable def specB (ops : Array Oper) (ms : Tr Nat) (i : Nat) : Bool := match nthO ops.toList i with
  | some o => cond (storeO o) (partB ms i ops.toList 0) false
  | none => false
theorem specB_store [Tab] {ops : Array Oper} {ms : Tr Nat} {i : Nat} {o : Oper} (ho : ops[i]? = some o) (h : specB ops ms i = true) : ∃ t a v, o.op = .store t a v := by
  unfold specB at h
  rw [nthO_eq, Array.getElem?_toList, ho] at h
  dsimp only at h
  cases hs : storeO o with
  | false => rw [hs] at h; cases h
  | true =>
    unfold storeO at hs
    split at hs
    · exact ⟨_, _, _, by assumption⟩
    · cases hs
theorem specB_cls [Tab] {ops : Array Oper} {ms : Tr Nat} {i : Nat} {o : Oper} (ho : ops[i]? = some o) (h : specB ops ms i = true) : clsO o = 3 := by
  obtain ⟨t, a, v, e⟩ := specB_store ho h
  unfold clsO
  rw [e]
noncomputable def pairB (ops : Array Oper) (ms : Tr Nat) (i : Nat) (oi : Oper) : List Oper → Nat → Bool
  | [], _ => true
  | op :: r, p => cond (Nat.ble i p) true (cond (cond (ancM ms p i) true (cond (op.apart ops oi) (cond (Nat.beq (clsO op) 3) (cond (Nat.beq (clsO oi) 3) (cond (specB ops ms p) (specB ops ms i) false) (cond (specB ops ms p) (cond (Nat.beq (clsO oi) 1) false true) true)) (cond (specB ops ms i) (cond (Nat.beq (clsO op) 1) false true) true)) false)) (pairB ops ms i oi r (Nat.succ p)) false)
noncomputable def statL (ops : Array Oper) (ms : Tr Nat) : List Oper → Nat → Bool
  | [], _ => true
  | o :: r, i => cond (depE o.after.toList i) (cond (Nat.ble (Nat.succ (ms.get 0 i)) (Nat.pow 2 i)) (cond (pairB ops ms i o ops.toList 0) (statL ops ms r (Nat.succ i)) false) false) false
noncomputable def statB (ops : Array Oper) : Bool := cond (Nat.ble ops.toList.length 1000) (statL ops (masksT ops.toList 0 .leaf) ops.toList 0) false
theorem cond_ff {a b : Bool} (h : cond a b false = true) : a = true ∧ b = true := by cases a <;> simp_all
theorem depE_ok [Tab] {i : Nat} : ∀ (l : List Edge), depE l i = true → ∀ e ∈ l, Region.binds .any e = true → e.on < i
  | [], _, _, he, _ => by cases he
  | e :: r, h, e', he, hb => by
    unfold depE at h
    cases hbe : Region.binds .any e with
    | true =>
      rw [hbe] at h
      obtain ⟨h1, h2⟩ := cond_ff h
      rcases List.mem_cons.1 he with rfl | he
      · exact Nat.le_of_ble_eq_true h1
      · exact depE_ok r h2 e' he hb
    | false =>
      rw [hbe] at h
      rcases List.mem_cons.1 he with rfl | he
      · rw [hbe] at hb; cases hb
      · exact depE_ok r h e' he hb
theorem beq_ne {a b : Nat} (h : Nat.beq a b = false) : a ≠ b := fun e => by rw [e, show Nat.beq b b = true from Nat.beq_refl b] at h; cases h
theorem pairB_ok [Tab] {ops : Array Oper} {ms : Tr Nat} {i : Nat} {oi : Oper} (hoi : ops[i]? = some oi) : ∀ (l : List Oper) (p : Nat), pairB ops ms i oi l p = true → ∀ (j : Nat) (op : Oper), l[j]? = some op → ops[p + j]? = some op → p + j < i → ancM ms (p + j) i = false → op.apart ops oi = true ∧ (clsO op ≠ 3 ∨ clsO oi ≠ 3 ∨ (specB ops ms (p + j) = true ∧ specB ops ms i = true)) ∧ (specB ops ms (p + j) = true → clsO oi ≠ 1) ∧ (specB ops ms i = true → clsO op ≠ 1)
  | [], _, _, _, _, h, _, _, _ => by simp at h
  | o :: r, p, h, j, op, hj, hop, hlt, ha => by
    unfold pairB at h
    cases hb : Nat.ble i p with
    | true => have : i ≤ p := Nat.le_of_ble_eq_true hb; omega
    | false =>
      rw [hb] at h
      obtain ⟨h1, h2⟩ := cond_ff h
      cases j with
      | zero =>
        simp at hj
        subst hj
        rw [Nat.add_zero] at ha hop ⊢
        rw [ha] at h1
        obtain ⟨h3, h4⟩ := cond_ff h1
        refine ⟨h3, ?_⟩
        cases e1 : Nat.beq (clsO o) 3 with
        | false =>
          rw [e1] at h4
          simp only [cond_false] at h4
          refine ⟨.inl (beq_ne e1), fun hs => absurd (specB_cls hop hs) (beq_ne e1), fun hs => ?_⟩
          rw [hs] at h4
          simp only [cond_true] at h4
          cases e2 : Nat.beq (clsO o) 1 with
          | false => exact beq_ne e2
          | true => rw [e2] at h4; cases h4
        | true =>
          have e1' := Nat.eq_of_beq_eq_true e1
          rw [e1] at h4
          simp only [cond_true] at h4
          cases e2 : Nat.beq (clsO oi) 3 with
          | false =>
            rw [e2] at h4
            simp only [cond_false] at h4
            refine ⟨.inr (.inl (beq_ne e2)), fun hs => ?_, fun hs => by rw [e1']; decide⟩
            rw [hs] at h4
            simp only [cond_true] at h4
            cases e3 : Nat.beq (clsO oi) 1 with
            | false => exact beq_ne e3
            | true => rw [e3] at h4; cases h4
          | true =>
            have e2' := Nat.eq_of_beq_eq_true e2
            rw [e2] at h4
            simp only [cond_true] at h4
            obtain ⟨h5, h6⟩ := cond_ff h4
            exact ⟨.inr (.inr ⟨h5, h6⟩), fun _ => by rw [e2']; decide, fun _ => by rw [e1']; decide⟩
      | succ j =>
        have := pairB_ok hoi r (p + 1) h2 j op (by simpa using hj) (by rw [show p + 1 + j = p + (j + 1) by omega]; exact hop) (by omega) (by rw [show p + 1 + j = p + (j + 1) by omega]; exact ha)
        rwa [show p + 1 + j = p + (j + 1) by omega] at this
theorem statL_ok [Tab] {ops : Array Oper} {ms : Tr Nat} : ∀ (l : List Oper) (i : Nat), statL ops ms l i = true → ∀ (j : Nat) (o : Oper), l[j]? = some o → depE o.after.toList (i + j) = true ∧ ms.get 0 (i + j) < 2 ^ (i + j) ∧ pairB ops ms (i + j) o ops.toList 0 = true
  | [], _, _, _, _, h => by simp at h
  | o' :: r, i, h, j, o, hj => by
    unfold statL at h
    obtain ⟨h1, h2⟩ := cond_ff h
    obtain ⟨h3, h4⟩ := cond_ff h2
    obtain ⟨h5, h6⟩ := cond_ff h4
    cases j with
    | zero =>
      simp at hj
      subst hj
      exact ⟨h1, Nat.le_of_ble_eq_true h3, h5⟩
    | succ j =>
      have := statL_ok r (i + 1) h6 j o (by simpa using hj)
      rwa [show i + 1 + j = i + (j + 1) by omega] at this
theorem statB_ok [Tab] {ops : Array Oper} (h : statB ops = true) : ops.size ≤ 1000 ∧ StatOK ops (ancM (masksT ops.toList 0 .leaf)) (specB ops (masksT ops.toList 0 .leaf)) := by
  unfold statB at h
  obtain ⟨h1, h2⟩ := cond_ff h
  have hl : ops.toList.length ≤ 1000 := Nat.le_of_ble_eq_true h1
  have hs := statL_ok ops.toList 0 h2
  have hget : ∀ (i : Nat) (o : Oper), ops[i]? = some o → ops.toList[i]? = some o := fun i o ho => by rw [Array.getElem?_toList]; exact ho
  have hdep : ∀ (i : Nat) (o : Oper), ops[i]? = some o → ∀ e ∈ o.after, Region.binds .any e = true → e.on < i := fun i o ho e he hb => by
    have := (hs i o (hget i o ho)).1
    rw [Nat.zero_add] at this
    exact depE_ok _ this e (by simpa using he) hb
  have hbig : ∀ i, ops.size ≤ i → (masksT ops.toList 0 .leaf).get 0 i = 0 := by
    have : ∀ (l : List Oper) (k : Nat) (ms : Tr Nat) (i : Nat), k + l.length ≤ i → (masksT l k ms).get 0 i = ms.get 0 i := by
      intro l
      induction l with
      | nil => intro k ms i _; rfl
      | cons o r ih =>
        intro k ms i hi
        simp only [List.length_cons] at hi
        rw [masksT, ih (k + 1) _ i (by omega), Tr.get_set_ne _ _ _ _ _ _ (by omega)]
    intro i hi
    rw [this ops.toList 0 .leaf i (by simpa using hi)]
    rfl
  refine ⟨by simpa using hl, hdep, fun e i ha => ?_, fun e i => ?_, fun p i op oi hpi hp hi ha => ?_, fun j o ho hs => specB_cls ho hs⟩
  · rcases Nat.lt_or_ge i ops.size with hi | hi
    · have := (hs i _ (hget i _ (Array.getElem?_eq_getElem hi))).2.1
      rw [Nat.zero_add] at this
      rcases Nat.lt_or_ge e i with h | h
      · exact h
      · exfalso
        unfold ancM at ha
        rw [Nat.testBit_lt_two_pow (Nat.lt_of_lt_of_le this (Nat.pow_le_pow_right (by omega) h))] at ha
        cases ha
    · unfold ancM at ha
      rw [hbig i hi, Nat.zero_testBit] at ha
      cases ha
  · induction i using Nat.strongRecOn generalizing e with
    | _ i ih =>
      intro ha
      rcases Nat.lt_or_ge i ops.size with hi | hi
      · obtain ⟨ms', q1, q2, q3⟩ := masksT_at ops.toList 0 .leaf i ops[i] (by omega) (fun q _ => rfl) (hget i _ (Array.getElem?_eq_getElem hi))
        rw [Nat.zero_add] at q1 q2 q3
        unfold ancM at ha
        rw [q1] at ha
        rcases maskE_bit ms' _ _ ha with h3 | ⟨ed, h3, h4, h5⟩
        · rw [Nat.zero_testBit] at h3; cases h3
        · have hon := hdep i _ (Array.getElem?_eq_getElem hi) ed (by simpa using h3) h4
          rcases h5 with h5 | h5
          · rw [← h5]
            exact .dep i _ ed (Array.getElem?_eq_getElem hi) (by simpa using h3) h4
          · rw [q2 _ hon] at h5
            exact .more i _ ed (Array.getElem?_eq_getElem hi) (by simpa using h3) h4 e (ih ed.on hon e h5)
      · unfold ancM at ha
        rw [hbig i hi, Nat.zero_testBit] at ha
        cases ha
  · have := (hs i oi (hget i oi hi)).2.2
    rw [Nat.zero_add] at this
    have := pairB_ok hi ops.toList 0 this p op (hget p op hp) (by rw [Nat.zero_add]; exact hp) (by omega) (by rw [Nat.zero_add]; exact ha)
    rwa [Nat.zero_add] at this
end Go.Proofs.YthmojpcaagnfkaaGreatDoor


/-
  The abstract machine: the hook for drawn regions. No program.
-/
namespace Go.Proofs.YthmojpcaagnfkaaGreatDoor
open Go.RowKit

mutual
/-- The same values? -/
noncomputable def eqAV : AV → AV → Bool
  | .top, .top => true
  | .undef, .undef => true
  | .int k n, .int k' n' => cond (kindEq k k') (decide (n = n')) false
  | .bool b, .bool b' => b == b'
  | .str l, .str l' => eqB l l'
  | .nilp, .nilp => true
  | .ptr b o, .ptr b' o' => cond (Nat.beq b b') (Nat.beq o o') false
  | .nils, .nils => true
  | .sl b o n c, .sl b' o' n' c' => cond (Nat.beq b b') (cond (Nat.beq o o') (cond (Nat.beq n n') (Nat.beq c c') false) false) false
  | .slu b o n c, .slu b' o' n' c' => cond (Nat.beq b b') (cond (Nat.beq o o') (cond (Nat.beq n n') (Nat.beq c c') false) false) false
  | .nilm, .nilm => true
  | .mapp b, .mapp b' => Nat.beq b b'
  | .nilfn, .nilfn => true
  | .fn f l, .fn f' l' => cond (Nat.beq f f') (eqAVs l l') false
  | .fnm f l, .fnm f' l' => cond (Nat.beq f f') (eqAVs l l') false
  | .nili, .nili => true
  | .ifc t v, .ifc t' v' => cond (Nat.beq t t') (eqAV v v') false
  | .agg l, .agg l' => eqAVs l l'
  | .tup l, .tup l' => eqAVs l l'
  | .symI b k lo hi, .symI b' k' lo' hi' => cond (Nat.beq b b') (cond (kindEq k k') (cond (decide (lo = lo')) (decide (hi = hi')) false) false) false
  | .symS b, .symS b' => Nat.beq b b'
  | .symT b lo hi, .symT b' lo' hi' => cond (Nat.beq b b') (cond (decide (lo = lo')) (decide (hi = hi')) false) false
  | .symZ n, .symZ n' => Nat.beq n n'
  | _, _ => false
noncomputable def eqAVs : List AV → List AV → Bool
  | [], [] => true
  | a :: l, b :: m => cond (eqAV a b) (eqAVs l m) false
  | _, _ => false
end
mutual
theorem eqAV_eq [Tab] : ∀ (a b : AV), eqAV a b = true → a = b := by
  intro a b h
  cases a <;> cases b <;> first | rfl | (unfold eqAV at h; cases h; done) | skip
  case int.int k n k' n' =>
    unfold eqAV at h
    obtain ⟨h1, h2⟩ := cond_ff h
    rw [kindEq_eq h1, of_decide_eq_true h2]
  case bool.bool b b' => unfold eqAV at h; rw [eq_of_beq h]
  case str.str l l' =>
    unfold eqAV at h
    rw [eqB_eq] at h
    rw [of_decide_eq_true h]
  case ptr.ptr b o b' o' =>
    unfold eqAV at h
    obtain ⟨h1, h2⟩ := cond_ff h
    rw [Nat.eq_of_beq_eq_true h1, Nat.eq_of_beq_eq_true h2]
  case sl.sl b o n c b' o' n' c' =>
    unfold eqAV at h
    obtain ⟨h1, h2⟩ := cond_ff h
    obtain ⟨h3, h4⟩ := cond_ff h2
    obtain ⟨h5, h6⟩ := cond_ff h4
    rw [Nat.eq_of_beq_eq_true h1, Nat.eq_of_beq_eq_true h3, Nat.eq_of_beq_eq_true h5, Nat.eq_of_beq_eq_true h6]
  case slu.slu b o n c b' o' n' c' =>
    unfold eqAV at h
    obtain ⟨h1, h2⟩ := cond_ff h
    obtain ⟨h3, h4⟩ := cond_ff h2
    obtain ⟨h5, h6⟩ := cond_ff h4
    rw [Nat.eq_of_beq_eq_true h1, Nat.eq_of_beq_eq_true h3, Nat.eq_of_beq_eq_true h5, Nat.eq_of_beq_eq_true h6]
  case mapp.mapp b b' => unfold eqAV at h; rw [Nat.eq_of_beq_eq_true h]
  case fn.fn f l f' l' =>
    unfold eqAV at h
    obtain ⟨h1, h2⟩ := cond_ff h
    rw [Nat.eq_of_beq_eq_true h1, eqAVs_eq l l' h2]
  case fnm.fnm f l f' l' =>
    unfold eqAV at h
    obtain ⟨h1, h2⟩ := cond_ff h
    rw [Nat.eq_of_beq_eq_true h1, eqAVs_eq l l' h2]
  case ifc.ifc t v t' v' =>
    unfold eqAV at h
    obtain ⟨h1, h2⟩ := cond_ff h
    rw [Nat.eq_of_beq_eq_true h1, eqAV_eq v v' h2]
  case agg.agg l l' => unfold eqAV at h; rw [eqAVs_eq l l' h]
  case tup.tup l l' => unfold eqAV at h; rw [eqAVs_eq l l' h]
  case symI.symI b k lo hi b' k' lo' hi' =>
    unfold eqAV at h
    obtain ⟨h1, h2⟩ := cond_ff h
    obtain ⟨h3, h4⟩ := cond_ff h2
    obtain ⟨h5, h6⟩ := cond_ff h4
    rw [Nat.eq_of_beq_eq_true h1, kindEq_eq h3, of_decide_eq_true h5, of_decide_eq_true h6]
  case symS.symS b b' => unfold eqAV at h; rw [Nat.eq_of_beq_eq_true h]
  case symT.symT b lo hi b' lo' hi' =>
    unfold eqAV at h
    obtain ⟨h1, h2⟩ := cond_ff h
    obtain ⟨h3, h4⟩ := cond_ff h2
    rw [Nat.eq_of_beq_eq_true h1, of_decide_eq_true h3, of_decide_eq_true h4]
  case symZ.symZ n n' => unfold eqAV at h; rw [Nat.eq_of_beq_eq_true h]
theorem eqAVs_eq [Tab] : ∀ (l m : List AV), eqAVs l m = true → l = m
  | [], [], _ => rfl
  | [], _ :: _, h => by unfold eqAVs at h; cases h
  | _ :: _, [], h => by unfold eqAVs at h; cases h
  | a :: l, b :: m, h => by
    unfold eqAVs at h
    obtain ⟨h1, h2⟩ := cond_ff h
    rw [eqAV_eq a b h1, eqAVs_eq l m h2]
end
noncomputable def putF (nt : Nat) (f : Nat → AV) (d : Option Nat) (v : AV) : Option (Nat → AV) := match d with
  | none => some f
  | some d => cond (Nat.ble (Nat.succ d) nt) (some (updT f (some d) v)) none
structure DC where
  t : Nat → AV
  g : AS
  x : Nat → AB
  hist : List (Nat × AS)
  rds : List (Nat × (AS → Bool))
  st : List (Nat × Nat)
noncomputable def againA (r : Option (AV × AS)) (v : AV) (s : AS) : Bool := match r with
  | some q => cond (eqAV q.1 v) (Nat.beq q.2.n s.n) false
  | none => false
noncomputable def histB (ms : Tr Nat) (i : Nat) (f : AS → Option (AV × AS)) (v : AV) : List (Nat × AS) → Bool
  | [] => true
  | h :: r => cond (cond (ancM ms h.1 i) true (againA (f h.2) v h.2)) (histB ms i f v r) false
noncomputable def rdsB (ms : Tr Nat) (i : Nat) (g : AS) : List (Nat × (AS → Bool)) → Bool
  | [] => true
  | h :: r => cond (cond (ancM ms h.1 i) true (h.2 g)) (rdsB ms i g r) false
noncomputable def convC (P : Program) (call : Nat → List AV → AS → Option (AV × AS)) (nt : Nat) (base : Nat) (i : Nat) (o : Oper) (c : DC) : Option DC := cond (isConv o) (match evOp P call o (oevF c.t) ⟨c.g.h, Nat.add base i⟩ with
  | some q => cond (Nat.beq q.2.n (Nat.succ (Nat.add base i))) (match putF nt c.t o.dst q.1 with
    | some t => some ⟨t, c.g, updF c.x i (q.2.get (Nat.add base i)), c.hist, c.rds, c.st⟩
    | none => none) none
  | none => none) none
noncomputable def blkA : AV → Nat
  | .ptr b _ => b
  | _ => 0
noncomputable def blkO (ev : Operand → AV) (o : Oper) : Nat := match o.op with
  | .store _ a _ => blkA (ev a)
  | _ => 0
noncomputable def stB (ms : Tr Nat) (i b : Nat) : List (Nat × Nat) → Bool
  | [] => true
  | h :: r => cond (cond (ancM ms h.1 i) true (cond (Nat.beq h.2 b) false true)) (stB ms i b r) false
noncomputable def specC (P : Program) (call : Nat → List AV → AS → Option (AV × AS)) (nt : Nat) (ms : Tr Nat) (i : Nat) (o : Oper) (c : DC) : Option DC := match evOp P call o (oevF c.t) c.g with
  | some q => cond (stB ms i (blkO (oevF c.t) o) c.st) (match putF nt c.t o.dst .undef with
    | some t => some ⟨t, q.2, c.x, c.hist, c.rds, (i, blkO (oevF c.t) o) :: c.st⟩
    | none => none) none
  | none => none
noncomputable def stepC (P : Program) (call : Nat → List AV → AS → Option (AV × AS)) (nt : Nat) (ops : Array Oper) (base : Nat) (ms : Tr Nat) (i : Nat) (o : Oper) (c : DC) : Option DC := match wantF ops o c.t with
  | none => none
  | some false => match putF nt c.t o.dst .undef with
    | some t => some ⟨t, c.g, c.x, c.hist, c.rds, c.st⟩
    | none => none
  | some true => match clsO o with
    | 0 => match evOp P call o (oevF c.t) c.g with
      | some q => match putF nt c.t o.dst q.1 with
        | some t => some ⟨t, c.g, c.x, c.hist, c.rds, c.st⟩
        | none => none
      | none => none
    | 1 => match evOp P call o (oevF c.t) c.g with
      | some q => cond (Nat.beq q.2.n c.g.n) (cond (histB ms i (evOp P call o (oevF c.t)) q.1 c.hist) (match putF nt c.t o.dst q.1 with
        | some t => some ⟨t, c.g, c.x, c.hist, (i, fun s => againA (evOp P call o (oevF c.t) s) q.1 s) :: c.rds, c.st⟩
        | none => none) none) (convC P call nt base i o c)
      | none => none
    | 2 => match evOp P call o (oevF c.t) ⟨c.g.h, Nat.add base i⟩ with
      | some q => match putF nt c.t o.dst q.1 with
        | some t => some ⟨t, c.g, updF c.x i (q.2.get (Nat.add base i)), c.hist, c.rds, c.st⟩
        | none => none
      | none => none
    | 3 => cond (specB ops ms i) (specC P call nt ms i o c) (match evOp P call o (oevF c.t) (preA base (fun k => ancM ms k i) c.x ops.size c.g) with
      | some q => cond (rdsB ms i q.2 c.rds) (match putF nt c.t o.dst q.1 with
        | some t => some ⟨t, q.2, fun k => cond (ancM ms k i) .none (c.x k), (i, c.g) :: c.hist, c.rds, c.st⟩
        | none => none) none
      | none => none)
    | _ => none
/-- What is reckoned stands for a region's state. -/
structure RelC (c : DC) (d : DS) : Prop where
  t : d.t = c.t
  g : d.g = c.g
  x : d.x = c.x
  hist : ∀ e s, d.hist e s → (e, s) ∈ c.hist
  rds : ∀ r s, (∀ f, (r, f) ∈ c.rds → f s = true) → d.rds r s
  st : ∀ e b, d.st e b → (e, b) ∈ c.st
theorem stB_ok [Tab] {ms : Tr Nat} {i b : Nat} : ∀ (l : List (Nat × Nat)), stB ms i b l = true → ∀ e c, (e, c) ∈ l → ancM ms e i = false → c ≠ b
  | [], _, _, _, h, _ => by cases h
  | p :: r, h, e, c, hm, ha => by
    unfold stB at h
    obtain ⟨h1, h2⟩ := cond_ff h
    rcases List.mem_cons.1 hm with h3 | h3
    · subst h3
      rw [ha] at h1
      simp only [cond_false] at h1
      intro hc
      subst hc
      rw [show Nat.beq c c = true from Nat.beq_refl c] at h1
      cases h1
    · exact stB_ok r h2 e c h3 ha
theorem storeA_at [Tab] {P : Program} {t : Nat} {a v : AV} {s s' : AS} (h : storeA P t a v s = some s') : ∃ o y, a = .ptr (blkA a) o ∧ s.get (blkA a) ≠ .none ∧ s' = s.put (blkA a) y ∧ ∀ s2 : AS, s2.get (blkA a) = s.get (blkA a) → storeA P t a v s2 = some (s2.put (blkA a) y) := by
  unfold storeA at h
  split at h
  · rename_i b o
    show ∃ o' y, AV.ptr b o = .ptr b o' ∧ s.get b ≠ .none ∧ s' = s.put b y ∧ ∀ s2 : AS, s2.get b = s.get b → storeA P t (.ptr b o) v s2 = some (s2.put b y)
    split at h
    · rename_i cs ty hg
      split at h
      · rename_i vs hvs
        split at h
        · rename_i ie hie
          have h1 := cond_some h
          have h2 := cond_some h1
          injection h2 with h2
          have hne : s.get b ≠ .none := fun e => by rw [hg] at e; cases e
          refine ⟨o, _, rfl, hne, h2.symm, fun s2 e => ?_⟩
          have hg2 : s2.get b = AB.cells cs ty := e.trans hg
          unfold storeA
          dsimp only
          rw [hg2]
          dsimp only
          rw [hvs, hie]
          dsimp only
          cases c1 : Nat.beq ie.size vs.length with
          | false => rw [c1] at h; cases h
          | true =>
            cases c2 : Nat.ble (Nat.add o vs.length) cs.length with
            | false => rw [c2] at h1; cases h1
            | true => rfl
        · cases h
      · cases h
    · cases h
  · cases h
theorem histB_ok [Tab] {ms : Tr Nat} {i : Nat} {f : AS → Option (AV × AS)} {v : AV} : ∀ (l : List (Nat × AS)), histB ms i f v l = true → ∀ e s, (e, s) ∈ l → ancM ms e i = false → againA (f s) v s = true
  | [], _, _, _, h, _ => by cases h
  | h :: r, hb, e, s, hm, ha => by
    unfold histB at hb
    obtain ⟨h1, h2⟩ := cond_ff hb
    rcases List.mem_cons.1 hm with rfl | hm
    · dsimp only at h1
      rw [ha] at h1
      exact h1
    · exact histB_ok r h2 e s hm ha
theorem rdsB_ok [Tab] {ms : Tr Nat} {i : Nat} {g : AS} : ∀ (l : List (Nat × (AS → Bool))), rdsB ms i g l = true → ∀ r f, (r, f) ∈ l → ancM ms r i = false → f g = true
  | [], _, _, _, h, _ => by cases h
  | h :: r, hb, e, s, hm, ha => by
    unfold rdsB at hb
    obtain ⟨h1, h2⟩ := cond_ff hb
    rcases List.mem_cons.1 hm with rfl | hm
    · dsimp only at h1
      rw [ha] at h1
      exact h1
    · exact rdsB_ok r h2 e s hm ha
theorem againA_ok [Tab] {P : Program} {call : Nat → List AV → AS → Option (AV × AS)} {o : Oper} {ev : Operand → AV} {v : AV} {s : AS} (hc : clsO o = 1) (h : againA (evOp P call o ev s) v s = true) : evOp P call o ev s = some (v, s) := by
  unfold againA at h
  split at h
  · rename_i q hq
    obtain ⟨h1, h2⟩ := cond_ff h
    obtain ⟨u, s'⟩ := q
    have e1 := eqAV_eq _ _ h1
    have e2 := evOp_read hc hq (Nat.eq_of_beq_eq_true h2)
    dsimp only at e1
    rw [hq, e1, e2]
  · cases h
theorem putF_upd [Tab] {nt : Nat} {f f' : Nat → AV} {d : Option Nat} {v : AV} (h : putF nt f d v = some f') : f' = updT f d v := by
  unfold putF at h
  split at h
  · injection h with h
    rw [← h]
    funext k
    unfold updT
    rw [if_neg (by intro e; cases e)]
  · have h := cond_some h
    injection h with h
    exact h.symm
theorem putF_lt {nt : Nat} {f f' : Nat → AV} {d : Nat} {v : AV} (h : putF nt f (some d) v = some f') : d < nt := by
  unfold putF at h
  dsimp only at h
  cases hb : Nat.ble (Nat.succ d) nt with
  | false => rw [hb] at h; cases h
  | true => exact Nat.le_of_ble_eq_true hb
theorem stepC_ok [Tab] {P : Program} {call : Nat → List AV → AS → Option (AV × AS)} {nt : Nat} {ops : Array Oper} {base : Nat} (hb : base + ops.size ≤ 1000000000) {ms : Tr Nat} {i : Nat} {o : Oper} (ho : ops[i]? = some o) {c c' : DC} {d : DS} (hr : RelC c d) (hs : stepC P call nt ops base ms i o c = some c') :
    ∃ d', StepD P call nt ops base (ancM ms) (specB ops ms) i d d' ∧ RelC c' d' := by
  have hlt : ∀ {v : AV} {t : Nat → AV}, putF nt c.t o.dst v = some t → ∀ k, o.dst = some k → k < nt := fun h k hk => by rw [hk] at h; exact putF_lt h
  have hin : i < ops.size := (Array.getElem?_eq_some_iff.1 ho).1
  unfold stepC at hs
  split at hs
  · cases hs
  · rename_i hw
    split at hs
    · rename_i t hp
      injection hs with hs
      subst hs
      exact ⟨_, ⟨o, ho, hlt hp, .inl ⟨by rw [hr.t]; exact hw, rfl⟩⟩, ⟨by rw [putF_upd hp, hr.t], hr.g, hr.x, hr.hist, hr.rds, hr.st⟩⟩
    · cases hs
  · rename_i hw
    have hw' : wantF ops o d.t = some true := by rw [hr.t]; exact hw
    have hev : oevF d.t = oevF c.t := by rw [hr.t]
    split at hs
    · rename_i hcl
      split at hs
      · rename_i q hq
        split at hs
        · rename_i t hp
          injection hs with hs
          subst hs
          obtain ⟨u, s'⟩ := q
          obtain ⟨_, h2⟩ := evOp_pure hcl hq
          exact ⟨_, ⟨o, ho, hlt hp, .inr (.inl ⟨hw', hcl, u, by rw [hev]; exact h2, rfl⟩)⟩, ⟨by rw [putF_upd hp, hr.t], hr.g, hr.x, hr.hist, hr.rds, hr.st⟩⟩
        · cases hs
      · cases hs
    · rename_i hcl
      split at hs
      · rename_i q hq
        cases h1 : Nat.beq q.2.n c.g.n with
        | false =>
          rw [h1] at hs
          simp only [cond_false] at hs
          unfold convC at hs
          cases h3 : isConv o with
          | false => rw [h3] at hs; cases hs
          | true =>
            rw [h3] at hs
            simp only [cond_true] at hs
            split at hs
            · rename_i q2 hq2
              cases h4 : Nat.beq q2.2.n (Nat.succ (Nat.add base i)) with
              | false => rw [h4] at hs; cases hs
              | true =>
                rw [h4] at hs
                simp only [cond_true] at hs
                split at hs
                · rename_i t hp
                  injection hs with hs
                  subst hs
                  obtain ⟨u, s'⟩ := q2
                  obtain ⟨cb, g1, g2, g3⟩ := evOp_conv h3 hq2 (Nat.eq_of_beq_eq_true h4)
                  have hget : s'.get (base + i) = cb := by
                    rw [g2]
                    exact AS.get_new ⟨c.g.h, base + i⟩ cb (by show base + i < _; omega)
                  refine ⟨_, ⟨o, ho, hlt hp, .inr (.inr (.inr (.inl ⟨hw', .inr h3, u, cb, g1, fun s hs => by rw [hev]; exact g3 s hs, rfl⟩)))⟩, ⟨by rw [putF_upd hp, hr.t], hr.g, ?_, hr.hist, hr.rds, hr.st⟩⟩
                  show updF d.x i cb = updF c.x i (s'.get (base + i))
                  rw [hget, hr.x]
                · cases hs
            · cases hs
        | true =>
        cases h2 : histB ms i (evOp P call o (oevF c.t)) q.1 c.hist with
        | false => rw [h1, h2] at hs; cases hs
        | true =>
          rw [h1, h2] at hs
          simp only [cond_true] at hs
          split at hs
          · rename_i t hp
            injection hs with hs
            subst hs
            obtain ⟨u, s'⟩ := q
            have e2 := evOp_read hcl hq (Nat.eq_of_beq_eq_true h1)
            subst e2
            refine ⟨_, ⟨o, ho, hlt hp, .inr (.inr (.inl ⟨hw', hcl, u, by rw [hev, hr.g]; exact hq, fun e gb he ha => by rw [hev]; exact againA_ok hcl (histB_ok _ h2 e gb (hr.hist e gb he) ha), rfl⟩))⟩, ⟨by rw [putF_upd hp, hr.t], hr.g, hr.x, hr.hist, fun r s hf => ⟨hr.rds r s fun f hm => hf f (by simp [hm]), fun e => ?_⟩, hr.st⟩⟩
            have := hf _ (by rw [e]; exact List.mem_cons_self)
            show evOp P call o (oevF d.t) s = some (u, s)
            rw [hev]
            exact againA_ok hcl this
          · cases hs
      · cases hs
    · rename_i hcl
      split at hs
      · rename_i q hq
        split at hs
        · rename_i t hp
          injection hs with hs
          subst hs
          obtain ⟨u, s'⟩ := q
          obtain ⟨cb, g1, g2, g3⟩ := evOp_new hcl hq
          have hget : s'.get (base + i) = cb := by
            rw [g2]
            exact AS.get_new ⟨c.g.h, base + i⟩ cb (by show base + i < _; omega)
          refine ⟨_, ⟨o, ho, hlt hp, .inr (.inr (.inr (.inl ⟨hw', .inl hcl, u, cb, g1, fun s hs => by rw [hev]; exact g3 s hs, rfl⟩)))⟩, ⟨by rw [putF_upd hp, hr.t], hr.g, ?_, hr.hist, hr.rds, hr.st⟩⟩
          show updF d.x i cb = updF c.x i (s'.get (base + i))
          rw [hget, hr.x]
        · cases hs
      · cases hs
    · rename_i hcl
      cases hsp : specB ops ms i with
      | true =>
        rw [hsp] at hs
        simp only [cond_true] at hs
        obtain ⟨ty, xa, xv, hop⟩ := specB_store ho hsp
        unfold specC at hs
        split at hs
        · rename_i q hq
          cases h1 : stB ms i (blkO (oevF c.t) o) c.st with
          | false => rw [h1] at hs; cases hs
          | true =>
            rw [h1] at hs
            simp only [cond_true] at hs
            split at hs
            · rename_i t hp
              injection hs with hs
              subst hs
              have eb : blkO (oevF c.t) o = blkA (oevF c.t xa) := by unfold blkO; rw [hop]
              rw [eb] at h1 ⊢
              have hst : ∀ s, evOp P call o (oevF c.t) s = skipS (storeA P ty (oevF c.t xa) (oevF c.t xv) s) := fun s => by
                unfold evOp
                rw [hop]
                rfl
              rw [hst] at hq
              cases hss : storeA P ty (oevF c.t xa) (oevF c.t xv) c.g with
              | none => rw [hss] at hq; cases hq
              | some s1 =>
                rw [hss] at hq
                injection hq with hq
                subst hq
                obtain ⟨_, y, _, g2, g3, g4⟩ := storeA_at hss
                subst g3
                refine ⟨_, ⟨o, ho, hlt hp, .inr (.inr (.inr (.inr (.inr ⟨hw', hsp, blkA (oevF c.t xa), y, by rw [hr.g]; exact g2, fun s hs => by rw [hev, hst, g4 s (by rw [hs, hr.g])]; rfl, fun e cc he ha => stB_ok _ h1 e cc (hr.st e cc he) ha, rfl⟩))))⟩, ⟨by rw [putF_upd hp, hr.t], by show d.g.put _ y = _; rw [hr.g], hr.x, hr.hist, hr.rds, fun e cc he => ?_⟩⟩
                rcases he with he | ⟨e1, e2⟩
                · exact List.mem_cons_of_mem _ (hr.st e cc he)
                · rw [e1, e2]
                  exact List.mem_cons_self
            · cases hs
        · cases hs
      | false =>
      rw [hsp] at hs
      simp only [cond_false] at hs
      split at hs
      · rename_i q hq
        cases h1 : rdsB ms i q.2 c.rds with
        | false => rw [h1] at hs; cases hs
        | true =>
          rw [h1] at hs
          simp only [cond_true] at hs
          split at hs
          · rename_i t hp
            injection hs with hs
            subst hs
            obtain ⟨u, g'⟩ := q
            refine ⟨_, ⟨o, ho, hlt hp, .inr (.inr (.inr (.inr (.inl ⟨hw', hcl, hsp, u, g', by rw [hev, hr.g, hr.x]; exact hq, fun r ha => hr.rds r g' fun f hm => rdsB_ok _ h1 r f hm ha, rfl⟩))))⟩, ⟨by rw [putF_upd hp, hr.t], rfl, ?_, fun e s he => ?_, hr.rds, hr.st⟩⟩
            · funext k
              show (if ancM ms k i = true then AB.none else d.x k) = cond (ancM ms k i) .none (c.x k)
              rw [hr.x]
              cases ancM ms k i <;> rfl
            · rcases he with he | ⟨e1, e2⟩
              · exact List.mem_cons_of_mem _ (hr.hist e s he)
              · rw [e1, e2, hr.g]
                exact List.mem_cons_self
          · cases hs
      · cases hs
    · cases hs
noncomputable def stepsC (P : Program) (call : Nat → List AV → AS → Option (AV × AS)) (nt : Nat) (ops : Array Oper) (base : Nat) (ms : Tr Nat) : List Oper → Nat → DC → Option DC
  | [], _, c => some c
  | o :: r, i, c => match stepC P call nt ops base ms i o c with
    | some c' => stepsC P call nt ops base ms r (Nat.succ i) c'
    | none => none
theorem stepsC_ok [Tab] {P : Program} {call : Nat → List AV → AS → Option (AV × AS)} {nt : Nat} {ops : Array Oper} {base : Nat} (hb : base + ops.size ≤ 1000000000) {ms : Tr Nat} : ∀ (l : List Oper) (i : Nat) (c c' : DC) (d : DS), (∀ j o, l[j]? = some o → ops[i + j]? = some o) → RelC c d → stepsC P call nt ops base ms l i c = some c' →
    ∃ d', Chain P call nt ops base (ancM ms) (specB ops ms) (List.range' i l.length) d d' ∧ RelC c' d'
  | [], i, c, c', d, _, hr, hs => by
    injection hs with hs
    subst hs
    exact ⟨d, rfl, hr⟩
  | o :: l, i, c, c', d, hops, hr, hs => by
    unfold stepsC at hs
    split at hs
    · rename_i c1 h1
      obtain ⟨d1, q1, q2⟩ := stepC_ok hb (hops 0 o rfl) hr h1
      obtain ⟨d', q3, q4⟩ := stepsC_ok hb l (i + 1) c1 c' d1 (fun j o' hj => by have := hops (j + 1) o' (by simpa using hj); rwa [show i + 1 + j = i + (j + 1) by omega]) q2 hs
      exact ⟨d', ⟨d1, q1, q3⟩, q4⟩
    · cases hs
/-- A drawn region. -/
noncomputable def drawF (P : Program) (call : Nat → List AV → AS → Option (AV × AS)) (nt : Nat) (ops : Array Oper) (f : Nat → AV) (s : AS) : Option ((Nat → AV) × AS) :=
  cond (statB ops) (cond (Nat.ble (Nat.add s.n ops.size) 1000000000) (match stepsC P call nt ops s.n (masksT ops.toList 0 .leaf) ops.toList 0 ⟨f, ⟨s.h, Nat.add s.n ops.size⟩, fun _ => .none, [], [], []⟩ with
    | some c => some (c.t, preA s.n allP c.x ops.size c.g)
    | none => none) none) none
noncomputable def PostF [Tab] (E : AEnv) (nt : Nat) (a : Act) (s : AS) (w : World) (x : Ex) (f' : Nat → AV) (s' : AS) (e : Exit) (a' : Act) (w' : World) : Prop :=
  x.is e ∧ ∃ E', TR E' nt f' a' ∧ HR E' s'.get w' ∧ Stp E s.get w E' s'.get w' ∧ Grow E s.n E' s'.n ∧ a'.defers = a.defers
theorem drawF_ok [Tab] {P : Program} (hm : P.follows .mixedOrders = true) {call : Nat → List AV → AS → Option (AV × AS)} (hc : CallOK P call) {nt id : Nat} {ops : Array Oper} {f f' : Nat → AV} {s s' : AS} (he : drawF P call nt ops f s = some (f', s')) {E : AEnv} {a : Act} {w : World} (ht : TR E nt f a) (h : HR E s.get w) (hf : Fresh E s.n) :
    (Code.region id ops true).wp P (PostF E nt a s w .normal f' s') a w := by
  unfold drawF at he
  cases h1 : statB ops with
  | false => rw [h1] at he; cases he
  | true =>
  cases h2 : Nat.ble (Nat.add s.n ops.size) 1000000000 with
  | false => rw [h1, h2] at he; cases he
  | true =>
    rw [h1, h2] at he
    simp only [cond_true] at he
    split at he
    · rename_i c hs
      injection he with he
      injection he with e1 e2
      subst e1
      subst e2
      obtain ⟨hn, hst⟩ := statB_ok h1
      have hb : s.n + ops.size ≤ 1000000000 := Nat.le_of_ble_eq_true h2
      obtain ⟨dF, hch, hrel⟩ := stepsC_ok hb ops.toList 0 _ c ⟨f, ⟨s.h, s.n + ops.size⟩, fun _ => .none, fun _ _ => False, fun _ _ => True, fun _ _ => False⟩ (fun j o hj => by rw [Nat.zero_add]; simpa using hj) ⟨rfl, rfl, rfl, fun _ _ h => h.elim, fun _ _ _ => trivial, fun _ _ h => h.elim⟩ hs
      have hx0 : ∀ b, xOf s.n ops.size allP (fun _ => AB.none) b = .none := fun b => by unfold xOf; split <;> rfl
      have hov : ov (AS.get ⟨s.h, s.n + ops.size⟩) (xOf s.n ops.size allP fun _ => .none) = s.get := funext fun b => ov_none (hx0 b)
      refine wp_region_any hm (any_ok hc hst (E0 := E) (g0 := s.get) (w0 := w) (a0 := a) (nt := nt) (base := s.n) (dF := dF) (fun E' a' w' hI => ?_) ops.size (List.range' 0 ops.toList.length) (Array.replicate ops.size false) _ E a w.drew ?_ (by simp) (fun k => ?_) (fun i o ho hl => ?_) (List.pairwise_lt_range' ..) (by simp) hch)
      · have hfun : (preA s.n allP c.x ops.size c.g).get = ov dF.g.get (xOf s.n ops.size allP dF.x) := by
          funext b
          rw [preA_get hb b, hrel.g, hrel.x]
        have hn' : (preA s.n allP c.x ops.size c.g).n = dF.g.n := by rw [preA_n, hrel.g]
        refine ⟨rfl, E', by rw [← hrel.t]; exact hI.t, by rw [hfun]; exact hI.h, by rw [hfun]; exact hI.stp, ⟨by rw [hn']; exact Nat.le_trans (Nat.le_add_right _ _) hI.lim, fun b hb => by rw [hn']; exact hI.ok b hb⟩, hI.df⟩
      · refine ⟨ht, by rw [hov]; exact h.drew, Nat.le_refl _, hb, fun b hb => Nat.lt_of_lt_of_le (hf b hb) (Nat.le_add_right _ _), fun k hk => ⟨by simpa using hk, fun hok => by have := hf _ hok; omega, rfl⟩, fun b hb => absurd (hx0 b) hb, by rw [hov]; exact Stp.drew E s.get w, fun b hb => .inl hb, rfl⟩
      · simp
        intro hk
        simp [hk]
      · have hi := (Array.getElem?_eq_some_iff.1 ho).1
        simp [hi] at hl
    · cases he

/-- The slots that a region writes, written back. -/
noncomputable def wbT (nt : Nat) (f : Nat → AV) : List Oper → Tr AV → Option (Tr AV)
  | [], t => some t
  | o :: r, t => match o.dst with
    | none => wbT nt f r t
    | some d => match putT nt t (some d) (f d) with
      | some t' => wbT nt f r t'
      | none => none
theorem wbT_get [Tab] {nt : Nat} (hl : nt ≤ 1000000) {f : Nat → AV} : ∀ (l : List Oper) (t t' : Tr AV), wbT nt f l t = some t' → (∀ k, t.get .top k = f k ∨ ∃ o ∈ l, o.dst = some k) → t'.get .top = f
  | [], t, t', h, hk => by
    injection h with h
    subst h
    funext k
    rcases hk k with h1 | ⟨o, h1, _⟩
    · exact h1
    · cases h1
  | o :: r, t, t', h, hk => by
    unfold wbT at h
    split at h
    · rename_i hd
      refine wbT_get hl r t t' h fun k => ?_
      rcases hk k with h1 | ⟨o', h1, h2⟩
      · exact .inl h1
      · rcases List.mem_cons.1 h1 with rfl | h3
        · rw [hd] at h2; cases h2
        · exact .inr ⟨o', h3, h2⟩
    · rename_i d hd
      split at h
      · rename_i t1 hp
        refine wbT_get hl r t1 t' h fun k => ?_
        have hg := putT_get hl hp k
        by_cases e : some d = some k
        · rw [if_pos e] at hg
          injection e with e
          subst e
          exact .inl hg
        · rw [if_neg e] at hg
          rcases hk k with h1 | ⟨o', h1, h2⟩
          · exact .inl (hg.trans h1)
          · rcases List.mem_cons.1 h1 with rfl | h3
            · rw [hd] at h2; exact absurd h2 e
            · exact .inr ⟨o', h3, h2⟩
      · cases h
theorem cond_alt {α : Type} {c : Bool} {a b : Option α} {x : α} (h : cond c a b = some x) : a = some x ∨ b = some x := by
  cases c
  · exact .inr h
  · exact .inl h
theorem stepC_out [Tab] {P : Program} {call : Nat → List AV → AS → Option (AV × AS)} {nt : Nat} {ops : Array Oper} {base : Nat} {ms : Tr Nat} {i : Nat} {o : Oper} {c c' : DC} {k : Nat} (hk : o.dst ≠ some k) (h : stepC P call nt ops base ms i o c = some c') : c'.t k = c.t k := by
  have key : ∀ {v : AV} {t : Nat → AV}, putF nt c.t o.dst v = some t → t k = c.t k := fun h => by
    rw [putF_upd h]
    exact if_neg hk
  unfold stepC at h
  split at h
  · cases h
  · split at h
    · rename_i t hp
      injection h with h
      rw [← h]
      exact key hp
    · cases h
  · split at h
    · split at h
      · split at h
        · rename_i t hp
          injection h with h
          rw [← h]
          exact key hp
        · cases h
      · cases h
    · split at h
      · rcases cond_alt h with h | h
        · have h := cond_some h
          split at h
          · rename_i t hp
            injection h with h
            rw [← h]
            exact key hp
          · cases h
        · unfold convC at h
          have h := cond_some h
          split at h
          · have h := cond_some h
            split at h
            · rename_i t hp
              injection h with h
              rw [← h]
              exact key hp
            · cases h
          · cases h
      · cases h
    · split at h
      · split at h
        · rename_i t hp
          injection h with h
          rw [← h]
          exact key hp
        · cases h
      · cases h
    · rcases cond_alt h with h | h
      · unfold specC at h
        split at h
        · have h := cond_some h
          split at h
          · rename_i t hp
            injection h with h
            rw [← h]
            exact key hp
          · cases h
        · cases h
      · split at h
        · have h := cond_some h
          split at h
          · rename_i t hp
            injection h with h
            rw [← h]
            exact key hp
          · cases h
        · cases h
    · cases h
theorem stepsC_out [Tab] {P : Program} {call : Nat → List AV → AS → Option (AV × AS)} {nt : Nat} {ops : Array Oper} {base : Nat} {ms : Tr Nat} {k : Nat} : ∀ (l : List Oper) (i : Nat) (c c' : DC), (∀ o ∈ l, o.dst ≠ some k) → stepsC P call nt ops base ms l i c = some c' → c'.t k = c.t k
  | [], i, c, c', _, h => by
    injection h with h
    rw [h]
  | o :: l, i, c, c', hk, h => by
    unfold stepsC at h
    split at h
    · rename_i c1 h1
      rw [stepsC_out l _ c1 c' (fun o' ho => hk o' (by simp [ho])) h, stepC_out (hk o (by simp)) h1]
    · cases h
noncomputable def drawA (P : Program) (call : Nat → List AV → AS → Option (AV × AS)) (nt : Nat) (ops : Array Oper) (t : Tr AV) (s : AS) : Option (Tr AV × AS) := match drawF P call nt ops (t.get .top) s with
  | some q => match wbT nt q.1 ops.toList t with
    | some t' => some (t', q.2)
    | none => none
  | none => none
theorem drawA_get [Tab] {P : Program} {call : Nat → List AV → AS → Option (AV × AS)} {nt : Nat} (hl : nt ≤ 1000000) {ops : Array Oper} {t t' : Tr AV} {s s' : AS} (he : drawA P call nt ops t s = some (t', s')) : drawF P call nt ops (t.get .top) s = some (t'.get .top, s') := by
  unfold drawA at he
  split at he
  · rename_i q hq
    split at he
    · rename_i t1 hw
      injection he with he
      injection he with e1 e2
      subst e1
      subst e2
      rw [hq, wbT_get hl ops.toList t t1 hw fun k => ?_]
      by_cases h : ∃ o ∈ ops.toList, o.dst = some k
      · exact .inr h
      · refine .inl ?_
        unfold drawF at hq
        have hq := cond_some hq
        have hq := cond_some hq
        split at hq
        · rename_i c hc
          injection hq with hq
          rw [← hq]
          exact (stepsC_out ops.toList 0 _ c (fun o ho e => h ⟨o, ho, e⟩) hc).symm
        · cases hq
    · cases he
  · cases he
theorem drawA_ok [Tab] {P : Program} (hm : P.follows .mixedOrders = true) {call : Nat → List AV → AS → Option (AV × AS)} (hc : CallOK P call) {nt id : Nat} {ops : Array Oper} {t t' : Tr AV} {s s' : AS} (he : drawA P call nt ops t s = some (t', s')) {E : AEnv} {a : Act} {w : World} (ht : TR E nt (t.get .top) a) (h : HR E s.get w) (hf : Fresh E s.n) :
    (Code.region id ops true).wp P (Post E nt a s w .normal t' s') a w := drawF_ok hm hc (drawA_get ht.lim he) ht h hf
end Go.Proofs.YthmojpcaagnfkaaGreatDoor


/-
  The abstract machine: loops over maps, whatever the order. No program.
-/
namespace Go.Proofs.YthmojpcaagnfkaaGreatDoor
open Go.RowKit

/-- The next entry of a map that nobody turns: one that has not come up, or the end. -/
theorem next_run {P : Program} {w : World} {r mm clock : Nat} {seen : Array Nat} {xs : Array MapEntry} {ty : TypeId} (h1 : w.heap[r]? = some (.mapIter (some mm) clock seen clock)) (h2 : w.heap[mm]? = some (.map xs clock)) (hb : ∀ e ∈ xs, e.born < clock) :
    ((∀ e ∈ xs, seen.contains e.born = true) ∧ (Instr.next (.pointer (some ⟨r, 0, none⟩)) false ty).run P w = .ok (.tuple #[.bool false]) w) ∨
    ∃ e ∈ xs, seen.contains e.born = false ∧ ∃ w1, (w1 = w ∨ w1 = w.drew) ∧ (Instr.next (.pointer (some ⟨r, 0, none⟩)) false ty).run P w = .ok (.tuple #[.bool true, e.key, e.val]) { w1 with heap := w1.heap.setIfInBounds r (.mapIter (some mm) clock (seen.push e.born) clock) } := by
  obtain ⟨left, hleft⟩ : ∃ l, xs.filter (fun e => !seen.contains e.born) = l := ⟨_, rfl⟩
  have hlb : ∀ e ∈ left, e.born < clock := fun e he => by rw [← hleft] at he; exact hb e (Array.mem_filter.1 he).1
  have hold : left.filter (fun e => decide (e.born < clock)) = left := by
    rw [Array.filter_eq_self]
    intro e he
    exact decide_eq_true (hlb e he)
  have hnew : left.filter (fun e => decide (e.born ≥ clock)) = #[] := by
    rw [Array.filter_eq_empty_iff]
    intro e he
    have := hlb e he
    simp
    omega
  have hall : (!seen.isEmpty && !xs.isEmpty && xs.all (fun e => decide (e.born ≥ clock))) = false := by
    cases hx : xs.isEmpty with
    | true => simp
    | false =>
      have hs : 0 < xs.size := by
        rcases Nat.eq_zero_or_pos xs.size with h | h
        · have : xs = #[] := Array.eq_empty_of_size_eq_zero h
          subst this
          simp at hx
        · exact h
      have : xs.all (fun e => decide (e.born ≥ clock)) = false := by
        rw [Bool.eq_false_iff]
        intro ha
        have h3 := (Array.all_eq_true_iff_forall_mem.1 ha) xs[0] (Array.getElem_mem hs)
        have h4 := hb xs[0] (Array.getElem_mem hs)
        simp at h3
        omega
      rw [this]
      simp
  have hlt : r < w.heap.size := (Array.getElem?_eq_some_iff.1 h1).1
  by_cases hl : left = #[]
  · left
    refine ⟨fun e he => ?_, ?_⟩
    · cases hc : seen.contains e.born with
      | true => rfl
      | false =>
        have : e ∈ left := by rw [← hleft]; exact Array.mem_filter.2 ⟨he, by rw [hc]; rfl⟩
        rw [hl] at this
        simp at this
    · unfold Instr.next
      simp only [Sem.run_bind, getObj, Sem.run, h1, Result.andThen_ok, h2]
      rw [hall]
      simp only [Bool.false_eq_true, if_false]
      rw [hleft, hold, hnew, hl]
      simp [choose, Sem.run, Question.forced]
  · right
    unfold Instr.next
    simp only [Sem.run_bind, getObj, Sem.run, h1, Result.andThen_ok, h2]
    rw [hall]
    simp only [Bool.false_eq_true, if_false]
    rw [hleft, hold, hnew]
    have hne : left.isEmpty = false := by
      rw [Bool.eq_false_iff]
      intro h
      exact hl (by simpa using h)
    rw [hne]
    simp only [Bool.false_eq_true, if_false, Array.empty_append, Array.append_empty, Array.size_map]
    have hpos : 0 < left.size := by
      rcases Nat.eq_zero_or_pos left.size with h | h
      · exact absurd (Array.eq_empty_of_size_eq_zero h) hl
      · exact h
    obtain ⟨k, w1, hk, hw1, hch⟩ : ∃ k w1, k < left.size ∧ (w1 = w ∨ w1 = w.drew) ∧ (choose (Question.mapNext left.size)).run P w = .ok k w1 := by
      by_cases hf : left.size ≤ 1
      · exact ⟨0, w, hpos, .inl rfl, by simp [choose, Sem.run, Question.forced, hf]⟩
      · exact ⟨w.tape w.drawn (.mapNext left.size) % left.size, w.drew, Nat.mod_lt _ hpos, .inr rfl, by simp [choose, Sem.run, Question.forced, hf, Question.cut]⟩
    obtain ⟨e, hke⟩ : ∃ e, left[k]? = some e := ⟨left[k], Array.getElem?_eq_getElem hk⟩
    have hmem : e ∈ left := Array.mem_of_getElem? hke
    rw [← hleft] at hmem
    obtain ⟨m1, m2⟩ := Array.mem_filter.1 hmem
    have m2' : seen.contains e.born = false := by
      cases hc : seen.contains e.born with
      | false => rfl
      | true => rw [hc] at m2; cases m2
    refine ⟨e, m1, m2', w1, hw1, ?_⟩
    have hr : w1.heap[r]? = some (.mapIter (some mm) clock seen clock) := by rcases hw1 with rfl | rfl <;> exact h1
    simp only [Sem.run_bind, hch, Result.andThen_ok, Array.getElem?_map, hke, Option.map_some, setObj, Sem.run, hr]
    rfl
end Go.Proofs.YthmojpcaagnfkaaGreatDoor


/-
  The abstract machine: loops over maps: the rule. No program.
-/
namespace Go.Proofs.YthmojpcaagnfkaaGreatDoor
open Go.RowKit

theorem VR.back {E F : AEnv} (hE : E.le F) {v : AV} {x0 : Value} (h0 : VR E v x0) : ∀ {x : Value}, VR F v x → VR E v x := by
  induction h0 with
  | top _ => intro x _; exact .top x
  | undef => intro x h; cases h; exact .undef
  | int k n => intro x h; cases h; exact .int k n
  | bool b => intro x h; cases h; exact .bool b
  | str l => intro x h; cases h; exact .str l
  | nilp => intro x h; cases h; exact .nilp
  | ptr b o hb => intro x h; cases h; rw [hE.r b hb]; exact .ptr b o hb
  | nils => intro x h; cases h; exact .nils
  | sl b o len cap hb => intro x h; cases h; rw [hE.r b hb]; exact .sl b o len cap hb
  | slu b o len esz cap hb hl hk =>
    intro x h
    cases h with
    | slu b o len esz cap2 hb2 hl2 hk2 => rw [hE.r b hb]; exact .slu b o len esz cap2 hb hl2 (by rw [hk2, hE.k b hb])
  | nilm => intro x h; cases h; exact .nilm
  | mapp b hb => intro x h; cases h; rw [hE.r b hb]; exact .mapp b hb
  | nilfn => intro x h; cases h; exact .nilfn
  | fn f cs vs hl hh ih =>
    intro x h
    cases h with
    | fn f cs us hl2 hh2 =>
      refine .fn f cs us hl2 fun i c u hc hu => ?_
      have hi : i < vs.size := by rw [← hl]; exact (List.getElem?_eq_some_iff.1 hc).1
      exact ih i c vs[i] hc (Array.getElem?_eq_getElem hi) (hh2 i c u hc hu)
  | fnm f cs vs hl hh ih =>
    intro x h
    cases h with
    | fnm f cs us hl2 hh2 =>
      refine .fnm f cs us hl2 fun i c u hc hu => ?_
      have hi : i < vs.size := by rw [← hl]; exact (List.getElem?_eq_some_iff.1 hc).1
      exact ih i c vs[i] hc (Array.getElem?_eq_getElem hi) (hh2 i c u hc hu)
  | nili => intro x h; cases h; exact .nili
  | ifc t a v hv ih =>
    intro x h
    cases h with
    | ifc t a u hu => exact .ifc t a u (ih hu)
  | agg cs vs hl hh ih =>
    intro x h
    cases h with
    | agg cs us hl2 hh2 =>
      refine .agg cs us hl2 fun i c u hc hu => ?_
      have hi : i < vs.size := by rw [← hl]; exact (List.getElem?_eq_some_iff.1 hc).1
      exact ih i c vs[i] hc (Array.getElem?_eq_getElem hi) (hh2 i c u hc hu)
  | tup cs vs hl hh ih =>
    intro x h
    cases h with
    | tup cs us hl2 hh2 =>
      refine .tup cs us hl2 fun i c u hc hu => ?_
      have hi : i < vs.size := by rw [← hl]; exact (List.getElem?_eq_some_iff.1 hc).1
      exact ih i c vs[i] hc (Array.getElem?_eq_getElem hi) (hh2 i c u hc hu)
  | symI b k lo hi n hb hn h1 h2 =>
    intro x h
    cases h with
    | symI _ _ _ _ m hb2 hm g1 g2 => exact .symI b k lo hi m hb (by rw [← hE.k b hb]; exact hm) g1 g2
  | symS b s hb hs =>
    intro x h
    cases h with
    | symS _ t hb2 ht => exact .symS b t hb (by rw [← hE.k b hb]; exact ht)
  | symT b lo hi n hb hn h1 h2 =>
    intro x h
    cases h with
    | symT _ _ _ m hb2 hm g1 g2 => exact .symT b lo hi m hb (by rw [← hE.k b hb]; exact hm) g1 g2
  | symZ n s hn =>
    intro x h
    cases h with
    | symZ _ t ht => exact .symZ n t ht
theorem VL.back [Tab] {E F : AEnv} (hE : E.le F) {l : List AV} {a0 a : List Value} (h0 : VL E l a0) (h : VL F l a) : VL E l a :=
  ⟨h.len, fun i c v hc hv => by
    obtain ⟨v0, q1, q2⟩ := h0.exists_at hc
    exact q2.back hE (h.at_ i c v hc hv)⟩
theorem BR.back [Tab] {E F : AEnv} (hE : E.le F) {b : Nat} (hb : E.ok b) (hz : F.z b = E.z b) {x : AB} {o0 o : Obj} (h0 : BR E b x o0) (h : BR F b x o) : BR E b x o := by
  cases x with
  | none => trivial
  | cells cs ty =>
    obtain ⟨c0, _, _, _, _, h4, _⟩ := h0
    obtain ⟨c, fz, q1, q2, q3, q4, q5⟩ := h
    exact ⟨c, fz, q1, by rw [q2, hE.k b hb], q3, h4.back hE q4, q5⟩
  | froz cs ty =>
    obtain ⟨c0, _, _, _, _, h4⟩ := h0
    obtain ⟨c, fz, q1, q2, q3, q4⟩ := h
    exact ⟨c, fz, q1, by rw [q2, hE.k b hb], q3, h4.back hE q4⟩
  | mapb es clock =>
    obtain ⟨_, _, h2, h3, _⟩ := h0
    obtain ⟨xs, q1, q2, q3, q4⟩ := h
    exact ⟨xs, q1, h2.back hE q2, h3.back hE q3, q4⟩
  | iter m clock cur =>
    obtain ⟨h1, _, _⟩ := h0
    obtain ⟨q1, q2, seen, q3, q4⟩ := h
    exact ⟨h1, hz.symm.trans q2, seen, by rw [q3, hE.r m h1], q4⟩
  | zero n ty =>
    obtain ⟨c, q1, q2, q3⟩ := h
    exact ⟨c, q1, q2, by rw [q3, hE.k b hb]⟩
noncomputable def AEnv.setz (E : AEnv) (i : Nat) (o : Obj) : AEnv := ⟨E.ok, E.r, E.k, fun b => if b = i then o else E.z b⟩
theorem AEnv.le_setz (E : AEnv) (i : Nat) (o : Obj) : E.le (E.setz i o) := ⟨fun _ h => h, fun _ _ => rfl, fun _ _ => rfl⟩
theorem AEnv.setz_le (E : AEnv) (i : Nat) (o : Obj) : (E.setz i o).le E := ⟨fun _ h => h, fun _ _ => rfl, fun _ _ => rfl⟩
theorem AEnv.setz_ne (E : AEnv) {i b : Nat} (o : Obj) (h : b ≠ i) : (E.setz i o).z b = E.z b := if_neg h
theorem AEnv.setz_eq (E : AEnv) (i : Nat) (o : Obj) : (E.setz i o).z i = o := if_pos rfl

noncomputable def nextHead (x : Code) : Option (Nat × Nat × Nat × Code) := match x with
  | .seq (.region _ ops false) rest => match ops.toList with
    | [o1, o2] => match o1.guard with
      | none => match o2.guard with
        | none => match o1.op with
          | .next (.tmp it) false => match o2.op with
            | .extract (.tmp d2) 0 => match o1.dst with
              | some d0 => match o2.dst with
                | some d1 => cond (Nat.beq d0 d2) (some (it, d0, d1, rest)) none
                | none => none
              | none => none
            | _ => none
          | _ => none
        | some _ => none
      | some _ => none
    | _ => none
  | _ => none
theorem nextHead_ok {x rest : Code} {it d0 d1 : Nat} (h : nextHead x = some (it, d0, d1, rest)) : ∃ id ops o1 o2, x = .seq (.region id ops false) rest ∧ ops.toList = [o1, o2] ∧ o1.guard = none ∧ o2.guard = none ∧ o1.op = .next (.tmp it) false ∧ o2.op = .extract (.tmp d0) 0 ∧ o1.dst = some d0 ∧ o2.dst = some d1 := by
  unfold nextHead at h
  split at h
  · rename_i id ops rest'
    split at h
    · rename_i o1 o2 hops
      split at h
      · rename_i hg1
        split at h
        · rename_i hg2
          split at h
          · rename_i it' hop1
            split at h
            · rename_i d2 hop2
              split at h
              · rename_i d0' hd0
                split at h
                · rename_i d1' hd1
                  cases hb : Nat.beq d0' d2 with
                  | false => rw [hb] at h; cases h
                  | true =>
                    rw [hb] at h
                    have := Nat.eq_of_beq_eq_true hb
                    subst this
                    injection h with h
                    injection h with e1 h
                    injection h with e2 h
                    injection h with e3 e4
                    subst e1
                    subst e2
                    subst e3
                    subst e4
                    exact ⟨id, ops, o1, o2, rfl, hops, hg1, hg2, hop1, hop2, hd0, hd1⟩
                · cases h
              · cases h
            · cases h
          · cases h
        · cases h
      · cases h
    · cases h
  · cases h
/-- The slots that code writes. -/
noncomputable def dstsO : List Oper → List Nat → List Nat
  | [], l => l
  | o :: r, l => match o.dst with
    | some d => d :: dstsO r l
    | none => dstsO r l
noncomputable def dstsC : Code → List Nat → List Nat
  | .region _ ops _, l => dstsO ops.toList l
  | .seq a b, l => dstsC a (dstsC b l)
  | .cond _ a b, l => dstsC a (dstsC b l)
  | .block _ a, l => dstsC a l
  | .loop a, l => dstsC a l
  | _, l => l
noncomputable def weakT : List Nat → Tr AV → Tr AV
  | [], t => t
  | k :: r, t => cond (Nat.ble k 1000000) (weakT r (t.set .top .top 20 k)) (weakT r t)
theorem weakT_ok [Tab] {E : AEnv} {nt : Nat} {a : Act} : ∀ (l : List Nat) (t : Tr AV), TR E nt (t.get .top) a → TR E nt ((weakT l t).get .top) a
  | [], _, h => h
  | k :: r, t, h => by
    unfold weakT
    cases hb : Nat.ble k 1000000 with
    | false => exact weakT_ok r t h
    | true =>
      have hk : k ≤ 1000000 := Nat.le_of_ble_eq_true hb
      refine weakT_ok r _ ⟨h.size, h.lim, fun j => ?_⟩
      by_cases e : j = k
      · subst e
        rw [Tr.get_set _ _ _ _ _ (by omega)]
        exact .top _
      · rw [Tr.get_set_ne _ _ _ _ _ _ e]
        exact h.at_ j
noncomputable def tempsB (tw t2 : Tr AV) : Nat → Bool
  | 0 => true
  | k + 1 => match tw.get .top k with
    | .top => tempsB tw t2 k
    | v => cond (eqAV (t2.get .top k) v) (tempsB tw t2 k) false
theorem tempsB_ok [Tab] {tw t2 : Tr AV} : ∀ (n : Nat), tempsB tw t2 n = true → ∀ k, k < n → tw.get .top k = .top ∨ t2.get .top k = tw.get .top k
  | 0, _, k, hk => absurd hk (Nat.not_lt_zero _)
  | n + 1, h, k, hk => by
    unfold tempsB at h
    split at h
    · rename_i ht
      rcases Nat.lt_succ_iff_lt_or_eq.1 hk with h1 | h1
      · exact tempsB_ok n h k h1
      · left; rw [h1]; exact ht
    · obtain ⟨h1, h2⟩ := cond_ff h
      rcases Nat.lt_succ_iff_lt_or_eq.1 hk with h3 | h3
      · exact tempsB_ok n h2 k h3
      · right; rw [h3]; exact eqAV_eq _ _ h1
noncomputable def eqEnts : List (AV × AV × Nat) → List (AV × AV × Nat) → Bool
  | [], [] => true
  | a :: l, b :: m => cond (eqAV a.1 b.1) (cond (eqAV a.2.1 b.2.1) (cond (Nat.beq a.2.2 b.2.2) (eqEnts l m) false) false) false
  | _, _ => false
theorem eqEnts_eq [Tab] : ∀ (l m : List (AV × AV × Nat)), eqEnts l m = true → l = m
  | [], [], _ => rfl
  | [], _ :: _, h => by cases h
  | _ :: _, [], h => by cases h
  | (a1, a2, a3) :: l, (b1, b2, b3) :: m, h => by
    unfold eqEnts at h
    obtain ⟨h1, h⟩ := cond_ff h
    obtain ⟨h2, h⟩ := cond_ff h
    obtain ⟨h3, h⟩ := cond_ff h
    rw [show a1 = b1 from eqAV_eq _ _ h1, show a2 = b2 from eqAV_eq _ _ h2, show a3 = b3 from Nat.eq_of_beq_eq_true h3, eqEnts_eq l m h]
/-- The slots behind an entry. -/
noncomputable def entT (tw : Tr AV) (d0 d1 : Nat) (v : AV) (b : Bool) : Tr AV := (tw.set .top v 20 d0).set .top (.bool b) 20 d1
noncomputable def minS (m bi clock st : Nat) (es : List (AV × AV × Nat)) (n : Nat) : AS := ⟨(Hp.nil.set m (.mapb es clock)).set bi (.iter m clock (some st)), n⟩
noncomputable def skipB (ev : Code → Tr AV → AS → Option (Ex × Tr AV × AS)) (nt : Nat) (rest : Code) (tw : Tr AV) (d0 d1 m bi clock n : Nat) (es : List (AV × AV × Nat)) (e : AV × AV × Nat) : Bool :=
  match ev rest (entT tw d0 d1 (.tup [.bool true, e.1, e.2.1]) true) (minS m bi clock e.2.2 es n) with
  | none => false
  | some q => match q.1 with
    | .normal => cond (tempsB tw q.2.1 nt) (match q.2.2.get bi with
      | .iter m' c' (some st') => cond (Nat.beq m' m) (cond (Nat.beq c' clock) (cond (Nat.beq st' e.2.2) (match q.2.2.get m with
        | .mapb es' c2 => cond (Nat.beq c2 clock) (eqEnts es' es) false
        | _ => false) false) false) false
      | _ => false) false
    | _ => false
theorem skipB_ok [Tab] {ev : Code → Tr AV → AS → Option (Ex × Tr AV × AS)} {nt : Nat} {rest : Code} {tw : Tr AV} {d0 d1 m bi clock n : Nat} {es : List (AV × AV × Nat)} {e : AV × AV × Nat} (h : skipB ev nt rest tw d0 d1 m bi clock n es e = true) :
    ∃ t2 s2, ev rest (entT tw d0 d1 (.tup [.bool true, e.1, e.2.1]) true) (minS m bi clock e.2.2 es n) = some (.normal, t2, s2) ∧ (∀ k, k < nt → tw.get .top k = .top ∨ t2.get .top k = tw.get .top k) ∧ s2.get bi = .iter m clock (some e.2.2) ∧ s2.get m = .mapb es clock := by
  unfold skipB at h
  split at h
  · cases h
  · rename_i q hq
    obtain ⟨x, t2, s2⟩ := q
    dsimp only at h
    split at h
    · obtain ⟨h1, h2⟩ := cond_ff h
      split at h2
      · rename_i m' c' st' hbi
        obtain ⟨h3, h2⟩ := cond_ff h2
        obtain ⟨h4, h2⟩ := cond_ff h2
        obtain ⟨h5, h2⟩ := cond_ff h2
        split at h2
        · rename_i es' c2 hm
          obtain ⟨h6, h7⟩ := cond_ff h2
          rw [Nat.eq_of_beq_eq_true h3, Nat.eq_of_beq_eq_true h4, Nat.eq_of_beq_eq_true h5] at hbi
          rw [Nat.eq_of_beq_eq_true h6, eqEnts_eq _ _ h7] at hm
          exact ⟨t2, s2, hq, tempsB_ok nt h1, hbi, hm⟩
        · cases h2
      · cases h2
    · cases h
noncomputable def actL (ev : Code → Tr AV → AS → Option (Ex × Tr AV × AS)) (nt : Nat) (rest : Code) (tw : Tr AV) (d0 d1 m bi clock n : Nat) (es : List (AV × AV × Nat)) : List (AV × AV × Nat) → List (AV × AV × Nat) × List Nat
  | [] => ([], [])
  | e :: r => match actL ev nt rest tw d0 d1 m bi clock n es r with
    | (acts, skips) => cond (skipB ev nt rest tw d0 d1 m bi clock n es e) (acts, e.2.2 :: skips) (e :: acts, skips)
theorem actL_ok [Tab] {ev : Code → Tr AV → AS → Option (Ex × Tr AV × AS)} {nt : Nat} {rest : Code} {tw : Tr AV} {d0 d1 m bi clock n : Nat} {es : List (AV × AV × Nat)} : ∀ (l : List (AV × AV × Nat)), ∀ e ∈ l,
    (skipB ev nt rest tw d0 d1 m bi clock n es e = true ∧ e.2.2 ∈ (actL ev nt rest tw d0 d1 m bi clock n es l).2) ∨ e ∈ (actL ev nt rest tw d0 d1 m bi clock n es l).1
  | [], _, h => by cases h
  | e' :: r, e, h => by
    unfold actL
    have ih := actL_ok (ev := ev) (nt := nt) (rest := rest) (tw := tw) (d0 := d0) (d1 := d1) (m := m) (bi := bi) (clock := clock) (n := n) (es := es) r
    cases hs : skipB ev nt rest tw d0 d1 m bi clock n es e' with
    | true =>
      rcases List.mem_cons.1 h with rfl | h
      · exact .inl ⟨hs, List.mem_cons_self⟩
      · exact (ih e h).imp (fun ⟨h1, h2⟩ => ⟨h1, List.mem_cons_of_mem _ h2⟩) id
    | false =>
      rcases List.mem_cons.1 h with rfl | h
      · exact .inr List.mem_cons_self
      · exact (ih e h).imp id (List.mem_cons_of_mem _)
noncomputable def bornB (clock : Nat) : List (AV × AV × Nat) → Bool
  | [] => true
  | e :: r => cond (Nat.ble (Nat.succ e.2.2) clock) (bornB clock r) false
theorem bornB_ok [Tab] {clock : Nat} : ∀ (l : List (AV × AV × Nat)), bornB clock l = true → ∀ e ∈ l, e.2.2 < clock
  | [], _, _, h => by cases h
  | e' :: r, h, e, he => by
    obtain ⟨h1, h2⟩ := cond_ff h
    rcases List.mem_cons.1 he with rfl | he
    · exact Nat.le_of_ble_eq_true h1
    · exact bornB_ok r h2 e he
noncomputable def notIn (k : Nat) : List Nat → Bool
  | [] => true
  | j :: r => cond (Nat.beq j k) false (notIn k r)
theorem notIn_ok [Tab] {k : Nat} : ∀ (l : List Nat), notIn k l = true → k ∉ l
  | [], _, h => by cases h
  | j :: r, h, hk => by
    unfold notIn at h
    cases hb : Nat.beq j k with
    | true => rw [hb] at h; cases h
    | false =>
      rw [hb] at h
      rcases List.mem_cons.1 hk with rfl | hk
      · rw [Nat.beq_refl] at hb; cases hb
      · exact notIn_ok r h hk
noncomputable def outA (bi : Nat) (r : Option (Ex × Tr AV × AS)) : Option (Ex × Tr AV × AS) := match r with
  | none => none
  | some q => match q.1 with
    | .normal => none
    | e => some (e, q.2.1, q.2.2.put bi .none)
noncomputable def mapLoop (ev : Code → Tr AV → AS → Option (Ex × Tr AV × AS)) (nt : Nat) (x : Code) (t : Tr AV) (s : AS) : Option (Ex × Tr AV × AS) := match nextHead x with
  | none => none
  | some h => match (weakT (h.2.1 :: h.2.2.1 :: dstsC h.2.2.2 []) t).get .top h.1 with
    | .ptr bi 0 => match s.get bi with
      | .iter m clock none => match s.get m with
        | .mapb es c2 => cond (Nat.beq c2 clock) (cond (bornB clock es) (cond (Nat.ble (Nat.succ h.2.1) nt) (cond (Nat.ble (Nat.succ h.2.2.1) nt)
            (match actL ev nt h.2.2.2 (weakT (h.2.1 :: h.2.2.1 :: dstsC h.2.2.2 []) t) h.2.1 h.2.2.1 m bi clock s.n es es with
            | ([], _) => outA bi (ev h.2.2.2 (entT (weakT (h.2.1 :: h.2.2.1 :: dstsC h.2.2.2 []) t) h.2.1 h.2.2.1 (.tup [.bool false]) false) (s.put bi .none))
            | ([e], skips) => cond (notIn e.2.2 skips) (outA bi (ev h.2.2.2 (entT (weakT (h.2.1 :: h.2.2.1 :: dstsC h.2.2.2 []) t) h.2.1 h.2.2.1 (.tup [.bool true, e.1, e.2.1]) true) (s.put bi (.iter m clock (some e.2.2))))) none
            | _ => none) none) none) none) none
        | _ => none
      | _ => none
    | _ => none
end Go.Proofs.YthmojpcaagnfkaaGreatDoor


/-
  The abstract machine: loops over maps: the proof. No program.
-/
namespace Go.Proofs.YthmojpcaagnfkaaGreatDoor
open Go.RowKit

/-- How a loop over a map stands. -/
structure LoopI [Tab] (E : AEnv) (s : AS) (w0 : World) (a0 : Act) (nt : Nat) (tw : Tr AV) (bi m clock : Nat) (skips : List Nat) (seen : Array Nat) (a : Act) (w : World) : Prop where
  it : w.heap[E.r bi]? = some (.mapIter (some (E.r m)) clock seen clock)
  t : TR E nt (tw.get .top) a
  h : HR E (s.put bi .none).get w
  stp : Stp E s.get w0 E s.get w
  sk : ∀ st, seen.contains st = true → st ∈ skips
  df : a.defers = a0.defers
theorem entT_ok [Tab] {E : AEnv} {nt : Nat} {tw : Tr AV} {a : Act} {d0 d1 : Nat} {v : AV} {x : Value} {b : Bool} (h : TR E nt (tw.get .top) a) (h0 : d0 < nt) (h1 : d1 < nt) (hv : VR E v x) : TR E nt ((entT tw d0 d1 v b).get .top) ((a.put (some d0) x).put (some d1) (.bool b)) := by
  have hl := h.lim
  have hs : ∀ (t : Tr AV) (k : Nat) (u : AV), k < nt → ∀ j, (t.set .top u 20 k).get .top j = if some k = some j then u else t.get .top j := by
    intro t k u hk j
    by_cases e : j = k
    · subst e; rw [if_pos rfl, Tr.get_set _ _ _ _ _ (by omega)]
    · rw [if_neg (fun h => e (by injection h with h; exact h.symm)), Tr.get_set_ne _ _ _ _ _ _ e]
  exact (h.put hv (fun k hk => by injection hk with hk; omega) (hs tw d0 v h0)).put (.bool b) (fun k hk => by injection hk with hk; omega) (hs _ d1 _ h1)
/-- A region's two operations: the next entry, and whether there is one. -/
theorem head_wp {P : Program} {id : Nat} {ops : Array Oper} {o1 o2 : Oper} {it d0 d1 nt : Nat} (hops : ops.toList = [o1, o2]) (hg1 : o1.guard = none) (hg2 : o2.guard = none) (hop1 : o1.op = .next (.tmp it) false) (hop2 : o2.op = .extract (.tmp d0) 0) (hd0 : o1.dst = some d0) (hd1 : o2.dst = some d1)
    {a : Act} {w w1 : World} {vs : Array Value} {b : Bool} (hsz : a.tmps.size = nt) (h0 : d0 < nt) (hrun : (Instr.next (a.eval (.tmp it)) false o1.type).run P w = .ok (.tuple vs) w1) (hvs : vs[0]? = some (.bool b)) {Q : Exit → Act → World → Prop}
    (hQ : Q .normal ((a.put (some d0) (.tuple vs)).put (some d1) (.bool b)) w1) : (Code.region id ops false).wp P Q a w := by
  refine wp_region_list ?_
  rw [hops]
  unfold wpList
  rw [if_pos (by simp [Region.wanted, hg1])]
  refine .inl ?_
  unfold Oper.wp
  have e1 : (execOp a.eval o1).run P w = .ok (.value (.tuple vs)) w1 := by
    unfold execOp
    rw [hop1]
    simp [hrun]
  rw [e1]
  show wpList P ops Q [o2] (a.put o1.dst (.tuple vs)) w1
  rw [hd0]
  unfold wpList
  rw [if_pos (by simp [Region.wanted, hg2])]
  refine .inl ?_
  unfold Oper.wp
  have e3 : (a.put (some d0) (.tuple vs)).eval (.tmp d0) = .tuple vs := by
    simp [Act.eval, Act.put, Array.getElem?_setIfInBounds, hsz, h0]
  have e2 : (execOp (a.put (some d0) (.tuple vs)).eval o2).run P w1 = .ok (.value (.bool b)) w1 := by
    unfold execOp
    rw [hop2]
    simp [e3, Instr.extract, hvs]
  rw [e2]
  show Q .normal ((a.put (some d0) (.tuple vs)).put o2.dst (.bool b)) w1
  rw [hd1]
  exact hQ
noncomputable def missing (es : List (AV × AV × Nat)) (r : Nat) (w : World) : Nat := match w.heap[r]? with
  | some (.mapIter _ _ seen _) => (es.filter fun e => !seen.contains e.2.2).length
  | _ => 0
theorem missing_lt {es : List (AV × AV × Nat)} {seen : Array Nat} {e : AV × AV × Nat} (he : e ∈ es) (hs : seen.contains e.2.2 = false) : (es.filter fun e' => !(seen.push e.2.2).contains e'.2.2).length < (es.filter fun e' => !seen.contains e'.2.2).length := by
  have hsub : ∀ l : List (AV × AV × Nat), (l.filter fun e' => !(seen.push e.2.2).contains e'.2.2).length ≤ (l.filter fun e' => !seen.contains e'.2.2).length := by
    intro l
    induction l with
    | nil => simp
    | cons y l ih =>
      rw [List.filter_cons, List.filter_cons]
      cases h1 : (seen.push e.2.2).contains y.2.2 with
      | true =>
        simp only [Bool.not_true, Bool.false_eq_true, if_false]
        split
        · simp only [List.length_cons]; omega
        · exact ih
      | false =>
        have h2 : seen.contains y.2.2 = false := by
          rw [Bool.eq_false_iff] at h1 ⊢
          intro h
          exact h1 (by simp at h ⊢; exact .inl h)
        rw [h2]
        simp only [Bool.not_false, if_true, List.length_cons]
        omega
  induction es with
  | nil => cases he
  | cons y l ih =>
    rw [List.filter_cons, List.filter_cons]
    rcases List.mem_cons.1 he with rfl | he
    · have h1 : (seen.push e.2.2).contains e.2.2 = true := by simp
      rw [h1, hs]
      simp only [Bool.not_true, Bool.false_eq_true, if_false, Bool.not_false, if_true, List.length_cons]
      have := hsub l
      omega
    · have := ih he
      cases h1 : (seen.push e.2.2).contains y.2.2 with
      | true =>
        simp only [Bool.not_true, Bool.false_eq_true, if_false]
        split
        · simp only [List.length_cons]; omega
        · exact this
      | false =>
        have h2 : seen.contains y.2.2 = false := by
          rw [Bool.eq_false_iff] at h1 ⊢
          intro h
          exact h1 (by simp at h ⊢; exact .inl h)
        rw [h2]
        simp only [Bool.not_false, if_true, List.length_cons]
        omega
/-- Behind the next entry: what is known. -/
theorem enter_ok [Tab] {E : AEnv} {s : AS} {w0 w w1 : World} {a0 a : Act} {nt : Nat} {tw : Tr AV} {bi m clock : Nat} {skips : List Nat} {seen : Array Nat} {es : List (AV × AV × Nat)} {st : Nat} (hI : LoopI E s w0 a0 nt tw bi m clock skips seen a w) (hs : HR E s.get w0) (hgb : s.get bi = .iter m clock none) (hgm : s.get m = .mapb es clock)
    (hw1 : w1 = w ∨ w1 = w.drew) (w2 : World) (hw2 : w2 = { w1 with heap := w1.heap.setIfInBounds (E.r bi) (.mapIter (some (E.r m)) clock (seen.push st) clock) }) :
    HR (E.setz bi (.mapIter (some (E.r m)) clock (seen.push st) clock)) (s.put bi (.iter m clock (some st))).get w2 ∧ Stp E s.get w0 E s.get w2 ∧ w2.heap[E.r bi]? = some (.mapIter (some (E.r m)) clock (seen.push st) clock) := by
  have hbn : s.get bi ≠ .none := by rw [hgb]; intro e; cases e
  have hlim := (hs.at_ bi hbn).2.1
  have hlt : E.r bi < w.heap.size := (Array.getElem?_eq_some_iff.1 hI.it).1
  have hsz : w1.heap = w.heap := by rcases hw1 with rfl | rfl <;> rfl
  have hnew : w2.heap[E.r bi]? = some (.mapIter (some (E.r m)) clock (seen.push st) clock) := by
    rw [hw2]
    simp [hsz, Array.getElem?_setIfInBounds, hlt]
  have hoth : ∀ d, d ≠ E.r bi → w2.heap[d]? = w.heap[d]? := by
    intro d hd
    rw [hw2]
    simp [hsz, Array.getElem?_setIfInBounds, Ne.symm hd]
  have hmok : E.ok m := (hs.at_ m (by rw [hgm]; intro e; cases e)).1
  have hne : ∀ b, b ≠ bi → (s.put bi (.iter m clock (some st))).get b = s.get b := fun b hb => s.get_put_ne bi _ b hb
  have hne0 : ∀ b, b ≠ bi → (s.put bi .none).get b = s.get b := fun b hb => s.get_put_ne bi _ b hb
  have hat := s.get_put bi (.iter m clock (some st)) hlim
  have hdom : ∀ b, (s.put bi (.iter m clock (some st))).get b ≠ .none → s.get b ≠ .none := fun b hb => by
    by_cases e : b = bi
    · rw [e]; exact hbn
    · rw [← hne b e]; exact hb
  have htab : Below Tab.w0.heap.size Tab.w0 w2 := by
    have hap := hs.apart bi hbn
    refine ⟨?_, ?_, ?_, ?_, fun d hd => (hoth d (fun e => by omega)).trans (hI.h.tab.block d hd)⟩
    · rw [hw2]; rcases hw1 with rfl | rfl <;> exact hI.h.tab.os
    · rw [hw2]; rcases hw1 with rfl | rfl <;> exact hI.h.tab.tape
    · rw [hw2]; rcases hw1 with rfl | rfl <;> exact hI.h.tab.output
    · rw [hw2]; simp [hsz]; exact hI.h.tab.size
  refine ⟨⟨⟨fun b hb => ?_, fun b c hb hc he => hs.inj b c (hdom b hb) (hdom c hc) he⟩, htab, fun b hb => hs.apart b (hdom b hb)⟩, hI.stp.trans ⟨?_, ?_, ?_, ?_, AEnv.le.refl E, fun _ _ => rfl, fun d hd hn => hoth d (fun e => hn bi hbn e.symm), fun b hb => .inr ⟨b, hb, rfl⟩⟩, hnew⟩
  · by_cases e : b = bi
    · subst e
      rw [hat]
      exact ⟨(hs.at_ b hbn).1, hlim, _, hnew, hmok, AEnv.setz_eq _ _ _, seen.push st, rfl, by simp⟩
    · rw [hne b e]
      have hb' : (s.put bi .none).get b ≠ .none := by rw [hne0 b e, ← hne b e]; exact hb
      obtain ⟨q1, q2, o, q3, q4⟩ := hI.h.at_ b hb'
      rw [hne0 b e] at q4
      refine ⟨q1, q2, o, (hoth _ fun e2 => e (hs.inj b bi (hdom b hb) hbn e2)).trans q3, q4.mono (E.le_setz bi _) q1 (E.setz_ne _ e)⟩
  · rw [hw2]; rcases hw1 with rfl | rfl <;> rfl
  · rw [hw2]; rcases hw1 with rfl | rfl <;> rfl
  · rw [hw2]; rcases hw1 with rfl | rfl <;> rfl
  · rw [hw2]; simp [hsz]
/-- What is left to be said at the end: the look is put away. -/
theorem out_ok [Tab] {E : AEnv} {nt : Nat} {a0 a : Act} {s sx s' : AS} {w0 w1 : World} {bi : Nat} {o : Obj} {x : Ex} {t' : Tr AV} {e : Exit} {a' : Act} {w' : World} (hsx : ∀ b, sx.get b ≠ .none → s.get b ≠ .none) (hn : sx.n = s.n) (hb : bi < 1000000000) (hok : E.ok bi) (hst : Stp E s.get w0 E s.get w1) (hdf : a.defers = a0.defers)
    (h : Post (E.setz bi o) nt a sx w1 x t' s' e a' w') : Post E nt a0 s w0 x t' (s'.put bi .none) e a' w' := by
  obtain ⟨p0, E1, p1, p2, p3, p4, p5⟩ := h
  have le1 : E.le (E1.setz bi (E.z bi)) := ((E.le_setz bi o).trans p3.le).trans (E1.le_setz bi _)
  have hne : ∀ c, c ≠ bi → (s'.put bi .none).get c = s'.get c := fun c hc => s'.get_put_ne bi _ c hc
  have hat := s'.get_put bi .none hb
  have hin : ∀ c, (s'.put bi .none).get c ≠ .none → c ≠ bi ∧ s'.get c ≠ .none := fun c hc => by
    by_cases e : c = bi
    · rw [e, hat] at hc; exact absurd rfl hc
    · exact ⟨e, by rw [← hne c e]; exact hc⟩
  refine ⟨p0, E1.setz bi (E.z bi), p1.mono (E1.le_setz bi _), ⟨⟨fun c hc => ?_, fun c d hc hd he => p2.inj c d (hin c hc).2 (hin d hd).2 he⟩, p2.tab, fun c hc => p2.apart c (hin c hc).2⟩, hst.trans ⟨p3.os, p3.tape, p3.output, p3.size, le1, fun b hbo => ?_, fun d hd hn2 => p3.keep d hd fun b hb2 => hn2 b (hsx b hb2), fun b hb2 => ?_⟩, ⟨by rw [← hn]; exact p4.le, fun b hbo => by rw [← hn]; exact p4.ok b hbo⟩, p5.trans hdf⟩
  · obtain ⟨e1, e2⟩ := hin c hc
    rw [hne c e1]
    obtain ⟨q1, q2, o', q3, q4⟩ := p2.at_ c e2
    exact ⟨q1, q2, o', q3, q4.mono (E1.le_setz bi _) q1 (E1.setz_ne _ e1)⟩
  · by_cases e1 : b = bi
    · subst e1; exact AEnv.setz_eq _ _ _
    · rw [E1.setz_ne _ e1, p3.z b hbo, E.setz_ne _ e1]
  · obtain ⟨e1, e2⟩ := hin b hb2
    rcases p3.dom b e2 with h1 | ⟨c, hc, h1⟩
    · exact .inl h1
    · exact .inr ⟨c, hsx c hc, h1⟩
/-- An entry that changes nothing. -/
theorem skip_ok [Tab] {E : AEnv} {s s2 : AS} {w0 w1 w2 : World} {a0 a a1 a2 : Act} {nt : Nat} {tw t2 : Tr AV} {bi m clock : Nat} {skips : List Nat} {seen : Array Nat} {es : List (AV × AV × Nat)} {st : Nat} (hs : HR E s.get w0) (hgb : s.get bi = .iter m clock none) (hgm : s.get m = .mapb es clock)
    (ht : TR E nt (tw.get .top) a) (hdf : a.defers = a0.defers) (ha1 : a1.defers = a.defers) (hbm : m ≠ bi)
    (h1 : HR (E.setz bi (.mapIter (some (E.r m)) clock (seen.push st) clock)) (s.put bi (.iter m clock (some st))).get w1) (hst : Stp E s.get w0 E s.get w1) (hsk : ∀ x, (seen.push st).contains x = true → x ∈ skips)
    (hp : ∃ E2, TR E2 nt (t2.get .top) a2 ∧ HR E2 s2.get w2 ∧ Stp (E.setz bi (.mapIter (some (E.r m)) clock (seen.push st) clock)) (minS m bi clock st es s.n).get w1 E2 s2.get w2 ∧ Grow (E.setz bi (.mapIter (some (E.r m)) clock (seen.push st) clock)) s.n E2 s2.n ∧ a2.defers = a1.defers)
    (htw : ∀ k, k < nt → tw.get .top k = .top ∨ t2.get .top k = tw.get .top k) (hbi : s2.get bi = .iter m clock (some st)) (hm2 : s2.get m = .mapb es clock) : LoopI E s w0 a0 nt tw bi m clock skips (seen.push st) a2 w2 := by
  obtain ⟨E2, p1, p2, p3, p4, p5⟩ := hp
  obtain ⟨o1, ho1⟩ : ∃ o, Obj.mapIter (some (E.r m)) clock (seen.push st) clock = o := ⟨_, rfl⟩
  rw [ho1] at h1 p3 p4
  have hbn : s.get bi ≠ .none := by rw [hgb]; intro e; cases e
  have hlim := (hs.at_ bi hbn).2.1
  have hmlim := (hs.at_ m (by rw [hgm]; intro e; cases e)).2.1
  have hle : E.le E2 := (E.le_setz bi o1).trans p3.le
  have hmin : ∀ b, (minS m bi clock st es s.n).get b = if b = bi then .iter m clock (some st) else if b = m then .mapb es clock else .none := by
    intro b
    show ((Hp.nil.set m (AB.mapb es clock)).set bi (AB.iter m clock (some st))).get b = _
    by_cases e : b = bi
    · subst e; rw [if_pos rfl, Hp.get_set]
    · rw [if_neg e, Hp.get_set_ne _ _ e]
      by_cases e2 : b = m
      · subst e2; rw [if_pos rfl, Hp.get_set]
      · rw [if_neg e2, Hp.get_set_ne _ _ e2, Hp.get_nil]
  -- the other blocks stand aside
  obtain ⟨xf, hxf⟩ : ∃ xf : Nat → AB, xf = fun b => if b = bi ∨ b = m then .none else s.get b := ⟨_, rfl⟩
  have hov : ov (minS m bi clock st es s.n).get xf = (s.put bi (.iter m clock (some st))).get := by
    funext b
    by_cases e : b = bi
    · subst e
      rw [ov_none (by rw [hxf]; simp), hmin, if_pos rfl, s.get_put _ _ hlim]
    · rw [s.get_put_ne bi _ b e]
      by_cases e2 : b = m
      · subst e2
        rw [ov_none (by rw [hxf]; simp), hmin, if_neg e, if_pos rfl, hgm]
      · have hx : xf b = s.get b := by rw [hxf]; simp [e, e2]
        by_cases e3 : s.get b = .none
        · rw [ov_none (hx.trans e3), hmin, if_neg e, if_neg e2, e3]
        · rw [ov_some (by rw [hx]; exact e3), hx]
  have hdis : ∀ b, xf b ≠ .none → (minS m bi clock st es s.n).get b = .none := by
    intro b hb
    rw [hxf] at hb
    dsimp only at hb
    split at hb
    · exact absurd rfl hb
    · rename_i h; rw [hmin, if_neg (fun e => h (.inl e)), if_neg (fun e => h (.inr e))]
  rw [← hov] at h1
  obtain ⟨r1, r2, r3⟩ := frame h1 hdis p2 p3
  have hz : ∀ b, b ≠ bi → E.ok b → E2.z b = E.z b := fun b hb hbo => (p3.z b hbo).trans (E.setz_ne _ hb)
  have hget : ∀ b, b ≠ bi → s.get b ≠ .none → ov s2.get xf b = s.get b := by
    intro b hb hbn2
    by_cases e2 : b = m
    · subst e2
      rw [ov_none (by rw [hxf]; simp), hm2, hgm]
    · have hx : xf b = s.get b := by rw [hxf]; simp [hb, e2]
      rw [ov_some (by rw [hx]; exact hbn2), hx]
  have hap : ∀ b, (s.put bi .none).get b ≠ .none → Tab.w0.heap.size ≤ E.r b := fun b hb => by
    by_cases e : b = bi
    · subst e; rw [s.get_put _ _ hlim] at hb; exact absurd rfl hb
    · rw [s.get_put_ne bi _ b e] at hb; exact hs.apart b hb
  refine ⟨?_, ⟨ht.size ▸ ?_, ht.lim, fun k => ?_⟩, ⟨⟨fun b hb => ?_, fun b c hb hc he => ?_⟩, p2.tab, hap⟩, ?_, hsk, (p5.trans ha1).trans hdf⟩
  · obtain ⟨q1, _, o, q3, q4⟩ := p2.at_ bi (by rw [hbi]; intro e; cases e)
    rw [hbi] at q4
    obtain ⟨_, q5, _⟩ := q4
    rw [p3.z bi (hs.at_ bi hbn).1, AEnv.setz_eq] at q5
    rw [← hle.r bi (hs.at_ bi hbn).1, q3, ← q5, ho1]
  · rw [p1.size, ht.size]
  · rcases Nat.lt_or_ge k nt with hk | hk
    · rcases htw k hk with h | h
      · rw [h]; exact .top _
      · have h2 := p1.at_ k
        rw [h] at h2
        exact (ht.at_ k).back hle h2
    · have h2 := ht.at_ k
      have e1 : a.tmps.getD k undef = undef := by simp [Array.getElem?_eq_none (show a.tmps.size ≤ k by rw [ht.size]; exact hk)]
      have e2 : a2.tmps.getD k undef = undef := by simp [Array.getElem?_eq_none (show a2.tmps.size ≤ k by rw [p1.size]; exact hk)]
      rw [e1] at h2
      rw [e2]
      exact h2
  · by_cases e : b = bi
    · subst e
      rw [s.get_put _ _ hlim] at hb
      exact absurd rfl hb
    · rw [s.get_put_ne bi _ b e] at hb ⊢
      obtain ⟨f1, f2, o0, _, f4⟩ := hs.at_ b hb
      obtain ⟨g1, g2, o, g3, g4⟩ := r1.at_ b (by rw [hget b e hb]; exact hb)
      rw [hget b e hb] at g4
      rw [hle.r b f1] at g3
      exact ⟨f1, f2, o, g3, f4.back hle f1 (hz b e f1) g4⟩
  · have hb2 : s.get b ≠ .none := by
      by_cases e : b = bi
      · rw [e]; exact hbn
      · rw [← s.get_put_ne bi .none b e]; exact hb
    have hc2 : s.get c ≠ .none := by
      by_cases e : c = bi
      · rw [e]; exact hbn
      · rw [← s.get_put_ne bi .none c e]; exact hc
    exact hs.inj b c hb2 hc2 he
  · refine hst.trans ⟨r2.os, r2.tape, r2.output, r2.size, AEnv.le.refl E, fun _ _ => rfl, fun d hd hn => r2.keep d hd fun b hb e => ?_, fun b hb => .inr ⟨b, hb, rfl⟩⟩
    rw [hov] at hb
    have hb2 : s.get b ≠ .none := by
      by_cases e : b = bi
      · rw [e]; exact hbn
      · rw [← s.get_put_ne bi _ b e]; exact hb
    exact hn b hb2 e
end Go.Proofs.YthmojpcaagnfkaaGreatDoor


/-
  The abstract machine: loops over maps, whole; all hooks. No program.
-/
namespace Go.Proofs.YthmojpcaagnfkaaGreatDoor
open Go.RowKit

theorem outA_ok {bi : Nat} {r : Option (Ex × Tr AV × AS)} {e : Ex} {t' : Tr AV} {s' : AS} (h : outA bi r = some (e, t', s')) : ∃ s1, r = some (e, t', s1) ∧ s' = s1.put bi .none ∧ e ≠ .normal := by
  cases r with
  | none => cases h
  | some q =>
    obtain ⟨x, t1, s1⟩ := q
    cases x with
    | normal => cases h
    | exit i =>
      injection h with h
      injection h with e1 h
      injection h with e2 e3
      subst e1
      subst e2
      exact ⟨s1, rfl, e3.symm, by intro h; cases h⟩
    | ret =>
      injection h with h
      injection h with e1 h
      injection h with e2 e3
      subst e1
      subst e2
      exact ⟨s1, rfl, e3.symm, by intro h; cases h⟩
    | panic u =>
      injection h with h
      injection h with e1 h
      injection h with e2 e3
      subst e1
      subst e2
      exact ⟨s1, rfl, e3.symm, by intro h; cases h⟩
theorem Post.quit [Tab] {E : AEnv} {nt : Nat} {a : Act} {s : AS} {w : World} {x : Ex} {t' : Tr AV} {s' : AS} {e : Exit} {a' : Act} {w' : World} (hx : x ≠ .normal) (h : Post E nt a s w x t' s' e a' w') {N : Act → World → Prop} : Exit.then N (Post E nt a s w x t' s') e a' w' := by
  have h0 := h.1
  cases x with
  | normal => exact absurd rfl hx
  | exit i => cases h0; exact h
  | ret => cases h0; exact h
  | panic u => cases h0; exact h
theorem mapLoop_ok [Tab] {P : Program} {nt : Nat} {ev : Code → Tr AV → AS → Option (Ex × Tr AV × AS)}
    (hev : ∀ c t s e t' s', ev c t s = some (e, t', s') → ∀ (E : AEnv) (a : Act) (w : World), TR E nt (t.get .top) a → HR E s.get w → Fresh E s.n → c.wp P (Post E nt a s w e t' s') a w)
    {x : Code} {t : Tr AV} {s : AS} {e : Ex} {t' : Tr AV} {s' : AS} (hl : mapLoop ev nt x t s = some (e, t', s')) {E : AEnv} {a : Act} {w : World} (ht : TR E nt (t.get .top) a) (h : HR E s.get w) (hf : Fresh E s.n) : (Code.loop x).wp P (Post E nt a s w e t' s') a w := by
  unfold mapLoop at hl
  split at hl
  · cases hl
  · rename_i hd hnh
    obtain ⟨it, d0, d1, rest⟩ := hd
    dsimp only at hl
    obtain ⟨tw, htw⟩ : ∃ tw, weakT (d0 :: d1 :: dstsC rest []) t = tw := ⟨_, rfl⟩
    rw [htw] at hl
    have hw := weakT_ok (d0 :: d1 :: dstsC rest []) t ht
    rw [htw] at hw
    obtain ⟨id, ops, o1, o2, rfl, hops, hg1, hg2, hop1, hop2, hd0, hd1⟩ := nextHead_ok hnh
    split at hl
    · rename_i bi hit
      split at hl
      · rename_i m clock hgb
        split at hl
        · rename_i es c2 hgm
          cases hc1 : Nat.beq c2 clock with
          | false => rw [hc1] at hl; cases hl
          | true =>
          cases hc2 : bornB clock es with
          | false => rw [hc1, hc2] at hl; cases hl
          | true =>
          cases hc3 : Nat.ble (Nat.succ d0) nt with
          | false => rw [hc1, hc2, hc3] at hl; cases hl
          | true =>
          cases hc4 : Nat.ble (Nat.succ d1) nt with
          | false => rw [hc1, hc2, hc3, hc4] at hl; cases hl
          | true =>
            rw [hc1, hc2, hc3, hc4] at hl
            simp only [cond_true] at hl
            have := Nat.eq_of_beq_eq_true hc1
            subst this
            have hb0 : d0 < nt := Nat.le_of_ble_eq_true hc3
            have hb1 : d1 < nt := Nat.le_of_ble_eq_true hc4
            have hborn := bornB_ok es hc2
            have hbn : s.get bi ≠ .none := by rw [hgb]; intro e; cases e
            obtain ⟨hbok, hlim, oi, hi1, hi2⟩ := h.at_ bi hbn
            rw [hgb] at hi2
            obtain ⟨hmok, hiz, seen0, rfl, hsb⟩ := hi2
            have hseen0 : seen0 = #[] := by
              rcases Nat.eq_zero_or_pos seen0.size with h0 | h0
              · exact Array.eq_empty_of_size_eq_zero h0
              · rw [Array.back?_eq_getElem?, Array.getElem?_eq_getElem (by omega)] at hsb
                cases hsb
            subst hseen0
            have hbm : m ≠ bi := fun e => by rw [e, hgb] at hgm; cases hgm
            have hact := actL_ok (ev := ev) (nt := nt) (rest := rest) (tw := tw) (d0 := d0) (d1 := d1) (m := m) (bi := bi) (clock := c2) (n := s.n) (es := es) es
            obtain ⟨acts, hacts⟩ : ∃ r, actL ev nt rest tw d0 d1 m bi c2 s.n es es = r := ⟨_, rfl⟩
            rw [hacts] at hl hact
            obtain ⟨acts, skips⟩ := acts
            dsimp only at hact
            -- what holds at the loop's head
            have hI0 : LoopI E s w a nt tw bi m c2 skips #[] a w := ⟨hi1, hw, (h.drop bi hlim).1, Stp.refl E s.get w, fun st hst => by simp at hst, rfl⟩
            have hev1 : ∀ a' : Act, TR E nt (tw.get .top) a' → a'.eval (.tmp it) = .pointer (some ⟨E.r bi, 0, none⟩) := fun a' ha' => by
              have := ha'.at_ it
              rw [hit] at this
              show a'.tmps.getD it undef = _
              generalize a'.tmps.getD it undef = u at this
              cases this
              rfl
            have hdom1 : ∀ (y : AB) b, (s.put bi y).get b ≠ .none → s.get b ≠ .none := fun y b hb => by
              by_cases e : b = bi
              · rw [e]; exact hbn
              · rw [← s.get_put_ne bi y b e]; exact hb
            -- one round
            have round : ∀ (seen : Array Nat) (a1 : Act) (w1 : World), LoopI E s w a nt tw bi m c2 skips seen a1 w1 →
                (Code.seq (.region id ops false) rest).wp P (Exit.then (fun a' w' => (∃ seen', LoopI E s w a nt tw bi m c2 skips seen' a' w') ∧ missing es (E.r bi) w' < missing es (E.r bi) w1) (Post E nt a s w e t' s')) a1 w1 := by
              intro seen a1 w1 hI
              refine wp_seq ?_
              obtain ⟨_, xs, hx1, hx2, hx3, hx4⟩ := hI.h.mapb (b := m) (by rw [s.get_put_ne bi _ m hbm]; exact hgm)
              have hxb : ∀ y ∈ xs, y.born < c2 := fun y hy => by
                obtain ⟨j, hj⟩ := Array.mem_iff_getElem?.1 hy
                have h1 : (xs.toList.map (·.born))[j]? = some y.born := by rw [List.getElem?_map]; simp [hj]
                rw [← hx4, List.getElem?_map] at h1
                cases hej : es[j]? with
                | none => rw [hej] at h1; cases h1
                | some z =>
                  rw [hej] at h1
                  injection h1 with h1
                  rw [← h1]
                  exact hborn z (List.mem_of_getElem? hej)
              rcases next_run (P := P) (ty := o1.type) hI.it hx1 hxb with ⟨hall, hrun⟩ | ⟨y, hy, hys, w2, hw2, hrun⟩
              · -- the end
                rw [← hev1 a1 hI.t] at hrun
                refine head_wp hops hg1 hg2 hop1 hop2 hd0 hd1 hI.t.size hb0 hrun (b := false) rfl ?_
                have hnoact : acts = [] := by
                  cases acts with
                  | nil => rfl
                  | cons z zs =>
                    exfalso
                    cases zs with
                    | cons _ _ => cases hl
                    | nil =>
                      dsimp only at hl
                      cases hc5 : notIn z.2.2 skips with
                      | false => rw [hc5] at hl; cases hl
                      | true =>
                        have hz : z ∈ es := by
                          have : ∀ l : List (AV × AV × Nat), ∀ q ∈ (actL ev nt rest tw d0 d1 m bi c2 s.n es l).1, q ∈ l := by
                            intro l
                            induction l with
                            | nil => intro q hq; cases hq
                            | cons u l ih =>
                              intro q hq
                              unfold actL at hq
                              dsimp only at hq
                              cases hu : skipB ev nt rest tw d0 d1 m bi c2 s.n es u with
                              | true => rw [hu] at hq; exact List.mem_cons_of_mem _ (ih q hq)
                              | false =>
                                rw [hu] at hq
                                rcases List.mem_cons.1 hq with rfl | hq
                                · exact List.mem_cons_self
                                · exact List.mem_cons_of_mem _ (ih q hq)
                          have := this es z (by rw [hacts]; simp)
                          exact this
                        obtain ⟨j, hj⟩ := List.mem_iff_getElem?.1 hz
                        have h1 : (es.map (·.2.2))[j]? = some z.2.2 := by rw [List.getElem?_map, hj]; rfl
                        rw [hx4, List.getElem?_map] at h1
                        cases hxj : xs.toList[j]? with
                        | none => rw [hxj] at h1; cases h1
                        | some q =>
                          rw [hxj] at h1
                          injection h1 with h1
                          have h2 := hall q (by rw [← Array.mem_toList_iff]; exact List.mem_of_getElem? hxj)
                          have h1' : q.born = z.2.2 := h1
                          rw [h1'] at h2
                          exact notIn_ok skips hc5 (hI.sk _ h2)
                subst hnoact
                dsimp only at hl
                obtain ⟨s1, hr, rfl, hne⟩ := outA_ok hl
                have htop := entT_ok (b := false) hI.t hb0 hb1 ((VL.cons (.bool false) VL.nil).tup (a := #[.bool false]))
                have hfr : Fresh E (s.put bi .none).n := hf
                refine wp_mono (hev rest _ _ e t' s1 hr (E.setz bi (E.z bi)) _ w1 (htop.mono (E.le_setz bi _)) ?_ hfr) fun ex a3 w3 hp => ?_
                · have : E.setz bi (E.z bi) = E := by
                    unfold AEnv.setz
                    congr 1
                    funext b
                    by_cases e : b = bi
                    · rw [if_pos e, e]
                    · rw [if_neg e]
                  rw [this]
                  exact hI.h
                · exact (out_ok (sx := s.put bi .none) (hdom1 _) rfl hlim hbok hI.stp ((put_defers _ _ _).trans ((put_defers _ _ _).trans hI.df)) hp).quit hne
              · -- an entry
                rw [← hev1 a1 hI.t] at hrun
                refine head_wp hops hg1 hg2 hop1 hop2 hd0 hd1 hI.t.size hb0 hrun (b := true) rfl ?_
                obtain ⟨j, hj⟩ := Array.mem_iff_getElem?.1 hy
                have hbj : (es.map (·.2.2))[j]? = some y.born := by rw [hx4, List.getElem?_map]; simp [hj]
                rw [List.getElem?_map] at hbj
                cases hej : es[j]? with
                | none => rw [hej] at hbj; cases hbj
                | some z =>
                  rw [hej] at hbj
                  injection hbj with hbj
                  have hz : z ∈ es := List.mem_of_getElem? hej
                  have hvk : VR E z.1 y.key := hx2.at_ j _ _ (by rw [List.getElem?_map, hej]; rfl) (by rw [List.getElem?_map]; simp [hj])
                  have hvv : VR E z.2.1 y.val := hx3.at_ j _ _ (by rw [List.getElem?_map, hej]; rfl) (by rw [List.getElem?_map]; simp [hj])
                  have htop := entT_ok (b := true) hI.t hb0 hb1 ((VL.cons (.bool true) (VL.cons hvk (VL.cons hvv VL.nil))).tup (a := #[.bool true, y.key, y.val]))
                  rw [← hbj] at hys hrun ⊢
                  obtain ⟨g1, g2, g3⟩ := enter_ok (es := es) (st := z.2.2) hI h hgb hgm hw2 _ rfl
                  rcases hact z hz with ⟨hsk, hskm⟩ | hin
                  · obtain ⟨t2, s2, k1, k2, k3, k4⟩ := skipB_ok hsk
                    have hmin : HR (E.setz bi (.mapIter (some (E.r m)) c2 (seen.push z.2.2) c2)) (minS m bi c2 z.2.2 es s.n).get _ := g1.sub fun b hb => by
                      have hmlim := (h.at_ m (by rw [hgm]; intro e; cases e)).2.1
                      have hmin : (minS m bi c2 z.2.2 es s.n).get b = if b = bi then .iter m c2 (some z.2.2) else if b = m then .mapb es c2 else .none := by
                        show ((Hp.nil.set m (AB.mapb es c2)).set bi (AB.iter m c2 (some z.2.2))).get b = _
                        by_cases e : b = bi
                        · subst e; rw [if_pos rfl, Hp.get_set]
                        · rw [if_neg e, Hp.get_set_ne _ _ e]
                          by_cases e2 : b = m
                          · subst e2; rw [if_pos rfl, Hp.get_set]
                          · rw [if_neg e2, Hp.get_set_ne _ _ e2, Hp.get_nil]
                      rw [hmin] at hb ⊢
                      by_cases e : b = bi
                      · subst e; rw [if_pos rfl, s.get_put _ _ hlim]
                      · rw [if_neg e] at hb ⊢
                        by_cases e2 : b = m
                        · subst e2; rw [if_pos rfl, s.get_put_ne bi _ b e, hgm]
                        · rw [if_neg e2] at hb; exact absurd rfl hb
                    refine wp_mono (hev rest _ _ .normal t2 s2 k1 _ _ _ (htop.mono (E.le_setz bi _)) hmin hf) fun ex a3 w3 hp => ?_
                    obtain ⟨p0, E2, p1, p2, p3, p4, p5⟩ := hp
                    cases p0
                    have hI2 := skip_ok (skips := skips) h hgb hgm hI.t hI.df ((put_defers _ _ _).trans (put_defers _ _ _)) hbm g1 g2 (fun st hst => by
                      simp at hst
                      rcases hst with h1 | h1
                      · exact hI.sk st (by simpa using h1)
                      · rw [h1]; exact hskm) ⟨E2, p1, p2, p3, p4, p5⟩ k2 k3 k4
                    refine ⟨⟨_, hI2⟩, ?_⟩
                    have e1 : missing es (E.r bi) w3 = (es.filter fun e' => !(seen.push z.2.2).contains e'.2.2).length := by unfold missing; rw [hI2.it]
                    have e2 : missing es (E.r bi) w1 = (es.filter fun e' => !seen.contains e'.2.2).length := by unfold missing; rw [hI.it]
                    rw [e1, e2]
                    exact missing_lt hz hys
                  · cases acts with
                    | nil => cases hin
                    | cons z' zs =>
                      cases zs with
                      | cons _ _ => cases hl
                      | nil =>
                        have : z = z' := by simpa using hin
                        subst this
                        dsimp only at hl
                        cases hc5 : notIn z.2.2 skips with
                        | false => rw [hc5] at hl; cases hl
                        | true =>
                          rw [hc5] at hl
                          simp only [cond_true] at hl
                          obtain ⟨s1, hr, rfl, hne⟩ := outA_ok hl
                          refine wp_mono (hev rest _ _ e t' s1 hr _ _ _ (htop.mono (E.le_setz bi _)) g1 hf) fun ex a3 w3 hp => ?_
                          exact (out_ok (sx := s.put bi (.iter m c2 (some z.2.2))) (hdom1 _) rfl hlim hbok g2 ((put_defers _ _ _).trans ((put_defers _ _ _).trans hI.df)) hp).quit hne
            exact wp_loop (fun a' w' => ∃ seen, LoopI E s w a nt tw bi m c2 skips seen a' w') (fun _ w' => missing es (E.r bi) w') ⟨#[], hI0⟩ fun a' w' ⟨seen, hI⟩ => round seen a' w' hI
        · cases hl
      · cases hl
    · cases hl
/-- All hooks. -/
noncomputable def hooks (P : Program) : Hooks := ⟨drawA P, fun x => (nextHead x).isSome, fun ev _ nt x t s => mapLoop ev nt x t s⟩
theorem hooks_ok [Tab] {P : Program} (hm : P.follows .mixedOrders = true) : DrawOK P (hooks P) :=
  ⟨fun call hc nt id ops t s t' s' he E a w ht h hf => drawA_ok hm hc he ht h hf, fun call hc nt ev hev x t s e t' s' he E a w ht h hf => mapLoop_ok hev he ht h hf⟩
end Go.Proofs.YthmojpcaagnfkaaGreatDoor


/-
  The abstract machine: tables of functions; bytes in strings. No program.
-/
namespace Go.Proofs.YthmojpcaagnfkaaGreatDoor
open Go.RowKit

/-- A tree whose entries are the program's functions. -/
inductive FT (P : Program) : Tr (Option Func) → Nat → Nat → Prop
  | leaf (a b : Nat) : FT P .leaf a b
  | none (a b : Nat) {l r : Tr (Option Func)} (hl : FT P l (2 * a) (a + b)) (hr : FT P r (2 * a) (2 * a + b)) : FT P (.node l .none r) a b
  | some (a b : Nat) {l r : Tr (Option Func)} {fn : Func} (h : P.funcs[b]? = .some fn) (h2 : (fn.name == "runtime.NumGoroutine") = false) (hl : FT P l (2 * a) (a + b)) (hr : FT P r (2 * a) (2 * a + b)) : FT P (.node l (.some fn) r) a b
theorem FT.get {P : Program} {t : Tr (Option Func)} {a b : Nat} (h : FT P t a b) : ∀ (k : Nat) (fn : Func), t.get .none k = .some fn → P.funcs[a * k + b]? = .some fn ∧ (fn.name == "runtime.NumGoroutine") = false := by
  have ix : ∀ (a b k : Nat), ¬ k = 0 → k % 2 = 1 → 2 * a * (k / 2) + (a + b) = a * k + b := fun a b k h0 h1 => by
    have e : k = 2 * (k / 2) + 1 := by omega
    calc 2 * a * (k / 2) + (a + b) = a * (2 * (k / 2) + 1) + b := by rw [Nat.mul_add, Nat.mul_one, Nat.mul_comm 2 a, Nat.mul_assoc]; omega
      _ = a * k + b := by rw [← e]
  have iy : ∀ (a b k : Nat), ¬ k = 0 → ¬ k % 2 = 1 → 2 * a * (k / 2 - 1) + (2 * a + b) = a * k + b := fun a b k h0 h1 => by
    have e : k = 2 * (k / 2 - 1) + 2 := by omega
    calc 2 * a * (k / 2 - 1) + (2 * a + b) = a * (2 * (k / 2 - 1) + 2) + b := by rw [Nat.mul_add, Nat.mul_comm 2 a, Nat.mul_assoc]; omega
      _ = a * k + b := by rw [← e]
  induction h with
  | leaf a b => intro k fn h; cases h
  | none a b hl hr ihl ihr =>
    intro k fn h
    rw [Tr.get_node] at h
    split at h
    · cases h
    · rename_i h0
      split at h
      · rename_i h1
        have := ihl _ fn h
        rwa [ix a b k h0 h1] at this
      · rename_i h1
        have := ihr _ fn h
        rwa [iy a b k h0 h1] at this
  | some a b h1 h2 hl hr ihl ihr =>
    intro k fn h
    rw [Tr.get_node] at h
    split at h
    · rename_i h0
      injection h with h
      subst h
      subst h0
      exact ⟨by simpa using h1, h2⟩
    · rename_i h0
      split at h
      · rename_i h1
        have := ihl _ fn h
        rwa [ix a b k h0 h1] at this
      · rename_i h1
        have := ihr _ fn h
        rwa [iy a b k h0 h1] at this
theorem FT.fns [Tab] {P : Program} {t : Tr (Option Func)} (h : FT P t 1 0) : FnsOK P (t.get .none) := ⟨fun f fn hf => by
  have := h.get f fn hf
  rwa [Nat.one_mul, Nat.add_zero] at this⟩
/-- A byte in a string? -/
noncomputable def memB (c : UInt8) : List UInt8 → Bool
  | [] => false
  | b :: r => cond (Nat.beq b.toNat c.toNat) true (memB c r)
theorem memB_eq [Tab] (c : UInt8) : ∀ l : List UInt8, memB c l = decide (0 ≤ Lib.indexByte l c)
  | [] => rfl
  | b :: r => by
    have ih := memB_eq c r
    have hge := Lib.indexByte_ge r c
    unfold memB Lib.indexByte
    by_cases h : b = c
    · subst h
      have e : Nat.beq b.toNat b.toNat = true := Nat.beq_refl _
      rw [e, if_pos (by simp)]
      rfl
    · have e : Nat.beq b.toNat c.toNat = false := by
        rw [Bool.eq_false_iff]
        exact fun h' => h (UInt8.toNat_inj.1 (Nat.eq_of_beq_eq_true h'))
      rw [e, if_neg (by simpa using h)]
      show memB c r = _
      rw [ih]
      by_cases h3 : Lib.indexByte r c = -1
      · rw [h3]; rfl
      · have h4 : (Lib.indexByte r c == -1) = false := by simpa using h3
        rw [h4]
        simp only [Bool.false_eq_true, if_false]
        congr 1
        exact propext ⟨fun h => by omega, fun h => by omega⟩
noncomputable def containsA (args : List AV) (s : AS) : Option (AV × AS) := match args with
  | [.str l, .str [c]] => some (.bool (memB c l), s)
  | _ => none
/-- Library functions by their contracts. -/
noncomputable def orcL : List (Nat × (List AV → AS → Option (AV × AS))) → Nat → Option (List AV → AS → Option (AV × AS))
  | [], _ => none
  | p :: r, f => cond (Nat.beq f p.1) (some p.2) (orcL r f)
structure OneOK [Tab] (P : Program) (f : Nat) (g : List AV → AS → Option (AV × AS)) : Prop where
  fn : ∃ fn, P.funcs[f]? = some fn ∧ fn.body.isNone = false ∧ (fn.name == "runtime.NumGoroutine") = false
  calls : ∀ args s v s', g args s = some (v, s') → (∀ u, v ≠ .pan u) → ∀ E w (xs : Array Value), HR E s.get w → Fresh E s.n → VL E args xs.toList → Calls P f xs w (CallEnd E s w v s')
  pans : ∀ args s u s', g args s = some (.pan u, s') → ∀ E w (xs : Array Value), HR E s.get w → Fresh E s.n → VL E args xs.toList → Calls P f xs w (PanEnd E s w u s')
theorem orcL_mem [Tab] : ∀ {l : List (Nat × (List AV → AS → Option (AV × AS)))} {f : Nat} {g : List AV → AS → Option (AV × AS)}, orcL l f = some g → (f, g) ∈ l
  | [], _, _, h => by cases h
  | p :: r, f, g, h => by
    unfold orcL at h
    cases hb : Nat.beq f p.1 with
    | true =>
      rw [hb] at h
      injection h with h
      subst h
      rw [Nat.eq_of_beq_eq_true hb]
      exact List.mem_cons_self
    | false =>
      rw [hb] at h
      exact List.mem_cons_of_mem _ (orcL_mem h)
theorem orcL_ok [Tab] {P : Program} {l : List (Nat × (List AV → AS → Option (AV × AS)))} (h : ∀ p ∈ l, OneOK P p.1 p.2) : CallOK P fun f args s => match orcL l f with | some g => g args s | none => none := by
  refine ⟨fun f args s r he => ?_, fun f args s v s' he => ?_, fun f args s u s' he => ?_⟩
  · split at he
    · rename_i g hg
      exact (h _ (orcL_mem hg)).fn
    · cases he
  · split at he
    · rename_i g hg
      exact (h _ (orcL_mem hg)).calls args s v s' he
    · cases he
  · split at he
    · rename_i g hg
      exact (h _ (orcL_mem hg)).pans args s u s' he
    · cases he
theorem HR.below [Tab] {E : AEnv} {g : Nat → AB} {w w' : World} (h : HR E g w) (hb : Below w.heap.size w w') : HR E g w' :=
  ⟨⟨fun b hg => by
    obtain ⟨q1, q2, o, q3, q4⟩ := h.at_ b hg
    exact ⟨q1, q2, o, by rw [hb.block _ ((Array.getElem?_eq_some_iff.1 q3).1)]; exact q3, q4⟩, h.inj⟩, h.tab.trans (hb.mono h.tab.size), h.apart⟩
theorem Stp.ofBelow {E : AEnv} {g : Nat → AB} {w w' : World} (hb : Below w.heap.size w w') : Stp E g w E g w' :=
  ⟨hb.os, hb.tape, hb.output, hb.size, AEnv.le.refl E, fun _ _ => rfl, fun d hd _ => hb.block d hd, fun b hg => .inr ⟨b, hg, rfl⟩⟩
/-- A call that hands back a value without blocks. -/
theorem callEnd_below [Tab] {P : Program} {f : Nat} {xs : Array Value} {E : AEnv} {s : AS} {w : World} {v : AV} {y : Value} (h : HR E s.get w) (hv : VR E v y) (hc : Calls P f xs w fun e w' => e = .returned y ∧ Below w.heap.size w w') : Calls P f xs w (CallEnd E s w v s) :=
  hc.mono fun e w' hq => ⟨y, E, hq.1, hv, h.below hq.2, Stp.ofBelow hq.2, Grow.refl _ _⟩
theorem contains_one [Tab] {P : Program} {f : Nat} (hfn : ∃ fn, P.funcs[f]? = some fn ∧ fn.body.isNone = false ∧ (fn.name == "runtime.NumGoroutine") = false)
    (hc : ∀ (s : ByteArray) (c : UInt8) (w : World), Calls P f #[.string s, .string ⟨#[c]⟩] w fun e w' => e = .returned (.bool (decide (0 ≤ Lib.indexByte s.data.toList c))) ∧ w' = w) : OneOK P f containsA := by
  refine ⟨hfn, fun args s v s' he _ E w xs h hf hv => ?_, fun args s u s' he => ?_⟩
  · unfold containsA at he
    split at he
    · rename_i l c
      injection he with he
      injection he with e1 e2
      subst e1
      subst e2
      match hx : xs.toList, hv with
      | [x, y], hv =>
        have h1 := hv.head
        have h2 := hv.tail.head
        cases h1
        cases h2
        have e : xs = #[.string ⟨l.toArray⟩, .string ⟨#[c]⟩] := by apply Array.ext'; rw [hx]
        rw [e]
        exact callEnd_below h (by rw [memB_eq]; exact .bool _) ((hc ⟨l.toArray⟩ c w).mono fun e w' hq => ⟨hq.1, by rw [hq.2]; exact Below.refl _ _⟩)
      | [], hv => have := hv.len; simp at this
      | [_], hv => have := hv.len; simp at this
      | _ :: _ :: _ :: _, hv => have := hv.len; simp at this
    · cases he
  · unfold containsA at he
    split at he <;> cases he
end Go.Proofs.YthmojpcaagnfkaaGreatDoor


/-
  The abstract machine: functions with one deferred closure that recovers. No program.
-/
namespace Go.Proofs.YthmojpcaagnfkaaGreatDoor
open Go.RowKit

theorem opsS_ok [Tab] {P : Program} {call : Nat → List AV → AS → Option (AV × AS)} (hc : CallOK P call) {ops : Array Oper} {nt : Nat} {cs : List Frame} {Q : Exit → Act → List Frame → World → Prop} : ∀ (l : List Oper) (i : Nat) (t : Tr AV) (s : AS) (t' : Tr AV) (s' : AS), (∀ j o, l[j]? = some o → ops[i + j]? = some o) → evOps P call ops nt l t s = some (t', s') →
    ∀ (E : AEnv) (a : Act) (w : World), TR E nt (t.get .top) a → HR E s.get w → Fresh E s.n →
    (∀ E' a' w', TR E' nt (t'.get .top) a' → HR E' s'.get w' → Stp E s.get w E' s'.get w' → Grow E s.n E' s'.n → a'.defers = a.defers → Q .normal a' cs w') → wpOpsS P ops Q (List.range' i l.length) a cs w
  | [], i, t, s, t', s', _, he, E, a, w, ht, h, hf, hq => by
    injection he with he
    injection he with e1 e2
    subst e1
    subst e2
    exact hq E a w ht h (Stp.refl _ _ _) (Grow.refl _ _) rfl
  | o :: r, i, t, s, t', s', hops, he, E, a, w, ht, h, hf, hq => by
    have ho : ops[i]? = some o := hops 0 o rfl
    have hr : ∀ j o', r[j]? = some o' → ops[i + 1 + j]? = some o' := fun j o' hj => by
      have := hops (j + 1) o' (by simpa using hj)
      rwa [show i + (j + 1) = i + 1 + j by omega] at this
    rw [List.length_cons, List.range'_succ]
    unfold wpOpsS
    rw [ho]
    dsimp only
    unfold evOps at he
    split at he
    · cases he
    · rename_i hw
      split at he
      · cases he
      · rename_i t1 hp
        have hw' := wantA_ok ht hw
        rw [if_neg (by rw [hw']; intro e; cases e)]
        exact opsS_ok hc r (i + 1) t1 s t' s' hr he E _ w (ht.putT .undef hp) h hf fun E' a' w' q1 q2 q3 q4 q5 => hq E' a' w' q1 q2 q3 q4 (q5.trans (put_defers _ _ _))
    · rename_i hw
      split at he
      · cases he
      · rename_i q hop
        split at he
        · cases he
        · rename_i t1 hp
          have hw' := wantA_ok ht hw
          obtain ⟨v, s1⟩ := q
          dsimp only at hp he
          rw [if_pos hw']
          have hwp : o.wp P a w (fun a' w' => wpOpsS P ops Q (List.range' (i + 1) r.length) a' cs w') (fun e a' w' => Q e a' cs w') :=
            evOp_ok hc ht h hf hop fun x E1 w1 q1 q2 q3 q4 => opsS_ok hc r (i + 1) t1 s1 t' s' hr he E1 _ w1 ((ht.mono q3.le).putT q1 hp) q2 (hf.grow q4) fun E' a' w' p1 p2 p3 p4 p5 => hq E' a' w' p1 p2 (q3.trans p3) (q4.trans p4) (p5.trans (put_defers _ _ _))
          unfold Oper.wp at hwp
          generalize (execOp a.eval o).run P w = rr at hwp
          split
          · exact hwp.elim
          · exact hwp
/-- A closure that recovers first. -/
noncomputable def recOf (fn : Func) : Option (Array Oper × Nat × List Oper × Code) := match fn.body with
  | some (.seq (.region _ ops false) rest) => match ops.toList with
    | o :: l => match o.guard with
      | none => match o.dst with
        | some d => match o.op with
          | .call c => match c.callee with
            | .builtin .recover => some (ops, d, l, rest)
            | _ => none
          | _ => none
        | none => none
      | some _ => none
    | [] => none
  | _ => none
noncomputable def recEnd : List ResultVar → Option (Ex × Tr AV × AS) → Option AS
  | [], some (.normal, _, s) => some s
  | [], some (.ret, _, s) => some s
  | _, _ => none
noncomputable def recA (P : Program) (call : Nat → List AV → AS → Option (AV × AS)) (fuel : Nat) (fn : Func) (caps : List AV) (u : AV) (s : AS) : Option AS := match recOf fn with
  | none => none
  | some r => cond (Nat.ble fn.ntmps 1000000) (cond (Nat.ble caps.length fn.ntmps) (match putT fn.ntmps (initT caps 0 .leaf) (some r.2.1) u with
    | none => none
    | some t => match evOps P call r.1 fn.ntmps r.2.2.1 t s with
      | none => none
      | some q => recEnd fn.results.toList (evC P (hooks P) call fn.ntmps fuel r.2.2.2 q.1 q.2)) none) none
theorem recOf_ok {fn : Func} {ops : Array Oper} {d : Nat} {l : List Oper} {rest : Code} (h : recOf fn = some (ops, d, l, rest)) : ∃ id o c, fn.body = some (.seq (.region id ops false) rest) ∧ ops.toList = o :: l ∧ o.guard = none ∧ o.dst = some d ∧ o.op = .call c ∧ c.callee = .builtin .recover := by
  unfold recOf at h
  split at h
  · rename_i id ops' rest' hb
    split at h
    · rename_i o l' hl
      split at h
      · rename_i hg
        split at h
        · rename_i d' hd
          split at h
          · rename_i c hop
            split at h
            · rename_i hcal
              injection h with h
              injection h with e1 h
              injection h with e2 h
              injection h with e3 e4
              subst e1
              subst e2
              subst e3
              subst e4
              exact ⟨id, o, c, hb, hl, hg, hd, hop, hcal⟩
            · cases h
          · cases h
        · cases h
      · cases h
    · cases h
  · cases h
/-- What a mode gives to one who recovers. -/
noncomputable def Given (E : AEnv) (u : AV) (m m' : FrameMode) : Prop :=
  ∀ (c₀ : Frame) (cs : List Frame), c₀.mode = m → (∃ v, recoverD (c₀ :: cs) = some (v, { c₀ with mode := m' } :: cs) ∧ VR E u v) ∨ (recoverD (c₀ :: cs) = none ∧ m' = m ∧ u = .nili)
theorem recA_ok [Tab] {P : Program} (hm : P.follows .mixedOrders = true) {call : Nat → List AV → AS → Option (AV × AS)} (hc : CallOK P call) {fuel f : Nat} {fn : Func} (hf : P.funcs[f]? = some fn) {caps : List AV} {u : AV} {s s' : AS} (he : recA P call fuel fn caps u s = some s') {E : AEnv} {w : World} {xs : Array Value} {m m' : FrameMode}
    (hg : Given E u m m') (h : HR E s.get w) (hfr : Fresh E s.n) (hv : VL E caps xs.toList) :
    CallsD P f xs m w fun e u' w' => (∃ v, e = .returned v) ∧ u' = m' ∧ ∃ E', HR E' s'.get w' ∧ Stp E s.get w E' s'.get w' ∧ Grow E s.n E' s'.n := by
  unfold recA at he
  split at he
  · cases he
  · rename_i r hr
    obtain ⟨ops, d, l, rest⟩ := r
    obtain ⟨id, o, c, hb, hl, hgd, hd, hop, hcal⟩ := recOf_ok hr
    cases hn : Nat.ble fn.ntmps 1000000 with
    | false => rw [hn] at he; cases he
    | true =>
    cases hle : Nat.ble caps.length fn.ntmps with
    | false => rw [hn, hle] at he; cases he
    | true =>
      rw [hn, hle] at he
      simp only [cond_true] at he
      have hn' : fn.ntmps ≤ 1000000 := Nat.le_of_ble_eq_true hn
      have hl' : caps.length ≤ fn.ntmps := Nat.le_of_ble_eq_true hle
      split at he
      · cases he
      · rename_i t1 hp
        split at he
        · cases he
        · rename_i q hq
          obtain ⟨t2, s2⟩ := q
          dsimp only at he
          obtain ⟨e3, t3, s3, hev, hres, he3, hs3⟩ : ∃ e3 t3 s3, evC P (hooks P) call fn.ntmps fuel rest t2 s2 = some (e3, t3, s3) ∧ fn.results.toList = [] ∧ (e3 = .normal ∨ e3 = .ret) ∧ s3 = s' := by
            unfold recEnd at he
            split at he
            · rename_i tt ss h1 h2
              injection he with he
              exact ⟨_, _, _, h2, h1, .inl rfl, he⟩
            · rename_i tt ss h1 h2
              injection he with he
              exact ⟨_, _, _, h2, h1, .inr rfl, he⟩
            · cases he
          subst hs3
          have hops : ∀ j o', l[j]? = some o' → ops[1 + j]? = some o' := fun j o' hj => by
            rw [← Array.getElem?_toList, hl, Nat.add_comm 1 j]
            simpa using hj
          have h0 : ops[0]? = some o := by rw [← Array.getElem?_toList, hl]; rfl
          have hsz : ops.size = l.length + 1 := by rw [← Array.length_toList, hl]; rfl
          refine callsD_of_wpS hf hb fun c₀ cs hc0 => ?_
          apply wpS_seq
          refine wpS_region ?_
          have ht0 : TR E fn.ntmps ((initT caps 0 .leaf).get .top) { tmps := xs ++ Array.replicate (fn.ntmps - xs.size) undef, defers := [] } := start_TR hn' hl' hv
          -- the rest of the region, and what is behind it
          have go : ∀ (v : Value) (cs' : List Frame), cs' = { c₀ with mode := m' } :: cs → VR E u v → ∀ a1 : Act, a1 = Act.put { tmps := xs ++ Array.replicate (fn.ntmps - xs.size) undef, defers := [] } (some d) v → wpOpsS P ops (Exit.thenS (rest.wpS P (bodyPostS P fn c₀ cs fun e u' w' => (∃ v, e = .returned v) ∧ u' = m' ∧ ∃ E', HR E' s3.get w' ∧ Stp E s.get w E' s3.get w' ∧ Grow E s.n E' s3.n)) (bodyPostS P fn c₀ cs fun e u' w' => (∃ v, e = .returned v) ∧ u' = m' ∧ ∃ E', HR E' s3.get w' ∧ Stp E s.get w E' s3.get w' ∧ Grow E s.n E' s3.n)) (List.range' 1 l.length) a1 cs' w := by
            intro v cs' hcs' hvv a1 ha1
            subst ha1
            refine opsS_ok hc l 1 t1 s t2 s2 hops hq E _ w (ht0.putT hvv hp) h hfr fun E1 a2 w1 p1 p2 p3 p4 p5 => ?_
            show rest.wpS P _ a2 cs' w1
            refine wpS_of_wp (wp_mono (evC_ok (hooks_ok hm) hc fuel rest t2 s2 e3 t3 s3 hev E1 a2 w1 p1 p2 (hfr.grow p4)) fun ex a3 w2 hpost => ?_)
            obtain ⟨q0, E2, q1, q2, q3, q4, q5⟩ := hpost
            obtain ⟨x, r1, r2⟩ := resA_ok (fn := fn) (v := .tup []) q1 q2 (by unfold resA; rw [hres]; rfl)
            have hd0 : a3.defers = [] := q5.trans (p5.trans (put_defers _ _ _))
            rcases he3 with rfl | rfl
            · cases q0
              exact ⟨hd0, m', hcs', x, r1, ⟨x, rfl⟩, rfl, E2, q2, p3.trans q3, p4.trans q4⟩
            · cases q0
              exact ⟨hd0, m', hcs', x, r1, ⟨x, rfl⟩, rfl, E2, q2, p3.trans q3, p4.trans q4⟩
          rw [List.range_eq_range', hsz, List.range'_succ]
          unfold wpOpsS
          rw [h0]
          dsimp only
          have hwant : Region.wanted o (yielded ops (xs ++ Array.replicate (fn.ntmps - xs.size) undef)) = true := by unfold Region.wanted; rw [hgd]
          rw [if_pos hwant]
          have hrun : ∀ a : Act, (execOp a.eval o).run P w = .ok .recover w := fun a => by
            simp [execOp, hop, resolve, hcal, invoke, builtin]
          rw [hrun]
          dsimp only
          rcases hg c₀ cs hc0 with ⟨v, hrec, hvv⟩ | ⟨hrec, hmm, hu⟩
          · rw [hrec]
            dsimp only
            exact go v _ rfl hvv _ (by rw [hd])
          · rw [hrec]
            dsimp only
            subst hmm
            subst hu
            exact go .nilIface _ (by rw [← hc0]) .nili _ (by rw [hd])
/-- A region that makes a closure and defers it. -/
noncomputable def deferOf (x : Code) : Option (Array Oper × Oper × Oper × Operand) := match x with
  | .region _ ops false => match ops.toList with
    | [o1, o2] => match o1.guard with
      | none => match o2.guard with
        | none => match o2.op with
          | .defer c => match c.callee with
            | .value f => match c.args.toList with
              | [] => some (ops, o1, o2, f)
              | _ :: _ => none
            | _ => none
          | _ => none
        | some _ => none
      | some _ => none
    | _ => none
  | _ => none
theorem deferOf_ok {x : Code} {ops : Array Oper} {o1 o2 : Oper} {f : Operand} (h : deferOf x = some (ops, o1, o2, f)) : ∃ id c, x = .region id ops false ∧ ops.toList = [o1, o2] ∧ o1.guard = none ∧ o2.guard = none ∧ o2.op = .defer c ∧ c.callee = .value f ∧ c.args = #[] := by
  unfold deferOf at h
  split at h
  · split at h
    · rename_i hl
      split at h
      · rename_i h1
        split at h
        · rename_i h2
          split at h
          · rename_i c hop
            split at h
            · rename_i f' hcal
              split at h
              · rename_i hargs
                injection h with h
                injection h with e1 h
                injection h with e2 h
                injection h with e3 e4
                subst e1
                subst e2
                subst e3
                subst e4
                exact ⟨_, c, rfl, hl, h1, h2, hop, hcal, by apply Array.ext'; simpa using hargs⟩
              · cases h
            · cases h
          · cases h
        · cases h
      · cases h
    · cases h
  · cases h
/-- A panic's value, again. -/
noncomputable def panV : Value → Option AV
  | .iface t (.int k n) => some (.ifc t (.int k n))
  | .iface t (.string s) => some (.ifc t (.str s.data.toList))
  | _ => none
theorem panV_ok {v : Value} {a : AV} (h : panV v = some a) (E : AEnv) : VR E a v := by
  unfold panV at h
  split at h
  · injection h with h; subst h; exact .ifc _ _ _ (.int _ _)
  · injection h with h; subst h; exact .ifc _ _ _ (.str _)
  · cases h
noncomputable def endG (P : Program) (rs : List ResultVar) (t : Tr AV) (s : AS) : Option (AV × AS) := match resA P t s rs with
  | some v => some (v, s)
  | none => none
noncomputable def finG (P : Program) (call : Nat → List AV → AS → Option (AV × AS)) (fuel : Nat) (rs : List ResultVar) (fn : Func) (caps : List AV) (r : Option (Ex × Tr AV × AS)) : Option (AV × AS) := match r with
  | some (.normal, t, s) => match recA P call fuel fn caps .nili s with
    | some s2 => endG P rs t s2
    | none => none
  | some (.ret, t, s) => match recA P call fuel fn caps .nili s with
    | some s2 => endG P rs t s2
    | none => none
  | some (.panic u, t, s) => match panV u with
    | some v => match recA P call fuel fn caps v s with
      | some s2 => endG P rs t s2
      | none => none
    | none => none
  | _ => none
noncomputable def gdA (P : Program) (call : Nat → List AV → AS → Option (AV × AS)) (fs : Nat → Option Func) (fuel nt : Nat) (rs : List ResultVar) : Code → Tr AV → AS → Option (AV × AS)
  | .seq x y, t, s => match deferOf x with
    | some r => match evOp P call r.2.1 (oev t) s with
      | none => none
      | some q => match putT nt t r.2.1.dst q.1 with
        | none => none
        | some t1 => match oev t1 r.2.2.2 with
          | .fn g caps => match fs g with
            | some fn => match putT nt t1 r.2.2.1.dst .undef with
              | some t2 => finG P call fuel rs fn caps (evC P (hooks P) call nt fuel y t2 q.2)
              | none => none
            | none => none
          | _ => none
    | none => match evC P (hooks P) call nt fuel x t s with
      | some (.normal, t1, s1) => gdA P call fs fuel nt rs y t1 s1
      | some (.ret, t1, s1) => endG P rs t1 s1
      | _ => none
  | _, _, _ => none
/-- What the whole leaves. -/
noncomputable def EndG [Tab] (E : AEnv) (s : AS) (w : World) (v : AV) (s' : AS) (e : Ending) (w' : World) : Prop := CallEnd E s w v s' e w'
theorem endG_ok [Tab] {P : Program} {fn : Func} {E E1 : AEnv} {nt : Nat} {a : Act} {t : Tr AV} {s s1 s' : AS} {w w1 : World} {v : AV} (he : endG P fn.results.toList t s1 = some (v, s')) (ht : TR E1 nt (t.get .top) a) (h : HR E1 s1.get w1) (hs : Stp E s.get w E1 s1.get w1) (hg : Grow E s.n E1 s1.n) :
    ∃ x, (results fn a.tmps).run P w1 = .ok x w1 ∧ CallEnd E s w v s' (.returned x) w1 := by
  unfold endG at he
  split at he
  · rename_i u hu
    injection he with he
    injection he with e1 e2
    subst e1
    subst e2
    obtain ⟨x, r1, r2⟩ := resA_ok (fn := fn) ht h hu
    exact ⟨x, r1, x, E1, rfl, r2, h, hs, hg⟩
  · cases he
theorem given_ret (E : AEnv) : Given E .nili .returning .returning := fun c₀ cs hc => .inr ⟨by
  unfold recoverD
  dsimp only
  rw [hc], rfl, rfl⟩
theorem given_pan {E : AEnv} {u : AV} {v : Value} (h : VR E u v) : Given E u (.panicking [{ v := v, recovered := false }]) (.panicking [{ v := v, recovered := true }]) := fun c₀ cs hc => .inl ⟨v, by
  unfold recoverD
  dsimp only
  rw [hc], h⟩
theorem finG_ok [Tab] {P : Program} (hm : P.follows .mixedOrders = true) {call : Nat → List AV → AS → Option (AV × AS)} (hc : CallOK P call) {fuel nt g : Nat} {fn cl : Func} (hg : P.funcs[g]? = some cl) (hnum : (cl.name == "runtime.NumGoroutine") = false) {caps : List AV} {s s1 s' : AS} {v : AV} {y : Code} {t1 : Tr AV} {E E1 : AEnv} {a : Act} {w w1 : World} {xs : Array Value} {d : Deferred}
    (he : finG P call fuel fn.results.toList cl caps (evC P (hooks P) call nt fuel y t1 s1) = some (v, s')) (ht : TR E1 nt (t1.get .top) a) (h : HR E1 s1.get w1) (hfr : Fresh E1 s1.n) (hs : Stp E s.get w E1 s1.get w1) (hgr : Grow E s.n E1 s1.n) (hv : VL E1 caps xs.toList) (hd : a.defers = [d]) (htar : d.target = .fn (.func g) xs) (hargs : d.args = #[]) :
    y.wp P (bodyPostD P fn (CallEnd E s w v s')) a w1 := by
  have hinv : cl.body.isNone = false → ∀ w2, (invoke d.target d.args).run P w2 = .ok (.enter g xs) w2 := fun hb w2 => by
    have h2' : cl.body ≠ none := fun e => by rw [e] at hb; cases hb
    have h3' : cl.name ≠ "runtime.NumGoroutine" := fun e => by rw [e] at hnum; simp at hnum
    simp [htar, hargs, invoke, callFunc, hg, h2', h3']
  have hbody : ∀ {u : AV} {s2 s3 : AS}, recA P call fuel cl caps u s2 = some s3 → cl.body.isNone = false := fun {u s2 s3} hr => by
    unfold recA at hr
    split at hr
    · cases hr
    · rename_i r hr'
      obtain ⟨ops, d, l, rest⟩ := r
      obtain ⟨_, _, _, hb, _⟩ := recOf_ok hr'
      rw [hb]
      rfl
  -- what is behind the body
  have leave : ∀ (m m' : FrameMode), m ≠ .run → settle m' = .returning → ∀ {u : AV} {s2 s3 : AS} {t2 : Tr AV} {a2 : Act} {E2 : AEnv} {w2 : World}, recA P call fuel cl caps u s2 = some s3 → endG P fn.results.toList t2 s3 = some (v, s') → Given E2 u m m' → TR E2 nt (t2.get .top) a2 → HR E2 s2.get w2 → Stp E1 s1.get w1 E2 s2.get w2 → Grow E1 s1.n E2 s2.n → a2.defers = a.defers → Leaves P fn a2.tmps (CallEnd E s w v s') a2.defers m w2 := by
    intro m m' hmr hset u s2 s3 t2 a2 E2 w2 hrec hend hgiv ht2 h2 hs2 hg2 hd2
    rw [hd2, hd]
    refine ⟨hmr, .func g, xs, g, xs, htar, hinv (hbody hrec) w2, ?_⟩
    have := recA_ok hm hc hg hrec hgiv h2 ((hfr.grow hg2)) (hv.mono hs2.le)
    intro c₀ cs hc0
    obtain ⟨e, u', w3, fr, ⟨⟨x, rfl⟩, rfl, E3, q1, q2, q3⟩, r2⟩ := this c₀ cs hc0
    refine ⟨.returned x, u', w3, fr, ?_, r2⟩
    show Leaves P fn a2.tmps (CallEnd E s w v s') [] (settle u') w3
    rw [hset]
    obtain ⟨z, z1, z2⟩ := endG_ok (fn := fn) hend (ht2.mono q2.le) q1 (hs.trans (hs2.trans q2)) (hgr.trans (hg2.trans q3))
    exact ⟨z, z1, z2⟩
  unfold finG at he
  split at he
  · rename_i t2 s2 hev
    split at he
    · rename_i s3 hrec
      refine wp_mono (evC_ok (hooks_ok hm) hc fuel y t1 s1 _ t2 s2 hev E1 a w1 ht h hfr) fun ex a2 w2 hp => ?_
      obtain ⟨q0, E2, q1, q2, q3, q4, q5⟩ := hp
      cases q0
      exact leave .returning .returning (by intro e; cases e) rfl hrec he (given_ret E2) q1 q2 q3 q4 q5
    · cases he
  · rename_i t2 s2 hev
    split at he
    · rename_i s3 hrec
      refine wp_mono (evC_ok (hooks_ok hm) hc fuel y t1 s1 _ t2 s2 hev E1 a w1 ht h hfr) fun ex a2 w2 hp => ?_
      obtain ⟨q0, E2, q1, q2, q3, q4, q5⟩ := hp
      cases q0
      exact leave .returning .returning (by intro e; cases e) rfl hrec he (given_ret E2) q1 q2 q3 q4 q5
    · cases he
  · rename_i u t2 s2 hev
    split at he
    · rename_i v' hrep
      split at he
      · rename_i s3 hrec
        refine wp_mono (evC_ok (hooks_ok hm) hc fuel y t1 s1 _ t2 s2 hev E1 a w1 ht h hfr) fun ex a2 w2 hp => ?_
        obtain ⟨q0, E2, q1, q2, q3, q4, q5⟩ := hp
        cases q0
        exact leave (.panicking [{ v := u, recovered := false }]) (.panicking [{ v := u, recovered := true }]) (by intro e; cases e) rfl hrec he (given_pan (panV_ok hrep E2)) q1 q2 q3 q4 q5
      · cases he
    · cases he
  · cases he
theorem gdA_ok [Tab] {P : Program} (hm : P.follows .mixedOrders = true) {call : Nat → List AV → AS → Option (AV × AS)} (hc : CallOK P call) {fs : Nat → Option Func} (hfs : FnsOK P fs) {fuel nt : Nat} {fn : Func} : ∀ (c : Code) (t : Tr AV) (s1 : AS) (v : AV) (s' : AS), gdA P call fs fuel nt fn.results.toList c t s1 = some (v, s') →
    ∀ (E E1 : AEnv) (s : AS) (a : Act) (w w1 : World), TR E1 nt (t.get .top) a → HR E1 s1.get w1 → Fresh E1 s1.n → Stp E s.get w E1 s1.get w1 → Grow E s.n E1 s1.n → a.defers = [] → c.wp P (bodyPostD P fn (CallEnd E s w v s')) a w1
  | .seq x y, t, s1, v, s', he, E, E1, s, a, w, w1, ht, h, hfr, hs, hgr, hd => by
    unfold gdA at he
    split at he
    · rename_i r hdef
      obtain ⟨ops, o1, o2, f⟩ := r
      obtain ⟨id, c, rfl, hl, g1, g2, hop, hcal, hargs⟩ := deferOf_ok hdef
      dsimp only at he
      split at he
      · cases he
      · rename_i q hq
        split at he
        · cases he
        · rename_i t1 hp
          split at he
          · rename_i g caps hfn
            split at he
            · rename_i cl hcl
              split at he
              · rename_i t2 hp2
                obtain ⟨hg, hnum⟩ := hfs.at_ g cl hcl
                obtain ⟨v1, s2⟩ := q
                dsimp only at hp he
                refine wp_seq (wp_region_list ?_)
                rw [hl]
                unfold wpList
                rw [if_pos (by unfold Region.wanted; rw [g1])]
                refine .inl (evOp_ok hc ht h hfr hq fun x1 E2 w2 q1 q2 q3 q4 => ?_)
                have ht1 := (ht.mono q3.le).putT q1 hp
                unfold wpList
                rw [if_pos (by unfold Region.wanted; rw [g2])]
                left
                have hval := oev_ok ht1 f
                rw [hfn] at hval
                obtain ⟨xs, hx, hcaps⟩ := hval.fn_inv
                have hrun : (execOp (a.put o1.dst x1).eval o2).run P w2 = .ok (.defer { target := .fn (.func g) xs, args := #[] }) w2 := by
                  simp [execOp, hop, resolve, hcal, hargs, hx, Deferred.ofValue]
                unfold Oper.wp
                rw [hrun]
                rw [Oper.upon_defer]
                unfold wpList
                refine finG_ok (E := E) (s := s) (w := w) hm hc hg hnum (d := { target := .fn (.func g) xs, args := #[] }) he ?_ q2 (hfr.grow q4) (hs.trans q3) (hgr.trans q4) hcaps ?_ rfl rfl
                · have : TR E2 nt (t1.get .top) { (a.put o1.dst x1) with defers := { target := .fn (.func g) xs, args := #[] } :: (a.put o1.dst x1).defers } := ⟨ht1.size, ht1.lim, ht1.at_⟩
                  exact this.putT .undef hp2
                · rw [put_defers]
                  show _ :: (a.put o1.dst x1).defers = _
                  rw [put_defers, hd]
              · cases he
            · cases he
          · cases he
    · split at he
      · rename_i t1 s2 hev
        refine wp_seq (wp_mono (evC_ok (hooks_ok hm) hc fuel x t s1 _ t1 s2 hev E1 a w1 ht h hfr) fun ex a2 w2 hp => ?_)
        obtain ⟨q0, E2, q1, q2, q3, q4, q5⟩ := hp
        cases q0
        exact gdA_ok hm hc hfs y t1 s2 v s' he E E2 s a2 w w2 q1 q2 (hfr.grow q4) (hs.trans q3) (hgr.trans q4) (q5.trans hd)
      · rename_i t1 s2 hev
        refine wp_seq (wp_mono (evC_ok (hooks_ok hm) hc fuel x t s1 _ t1 s2 hev E1 a w1 ht h hfr) fun ex a2 w2 hp => ?_)
        obtain ⟨q0, E2, q1, q2, q3, q4, q5⟩ := hp
        cases q0
        obtain ⟨z, z1, z2⟩ := endG_ok (fn := fn) he q1 q2 (hs.trans q3) (hgr.trans q4)
        show Leaves P fn a2.tmps _ a2.defers .returning w2
        rw [q5, hd]
        exact ⟨z, z1, z2⟩
      · cases he
  | .skip, _, _, _, _, he, _, _, _, _, _, _, _, _, _, _, _, _ => by cases he
  | .region _ _ _, _, _, _, _, he, _, _, _, _, _, _, _, _, _, _, _, _ => by cases he
  | .cond _ _ _, _, _, _, _, he, _, _, _, _, _, _, _, _, _, _, _, _ => by cases he
  | .block _ _, _, _, _, _, he, _, _, _, _, _, _, _, _, _, _, _, _ => by cases he
  | .loop _, _, _, _, _, he, _, _, _, _, _, _, _, _, _, _, _, _ => by cases he
  | .rangeFunc _ _ _ _, _, _, _, _, he, _, _, _, _, _, _, _, _, _, _, _, _ => by cases he
  | .exit _, _, _, _, _, he, _, _, _, _, _, _, _, _, _, _, _, _ => by cases he
  | .scope _, _, _, _, _, he, _, _, _, _, _, _, _, _, _, _, _, _ => by cases he
  | .label _, _, _, _, _, he, _, _, _, _, _, _, _, _, _, _, _, _ => by cases he
  | .goto _, _, _, _, _, he, _, _, _, _, _, _, _, _, _, _, _, _ => by cases he
  | .ret, _, _, _, _, he, _, _, _, _, _, _, _, _, _, _, _, _ => by cases he
  | .refuse _, _, _, _, _, he, _, _, _, _, _, _, _, _, _, _, _, _ => by cases he
/-- A function with a deferred closure, as an oracle. -/
noncomputable def guardedA (P : Program) (call : Nat → List AV → AS → Option (AV × AS)) (fs : Nat → Option Func) (fuel : Nat) (fn : Func) (args : List AV) (s : AS) : Option (AV × AS) := match fn.body with
  | none => none
  | some c => cond (Nat.ble fn.ntmps 1000000) (cond (Nat.ble args.length fn.ntmps) (match gdA P call fs fuel fn.ntmps fn.results.toList c (initT args 0 .leaf) s with
    | some (.pan _, _) => none
    | r => r) none) none
theorem guardedA_ok [Tab] {P : Program} (hm : P.follows .mixedOrders = true) {call : Nat → List AV → AS → Option (AV × AS)} (hc : CallOK P call) {fs : Nat → Option Func} (hfs : FnsOK P fs) {fuel f : Nat} {fn : Func} (hf : P.funcs[f]? = some fn) (hb : fn.body.isNone = false) (hnum : (fn.name == "runtime.NumGoroutine") = false) : OneOK P f (guardedA P call fs fuel fn) := by
  have key : ∀ {args : List AV} {s : AS} {v : AV} {s' : AS}, guardedA P call fs fuel fn args s = some (v, s') → (∃ c, fn.body = some c ∧ fn.ntmps ≤ 1000000 ∧ args.length ≤ fn.ntmps ∧ gdA P call fs fuel fn.ntmps fn.results.toList c (initT args 0 .leaf) s = some (v, s')) ∧ ∀ u, v ≠ .pan u := by
    intro args s v s' he
    unfold guardedA at he
    split at he
    · cases he
    · rename_i c hbody
      cases hn : Nat.ble fn.ntmps 1000000 with
      | false => rw [hn] at he; cases he
      | true =>
      cases hl : Nat.ble args.length fn.ntmps with
      | false => rw [hn, hl] at he; cases he
      | true =>
        rw [hn, hl] at he
        simp only [cond_true] at he
        split at he
        · cases he
        · rename_i hnp
          exact ⟨⟨c, hbody, Nat.le_of_ble_eq_true hn, Nat.le_of_ble_eq_true hl, he⟩, fun u e => hnp u s' (by rw [he, e])⟩
  refine ⟨⟨fn, hf, hb, hnum⟩, fun args s v s' he _ E w xs h hfr hv => ?_, fun args s u s' he => ?_⟩
  · obtain ⟨⟨c, hbody, hn, hl, hgd⟩, _⟩ := key he
    exact calls_of_wp_defers hf hbody (gdA_ok hm hc hfs c _ s v s' hgd E E s _ w w (start_TR hn hl hv) h hfr (Stp.refl _ _ _) (Grow.refl _ _) rfl)
  · exact absurd rfl ((key he).2 u)
end Go.Proofs.YthmojpcaagnfkaaGreatDoor
