/-
  The abstract machine: regions that draw their order: one operation's step, two that may change places. No program.
-/
import Derived.Test.YtambgppdjlhdaaaGreatDoorEvM
namespace Go.Proofs.YtambgppdjlhdaaaGreatDoor
open Go.RowKit

/-- What the evaluator does hangs on the operands alone. -/
theorem opA_congr {P : Program} {o : Op} {ev ev' : Operand → AV} {s : AS} (h : ∀ x ∈ o.operands, ev x = ev' x) : opA P o ev s = opA P o ev' s := by
  have pairs : ∀ ps : Array (Nat × Operand), (∀ x ∈ (ps.toList.map (·.2)).toArray, ev x = ev' x) → (ps.toList.map fun p => (p.1, ev p.2)) = (ps.toList.map fun p => (p.1, ev' p.2)) := fun ps hp =>
    List.map_congr_left fun p hm => by
      rw [hp p.2 (by simpa using ⟨p.1, by simpa using hm⟩)]
  cases o <;> try rfl
  case move x => exact congrArg (fun v => some (v, s)) (h x (by simp [Op.operands]))
  case assign x => exact congrArg (fun v => some (v, s)) (h x (by simp [Op.operands]))
  case pick c a b => unfold opA; dsimp only; rw [h c (by simp [Op.operands]), h a (by simp [Op.operands]), h b (by simp [Op.operands])]
  case box t x => unfold opA; dsimp only; rw [h x (by simp [Op.operands])]
  case build t ps => unfold opA; dsimp only; rw [pairs ps h]
  case buildSlice t n ps => unfold opA; dsimp only; rw [pairs ps h]
  case insert t m k v => unfold opA; dsimp only; rw [h m (by simp [Op.operands]), h k (by simp [Op.operands]), h v (by simp [Op.operands])]
  case mapUpdate t m k v => unfold opA; dsimp only; rw [h m (by simp [Op.operands]), h k (by simp [Op.operands]), h v (by simp [Op.operands])]
  case load t a => unfold opA; dsimp only; rw [h a (by simp [Op.operands])]
  case store t a v => unfold opA; dsimp only; rw [h a (by simp [Op.operands]), h v (by simp [Op.operands])]
  case nilCheck x => unfold opA; dsimp only; rw [h x (by simp [Op.operands])]
  case binOp op t x y ty => unfold opA; dsimp only; rw [h x (by simp [Op.operands]), h y (by simp [Op.operands])]
  case unOp op t x => unfold opA; dsimp only; rw [h x (by simp [Op.operands])]
  case convert a b x => unfold opA; dsimp only; rw [h x (by simp [Op.operands])]
  case makeInterface t x => unfold opA; dsimp only; rw [h x (by simp [Op.operands])]
  case makeFunc fn first captured =>
    cases fn <;> try rfl
    unfold opA
    dsimp only
    rw [show captured.toList.map ev = captured.toList.map ev' from List.map_congr_left fun x hx => h x (by simp only [Op.operands, Array.mem_append]; right; simpa using hx), show first.toList.map ev = first.toList.map ev' from List.map_congr_left fun x hx => h x (by simp only [Op.operands, Array.mem_append]; left; simpa using hx)]
  case makeMap t r => cases r <;> rfl
  case makeSlice t l c => unfold opA; dsimp only; rw [h l (by simp [Op.operands]), h c (by simp [Op.operands])]
  case slice t x lo hi mx =>
    unfold opA
    dsimp only
    have e1 : lo.map ev = lo.map ev' := by
      cases lo with
      | none => rfl
      | some y => exact congrArg some (h y (by simp [Op.operands]))
    have e2 : hi.map ev = hi.map ev' := by
      cases hi with
      | none => rfl
      | some y => exact congrArg some (h y (by simp [Op.operands]))
    have e3 : mx.map ev = mx.map ev' := by
      cases mx with
      | none => rfl
      | some y => exact congrArg some (h y (by simp [Op.operands]))
    rw [h x (by simp [Op.operands]), e1, e2, e3]
  case fieldAddr t x f => unfold opA; dsimp only; rw [h x (by simp [Op.operands])]
  case field t x f => unfold opA; dsimp only; rw [h x (by simp [Op.operands])]
  case indexAddr t x i => unfold opA; dsimp only; rw [h x (by simp [Op.operands]), h i (by simp [Op.operands])]
  case index t x i => unfold opA; dsimp only; rw [h x (by simp [Op.operands]), h i (by simp [Op.operands])]
  case lookup t x i ok => unfold opA; dsimp only; rw [h x (by simp [Op.operands]), h i (by simp [Op.operands])]
  case extract x i => unfold opA; dsimp only; rw [h x (by simp [Op.operands])]
  case range t x => unfold opA; dsimp only; rw [h x (by simp [Op.operands])]
  case entry x => unfold opA; dsimp only; rw [h x (by simp [Op.operands])]
  case typeAssert x a b ok => unfold opA; dsimp only; rw [h x (by simp [Op.operands])]
theorem evOp_congr [Tab] {P : Program} {call : Nat → List AV → AS → Option (AV × AS)} {ops : Array Oper} {o : Oper} {f f' : Nat → AV} (h : ∀ k ∈ o.looksAt ops, f k = f' k) : evOp P call o (oevF f) = evOp P call o (oevF f') := by
  have hop : ∀ x ∈ o.op.operands, oevF f x = oevF f' x := by
    intro x hx
    cases x with
    | tmp k => exact h k (List.mem_append_left _ (List.mem_filterMap.2 ⟨.tmp k, by simpa using hx, rfl⟩))
    | _ => rfl
  funext s
  unfold evOp
  split
  · rename_i c hc
    rw [hc] at hop
    simp only [Op.operands, Call.operands] at hop
    have hargs : c.args.toList.map (oevF f) = c.args.toList.map (oevF f') := List.map_congr_left fun x hx => hop x (by simp only [Array.mem_append]; right; simpa using hx)
    unfold callA
    rw [hargs]
    split
    · rename_i g hg
      rw [hg] at hop
      rw [hop g (by simp)]
    · rfl
    · rfl
  · exact opA_congr hop
theorem wantF_congr [Tab] {ops : Array Oper} {o : Oper} {f f' : Nat → AV} (h : ∀ k ∈ o.looksAt ops, f k = f' k) : wantF ops o f = wantF ops o f' := by
  unfold wantF
  split
  · rfl
  · rename_i q hg
    split
    · rename_i oj hj
      replace hj : ops[q.1]? = some oj := by rw [nthO_eq, Array.getElem?_toList] at hj; exact hj
      split
      · rename_i d hd
        rw [h d (by simp [Oper.looksAt, hg, hj, hd])]
      · rfl
    · rfl
/-- Classes: 0 none of memory; 1 reads; 2 makes a block; 3 may do anything. -/
noncomputable def clsO (o : Oper) : Nat := match o.op with
  | .alloc _ => 2
  | .box _ _ => 2
  | .buildSlice _ _ _ => 2
  | .makeMap _ _ => 2
  | .makeSlice _ _ _ => 2
  | .store _ _ _ => 3
  | .insert _ _ _ _ => 3
  | .mapUpdate _ _ _ _ => 3
  | .range _ _ => 3
  | .entry _ => 1
  | .load _ _ => 1
  | .lookup _ _ _ _ => 1
  | .convert _ _ _ => 1
  | .call c => match c.callee with
    | .builtin .len => 1
    | _ => 3
  | _ => 0
theorem withS_all {s s' : AS} {r : Option AV} {v : AV} (h : withS s r = some (v, s')) : s' = s ∧ ∀ s2, withS s2 r = some (v, s2) := by
  cases r with
  | none => cases h
  | some u =>
    injection h with h
    injection h with e1 e2
    subst e1
    subst e2
    exact ⟨rfl, fun _ => rfl⟩
theorem evOp_pure [Tab] {P : Program} {call : Nat → List AV → AS → Option (AV × AS)} {o : Oper} {ev : Operand → AV} {s s' : AS} {v : AV} (hc : clsO o = 0) (h : evOp P call o ev s = some (v, s')) : s' = s ∧ ∀ s2, evOp P call o ev s2 = some (v, s2) := by
  obtain ⟨dst, op, type, pos, after, guard⟩ := o
  cases op <;> try (cases hc; done)
  all_goals try (cases h; done)
  all_goals try (exact withS_all h)
  case move x => injection h with h; injection h with e1 e2; subst e1; subst e2; exact ⟨rfl, fun _ => rfl⟩
  case assign x => injection h with h; injection h with e1 e2; subst e1; subst e2; exact ⟨rfl, fun _ => rfl⟩
  case pick c a b =>
    unfold evOp opA at h ⊢
    dsimp only at h ⊢
    split at h
    · rename_i q hq
      injection h with h
      injection h with e1 e2
      subst e1
      subst e2
      exact ⟨rfl, fun s2 => rfl⟩
    · cases h
  case nilCheck x =>
    unfold evOp opA at h ⊢
    dsimp only at h ⊢
    split at h
    · injection h with h
      injection h with e1 e2
      subst e1
      subst e2
      exact ⟨rfl, fun s2 => rfl⟩
    · injection h with h
      injection h with e1 e2
      subst e1
      subst e2
      exact ⟨rfl, fun s2 => rfl⟩
    · injection h with h
      injection h with e1 e2
      subst e1
      subst e2
      exact ⟨rfl, fun s2 => rfl⟩
    · cases h
  case makeInterface t x =>
    unfold evOp opA at h ⊢
    dsimp only at h ⊢
    split at h
    · rename_i d hd
      cases hid : ifcD d with
      | true => rw [hid] at h; cases h
      | false =>
        rw [hid] at h
        injection h with h
        injection h with e1 e2
        subst e1
        subst e2
        exact ⟨rfl, fun s2 => rfl⟩
    · cases h
  case makeFunc fn first captured =>
    cases fn <;> try (cases h; done)
    unfold evOp opA at h ⊢
    dsimp only at h ⊢
    split at h
    · injection h with h
      injection h with e1 e2
      subst e1
      subst e2
      exact ⟨rfl, fun s2 => rfl⟩
    · split at h
      · injection h with h
        injection h with e1 e2
        subst e1
        subst e2
        exact ⟨rfl, fun s2 => rfl⟩
      · cases h
  case call c =>
    unfold clsO at hc
    dsimp only at hc
    split at hc <;> cases hc
theorem newA_n [Tab] {s s' : AS} {cs : List AV} {ty : Nat} {v : AV} (h : newA s cs ty = some (v, s')) : s'.n = s.n + 1 := by
  obtain ⟨_, _, rfl⟩ := newA_ok h
  rfl
theorem cond_some {α : Type} {c : Bool} {a : Option α} {x : α} (h : cond c a none = some x) : a = some x := by
  cases c
  · cases h
  · exact h
theorem evOp_read [Tab] {P : Program} {call : Nat → List AV → AS → Option (AV × AS)} {o : Oper} {ev : Operand → AV} {s s' : AS} {v : AV} (hc : clsO o = 1) (h : evOp P call o ev s = some (v, s')) (hn : s'.n = s.n) : s' = s := by
  obtain ⟨dst, op, type, pos, after, guard⟩ := o
  cases op <;> try (cases hc; done)
  case load t a => exact (withS_all h).1
  case lookup t x i ok => exact (withS_all h).1
  case entry x => exact (withS_all h).1
  case convert a b x =>
    replace h : convA P a b (ev x) s = some (v, s') := h
    unfold convA at h
    repeat' (first | (split at h) | (cases h; done) | (injection h with h; injection h with e1 e2; exact e2.symm))
    all_goals try (cases h; done)
    all_goals try (injection h with h; injection h with e1 e2; exact e2.symm)
    all_goals first
      | (have h := cond_some h
         injection h with h
         injection h with e1 e2
         exact e2.symm)
      | (have h := cond_some (cond_some h)
         injection h with h
         injection h with e1 e2
         exact e2.symm)
      | (have h := cond_some h
         cases h)
      | (have hx := newA_n (by assumption)
         injection h with h
         injection h with e1 e2
         subst e2
         omega)
  case call c =>
    unfold clsO at hc
    dsimp only at hc
    split at hc
    · rename_i hcal
      unfold evOp callA at h
      dsimp only at h
      rw [hcal] at h
      replace h := (noPan_ok h).1
      unfold builtinA at h
      dsimp only at h
      split at h
      · exact (withS_all h).1
      · cases h
    · cases hc
theorem newA_all [Tab] {s s' : AS} {cs : List AV} {ty : Nat} {v : AV} (h : newA s cs ty = some (v, s')) : s' = s.new (.cells cs ty) ∧ ∀ s2 : AS, s2.n = s.n → newA s2 cs ty = some (v, s2.new (.cells cs ty)) := by
  obtain ⟨h1, rfl, rfl⟩ := newA_ok h
  refine ⟨rfl, fun s2 h2 => ?_⟩
  unfold newA at h ⊢
  rw [h2]
  cases hb : Nat.ble (Nat.succ s.n) 1000000000 with
  | false => rw [hb] at h; cases h
  | true => rfl
theorem evOp_new [Tab] {P : Program} {call : Nat → List AV → AS → Option (AV × AS)} {o : Oper} {ev : Operand → AV} {s s' : AS} {v : AV} (hc : clsO o = 2) (h : evOp P call o ev s = some (v, s')) : ∃ c, c ≠ .none ∧ s' = s.new c ∧ ∀ s2 : AS, s2.n = s.n → evOp P call o ev s2 = some (v, s2.new c) := by
  obtain ⟨dst, op, type, pos, after, guard⟩ := o
  cases op <;> try (cases hc; done)
  case alloc t =>
    replace h : allocA P t s = some (v, s') := h
    show ∃ c, c ≠ .none ∧ s' = s.new c ∧ ∀ s2 : AS, s2.n = s.n → allocA P t s2 = some (v, s2.new c)
    unfold allocA at h ⊢
    split at h
    · rename_i cs hz
      obtain ⟨h1, h2⟩ := newA_all h
      exact ⟨_, (by intro e; cases e), h1, h2⟩
    · cases h
  case box t x =>
    replace h : boxA t (ev x) s = some (v, s') := h
    show ∃ c, c ≠ .none ∧ s' = s.new c ∧ ∀ s2 : AS, s2.n = s.n → boxA t (ev x) s2 = some (v, s2.new c)
    unfold boxA at h ⊢
    split at h
    · rename_i cs hz
      obtain ⟨h1, h2⟩ := newA_all h
      exact ⟨_, (by intro e; cases e), h1, h2⟩
    · cases h
  case buildSlice t len ps =>
    replace h : buildSliceA P t len (ps.toList.map fun p => (p.1, ev p.2)) s = some (v, s') := h
    show ∃ c, c ≠ .none ∧ s' = s.new c ∧ ∀ s2 : AS, s2.n = s.n → buildSliceA P t len (ps.toList.map fun p => (p.1, ev p.2)) s2 = some (v, s2.new c)
    unfold buildSliceA at h ⊢
    split at h
    · split at h
      · rename_i ie hie
        split at h
        · rename_i zs hz
          cases h1 : Nat.beq zs.length ie.size with
          | false => rw [h1] at h; cases h
          | true =>
          cases h2 : Nat.ble (Nat.mul len ie.size) 16777216 with
          | false => rw [h1, h2] at h; cases h
          | true =>
          cases h3 : Nat.ble 1 ie.size with
          | false => rw [h1, h2, h3] at h; cases h
          | true =>
            rw [h1, h2, h3] at h
            simp only [cond_true] at h ⊢
            split at h
            · rename_i cs hf
              split at h
              · rename_i b q s'' hn
                injection h with h
                injection h with e1 e2
                subst e1
                subst e2
                obtain ⟨g1, g2⟩ := newA_all hn
                exact ⟨_, (by intro e; cases e), g1, fun s2 hs => by rw [g2 s2 hs]⟩
              · cases h
            · cases h
        · cases h
      · cases h
    · cases h
  case makeSlice t l c =>
    replace h : makeSliceA P t (ev l) (ev c) s = some (v, s') := h
    show ∃ c', c' ≠ .none ∧ s' = s.new c' ∧ ∀ s2 : AS, s2.n = s.n → makeSliceA P t (ev l) (ev c) s2 = some (v, s2.new c')
    unfold makeSliceA at h ⊢
    split at h
    · rename_i kl n kc m e1 e2
      split at h
      · rename_i e hu
        split at h
        · rename_i ie hie
          split at h
          · rename_i zs hz
            cases h1 : Nat.beq zs.length ie.size with
            | false => rw [h1] at h; cases h
            | true =>
            cases h2 : Nat.ble n m with
            | false => rw [h1, h2] at h; cases h
            | true =>
            cases h3 : Nat.ble m 1000000 with
            | false => rw [h1, h2, h3] at h; cases h
            | true =>
            cases h4 : Nat.ble (Nat.mul ie.bytes m) 281474976710656 with
            | false => rw [h1, h2, h3, h4] at h; cases h
            | true =>
            cases h5 : Nat.ble 1 ie.size with
            | false => rw [h1, h2, h3, h4, h5] at h; cases h
            | true =>
              rw [h1, h2, h3, h4, h5] at h
              simp only [cond_true] at h ⊢
              cases hbig : bigA zs n m with
              | true =>
                rw [hbig] at h
                simp only [cond_true] at h ⊢
                cases h6 : Nat.ble (Nat.succ s.n) 1000000000 with
                | false => rw [h6] at h; cases h
                | true =>
                  rw [h6] at h
                  injection h with h
                  injection h with e1 e2
                  subst e1
                  subst e2
                  exact ⟨_, (by intro e; cases e), rfl, fun s2 hs => by rw [hs, h6]; rfl⟩
              | false =>
                rw [hbig] at h
                simp only [cond_false] at h ⊢
                split at h
                · rename_i b q s'' hn
                  injection h with h
                  injection h with e1 e2
                  subst e1
                  subst e2
                  obtain ⟨g1, g2⟩ := newA_all hn
                  exact ⟨_, (by intro e; cases e), g1, fun s2 hs => by rw [g2 s2 hs]⟩
                · cases h
          · cases h
        · cases h
      · cases h
    · cases h
  case makeMap t r =>
    cases r with
    | some _ => cases h
    | none =>
      replace h : makeMapA s = some (v, s') := h
      show ∃ c, c ≠ .none ∧ s' = s.new c ∧ ∀ s2 : AS, s2.n = s.n → makeMapA s2 = some (v, s2.new c)
      unfold makeMapA at h ⊢
      cases hb : Nat.ble (Nat.succ s.n) 1000000000 with
      | false => rw [hb] at h; cases h
      | true =>
        rw [hb] at h
        injection h with h
        injection h with e1 e2
        subst e1
        subst e2
        exact ⟨_, (by intro e; cases e), rfl, fun s2 hs => by rw [hs, hb]; rfl⟩
  case call c =>
    unfold clsO at hc
    dsimp only at hc
    split at hc <;> cases hc
/-- A conversion: it reads, or it makes a block. -/
noncomputable def isConv (o : Oper) : Bool := match o.op with
  | .convert _ _ _ => true
  | _ => false
theorem evOp_conv [Tab] {P : Program} {call : Nat → List AV → AS → Option (AV × AS)} {o : Oper} {ev : Operand → AV} {s s' : AS} {v : AV} (hc : isConv o = true) (h : evOp P call o ev s = some (v, s')) (hn : s'.n = s.n + 1) : ∃ c, c ≠ .none ∧ s' = s.new c ∧ ∀ s2 : AS, s2.n = s.n → evOp P call o ev s2 = some (v, s2.new c) := by
  obtain ⟨dst, op, type, pos, after, guard⟩ := o
  cases op <;> try (cases hc; done)
  rename_i a b x
  replace h : convA P a b (ev x) s = some (v, s') := h
  show ∃ c, c ≠ .none ∧ s' = s.new c ∧ ∀ s2 : AS, s2.n = s.n → convA P a b (ev x) s2 = some (v, s2.new c)
  have no : ∀ {u : AV}, (some (u, s) : Option (AV × AS)) = some (v, s') → False := fun e => by
    injection e with e
    injection e with e1 e2
    subst e2
    omega
  unfold convA at h ⊢
  split at h
  · cases h
  · split at h
    · split at h
      · exact (no h).elim
      · split at h
        · exact (no (cond_some h)).elim
        · cases h
      · cases h
    · exfalso
      repeat' (first | (split at h) | (cases h; done) | exact no h | (have h := cond_some h))
    · split at h
      · split at h
        · split at h
          · split at h
            · rename_i c q s'' hq
              injection h with h
              injection h with e1 e2
              subst e1
              subst e2
              obtain ⟨g1, g2⟩ := newA_all hq
              exact ⟨_, (by intro e; cases e), g1, fun s2 hs => by simp only [g2 s2 hs]⟩
            · cases h
          · cases h
        · cases h
      · cases h
    · cases h
/-- A region's state: slots; memory; blocks made and not yet seen by anything that acts; memory as it stood ahead of what has acted; what has been read. -/
structure DS where
  t : Nat → AV
  g : AS
  x : Nat → AB
  hist : Nat → AS → Prop
  rds : Nat → AS → Prop
  st : Nat → Nat → Prop
noncomputable def addS (h : Nat → Nat → Prop) (i b : Nat) : Nat → Nat → Prop := fun e c => h e c ∨ (e = i ∧ c = b)
noncomputable def updT (f : Nat → AV) (d : Option Nat) (v : AV) : Nat → AV := fun k => if d = some k then v else f k
noncomputable def addH (h : Nat → AS → Prop) (i : Nat) (g : AS) : Nat → AS → Prop := fun e s => h e s ∨ (e = i ∧ s = g)
noncomputable def addR (h : Nat → AS → Prop) (i : Nat) (c : AS → Prop) : Nat → AS → Prop := fun e s => h e s ∧ (e = i → c s)
noncomputable def updF {α : Type} (f : Nat → α) (i : Nat) (v : α) : Nat → α := fun k => if k = i then v else f k
/-- Blocks laid. -/
noncomputable def preA (base : Nat) (p : Nat → Bool) (x : Nat → AB) : Nat → AS → AS
  | 0, g => g
  | k + 1, g => match p k with
    | false => preA base p x k g
    | true => match x k with
      | .none => preA base p x k g
      | c => (preA base p x k g).put (Nat.add base k) c
theorem preA_n [Tab] (base : Nat) (p : Nat → Bool) (x : Nat → AB) (g : AS) : ∀ k, (preA base p x k g).n = g.n
  | 0 => rfl
  | k + 1 => by
    unfold preA
    split
    · exact preA_n base p x g k
    · split
      · exact preA_n base p x g k
      · exact preA_n base p x g k
theorem preA_out [Tab] (base : Nat) (p : Nat → Bool) (x : Nat → AB) (g : AS) {b : Nat} : ∀ k, (∀ j, j < k → b = base + j → p j = false ∨ x j = .none) → (preA base p x k g).get b = g.get b
  | 0, _ => rfl
  | k + 1, h => by
    have ih := preA_out base p x g k fun j hj => h j (Nat.lt_succ_of_lt hj)
    unfold preA
    split
    · exact ih
    · rename_i hp
      split
      · exact ih
      · rename_i hne
        by_cases e : b = base + k
        · rcases h k (Nat.lt_succ_self _) e with h1 | h1
          · rw [hp] at h1; cases h1
          · exact absurd h1 hne
        · exact ((preA base p x k g).get_put_ne (base + k) _ b e).trans ih
theorem preA_in [Tab] (base : Nat) (p : Nat → Bool) (x : Nat → AB) (g : AS) {j : Nat} : ∀ k, j < k → p j = true → x j ≠ .none → base + j < 1000000000 → (preA base p x k g).get (base + j) = x j
  | 0, h, _, _, _ => absurd h (Nat.not_lt_zero _)
  | k + 1, h, hp, hx, hl => by
    by_cases e : j = k
    · subst e
      unfold preA
      rw [hp]
      dsimp only
      split
      · rename_i h0; exact absurd h0 hx
      · exact (preA base p x j g).get_put (base + j) _ hl
    · have ih := preA_in base p x g k (by omega) hp hx hl
      unfold preA
      split
      · exact ih
      · split
        · exact ih
        · exact ((preA base p x k g).get_put_ne (base + k) _ _ (by omega)).trans ih
theorem preA_congr [Tab] {base : Nat} {p p' : Nat → Bool} {x x' : Nat → AB} {g : AS} : ∀ k, (∀ j, j < k → p j = p' j ∧ (p j = true → x j = x' j)) → preA base p x k g = preA base p' x' k g
  | 0, _ => rfl
  | k + 1, h => by
    have ih := preA_congr (base := base) (g := g) k fun j hj => h j (Nat.lt_succ_of_lt hj)
    obtain ⟨h1, h2⟩ := h k (Nat.lt_succ_self _)
    unfold preA
    rw [← h1, ih]
    split
    · rfl
    · rename_i hp
      rw [h2 hp]
/-- One operation. -/
noncomputable def StepD (P : Program) (call : Nat → List AV → AS → Option (AV × AS)) (nt : Nat) (ops : Array Oper) (base : Nat) (anc : Nat → Nat → Bool) (sB : Nat → Bool) (i : Nat) (d d' : DS) : Prop :=
  ∃ o, ops[i]? = some o ∧ (∀ k, o.dst = some k → k < nt) ∧
  ((wantF ops o d.t = some false ∧ d' = { d with t := updT d.t o.dst .undef })
  ∨ (wantF ops o d.t = some true ∧ clsO o = 0 ∧ ∃ v, (∀ s, evOp P call o (oevF d.t) s = some (v, s)) ∧ d' = { d with t := updT d.t o.dst v })
  ∨ (wantF ops o d.t = some true ∧ clsO o = 1 ∧ ∃ v, evOp P call o (oevF d.t) d.g = some (v, d.g) ∧ (∀ e gb, d.hist e gb → anc e i = false → evOp P call o (oevF d.t) gb = some (v, gb)) ∧
      d' = { d with t := updT d.t o.dst v, rds := addR d.rds i fun s => evOp P call o (oevF d.t) s = some (v, s) })
  ∨ (wantF ops o d.t = some true ∧ (clsO o = 2 ∨ isConv o = true) ∧ ∃ v c, c ≠ .none ∧ (∀ s : AS, s.n = base + i → evOp P call o (oevF d.t) s = some (v, s.new c)) ∧ d' = { d with t := updT d.t o.dst v, x := updF d.x i c })
  ∨ (wantF ops o d.t = some true ∧ clsO o = 3 ∧ sB i = false ∧ ∃ v g', evOp P call o (oevF d.t) (preA base (fun k => anc k i) d.x ops.size d.g) = some (v, g') ∧ (∀ r, anc r i = false → d.rds r g') ∧
      d' = { t := updT d.t o.dst v, g := g', x := fun k => if anc k i = true then .none else d.x k, hist := addH d.hist i d.g, rds := d.rds, st := d.st })
  ∨ (wantF ops o d.t = some true ∧ sB i = true ∧ ∃ b y, d.g.get b ≠ .none ∧ (∀ s : AS, s.get b = d.g.get b → evOp P call o (oevF d.t) s = some (.undef, s.put b y)) ∧ (∀ p c, d.st p c → anc p i = false → c ≠ b) ∧
      d' = { d with t := updT d.t o.dst .undef, g := d.g.put b y, st := addS d.st i b }))
theorem updT_comm {f : Nat → AV} {d e : Option Nat} {u v : AV} (h : ∀ k, d = some k → e ≠ some k) : updT (updT f d u) e v = updT (updT f e v) d u := by
  funext k
  unfold updT
  by_cases h1 : d = some k
  · rw [if_neg (h k h1), if_pos h1, if_pos h1]
  · rw [if_neg h1, if_neg h1]
theorem updF_comm {α : Type} {f : Nat → α} {i j : Nat} {u v : α} (h : i ≠ j) : updF (updF f i u) j v = updF (updF f j v) i u := by
  funext k
  unfold updF
  by_cases h1 : k = i
  · subst h1; rw [if_neg h, if_pos rfl, if_pos rfl]
  · rw [if_neg h1, if_neg h1]
/-- Two that are apart, and of which one at most acts, may change places. -/
theorem StepD.swap [Tab] {P : Program} {call : Nat → List AV → AS → Option (AV × AS)} {nt : Nat} {ops : Array Oper} {base : Nat} {anc : Nat → Nat → Bool} {sB : Nat → Bool} {p i : Nat} {op oi : Oper} {d d1 d2 : DS} (hop : ops[p]? = some op) (hoi : ops[i]? = some oi) (hpi : p ≠ i) (h1 : anc p i = false) (h2 : anc i p = false) (hap : op.apart ops oi = true) (hne : clsO op ≠ 3 ∨ clsO oi ≠ 3 ∨ (sB p = true ∧ sB i = true)) (hp1 : sB p = true → clsO oi ≠ 1) (hi1 : sB i = true → clsO op ≠ 1) (hs3 : ∀ j o, ops[j]? = some o → sB j = true → clsO o = 3)
    (hp : StepD P call nt ops base anc sB p d d1) (hi : StepD P call nt ops base anc sB i d1 d2) : ∃ d1', StepD P call nt ops base anc sB i d d1' ∧ StepD P call nt ops base anc sB p d1' d2 := by
  obtain ⟨a1, a2, a3⟩ := Oper.apart_spec hap
  obtain ⟨op', hop', hdp, hp⟩ := hp
  obtain ⟨oi', hoi', hdi, hi⟩ := hi
  rw [hop] at hop'
  injection hop' with hop'
  subst hop'
  rw [hoi] at hoi'
  injection hoi' with hoi'
  subst hoi'
  have ei : ∀ (v : AV), evOp P call oi (oevF (updT d.t op.dst v)) = evOp P call oi (oevF d.t) := fun v => evOp_congr (ops := ops) fun k hk => if_neg fun e => a1 k e hk
  have ep : ∀ (v : AV), evOp P call op (oevF (updT d.t oi.dst v)) = evOp P call op (oevF d.t) := fun v => evOp_congr (ops := ops) fun k hk => if_neg fun e => a3 k e hk
  have wi : ∀ (v : AV), wantF ops oi (updT d.t op.dst v) = wantF ops oi d.t := fun v => wantF_congr fun k hk => if_neg fun e => a1 k e hk
  have wp : ∀ (v : AV), wantF ops op (updT d.t oi.dst v) = wantF ops op d.t := fun v => wantF_congr fun k hk => if_neg fun e => a3 k e hk
  have hc : ∀ (u v : AV), updT (updT d.t op.dst u) oi.dst v = updT (updT d.t oi.dst v) op.dst u := fun u v => updT_comm a2
  rcases hp with ⟨hwp, rfl⟩ | ⟨hwp, cp, u, hu, rfl⟩ | ⟨hwp, cp, u, hu, hh, rfl⟩ | ⟨hwp, cp, u, cb, hc1, hu, rfl⟩ | ⟨hwp, cp, np, u, g1, hu, hr, rfl⟩ | ⟨hwp, np, b, y, hb0, hu, hs, rfl⟩
  · rcases hi with ⟨hwi, rfl⟩ | ⟨hwi, ci, v, hv, rfl⟩ | ⟨hwi, ci, v, hv, hhi, rfl⟩ | ⟨hwi, ci, v, c2, hc2, hv, rfl⟩ | ⟨hwi, ci, ni, v, g2, hv, hri, rfl⟩ | ⟨hwi, ni, c, z, hc0, hv, hsi, rfl⟩
    · dsimp only at hwi
      rw [wi] at hwi
      exact ⟨_, ⟨oi, hoi, hdi, .inl ⟨hwi, rfl⟩⟩, ⟨op, hop, hdp, .inl ⟨(by rw [wp]; exact hwp), (by simp only [hc, ei, ep])⟩⟩⟩
    · dsimp only at hwi hv
      rw [wi] at hwi
      simp only [ei] at hv
      exact ⟨_, ⟨oi, hoi, hdi, .inr (.inl ⟨hwi, ci, v, hv, rfl⟩)⟩, ⟨op, hop, hdp, .inl ⟨(by rw [wp]; exact hwp), (by simp only [hc, ei, ep])⟩⟩⟩
    · dsimp only at hwi hv hhi
      rw [wi] at hwi
      simp only [ei] at hv
      simp only [ei] at hhi
      exact ⟨_, ⟨oi, hoi, hdi, .inr (.inr (.inl ⟨hwi, ci, v, hv, hhi, rfl⟩))⟩, ⟨op, hop, hdp, .inl ⟨(by rw [wp]; exact hwp), (by simp only [hc, ei, ep])⟩⟩⟩
    · dsimp only at hwi hv
      rw [wi] at hwi
      simp only [ei] at hv
      exact ⟨_, ⟨oi, hoi, hdi, .inr (.inr (.inr (.inl ⟨hwi, ci, v, c2, hc2, hv, rfl⟩)))⟩, ⟨op, hop, hdp, .inl ⟨(by rw [wp]; exact hwp), (by simp only [hc, ei, ep])⟩⟩⟩
    · dsimp only at hwi hv hri
      rw [wi] at hwi
      simp only [ei] at hv
      exact ⟨_, ⟨oi, hoi, hdi, .inr (.inr (.inr (.inr (.inl ⟨hwi, ci, ni, v, g2, hv, hri, rfl⟩))))⟩, ⟨op, hop, hdp, .inl ⟨(by rw [wp]; exact hwp), (by simp only [hc, ei, ep])⟩⟩⟩
    · dsimp only at hwi hv
      rw [wi] at hwi
      simp only [ei] at hv
      exact ⟨_, ⟨oi, hoi, hdi, .inr (.inr (.inr (.inr (.inr ⟨hwi, ni, c, z, hc0, hv, hsi, rfl⟩))))⟩, ⟨op, hop, hdp, .inl ⟨(by rw [wp]; exact hwp), (by simp only [hc, ei, ep])⟩⟩⟩
  · rcases hi with ⟨hwi, rfl⟩ | ⟨hwi, ci, v, hv, rfl⟩ | ⟨hwi, ci, v, hv, hhi, rfl⟩ | ⟨hwi, ci, v, c2, hc2, hv, rfl⟩ | ⟨hwi, ci, ni, v, g2, hv, hri, rfl⟩ | ⟨hwi, ni, c, z, hc0, hv, hsi, rfl⟩
    · dsimp only at hwi
      rw [wi] at hwi
      exact ⟨_, ⟨oi, hoi, hdi, .inl ⟨hwi, rfl⟩⟩, ⟨op, hop, hdp, .inr (.inl ⟨(by rw [wp]; exact hwp), cp, u, (by simp only [ep]; exact hu), (by simp only [hc, ei, ep])⟩)⟩⟩
    · dsimp only at hwi hv
      rw [wi] at hwi
      simp only [ei] at hv
      exact ⟨_, ⟨oi, hoi, hdi, .inr (.inl ⟨hwi, ci, v, hv, rfl⟩)⟩, ⟨op, hop, hdp, .inr (.inl ⟨(by rw [wp]; exact hwp), cp, u, (by simp only [ep]; exact hu), (by simp only [hc, ei, ep])⟩)⟩⟩
    · dsimp only at hwi hv hhi
      rw [wi] at hwi
      simp only [ei] at hv
      simp only [ei] at hhi
      exact ⟨_, ⟨oi, hoi, hdi, .inr (.inr (.inl ⟨hwi, ci, v, hv, hhi, rfl⟩))⟩, ⟨op, hop, hdp, .inr (.inl ⟨(by rw [wp]; exact hwp), cp, u, (by simp only [ep]; exact hu), (by simp only [hc, ei, ep])⟩)⟩⟩
    · dsimp only at hwi hv
      rw [wi] at hwi
      simp only [ei] at hv
      exact ⟨_, ⟨oi, hoi, hdi, .inr (.inr (.inr (.inl ⟨hwi, ci, v, c2, hc2, hv, rfl⟩)))⟩, ⟨op, hop, hdp, .inr (.inl ⟨(by rw [wp]; exact hwp), cp, u, (by simp only [ep]; exact hu), (by simp only [hc, ei, ep])⟩)⟩⟩
    · dsimp only at hwi hv hri
      rw [wi] at hwi
      simp only [ei] at hv
      exact ⟨_, ⟨oi, hoi, hdi, .inr (.inr (.inr (.inr (.inl ⟨hwi, ci, ni, v, g2, hv, hri, rfl⟩))))⟩, ⟨op, hop, hdp, .inr (.inl ⟨(by rw [wp]; exact hwp), cp, u, (by simp only [ep]; exact hu), (by simp only [hc, ei, ep])⟩)⟩⟩
    · dsimp only at hwi hv
      rw [wi] at hwi
      simp only [ei] at hv
      exact ⟨_, ⟨oi, hoi, hdi, .inr (.inr (.inr (.inr (.inr ⟨hwi, ni, c, z, hc0, hv, hsi, rfl⟩))))⟩, ⟨op, hop, hdp, .inr (.inl ⟨(by rw [wp]; exact hwp), cp, u, (by simp only [ep]; exact hu), (by simp only [hc, ei, ep])⟩)⟩⟩
  · rcases hi with ⟨hwi, rfl⟩ | ⟨hwi, ci, v, hv, rfl⟩ | ⟨hwi, ci, v, hv, hhi, rfl⟩ | ⟨hwi, ci, v, c2, hc2, hv, rfl⟩ | ⟨hwi, ci, ni, v, g2, hv, hri, rfl⟩ | ⟨hwi, ni, c, z, hc0, hv, hsi, rfl⟩
    · dsimp only at hwi
      rw [wi] at hwi
      exact ⟨_, ⟨oi, hoi, hdi, .inl ⟨hwi, rfl⟩⟩, ⟨op, hop, hdp, .inr (.inr (.inl ⟨(by rw [wp]; exact hwp), cp, u, (by simp only [ep]; exact hu), (by simp only [ep]; exact hh), (by simp only [hc, ei, ep])⟩))⟩⟩
    · dsimp only at hwi hv
      rw [wi] at hwi
      simp only [ei] at hv
      exact ⟨_, ⟨oi, hoi, hdi, .inr (.inl ⟨hwi, ci, v, hv, rfl⟩)⟩, ⟨op, hop, hdp, .inr (.inr (.inl ⟨(by rw [wp]; exact hwp), cp, u, (by simp only [ep]; exact hu), (by simp only [ep]; exact hh), (by simp only [hc, ei, ep])⟩))⟩⟩
    · dsimp only at hwi hv hhi
      rw [wi] at hwi
      simp only [ei] at hv
      simp only [ei] at hhi
      have hx : ∀ (A B : AS → Prop), addR (addR d.rds p A) i B = addR (addR d.rds i B) p A := fun A B => by
        funext e z
        unfold addR
        exact propext ⟨fun h => ⟨⟨h.1.1, h.2⟩, h.1.2⟩, fun h => ⟨⟨h.1.1, h.2⟩, h.1.2⟩⟩
      exact ⟨_, ⟨oi, hoi, hdi, .inr (.inr (.inl ⟨hwi, ci, v, hv, hhi, rfl⟩))⟩, ⟨op, hop, hdp, .inr (.inr (.inl ⟨(by rw [wp]; exact hwp), cp, u, (by simp only [ep]; exact hu), (by simp only [ep]; exact hh), (by simp only [hc, ei, ep, hx])⟩))⟩⟩
    · dsimp only at hwi hv
      rw [wi] at hwi
      simp only [ei] at hv
      exact ⟨_, ⟨oi, hoi, hdi, .inr (.inr (.inr (.inl ⟨hwi, ci, v, c2, hc2, hv, rfl⟩)))⟩, ⟨op, hop, hdp, .inr (.inr (.inl ⟨(by rw [wp]; exact hwp), cp, u, (by simp only [ep]; exact hu), (by simp only [ep]; exact hh), (by simp only [hc, ei, ep])⟩))⟩⟩
    · dsimp only at hwi hv hri
      rw [wi] at hwi
      simp only [ei] at hv
      have hu2 := (hri p h1).2 rfl
      have hx : (fun s => d.rds s) = d.rds := rfl
      exact ⟨_, ⟨oi, hoi, hdi, .inr (.inr (.inr (.inr (.inl ⟨hwi, ci, ni, v, g2, hv, fun r hr2 => (hri r hr2).1, rfl⟩))))⟩, ⟨op, hop, hdp, .inr (.inr (.inl ⟨(by rw [wp]; exact hwp), cp, u, (by simp only [ep]; exact hu2), (fun e gb he ha => by
          simp only [ep]
          rcases he with he | ⟨rfl, rfl⟩
          · exact hh e gb he ha
          · exact hu), (by simp only [hc, ei, ep])⟩))⟩⟩
    · exact absurd cp (hi1 ni)
  · rcases hi with ⟨hwi, rfl⟩ | ⟨hwi, ci, v, hv, rfl⟩ | ⟨hwi, ci, v, hv, hhi, rfl⟩ | ⟨hwi, ci, v, c2, hc2, hv, rfl⟩ | ⟨hwi, ci, ni, v, g2, hv, hri, rfl⟩ | ⟨hwi, ni, c, z, hc0, hv, hsi, rfl⟩
    · dsimp only at hwi
      rw [wi] at hwi
      exact ⟨_, ⟨oi, hoi, hdi, .inl ⟨hwi, rfl⟩⟩, ⟨op, hop, hdp, .inr (.inr (.inr (.inl ⟨(by rw [wp]; exact hwp), cp, u, cb, hc1, (by simp only [ep]; exact hu), (by simp only [hc, ei, ep])⟩)))⟩⟩
    · dsimp only at hwi hv
      rw [wi] at hwi
      simp only [ei] at hv
      exact ⟨_, ⟨oi, hoi, hdi, .inr (.inl ⟨hwi, ci, v, hv, rfl⟩)⟩, ⟨op, hop, hdp, .inr (.inr (.inr (.inl ⟨(by rw [wp]; exact hwp), cp, u, cb, hc1, (by simp only [ep]; exact hu), (by simp only [hc, ei, ep])⟩)))⟩⟩
    · dsimp only at hwi hv hhi
      rw [wi] at hwi
      simp only [ei] at hv
      simp only [ei] at hhi
      exact ⟨_, ⟨oi, hoi, hdi, .inr (.inr (.inl ⟨hwi, ci, v, hv, hhi, rfl⟩))⟩, ⟨op, hop, hdp, .inr (.inr (.inr (.inl ⟨(by rw [wp]; exact hwp), cp, u, cb, hc1, (by simp only [ep]; exact hu), (by simp only [hc, ei, ep])⟩)))⟩⟩
    · dsimp only at hwi hv
      rw [wi] at hwi
      simp only [ei] at hv
      exact ⟨_, ⟨oi, hoi, hdi, .inr (.inr (.inr (.inl ⟨hwi, ci, v, c2, hc2, hv, rfl⟩)))⟩, ⟨op, hop, hdp, .inr (.inr (.inr (.inl ⟨(by rw [wp]; exact hwp), cp, u, cb, hc1, (by simp only [ep]; exact hu), (by simp only [hc, ei, ep, updF_comm hpi])⟩)))⟩⟩
    · dsimp only at hwi hv hri
      rw [wi] at hwi
      simp only [ei] at hv
      rw [preA_congr (base := base) (g := d.g) (p := fun k => anc k i) (x := updF d.x p cb) (x' := d.x) (p' := fun k => anc k i) ops.size (fun j hj => ⟨rfl, fun hj2 => show (if j = p then cb else d.x j) = d.x j from if_neg fun e => by rw [e, h1] at hj2; cases hj2⟩)] at hv
      have hx : (fun k => if anc k i = true then AB.none else updF d.x p cb k) = updF (fun k => if anc k i = true then AB.none else d.x k) p cb := by
        funext k
        unfold updF
        by_cases e : k = p
        · subst e; rw [if_pos rfl, if_pos rfl, if_neg (by rw [h1]; intro e; cases e)]
        · rw [if_neg e, if_neg e]
      exact ⟨_, ⟨oi, hoi, hdi, .inr (.inr (.inr (.inr (.inl ⟨hwi, ci, ni, v, g2, hv, hri, rfl⟩))))⟩, ⟨op, hop, hdp, .inr (.inr (.inr (.inl ⟨(by rw [wp]; exact hwp), cp, u, cb, hc1, (by simp only [ep]; exact hu), (by simp only [hc, ei, ep, hx])⟩)))⟩⟩
    · dsimp only at hwi hv
      rw [wi] at hwi
      simp only [ei] at hv
      exact ⟨_, ⟨oi, hoi, hdi, .inr (.inr (.inr (.inr (.inr ⟨hwi, ni, c, z, hc0, hv, hsi, rfl⟩))))⟩, ⟨op, hop, hdp, .inr (.inr (.inr (.inl ⟨(by rw [wp]; exact hwp), cp, u, cb, hc1, (by simp only [ep]; exact hu), (by simp only [hc, ei, ep])⟩)))⟩⟩
  · rcases hi with ⟨hwi, rfl⟩ | ⟨hwi, ci, v, hv, rfl⟩ | ⟨hwi, ci, v, hv, hhi, rfl⟩ | ⟨hwi, ci, v, c2, hc2, hv, rfl⟩ | ⟨hwi, ci, ni, v, g2, hv, hri, rfl⟩ | ⟨hwi, ni, c, z, hc0, hv, hsi, rfl⟩
    · dsimp only at hwi
      rw [wi] at hwi
      exact ⟨_, ⟨oi, hoi, hdi, .inl ⟨hwi, rfl⟩⟩, ⟨op, hop, hdp, .inr (.inr (.inr (.inr (.inl ⟨(by rw [wp]; exact hwp), cp, np, u, g1, (by simp only [ep]; exact hu), hr, (by simp only [hc, ei, ep])⟩))))⟩⟩
    · dsimp only at hwi hv
      rw [wi] at hwi
      simp only [ei] at hv
      exact ⟨_, ⟨oi, hoi, hdi, .inr (.inl ⟨hwi, ci, v, hv, rfl⟩)⟩, ⟨op, hop, hdp, .inr (.inr (.inr (.inr (.inl ⟨(by rw [wp]; exact hwp), cp, np, u, g1, (by simp only [ep]; exact hu), hr, (by simp only [hc, ei, ep])⟩))))⟩⟩
    · dsimp only at hwi hv hhi
      rw [wi] at hwi
      simp only [ei] at hv
      simp only [ei] at hhi
      have hv0 := hhi p d.g (.inr ⟨rfl, rfl⟩) h1
      exact ⟨_, ⟨oi, hoi, hdi, .inr (.inr (.inl ⟨hwi, ci, v, hv0, fun e gb he ha => hhi e gb (.inl he) ha, rfl⟩))⟩, ⟨op, hop, hdp, .inr (.inr (.inr (.inr (.inl ⟨(by rw [wp]; exact hwp), cp, np, u, g1, (by simp only [ep]; exact hu), (fun r hr2 => ⟨hr r hr2, fun _ => hv⟩), (by simp only [hc, ei, ep])⟩))))⟩⟩
    · dsimp only at hwi hv
      rw [wi] at hwi
      simp only [ei] at hv
      have hx : updF (fun k => if anc k p = true then AB.none else d.x k) i c2 = (fun k => if anc k p = true then AB.none else updF d.x i c2 k) := by
        funext k
        unfold updF
        by_cases e : k = i
        · subst e; rw [if_pos rfl, if_pos rfl, if_neg (by rw [h2]; intro e; cases e)]
        · rw [if_neg e, if_neg e]
      exact ⟨_, ⟨oi, hoi, hdi, .inr (.inr (.inr (.inl ⟨hwi, ci, v, c2, hc2, hv, rfl⟩)))⟩, ⟨op, hop, hdp, .inr (.inr (.inr (.inr (.inl ⟨(by rw [wp]; exact hwp), cp, np, u, g1, (by simp only [ep]; rw [preA_congr (base := base) (g := d.g) (p := fun k => anc k p) (x := updF d.x i c2) (x' := d.x) (p' := fun k => anc k p) ops.size (fun j hj => ⟨rfl, fun hj2 => show (if j = i then c2 else d.x j) = d.x j from if_neg fun e => by rw [e, h2] at hj2; cases hj2⟩)]; exact hu), hr, (by simp only [hc, ei, ep, hx])⟩))))⟩⟩
    · exact hne.elim (fun h => absurd cp h) fun h => h.elim (fun h => absurd ci h) fun h => by rw [np] at h; cases h.1
    · exact hne.elim (fun h => absurd cp h) fun h => h.elim (fun h => absurd (hs3 i oi hoi ni) h) fun h => by rw [np] at h; cases h.1
  · rcases hi with ⟨hwi, rfl⟩ | ⟨hwi, ci, v, hv, rfl⟩ | ⟨hwi, ci, v, hv, hhi, rfl⟩ | ⟨hwi, ci, v, c2, hc2, hv, rfl⟩ | ⟨hwi, ci, ni, v, g2, hv, hri, rfl⟩ | ⟨hwi, ni, c, z, hc0, hv, hsi, rfl⟩
    · dsimp only at hwi
      rw [wi] at hwi
      exact ⟨_, ⟨oi, hoi, hdi, .inl ⟨hwi, rfl⟩⟩, ⟨op, hop, hdp, .inr (.inr (.inr (.inr (.inr ⟨(by rw [wp]; exact hwp), np, b, y, hb0, (by simp only [ep]; exact hu), hs, (by simp only [hc, ei, ep])⟩))))⟩⟩
    · dsimp only at hwi hv
      rw [wi] at hwi
      simp only [ei] at hv
      exact ⟨_, ⟨oi, hoi, hdi, .inr (.inl ⟨hwi, ci, v, hv, rfl⟩)⟩, ⟨op, hop, hdp, .inr (.inr (.inr (.inr (.inr ⟨(by rw [wp]; exact hwp), np, b, y, hb0, (by simp only [ep]; exact hu), hs, (by simp only [hc, ei, ep])⟩))))⟩⟩
    · exact absurd ci (hp1 np)
    · dsimp only at hwi hv
      rw [wi] at hwi
      simp only [ei] at hv
      exact ⟨_, ⟨oi, hoi, hdi, .inr (.inr (.inr (.inl ⟨hwi, ci, v, c2, hc2, hv, rfl⟩)))⟩, ⟨op, hop, hdp, .inr (.inr (.inr (.inr (.inr ⟨(by rw [wp]; exact hwp), np, b, y, hb0, (by simp only [ep]; exact hu), hs, (by simp only [hc, ei, ep])⟩))))⟩⟩
    · exact hne.elim (fun h => absurd (hs3 p op hop np) h) fun h => h.elim (fun h => absurd ci h) fun h => by rw [ni] at h; cases h.2
    · dsimp only at hwi hv
      rw [wi] at hwi
      simp only [ei] at hv
      have hbc : b ≠ c := hsi p b (.inr ⟨rfl, rfl⟩) h1
      have e1 : (d.g.put b y).get c = d.g.get c := d.g.get_put_ne b y c (Ne.symm hbc)
      rw [e1] at hc0 hv
      have e2 : (d.g.put c z).get b = d.g.get b := d.g.get_put_ne c z b hbc
      have hx : (d.g.put b y).put c z = (d.g.put c z).put b y := d.g.put_comm z y (Ne.symm hbc)
      have hz : addS (addS d.st p b) i c = addS (addS d.st i c) p b := by
        funext e q
        unfold addS
        exact propext ⟨fun h => h.elim (fun h => h.elim (fun h => .inl (.inl h)) .inr) (fun h => .inl (.inr h)), fun h => h.elim (fun h => h.elim (fun h => .inl (.inl h)) .inr) (fun h => .inl (.inr h))⟩
      exact ⟨_, ⟨oi, hoi, hdi, .inr (.inr (.inr (.inr (.inr ⟨hwi, ni, c, z, hc0, hv, fun q cc hq ha => hsi q cc (.inl hq) ha, rfl⟩))))⟩, ⟨op, hop, hdp, .inr (.inr (.inr (.inr (.inr ⟨(by rw [wp]; exact hwp), np, b, y, (by dsimp only; rw [e2]; exact hb0), (by dsimp only; simp only [ep, e2]; exact hu), (fun q cc hq ha => hq.elim (fun hq => hs q cc hq ha) (fun hq => by rw [hq.2]; exact Ne.symm hbc)), (by simp only [hc, hx, hz])⟩))))⟩⟩
end Go.Proofs.YtambgppdjlhdaaaGreatDoor
