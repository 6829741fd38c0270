/-
  The abstract machine: all operations that are no calls. No program.
-/
import Derived.Test.YtambgppdjlhdaaaGreatDoorEvI
namespace Go.Proofs.YtambgppdjlhdaaaGreatDoor
open Go.RowKit

noncomputable def ifcD : TypeDesc → Bool
  | .interface _ => true
  | _ => false
noncomputable def withS (s : AS) : Option AV → Option (AV × AS)
  | some v => some (v, s)
  | none => none
noncomputable def skipS : Option AS → Option (AV × AS)
  | some s => some (.undef, s)
  | none => none
/-- Assertions to a type that is no interface. -/
noncomputable def failA (P : Program) (b : Nat) (ok : Bool) : Option AV := cond ok (match zeroVA P b with
  | some z => some (.tup [z, .bool false])
  | none => none) none
noncomputable def assertA (P : Program) (b : Nat) (ok : Bool) (v : AV) : Option AV := match P.underlying b with
  | none => none
  | some d => cond (ifcD d) none (match v with
    | .ifc t u => cond (Nat.beq t b) (some (lookA ok u true)) (failA P b ok)
    | .nili => failA P b ok
    | _ => none)
noncomputable def opA (P : Program) (o : Op) (ev : Operand → AV) (s : AS) : Option (AV × AS) := match o with
  | .move x => some (ev x, s)
  | .assign x => some (ev x, s)
  | .pick c a b => match ev c with
    | .bool q => some (cond q (ev a) (ev b), s)
    | _ => none
  | .alloc t => allocA P t s
  | .box t x => boxA t (ev x) s
  | .build t ps => withS s (buildA P t (ps.toList.map fun p => (p.1, ev p.2)))
  | .buildSlice t n ps => buildSliceA P t n (ps.toList.map fun p => (p.1, ev p.2)) s
  | .insert t m k v => skipS (updA P t (ev m) (ev k) (ev v) s)
  | .mapUpdate t m k v => skipS (updA P t (ev m) (ev k) (ev v) s)
  | .load t a => withS s (loadA P t (ev a) s)
  | .store t a v => skipS (storeA P t (ev a) (ev v) s)
  | .nilCheck x => match ev x with
    | .ptr b q => some (.ptr b q, s)
    | .fn f cs => some (.fn f cs, s)
    | .fnm f cs => some (.fnm f cs, s)
    | _ => none
  | .binOp op t x y _ => withS s (binA P op t (isCon x || isCon y) (ev x) (ev y))
  | .unOp op _ x => withS s (unA op (ev x))
  | .convert a b x => convA P a b (ev x) s
  | .makeInterface t x => match P.underlying t with
    | some d => cond (ifcD d) none (some (.ifc t (ev x), s))
    | none => none
  | .makeFunc (.func f) first captured => match first.toList with
    | [] => some (.fn f (captured.toList.map ev), s)
    | _ => match captured.toList with
      | [] => some (.fnm f (first.toList.map ev), s)
      | _ => none
  | .makeMap _ none => makeMapA s
  | .makeSlice t l c => makeSliceA P t (ev l) (ev c) s
  | .slice t x lo hi mx => withS s (sliceA P t (ev x) (lo.map ev) (hi.map ev) (mx.map ev))
  | .fieldAddr t x f => withS s (fieldAddrA P t f (ev x))
  | .field t x f => withS s (fieldA P t f (ev x))
  | .indexAddr t x i => withS s (indexAddrA P t (ev x) (ev i))
  | .index t x i => withS s (indexA P t (ev x) (ev i))
  | .lookup t x i ok => withS s (lookupA P t (ev x) (ev i) ok s)
  | .extract x i => withS s (extractA (ev x) i)
  | .range t x => rangeA P t (ev x) s
  | .entry x => withS s (entryA (ev x) s)
  | .typeAssert x _ b ok => withS s (assertA P b ok (ev x))
  | _ => none
/-- An operation of the model does what the abstract one does. -/
noncomputable def Ran2 [Tab] (P : Program) (m : Sem Next) (w : World) (E : AEnv) (s : AS) (v : AV) (s' : AS) : Prop :=
  ∃ n x w' E', m.run P w = .ok n w' ∧ (n = .value x ∨ (n = .skip ∧ x = undef)) ∧ VR E' v x ∧ HR E' s'.get w' ∧ Stp E s.get w E' s'.get w' ∧ Grow E s.n E' s'.n
theorem Ran.two [Tab] {P : Program} {m : Sem Value} {w : World} {E : AEnv} {s s' : AS} {v : AV} (h : Ran P m w E s v s') : Ran2 P (do pure (.value (← m))) w E s v s' := by
  obtain ⟨x, w', E', h1, h2, h3, h4, h5⟩ := h
  exact ⟨.value x, x, w', E', by simp [h1], .inl rfl, h2, h3, h4, h5⟩
theorem Ran2.val [Tab] {P : Program} {w : World} {E : AEnv} {s : AS} {v : AV} {x : Value} (h : HR E s.get w) (hv : VR E v x) : Ran2 P (pure (.value x)) w E s v s := ⟨.value x, x, w, E, rfl, .inl rfl, hv, h, Stp.refl E s.get w, Grow.refl E s.n⟩
theorem Ran2.with [Tab] {P : Program} {m : Sem Value} {w : World} {E : AEnv} {s s' : AS} {v : AV} {r : Option AV} (h : HR E s.get w) (he : withS s r = some (v, s')) (hm : ∀ u, r = some u → ∃ z, m.run P w = .ok z w ∧ VR E u z) : Ran2 P (do pure (.value (← m))) w E s v s' := by
  cases r with
  | none => cases he
  | some u =>
    injection he with he
    injection he with e1 e2
    subst e1
    subst e2
    obtain ⟨z, h1, h2⟩ := hm u rfl
    exact (Ran.same h h1 h2).two
theorem Ran2.skp [Tab] {P : Program} {m : Sem Unit} {w : World} {E : AEnv} {s s' : AS} {v : AV} {r : Option AS} (he : skipS r = some (v, s')) (hm : ∀ s2, r = some s2 → ∃ w', m.run P w = .ok () w' ∧ HR E s2.get w' ∧ Stp E s.get w E s2.get w' ∧ s2.n = s.n) : Ran2 P (do m; pure .skip) w E s v s' := by
  cases r with
  | none => cases he
  | some u =>
    injection he with he
    injection he with e1 e2
    subst e1
    subst e2
    obtain ⟨w', h1, h2, h3, h4⟩ := hm u rfl
    exact ⟨.skip, undef, w', E, by simp [h1], .inr ⟨rfl, rfl⟩, .undef, h2, h3, by rw [h4]; exact Grow.refl E s.n⟩
theorem parts_PL {E : AEnv} {ev : Operand → AV} {ρ : Operand → Value} (hρ : ∀ x, VR E (ev x) (ρ x)) (ps : Array (Nat × Operand)) : PL E (ps.toList.map fun p => (p.1, ev p.2)) (ps.map fun (i, x) => (i, ρ x)).toList := by
  rw [Array.toList_map]
  refine ⟨by simp, by simp, fun i c v h1 h2 => ?_⟩
  simp only [List.map_map, List.getElem?_map] at h1 h2
  cases hi : ps.toList[i]? with
  | none => rw [hi] at h1; cases h1
  | some p =>
    rw [hi] at h1 h2
    injection h1 with h1
    injection h2 with h2
    subst h1
    subst h2
    exact hρ p.2
theorem map_OR {E : AEnv} {ev : Operand → AV} {ρ : Operand → Value} (hρ : ∀ x, VR E (ev x) (ρ x)) (o : Option Operand) : OR E (o.map ev) (o.map ρ) := by
  cases o with
  | none => trivial
  | some x => exact hρ x
theorem map_VL {E : AEnv} {ev : Operand → AV} {ρ : Operand → Value} (hρ : ∀ x, VR E (ev x) (ρ x)) (l : Array Operand) : VL E (l.toList.map ev) (l.map ρ).toList := by
  rw [Array.toList_map]
  refine ⟨by simp, fun i c v h1 h2 => ?_⟩
  rw [List.getElem?_map] at h1 h2
  cases hi : l.toList[i]? with
  | none => rw [hi] at h1; cases h1
  | some p =>
    rw [hi] at h1 h2
    injection h1 with h1
    injection h2 with h2
    subst h1
    subst h2
    exact hρ p
theorem two_VR [Tab] {E : AEnv} {a : AV} {x : Value} {b : Bool} (h : VR E a x) : VR E (.tup [a, .bool b]) (.tuple #[x, .bool b]) := (VL.cons h (VL.cons (.bool b) VL.nil)).tup (a := #[x, .bool b])
theorem assertA_ok [Tab] {P : Program} {xt b : Nat} {ok : Bool} {v u : AV} {x : Value} {E : AEnv} {w : World} (hx : VR E v x) (he : assertA P b ok v = some u) : ∃ z, (Instr.typeAssert x xt b ok).run P w = .ok z w ∧ VR E u z := by
  have fails : ∀ {u : AV}, failA P b ok = some u → ok = true ∧ ∃ z, (zeroValue b).run P w = .ok z w ∧ VR E u (.tuple #[z, .bool false]) := by
    intro u hf
    unfold failA at hf
    cases ok with
    | false => cases hf
    | true =>
      simp only [cond_true] at hf
      split at hf
      · rename_i z hz
        injection hf with hf
        subst hf
        obtain ⟨z', h1, h2⟩ := zeroVA_ok hz
        exact ⟨rfl, z', h1 w, two_VR (h2 E)⟩
      · cases hf
  unfold assertA at he
  split at he
  · cases he
  · rename_i d hd
    cases hid : ifcD d with
    | true => rw [hid] at he; cases he
    | false =>
      rw [hid] at he
      simp only [cond_false] at he
      split at he
      · rename_i t u0
        cases hx
        rename_i y hy
        cases hb : Nat.beq t b with
        | true =>
          rw [hb] at he
          injection he with he
          have hb := Nat.eq_of_beq_eq_true hb
          subst hb
          subst he
          cases ok with
          | true => exact ⟨.tuple #[y, .bool true], by cases d <;> first | (cases hid; done) | simp [Instr.typeAssert, run_underlying hd], two_VR hy⟩
          | false => exact ⟨y, by cases d <;> first | (cases hid; done) | simp [Instr.typeAssert, run_underlying hd], hy⟩
        | false =>
          rw [hb] at he
          obtain ⟨rfl, z, h1, h2⟩ := fails he
          have hb : ¬ t = b := fun e => by rw [e, Nat.beq_refl] at hb; cases hb
          exact ⟨_, by cases d <;> first | (cases hid; done) | simp [Instr.typeAssert, run_underlying hd, hb, h1], h2⟩
      · cases hx
        obtain ⟨rfl, z, h1, h2⟩ := fails he
        exact ⟨_, by cases d <;> first | (cases hid; done) | simp [Instr.typeAssert, run_underlying hd, h1], h2⟩
      · cases he
theorem opA_ok [Tab] {P : Program} {o : Oper} {ev : Operand → AV} {ρ : Operand → Value} {s s' : AS} {v : AV} {E : AEnv} {w : World} (hρ : ∀ x, VR E (ev x) (ρ x)) (h : HR E s.get w) (hi : ¬ E.ok s.n) (he : opA P o.op ev s = some (v, s')) : Ran2 P (execOp ρ o) w E s v s' := by
  obtain ⟨dst, op, type, pos, after, guard⟩ := o
  dsimp only at he
  cases op <;> try (cases he; done)
  case move x => injection he with he; injection he with e1 e2; subst e1; subst e2; exact Ran2.val h (hρ x)
  case assign x => injection he with he; injection he with e1 e2; subst e1; subst e2; exact Ran2.val h (hρ x)
  case pick c a b =>
    unfold opA at he
    dsimp only at he
    split at he
    · rename_i q hq
      injection he with he
      injection he with e1 e2
      subst e1
      subst e2
      have hc := hρ c
      rw [hq] at hc
      cases hcv : ρ c <;> rw [hcv] at hc <;> first | (cases hc; done) | skip
      rename_i q'
      cases hc
      refine ⟨.value (if q then ρ a else ρ b), if q then ρ a else ρ b, w, E, by cases q <;> simp [execOp, hcv, asBool], .inl rfl, ?_, h, Stp.refl E s.get w, Grow.refl E s.n⟩
      cases q
      · exact hρ b
      · exact hρ a
    · cases he
  case alloc t => exact (allocA_ok h hi he).two
  case box t x => exact (boxA_ok h hi (hρ x) he).two
  case build t ps =>
    cases hb : buildA P t (ps.toList.map fun p => (p.1, ev p.2)) with
    | none => unfold opA at he; dsimp only at he; rw [hb] at he; cases he
    | some u =>
      unfold opA at he
      dsimp only at he
      rw [hb] at he
      injection he with he
      injection he with e1 e2
      subst e1
      subst e2
      exact (buildA_ok h (parts_PL hρ ps) hb).two
  case buildSlice t n ps => exact (buildSliceA_ok h hi (parts_PL hρ ps) he).two
  case insert t m k u => exact Ran2.skp he fun s2 hs => updA_ok h (hρ m) (hρ k) (hρ u) hs
  case mapUpdate t m k u => exact Ran2.skp he fun s2 hs => updA_ok h (hρ m) (hρ k) (hρ u) hs
  case load t a =>
    cases hb : loadA P t (ev a) s with
    | none => unfold opA at he; dsimp only at he; rw [hb] at he; cases he
    | some u =>
      unfold opA at he
      dsimp only at he
      rw [hb] at he
      injection he with he
      injection he with e1 e2
      subst e1
      subst e2
      exact (loadA_ok h (hρ a) hb).two
  case store t a u => exact Ran2.skp he fun s2 hs => storeA_ok h (hρ a) (hρ u) hs
  case nilCheck x =>
    unfold opA at he
    dsimp only at he
    split at he
    · rename_i b q hq
      injection he with he
      injection he with e1 e2
      subst e1
      subst e2
      have hx := hρ x
      rw [hq] at hx
      refine ⟨.value (ρ x), ρ x, w, E, ?_, .inl rfl, hx, h, Stp.refl E s.get w, Grow.refl E s.n⟩
      cases hv : ρ x <;> rw [hv] at hx <;> first | (cases hx; done) | skip
      cases hx
      simp [execOp, hv]
    · rename_i f cs hq
      injection he with he
      injection he with e1 e2
      subst e1
      subst e2
      have hx := hρ x
      rw [hq] at hx
      refine ⟨.value (ρ x), ρ x, w, E, ?_, .inl rfl, hx, h, Stp.refl E s.get w, Grow.refl E s.n⟩
      obtain ⟨a, ha, _⟩ := hx.fn_inv
      simp [execOp, ha]
    · rename_i f cs hq
      injection he with he
      injection he with e1 e2
      subst e1
      subst e2
      have hx := hρ x
      rw [hq] at hx
      refine ⟨.value (ρ x), ρ x, w, E, ?_, .inl rfl, hx, h, Stp.refl E s.get w, Grow.refl E s.n⟩
      obtain ⟨a, ha, _⟩ := hx.fnm_inv
      simp [execOp, ha]
    · cases he
  case binOp op t x y ty => exact Ran2.with h he fun u hu => binA_ok (hρ x) (hρ y) hu
  case unOp op t x => exact Ran2.with h he fun u hu => unA_ok (hρ x) hu
  case convert a b x => exact (convA_ok h hi (hρ x) he).two
  case makeInterface t x =>
    unfold opA at he
    dsimp only at he
    split at he
    · rename_i d hd
      cases hid : ifcD d with
      | true => rw [hid] at he; cases he
      | false =>
        rw [hid] at he
        injection he with he
        injection he with e1 e2
        subst e1
        subst e2
        refine (Ran.same (x := .iface t (ρ x)) h ?_ (.ifc t _ _ (hρ x))).two
        cases d <;> first | (cases hid; done) | simp [Instr.makeInterface, run_underlying hd]
    · cases he
  case makeFunc fn first captured =>
    cases fn <;> try (cases he; done)
    rename_i f
    unfold opA at he
    dsimp only at he
    split at he
    · rename_i hf
      injection he with he
      injection he with e1 e2
      subst e1
      subst e2
      have hf' : first = #[] := by simpa using hf
      subst hf'
      exact (Ran.same (x := .func (.func f) #[] (captured.map ρ)) h (by simp [Instr.makeFunc]) (map_VL hρ captured).fn).two
    · split at he
      · rename_i hf
        injection he with he
        injection he with e1 e2
        subst e1
        subst e2
        have hf' : captured = #[] := by simpa using hf
        subst hf'
        exact (Ran.same (x := .func (.func f) (first.map ρ) #[]) h (by simp [Instr.makeFunc]) (map_VL hρ first).fnm).two
      · cases he
  case makeMap t r =>
    cases r with
    | some _ => cases he
    | none => exact (makeMapA_ok h hi he).two
  case makeSlice t l c => exact (makeSliceA_ok h hi (hρ l) (hρ c) he).two
  case slice t x lo hi mx => exact Ran2.with h he fun u hu => sliceA_ok (hρ x) (map_OR hρ lo) (map_OR hρ hi) (map_OR hρ mx) hu
  case fieldAddr t x f => exact Ran2.with h he fun u hu => fieldAddrA_ok (hρ x) hu
  case field t x f => exact Ran2.with h he fun u hu => fieldA_ok (hρ x) hu
  case indexAddr t x i => exact Ran2.with h he fun u hu => indexAddrA_ok (hρ x) (hρ i) hu
  case index t x i => exact Ran2.with h he fun u hu => indexA_ok (hρ x) (hρ i) hu
  case lookup t x i ok => exact Ran2.with h he fun u hu => lookupA_ok h (hρ x) (hρ i) hu
  case extract x i => exact Ran2.with h he fun u hu => extractA_ok (hρ x) hu
  case range t x => exact (rangeA_ok h hi (hρ x) he).two
  case entry x => exact Ran2.with h he fun u hu => entryA_ok h (hρ x) hu
  case typeAssert x a b ok => exact Ran2.with h he fun u hu => assertA_ok (hρ x) hu
end Go.Proofs.YtambgppdjlhdaaaGreatDoor
