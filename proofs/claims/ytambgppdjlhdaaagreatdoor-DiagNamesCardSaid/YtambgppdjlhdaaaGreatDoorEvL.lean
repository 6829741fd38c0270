/-
  The abstract machine: plain regions, code, functions. No program.
-/
import Derived.Test.YtambgppdjlhdaaaGreatDoorEvK
import Derived.Scope
namespace Go.Proofs.YtambgppdjlhdaaaGreatDoor
open Go.RowKit

noncomputable def evOp (P : Program) (call : Nat → List AV → AS → Option (AV × AS)) (o : Oper) (ev : Operand → AV) (s : AS) : Option (AV × AS) := match o.op with
  | .call c => noPan (callA P call c ev s)
  | op => opA P op ev s
noncomputable def evOps (P : Program) (call : Nat → List AV → AS → Option (AV × AS)) (all : Array Oper) (nt : Nat) : List Oper → Tr AV → AS → Option (Tr AV × AS)
  | [], t, s => some (t, s)
  | o :: r, t, s => match wantA all o t with
    | none => none
    | some false => match putT nt t o.dst .undef with
      | none => none
      | some t' => evOps P call all nt r t' s
    | some true => match evOp P call o (oev t) s with
      | none => none
      | some q => match putT nt t o.dst q.1 with
        | none => none
        | some t' => evOps P call all nt r t' q.2
theorem evOp_ok [Tab] {P : Program} {call : Nat → List AV → AS → Option (AV × AS)} (hc : CallOK P call) {o : Oper} {f : Nat → AV} {nt : Nat} {a : Act} {s s' : AS} {v : AV} {E : AEnv} {w : World} (ht : TR E nt f a) (h : HR E s.get w) (hf : Fresh E s.n) (he : evOp P call o (oevF f) s = some (v, s'))
    {next : Act → World → Prop} {Q : Exit → Act → World → Prop} (hk : ∀ x E' w', VR E' v x → HR E' s'.get w' → Stp E s.get w E' s'.get w' → Grow E s.n E' s'.n → next (a.put o.dst x) w') : o.wp P a w next Q := by
  have other : (∀ c, o.op ≠ .call c) → opA P o.op (oevF f) s = some (v, s') → o.wp P a w next Q := by
    intro hn ho
    obtain ⟨n, x, w', E', q1, q2, q3, q4, q5, q6⟩ := opA_ok (o := o) (oevF_ok ht) h hf.not ho
    unfold Oper.wp
    rw [q1]
    rcases q2 with rfl | ⟨rfl, rfl⟩
    · exact hk x E' w' q3 q4 q5 q6
    · exact hk undef E' w' q3 q4 q5 q6
  unfold evOp at he
  split at he
  · rename_i c ho
    obtain ⟨he, hnp⟩ := noPan_ok he
    exact callA_ok hc ho (oevF_ok ht) h hf he hnp hk
  · rename_i op hn
    exact other (fun c e => hn c e) he
theorem evOps_ok [Tab] {P : Program} {call : Nat → List AV → AS → Option (AV × AS)} (hc : CallOK P call) {all : Array Oper} {nt : Nat} {Q : Exit → Act → World → Prop} : ∀ (l : List Oper) (t : Tr AV) (s : AS) (t' : Tr AV) (s' : AS), evOps P call all nt l t s = some (t', s') →
    ∀ (E : AEnv) (a : Act) (w : World), TR E nt (t.get .top) a → HR E s.get w → Fresh E s.n →
    (∀ E' a' w', TR E' nt (t'.get .top) a' → HR E' s'.get w' → Stp E s.get w E' s'.get w' → Grow E s.n E' s'.n → a'.defers = a.defers → Q .normal a' w') → wpList P all Q l a w
  | [], t, s, t', s', he, E, a, w, ht, h, hf, hq => by
    injection he with he
    injection he with e1 e2
    subst e1
    subst e2
    exact hq E a w ht h (Stp.refl _ _ _) (Grow.refl _ _) rfl
  | o :: r, t, s, t', s', he, E, a, w, ht, h, hf, hq => by
    unfold evOps at he
    split at he
    · cases he
    · rename_i hw
      split at he
      · cases he
      · rename_i t1 hp
        have hw' := wantA_ok ht hw
        unfold wpList
        rw [if_neg (by rw [hw']; intro e; cases e)]
        refine evOps_ok hc r t1 s t' s' he E _ w (ht.putT .undef hp) h hf fun E' a' w' q1 q2 q3 q4 q5 => hq E' a' w' q1 q2 q3 q4 (q5.trans (put_defers _ _ _))
    · rename_i hw
      split at he
      · cases he
      · rename_i q hop
        split at he
        · cases he
        · rename_i t1 hp
          have hw' := wantA_ok ht hw
          obtain ⟨v, s1⟩ := q
          dsimp only at hp he
          unfold wpList
          rw [if_pos hw']
          refine .inl (evOp_ok hc ht h hf hop fun x E1 w1 q1 q2 q3 q4 => ?_)
          refine evOps_ok hc r t1 s1 t' s' he E1 _ w1 ((ht.mono q3.le).putT q1 hp) q2 (hf.grow q4) fun E' a' w' p1 p2 p3 p4 p5 => hq E' a' w' p1 p2 (q3.trans p3) (q4.trans p4) (p5.trans (put_defers _ _ _))

/-- A region that panics. -/
noncomputable def evOpsP (P : Program) (call : Nat → List AV → AS → Option (AV × AS)) (all : Array Oper) (nt : Nat) : List Oper → Tr AV → AS → Option (Value × Tr AV × AS)
  | [], _, _ => none
  | o :: r, t, s => match wantA all o t with
    | none => none
    | some false => match putT nt t o.dst .undef with
      | none => none
      | some t' => evOpsP P call all nt r t' s
    | some true => match panO call o (oev t) s with
      | some q => some (q.1, t, q.2)
      | none => match evOp P call o (oev t) s with
        | none => none
        | some q => match putT nt t o.dst q.1 with
          | none => none
          | some t' => evOpsP P call all nt r t' q.2
theorem evOpsP_ok [Tab] {P : Program} {call : Nat → List AV → AS → Option (AV × AS)} (hc : CallOK P call) {all : Array Oper} {nt : Nat} {Q : Exit → Act → World → Prop} : ∀ (l : List Oper) (t : Tr AV) (s : AS) (u : Value) (t' : Tr AV) (s' : AS), evOpsP P call all nt l t s = some (u, t', s') →
    ∀ (E : AEnv) (a : Act) (w : World), TR E nt (t.get .top) a → HR E s.get w → Fresh E s.n →
    (∀ E' a' w', TR E' nt (t'.get .top) a' → HR E' s'.get w' → Stp E s.get w E' s'.get w' → Grow E s.n E' s'.n → a'.defers = a.defers → Q (.panic [{ v := u, recovered := false }]) a' w') → wpList P all Q l a w
  | [], t, s, u, t', s', he, E, a, w, ht, h, hf, hq => by cases he
  | o :: r, t, s, u, t', s', he, E, a, w, ht, h, hf, hq => by
    unfold evOpsP at he
    split at he
    · cases he
    · rename_i hw
      split at he
      · cases he
      · rename_i t1 hp
        have hw' := wantA_ok ht hw
        unfold wpList
        rw [if_neg (by rw [hw']; intro e; cases e)]
        refine evOpsP_ok hc r t1 s u t' s' he E _ w (ht.putT .undef hp) h hf fun E' a' w' q1 q2 q3 q4 q5 => hq E' a' w' q1 q2 q3 q4 (q5.trans (put_defers _ _ _))
    · rename_i hw
      have hw' := wantA_ok ht hw
      unfold wpList
      rw [if_pos hw']
      split at he
      · rename_i q hpan
        injection he with he
        injection he with e1 e2
        injection e2 with e2 e3
        obtain ⟨u1, s1⟩ := q
        dsimp only at e1 e3
        subst e1
        subst e2
        subst e3
        exact .inl (panO_ok hc (oev_ok ht) h hf hpan fun E' w' q2 q3 q4 => hq E' a w' (ht.mono q3.le) q2 q3 q4 rfl)
      · split at he
        · cases he
        · rename_i q hop
          split at he
          · cases he
          · rename_i t1 hp
            obtain ⟨v, s1⟩ := q
            dsimp only at hp he
            refine .inl (evOp_ok hc ht h hf hop fun x E1 w1 q1 q2 q3 q4 => ?_)
            refine evOpsP_ok hc r t1 s1 u t' s' he E1 _ w1 ((ht.mono q3.le).putT q1 hp) q2 (hf.grow q4) fun E' a' w' p1 p2 p3 p4 p5 => hq E' a' w' p1 p2 (q3.trans p3) (q4.trans p4) (p5.trans (put_defers _ _ _))
/-- How code ends. -/
inductive Ex where
  | normal
  | exit (id : Nat)
  | ret
  | panic (u : Value)
noncomputable def Ex.is : Ex → Exit → Prop
  | .normal, e => e = .normal
  | .exit i, e => e = .exit i
  | .ret, e => e = .ret
  | .panic u, e => e = .panic [{ v := u, recovered := false }]
/-- What code leaves. -/
noncomputable def Post [Tab] (E : AEnv) (nt : Nat) (a : Act) (s : AS) (w : World) (x : Ex) (t' : Tr AV) (s' : AS) (e : Exit) (a' : Act) (w' : World) : Prop :=
  x.is e ∧ ∃ E', TR E' nt (t'.get .top) a' ∧ HR E' s'.get w' ∧ Stp E s.get w E' s'.get w' ∧ Grow E s.n E' s'.n ∧ a'.defers = a.defers
/-- Pieces of code that are told apart: regions that draw; loops over maps. -/
structure Hooks where
  draw : (Nat → List AV → AS → Option (AV × AS)) → Nat → Array Oper → Tr AV → AS → Option (Ex × Tr AV × AS)
  special : Code → Bool
  loop : (Code → Tr AV → AS → Option (Ex × Tr AV × AS)) → (Nat → List AV → AS → Option (AV × AS)) → Nat → Code → Tr AV → AS → Option (Ex × Tr AV × AS)
noncomputable def nxt {α : Type} (x : α) : α := x
noncomputable def evC (P : Program) (H : Hooks) (call : Nat → List AV → AS → Option (AV × AS)) (nt : Nat) : Nat → Code → Tr AV → AS → Option (Ex × Tr AV × AS)
  | 0, _, _, _ => none
  | k + 1, c, t, s => match c with
    | .skip => some (.normal, t, s)
    | .label _ => some (.normal, t, s)
    | .region _ ops d => cond d (H.draw call nt ops t s) (match evOps P call ops nt ops.toList t s with
        | some q => some (.normal, q.1, q.2)
        | none => match evOpsP P call ops nt ops.toList t s with
          | some q => some (.panic q.1, q.2.1, q.2.2)
          | none => none)
    | .seq x y => match evC P H call nt k x t s with
      | none => none
      | some q => match q.1 with
        | .normal => nxt (evC P H call nt k y q.2.1 q.2.2)
        | e => some (e, q.2.1, q.2.2)
    | .cond x y z => match oev t x with
      | .bool b => cond b (nxt (evC P H call nt k y t s)) (nxt (evC P H call nt k z t s))
      | _ => none
    | .block i x => match evC P H call nt k x t s with
      | none => none
      | some q => match q.1 with
        | .exit j => cond (Nat.beq j i) (some (.normal, q.2.1, q.2.2)) (some (.exit j, q.2.1, q.2.2))
        | e => some (e, q.2.1, q.2.2)
    | .loop x => cond (H.special x) (H.loop (evC P H call nt k) call nt x t s) (match evC P H call nt k x t s with
        | none => none
        | some q => match q.1 with
          | .normal => nxt (evC P H call nt k (.loop x) q.2.1 q.2.2)
          | e => some (e, q.2.1, q.2.2))
    | .exit i => some (.exit i, t, s)
    | .ret => some (.ret, t, s)
    | .scope x => evC P H call nt k x t s
    | _ => none
structure DrawOK [Tab] (P : Program) (H : Hooks) : Prop where
  draw : ∀ (call : Nat → List AV → AS → Option (AV × AS)), CallOK P call → ∀ (nt : Nat) (id : Nat) (ops : Array Oper) (t : Tr AV) (s : AS) (e : Ex) (t' : Tr AV) (s' : AS), H.draw call nt ops t s = some (e, t', s') → ∀ (E : AEnv) (a : Act) (w : World), TR E nt (t.get .top) a → HR E s.get w → Fresh E s.n →
    (Code.region id ops true).wp P (Post E nt a s w e t' s') a w
  loop : ∀ (call : Nat → List AV → AS → Option (AV × AS)), CallOK P call → ∀ (nt : Nat) (ev : Code → Tr AV → AS → Option (Ex × Tr AV × AS)),
    (∀ c t s e t' s', ev c t s = some (e, t', s') → ∀ (E : AEnv) (a : Act) (w : World), TR E nt (t.get .top) a → HR E s.get w → Fresh E s.n → c.wp P (Post E nt a s w e t' s') a w) →
    ∀ x t s e t' s', H.loop ev call nt x t s = some (e, t', s') → ∀ (E : AEnv) (a : Act) (w : World), TR E nt (t.get .top) a → HR E s.get w → Fresh E s.n → (Code.loop x).wp P (Post E nt a s w e t' s') a w
theorem Post.trans [Tab] {E E1 : AEnv} {nt : Nat} {a a1 : Act} {s s1 : AS} {w w1 : World} {x : Ex} {t' : Tr AV} {s' : AS} {e : Exit} {a' : Act} {w' : World} (h1 : Stp E s.get w E1 s1.get w1) (h2 : Grow E s.n E1 s1.n) (h3 : a1.defers = a.defers) (h : Post E1 nt a1 s1 w1 x t' s' e a' w') : Post E nt a s w x t' s' e a' w' := by
  obtain ⟨q0, E', q1, q2, q3, q4, q5⟩ := h
  exact ⟨q0, E', q1, q2, h1.trans q3, h2.trans q4, q5.trans h3⟩
/-- A loop's rounds. -/
theorem loop_rounds [Tab] {P : Program} {H : Hooks} {call : Nat → List AV → AS → Option (AV × AS)} {nt : Nat} {x : Code} (hx : H.special x = false) {e : Ex} {t' : Tr AV} {s' : AS} : ∀ (k : Nat),
    (∀ j, j < k → ∀ (t : Tr AV) (s : AS) (e : Ex) (t' : Tr AV) (s' : AS), evC P H call nt j x t s = some (e, t', s') → ∀ (E : AEnv) (a : Act) (w : World), TR E nt (t.get .top) a → HR E s.get w → Fresh E s.n → x.wp P (Post E nt a s w e t' s') a w) →
    ∀ (t : Tr AV) (s : AS), evC P H call nt k (.loop x) t s = some (e, t', s') → ∀ (E : AEnv) (a : Act) (w : World), TR E nt (t.get .top) a → HR E s.get w → Fresh E s.n → ∀ (E0 : AEnv) (a0 : Act) (s0 : AS) (w0 : World), Stp E0 s0.get w0 E s.get w → Grow E0 s0.n E s.n → a.defers = a0.defers → Code.rounds P x (Post E0 nt a0 s0 w0 e t' s') k a w
  | 0, _, t, s, he, _, _, _, _, _, _, _, _, _, _, _, _, _ => by cases he
  | k + 1, ih, t, s, he, E, a, w, ht, h, hf, E0, a0, s0, w0, h1, h2, h3 => by
    replace he : cond (H.special x) (H.loop (evC P H call nt k) call nt x t s) (match evC P H call nt k x t s with
        | none => none
        | some q => match q.1 with
          | .normal => nxt (evC P H call nt k (.loop x) q.2.1 q.2.2)
          | e => some (e, q.2.1, q.2.2)) = some (e, t', s') := he
    rw [hx] at he
    simp only [cond_false] at he
    rw [rounds_succ]
    split at he
    · cases he
    · rename_i q hq
      obtain ⟨e1, t1, s1⟩ := q
      refine wp_mono (ih k (Nat.lt_succ_self _) t s e1 t1 s1 hq E a w ht h hf) fun ex a1 w1 hp => ?_
      obtain ⟨p0, E1, p1, p2, p3, p4, p5⟩ := hp
      dsimp only at he
      split at he
      · cases p0
        exact loop_rounds hx k (fun j hj => ih j (Nat.lt_succ_of_lt hj)) t1 s1 he E1 a1 w1 p1 p2 (hf.grow p4) E0 a0 s0 w0 (h1.trans p3) (h2.trans p4) (p5.trans h3)
      · rename_i hne
        injection he with he
        injection he with e2 e3
        injection e3 with e3 e4
        subst e2
        subst e3
        subst e4
        have hpost : Post E0 nt a0 s0 w0 e1 t1 s1 ex a1 w1 := ⟨p0, E1, p1, p2, h1.trans p3, h2.trans p4, p5.trans h3⟩
        cases e1 with
        | normal => exact (hne rfl).elim
        | exit i => cases p0; exact hpost
        | ret => cases p0; exact hpost
        | panic u => cases p0; exact hpost
theorem evC_ok [Tab] {P : Program} {H : Hooks} (hH : DrawOK P H) {call : Nat → List AV → AS → Option (AV × AS)} (hc : CallOK P call) {nt : Nat} : ∀ (k : Nat) (c : Code),
    (∀ (t : Tr AV) (s : AS) (e : Ex) (t' : Tr AV) (s' : AS), evC P H call nt k c t s = some (e, t', s') → ∀ (E : AEnv) (a : Act) (w : World), TR E nt (t.get .top) a → HR E s.get w → Fresh E s.n → c.wp P (Post E nt a s w e t' s') a w)
  | 0, c, t, s, e, t', s', he => by cases he
  | k + 1, c, t, s, e, t', s', he => by
    intro E a w ht h hf
    have same : ∀ x, (some (x, t, s) : Option (Ex × Tr AV × AS)) = some (e, t', s') → ∀ ex, x.is ex → Post E nt a s w e t' s' ex a w := by
      intro x hx ex hex
      injection hx with hx
      injection hx with e1 e2
      injection e2 with e2 e3
      subst e1
      subst e2
      subst e3
      exact ⟨hex, E, ht, h, Stp.refl _ _ _, Grow.refl _ _, rfl⟩
    cases c <;> try (cases he; done)
    case skip => exact wp_skip (same .normal he .normal rfl)
    case label l => exact wp_label (same .normal he .normal rfl)
    case exit i => exact wp_exit (same (.exit i) he (.exit i) rfl)
    case ret => exact wp_ret (same .ret he .ret rfl)
    case region id ops d =>
      cases d with
      | true =>
        exact hH.draw call hc nt id ops t s e t' s' he E a w ht h hf
      | false =>
        replace he : (match evOps P call ops nt ops.toList t s with
          | some q => some (Ex.normal, q.1, q.2)
          | none => match evOpsP P call ops nt ops.toList t s with
            | some q => some (Ex.panic q.1, q.2.1, q.2.2)
            | none => none) = some (e, t', s') := he
        split at he
        · rename_i q hq
          injection he with he
          injection he with e1 e2
          injection e2 with e2 e3
          subst e1
          subst e2
          subst e3
          exact wp_region_list (evOps_ok hc ops.toList t s q.1 q.2 hq E a w ht h hf fun E' a' w' q1 q2 q3 q4 q5 => ⟨rfl, E', q1, q2, q3, q4, q5⟩)
        · split at he
          · rename_i q hq
            injection he with he
            injection he with e1 e2
            injection e2 with e2 e3
            subst e1
            subst e2
            subst e3
            exact wp_region_list (evOpsP_ok hc ops.toList t s q.1 q.2.1 q.2.2 hq E a w ht h hf fun E' a' w' q1 q2 q3 q4 q5 => ⟨rfl, E', q1, q2, q3, q4, q5⟩)
          · cases he
    case seq x y =>
      replace he : (match evC P H call nt k x t s with
        | none => none
        | some q => match q.1 with
          | .normal => nxt (evC P H call nt k y q.2.1 q.2.2)
          | e => some (e, q.2.1, q.2.2)) = some (e, t', s') := he
      split at he
      · cases he
      · rename_i q hq
        obtain ⟨e1, t1, s1⟩ := q
        have hx := evC_ok hH hc k x t s e1 t1 s1 hq E a w ht h hf
        refine wp_seq (wp_mono hx fun ex a1 w1 hp => ?_)
        obtain ⟨p0, E1, p1, p2, p3, p4, p5⟩ := hp
        dsimp only at he
        split at he
        · cases p0
          exact wp_mono (evC_ok hH hc k y t1 s1 e t' s' he E1 a1 w1 p1 p2 (hf.grow p4)) fun _ _ _ hp => hp.trans p3 p4 p5
        · rename_i hne
          injection he with he
          injection he with e2 e3
          injection e3 with e3 e4
          subst e2
          subst e3
          subst e4
          have hpost : Post E nt a s w e1 t1 s1 ex a1 w1 := ⟨p0, E1, p1, p2, p3, p4, p5⟩
          cases e1 with
          | normal => exact (hne rfl).elim
          | exit i => cases p0; exact hpost
          | ret => cases p0; exact hpost
          | panic u => cases p0; exact hpost
    case cond x y z =>
      replace he : (match oev t x with
        | .bool b => cond b (nxt (evC P H call nt k y t s)) (nxt (evC P H call nt k z t s))
        | _ => none) = some (e, t', s') := he
      split at he
      · rename_i b hb
        have hv := oev_ok ht x
        rw [hb] at hv
        have hx : a.eval x = .bool b := by
          generalize a.eval x = u at hv
          cases hv
          rfl
        refine wp_cond hx ?_
        cases b
        · exact evC_ok hH hc k z t s e t' s' he E a w ht h hf
        · exact evC_ok hH hc k y t s e t' s' he E a w ht h hf
      · cases he
    case scope x =>
      refine wp_scope_straight (wp_mono (evC_ok hH hc k x t s e t' s' he E a w ht h hf) fun ex a1 w1 hp => ?_)
      obtain ⟨p0, hp⟩ := hp
      cases e <;> (cases p0; exact ⟨rfl, hp⟩)
    case block i x =>
      replace he : (match evC P H call nt k x t s with
        | none => none
        | some q => match q.1 with
          | .exit j => cond (Nat.beq j i) (some (Ex.normal, q.2.1, q.2.2)) (some (.exit j, q.2.1, q.2.2))
          | e => some (e, q.2.1, q.2.2)) = some (e, t', s') := he
      split at he
      · cases he
      · rename_i q hq
        obtain ⟨e1, t1, s1⟩ := q
        have hx := evC_ok hH hc k x t s e1 t1 s1 hq E a w ht h hf
        refine wp_block (wp_mono hx fun ex a1 w1 hp => ?_)
        obtain ⟨p0, E1, p1, p2, p3, p4, p5⟩ := hp
        dsimp only at he
        split at he
        · rename_i j
          cases p0
          cases hj : Nat.beq j i with
          | true =>
            rw [hj] at he
            have := Nat.eq_of_beq_eq_true hj
            subst this
            injection he with he
            injection he with e2 e3
            injection e3 with e3 e4
            subst e2
            subst e3
            subst e4
            show (if j = j then _ else _)
            rw [if_pos rfl]
            exact ⟨rfl, E1, p1, p2, p3, p4, p5⟩
          | false =>
            rw [hj] at he
            injection he with he
            injection he with e2 e3
            injection e3 with e3 e4
            subst e2
            subst e3
            subst e4
            show (if j = i then _ else _)
            rw [if_neg (fun e => by rw [e, Nat.beq_refl] at hj; cases hj)]
            exact ⟨rfl, E1, p1, p2, p3, p4, p5⟩
        · rename_i hne
          injection he with he
          injection he with e2 e3
          injection e3 with e3 e4
          subst e2
          subst e3
          subst e4
          have hpost : Post E nt a s w e1 t1 s1 ex a1 w1 := ⟨p0, E1, p1, p2, p3, p4, p5⟩
          cases e1 with
          | normal => cases p0; exact hpost
          | exit j => exact (hne j rfl).elim
          | ret => cases p0; exact hpost
          | panic u => cases p0; exact hpost
    case loop x =>
      cases hx : H.special x with
      | true =>
        replace he : cond (H.special x) (H.loop (evC P H call nt k) call nt x t s) _ = some (e, t', s') := he
        rw [hx] at he
        exact hH.loop call hc nt (evC P H call nt k) (fun c t s e t' s' he => evC_ok hH hc k c t s e t' s' he) x t s e t' s' he E a w ht h hf
      | false => exact wp_loop_rounds (k + 1) (loop_rounds hx (k + 1) (fun j hj t s e t' s' he => evC_ok hH hc j x t s e t' s' he) t s he E a w ht h hf E a s w (Stp.refl _ _ _) (Grow.refl _ _) rfl)
/-- Results. -/
noncomputable def resA1 (P : Program) (t : Tr AV) (s : AS) : ResultVar → Option AV
  | .tmp k => some (t.get .top k)
  | .cell k ty => loadA P ty (t.get .top k) s
noncomputable def resAs (P : Program) (t : Tr AV) (s : AS) : List ResultVar → Option (List AV)
  | [] => some []
  | r :: l => match resA1 P t s r with
    | none => none
    | some v => match resAs P t s l with
      | none => none
      | some vs => some (v :: vs)
noncomputable def resA (P : Program) (t : Tr AV) (s : AS) (l : List ResultVar) : Option AV := match resAs P t s l with
  | none => none
  | some [v] => some v
  | some vs => some (.tup vs)
theorem resAs_ok [Tab] {P : Program} {E : AEnv} {nt : Nat} {t : Tr AV} {s : AS} {a : Act} {w : World} (ht : TR E nt (t.get .top) a) (h : HR E s.get w) : ∀ (l : List ResultVar) (vs : List AV), resAs P t s l = some vs →
    ∃ xs : List Value, VL E vs xs ∧ (l.mapM fun | .tmp t => pure (a.tmps.getD t undef) | .cell k t => do loadVar t (← asAddr (a.tmps.getD k undef)) : Sem (List Value)).run P w = .ok xs w
  | [], vs, he => by
    injection he with he
    subst he
    exact ⟨[], VL.nil, rfl⟩
  | r :: l, vs, he => by
    unfold resAs at he
    split at he
    · cases he
    · rename_i v hv
      split at he
      · cases he
      · rename_i vs' hvs
        injection he with he
        subst he
        obtain ⟨xs, q1, q2⟩ := resAs_ok ht h l vs' hvs
        cases r with
        | tmp k =>
          injection hv with hv
          subst hv
          exact ⟨_ :: xs, VL.cons (ht.at_ k) q1, by rw [List.mapM_cons]; simp only [Sem.run_bind, Sem.run_pure, Result.andThen_ok, q2]⟩
        | cell k ty =>
          obtain ⟨p, y, e1, e2, e3⟩ := loadVar_ok h (ht.at_ k) hv
          exact ⟨y :: xs, VL.cons e3 q1, by
            have ea : (asAddr (a.tmps.getD k undef)).run P w = .ok p w := by rw [e1]; rfl
            rw [List.mapM_cons]
            simp only [Sem.run_bind, Sem.run_pure, Result.andThen_ok, ea, e2, q2]⟩
theorem resA_ok [Tab] {P : Program} {E : AEnv} {nt : Nat} {t : Tr AV} {s : AS} {a : Act} {w : World} {fn : Func} {v : AV} (ht : TR E nt (t.get .top) a) (h : HR E s.get w) (he : resA P t s fn.results.toList = some v) : ∃ x, (results fn a.tmps).run P w = .ok x w ∧ VR E v x := by
  unfold resA at he
  have key : ∀ vs, resAs P t s fn.results.toList = some vs → ∃ xs : List Value, VL E vs xs ∧ (results fn a.tmps).run P w = .ok (if h : xs.toArray.size = 1 then xs.toArray[0] else .tuple xs.toArray) w := by
    intro vs hvs
    obtain ⟨xs, q1, q2⟩ := resAs_ok ht h fn.results.toList vs hvs
    refine ⟨xs, q1, ?_⟩
    unfold results
    rw [Array.mapM_eq_mapM_toList]
    rw [← bind_pure_comp]
    simp only [Sem.run_bind, Sem.run_pure]
    refine (congrArg (fun z => (Result.andThen z _).andThen _) q2).trans ?_
    rfl
  split at he
  · cases he
  · rename_i u hu
    injection he with he
    subst he
    obtain ⟨xs, q1, q2⟩ := key _ hu
    match xs, q1.len with
    | [x], _ => exact ⟨x, q2, q1.head⟩
  · rename_i vs hn hu
    injection he with he
    subst he
    obtain ⟨xs, q1, q2⟩ := key _ hu
    have hl : xs.length ≠ 1 := by
      intro h1
      have := q1.len
      match vs, this with
      | [u], _ => exact hn u rfl
      | [], e => simp at e; omega
      | _ :: _ :: _, e => simp at e; omega
    refine ⟨.tuple xs.toArray, ?_, q1.tup (a := xs.toArray)⟩
    rw [q2, dif_neg (by simpa using hl)]
end Go.Proofs.YtambgppdjlhdaaaGreatDoor
