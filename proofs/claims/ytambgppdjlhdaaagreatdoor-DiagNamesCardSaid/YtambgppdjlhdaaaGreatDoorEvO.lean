/-
  The abstract machine: regions that draw their order, whole. No program.
-/
import Derived.Test.YtambgppdjlhdaaaGreatDoorEvN
namespace Go.Proofs.YtambgppdjlhdaaaGreatDoor
open Go.RowKit

/-- Blocks laid over memory. -/
noncomputable def ov (g xf : Nat → AB) (b : Nat) : AB := match xf b with
  | .none => g b
  | c => c
theorem ov_none {g xf : Nat → AB} {b : Nat} (h : xf b = .none) : ov g xf b = g b := by unfold ov; rw [h]
theorem ov_some {g xf : Nat → AB} {b : Nat} (h : xf b ≠ .none) : ov g xf b = xf b := by
  unfold ov
  split
  · rename_i h0; exact absurd h0 h
  · rfl
theorem HR.sub [Tab] {E : AEnv} {g g1 : Nat → AB} {w : World} (h : HR E g w) (hs : ∀ b, g1 b ≠ .none → g1 b = g b) : HR E g1 w :=
  ⟨⟨fun b hb => by
    have e := hs b hb
    rw [e]
    exact h.at_ b (by rw [← e]; exact hb), fun b c hb hc => h.inj b c (by rw [← hs b hb]; exact hb) (by rw [← hs c hc]; exact hc)⟩, h.tab, fun b hb => h.apart b (by rw [← hs b hb]; exact hb)⟩
/-- What stands aside stands. -/
theorem frame [Tab] {E E' : AEnv} {g g' xf : Nat → AB} {w w' : World} (h : HR E (ov g xf) w) (hd : ∀ b, xf b ≠ .none → g b = .none) (h' : HR E' g' w') (hs : Stp E g w E' g' w') :
    HR E' (ov g' xf) w' ∧ Stp E (ov g xf) w E' (ov g' xf) w' ∧ ∀ b, xf b ≠ .none → g' b = .none := by
  have hx : ∀ b, xf b ≠ .none → E.ok b ∧ b < 1000000000 ∧ E'.r b = E.r b ∧ (∃ o, w.heap[E.r b]? = some o ∧ w'.heap[E.r b]? = some o ∧ BR E b (xf b) o) := by
    intro b hb
    have e1 := ov_some (g := g) hb
    obtain ⟨q1, q2, o, q3, q4⟩ := h.at_ b (by rw [e1]; exact hb)
    rw [e1] at q4
    refine ⟨q1, q2, hs.le.r b q1, o, q3, ?_, q4⟩
    rw [hs.keep _ (Array.getElem?_eq_some_iff.1 q3).1 fun c hc e => ?_]
    · exact q3
    · have hcx : xf c = .none := by
        cases hcc : xf c with
        | none => rfl
        | cells cs => have := hd c (by rw [hcc]; intro e; cases e); exact absurd this hc
        | froz cs ty => have := hd c (by rw [hcc]; intro e; cases e); exact absurd this hc
        | mapb es k => have := hd c (by rw [hcc]; intro e; cases e); exact absurd this hc
        | iter a b c => have := hd _ (by rw [hcc]; intro e; cases e); exact absurd this hc
        | zero a b => have := hd _ (by rw [hcc]; intro e; cases e); exact absurd this hc
      have := h.inj c b (by rw [ov_none hcx]; exact hc) (by rw [e1]; exact hb) e
      subst this
      exact hb hcx
  have hold : ∀ c, g c ≠ .none → xf c = .none := fun c hc => by
    cases hcc : xf c with
    | none => rfl
    | cells cs => have := hd c (by rw [hcc]; intro e; cases e); exact absurd this hc
    | froz cs ty => have := hd c (by rw [hcc]; intro e; cases e); exact absurd this hc
    | mapb es k => have := hd c (by rw [hcc]; intro e; cases e); exact absurd this hc
    | iter a b k => have := hd c (by rw [hcc]; intro e; cases e); exact absurd this hc
    | zero a b => have := hd c (by rw [hcc]; intro e; cases e); exact absurd this hc
  have hdis : ∀ b, xf b ≠ .none → g' b = .none := by
    intro b hb
    cases hg : g' b with
    | none => rfl
    | _ =>
      exfalso
      obtain ⟨q1, _, q3, o, q4, _⟩ := hx b hb
      rcases hs.dom b (by rw [hg]; intro e; cases e) with h1 | ⟨c, hc, h1⟩
      · have := (Array.getElem?_eq_some_iff.1 q4).1
        omega
      · have := h.inj c b (by rw [ov_none (hold c hc)]; exact hc) (by rw [ov_some hb]; exact hb) (h1.trans q3)
        subst this
        exact hb (hold c hc)
  have hdec : ∀ b, ov g' xf b ≠ .none → (xf b ≠ .none ∧ ov g' xf b = xf b) ∨ (xf b = .none ∧ ov g' xf b = g' b ∧ g' b ≠ .none) := by
    intro b hb
    by_cases e : xf b = .none
    · exact .inr ⟨e, ov_none e, by rw [← ov_none (g := g') e]; exact hb⟩
    · exact .inl ⟨e, ov_some e⟩
  have hap : ∀ b, ov g' xf b ≠ .none → Tab.w0.heap.size ≤ E'.r b := fun b hb => by
    rcases hdec b hb with ⟨e1, e2⟩ | ⟨e1, e2, e3⟩
    · rw [(hx b e1).2.2.1]; exact h.apart b (by rw [ov_some e1]; exact e1)
    · exact h'.apart b e3
  refine ⟨⟨⟨fun b hb => ?_, fun b c hb hc he => ?_⟩, h'.tab, hap⟩, ⟨hs.os, hs.tape, hs.output, hs.size, hs.le, hs.z, fun d hdl hn => hs.keep d hdl fun b hb => hn b (by rw [ov_none (hold b hb)]; exact hb), fun b hb => ?_⟩, hdis⟩
  · rcases hdec b hb with ⟨e1, e2⟩ | ⟨e1, e2, e3⟩
    · rw [e2]
      obtain ⟨q1, q2, q3, o, q4, q5, q6⟩ := hx b e1
      exact ⟨hs.le.ok b q1, q2, o, by rw [q3]; exact q5, q6.mono hs.le q1 (hs.z b q1)⟩
    · rw [e2]
      exact h'.at_ b e3
  · have mix : ∀ b c, xf b ≠ .none → xf c = .none → g' c ≠ .none → E'.r b = E'.r c → False := by
      intro b c hb hcx hc he
      obtain ⟨q1, _, q3, o, q4, _⟩ := hx b hb
      rcases hs.dom c hc with h1 | ⟨c0, hc0, h1⟩
      · have := (Array.getElem?_eq_some_iff.1 q4).1
        omega
      · have := h.inj c0 b (by rw [ov_none (hold c0 hc0)]; exact hc0) (by rw [ov_some hb]; exact hb) (by rw [h1, ← he, q3])
        subst this
        exact hb (hold c0 hc0)
    rcases hdec b hb with ⟨e1, e2⟩ | ⟨e1, e2, e3⟩ <;> rcases hdec c hc with ⟨f1, f2⟩ | ⟨f1, f2, f3⟩
    · obtain ⟨_, _, q3, _⟩ := hx b e1
      obtain ⟨_, _, r3, _⟩ := hx c f1
      rw [q3, r3] at he
      exact h.inj b c (by rw [ov_some e1]; exact e1) (by rw [ov_some f1]; exact f1) he
    · exact (mix b c e1 f1 f3 he).elim
    · exact (mix c b f1 e1 e3 he.symm).elim
    · exact h'.inj b c e3 f3 he
  · rcases hdec b hb with ⟨e1, e2⟩ | ⟨e1, e2, e3⟩
    · exact .inr ⟨b, by rw [ov_some e1]; exact e1, (hx b e1).2.2.1.symm⟩
    · rcases hs.dom b e3 with h1 | ⟨c, hc, h1⟩
      · exact .inl h1
      · exact .inr ⟨c, by rw [ov_none (hold c hc)]; exact hc, h1⟩
/-- A region's blocks by their numbers. -/
noncomputable def xOf (base n : Nat) (p : Nat → Bool) (x : Nat → AB) (b : Nat) : AB := if base ≤ b ∧ b < base + n ∧ p (b - base) = true then x (b - base) else .none
theorem preA_get [Tab] {base n : Nat} {p : Nat → Bool} {x : Nat → AB} {g : AS} (hl : base + n ≤ 1000000000) (b : Nat) : (preA base p x n g).get b = ov g.get (xOf base n p x) b := by
  by_cases h : base ≤ b ∧ b < base + n ∧ p (b - base) = true
  · have e1 : xOf base n p x b = x (b - base) := if_pos h
    by_cases hx : x (b - base) = .none
    · rw [ov_none (e1.trans hx)]
      exact preA_out base p x g n fun j hj e => .inr (by rw [e, Nat.add_sub_cancel_left] at hx; exact hx)
    · rw [ov_some (by rw [e1]; exact hx), e1]
      have := preA_in base p x g (j := b - base) n (by omega) h.2.2 hx (by omega)
      rwa [show base + (b - base) = b by omega] at this
  · have e1 : xOf base n p x b = .none := if_neg h
    rw [ov_none e1]
    refine preA_out base p x g n fun j hj e => ?_
    left
    cases hp : p j with
    | false => rfl
    | true => exact absurd ⟨by omega, by omega, by rw [e, Nat.add_sub_cancel_left]; exact hp⟩ h
noncomputable def allP : Nat → Bool := fun _ => true
/-- How a region stands in its midst. -/
structure InvD [Tab] (E0 : AEnv) (g0 : Nat → AB) (w0 : World) (a0 : Act) (nt n base : Nat) (R : List Nat) (d : DS) (E : AEnv) (a : Act) (w : World) : Prop where
  t : TR E nt d.t a
  h : HR E (ov d.g.get (xOf base n allP d.x)) w
  lim : base + n ≤ d.g.n
  lim2 : base + n ≤ 1000000000
  fresh : Fresh E d.g.n
  un : ∀ k ∈ R, k < n ∧ ¬ E.ok (base + k) ∧ d.x k = .none
  dis : ∀ b, xOf base n allP d.x b ≠ .none → d.g.get b = .none
  stp : Stp E0 g0 w0 E (ov d.g.get (xOf base n allP d.x)) w
  ok : ∀ b, E.ok b → E0.ok b ∨ (base ≤ b ∧ b < d.g.n)
  df : a.defers = a0.defers
theorem updT_TR [Tab] {E : AEnv} {nt : Nat} {f : Nat → AV} {a : Act} {d : Option Nat} {v : AV} {x : Value} (h : TR E nt f a) (hv : VR E v x) (hd : ∀ k, d = some k → k < nt) : TR E nt (updT f d v) (a.put d x) := h.put hv hd fun _ => rfl
/-- An operation that makes a block. -/
theorem evOp_ok2 [Tab] {P : Program} {call : Nat → List AV → AS → Option (AV × AS)} {o : Oper} {f : Nat → AV} {nt : Nat} {a : Act} {s s' : AS} {v : AV} {E : AEnv} {w : World} (hcl : clsO o = 2 ∨ isConv o = true) (ht : TR E nt f a) (h : HR E s.get w) (hf : ¬ E.ok s.n) (he : evOp P call o (oevF f) s = some (v, s'))
    {next : Act → World → Prop} {Q : Exit → Act → World → Prop} (hk : ∀ x E' w', VR E' v x → HR E' s'.get w' → Stp E s.get w E' s'.get w' → Grow E s.n E' s'.n → next (a.put o.dst x) w') : o.wp P a w next Q := by
  have hn : ∀ c, o.op ≠ .call c := fun c e => by
    rcases hcl with hcl | hcl
    · unfold clsO at hcl
      rw [e] at hcl
      dsimp only at hcl
      split at hcl <;> cases hcl
    · unfold isConv at hcl
      rw [e] at hcl
      cases hcl
  have ho : opA P o.op (oevF f) s = some (v, s') := by
    unfold evOp at he
    split at he
    · rename_i c hc; exact absurd hc (hn c)
    · exact he
  obtain ⟨n, x, w', E', q1, q2, q3, q4, q5, q6⟩ := opA_ok (o := o) (oevF_ok ht) h hf ho
  unfold Oper.wp
  rw [q1]
  rcases q2 with rfl | ⟨rfl, rfl⟩
  · exact hk x E' w' q3 q4 q5 q6
  · exact hk undef E' w' q3 q4 q5 q6
theorem step_wp [Tab] {P : Program} {call : Nat → List AV → AS → Option (AV × AS)} (hc : CallOK P call) {ops : Array Oper} {anc : Nat → Nat → Bool} {sB : Nat → Bool} {E0 : AEnv} {g0 : Nat → AB} {w0 : World} {a0 : Act} {nt base : Nat} {R R' : List Nat} {d d' : DS} {E : AEnv} {a : Act} {w : World} {i : Nat} {Q : Exit → Act → World → Prop}
    (hI : InvD E0 g0 w0 a0 nt ops.size base R d E a w) (hi : i ∈ R) (hR : ∀ k, k ∈ R' → k ∈ R ∧ k ≠ i) (hs : StepD P call nt ops base anc sB i d d') {K : Act → World → Prop} (hK : ∀ E' a' w', InvD E0 g0 w0 a0 nt ops.size base R' d' E' a' w' → K a' w') : wpOp P ops Q i K a w := by
  obtain ⟨o, ho, hd, hs⟩ := hs
  obtain ⟨hin, hiok, hix⟩ := hI.un i hi
  have un' : ∀ k ∈ R', k < ops.size ∧ ¬ E.ok (base + k) ∧ d.x k = .none := fun k hk => hI.un k (hR k hk).1
  -- what is carried out at memory that stands whole, but for the blocks aside
  have plain : ∀ v g', wantF ops o d.t = some true → evOp P call o (oevF d.t) d.g = some (v, g') → g'.n = d.g.n → d'.t = updT d.t o.dst v → d'.g = g' → d'.x = d.x → wpOp P ops Q i K a w := by
    intro v g' hw hev hgn e1 e2 e3
    unfold wpOp
    rw [ho]
    dsimp only
    rw [if_pos (wantF_ok hI.t hw)]
    have hg : HR E d.g.get w := hI.h.sub fun b hb => by
      by_cases e : xOf base ops.size allP d.x b = .none
      · rw [ov_none e]
      · exact absurd (hI.dis b e) hb
    refine .inl (evOp_ok hc hI.t hg hI.fresh hev fun x E' w' q1 q2 q3 q4 => hK E' _ w' ?_)
    obtain ⟨r1, r2, r3⟩ := frame hI.h hI.dis q2 q3
    rw [← e3] at r1
    rw [← e2] at r1 r2
    refine ⟨by rw [e1]; exact updT_TR (hI.t.mono q3.le) q1 hd, r1, by rw [e2, hgn]; exact hI.lim, hI.lim2, by rw [e2]; exact hI.fresh.grow q4, fun k hk => ?_, by rw [e2, e3]; exact r3, ?_, fun b hb => ?_, (put_defers _ _ _).trans hI.df⟩
    · obtain ⟨u1, u2, u3⟩ := un' k hk
      refine ⟨u1, fun hok => ?_, by rw [e3]; exact u3⟩
      rcases q4.ok _ hok with h1 | h1
      · exact u2 h1
      · omega
    · rw [e3]
      exact hI.stp.trans r2
    · rcases q4.ok b hb with h1 | h1
      · rw [e2, hgn]; exact hI.ok b h1
      · omega
  rcases hs with ⟨hw, rfl⟩ | ⟨hw, cl, v, hv, rfl⟩ | ⟨hw, cl, v, hv, hh, rfl⟩ | ⟨hw, cl, v, c, hc0, hv, rfl⟩ | ⟨hw, cl, _, v, g', hv, hr, rfl⟩ | ⟨hw, _, bb, y, _, hv, _, rfl⟩
  · unfold wpOp
    rw [ho]
    dsimp only
    rw [if_neg (by rw [wantF_ok hI.t hw]; intro e; cases e)]
    exact hK E _ w ⟨updT_TR hI.t .undef hd, hI.h, hI.lim, hI.lim2, hI.fresh, un', hI.dis, hI.stp, hI.ok, (put_defers _ _ _).trans hI.df⟩
  · exact plain v _ hw (hv d.g) rfl rfl rfl rfl
  · exact plain v _ hw hv rfl rfl rfl rfl
  · unfold wpOp
    rw [ho]
    dsimp only
    rw [if_pos (wantF_ok hI.t hw)]
    have hg : HR E d.g.get w := hI.h.sub fun b hb => by
      by_cases e : xOf base ops.size allP d.x b = .none
      · rw [ov_none e]
      · exact absurd (hI.dis b e) hb
    have hev := hv ⟨d.g.h, base + i⟩ rfl
    refine .inl (evOp_ok2 cl hI.t (s := ⟨d.g.h, base + i⟩) hg hiok hev fun x E' w' q1 q2 q3 q4 => hK E' _ w' ?_)
    obtain ⟨r1, r2, r3⟩ := frame hI.h hI.dis q2 q3
    have hxi : xOf base ops.size allP d.x (base + i) = .none := by
      unfold xOf
      split
      · rw [Nat.add_sub_cancel_left]; exact hix
      · rfl
    have hlim := hI.lim2
    have hfun : ov (AS.new ⟨d.g.h, base + i⟩ c).get (xOf base ops.size allP d.x) = ov d.g.get (xOf base ops.size allP (updF d.x i c)) := by
      funext b
      by_cases e : b = base + i
      · subst e
        have e2 : xOf base ops.size allP (updF d.x i c) (base + i) = c := by
          unfold xOf
          rw [if_pos ⟨by omega, by omega, rfl⟩, Nat.add_sub_cancel_left]
          exact if_pos rfl
        rw [ov_none hxi, ov_some (by rw [e2]; exact hc0), e2]
        exact AS.get_new ⟨d.g.h, base + i⟩ c (by show base + i < _; omega)
      · have e2 : xOf base ops.size allP (updF d.x i c) b = xOf base ops.size allP d.x b := by
          unfold xOf
          split
          · exact if_neg (by omega)
          · rfl
        have e3 : (AS.new ⟨d.g.h, base + i⟩ c).get b = d.g.get b := AS.get_new_ne ⟨d.g.h, base + i⟩ c b e
        by_cases e4 : xOf base ops.size allP d.x b = .none
        · rw [ov_none e4, ov_none (e2.trans e4), e3]
        · rw [ov_some e4, ov_some (by rw [e2]; exact e4), e2]
    rw [hfun] at r1 r2
    refine ⟨updT_TR (hI.t.mono q3.le) q1 hd, r1, hI.lim, hI.lim2, fun b hb => ?_, fun k hk => ?_, fun b hb => ?_, hI.stp.trans r2, fun b hb => ?_, (put_defers _ _ _).trans hI.df⟩
    · rcases q4.ok b hb with h1 | h1
      · exact hI.fresh b h1
      · have := hI.lim
        have h2 : b < base + i + 1 := h1.2
        show b < d.g.n
        omega
    · obtain ⟨u1, u2, u3⟩ := un' k hk
      refine ⟨u1, fun hok => ?_, by show updF d.x i c k = _; rw [show updF d.x i c k = d.x k from if_neg (hR k hk).2]; exact u3⟩
      rcases q4.ok _ hok with h1 | h1
      · exact u2 h1
      · have h2 : base + k < base + i + 1 := h1.2
        have h3 : base + i ≤ base + k := h1.1
        exact (hR k hk).2 (by omega)
    · by_cases e : b = base + i
      · subst e
        cases hgn : d.g.get (base + i) with
        | none => rfl
        | _ => exact absurd (hg.at_ (base + i) (by rw [hgn]; intro e; cases e)).1 hiok
      · refine hI.dis b ?_
        have e2 : xOf base ops.size allP (updF d.x i c) b = xOf base ops.size allP d.x b := by
          unfold xOf
          split
          · exact if_neg (by omega)
          · rfl
        rw [← e2]
        exact hb
    · rcases q4.ok b hb with h1 | h1
      · exact hI.ok b h1
      · have := hI.lim
        have h2 : b < base + i + 1 := h1.2
        have h3 : base + i ≤ b := h1.1
        right
        exact ⟨by omega, by show b < d.g.n; omega⟩
  · unfold wpOp
    rw [ho]
    dsimp only
    rw [if_pos (wantF_ok hI.t hw)]
    have hlim := hI.lim2
    -- the blocks that it waits for, and those aside
    have hpre : (preA base (fun k => anc k i) d.x ops.size d.g).get = ov d.g.get (xOf base ops.size (fun k => anc k i) d.x) := funext fun b => preA_get hlim b
    have hsplit : ov (preA base (fun k => anc k i) d.x ops.size d.g).get (xOf base ops.size (fun k => !anc k i) d.x) = ov d.g.get (xOf base ops.size allP d.x) := by
      funext b
      rw [hpre]
      by_cases hb : base ≤ b ∧ b < base + ops.size
      · have e0 : xOf base ops.size allP d.x b = d.x (b - base) := if_pos ⟨hb.1, hb.2, rfl⟩
        cases ha : anc (b - base) i with
        | true =>
          have e1 : xOf base ops.size (fun k => !anc k i) d.x b = .none := if_neg (by simp [ha])
          have e2 : xOf base ops.size (fun k => anc k i) d.x b = d.x (b - base) := if_pos ⟨hb.1, hb.2, ha⟩
          rw [ov_none e1]
          unfold ov
          rw [e0, e2]
        | false =>
          have e1 : xOf base ops.size (fun k => !anc k i) d.x b = d.x (b - base) := if_pos ⟨hb.1, hb.2, by simp [ha]⟩
          have e2 : xOf base ops.size (fun k => anc k i) d.x b = .none := if_neg (by simp [ha])
          unfold ov
          rw [e0, e1, e2]
      · have e0 : xOf base ops.size allP d.x b = .none := if_neg (fun h => hb ⟨h.1, h.2.1⟩)
        have e1 : xOf base ops.size (fun k => !anc k i) d.x b = .none := if_neg (fun h => hb ⟨h.1, h.2.1⟩)
        have e2 : xOf base ops.size (fun k => anc k i) d.x b = .none := if_neg (fun h => hb ⟨h.1, h.2.1⟩)
        rw [ov_none e0, ov_none e1, ov_none e2]
    have hdis2 : ∀ b, xOf base ops.size (fun k => !anc k i) d.x b ≠ .none → (preA base (fun k => anc k i) d.x ops.size d.g).get b = .none := by
      intro b hb
      unfold xOf at hb
      split at hb
      · rename_i h1
        obtain ⟨h1, h2, h3⟩ := h1
        have e2 : xOf base ops.size (fun k => anc k i) d.x b = .none := if_neg (fun h => by simp [h.2.2] at h3)
        rw [hpre, ov_none e2]
        exact hI.dis b (by rw [show xOf base ops.size allP d.x b = d.x (b - base) from if_pos ⟨h1, h2, rfl⟩]; exact hb)
      · exact absurd rfl hb
    have hI2 := hI.h
    rw [← hsplit] at hI2
    have hg : HR E (preA base (fun k => anc k i) d.x ops.size d.g).get w := hI2.sub fun b hb => by
      by_cases e : xOf base ops.size (fun k => !anc k i) d.x b = .none
      · rw [ov_none e]
      · exact absurd (hdis2 b e) hb
    have hn := preA_n base (fun k => anc k i) d.x d.g ops.size
    refine .inl (evOp_ok hc hI.t hg (by rw [hn]; exact hI.fresh) hv fun x E' w' q1 q2 q3 q4 => hK E' _ w' ?_)
    obtain ⟨r1, r2, r3⟩ := frame hI2 hdis2 q2 q3
    rw [hn] at q4
    have hfun : xOf base ops.size (fun k => !anc k i) d.x = xOf base ops.size allP (fun k => if anc k i = true then .none else d.x k) := by
      funext b
      unfold xOf
      by_cases hb : base ≤ b ∧ b < base + ops.size
      · rw [if_pos (⟨hb.1, hb.2, rfl⟩ : base ≤ b ∧ b < base + ops.size ∧ allP (b - base) = true)]
        cases ha : anc (b - base) i with
        | true =>
          rw [if_neg (by simp [ha])]
          exact (if_pos ha).symm
        | false =>
          rw [if_pos ⟨hb.1, hb.2, by simp [ha]⟩]
          exact (if_neg (by rw [ha]; intro e; cases e)).symm
      · rw [if_neg (fun h => hb ⟨h.1, h.2.1⟩), if_neg (fun h => hb ⟨h.1, h.2.1⟩)]
    rw [hfun] at r1 r2 r3
    have hle := q4.le
    have hsp := hI.stp
    rw [← hsplit, hfun] at hsp
    refine ⟨updT_TR (hI.t.mono q3.le) q1 hd, r1, Nat.le_trans hI.lim hle, hI.lim2, hI.fresh.grow q4, fun k hk => ?_, r3, hsp.trans r2, fun b hb => ?_, (put_defers _ _ _).trans hI.df⟩
    · obtain ⟨u1, u2, u3⟩ := un' k hk
      refine ⟨u1, fun hok => ?_, ?_⟩
      · rcases q4.ok _ hok with h1 | h1
        · exact u2 h1
        · have := hI.lim
          omega
      · show (if anc k i = true then AB.none else d.x k) = .none
        split
        · rfl
        · exact u3
    · have := hI.lim
      rcases q4.ok b hb with h1 | h1
      · rcases hI.ok b h1 with h2 | h2
        · exact .inl h2
        · right; exact ⟨h2.1, by show b < g'.n; omega⟩
      · right; exact ⟨by omega, h1.2⟩
  · exact plain .undef _ hw (hv d.g rfl) rfl rfl rfl rfl
end Go.Proofs.YtambgppdjlhdaaaGreatDoor
