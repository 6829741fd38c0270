/-
  The abstract machine: functions that range over a function that goes through a slice from its end. No program.
-/
import Derived.Test.YtambgppdjlhdaaaGreatDoorEwA
import Derived.RangeFuncRecord
import Derived.RangeFuncSeq
import Derived.TacticsIn
namespace Go.Proofs.YtambgppdjlhdaaaGreatDoor
open Go.RowKit

/-- An operation in a round. -/
theorem oper_round {P : Program} {o : Oper} {a : Act} {w : World} {next : Act → World → Prop} {Q : Exit → Act → World → Prop} {l n : Nat} (hd : ∀ c, o.op ≠ .defer c) (h : o.wp P a w next Q) : o.wpIn (Fence.wide.inRound l) n P a w next Q := by
  have hdep : (Fence.wide.inRound l).depth.isSome = true → 1 ≤ n := fun h => by cases h
  refine ⟨fun f _ => trivial, ?_⟩
  show o.uponIn (Fence.wide.inRound l) n P a next Q ((o.semAt (some l) a.eval).run P w)
  rw [Oper.semAt_some l _ o hd]
  unfold Oper.wp at h
  generalize (execOp a.eval o).run P w = rr at h ⊢
  unfold Oper.upon at h
  split at h
  · exact h
  · exact h
  · exact h
  · exact ⟨hdep, CallsIn.mono (callsIn_wide.2 h) fun e w' hq => by cases e <;> exact hq⟩
  · exact ⟨hdep, fun c cs _ => let ⟨v, w', r, s⟩ := h c cs; ⟨v, w', r, stepsIn_wide.2 s⟩⟩
  · exact h
  · exact h.elim
noncomputable def noDef : List Oper → Bool
  | [] => true
  | o :: l => match o.op with
    | .defer _ => false
    | _ => noDef l
theorem noDef_ok : ∀ {l : List Oper}, noDef l = true → ∀ o ∈ l, ∀ c, o.op ≠ .defer c
  | [], _, o, ho, _, _ => by cases ho
  | x :: l, h, o, ho, c, e => by
    unfold noDef at h
    split at h
    · cases h
    · rename_i hx
      rcases List.mem_cons.1 ho with rfl | ho
      · exact hx c e
      · exact noDef_ok h o ho c e
theorem opsR_ok [Tab] {P : Program} {call : Nat → List AV → AS → Option (AV × AS)} (hc : CallOK P call) {ops : Array Oper} {nt l n : Nat} {Q : Exit → Act → World → Prop} : ∀ (L : List Oper) (t : Tr AV) (s : AS) (t' : Tr AV) (s' : AS), (∀ o ∈ L, ∀ c, o.op ≠ .defer c) → evOps P call ops nt L t s = some (t', s') →
    ∀ (E : AEnv) (a : Act) (w : World), TR E nt (t.get .top) a → HR E s.get w → Fresh E s.n →
    (∀ E' a' w', TR E' nt (t'.get .top) a' → HR E' s'.get w' → Stp E s.get w E' s'.get w' → Grow E s.n E' s'.n → a'.defers = a.defers → Q .normal a' w') → wpListIn (Fence.wide.inRound l) n P ops Q L a w
  | [], t, s, t', s', _, he, E, a, w, ht, h, hf, hq => by
    injection he with he
    injection he with e1 e2
    subst e1
    subst e2
    exact hq E a w ht h (Stp.refl _ _ _) (Grow.refl _ _) rfl
  | o :: r, t, s, t', s', hnd, he, E, a, w, ht, h, hf, hq => by
    have hr : ∀ o' ∈ r, ∀ c, o'.op ≠ .defer c := fun o' ho' => hnd o' (List.mem_cons_of_mem _ ho')
    unfold wpListIn
    unfold evOps at he
    split at he
    · cases he
    · rename_i hw
      split at he
      · cases he
      · rename_i t1 hp
        have hw' := wantA_ok ht hw
        rw [if_neg (by rw [hw']; intro e; cases e)]
        exact ⟨fun f _ => trivial, opsR_ok hc r t1 s t' s' hr he E _ w (ht.putT .undef hp) h hf fun E' a' w' q1 q2 q3 q4 q5 => hq E' a' w' q1 q2 q3 q4 (q5.trans (put_defers _ _ _))⟩
    · rename_i hw
      split at he
      · cases he
      · rename_i q hop
        split at he
        · cases he
        · rename_i t1 hp
          have hw' := wantA_ok ht hw
          obtain ⟨v, s1⟩ := q
          dsimp only at hp he
          rw [if_pos hw']
          exact oper_round (hnd o List.mem_cons_self) (evOp_ok hc ht h hf hop fun x E1 w1 q1 q2 q3 q4 => opsR_ok hc r t1 s1 t' s' hr he E1 _ w1 ((ht.mono q3.le).putT q1 hp) q2 (hf.grow q4) fun E' a' w' p1 p2 p3 p4 p5 => hq E' a' w' p1 p2 (q3.trans p3) (q4.trans p4) (p5.trans (put_defers _ _ _)))
/-- Code in a round: what draws nothing, and does not branch. -/
noncomputable def evR (P : Program) (call : Nat → List AV → AS → Option (AV × AS)) (nt : Nat) : Code → Tr AV → AS → Option (Tr AV × AS)
  | .skip, t, s => some (t, s)
  | .seq x y, t, s => match evR P call nt x t s with
    | some q => evR P call nt y q.1 q.2
    | none => none
  | .region _ ops false, t, s => cond (noDef ops.toList) (evOps P call ops nt ops.toList t s) none
  | .block _ x, t, s => evR P call nt x t s
  | _, _, _ => none
noncomputable def PostR [Tab] (E : AEnv) (nt : Nat) (s : AS) (w : World) (t' : Tr AV) (s' : AS) (e : Exit) (a' : Act) (w' : World) : Prop :=
  e = .normal ∧ ∃ E', TR E' nt (t'.get .top) a' ∧ HR E' s'.get w' ∧ Stp E s.get w E' s'.get w' ∧ Grow E s.n E' s'.n
theorem evR_ok [Tab] {P : Program} {call : Nat → List AV → AS → Option (AV × AS)} (hc : CallOK P call) {nt l n : Nat} : ∀ (c : Code) (t : Tr AV) (s : AS) (t' : Tr AV) (s' : AS), evR P call nt c t s = some (t', s') →
    ∀ (E : AEnv) (a : Act) (w : World), TR E nt (t.get .top) a → HR E s.get w → Fresh E s.n → c.wpIn (Fence.wide.inRound l) n P (PostR E nt s w t' s') a w
  | .skip, t, s, t', s', he, E, a, w, ht, h, hf => by
    injection he with he
    injection he with e1 e2
    subst e1
    subst e2
    exact wpIn_skip ⟨rfl, E, ht, h, Stp.refl _ _ _, Grow.refl _ _⟩
  | .seq x y, t, s, t', s', he, E, a, w, ht, h, hf => by
    unfold evR at he
    split at he
    · rename_i q hq
      obtain ⟨t1, s1⟩ := q
      refine wpIn_seq (wpIn_mono (evR_ok hc x t s t1 s1 hq E a w ht h hf) fun e a1 w1 hp => ?_)
      obtain ⟨rfl, E1, p1, p2, p3, p4⟩ := hp
      refine wpIn_mono (evR_ok hc y t1 s1 t' s' he E1 a1 w1 p1 p2 (hf.grow p4)) fun e a2 w2 hp => ?_
      obtain ⟨rfl, E2, q1, q2, q3, q4⟩ := hp
      exact ⟨rfl, E2, q1, q2, p3.trans q3, p4.trans q4⟩
    · cases he
  | .region id ops false, t, s, t', s', he, E, a, w, ht, h, hf => by
    unfold evR at he
    cases hn : noDef ops.toList with
    | false => rw [hn] at he; cases he
    | true =>
      rw [hn] at he
      exact wpIn_region_list (opsR_ok hc ops.toList t s t' s' (noDef_ok hn) he E a w ht h hf fun E' a' w' q1 q2 q3 q4 _ => ⟨rfl, E', q1, q2, q3, q4⟩)
  | .region _ _ true, _, _, _, _, he, _, _, _, _, _, _ => by cases he
  | .cond _ _ _, _, _, _, _, he, _, _, _, _, _, _ => by cases he
  | .block _ x, t, s, t', s', he, E, a, w, ht, h, hf => by
    refine wpIn_block (wpIn_mono (evR_ok hc x t s t' s' he E a w ht h hf) fun e a1 w1 hp => ?_)
    obtain ⟨rfl, hp⟩ := hp
    exact ⟨rfl, hp⟩
  | .loop _, _, _, _, _, he, _, _, _, _, _, _ => by cases he
  | .rangeFunc _ _ _ _, _, _, _, _, he, _, _, _, _, _, _ => by cases he
  | .exit _, _, _, _, _, he, _, _, _, _, _, _ => by cases he
  | .scope _, _, _, _, _, he, _, _, _, _, _, _ => by cases he
  | .label _, _, _, _, _, he, _, _, _, _, _, _ => by cases he
  | .goto _, _, _, _, _, he, _, _, _, _, _, _ => by cases he
  | .ret, _, _, _, _, he, _, _, _, _, _, _ => by cases he
  | .refuse _, _, _, _, _, he, _, _, _, _, _, _ => by cases he
/-- Blocks that no one knows of: a loop's record, a block for deferred calls. -/
noncomputable def Hid (o : Obj) : Prop := (∃ r, o = .loop r) ∨ ∃ r, o = .deferred r
theorem Hid.not {o : Obj} (h : Hid o) {E : AEnv} {b : Nat} {x : AB} (hx : x ≠ .none) : ¬ BR E b x o := by
  rcases h with ⟨r, rfl⟩ | ⟨r, rfl⟩ <;> cases x <;> first
    | exact absurd rfl hx
    | (rintro ⟨_, h, _⟩; cases h; done)
    | (rintro ⟨_, _, h, _⟩; cases h; done)
    | (rintro ⟨_, _, _, h, _⟩; cases h; done)
theorem HR.unk [Tab] {E : AEnv} {g : Nat → AB} {w : World} (h : HR E g w) {l : Nat} {o : Obj} (hl : w.heap[l]? = some o) (ho : Hid o) : ∀ b, g b ≠ .none → E.r b ≠ l := fun b hb e => by
  obtain ⟨_, _, o', h1, h2⟩ := h.at_ b hb
  rw [e, hl] at h1
  injection h1 with h1
  rw [← h1] at h2
  exact ho.not hb h2
theorem Stp.hid [Tab] {E E' : AEnv} {g g' : Nat → AB} {w w' : World} (h : HR E g w) (hs : Stp E g w E' g' w') {l : Nat} {o : Obj} (hl : w.heap[l]? = some o) (ho : Hid o) : w'.heap[l]? = some o :=
  (hs.keep l (Array.getElem?_eq_some_iff.1 hl).1 (h.unk hl ho)).trans hl
theorem HR.putHid [Tab] {E0 E : AEnv} {g0 g : Nat → AB} {w0 w : World} (h0 : HR E0 g0 w0) (h : HR E g w) (hs : Stp E0 g0 w0 E g w) {l : Nat} {o : Obj} (hl : w.heap[l]? = some o) (ho : Hid o) (hge : w0.heap.size ≤ l) (o' : Obj) : HR E g (w.putObj l o') ∧ Stp E0 g0 w0 E g (w.putObj l o') := by
  have hu := h.unk hl ho
  have hz := h0.tab.size
  refine ⟨⟨⟨fun b hb => ?_, h.inj⟩, ⟨h.tab.os, h.tab.tape, h.tab.output, by rw [World.putObj_size]; exact h.tab.size, fun d hd => (World.putObj_heap_other (by omega)).trans (h.tab.block d hd)⟩, h.apart⟩,
    ⟨hs.os, hs.tape, hs.output, by rw [World.putObj_size]; exact hs.size, hs.le, hs.z, fun d hd hn => (World.putObj_heap_other (by omega)).trans (hs.keep d hd hn), hs.dom⟩⟩
  obtain ⟨q1, q2, o1, q3, q4⟩ := h.at_ b hb
  exact ⟨q1, q2, o1, (World.putObj_heap_other (hu b hb)).trans q3, q4⟩
/-- A function that goes through a slice, of rows of so many cells, from its end. -/
structure BackOK (P : Program) (f sz : Nat) : Prop where
  fn : ∃ fn, P.funcs[f]? = some fn ∧ fn.body.isNone = false ∧ (fn.name == "runtime.NumGoroutine") = false
  row : ∀ (l Bs b off len : Nat) (J : Nat → World → Prop) (W : World), len ≤ 1000000 →
    (∀ k W, J k W → ∃ cap, W.cell? ⟨Bs, 0, none⟩ = some (.slice (some ⟨b, off, none⟩) len cap)) →
    (∀ k W, J (k + 1) W → k < len → ∃ xs : List Value, xs.length = sz ∧ (∀ (i : Nat) x, xs[i]? = some x → W.cell? ⟨b, off + k * sz + i, none⟩ = some x) ∧ YieldAt Fence.wide 0 P l #[.int .i64 k, .agg xs.toArray] W fun e W' => e = .returned (.bool true) ∧ J k W') →
    J len W → Calls P f #[.func (.yield l) #[] #[], .pointer (some ⟨Bs, 0, none⟩)] W fun e W' => (∃ v, e = .returned v) ∧ J 0 W'
  nil : ∀ (l Bs : Nat) (J : World → Prop) (W : World), W.cell? ⟨Bs, 0, none⟩ = some (.slice none 0 0) → J W →
    Calls P f #[.func (.yield l) #[] #[], .pointer (some ⟨Bs, 0, none⟩)] W fun e W' => (∃ v, e = .returned v) ∧ J W'
noncomputable def rangeOf (x : Code) : Option (Operand × Nat × Nat × Code × Code) := match x with
  | .block _ (.rangeFunc g ps asg body) => match ps.toList with
    | [p0, p1] => some (g, p0, p1, asg, body)
    | _ => none
  | _ => none
theorem rangeOf_ok {x : Code} {g : Operand} {p0 p1 : Nat} {asg body : Code} (h : rangeOf x = some (g, p0, p1, asg, body)) : ∃ i, x = .block i (.rangeFunc g #[p0, p1] asg body) := by
  unfold rangeOf at h
  split at h
  · split at h
    · rename_i i0 _ ps _ _ _ q0 q1 hl
      injection h with h
      injection h with e1 h
      injection h with e2 h
      injection h with e3 h
      injection h with e4 e5
      subst e1
      subst e2
      subst e3
      subst e4
      subst e5
      refine ⟨i0, ?_⟩
      congr 2
      apply Array.ext'
      exact hl
    · cases h
  · cases h
noncomputable def rowA (s : AS) (g p sz : Nat) : Option (List AV) := match s.get g with
  | .cells cs _ => cond (Nat.ble (Nat.add p sz) cs.length) (some ((cs.drop p).take sz)) none
  | _ => none
noncomputable def boxV (s : AS) (b : Nat) : Option AV := match s.get b with
  | .cells [v] _ => some v
  | _ => none
noncomputable def slA (v : AV) : Option (Nat × Nat × Nat) := match v with
  | .sl g o n _ => some (g, o, n)
  | .slu g o n _ => some (g, o, n)
  | _ => none
/-- The box still holds the slice. -/
noncomputable def holdsB (s : AS) (b g o n : Nat) : Bool := match boxV s b with
  | some v => match slA v with
    | some q => Nat.beq q.1 g && (Nat.beq q.2.1 o && Nat.beq q.2.2 n)
    | none => false
  | none => false
noncomputable def rdA (P : Program) (call : Nat → List AV → AS → Option (AV × AS)) (nt p0 p1 : Nat) (asg body : Code) (t : Tr AV) (b g o n sz : Nat) : Nat → AS → Option AS
  | 0, s => cond (holdsB s b g o n) (some s) none
  | k + 1, s => cond (holdsB s b g o n) (match rowA s g (Nat.add o (Nat.mul k sz)) sz with
    | none => none
    | some xs => match putT nt t (some p0) (.int .i64 (Int.ofNat k)) with
      | none => none
      | some t1 => match putT nt t1 (some p1) (.agg xs) with
        | none => none
        | some t2 => match evR P call nt asg t2 s with
          | none => none
          | some q => match evR P call nt body q.1 q.2 with
            | none => none
            | some r => rdA P call nt p0 p1 asg body t b g o n sz k r.2) none
noncomputable def rgA (P : Program) (call : Nat → List AV → AS → Option (AV × AS)) (nt p0 p1 : Nat) (asg body : Code) (t : Tr AV) (b sz : Nat) (s : AS) : Option AS := match boxV s b with
  | none => none
  | some v => match v with
    | .nils => some s
    | v => match slA v with
      | some q => cond (Nat.ble q.2.2 1000000) (rdA P call nt p0 p1 asg body t b q.1 q.2.1 q.2.2 sz q.2.2 s) none
      | none => none
theorem boxV_ok [Tab] {E : AEnv} {s : AS} {w : World} (h : HR E s.get w) {b : Nat} {v : AV} (hb : boxV s b = some v) : E.ok b ∧ ∃ x, w.cell? ⟨E.r b, 0, none⟩ = some x ∧ VR E v x := by
  unfold boxV at hb
  split at hb
  · rename_i u ty hg
    injection hb with hb
    subst hb
    obtain ⟨vs, q1, q2, q3⟩ := h.range hg (o := 0) (n := 1) (by simp)
    match vs, q1 with
    | [x], _ => exact ⟨h.ok (by rw [hg]; intro e; cases e), x, q3 0 x rfl, q2.head⟩
  · cases hb
theorem holdsB_ok [Tab] {E : AEnv} {s : AS} {w : World} (h : HR E s.get w) {b g o n : Nat} (hb : holdsB s b g o n = true) : E.ok b ∧ E.ok g ∧ ∃ cap, w.cell? ⟨E.r b, 0, none⟩ = some (.slice (some ⟨E.r g, o, none⟩) n cap) := by
  unfold holdsB at hb
  split at hb
  · rename_i v hv
    obtain ⟨h0, x, h1, h2⟩ := boxV_ok h hv
    split at hb
    · rename_i q hq
      rw [Bool.and_eq_true, Bool.and_eq_true] at hb
      obtain ⟨e1, e2, e3⟩ := hb
      have e1 := Nat.eq_of_beq_eq_true e1
      have e2 := Nat.eq_of_beq_eq_true e2
      have e3 := Nat.eq_of_beq_eq_true e3
      subst e1
      subst e2
      subst e3
      unfold slA at hq
      split at hq
      · injection hq with hq
        subst hq
        cases h2
        exact ⟨h0, by assumption, _, h1⟩
      · injection hq with hq
        subst hq
        cases h2
        exact ⟨h0, by assumption, _, h1⟩
      · cases hq
    · cases hb
  · cases hb
theorem rowA_ok [Tab] {E : AEnv} {s : AS} {w : World} (h : HR E s.get w) {g p sz : Nat} {xs : List AV} (hr : rowA s g p sz = some xs) : ∃ vs : List Value, vs.length = sz ∧ VL E xs vs ∧ ∀ (i : Nat) x, vs[i]? = some x → w.cell? ⟨E.r g, p + i, none⟩ = some x := by
  unfold rowA at hr
  split at hr
  · rename_i cs ty hg
    cases hb : Nat.ble (Nat.add p sz) cs.length with
    | false => rw [hb] at hr; cases hr
    | true =>
      rw [hb] at hr
      injection hr with hr
      subst hr
      obtain ⟨vs, q1, q2, q3⟩ := h.range hg (o := p) (n := sz) (Nat.le_of_ble_eq_true hb)
      exact ⟨vs, q1, q2, q3⟩
  · cases hr
/-- One round. -/
theorem round_ok [Tab] {P : Program} {call : Nat → List AV → AS → Option (AV × AS)} (hc : CallOK P call) {nt p0 p1 fn D l : Nat} {asg body : Code} {t t1 t2 t3 t4 : Tr AV} {k : Nat} {xs : List AV} {vs : List Value} {sk s3 s4 : AS}
    (hp1 : putT nt t (some p0) (.int .i64 (Int.ofNat k)) = some t1) (hp2 : putT nt t1 (some p1) (.agg xs) = some t2) (h3 : evR P call nt asg t2 sk = some (t3, s3)) (h4 : evR P call nt body t3 s3 = some (t4, s4))
    {E E' : AEnv} {s : AS} {a : Act} {w W : World} (h0 : HR E s.get w) (ht : TR E' nt (t.get .top) a) (h : HR E' sk.get W) (hs : Stp E s.get w E' sk.get W) (hg : Grow E s.n E' sk.n) (hf : Fresh E s.n) (hv : VL E' xs vs) (hge : w.heap.size ≤ l)
    (hl : W.heap[l]? = some (.loop { state := .ready, pending := none, fn := fn, tmps := a.tmps, params := #[p0, p1], assign := asg, body := body, defers := D })) (hD : W.heap[D]? = some (.deferred (some []))) (hDl : D ≠ l) :
    YieldAt Fence.wide 0 P l #[.int .i64 k, .agg vs.toArray] W fun e W' => e = .returned (.bool true) ∧ ∃ F, HR F s4.get W' ∧ Stp E s.get w F s4.get W' ∧ Grow E s.n F s4.n ∧ E'.le F ∧
      W'.heap[l]? = some (.loop { state := .ready, pending := none, fn := fn, tmps := a.tmps, params := #[p0, p1], assign := asg, body := body, defers := D }) ∧ W'.heap[D]? = some (.deferred (some [])) := by
  have ha : TR E' nt (t.get .top) { tmps := a.tmps, defers := [] } := ⟨ht.size, ht.lim, ht.at_⟩
  have ht2 := (ha.putT (.int .i64 (Int.ofNat k)) hp1).putT (VL.agg (a := vs.toArray) (by simpa using hv)) hp2
  refine ⟨_, _, _, _, run_yield hl rfl, roundIn_of_wpIn trivial ?_⟩
  refine wpIn_mono (evR_ok hc asg t2 sk t3 s3 h3 E' _ W (by simpa [Act.put] using ht2) h (hf.grow hg)) fun e a1 w1 hp => ?_
  obtain ⟨rfl, E2, q1, q2, q3, q4⟩ := hp
  have hl1 := q3.hid h hl (.inl ⟨_, rfl⟩)
  have hD1 := q3.hid h hD (.inr ⟨_, rfl⟩)
  obtain ⟨r1, r2⟩ := h0.putHid q2 (hs.trans q3) hl1 (.inl ⟨_, rfl⟩) hge (.loop { state := .busy, pending := none, fn := fn, tmps := a.tmps, params := #[p0, p1], assign := asg, body := body, defers := D })
  have hlt1 := (Array.getElem?_eq_some_iff.1 hl1).1
  refine ⟨_, run_beginRound hl1 rfl, ?_⟩
  have hl2 : (w1.putObj l (.loop { state := .busy, pending := none, fn := fn, tmps := a.tmps, params := #[p0, p1], assign := asg, body := body, defers := D })).heap[l]? = some (.loop { state := .busy, pending := none, fn := fn, tmps := a.tmps, params := #[p0, p1], assign := asg, body := body, defers := D }) := World.putObj_heap_same hlt1
  have hD2 : (w1.putObj l (.loop { state := .busy, pending := none, fn := fn, tmps := a.tmps, params := #[p0, p1], assign := asg, body := body, defers := D })).heap[D]? = some (.deferred (some [])) := (World.putObj_heap_other hDl).trans hD1
  refine wpIn_mono (evR_ok hc body t3 s3 t4 s4 h4 E2 a1 _ q1 r1 ((hf.grow hg).grow q4)) fun e a2 w3 hp => ?_
  obtain ⟨rfl, E3, u1, u2, u3, u4⟩ := hp
  have hl3 := u3.hid r1 hl2 (.inl ⟨_, rfl⟩)
  have hD3 := u3.hid r1 hD2 (.inr ⟨_, rfl⟩)
  obtain ⟨v1, v2⟩ := h0.putHid u2 (r2.trans u3) hl3 (.inl ⟨_, rfl⟩) hge (.loop { state := .ready, pending := none, fn := fn, tmps := a.tmps, params := #[p0, p1], assign := asg, body := body, defers := D })
  have hlt3 := (Array.getElem?_eq_some_iff.1 hl3).1
  exact ⟨_, _, run_endRound none hl3, rfl, E3, v1, v2, hg.trans (q4.trans u4), q3.le.trans u3.le, World.putObj_heap_same hlt3, (World.putObj_heap_other hDl).trans hD3⟩
noncomputable def JR [Tab] (P : Program) (call : Nat → List AV → AS → Option (AV × AS)) (nt p0 p1 : Nat) (asg body : Code) (t : Tr AV) (b g o n sz : Nat) (sE : AS) (E E1 : AEnv) (s : AS) (w : World) (l D : Nat) (rec : Loop) (k : Nat) (W : World) : Prop :=
  ∃ sk F, rdA P call nt p0 p1 asg body t b g o n sz k sk = some sE ∧ HR F sk.get W ∧ Stp E s.get w F sk.get W ∧ Grow E s.n F sk.n ∧ E1.le F ∧ W.heap[l]? = some (.loop rec) ∧ W.heap[D]? = some (.deferred (some []))
theorem rdA_holds {P : Program} {call : Nat → List AV → AS → Option (AV × AS)} {nt p0 p1 : Nat} {asg body : Code} {t : Tr AV} {b g o n sz k : Nat} {s sE : AS} (h : rdA P call nt p0 p1 asg body t b g o n sz k s = some sE) : holdsB s b g o n = true := by
  cases hb : holdsB s b g o n with
  | true => rfl
  | false => cases k <;> (unfold rdA at h; rw [hb] at h; cases h)
/-- All rounds, within the call of the function that goes through the slice. -/
theorem rounds_ok [Tab] {P : Program} {call : Nat → List AV → AS → Option (AV × AS)} (hc : CallOK P call) {nt p0 p1 fn D l f sz b g o n : Nat} {asg body : Code} {t : Tr AV} {s1 sE : AS} (hB : BackOK P f sz) (hr : rdA P call nt p0 p1 asg body t b g o n sz n s1 = some sE) (hn : n ≤ 1000000)
    {E E1 : AEnv} {s : AS} {a : Act} {w W : World} (h0 : HR E s.get w) (ht : TR E1 nt (t.get .top) a) (h : HR E1 s1.get W) (hs : Stp E s.get w E1 s1.get W) (hg : Grow E s.n E1 s1.n) (hf : Fresh E s.n) (hge : w.heap.size ≤ l)
    (hl : W.heap[l]? = some (.loop { state := .ready, pending := none, fn := fn, tmps := a.tmps, params := #[p0, p1], assign := asg, body := body, defers := D })) (hD : W.heap[D]? = some (.deferred (some []))) (hDl : D ≠ l) :
    Calls P f #[.func (.yield l) #[] #[], .pointer (some ⟨E1.r b, 0, none⟩)] W fun e W' => (∃ v, e = .returned v) ∧ ∃ F, HR F sE.get W' ∧ Stp E s.get w F sE.get W' ∧ Grow E s.n F sE.n ∧ E1.le F ∧
      W'.heap[l]? = some (.loop { state := .ready, pending := none, fn := fn, tmps := a.tmps, params := #[p0, p1], assign := asg, body := body, defers := D }) ∧ W'.heap[D]? = some (.deferred (some [])) := by
  obtain ⟨hb1, hg1, _⟩ := holdsB_ok h (rdA_holds hr)
  refine (hB.row l (E1.r b) (E1.r g) o n (JR P call nt p0 p1 asg body t b g o n sz sE E E1 s w l D { state := .ready, pending := none, fn := fn, tmps := a.tmps, params := #[p0, p1], assign := asg, body := body, defers := D }) W hn (fun k W hJ => ?_) (fun k W hJ hk => ?_) ⟨s1, E1, hr, h, hs, hg, AEnv.le.refl _, hl, hD⟩).mono fun e W' hq => ?_
  · obtain ⟨sk, F, q0, q1, q2, q3, q4, q5, q6⟩ := hJ
    obtain ⟨_, _, cap, hcell⟩ := holdsB_ok q1 (rdA_holds q0)
    rw [q4.r b hb1, q4.r g hg1] at hcell
    exact ⟨cap, hcell⟩
  · obtain ⟨sk, F, q0, q1, q2, q3, q4, q5, q6⟩ := hJ
    have hh := rdA_holds q0
    unfold rdA at q0
    rw [hh] at q0
    simp only [cond_true] at q0
    split at q0
    · cases q0
    · rename_i xs hxs
      split at q0
      · cases q0
      · rename_i t1 hp1
        split at q0
        · cases q0
        · rename_i t2 hp2
          split at q0
          · cases q0
          · rename_i q h3
            obtain ⟨t3, s3⟩ := q
            dsimp only at q0
            split at q0
            · cases q0
            · rename_i r h4
              obtain ⟨t4, s4⟩ := r
              dsimp only at q0
              obtain ⟨vs, v1, v2, v3⟩ := rowA_ok q1 hxs
              rw [q4.r g hg1] at v3
              refine ⟨vs, v1, v3, ?_⟩
              obtain ⟨fn', tmps', asg', body', y1, y2⟩ := round_ok hc hp1 hp2 h3 h4 h0 (ht.mono q4) q1 q2 q3 hf v2 hge q5 q6 hDl
              refine ⟨fn', tmps', asg', body', y1, y2.mono fun e W' hq => ⟨hq.1, ?_⟩⟩
              obtain ⟨_, G, g1, g2, g3, g4, g5, g6⟩ := hq
              exact ⟨s4, G, q0, g1, g2, g3, q4.trans g4, g5, g6⟩
  · obtain ⟨hv, sk, F, q0, q1, q2, q3, q4, q5, q6⟩ := hq
    have hh := rdA_holds (k := 0) q0
    unfold rdA at q0
    rw [hh] at q0
    injection q0 with q0
    subst q0
    exact ⟨hv, F, q1, q2, q3, q4, q5, q6⟩
theorem loop_ok [Tab] {P : Program} {call : Nat → List AV → AS → Option (AV × AS)} (hc : CallOK P call) {nt p0 p1 fn D l f sz b : Nat} {asg body : Code} {t : Tr AV} {s1 sE : AS} (hB : BackOK P f sz) (hr : rgA P call nt p0 p1 asg body t b sz s1 = some sE)
    {E E1 : AEnv} {s : AS} {a : Act} {w W : World} (h0 : HR E s.get w) (ht : TR E1 nt (t.get .top) a) (h : HR E1 s1.get W) (hs : Stp E s.get w E1 s1.get W) (hg : Grow E s.n E1 s1.n) (hf : Fresh E s.n) (hge : w.heap.size ≤ l)
    (hl : W.heap[l]? = some (.loop { state := .ready, pending := none, fn := fn, tmps := a.tmps, params := #[p0, p1], assign := asg, body := body, defers := D })) (hD : W.heap[D]? = some (.deferred (some []))) (hDl : D ≠ l) :
    Calls P f #[.func (.yield l) #[] #[], .pointer (some ⟨E1.r b, 0, none⟩)] W fun e W' => (∃ v, e = .returned v) ∧ ∃ F, HR F sE.get W' ∧ Stp E s.get w F sE.get W' ∧ Grow E s.n F sE.n ∧ E1.le F ∧
      W'.heap[l]? = some (.loop { state := .ready, pending := none, fn := fn, tmps := a.tmps, params := #[p0, p1], assign := asg, body := body, defers := D }) ∧ W'.heap[D]? = some (.deferred (some [])) := by
  unfold rgA at hr
  split at hr
  · cases hr
  · rename_i v hv
    split at hr
    · injection hr with hr
      subst hr
      obtain ⟨hb, x, h1, h2⟩ := boxV_ok h hv
      cases h2
      exact hB.nil l (E1.r b) (fun W' => ∃ F, HR F s1.get W' ∧ Stp E s.get w F s1.get W' ∧ Grow E s.n F s1.n ∧ E1.le F ∧
        W'.heap[l]? = some (.loop { state := .ready, pending := none, fn := fn, tmps := a.tmps, params := #[p0, p1], assign := asg, body := body, defers := D }) ∧ W'.heap[D]? = some (.deferred (some []))) W h1 ⟨E1, h, hs, hg, AEnv.le.refl _, hl, hD⟩
    · split at hr
      · rename_i q hq
        obtain ⟨g, o, n⟩ := q
        dsimp only at hr
        cases hn : Nat.ble n 1000000 with
        | false => rw [hn] at hr; cases hr
        | true =>
          rw [hn] at hr
          exact rounds_ok hc hB hr (Nat.le_of_ble_eq_true hn) h0 ht h hs hg hf hge hl hD hDl
      · cases hr
/-- What a function leaves, panic or not. -/
noncomputable def FinE [Tab] (E : AEnv) (s : AS) (w : World) (v : AV) (s' : AS) (e : Ending) (w' : World) : Prop := CallEnd E s w v s' e w' ∨ ∃ u, v = .pan u ∧ PanEnd E s w u s' e w'
/-- Codes one behind the other. -/
noncomputable def evL (P : Program) (call : Nat → List AV → AS → Option (AV × AS)) (fuel nt : Nat) : List Code → Tr AV → AS → Option (Ex × Tr AV × AS)
  | [], t, s => some (.normal, t, s)
  | y :: r, t, s => match evC P (hooks P) call nt fuel y t s with
    | none => none
    | some q => match q.1 with
      | .normal => evL P call fuel nt r q.2.1 q.2.2
      | e => some (e, q.2.1, q.2.2)
noncomputable def KW (P : Program) (Q : Exit → Act → World → Prop) : List Code → Act → World → Prop
  | [], a, w => Q .normal a w
  | y :: r, a, w => y.wpIn Fence.wide 0 P (Exit.then (KW P Q r) Q) a w
theorem evL_ok [Tab] {P : Program} (hm : P.follows .mixedOrders = true) {call : Nat → List AV → AS → Option (AV × AS)} (hc : CallOK P call) {fuel nt : Nat} {Q : Exit → Act → World → Prop} : ∀ (l : List Code) (t : Tr AV) (s : AS) (e : Ex) (t' : Tr AV) (s' : AS), evL P call fuel nt l t s = some (e, t', s') →
    ∀ (E : AEnv) (a : Act) (w : World), TR E nt (t.get .top) a → HR E s.get w → Fresh E s.n → (∀ ex a' w', Post E nt a s w e t' s' ex a' w' → Q ex a' w') → KW P Q l a w
  | [], t, s, e, t', s', he, E, a, w, ht, h, hf, hq => by
    injection he with he
    injection he with e1 e2
    injection e2 with e2 e3
    subst e1
    subst e2
    subst e3
    exact hq .normal a w ⟨rfl, E, ht, h, Stp.refl _ _ _, Grow.refl _ _, rfl⟩
  | y :: r, t, s, e, t', s', he, E, a, w, ht, h, hf, hq => by
    unfold evL at he
    split at he
    · cases he
    · rename_i q hev
      obtain ⟨e1, t1, s1⟩ := q
      dsimp only at he
      refine wpIn_wide.2 (wp_mono (evC_ok (hooks_ok hm) hc fuel y t s e1 t1 s1 hev E a w ht h hf) fun ex a1 w1 hp => ?_)
      split at he
      · have hp' := hp
        obtain ⟨p0, E1, p1, p2, p3, p4, p5⟩ := hp'
        cases p0
        exact evL_ok hm hc r t1 s1 e t' s' he E1 a1 w1 p1 p2 (hf.grow p4) fun ex a' w' hpost => hq ex a' w' (hpost.trans p3 p4 p5)
      · rename_i hne
        injection he with he
        injection he with e2 e3
        injection e3 with e3 e4
        subst e2
        subst e3
        subst e4
        have := hq ex a1 w1 hp
        obtain ⟨p0, _⟩ := hp
        cases e1 <;> first
          | exact absurd rfl hne
          | (cases p0; exact this)
noncomputable def endR (P : Program) (rs : List ResultVar) (r : Option (Ex × Tr AV × AS)) : Option (AV × AS) := match r with
  | some (.normal, t, s) => endG P rs t s
  | some (.ret, t, s) => endG P rs t s
  | _ => none
noncomputable def raM (ih : Code → List Code → Tr AV → AS → Option (AV × AS)) (P : Program) (call : Nat → List AV → AS → Option (AV × AS)) (bk : Nat → Option Nat) (fuel nt : Nat) (rs : List ResultVar) (c : Code) (rest : List Code) (t : Tr AV) (s : AS) : Option (AV × AS) := match rangeOf c with
  | some r => match oev t r.1 with
    | .fn f [.ptr b 0] => match bk f with
      | some sz => match rgA P call nt r.2.1 r.2.2.1 r.2.2.2.1 r.2.2.2.2 t b sz s with
        | some sE => endR P rs (evL P call fuel nt rest t sE)
        | none => none
      | none => none
    | _ => none
  | none => match evC P (hooks P) call nt fuel c t s with
    | some (.normal, t1, s1) => match rest with
      | [] => endG P rs t1 s1
      | y :: r => ih y r t1 s1
    | some (.ret, t1, s1) => endG P rs t1 s1
    | some (.panic u, _, s1) => some (.pan u, s1)
    | _ => none
noncomputable def raA (P : Program) (call : Nat → List AV → AS → Option (AV × AS)) (bk : Nat → Option Nat) (fuel nt : Nat) (rs : List ResultVar) : Nat → Code → List Code → Tr AV → AS → Option (AV × AS)
  | 0, _, _, _, _ => none
  | k + 1, c, rest, t, s => match c with
    | .seq x y => raA P call bk fuel nt rs k x (y :: rest) t s
    | c => raM (raA P call bk fuel nt rs k) P call bk fuel nt rs c rest t s
theorem raA_ok [Tab] {P : Program} (hm : P.follows .mixedOrders = true) {call : Nat → List AV → AS → Option (AV × AS)} (hc : CallOK P call) {bk : Nat → Option Nat} (hbk : ∀ f sz, bk f = some sz → BackOK P f sz) {fuel nt : Nat} {fn : Func} : ∀ (k : Nat) (c : Code) (rest : List Code) (t : Tr AV) (s1 : AS) (v : AV) (s' : AS), raA P call bk fuel nt fn.results.toList k c rest t s1 = some (v, s') →
    ∀ (E E1 : AEnv) (s : AS) (a : Act) (w w1 : World), HR E s.get w → Fresh E s.n → TR E1 nt (t.get .top) a → HR E1 s1.get w1 → Stp E s.get w E1 s1.get w1 → Grow E s.n E1 s1.n → a.defers = [] → c.wpIn Fence.wide 0 P (Exit.then (KW P (bodyPostM Fence.wide 0 P fn (FinE E s w v s')) rest) (bodyPostM Fence.wide 0 P fn (FinE E s w v s'))) a w1
  | 0, _, _, _, _, _, _, he, _, _, _, _, _, _, _, _, _, _, _, _, _ => by cases he
  | k + 1, c, rest, t, s1, v, s', he, E, E1, s, a, w, w1, h0, hf, ht, h, hs, hg, hd => by
    unfold raA at he
    split at he
    · rename_i x y
      refine wpIn_seq (wpIn_mono (raA_ok hm hc hbk k x (y :: rest) t s1 v s' he E E1 s a w w1 h0 hf ht h hs hg hd) fun e a2 w2 hp => ?_)
      cases e <;> exact hp
    · unfold raM at he
      split at he
      · rename_i r hr
        obtain ⟨g, p0, p1, asg, body⟩ := r
        obtain ⟨blk, hx⟩ := rangeOf_ok hr
        subst hx
        dsimp only at he
        split at he
        · rename_i f b hgv
          split at he
          · rename_i sz hsz
            split at he
            · rename_i sE hrg
              have hB := hbk f sz hsz
              obtain ⟨cl, hcl, hbody, hnum⟩ := hB.fn
              have hval := oev_ok ht g
              rw [hgv] at hval
              obtain ⟨caps, hx, hcaps⟩ := hval.fn_inv
              obtain ⟨y0, rfl, hy0⟩ : ∃ y0, caps = #[y0] ∧ VR E1 (.ptr b 0) y0 := by
                match hx2 : caps.toList, hcaps with
                | [y0], hcaps => exact ⟨y0, by apply Array.ext'; rw [hx2], hcaps.head⟩
                | [], hcaps => have := hcaps.len; simp at this
                | _ :: _ :: _, hcaps => have := hcaps.len; simp at this
              cases hy0
              refine wpIn_block (wpIn_rangeFunc fun fn' _ => ?_)
              -- the two blocks
              have b1 : Below w1.heap.size w1 (w1.alloc (.deferred (some []))) := (Below.refl _ _).alloc (Nat.le_refl _) _
              have b2 : Below w1.heap.size w1 ((w1.alloc (.deferred (some []))).alloc (.loop { state := .ready, pending := none, fn := fn', tmps := a.tmps, params := #[p0, p1], assign := asg, body := body, defers := w1.heap.size })) := b1.alloc (by simp) _
              have hW := h.below b2
              have hSW := hs.trans (Stp.ofBelow b2)
              have hl : ((w1.alloc (.deferred (some []))).alloc (.loop { state := .ready, pending := none, fn := fn', tmps := a.tmps, params := #[p0, p1], assign := asg, body := body, defers := w1.heap.size })).heap[w1.heap.size + 1]? = some (.loop { state := .ready, pending := none, fn := fn', tmps := a.tmps, params := #[p0, p1], assign := asg, body := body, defers := w1.heap.size }) := by
                have := World.alloc_heap_new (w1.alloc (.deferred (some []))) (.loop { state := .ready, pending := none, fn := fn', tmps := a.tmps, params := #[p0, p1], assign := asg, body := body, defers := w1.heap.size })
                rwa [World.size_alloc] at this
              have hD : ((w1.alloc (.deferred (some []))).alloc (.loop { state := .ready, pending := none, fn := fn', tmps := a.tmps, params := #[p0, p1], assign := asg, body := body, defers := w1.heap.size })).heap[w1.heap.size]? = some (.deferred (some [])) := by
                have h1 := World.alloc_heap_new w1 (.deferred (some []))
                show ((w1.heap.push _).push _)[w1.heap.size]? = _
                rw [Array.getElem?_push_lt (by simp)]
                simp
              have hcall := loop_ok hc (fn := fn') (D := w1.heap.size) (l := w1.heap.size + 1) hB hrg h0 ht hW hSW hg hf (by have := hs.size; omega) hl hD (by omega)
              have hinv : (invoke (.fn (.func f) #[.pointer (some ⟨E1.r b, 0, none⟩)]) #[.func (.yield (w1.heap.size + 1)) #[] #[]]).run P ((w1.alloc (.deferred (some []))).alloc (.loop { state := .ready, pending := none, fn := fn', tmps := a.tmps, params := #[p0, p1], assign := asg, body := body, defers := w1.heap.size })) = .ok (.enter f #[.func (.yield (w1.heap.size + 1)) #[] #[], .pointer (some ⟨E1.r b, 0, none⟩)]) ((w1.alloc (.deferred (some []))).alloc (.loop { state := .ready, pending := none, fn := fn', tmps := a.tmps, params := #[p0, p1], assign := asg, body := body, defers := w1.heap.size })) := by
                have h2' : cl.body ≠ none := fun e => by rw [e] at hbody; cases hbody
                have h3' : cl.name ≠ "runtime.NumGoroutine" := fun e => by rw [e] at hnum; simp at hnum
                simp [invoke, callFunc, hcl, h2', h3']
              refine ⟨_, _, _, { target := .fn (.func f) #[.pointer (some ⟨E1.r b, 0, none⟩)], args := #[.func (.yield (w1.heap.size + 1)) #[] #[]] }, _, f, _, _, run_enterLoop_outer _ _ _ _ _, ?_, fun _ _ => trivial, hinv, (fun h => by cases h), callsIn_wide.2 (hcall.mono fun e w3 hq => ?_)⟩
              · simp [resolve, rangeCall, hx, Deferred.ofValue]
                rfl
              · obtain ⟨⟨z, rfl⟩, F, q1, q2, q3, q4, q5, q6⟩ := hq
                refine ⟨none, _, run_endLoop q5 (by intro e; cases e), ?_⟩
                obtain ⟨r1, r2⟩ := h0.putHid q1 q2 q5 (.inl ⟨_, rfl⟩) (by have := hs.size; omega) (.loop { state := .exhausted, pending := none, fn := fn', tmps := a.tmps, params := #[p0, p1], assign := asg, body := body, defers := w1.heap.size })
                have hD4 : (w3.putObj (w1.heap.size + 1) (.loop { state := .exhausted, pending := none, fn := fn', tmps := a.tmps, params := #[p0, p1], assign := asg, body := body, defers := w1.heap.size })).heap[w1.heap.size]? = some (.deferred (some [])) := (World.putObj_heap_other (by omega)).trans q6
                have hta : TR F nt (t.get .top) { a with defers := [{ target := .collected w1.heap.size, args := #[] }] ++ a.defers } := ⟨ht.size, ht.lim, (ht.mono q4).at_⟩
                have fin : ∀ e2 t2 s2, evL P call fuel nt rest t sE = some (e2, t2, s2) → (e2 = .normal ∨ e2 = .ret) → endG P fn.results.toList t2 s2 = some (v, s') → KW P (bodyPostM Fence.wide 0 P fn (FinE E s w v s')) rest { a with defers := [{ target := .collected w1.heap.size, args := #[] }] ++ a.defers } (w3.putObj (w1.heap.size + 1) (.loop { state := .exhausted, pending := none, fn := fn', tmps := a.tmps, params := #[p0, p1], assign := asg, body := body, defers := w1.heap.size })) := by
                  intro e2 t2 s2 hev he2 hend
                  refine evL_ok hm hc rest t sE e2 t2 s2 hev F _ _ hta r1 (hf.grow q3) fun ex a2 w5 hp => ?_
                  obtain ⟨u0, E2, u1, u2, u3, u4, u5⟩ := hp
                  have hD5 := u3.hid r1 hD4 (.inr ⟨_, rfl⟩)
                  obtain ⟨k1, k2⟩ := h0.putHid u2 (r2.trans u3) hD5 (.inr ⟨_, rfl⟩) (by have := hs.size; omega) (.deferred none)
                  obtain ⟨z2, z3, z4⟩ := endG_ok (fn := fn) hend u1 k1 k2 (q3.trans u4)
                  have hdf : a2.defers = [{ target := .collected w1.heap.size, args := #[] }] := by rw [u5]; show _ ++ a.defers = _; rw [hd]; rfl
                  have key : LeavesInM Fence.wide 0 P fn a2.tmps (FinE E s w v s') a2.defers .returning w5 := by
                    rw [hdf]
                    exact ⟨(by intro e; cases e), .inl ⟨_, _, rfl, run_takeDeferred hD5, ⟨z2, z3, .inl z4⟩⟩⟩
                  rcases he2 with rfl | rfl
                  · cases u0; exact key
                  · cases u0; exact key
                unfold endR at he
                split at he
                · rename_i t2 s2 hev
                  exact fin _ t2 s2 hev (.inl rfl) he
                · rename_i t2 s2 hev
                  exact fin _ t2 s2 hev (.inr rfl) he
                · cases he
            · cases he
          · cases he
        · cases he
      · split at he
        · rename_i t1 s2 hev
          refine wpIn_wide.2 (wp_mono (evC_ok (hooks_ok hm) hc fuel c t s1 _ t1 s2 hev E1 a w1 ht h (hf.grow hg)) fun ex a2 w2 hp => ?_)
          obtain ⟨q0, E2, q1, q2, q3, q4, q5⟩ := hp
          cases q0
          split at he
          · obtain ⟨z, z1, z2⟩ := endG_ok (fn := fn) he q1 q2 (hs.trans q3) (hg.trans q4)
            show LeavesInM Fence.wide 0 P fn a2.tmps _ a2.defers .returning w2
            rw [q5, hd]
            exact ⟨z, z1, .inl z2⟩
          · rename_i y r
            exact raA_ok hm hc hbk k y r t1 s2 v s' he E E2 s a2 w w2 h0 hf q1 q2 (hs.trans q3) (hg.trans q4) (q5.trans hd)
        · rename_i t1 s2 hev
          refine wpIn_wide.2 (wp_mono (evC_ok (hooks_ok hm) hc fuel c t s1 _ t1 s2 hev E1 a w1 ht h (hf.grow hg)) fun ex a2 w2 hp => ?_)
          obtain ⟨q0, E2, q1, q2, q3, q4, q5⟩ := hp
          cases q0
          obtain ⟨z, z1, z2⟩ := endG_ok (fn := fn) he q1 q2 (hs.trans q3) (hg.trans q4)
          show LeavesInM Fence.wide 0 P fn a2.tmps _ a2.defers .returning w2
          rw [q5, hd]
          exact ⟨z, z1, .inl z2⟩
        · rename_i u t1 s2 hev
          injection he with he
          injection he with e1 e2
          subst e1
          subst e2
          refine wpIn_wide.2 (wp_mono (evC_ok (hooks_ok hm) hc fuel c t s1 _ t1 s2 hev E1 a w1 ht h (hf.grow hg)) fun ex a2 w2 hp => ?_)
          obtain ⟨q0, E2, q1, q2, q3, q4, q5⟩ := hp
          cases q0
          show LeavesInM Fence.wide 0 P fn a2.tmps _ a2.defers (.panicking _) w2
          rw [q5, hd]
          exact .inr ⟨u, rfl, E2, rfl, q2, hs.trans q3, hg.trans q4⟩
        · cases he
/-- A function with such a range, as an oracle. -/
noncomputable def rangedA (P : Program) (call : Nat → List AV → AS → Option (AV × AS)) (bk : Nat → Option Nat) (fuel : Nat) (fn : Func) (args : List AV) (s : AS) : Option (AV × AS) := match fn.body with
  | none => none
  | some c => cond (Nat.ble fn.ntmps 1000000) (cond (Nat.ble args.length fn.ntmps) (raA P call bk fuel fn.ntmps fn.results.toList 10000 c [] (initT args 0 .leaf) s) none) none
theorem rangedA_ok [Tab] {P : Program} (hm : P.follows .mixedOrders = true) {call : Nat → List AV → AS → Option (AV × AS)} (hc : CallOK P call) {bk : Nat → Option Nat} (hbk : ∀ f sz, bk f = some sz → BackOK P f sz) {fuel f : Nat} {fn : Func} (hf : P.funcs[f]? = some fn) (hb : fn.body.isNone = false) (hnum : (fn.name == "runtime.NumGoroutine") = false) : OneOK P f (rangedA P call bk fuel fn) := by
  have key : ∀ {args : List AV} {s : AS} {v : AV} {s' : AS}, rangedA P call bk fuel fn args s = some (v, s') → ∀ E w (xs : Array Value), HR E s.get w → Fresh E s.n → VL E args xs.toList → Calls P f xs w (FinE E s w v s') := by
    intro args s v s' he E w xs h hfr hv
    unfold rangedA at he
    split at he
    · cases he
    · rename_i c hbody
      cases hn : Nat.ble fn.ntmps 1000000 with
      | false => rw [hn] at he; cases he
      | true =>
      cases hl : Nat.ble args.length fn.ntmps with
      | false => rw [hn, hl] at he; cases he
      | true =>
        rw [hn, hl] at he
        simp only [cond_true] at he
        exact callsIn_wide.1 (callsIn_of_wp_marks (F := Fence.wide) (n := 0) hf hbody trivial (wpIn_mono (raA_ok hm hc hbk 10000 c [] _ s v s' he E E s _ w w h hfr (start_TR (Nat.le_of_ble_eq_true hn) (Nat.le_of_ble_eq_true hl) hv) h (Stp.refl _ _ _) (Grow.refl _ _) rfl) fun e a2 w2 hp => by cases e <;> exact hp))
  refine ⟨⟨fn, hf, hb, hnum⟩, fun args s v s' he hnp E w xs h hfr hv => (key he E w xs h hfr hv).mono fun e w' hq => ?_, fun args s u s' he E w xs h hfr hv => (key he E w xs h hfr hv).mono fun e w' hq => ?_⟩
  · rcases hq with hq | ⟨u, hu, _⟩
    · exact hq
    · exact absurd hu (hnp u)
  · rcases hq with ⟨x, _, _, hx, _⟩ | ⟨u', hu, hq⟩
    · cases hx
    · injection hu with hu
      subst hu
      exact hq
end Go.Proofs.YtambgppdjlhdaaaGreatDoor
