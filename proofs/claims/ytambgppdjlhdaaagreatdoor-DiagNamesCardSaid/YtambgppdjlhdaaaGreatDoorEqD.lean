/-
  The quick machine for the kernel: regions, code, functions. No program.
-/
import Derived.Test.YtambgppdjlhdaaaGreatDoorEqC
namespace Go.Proofs.YtambgppdjlhdaaaGreatDoor
open Go.RowKit

/-- A region, turned into a row of closures. -/
inductive CL where
  | bad
  | nil
  | cons (q : QQ) (r : CL)
noncomputable def jitG (P : Program) (nt : Nat) (all : List Oper) (o : Oper) : XX := match o.guard with
  | none => jit1 P nt o
  | some p => match nthO all p.1 with
    | none => none
    | some oj => match oj.dst with
      | none => none
      | some d => match jit1 P nt o with
        | none => none
        | some q => withG d fun g => withP nt o.dst fun st => some (qGd p.2 g q st)
noncomputable def jitL (P : Program) (nt : Nat) (all : List Oper) : List Oper → CL
  | [] => .nil
  | o :: r => match jitG P nt all o with
    | some q => .cons q (jitL P nt all r)
    | none => .bad
noncomputable def nL (ih : CallQ → SL → AS → KE → RR) (cq : CallQ) (K : KE) (t : SL) (s : AS) : RR := ih cq t s K
noncomputable def runL (l : CL) : CallQ → SL → AS → KE → RR := CL.rec (motive := fun _ => CallQ → SL → AS → KE → RR) (fun _ _ _ _ => none) (fun _ t s K => K .normal t s) (fun q _ ih cq t s K => q cq t s K (nL ih cq K)) l
theorem putT_at [Tab] {nt : Nat} (hl : nt ≤ 1000000) {tr : Tr AV} {t : SL} (h : tr.get .top = t.at) {d : Option Nat} (hd : ∀ k, d = some k → k < nt) (v : AV) : ∃ tr', putT nt tr d v = some tr' ∧ tr'.get .top = (t.pw d v).at := by
  have hp : ∃ tr', putT nt tr d v = some tr' := by
    unfold putT
    cases d with
    | none => exact ⟨_, rfl⟩
    | some k =>
      dsimp only
      rw [Nat.ble_eq_true_of_le (hd k rfl)]
      exact ⟨_, rfl⟩
  obtain ⟨tr', hp⟩ := hp
  refine ⟨tr', hp, ?_⟩
  rw [SL.at_pw, ← h]
  funext k
  exact putT_get hl hp k
/-- What the region comes to. -/
noncomputable def RegS (P : Program) (call : Nat → List AV → AS → Option (AV × AS)) (all : Array Oper) (nt : Nat) (l : List Oper) (tr : Tr AV) (s : AS) (e : Ex) (tr' : Tr AV) (s' : AS) : Prop :=
  (evOps P call all nt l tr s = some (tr', s') ∧ e = .normal) ∨ (evOps P call all nt l tr s = none ∧ ∃ u, evOpsP P call all nt l tr s = some (u, tr', s') ∧ e = .panic u)
theorem RegS.cons {P : Program} {call : Nat → List AV → AS → Option (AV × AS)} {all : Array Oper} {nt : Nat} {o : Oper} {l : List Oper} {tr tr1 tr' : Tr AV} {s s1 s' : AS} {e : Ex} {v : AV} (hw : wantA all o tr = some true) (h1 : evOp P call o (oev tr) s = some (v, s1)) (h2 : panO call o (oev tr) s = none) (h3 : putT nt tr o.dst v = some tr1) (h : RegS P call all nt l tr1 s1 e tr' s') : RegS P call all nt (o :: l) tr s e tr' s' := by
  have e1 : evOps P call all nt (o :: l) tr s = evOps P call all nt l tr1 s1 := by
    rw [evOps, hw]
    dsimp only
    rw [h1]
    dsimp only
    rw [h3]
  have e2 : evOpsP P call all nt (o :: l) tr s = evOpsP P call all nt l tr1 s1 := by
    rw [evOpsP, hw]
    dsimp only
    rw [h2]
    dsimp only
    rw [h1]
    dsimp only
    rw [h3]
  unfold RegS
  rw [e1, e2]
  exact h
theorem RegS.skip {P : Program} {call : Nat → List AV → AS → Option (AV × AS)} {all : Array Oper} {nt : Nat} {o : Oper} {l : List Oper} {tr tr1 tr' : Tr AV} {s s' : AS} {e : Ex} (hw : wantA all o tr = some false) (h3 : putT nt tr o.dst .undef = some tr1) (h : RegS P call all nt l tr1 s e tr' s') : RegS P call all nt (o :: l) tr s e tr' s' := by
  have e1 : evOps P call all nt (o :: l) tr s = evOps P call all nt l tr1 s := by
    rw [evOps, hw]
    dsimp only
    rw [h3]
  have e2 : evOpsP P call all nt (o :: l) tr s = evOpsP P call all nt l tr1 s := by
    rw [evOpsP, hw]
    dsimp only
    rw [h3]
  unfold RegS
  rw [e1, e2]
  exact h
theorem RegS.pan {P : Program} {call : Nat → List AV → AS → Option (AV × AS)} {all : Array Oper} {nt : Nat} {o : Oper} {l : List Oper} {tr : Tr AV} {s s' : AS} {u : Value} (hw : wantA all o tr = some true) (h1 : evOp P call o (oev tr) s = none) (h2 : panO call o (oev tr) s = some (u, s')) : RegS P call all nt (o :: l) tr s (.panic u) tr s' := by
  refine .inr ⟨?_, u, ?_, rfl⟩
  · rw [evOps, hw]
    dsimp only
    rw [h1]
  · rw [evOpsP, hw]
    dsimp only
    rw [h2]
theorem runL_ok [Tab] {P : Program} {call : Nat → List AV → AS → Option (AV × AS)} {cq : CallQ} (hc : CallRel call cq) {nt : Nat} (hl : nt ≤ 1000000) {all : Array Oper} {K : KE} {r : RZ} : ∀ (l : List Oper) (t : SL) (s : AS) (tr : Tr AV), tr.get .top = t.at → runL (jitL P nt all.toList l) cq t s K = some r →
    ∃ e tr' t' s', RegS P call all nt l tr s e tr' s' ∧ tr'.get .top = t'.at ∧ K e t' s' = some r
  | [], t, s, tr, ht, h => ⟨.normal, tr, t, s, .inl ⟨rfl, rfl⟩, ht, h⟩
  | o :: l, t, s, tr, ht, h => by
    unfold jitL at h
    cases hj : jitG P nt all.toList o with
    | none => rw [hj] at h; cases h
    | some q =>
      rw [hj] at h
      replace h : q cq t s K (nL (runL (jitL P nt all.toList l)) cq K) = some r := h
      have hev : oev tr = oevF t.at := by rw [← ht]; rfl
      -- the operation itself
      have core : ∀ q1, jit1 P nt o = some q1 → wantA all o tr = some true → q1 cq t s K (nL (runL (jitL P nt all.toList l)) cq K) = some r → ∃ e tr' t' s', RegS P call all nt (o :: l) tr s e tr' s' ∧ tr'.get .top = t'.at ∧ K e t' s' = some r := by
        intro q1 hq1 hw h
        have hok := jit1_ok hc hq1
        rcases hok.run t s K _ r h with ⟨v, s1, h1, h2, h3⟩ | ⟨u, s1, h1, h2, h3⟩
        · obtain ⟨tr1, h4, h5⟩ := putT_at hl ht hok.dst v
          obtain ⟨e, tr', t', s', g1, g2, g3⟩ := runL_ok hc hl l _ s1 tr1 h5 h3
          rw [← hev] at h1 h2
          exact ⟨e, tr', t', s', RegS.cons hw h1 h2 h4 g1, g2, g3⟩
        · rw [← hev] at h1 h2
          exact ⟨_, tr, t, s1, RegS.pan hw h1 h2, ht, h3⟩
      unfold jitG at hj
      split at hj
      · rename_i hg
        exact core q hj (by unfold wantA wantF; rw [hg]) h
      · rename_i p hg
        split at hj
        · cases hj
        · rename_i oj hoj
          split at hj
          · cases hj
          · rename_i d hd
            split at hj
            · cases hj
            · rename_i q1 hq1
              rw [withG_eq] at hj
              obtain ⟨hj, hdst⟩ := withP_ok hj
              injection hj with hj
              subst hj
              have hw : wantA all o tr = match t.at d with
                | .bool b => some (b == p.2)
                | .undef => some false
                | _ => none := by
                unfold wantA wantF
                rw [hg, ht]
                dsimp only
                rw [hoj]
                dsimp only
                rw [hd]
                rfl
              have skip : wantA all o tr = some false → nL (runL (jitL P nt all.toList l)) cq K (t.pw o.dst .undef) s = some r → ∃ e tr' t' s', RegS P call all nt (o :: l) tr s e tr' s' ∧ tr'.get .top = t'.at ∧ K e t' s' = some r := by
                intro hw h
                obtain ⟨tr1, h4, h5⟩ := putT_at hl ht hdst .undef
                obtain ⟨e, tr', t', s', g1, g2, g3⟩ := runL_ok hc hl l _ s tr1 h5 h
                exact ⟨e, tr', t', s', RegS.skip hw h4 g1, g2, g3⟩
              unfold qGd at h
              rw [gdQ_eq] at h
              dsimp only at h
              cases hv : t.at d <;> rw [hv] at h hw <;> try (cases h; done)
              · exact skip hw h
              · rename_i b
                dsimp only at h hw
                cases b <;> cases hp : p.2 <;> rw [hp] at h hw <;> first
                  | exact core q1 hq1 hw h
                  | exact skip hw h
/-- Calls in the plain form. -/
noncomputable def callD (cq : CallQ) (f : Nat) (args : List AV) (s : AS) : Option (AV × AS) := match cq f args s fun v s' => some (.val v s') with
  | some (.val v s') => some (v, s')
  | _ => none
theorem callD_ok {call : Nat → List AV → AS → Option (AV × AS)} {cq : CallQ} (hc : CallRel call cq) {f : Nat} {args : List AV} {s : AS} {q : AV × AS} (h : callD cq f args s = some q) : call f args s = some q := by
  unfold callD at h
  split at h
  · rename_i v s' he
    obtain ⟨v1, s1, h1, h2⟩ := hc _ _ _ _ _ he
    injection h2 with h2
    injection h2 with e1 e2
    subst e1
    subst e2
    rw [h1, h]
  · cases h
/-- More calls that answer do no harm. -/
noncomputable def Sub (c1 c2 : Nat → List AV → AS → Option (AV × AS)) : Prop := ∀ f args s q, c1 f args s = some q → c2 f args s = some q
theorem evOp_sub [Tab] {P : Program} {c1 c2 : Nat → List AV → AS → Option (AV × AS)} (hs : Sub c1 c2) {o : Oper} {ev : Operand → AV} {s : AS} {q : AV × AS} (h : evOp P c1 o ev s = some q) : evOp P c2 o ev s = some q := by
  unfold evOp at h ⊢
  split at h
  · rename_i c hc
    obtain ⟨v, s'⟩ := q
    obtain ⟨h, hn⟩ := noPan_ok h
    have : callA P c2 c ev s = some (v, s') := by
      unfold callA at h ⊢
      split at h
      · split at h
        · exact hs _ _ _ _ h
        · exact hs _ _ _ _ h
        · cases h
      · exact h
      · cases h
    rw [this]
    exact noPan_ne hn
  · exact h
theorem evOp_same {P : Program} (c1 c2 : Nat → List AV → AS → Option (AV × AS)) {o : Oper} (h : clsO o ≠ 3) (ev : Operand → AV) : evOp P c1 o ev = evOp P c2 o ev := by
  funext s
  unfold evOp
  split
  · rename_i c hc
    unfold callA
    split
    · rename_i f hf
      exfalso
      apply h
      unfold clsO
      rw [hc]
      dsimp only
      rw [hf]
    · rfl
    · rfl
  · rfl
theorem stepC_sub [Tab] {P : Program} {c1 c2 : Nat → List AV → AS → Option (AV × AS)} (hs : Sub c1 c2) {nt : Nat} {ops : Array Oper} {base : Nat} {ms : Tr Nat} {i : Nat} {o : Oper} {c c' : DC} (h : stepC P c1 nt ops base ms i o c = some c') : stepC P c2 nt ops base ms i o c = some c' := by
  unfold stepC at h ⊢
  split at h
  · cases h
  · exact h
  · split at h
    · rename_i hcl
      rw [evOp_same c1 c2 (by rw [hcl]; decide)] at h
      exact h
    · rename_i hcl
      unfold convC at h ⊢
      rw [evOp_same c1 c2 (by rw [hcl]; decide)] at h
      exact h
    · rename_i hcl
      rw [evOp_same c1 c2 (by rw [hcl]; decide)] at h
      exact h
    · rename_i hcl
      cases hsp : specB ops ms i with
      | true =>
        rw [hsp] at h
        simp only [cond_true] at h ⊢
        unfold specC at h ⊢
        split at h
        · rename_i q hq
          rw [evOp_sub hs hq]
          exact h
        · cases h
      | false =>
        rw [hsp] at h
        simp only [cond_false] at h ⊢
        split at h
        · rename_i q hq
          rw [evOp_sub hs hq]
          exact h
        · cases h
    · cases h
theorem stepsC_sub [Tab] {P : Program} {c1 c2 : Nat → List AV → AS → Option (AV × AS)} (hs : Sub c1 c2) {nt : Nat} {ops : Array Oper} {base : Nat} {ms : Tr Nat} : ∀ (l : List Oper) (i : Nat) (c c' : DC), stepsC P c1 nt ops base ms l i c = some c' → stepsC P c2 nt ops base ms l i c = some c'
  | [], _, _, _, h => h
  | o :: l, i, c, c', h => by
    unfold stepsC at h ⊢
    split at h
    · rename_i c1' h1
      rw [stepC_sub hs h1]
      exact stepsC_sub hs l _ _ _ h
    · cases h
theorem drawF_sub [Tab] {P : Program} {c1 c2 : Nat → List AV → AS → Option (AV × AS)} (hs : Sub c1 c2) {nt : Nat} {ops : Array Oper} {f : Nat → AV} {s : AS} {q : (Nat → AV) × AS} (h : drawF P c1 nt ops f s = some q) : drawF P c2 nt ops f s = some q := by
  unfold drawF at h ⊢
  cases h1 : statB ops with
  | false => rw [h1] at h; cases h
  | true =>
    cases h2 : Nat.ble (Nat.add s.n ops.size) 1000000000 with
    | false => rw [h1, h2] at h; cases h
    | true =>
      rw [h1, h2] at h
      simp only [cond_true] at h ⊢
      split at h
      · rename_i c hc
        rw [stepsC_sub hs _ _ _ _ hc]
        exact h
      · cases h
theorem callA_sub {P : Program} {c1 c2 : Nat → List AV → AS → Option (AV × AS)} (hs : Sub c1 c2) {c : Call} {ev : Operand → AV} {s : AS} {q : AV × AS} (h : callA P c1 c ev s = some q) : callA P c2 c ev s = some q := by
  unfold callA at h ⊢
  split at h
  · split at h
    · exact hs _ _ _ _ h
    · exact hs _ _ _ _ h
    · cases h
  · exact h
  · cases h
theorem stepsN_sub [Tab] {P : Program} {c1 c2 : Nat → List AV → AS → Option (AV × AS)} (hs : Sub c1 c2) {nt : Nat} {ops : Array Oper} {base : Nat} {ms : Tr Nat} {m : Nat} : ∀ (l : List Oper) (i : Nat) (c c' : DC), stepsN P c1 nt ops base ms m l i c = some c' → stepsN P c2 nt ops base ms m l i c = some c'
  | [], _, _, _, h => h
  | o :: l, i, c, c', h => by
    unfold stepsN at h ⊢
    cases hn : nBm ms m i with
    | false => rw [hn] at h; exact stepsN_sub hs l _ _ _ h
    | true =>
      rw [hn] at h
      simp only [cond_true] at h ⊢
      split at h
      · rename_i c1' h1
        rw [stepC_sub hs h1]
        exact stepsN_sub hs l _ _ _ h
      · cases h
theorem stepsG_sub [Tab] {P : Program} {c1 c2 : Nat → List AV → AS → Option (AV × AS)} (hs : Sub c1 c2) {nt : Nat} {ops : Array Oper} {base : Nat} {ms : Tr Nat} : ∀ (l : List Oper) (i : Nat) (c : DC) (x : GR), stepsG P c1 nt ops base ms l i c = some x → stepsG P c2 nt ops base ms l i c = some x
  | [], _, _, _, h => h
  | o :: l, i, c, x, h => by
    unfold stepsG at h ⊢
    split at h
    · split at h
      · rename_i c1' h1
        rw [stepC_sub hs h1]
        exact stepsG_sub hs l _ _ _ h
      · cases h
    · split at h
      · split at h
        · cases h
        · rename_i q hq
          rw [callA_sub hs hq]
          dsimp only
          split at h
          · cases hp : panS ops ms i o ops.toList 0 with
            | false => rw [hp] at h; cases h
            | true =>
              rw [hp] at h
              simp only [cond_true] at h ⊢
              split at h
              · rename_i cF hN
                rw [stepsN_sub hs _ _ _ _ hN]
                exact h
              · cases h
          · cases h1 : specB ops ms i with
            | true => rw [h1] at h; cases h
            | false =>
            cases h2 : rdsB ms i q.2 c.rds with
            | false => rw [h1, h2] at h; cases h
            | true =>
              rw [h1, h2] at h
              simp only [cond_true, cond_false] at h ⊢
              split at h
              · exact stepsG_sub hs l _ _ _ h
              · cases h
      · split at h
        · rename_i c1' h1
          rw [stepC_sub hs h1]
          exact stepsG_sub hs l _ _ _ h
        · cases h
theorem drawG_sub [Tab] {P : Program} {c1 c2 : Nat → List AV → AS → Option (AV × AS)} (hs : Sub c1 c2) {nt : Nat} {ops : Array Oper} {f : Nat → AV} {s : AS} {x : GR} (h : drawG P c1 nt ops f s = some x) : drawG P c2 nt ops f s = some x := by
  unfold drawG at h ⊢
  cases h1 : statB ops with
  | false => rw [h1] at h; cases h
  | true =>
    cases h2 : Nat.ble (Nat.add s.n ops.size) 1000000000 with
    | false => rw [h1, h2] at h; cases h
    | true =>
      rw [h1, h2] at h
      simp only [cond_true] at h ⊢
      exact stepsG_sub hs _ _ _ _ h
theorem stepC_lt [Tab] {P : Program} {call : Nat → List AV → AS → Option (AV × AS)} {nt : Nat} {ops : Array Oper} {base : Nat} {ms : Tr Nat} {i : Nat} {o : Oper} {c c' : DC} (h : stepC P call nt ops base ms i o c = some c') : ∀ k, o.dst = some k → k < nt := by
  have key : ∀ {v : AV} {t : Nat → AV}, putF nt c.t o.dst v = some t → ∀ k, o.dst = some k → k < nt := fun h k hk => by rw [hk] at h; exact putF_lt h
  unfold stepC at h
  split at h
  · cases h
  · split at h
    · rename_i t hp
      exact key hp
    · cases h
  · split at h
    · split at h
      · split at h
        · rename_i t hp
          exact key hp
        · cases h
      · cases h
    · split at h
      · rcases cond_alt h with h | h
        · have h := cond_some h
          split at h
          · rename_i t hp
            exact key hp
          · cases h
        · unfold convC at h
          have h := cond_some h
          split at h
          · have h := cond_some h
            split at h
            · rename_i t hp
              exact key hp
            · cases h
          · cases h
      · cases h
    · split at h
      · split at h
        · rename_i t hp
          exact key hp
        · cases h
      · cases h
    · rcases cond_alt h with h | h
      · unfold specC at h
        split at h
        · have h := cond_some h
          split at h
          · rename_i t hp
            exact key hp
          · cases h
        · cases h
      · split at h
        · have h := cond_some h
          split at h
          · rename_i t hp
            exact key hp
          · cases h
        · cases h
    · cases h
theorem stepsC_lt [Tab] {P : Program} {call : Nat → List AV → AS → Option (AV × AS)} {nt : Nat} {ops : Array Oper} {base : Nat} {ms : Tr Nat} : ∀ (l : List Oper) (i : Nat) (c c' : DC), stepsC P call nt ops base ms l i c = some c' → ∀ o ∈ l, ∀ k, o.dst = some k → k < nt
  | [], _, _, _, _, o, ho => by cases ho
  | o :: l, i, c, c', h, o', ho' => by
    unfold stepsC at h
    split at h
    · rename_i c1 h1
      rcases List.mem_cons.1 ho' with rfl | ho'
      · exact stepC_lt h1
      · exact stepsC_lt l _ _ _ h o' ho'
    · cases h
theorem wbT_some [Tab] {nt : Nat} {f : Nat → AV} : ∀ (l : List Oper) (t : Tr AV), (∀ o ∈ l, ∀ k, o.dst = some k → k < nt) → ∃ t', wbT nt f l t = some t'
  | [], t, _ => ⟨t, rfl⟩
  | o :: r, t, h => by
    unfold wbT
    split
    · exact wbT_some r t fun o' ho' => h o' (by simp [ho'])
    · rename_i d hd
      have hlt := h o (by simp) d hd
      have : ∃ t1, putT nt t (some d) (f d) = some t1 := by
        unfold putT
        dsimp only
        rw [Nat.ble_eq_true_of_le hlt]
        exact ⟨_, rfl⟩
      obtain ⟨t1, h1⟩ := this
      rw [h1]
      exact wbT_some r t1 fun o' ho' => h o' (by simp [ho'])
/-- The slots that a drawn region writes. -/
noncomputable def pwL (f : Nat → AV) : List Oper → SL → SL
  | [], t => t
  | o :: r, t => match o.dst with
    | none => pwL f r t
    | some d => pwL f r (t.wr d (f d))
theorem pwL_at [Tab] {f : Nat → AV} : ∀ (l : List Oper) (t : SL), (∀ k, t.at k = f k ∨ ∃ o ∈ l, o.dst = some k) → (pwL f l t).at = f
  | [], t, hk => by
    funext k
    rcases hk k with h1 | ⟨o, h1, _⟩
    · exact h1
    · cases h1
  | o :: r, t, hk => by
    unfold pwL
    split
    · rename_i hd
      refine pwL_at r t fun k => ?_
      rcases hk k with h1 | ⟨o', h1, h2⟩
      · exact .inl h1
      · rcases List.mem_cons.1 h1 with rfl | h3
        · rw [hd] at h2; cases h2
        · exact .inr ⟨o', h3, h2⟩
    · rename_i d hd
      refine pwL_at r _ fun k => ?_
      have hg : (t.wr d (f d)).at k = updT t.at (some d) (f d) k := by rw [SL.at_wr]
      unfold updT at hg
      by_cases e : some d = some k
      · rw [if_pos e] at hg
        injection e with e
        subst e
        exact .inl hg
      · rw [if_neg e] at hg
        rcases hk k with h1 | ⟨o', h1, h2⟩
        · exact .inl (hg.trans h1)
        · rcases List.mem_cons.1 h1 with rfl | h3
          · rw [hd] at h2; exact absurd h2 e
          · exact .inr ⟨o', h3, h2⟩
theorem draw_ok [Tab] {P : Program} {call : Nat → List AV → AS → Option (AV × AS)} {nt : Nat} (hl : nt ≤ 1000000) {ops : Array Oper} {t : SL} {tr : Tr AV} (ht : tr.get .top = t.at) {s : AS} {q : (Nat → AV) × AS} (h : drawF P call nt ops t.at s = some q) : ∃ tr', drawA P call nt ops tr s = some (tr', q.2) ∧ tr'.get .top = (pwL q.1 ops.toList t).at := by
  have hout : ∀ k, t.at k = q.1 k ∨ ∃ o ∈ ops.toList, o.dst = some k := fun k => by
    by_cases hd : ∃ o ∈ ops.toList, o.dst = some k
    · exact .inr hd
    · refine .inl ?_
      unfold drawF at h
      have h := cond_some h
      have h := cond_some h
      split at h
      · rename_i c hc
        injection h with h
        rw [← h]
        exact (stepsC_out ops.toList 0 _ c (fun o ho e => hd ⟨o, ho, e⟩) hc).symm
      · cases h
  have hlt : ∀ o ∈ ops.toList, ∀ k, o.dst = some k → k < nt := by
    unfold drawF at h
    have h := cond_some h
    have h := cond_some h
    split at h
    · rename_i c hc
      exact stepsC_lt _ _ _ _ hc
    · cases h
  obtain ⟨tr', hw⟩ := wbT_some (f := q.1) ops.toList tr hlt
  have hda : drawA P call nt ops tr s = some (tr', q.2) := by
    unfold drawA
    rw [ht, h]
    dsimp only
    rw [hw]
  refine ⟨tr', hda, ?_⟩
  have := drawA_get hl hda
  rw [ht, h] at this
  injection this with this
  have h1 : q.1 = tr'.get .top := congrArg (·.1) this
  rw [← h1, pwL_at ops.toList t hout]
/-- Code, one step of it turned. -/
inductive CC where
  | bad
  | nop
  | reg (l : CL)
  | drw (ops : Array Oper)
  | seq (a b : Code)
  | cnd (q : QQ) (a b : Code)
  | blk (i : Nat) (a : Code)
  | loop (a : Code)
  | exit (i : Nat)
  | ret
noncomputable def cn2 (t : SL) (s : AS) (K : KE) (N : KS) (c : Bool) : RR := Bool.rec (motive := fun _ => RR) (N t s) (K .normal t s) c
noncomputable def qCnd (g : GG) (_ : CallQ) (t : SL) (s : AS) (K : KE) (N : KS) : RR := onBoolR (g t) (cn2 t s K N)
noncomputable def jitC (P : Program) (nt : Nat) (c : Code) : CC := match c with
  | .skip => .nop
  | .label _ => .nop
  | .region _ ops d => cond d (.drw ops) (.reg (jitL P nt ops.toList ops.toList))
  | .seq a b => .seq a b
  | .cond x a b => match withO x fun g => some (qCnd g) with
    | some q => .cnd q a b
    | none => .bad
  | .block i a => .blk i a
  | .loop a => cond (nextHead a).isSome .bad (.loop a)
  | .exit i => .exit i
  | .ret => .ret
  | .scope a => .seq a .skip
  | _ => .bad
abbrev RC := Code → SL → AS → KE → RR
noncomputable def exQK (e : Ex) : RC → Code → KE → SL → AS → RR := Ex.rec (motive := fun _ => RC → Code → KE → SL → AS → RR) (fun ih b K t s => ih b t s K) (fun i _ _ K t s => K (.exit i) t s) (fun _ _ K t s => K .ret t s) (fun u _ _ K t s => K (.panic u) t s) e
noncomputable def seqK (ih : RC) (b : Code) (K : KE) (e : Ex) (t : SL) (s : AS) : RR := exQK e ih b K t s
noncomputable def blQK (e : Ex) : Nat → KE → SL → AS → RR := Ex.rec (motive := fun _ => Nat → KE → SL → AS → RR) (fun _ K t s => K .normal t s) (fun j i K t s => Bool.rec (motive := fun _ => RR) (K (.exit j) t s) (K .normal t s) (Nat.beq j i)) (fun _ K t s => K .ret t s) (fun u _ K t s => K (.panic u) t s) e
noncomputable def blkK (i : Nat) (K : KE) (e : Ex) (t : SL) (s : AS) : RR := blQK e i K t s
noncomputable def cndT (ih : RC) (a : Code) (K : KE) (_ : Ex) (t : SL) (s : AS) : RR := ih a t s K
noncomputable def cndN (ih : RC) (b : Code) (K : KE) (t : SL) (s : AS) : RR := ih b t s K
noncomputable def dw2 (ops : Array Oper) (t : SL) (s : AS) (K : KE) (x : GR) : RR := GR.rec (motive := fun _ => RR) (fun c => K .normal (pwL c.t ops.toList t) (preA s.n allP c.x ops.size c.g)) (fun _ u g => K (.panic u) .nil g) x
noncomputable def ccQ (x : CC) : Program → Nat → CallQ → RC → SL → AS → KE → RR := CC.rec (motive := fun _ => Program → Nat → CallQ → RC → SL → AS → KE → RR)
  (fun _ _ _ _ _ _ _ => none)
  (fun _ _ _ _ t s K => K .normal t s)
  (fun l _ _ cq _ t s K => runL l cq t s K)
  (fun ops P nt cq _ t s K => Option.rec (motive := fun _ => RR) none (dw2 ops t s K) (drawG P (callD cq) nt ops t.at s))
  (fun a b _ _ _ ih t s K => ih a t s (seqK ih b K))
  (fun q a b _ _ cq ih t s K => q cq t s (cndT ih a K) (cndN ih b K))
  (fun i a _ _ _ ih t s K => ih a t s (blkK i K))
  (fun a _ _ _ ih t s K => ih a t s (seqK ih (.loop a) K))
  (fun i _ _ _ _ t s K => K (.exit i) t s)
  (fun _ _ _ _ t s K => K .ret t s) x
noncomputable def runC (P : Program) (nt : Nat) (cq : CallQ) (fuel : Nat) : RC := Nat.rec (motive := fun _ => RC) (fun _ _ _ _ => none) (fun _ ih c t s K => ccQ (jitC P nt c) P nt cq ih t s K) fuel
noncomputable def blkS (i : Nat) (e : Ex) (tr : Tr AV) (s : AS) : Option (Ex × Tr AV × AS) := match e with
  | .exit j => cond (Nat.beq j i) (some (.normal, tr, s)) (some (.exit j, tr, s))
  | e => some (e, tr, s)
theorem seqK_ok {P : Program} {call : Nat → List AV → AS → Option (AV × AS)} {nt : Nat} {ih : RC} {k : Nat} {b : Code} {K : KE} {r : RZ} (hih : ∀ (t : SL) (s : AS) (tr : Tr AV), tr.get .top = t.at → ih b t s K = some r → ∃ e tr' t' s', evC P (hooks P) call nt k b tr s = some (e, tr', s') ∧ tr'.get .top = t'.at ∧ K e t' s' = some r)
    {e : Ex} {tr : Tr AV} {t : SL} {s : AS} (ht : tr.get .top = t.at) (h : seqK ih b K e t s = some r) : ∃ e' tr' t' s', (match e with
      | .normal => nxt (evC P (hooks P) call nt k b tr s)
      | e => some (e, tr, s)) = some (e', tr', s') ∧ tr'.get .top = t'.at ∧ K e' t' s' = some r := by
  cases e with
  | normal => exact hih t s tr ht h
  | exit i => exact ⟨_, tr, t, s, rfl, ht, h⟩
  | ret => exact ⟨_, tr, t, s, rfl, ht, h⟩
  | panic u => exact ⟨_, tr, t, s, rfl, ht, h⟩
theorem runC_ok [Tab] {P : Program} {call : Nat → List AV → AS → Option (AV × AS)} {cq : CallQ} (hc : CallRel call cq) {nt : Nat} (hl : nt ≤ 1000000) {r : RZ} : ∀ (k : Nat) (c : Code) (K : KE) (t : SL) (s : AS) (tr : Tr AV), tr.get .top = t.at → runC P nt cq k c t s K = some r →
    ∃ e tr' t' s', evC P (hooks P) call nt k c tr s = some (e, tr', s') ∧ tr'.get .top = t'.at ∧ K e t' s' = some r
  | 0, _, _, _, _, _, _, h => by cases h
  | k + 1, c, K, t, s, tr, ht, h => by
    replace h : ccQ (jitC P nt c) P nt cq (runC P nt cq k) t s K = some r := h
    cases c with
    | skip => exact ⟨.normal, tr, t, s, rfl, ht, h⟩
    | label l => exact ⟨.normal, tr, t, s, rfl, ht, h⟩
    | exit i => exact ⟨.exit i, tr, t, s, rfl, ht, h⟩
    | ret => exact ⟨.ret, tr, t, s, rfl, ht, h⟩
    | rangeFunc f ps a b => cases h
    | scope b =>
      obtain ⟨e, tr1, t1, s1, h1, h2, h3⟩ := runC_ok hc hl k b _ t s tr ht h
      refine ⟨e, tr1, t1, s1, h1, h2, ?_⟩
      cases e with
      | normal =>
        cases k with
        | zero => cases h3
        | succ k => exact h3
      | exit i => exact h3
      | ret => exact h3
      | panic u => exact h3
    | goto l => cases h
    | refuse w => cases h
    | region id ops d =>
      cases d with
      | true =>
        replace h : Option.rec (motive := fun _ => RR) none (dw2 ops t s K) (drawG P (callD cq) nt ops t.at s) = some r := h
        cases hd : drawG P (callD cq) nt ops t.at s with
        | none => rw [hd] at h; cases h
        | some q =>
          rw [hd] at h
          have hd2 : drawG P call nt ops t.at s = some q := drawG_sub (fun f a s q hq => callD_ok hc hq) hd
          cases q with
          | fin c =>
            obtain ⟨tr', h1, h2⟩ := draw_ok hl ht (drawG_fin hd2)
            refine ⟨.normal, tr', _, _, ?_, h2, h⟩
            show drawX P call nt ops tr s = _
            unfold drawX
            unfold drawA at h1
            rw [ht] at h1 ⊢
            rw [hd2]
            rw [drawG_fin hd2] at h1
            dsimp only at h1 ⊢
            split at h1
            · rename_i t1 hw
              injection h1 with h1
              injection h1 with e1 e2
              subst e1
              rw [hw]
            · cases h1
          | pan m u g =>
            refine ⟨.panic u, .leaf, .nil, g, ?_, ?_, h⟩
            · show drawX P call nt ops tr s = _
              unfold drawX
              rw [ht, hd2]
            · funext k
              rw [SL.at_nil, Tr.get_leaf]
      | false =>
        obtain ⟨e, tr', t', s', h1, h2, h3⟩ := runL_ok hc hl ops.toList t s tr ht h
        refine ⟨e, tr', t', s', ?_, h2, h3⟩
        show (match evOps P call ops nt ops.toList tr s with
          | some q => some (Ex.normal, q.1, q.2)
          | none => match evOpsP P call ops nt ops.toList tr s with
            | some q => some (Ex.panic q.1, q.2.1, q.2.2)
            | none => none) = _
        rcases h1 with ⟨g1, rfl⟩ | ⟨g1, u, g2, rfl⟩
        · rw [g1]
        · rw [g1]
          dsimp only
          rw [g2]
    | seq x y =>
      obtain ⟨e, tr1, t1, s1, h1, h2, h3⟩ := runC_ok hc hl k x _ t s tr ht h
      obtain ⟨e', tr', t', s', g1, g2, g3⟩ := seqK_ok (P := P) (call := call) (nt := nt) (k := k) (fun t s tr ht h => runC_ok hc hl k y K t s tr ht h) h2 h3
      refine ⟨e', tr', t', s', ?_, g2, g3⟩
      show (match evC P (hooks P) call nt k x tr s with
        | none => none
        | some q => match q.1 with
          | .normal => nxt (evC P (hooks P) call nt k y q.2.1 q.2.2)
          | e => some (e, q.2.1, q.2.2)) = _
      rw [h1]
      exact g1
    | cond x y z =>
      replace h : ccQ (match withO x fun g => some (qCnd g) with
        | some q => CC.cnd q y z
        | none => CC.bad) P nt cq (runC P nt cq k) t s K = some r := h
      rw [withO_eq] at h
      replace h : onBoolR (oevF t.at x) (cn2 t s (cndT (runC P nt cq k) y K) (cndN (runC P nt cq k) z K)) = some r := h
      rw [onBoolR_eq] at h
      have hev : oev tr x = oevF t.at x := by rw [← ht]; rfl
      split at h
      · rename_i b hb
        have hev2 : evC P (hooks P) call nt (k + 1) (.cond x y z) tr s = cond b (evC P (hooks P) call nt k y tr s) (evC P (hooks P) call nt k z tr s) := by
          show (match oev tr x with
            | .bool b => cond b (nxt (evC P (hooks P) call nt k y tr s)) (nxt (evC P (hooks P) call nt k z tr s))
            | _ => none) = _
          rw [hev, hb]
          rfl
        rw [hev2]
        cases b with
        | true => exact runC_ok hc hl k y K t s tr ht h
        | false => exact runC_ok hc hl k z K t s tr ht h
      · cases h
    | block i x =>
      obtain ⟨e, tr1, t1, s1, h1, h2, h3⟩ := runC_ok hc hl k x _ t s tr ht h
      have hev : evC P (hooks P) call nt (k + 1) (.block i x) tr s = blkS i e tr1 s1 := by
        show (match evC P (hooks P) call nt k x tr s with
          | none => none
          | some q => match q.1 with
            | .exit j => _root_.cond (Nat.beq j i) (some (Ex.normal, q.2.1, q.2.2)) (some (Ex.exit j, q.2.1, q.2.2))
            | e => some (e, q.2.1, q.2.2)) = _
        rw [h1]
        rfl
      rw [hev]
      cases e with
      | normal => exact ⟨_, tr1, t1, s1, rfl, h2, h3⟩
      | ret => exact ⟨_, tr1, t1, s1, rfl, h2, h3⟩
      | panic u => exact ⟨_, tr1, t1, s1, rfl, h2, h3⟩
      | exit j =>
        replace h3 : Bool.rec (motive := fun _ => RR) (K (.exit j) t1 s1) (K .normal t1 s1) (Nat.beq j i) = some r := h3
        unfold blkS
        dsimp only
        cases hb : Nat.beq j i with
        | true => rw [hb] at h3; exact ⟨_, tr1, t1, s1, rfl, h2, h3⟩
        | false => rw [hb] at h3; exact ⟨_, tr1, t1, s1, rfl, h2, h3⟩
    | loop x =>
      replace h : ccQ (_root_.cond (nextHead x).isSome .bad (.loop x)) P nt cq (runC P nt cq k) t s K = some r := h
      cases hn : (nextHead x).isSome with
      | true => rw [hn] at h; cases h
      | false =>
        rw [hn] at h
        obtain ⟨e, tr1, t1, s1, h1, h2, h3⟩ := runC_ok hc hl k x _ t s tr ht h
        obtain ⟨e', tr', t', s', g1, g2, g3⟩ := seqK_ok (P := P) (call := call) (nt := nt) (k := k) (fun t s tr ht h => runC_ok hc hl k (.loop x) K t s tr ht h) h2 h3
        refine ⟨e', tr', t', s', ?_, g2, g3⟩
        show _root_.cond (nextHead x).isSome (mapLoop (evC P (hooks P) call nt k) nt x tr s) (match evC P (hooks P) call nt k x tr s with
          | none => none
          | some q => match q.1 with
            | .normal => nxt (evC P (hooks P) call nt k (.loop x) q.2.1 q.2.2)
            | e => some (e, q.2.1, q.2.2)) = _
        rw [hn, h1]
        exact g1
/-- Functions. -/
inductive FH where
  | bad
  | mk (c : Code) (nt : Nat) (rs : List ResultVar)
noncomputable def fhQ (x : Option Func) : FH := match x with
  | none => .bad
  | some fn => match fn.body with
    | none => .bad
    | some c => cond (Nat.ble fn.ntmps 1000000) (.mk c fn.ntmps fn.results.toList) .bad
noncomputable def iniQ (l : List AV) : Nat → SL → SL := List.rec (motive := fun _ => Nat → SL → SL) (fun _ t => t) (fun v _ ih k t => ih (Nat.succ k) (t.wr k v)) l
theorem iniQ_at [Tab] : ∀ (l : List AV) (k : Nat) (t : SL) (tr : Tr AV), k + l.length ≤ 1000000 → tr.get .top = t.at → (initT l k tr).get .top = (iniQ l k t).at
  | [], _, _, _, _, h => h
  | v :: l, k, t, tr, hk, h => by
    simp only [List.length_cons] at hk
    refine iniQ_at l (k + 1) (t.wr k v) (tr.set .top v 20 k) (by omega) ?_
    rw [SL.at_wr, ← h]
    funext j
    unfold updT
    by_cases e : k = j
    · subst e
      rw [if_pos rfl, Tr.get_set _ _ _ _ _ (by omega)]
    · rw [if_neg fun h => e (by injection h), Tr.get_set_ne _ _ _ _ _ _ (Ne.symm e)]
noncomputable def rs1 (P : Program) (t : SL) (s : AS) : ResultVar → Option AV
  | .tmp k => some (t.at k)
  | .cell k ty => loadA P ty (t.at k) s
noncomputable def rss (P : Program) (t : SL) (s : AS) : List ResultVar → Option (List AV)
  | [] => some []
  | r :: l => match rs1 P t s r with
    | none => none
    | some v => match rss P t s l with
      | none => none
      | some vs => some (v :: vs)
noncomputable def rsA (P : Program) (t : SL) (s : AS) (l : List ResultVar) : Option AV := match rss P t s l with
  | none => none
  | some [v] => some v
  | some vs => some (.tup vs)
theorem rss_eq [Tab] {P : Program} {t : SL} {tr : Tr AV} (h : tr.get .top = t.at) (s : AS) : ∀ l, rss P t s l = resAs P tr s l
  | [] => rfl
  | r :: l => by
    unfold rss resAs
    rw [rss_eq h s l, show rs1 P t s r = resA1 P tr s r by cases r <;> (unfold rs1 resA1; rw [h])]
    rfl
theorem rsA_eq [Tab] {P : Program} {t : SL} {tr : Tr AV} (h : tr.get .top = t.at) (s : AS) (l : List ResultVar) : rsA P t s l = resA P tr s l := by
  unfold rsA resA
  rw [rss_eq h s l]
  rfl
noncomputable def kvQ (s : AS) (K : AV → AS → RR) (v : AV) : RR := K v s
noncomputable def rsQ (P : Program) (rs : List ResultVar) (t : SL) (s : AS) (K : AV → AS → RR) : RR := match rs with
  | [.tmp k] => forceR (t.at k) (kvQ s K)
  | rs => Option.rec (motive := fun _ => RR) none (kvQ s K) (rsA P t s rs)
noncomputable def endX (e : Ex) : Program → List ResultVar → SL → AS → (AV → AS → RR) → RR := Ex.rec (motive := fun _ => Program → List ResultVar → SL → AS → (AV → AS → RR) → RR) (fun P rs t s K => rsQ P rs t s K) (fun _ _ _ _ _ _ => none) (fun P rs t s K => rsQ P rs t s K) (fun u _ _ _ s K => K (.pan u) s) e
noncomputable def endK (P : Program) (rs : List ResultVar) (K : AV → AS → RR) (e : Ex) (t : SL) (s : AS) : RR := endX e P rs t s K
theorem rsQ_ok [Tab] {P : Program} {rs : List ResultVar} {t : SL} {tr : Tr AV} (ht : tr.get .top = t.at) {s : AS} {K : AV → AS → RR} {r : RZ} (h : rsQ P rs t s K = some r) : ∃ v, resA P tr s rs = some v ∧ K v s = some r := by
  unfold rsQ at h
  split at h
  · rename_i k
    rw [forceR_eq] at h
    refine ⟨t.at k, ?_, h⟩
    show some (tr.get .top k) = _
    rw [ht]
  · rw [rsA_eq ht] at h
    cases hr : resA P tr s rs with
    | none => rw [hr] at h; cases h
    | some v => rw [hr] at h; exact ⟨v, rfl, h⟩
theorem endK_ok [Tab] {P : Program} {rs : List ResultVar} {t : SL} {tr : Tr AV} (ht : tr.get .top = t.at) {e : Ex} {s : AS} {K : AV → AS → RR} {r : RZ} (h : endK P rs K e t s = some r) : ∃ v s', endA P rs (e, tr, s) = some (v, s') ∧ K v s' = some r := by
  cases e with
  | panic u => exact ⟨_, s, rfl, h⟩
  | exit i => cases h
  | normal =>
    obtain ⟨v, h1, h2⟩ := rsQ_ok ht h
    refine ⟨v, s, ?_, h2⟩
    show cond true (match resA P tr s rs with
      | some v => some (v, s)
      | none => none) none = _
    rw [h1]
    rfl
  | ret =>
    obtain ⟨v, h1, h2⟩ := rsQ_ok ht h
    refine ⟨v, s, ?_, h2⟩
    show cond true (match resA P tr s rs with
      | some v => some (v, s)
      | none => none) none = _
    rw [h1]
    rfl
abbrev OQ := List AV → AS → (AV → AS → RR) → RR
noncomputable def fnQ (x : FH) : Program → Nat → CallQ → List AV → AS → (AV → AS → RR) → RR := FH.rec (motive := fun _ => Program → Nat → CallQ → List AV → AS → (AV → AS → RR) → RR) (fun _ _ _ _ _ _ => none)
  (fun c nt rs P fuel cq args s K => Bool.rec (motive := fun _ => RR) none (runC P nt cq fuel c (iniQ args 0 .nil) s (endK P rs K)) (Nat.ble (lenV args) nt)) x
noncomputable def evQ1 (P : Program) (fuel : Nat) (cq : CallQ) (args : List AV) (s : AS) (K : AV → AS → RR) (x : FH) (o : Option OQ) : RR := Option.rec (motive := fun _ => RR) (fnQ x P fuel cq args s K) (fun g => g args s K) o
noncomputable def evQ (P : Program) (fs : Nat → Option Func) (orc : Nat → Option OQ) (fuel : Nat) (d : Nat) : CallQ := Nat.rec (motive := fun _ => CallQ) (fun _ _ _ _ => none) (fun _ ih f args s K => evQ1 P fuel ih args s K (fhQ (fs f)) (orc f)) d
/-- What oracles must be like. -/
noncomputable def OrcRel (o : Option (List AV → AS → Option (AV × AS))) (q : Option OQ) : Prop := match o, q with
  | none, none => True
  | some g, some h => ∀ args s K r, h args s K = some r → ∃ v s', g args s = some (v, s') ∧ K v s' = some r
  | _, _ => False
theorem evQ_ok [Tab] {P : Program} {fs : Nat → Option Func} {orc : Nat → Option (List AV → AS → Option (AV × AS))} {oq : Nat → Option OQ} (ho : ∀ f, OrcRel (orc f) (oq f)) {fuel : Nat} : ∀ d, CallRel (evF P (hooks P) fs orc fuel d) (evQ P fs oq fuel d)
  | 0 => fun f args s K r h => by cases h
  | d + 1 => fun f args s K r h => by
    have ih := evQ_ok (P := P) (fs := fs) ho (fuel := fuel) d
    replace h : evQ1 P fuel (evQ P fs oq fuel d) args s K (fhQ (fs f)) (oq f) = some r := h
    unfold evQ1 at h
    have hor := ho f
    unfold OrcRel at hor
    unfold evF
    cases e1 : orc f with
    | none =>
      cases e2 : oq f with
      | some _ => rw [e1, e2] at hor; exact hor.elim
      | none =>
        rw [e2] at h
        dsimp only at h ⊢
        unfold fhQ at h
        cases hf : fs f with
        | none => rw [hf] at h; cases h
        | some fn =>
          rw [hf] at h
          dsimp only at h ⊢
          cases hb : fn.body with
          | none => rw [hb] at h; cases h
          | some c =>
            rw [hb] at h
            dsimp only at h ⊢
            cases hn : Nat.ble fn.ntmps 1000000 with
            | false => rw [hn] at h; cases h
            | true =>
              rw [hn] at h
              replace h : Bool.rec (motive := fun _ => RR) none (runC P fn.ntmps (evQ P fs oq fuel d) fuel c (iniQ args 0 .nil) s (endK P fn.results.toList K)) (Nat.ble (lenV args) fn.ntmps) = some r := h
              rw [lenV_eq] at h
              cases hl : Nat.ble args.length fn.ntmps with
              | false => rw [hl] at h; cases h
              | true =>
                rw [hl] at h
                simp only [cond_true]
                have hn' : fn.ntmps ≤ 1000000 := Nat.le_of_ble_eq_true hn
                have hl' : args.length ≤ fn.ntmps := Nat.le_of_ble_eq_true hl
                obtain ⟨e, tr', t', s', h1, h2, h3⟩ := runC_ok ih hn' fuel c _ _ s (initT args 0 .leaf) (iniQ_at args 0 .nil .leaf (by omega) (funext fun k => (SL.at_nil k).symm)) h
                rw [h1]
                exact endK_ok h2 h3
    | some g =>
      cases e2 : oq f with
      | none => rw [e1, e2] at hor; exact hor.elim
      | some q =>
        rw [e1, e2] at hor
        rw [e2] at h
        exact hor _ _ _ _ h
/-- An oracle in the plain form serves. -/
noncomputable def orcD (g : List AV → AS → Option (AV × AS)) : OQ := fun args s K => Option.rec (motive := fun _ => RR) none (fun q => K q.1 q.2) (g args s)
theorem orcD_ok (g : List AV → AS → Option (AV × AS)) : OrcRel (some g) (some (orcD g)) := fun args s K r h => by
  unfold orcD at h
  cases hg : g args s with
  | none => rw [hg] at h; cases h
  | some q => rw [hg] at h; exact ⟨q.1, q.2, rfl, h⟩
/-- A closed run that answers true. -/
noncomputable def trueK (v : AV) (s : AS) : RR := some (.val v s)
noncomputable def trueZ (v : AV) : Bool := match v with
  | .bool b => b
  | _ => false
noncomputable def isTrueQ (x : RR) : Bool := match x with
  | some (.val v _) => trueZ v
  | _ => false
theorem closed_trueQ [Tab] {P : Program} {call : Nat → List AV → AS → Option (AV × AS)} (hc : CallOK P call) {cq : CallQ} (hr : CallRel call cq) {f : Nat} (h : isTrueQ (cq f [] AS.nil trueK) = true) (w : World) (hw : Below Tab.w0.heap.size Tab.w0 w) : Calls P f #[] w fun e w' => e = .returned (.bool true) ∧ Below w.heap.size w w' := by
  unfold isTrueQ at h
  split at h
  · rename_i v s he
    obtain ⟨v1, s1, h1, h2⟩ := hr _ _ _ _ _ he
    injection h2 with h2
    injection h2 with e1 e2
    subst e1
    subst e2
    unfold trueZ at h
    split at h
    · rename_i b
      subst h
      have h0 : ∀ b, AS.nil.get b = .none := AS.get_nil 0
      refine (hc.calls f [] AS.nil (.bool true) s1 h1 (fun u e => by cases e) ⟨fun _ => False, fun _ => 0, fun _ => 0, fun _ => .deferred none⟩ w #[] (HR.start h0 hw) (fun b hb => hb.elim) VL.nil).mono fun e w' hq => ?_
      obtain ⟨x, E', rfl, q1, _, q3, _⟩ := hq
      cases q1
      exact ⟨rfl, q3.below h0⟩
    · cases h
  · cases h
/-- Tables of functions. -/
noncomputable def fnL (l : List (Nat × Func)) : Nat → Option Func := List.rec (motive := fun _ => Nat → Option Func) (fun _ => none) (fun p _ ih k => Bool.rec (motive := fun _ => Option Func) (ih k) (some p.2) (Nat.beq p.1 k)) l
inductive FL (P : Program) : List (Nat × Func) → Prop
  | nil : FL P []
  | cons {k : Nat} {fn : Func} {l : List (Nat × Func)} (h : P.funcs[k]? = some fn) (h2 : (fn.name == "runtime.NumGoroutine") = false) (hl : FL P l) : FL P ((k, fn) :: l)
theorem fnL_ok {P : Program} (l : List (Nat × Func)) (h : FL P l) : FnsOK P (fnL l) := ⟨by
  induction h with
  | nil => intro f fn hf; cases hf
  | cons h h2 hl ih =>
    rename_i k fn l
    intro f fn' hf
    replace hf : Bool.rec (motive := fun _ => Option Func) (fnL l f) (some fn) (Nat.beq k f) = some fn' := hf
    cases hb : Nat.beq k f with
    | true =>
      rw [hb] at hf
      injection hf with hf
      rw [← hf, ← Nat.eq_of_beq_eq_true hb]
      exact ⟨h, h2⟩
    | false =>
      rw [hb] at hf
      exact ih f fn' hf⟩
end Go.Proofs.YtambgppdjlhdaaaGreatDoor
