/-
  The abstract machine: the hook for drawn regions. No program.
-/
import Derived.Test.YtkjcjfpglpnaaaaGreatDoorEvQ
namespace Go.Proofs.YtkjcjfpglpnaaaaGreatDoor
open Go.RowKit

mutual
/-- The same values? -/
noncomputable def eqAV : AV → AV → Bool
  | .top, .top => true
  | .undef, .undef => true
  | .int k n, .int k' n' => cond (kindEq k k') (decide (n = n')) false
  | .bool b, .bool b' => b == b'
  | .str l, .str l' => eqB l l'
  | .nilp, .nilp => true
  | .ptr b o, .ptr b' o' => cond (Nat.beq b b') (Nat.beq o o') false
  | .nils, .nils => true
  | .sl b o n c, .sl b' o' n' c' => cond (Nat.beq b b') (cond (Nat.beq o o') (cond (Nat.beq n n') (Nat.beq c c') false) false) false
  | .slu b o n c, .slu b' o' n' c' => cond (Nat.beq b b') (cond (Nat.beq o o') (cond (Nat.beq n n') (Nat.beq c c') false) false) false
  | .nilm, .nilm => true
  | .mapp b, .mapp b' => Nat.beq b b'
  | .nilfn, .nilfn => true
  | .fn f l, .fn f' l' => cond (Nat.beq f f') (eqAVs l l') false
  | .fnm f l, .fnm f' l' => cond (Nat.beq f f') (eqAVs l l') false
  | .nili, .nili => true
  | .ifc t v, .ifc t' v' => cond (Nat.beq t t') (eqAV v v') false
  | .agg l, .agg l' => eqAVs l l'
  | .tup l, .tup l' => eqAVs l l'
  | _, _ => false
noncomputable def eqAVs : List AV → List AV → Bool
  | [], [] => true
  | a :: l, b :: m => cond (eqAV a b) (eqAVs l m) false
  | _, _ => false
end
mutual
theorem eqAV_eq : ∀ (a b : AV), eqAV a b = true → a = b := by
  intro a b h
  cases a <;> cases b <;> first | rfl | (unfold eqAV at h; cases h; done) | skip
  case int.int k n k' n' =>
    unfold eqAV at h
    obtain ⟨h1, h2⟩ := cond_ff h
    rw [kindEq_eq h1, of_decide_eq_true h2]
  case bool.bool b b' => unfold eqAV at h; rw [eq_of_beq h]
  case str.str l l' =>
    unfold eqAV at h
    rw [eqB_eq] at h
    rw [of_decide_eq_true h]
  case ptr.ptr b o b' o' =>
    unfold eqAV at h
    obtain ⟨h1, h2⟩ := cond_ff h
    rw [Nat.eq_of_beq_eq_true h1, Nat.eq_of_beq_eq_true h2]
  case sl.sl b o n c b' o' n' c' =>
    unfold eqAV at h
    obtain ⟨h1, h2⟩ := cond_ff h
    obtain ⟨h3, h4⟩ := cond_ff h2
    obtain ⟨h5, h6⟩ := cond_ff h4
    rw [Nat.eq_of_beq_eq_true h1, Nat.eq_of_beq_eq_true h3, Nat.eq_of_beq_eq_true h5, Nat.eq_of_beq_eq_true h6]
  case slu.slu b o n c b' o' n' c' =>
    unfold eqAV at h
    obtain ⟨h1, h2⟩ := cond_ff h
    obtain ⟨h3, h4⟩ := cond_ff h2
    obtain ⟨h5, h6⟩ := cond_ff h4
    rw [Nat.eq_of_beq_eq_true h1, Nat.eq_of_beq_eq_true h3, Nat.eq_of_beq_eq_true h5, Nat.eq_of_beq_eq_true h6]
  case mapp.mapp b b' => unfold eqAV at h; rw [Nat.eq_of_beq_eq_true h]
  case fn.fn f l f' l' =>
    unfold eqAV at h
    obtain ⟨h1, h2⟩ := cond_ff h
    rw [Nat.eq_of_beq_eq_true h1, eqAVs_eq l l' h2]
  case fnm.fnm f l f' l' =>
    unfold eqAV at h
    obtain ⟨h1, h2⟩ := cond_ff h
    rw [Nat.eq_of_beq_eq_true h1, eqAVs_eq l l' h2]
  case ifc.ifc t v t' v' =>
    unfold eqAV at h
    obtain ⟨h1, h2⟩ := cond_ff h
    rw [Nat.eq_of_beq_eq_true h1, eqAV_eq v v' h2]
  case agg.agg l l' => unfold eqAV at h; rw [eqAVs_eq l l' h]
  case tup.tup l l' => unfold eqAV at h; rw [eqAVs_eq l l' h]
theorem eqAVs_eq : ∀ (l m : List AV), eqAVs l m = true → l = m
  | [], [], _ => rfl
  | [], _ :: _, h => by unfold eqAVs at h; cases h
  | _ :: _, [], h => by unfold eqAVs at h; cases h
  | a :: l, b :: m, h => by
    unfold eqAVs at h
    obtain ⟨h1, h2⟩ := cond_ff h
    rw [eqAV_eq a b h1, eqAVs_eq l m h2]
end
structure DC where
  t : Tr AV
  g : AS
  x : Nat → AB
  hist : List (Nat × AS)
  rds : List (Nat × (AS → Bool))
noncomputable def againA (r : Option (AV × AS)) (v : AV) (s : AS) : Bool := match r with
  | some q => cond (eqAV q.1 v) (Nat.beq q.2.n s.n) false
  | none => false
noncomputable def histB (ms : Tr Nat) (i : Nat) (f : AS → Option (AV × AS)) (v : AV) : List (Nat × AS) → Bool
  | [] => true
  | h :: r => cond (cond (ancM ms h.1 i) true (againA (f h.2) v h.2)) (histB ms i f v r) false
noncomputable def rdsB (ms : Tr Nat) (i : Nat) (g : AS) : List (Nat × (AS → Bool)) → Bool
  | [] => true
  | h :: r => cond (cond (ancM ms h.1 i) true (h.2 g)) (rdsB ms i g r) false
noncomputable def convC (P : Program) (call : Nat → List AV → AS → Option (AV × AS)) (nt : Nat) (base : Nat) (i : Nat) (o : Oper) (c : DC) : Option DC := cond (isConv o) (match evOp P call o (oev c.t) ⟨c.g.h, Nat.add base i⟩ with
  | some q => cond (Nat.beq q.2.n (Nat.succ (Nat.add base i))) (match putT nt c.t o.dst q.1 with
    | some t => some ⟨t, c.g, updF c.x i (q.2.get (Nat.add base i)), c.hist, c.rds⟩
    | none => none) none
  | none => none) none
noncomputable def stepC (P : Program) (call : Nat → List AV → AS → Option (AV × AS)) (nt : Nat) (ops : Array Oper) (base : Nat) (ms : Tr Nat) (i : Nat) (o : Oper) (c : DC) : Option DC := match wantA ops o c.t with
  | none => none
  | some false => match putT nt c.t o.dst .undef with
    | some t => some ⟨t, c.g, c.x, c.hist, c.rds⟩
    | none => none
  | some true => match clsO o with
    | 0 => match evOp P call o (oev c.t) c.g with
      | some q => match putT nt c.t o.dst q.1 with
        | some t => some ⟨t, c.g, c.x, c.hist, c.rds⟩
        | none => none
      | none => none
    | 1 => match evOp P call o (oev c.t) c.g with
      | some q => cond (Nat.beq q.2.n c.g.n) (cond (histB ms i (evOp P call o (oev c.t)) q.1 c.hist) (match putT nt c.t o.dst q.1 with
        | some t => some ⟨t, c.g, c.x, c.hist, (i, fun s => againA (evOp P call o (oev c.t) s) q.1 s) :: c.rds⟩
        | none => none) none) (convC P call nt base i o c)
      | none => none
    | 2 => match evOp P call o (oev c.t) ⟨c.g.h, Nat.add base i⟩ with
      | some q => match putT nt c.t o.dst q.1 with
        | some t => some ⟨t, c.g, updF c.x i (q.2.get (Nat.add base i)), c.hist, c.rds⟩
        | none => none
      | none => none
    | 3 => match evOp P call o (oev c.t) (preA base (fun k => ancM ms k i) c.x ops.size c.g) with
      | some q => cond (rdsB ms i q.2 c.rds) (match putT nt c.t o.dst q.1 with
        | some t => some ⟨t, q.2, fun k => cond (ancM ms k i) .none (c.x k), (i, c.g) :: c.hist, c.rds⟩
        | none => none) none
      | none => none
    | _ => none
/-- What is reckoned stands for a region's state. -/
structure RelC (c : DC) (d : DS) : Prop where
  t : d.t = c.t.get .top
  g : d.g = c.g
  x : d.x = c.x
  hist : ∀ e s, d.hist e s → (e, s) ∈ c.hist
  rds : ∀ r s, (∀ f, (r, f) ∈ c.rds → f s = true) → d.rds r s
theorem histB_ok {ms : Tr Nat} {i : Nat} {f : AS → Option (AV × AS)} {v : AV} : ∀ (l : List (Nat × AS)), histB ms i f v l = true → ∀ e s, (e, s) ∈ l → ancM ms e i = false → againA (f s) v s = true
  | [], _, _, _, h, _ => by cases h
  | h :: r, hb, e, s, hm, ha => by
    unfold histB at hb
    obtain ⟨h1, h2⟩ := cond_ff hb
    rcases List.mem_cons.1 hm with rfl | hm
    · dsimp only at h1
      rw [ha] at h1
      exact h1
    · exact histB_ok r h2 e s hm ha
theorem rdsB_ok {ms : Tr Nat} {i : Nat} {g : AS} : ∀ (l : List (Nat × (AS → Bool))), rdsB ms i g l = true → ∀ r f, (r, f) ∈ l → ancM ms r i = false → f g = true
  | [], _, _, _, h, _ => by cases h
  | h :: r, hb, e, s, hm, ha => by
    unfold rdsB at hb
    obtain ⟨h1, h2⟩ := cond_ff hb
    rcases List.mem_cons.1 hm with rfl | hm
    · dsimp only at h1
      rw [ha] at h1
      exact h1
    · exact rdsB_ok r h2 e s hm ha
theorem againA_ok {P : Program} {call : Nat → List AV → AS → Option (AV × AS)} {o : Oper} {ev : Operand → AV} {v : AV} {s : AS} (hc : clsO o = 1) (h : againA (evOp P call o ev s) v s = true) : evOp P call o ev s = some (v, s) := by
  unfold againA at h
  split at h
  · rename_i q hq
    obtain ⟨h1, h2⟩ := cond_ff h
    obtain ⟨u, s'⟩ := q
    have e1 := eqAV_eq _ _ h1
    have e2 := evOp_read hc hq (Nat.eq_of_beq_eq_true h2)
    dsimp only at e1
    rw [hq, e1, e2]
  · cases h
theorem putT_upd {nt : Nat} {t t' : Tr AV} {d : Option Nat} {v : AV} (hl : nt ≤ 1000000) (h : putT nt t d v = some t') : t'.get .top = updT (t.get .top) d v := funext fun k => putT_get hl h k
theorem stepC_ok {P : Program} {call : Nat → List AV → AS → Option (AV × AS)} {nt : Nat} (hl : nt ≤ 1000000) {ops : Array Oper} {base : Nat} (hb : base + ops.size ≤ 1000000000) {ms : Tr Nat} {i : Nat} {o : Oper} (ho : ops[i]? = some o) {c c' : DC} {d : DS} (hr : RelC c d) (hs : stepC P call nt ops base ms i o c = some c') :
    ∃ d', StepD P call nt ops base (ancM ms) i d d' ∧ RelC c' d' := by
  have hlt : ∀ {v : AV} {t : Tr AV}, putT nt c.t o.dst v = some t → ∀ k, o.dst = some k → k < nt := fun h k hk => by rw [hk] at h; exact putT_lt h
  have hin : i < ops.size := (Array.getElem?_eq_some_iff.1 ho).1
  unfold stepC at hs
  split at hs
  · cases hs
  · rename_i hw
    split at hs
    · rename_i t hp
      injection hs with hs
      subst hs
      exact ⟨_, ⟨o, ho, hlt hp, .inl ⟨by rw [hr.t]; exact hw, rfl⟩⟩, ⟨by rw [putT_upd hl hp, hr.t], hr.g, hr.x, hr.hist, hr.rds⟩⟩
    · cases hs
  · rename_i hw
    have hw' : wantF ops o d.t = some true := by rw [hr.t]; exact hw
    have hev : oevF d.t = oev c.t := by rw [hr.t]; rfl
    split at hs
    · rename_i hcl
      split at hs
      · rename_i q hq
        split at hs
        · rename_i t hp
          injection hs with hs
          subst hs
          obtain ⟨u, s'⟩ := q
          obtain ⟨_, h2⟩ := evOp_pure hcl hq
          exact ⟨_, ⟨o, ho, hlt hp, .inr (.inl ⟨hw', hcl, u, by rw [hev]; exact h2, rfl⟩)⟩, ⟨by rw [putT_upd hl hp, hr.t], hr.g, hr.x, hr.hist, hr.rds⟩⟩
        · cases hs
      · cases hs
    · rename_i hcl
      split at hs
      · rename_i q hq
        cases h1 : Nat.beq q.2.n c.g.n with
        | false =>
          rw [h1] at hs
          simp only [cond_false] at hs
          unfold convC at hs
          cases h3 : isConv o with
          | false => rw [h3] at hs; cases hs
          | true =>
            rw [h3] at hs
            simp only [cond_true] at hs
            split at hs
            · rename_i q2 hq2
              cases h4 : Nat.beq q2.2.n (Nat.succ (Nat.add base i)) with
              | false => rw [h4] at hs; cases hs
              | true =>
                rw [h4] at hs
                simp only [cond_true] at hs
                split at hs
                · rename_i t hp
                  injection hs with hs
                  subst hs
                  obtain ⟨u, s'⟩ := q2
                  obtain ⟨cb, g1, g2, g3⟩ := evOp_conv h3 hq2 (Nat.eq_of_beq_eq_true h4)
                  have hget : s'.get (base + i) = cb := by
                    rw [g2]
                    exact AS.get_new ⟨c.g.h, base + i⟩ cb (by show base + i < _; omega)
                  refine ⟨_, ⟨o, ho, hlt hp, .inr (.inr (.inr (.inl ⟨hw', .inr h3, u, cb, g1, fun s hs => by rw [hev]; exact g3 s hs, rfl⟩)))⟩, ⟨by rw [putT_upd hl hp, hr.t], hr.g, ?_, hr.hist, hr.rds⟩⟩
                  show updF d.x i cb = updF c.x i (s'.get (base + i))
                  rw [hget, hr.x]
                · cases hs
            · cases hs
        | true =>
        cases h2 : histB ms i (evOp P call o (oev c.t)) q.1 c.hist with
        | false => rw [h1, h2] at hs; cases hs
        | true =>
          rw [h1, h2] at hs
          simp only [cond_true] at hs
          split at hs
          · rename_i t hp
            injection hs with hs
            subst hs
            obtain ⟨u, s'⟩ := q
            have e2 := evOp_read hcl hq (Nat.eq_of_beq_eq_true h1)
            subst e2
            refine ⟨_, ⟨o, ho, hlt hp, .inr (.inr (.inl ⟨hw', hcl, u, by rw [hev, hr.g]; exact hq, fun e gb he ha => by rw [hev]; exact againA_ok hcl (histB_ok _ h2 e gb (hr.hist e gb he) ha), rfl⟩))⟩, ⟨by rw [putT_upd hl hp, hr.t], hr.g, hr.x, hr.hist, fun r s hf => ⟨hr.rds r s fun f hm => hf f (by simp [hm]), fun e => ?_⟩⟩⟩
            have := hf _ (by rw [e]; exact List.mem_cons_self)
            show evOp P call o (oevF d.t) s = some (u, s)
            rw [hev]
            exact againA_ok hcl this
          · cases hs
      · cases hs
    · rename_i hcl
      split at hs
      · rename_i q hq
        split at hs
        · rename_i t hp
          injection hs with hs
          subst hs
          obtain ⟨u, s'⟩ := q
          obtain ⟨cb, g1, g2, g3⟩ := evOp_new hcl hq
          have hget : s'.get (base + i) = cb := by
            rw [g2]
            exact AS.get_new ⟨c.g.h, base + i⟩ cb (by show base + i < _; omega)
          refine ⟨_, ⟨o, ho, hlt hp, .inr (.inr (.inr (.inl ⟨hw', .inl hcl, u, cb, g1, fun s hs => by rw [hev]; exact g3 s hs, rfl⟩)))⟩, ⟨by rw [putT_upd hl hp, hr.t], hr.g, ?_, hr.hist, hr.rds⟩⟩
          show updF d.x i cb = updF c.x i (s'.get (base + i))
          rw [hget, hr.x]
        · cases hs
      · cases hs
    · rename_i hcl
      split at hs
      · rename_i q hq
        cases h1 : rdsB ms i q.2 c.rds with
        | false => rw [h1] at hs; cases hs
        | true =>
          rw [h1] at hs
          simp only [cond_true] at hs
          split at hs
          · rename_i t hp
            injection hs with hs
            subst hs
            obtain ⟨u, g'⟩ := q
            refine ⟨_, ⟨o, ho, hlt hp, .inr (.inr (.inr (.inr ⟨hw', hcl, u, g', by rw [hev, hr.g, hr.x]; exact hq, fun r ha => hr.rds r g' fun f hm => rdsB_ok _ h1 r f hm ha, rfl⟩)))⟩, ⟨by rw [putT_upd hl hp, hr.t], rfl, ?_, fun e s he => ?_, hr.rds⟩⟩
            · funext k
              show (if ancM ms k i = true then AB.none else d.x k) = cond (ancM ms k i) .none (c.x k)
              rw [hr.x]
              cases ancM ms k i <;> rfl
            · rcases he with he | ⟨e1, e2⟩
              · exact List.mem_cons_of_mem _ (hr.hist e s he)
              · rw [e1, e2, hr.g]
                exact List.mem_cons_self
          · cases hs
      · cases hs
    · cases hs
noncomputable def stepsC (P : Program) (call : Nat → List AV → AS → Option (AV × AS)) (nt : Nat) (ops : Array Oper) (base : Nat) (ms : Tr Nat) : List Oper → Nat → DC → Option DC
  | [], _, c => some c
  | o :: r, i, c => match stepC P call nt ops base ms i o c with
    | some c' => stepsC P call nt ops base ms r (Nat.succ i) c'
    | none => none
theorem stepsC_ok {P : Program} {call : Nat → List AV → AS → Option (AV × AS)} {nt : Nat} (hl : nt ≤ 1000000) {ops : Array Oper} {base : Nat} (hb : base + ops.size ≤ 1000000000) {ms : Tr Nat} : ∀ (l : List Oper) (i : Nat) (c c' : DC) (d : DS), (∀ j o, l[j]? = some o → ops[i + j]? = some o) → RelC c d → stepsC P call nt ops base ms l i c = some c' →
    ∃ d', Chain P call nt ops base (ancM ms) (List.range' i l.length) d d' ∧ RelC c' d'
  | [], i, c, c', d, _, hr, hs => by
    injection hs with hs
    subst hs
    exact ⟨d, rfl, hr⟩
  | o :: l, i, c, c', d, hops, hr, hs => by
    unfold stepsC at hs
    split at hs
    · rename_i c1 h1
      obtain ⟨d1, q1, q2⟩ := stepC_ok hl hb (hops 0 o rfl) hr h1
      obtain ⟨d', q3, q4⟩ := stepsC_ok hl hb l (i + 1) c1 c' d1 (fun j o' hj => by have := hops (j + 1) o' (by simpa using hj); rwa [show i + 1 + j = i + (j + 1) by omega]) q2 hs
      exact ⟨d', ⟨d1, q1, q3⟩, q4⟩
    · cases hs
/-- A drawn region. -/
noncomputable def drawA (P : Program) (call : Nat → List AV → AS → Option (AV × AS)) (nt : Nat) (ops : Array Oper) (t : Tr AV) (s : AS) : Option (Tr AV × AS) :=
  cond (statB ops) (cond (Nat.ble (Nat.add s.n ops.size) 1000000000) (match stepsC P call nt ops s.n (masksT ops.toList 0 .leaf) ops.toList 0 ⟨t, ⟨s.h, Nat.add s.n ops.size⟩, fun _ => .none, [], []⟩ with
    | some c => some (c.t, preA s.n allP c.x ops.size c.g)
    | none => none) none) none
theorem drawA_ok {P : Program} (hm : P.follows .mixedOrders = true) {call : Nat → List AV → AS → Option (AV × AS)} (hc : CallOK P call) {nt id : Nat} {ops : Array Oper} {t t' : Tr AV} {s s' : AS} (he : drawA P call nt ops t s = some (t', s')) {E : Env} {a : Act} {w : World} (ht : TR E nt (t.get .top) a) (h : HR E s.get w) (hf : Fresh E s.n) :
    (Code.region id ops true).wp P (Post E nt a s w .normal t' s') a w := by
  unfold drawA at he
  cases h1 : statB ops with
  | false => rw [h1] at he; cases he
  | true =>
  cases h2 : Nat.ble (Nat.add s.n ops.size) 1000000000 with
  | false => rw [h1, h2] at he; cases he
  | true =>
    rw [h1, h2] at he
    simp only [cond_true] at he
    split at he
    · rename_i c hs
      injection he with he
      injection he with e1 e2
      subst e1
      subst e2
      obtain ⟨hn, hst⟩ := statB_ok h1
      have hb : s.n + ops.size ≤ 1000000000 := Nat.le_of_ble_eq_true h2
      obtain ⟨dF, hch, hrel⟩ := stepsC_ok ht.lim hb ops.toList 0 _ c ⟨t.get .top, ⟨s.h, s.n + ops.size⟩, fun _ => .none, fun _ _ => False, fun _ _ => True⟩ (fun j o hj => by rw [Nat.zero_add]; simpa using hj) ⟨rfl, rfl, rfl, fun _ _ h => h.elim, fun _ _ _ => trivial⟩ hs
      have hx0 : ∀ b, xOf s.n ops.size allP (fun _ => AB.none) b = .none := fun b => by unfold xOf; split <;> rfl
      have hov : ov (AS.get ⟨s.h, s.n + ops.size⟩) (xOf s.n ops.size allP fun _ => .none) = s.get := funext fun b => ov_none (hx0 b)
      refine wp_region_any hm (any_ok hc hst (E0 := E) (g0 := s.get) (w0 := w) (a0 := a) (nt := nt) (base := s.n) (dF := dF) (fun E' a' w' hI => ?_) ops.size (List.range' 0 ops.toList.length) (Array.replicate ops.size false) _ E a w.drew ?_ (by simp) (fun k => ?_) (fun i o ho hl => ?_) (List.pairwise_lt_range' ..) (by simp) hch)
      · have hfun : (preA s.n allP c.x ops.size c.g).get = ov dF.g.get (xOf s.n ops.size allP dF.x) := by
          funext b
          rw [preA_get hb b, hrel.g, hrel.x]
        have hn' : (preA s.n allP c.x ops.size c.g).n = dF.g.n := by rw [preA_n, hrel.g]
        refine ⟨rfl, E', by rw [← hrel.t]; exact hI.t, by rw [hfun]; exact hI.h, by rw [hfun]; exact hI.stp, ⟨by rw [hn']; exact Nat.le_trans (Nat.le_add_right _ _) hI.lim, fun b hb => by rw [hn']; exact hI.ok b hb⟩, hI.df⟩
      · refine ⟨ht, by rw [hov]; exact h.drew, Nat.le_refl _, hb, fun b hb => Nat.lt_of_lt_of_le (hf b hb) (Nat.le_add_right _ _), fun k hk => ⟨by simpa using hk, fun hok => by have := hf _ hok; omega, rfl⟩, fun b hb => absurd (hx0 b) hb, by rw [hov]; exact Stp.drew E s.get w, fun b hb => .inl hb, rfl⟩
      · simp
        intro hk
        simp [hk]
      · have hi := (Array.getElem?_eq_some_iff.1 ho).1
        simp [hi] at hl
    · cases he
end Go.Proofs.YtkjcjfpglpnaaaaGreatDoor
