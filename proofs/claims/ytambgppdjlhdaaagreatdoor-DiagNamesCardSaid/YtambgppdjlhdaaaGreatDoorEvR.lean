/-
  The abstract machine: the hook for drawn regions. No program.
-/
import Derived.Test.YtambgppdjlhdaaaGreatDoorEvQ
namespace Go.Proofs.YtambgppdjlhdaaaGreatDoor
open Go.RowKit

mutual
/-- The same values? -/
noncomputable def eqAV : AV → AV → Bool
  | .top, .top => true
  | .undef, .undef => true
  | .int k n, .int k' n' => cond (kindEq k k') (decide (n = n')) false
  | .bool b, .bool b' => b == b'
  | .str l, .str l' => eqB l l'
  | .nilp, .nilp => true
  | .ptr b o, .ptr b' o' => cond (Nat.beq b b') (Nat.beq o o') false
  | .nils, .nils => true
  | .sl b o n c, .sl b' o' n' c' => cond (Nat.beq b b') (cond (Nat.beq o o') (cond (Nat.beq n n') (Nat.beq c c') false) false) false
  | .slu b o n c, .slu b' o' n' c' => cond (Nat.beq b b') (cond (Nat.beq o o') (cond (Nat.beq n n') (Nat.beq c c') false) false) false
  | .nilm, .nilm => true
  | .mapp b, .mapp b' => Nat.beq b b'
  | .nilfn, .nilfn => true
  | .fn f l, .fn f' l' => cond (Nat.beq f f') (eqAVs l l') false
  | .fnm f l, .fnm f' l' => cond (Nat.beq f f') (eqAVs l l') false
  | .nili, .nili => true
  | .ifc t v, .ifc t' v' => cond (Nat.beq t t') (eqAV v v') false
  | .agg l, .agg l' => eqAVs l l'
  | .tup l, .tup l' => eqAVs l l'
  | .symI b k lo hi, .symI b' k' lo' hi' => cond (Nat.beq b b') (cond (kindEq k k') (cond (decide (lo = lo')) (decide (hi = hi')) false) false) false
  | .symS b, .symS b' => Nat.beq b b'
  | .symT b lo hi, .symT b' lo' hi' => cond (Nat.beq b b') (cond (decide (lo = lo')) (decide (hi = hi')) false) false
  | .symZ n, .symZ n' => Nat.beq n n'
  | .sle, .sle => true
  | _, _ => false
noncomputable def eqAVs : List AV → List AV → Bool
  | [], [] => true
  | a :: l, b :: m => cond (eqAV a b) (eqAVs l m) false
  | _, _ => false
end
mutual
theorem eqAV_eq [Tab] : ∀ (a b : AV), eqAV a b = true → a = b := by
  intro a b h
  cases a <;> cases b <;> first | rfl | (unfold eqAV at h; cases h; done) | skip
  case int.int k n k' n' =>
    unfold eqAV at h
    obtain ⟨h1, h2⟩ := cond_ff h
    rw [kindEq_eq h1, of_decide_eq_true h2]
  case bool.bool b b' => unfold eqAV at h; rw [eq_of_beq h]
  case str.str l l' =>
    unfold eqAV at h
    rw [eqB_eq] at h
    rw [of_decide_eq_true h]
  case ptr.ptr b o b' o' =>
    unfold eqAV at h
    obtain ⟨h1, h2⟩ := cond_ff h
    rw [Nat.eq_of_beq_eq_true h1, Nat.eq_of_beq_eq_true h2]
  case sl.sl b o n c b' o' n' c' =>
    unfold eqAV at h
    obtain ⟨h1, h2⟩ := cond_ff h
    obtain ⟨h3, h4⟩ := cond_ff h2
    obtain ⟨h5, h6⟩ := cond_ff h4
    rw [Nat.eq_of_beq_eq_true h1, Nat.eq_of_beq_eq_true h3, Nat.eq_of_beq_eq_true h5, Nat.eq_of_beq_eq_true h6]
  case slu.slu b o n c b' o' n' c' =>
    unfold eqAV at h
    obtain ⟨h1, h2⟩ := cond_ff h
    obtain ⟨h3, h4⟩ := cond_ff h2
    obtain ⟨h5, h6⟩ := cond_ff h4
    rw [Nat.eq_of_beq_eq_true h1, Nat.eq_of_beq_eq_true h3, Nat.eq_of_beq_eq_true h5, Nat.eq_of_beq_eq_true h6]
  case mapp.mapp b b' => unfold eqAV at h; rw [Nat.eq_of_beq_eq_true h]
  case fn.fn f l f' l' =>
    unfold eqAV at h
    obtain ⟨h1, h2⟩ := cond_ff h
    rw [Nat.eq_of_beq_eq_true h1, eqAVs_eq l l' h2]
  case fnm.fnm f l f' l' =>
    unfold eqAV at h
    obtain ⟨h1, h2⟩ := cond_ff h
    rw [Nat.eq_of_beq_eq_true h1, eqAVs_eq l l' h2]
  case ifc.ifc t v t' v' =>
    unfold eqAV at h
    obtain ⟨h1, h2⟩ := cond_ff h
    rw [Nat.eq_of_beq_eq_true h1, eqAV_eq v v' h2]
  case agg.agg l l' => unfold eqAV at h; rw [eqAVs_eq l l' h]
  case tup.tup l l' => unfold eqAV at h; rw [eqAVs_eq l l' h]
  case symI.symI b k lo hi b' k' lo' hi' =>
    unfold eqAV at h
    obtain ⟨h1, h2⟩ := cond_ff h
    obtain ⟨h3, h4⟩ := cond_ff h2
    obtain ⟨h5, h6⟩ := cond_ff h4
    rw [Nat.eq_of_beq_eq_true h1, kindEq_eq h3, of_decide_eq_true h5, of_decide_eq_true h6]
  case symS.symS b b' => unfold eqAV at h; rw [Nat.eq_of_beq_eq_true h]
  case symT.symT b lo hi b' lo' hi' =>
    unfold eqAV at h
    obtain ⟨h1, h2⟩ := cond_ff h
    obtain ⟨h3, h4⟩ := cond_ff h2
    rw [Nat.eq_of_beq_eq_true h1, of_decide_eq_true h3, of_decide_eq_true h4]
  case symZ.symZ n n' => unfold eqAV at h; rw [Nat.eq_of_beq_eq_true h]
theorem eqAVs_eq [Tab] : ∀ (l m : List AV), eqAVs l m = true → l = m
  | [], [], _ => rfl
  | [], _ :: _, h => by unfold eqAVs at h; cases h
  | _ :: _, [], h => by unfold eqAVs at h; cases h
  | a :: l, b :: m, h => by
    unfold eqAVs at h
    obtain ⟨h1, h2⟩ := cond_ff h
    rw [eqAV_eq a b h1, eqAVs_eq l m h2]
end
noncomputable def putF (nt : Nat) (f : Nat → AV) (d : Option Nat) (v : AV) : Option (Nat → AV) := match d with
  | none => some f
  | some d => cond (Nat.ble (Nat.succ d) nt) (some (updT f (some d) v)) none
structure DC where
  t : Nat → AV
  g : AS
  x : Nat → AB
  hist : List (Nat × AS)
  rds : List (Nat × (AS → Bool))
  st : List (Nat × Nat)
noncomputable def againA (r : Option (AV × AS)) (v : AV) (s : AS) : Bool := match r with
  | some q => cond (eqAV q.1 v) (Nat.beq q.2.n s.n) false
  | none => false
noncomputable def histB (ms : Tr Nat) (i : Nat) (f : AS → Option (AV × AS)) (v : AV) : List (Nat × AS) → Bool
  | [] => true
  | h :: r => cond (cond (ancM ms h.1 i) true (againA (f h.2) v h.2)) (histB ms i f v r) false
noncomputable def rdsB (ms : Tr Nat) (i : Nat) (g : AS) : List (Nat × (AS → Bool)) → Bool
  | [] => true
  | h :: r => cond (cond (ancM ms h.1 i) true (h.2 g)) (rdsB ms i g r) false
noncomputable def convC (P : Program) (call : Nat → List AV → AS → Option (AV × AS)) (nt : Nat) (base : Nat) (i : Nat) (o : Oper) (c : DC) : Option DC := cond (isConv o) (match evOp P call o (oevF c.t) ⟨c.g.h, Nat.add base i⟩ with
  | some q => cond (Nat.beq q.2.n (Nat.succ (Nat.add base i))) (match putF nt c.t o.dst q.1 with
    | some t => some ⟨t, c.g, updF c.x i (q.2.get (Nat.add base i)), c.hist, c.rds, c.st⟩
    | none => none) none
  | none => none) none
noncomputable def blkA : AV → Nat
  | .ptr b _ => b
  | _ => 0
noncomputable def blkO (ev : Operand → AV) (o : Oper) : Nat := match o.op with
  | .store _ a _ => blkA (ev a)
  | _ => 0
noncomputable def stB (ms : Tr Nat) (i b : Nat) : List (Nat × Nat) → Bool
  | [] => true
  | h :: r => cond (cond (ancM ms h.1 i) true (cond (Nat.beq h.2 b) false true)) (stB ms i b r) false
noncomputable def specC (P : Program) (call : Nat → List AV → AS → Option (AV × AS)) (nt : Nat) (ms : Tr Nat) (i : Nat) (o : Oper) (c : DC) : Option DC := match evOp P call o (oevF c.t) c.g with
  | some q => cond (stB ms i (blkO (oevF c.t) o) c.st) (match putF nt c.t o.dst .undef with
    | some t => some ⟨t, q.2, c.x, c.hist, c.rds, (i, blkO (oevF c.t) o) :: c.st⟩
    | none => none) none
  | none => none
noncomputable def stepC (P : Program) (call : Nat → List AV → AS → Option (AV × AS)) (nt : Nat) (ops : Array Oper) (base : Nat) (ms : Tr Nat) (i : Nat) (o : Oper) (c : DC) : Option DC := match wantF ops o c.t with
  | none => none
  | some false => match putF nt c.t o.dst .undef with
    | some t => some ⟨t, c.g, c.x, c.hist, c.rds, c.st⟩
    | none => none
  | some true => match clsO o with
    | 0 => match evOp P call o (oevF c.t) c.g with
      | some q => match putF nt c.t o.dst q.1 with
        | some t => some ⟨t, c.g, c.x, c.hist, c.rds, c.st⟩
        | none => none
      | none => none
    | 1 => match evOp P call o (oevF c.t) c.g with
      | some q => cond (Nat.beq q.2.n c.g.n) (cond (histB ms i (evOp P call o (oevF c.t)) q.1 c.hist) (match putF nt c.t o.dst q.1 with
        | some t => some ⟨t, c.g, c.x, c.hist, (i, fun s => againA (evOp P call o (oevF c.t) s) q.1 s) :: c.rds, c.st⟩
        | none => none) none) (convC P call nt base i o c)
      | none => none
    | 2 => match evOp P call o (oevF c.t) ⟨c.g.h, Nat.add base i⟩ with
      | some q => match putF nt c.t o.dst q.1 with
        | some t => some ⟨t, c.g, updF c.x i (q.2.get (Nat.add base i)), c.hist, c.rds, c.st⟩
        | none => none
      | none => none
    | 3 => cond (specB ops ms i) (specC P call nt ms i o c) (match evOp P call o (oevF c.t) (preA base (fun k => ancM ms k i) c.x ops.size c.g) with
      | some q => cond (rdsB ms i q.2 c.rds) (match putF nt c.t o.dst q.1 with
        | some t => some ⟨t, q.2, fun k => cond (ancM ms k i) .none (c.x k), (i, c.g) :: c.hist, c.rds, c.st⟩
        | none => none) none
      | none => none)
    | _ => none
/-- What is reckoned stands for a region's state. -/
structure RelC (c : DC) (d : DS) : Prop where
  t : d.t = c.t
  g : d.g = c.g
  x : d.x = c.x
  hist : ∀ e s, d.hist e s → (e, s) ∈ c.hist
  rds : ∀ r s, (∀ f, (r, f) ∈ c.rds → f s = true) → d.rds r s
  st : ∀ e b, d.st e b → (e, b) ∈ c.st
theorem stB_ok [Tab] {ms : Tr Nat} {i b : Nat} : ∀ (l : List (Nat × Nat)), stB ms i b l = true → ∀ e c, (e, c) ∈ l → ancM ms e i = false → c ≠ b
  | [], _, _, _, h, _ => by cases h
  | p :: r, h, e, c, hm, ha => by
    unfold stB at h
    obtain ⟨h1, h2⟩ := cond_ff h
    rcases List.mem_cons.1 hm with h3 | h3
    · subst h3
      rw [ha] at h1
      simp only [cond_false] at h1
      intro hc
      subst hc
      rw [show Nat.beq c c = true from Nat.beq_refl c] at h1
      cases h1
    · exact stB_ok r h2 e c h3 ha
theorem storeA_at [Tab] {P : Program} {t : Nat} {a v : AV} {s s' : AS} (h : storeA P t a v s = some s') : ∃ o y, a = .ptr (blkA a) o ∧ s.get (blkA a) ≠ .none ∧ s' = s.put (blkA a) y ∧ ∀ s2 : AS, s2.get (blkA a) = s.get (blkA a) → storeA P t a v s2 = some (s2.put (blkA a) y) := by
  unfold storeA at h
  split at h
  · rename_i b o
    show ∃ o' y, AV.ptr b o = .ptr b o' ∧ s.get b ≠ .none ∧ s' = s.put b y ∧ ∀ s2 : AS, s2.get b = s.get b → storeA P t (.ptr b o) v s2 = some (s2.put b y)
    split at h
    · rename_i cs ty hg
      split at h
      · rename_i vs hvs
        split at h
        · rename_i ie hie
          have h1 := cond_some h
          have h2 := cond_some h1
          injection h2 with h2
          have hne : s.get b ≠ .none := fun e => by rw [hg] at e; cases e
          refine ⟨o, _, rfl, hne, h2.symm, fun s2 e => ?_⟩
          have hg2 : s2.get b = AB.cells cs ty := e.trans hg
          unfold storeA
          dsimp only
          rw [hg2]
          dsimp only
          rw [hvs, hie]
          dsimp only
          cases c1 : Nat.beq ie.size vs.length with
          | false => rw [c1] at h; cases h
          | true =>
            cases c2 : Nat.ble (Nat.add o vs.length) cs.length with
            | false => rw [c2] at h1; cases h1
            | true => rfl
        · cases h
      · cases h
    · cases h
  · cases h
theorem histB_ok [Tab] {ms : Tr Nat} {i : Nat} {f : AS → Option (AV × AS)} {v : AV} : ∀ (l : List (Nat × AS)), histB ms i f v l = true → ∀ e s, (e, s) ∈ l → ancM ms e i = false → againA (f s) v s = true
  | [], _, _, _, h, _ => by cases h
  | h :: r, hb, e, s, hm, ha => by
    unfold histB at hb
    obtain ⟨h1, h2⟩ := cond_ff hb
    rcases List.mem_cons.1 hm with rfl | hm
    · dsimp only at h1
      rw [ha] at h1
      exact h1
    · exact histB_ok r h2 e s hm ha
theorem rdsB_ok [Tab] {ms : Tr Nat} {i : Nat} {g : AS} : ∀ (l : List (Nat × (AS → Bool))), rdsB ms i g l = true → ∀ r f, (r, f) ∈ l → ancM ms r i = false → f g = true
  | [], _, _, _, h, _ => by cases h
  | h :: r, hb, e, s, hm, ha => by
    unfold rdsB at hb
    obtain ⟨h1, h2⟩ := cond_ff hb
    rcases List.mem_cons.1 hm with rfl | hm
    · dsimp only at h1
      rw [ha] at h1
      exact h1
    · exact rdsB_ok r h2 e s hm ha
theorem againA_ok [Tab] {P : Program} {call : Nat → List AV → AS → Option (AV × AS)} {o : Oper} {ev : Operand → AV} {v : AV} {s : AS} (hc : clsO o = 1) (h : againA (evOp P call o ev s) v s = true) : evOp P call o ev s = some (v, s) := by
  unfold againA at h
  split at h
  · rename_i q hq
    obtain ⟨h1, h2⟩ := cond_ff h
    obtain ⟨u, s'⟩ := q
    have e1 := eqAV_eq _ _ h1
    have e2 := evOp_read hc hq (Nat.eq_of_beq_eq_true h2)
    dsimp only at e1
    rw [hq, e1, e2]
  · cases h
theorem putF_upd [Tab] {nt : Nat} {f f' : Nat → AV} {d : Option Nat} {v : AV} (h : putF nt f d v = some f') : f' = updT f d v := by
  unfold putF at h
  split at h
  · injection h with h
    rw [← h]
    funext k
    unfold updT
    rw [if_neg (by intro e; cases e)]
  · have h := cond_some h
    injection h with h
    exact h.symm
theorem putF_lt {nt : Nat} {f f' : Nat → AV} {d : Nat} {v : AV} (h : putF nt f (some d) v = some f') : d < nt := by
  unfold putF at h
  dsimp only at h
  cases hb : Nat.ble (Nat.succ d) nt with
  | false => rw [hb] at h; cases h
  | true => exact Nat.le_of_ble_eq_true hb
theorem stepC_ok [Tab] {P : Program} {call : Nat → List AV → AS → Option (AV × AS)} {nt : Nat} {ops : Array Oper} {base : Nat} (hb : base + ops.size ≤ 1000000000) {ms : Tr Nat} {i : Nat} {o : Oper} (ho : ops[i]? = some o) {c c' : DC} {d : DS} (hr : RelC c d) (hs : stepC P call nt ops base ms i o c = some c') :
    ∃ d', StepD P call nt ops base (ancM ms) (specB ops ms) i d d' ∧ RelC c' d' := by
  have hlt : ∀ {v : AV} {t : Nat → AV}, putF nt c.t o.dst v = some t → ∀ k, o.dst = some k → k < nt := fun h k hk => by rw [hk] at h; exact putF_lt h
  have hin : i < ops.size := (Array.getElem?_eq_some_iff.1 ho).1
  unfold stepC at hs
  split at hs
  · cases hs
  · rename_i hw
    split at hs
    · rename_i t hp
      injection hs with hs
      subst hs
      exact ⟨_, ⟨o, ho, hlt hp, .inl ⟨by rw [hr.t]; exact hw, rfl⟩⟩, ⟨by rw [putF_upd hp, hr.t], hr.g, hr.x, hr.hist, hr.rds, hr.st⟩⟩
    · cases hs
  · rename_i hw
    have hw' : wantF ops o d.t = some true := by rw [hr.t]; exact hw
    have hev : oevF d.t = oevF c.t := by rw [hr.t]
    split at hs
    · rename_i hcl
      split at hs
      · rename_i q hq
        split at hs
        · rename_i t hp
          injection hs with hs
          subst hs
          obtain ⟨u, s'⟩ := q
          obtain ⟨_, h2⟩ := evOp_pure hcl hq
          exact ⟨_, ⟨o, ho, hlt hp, .inr (.inl ⟨hw', hcl, u, by rw [hev]; exact h2, rfl⟩)⟩, ⟨by rw [putF_upd hp, hr.t], hr.g, hr.x, hr.hist, hr.rds, hr.st⟩⟩
        · cases hs
      · cases hs
    · rename_i hcl
      split at hs
      · rename_i q hq
        cases h1 : Nat.beq q.2.n c.g.n with
        | false =>
          rw [h1] at hs
          simp only [cond_false] at hs
          unfold convC at hs
          cases h3 : isConv o with
          | false => rw [h3] at hs; cases hs
          | true =>
            rw [h3] at hs
            simp only [cond_true] at hs
            split at hs
            · rename_i q2 hq2
              cases h4 : Nat.beq q2.2.n (Nat.succ (Nat.add base i)) with
              | false => rw [h4] at hs; cases hs
              | true =>
                rw [h4] at hs
                simp only [cond_true] at hs
                split at hs
                · rename_i t hp
                  injection hs with hs
                  subst hs
                  obtain ⟨u, s'⟩ := q2
                  obtain ⟨cb, g1, g2, g3⟩ := evOp_conv h3 hq2 (Nat.eq_of_beq_eq_true h4)
                  have hget : s'.get (base + i) = cb := by
                    rw [g2]
                    exact AS.get_new ⟨c.g.h, base + i⟩ cb (by show base + i < _; omega)
                  refine ⟨_, ⟨o, ho, hlt hp, .inr (.inr (.inr (.inl ⟨hw', .inr h3, u, cb, g1, fun s hs => by rw [hev]; exact g3 s hs, rfl⟩)))⟩, ⟨by rw [putF_upd hp, hr.t], hr.g, ?_, hr.hist, hr.rds, hr.st⟩⟩
                  show updF d.x i cb = updF c.x i (s'.get (base + i))
                  rw [hget, hr.x]
                · cases hs
            · cases hs
        | true =>
        cases h2 : histB ms i (evOp P call o (oevF c.t)) q.1 c.hist with
        | false => rw [h1, h2] at hs; cases hs
        | true =>
          rw [h1, h2] at hs
          simp only [cond_true] at hs
          split at hs
          · rename_i t hp
            injection hs with hs
            subst hs
            obtain ⟨u, s'⟩ := q
            have e2 := evOp_read hcl hq (Nat.eq_of_beq_eq_true h1)
            subst e2
            refine ⟨_, ⟨o, ho, hlt hp, .inr (.inr (.inl ⟨hw', hcl, u, by rw [hev, hr.g]; exact hq, fun e gb he ha => by rw [hev]; exact againA_ok hcl (histB_ok _ h2 e gb (hr.hist e gb he) ha), rfl⟩))⟩, ⟨by rw [putF_upd hp, hr.t], hr.g, hr.x, hr.hist, fun r s hf => ⟨hr.rds r s fun f hm => hf f (by simp [hm]), fun e => ?_⟩, hr.st⟩⟩
            have := hf _ (by rw [e]; exact List.mem_cons_self)
            show evOp P call o (oevF d.t) s = some (u, s)
            rw [hev]
            exact againA_ok hcl this
          · cases hs
      · cases hs
    · rename_i hcl
      split at hs
      · rename_i q hq
        split at hs
        · rename_i t hp
          injection hs with hs
          subst hs
          obtain ⟨u, s'⟩ := q
          obtain ⟨cb, g1, g2, g3⟩ := evOp_new hcl hq
          have hget : s'.get (base + i) = cb := by
            rw [g2]
            exact AS.get_new ⟨c.g.h, base + i⟩ cb (by show base + i < _; omega)
          refine ⟨_, ⟨o, ho, hlt hp, .inr (.inr (.inr (.inl ⟨hw', .inl hcl, u, cb, g1, fun s hs => by rw [hev]; exact g3 s hs, rfl⟩)))⟩, ⟨by rw [putF_upd hp, hr.t], hr.g, ?_, hr.hist, hr.rds, hr.st⟩⟩
          show updF d.x i cb = updF c.x i (s'.get (base + i))
          rw [hget, hr.x]
        · cases hs
      · cases hs
    · rename_i hcl
      cases hsp : specB ops ms i with
      | true =>
        rw [hsp] at hs
        simp only [cond_true] at hs
        obtain ⟨ty, xa, xv, hop⟩ := specB_store ho hsp
        unfold specC at hs
        split at hs
        · rename_i q hq
          cases h1 : stB ms i (blkO (oevF c.t) o) c.st with
          | false => rw [h1] at hs; cases hs
          | true =>
            rw [h1] at hs
            simp only [cond_true] at hs
            split at hs
            · rename_i t hp
              injection hs with hs
              subst hs
              have eb : blkO (oevF c.t) o = blkA (oevF c.t xa) := by unfold blkO; rw [hop]
              rw [eb] at h1 ⊢
              have hst : ∀ s, evOp P call o (oevF c.t) s = skipS (storeA P ty (oevF c.t xa) (oevF c.t xv) s) := fun s => by
                unfold evOp
                rw [hop]
                rfl
              rw [hst] at hq
              cases hss : storeA P ty (oevF c.t xa) (oevF c.t xv) c.g with
              | none => rw [hss] at hq; cases hq
              | some s1 =>
                rw [hss] at hq
                injection hq with hq
                subst hq
                obtain ⟨_, y, _, g2, g3, g4⟩ := storeA_at hss
                subst g3
                refine ⟨_, ⟨o, ho, hlt hp, .inr (.inr (.inr (.inr (.inr ⟨hw', hsp, blkA (oevF c.t xa), y, by rw [hr.g]; exact g2, fun s hs => by rw [hev, hst, g4 s (by rw [hs, hr.g])]; rfl, fun e cc he ha => stB_ok _ h1 e cc (hr.st e cc he) ha, rfl⟩))))⟩, ⟨by rw [putF_upd hp, hr.t], by show d.g.put _ y = _; rw [hr.g], hr.x, hr.hist, hr.rds, fun e cc he => ?_⟩⟩
                rcases he with he | ⟨e1, e2⟩
                · exact List.mem_cons_of_mem _ (hr.st e cc he)
                · rw [e1, e2]
                  exact List.mem_cons_self
            · cases hs
        · cases hs
      | false =>
      rw [hsp] at hs
      simp only [cond_false] at hs
      split at hs
      · rename_i q hq
        cases h1 : rdsB ms i q.2 c.rds with
        | false => rw [h1] at hs; cases hs
        | true =>
          rw [h1] at hs
          simp only [cond_true] at hs
          split at hs
          · rename_i t hp
            injection hs with hs
            subst hs
            obtain ⟨u, g'⟩ := q
            refine ⟨_, ⟨o, ho, hlt hp, .inr (.inr (.inr (.inr (.inl ⟨hw', hcl, hsp, u, g', by rw [hev, hr.g, hr.x]; exact hq, fun r ha => hr.rds r g' fun f hm => rdsB_ok _ h1 r f hm ha, rfl⟩))))⟩, ⟨by rw [putF_upd hp, hr.t], rfl, ?_, fun e s he => ?_, hr.rds, hr.st⟩⟩
            · funext k
              show (if ancM ms k i = true then AB.none else d.x k) = cond (ancM ms k i) .none (c.x k)
              rw [hr.x]
              cases ancM ms k i <;> rfl
            · rcases he with he | ⟨e1, e2⟩
              · exact List.mem_cons_of_mem _ (hr.hist e s he)
              · rw [e1, e2, hr.g]
                exact List.mem_cons_self
          · cases hs
      · cases hs
    · cases hs
noncomputable def stepsC (P : Program) (call : Nat → List AV → AS → Option (AV × AS)) (nt : Nat) (ops : Array Oper) (base : Nat) (ms : Tr Nat) : List Oper → Nat → DC → Option DC
  | [], _, c => some c
  | o :: r, i, c => match stepC P call nt ops base ms i o c with
    | some c' => stepsC P call nt ops base ms r (Nat.succ i) c'
    | none => none
theorem stepsC_ok [Tab] {P : Program} {call : Nat → List AV → AS → Option (AV × AS)} {nt : Nat} {ops : Array Oper} {base : Nat} (hb : base + ops.size ≤ 1000000000) {ms : Tr Nat} : ∀ (l : List Oper) (i : Nat) (c c' : DC) (d : DS), (∀ j o, l[j]? = some o → ops[i + j]? = some o) → RelC c d → stepsC P call nt ops base ms l i c = some c' →
    ∃ d', Chain P call nt ops base (ancM ms) (specB ops ms) (List.range' i l.length) d d' ∧ RelC c' d'
  | [], i, c, c', d, _, hr, hs => by
    injection hs with hs
    subst hs
    exact ⟨d, rfl, hr⟩
  | o :: l, i, c, c', d, hops, hr, hs => by
    unfold stepsC at hs
    split at hs
    · rename_i c1 h1
      obtain ⟨d1, q1, q2⟩ := stepC_ok hb (hops 0 o rfl) hr h1
      obtain ⟨d', q3, q4⟩ := stepsC_ok hb l (i + 1) c1 c' d1 (fun j o' hj => by have := hops (j + 1) o' (by simpa using hj); rwa [show i + 1 + j = i + (j + 1) by omega]) q2 hs
      exact ⟨d', ⟨d1, q1, q3⟩, q4⟩
    · cases hs
/-- A drawn region. -/
noncomputable def drawF (P : Program) (call : Nat → List AV → AS → Option (AV × AS)) (nt : Nat) (ops : Array Oper) (f : Nat → AV) (s : AS) : Option ((Nat → AV) × AS) :=
  cond (statB ops) (cond (Nat.ble (Nat.add s.n ops.size) 1000000000) (match stepsC P call nt ops s.n (masksT ops.toList 0 .leaf) ops.toList 0 ⟨f, ⟨s.h, Nat.add s.n ops.size⟩, fun _ => .none, [], [], []⟩ with
    | some c => some (c.t, preA s.n allP c.x ops.size c.g)
    | none => none) none) none
noncomputable def PostF [Tab] (E : AEnv) (nt : Nat) (a : Act) (s : AS) (w : World) (x : Ex) (f' : Nat → AV) (s' : AS) (e : Exit) (a' : Act) (w' : World) : Prop :=
  x.is e ∧ ∃ E', TR E' nt f' a' ∧ HR E' s'.get w' ∧ Stp E s.get w E' s'.get w' ∧ Grow E s.n E' s'.n ∧ a'.defers = a.defers
theorem drawF_ok [Tab] {P : Program} (hm : P.follows .mixedOrders = true) {call : Nat → List AV → AS → Option (AV × AS)} (hc : CallOK P call) {nt id : Nat} {ops : Array Oper} {f f' : Nat → AV} {s s' : AS} (he : drawF P call nt ops f s = some (f', s')) {E : AEnv} {a : Act} {w : World} (ht : TR E nt f a) (h : HR E s.get w) (hf : Fresh E s.n) :
    (Code.region id ops true).wp P (PostF E nt a s w .normal f' s') a w := by
  unfold drawF at he
  cases h1 : statB ops with
  | false => rw [h1] at he; cases he
  | true =>
  cases h2 : Nat.ble (Nat.add s.n ops.size) 1000000000 with
  | false => rw [h1, h2] at he; cases he
  | true =>
    rw [h1, h2] at he
    simp only [cond_true] at he
    split at he
    · rename_i c hs
      injection he with he
      injection he with e1 e2
      subst e1
      subst e2
      obtain ⟨hn, hst⟩ := statB_ok h1
      have hb : s.n + ops.size ≤ 1000000000 := Nat.le_of_ble_eq_true h2
      obtain ⟨dF, hch, hrel⟩ := stepsC_ok hb ops.toList 0 _ c ⟨f, ⟨s.h, s.n + ops.size⟩, fun _ => .none, fun _ _ => False, fun _ _ => True, fun _ _ => False⟩ (fun j o hj => by rw [Nat.zero_add]; simpa using hj) ⟨rfl, rfl, rfl, fun _ _ h => h.elim, fun _ _ _ => trivial, fun _ _ h => h.elim⟩ hs
      have hx0 : ∀ b, xOf s.n ops.size allP (fun _ => AB.none) b = .none := fun b => by unfold xOf; split <;> rfl
      have hov : ov (AS.get ⟨s.h, s.n + ops.size⟩) (xOf s.n ops.size allP fun _ => .none) = s.get := funext fun b => ov_none (hx0 b)
      refine wp_region_any hm (any_ok hc hst (E0 := E) (g0 := s.get) (w0 := w) (a0 := a) (nt := nt) (base := s.n) (dF := dF) (fun E' a' w' hI => ?_) ops.size (List.range' 0 ops.toList.length) (Array.replicate ops.size false) _ E a w.drew ?_ (by simp) (fun k => ?_) (fun i o ho hl => ?_) (List.pairwise_lt_range' ..) (by simp) hch)
      · have hfun : (preA s.n allP c.x ops.size c.g).get = ov dF.g.get (xOf s.n ops.size allP dF.x) := by
          funext b
          rw [preA_get hb b, hrel.g, hrel.x]
        have hn' : (preA s.n allP c.x ops.size c.g).n = dF.g.n := by rw [preA_n, hrel.g]
        refine ⟨rfl, E', by rw [← hrel.t]; exact hI.t, by rw [hfun]; exact hI.h, by rw [hfun]; exact hI.stp, ⟨by rw [hn']; exact Nat.le_trans (Nat.le_add_right _ _) hI.lim, fun b hb => by rw [hn']; exact hI.ok b hb⟩, hI.df⟩
      · refine ⟨ht, by rw [hov]; exact h.drew, Nat.le_refl _, hb, fun b hb => Nat.lt_of_lt_of_le (hf b hb) (Nat.le_add_right _ _), fun k hk => ⟨by simpa using hk, fun hok => by have := hf _ hok; omega, rfl⟩, fun b hb => absurd (hx0 b) hb, by rw [hov]; exact Stp.drew E s.get w, fun b hb => .inl hb, rfl⟩
      · simp
        intro hk
        simp [hk]
      · have hi := (Array.getElem?_eq_some_iff.1 ho).1
        simp [hi] at hl
    · cases he

/-- The slots that a region writes, written back. -/
noncomputable def wbT (nt : Nat) (f : Nat → AV) : List Oper → Tr AV → Option (Tr AV)
  | [], t => some t
  | o :: r, t => match o.dst with
    | none => wbT nt f r t
    | some d => match putT nt t (some d) (f d) with
      | some t' => wbT nt f r t'
      | none => none
theorem wbT_get [Tab] {nt : Nat} (hl : nt ≤ 1000000) {f : Nat → AV} : ∀ (l : List Oper) (t t' : Tr AV), wbT nt f l t = some t' → (∀ k, t.get .top k = f k ∨ ∃ o ∈ l, o.dst = some k) → t'.get .top = f
  | [], t, t', h, hk => by
    injection h with h
    subst h
    funext k
    rcases hk k with h1 | ⟨o, h1, _⟩
    · exact h1
    · cases h1
  | o :: r, t, t', h, hk => by
    unfold wbT at h
    split at h
    · rename_i hd
      refine wbT_get hl r t t' h fun k => ?_
      rcases hk k with h1 | ⟨o', h1, h2⟩
      · exact .inl h1
      · rcases List.mem_cons.1 h1 with rfl | h3
        · rw [hd] at h2; cases h2
        · exact .inr ⟨o', h3, h2⟩
    · rename_i d hd
      split at h
      · rename_i t1 hp
        refine wbT_get hl r t1 t' h fun k => ?_
        have hg := putT_get hl hp k
        by_cases e : some d = some k
        · rw [if_pos e] at hg
          injection e with e
          subst e
          exact .inl hg
        · rw [if_neg e] at hg
          rcases hk k with h1 | ⟨o', h1, h2⟩
          · exact .inl (hg.trans h1)
          · rcases List.mem_cons.1 h1 with rfl | h3
            · rw [hd] at h2; exact absurd h2 e
            · exact .inr ⟨o', h3, h2⟩
      · cases h
theorem cond_alt {α : Type} {c : Bool} {a b : Option α} {x : α} (h : cond c a b = some x) : a = some x ∨ b = some x := by
  cases c
  · exact .inr h
  · exact .inl h
theorem stepC_out [Tab] {P : Program} {call : Nat → List AV → AS → Option (AV × AS)} {nt : Nat} {ops : Array Oper} {base : Nat} {ms : Tr Nat} {i : Nat} {o : Oper} {c c' : DC} {k : Nat} (hk : o.dst ≠ some k) (h : stepC P call nt ops base ms i o c = some c') : c'.t k = c.t k := by
  have key : ∀ {v : AV} {t : Nat → AV}, putF nt c.t o.dst v = some t → t k = c.t k := fun h => by
    rw [putF_upd h]
    exact if_neg hk
  unfold stepC at h
  split at h
  · cases h
  · split at h
    · rename_i t hp
      injection h with h
      rw [← h]
      exact key hp
    · cases h
  · split at h
    · split at h
      · split at h
        · rename_i t hp
          injection h with h
          rw [← h]
          exact key hp
        · cases h
      · cases h
    · split at h
      · rcases cond_alt h with h | h
        · have h := cond_some h
          split at h
          · rename_i t hp
            injection h with h
            rw [← h]
            exact key hp
          · cases h
        · unfold convC at h
          have h := cond_some h
          split at h
          · have h := cond_some h
            split at h
            · rename_i t hp
              injection h with h
              rw [← h]
              exact key hp
            · cases h
          · cases h
      · cases h
    · split at h
      · split at h
        · rename_i t hp
          injection h with h
          rw [← h]
          exact key hp
        · cases h
      · cases h
    · rcases cond_alt h with h | h
      · unfold specC at h
        split at h
        · have h := cond_some h
          split at h
          · rename_i t hp
            injection h with h
            rw [← h]
            exact key hp
          · cases h
        · cases h
      · split at h
        · have h := cond_some h
          split at h
          · rename_i t hp
            injection h with h
            rw [← h]
            exact key hp
          · cases h
        · cases h
    · cases h
theorem stepsC_out [Tab] {P : Program} {call : Nat → List AV → AS → Option (AV × AS)} {nt : Nat} {ops : Array Oper} {base : Nat} {ms : Tr Nat} {k : Nat} : ∀ (l : List Oper) (i : Nat) (c c' : DC), (∀ o ∈ l, o.dst ≠ some k) → stepsC P call nt ops base ms l i c = some c' → c'.t k = c.t k
  | [], i, c, c', _, h => by
    injection h with h
    rw [h]
  | o :: l, i, c, c', hk, h => by
    unfold stepsC at h
    split at h
    · rename_i c1 h1
      rw [stepsC_out l _ c1 c' (fun o' ho => hk o' (by simp [ho])) h, stepC_out (hk o (by simp)) h1]
    · cases h
noncomputable def drawA (P : Program) (call : Nat → List AV → AS → Option (AV × AS)) (nt : Nat) (ops : Array Oper) (t : Tr AV) (s : AS) : Option (Tr AV × AS) := match drawF P call nt ops (t.get .top) s with
  | some q => match wbT nt q.1 ops.toList t with
    | some t' => some (t', q.2)
    | none => none
  | none => none
theorem drawA_get [Tab] {P : Program} {call : Nat → List AV → AS → Option (AV × AS)} {nt : Nat} (hl : nt ≤ 1000000) {ops : Array Oper} {t t' : Tr AV} {s s' : AS} (he : drawA P call nt ops t s = some (t', s')) : drawF P call nt ops (t.get .top) s = some (t'.get .top, s') := by
  unfold drawA at he
  split at he
  · rename_i q hq
    split at he
    · rename_i t1 hw
      injection he with he
      injection he with e1 e2
      subst e1
      subst e2
      rw [hq, wbT_get hl ops.toList t t1 hw fun k => ?_]
      by_cases h : ∃ o ∈ ops.toList, o.dst = some k
      · exact .inr h
      · refine .inl ?_
        unfold drawF at hq
        have hq := cond_some hq
        have hq := cond_some hq
        split at hq
        · rename_i c hc
          injection hq with hq
          rw [← hq]
          exact (stepsC_out ops.toList 0 _ c (fun o ho e => h ⟨o, ho, e⟩) hc).symm
        · cases hq
    · cases he
  · cases he
theorem drawA_ok [Tab] {P : Program} (hm : P.follows .mixedOrders = true) {call : Nat → List AV → AS → Option (AV × AS)} (hc : CallOK P call) {nt id : Nat} {ops : Array Oper} {t t' : Tr AV} {s s' : AS} (he : drawA P call nt ops t s = some (t', s')) {E : AEnv} {a : Act} {w : World} (ht : TR E nt (t.get .top) a) (h : HR E s.get w) (hf : Fresh E s.n) :
    (Code.region id ops true).wp P (Post E nt a s w .normal t' s') a w := drawF_ok hm hc (drawA_get ht.lim he) ht h hf
end Go.Proofs.YtambgppdjlhdaaaGreatDoor
