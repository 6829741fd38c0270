/-
  The abstract machine: functions with one deferred closure that recovers. No program.
-/
import Derived.Test.YtambgppdjlhdaaaGreatDoorEvW
import Derived.Defers
import Derived.Recover
namespace Go.Proofs.YtambgppdjlhdaaaGreatDoor
open Go.RowKit

theorem opsS_ok [Tab] {P : Program} {call : Nat → List AV → AS → Option (AV × AS)} (hc : CallOK P call) {ops : Array Oper} {nt : Nat} {cs : List Frame} {Q : Exit → Act → List Frame → World → Prop} : ∀ (l : List Oper) (i : Nat) (t : Tr AV) (s : AS) (t' : Tr AV) (s' : AS), (∀ j o, l[j]? = some o → ops[i + j]? = some o) → evOps P call ops nt l t s = some (t', s') →
    ∀ (E : AEnv) (a : Act) (w : World), TR E nt (t.get .top) a → HR E s.get w → Fresh E s.n →
    (∀ E' a' w', TR E' nt (t'.get .top) a' → HR E' s'.get w' → Stp E s.get w E' s'.get w' → Grow E s.n E' s'.n → a'.defers = a.defers → Q .normal a' cs w') → wpOpsS P ops Q (List.range' i l.length) a cs w
  | [], i, t, s, t', s', _, he, E, a, w, ht, h, hf, hq => by
    injection he with he
    injection he with e1 e2
    subst e1
    subst e2
    exact hq E a w ht h (Stp.refl _ _ _) (Grow.refl _ _) rfl
  | o :: r, i, t, s, t', s', hops, he, E, a, w, ht, h, hf, hq => by
    have ho : ops[i]? = some o := hops 0 o rfl
    have hr : ∀ j o', r[j]? = some o' → ops[i + 1 + j]? = some o' := fun j o' hj => by
      have := hops (j + 1) o' (by simpa using hj)
      rwa [show i + (j + 1) = i + 1 + j by omega] at this
    rw [List.length_cons, List.range'_succ]
    unfold wpOpsS
    rw [ho]
    dsimp only
    unfold evOps at he
    split at he
    · cases he
    · rename_i hw
      split at he
      · cases he
      · rename_i t1 hp
        have hw' := wantA_ok ht hw
        rw [if_neg (by rw [hw']; intro e; cases e)]
        exact opsS_ok hc r (i + 1) t1 s t' s' hr he E _ w (ht.putT .undef hp) h hf fun E' a' w' q1 q2 q3 q4 q5 => hq E' a' w' q1 q2 q3 q4 (q5.trans (put_defers _ _ _))
    · rename_i hw
      split at he
      · cases he
      · rename_i q hop
        split at he
        · cases he
        · rename_i t1 hp
          have hw' := wantA_ok ht hw
          obtain ⟨v, s1⟩ := q
          dsimp only at hp he
          rw [if_pos hw']
          have hwp : o.wp P a w (fun a' w' => wpOpsS P ops Q (List.range' (i + 1) r.length) a' cs w') (fun e a' w' => Q e a' cs w') :=
            evOp_ok hc ht h hf hop fun x E1 w1 q1 q2 q3 q4 => opsS_ok hc r (i + 1) t1 s1 t' s' hr he E1 _ w1 ((ht.mono q3.le).putT q1 hp) q2 (hf.grow q4) fun E' a' w' p1 p2 p3 p4 p5 => hq E' a' w' p1 p2 (q3.trans p3) (q4.trans p4) (p5.trans (put_defers _ _ _))
          unfold Oper.wp at hwp
          generalize (execOp a.eval o).run P w = rr at hwp
          split
          · exact hwp.elim
          · exact hwp
/-- A closure that recovers first. -/
noncomputable def recOf (fn : Func) : Option (Array Oper × Nat × List Oper × Code) := match fn.body with
  | some (.seq (.region _ ops false) rest) => match ops.toList with
    | o :: l => match o.guard with
      | none => match o.dst with
        | some d => match o.op with
          | .call c => match c.callee with
            | .builtin .recover => some (ops, d, l, rest)
            | _ => none
          | _ => none
        | none => none
      | some _ => none
    | [] => none
  | _ => none
noncomputable def recEnd : List ResultVar → Option (Ex × Tr AV × AS) → Option AS
  | [], some (.normal, _, s) => some s
  | [], some (.ret, _, s) => some s
  | _, _ => none
noncomputable def recA (P : Program) (call : Nat → List AV → AS → Option (AV × AS)) (fuel : Nat) (fn : Func) (caps : List AV) (u : AV) (s : AS) : Option AS := match recOf fn with
  | none => none
  | some r => cond (Nat.ble fn.ntmps 1000000) (cond (Nat.ble caps.length fn.ntmps) (match putT fn.ntmps (initT caps 0 .leaf) (some r.2.1) u with
    | none => none
    | some t => match evOps P call r.1 fn.ntmps r.2.2.1 t s with
      | none => none
      | some q => recEnd fn.results.toList (evC P (hooks P) call fn.ntmps fuel r.2.2.2 q.1 q.2)) none) none
theorem recOf_ok {fn : Func} {ops : Array Oper} {d : Nat} {l : List Oper} {rest : Code} (h : recOf fn = some (ops, d, l, rest)) : ∃ id o c, fn.body = some (.seq (.region id ops false) rest) ∧ ops.toList = o :: l ∧ o.guard = none ∧ o.dst = some d ∧ o.op = .call c ∧ c.callee = .builtin .recover := by
  unfold recOf at h
  split at h
  · rename_i id ops' rest' hb
    split at h
    · rename_i o l' hl
      split at h
      · rename_i hg
        split at h
        · rename_i d' hd
          split at h
          · rename_i c hop
            split at h
            · rename_i hcal
              injection h with h
              injection h with e1 h
              injection h with e2 h
              injection h with e3 e4
              subst e1
              subst e2
              subst e3
              subst e4
              exact ⟨id, o, c, hb, hl, hg, hd, hop, hcal⟩
            · cases h
          · cases h
        · cases h
      · cases h
    · cases h
  · cases h
/-- What a mode gives to one who recovers. -/
noncomputable def Given (E : AEnv) (u : AV) (m m' : FrameMode) : Prop :=
  ∀ (c₀ : Frame) (cs : List Frame), c₀.mode = m → (∃ v, recoverD (c₀ :: cs) = some (v, { c₀ with mode := m' } :: cs) ∧ VR E u v) ∨ (recoverD (c₀ :: cs) = none ∧ m' = m ∧ u = .nili)
theorem recA_ok [Tab] {P : Program} (hm : P.follows .mixedOrders = true) {call : Nat → List AV → AS → Option (AV × AS)} (hc : CallOK P call) {fuel f : Nat} {fn : Func} (hf : P.funcs[f]? = some fn) {caps : List AV} {u : AV} {s s' : AS} (he : recA P call fuel fn caps u s = some s') {E : AEnv} {w : World} {xs : Array Value} {m m' : FrameMode}
    (hg : Given E u m m') (h : HR E s.get w) (hfr : Fresh E s.n) (hv : VL E caps xs.toList) :
    CallsD P f xs m w fun e u' w' => (∃ v, e = .returned v) ∧ u' = m' ∧ ∃ E', HR E' s'.get w' ∧ Stp E s.get w E' s'.get w' ∧ Grow E s.n E' s'.n := by
  unfold recA at he
  split at he
  · cases he
  · rename_i r hr
    obtain ⟨ops, d, l, rest⟩ := r
    obtain ⟨id, o, c, hb, hl, hgd, hd, hop, hcal⟩ := recOf_ok hr
    cases hn : Nat.ble fn.ntmps 1000000 with
    | false => rw [hn] at he; cases he
    | true =>
    cases hle : Nat.ble caps.length fn.ntmps with
    | false => rw [hn, hle] at he; cases he
    | true =>
      rw [hn, hle] at he
      simp only [cond_true] at he
      have hn' : fn.ntmps ≤ 1000000 := Nat.le_of_ble_eq_true hn
      have hl' : caps.length ≤ fn.ntmps := Nat.le_of_ble_eq_true hle
      split at he
      · cases he
      · rename_i t1 hp
        split at he
        · cases he
        · rename_i q hq
          obtain ⟨t2, s2⟩ := q
          dsimp only at he
          obtain ⟨e3, t3, s3, hev, hres, he3, hs3⟩ : ∃ e3 t3 s3, evC P (hooks P) call fn.ntmps fuel rest t2 s2 = some (e3, t3, s3) ∧ fn.results.toList = [] ∧ (e3 = .normal ∨ e3 = .ret) ∧ s3 = s' := by
            unfold recEnd at he
            split at he
            · rename_i tt ss h1 h2
              injection he with he
              exact ⟨_, _, _, h2, h1, .inl rfl, he⟩
            · rename_i tt ss h1 h2
              injection he with he
              exact ⟨_, _, _, h2, h1, .inr rfl, he⟩
            · cases he
          subst hs3
          have hops : ∀ j o', l[j]? = some o' → ops[1 + j]? = some o' := fun j o' hj => by
            rw [← Array.getElem?_toList, hl, Nat.add_comm 1 j]
            simpa using hj
          have h0 : ops[0]? = some o := by rw [← Array.getElem?_toList, hl]; rfl
          have hsz : ops.size = l.length + 1 := by rw [← Array.length_toList, hl]; rfl
          refine callsD_of_wpS hf hb fun c₀ cs hc0 => ?_
          apply wpS_seq
          refine wpS_region ?_
          have ht0 : TR E fn.ntmps ((initT caps 0 .leaf).get .top) { tmps := xs ++ Array.replicate (fn.ntmps - xs.size) undef, defers := [] } := start_TR hn' hl' hv
          -- the rest of the region, and what is behind it
          have go : ∀ (v : Value) (cs' : List Frame), cs' = { c₀ with mode := m' } :: cs → VR E u v → ∀ a1 : Act, a1 = Act.put { tmps := xs ++ Array.replicate (fn.ntmps - xs.size) undef, defers := [] } (some d) v → wpOpsS P ops (Exit.thenS (rest.wpS P (bodyPostS P fn c₀ cs fun e u' w' => (∃ v, e = .returned v) ∧ u' = m' ∧ ∃ E', HR E' s3.get w' ∧ Stp E s.get w E' s3.get w' ∧ Grow E s.n E' s3.n)) (bodyPostS P fn c₀ cs fun e u' w' => (∃ v, e = .returned v) ∧ u' = m' ∧ ∃ E', HR E' s3.get w' ∧ Stp E s.get w E' s3.get w' ∧ Grow E s.n E' s3.n)) (List.range' 1 l.length) a1 cs' w := by
            intro v cs' hcs' hvv a1 ha1
            subst ha1
            refine opsS_ok hc l 1 t1 s t2 s2 hops hq E _ w (ht0.putT hvv hp) h hfr fun E1 a2 w1 p1 p2 p3 p4 p5 => ?_
            show rest.wpS P _ a2 cs' w1
            refine wpS_of_wp (wp_mono (evC_ok (hooks_ok hm) hc fuel rest t2 s2 e3 t3 s3 hev E1 a2 w1 p1 p2 (hfr.grow p4)) fun ex a3 w2 hpost => ?_)
            obtain ⟨q0, E2, q1, q2, q3, q4, q5⟩ := hpost
            obtain ⟨x, r1, r2⟩ := resA_ok (fn := fn) (v := .tup []) q1 q2 (by unfold resA; rw [hres]; rfl)
            have hd0 : a3.defers = [] := q5.trans (p5.trans (put_defers _ _ _))
            rcases he3 with rfl | rfl
            · cases q0
              exact ⟨hd0, m', hcs', x, r1, ⟨x, rfl⟩, rfl, E2, q2, p3.trans q3, p4.trans q4⟩
            · cases q0
              exact ⟨hd0, m', hcs', x, r1, ⟨x, rfl⟩, rfl, E2, q2, p3.trans q3, p4.trans q4⟩
          rw [List.range_eq_range', hsz, List.range'_succ]
          unfold wpOpsS
          rw [h0]
          dsimp only
          have hwant : Region.wanted o (yielded ops (xs ++ Array.replicate (fn.ntmps - xs.size) undef)) = true := by unfold Region.wanted; rw [hgd]
          rw [if_pos hwant]
          have hrun : ∀ a : Act, (execOp a.eval o).run P w = .ok .recover w := fun a => by
            simp [execOp, hop, resolve, hcal, invoke, builtin]
          rw [hrun]
          dsimp only
          rcases hg c₀ cs hc0 with ⟨v, hrec, hvv⟩ | ⟨hrec, hmm, hu⟩
          · rw [hrec]
            dsimp only
            exact go v _ rfl hvv _ (by rw [hd])
          · rw [hrec]
            dsimp only
            subst hmm
            subst hu
            exact go .nilIface _ (by rw [← hc0]) .nili _ (by rw [hd])
/-- A region that makes a closure and defers it. -/
noncomputable def deferOf (x : Code) : Option (Array Oper × Oper × Oper × Operand) := match x with
  | .region _ ops false => match ops.toList with
    | [o1, o2] => match o1.guard with
      | none => match o2.guard with
        | none => match o2.op with
          | .defer c => match c.callee with
            | .value f => match c.args.toList with
              | [] => some (ops, o1, o2, f)
              | _ :: _ => none
            | _ => none
          | _ => none
        | some _ => none
      | some _ => none
    | _ => none
  | _ => none
theorem deferOf_ok {x : Code} {ops : Array Oper} {o1 o2 : Oper} {f : Operand} (h : deferOf x = some (ops, o1, o2, f)) : ∃ id c, x = .region id ops false ∧ ops.toList = [o1, o2] ∧ o1.guard = none ∧ o2.guard = none ∧ o2.op = .defer c ∧ c.callee = .value f ∧ c.args = #[] := by
  unfold deferOf at h
  split at h
  · split at h
    · rename_i hl
      split at h
      · rename_i h1
        split at h
        · rename_i h2
          split at h
          · rename_i c hop
            split at h
            · rename_i f' hcal
              split at h
              · rename_i hargs
                injection h with h
                injection h with e1 h
                injection h with e2 h
                injection h with e3 e4
                subst e1
                subst e2
                subst e3
                subst e4
                exact ⟨_, c, rfl, hl, h1, h2, hop, hcal, by apply Array.ext'; simpa using hargs⟩
              · cases h
            · cases h
          · cases h
        · cases h
      · cases h
    · cases h
  · cases h
/-- A panic's value, again. -/
noncomputable def panI : List Value → Option (List AV)
  | [] => some []
  | .int k n :: l => match panI l with
    | some vs => some (.int k n :: vs)
    | none => none
  | _ :: _ => none
theorem panI_ok (E : AEnv) : ∀ {a : List Value} {l : List AV}, panI a = some l → VL E l a
  | [], l, h => by injection h with h; subst h; exact VL.nil
  | v :: a, l, h => by
    unfold panI at h
    split at h
    · rename_i heq; cases heq
    · rename_i k n a' heq
      injection heq with e1 e2
      subst e1
      subst e2
      split at h
      · rename_i vs hvs
        injection h with h
        subst h
        exact VL.cons (.int k n) (panI_ok E hvs)
      · cases h
    · cases h
noncomputable def panV : Value → Option AV
  | .iface t (.int k n) => some (.ifc t (.int k n))
  | .iface t (.string s) => some (.ifc t (.str s.data.toList))
  | .iface t (.agg a) => match panI a.toList with
    | some l => some (.ifc t (.agg l))
    | none => none
  | _ => none
theorem panV_ok {v : Value} {a : AV} (h : panV v = some a) (E : AEnv) : VR E a v := by
  unfold panV at h
  split at h
  · injection h with h; subst h; exact .ifc _ _ _ (.int _ _)
  · injection h with h; subst h; exact .ifc _ _ _ (.str _)
  · split at h
    · rename_i l hl
      injection h with h
      subst h
      exact .ifc _ _ _ (VL.agg (panI_ok E hl))
    · cases h
  · cases h
noncomputable def endG (P : Program) (rs : List ResultVar) (t : Tr AV) (s : AS) : Option (AV × AS) := match resA P t s rs with
  | some v => some (v, s)
  | none => none
noncomputable def finG (P : Program) (call : Nat → List AV → AS → Option (AV × AS)) (fuel : Nat) (rs : List ResultVar) (fn : Func) (caps : List AV) (r : Option (Ex × Tr AV × AS)) : Option (AV × AS) := match r with
  | some (.normal, t, s) => match recA P call fuel fn caps .nili s with
    | some s2 => endG P rs t s2
    | none => none
  | some (.ret, t, s) => match recA P call fuel fn caps .nili s with
    | some s2 => endG P rs t s2
    | none => none
  | some (.panic u, t, s) => match panV u with
    | some v => match recA P call fuel fn caps v s with
      | some s2 => endG P rs t s2
      | none => none
    | none => none
  | _ => none
noncomputable def gdA (P : Program) (call : Nat → List AV → AS → Option (AV × AS)) (fs : Nat → Option Func) (fuel nt : Nat) (rs : List ResultVar) : Code → Tr AV → AS → Option (AV × AS)
  | .seq x y, t, s => match deferOf x with
    | some r => match evOp P call r.2.1 (oev t) s with
      | none => none
      | some q => match putT nt t r.2.1.dst q.1 with
        | none => none
        | some t1 => match oev t1 r.2.2.2 with
          | .fn g caps => match fs g with
            | some fn => match putT nt t1 r.2.2.1.dst .undef with
              | some t2 => finG P call fuel rs fn caps (evC P (hooks P) call nt fuel y t2 q.2)
              | none => none
            | none => none
          | _ => none
    | none => match evC P (hooks P) call nt fuel x t s with
      | some (.normal, t1, s1) => gdA P call fs fuel nt rs y t1 s1
      | some (.ret, t1, s1) => endG P rs t1 s1
      | _ => none
  | _, _, _ => none
/-- What the whole leaves. -/
noncomputable def EndG [Tab] (E : AEnv) (s : AS) (w : World) (v : AV) (s' : AS) (e : Ending) (w' : World) : Prop := CallEnd E s w v s' e w'
theorem endG_ok [Tab] {P : Program} {fn : Func} {E E1 : AEnv} {nt : Nat} {a : Act} {t : Tr AV} {s s1 s' : AS} {w w1 : World} {v : AV} (he : endG P fn.results.toList t s1 = some (v, s')) (ht : TR E1 nt (t.get .top) a) (h : HR E1 s1.get w1) (hs : Stp E s.get w E1 s1.get w1) (hg : Grow E s.n E1 s1.n) :
    ∃ x, (results fn a.tmps).run P w1 = .ok x w1 ∧ CallEnd E s w v s' (.returned x) w1 := by
  unfold endG at he
  split at he
  · rename_i u hu
    injection he with he
    injection he with e1 e2
    subst e1
    subst e2
    obtain ⟨x, r1, r2⟩ := resA_ok (fn := fn) ht h hu
    exact ⟨x, r1, x, E1, rfl, r2, h, hs, hg⟩
  · cases he
theorem given_ret (E : AEnv) : Given E .nili .returning .returning := fun c₀ cs hc => .inr ⟨by
  unfold recoverD
  dsimp only
  rw [hc], rfl, rfl⟩
theorem given_pan {E : AEnv} {u : AV} {v : Value} (h : VR E u v) : Given E u (.panicking [{ v := v, recovered := false }]) (.panicking [{ v := v, recovered := true }]) := fun c₀ cs hc => .inl ⟨v, by
  unfold recoverD
  dsimp only
  rw [hc], h⟩
theorem finG_ok [Tab] {P : Program} (hm : P.follows .mixedOrders = true) {call : Nat → List AV → AS → Option (AV × AS)} (hc : CallOK P call) {fuel nt g : Nat} {fn cl : Func} (hg : P.funcs[g]? = some cl) (hnum : (cl.name == "runtime.NumGoroutine") = false) {caps : List AV} {s s1 s' : AS} {v : AV} {y : Code} {t1 : Tr AV} {E E1 : AEnv} {a : Act} {w w1 : World} {xs : Array Value} {d : Deferred}
    (he : finG P call fuel fn.results.toList cl caps (evC P (hooks P) call nt fuel y t1 s1) = some (v, s')) (ht : TR E1 nt (t1.get .top) a) (h : HR E1 s1.get w1) (hfr : Fresh E1 s1.n) (hs : Stp E s.get w E1 s1.get w1) (hgr : Grow E s.n E1 s1.n) (hv : VL E1 caps xs.toList) (hd : a.defers = [d]) (htar : d.target = .fn (.func g) xs) (hargs : d.args = #[]) :
    y.wp P (bodyPostD P fn (CallEnd E s w v s')) a w1 := by
  have hinv : cl.body.isNone = false → ∀ w2, (invoke d.target d.args).run P w2 = .ok (.enter g xs) w2 := fun hb w2 => by
    have h2' : cl.body ≠ none := fun e => by rw [e] at hb; cases hb
    have h3' : cl.name ≠ "runtime.NumGoroutine" := fun e => by rw [e] at hnum; simp at hnum
    simp [htar, hargs, invoke, callFunc, hg, h2', h3']
  have hbody : ∀ {u : AV} {s2 s3 : AS}, recA P call fuel cl caps u s2 = some s3 → cl.body.isNone = false := fun {u s2 s3} hr => by
    unfold recA at hr
    split at hr
    · cases hr
    · rename_i r hr'
      obtain ⟨ops, d, l, rest⟩ := r
      obtain ⟨_, _, _, hb, _⟩ := recOf_ok hr'
      rw [hb]
      rfl
  -- what is behind the body
  have leave : ∀ (m m' : FrameMode), m ≠ .run → settle m' = .returning → ∀ {u : AV} {s2 s3 : AS} {t2 : Tr AV} {a2 : Act} {E2 : AEnv} {w2 : World}, recA P call fuel cl caps u s2 = some s3 → endG P fn.results.toList t2 s3 = some (v, s') → Given E2 u m m' → TR E2 nt (t2.get .top) a2 → HR E2 s2.get w2 → Stp E1 s1.get w1 E2 s2.get w2 → Grow E1 s1.n E2 s2.n → a2.defers = a.defers → Leaves P fn a2.tmps (CallEnd E s w v s') a2.defers m w2 := by
    intro m m' hmr hset u s2 s3 t2 a2 E2 w2 hrec hend hgiv ht2 h2 hs2 hg2 hd2
    rw [hd2, hd]
    refine ⟨hmr, .func g, xs, g, xs, htar, hinv (hbody hrec) w2, ?_⟩
    have := recA_ok hm hc hg hrec hgiv h2 ((hfr.grow hg2)) (hv.mono hs2.le)
    intro c₀ cs hc0
    obtain ⟨e, u', w3, fr, ⟨⟨x, rfl⟩, rfl, E3, q1, q2, q3⟩, r2⟩ := this c₀ cs hc0
    refine ⟨.returned x, u', w3, fr, ?_, r2⟩
    show Leaves P fn a2.tmps (CallEnd E s w v s') [] (settle u') w3
    rw [hset]
    obtain ⟨z, z1, z2⟩ := endG_ok (fn := fn) hend (ht2.mono q2.le) q1 (hs.trans (hs2.trans q2)) (hgr.trans (hg2.trans q3))
    exact ⟨z, z1, z2⟩
  unfold finG at he
  split at he
  · rename_i t2 s2 hev
    split at he
    · rename_i s3 hrec
      refine wp_mono (evC_ok (hooks_ok hm) hc fuel y t1 s1 _ t2 s2 hev E1 a w1 ht h hfr) fun ex a2 w2 hp => ?_
      obtain ⟨q0, E2, q1, q2, q3, q4, q5⟩ := hp
      cases q0
      exact leave .returning .returning (by intro e; cases e) rfl hrec he (given_ret E2) q1 q2 q3 q4 q5
    · cases he
  · rename_i t2 s2 hev
    split at he
    · rename_i s3 hrec
      refine wp_mono (evC_ok (hooks_ok hm) hc fuel y t1 s1 _ t2 s2 hev E1 a w1 ht h hfr) fun ex a2 w2 hp => ?_
      obtain ⟨q0, E2, q1, q2, q3, q4, q5⟩ := hp
      cases q0
      exact leave .returning .returning (by intro e; cases e) rfl hrec he (given_ret E2) q1 q2 q3 q4 q5
    · cases he
  · rename_i u t2 s2 hev
    split at he
    · rename_i v' hrep
      split at he
      · rename_i s3 hrec
        refine wp_mono (evC_ok (hooks_ok hm) hc fuel y t1 s1 _ t2 s2 hev E1 a w1 ht h hfr) fun ex a2 w2 hp => ?_
        obtain ⟨q0, E2, q1, q2, q3, q4, q5⟩ := hp
        cases q0
        exact leave (.panicking [{ v := u, recovered := false }]) (.panicking [{ v := u, recovered := true }]) (by intro e; cases e) rfl hrec he (given_pan (panV_ok hrep E2)) q1 q2 q3 q4 q5
      · cases he
    · cases he
  · cases he
theorem gdA_ok [Tab] {P : Program} (hm : P.follows .mixedOrders = true) {call : Nat → List AV → AS → Option (AV × AS)} (hc : CallOK P call) {fs : Nat → Option Func} (hfs : FnsOK P fs) {fuel nt : Nat} {fn : Func} : ∀ (c : Code) (t : Tr AV) (s1 : AS) (v : AV) (s' : AS), gdA P call fs fuel nt fn.results.toList c t s1 = some (v, s') →
    ∀ (E E1 : AEnv) (s : AS) (a : Act) (w w1 : World), TR E1 nt (t.get .top) a → HR E1 s1.get w1 → Fresh E1 s1.n → Stp E s.get w E1 s1.get w1 → Grow E s.n E1 s1.n → a.defers = [] → c.wp P (bodyPostD P fn (CallEnd E s w v s')) a w1
  | .seq x y, t, s1, v, s', he, E, E1, s, a, w, w1, ht, h, hfr, hs, hgr, hd => by
    unfold gdA at he
    split at he
    · rename_i r hdef
      obtain ⟨ops, o1, o2, f⟩ := r
      obtain ⟨id, c, rfl, hl, g1, g2, hop, hcal, hargs⟩ := deferOf_ok hdef
      dsimp only at he
      split at he
      · cases he
      · rename_i q hq
        split at he
        · cases he
        · rename_i t1 hp
          split at he
          · rename_i g caps hfn
            split at he
            · rename_i cl hcl
              split at he
              · rename_i t2 hp2
                obtain ⟨hg, hnum⟩ := hfs.at_ g cl hcl
                obtain ⟨v1, s2⟩ := q
                dsimp only at hp he
                refine wp_seq (wp_region_list ?_)
                rw [hl]
                unfold wpList
                rw [if_pos (by unfold Region.wanted; rw [g1])]
                refine .inl (evOp_ok hc ht h hfr hq fun x1 E2 w2 q1 q2 q3 q4 => ?_)
                have ht1 := (ht.mono q3.le).putT q1 hp
                unfold wpList
                rw [if_pos (by unfold Region.wanted; rw [g2])]
                left
                have hval := oev_ok ht1 f
                rw [hfn] at hval
                obtain ⟨xs, hx, hcaps⟩ := hval.fn_inv
                have hrun : (execOp (a.put o1.dst x1).eval o2).run P w2 = .ok (.defer { target := .fn (.func g) xs, args := #[] }) w2 := by
                  simp [execOp, hop, resolve, hcal, hargs, hx, Deferred.ofValue]
                unfold Oper.wp
                rw [hrun]
                rw [Oper.upon_defer]
                unfold wpList
                refine finG_ok (E := E) (s := s) (w := w) hm hc hg hnum (d := { target := .fn (.func g) xs, args := #[] }) he ?_ q2 (hfr.grow q4) (hs.trans q3) (hgr.trans q4) hcaps ?_ rfl rfl
                · have : TR E2 nt (t1.get .top) { (a.put o1.dst x1) with defers := { target := .fn (.func g) xs, args := #[] } :: (a.put o1.dst x1).defers } := ⟨ht1.size, ht1.lim, ht1.at_⟩
                  exact this.putT .undef hp2
                · rw [put_defers]
                  show _ :: (a.put o1.dst x1).defers = _
                  rw [put_defers, hd]
              · cases he
            · cases he
          · cases he
    · split at he
      · rename_i t1 s2 hev
        refine wp_seq (wp_mono (evC_ok (hooks_ok hm) hc fuel x t s1 _ t1 s2 hev E1 a w1 ht h hfr) fun ex a2 w2 hp => ?_)
        obtain ⟨q0, E2, q1, q2, q3, q4, q5⟩ := hp
        cases q0
        exact gdA_ok hm hc hfs y t1 s2 v s' he E E2 s a2 w w2 q1 q2 (hfr.grow q4) (hs.trans q3) (hgr.trans q4) (q5.trans hd)
      · rename_i t1 s2 hev
        refine wp_seq (wp_mono (evC_ok (hooks_ok hm) hc fuel x t s1 _ t1 s2 hev E1 a w1 ht h hfr) fun ex a2 w2 hp => ?_)
        obtain ⟨q0, E2, q1, q2, q3, q4, q5⟩ := hp
        cases q0
        obtain ⟨z, z1, z2⟩ := endG_ok (fn := fn) he q1 q2 (hs.trans q3) (hgr.trans q4)
        show Leaves P fn a2.tmps _ a2.defers .returning w2
        rw [q5, hd]
        exact ⟨z, z1, z2⟩
      · cases he
  | .skip, _, _, _, _, he, _, _, _, _, _, _, _, _, _, _, _, _ => by cases he
  | .region _ _ _, _, _, _, _, he, _, _, _, _, _, _, _, _, _, _, _, _ => by cases he
  | .cond _ _ _, _, _, _, _, he, _, _, _, _, _, _, _, _, _, _, _, _ => by cases he
  | .block _ _, _, _, _, _, he, _, _, _, _, _, _, _, _, _, _, _, _ => by cases he
  | .loop _, _, _, _, _, he, _, _, _, _, _, _, _, _, _, _, _, _ => by cases he
  | .rangeFunc _ _ _ _, _, _, _, _, he, _, _, _, _, _, _, _, _, _, _, _, _ => by cases he
  | .exit _, _, _, _, _, he, _, _, _, _, _, _, _, _, _, _, _, _ => by cases he
  | .scope _, _, _, _, _, he, _, _, _, _, _, _, _, _, _, _, _, _ => by cases he
  | .label _, _, _, _, _, he, _, _, _, _, _, _, _, _, _, _, _, _ => by cases he
  | .goto _, _, _, _, _, he, _, _, _, _, _, _, _, _, _, _, _, _ => by cases he
  | .ret, _, _, _, _, he, _, _, _, _, _, _, _, _, _, _, _, _ => by cases he
  | .refuse _, _, _, _, _, he, _, _, _, _, _, _, _, _, _, _, _, _ => by cases he
/-- A function with a deferred closure, as an oracle. -/
noncomputable def guardedA (P : Program) (call : Nat → List AV → AS → Option (AV × AS)) (fs : Nat → Option Func) (fuel : Nat) (fn : Func) (args : List AV) (s : AS) : Option (AV × AS) := match fn.body with
  | none => none
  | some c => cond (Nat.ble fn.ntmps 1000000) (cond (Nat.ble args.length fn.ntmps) (match gdA P call fs fuel fn.ntmps fn.results.toList c (initT args 0 .leaf) s with
    | some (.pan _, _) => none
    | r => r) none) none
theorem guardedA_ok [Tab] {P : Program} (hm : P.follows .mixedOrders = true) {call : Nat → List AV → AS → Option (AV × AS)} (hc : CallOK P call) {fs : Nat → Option Func} (hfs : FnsOK P fs) {fuel f : Nat} {fn : Func} (hf : P.funcs[f]? = some fn) (hb : fn.body.isNone = false) (hnum : (fn.name == "runtime.NumGoroutine") = false) : OneOK P f (guardedA P call fs fuel fn) := by
  have key : ∀ {args : List AV} {s : AS} {v : AV} {s' : AS}, guardedA P call fs fuel fn args s = some (v, s') → (∃ c, fn.body = some c ∧ fn.ntmps ≤ 1000000 ∧ args.length ≤ fn.ntmps ∧ gdA P call fs fuel fn.ntmps fn.results.toList c (initT args 0 .leaf) s = some (v, s')) ∧ ∀ u, v ≠ .pan u := by
    intro args s v s' he
    unfold guardedA at he
    split at he
    · cases he
    · rename_i c hbody
      cases hn : Nat.ble fn.ntmps 1000000 with
      | false => rw [hn] at he; cases he
      | true =>
      cases hl : Nat.ble args.length fn.ntmps with
      | false => rw [hn, hl] at he; cases he
      | true =>
        rw [hn, hl] at he
        simp only [cond_true] at he
        split at he
        · cases he
        · rename_i hnp
          exact ⟨⟨c, hbody, Nat.le_of_ble_eq_true hn, Nat.le_of_ble_eq_true hl, he⟩, fun u e => hnp u s' (by rw [he, e])⟩
  refine ⟨⟨fn, hf, hb, hnum⟩, fun args s v s' he _ E w xs h hfr hv => ?_, fun args s u s' he => ?_⟩
  · obtain ⟨⟨c, hbody, hn, hl, hgd⟩, _⟩ := key he
    exact calls_of_wp_defers hf hbody (gdA_ok hm hc hfs c _ s v s' hgd E E s _ w w (start_TR hn hl hv) h hfr (Stp.refl _ _ _) (Grow.refl _ _) rfl)
  · exact absurd rfl ((key he).2 u)
end Go.Proofs.YtambgppdjlhdaaaGreatDoor
