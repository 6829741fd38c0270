/-
  The abstract machine: a call that panics in a drawn region. No program.
-/
import Derived.Test.YtambgppdjlhdaaaGreatDoorEvR
namespace Go.Proofs.YtambgppdjlhdaaaGreatDoor
open Go.RowKit

theorem panO_congr [Tab] {call : Nat → List AV → AS → Option (AV × AS)} {ops : Array Oper} {o : Oper} {f f' : Nat → AV} (h : ∀ k ∈ o.looksAt ops, f k = f' k) : panO call o (oevF f) = panO call o (oevF f') := by
  have hop : ∀ x ∈ o.op.operands, oevF f x = oevF f' x := by
    intro x hx
    cases x with
    | tmp k => exact h k (List.mem_append_left _ (List.mem_filterMap.2 ⟨.tmp k, by simpa using hx, rfl⟩))
    | _ => rfl
  funext s
  unfold panO
  split
  · rename_i c hc
    rw [hc] at hop
    simp only [Op.operands, Call.operands] at hop
    have hargs : c.args.toList.map (oevF f) = c.args.toList.map (oevF f') := List.map_congr_left fun x hx => hop x (by simp only [Array.mem_append]; right; simpa using hx)
    unfold panA
    rw [hargs]
    split
    · rename_i g hg
      rw [hg] at hop
      rw [hop g (by simp)]
    · rfl
  · rename_i x hx
    rw [hx] at hop
    rw [hop x (by simp [Op.operands])]
  · rfl
/-- An operation that panics at a region's state. -/
noncomputable def PanD (call : Nat → List AV → AS → Option (AV × AS)) (ops : Array Oper) (base : Nat) (anc : Nat → Nat → Bool) (i : Nat) (d : DS) (u : Value) (g' : AS) : Prop :=
  ∃ o, ops[i]? = some o ∧ wantF ops o d.t = some true ∧ panO call o (oevF d.t) (preA base (fun k => anc k i) d.x ops.size d.g) = some (u, g')
theorem preA_same (base : Nat) (p : Nat → Bool) (x y : Nat → AB) (g : AS) : ∀ n, (∀ k, k < n → p k = true → x k = y k) → preA base p x n g = preA base p y n g
  | 0, _ => rfl
  | n + 1, h => by
    have ih := preA_same base p x y g n fun k hk => h k (Nat.lt_succ_of_lt hk)
    unfold preA
    cases hp : p n with
    | false => exact ih
    | true => rw [h n (Nat.lt_succ_self _) hp, ih]
/-- What does not act, and is apart, changes nothing of it. -/
theorem PanD.step [Tab] {P : Program} {call : Nat → List AV → AS → Option (AV × AS)} {nt : Nat} {ops : Array Oper} {base : Nat} {anc : Nat → Nat → Bool} {sB : Nat → Bool} {p i : Nat} {op oi : Oper} {d d1 : DS} {u : Value} {g' : AS} (hop : ops[p]? = some op) (hoi : ops[i]? = some oi) (ha : anc p i = false) (hap : op.apart ops oi = true) (hcl : clsO op ≠ 3) (hsB : sB p = true → clsO op = 3)
    (hp : StepD P call nt ops base anc sB p d d1) : PanD call ops base anc i d1 u g' ↔ PanD call ops base anc i d u g' := by
  obtain ⟨a1, _, _⟩ := Oper.apart_spec hap
  obtain ⟨op', hop', _, hp⟩ := hp
  rw [hop] at hop'
  injection hop' with hop'
  subst hop'
  have ei : ∀ (v : AV), panO call oi (oevF (updT d.t op.dst v)) = panO call oi (oevF d.t) := fun v => panO_congr (ops := ops) fun k hk => if_neg fun e => a1 k e hk
  have wi : ∀ (v : AV), wantF ops oi (updT d.t op.dst v) = wantF ops oi d.t := fun v => wantF_congr fun k hk => if_neg fun e => a1 k e hk
  have hx : ∀ c, preA base (fun k => anc k i) (updF d.x p c) ops.size d.g = preA base (fun k => anc k i) d.x ops.size d.g := fun c => preA_same _ _ _ _ _ _ fun k _ hk => if_neg fun e => by rw [e, ha] at hk; cases hk
  have key : (d1.g = d.g ∧ (∃ v, d1.t = updT d.t op.dst v) ∧ (d1.x = d.x ∨ ∃ c, d1.x = updF d.x p c)) := by
    rcases hp with ⟨_, rfl⟩ | ⟨_, _, v, _, rfl⟩ | ⟨_, _, v, _, _, rfl⟩ | ⟨_, _, v, c, _, _, rfl⟩ | ⟨_, cl, _⟩ | ⟨_, hs, _⟩
    · exact ⟨rfl, ⟨_, rfl⟩, .inl rfl⟩
    · exact ⟨rfl, ⟨_, rfl⟩, .inl rfl⟩
    · exact ⟨rfl, ⟨_, rfl⟩, .inl rfl⟩
    · exact ⟨rfl, ⟨_, rfl⟩, .inr ⟨_, rfl⟩⟩
    · exact absurd cl hcl
    · exact absurd (hsB hs) hcl
  obtain ⟨k1, ⟨v, k2⟩, k3⟩ := key
  have hpre : preA base (fun k => anc k i) d1.x ops.size d1.g = preA base (fun k => anc k i) d.x ops.size d.g := by
    rw [k1]
    rcases k3 with k3 | ⟨c, k3⟩
    · rw [k3]
    · rw [k3]; exact hx c
  constructor
  · rintro ⟨o, ho, hw, hpn⟩
    rw [hoi] at ho
    injection ho with ho
    subst ho
    rw [k2, wi] at hw
    rw [hpre, k2, ei] at hpn
    exact ⟨oi, hoi, hw, hpn⟩
  · rintro ⟨o, ho, hw, hpn⟩
    rw [hoi] at ho
    injection ho with ho
    subst ho
    exact ⟨oi, hoi, by rw [k2, wi]; exact hw, by rw [hpre, k2, ei]; exact hpn⟩
theorem Stp.forget {E : AEnv} {g g1 : Nat → AB} {w : World} (hs : ∀ b, g1 b ≠ .none → g1 b = g b) : Stp E g w E g1 w :=
  ⟨rfl, rfl, rfl, Nat.le_refl _, AEnv.le.refl E, fun _ _ => rfl, fun _ _ _ => rfl, fun b hb => .inr ⟨b, by rw [← hs b hb]; exact hb, rfl⟩⟩
theorem pan_wp [Tab] {P : Program} {call : Nat → List AV → AS → Option (AV × AS)} (hc : CallOK P call) {ops : Array Oper} {anc : Nat → Nat → Bool} {E0 : AEnv} {g0 : Nat → AB} {w0 : World} {a0 : Act} {nt base : Nat} {R : List Nat} {d : DS} {E : AEnv} {a : Act} {w : World} {m : Nat} {u : Value} {g' : AS} {Q : Exit → Act → World → Prop} {K : Act → World → Prop}
    (hI : InvD E0 g0 w0 a0 nt ops.size base R d E a w) (hp : PanD call ops base anc m d u g')
    (hQ : ∀ E' w', HR E' g'.get w' → Stp E0 g0 w0 E' g'.get w' → base ≤ g'.n → (∀ b, E'.ok b → E0.ok b ∨ (base ≤ b ∧ b < g'.n)) → a.tmps.size = nt → nt ≤ 1000000 → a.defers = a0.defers → Q (.panic [{ v := u, recovered := false }]) a w') : wpOp P ops Q m K a w := by
  obtain ⟨o, ho, hw, hpn⟩ := hp
  unfold wpOp
  rw [ho]
  dsimp only
  rw [if_pos (wantF_ok hI.t hw)]
  have hlim := hI.lim2
  have hpre : (preA base (fun k => anc k m) d.x ops.size d.g).get = ov d.g.get (xOf base ops.size (fun k => anc k m) d.x) := funext fun b => preA_get hlim b
  have hsub : ∀ b, (preA base (fun k => anc k m) d.x ops.size d.g).get b ≠ .none → (preA base (fun k => anc k m) d.x ops.size d.g).get b = ov d.g.get (xOf base ops.size allP d.x) b := by
    intro b hb
    rw [hpre] at hb ⊢
    by_cases h1 : xOf base ops.size (fun k => anc k m) d.x b = .none
    · rw [ov_none h1] at hb ⊢
      by_cases h2 : xOf base ops.size allP d.x b = .none
      · rw [ov_none h2]
      · exact absurd (hI.dis b h2) hb
    · have e : xOf base ops.size allP d.x b = xOf base ops.size (fun k => anc k m) d.x b := by
        by_cases h3 : base ≤ b ∧ b < base + ops.size ∧ (fun k => anc k m) (b - base) = true
        · have e1 : xOf base ops.size (fun k => anc k m) d.x b = d.x (b - base) := if_pos h3
          have e2 : xOf base ops.size allP d.x b = d.x (b - base) := if_pos ⟨h3.1, h3.2.1, rfl⟩
          rw [e1, e2]
        · exact absurd (if_neg h3) h1
      rw [ov_some h1, ov_some (by rw [e]; exact h1), e]
  have hn : (preA base (fun k => anc k m) d.x ops.size d.g).n = d.g.n := preA_n ..
  have hg := hI.h.sub hsub
  have hst : Stp E (ov d.g.get (xOf base ops.size allP d.x)) w E (preA base (fun k => anc k m) d.x ops.size d.g).get w := Stp.forget hsub
  refine .inl (panO_ok hc (oevF_ok hI.t) hg (by rw [hn]; exact hI.fresh) hpn fun E' w' q1 q2 q3 => hQ E' w' q1 ((hI.stp.trans hst).trans q2) ?_ (fun b hb => ?_) hI.t.size hI.t.lim hI.df)
  · have := q3.le
    have := hI.lim
    omega
  · have h1 := q3.le
    have h2 := hI.lim
    rcases q3.ok b hb with h | h
    · rcases hI.ok b h with h | h
      · exact .inl h
      · right; omega
    · right; omega
/-- Every order of a region in which one panics. -/
theorem anyP_ok [Tab] {P : Program} {call : Nat → List AV → AS → Option (AV × AS)} (hc : CallOK P call) {ops : Array Oper} {anc : Nat → Nat → Bool} {sB : Nat → Bool} (hst : StatOK ops anc sB) {E0 : AEnv} {g0 : Nat → AB} {w0 : World} {a0 : Act} {nt base : Nat} {Q : Exit → Act → World → Prop} {dF : DS} {m : Nat} {om : Oper} {u : Value} {g' : AS} {nB : Nat → Bool}
    (hom : ops[m]? = some om) (hm : nB m = false) (n1 : ∀ e ∈ om.after, Region.binds .any e = true → nB e.on = true) (n2 : ∀ (p : Nat) (o : Oper), ops[p]? = some o → nB p = true → ∀ e ∈ o.after, Region.binds .any e = true → nB e.on = true)
    (n3 : ∀ p, p < ops.size → nB p = false → p ≠ m → anc m p = true) (n4 : ∀ (p : Nat) (o : Oper), ops[p]? = some o → nB p = true → anc p m = false → o.apart ops om = true ∧ clsO o ≠ 3) (hpan : PanD call ops base anc m dF u g')
    (hQ : ∀ E' a' w', HR E' g'.get w' → Stp E0 g0 w0 E' g'.get w' → base ≤ g'.n → (∀ b, E'.ok b → E0.ok b ∨ (base ≤ b ∧ b < g'.n)) → a'.tmps.size = nt → nt ≤ 1000000 → a'.defers = a0.defers → Q (.panic [{ v := u, recovered := false }]) a' w') : ∀ (fuel : Nat) (R : List Nat) (listed : Array Bool) (d : DS) (E : AEnv) (a : Act) (w : World), InvD E0 g0 w0 a0 nt ops.size base R d E a w →
    listed.size = ops.size → (∀ k, k ∈ R ↔ k < ops.size ∧ listed.getD k true = false ∧ nB k = true) → (∀ k, k < ops.size → nB k = false → listed.getD k true = false) → DownC ops listed → R.Pairwise (· < ·) → R.length + 1 ≤ fuel → Chain P call nt ops base anc sB R d dF → wpAny P .any ops Q fuel listed a w := by
  intro fuel
  induction fuel with
  | zero => intro R listed d E a w hI hsz hR hU hD hpw hlen hch; omega
  | succ fuel ih =>
    intro R listed d E a w hI hsz hR hU hD hpw hlen hch
    have hms : m < ops.size := (Array.getElem?_eq_some_iff.1 hom).1
    have htf : ∀ k, k < ops.size → listed.getD k true = true → listed.getD k false = true := fun k hk h => by
      have hi : k < listed.size := by omega
      simp [hi] at h ⊢
      exact h
    refine ⟨fun h0 => ?_, fun i hi => ?_⟩
    · exfalso
      cases R with
      | nil =>
        have hready : m ∈ Region.ready .any ops listed := by
          refine mem_ready.2 ⟨hU m hms hm, om, hom, fun e he hb => ?_⟩
          have hlt := hst.dep m om hom e he hb
          cases hl : listed.getD e.on true with
          | true => exact htf _ (by omega) hl
          | false =>
            have := (hR e.on).2 ⟨by omega, hl, n1 e he hb⟩
            cases this
        rw [h0] at hready
        cases hready
      | cons r R =>
        obtain ⟨hr1, hr2, hr3⟩ := (hR r).1 (by simp)
        have hready : r ∈ Region.ready .any ops listed := by
          refine mem_ready.2 ⟨hr2, ops[r], Array.getElem?_eq_getElem hr1, fun e he hb => ?_⟩
          have hlt := hst.dep r _ (Array.getElem?_eq_getElem hr1) e he hb
          cases hl : listed.getD e.on true with
          | true => exact htf _ (by omega) hl
          | false =>
            have hmm := (hR e.on).2 ⟨by omega, hl, n2 r _ (Array.getElem?_eq_getElem hr1) hr3 e he hb⟩
            rcases List.mem_cons.1 hmm with h | h
            · omega
            · have := List.rel_of_pairwise_cons hpw h
              omega
        rw [h0] at hready
        cases hready
    · obtain ⟨hun, oi, hoi, hall⟩ := mem_ready.1 hi
      have his : i < ops.size := (Array.getElem?_eq_some_iff.1 hoi).1
      have anc0 : ∀ p, listed.getD p true = false → anc p i = false := fun p hp2 => by
        cases h : anc p i with
        | false => rfl
        | true =>
          exfalso
          have := (hst.up p i h).listed hD (fun o ho e he hb => by rw [hoi] at ho; injection ho with ho; subst ho; exact hall e he hb)
          have := getD_tf this
          rw [hp2] at this
          cases this
      cases hni : nB i with
      | false =>
        by_cases him : i = m
        · subst him
          have back : ∀ (R : List Nat) (d : DS), (∀ p ∈ R, p < ops.size ∧ listed.getD p true = false ∧ nB p = true) → Chain P call nt ops base anc sB R d dF → PanD call ops base anc i d u g' := by
            intro R
            induction R with
            | nil => intro d _ h; cases h; exact hpan
            | cons p R ihR =>
              intro d hR' h
              obtain ⟨d1, s1, s2⟩ := h
              obtain ⟨h1, h2, h3⟩ := hR' p (by simp)
              obtain ⟨x1, x2⟩ := n4 p ops[p] (Array.getElem?_eq_getElem h1) h3 (anc0 p h2)
              exact (PanD.step (Array.getElem?_eq_getElem h1) hom (anc0 p h2) x1 x2 (hst.spec p _ (Array.getElem?_eq_getElem h1)) s1).1 (ihR d1 (fun q hq => hR' q (by simp [hq])) s2)
          exact pan_wp hc hI (back R d (fun p hp => (hR p).1 hp) hch) fun E' w' => hQ E' a w'
        · have h1 := anc0 m (hU m hms hm)
          rw [n3 i his hni him] at h1
          cases h1
      | true =>
        have hiR : i ∈ R := (hR i).2 ⟨his, hun, hni⟩
        obtain ⟨l1, l2, rfl⟩ := List.append_of_mem hiR
        have hl1 : ∀ p ∈ l1, p < i := fun p hp => (List.pairwise_append.1 hpw).2.2 p hp i (by simp)
        have hl2 : ∀ p ∈ l2, i < p := fun p hp => List.rel_of_pairwise_cons (List.pairwise_append.1 hpw).2.1 hp
        obtain ⟨d1, hs, hch1⟩ := Chain.front hst.spec hoi l1 d (fun p hp => by
          obtain ⟨hp1, hp2, _⟩ := (hR p).1 (by simp [hp])
          have hpi := hl1 p hp
          have ha := anc0 p hp2
          have hb : anc i p = false := by
            cases h : anc i p with
            | false => rfl
            | true => have := hst.lt i p h; omega
          obtain ⟨q1, q2⟩ := hst.pair p i _ oi hpi (Array.getElem?_eq_getElem hp1) hoi ha
          exact ⟨by omega, ha, hb, ops[p], Array.getElem?_eq_getElem hp1, q1, q2⟩) hch
        have hsub : ∀ k, k ∈ l1 ++ l2 → k ∈ l1 ++ i :: l2 ∧ k ≠ i := fun k hk => by
          rcases List.mem_append.1 hk with h | h
          · have := hl1 k h
            exact ⟨by simp [h], by omega⟩
          · have := hl2 k h
            exact ⟨by simp [h], by omega⟩
        refine step_wp hc hI hiR hsub hs fun E' a' w' hI' => ?_
        have hilt : i < listed.size := by omega
        have hset : ∀ (b : Bool) k, (listed.setIfInBounds i true).getD k b = if k = i then true else listed.getD k b := by
          intro b k
          by_cases e : k = i
          · subst e
            simp [Array.getElem?_setIfInBounds, hilt]
          · rw [if_neg e]
            simp [Array.getElem?_setIfInBounds, Ne.symm e]
        refine ih (l1 ++ l2) _ d1 E' a' w' hI' (by simpa using hsz) (fun k => ?_) (fun k hk hn => ?_) (fun k o hk hl e he hb => ?_) ?_ (by simp at hlen ⊢; omega) hch1
        · rw [hset]
          constructor
          · intro hk
            obtain ⟨q1, q2⟩ := hsub k hk
            rw [if_neg q2]
            exact (hR k).1 q1
          · rintro ⟨q1, q2, q3⟩
            by_cases e : k = i
            · rw [if_pos e] at q2; cases q2
            · rw [if_neg e] at q2
              have := (hR k).2 ⟨q1, q2, q3⟩
              simp at this ⊢
              rcases this with h | h | h
              · exact .inl h
              · exact absurd h e
              · exact .inr h
        · rw [hset, if_neg fun e => by rw [e, hni] at hn; cases hn]
          exact hU k hk hn
        · rw [hset]
          split
          · rfl
          · rw [hset] at hl
            by_cases e2 : k = i
            · subst e2
              rw [hoi] at hk
              injection hk with hk
              subst hk
              exact hall e he hb
            · rw [if_neg e2] at hl
              exact hD k o hk hl e he hb
        · have h1 := List.pairwise_append.1 hpw
          exact List.pairwise_append.2 ⟨h1.1, (List.pairwise_cons.1 h1.2.1).2, fun p hp q hq => h1.2.2 p hp q (by simp [hq])⟩
/-- The region as it is reckoned, once: to its end, or to a call that panics. -/
noncomputable def edgesIn (nB : Nat → Bool) : List Edge → Bool
  | [] => true
  | e :: l => cond (Region.binds .any e) (cond (nB e.on) (edgesIn nB l) false) (edgesIn nB l)
theorem edgesIn_ok {nB : Nat → Bool} : ∀ {l : List Edge}, edgesIn nB l = true → ∀ e ∈ l, Region.binds .any e = true → nB e.on = true
  | [], _, e, he, _ => by cases he
  | x :: l, h, e, he, hb => by
    unfold edgesIn at h
    cases hx : Region.binds .any x with
    | true =>
      rw [hx] at h
      obtain ⟨h1, h2⟩ := cond_ff h
      rcases List.mem_cons.1 he with rfl | he
      · exact h1
      · exact edgesIn_ok h2 e he hb
    | false =>
      rw [hx] at h
      rcases List.mem_cons.1 he with rfl | he
      · rw [hx] at hb; cases hb
      · exact edgesIn_ok h e he hb
noncomputable def nBm (ms : Tr Nat) (m p : Nat) : Bool := cond (Nat.beq p m) false (cond (ancM ms m p) false true)
theorem nBm_true {ms : Tr Nat} {m p : Nat} (h : nBm ms m p = true) : p ≠ m ∧ ancM ms m p = false := by
  unfold nBm at h
  cases h1 : Nat.beq p m with
  | true => rw [h1] at h; cases h
  | false =>
    rw [h1] at h
    cases h2 : ancM ms m p with
    | true => rw [h2] at h; cases h
    | false => exact ⟨beq_ne h1, rfl⟩
theorem nBm_of {ms : Tr Nat} {m p : Nat} (h1 : p ≠ m) (h2 : ancM ms m p = false) : nBm ms m p = true := by
  unfold nBm
  rw [h2, show Nat.beq p m = false from by rw [Bool.eq_false_iff]; exact fun e => h1 (Nat.eq_of_beq_eq_true e)]
  rfl
noncomputable def panS (ops : Array Oper) (ms : Tr Nat) (m : Nat) (om : Oper) : List Oper → Nat → Bool
  | [], _ => true
  | o :: r, p => cond (nBm ms m p) (cond (edgesIn (nBm ms m) o.after.toList) (cond (ancM ms p m) (panS ops ms m om r (Nat.succ p)) (cond (o.apart ops om) (cond (Nat.beq (clsO o) 3) false (panS ops ms m om r (Nat.succ p))) false)) false) (panS ops ms m om r (Nat.succ p))
theorem panS_ok {ops : Array Oper} {ms : Tr Nat} {m : Nat} {om : Oper} : ∀ {l : List Oper} {p : Nat}, panS ops ms m om l p = true → ∀ (j : Nat) (o : Oper), l[j]? = some o → nBm ms m (p + j) = true → (∀ e ∈ o.after, Region.binds .any e = true → nBm ms m e.on = true) ∧ (ancM ms (p + j) m = false → o.apart ops om = true ∧ clsO o ≠ 3)
  | [], _, _, j, o, hj, _ => by simp at hj
  | x :: l, p, h, j, o, hj, hn => by
    unfold panS at h
    cases j with
    | zero =>
      simp at hj
      subst hj
      rw [Nat.add_zero] at hn ⊢
      rw [hn] at h
      obtain ⟨h1, h2⟩ := cond_ff h
      refine ⟨fun e he => edgesIn_ok h1 e (by simpa using he), fun ha => ?_⟩
      rw [ha] at h2
      obtain ⟨h3, h4⟩ := cond_ff h2
      cases h5 : Nat.beq (clsO x) 3 with
      | true => rw [h5] at h4; cases h4
      | false => exact ⟨h3, beq_ne h5⟩
    | succ j =>
      have hrec : panS ops ms m om l (p + 1) = true := by
        cases hb : nBm ms m p with
        | false => rw [hb] at h; exact h
        | true =>
          rw [hb] at h
          obtain ⟨_, h2⟩ := cond_ff h
          cases ha : ancM ms p m with
          | true => rw [ha] at h2; exact h2
          | false =>
            rw [ha] at h2
            obtain ⟨_, h4⟩ := cond_ff h2
            cases h5 : Nat.beq (clsO x) 3 with
            | true => rw [h5] at h4; cases h4
            | false => rw [h5] at h4; exact h4
      have := panS_ok hrec j o (by simpa using hj) (by rw [show p + 1 + j = p + (j + 1) by omega]; exact hn)
      rw [show p + 1 + j = p + (j + 1) by omega] at this
      exact this
noncomputable def stepsN (P : Program) (call : Nat → List AV → AS → Option (AV × AS)) (nt : Nat) (ops : Array Oper) (base : Nat) (ms : Tr Nat) (m : Nat) : List Oper → Nat → DC → Option DC
  | [], _, c => some c
  | o :: r, i, c => cond (nBm ms m i) (match stepC P call nt ops base ms i o c with
    | some c' => stepsN P call nt ops base ms m r (Nat.succ i) c'
    | none => none) (stepsN P call nt ops base ms m r (Nat.succ i) c)
theorem stepsN_ok [Tab] {P : Program} {call : Nat → List AV → AS → Option (AV × AS)} {nt : Nat} {ops : Array Oper} {base : Nat} (hb : base + ops.size ≤ 1000000000) {ms : Tr Nat} {m : Nat} : ∀ (l : List Oper) (i : Nat) (c c' : DC) (d : DS), (∀ j o, l[j]? = some o → ops[i + j]? = some o) → RelC c d → stepsN P call nt ops base ms m l i c = some c' →
    ∃ d', Chain P call nt ops base (ancM ms) (specB ops ms) ((List.range' i l.length).filter (nBm ms m)) d d' ∧ RelC c' d'
  | [], i, c, c', d, _, hr, hs => by
    injection hs with hs
    subst hs
    exact ⟨d, rfl, hr⟩
  | o :: l, i, c, c', d, hops, hr, hs => by
    have hops' : ∀ j o', l[j]? = some o' → ops[i + 1 + j]? = some o' := fun j o' hj => by have := hops (j + 1) o' (by simpa using hj); rwa [show i + 1 + j = i + (j + 1) by omega]
    rw [List.length_cons, List.range'_succ]
    unfold stepsN at hs
    cases hn : nBm ms m i with
    | false =>
      rw [hn] at hs
      rw [List.filter_cons_of_neg (by rw [hn]; intro e; cases e)]
      exact stepsN_ok hb l (i + 1) c c' d hops' hr hs
    | true =>
      rw [hn] at hs
      simp only [cond_true] at hs
      rw [List.filter_cons_of_pos hn]
      split at hs
      · rename_i c1 h1
        obtain ⟨d1, q1, q2⟩ := stepC_ok hb (hops 0 o rfl) hr h1
        obtain ⟨d', q3, q4⟩ := stepsN_ok hb l (i + 1) c1 c' d1 hops' q2 hs
        exact ⟨d', ⟨d1, q1, q3⟩, q4⟩
      · cases hs
/-- A call of a function. -/
noncomputable def fnCall (o : Oper) : Option Call := match o.op with
  | .call c => match c.callee with
    | .value _ => some c
    | _ => none
  | _ => none
theorem fnCall_ok {o : Oper} {c : Call} (h : fnCall o = some c) : o.op = .call c ∧ ∃ f, c.callee = .value f := by
  unfold fnCall at h
  split at h
  · rename_i c' hc
    split at h
    · rename_i f hf
      injection h with h
      subst h
      exact ⟨hc, f, hf⟩
    · cases h
  · cases h
inductive GR where
  | fin (c : DC)
  | pan (m : Nat) (u : Value) (g : AS)
noncomputable def stepsG (P : Program) (call : Nat → List AV → AS → Option (AV × AS)) (nt : Nat) (ops : Array Oper) (base : Nat) (ms : Tr Nat) : List Oper → Nat → DC → Option GR
  | [], _, c => some (.fin c)
  | o :: r, i, c => match fnCall o with
    | none => match stepC P call nt ops base ms i o c with
      | some c' => stepsG P call nt ops base ms r (Nat.succ i) c'
      | none => none
    | some cl => match wantF ops o c.t with
      | some true => match callA P call cl (oevF c.t) (preA base (fun k => ancM ms k i) c.x ops.size c.g) with
        | none => none
        | some q => match q.1 with
          | .pan u => cond (panS ops ms i o ops.toList 0) (match stepsN P call nt ops base ms i r (Nat.succ i) c with
            | some _ => some (.pan i u q.2)
            | none => none) none
          | v => cond (specB ops ms i) none (cond (rdsB ms i q.2 c.rds) (match putF nt c.t o.dst v with
            | some t => stepsG P call nt ops base ms r (Nat.succ i) ⟨t, q.2, fun k => cond (ancM ms k i) .none (c.x k), (i, c.g) :: c.hist, c.rds, c.st⟩
            | none => none) none)
      | _ => match stepC P call nt ops base ms i o c with
        | some c' => stepsG P call nt ops base ms r (Nat.succ i) c'
        | none => none
/-- What it comes to. -/
noncomputable def GS (P : Program) (call : Nat → List AV → AS → Option (AV × AS)) (nt : Nat) (ops : Array Oper) (base : Nat) (ms : Tr Nat) (l : List Oper) (i : Nat) (c : DC) (x : GR) : Prop := match x with
  | .fin c' => stepsC P call nt ops base ms l i c = some c'
  | .pan m u g => i ≤ m ∧ m < i + l.length ∧ ∃ om cm cF, l[m - i]? = some om ∧ panS ops ms m om ops.toList 0 = true ∧ stepsC P call nt ops base ms (l.take (m - i)) i c = some cm ∧ wantF ops om cm.t = some true ∧ panO call om (oevF cm.t) (preA base (fun k => ancM ms k m) cm.x ops.size cm.g) = some (u, g) ∧ stepsN P call nt ops base ms m (l.drop (m - i + 1)) (m + 1) cm = some cF
theorem GS.cons {P : Program} {call : Nat → List AV → AS → Option (AV × AS)} {nt : Nat} {ops : Array Oper} {base : Nat} {ms : Tr Nat} {o : Oper} {l : List Oper} {i : Nat} {c c1 : DC} {x : GR} (h1 : stepC P call nt ops base ms i o c = some c1) (h : GS P call nt ops base ms l (i + 1) c1 x) : GS P call nt ops base ms (o :: l) i c x := by
  cases x with
  | fin c' =>
    show stepsC P call nt ops base ms (o :: l) i c = some c'
    unfold stepsC
    rw [h1]
    exact h
  | pan m u g =>
    obtain ⟨q1, q2, om, cm, cF, q3, q4, q5, q6, q7, q8⟩ := h
    have e : m - i = (m - (i + 1)) + 1 := by omega
    refine ⟨by omega, by simp at q2 ⊢; omega, om, cm, cF, by rw [e]; simpa using q3, q4, ?_, q6, q7, by rw [e]; simpa using q8⟩
    rw [e, List.take_succ_cons]
    unfold stepsC
    rw [h1]
    exact q5
theorem pan_of_call {P : Program} {call : Nat → List AV → AS → Option (AV × AS)} {o : Oper} {c : Call} {f : Operand} (ho : o.op = .call c) (hf : c.callee = .value f) {ev : Operand → AV} {s s' : AS} {u : Value} (h : callA P call c ev s = some (.pan u, s')) : panO call o ev s = some (u, s') := by
  unfold callA at h
  rw [hf] at h
  dsimp only at h
  unfold panO
  rw [ho]
  dsimp only
  unfold panA
  rw [hf]
  dsimp only
  split at h
  · rw [h]
    rfl
  · rw [h]
    rfl
  · cases h
theorem stepsG_ok [Tab] {P : Program} {call : Nat → List AV → AS → Option (AV × AS)} {nt : Nat} {ops : Array Oper} {base : Nat} {ms : Tr Nat} : ∀ (l : List Oper) (i : Nat) (c : DC) (x : GR), stepsG P call nt ops base ms l i c = some x → GS P call nt ops base ms l i c x
  | [], i, c, x, h => by
    injection h with h
    subst h
    rfl
  | o :: l, i, c, x, h => by
    unfold stepsG at h
    split at h
    · split at h
      · rename_i c1 h1
        exact GS.cons h1 (stepsG_ok l (i + 1) c1 x h)
      · cases h
    · rename_i cl hcl
      obtain ⟨hop, f, hf⟩ := fnCall_ok hcl
      have hcls : clsO o = 3 := by
        unfold clsO
        rw [hop]
        dsimp only
        rw [hf]
      split at h
      · rename_i hw
        split at h
        · cases h
        · rename_i q hq
          split at h
          · rename_i u hu
            obtain ⟨v, g⟩ := q
            dsimp only at hu
            subst hu
            cases hp : panS ops ms i o ops.toList 0 with
            | false => rw [hp] at h; cases h
            | true =>
              rw [hp] at h
              simp only [cond_true] at h
              split at h
              · rename_i cF hN
                injection h with h
                subst h
                refine ⟨Nat.le_refl _, by simp, o, c, cF, by rw [Nat.sub_self]; rfl, hp, by rw [Nat.sub_self]; rfl, hw, pan_of_call hop hf hq, by rw [Nat.sub_self]; simpa using hN⟩
              · cases h
          · rename_i hnp
            cases hs : specB ops ms i with
            | true => rw [hs] at h; cases h
            | false =>
              rw [hs] at h
              simp only [cond_false] at h
              cases hr : rdsB ms i q.2 c.rds with
              | false => rw [hr] at h; cases h
              | true =>
                rw [hr] at h
                simp only [cond_true] at h
                split at h
                · rename_i t hp
                  refine GS.cons ?_ (stepsG_ok l (i + 1) _ x h)
                  have hev : evOp P call o (oevF c.t) (preA base (fun k => ancM ms k i) c.x ops.size c.g) = some q := by
                    unfold evOp
                    rw [hop]
                    dsimp only
                    rw [hq]
                    obtain ⟨v, g⟩ := q
                    cases v <;> first
                      | rfl
                      | exact (hnp _ rfl).elim
                  unfold stepC
                  rw [hw]
                  try dsimp only
                  rw [hcls]
                  try dsimp only
                  rw [hs]
                  simp only [cond_false]
                  rw [hev]
                  try dsimp only
                  rw [hr]
                  simp only [cond_true]
                  rw [hp]
                · cases h
      · split at h
        · rename_i c1 h1
          exact GS.cons h1 (stepsG_ok l (i + 1) c1 x h)
        · cases h
theorem Chain.app {P : Program} {call : Nat → List AV → AS → Option (AV × AS)} {nt : Nat} {ops : Array Oper} {base : Nat} {anc : Nat → Nat → Bool} {sB : Nat → Bool} : ∀ (l1 : List Nat) {l2 : List Nat} {d d1 d2 : DS}, Chain P call nt ops base anc sB l1 d d1 → Chain P call nt ops base anc sB l2 d1 d2 → Chain P call nt ops base anc sB (l1 ++ l2) d d2
  | [], _, _, _, _, h, g => by cases h; exact g
  | i :: l1, _, _, _, _, h, g => by
    obtain ⟨d', q1, q2⟩ := h
    exact ⟨d', q1, Chain.app l1 q2 g⟩
noncomputable def drawG (P : Program) (call : Nat → List AV → AS → Option (AV × AS)) (nt : Nat) (ops : Array Oper) (f : Nat → AV) (s : AS) : Option GR :=
  cond (statB ops) (cond (Nat.ble (Nat.add s.n ops.size) 1000000000) (stepsG P call nt ops s.n (masksT ops.toList 0 .leaf) ops.toList 0 ⟨f, ⟨s.h, Nat.add s.n ops.size⟩, fun _ => .none, [], [], []⟩) none) none
theorem drawG_fin [Tab] {P : Program} {call : Nat → List AV → AS → Option (AV × AS)} {nt : Nat} {ops : Array Oper} {f : Nat → AV} {s : AS} {c : DC} (h : drawG P call nt ops f s = some (.fin c)) : drawF P call nt ops f s = some (c.t, preA s.n allP c.x ops.size c.g) := by
  unfold drawG at h
  unfold drawF
  cases h1 : statB ops with
  | false => rw [h1] at h; cases h
  | true =>
  cases h2 : Nat.ble (Nat.add s.n ops.size) 1000000000 with
  | false => rw [h1, h2] at h; cases h
  | true =>
    rw [h1, h2] at h
    simp only [cond_true] at h ⊢
    have := stepsG_ok _ _ _ _ h
    rw [show stepsC P call nt ops s.n (masksT ops.toList 0 .leaf) ops.toList 0 ⟨f, ⟨s.h, Nat.add s.n ops.size⟩, fun _ => .none, [], [], []⟩ = some c from this]
theorem drawG_pan [Tab] {P : Program} (hm : P.follows .mixedOrders = true) {call : Nat → List AV → AS → Option (AV × AS)} (hc : CallOK P call) {nt id : Nat} {ops : Array Oper} {f : Nat → AV} {s s' : AS} {m : Nat} {u : Value} (he : drawG P call nt ops f s = some (.pan m u s')) {E : AEnv} {a : Act} {w : World} (ht : TR E nt f a) (h : HR E s.get w) (hf : Fresh E s.n) :
    (Code.region id ops true).wp P (Post E nt a s w (.panic u) .leaf s') a w := by
  unfold drawG at he
  cases h1 : statB ops with
  | false => rw [h1] at he; cases he
  | true =>
  cases h2 : Nat.ble (Nat.add s.n ops.size) 1000000000 with
  | false => rw [h1, h2] at he; cases he
  | true =>
    rw [h1, h2] at he
    simp only [cond_true] at he
    obtain ⟨hn, hst⟩ := statB_ok h1
    have hb : s.n + ops.size ≤ 1000000000 := Nat.le_of_ble_eq_true h2
    obtain ⟨_, q2, om, cm, cF, q3, q4, q5, q6, q7, q8⟩ := stepsG_ok _ _ _ _ he
    rw [Nat.sub_zero] at q3 q5 q8
    rw [Nat.zero_add, Array.length_toList] at q2
    have hom : ops[m]? = some om := by simpa using q3
    let d0 : DS := ⟨f, ⟨s.h, s.n + ops.size⟩, fun _ => .none, fun _ _ => False, fun _ _ => True, fun _ _ => False⟩
    obtain ⟨dm, c1, r1⟩ := stepsC_ok hb (ops.toList.take m) 0 _ cm d0 (fun j o hj => by
      rw [Nat.zero_add]
      rw [List.getElem?_take] at hj
      split at hj
      · simpa using hj
      · cases hj) ⟨rfl, rfl, rfl, fun _ _ h => h.elim, fun _ _ _ => trivial, fun _ _ h => h.elim⟩ q5
    obtain ⟨dF, c2, r2⟩ := stepsN_ok hb (m := m) (ops.toList.drop (m + 1)) (m + 1) cm cF dm (fun j o hj => by
      rw [List.getElem?_drop] at hj
      simpa using hj) r1 q8
    have hlen1 : (ops.toList.take m).length = m := by simp; omega
    rw [hlen1] at c1
    have hpm : PanD call ops s.n (ancM (masksT ops.toList 0 .leaf)) m dm u s' := ⟨om, hom, by rw [r1.t]; exact q6, by rw [r1.t, r1.x, r1.g]; exact q7⟩
    -- what is static
    have hS : ∀ (p : Nat) (o : Oper), ops[p]? = some o → nBm (masksT ops.toList 0 .leaf) m p = true → (∀ e ∈ o.after, Region.binds .any e = true → nBm (masksT ops.toList 0 .leaf) m e.on = true) ∧ (ancM (masksT ops.toList 0 .leaf) p m = false → o.apart ops om = true ∧ clsO o ≠ 3) := fun p o ho hnb => by
      have := panS_ok q4 p o (by simpa using ho) (by rw [Nat.zero_add]; exact hnb)
      rwa [Nat.zero_add] at this
    have hfwd : ∀ (R : List Nat) (d e : DS), (∀ p ∈ R, m < p ∧ p < ops.size ∧ nBm (masksT ops.toList 0 .leaf) m p = true) → Chain P call nt ops s.n (ancM (masksT ops.toList 0 .leaf)) (specB ops (masksT ops.toList 0 .leaf)) R d e → PanD call ops s.n (ancM (masksT ops.toList 0 .leaf)) m d u s' → PanD call ops s.n (ancM (masksT ops.toList 0 .leaf)) m e u s' := by
      intro R
      induction R with
      | nil => intro d e _ hch hp; cases hch; exact hp
      | cons p R ih =>
        intro d e hR hch hp
        obtain ⟨d1, s1, s2⟩ := hch
        obtain ⟨g1, g2, g3⟩ := hR p (by simp)
        have ha : ancM (masksT ops.toList 0 .leaf) p m = false := by
          cases hh : ancM (masksT ops.toList 0 .leaf) p m with
          | false => rfl
          | true => have := hst.lt p m hh; omega
        obtain ⟨x1, x2⟩ := (hS p ops[p] (Array.getElem?_eq_getElem g2) g3).2 ha
        exact ih d1 e (fun q hq => hR q (by simp [hq])) s2 ((PanD.step (Array.getElem?_eq_getElem g2) hom ha x1 x2 (hst.spec p _ (Array.getElem?_eq_getElem g2)) s1).2 hp)
    have hlen2 : (ops.toList.drop (m + 1)).length = ops.size - (m + 1) := by simp
    rw [hlen2] at c2
    have hpF := hfwd _ dm dF (fun p hp => by
      obtain ⟨g1, g2⟩ := List.mem_filter.1 hp
      rw [List.mem_range'_1] at g1
      exact ⟨by omega, by omega, g2⟩) c2 hpm
    have hx0 : ∀ b, xOf s.n ops.size allP (fun _ => AB.none) b = .none := fun b => by unfold xOf; split <;> rfl
    have hov : ov (AS.get ⟨s.h, s.n + ops.size⟩) (xOf s.n ops.size allP fun _ => .none) = s.get := funext fun b => ov_none (hx0 b)
    have hmem : ∀ k, k ∈ List.range' 0 m ++ (List.range' (m + 1) (ops.size - (m + 1))).filter (nBm (masksT ops.toList 0 .leaf) m) ↔ k < ops.size ∧ nBm (masksT ops.toList 0 .leaf) m k = true := by
      intro k
      rw [List.mem_append, List.mem_filter, List.mem_range'_1, List.mem_range'_1]
      constructor
      · rintro (⟨_, g⟩ | ⟨⟨g1, g2⟩, g3⟩)
        · refine ⟨by omega, nBm_of (by omega) ?_⟩
          cases hh : ancM (masksT ops.toList 0 .leaf) m k with
          | false => rfl
          | true => have := hst.lt m k hh; omega
        · exact ⟨by omega, g3⟩
      · rintro ⟨g1, g2⟩
        have := (nBm_true g2).1
        rcases Nat.lt_or_ge k m with g | g
        · exact .inl ⟨by omega, by omega⟩
        · exact .inr ⟨⟨by omega, by omega⟩, g2⟩
    refine wp_region_any hm (anyP_ok hc hst (E0 := E) (g0 := s.get) (w0 := w) (a0 := a) (nt := nt) (base := s.n) (dF := dF) (nB := nBm (masksT ops.toList 0 .leaf) m) hom ?_ (fun e he hb => ?_) (fun p o ho hnb => (hS p o ho hnb).1) (fun p hp hnb hne => ?_) (fun p o ho hnb => (hS p o ho hnb).2) hpF (fun E' a' w' g1 g2 g3 g4 g5 g6 g7 => ?_) ops.size (List.range' 0 m ++ (List.range' (m + 1) (ops.size - (m + 1))).filter (nBm (masksT ops.toList 0 .leaf) m)) (Array.replicate ops.size false) d0 E a w.drew ?_ (by simp) (fun k => ?_) (fun k hk _ => ?_) (fun i o ho hl => ?_) ?_ ?_ (c1.app _ c2))
    · unfold nBm
      rw [show Nat.beq m m = true from Nat.beq_refl m]
      rfl
    · have hlt := hst.dep m om hom e he hb
      refine nBm_of (by omega) ?_
      cases hh : ancM (masksT ops.toList 0 .leaf) m e.on with
      | false => rfl
      | true => have := hst.lt m _ hh; omega
    · cases hh : ancM (masksT ops.toList 0 .leaf) m p with
      | true => rfl
      | false => rw [nBm_of hne hh] at hnb; cases hnb
    · exact ⟨rfl, E', ⟨g5, g6, fun k => by show VR E' ((Tr.leaf).get .top k) _; rw [Tr.get_leaf]; exact .top _⟩, g1, g2, ⟨g3, g4⟩, g7⟩
    · refine ⟨ht, by show HR E (ov (AS.get ⟨s.h, s.n + ops.size⟩) (xOf s.n ops.size allP fun _ => .none)) w.drew; rw [hov]; exact h.drew, Nat.le_refl _, hb, fun b hb => Nat.lt_of_lt_of_le (hf b hb) (Nat.le_add_right _ _), fun k hk => ⟨((hmem k).1 hk).1, fun hok => by have := hf _ hok; omega, rfl⟩, fun b hb => absurd (hx0 b) hb, by show Stp E s.get w E (ov (AS.get ⟨s.h, s.n + ops.size⟩) (xOf s.n ops.size allP fun _ => .none)) w.drew; rw [hov]; exact Stp.drew E s.get w, fun b hb => .inl hb, rfl⟩
    · rw [hmem]
      constructor
      · rintro ⟨g1, g2⟩
        exact ⟨g1, by simp [g1], g2⟩
      · rintro ⟨g1, _, g2⟩
        exact ⟨g1, g2⟩
    · simp [hk]
    · have hi := (Array.getElem?_eq_some_iff.1 ho).1
      simp [hi] at hl
    · refine List.pairwise_append.2 ⟨List.pairwise_lt_range' .., (List.pairwise_lt_range' ..).filter _, fun p hp q hq => ?_⟩
      rw [List.mem_range'_1] at hp
      have := (List.mem_filter.1 hq).1
      rw [List.mem_range'_1] at this
      omega
    · have h3 := List.length_filter_le (nBm (masksT ops.toList 0 .leaf) m) (List.range' (m + 1) (ops.size - (m + 1)))
      rw [List.length_range'] at h3
      rw [List.length_append, List.length_range']
      omega
/-- A drawn region, panic or not. -/
noncomputable def drawX (P : Program) (call : Nat → List AV → AS → Option (AV × AS)) (nt : Nat) (ops : Array Oper) (t : Tr AV) (s : AS) : Option (Ex × Tr AV × AS) := match drawG P call nt ops (t.get .top) s with
  | none => none
  | some (.fin c) => match wbT nt c.t ops.toList t with
    | some t' => some (.normal, t', preA s.n allP c.x ops.size c.g)
    | none => none
  | some (.pan _ u g) => some (.panic u, .leaf, g)
theorem drawX_ok [Tab] {P : Program} (hm : P.follows .mixedOrders = true) {call : Nat → List AV → AS → Option (AV × AS)} (hc : CallOK P call) {nt id : Nat} {ops : Array Oper} {t : Tr AV} {s : AS} {e : Ex} {t' : Tr AV} {s' : AS} (he : drawX P call nt ops t s = some (e, t', s')) {E : AEnv} {a : Act} {w : World} (ht : TR E nt (t.get .top) a) (h : HR E s.get w) (hf : Fresh E s.n) :
    (Code.region id ops true).wp P (Post E nt a s w e t' s') a w := by
  unfold drawX at he
  split at he
  · cases he
  · rename_i c hg
    split at he
    · rename_i t1 hw
      injection he with he
      injection he with e1 e2
      injection e2 with e2 e3
      subst e1
      subst e2
      subst e3
      refine drawA_ok hm hc ?_ ht h hf
      unfold drawA
      rw [drawG_fin hg]
      dsimp only
      rw [hw]
    · cases he
  · rename_i m u g hg
    injection he with he
    injection he with e1 e2
    injection e2 with e2 e3
    subst e1
    subst e2
    subst e3
    exact drawG_pan hm hc hg ht h hf
end Go.Proofs.YtambgppdjlhdaaaGreatDoor
