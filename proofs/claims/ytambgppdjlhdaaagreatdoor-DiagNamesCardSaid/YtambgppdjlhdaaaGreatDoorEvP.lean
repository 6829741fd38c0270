/-
  The abstract machine: every order of a drawn region; the region as it is reckoned. No program.
-/
import Derived.Test.YtambgppdjlhdaaaGreatDoorEvO
namespace Go.Proofs.YtambgppdjlhdaaaGreatDoor
open Go.RowKit

/-- A row of operations. -/
noncomputable def Chain (P : Program) (call : Nat → List AV → AS → Option (AV × AS)) (nt : Nat) (ops : Array Oper) (base : Nat) (anc : Nat → Nat → Bool) (sB : Nat → Bool) : List Nat → DS → DS → Prop
  | [], d, e => d = e
  | i :: r, d, e => ∃ d1, StepD P call nt ops base anc sB i d d1 ∧ Chain P call nt ops base anc sB r d1 e
theorem Chain.front [Tab] {P : Program} {call : Nat → List AV → AS → Option (AV × AS)} {nt : Nat} {ops : Array Oper} {base : Nat} {anc : Nat → Nat → Bool} {sB : Nat → Bool} {i : Nat} {oi : Oper} (hs3 : ∀ j o, ops[j]? = some o → sB j = true → clsO o = 3) (hoi : ops[i]? = some oi) {l2 : List Nat} {e : DS} : ∀ (l1 : List Nat) (d : DS),
    (∀ p ∈ l1, p ≠ i ∧ anc p i = false ∧ anc i p = false ∧ ∃ op, ops[p]? = some op ∧ op.apart ops oi = true ∧ (clsO op ≠ 3 ∨ clsO oi ≠ 3 ∨ (sB p = true ∧ sB i = true)) ∧ (sB p = true → clsO oi ≠ 1) ∧ (sB i = true → clsO op ≠ 1)) → Chain P call nt ops base anc sB (l1 ++ i :: l2) d e → ∃ d1, StepD P call nt ops base anc sB i d d1 ∧ Chain P call nt ops base anc sB (l1 ++ l2) d1 e
  | [], d, _, h => h
  | p :: l1, d, hl, h => by
    obtain ⟨dp, h1, h2⟩ := h
    obtain ⟨d1, h3, h4⟩ := Chain.front hs3 hoi l1 dp (fun q hq => hl q (by simp [hq])) h2
    obtain ⟨g1, g2, g3, op, g4, g5, g6, g7, g8⟩ := hl p (by simp)
    obtain ⟨d1', q1, q2⟩ := StepD.swap g4 hoi g1 g2 g3 g5 g6 g7 g8 hs3 h1 h3
    exact ⟨d1', q1, d1, q2, h4⟩
/-- Who must come up ahead. -/
inductive AncR (ops : Array Oper) : Nat → Nat → Prop
  | dep (i : Nat) (o : Oper) (e : Edge) (ho : ops[i]? = some o) (he : e ∈ o.after) (hb : Region.binds .any e = true) : AncR ops e.on i
  | more (i : Nat) (o : Oper) (e : Edge) (ho : ops[i]? = some o) (he : e ∈ o.after) (hb : Region.binds .any e = true) (j : Nat) (h : AncR ops j e.on) : AncR ops j i
/-- What is asked of a region's text. -/
structure StatOK (ops : Array Oper) (anc : Nat → Nat → Bool) (sB : Nat → Bool) : Prop where
  dep : ∀ (i : Nat) (o : Oper), ops[i]? = some o → ∀ e ∈ o.after, Region.binds .any e = true → e.on < i
  lt : ∀ e i, anc e i = true → e < i
  up : ∀ e i, anc e i = true → AncR ops e i
  pair : ∀ (p i : Nat) (op oi : Oper), p < i → ops[p]? = some op → ops[i]? = some oi → anc p i = false → op.apart ops oi = true ∧ (clsO op ≠ 3 ∨ clsO oi ≠ 3 ∨ (sB p = true ∧ sB i = true)) ∧ (sB p = true → clsO oi ≠ 1) ∧ (sB i = true → clsO op ≠ 1)
  spec : ∀ (j : Nat) (o : Oper), ops[j]? = some o → sB j = true → clsO o = 3
noncomputable def DownC (ops : Array Oper) (listed : Array Bool) : Prop := ∀ (i : Nat) (o : Oper), ops[i]? = some o → listed.getD i true = true → ∀ e ∈ o.after, Region.binds .any e = true → listed.getD e.on false = true
theorem getD_tf {l : Array Bool} {i : Nat} (h : l.getD i false = true) : l.getD i true = true := by
  by_cases hi : i < l.size
  · simp [hi] at h ⊢; exact h
  · simp [Array.getElem?_eq_none (Nat.le_of_not_lt hi)] at h
theorem AncR.listed [Tab] {ops : Array Oper} {listed : Array Bool} (hd : DownC ops listed) {j i : Nat} (h : AncR ops j i) : (∀ o, ops[i]? = some o → ∀ e ∈ o.after, Region.binds .any e = true → listed.getD e.on false = true) → listed.getD j false = true := by
  induction h with
  | dep i o e ho he hb => intro hi; exact hi o ho e he hb
  | more i o e ho he hb j h ih =>
    intro hi
    exact ih fun o' ho' e' he' hb' => hd e.on o' ho' (getD_tf (hi o ho e he hb)) e' he' hb'
theorem any_ok [Tab] {P : Program} {call : Nat → List AV → AS → Option (AV × AS)} (hc : CallOK P call) {ops : Array Oper} {anc : Nat → Nat → Bool} {sB : Nat → Bool} (hst : StatOK ops anc sB) {E0 : AEnv} {g0 : Nat → AB} {w0 : World} {a0 : Act} {nt base : Nat} {Q : Exit → Act → World → Prop} {dF : DS}
    (hQ : ∀ E a w, InvD E0 g0 w0 a0 nt ops.size base [] dF E a w → Q .normal a w) : ∀ (fuel : Nat) (R : List Nat) (listed : Array Bool) (d : DS) (E : AEnv) (a : Act) (w : World), InvD E0 g0 w0 a0 nt ops.size base R d E a w →
    listed.size = ops.size → (∀ k, k ∈ R ↔ k < ops.size ∧ listed.getD k true = false) → DownC ops listed → R.Pairwise (· < ·) → R.length ≤ fuel → Chain P call nt ops base anc sB R d dF → wpAny P .any ops Q fuel listed a w := by
  intro fuel
  induction fuel with
  | zero =>
    intro R listed d E a w hI hsz hR hD hpw hlen hch
    have hR0 : R = [] := List.eq_nil_of_length_eq_zero (by omega)
    subst hR0
    cases hch
    refine ⟨?_, hQ E a w hI⟩
    rw [List.eq_nil_iff_forall_not_mem]
    intro i hi
    obtain ⟨h1, o, h2, _⟩ := mem_ready.1 hi
    have : i ∈ ([] : List Nat) := (hR i).2 ⟨(Array.getElem?_eq_some_iff.1 h2).1, h1⟩
    cases this
  | succ fuel ih =>
    intro R listed d E a w hI hsz hR hD hpw hlen hch
    refine ⟨fun h0 => ?_, fun i hi => ?_⟩
    · have hR0 : R = [] := by
        cases R with
        | nil => rfl
        | cons r R =>
          exfalso
          obtain ⟨hr1, hr2⟩ := (hR r).1 (by simp)
          have hready : r ∈ Region.ready .any ops listed := by
            refine mem_ready.2 ⟨hr2, ops[r], Array.getElem?_eq_getElem hr1, fun e he hb => ?_⟩
            have hlt := hst.dep r _ (Array.getElem?_eq_getElem hr1) e he hb
            cases hl : listed.getD e.on true with
            | true =>
              by_cases hi : e.on < listed.size
              · simp [hi] at hl ⊢; exact hl
              · omega
            | false =>
              have hm := (hR e.on).2 ⟨by omega, hl⟩
              rcases List.mem_cons.1 hm with h | h
              · omega
              · have := List.rel_of_pairwise_cons hpw h
                omega
          rw [h0] at hready
          cases hready
      subst hR0
      cases hch
      exact hQ E a w hI
    · obtain ⟨hun, oi, hoi, hall⟩ := mem_ready.1 hi
      have hiR : i ∈ R := (hR i).2 ⟨(Array.getElem?_eq_some_iff.1 hoi).1, hun⟩
      obtain ⟨l1, l2, rfl⟩ := List.append_of_mem hiR
      have hl1 : ∀ p ∈ l1, p < i := fun p hp => (List.pairwise_append.1 hpw).2.2 p hp i (by simp)
      have hl2 : ∀ p ∈ l2, i < p := fun p hp => List.rel_of_pairwise_cons (List.pairwise_append.1 hpw).2.1 hp
      obtain ⟨d1, hs, hch1⟩ := Chain.front hst.spec hoi l1 d (fun p hp => by
        obtain ⟨hp1, hp2⟩ := (hR p).1 (by simp [hp])
        have hpi := hl1 p hp
        have ha : anc p i = false := by
          cases h : anc p i with
          | false => rfl
          | true =>
            exfalso
            have := (hst.up p i h).listed hD (fun o ho e he hb => by rw [hoi] at ho; injection ho with ho; subst ho; exact hall e he hb)
            have := getD_tf this
            rw [hp2] at this
            cases this
        have hb : anc i p = false := by
          cases h : anc i p with
          | false => rfl
          | true => have := hst.lt i p h; omega
        obtain ⟨q1, q2⟩ := hst.pair p i _ oi hpi (Array.getElem?_eq_getElem hp1) hoi ha
        exact ⟨by omega, ha, hb, ops[p], Array.getElem?_eq_getElem hp1, q1, q2⟩) hch
      have hsub : ∀ k, k ∈ l1 ++ l2 → k ∈ l1 ++ i :: l2 ∧ k ≠ i := fun k hk => by
        rcases List.mem_append.1 hk with h | h
        · have := hl1 k h
          exact ⟨by simp [h], by omega⟩
        · have := hl2 k h
          exact ⟨by simp [h], by omega⟩
      refine step_wp hc hI hiR hsub hs fun E' a' w' hI' => ?_
      have hilt : i < listed.size := by rw [hsz]; exact (Array.getElem?_eq_some_iff.1 hoi).1
      have hset : ∀ (b : Bool) k, (listed.setIfInBounds i true).getD k b = if k = i then true else listed.getD k b := by
        intro b k
        by_cases e : k = i
        · subst e
          simp [Array.getElem?_setIfInBounds, hilt]
        · rw [if_neg e]
          simp [Array.getElem?_setIfInBounds, Ne.symm e]
      refine ih (l1 ++ l2) _ d1 E' a' w' hI' (by simpa using hsz) (fun k => ?_) (fun k o hk hl e he hb => ?_) ?_ (by simp at hlen ⊢; omega) hch1
      · rw [hset]
        constructor
        · intro hk
          obtain ⟨q1, q2⟩ := hsub k hk
          rw [if_neg q2]
          exact (hR k).1 q1
        · rintro ⟨q1, q2⟩
          by_cases e : k = i
          · rw [if_pos e] at q2; cases q2
          · rw [if_neg e] at q2
            have := (hR k).2 ⟨q1, q2⟩
            simp at this ⊢
            rcases this with h | h | h
            · exact .inl h
            · exact absurd h e
            · exact .inr h
      · rw [hset]
        split
        · rfl
        · rw [hset] at hl
          by_cases e2 : k = i
          · subst e2
            rw [hoi] at hk
            injection hk with hk
            subst hk
            exact hall e he hb
          · rw [if_neg e2] at hl
            exact hD k o hk hl e he hb
      · have h1 := List.pairwise_append.1 hpw
        exact List.pairwise_append.2 ⟨h1.1, (List.pairwise_cons.1 h1.2.1).2, fun p hp q hq => h1.2.2 p hp q (by simp [hq])⟩
end Go.Proofs.YtambgppdjlhdaaaGreatDoor
