/-
  The abstract machine: drawn regions, reckoned. No program.
-/
import Derived.Test.YtambgppdjlhdaaaGreatDoorEvP
namespace Go.Proofs.YtambgppdjlhdaaaGreatDoor
open Go.RowKit

noncomputable def maskE (ms : Tr Nat) : List Edge → Nat → Nat
  | [], s => s
  | e :: r, s => maskE ms r (cond (Region.binds .any e) (Nat.lor s (Nat.lor (Nat.shiftLeft 1 e.on) (ms.get 0 e.on))) s)
theorem maskE_bit [Tab] (ms : Tr Nat) {j : Nat} : ∀ (l : List Edge) (s : Nat), Nat.testBit (maskE ms l s) j = true → Nat.testBit s j = true ∨ ∃ e ∈ l, Region.binds .any e = true ∧ (e.on = j ∨ Nat.testBit (ms.get 0 e.on) j = true)
  | [], s, h => .inl h
  | e :: r, s, h => by
    rcases maskE_bit ms r _ h with h1 | ⟨e', h1, h2, h3⟩
    · cases hb : Region.binds .any e with
      | false => rw [hb] at h1; exact .inl h1
      | true =>
        rw [hb] at h1
        replace h1 : Nat.testBit (s ||| (1 <<< e.on ||| ms.get 0 e.on)) j = true := h1
        rw [Nat.testBit_or, Nat.testBit_or] at h1
        simp only [Bool.or_eq_true] at h1
        rcases h1 with h1 | h1 | h1
        · exact .inl h1
        · refine .inr ⟨e, by simp, hb, .inl ?_⟩
          rw [Nat.testBit_shiftLeft] at h1
          simp only [Bool.and_eq_true, decide_eq_true_eq] at h1
          have h7 := h1.2
          have h8 := h1.1
          cases hk : j - e.on with
          | zero => omega
          | succ k =>
            rw [hk, Nat.testBit_succ] at h7
            simp at h7
        · exact .inr ⟨e, by simp, hb, .inr h1⟩
    · exact .inr ⟨e', by simp [h1], h2, h3⟩
noncomputable def masksT : List Oper → Nat → Tr Nat → Tr Nat
  | [], _, ms => ms
  | o :: r, i, ms => masksT r (Nat.succ i) (ms.set 0 (maskE ms o.after.toList 0) 20 i)
theorem masksT_lt [Tab] : ∀ (l : List Oper) (i : Nat) (ms : Tr Nat) (j : Nat), j < i → (masksT l i ms).get 0 j = ms.get 0 j
  | [], _, _, _, _ => rfl
  | o :: r, i, ms, j, h => by
    rw [masksT, masksT_lt r (i + 1) _ j (by omega), Tr.get_set_ne _ _ _ _ _ _ (by omega)]
theorem masksT_at [Tab] : ∀ (l : List Oper) (i : Nat) (ms : Tr Nat) (j : Nat) (o : Oper), i + l.length ≤ 1000 → (∀ q, i ≤ q → ms.get 0 q = 0) → l[j]? = some o →
    ∃ ms' : Tr Nat, (masksT l i ms).get 0 (i + j) = maskE ms' o.after.toList 0 ∧ (∀ q, q < i + j → ms'.get 0 q = (masksT l i ms).get 0 q) ∧ (∀ q, i + j ≤ q → ms'.get 0 q = 0)
  | [], _, _, _, _, _, _, h => by simp at h
  | o' :: r, i, ms, 0, o, hl, h0, h => by
    simp at h
    subst h
    simp only [List.length_cons] at hl
    refine ⟨ms, ?_, fun q hq => ?_, fun q hq => h0 q hq⟩
    · rw [masksT, Nat.add_zero, masksT_lt r (i + 1) _ i (by omega), Tr.get_set _ _ _ _ _ (by omega)]
    · rw [masksT, masksT_lt r (i + 1) _ q (by omega), Tr.get_set_ne _ _ _ _ _ _ (by omega)]
  | o' :: r, i, ms, j + 1, o, hl, h0, h => by
    simp only [List.length_cons] at hl
    obtain ⟨ms', q1, q2, q3⟩ := masksT_at r (i + 1) (ms.set 0 (maskE ms o'.after.toList 0) 20 i) j o (by omega) (fun q hq => by rw [Tr.get_set_ne _ _ _ _ _ _ (by omega)]; exact h0 q (by omega)) (by simpa using h)
    refine ⟨ms', ?_, fun q hq => ?_, fun q hq => q3 q (by omega)⟩
    · rw [masksT, show i + (j + 1) = i + 1 + j by omega]; exact q1
    · rw [masksT]; exact q2 q (by omega)
noncomputable def ancM (ms : Tr Nat) (e i : Nat) : Bool := Nat.testBit (ms.get 0 i) e
noncomputable def depE : List Edge → Nat → Bool
  | [], _ => true
  | e :: r, i => cond (Region.binds .any e) (cond (Nat.ble (Nat.succ e.on) i) (depE r i) false) (depE r i)
/-- A store that some store or call has no order with. -/
noncomputable def storeO (o : Oper) : Bool := match o.op with
  | .store _ _ _ => true
  | _ => false
noncomputable def partB (ms : Tr Nat) (i : Nat) : List Oper → Nat → Bool
  | [], _ => false
  | op :: r, p => cond (cond (Nat.beq (clsO op) 3) (cond (Nat.beq p i) false (cond (ancM ms p i) false (cond (ancM ms i p) false true))) false) true (partB ms i r (Nat.succ p))
noncomputable def specB (ops : Array Oper) (ms : Tr Nat) (i : Nat) : Bool := match nthO ops.toList i with
  | some o => cond (storeO o) (partB ms i ops.toList 0) false
  | none => false
theorem specB_store [Tab] {ops : Array Oper} {ms : Tr Nat} {i : Nat} {o : Oper} (ho : ops[i]? = some o) (h : specB ops ms i = true) : ∃ t a v, o.op = .store t a v := by
  unfold specB at h
  rw [nthO_eq, Array.getElem?_toList, ho] at h
  dsimp only at h
  cases hs : storeO o with
  | false => rw [hs] at h; cases h
  | true =>
    unfold storeO at hs
    split at hs
    · exact ⟨_, _, _, by assumption⟩
    · cases hs
theorem specB_cls [Tab] {ops : Array Oper} {ms : Tr Nat} {i : Nat} {o : Oper} (ho : ops[i]? = some o) (h : specB ops ms i = true) : clsO o = 3 := by
  obtain ⟨t, a, v, e⟩ := specB_store ho h
  unfold clsO
  rw [e]
noncomputable def pairB (ops : Array Oper) (ms : Tr Nat) (i : Nat) (oi : Oper) : List Oper → Nat → Bool
  | [], _ => true
  | op :: r, p => cond (Nat.ble i p) true (cond (cond (ancM ms p i) true (cond (op.apart ops oi) (cond (Nat.beq (clsO op) 3) (cond (Nat.beq (clsO oi) 3) (cond (specB ops ms p) (specB ops ms i) false) (cond (specB ops ms p) (cond (Nat.beq (clsO oi) 1) false true) true)) (cond (specB ops ms i) (cond (Nat.beq (clsO op) 1) false true) true)) false)) (pairB ops ms i oi r (Nat.succ p)) false)
noncomputable def statL (ops : Array Oper) (ms : Tr Nat) : List Oper → Nat → Bool
  | [], _ => true
  | o :: r, i => cond (depE o.after.toList i) (cond (Nat.ble (Nat.succ (ms.get 0 i)) (Nat.pow 2 i)) (cond (pairB ops ms i o ops.toList 0) (statL ops ms r (Nat.succ i)) false) false) false
noncomputable def statB (ops : Array Oper) : Bool := cond (Nat.ble ops.toList.length 1000) (statL ops (masksT ops.toList 0 .leaf) ops.toList 0) false
theorem cond_ff {a b : Bool} (h : cond a b false = true) : a = true ∧ b = true := by cases a <;> simp_all
theorem depE_ok [Tab] {i : Nat} : ∀ (l : List Edge), depE l i = true → ∀ e ∈ l, Region.binds .any e = true → e.on < i
  | [], _, _, he, _ => by cases he
  | e :: r, h, e', he, hb => by
    unfold depE at h
    cases hbe : Region.binds .any e with
    | true =>
      rw [hbe] at h
      obtain ⟨h1, h2⟩ := cond_ff h
      rcases List.mem_cons.1 he with rfl | he
      · exact Nat.le_of_ble_eq_true h1
      · exact depE_ok r h2 e' he hb
    | false =>
      rw [hbe] at h
      rcases List.mem_cons.1 he with rfl | he
      · rw [hbe] at hb; cases hb
      · exact depE_ok r h e' he hb
theorem beq_ne {a b : Nat} (h : Nat.beq a b = false) : a ≠ b := fun e => by rw [e, show Nat.beq b b = true from Nat.beq_refl b] at h; cases h
theorem pairB_ok [Tab] {ops : Array Oper} {ms : Tr Nat} {i : Nat} {oi : Oper} (hoi : ops[i]? = some oi) : ∀ (l : List Oper) (p : Nat), pairB ops ms i oi l p = true → ∀ (j : Nat) (op : Oper), l[j]? = some op → ops[p + j]? = some op → p + j < i → ancM ms (p + j) i = false → op.apart ops oi = true ∧ (clsO op ≠ 3 ∨ clsO oi ≠ 3 ∨ (specB ops ms (p + j) = true ∧ specB ops ms i = true)) ∧ (specB ops ms (p + j) = true → clsO oi ≠ 1) ∧ (specB ops ms i = true → clsO op ≠ 1)
  | [], _, _, _, _, h, _, _, _ => by simp at h
  | o :: r, p, h, j, op, hj, hop, hlt, ha => by
    unfold pairB at h
    cases hb : Nat.ble i p with
    | true => have : i ≤ p := Nat.le_of_ble_eq_true hb; omega
    | false =>
      rw [hb] at h
      obtain ⟨h1, h2⟩ := cond_ff h
      cases j with
      | zero =>
        simp at hj
        subst hj
        rw [Nat.add_zero] at ha hop ⊢
        rw [ha] at h1
        obtain ⟨h3, h4⟩ := cond_ff h1
        refine ⟨h3, ?_⟩
        cases e1 : Nat.beq (clsO o) 3 with
        | false =>
          rw [e1] at h4
          simp only [cond_false] at h4
          refine ⟨.inl (beq_ne e1), fun hs => absurd (specB_cls hop hs) (beq_ne e1), fun hs => ?_⟩
          rw [hs] at h4
          simp only [cond_true] at h4
          cases e2 : Nat.beq (clsO o) 1 with
          | false => exact beq_ne e2
          | true => rw [e2] at h4; cases h4
        | true =>
          have e1' := Nat.eq_of_beq_eq_true e1
          rw [e1] at h4
          simp only [cond_true] at h4
          cases e2 : Nat.beq (clsO oi) 3 with
          | false =>
            rw [e2] at h4
            simp only [cond_false] at h4
            refine ⟨.inr (.inl (beq_ne e2)), fun hs => ?_, fun hs => by rw [e1']; decide⟩
            rw [hs] at h4
            simp only [cond_true] at h4
            cases e3 : Nat.beq (clsO oi) 1 with
            | false => exact beq_ne e3
            | true => rw [e3] at h4; cases h4
          | true =>
            have e2' := Nat.eq_of_beq_eq_true e2
            rw [e2] at h4
            simp only [cond_true] at h4
            obtain ⟨h5, h6⟩ := cond_ff h4
            exact ⟨.inr (.inr ⟨h5, h6⟩), fun _ => by rw [e2']; decide, fun _ => by rw [e1']; decide⟩
      | succ j =>
        have := pairB_ok hoi r (p + 1) h2 j op (by simpa using hj) (by rw [show p + 1 + j = p + (j + 1) by omega]; exact hop) (by omega) (by rw [show p + 1 + j = p + (j + 1) by omega]; exact ha)
        rwa [show p + 1 + j = p + (j + 1) by omega] at this
theorem statL_ok [Tab] {ops : Array Oper} {ms : Tr Nat} : ∀ (l : List Oper) (i : Nat), statL ops ms l i = true → ∀ (j : Nat) (o : Oper), l[j]? = some o → depE o.after.toList (i + j) = true ∧ ms.get 0 (i + j) < 2 ^ (i + j) ∧ pairB ops ms (i + j) o ops.toList 0 = true
  | [], _, _, _, _, h => by simp at h
  | o' :: r, i, h, j, o, hj => by
    unfold statL at h
    obtain ⟨h1, h2⟩ := cond_ff h
    obtain ⟨h3, h4⟩ := cond_ff h2
    obtain ⟨h5, h6⟩ := cond_ff h4
    cases j with
    | zero =>
      simp at hj
      subst hj
      exact ⟨h1, Nat.le_of_ble_eq_true h3, h5⟩
    | succ j =>
      have := statL_ok r (i + 1) h6 j o (by simpa using hj)
      rwa [show i + 1 + j = i + (j + 1) by omega] at this
theorem statB_ok [Tab] {ops : Array Oper} (h : statB ops = true) : ops.size ≤ 1000 ∧ StatOK ops (ancM (masksT ops.toList 0 .leaf)) (specB ops (masksT ops.toList 0 .leaf)) := by
  unfold statB at h
  obtain ⟨h1, h2⟩ := cond_ff h
  have hl : ops.toList.length ≤ 1000 := Nat.le_of_ble_eq_true h1
  have hs := statL_ok ops.toList 0 h2
  have hget : ∀ (i : Nat) (o : Oper), ops[i]? = some o → ops.toList[i]? = some o := fun i o ho => by rw [Array.getElem?_toList]; exact ho
  have hdep : ∀ (i : Nat) (o : Oper), ops[i]? = some o → ∀ e ∈ o.after, Region.binds .any e = true → e.on < i := fun i o ho e he hb => by
    have := (hs i o (hget i o ho)).1
    rw [Nat.zero_add] at this
    exact depE_ok _ this e (by simpa using he) hb
  have hbig : ∀ i, ops.size ≤ i → (masksT ops.toList 0 .leaf).get 0 i = 0 := by
    have : ∀ (l : List Oper) (k : Nat) (ms : Tr Nat) (i : Nat), k + l.length ≤ i → (masksT l k ms).get 0 i = ms.get 0 i := by
      intro l
      induction l with
      | nil => intro k ms i _; rfl
      | cons o r ih =>
        intro k ms i hi
        simp only [List.length_cons] at hi
        rw [masksT, ih (k + 1) _ i (by omega), Tr.get_set_ne _ _ _ _ _ _ (by omega)]
    intro i hi
    rw [this ops.toList 0 .leaf i (by simpa using hi)]
    rfl
  refine ⟨by simpa using hl, hdep, fun e i ha => ?_, fun e i => ?_, fun p i op oi hpi hp hi ha => ?_, fun j o ho hs => specB_cls ho hs⟩
  · rcases Nat.lt_or_ge i ops.size with hi | hi
    · have := (hs i _ (hget i _ (Array.getElem?_eq_getElem hi))).2.1
      rw [Nat.zero_add] at this
      rcases Nat.lt_or_ge e i with h | h
      · exact h
      · exfalso
        unfold ancM at ha
        rw [Nat.testBit_lt_two_pow (Nat.lt_of_lt_of_le this (Nat.pow_le_pow_right (by omega) h))] at ha
        cases ha
    · unfold ancM at ha
      rw [hbig i hi, Nat.zero_testBit] at ha
      cases ha
  · induction i using Nat.strongRecOn generalizing e with
    | _ i ih =>
      intro ha
      rcases Nat.lt_or_ge i ops.size with hi | hi
      · obtain ⟨ms', q1, q2, q3⟩ := masksT_at ops.toList 0 .leaf i ops[i] (by omega) (fun q _ => rfl) (hget i _ (Array.getElem?_eq_getElem hi))
        rw [Nat.zero_add] at q1 q2 q3
        unfold ancM at ha
        rw [q1] at ha
        rcases maskE_bit ms' _ _ ha with h3 | ⟨ed, h3, h4, h5⟩
        · rw [Nat.zero_testBit] at h3; cases h3
        · have hon := hdep i _ (Array.getElem?_eq_getElem hi) ed (by simpa using h3) h4
          rcases h5 with h5 | h5
          · rw [← h5]
            exact .dep i _ ed (Array.getElem?_eq_getElem hi) (by simpa using h3) h4
          · rw [q2 _ hon] at h5
            exact .more i _ ed (Array.getElem?_eq_getElem hi) (by simpa using h3) h4 e (ih ed.on hon e h5)
      · unfold ancM at ha
        rw [hbig i hi, Nat.zero_testBit] at ha
        cases ha
  · have := (hs i oi (hget i oi hi)).2.2
    rw [Nat.zero_add] at this
    have := pairB_ok hi ops.toList 0 this p op (hget p op hp) (by rw [Nat.zero_add]; exact hp) (by omega) (by rw [Nat.zero_add]; exact ha)
    rwa [Nat.zero_add] at this
end Go.Proofs.YtambgppdjlhdaaaGreatDoor
