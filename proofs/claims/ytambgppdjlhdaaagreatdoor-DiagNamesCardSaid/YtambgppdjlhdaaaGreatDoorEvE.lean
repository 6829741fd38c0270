/-
  The abstract machine's operations: comparisons, conversions, places, slices. No program.
-/
import Derived.Test.YtambgppdjlhdaaaGreatDoorEvD
namespace Go.Proofs.YtambgppdjlhdaaaGreatDoor
open Go.RowKit

noncomputable def plainPair : Value → Value → Bool
  | .int _ _, .int _ _ => false
  | .float _ _, .float _ _ => false
  | .complex _ _ _, .complex _ _ _ => false
  | .string _, .string _ => false
  | _, _ => true
theorem binOp_eql {t : Nat} {x y : Value} (h : plainPair x y = true) : binOp .eql t x y = (Op.equal t x y >>= fun r => pure (.bool r)) := by
  cases x <;> cases y <;> first | rfl | cases h
theorem binOp_neq {t : Nat} {x y : Value} (h : plainPair x y = true) : binOp .neq t x y = (Op.equal t x y >>= fun r => pure (.bool (!r))) := by
  cases x <;> cases y <;> first | rfl | cases h
noncomputable def plainA : AV → AV → Bool
  | .int _ _, _ => false
  | .str _, _ => false
  | .top, _ => false
  | .symI _ _ _ _, _ => false
  | .symS _, _ => false
  | .symT _ _ _, _ => false
  | .symZ _, _ => false
  | _, _ => true
theorem plainA_ok {a b : AV} {x y : Value} {E : AEnv} (ha : VR E a x) (h : plainA a b = true) : plainPair x y = true := by
  cases ha <;> first | (cases h; done) | (cases y <;> rfl)
noncomputable def noGuard : Value → Value → Bool
  | .nilIface, .nilIface => false
  | .agg _, .agg _ => false
  | _, _ => true
theorem guard_plain {P : Program} {op : BinOp} {t : Nat} {ox oy : Operand} {x y : Value} {w : World} (h : noGuard x y = true) : (eqGuard op t ox oy x y).run P w = .ok () w := by
  unfold eqGuard
  cases x <;> cases y <;> first | (cases h; done) | (cases op <;> rfl)
noncomputable def isCon : Operand → Bool
  | .const _ => true
  | _ => false
theorem guard_nil {P : Program} {op : BinOp} {t : Nat} {ox oy : Operand} {w : World} (h : (isCon ox || isCon oy) = true) : (eqGuard op t ox oy .nilIface .nilIface).run P w = .ok () w := by
  unfold eqGuard
  cases ox <;> cases oy <;> first | (cases h; done) | (cases op <;> rfl)
theorem guard_agg {P : Program} {op : BinOp} {t : Nat} {ox oy : Operand} {xs ys : Array Value} {w : World} (h : P.eqGuardType P.depth t = false) : (eqGuard op t ox oy (.agg xs) (.agg ys)).run P w = .ok () w := by
  unfold eqGuard
  cases op <;> simp [h]
theorem binEq_ok [Tab] {P : Program} {op : BinOp} {t : Nat} {a b v : AV} {x y : Value} {E : AEnv} {w : World} (ha : VR E a x) (hb : VR E b y) (hp : plainPair x y = true)
    (h : (match op with
    | .eql => (eqA P t a b).map .bool
    | .neq => (eqA P t a b).map fun r => .bool (!r)
    | _ => none) = some v) : ∃ z, (binOp op t x y).run P w = .ok z w ∧ VR E v z := by
  cases op <;> try (cases h; done)
  · cases he : eqA P t a b with
    | none => rw [he] at h; cases h
    | some r =>
      rw [he] at h
      injection h with h
      subst h
      exact ⟨.bool r, by rw [binOp_eql hp]; simp [eqA_ok ha hb he], .bool _⟩
  · cases he : eqA P t a b with
    | none => rw [he] at h; cases h
    | some r =>
      rw [he] at h
      injection h with h
      subst h
      exact ⟨.bool (!r), by rw [binOp_neq hp]; simp [eqA_ok ha hb he], .bool _⟩
theorem rngA_int {op : BinOp} {k : IntKind} {lo hi n y : Int} {v : AV} (h1 : lo ≤ n) (h2 : n ≤ hi) (h : rngA op lo hi y = some v) : intA op k n y = some v := by
  unfold rngA at h
  unfold intA
  split at h
  · cases h3 : decide (hi < y) with
    | true =>
      rw [h3] at h
      have h3 := of_decide_eq_true h3
      simp only [cond_true, Option.some.injEq] at h
      subst h
      simp
      omega
    | false =>
      rw [h3] at h
      cases h4 : decide (y ≤ lo) with
      | false => rw [h4] at h; cases h
      | true =>
        rw [h4] at h
        have h4 := of_decide_eq_true h4
        simp only [cond_true, cond_false, Option.some.injEq] at h
        subst h
        simp
        omega
  · cases h3 : decide (y < lo) with
    | true =>
      rw [h3] at h
      have h3 := of_decide_eq_true h3
      simp only [cond_true, Option.some.injEq] at h
      subst h
      simp
      omega
    | false =>
      rw [h3] at h
      cases h4 : decide (hi ≤ y) with
      | false => rw [h4] at h; cases h
      | true =>
        rw [h4] at h
        have h4 := of_decide_eq_true h4
        simp only [cond_true, cond_false, Option.some.injEq] at h
        subst h
        simp
        omega
  · cases h3 : decide (hi ≤ y) with
    | true =>
      rw [h3] at h
      have h3 := of_decide_eq_true h3
      simp only [cond_true, Option.some.injEq] at h
      subst h
      simp
      omega
    | false =>
      rw [h3] at h
      cases h4 : decide (y < lo) with
      | false => rw [h4] at h; cases h
      | true =>
        rw [h4] at h
        have h4 := of_decide_eq_true h4
        simp only [cond_true, cond_false, Option.some.injEq] at h
        subst h
        simp
        omega
  · cases h3 : decide (y ≤ lo) with
    | true =>
      rw [h3] at h
      have h3 := of_decide_eq_true h3
      simp only [cond_true, Option.some.injEq] at h
      subst h
      simp
      omega
    | false =>
      rw [h3] at h
      cases h4 : decide (hi < y) with
      | false => rw [h4] at h; cases h
      | true =>
        rw [h4] at h
        have h4 := of_decide_eq_true h4
        simp only [cond_true, cond_false, Option.some.injEq] at h
        subst h
        simp
        omega
  · cases h3 : (decide (hi < y) || decide (y < lo)) with
    | false => rw [h3] at h; cases h
    | true =>
      rw [h3] at h
      rw [Bool.or_eq_true, decide_eq_true_iff, decide_eq_true_iff] at h3
      simp only [cond_true, Option.some.injEq] at h
      subst h
      have : n ≠ y := by omega
      simp [this]
  · cases h3 : (decide (hi < y) || decide (y < lo)) with
    | false => rw [h3] at h; cases h
    | true =>
      rw [h3] at h
      rw [Bool.or_eq_true, decide_eq_true_iff, decide_eq_true_iff] at h3
      simp only [cond_true, Option.some.injEq] at h
      subst h
      have : n ≠ y := by omega
      simp [this]
  · cases h
theorem symE_int {op : BinOp} {k : IntKind} {n : Int} {v : AV} (h : symE op = some v) : intA op k n n = some v := by
  cases op <;> first | (cases h; done) | (injection h with h; subst h; simp [intA])
theorem eqB_refl [Tab] (l : List UInt8) : eqB l l = true := by rw [eqB_eq]; simp
theorem symE_str [Tab] {op : BinOp} {l : List UInt8} {v : AV} (h : symE op = some v) : strA op l l = some v := by
  cases op <;> first | (cases h; done) | (injection h with h; subst h; simp [strA, eqB_refl])
theorem symB_ok [Tab] {P : Program} {op : BinOp} {t : Nat} {a b v : AV} {x y : Value} {E : AEnv} {w : World} (ha : VR E a x) (hb : VR E b y) (h : symB op a b = some v) : noGuard x y = true ∧ ∃ z, (binOp op t x y).run P w = .ok z w ∧ VR E v z := by
  unfold symB at h
  split at h
  · rename_i c k lo hi k' y'
    cases hk : kindEq k k' with
    | false => rw [hk] at h; cases h
    | true =>
      rw [hk] at h
      have := kindEq_eq hk
      subst this
      cases ha with
      | symI _ _ _ _ n h0 hn h1 h2 =>
        cases hb
        exact ⟨rfl, intA_ok (rngA_int h1 h2 h)⟩
  · rename_i c k _ _ c' k' _ _
    cases he : Nat.beq c c' with
    | false => rw [he] at h; cases h
    | true =>
      rw [he] at h
      cases hk : kindEq k k' with
      | false => rw [hk] at h; cases h
      | true =>
        rw [hk] at h
        have e1 := Nat.eq_of_beq_eq_true he
        subst e1
        have e2 := kindEq_eq hk
        subst e2
        cases ha with
        | symI _ _ _ _ n h0 hn _ _ =>
          cases hb with
          | symI _ _ _ _ m g0 hm _ _ =>
            rw [hn] at hm
            subst hm
            exact ⟨rfl, intA_ok (symE_int h)⟩
  · rename_i c c'
    cases he : Nat.beq c c' with
    | false => rw [he] at h; cases h
    | true =>
      rw [he] at h
      have e1 := Nat.eq_of_beq_eq_true he
      subst e1
      cases ha with
      | symS _ s h0 hs =>
        cases hb with
        | symS _ s' g0 hs' =>
          rw [hs] at hs'
          subst hs'
          exact ⟨rfl, strA_ok (symE_str h)⟩
  · rename_i c _ _ c' _ _
    cases he : Nat.beq c c' with
    | false => rw [he] at h; cases h
    | true =>
      rw [he] at h
      have e1 := Nat.eq_of_beq_eq_true he
      subst e1
      cases ha with
      | symT _ _ _ n h0 hn _ _ =>
        cases hb with
        | symT _ _ _ m g0 hm _ _ =>
          rw [hn] at hm
          subst hm
          exact ⟨rfl, strA_ok (symE_str h)⟩
  · cases h
theorem pair_of_eq1 {d : TypeDesc} {a b : AV} {x y : Value} {r : Bool} {E : AEnv} (ha : VR E a x) (hb : VR E b y) (h : eq1 d a b = some r) (h1 : ∀ k m k' n, a = .int k m → b = .int k' n → False) (h2 : ∀ l m, a = .str l → b = .str m → False) (h3 : ∀ c k lo hi, a = .symI c k lo hi → False) (h4 : ∀ c, a = .symS c → False) (h5 : ∀ c lo hi, a = .symT c lo hi → False) : plainPair x y = true := by
  unfold eq1 at h
  split at h <;> try (cases h; done)
  all_goals first
    | (cases ha; cases hb; rfl)
    | (exact (h1 _ _ _ _ rfl rfl).elim)
    | (exact (h2 _ _ rfl rfl).elim)
    | (exact (h3 _ _ _ _ rfl).elim)
    | (exact (h4 _ rfl).elim)
    | (exact (h5 _ _ _ rfl).elim)
theorem binA_ok [Tab] {P : Program} {op : BinOp} {t : Nat} {ox oy : Operand} {a b v : AV} {x y : Value} {E : AEnv} {w : World} (ha : VR E a x) (hb : VR E b y) (h : binA P op t (isCon ox || isCon oy) a b = some v) :
    ∃ z, (do eqGuard op t ox oy x y; binOp op t x y : Sem Value).run P w = .ok z w ∧ VR E v z := by
  have fin : (eqGuard op t ox oy x y).run P w = .ok () w → (∃ z, (binOp op t x y).run P w = .ok z w ∧ VR E v z) → ∃ z, (do eqGuard op t ox oy x y; binOp op t x y : Sem Value).run P w = .ok z w ∧ VR E v z := by
    rintro hg ⟨z, hz, hv⟩
    exact ⟨z, by simp [hg, hz], hv⟩
  unfold binA at h
  split at h
  · rename_i k m k' n
    cases ha
    cases hb
    refine fin (guard_plain rfl) ?_
    split at h
    · injection h with h
      subst h
      rw [wrapA_eq]
      refine ⟨.int k (k.wrap (m * 2 ^ (min _ k.bits))), ?_, .int _ _⟩
      simp [binOp, Op.shift]
      intro h; omega
    · injection h with h
      subst h
      refine ⟨.int k (m.fdiv (2 ^ (min _ k.bits))), ?_, .int _ _⟩
      simp [binOp, Op.shift]
      intro h; omega
    · cases h
    · cases h
    · cases hk : kindEq k k' with
      | false => rw [hk] at h; cases h
      | true =>
        rw [hk] at h
        have := kindEq_eq hk
        subst this
        exact intA_ok h
  · rename_i l m
    cases ha
    cases hb
    exact fin (guard_plain rfl) (strA_ok h)
  · obtain ⟨h1, h2⟩ := symB_ok (t := t) (w := w) ha hb h
    exact fin (guard_plain h1) h2
  · obtain ⟨h1, h2⟩ := symB_ok (t := t) (w := w) ha hb h
    exact fin (guard_plain h1) h2
  · obtain ⟨h1, h2⟩ := symB_ok (t := t) (w := w) ha hb h
    exact fin (guard_plain h1) h2
  · cases ha
    cases hb
    cases hc : (isCon ox || isCon oy) with
    | false => rw [hc] at h; cases h
    | true =>
      rw [hc] at h
      exact fin (guard_nil hc) (binEq_ok .nili .nili rfl h)
  · cases hg : P.eqGuardType P.depth t with
    | true => rw [hg] at h; cases h
    | false =>
      rw [hg] at h
      obtain ⟨xs, rfl, _⟩ := ha.agg_inv
      obtain ⟨ys, rfl, _⟩ := hb.agg_inv
      exact fin (guard_agg hg) (binEq_ok ha hb rfl h)
  · skip
    rename_i m1 m2 m3 n1 n2 n3 n4
    have he : ∃ r, eqA P t a b = some r := by
      cases op <;> try (cases h; done)
      · cases he : eqA P t a b with
        | none => rw [he] at h; cases h
        | some r => exact ⟨r, rfl⟩
      · cases he : eqA P t a b with
        | none => rw [he] at h; cases h
        | some r => exact ⟨r, rfl⟩
    obtain ⟨r, hr⟩ := he
    have hp : plainPair x y = true ∧ noGuard x y = true := by
      unfold eqA at hr
      split at hr
      · cases hr
      · split at hr
        · exact (n4 _ _ rfl rfl).elim
        · cases hr
      · rename_i d hd _
        refine ⟨pair_of_eq1 ha hb hr (fun k m k' n e1 e2 => n1 _ _ _ _ e1 e2) (fun l m e1 e2 => n2 _ _ e1 e2) (fun c k lo hi e => m1 _ _ _ _ e) (fun c e => m2 _ e) (fun c lo hi e => m3 _ _ _ e), ?_⟩
        unfold eq1 at hr
        split at hr <;> try (cases hr; done)
        all_goals first
          | (cases ha; cases hb; rfl)
          | (exact (n3 rfl rfl).elim)
    exact fin (guard_plain hp.2) (binEq_ok ha hb hp.1 h)

/-- A unary operation. -/
noncomputable def unA (op : UnOp) (a : AV) : Option AV := match op, a with
  | .not, .bool b => some (.bool (!b))
  | .neg, .int k n => some (.int k (wrapA k (0 - n)))
  | _, _ => none
theorem unA_ok [Tab] {P : Program} {op : UnOp} {a v : AV} {x : Value} {E : AEnv} {w : World} (ha : VR E a x) (h : unA op a = some v) : ∃ z, (Op.unary op x).run P w = .ok z w ∧ VR E v z := by
  unfold unA at h
  split at h
  · injection h with h
    subst h
    cases ha
    exact ⟨.bool _, by simp [Op.unary], .bool _⟩
  · injection h with h
    subst h
    cases ha
    rw [wrapA_eq]
    exact ⟨.int _ _, by simp [Op.unary, Op.intArith], .int _ _⟩
  · cases h
/-- A natural number below a bound. -/
noncomputable def natA (y : Nat) : AV → Option Nat
  | .int _ (.ofNat m) => cond (Nat.ble m y) (some m) none
  | _ => none
theorem natA_ok {y m : Nat} {a : AV} {x : Value} {E : AEnv} (ha : VR E a x) (h : natA y a = some m) : ∃ k, x = .int k (m : Int) ∧ m ≤ y := by
  unfold natA at h
  split at h
  · rename_i k m'
    cases hb : Nat.ble m' y with
    | false => rw [hb] at h; cases h
    | true =>
      rw [hb] at h
      injection h with h
      subst h
      cases ha
      exact ⟨k, rfl, Nat.le_of_ble_eq_true hb⟩
  · cases h
/-- A place in an array or a slice. -/
noncomputable def indexAddrA (P : Program) (t : Nat) (a i : AV) : Option AV := match P.underlying t with
  | some (.slice e) => match P.info? e with
    | some ie => match a with
      | .sl b o len _ => match natA len i with
        | some m => cond (Nat.beq m len) none (some (.ptr b (Nat.add o (Nat.mul m ie.size))))
        | none => none
      | .slu b o len _ => match natA len i with
        | some m => cond (Nat.beq m len) none (some (.ptr b (Nat.add o (Nat.mul m ie.size))))
        | none => none
      | _ => none
    | none => none
  | some (.array n e) => match P.info? e with
    | some ie => match a with
      | .ptr b o => match natA n i with
        | some m => cond (Nat.beq m n) none (some (.ptr b (Nat.add o (Nat.mul m ie.size))))
        | none => none
      | _ => none
    | none => none
  | _ => none
theorem indexAddrA_ok [Tab] {P : Program} {t : Nat} {a i v : AV} {x y : Value} {E : AEnv} {w : World} (ha : VR E a x) (hi : VR E i y) (h : indexAddrA P t a i = some v) : ∃ z, (Instr.indexAt t x y).run P w = .ok z w ∧ VR E v z := by
  unfold indexAddrA at h
  split at h
  · rename_i e hu
    split at h
    · rename_i ie hie
      split at h
      · rename_i b o len cap
        split at h
        · rename_i m hm
          obtain ⟨k, rfl, hle⟩ := natA_ok hi hm
          cases hb : Nat.beq m len with
          | true => rw [hb] at h; cases h
          | false =>
            rw [hb] at h
            injection h with h
            subst h
            have hlt : m < len := by
              have : m ≠ len := fun e => by rw [e, Nat.beq_refl] at hb; cases hb
              omega
            cases ha with
            | sl b o len cap hbn =>
            exact ⟨_, by simp [Instr.indexAt, asIntOf, run_underlying hu, sizeOf, typeInfo, hie, hlt, Addr.add_lit], .ptr _ _ hbn⟩
        · cases h
      · rename_i b o len esz
        split at h
        · rename_i m hm
          obtain ⟨k, rfl, hle⟩ := natA_ok hi hm
          cases hb : Nat.beq m len with
          | true => rw [hb] at h; cases h
          | false =>
            rw [hb] at h
            injection h with h
            subst h
            have hlt : m < len := by
              have : m ≠ len := fun e => by rw [e, Nat.beq_refl] at hb; cases hb
              omega
            cases ha with
            | slu b o len esz cap hbn _ _ =>
            exact ⟨_, by simp [Instr.indexAt, asIntOf, run_underlying hu, sizeOf, typeInfo, hie, hlt, Addr.add_lit], .ptr _ _ hbn⟩
        · cases h
      · cases h
    · cases h
  · rename_i n e hu
    split at h
    · rename_i ie hie
      split at h
      · rename_i b o
        split at h
        · rename_i m hm
          obtain ⟨k, rfl, hle⟩ := natA_ok hi hm
          cases hb : Nat.beq m n with
          | true => rw [hb] at h; cases h
          | false =>
            rw [hb] at h
            injection h with h
            subst h
            have hlt : m < n := by
              have : m ≠ n := fun e => by rw [e, Nat.beq_refl] at hb; cases hb
              omega
            cases ha with
            | ptr b o hbn =>
            exact ⟨_, by simp [Instr.indexAt, asIntOf, Instr.sureAddr, run_underlying hu, sizeOf, typeInfo, hie, hlt, Addr.add_lit], .ptr _ _ hbn⟩
        · cases h
      · cases h
    · cases h
  · cases h
end Go.Proofs.YtambgppdjlhdaaaGreatDoor
