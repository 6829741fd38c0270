/-
  The abstract machine: maps. No program.
-/
import Derived.Test.YtambgppdjlhdaaaGreatDoorEvH
namespace Go.Proofs.YtambgppdjlhdaaaGreatDoor
open Go.RowKit

noncomputable def keyEqA (kd : TypeDesc) (a b : AV) : Option Bool := match kd with
  | .int _ => match a, b with
    | .int k x, .int k' y => cond (kindEq k k') (some (x == y)) none
    | _, _ => none
  | .string => match a, b with
    | .str x, .str y => some (eqB x y)
    | _, _ => none
  | _ => none
theorem keyEqA_ok [Tab] {kd : TypeDesc} {a b : AV} {x y : Value} {E : AEnv} {r : Bool} (ha : VR E a x) (hb : VR E b y) (h : keyEqA kd a b = some r) : Instr.sameNow kd x y = some r := by
  unfold keyEqA at h
  split at h
  · split at h
    · rename_i k x k' y
      cases hk : kindEq k k' with
      | false => rw [hk] at h; cases h
      | true =>
        rw [hk] at h
        injection h with h
        subst h
        have := kindEq_eq hk
        subst this
        cases ha
        cases hb
        simp [Instr.sameNow]
    · cases h
  · split at h
    · rename_i x y
      injection h with h
      subst h
      cases ha
      cases hb
      have e : (({ data := x.toArray } : ByteArray) == { data := y.toArray }) = eqB x y := by
        show (x.toArray == y.toArray) = _
        rw [eqB_eq, Bool.eq_iff_iff]
        simp
      simp [Instr.sameNow, e]
    · cases h
  · cases h
noncomputable def findA (c : AV → Option Bool) : List (AV × AV × Nat) → Nat → Option (Option (Nat × AV))
  | [], _ => some none
  | e :: r, i => match c e.1 with
    | some true => some (some (i, e.2.1))
    | some false => findA c r (Nat.succ i)
    | none => none
theorem findA_now [Tab] {kd : TypeDesc} {k : AV} {x : Value} {E : AEnv} (hk : VR E k x) : ∀ (es : List (AV × AV × Nat)) (l : List MapEntry) (i : Nat) (r : Option (Nat × AV)), VL E (es.map (·.1)) (l.map (·.key)) → VL E (es.map (·.2.1)) (l.map (·.val)) → findA (keyEqA kd k) es i = some r →
    ∃ r', Instr.findNow kd x l i = some r' ∧ (r = none → r' = none) ∧ ∀ j v, r = some (j, v) → ∃ y, r' = some (j, y) ∧ VR E v y
  | [], [], _, r, _, _, hf => by
    injection hf with hf
    subst hf
    exact ⟨none, rfl, fun _ => rfl, fun j v h => by cases h⟩
  | [], e :: l, _, _, h, _, _ => by have := h.len; simp at this
  | e :: es, [], _, _, h, _, _ => by have := h.len; simp at this
  | e :: es, m :: l, i, r, h, hv, hf => by
    unfold findA at hf
    split at hf
    · rename_i he
      injection hf with hf
      subst hf
      have := keyEqA_ok hk h.head he
      refine ⟨some (i, m.val), by simp only [Instr.findNow, this], fun h => (by cases h), fun j v hj => ?_⟩
      injection hj with hj
      injection hj with e1 e2
      subst e1
      subst e2
      exact ⟨m.val, rfl, hv.head⟩
    · rename_i he
      have := keyEqA_ok hk h.head he
      obtain ⟨r', h1, h2⟩ := findA_now hk es l (i + 1) r h.tail hv.tail hf
      exact ⟨r', by simp only [Instr.findNow, this]; exact h1, h2⟩
    · cases hf
theorem findA_asking [Tab] {P : Program} {t : Nat} {k : AV} {x : Value} {E : AEnv} (hk : VR E k x) (w : World) : ∀ (es : List (AV × AV × Nat)) (l : List MapEntry) (i : Nat) (r : Option (Nat × AV)), VL E (es.map (·.1)) (l.map (·.key)) → VL E (es.map (·.2.1)) (l.map (·.val)) → findA (eqA P t k) es i = some r →
    ∃ r', (Instr.findAsking t x l i).run P w = .ok r' w ∧ (r = none → r' = none) ∧ ∀ j v, r = some (j, v) → ∃ y, r' = some (j, y) ∧ VR E v y
  | [], [], _, r, _, _, hf => by
    injection hf with hf
    subst hf
    exact ⟨none, rfl, fun _ => rfl, fun j v h => by cases h⟩
  | [], e :: l, _, _, h, _, _ => by have := h.len; simp at this
  | e :: es, [], _, _, h, _, _ => by have := h.len; simp at this
  | e :: es, m :: l, i, r, h, hv, hf => by
    unfold findA at hf
    split at hf
    · rename_i he
      injection hf with hf
      subst hf
      have := eqA_ok (w := w) hk h.head he
      refine ⟨some (i, m.val), by simp [Instr.findAsking, this], fun h => (by cases h), fun j v hj => ?_⟩
      injection hj with hj
      injection hj with e1 e2
      subst e1
      subst e2
      exact ⟨m.val, rfl, hv.head⟩
    · rename_i he
      have := eqA_ok (w := w) hk h.head he
      obtain ⟨r', h1, h2⟩ := findA_asking hk w es l (i + 1) r h.tail hv.tail hf
      exact ⟨r', by simp [Instr.findAsking, this]; exact h1, h2⟩
    · cases hf
noncomputable def keyD : TypeDesc → Bool
  | .int _ => true
  | .string => true
  | _ => false
theorem checkKey_run {P : Program} {e : Bool} {n t : Nat} {d : TypeDesc} {x : Value} {w : World} (hd : P.underlying t = some d) (hk : keyD d = true) : (Instr.checkKey e (n + 1) t x).run P w = .ok () w := by
  cases d <;> first | (cases hk; done) | simp [Instr.checkKey, run_underlying hd]
/-- A field of a key: at its place, a text or a number. -/
noncomputable def keyF (P : Program) (f : Field) (o : Nat) : Bool := match P.underlying f.type with
  | some d => keyD d && (Nat.beq f.offset o && !(f.name == "_"))
  | none => false
/-- Keys that may be: texts, numbers, pairs of such. -/
noncomputable def keyG (P : Program) (kd : TypeDesc) (k : AV) : Bool := match kd with
  | .struct fs => match fs.toList with
    | [f, g] => match k with
      | .agg [_, _] => keyF P f 0 && keyF P g 1
      | _ => false
    | _ => false
  | d => keyD d
theorem keyF_ok {P : Program} {f : Field} {o : Nat} (h : keyF P f o = true) : ∃ d, P.underlying f.type = some d ∧ keyD d = true ∧ f.offset = o ∧ f.name ≠ "_" := by
  unfold keyF at h
  split at h
  · rename_i d hd
    rw [Bool.and_eq_true, Bool.and_eq_true] at h
    obtain ⟨h1, h2, h3⟩ := h
    exact ⟨d, hd, h1, Nat.eq_of_beq_eq_true h2, fun e => by rw [e] at h3; simp at h3⟩
  · cases h
theorem part_one {P : Program} {t : Nat} {d : TypeDesc} (hd : P.underlying t = some d) (hk : keyD d = true) (a : Array Value) (o : Nat) (x : Value) (hx : a[o]? = some x) (w : World) : (part t a o).run P w = .ok x w := by
  have hr : rowD d = false := by cases d <;> first | (cases hk; done) | rfl
  simp [part, isAgg_run hd, hr, hx]
theorem checkKey_ok [Tab] {P : Program} {e : Bool} {n t : Nat} {kd : TypeDesc} {k : AV} {x : Value} {E : AEnv} {w : World} (hd : P.underlying t = some kd) (hg : keyG P kd k = true) (hk : VR E k x) : (Instr.checkKey e (n + 2) t x).run P w = .ok () w := by
  have simple : keyD kd = true → (Instr.checkKey e (n + 2) t x).run P w = .ok () w := fun h => checkKey_run (n := n + 1) hd h
  unfold keyG at hg
  split at hg
  · rename_i fs
    split at hg
    · rename_i f g hfs
      split at hg
      · rename_i c1 c2
        rw [Bool.and_eq_true] at hg
        obtain ⟨d1, q1, q2, q3, q4⟩ := keyF_ok hg.1
        obtain ⟨d2, r1, r2, r3, r4⟩ := keyF_ok hg.2
        obtain ⟨a, rfl, ha⟩ := hk.agg_inv
        obtain ⟨y1, y2, rfl⟩ : ∃ y1 y2, a = #[y1, y2] := by
          match hl : a.toList, ha with
          | [y1, y2], _ => exact ⟨y1, y2, by apply Array.ext'; rw [hl]⟩
          | [], ha => have := ha.len; simp at this
          | [_], ha => have := ha.len; simp at this
          | _ :: _ :: _ :: _, ha => have := ha.len; simp at this
        obtain rfl : fs = #[f, g] := by apply Array.ext'; rw [hfs]
        have p1 := part_one q1 q2 #[y1, y2] f.offset y1 (by rw [q3]; rfl) w
        have p2 := part_one r1 r2 #[y1, y2] g.offset y2 (by rw [r3]; rfl) w
        have c1 := checkKey_run (P := P) (e := e) (n := n) (x := y1) (w := w) q1 q2
        have c2 := checkKey_run (P := P) (e := e) (n := n) (x := y2) (w := w) r1 r2
        show (Instr.checkKey e ((n + 1) + 1) t (.agg #[y1, y2])).run P w = _
        generalize n + 1 = m at c1 c2 ⊢
        simp [Instr.checkKey, run_underlying hd, q4, r4, p1, p2, c1, c2]
      · cases hg
    · cases hg
  · exact simple hg
theorem findKey_run {P : Program} {t : Nat} {d : TypeDesc} {x : Value} {l : List MapEntry} {r : Option (Nat × Value)} {w : World} (hd : P.underlying t = some d) (h : Instr.findNow d x l 0 = some r) : (Instr.findKey t x l).run P w = .ok r w := by
  simp [Instr.findKey, run_underlying hd, h]
noncomputable def cmpA (P : Program) (t : Nat) (kd : TypeDesc) (k : AV) : AV → Option Bool := match kd with
  | .struct _ => eqA P t k
  | d => keyEqA d k
theorem findKey_ok [Tab] {P : Program} {t : Nat} {kd : TypeDesc} {k : AV} {x : Value} {E : AEnv} (hd : P.underlying t = some kd) (hk : VR E k x) {es : List (AV × AV × Nat)} {l : List MapEntry} {r : Option (Nat × AV)} (h2 : VL E (es.map (·.1)) (l.map (·.key))) (h3 : VL E (es.map (·.2.1)) (l.map (·.val))) (hf : findA (cmpA P t kd k) es 0 = some r) (w : World) :
    ∃ r', (Instr.findKey t x l).run P w = .ok r' w ∧ (r = none → r' = none) ∧ ∀ j v, r = some (j, v) → ∃ y, r' = some (j, y) ∧ VR E v y := by
  unfold cmpA at hf
  split at hf
  · rename_i fs
    cases l with
    | nil =>
      cases es with
      | nil =>
        injection hf with hf
        subst hf
        exact ⟨none, by simp [Instr.findKey, run_underlying hd, Instr.findNow], fun _ => rfl, fun j v h => by cases h⟩
      | cons e es => have := h2.len; simp at this
    | cons m l =>
      obtain ⟨r', q1, q2⟩ := findA_asking hk w es (m :: l) 0 r h2 h3 hf
      refine ⟨r', ?_, q2⟩
      have : Instr.findNow (.struct fs) x (m :: l) 0 = none := by
        unfold Instr.findNow
        unfold Instr.sameNow
        rfl
      simp only [Instr.findKey, Sem.run_bind, run_underlying hd, Result.andThen, this]
      exact q1
  · obtain ⟨r', q1, q2⟩ := findA_now hk es l 0 r h2 h3 hf
    exact ⟨r', findKey_run hd q1, q2⟩
theorem HR.mapb [Tab] {E : AEnv} {s : Nat → AB} {w : World} (h : HR E s w) {b : Nat} {es : List (AV × AV × Nat)} {clock : Nat} (hg : s b = .mapb es clock) :
    E.ok b ∧ ∃ xs : Array MapEntry, w.heap[E.r b]? = some (.map xs clock) ∧ VL E (es.map (·.1)) (xs.toList.map (·.key)) ∧ VL E (es.map (·.2.1)) (xs.toList.map (·.val)) ∧ es.map (·.2.2) = xs.toList.map (·.born) := by
  have hne : s b ≠ .none := by rw [hg]; intro e; cases e
  obtain ⟨h1, _, o, h2, h3⟩ := h.at_ b hne
  rw [hg] at h3
  obtain ⟨xs, rfl, h4, h5, h6⟩ := h3
  exact ⟨h1, xs, h2, h4, h5, h6⟩
noncomputable def zeroVA (P : Program) (t : Nat) : Option AV := match P.info? t with
  | some i => match i.zero with
    | some v => some (absV v)
    | none => none
  | none => none
theorem zeroVA_ok [Tab] {P : Program} {t : Nat} {v : AV} (h : zeroVA P t = some v) : ∃ z, (∀ w, (zeroValue t).run P w = .ok z w) ∧ ∀ E, VR E v z := by
  unfold zeroVA at h
  split at h
  · rename_i i hi
    split at h
    · rename_i v hz
      injection h with h
      subst h
      exact ⟨v, fun w => by simp [zeroValue, typeInfo, hi, hz], fun E => absV_ok E _⟩
    · cases h
  · cases h
noncomputable def lookA (ok : Bool) (v : AV) (b : Bool) : AV := cond ok (.tup [v, .bool b]) v
noncomputable def lookupA (P : Program) (t : Nat) (m k : AV) (ok : Bool) (s : AS) : Option AV := match P.underlying t with
  | some (.map kt et) => match P.underlying kt with
    | some kd => cond (keyG P kd k) (match m with
      | .nilm => match zeroVA P et with
        | some z => some (lookA ok z false)
        | none => none
      | .mapp b => match s.get b with
        | .mapb es _ => match findA (cmpA P kt kd k) es 0 with
          | some (some p) => some (lookA ok p.2 true)
          | some none => match zeroVA P et with
            | some z => some (lookA ok z false)
            | none => none
          | none => none
        | _ => none
      | _ => none) none
    | none => none
  | _ => none
theorem lookA_ok [Tab] {E : AEnv} {ok b : Bool} {v : AV} {y : Value} (h : VR E v y) : VR E (lookA ok v b) (if ok then .tuple #[y, .bool b] else y) := by
  cases ok
  · exact h
  · exact (VL.cons h (VL.cons (.bool b) VL.nil)).tup (a := #[y, .bool b])
theorem lookupA_ok [Tab] {P : Program} {t : Nat} {m k v : AV} {ok : Bool} {x y : Value} {s : AS} {E : AEnv} {w : World} (h : HR E s.get w) (hm : VR E m x) (hk : VR E k y) (he : lookupA P t m k ok s = some v) : ∃ z, (Instr.lookup t x y ok).run P w = .ok z w ∧ VR E v z := by
  unfold lookupA at he
  split at he
  · rename_i kt et hu
    split at he
    · rename_i kd hkd
      cases hkk : keyG P kd k with
      | false => rw [hkk] at he; cases he
      | true =>
        rw [hkk] at he
        simp only [cond_true] at he
        split at he
        · split at he
          · rename_i z hz
            injection he with he
            subst he
            cases hm
            obtain ⟨z', hz1, hz2⟩ := zeroVA_ok hz
            exact ⟨_, by simp [Instr.lookup, run_underlying hu, checkKey_ok hkd hkk hk, findKey_run (l := []) hkd rfl, hz1], lookA_ok (hz2 E)⟩
          · cases he
        · rename_i b
          split at he
          · rename_i es clock hg
            cases hm with
            | mapp b hb =>
            obtain ⟨_, xs, h1, h2, h3, h4⟩ := h.mapb hg
            split at he
            · rename_i p hf
              injection he with he
              subst he
              obtain ⟨r', q1, _, q2⟩ := findKey_ok hkd hk (l := xs.toList) h2 h3 hf w
              obtain ⟨y', rfl, h6⟩ := q2 p.1 p.2 rfl
              exact ⟨_, by simp [Instr.lookup, run_underlying hu, getObj, Sem.run, h1, checkKey_ok hkd hkk hk, q1], lookA_ok h6⟩
            · rename_i hf
              obtain ⟨r', q1, q2, _⟩ := findKey_ok hkd hk (l := xs.toList) h2 h3 hf w
              obtain rfl := q2 rfl
              split at he
              · rename_i z hz
                injection he with he
                subst he
                obtain ⟨z', hz1, hz2⟩ := zeroVA_ok hz
                exact ⟨_, by simp [Instr.lookup, run_underlying hu, getObj, Sem.run, h1, checkKey_ok hkd hkk hk, q1, hz1], lookA_ok (hz2 E)⟩
              · cases he
            · cases he
          · cases he
        · cases he
    · cases he
  · cases he
/-- An entry put in. -/
noncomputable def setEnt : List (AV × AV × Nat) → Nat → AV → AV → List (AV × AV × Nat)
  | [], _, _, _ => []
  | e :: r, 0, k, v => (k, v, e.2.2) :: r
  | e :: r, i + 1, k, v => e :: setEnt r i k v
noncomputable def updA (P : Program) (t : Nat) (m k v : AV) (s : AS) : Option AS := match P.underlying t with
  | some (.map kt _) => match P.underlying kt with
    | some kd => cond (keyG P kd k) (match m with
      | .mapp b => match s.get b with
        | .mapb es clock => match findA (cmpA P kt kd k) es 0 with
          | some none => some (s.put b (.mapb (List.append es [(k, v, clock)]) (Nat.succ clock)))
          | some (some q) => cond (keyD kd) (some (s.put b (.mapb (setEnt es q.1 k v) clock))) none
          | none => none
        | _ => none
      | _ => none) none
    | none => none
  | _ => none
theorem key_same {kd : TypeDesc} {E : AEnv} {k c : AV} {y z : Value} (hk : VR E k y) (hc : VR E c z) (h : keyEqA kd k c = some true) : Instr.sameBits 10000 z y = true := by
  unfold keyEqA at h
  split at h
  · split at h
    · rename_i j a j' b
      cases hj : kindEq j j' with
      | false => rw [hj] at h; cases h
      | true =>
        rw [hj] at h
        injection h with h
        have e1 := kindEq_eq hj
        subst e1
        cases hk
        cases hc
        have : a = b := by simpa using h
        subst this
        simp [Instr.sameBits]
    · cases h
  · split at h
    · rename_i a b
      injection h with h
      cases hk
      cases hc
      have hb : a = b := by
        induction a generalizing b with
        | nil => cases b with
          | nil => rfl
          | cons c l => cases h
        | cons c l ih => cases b with
          | nil => cases h
          | cons d m =>
            replace h : cond (Nat.beq c.toNat d.toNat) (eqB l m) false = true := h
            cases hcd : Nat.beq c.toNat d.toNat with
            | false => rw [hcd] at h; cases h
            | true =>
              rw [hcd] at h
              rw [UInt8.toNat_inj.1 (Nat.eq_of_beq_eq_true hcd), ih m h]
      subst hb
      unfold Instr.sameBits
      exact ba_self _
    · cases h
  · cases h
theorem findA_at {c : AV → Option Bool} {u : AV} : ∀ (es : List (AV × AV × Nat)) (i j : Nat), findA c es i = some (some (j, u)) → i ≤ j ∧ ∃ e, es[j - i]? = some e ∧ c e.1 = some true
  | [], i, j, h => by cases h
  | e :: es, i, j, h => by
    unfold findA at h
    split at h
    · rename_i he
      injection h with h
      injection h with h
      injection h with e1 e2
      subst e1
      exact ⟨Nat.le_refl _, e, by rw [Nat.sub_self]; rfl, he⟩
    · obtain ⟨h1, e', h2, h3⟩ := findA_at es (i + 1) j h
      refine ⟨by omega, e', ?_, h3⟩
      rw [show j - i = (j - (i + 1)) + 1 by omega]
      exact h2
    · cases h
theorem setEnt_key : ∀ (es : List (AV × AV × Nat)) (i : Nat) (k v : AV), (setEnt es i k v).map (·.1) = (es.map (·.1)).set i k
  | [], _, _, _ => rfl
  | e :: r, 0, k, v => rfl
  | e :: r, i + 1, k, v => by
    show e.1 :: (setEnt r i k v).map (·.1) = _
    rw [setEnt_key r i k v]
    rfl
theorem setEnt_val : ∀ (es : List (AV × AV × Nat)) (i : Nat) (k v : AV), (setEnt es i k v).map (·.2.1) = (es.map (·.2.1)).set i v
  | [], _, _, _ => rfl
  | e :: r, 0, k, v => rfl
  | e :: r, i + 1, k, v => by
    show e.2.1 :: (setEnt r i k v).map (·.2.1) = _
    rw [setEnt_val r i k v]
    rfl
theorem setEnt_born : ∀ (es : List (AV × AV × Nat)) (i : Nat) (k v : AV), (setEnt es i k v).map (·.2.2) = es.map (·.2.2)
  | [], _, _, _ => rfl
  | e :: r, 0, k, v => rfl
  | e :: r, i + 1, k, v => by
    show e.2.2 :: (setEnt r i k v).map (·.2.2) = _
    rw [setEnt_born r i k v]
    rfl
theorem mod_key : ∀ (l : List MapEntry) (i : Nat) (y z : Value), (l.modify i fun e => { e with key := y, val := z }).map (·.key) = (l.map (·.key)).set i y
  | [], i, _, _ => by cases i <;> rfl
  | e :: r, 0, y, z => rfl
  | e :: r, i + 1, y, z => by
    show e.key :: (r.modify i fun e => { e with key := y, val := z }).map (·.key) = _
    rw [mod_key r i y z]
    rfl
theorem mod_val : ∀ (l : List MapEntry) (i : Nat) (y z : Value), (l.modify i fun e => { e with key := y, val := z }).map (·.val) = (l.map (·.val)).set i z
  | [], i, _, _ => by cases i <;> rfl
  | e :: r, 0, y, z => rfl
  | e :: r, i + 1, y, z => by
    show e.val :: (r.modify i fun e => { e with key := y, val := z }).map (·.val) = _
    rw [mod_val r i y z]
    rfl
theorem mod_born : ∀ (l : List MapEntry) (i : Nat) (y z : Value), (l.modify i fun e => { e with key := y, val := z }).map (·.born) = l.map (·.born)
  | [], i, _, _ => by cases i <;> rfl
  | e :: r, 0, y, z => rfl
  | e :: r, i + 1, y, z => by
    show e.born :: (r.modify i fun e => { e with key := y, val := z }).map (·.born) = _
    rw [mod_born r i y z]
    rfl
theorem VL.setAt {E : AEnv} {l : List AV} {a : List Value} (h : VL E l a) (i : Nat) {c : AV} {v : Value} (hv : VR E c v) : VL E (l.set i c) (a.set i v) :=
  ⟨by simp [h.len], fun j d x h1 h2 => by
    rw [List.getElem?_set] at h1 h2
    by_cases e : i = j
    · subst e
      rw [if_pos rfl] at h1 h2
      by_cases hi : i < l.length
      · rw [if_pos hi] at h1
        rw [if_pos (by rw [← h.len]; exact hi)] at h2
        injection h1 with h1
        injection h2 with h2
        subst h1
        subst h2
        exact hv
      · rw [if_neg hi] at h1; cases h1
    · rw [if_neg e] at h1 h2
      exact h.at_ j d x h1 h2⟩
theorem updA_ok [Tab] {P : Program} {t : Nat} {m k v : AV} {x y z : Value} {s s' : AS} {E : AEnv} {w : World} (h : HR E s.get w) (hm : VR E m x) (hk : VR E k y) (hv : VR E v z) (he : updA P t m k v s = some s') :
    ∃ w', (Instr.mapUpdate t x y z).run P w = .ok () w' ∧ HR E s'.get w' ∧ Stp E s.get w E s'.get w' ∧ s'.n = s.n := by
  unfold updA at he
  split at he
  · rename_i kt et hu
    split at he
    · rename_i kd hkd
      cases hkk : keyG P kd k with
      | false => rw [hkk] at he; cases he
      | true =>
        rw [hkk] at he
        simp only [cond_true] at he
        split at he
        · rename_i b
          split at he
          · rename_i es clock hg
            cases hm with
            | mapp b hb =>
            obtain ⟨_, xs, h1, h2, h3, h4⟩ := h.mapb hg
            split at he
            · rename_i hf
              injection he with he
              subst he
              obtain ⟨r', q1, q2, _⟩ := findKey_ok hkd hk (l := xs.toList) h2 h3 hf w
              obtain rfl := q2 rfl
              have hlt := (Array.getElem?_eq_some_iff.1 h1).1
              obtain ⟨r1, r2⟩ := h.over (w' := { w with heap := w.heap.setIfInBounds (E.r b) (.map (xs.push { key := y, val := z, born := clock }) (clock + 1)) }) (b := b) (by rw [hg]; intro e; cases e) (.mapb (es ++ [(k, v, clock)]) (clock + 1)) (.map (xs.push { key := y, val := z, born := clock }) (clock + 1))
                (by simp) rfl rfl rfl (fun d hd => by simp [Array.getElem?_setIfInBounds, Ne.symm hd]) (by simp [Array.getElem?_setIfInBounds, hlt])
                ⟨_, rfl, by
                  rw [List.map_append, Array.toList_push, List.map_append]
                  exact h2.append (VL.cons hk VL.nil), by
                  rw [List.map_append, Array.toList_push, List.map_append]
                  exact h3.append (VL.cons hv VL.nil), by
                  rw [List.map_append, Array.toList_push, List.map_append, h4]
                  rfl⟩
              exact ⟨_, by simp [Instr.mapUpdate, run_underlying hu, getObj, setObj, Sem.run, h1, checkKey_ok hkd hkk hk, q1], r1, r2, rfl⟩
            · rename_i q hf
              obtain ⟨j, u⟩ := q
              cases hsim : keyD kd with
              | false => rw [hsim] at he; cases he
              | true =>
              rw [hsim] at he
              injection he with he
              subst he
              obtain ⟨r', q1, _, q2⟩ := findKey_ok hkd hk (l := xs.toList) h2 h3 hf w
              obtain ⟨y', rfl, _⟩ := q2 j u rfl
              have hcm : cmpA P kt kd k = keyEqA kd k := by cases kd <;> first | rfl | cases hsim
              rw [hcm] at hf
              obtain ⟨_, en, he1, he2⟩ := findA_at es 0 j hf
              rw [Nat.sub_zero] at he1
              obtain ⟨kv, hkv, hkr⟩ := h2.exists_at (i := j) (c := en.1) (by rw [List.getElem?_map, he1]; rfl)
              have hsame := key_same hk hkr he2
              have hold : ((xs[j]?).map (·.key)).getD y = kv := by
                rw [List.getElem?_map, Array.getElem?_toList] at hkv
                rw [hkv]
                rfl
              have hlt := (Array.getElem?_eq_some_iff.1 h1).1
              obtain ⟨r1, r2⟩ := h.over (w' := { w with heap := w.heap.setIfInBounds (E.r b) (.map (xs.modify j fun e => { e with key := y, val := z }) clock) }) (b := b) (by rw [hg]; intro e; cases e) (.mapb (setEnt es j k v) clock) (.map (xs.modify j fun e => { e with key := y, val := z }) clock)
                (by simp) rfl rfl rfl (fun d hd => by simp [Array.getElem?_setIfInBounds, Ne.symm hd]) (by simp [Array.getElem?_setIfInBounds, hlt])
                ⟨_, rfl, by
                  rw [setEnt_key, Array.toList_modify, mod_key]
                  exact h2.setAt j hk, by
                  rw [setEnt_val, Array.toList_modify, mod_val]
                  exact h3.setAt j hv, by
                  rw [setEnt_born, Array.toList_modify, mod_born, h4]⟩
              exact ⟨_, by simp [Instr.mapUpdate, run_underlying hu, getObj, setObj, Sem.run, h1, checkKey_ok hkd hkk hk, q1, Instr.keyThatStays, hold, hsame], r1, r2, rfl⟩
            · cases he
          · cases he
        · cases he
    · cases he
  · cases he
/-- An entry taken out. -/
noncomputable def delA (P : Program) (t : Nat) (m k : AV) (s : AS) : Option AS := match P.underlying t with
  | some (.map kt _) => match P.underlying kt with
    | some kd => cond (keyG P kd k) (match m with
      | .nilm => some s
      | .mapp b => match s.get b with
        | .mapb es clock => match findA (cmpA P kt kd k) es 0 with
          | some none => some (s.put b (.mapb es clock))
          | some (some q) => some (s.put b (.mapb (es.eraseIdx q.1) clock))
          | none => none
        | _ => none
      | _ => none) none
    | none => none
  | _ => none
theorem map_erase {α β : Type} (f : α → β) : ∀ (l : List α) (i : Nat), (l.eraseIdx i).map f = (l.map f).eraseIdx i
  | [], _ => rfl
  | _ :: _, 0 => rfl
  | a :: l, i + 1 => by
    show f a :: (l.eraseIdx i).map f = f a :: (l.map f).eraseIdx i
    rw [map_erase f l i]
theorem VL.erase {E : AEnv} : ∀ {l : List AV} {a : List Value} (i : Nat), VL E l a → VL E (l.eraseIdx i) (a.eraseIdx i)
  | [], [], _, _ => VL.nil
  | [], _ :: _, _, h => by have := h.len; simp at this
  | _ :: _, [], _, h => by have := h.len; simp at this
  | _ :: _, _ :: _, 0, h => h.tail
  | _ :: _, _ :: _, i + 1, h => VL.cons h.head (VL.erase i h.tail)
theorem delA_ok [Tab] {P : Program} {t ty : Nat} {ts : Array TypeId} (hts : ts[0]? = some t) {m k : AV} {x y : Value} {s s' : AS} {E : AEnv} {w : World} (h : HR E s.get w) (hm : VR E m x) (hk : VR E k y) (he : delA P t m k s = some s') :
    ∃ w', (Builtin.delete_ ts ty #[x, y]).run P w = .ok (.tuple #[]) w' ∧ HR E s'.get w' ∧ Stp E s.get w E s'.get w' ∧ s'.n = s.n := by
  unfold delA at he
  split at he
  · rename_i kt et hu
    split at he
    · rename_i kd hkd
      cases hkk : keyG P kd k with
      | false => rw [hkk] at he; cases he
      | true =>
        rw [hkk] at he
        simp only [cond_true] at he
        split at he
        · injection he with he
          subst he
          cases hm
          exact ⟨w, by simp [Builtin.delete_, hts, run_underlying hu, checkKey_ok hkd hkk hk], h, Stp.refl _ _ _, rfl⟩
        · rename_i b
          split at he
          · rename_i es clock hg
            cases hm with
            | mapp b hb =>
            obtain ⟨_, xs, h1, h2, h3, h4⟩ := h.mapb hg
            have hlt := (Array.getElem?_eq_some_iff.1 h1).1
            have put : ∀ (es' : List (AV × AV × Nat)) (xs' : Array MapEntry), VL E (es'.map (·.1)) (xs'.toList.map (·.key)) → VL E (es'.map (·.2.1)) (xs'.toList.map (·.val)) → es'.map (·.2.2) = xs'.toList.map (·.born) →
                HR E (s.put b (.mapb es' clock)).get { w with heap := w.heap.setIfInBounds (E.r b) (.map xs' clock) } ∧ Stp E s.get w E (s.put b (.mapb es' clock)).get { w with heap := w.heap.setIfInBounds (E.r b) (.map xs' clock) } := fun es' xs' e1 e2 e3 =>
              h.over (w' := { w with heap := w.heap.setIfInBounds (E.r b) (.map xs' clock) }) (b := b) (by rw [hg]; intro e; cases e) (.mapb es' clock) (.map xs' clock)
                (by simp) rfl rfl rfl (fun d hd => by simp [Array.getElem?_setIfInBounds, Ne.symm hd]) (by simp [Array.getElem?_setIfInBounds, hlt]) ⟨_, rfl, e1, e2, e3⟩
            split at he
            · rename_i hf
              injection he with he
              subst he
              obtain ⟨r', q1, q2, _⟩ := findKey_ok hkd hk (l := xs.toList) h2 h3 hf w
              obtain rfl := q2 rfl
              obtain ⟨r1, r2⟩ := put es xs h2 h3 h4
              exact ⟨_, by simp [Builtin.delete_, hts, run_underlying hu, getObj, setObj, Sem.run, h1, checkKey_ok hkd hkk hk, q1], r1, r2, rfl⟩
            · rename_i q hf
              injection he with he
              subst he
              obtain ⟨r', q1, _, q2⟩ := findKey_ok hkd hk (l := xs.toList) h2 h3 hf w
              obtain ⟨y', rfl, _⟩ := q2 q.1 q.2 rfl
              obtain ⟨_, en, he1, _⟩ := findA_at es 0 q.1 (u := q.2) hf
              rw [Nat.sub_zero] at he1
              have hq : q.1 < xs.size := by
                have := (List.getElem?_eq_some_iff.1 he1).1
                have hl := h2.len
                simp at hl
                omega
              have het : (xs.eraseIdxIfInBounds q.1).toList = xs.toList.eraseIdx q.1 := by
                simp [Array.eraseIdxIfInBounds, hq]
              obtain ⟨r1, r2⟩ := put (es.eraseIdx q.1) (xs.eraseIdxIfInBounds q.1) (by rw [het, map_erase, map_erase]; exact h2.erase q.1) (by rw [het, map_erase, map_erase]; exact h3.erase q.1) (by rw [het, map_erase, map_erase, h4])
              exact ⟨_, by simp [Builtin.delete_, hts, run_underlying hu, getObj, setObj, Sem.run, h1, checkKey_ok hkd hkk hk, q1], r1, r2, rfl⟩
            · cases he
          · cases he
        · cases he
    · cases he
  · cases he
noncomputable def makeMapA (s : AS) : Option (AV × AS) := cond (Nat.ble (Nat.succ s.n) 1000000000) (some (.mapp s.n, s.new (.mapb [] 0))) none
theorem makeMapA_ok [Tab] {P : Program} {t : Nat} {v : AV} {s s' : AS} {E : AEnv} {w : World} (h : HR E s.get w) (hi : ¬ E.ok s.n) (he : makeMapA s = some (v, s')) : Ran P (Instr.makeMap t none) w E s v s' := by
  unfold makeMapA at he
  cases hb : Nat.ble (Nat.succ s.n) 1000000000 with
  | false => rw [hb] at he; cases he
  | true =>
    rw [hb] at he
    injection he with he
    injection he with e1 e2
    subst e1
    subst e2
    have hl : s.n < 1000000000 := Nat.le_of_ble_eq_true hb
    obtain ⟨r1, r2⟩ := h.new hi hl (.mapb [] 0) (.map #[] 0) 0 _ (.inl rfl) ⟨#[], rfl, VL.nil, VL.nil, rfl⟩
    refine ⟨.map (some w.heap.size), w.alloc (.map #[] 0), _, by simp [Instr.makeMap, newObj]; rfl, ?_, r1, r2, E.grow_more _ _ _⟩
    have := VR.mapp (E := E.more s.n w.heap.size 0) s.n (E.more_ok _ _ _)
    rw [AEnv.more_r] at this
    exact this
/-- A look over a map begins. -/
noncomputable def rangeA (P : Program) (t : Nat) (x : AV) (s : AS) : Option (AV × AS) := match P.underlying t with
  | some (.map _ _) => match x with
    | .mapp m => match s.get m with
      | .mapb _ clock => cond (Nat.ble (Nat.succ s.n) 1000000000) (some (.ptr s.n 0, s.new (.iter m clock none))) none
      | _ => none
    | _ => none
  | _ => none
theorem rangeA_ok [Tab] {P : Program} {t : Nat} {x v : AV} {y : Value} {s s' : AS} {E : AEnv} {w : World} (h : HR E s.get w) (hi : ¬ E.ok s.n) (hx : VR E x y) (he : rangeA P t x s = some (v, s')) : Ran P (Instr.range t y) w E s v s' := by
  unfold rangeA at he
  split at he
  · rename_i kt et hu
    split at he
    · rename_i m
      split at he
      · rename_i es clock hg
        cases hb : Nat.ble (Nat.succ s.n) 1000000000 with
        | false => rw [hb] at he; cases he
        | true =>
          rw [hb] at he
          injection he with he
          injection he with e1 e2
          subst e1
          subst e2
          have hl : s.n < 1000000000 := Nat.le_of_ble_eq_true hb
          cases hx with
          | mapp m hm =>
          obtain ⟨_, xs, h1, _⟩ := h.mapb hg
          have hle := E.le_more s.n w.heap.size 0 hi (.mapIter (some (E.r m)) clock #[] clock)
          obtain ⟨r1, r2⟩ := h.newAt hi hl (.iter m clock none) (s.get_new _ hl) (fun b hb => s.get_new_ne _ b hb) (.mapIter (some (E.r m)) clock #[] clock) 0 _ (.inl rfl) (.mapIter (some (E.r m)) clock #[] clock) ⟨hle.ok m hm, AEnv.more_z _ _ _ _ _, #[], by rw [hle.r m hm], rfl⟩
          refine ⟨.pointer (some ⟨w.heap.size, 0, none⟩), w.alloc (.mapIter (some (E.r m)) clock #[] clock), _, by simp [Instr.range, run_underlying hu, getObj, Sem.run, h1, newObj], ?_, r1, r2, E.grow_more _ _ _⟩
          have := VR.ptr (E := E.more s.n w.heap.size 0 (.mapIter (some (E.r m)) clock #[] clock)) s.n 0 (E.more_ok _ _ _)
          rw [AEnv.more_r] at this
          exact this
      · cases he
    · cases he
  · cases he
noncomputable def stampA (st : Nat) : List (AV × AV × Nat) → Option (AV × AV)
  | [] => none
  | e :: r => cond (Nat.beq e.2.2 st) (some (e.1, e.2.1)) (stampA st r)
noncomputable def entryA (x : AV) (s : AS) : Option AV := match x with
  | .ptr b 0 => match s.get b with
    | .iter m clock (some st) => match s.get m with
      | .mapb es c2 => cond (Nat.beq c2 clock) (match stampA st es with
        | some p => some (.tup [p.1, p.2])
        | none => none) none
      | _ => none
    | _ => none
  | _ => none
theorem stampA_ok [Tab] {E : AEnv} {st : Nat} {p : AV × AV} : ∀ (es : List (AV × AV × Nat)) (l : List MapEntry), VL E (es.map (·.1)) (l.map (·.key)) → VL E (es.map (·.2.1)) (l.map (·.val)) → es.map (·.2.2) = l.map (·.born) → stampA st es = some p →
    ∃ e, l.find? (·.born == st) = some e ∧ VR E p.1 e.key ∧ VR E p.2 e.val
  | [], _, _, _, _, h => by cases h
  | e :: es, [], _, _, h, _ => by simp at h
  | e :: es, m :: l, h1, h2, h3, h => by
    simp only [List.map_cons, List.cons.injEq] at h3
    unfold stampA at h
    cases hb : Nat.beq e.2.2 st with
    | true =>
      rw [hb] at h
      injection h with h
      subst h
      have := Nat.eq_of_beq_eq_true hb
      exact ⟨m, by rw [List.find?_cons, ← h3.1, this]; simp, h1.head, h2.head⟩
    | false =>
      rw [hb] at h
      obtain ⟨e', q1, q2, q3⟩ := stampA_ok es l h1.tail h2.tail h3.2 h
      refine ⟨e', ?_, q2, q3⟩
      have hne : (m.born == st) = false := by
        rw [← h3.1, beq_eq_false_iff_ne]
        exact fun e => by rw [e, Nat.beq_refl] at hb; cases hb
      rw [List.find?_cons, hne]
      exact q1
theorem entryA_ok [Tab] {P : Program} {x v : AV} {y : Value} {s : AS} {E : AEnv} {w : World} (h : HR E s.get w) (hx : VR E x y) (he : entryA x s = some v) : ∃ z, (Instr.entry y).run P w = .ok z w ∧ VR E v z := by
  unfold entryA at he
  split at he
  · rename_i b
    split at he
    · rename_i m clock st hg
      split at he
      · rename_i es c2 hgm
        cases hc : Nat.beq c2 clock with
        | false => rw [hc] at he; cases he
        | true =>
          rw [hc] at he
          simp only [cond_true] at he
          have := Nat.eq_of_beq_eq_true hc
          subst this
          split at he
          · rename_i p hp
            injection he with he
            subst he
            cases hx with
            | ptr b o hb =>
            obtain ⟨_, _, o, h1, h2⟩ := h.at_ b (by rw [hg]; intro e; cases e)
            rw [hg] at h2
            obtain ⟨hm, _, seen, rfl, hbk⟩ := h2
            obtain ⟨_, xs, h3, h4, h5, h6⟩ := h.mapb hgm
            obtain ⟨e, q1, q2, q3⟩ := stampA_ok es xs.toList h4 h5 h6 hp
            refine ⟨.tuple #[e.key, e.val], ?_, (VL.cons q2 (VL.cons q3 VL.nil)).tup (a := #[e.key, e.val])⟩
            have q1' : xs.find? (fun x => x.born == st) = some e := by rw [← Array.find?_toList]; exact q1
            simp [Instr.entry, getObj, Sem.run, h1, hbk, h3, q1']
          · cases he
      · cases he
    · cases he
  · cases he
end Go.Proofs.YtambgppdjlhdaaaGreatDoor
