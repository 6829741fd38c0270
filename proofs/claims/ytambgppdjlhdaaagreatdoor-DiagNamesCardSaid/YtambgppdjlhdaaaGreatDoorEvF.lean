/-
  The abstract machine's operations: parts, places, slices, conversions. No program.
-/
import Derived.Test.YtambgppdjlhdaaaGreatDoorEvE
namespace Go.Proofs.YtambgppdjlhdaaaGreatDoor
open Go.RowKit

/-- A byte of a string; an element of an array. -/
noncomputable def indexA (P : Program) (t : Nat) (a i : AV) : Option AV := match a with
  | .str l => match P.underlying t with
    | some .string => match natA l.length i with
      | some m => match l[m]? with
        | some c => some (.int .u8 (Int.ofNat c.toNat))
        | none => none
      | none => none
    | _ => none
  | .agg l => match P.underlying t with
    | some (.array len e) => match P.underlying e with
      | some d => match P.info? e with
        | some ie => cond (rowD d) none (cond (Nat.beq ie.size 1) (match natA len i with
          | some m => cond (Nat.ble (Nat.succ m) len) l[m]? none
          | none => none) none)
        | none => none
      | none => none
    | _ => none
  | _ => none
theorem mk_get (l : List UInt8) (m : Nat) : (⟨l.toArray⟩ : ByteArray)[m]? = l[m]? := by
  by_cases h : m < l.length
  · have h' : m < (⟨l.toArray⟩ : ByteArray).size := by simpa [ByteArray.size] using h
    rw [ByteArray.getElem?_lt' _ _ h', List.getElem?_eq_getElem h]
    rfl
  · have h' : ¬ m < (⟨l.toArray⟩ : ByteArray).size := by simpa [ByteArray.size] using h
    rw [ByteArray.getElem?_ge' _ _ h', List.getElem?_eq_none (by omega)]
theorem indexA_ok [Tab] {P : Program} {t : Nat} {a i v : AV} {x y : Value} {E : AEnv} {w : World} (ha : VR E a x) (hi : VR E i y) (h : indexA P t a i = some v) : ∃ z, (Instr.index t x y).run P w = .ok z w ∧ VR E v z := by
  unfold indexA at h
  split at h
  · rename_i l
    split at h
    · rename_i hu
      split at h
      · rename_i m hm
        split at h
        · rename_i c hc
          injection h with h
          subst h
          obtain ⟨k, rfl, _⟩ := natA_ok hi hm
          cases ha
          exact ⟨.int .u8 c.toNat, by simp [Instr.index, asIntOf, run_underlying hu, mk_get, hc], .int _ _⟩
        · cases h
      · cases h
    · cases h
  · rename_i l
    split at h
    · rename_i len e hu
      split at h
      · rename_i d hd
        split at h
        · rename_i ie hie
          cases hr : rowD d with
          | true => rw [hr] at h; cases h
          | false =>
          cases h1 : Nat.beq ie.size 1 with
          | false => rw [hr, h1] at h; cases h
          | true =>
            rw [hr, h1] at h
            simp only [cond_false, cond_true] at h
            split at h
            · rename_i m hm
              cases h2 : Nat.ble (Nat.succ m) len with
              | false => rw [h2] at h; cases h
              | true =>
                rw [h2] at h
                simp only [cond_true] at h
                obtain ⟨k, rfl, _⟩ := natA_ok hi hm
                obtain ⟨u, rfl, hu2⟩ := ha.agg_inv
                obtain ⟨z, hz, hzv⟩ := hu2.exists_at h
                have hlt : (m : Int) < (len : Int) := by have := Nat.le_of_ble_eq_true h2; omega
                have hsz := Nat.eq_of_beq_eq_true h1
                have hz' : u[m]? = some z := by simpa using hz
                refine ⟨z, ?_, hzv⟩
                have hlt2 : ¬ len ≤ m := by omega
                simp [Instr.index, asIntOf, run_underlying hu, sizeOf, typeInfo, hie, hsz, part, isAgg_run hd, hr, hz']
                intro hc
                exact absurd hc hlt2
            · cases h
        · cases h
      · cases h
    · cases h
  · cases h
noncomputable def fieldAt (P : Program) (t f : Nat) : Option (Nat × Nat × Bool) := match P.underlying t with
  | some (.struct fs) => match fs[f]? with
    | some fd => match P.info? fd.type with
      | some i => match P.underlying fd.type with
        | some d => some (fd.offset, i.size, rowD d)
        | none => none
      | none => none
    | none => none
  | _ => none
noncomputable def fieldAddrA (P : Program) (t f : Nat) (a : AV) : Option AV := match a with
  | .ptr b o => match fieldAt P t f with
    | some q => cond (Nat.beq q.2.1 0) none (some (.ptr b (Nat.add o q.1)))
    | none => none
  | _ => none
theorem fieldAddrA_ok {P : Program} {t f : Nat} {a v : AV} {x : Value} {E : AEnv} {w : World} (ha : VR E a x) (h : fieldAddrA P t f a = some v) : ∃ z, (Instr.fieldAt t x f).run P w = .ok z w ∧ VR E v z := by
  unfold fieldAddrA at h
  split at h
  · rename_i b o
    split at h
    · rename_i q hq
      cases hz : Nat.beq q.2.1 0 with
      | true => rw [hz] at h; cases h
      | false =>
        rw [hz] at h
        injection h with h
        subst h
        unfold fieldAt at hq
        split at hq
        · rename_i fs hu
          split at hq
          · rename_i fd hfd
            split at hq
            · rename_i i hi
              split at hq
              · injection hq with hq
                subst hq
                have hne : i.size ≠ 0 := fun e => by simp [e] at hz
                cases ha with
                | ptr b o hb =>
                exact ⟨_, by simp [Instr.fieldAt, run_underlying hu, hfd, Instr.sureAddr, fieldPlace, sizeOf, typeInfo, hi, hne, Addr.add_lit], .ptr _ _ hb⟩
              · cases hq
            · cases hq
          · cases hq
        · cases hq
    · cases h
  · cases h
noncomputable def fieldA (P : Program) (t f : Nat) (a : AV) : Option AV := match a with
  | .agg cs => match fieldAt P t f with
    | some q => cond q.2.2 (cond (Nat.ble (Nat.add q.1 q.2.1) cs.length) (some (.agg ((cs.drop q.1).take q.2.1))) none) cs[q.1]?
    | none => none
  | _ => none
theorem fieldA_ok [Tab] {P : Program} {t f : Nat} {a v : AV} {x : Value} {E : AEnv} {w : World} (ha : VR E a x) (h : fieldA P t f a = some v) : ∃ z, (Instr.field t x f).run P w = .ok z w ∧ VR E v z := by
  unfold fieldA at h
  split at h
  · rename_i cs
    obtain ⟨c, rfl, hc⟩ := ha.agg_inv
    split at h
    · rename_i q hq
      unfold fieldAt at hq
      split at hq
      · rename_i fs hu
        split at hq
        · rename_i fd hfd
          split at hq
          · rename_i i hi
            split at hq
            · rename_i d hd
              injection hq with hq
              subst hq
              dsimp only at h
              cases hr : rowD d with
              | true =>
                rw [hr] at h
                simp only [cond_true] at h
                cases hl : Nat.ble (Nat.add fd.offset i.size) cs.length with
                | false => rw [hl] at h; cases h
                | true =>
                  rw [hl] at h
                  injection h with h
                  subst h
                  refine ⟨.agg (c.extract fd.offset (fd.offset + i.size)), by simp [Instr.field, run_underlying hu, hfd, asAgg, part, isAgg_run hd, hr, sizeOf, typeInfo, hi], VL.agg ?_⟩
                  have := (hc.drop fd.offset).take i.size
                  rw [Array.toList_extract]
                  simpa [List.extract] using this
              | false =>
                rw [hr] at h
                simp only [cond_false] at h
                obtain ⟨z, hz, hv⟩ := hc.exists_at h
                exact ⟨z, by simp [Instr.field, run_underlying hu, hfd, asAgg, part, isAgg_run hd, hr, show c[fd.offset]? = some z by simpa using hz], hv⟩
            · cases hq
          · cases hq
        · cases hq
      · cases hq
    · cases h
  · cases h
noncomputable def extractA (a : AV) (i : Nat) : Option AV := match a with
  | .tup vs => vs[i]?
  | _ => none
theorem extractA_ok [Tab] {P : Program} {i : Nat} {a v : AV} {x : Value} {E : AEnv} {w : World} (ha : VR E a x) (h : extractA a i = some v) : ∃ z, (Instr.extract x i).run P w = .ok z w ∧ VR E v z := by
  unfold extractA at h
  split at h
  · obtain ⟨c, rfl, hc⟩ := ha.tup_inv
    obtain ⟨z, hz, hv⟩ := hc.exists_at h
    exact ⟨z, by simp [Instr.extract, show c[i]? = some z by simpa using hz], hv⟩
  · cases h
/-- Bounds of a slice. -/
noncomputable def bndA (y d : Nat) : Option AV → Option Nat
  | none => some d
  | some a => natA y a
noncomputable def OR (E : AEnv) : Option AV → Option Value → Prop
  | none, none => True
  | some a, some x => VR E a x
  | _, _ => False
theorem bnd_run {P : Program} {y m : Nat} {k : IntKind} (code : BoundsCode) (w : World) (h : m ≤ y) : (Instr.sliceBound (.int k (m : Int)) y code).run P w = .ok m w := by
  simp [Instr.sliceBound, asIntOf]
  omega
noncomputable def sliceA (P : Program) (t : Nat) (a : AV) (lo hi mx : Option AV) : Option AV := match P.underlying t with
  | some .string => match a, mx with
    | .str l, none => match bndA l.length l.length hi with
      | some h => match bndA h 0 lo with
        | some q => some (.str ((l.drop q).take (Nat.sub h q)))
        | none => none
      | none => none
    | _, _ => none
  | some (.slice e) => match P.info? e with
    | some ie => match a with
      | .sl b o len cap => match bndA cap cap mx with
        | some m => match bndA m len hi with
          | some h => match bndA h 0 lo with
            | some q => cond (match hi, mx with | none, some _ => true | _, _ => false) none (some (.sl b (cond (Nat.beq m q) o (Nat.add o (Nat.mul q ie.size))) (Nat.sub h q) (Nat.sub m q)))
            | none => none
          | none => none
        | none => none
      | .slu b o len esz => cond (Nat.beq esz ie.size) (match mx with
        | some x => match natA len x, hi with
          | some m, some hv => match natA m hv with
            | some h => match bndA h 0 lo with
              | some q => some (.sl b (cond (Nat.beq m q) o (Nat.add o (Nat.mul q ie.size))) (Nat.sub h q) (Nat.sub m q))
              | none => none
            | none => none
          | _, _ => none
        | none => match bndA len len hi with
          | some h => match bndA h 0 lo with
            | some q => cond (Nat.ble (Nat.succ q) len) (some (.slu b (Nat.add o (Nat.mul q ie.size)) (Nat.sub h q) esz)) (cond (Nat.beq q len) (some .sle) none)
            | none => none
          | none => none) none
      | .nils => match mx with
        | none => match bndA 0 0 hi with
          | some _ => match bndA 0 0 lo with
            | some _ => some .nils
            | none => none
          | none => none
        | some x => match hi with
          | none => none
          | some y => match natA 0 x with
            | some _ => match natA 0 y with
              | some _ => match bndA 0 0 lo with
                | some _ => some .nils
                | none => none
              | none => none
            | none => none
      | _ => none
    | none => none
  | _ => none
theorem bndA_ok [Tab] {y d m : Nat} {a : Option AV} {x : Option Value} {E : AEnv} (ha : OR E a x) (h : bndA y d a = some m) : (x = none ∧ m = d) ∨ ∃ k, x = some (.int k (m : Int)) ∧ m ≤ y := by
  cases a with
  | none =>
    cases x with
    | none => injection h with h; exact .inl ⟨rfl, h.symm⟩
    | some x => exact ha.elim
  | some a =>
    cases x with
    | none => exact ha.elim
    | some x =>
      obtain ⟨k, rfl, hle⟩ := natA_ok ha h
      exact .inr ⟨k, rfl, hle⟩
theorem bounds2 [Tab] {P : Program} (isS : Bool) {len cap h q : Nat} {lo hi : Option Value} (w : World) (hh : (hi = none ∧ h = len) ∨ ∃ k, hi = some (.int k (h : Int)) ∧ h ≤ cap) (hl : (lo = none ∧ q = 0) ∨ ∃ k, lo = some (.int k (q : Int)) ∧ q ≤ h) :
    (Instr.sliceBounds isS len cap lo hi none).run P w = .ok (q, h, cap) w := by
  rcases hh with ⟨rfl, rfl⟩ | ⟨k, rfl, h1⟩ <;> rcases hl with ⟨rfl, rfl⟩ | ⟨k', rfl, h2⟩ <;> simp [Instr.sliceBounds, bnd_run, *]
theorem bounds3 [Tab] {P : Program} {len cap m h q : Nat} {k k2 : IntKind} {lo : Option Value} (w : World) (hl : (lo = none ∧ q = 0) ∨ ∃ k, lo = some (.int k (q : Int)) ∧ q ≤ h) (h0 : m ≤ cap) (h1 : h ≤ m) :
    (Instr.sliceBounds true len cap lo (some (.int k (h : Int))) (some (.int k2 (m : Int)))).run P w = .ok (q, h, m) w := by
  rcases hl with ⟨rfl, rfl⟩ | ⟨k', rfl, h2⟩ <;> simp [Instr.sliceBounds, bnd_run, *]
theorem bnd_le [Tab] {y d m : Nat} {a : Option AV} {x : Option Value} {E : AEnv} (ha : OR E a x) (h : bndA y d a = some m) (hd : d ≤ y) : m ≤ y := by
  rcases bndA_ok ha h with ⟨_, rfl⟩ | ⟨_, _, h⟩
  · exact hd
  · exact h
theorem sliceA_run {P : Program} {t e : Nat} {ie : TypeInfo} {b o len cap q h m : Nat} {lo hi mx : Option Value} {w : World} (hu : P.underlying t = some (.slice e)) (hie : P.info? e = some ie)
    (hb : (Instr.sliceBounds true len cap lo hi mx).run P w = .ok (q, h, m) w) :
    (Instr.sliceAt t (.slice (some ⟨b, o, none⟩) len cap) lo hi mx).run P w = .ok (.slice (some ⟨b, cond (Nat.beq m q) o (o + q * ie.size), none⟩) (h - q) (m - q)) w := by
  simp [Instr.sliceAt, Instr.slice, run_underlying hu, hb, sizeOf, typeInfo, hie]
  by_cases e : m = q
  · subst e
    simp
  · rw [if_neg e]
    have : Nat.beq m q = false := by rw [Bool.eq_false_iff]; exact fun h' => e (Nat.eq_of_beq_eq_true h')
    rw [this]
    simp [Addr.add_lit]
theorem sliceA_ok [Tab] {P : Program} {t : Nat} {a v : AV} {lo hi mx : Option AV} {x : Value} {lo' hi' mx' : Option Value} {E : AEnv} {w : World} (ha : VR E a x) (hlo : OR E lo lo') (hhi : OR E hi hi') (hmx : OR E mx mx') (h : sliceA P t a lo hi mx = some v) :
    ∃ z, (Instr.sliceAt t x lo' hi' mx').run P w = .ok z w ∧ VR E v z := by
  unfold sliceA at h
  split at h
  · rename_i hu
    split at h
    · rename_i l
      split at h
      · rename_i hh hbh
        split at h
        · rename_i q hbq
          injection h with h
          subst h
          cases ha
          cases mx' with
          | some _ => exact hmx.elim
          | none =>
            have := bounds2 (P := P) false (len := l.length) (cap := l.length) w (bndA_ok hhi hbh) (bndA_ok hlo hbq)
            exact ⟨.string ⟨((l.drop q).take (hh - q)).toArray⟩, by simp [Instr.sliceAt, Instr.slice, run_underlying hu, ByteArray.size_mk', this, ByteArray.extract_mk], .str _⟩
        · cases h
      · cases h
    · cases h
  · rename_i e hu
    split at h
    · rename_i ie hie
      split at h
      · rename_i b o len cap
        cases ha with
        | sl b o len cap hb =>
        split at h
        · rename_i m hbm
          split at h
          · rename_i hh hbh
            split at h
            · rename_i q hbq
              cases mx with
              | none =>
                cases mx' with
                | some _ => exact hmx.elim
                | none =>
                  injection hbm with hbm
                  subst hbm
                  have h' : some (AV.sl b (cond (Nat.beq cap q) o (o + q * ie.size)) (hh - q) (cap - q)) = some v := by cases hi <;> exact h
                  injection h' with h'
                  subst h'
                  exact ⟨_, sliceA_run hu hie (bounds2 true w (bndA_ok hhi hbh) (bndA_ok hlo hbq)), .sl _ _ _ _ hb⟩
              | some x =>
                cases hi with
                | none => cases h
                | some y =>
                  replace h : some (AV.sl b (cond (Nat.beq m q) o (o + q * ie.size)) (hh - q) (m - q)) = some v := h
                  injection h with h'
                  subst h'
                  rcases bndA_ok hmx hbm with ⟨e1, _⟩ | ⟨k2, rfl, g1⟩
                  · subst e1; exact hmx.elim
                  · rcases bndA_ok hhi hbh with ⟨e1, _⟩ | ⟨k, rfl, g2⟩
                    · subst e1; exact hhi.elim
                    · exact ⟨_, sliceA_run hu hie (bounds3 w (bndA_ok hlo hbq) g1 g2), .sl _ _ _ _ hb⟩
            · cases h
          · cases h
        · cases h
      · rename_i b o len esz
        cases ha with
        | slu b o len esz cap hb hl hk =>
        cases hes : Nat.beq esz ie.size with
        | false => rw [hes] at h; cases h
        | true =>
          rw [hes] at h
          simp only [cond_true] at h
          have hee : esz = ie.size := Nat.eq_of_beq_eq_true hes
          split at h
          · rename_i x
            cases mx' with
            | none => exact hmx.elim
            | some x' =>
              split at h
              · rename_i m hv hm
                cases hi' with
                | none => exact hhi.elim
                | some y' =>
                  split at h
                  · rename_i hh hbh
                    split at h
                    · rename_i q hbq
                      injection h with h
                      subst h
                      obtain ⟨k2, rfl, g1⟩ := natA_ok hmx hm
                      obtain ⟨k, rfl, g2⟩ := natA_ok hhi hbh
                      exact ⟨_, sliceA_run hu hie (bounds3 w (bndA_ok hlo hbq) (by omega) g2), .sl _ _ _ _ hb⟩
                    · cases h
                  · cases h
              · cases h
          · cases mx' with
            | some _ => exact hmx.elim
            | none =>
              split at h
              · rename_i hh hbh
                split at h
                · rename_i q hbq
                  cases hq : Nat.ble (Nat.succ q) len with
                  | false =>
                    rw [hq] at h
                    cases hq2 : Nat.beq q len with
                    | false => rw [hq2] at h; cases h
                    | true =>
                      rw [hq2] at h
                      injection h with h
                      subst h
                      have hql : q = len := Nat.eq_of_beq_eq_true hq2
                      have hhl := bnd_le hhi hbh (Nat.le_refl _)
                      have hqh := bnd_le hlo hbq (Nat.zero_le _)
                      have hr := sliceA_run (P := P) (b := E.r b) (o := o) (w := w) hu hie (bounds2 true (len := len) (cap := cap) (lo := lo') (hi := hi') w ((bndA_ok hhi hbh).imp id fun ⟨k, h1, h2⟩ => ⟨k, h1, by omega⟩) (bndA_ok hlo hbq))
                      have e : Nat.sub hh q = 0 := by show hh - q = 0; omega
                      have e' : hh - q = 0 := e
                      simp only [e'] at hr
                      exact ⟨_, hr, .sle _ _⟩
                  | true =>
                    rw [hq] at h
                    injection h with h
                    subst h
                    have hql : q + 1 ≤ len := Nat.le_of_ble_eq_true hq
                    have hhl := bnd_le hhi hbh (Nat.le_refl _)
                    have hne : Nat.beq cap q = false := by rw [Bool.eq_false_iff]; exact fun h' => by have := Nat.eq_of_beq_eq_true h'; omega
                    have hr := sliceA_run (P := P) (b := E.r b) (o := o) (w := w) hu hie (bounds2 true (len := len) (cap := cap) (lo := lo') (hi := hi') w ((bndA_ok hhi hbh).imp id fun ⟨k, h1, h2⟩ => ⟨k, h1, by omega⟩) (bndA_ok hlo hbq))
                    rw [hne] at hr
                    refine ⟨_, hr, ?_⟩
                    refine .slu b (o + q * ie.size) (hh - q) esz (cap - q) hb (by omega) ?_
                    rw [← hk, hee, Nat.sub_mul]
                    have : q * ie.size ≤ cap * ie.size := Nat.mul_le_mul_right _ (by omega)
                    omega
                · cases h
              · cases h
      · cases ha
        split at h
        · cases mx' with
          | some _ => exact hmx.elim
          | none =>
            split at h
            · rename_i hh hbh
              split at h
              · rename_i q hbq
                injection h with h
                subst h
                have g1 := bnd_le hhi hbh (Nat.le_refl _)
                have g2 := bnd_le hlo hbq (Nat.le_refl _)
                have e1 : hh = 0 := by omega
                have e2 : q = 0 := by omega
                subst e1
                subst e2
                have := bounds2 (P := P) true (len := 0) (cap := 0) w (bndA_ok hhi hbh) (bndA_ok hlo hbq)
                exact ⟨.slice none 0 0, by simp [Instr.sliceAt, Instr.slice, run_underlying hu, this, sizeOf, typeInfo, hie], .nils⟩
              · cases h
            · cases h
        · cases mx' with
          | none => exact hmx.elim
          | some x' =>
            split at h
            · cases h
            · cases hi' with
              | none => exact hhi.elim
              | some y' =>
                split at h
                · rename_i m hm
                  split at h
                  · rename_i hh hbh
                    split at h
                    · rename_i q hbq
                      injection h with h
                      subst h
                      obtain ⟨k2, rfl, g1⟩ := natA_ok hmx hm
                      obtain ⟨k, rfl, g2⟩ := natA_ok hhi hbh
                      have g3 := bnd_le hlo hbq (Nat.le_refl _)
                      have e1 : m = 0 := by omega
                      have e2 : hh = 0 := by omega
                      have e3 : q = 0 := by omega
                      subst e1
                      subst e2
                      subst e3
                      have := bounds3 (P := P) (len := 0) (cap := 0) (k := k) (k2 := k2) w (bndA_ok hlo hbq) (Nat.le_refl 0) (Nat.le_refl 0)
                      rw [show ((0 : Nat) : Int) = 0 from rfl] at this
                      exact ⟨.slice none 0 0, by simp [Instr.sliceAt, Instr.slice, run_underlying hu, this, sizeOf, typeInfo, hie], .nils⟩
                    · cases h
                  · cases h
                · cases h
      · cases h
    · cases h
  · cases h
end Go.Proofs.YtambgppdjlhdaaaGreatDoor
