/-
  The abstract machine: loops over maps: the rule. No program.
-/
import Derived.Test.YtambgppdjlhdaaaGreatDoorEvS
namespace Go.Proofs.YtambgppdjlhdaaaGreatDoor
open Go.RowKit

theorem VR.back {E F : AEnv} (hE : E.le F) {v : AV} {x0 : Value} (h0 : VR E v x0) : ∀ {x : Value}, VR F v x → VR E v x := by
  induction h0 with
  | top _ => intro x _; exact .top x
  | undef => intro x h; cases h; exact .undef
  | int k n => intro x h; cases h; exact .int k n
  | bool b => intro x h; cases h; exact .bool b
  | str l => intro x h; cases h; exact .str l
  | nilp => intro x h; cases h; exact .nilp
  | ptr b o hb => intro x h; cases h; rw [hE.r b hb]; exact .ptr b o hb
  | nils => intro x h; cases h; exact .nils
  | sl b o len cap hb => intro x h; cases h; rw [hE.r b hb]; exact .sl b o len cap hb
  | slu b o len esz cap hb hl hk =>
    intro x h
    cases h with
    | slu b o len esz cap2 hb2 hl2 hk2 => rw [hE.r b hb]; exact .slu b o len esz cap2 hb hl2 (by rw [hk2, hE.k b hb])
  | nilm => intro x h; cases h; exact .nilm
  | mapp b hb => intro x h; cases h; rw [hE.r b hb]; exact .mapp b hb
  | nilfn => intro x h; cases h; exact .nilfn
  | fn f cs vs hl hh ih =>
    intro x h
    cases h with
    | fn f cs us hl2 hh2 =>
      refine .fn f cs us hl2 fun i c u hc hu => ?_
      have hi : i < vs.size := by rw [← hl]; exact (List.getElem?_eq_some_iff.1 hc).1
      exact ih i c vs[i] hc (Array.getElem?_eq_getElem hi) (hh2 i c u hc hu)
  | fnm f cs vs hl hh ih =>
    intro x h
    cases h with
    | fnm f cs us hl2 hh2 =>
      refine .fnm f cs us hl2 fun i c u hc hu => ?_
      have hi : i < vs.size := by rw [← hl]; exact (List.getElem?_eq_some_iff.1 hc).1
      exact ih i c vs[i] hc (Array.getElem?_eq_getElem hi) (hh2 i c u hc hu)
  | nili => intro x h; cases h; exact .nili
  | ifc t a v hv ih =>
    intro x h
    cases h with
    | ifc t a u hu => exact .ifc t a u (ih hu)
  | agg cs vs hl hh ih =>
    intro x h
    cases h with
    | agg cs us hl2 hh2 =>
      refine .agg cs us hl2 fun i c u hc hu => ?_
      have hi : i < vs.size := by rw [← hl]; exact (List.getElem?_eq_some_iff.1 hc).1
      exact ih i c vs[i] hc (Array.getElem?_eq_getElem hi) (hh2 i c u hc hu)
  | tup cs vs hl hh ih =>
    intro x h
    cases h with
    | tup cs us hl2 hh2 =>
      refine .tup cs us hl2 fun i c u hc hu => ?_
      have hi : i < vs.size := by rw [← hl]; exact (List.getElem?_eq_some_iff.1 hc).1
      exact ih i c vs[i] hc (Array.getElem?_eq_getElem hi) (hh2 i c u hc hu)
  | symI b k lo hi n hb hn h1 h2 =>
    intro x h
    cases h with
    | symI _ _ _ _ m hb2 hm g1 g2 => exact .symI b k lo hi m hb (by rw [← hE.k b hb]; exact hm) g1 g2
  | symS b s hb hs =>
    intro x h
    cases h with
    | symS _ t hb2 ht => exact .symS b t hb (by rw [← hE.k b hb]; exact ht)
  | symT b lo hi n hb hn h1 h2 =>
    intro x h
    cases h with
    | symT _ _ _ m hb2 hm g1 g2 => exact .symT b lo hi m hb (by rw [← hE.k b hb]; exact hm) g1 g2
  | symZ n s hn =>
    intro x h
    cases h with
    | symZ _ t ht => exact .symZ n t ht
  | sle a c => intro x h; cases h; exact .sle _ _
theorem VL.back [Tab] {E F : AEnv} (hE : E.le F) {l : List AV} {a0 a : List Value} (h0 : VL E l a0) (h : VL F l a) : VL E l a :=
  ⟨h.len, fun i c v hc hv => by
    obtain ⟨v0, q1, q2⟩ := h0.exists_at hc
    exact q2.back hE (h.at_ i c v hc hv)⟩
theorem BR.back [Tab] {E F : AEnv} (hE : E.le F) {b : Nat} (hb : E.ok b) (hz : F.z b = E.z b) {x : AB} {o0 o : Obj} (h0 : BR E b x o0) (h : BR F b x o) : BR E b x o := by
  cases x with
  | none => trivial
  | cells cs ty =>
    obtain ⟨c0, _, _, _, _, h4, _⟩ := h0
    obtain ⟨c, fz, q1, q2, q3, q4, q5⟩ := h
    exact ⟨c, fz, q1, by rw [q2, hE.k b hb], q3, h4.back hE q4, q5⟩
  | froz cs ty =>
    obtain ⟨c0, _, _, _, _, h4⟩ := h0
    obtain ⟨c, fz, q1, q2, q3, q4⟩ := h
    exact ⟨c, fz, q1, by rw [q2, hE.k b hb], q3, h4.back hE q4⟩
  | mapb es clock =>
    obtain ⟨_, _, h2, h3, _⟩ := h0
    obtain ⟨xs, q1, q2, q3, q4⟩ := h
    exact ⟨xs, q1, h2.back hE q2, h3.back hE q3, q4⟩
  | iter m clock cur =>
    obtain ⟨h1, _, _⟩ := h0
    obtain ⟨q1, q2, seen, q3, q4⟩ := h
    exact ⟨h1, hz.symm.trans q2, seen, by rw [q3, hE.r m h1], q4⟩
  | zero n ty =>
    obtain ⟨c, q1, q2, q3⟩ := h
    exact ⟨c, q1, q2, by rw [q3, hE.k b hb]⟩
noncomputable def AEnv.setz (E : AEnv) (i : Nat) (o : Obj) : AEnv := ⟨E.ok, E.r, E.k, fun b => if b = i then o else E.z b⟩
theorem AEnv.le_setz (E : AEnv) (i : Nat) (o : Obj) : E.le (E.setz i o) := ⟨fun _ h => h, fun _ _ => rfl, fun _ _ => rfl⟩
theorem AEnv.setz_le (E : AEnv) (i : Nat) (o : Obj) : (E.setz i o).le E := ⟨fun _ h => h, fun _ _ => rfl, fun _ _ => rfl⟩
theorem AEnv.setz_ne (E : AEnv) {i b : Nat} (o : Obj) (h : b ≠ i) : (E.setz i o).z b = E.z b := if_neg h
theorem AEnv.setz_eq (E : AEnv) (i : Nat) (o : Obj) : (E.setz i o).z i = o := if_pos rfl

noncomputable def nextHead (x : Code) : Option (Nat × Nat × Nat × Code) := match x with
  | .seq (.region _ ops false) rest => match ops.toList with
    | [o1, o2] => match o1.guard with
      | none => match o2.guard with
        | none => match o1.op with
          | .next (.tmp it) false => match o2.op with
            | .extract (.tmp d2) 0 => match o1.dst with
              | some d0 => match o2.dst with
                | some d1 => cond (Nat.beq d0 d2) (some (it, d0, d1, rest)) none
                | none => none
              | none => none
            | _ => none
          | _ => none
        | some _ => none
      | some _ => none
    | _ => none
  | _ => none
theorem nextHead_ok {x rest : Code} {it d0 d1 : Nat} (h : nextHead x = some (it, d0, d1, rest)) : ∃ id ops o1 o2, x = .seq (.region id ops false) rest ∧ ops.toList = [o1, o2] ∧ o1.guard = none ∧ o2.guard = none ∧ o1.op = .next (.tmp it) false ∧ o2.op = .extract (.tmp d0) 0 ∧ o1.dst = some d0 ∧ o2.dst = some d1 := by
  unfold nextHead at h
  split at h
  · rename_i id ops rest'
    split at h
    · rename_i o1 o2 hops
      split at h
      · rename_i hg1
        split at h
        · rename_i hg2
          split at h
          · rename_i it' hop1
            split at h
            · rename_i d2 hop2
              split at h
              · rename_i d0' hd0
                split at h
                · rename_i d1' hd1
                  cases hb : Nat.beq d0' d2 with
                  | false => rw [hb] at h; cases h
                  | true =>
                    rw [hb] at h
                    have := Nat.eq_of_beq_eq_true hb
                    subst this
                    injection h with h
                    injection h with e1 h
                    injection h with e2 h
                    injection h with e3 e4
                    subst e1
                    subst e2
                    subst e3
                    subst e4
                    exact ⟨id, ops, o1, o2, rfl, hops, hg1, hg2, hop1, hop2, hd0, hd1⟩
                · cases h
              · cases h
            · cases h
          · cases h
        · cases h
      · cases h
    · cases h
  · cases h
/-- The slots that code writes. -/
noncomputable def dstsO : List Oper → List Nat → List Nat
  | [], l => l
  | o :: r, l => match o.dst with
    | some d => d :: dstsO r l
    | none => dstsO r l
noncomputable def dstsC : Code → List Nat → List Nat
  | .region _ ops _, l => dstsO ops.toList l
  | .seq a b, l => dstsC a (dstsC b l)
  | .cond _ a b, l => dstsC a (dstsC b l)
  | .block _ a, l => dstsC a l
  | .loop a, l => dstsC a l
  | _, l => l
noncomputable def weakT : List Nat → Tr AV → Tr AV
  | [], t => t
  | k :: r, t => cond (Nat.ble k 1000000) (weakT r (t.set .top .top 20 k)) (weakT r t)
theorem weakT_ok [Tab] {E : AEnv} {nt : Nat} {a : Act} : ∀ (l : List Nat) (t : Tr AV), TR E nt (t.get .top) a → TR E nt ((weakT l t).get .top) a
  | [], _, h => h
  | k :: r, t, h => by
    unfold weakT
    cases hb : Nat.ble k 1000000 with
    | false => exact weakT_ok r t h
    | true =>
      have hk : k ≤ 1000000 := Nat.le_of_ble_eq_true hb
      refine weakT_ok r _ ⟨h.size, h.lim, fun j => ?_⟩
      by_cases e : j = k
      · subst e
        rw [Tr.get_set _ _ _ _ _ (by omega)]
        exact .top _
      · rw [Tr.get_set_ne _ _ _ _ _ _ e]
        exact h.at_ j
noncomputable def tempsB (tw t2 : Tr AV) : Nat → Bool
  | 0 => true
  | k + 1 => match tw.get .top k with
    | .top => tempsB tw t2 k
    | v => cond (eqAV (t2.get .top k) v) (tempsB tw t2 k) false
theorem tempsB_ok [Tab] {tw t2 : Tr AV} : ∀ (n : Nat), tempsB tw t2 n = true → ∀ k, k < n → tw.get .top k = .top ∨ t2.get .top k = tw.get .top k
  | 0, _, k, hk => absurd hk (Nat.not_lt_zero _)
  | n + 1, h, k, hk => by
    unfold tempsB at h
    split at h
    · rename_i ht
      rcases Nat.lt_succ_iff_lt_or_eq.1 hk with h1 | h1
      · exact tempsB_ok n h k h1
      · left; rw [h1]; exact ht
    · obtain ⟨h1, h2⟩ := cond_ff h
      rcases Nat.lt_succ_iff_lt_or_eq.1 hk with h3 | h3
      · exact tempsB_ok n h2 k h3
      · right; rw [h3]; exact eqAV_eq _ _ h1
noncomputable def eqEnts : List (AV × AV × Nat) → List (AV × AV × Nat) → Bool
  | [], [] => true
  | a :: l, b :: m => cond (eqAV a.1 b.1) (cond (eqAV a.2.1 b.2.1) (cond (Nat.beq a.2.2 b.2.2) (eqEnts l m) false) false) false
  | _, _ => false
theorem eqEnts_eq [Tab] : ∀ (l m : List (AV × AV × Nat)), eqEnts l m = true → l = m
  | [], [], _ => rfl
  | [], _ :: _, h => by cases h
  | _ :: _, [], h => by cases h
  | (a1, a2, a3) :: l, (b1, b2, b3) :: m, h => by
    unfold eqEnts at h
    obtain ⟨h1, h⟩ := cond_ff h
    obtain ⟨h2, h⟩ := cond_ff h
    obtain ⟨h3, h⟩ := cond_ff h
    rw [show a1 = b1 from eqAV_eq _ _ h1, show a2 = b2 from eqAV_eq _ _ h2, show a3 = b3 from Nat.eq_of_beq_eq_true h3, eqEnts_eq l m h]
/-- The slots behind an entry. -/
noncomputable def entT (tw : Tr AV) (d0 d1 : Nat) (v : AV) (b : Bool) : Tr AV := (tw.set .top v 20 d0).set .top (.bool b) 20 d1
noncomputable def minS (m bi clock st : Nat) (es : List (AV × AV × Nat)) (n : Nat) : AS := ⟨(Hp.nil.set m (.mapb es clock)).set bi (.iter m clock (some st)), n⟩
noncomputable def skipB (ev : Code → Tr AV → AS → Option (Ex × Tr AV × AS)) (nt : Nat) (rest : Code) (tw : Tr AV) (d0 d1 m bi clock n : Nat) (es : List (AV × AV × Nat)) (e : AV × AV × Nat) : Bool :=
  match ev rest (entT tw d0 d1 (.tup [.bool true, e.1, e.2.1]) true) (minS m bi clock e.2.2 es n) with
  | none => false
  | some q => match q.1 with
    | .normal => cond (tempsB tw q.2.1 nt) (match q.2.2.get bi with
      | .iter m' c' (some st') => cond (Nat.beq m' m) (cond (Nat.beq c' clock) (cond (Nat.beq st' e.2.2) (match q.2.2.get m with
        | .mapb es' c2 => cond (Nat.beq c2 clock) (eqEnts es' es) false
        | _ => false) false) false) false
      | _ => false) false
    | _ => false
theorem skipB_ok [Tab] {ev : Code → Tr AV → AS → Option (Ex × Tr AV × AS)} {nt : Nat} {rest : Code} {tw : Tr AV} {d0 d1 m bi clock n : Nat} {es : List (AV × AV × Nat)} {e : AV × AV × Nat} (h : skipB ev nt rest tw d0 d1 m bi clock n es e = true) :
    ∃ t2 s2, ev rest (entT tw d0 d1 (.tup [.bool true, e.1, e.2.1]) true) (minS m bi clock e.2.2 es n) = some (.normal, t2, s2) ∧ (∀ k, k < nt → tw.get .top k = .top ∨ t2.get .top k = tw.get .top k) ∧ s2.get bi = .iter m clock (some e.2.2) ∧ s2.get m = .mapb es clock := by
  unfold skipB at h
  split at h
  · cases h
  · rename_i q hq
    obtain ⟨x, t2, s2⟩ := q
    dsimp only at h
    split at h
    · obtain ⟨h1, h2⟩ := cond_ff h
      split at h2
      · rename_i m' c' st' hbi
        obtain ⟨h3, h2⟩ := cond_ff h2
        obtain ⟨h4, h2⟩ := cond_ff h2
        obtain ⟨h5, h2⟩ := cond_ff h2
        split at h2
        · rename_i es' c2 hm
          obtain ⟨h6, h7⟩ := cond_ff h2
          rw [Nat.eq_of_beq_eq_true h3, Nat.eq_of_beq_eq_true h4, Nat.eq_of_beq_eq_true h5] at hbi
          rw [Nat.eq_of_beq_eq_true h6, eqEnts_eq _ _ h7] at hm
          exact ⟨t2, s2, hq, tempsB_ok nt h1, hbi, hm⟩
        · cases h2
      · cases h2
    · cases h
noncomputable def actL (ev : Code → Tr AV → AS → Option (Ex × Tr AV × AS)) (nt : Nat) (rest : Code) (tw : Tr AV) (d0 d1 m bi clock n : Nat) (es : List (AV × AV × Nat)) : List (AV × AV × Nat) → List (AV × AV × Nat) × List Nat
  | [] => ([], [])
  | e :: r => match actL ev nt rest tw d0 d1 m bi clock n es r with
    | (acts, skips) => cond (skipB ev nt rest tw d0 d1 m bi clock n es e) (acts, e.2.2 :: skips) (e :: acts, skips)
theorem actL_ok [Tab] {ev : Code → Tr AV → AS → Option (Ex × Tr AV × AS)} {nt : Nat} {rest : Code} {tw : Tr AV} {d0 d1 m bi clock n : Nat} {es : List (AV × AV × Nat)} : ∀ (l : List (AV × AV × Nat)), ∀ e ∈ l,
    (skipB ev nt rest tw d0 d1 m bi clock n es e = true ∧ e.2.2 ∈ (actL ev nt rest tw d0 d1 m bi clock n es l).2) ∨ e ∈ (actL ev nt rest tw d0 d1 m bi clock n es l).1
  | [], _, h => by cases h
  | e' :: r, e, h => by
    unfold actL
    have ih := actL_ok (ev := ev) (nt := nt) (rest := rest) (tw := tw) (d0 := d0) (d1 := d1) (m := m) (bi := bi) (clock := clock) (n := n) (es := es) r
    cases hs : skipB ev nt rest tw d0 d1 m bi clock n es e' with
    | true =>
      rcases List.mem_cons.1 h with rfl | h
      · exact .inl ⟨hs, List.mem_cons_self⟩
      · exact (ih e h).imp (fun ⟨h1, h2⟩ => ⟨h1, List.mem_cons_of_mem _ h2⟩) id
    | false =>
      rcases List.mem_cons.1 h with rfl | h
      · exact .inr List.mem_cons_self
      · exact (ih e h).imp id (List.mem_cons_of_mem _)
noncomputable def bornB (clock : Nat) : List (AV × AV × Nat) → Bool
  | [] => true
  | e :: r => cond (Nat.ble (Nat.succ e.2.2) clock) (bornB clock r) false
theorem bornB_ok [Tab] {clock : Nat} : ∀ (l : List (AV × AV × Nat)), bornB clock l = true → ∀ e ∈ l, e.2.2 < clock
  | [], _, _, h => by cases h
  | e' :: r, h, e, he => by
    obtain ⟨h1, h2⟩ := cond_ff h
    rcases List.mem_cons.1 he with rfl | he
    · exact Nat.le_of_ble_eq_true h1
    · exact bornB_ok r h2 e he
noncomputable def notIn (k : Nat) : List Nat → Bool
  | [] => true
  | j :: r => cond (Nat.beq j k) false (notIn k r)
theorem notIn_ok [Tab] {k : Nat} : ∀ (l : List Nat), notIn k l = true → k ∉ l
  | [], _, h => by cases h
  | j :: r, h, hk => by
    unfold notIn at h
    cases hb : Nat.beq j k with
    | true => rw [hb] at h; cases h
    | false =>
      rw [hb] at h
      rcases List.mem_cons.1 hk with rfl | hk
      · rw [Nat.beq_refl] at hb; cases hb
      · exact notIn_ok r h hk
noncomputable def outA (bi : Nat) (r : Option (Ex × Tr AV × AS)) : Option (Ex × Tr AV × AS) := match r with
  | none => none
  | some q => match q.1 with
    | .normal => none
    | e => some (e, q.2.1, q.2.2.put bi .none)
noncomputable def mapLoop (ev : Code → Tr AV → AS → Option (Ex × Tr AV × AS)) (nt : Nat) (x : Code) (t : Tr AV) (s : AS) : Option (Ex × Tr AV × AS) := match nextHead x with
  | none => none
  | some h => match (weakT (h.2.1 :: h.2.2.1 :: dstsC h.2.2.2 []) t).get .top h.1 with
    | .ptr bi 0 => match s.get bi with
      | .iter m clock none => match s.get m with
        | .mapb es c2 => cond (Nat.beq c2 clock) (cond (bornB clock es) (cond (Nat.ble (Nat.succ h.2.1) nt) (cond (Nat.ble (Nat.succ h.2.2.1) nt)
            (match actL ev nt h.2.2.2 (weakT (h.2.1 :: h.2.2.1 :: dstsC h.2.2.2 []) t) h.2.1 h.2.2.1 m bi clock s.n es es with
            | ([], _) => outA bi (ev h.2.2.2 (entT (weakT (h.2.1 :: h.2.2.1 :: dstsC h.2.2.2 []) t) h.2.1 h.2.2.1 (.tup [.bool false]) false) (s.put bi .none))
            | ([e], skips) => cond (notIn e.2.2 skips) (outA bi (ev h.2.2.2 (entT (weakT (h.2.1 :: h.2.2.1 :: dstsC h.2.2.2 []) t) h.2.1 h.2.2.1 (.tup [.bool true, e.1, e.2.1]) true) (s.put bi (.iter m clock (some e.2.2))))) none
            | _ => none) none) none) none) none
        | _ => none
      | _ => none
    | _ => none
end Go.Proofs.YtambgppdjlhdaaaGreatDoor
