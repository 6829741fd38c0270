/-
  The abstract machine: loops over maps, whole; all hooks. No program.
-/
import Derived.Test.YtambgppdjlhdaaaGreatDoorEvU
namespace Go.Proofs.YtambgppdjlhdaaaGreatDoor
open Go.RowKit

theorem outA_ok {bi : Nat} {r : Option (Ex × Tr AV × AS)} {e : Ex} {t' : Tr AV} {s' : AS} (h : outA bi r = some (e, t', s')) : ∃ s1, r = some (e, t', s1) ∧ s' = s1.put bi .none ∧ e ≠ .normal := by
  cases r with
  | none => cases h
  | some q =>
    obtain ⟨x, t1, s1⟩ := q
    cases x with
    | normal => cases h
    | exit i =>
      injection h with h
      injection h with e1 h
      injection h with e2 e3
      subst e1
      subst e2
      exact ⟨s1, rfl, e3.symm, by intro h; cases h⟩
    | ret =>
      injection h with h
      injection h with e1 h
      injection h with e2 e3
      subst e1
      subst e2
      exact ⟨s1, rfl, e3.symm, by intro h; cases h⟩
    | panic u =>
      injection h with h
      injection h with e1 h
      injection h with e2 e3
      subst e1
      subst e2
      exact ⟨s1, rfl, e3.symm, by intro h; cases h⟩
theorem Post.quit [Tab] {E : AEnv} {nt : Nat} {a : Act} {s : AS} {w : World} {x : Ex} {t' : Tr AV} {s' : AS} {e : Exit} {a' : Act} {w' : World} (hx : x ≠ .normal) (h : Post E nt a s w x t' s' e a' w') {N : Act → World → Prop} : Exit.then N (Post E nt a s w x t' s') e a' w' := by
  have h0 := h.1
  cases x with
  | normal => exact absurd rfl hx
  | exit i => cases h0; exact h
  | ret => cases h0; exact h
  | panic u => cases h0; exact h
theorem mapLoop_ok [Tab] {P : Program} {nt : Nat} {ev : Code → Tr AV → AS → Option (Ex × Tr AV × AS)}
    (hev : ∀ c t s e t' s', ev c t s = some (e, t', s') → ∀ (E : AEnv) (a : Act) (w : World), TR E nt (t.get .top) a → HR E s.get w → Fresh E s.n → c.wp P (Post E nt a s w e t' s') a w)
    {x : Code} {t : Tr AV} {s : AS} {e : Ex} {t' : Tr AV} {s' : AS} (hl : mapLoop ev nt x t s = some (e, t', s')) {E : AEnv} {a : Act} {w : World} (ht : TR E nt (t.get .top) a) (h : HR E s.get w) (hf : Fresh E s.n) : (Code.loop x).wp P (Post E nt a s w e t' s') a w := by
  unfold mapLoop at hl
  split at hl
  · cases hl
  · rename_i hd hnh
    obtain ⟨it, d0, d1, rest⟩ := hd
    dsimp only at hl
    obtain ⟨tw, htw⟩ : ∃ tw, weakT (d0 :: d1 :: dstsC rest []) t = tw := ⟨_, rfl⟩
    rw [htw] at hl
    have hw := weakT_ok (d0 :: d1 :: dstsC rest []) t ht
    rw [htw] at hw
    obtain ⟨id, ops, o1, o2, rfl, hops, hg1, hg2, hop1, hop2, hd0, hd1⟩ := nextHead_ok hnh
    split at hl
    · rename_i bi hit
      split at hl
      · rename_i m clock hgb
        split at hl
        · rename_i es c2 hgm
          cases hc1 : Nat.beq c2 clock with
          | false => rw [hc1] at hl; cases hl
          | true =>
          cases hc2 : bornB clock es with
          | false => rw [hc1, hc2] at hl; cases hl
          | true =>
          cases hc3 : Nat.ble (Nat.succ d0) nt with
          | false => rw [hc1, hc2, hc3] at hl; cases hl
          | true =>
          cases hc4 : Nat.ble (Nat.succ d1) nt with
          | false => rw [hc1, hc2, hc3, hc4] at hl; cases hl
          | true =>
            rw [hc1, hc2, hc3, hc4] at hl
            simp only [cond_true] at hl
            have := Nat.eq_of_beq_eq_true hc1
            subst this
            have hb0 : d0 < nt := Nat.le_of_ble_eq_true hc3
            have hb1 : d1 < nt := Nat.le_of_ble_eq_true hc4
            have hborn := bornB_ok es hc2
            have hbn : s.get bi ≠ .none := by rw [hgb]; intro e; cases e
            obtain ⟨hbok, hlim, oi, hi1, hi2⟩ := h.at_ bi hbn
            rw [hgb] at hi2
            obtain ⟨hmok, hiz, seen0, rfl, hsb⟩ := hi2
            have hseen0 : seen0 = #[] := by
              rcases Nat.eq_zero_or_pos seen0.size with h0 | h0
              · exact Array.eq_empty_of_size_eq_zero h0
              · rw [Array.back?_eq_getElem?, Array.getElem?_eq_getElem (by omega)] at hsb
                cases hsb
            subst hseen0
            have hbm : m ≠ bi := fun e => by rw [e, hgb] at hgm; cases hgm
            have hact := actL_ok (ev := ev) (nt := nt) (rest := rest) (tw := tw) (d0 := d0) (d1 := d1) (m := m) (bi := bi) (clock := c2) (n := s.n) (es := es) es
            obtain ⟨acts, hacts⟩ : ∃ r, actL ev nt rest tw d0 d1 m bi c2 s.n es es = r := ⟨_, rfl⟩
            rw [hacts] at hl hact
            obtain ⟨acts, skips⟩ := acts
            dsimp only at hact
            -- what holds at the loop's head
            have hI0 : LoopI E s w a nt tw bi m c2 skips #[] a w := ⟨hi1, hw, (h.drop bi hlim).1, Stp.refl E s.get w, fun st hst => by simp at hst, rfl⟩
            have hev1 : ∀ a' : Act, TR E nt (tw.get .top) a' → a'.eval (.tmp it) = .pointer (some ⟨E.r bi, 0, none⟩) := fun a' ha' => by
              have := ha'.at_ it
              rw [hit] at this
              show a'.tmps.getD it undef = _
              generalize a'.tmps.getD it undef = u at this
              cases this
              rfl
            have hdom1 : ∀ (y : AB) b, (s.put bi y).get b ≠ .none → s.get b ≠ .none := fun y b hb => by
              by_cases e : b = bi
              · rw [e]; exact hbn
              · rw [← s.get_put_ne bi y b e]; exact hb
            -- one round
            have round : ∀ (seen : Array Nat) (a1 : Act) (w1 : World), LoopI E s w a nt tw bi m c2 skips seen a1 w1 →
                (Code.seq (.region id ops false) rest).wp P (Exit.then (fun a' w' => (∃ seen', LoopI E s w a nt tw bi m c2 skips seen' a' w') ∧ missing es (E.r bi) w' < missing es (E.r bi) w1) (Post E nt a s w e t' s')) a1 w1 := by
              intro seen a1 w1 hI
              refine wp_seq ?_
              obtain ⟨_, xs, hx1, hx2, hx3, hx4⟩ := hI.h.mapb (b := m) (by rw [s.get_put_ne bi _ m hbm]; exact hgm)
              have hxb : ∀ y ∈ xs, y.born < c2 := fun y hy => by
                obtain ⟨j, hj⟩ := Array.mem_iff_getElem?.1 hy
                have h1 : (xs.toList.map (·.born))[j]? = some y.born := by rw [List.getElem?_map]; simp [hj]
                rw [← hx4, List.getElem?_map] at h1
                cases hej : es[j]? with
                | none => rw [hej] at h1; cases h1
                | some z =>
                  rw [hej] at h1
                  injection h1 with h1
                  rw [← h1]
                  exact hborn z (List.mem_of_getElem? hej)
              rcases next_run (P := P) (ty := o1.type) hI.it hx1 hxb with ⟨hall, hrun⟩ | ⟨y, hy, hys, w2, hw2, hrun⟩
              · -- the end
                rw [← hev1 a1 hI.t] at hrun
                refine head_wp hops hg1 hg2 hop1 hop2 hd0 hd1 hI.t.size hb0 hrun (b := false) rfl ?_
                have hnoact : acts = [] := by
                  cases acts with
                  | nil => rfl
                  | cons z zs =>
                    exfalso
                    cases zs with
                    | cons _ _ => cases hl
                    | nil =>
                      dsimp only at hl
                      cases hc5 : notIn z.2.2 skips with
                      | false => rw [hc5] at hl; cases hl
                      | true =>
                        have hz : z ∈ es := by
                          have : ∀ l : List (AV × AV × Nat), ∀ q ∈ (actL ev nt rest tw d0 d1 m bi c2 s.n es l).1, q ∈ l := by
                            intro l
                            induction l with
                            | nil => intro q hq; cases hq
                            | cons u l ih =>
                              intro q hq
                              unfold actL at hq
                              dsimp only at hq
                              cases hu : skipB ev nt rest tw d0 d1 m bi c2 s.n es u with
                              | true => rw [hu] at hq; exact List.mem_cons_of_mem _ (ih q hq)
                              | false =>
                                rw [hu] at hq
                                rcases List.mem_cons.1 hq with rfl | hq
                                · exact List.mem_cons_self
                                · exact List.mem_cons_of_mem _ (ih q hq)
                          have := this es z (by rw [hacts]; simp)
                          exact this
                        obtain ⟨j, hj⟩ := List.mem_iff_getElem?.1 hz
                        have h1 : (es.map (·.2.2))[j]? = some z.2.2 := by rw [List.getElem?_map, hj]; rfl
                        rw [hx4, List.getElem?_map] at h1
                        cases hxj : xs.toList[j]? with
                        | none => rw [hxj] at h1; cases h1
                        | some q =>
                          rw [hxj] at h1
                          injection h1 with h1
                          have h2 := hall q (by rw [← Array.mem_toList_iff]; exact List.mem_of_getElem? hxj)
                          have h1' : q.born = z.2.2 := h1
                          rw [h1'] at h2
                          exact notIn_ok skips hc5 (hI.sk _ h2)
                subst hnoact
                dsimp only at hl
                obtain ⟨s1, hr, rfl, hne⟩ := outA_ok hl
                have htop := entT_ok (b := false) hI.t hb0 hb1 ((VL.cons (.bool false) VL.nil).tup (a := #[.bool false]))
                have hfr : Fresh E (s.put bi .none).n := hf
                refine wp_mono (hev rest _ _ e t' s1 hr (E.setz bi (E.z bi)) _ w1 (htop.mono (E.le_setz bi _)) ?_ hfr) fun ex a3 w3 hp => ?_
                · have : E.setz bi (E.z bi) = E := by
                    unfold AEnv.setz
                    congr 1
                    funext b
                    by_cases e : b = bi
                    · rw [if_pos e, e]
                    · rw [if_neg e]
                  rw [this]
                  exact hI.h
                · exact (out_ok (sx := s.put bi .none) (hdom1 _) rfl hlim hbok hI.stp ((put_defers _ _ _).trans ((put_defers _ _ _).trans hI.df)) hp).quit hne
              · -- an entry
                rw [← hev1 a1 hI.t] at hrun
                refine head_wp hops hg1 hg2 hop1 hop2 hd0 hd1 hI.t.size hb0 hrun (b := true) rfl ?_
                obtain ⟨j, hj⟩ := Array.mem_iff_getElem?.1 hy
                have hbj : (es.map (·.2.2))[j]? = some y.born := by rw [hx4, List.getElem?_map]; simp [hj]
                rw [List.getElem?_map] at hbj
                cases hej : es[j]? with
                | none => rw [hej] at hbj; cases hbj
                | some z =>
                  rw [hej] at hbj
                  injection hbj with hbj
                  have hz : z ∈ es := List.mem_of_getElem? hej
                  have hvk : VR E z.1 y.key := hx2.at_ j _ _ (by rw [List.getElem?_map, hej]; rfl) (by rw [List.getElem?_map]; simp [hj])
                  have hvv : VR E z.2.1 y.val := hx3.at_ j _ _ (by rw [List.getElem?_map, hej]; rfl) (by rw [List.getElem?_map]; simp [hj])
                  have htop := entT_ok (b := true) hI.t hb0 hb1 ((VL.cons (.bool true) (VL.cons hvk (VL.cons hvv VL.nil))).tup (a := #[.bool true, y.key, y.val]))
                  rw [← hbj] at hys hrun ⊢
                  obtain ⟨g1, g2, g3⟩ := enter_ok (es := es) (st := z.2.2) hI h hgb hgm hw2 _ rfl
                  rcases hact z hz with ⟨hsk, hskm⟩ | hin
                  · obtain ⟨t2, s2, k1, k2, k3, k4⟩ := skipB_ok hsk
                    have hmin : HR (E.setz bi (.mapIter (some (E.r m)) c2 (seen.push z.2.2) c2)) (minS m bi c2 z.2.2 es s.n).get _ := g1.sub fun b hb => by
                      have hmlim := (h.at_ m (by rw [hgm]; intro e; cases e)).2.1
                      have hmin : (minS m bi c2 z.2.2 es s.n).get b = if b = bi then .iter m c2 (some z.2.2) else if b = m then .mapb es c2 else .none := by
                        show ((Hp.nil.set m (AB.mapb es c2)).set bi (AB.iter m c2 (some z.2.2))).get b = _
                        by_cases e : b = bi
                        · subst e; rw [if_pos rfl, Hp.get_set]
                        · rw [if_neg e, Hp.get_set_ne _ _ e]
                          by_cases e2 : b = m
                          · subst e2; rw [if_pos rfl, Hp.get_set]
                          · rw [if_neg e2, Hp.get_set_ne _ _ e2, Hp.get_nil]
                      rw [hmin] at hb ⊢
                      by_cases e : b = bi
                      · subst e; rw [if_pos rfl, s.get_put _ _ hlim]
                      · rw [if_neg e] at hb ⊢
                        by_cases e2 : b = m
                        · subst e2; rw [if_pos rfl, s.get_put_ne bi _ b e, hgm]
                        · rw [if_neg e2] at hb; exact absurd rfl hb
                    refine wp_mono (hev rest _ _ .normal t2 s2 k1 _ _ _ (htop.mono (E.le_setz bi _)) hmin hf) fun ex a3 w3 hp => ?_
                    obtain ⟨p0, E2, p1, p2, p3, p4, p5⟩ := hp
                    cases p0
                    have hI2 := skip_ok (skips := skips) h hgb hgm hI.t hI.df ((put_defers _ _ _).trans (put_defers _ _ _)) hbm g1 g2 (fun st hst => by
                      simp at hst
                      rcases hst with h1 | h1
                      · exact hI.sk st (by simpa using h1)
                      · rw [h1]; exact hskm) ⟨E2, p1, p2, p3, p4, p5⟩ k2 k3 k4
                    refine ⟨⟨_, hI2⟩, ?_⟩
                    have e1 : missing es (E.r bi) w3 = (es.filter fun e' => !(seen.push z.2.2).contains e'.2.2).length := by unfold missing; rw [hI2.it]
                    have e2 : missing es (E.r bi) w1 = (es.filter fun e' => !seen.contains e'.2.2).length := by unfold missing; rw [hI.it]
                    rw [e1, e2]
                    exact missing_lt hz hys
                  · cases acts with
                    | nil => cases hin
                    | cons z' zs =>
                      cases zs with
                      | cons _ _ => cases hl
                      | nil =>
                        have : z = z' := by simpa using hin
                        subst this
                        dsimp only at hl
                        cases hc5 : notIn z.2.2 skips with
                        | false => rw [hc5] at hl; cases hl
                        | true =>
                          rw [hc5] at hl
                          simp only [cond_true] at hl
                          obtain ⟨s1, hr, rfl, hne⟩ := outA_ok hl
                          refine wp_mono (hev rest _ _ e t' s1 hr _ _ _ (htop.mono (E.le_setz bi _)) g1 hf) fun ex a3 w3 hp => ?_
                          exact (out_ok (sx := s.put bi (.iter m c2 (some z.2.2))) (hdom1 _) rfl hlim hbok g2 ((put_defers _ _ _).trans ((put_defers _ _ _).trans hI.df)) hp).quit hne
            exact wp_loop (fun a' w' => ∃ seen, LoopI E s w a nt tw bi m c2 skips seen a' w') (fun _ w' => missing es (E.r bi) w') ⟨#[], hI0⟩ fun a' w' ⟨seen, hI⟩ => round seen a' w' hI
        · cases hl
      · cases hl
    · cases hl
/-- All hooks. -/
noncomputable def hooks (P : Program) : Hooks := ⟨drawX P, fun x => (nextHead x).isSome, fun ev _ nt x t s => mapLoop ev nt x t s⟩
theorem hooks_ok [Tab] {P : Program} (hm : P.follows .mixedOrders = true) : DrawOK P (hooks P) :=
  ⟨fun call hc nt id ops t s e t' s' he E a w ht h hf => drawX_ok hm hc he ht h hf, fun call hc nt ev hev x t s e t' s' he E a w ht h hf => mapLoop_ok hev he ht h hf⟩
end Go.Proofs.YtambgppdjlhdaaaGreatDoor
