/-
  The abstract machine: loops over maps: the proof. No program.
-/
import Derived.Test.YtambgppdjlhdaaaGreatDoorEvT
namespace Go.Proofs.YtambgppdjlhdaaaGreatDoor
open Go.RowKit

/-- How a loop over a map stands. -/
structure LoopI [Tab] (E : AEnv) (s : AS) (w0 : World) (a0 : Act) (nt : Nat) (tw : Tr AV) (bi m clock : Nat) (skips : List Nat) (seen : Array Nat) (a : Act) (w : World) : Prop where
  it : w.heap[E.r bi]? = some (.mapIter (some (E.r m)) clock seen clock)
  t : TR E nt (tw.get .top) a
  h : HR E (s.put bi .none).get w
  stp : Stp E s.get w0 E s.get w
  sk : ∀ st, seen.contains st = true → st ∈ skips
  df : a.defers = a0.defers
theorem entT_ok [Tab] {E : AEnv} {nt : Nat} {tw : Tr AV} {a : Act} {d0 d1 : Nat} {v : AV} {x : Value} {b : Bool} (h : TR E nt (tw.get .top) a) (h0 : d0 < nt) (h1 : d1 < nt) (hv : VR E v x) : TR E nt ((entT tw d0 d1 v b).get .top) ((a.put (some d0) x).put (some d1) (.bool b)) := by
  have hl := h.lim
  have hs : ∀ (t : Tr AV) (k : Nat) (u : AV), k < nt → ∀ j, (t.set .top u 20 k).get .top j = if some k = some j then u else t.get .top j := by
    intro t k u hk j
    by_cases e : j = k
    · subst e; rw [if_pos rfl, Tr.get_set _ _ _ _ _ (by omega)]
    · rw [if_neg (fun h => e (by injection h with h; exact h.symm)), Tr.get_set_ne _ _ _ _ _ _ e]
  exact (h.put hv (fun k hk => by injection hk with hk; omega) (hs tw d0 v h0)).put (.bool b) (fun k hk => by injection hk with hk; omega) (hs _ d1 _ h1)
/-- A region's two operations: the next entry, and whether there is one. -/
theorem head_wp {P : Program} {id : Nat} {ops : Array Oper} {o1 o2 : Oper} {it d0 d1 nt : Nat} (hops : ops.toList = [o1, o2]) (hg1 : o1.guard = none) (hg2 : o2.guard = none) (hop1 : o1.op = .next (.tmp it) false) (hop2 : o2.op = .extract (.tmp d0) 0) (hd0 : o1.dst = some d0) (hd1 : o2.dst = some d1)
    {a : Act} {w w1 : World} {vs : Array Value} {b : Bool} (hsz : a.tmps.size = nt) (h0 : d0 < nt) (hrun : (Instr.next (a.eval (.tmp it)) false o1.type).run P w = .ok (.tuple vs) w1) (hvs : vs[0]? = some (.bool b)) {Q : Exit → Act → World → Prop}
    (hQ : Q .normal ((a.put (some d0) (.tuple vs)).put (some d1) (.bool b)) w1) : (Code.region id ops false).wp P Q a w := by
  refine wp_region_list ?_
  rw [hops]
  unfold wpList
  rw [if_pos (by simp [Region.wanted, hg1])]
  refine .inl ?_
  unfold Oper.wp
  have e1 : (execOp a.eval o1).run P w = .ok (.value (.tuple vs)) w1 := by
    unfold execOp
    rw [hop1]
    simp [hrun]
  rw [e1]
  show wpList P ops Q [o2] (a.put o1.dst (.tuple vs)) w1
  rw [hd0]
  unfold wpList
  rw [if_pos (by simp [Region.wanted, hg2])]
  refine .inl ?_
  unfold Oper.wp
  have e3 : (a.put (some d0) (.tuple vs)).eval (.tmp d0) = .tuple vs := by
    simp [Act.eval, Act.put, Array.getElem?_setIfInBounds, hsz, h0]
  have e2 : (execOp (a.put (some d0) (.tuple vs)).eval o2).run P w1 = .ok (.value (.bool b)) w1 := by
    unfold execOp
    rw [hop2]
    simp [e3, Instr.extract, hvs]
  rw [e2]
  show Q .normal ((a.put (some d0) (.tuple vs)).put o2.dst (.bool b)) w1
  rw [hd1]
  exact hQ
noncomputable def missing (es : List (AV × AV × Nat)) (r : Nat) (w : World) : Nat := match w.heap[r]? with
  | some (.mapIter _ _ seen _) => (es.filter fun e => !seen.contains e.2.2).length
  | _ => 0
theorem missing_lt {es : List (AV × AV × Nat)} {seen : Array Nat} {e : AV × AV × Nat} (he : e ∈ es) (hs : seen.contains e.2.2 = false) : (es.filter fun e' => !(seen.push e.2.2).contains e'.2.2).length < (es.filter fun e' => !seen.contains e'.2.2).length := by
  have hsub : ∀ l : List (AV × AV × Nat), (l.filter fun e' => !(seen.push e.2.2).contains e'.2.2).length ≤ (l.filter fun e' => !seen.contains e'.2.2).length := by
    intro l
    induction l with
    | nil => simp
    | cons y l ih =>
      rw [List.filter_cons, List.filter_cons]
      cases h1 : (seen.push e.2.2).contains y.2.2 with
      | true =>
        simp only [Bool.not_true, Bool.false_eq_true, if_false]
        split
        · simp only [List.length_cons]; omega
        · exact ih
      | false =>
        have h2 : seen.contains y.2.2 = false := by
          rw [Bool.eq_false_iff] at h1 ⊢
          intro h
          exact h1 (by simp at h ⊢; exact .inl h)
        rw [h2]
        simp only [Bool.not_false, if_true, List.length_cons]
        omega
  induction es with
  | nil => cases he
  | cons y l ih =>
    rw [List.filter_cons, List.filter_cons]
    rcases List.mem_cons.1 he with rfl | he
    · have h1 : (seen.push e.2.2).contains e.2.2 = true := by simp
      rw [h1, hs]
      simp only [Bool.not_true, Bool.false_eq_true, if_false, Bool.not_false, if_true, List.length_cons]
      have := hsub l
      omega
    · have := ih he
      cases h1 : (seen.push e.2.2).contains y.2.2 with
      | true =>
        simp only [Bool.not_true, Bool.false_eq_true, if_false]
        split
        · simp only [List.length_cons]; omega
        · exact this
      | false =>
        have h2 : seen.contains y.2.2 = false := by
          rw [Bool.eq_false_iff] at h1 ⊢
          intro h
          exact h1 (by simp at h ⊢; exact .inl h)
        rw [h2]
        simp only [Bool.not_false, if_true, List.length_cons]
        omega
/-- Behind the next entry: what is known. -/
theorem enter_ok [Tab] {E : AEnv} {s : AS} {w0 w w1 : World} {a0 a : Act} {nt : Nat} {tw : Tr AV} {bi m clock : Nat} {skips : List Nat} {seen : Array Nat} {es : List (AV × AV × Nat)} {st : Nat} (hI : LoopI E s w0 a0 nt tw bi m clock skips seen a w) (hs : HR E s.get w0) (hgb : s.get bi = .iter m clock none) (hgm : s.get m = .mapb es clock)
    (hw1 : w1 = w ∨ w1 = w.drew) (w2 : World) (hw2 : w2 = { w1 with heap := w1.heap.setIfInBounds (E.r bi) (.mapIter (some (E.r m)) clock (seen.push st) clock) }) :
    HR (E.setz bi (.mapIter (some (E.r m)) clock (seen.push st) clock)) (s.put bi (.iter m clock (some st))).get w2 ∧ Stp E s.get w0 E s.get w2 ∧ w2.heap[E.r bi]? = some (.mapIter (some (E.r m)) clock (seen.push st) clock) := by
  have hbn : s.get bi ≠ .none := by rw [hgb]; intro e; cases e
  have hlim := (hs.at_ bi hbn).2.1
  have hlt : E.r bi < w.heap.size := (Array.getElem?_eq_some_iff.1 hI.it).1
  have hsz : w1.heap = w.heap := by rcases hw1 with rfl | rfl <;> rfl
  have hnew : w2.heap[E.r bi]? = some (.mapIter (some (E.r m)) clock (seen.push st) clock) := by
    rw [hw2]
    simp [hsz, Array.getElem?_setIfInBounds, hlt]
  have hoth : ∀ d, d ≠ E.r bi → w2.heap[d]? = w.heap[d]? := by
    intro d hd
    rw [hw2]
    simp [hsz, Array.getElem?_setIfInBounds, Ne.symm hd]
  have hmok : E.ok m := (hs.at_ m (by rw [hgm]; intro e; cases e)).1
  have hne : ∀ b, b ≠ bi → (s.put bi (.iter m clock (some st))).get b = s.get b := fun b hb => s.get_put_ne bi _ b hb
  have hne0 : ∀ b, b ≠ bi → (s.put bi .none).get b = s.get b := fun b hb => s.get_put_ne bi _ b hb
  have hat := s.get_put bi (.iter m clock (some st)) hlim
  have hdom : ∀ b, (s.put bi (.iter m clock (some st))).get b ≠ .none → s.get b ≠ .none := fun b hb => by
    by_cases e : b = bi
    · rw [e]; exact hbn
    · rw [← hne b e]; exact hb
  have htab : Below Tab.w0.heap.size Tab.w0 w2 := by
    have hap := hs.apart bi hbn
    refine ⟨?_, ?_, ?_, ?_, fun d hd => (hoth d (fun e => by omega)).trans (hI.h.tab.block d hd)⟩
    · rw [hw2]; rcases hw1 with rfl | rfl <;> exact hI.h.tab.os
    · rw [hw2]; rcases hw1 with rfl | rfl <;> exact hI.h.tab.tape
    · rw [hw2]; rcases hw1 with rfl | rfl <;> exact hI.h.tab.output
    · rw [hw2]; simp [hsz]; exact hI.h.tab.size
  refine ⟨⟨⟨fun b hb => ?_, fun b c hb hc he => hs.inj b c (hdom b hb) (hdom c hc) he⟩, htab, fun b hb => hs.apart b (hdom b hb)⟩, hI.stp.trans ⟨?_, ?_, ?_, ?_, AEnv.le.refl E, fun _ _ => rfl, fun d hd hn => hoth d (fun e => hn bi hbn e.symm), fun b hb => .inr ⟨b, hb, rfl⟩⟩, hnew⟩
  · by_cases e : b = bi
    · subst e
      rw [hat]
      exact ⟨(hs.at_ b hbn).1, hlim, _, hnew, hmok, AEnv.setz_eq _ _ _, seen.push st, rfl, by simp⟩
    · rw [hne b e]
      have hb' : (s.put bi .none).get b ≠ .none := by rw [hne0 b e, ← hne b e]; exact hb
      obtain ⟨q1, q2, o, q3, q4⟩ := hI.h.at_ b hb'
      rw [hne0 b e] at q4
      refine ⟨q1, q2, o, (hoth _ fun e2 => e (hs.inj b bi (hdom b hb) hbn e2)).trans q3, q4.mono (E.le_setz bi _) q1 (E.setz_ne _ e)⟩
  · rw [hw2]; rcases hw1 with rfl | rfl <;> rfl
  · rw [hw2]; rcases hw1 with rfl | rfl <;> rfl
  · rw [hw2]; rcases hw1 with rfl | rfl <;> rfl
  · rw [hw2]; simp [hsz]
/-- What is left to be said at the end: the look is put away. -/
theorem out_ok [Tab] {E : AEnv} {nt : Nat} {a0 a : Act} {s sx s' : AS} {w0 w1 : World} {bi : Nat} {o : Obj} {x : Ex} {t' : Tr AV} {e : Exit} {a' : Act} {w' : World} (hsx : ∀ b, sx.get b ≠ .none → s.get b ≠ .none) (hn : sx.n = s.n) (hb : bi < 1000000000) (hok : E.ok bi) (hst : Stp E s.get w0 E s.get w1) (hdf : a.defers = a0.defers)
    (h : Post (E.setz bi o) nt a sx w1 x t' s' e a' w') : Post E nt a0 s w0 x t' (s'.put bi .none) e a' w' := by
  obtain ⟨p0, E1, p1, p2, p3, p4, p5⟩ := h
  have le1 : E.le (E1.setz bi (E.z bi)) := ((E.le_setz bi o).trans p3.le).trans (E1.le_setz bi _)
  have hne : ∀ c, c ≠ bi → (s'.put bi .none).get c = s'.get c := fun c hc => s'.get_put_ne bi _ c hc
  have hat := s'.get_put bi .none hb
  have hin : ∀ c, (s'.put bi .none).get c ≠ .none → c ≠ bi ∧ s'.get c ≠ .none := fun c hc => by
    by_cases e : c = bi
    · rw [e, hat] at hc; exact absurd rfl hc
    · exact ⟨e, by rw [← hne c e]; exact hc⟩
  refine ⟨p0, E1.setz bi (E.z bi), p1.mono (E1.le_setz bi _), ⟨⟨fun c hc => ?_, fun c d hc hd he => p2.inj c d (hin c hc).2 (hin d hd).2 he⟩, p2.tab, fun c hc => p2.apart c (hin c hc).2⟩, hst.trans ⟨p3.os, p3.tape, p3.output, p3.size, le1, fun b hbo => ?_, fun d hd hn2 => p3.keep d hd fun b hb2 => hn2 b (hsx b hb2), fun b hb2 => ?_⟩, ⟨by rw [← hn]; exact p4.le, fun b hbo => by rw [← hn]; exact p4.ok b hbo⟩, p5.trans hdf⟩
  · obtain ⟨e1, e2⟩ := hin c hc
    rw [hne c e1]
    obtain ⟨q1, q2, o', q3, q4⟩ := p2.at_ c e2
    exact ⟨q1, q2, o', q3, q4.mono (E1.le_setz bi _) q1 (E1.setz_ne _ e1)⟩
  · by_cases e1 : b = bi
    · subst e1; exact AEnv.setz_eq _ _ _
    · rw [E1.setz_ne _ e1, p3.z b hbo, E.setz_ne _ e1]
  · obtain ⟨e1, e2⟩ := hin b hb2
    rcases p3.dom b e2 with h1 | ⟨c, hc, h1⟩
    · exact .inl h1
    · exact .inr ⟨c, hsx c hc, h1⟩
/-- An entry that changes nothing. -/
theorem skip_ok [Tab] {E : AEnv} {s s2 : AS} {w0 w1 w2 : World} {a0 a a1 a2 : Act} {nt : Nat} {tw t2 : Tr AV} {bi m clock : Nat} {skips : List Nat} {seen : Array Nat} {es : List (AV × AV × Nat)} {st : Nat} (hs : HR E s.get w0) (hgb : s.get bi = .iter m clock none) (hgm : s.get m = .mapb es clock)
    (ht : TR E nt (tw.get .top) a) (hdf : a.defers = a0.defers) (ha1 : a1.defers = a.defers) (hbm : m ≠ bi)
    (h1 : HR (E.setz bi (.mapIter (some (E.r m)) clock (seen.push st) clock)) (s.put bi (.iter m clock (some st))).get w1) (hst : Stp E s.get w0 E s.get w1) (hsk : ∀ x, (seen.push st).contains x = true → x ∈ skips)
    (hp : ∃ E2, TR E2 nt (t2.get .top) a2 ∧ HR E2 s2.get w2 ∧ Stp (E.setz bi (.mapIter (some (E.r m)) clock (seen.push st) clock)) (minS m bi clock st es s.n).get w1 E2 s2.get w2 ∧ Grow (E.setz bi (.mapIter (some (E.r m)) clock (seen.push st) clock)) s.n E2 s2.n ∧ a2.defers = a1.defers)
    (htw : ∀ k, k < nt → tw.get .top k = .top ∨ t2.get .top k = tw.get .top k) (hbi : s2.get bi = .iter m clock (some st)) (hm2 : s2.get m = .mapb es clock) : LoopI E s w0 a0 nt tw bi m clock skips (seen.push st) a2 w2 := by
  obtain ⟨E2, p1, p2, p3, p4, p5⟩ := hp
  obtain ⟨o1, ho1⟩ : ∃ o, Obj.mapIter (some (E.r m)) clock (seen.push st) clock = o := ⟨_, rfl⟩
  rw [ho1] at h1 p3 p4
  have hbn : s.get bi ≠ .none := by rw [hgb]; intro e; cases e
  have hlim := (hs.at_ bi hbn).2.1
  have hmlim := (hs.at_ m (by rw [hgm]; intro e; cases e)).2.1
  have hle : E.le E2 := (E.le_setz bi o1).trans p3.le
  have hmin : ∀ b, (minS m bi clock st es s.n).get b = if b = bi then .iter m clock (some st) else if b = m then .mapb es clock else .none := by
    intro b
    show ((Hp.nil.set m (AB.mapb es clock)).set bi (AB.iter m clock (some st))).get b = _
    by_cases e : b = bi
    · subst e; rw [if_pos rfl, Hp.get_set]
    · rw [if_neg e, Hp.get_set_ne _ _ e]
      by_cases e2 : b = m
      · subst e2; rw [if_pos rfl, Hp.get_set]
      · rw [if_neg e2, Hp.get_set_ne _ _ e2, Hp.get_nil]
  -- the other blocks stand aside
  obtain ⟨xf, hxf⟩ : ∃ xf : Nat → AB, xf = fun b => if b = bi ∨ b = m then .none else s.get b := ⟨_, rfl⟩
  have hov : ov (minS m bi clock st es s.n).get xf = (s.put bi (.iter m clock (some st))).get := by
    funext b
    by_cases e : b = bi
    · subst e
      rw [ov_none (by rw [hxf]; simp), hmin, if_pos rfl, s.get_put _ _ hlim]
    · rw [s.get_put_ne bi _ b e]
      by_cases e2 : b = m
      · subst e2
        rw [ov_none (by rw [hxf]; simp), hmin, if_neg e, if_pos rfl, hgm]
      · have hx : xf b = s.get b := by rw [hxf]; simp [e, e2]
        by_cases e3 : s.get b = .none
        · rw [ov_none (hx.trans e3), hmin, if_neg e, if_neg e2, e3]
        · rw [ov_some (by rw [hx]; exact e3), hx]
  have hdis : ∀ b, xf b ≠ .none → (minS m bi clock st es s.n).get b = .none := by
    intro b hb
    rw [hxf] at hb
    dsimp only at hb
    split at hb
    · exact absurd rfl hb
    · rename_i h; rw [hmin, if_neg (fun e => h (.inl e)), if_neg (fun e => h (.inr e))]
  rw [← hov] at h1
  obtain ⟨r1, r2, r3⟩ := frame h1 hdis p2 p3
  have hz : ∀ b, b ≠ bi → E.ok b → E2.z b = E.z b := fun b hb hbo => (p3.z b hbo).trans (E.setz_ne _ hb)
  have hget : ∀ b, b ≠ bi → s.get b ≠ .none → ov s2.get xf b = s.get b := by
    intro b hb hbn2
    by_cases e2 : b = m
    · subst e2
      rw [ov_none (by rw [hxf]; simp), hm2, hgm]
    · have hx : xf b = s.get b := by rw [hxf]; simp [hb, e2]
      rw [ov_some (by rw [hx]; exact hbn2), hx]
  have hap : ∀ b, (s.put bi .none).get b ≠ .none → Tab.w0.heap.size ≤ E.r b := fun b hb => by
    by_cases e : b = bi
    · subst e; rw [s.get_put _ _ hlim] at hb; exact absurd rfl hb
    · rw [s.get_put_ne bi _ b e] at hb; exact hs.apart b hb
  refine ⟨?_, ⟨ht.size ▸ ?_, ht.lim, fun k => ?_⟩, ⟨⟨fun b hb => ?_, fun b c hb hc he => ?_⟩, p2.tab, hap⟩, ?_, hsk, (p5.trans ha1).trans hdf⟩
  · obtain ⟨q1, _, o, q3, q4⟩ := p2.at_ bi (by rw [hbi]; intro e; cases e)
    rw [hbi] at q4
    obtain ⟨_, q5, _⟩ := q4
    rw [p3.z bi (hs.at_ bi hbn).1, AEnv.setz_eq] at q5
    rw [← hle.r bi (hs.at_ bi hbn).1, q3, ← q5, ho1]
  · rw [p1.size, ht.size]
  · rcases Nat.lt_or_ge k nt with hk | hk
    · rcases htw k hk with h | h
      · rw [h]; exact .top _
      · have h2 := p1.at_ k
        rw [h] at h2
        exact (ht.at_ k).back hle h2
    · have h2 := ht.at_ k
      have e1 : a.tmps.getD k undef = undef := by simp [Array.getElem?_eq_none (show a.tmps.size ≤ k by rw [ht.size]; exact hk)]
      have e2 : a2.tmps.getD k undef = undef := by simp [Array.getElem?_eq_none (show a2.tmps.size ≤ k by rw [p1.size]; exact hk)]
      rw [e1] at h2
      rw [e2]
      exact h2
  · by_cases e : b = bi
    · subst e
      rw [s.get_put _ _ hlim] at hb
      exact absurd rfl hb
    · rw [s.get_put_ne bi _ b e] at hb ⊢
      obtain ⟨f1, f2, o0, _, f4⟩ := hs.at_ b hb
      obtain ⟨g1, g2, o, g3, g4⟩ := r1.at_ b (by rw [hget b e hb]; exact hb)
      rw [hget b e hb] at g4
      rw [hle.r b f1] at g3
      exact ⟨f1, f2, o, g3, f4.back hle f1 (hz b e f1) g4⟩
  · have hb2 : s.get b ≠ .none := by
      by_cases e : b = bi
      · rw [e]; exact hbn
      · rw [← s.get_put_ne bi .none b e]; exact hb
    have hc2 : s.get c ≠ .none := by
      by_cases e : c = bi
      · rw [e]; exact hbn
      · rw [← s.get_put_ne bi .none c e]; exact hc
    exact hs.inj b c hb2 hc2 he
  · refine hst.trans ⟨r2.os, r2.tape, r2.output, r2.size, AEnv.le.refl E, fun _ _ => rfl, fun d hd hn => r2.keep d hd fun b hb e => ?_, fun b hb => .inr ⟨b, hb, rfl⟩⟩
    rw [hov] at hb
    have hb2 : s.get b ≠ .none := by
      by_cases e : b = bi
      · rw [e]; exact hbn
      · rw [← s.get_put_ne bi _ b e]; exact hb
    exact hn b hb2 e
end Go.Proofs.YtambgppdjlhdaaaGreatDoor
