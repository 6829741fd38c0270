/-
  The abstract machine: functions. No program.
-/
import Derived.Test.YtambgppdjlhdaaaGreatDoorEvL
namespace Go.Proofs.YtambgppdjlhdaaaGreatDoor
open Go.RowKit

noncomputable def initT : List AV → Nat → Tr AV → Tr AV
  | [], _, t => t
  | v :: r, k, t => initT r (Nat.succ k) (t.set .top v 20 k)
noncomputable def Ex.ends : Ex → Bool
  | .normal => true
  | .ret => true
  | .exit _ => false
  | .panic _ => false
noncomputable def endA (P : Program) (rs : List ResultVar) (q : Ex × Tr AV × AS) : Option (AV × AS) := match q.1 with
  | .panic u => some (.pan u, q.2.2)
  | e => cond e.ends (match resA P q.2.1 q.2.2 rs with
    | some v => some (v, q.2.2)
    | none => none) none
noncomputable def evF (P : Program) (H : Hooks) (fs : Nat → Option Func) (orc : Nat → Option (List AV → AS → Option (AV × AS))) (fuel : Nat) : Nat → Nat → List AV → AS → Option (AV × AS)
  | 0, _, _, _ => none
  | d + 1, f, args, s => match orc f with
    | some g => g args s
    | none => match fs f with
      | none => none
      | some fn => match fn.body with
        | none => none
        | some c => cond (Nat.ble fn.ntmps 1000000) (cond (Nat.ble args.length fn.ntmps) (match evC P H (evF P H fs orc fuel d) fn.ntmps fuel c (initT args 0 .leaf) s with
          | none => none
          | some q => endA P fn.results.toList q) none) none
theorem initT_ok [Tab] {E : AEnv} : ∀ (l : List AV) (vs : List Value) (k : Nat) (t : Tr AV) (f : Nat → Value), VL E l vs → k + l.length ≤ 1000000 → (∀ j, j < k → VR E (t.get .top j) (f j)) → (∀ j, k ≤ j → t.get .top j = .top) → (∀ j v, vs[j]? = some v → f (k + j) = v) →
    ∀ j, VR E ((initT l k t).get .top j) (f j)
  | [], vs, k, t, f, hl, _, h1, h2, h3, j => by
    show VR E (t.get .top j) (f j)
    rcases Nat.lt_or_ge j k with h | h
    · exact h1 j h
    · rw [h2 j h]; exact .top _
  | v :: r, [], _, _, _, hl, _, _, _, _, _ => by have := hl.len; simp at this
  | v :: r, x :: vs, k, t, f, hl, hk, h1, h2, h3, j => by
    simp only [List.length_cons] at hk
    refine initT_ok r vs (k + 1) _ f hl.tail (by omega) (fun i hi => ?_) (fun i hi => ?_) (fun i u hu => ?_) j
    · by_cases e : i = k
      · subst e
        rw [Tr.get_set _ _ _ _ _ (by omega)]
        have := h3 0 x rfl
        rw [Nat.add_zero] at this
        rw [this]
        exact hl.head
      · rw [Tr.get_set_ne _ _ _ _ _ _ e]
        exact h1 i (by omega)
    · rw [Tr.get_set_ne _ _ _ _ _ _ (by omega)]
      exact h2 i (by omega)
    · have := h3 (i + 1) u (by simpa using hu)
      rw [← this]
      congr 1
      omega
structure FnsOK (P : Program) (fs : Nat → Option Func) : Prop where
  at_ : ∀ f fn, fs f = some fn → P.funcs[f]? = some fn ∧ (fn.name == "runtime.NumGoroutine") = false
theorem evF_some {P : Program} {H : Hooks} {fs : Nat → Option Func} {orc : Nat → Option (List AV → AS → Option (AV × AS))} {fuel d f : Nat} {args : List AV} {s s' : AS} {v : AV} (hfs : FnsOK P fs) (ho : orc f = none) (h : evF P H fs orc fuel (d + 1) f args s = some (v, s')) :
    ∃ fn c q, P.funcs[f]? = some fn ∧ (fn.name == "runtime.NumGoroutine") = false ∧ fn.body = some c ∧ fn.ntmps ≤ 1000000 ∧ args.length ≤ fn.ntmps ∧ evC P H (evF P H fs orc fuel d) fn.ntmps fuel c (initT args 0 .leaf) s = some q ∧ endA P fn.results.toList q = some (v, s') := by
  unfold evF at h
  rw [ho] at h
  dsimp only at h
  split at h
  · cases h
  · rename_i fn hfn
    split at h
    · cases h
    · rename_i c hb
      obtain ⟨h1, h2⟩ := hfs.at_ f fn hfn
      cases hn : Nat.ble fn.ntmps 1000000 with
      | false => rw [hn] at h; cases h
      | true =>
      cases hl : Nat.ble args.length fn.ntmps with
      | false => rw [hn, hl] at h; cases h
      | true =>
        rw [hn, hl] at h
        simp only [cond_true] at h
        split at h
        · cases h
        · rename_i q hq
          exact ⟨fn, c, q, h1, h2, hb, Nat.le_of_ble_eq_true hn, Nat.le_of_ble_eq_true hl, hq, h⟩
theorem start_TR [Tab] {E : AEnv} {nt : Nat} {args : List AV} {xs : Array Value} (hn' : nt ≤ 1000000) (hl' : args.length ≤ nt) (hv : VL E args xs.toList) : TR E nt ((initT args 0 .leaf).get .top) { tmps := xs ++ Array.replicate (nt - xs.size) undef, defers := [] } := by
  have hxl : xs.size = args.length := by have := hv.len; simpa using this.symm
  refine ⟨by simp; omega, hn', initT_ok args xs.toList 0 .leaf _ hv (by omega) (fun j hj => absurd hj (Nat.not_lt_zero _)) (fun j _ => rfl) (fun j y hy => ?_)⟩
  have hj : j < xs.size := by
    have := (List.getElem?_eq_some_iff.1 hy).1
    simpa using this
  rw [Nat.zero_add]
  have hy' : xs[j]? = some y := by simpa using hy
  simp only [Array.getD_eq_getD_getElem?, Array.getElem?_append_left hj, hy', Option.getD_some]
theorem endA_cases {P : Program} {rs : List ResultVar} {e : Ex} {t : Tr AV} {s s' : AS} {v : AV} (h : endA P rs (e, t, s) = some (v, s')) : (∃ u, e = .panic u ∧ v = .pan u ∧ s' = s) ∨ ((e = .normal ∨ e = .ret) ∧ resA P t s rs = some v ∧ s' = s) := by
  have key : e.ends = true → (cond e.ends (match resA P t s rs with
    | some v => some (v, s)
    | none => none) none : Option (AV × AS)) = some (v, s') → resA P t s rs = some v ∧ s' = s := by
    intro he h
    rw [he] at h
    simp only [cond_true] at h
    split at h
    · rename_i u hu
      injection h with h
      injection h with e1 e2
      subst e1
      exact ⟨hu, e2.symm⟩
    · cases h
  cases e with
  | panic u =>
    injection h with h
    injection h with e1 e2
    exact .inl ⟨u, rfl, e1.symm, e2.symm⟩
  | normal => exact .inr ⟨.inl rfl, key rfl h⟩
  | ret => exact .inr ⟨.inr rfl, key rfl h⟩
  | exit i => cases h
theorem evF_ok [Tab] {P : Program} {H : Hooks} (hH : DrawOK P H) {fs : Nat → Option Func} (hfs : FnsOK P fs) {orc : Nat → Option (List AV → AS → Option (AV × AS))} (ho : CallOK P fun f args s => match orc f with | some g => g args s | none => none) {fuel : Nat} :
    ∀ d, CallOK P (evF P H fs orc fuel d)
  | 0 => ⟨fun f args s r h => (by cases h), fun f args s v s' h => (by cases h), fun f args s v s' h => (by cases h)⟩
  | d + 1 => by
    have ih := evF_ok hH hfs ho (fuel := fuel) d
    have old : ∀ {f : Nat} {g : List AV → AS → Option (AV × AS)} {args : List AV} {s : AS}, orc f = some g → evF P H fs orc fuel (d + 1) f args s = g args s := fun {f g args s} hg => by
      show (match orc f with
        | some g => g args s
        | none => _) = _
      rw [hg]
    refine ⟨fun f args s r h => ?_, fun f args s v s' h hnp E w xs hr hf hv => ?_, fun f args s u s' h E w xs hr hf hv => ?_⟩
    · cases hg : orc f with
      | some g =>
        rw [old hg] at h
        exact ho.fn f args s r (by rw [hg]; exact h)
      | none =>
        obtain ⟨fn, c, q, h1, h2, hb, _⟩ := evF_some (v := r.1) (s' := r.2) hfs hg h
        exact ⟨fn, h1, by rw [hb]; rfl, h2⟩
    · cases hg : orc f with
      | some g =>
        rw [old hg] at h
        exact ho.calls f args s v s' (by rw [hg]; exact h) hnp E w xs hr hf hv
      | none =>
        obtain ⟨fn, c, ⟨e, t', s1⟩, h1, h2, hb, hn', hl', hq, hend⟩ := evF_some hfs hg h
        rcases endA_cases hend with ⟨u, _, hv', _⟩ | ⟨he, hu, rfl⟩
        · exact absurd hv' (hnp u)
        · refine calls_of_wp h1 hb ?_
          refine wp_mono (evC_ok hH ih fuel c _ s e t' s' hq E _ w (start_TR hn' hl' hv) hr hf) fun ex a' w' hp => ?_
          obtain ⟨p0, E', p1, p2, p3, p4, p5⟩ := hp
          obtain ⟨x, r1, r2⟩ := resA_ok (fn := fn) p1 p2 hu
          rcases he with rfl | rfl
          · cases p0; exact ⟨p5, x, r1, x, E', rfl, r2, p2, p3, p4⟩
          · cases p0; exact ⟨p5, x, r1, x, E', rfl, r2, p2, p3, p4⟩
    · cases hg : orc f with
      | some g =>
        rw [old hg] at h
        exact ho.pans f args s u s' (by rw [hg]; exact h) E w xs hr hf hv
      | none =>
        obtain ⟨fn, c, ⟨e, t', s1⟩, h1, h2, hb, hn', hl', hq, hend⟩ := evF_some hfs hg h
        refine calls_of_wp h1 hb ?_
        refine wp_mono (evC_ok hH ih fuel c _ s e t' s1 hq E _ w (start_TR hn' hl' hv) hr hf) fun ex a' w' hp => ?_
        obtain ⟨p0, E', p1, p2, p3, p4, p5⟩ := hp
        rcases endA_cases hend with ⟨u', rfl, hv', rfl⟩ | ⟨he, hu, rfl⟩
        · injection hv' with hv'
          subst hv'
          cases p0
          exact ⟨p5, E', rfl, p2, p3, p4⟩
        · obtain ⟨x, r1, r2⟩ := resA_ok (fn := fn) p1 p2 hu
          cases r2
/-- No hooks: what draws, and loops over maps, are not gone through. -/
noncomputable def noHooks : Hooks := ⟨fun _ _ _ _ _ => none, fun _ => false, fun _ _ _ _ _ _ => none⟩
theorem noHooks_ok [Tab] (P : Program) : DrawOK P noHooks := ⟨fun _ _ _ _ _ _ _ _ _ _ h => (by cases h), fun _ _ _ _ _ _ _ _ _ _ _ h => (by cases h)⟩
end Go.Proofs.YtambgppdjlhdaaaGreatDoor
