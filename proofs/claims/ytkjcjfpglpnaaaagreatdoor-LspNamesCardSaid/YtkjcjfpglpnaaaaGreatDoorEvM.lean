/-
  The abstract machine: functions. No program.
-/
import Derived.Test.YtkjcjfpglpnaaaaGreatDoorEvL
namespace Go.Proofs.YtkjcjfpglpnaaaaGreatDoor
open Go.RowKit

noncomputable def initT : List AV → Nat → Tr AV → Tr AV
  | [], _, t => t
  | v :: r, k, t => initT r (Nat.succ k) (t.set .top v 20 k)
noncomputable def Ex.ends : Ex → Bool
  | .normal => true
  | .ret => true
  | .exit _ => false
noncomputable def evF (P : Program) (H : Hooks) (fs : Nat → Option Func) (orc : Nat → Option (List AV → AS → Option (AV × AS))) (fuel : Nat) : Nat → Nat → List AV → AS → Option (AV × AS)
  | 0, _, _, _ => none
  | d + 1, f, args, s => match orc f with
    | some g => g args s
    | none => match fs f with
      | none => none
      | some fn => match fn.body with
        | none => none
        | some c => cond (Nat.ble fn.ntmps 1000000) (cond (Nat.ble args.length fn.ntmps) (match evC P H (evF P H fs orc fuel d) fn.ntmps fuel c (initT args 0 .leaf) s with
          | none => none
          | some q => cond q.1.ends (match resA P q.2.1 q.2.2 fn.results.toList with
            | some v => some (v, q.2.2)
            | none => none) none) none) none
theorem initT_ok {E : Env} : ∀ (l : List AV) (vs : List Value) (k : Nat) (t : Tr AV) (f : Nat → Value), VL E l vs → k + l.length ≤ 1000000 → (∀ j, j < k → VR E (t.get .top j) (f j)) → (∀ j, k ≤ j → t.get .top j = .top) → (∀ j v, vs[j]? = some v → f (k + j) = v) →
    ∀ j, VR E ((initT l k t).get .top j) (f j)
  | [], vs, k, t, f, hl, _, h1, h2, h3, j => by
    show VR E (t.get .top j) (f j)
    rcases Nat.lt_or_ge j k with h | h
    · exact h1 j h
    · rw [h2 j h]; exact .top _
  | v :: r, [], _, _, _, hl, _, _, _, _, _ => by have := hl.len; simp at this
  | v :: r, x :: vs, k, t, f, hl, hk, h1, h2, h3, j => by
    simp only [List.length_cons] at hk
    refine initT_ok r vs (k + 1) _ f hl.tail (by omega) (fun i hi => ?_) (fun i hi => ?_) (fun i u hu => ?_) j
    · by_cases e : i = k
      · subst e
        rw [Tr.get_set _ _ _ _ _ (by omega)]
        have := h3 0 x rfl
        rw [Nat.add_zero] at this
        rw [this]
        exact hl.head
      · rw [Tr.get_set_ne _ _ _ _ _ _ e]
        exact h1 i (by omega)
    · rw [Tr.get_set_ne _ _ _ _ _ _ (by omega)]
      exact h2 i (by omega)
    · have := h3 (i + 1) u (by simpa using hu)
      rw [← this]
      congr 1
      omega
structure FnsOK (P : Program) (fs : Nat → Option Func) : Prop where
  at_ : ∀ f fn, fs f = some fn → P.funcs[f]? = some fn ∧ (fn.name == "runtime.NumGoroutine") = false
theorem evF_ok {P : Program} {H : Hooks} (hH : DrawOK P H) {fs : Nat → Option Func} (hfs : FnsOK P fs) {orc : Nat → Option (List AV → AS → Option (AV × AS))} (ho : CallOK P fun f args s => match orc f with | some g => g args s | none => none) {fuel : Nat} :
    ∀ d, CallOK P (evF P H fs orc fuel d)
  | 0 => ⟨fun f args s r h => (by cases h), fun f args s v s' h => (by cases h)⟩
  | d + 1 => by
    have ih := evF_ok hH hfs ho (fuel := fuel) d
    refine ⟨fun f args s r h => ?_, fun f args s v s' h E w xs hr hf hv => ?_⟩
    · unfold evF at h
      split at h
      · rename_i g hg
        exact ho.fn f args s r (by rw [hg]; exact h)
      · split at h
        · cases h
        · rename_i fn hfn
          split at h
          · cases h
          · rename_i c hb
            obtain ⟨h1, h2⟩ := hfs.at_ f fn hfn
            exact ⟨fn, h1, by rw [hb]; rfl, h2⟩
    · unfold evF at h
      split at h
      · rename_i g hg
        exact ho.calls f args s v s' (by rw [hg]; exact h) E w xs hr hf hv
      · split at h
        · cases h
        · rename_i fn hfn
          split at h
          · cases h
          · rename_i c hb
            obtain ⟨h1, h2⟩ := hfs.at_ f fn hfn
            cases hn : Nat.ble fn.ntmps 1000000 with
            | false => rw [hn] at h; cases h
            | true =>
            cases hl : Nat.ble args.length fn.ntmps with
            | false => rw [hn, hl] at h; cases h
            | true =>
              rw [hn, hl] at h
              simp only [cond_true] at h
              have hn' : fn.ntmps ≤ 1000000 := Nat.le_of_ble_eq_true hn
              have hl' : args.length ≤ fn.ntmps := Nat.le_of_ble_eq_true hl
              have hxl : xs.size = args.length := by have := hv.len; simpa using this.symm
              split at h
              · cases h
              · rename_i q hq
                obtain ⟨e, t', s1⟩ := q
                dsimp only at h
                cases hen : e.ends with
                | false => rw [hen] at h; cases h
                | true =>
                  rw [hen] at h
                  simp only [cond_true] at h
                  split at h
                  · rename_i u hu
                    injection h with h
                    injection h with e1 e2
                    subst e1
                    subst e2
                    refine calls_of_wp h1 hb ?_
                    have ht : TR E fn.ntmps ((initT args 0 .leaf).get .top) { tmps := xs ++ Array.replicate (fn.ntmps - xs.size) undef, defers := [] } := by
                      refine ⟨by simp; omega, hn', initT_ok args xs.toList 0 .leaf _ hv (by omega) (fun j hj => absurd hj (Nat.not_lt_zero _)) (fun j _ => rfl) (fun j y hy => ?_)⟩
                      have hj : j < xs.size := by
                        have := (List.getElem?_eq_some_iff.1 hy).1
                        simpa using this
                      rw [Nat.zero_add]
                      have hy' : xs[j]? = some y := by simpa using hy
                      simp only [Array.getD_eq_getD_getElem?, Array.getElem?_append_left hj, hy', Option.getD_some]
                    refine wp_mono (evC_ok hH ih fuel c _ s e t' s1 hq E _ w ht hr hf) fun ex a' w' hp => ?_
                    obtain ⟨p0, E', p1, p2, p3, p4, p5⟩ := hp
                    obtain ⟨x, r1, r2⟩ := resA_ok (fn := fn) p1 p2 hu
                    cases e with
                    | normal => cases p0; exact ⟨p5, x, r1, x, E', rfl, r2, p2, p3, p4⟩
                    | ret => cases p0; exact ⟨p5, x, r1, x, E', rfl, r2, p2, p3, p4⟩
                    | exit i => cases hen
                  · cases h
/-- No hooks: what draws, and loops over maps, are not gone through. -/
noncomputable def noHooks : Hooks := ⟨fun _ _ _ _ _ => none, fun _ => false, fun _ _ _ _ _ _ => none⟩
theorem noHooks_ok (P : Program) : DrawOK P noHooks := ⟨fun _ _ _ _ _ _ _ _ _ h => (by cases h), fun _ _ _ _ _ _ _ _ _ _ _ h => (by cases h)⟩
end Go.Proofs.YtkjcjfpglpnaaaaGreatDoor
