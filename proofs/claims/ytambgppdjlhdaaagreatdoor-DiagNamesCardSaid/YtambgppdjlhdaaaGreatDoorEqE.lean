/-
  The quick machine for the kernel: a function with one deferred closure that recovers first. No program.
-/
import Derived.Test.YtambgppdjlhdaaaGreatDoorEqD
import Derived.Test.YtambgppdjlhdaaaGreatDoorEwA
namespace Go.Proofs.YtambgppdjlhdaaaGreatDoor
open Go.RowKit

/-- The deferred closure. -/
noncomputable def rcEnd (K : AS → RR) (e : Ex) (_ : SL) (s : AS) : RR := match e with
  | .normal => K s
  | .ret => K s
  | _ => none
noncomputable def rcMid (P : Program) (nt : Nat) (cq : CallQ) (fuel : Nat) (rest : Code) (K : AS → RR) (e : Ex) (t : SL) (s : AS) : RR := match e with
  | .normal => runC P nt cq fuel rest t s (rcEnd K)
  | _ => none
noncomputable def recQ (P : Program) (cq : CallQ) (fuel : Nat) (fn : Func) (caps : List AV) (u : AV) (s : AS) (K : AS → RR) : RR := match recOf fn with
  | none => none
  | some r => cond (Nat.ble fn.ntmps 1000000) (cond (Nat.ble caps.length fn.ntmps) (cond (Nat.ble (Nat.succ r.2.1) fn.ntmps) (match fn.results.toList with
    | [] => runL (jitL P fn.ntmps r.1.toList r.2.2.1) cq ((iniQ caps 0 .nil).wr r.2.1 u) s (rcMid P fn.ntmps cq fuel r.2.2.2 K)
    | _ => none) none) none) none
theorem recQ_ok [Tab] {P : Program} {call : Nat → List AV → AS → Option (AV × AS)} {cq : CallQ} (hc : CallRel call cq) {fuel : Nat} {fn : Func} {caps : List AV} {u : AV} {s : AS} {K : AS → RR} {r : RZ} (h : recQ P cq fuel fn caps u s K = some r) : ∃ s', recA P call fuel fn caps u s = some s' ∧ K s' = some r := by
  unfold recQ at h
  unfold recA
  split at h
  · cases h
  · rename_i q hq
    cases h1 : Nat.ble fn.ntmps 1000000 with
    | false => rw [h1] at h; cases h
    | true =>
    cases h2 : Nat.ble caps.length fn.ntmps with
    | false => rw [h1, h2] at h; cases h
    | true =>
    cases h3 : Nat.ble (Nat.succ q.2.1) fn.ntmps with
    | false => rw [h1, h2, h3] at h; cases h
    | true =>
      rw [h1, h2, h3] at h
      simp only [cond_true] at h ⊢
      have hl : fn.ntmps ≤ 1000000 := Nat.le_of_ble_eq_true h1
      have hcl : caps.length ≤ fn.ntmps := Nat.le_of_ble_eq_true h2
      have hd : q.2.1 < fn.ntmps := Nat.le_of_ble_eq_true h3
      split at h
      · rename_i hres
        obtain ⟨tr0, hp, ht0⟩ := putT_at hl (iniQ_at caps 0 .nil .leaf (by omega) (funext fun k => (SL.at_nil k).symm)) (d := some q.2.1) (fun k e => by injection e with e; rw [← e]; exact hd) u
        obtain ⟨e, tr', t', s', g1, g2, g3⟩ := runL_ok hc hl (all := q.1) q.2.2.1 _ s tr0 ht0 h
        cases e with
        | normal =>
          rcases g1 with ⟨g1, _⟩ | ⟨_, u', _, e⟩
          · obtain ⟨e2, tr2, t2, s2, k1, k2, k3⟩ := runC_ok hc hl fuel q.2.2.2 _ t' s' tr' g2 g3
            rw [hq]
            dsimp only
            rw [hp]
            dsimp only
            rw [g1]
            dsimp only
            rw [k1, hres]
            cases e2 with
            | normal => exact ⟨s2, rfl, k3⟩
            | ret => exact ⟨s2, rfl, k3⟩
            | exit i => cases k3
            | panic u => cases k3
          · cases e
        | exit i => cases g3
        | ret => cases g3
        | panic u => cases g3
      · cases h
noncomputable def rsK (P : Program) (rs : List ResultVar) (t : SL) (K : AV → AS → RR) (s : AS) : RR := rsQ P rs t s K
noncomputable def fnQK (P : Program) (cq : CallQ) (fuel : Nat) (rs : List ResultVar) (fn : Func) (caps : List AV) (K : AV → AS → RR) (e : Ex) (t : SL) (s : AS) : RR := match e with
  | .normal => recQ P cq fuel fn caps .nili s (rsK P rs t K)
  | .ret => recQ P cq fuel fn caps .nili s (rsK P rs t K)
  | .panic u => match panV u with
    | some v => recQ P cq fuel fn caps v s (rsK P rs t K)
    | none => none
  | .exit _ => none
theorem fnQK_ok [Tab] {P : Program} {call : Nat → List AV → AS → Option (AV × AS)} {cq : CallQ} (hc : CallRel call cq) {fuel : Nat} {rs : List ResultVar} {fn : Func} {caps : List AV} {K : AV → AS → RR} {e : Ex} {t : SL} {tr : Tr AV} (ht : tr.get .top = t.at) {s : AS} {r : RZ} (h : fnQK P cq fuel rs fn caps K e t s = some r) : ∃ v s', finG P call fuel rs fn caps (some (e, tr, s)) = some (v, s') ∧ K v s' = some r := by
  have fin : ∀ u, recQ P cq fuel fn caps u s (rsK P rs t K) = some r → ∃ v s2, recA P call fuel fn caps u s = some s2 ∧ endG P rs tr s2 = some (v, s2) ∧ K v s2 = some r := by
    intro u h
    obtain ⟨s2, h1, h2⟩ := recQ_ok hc h
    obtain ⟨v, h3, h4⟩ := rsQ_ok ht h2
    refine ⟨v, s2, h1, ?_, h4⟩
    unfold endG
    rw [h3]
  unfold fnQK at h
  split at h
  · obtain ⟨v, s2, h1, h2, h3⟩ := fin _ h
    refine ⟨v, s2, ?_, h3⟩
    unfold finG
    dsimp only
    rw [h1]
    exact h2
  · obtain ⟨v, s2, h1, h2, h3⟩ := fin _ h
    refine ⟨v, s2, ?_, h3⟩
    unfold finG
    dsimp only
    rw [h1]
    exact h2
  · rename_i u
    split at h
    · rename_i a ha
      obtain ⟨v, s2, h1, h2, h3⟩ := fin _ h
      refine ⟨v, s2, ?_, h3⟩
      unfold finG
      dsimp only
      rw [ha]
      dsimp only
      rw [h1]
      exact h2
    · cases h
  · cases h
noncomputable def noK (_ : Ex) (_ : SL) (_ : AS) : RR := none
noncomputable def dfK (P : Program) (cq : CallQ) (fs : Nat → Option Func) (fuel nt : Nat) (rs : List ResultVar) (o2 : Oper) (f : Operand) (y : Code) (K : AV → AS → RR) (t1 : SL) (s : AS) : RR := match oevF t1.at f with
  | .fn g caps => match fs g with
    | some fn => cond (Option.rec (motive := fun _ => Bool) true (fun d => Nat.ble (Nat.succ d) nt) o2.dst) (runC P nt cq fuel y (t1.pw o2.dst .undef) s (fnQK P cq fuel rs fn caps K)) none
    | none => none
  | _ => none
noncomputable def gdK (ih : SL → AS → (AV → AS → RR) → RR) (P : Program) (rs : List ResultVar) (K : AV → AS → RR) (e : Ex) (t : SL) (s : AS) : RR := match e with
  | .normal => ih t s K
  | .ret => rsQ P rs t s K
  | _ => none
noncomputable def gdC (P : Program) (cq : CallQ) (fs : Nat → Option Func) (fuel nt : Nat) (rs : List ResultVar) : Code → SL → AS → (AV → AS → RR) → RR
  | .seq x y, t, s, K => match deferOf x with
    | some r => match jit1 P nt r.2.1 with
      | some q => q cq t s noK (dfK P cq fs fuel nt rs r.2.2.1 r.2.2.2 y K)
      | none => none
    | none => runC P nt cq fuel x t s (gdK (gdC P cq fs fuel nt rs y) P rs K)
  | _, _, _, _ => none
theorem gdC_ok [Tab] {P : Program} {call : Nat → List AV → AS → Option (AV × AS)} {cq : CallQ} (hc : CallRel call cq) {fs : Nat → Option Func} {fuel nt : Nat} (hl : nt ≤ 1000000) {rs : List ResultVar} {K : AV → AS → RR} {r : RZ} : ∀ (c : Code) (t : SL) (s : AS) (tr : Tr AV), tr.get .top = t.at → gdC P cq fs fuel nt rs c t s K = some r → ∃ v s', gdA P call fs fuel nt rs c tr s = some (v, s') ∧ K v s' = some r
  | .seq x y, t, s, tr, ht, h => by
    unfold gdC at h
    unfold gdA
    split at h
    · rename_i p hp
      rw [hp]
      dsimp only
      split at h
      · rename_i q hq
        have hok := jit1_ok hc hq
        have hev : oev tr = oevF t.at := by rw [← ht]; rfl
        rcases hok.run t s noK _ r h with ⟨v, s1, h1, h2, h3⟩ | ⟨u, s1, h1, h2, h3⟩
        · rw [hev, h1]
          dsimp only
          obtain ⟨tr1, h4, h5⟩ := putT_at hl ht hok.dst v
          rw [h4]
          dsimp only
          unfold dfK at h3
          have hev1 : oev tr1 p.2.2.2 = oevF (t.pw p.2.1.dst v).at p.2.2.2 := by rw [← h5]; rfl
          rw [hev1]
          split at h3
          · rename_i g caps hg
            rw [hg]
            dsimp only
            split at h3
            · rename_i fn hfn
              rw [hfn]
              dsimp only
              have hd := (Bool.eq_false_or_eq_true (Option.rec (motive := fun _ => Bool) true (fun d => Nat.ble (Nat.succ d) nt) p.2.2.1.dst)).symm
              rcases hd with hd | hd
              · rw [hd] at h3; cases h3
              · rw [hd] at h3
                simp only [cond_true] at h3
                obtain ⟨tr2, h6, h7⟩ := putT_at hl h5 (d := p.2.2.1.dst) (fun k e => by rw [e] at hd; exact Nat.le_of_ble_eq_true hd) .undef
                rw [h6]
                dsimp only
                obtain ⟨e, tr3, t3, s3, g1, g2, g3⟩ := runC_ok hc hl fuel y _ _ s1 tr2 h7 h3
                rw [g1]
                exact fnQK_ok hc g2 g3
            · cases h3
          · cases h3
        · cases h3
      · cases h
    · rename_i hp
      rw [hp]
      dsimp only
      obtain ⟨e, tr1, t1, s1, g1, g2, g3⟩ := runC_ok hc hl fuel x _ t s tr ht h
      rw [g1]
      cases e with
      | normal => exact gdC_ok hc hl y t1 s1 tr1 g2 g3
      | ret =>
        obtain ⟨v, h3, h4⟩ := rsQ_ok g2 g3
        refine ⟨v, s1, ?_, h4⟩
        show endG P rs tr1 s1 = _
        unfold endG
        rw [h3]
      | exit i => cases g3
      | panic u => cases g3
  | .skip, _, _, _, _, h => by cases h
  | .region _ _ _, _, _, _, _, h => by cases h
  | .cond _ _ _, _, _, _, _, h => by cases h
  | .block _ _, _, _, _, _, h => by cases h
  | .loop _, _, _, _, _, h => by cases h
  | .rangeFunc _ _ _ _, _, _, _, _, h => by cases h
  | .exit _, _, _, _, _, h => by cases h
  | .scope _, _, _, _, _, h => by cases h
  | .label _, _, _, _, _, h => by cases h
  | .goto _, _, _, _, _, h => by cases h
  | .ret, _, _, _, _, h => by cases h
  | .refuse _, _, _, _, _, h => by cases h
noncomputable def npK (K : AV → AS → RR) (v : AV) (s : AS) : RR := onPanR v gnp (kvQ s K)
noncomputable def guardedQ (P : Program) (cq : CallQ) (fs : Nat → Option Func) (fuel : Nat) (fn : Func) : OQ := fun args s K => match fn.body with
  | none => none
  | some c => cond (Nat.ble fn.ntmps 1000000) (cond (Nat.ble args.length fn.ntmps) (gdC P cq fs fuel fn.ntmps fn.results.toList c (iniQ args 0 .nil) s (npK K)) none) none
theorem guardedQ_ok [Tab] {P : Program} {call : Nat → List AV → AS → Option (AV × AS)} {cq : CallQ} (hc : CallRel call cq) {fs : Nat → Option Func} {fuel : Nat} {fn : Func} : OrcRel (some (guardedA P call fs fuel fn)) (some (guardedQ P cq fs fuel fn)) := fun args s K r h => by
  unfold guardedQ at h
  unfold guardedA
  split at h
  · cases h
  · rename_i c hb
    cases h1 : Nat.ble fn.ntmps 1000000 with
    | false => rw [h1] at h; cases h
    | true =>
    cases h2 : Nat.ble args.length fn.ntmps with
    | false => rw [h1, h2] at h; cases h
    | true =>
      rw [h1, h2] at h
      simp only [cond_true] at h
      rw [hb]
      dsimp only
      simp only [cond_true]
      have hl : fn.ntmps ≤ 1000000 := Nat.le_of_ble_eq_true h1
      have hal : args.length ≤ fn.ntmps := Nat.le_of_ble_eq_true h2
      obtain ⟨v, s', g1, g2⟩ := gdC_ok hc hl c _ s (initT args 0 .leaf) (iniQ_at args 0 .nil .leaf (by omega) (funext fun k => (SL.at_nil k).symm)) h
      rw [g1]
      have hn : ∀ u, v ≠ .pan u := fun u e => by rw [e] at g2; cases g2
      unfold npK at g2
      rw [onPanR_ne hn] at g2
      refine ⟨v, s', ?_, g2⟩
      cases v <;> first | rfl | exact absurd rfl (hn _)
end Go.Proofs.YtambgppdjlhdaaaGreatDoor
