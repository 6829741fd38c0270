/-
  The quick machine for the kernel: functions that range over a function that goes through a slice from its end. No program.
-/
import Derived.Test.YtambgppdjlhdaaaGreatDoorEqE
import Derived.Test.YtambgppdjlhdaaaGreatDoorEwR
namespace Go.Proofs.YtambgppdjlhdaaaGreatDoor
open Go.RowKit

noncomputable def nrK (K : SL → AS → RR) (e : Ex) (t : SL) (s : AS) : RR := match e with
  | .normal => K t s
  | _ => none
noncomputable def evRQ (P : Program) (cq : CallQ) (nt : Nat) : Code → SL → AS → (SL → AS → RR) → RR
  | .skip, t, s, K => K t s
  | .seq x y, t, s, K => evRQ P cq nt x t s fun t s => evRQ P cq nt y t s K
  | .region _ ops false, t, s, K => cond (noDef ops.toList) (runL (jitL P nt ops.toList ops.toList) cq t s (nrK K)) none
  | .block _ x, t, s, K => evRQ P cq nt x t s K
  | _, _, _, _ => none
theorem evRQ_ok [Tab] {P : Program} {call : Nat → List AV → AS → Option (AV × AS)} {cq : CallQ} (hc : CallRel call cq) {nt : Nat} (hl : nt ≤ 1000000) {r : RZ} : ∀ (c : Code) (t : SL) (s : AS) (tr : Tr AV) (K : SL → AS → RR), tr.get .top = t.at → evRQ P cq nt c t s K = some r →
    ∃ tr' t' s', evR P call nt c tr s = some (tr', s') ∧ tr'.get .top = t'.at ∧ K t' s' = some r
  | .skip, t, s, tr, K, ht, h => ⟨tr, t, s, rfl, ht, h⟩
  | .seq x y, t, s, tr, K, ht, h => by
    unfold evRQ at h
    obtain ⟨tr1, t1, s1, h1, h2, h3⟩ := evRQ_ok hc hl x t s tr _ ht h
    obtain ⟨tr2, t2, s2, g1, g2, g3⟩ := evRQ_ok hc hl y t1 s1 tr1 K h2 h3
    refine ⟨tr2, t2, s2, ?_, g2, g3⟩
    unfold evR
    rw [h1]
    exact g1
  | .region id ops false, t, s, tr, K, ht, h => by
    unfold evRQ at h
    cases hn : noDef ops.toList with
    | false => rw [hn] at h; cases h
    | true =>
      rw [hn] at h
      obtain ⟨e, tr', t', s', g1, g2, g3⟩ := runL_ok hc hl (all := ops) ops.toList t s tr ht h
      cases e with
      | normal =>
        rcases g1 with ⟨g1, _⟩ | ⟨_, u', _, e⟩
        · refine ⟨tr', t', s', ?_, g2, g3⟩
          unfold evR
          rw [hn]
          exact g1
        · cases e
      | exit i => cases g3
      | ret => cases g3
      | panic u => cases g3
  | .region _ _ true, _, _, _, _, _, h => by cases h
  | .cond _ _ _, _, _, _, _, _, h => by cases h
  | .block _ x, t, s, tr, K, ht, h => by
    obtain ⟨tr1, t1, s1, h1, h2, h3⟩ := evRQ_ok hc hl x t s tr K ht h
    exact ⟨tr1, t1, s1, h1, h2, h3⟩
  | .loop _, _, _, _, _, _, h => by cases h
  | .rangeFunc _ _ _ _, _, _, _, _, _, h => by cases h
  | .exit _, _, _, _, _, _, h => by cases h
  | .scope _, _, _, _, _, _, h => by cases h
  | .label _, _, _, _, _, _, h => by cases h
  | .goto _, _, _, _, _, _, h => by cases h
  | .ret, _, _, _, _, _, h => by cases h
  | .refuse _, _, _, _, _, _, h => by cases h
noncomputable def rdQ (P : Program) (cq : CallQ) (nt p0 p1 : Nat) (asg body : Code) (t : SL) (b g o n sz : Nat) (K : AS → RR) : Nat → AS → RR
  | 0, s => cond (holdsB s b g o n) (K s) none
  | k + 1, s => cond (holdsB s b g o n) (match rowA s g (Nat.add o (Nat.mul k sz)) sz with
    | none => none
    | some xs => cond (Nat.ble (Nat.succ p0) nt) (cond (Nat.ble (Nat.succ p1) nt) (evRQ P cq nt asg ((t.pw (some p0) (.int .i64 (Int.ofNat k))).pw (some p1) (.agg xs)) s fun t3 s3 => evRQ P cq nt body t3 s3 fun _ s4 => rdQ P cq nt p0 p1 asg body t b g o n sz K k s4) none) none) none
theorem rdQ_ok [Tab] {P : Program} {call : Nat → List AV → AS → Option (AV × AS)} {cq : CallQ} (hc : CallRel call cq) {nt p0 p1 : Nat} (hl : nt ≤ 1000000) {asg body : Code} {t : SL} {tr : Tr AV} (ht : tr.get .top = t.at) {b g o n sz : Nat} {K : AS → RR} {r : RZ} : ∀ (k : Nat) (s : AS), rdQ P cq nt p0 p1 asg body t b g o n sz K k s = some r →
    ∃ s', rdA P call nt p0 p1 asg body tr b g o n sz k s = some s' ∧ K s' = some r
  | 0, s, h => by
    unfold rdQ at h
    cases hb : holdsB s b g o n with
    | false => rw [hb] at h; cases h
    | true =>
      rw [hb] at h
      refine ⟨s, ?_, h⟩
      unfold rdA
      rw [hb]
      rfl
  | k + 1, s, h => by
    unfold rdQ at h
    cases hb : holdsB s b g o n with
    | false => rw [hb] at h; cases h
    | true =>
      rw [hb] at h
      simp only [cond_true] at h
      split at h
      · cases h
      · rename_i xs hxs
        cases h1 : Nat.ble (Nat.succ p0) nt with
        | false => rw [h1] at h; cases h
        | true =>
        cases h2 : Nat.ble (Nat.succ p1) nt with
        | false => rw [h1, h2] at h; cases h
        | true =>
          rw [h1, h2] at h
          simp only [cond_true] at h
          obtain ⟨tr1, e1, e2⟩ := putT_at hl ht (d := some p0) (fun k e => by injection e with e; rw [← e]; exact Nat.le_of_ble_eq_true h1) (.int .i64 (Int.ofNat k))
          obtain ⟨tr2, e3, e4⟩ := putT_at hl e2 (d := some p1) (fun k e => by injection e with e; rw [← e]; exact Nat.le_of_ble_eq_true h2) (.agg xs)
          obtain ⟨tr3, t3, s3, g1, g2, g3⟩ := evRQ_ok hc hl asg _ s tr2 _ e4 h
          obtain ⟨tr4, t4, s4, g4, g5, g6⟩ := evRQ_ok hc hl body t3 s3 tr3 _ g2 g3
          obtain ⟨s', g7, g8⟩ := rdQ_ok hc hl ht k s4 g6
          refine ⟨s', ?_, g8⟩
          unfold rdA
          rw [hb]
          simp only [cond_true]
          rw [hxs]
          dsimp only
          rw [e1]
          dsimp only
          rw [e3]
          dsimp only
          rw [g1]
          dsimp only
          rw [g4]
          exact g7
noncomputable def rgQ (P : Program) (cq : CallQ) (nt p0 p1 : Nat) (asg body : Code) (t : SL) (b sz : Nat) (s : AS) (K : AS → RR) : RR := match boxV s b with
  | none => none
  | some v => match v with
    | .nils => K s
    | v => match slA v with
      | some q => cond (Nat.ble q.2.2 1000000) (rdQ P cq nt p0 p1 asg body t b q.1 q.2.1 q.2.2 sz K q.2.2 s) none
      | none => none
theorem rgQ_ok [Tab] {P : Program} {call : Nat → List AV → AS → Option (AV × AS)} {cq : CallQ} (hc : CallRel call cq) {nt p0 p1 : Nat} (hl : nt ≤ 1000000) {asg body : Code} {t : SL} {tr : Tr AV} (ht : tr.get .top = t.at) {b sz : Nat} {s : AS} {K : AS → RR} {r : RZ} (h : rgQ P cq nt p0 p1 asg body t b sz s K = some r) :
    ∃ s', rgA P call nt p0 p1 asg body tr b sz s = some s' ∧ K s' = some r := by
  unfold rgQ at h
  unfold rgA
  split at h
  · cases h
  · rename_i v hv
    rw [hv]
    split at h
    · exact ⟨s, rfl, h⟩
    · rename_i hne
      split at h
      · rename_i q hq
        cases hn : Nat.ble q.2.2 1000000 with
        | false => rw [hn] at h; cases h
        | true =>
          rw [hn] at h
          obtain ⟨s', h1, h2⟩ := rdQ_ok hc hl ht _ s h
          refine ⟨s', ?_, h2⟩
          cases v <;> first
            | exact absurd rfl hne
            | (dsimp only; rw [hq]; dsimp only; rw [hn]; exact h1)
      · cases h
noncomputable def enK (P : Program) (rs : List ResultVar) (K : AV → AS → RR) (e : Ex) (t : SL) (s : AS) : RR := match e with
  | .normal => rsQ P rs t s K
  | .ret => rsQ P rs t s K
  | _ => none
noncomputable def elK (ih : SL → AS → KE → RR) (K : KE) (e : Ex) (t : SL) (s : AS) : RR := match e with
  | .normal => ih t s K
  | e => K e t s
noncomputable def evLQ (P : Program) (cq : CallQ) (fuel nt : Nat) : List Code → SL → AS → KE → RR
  | [], t, s, K => K .normal t s
  | y :: r, t, s, K => runC P nt cq fuel y t s (elK (evLQ P cq fuel nt r) K)
theorem evLQ_ok [Tab] {P : Program} {call : Nat → List AV → AS → Option (AV × AS)} {cq : CallQ} (hc : CallRel call cq) {fuel nt : Nat} (hl : nt ≤ 1000000) {K : KE} {r : RZ} : ∀ (l : List Code) (t : SL) (s : AS) (tr : Tr AV), tr.get .top = t.at → evLQ P cq fuel nt l t s K = some r →
    ∃ e tr' t' s', evL P call fuel nt l tr s = some (e, tr', s') ∧ tr'.get .top = t'.at ∧ K e t' s' = some r
  | [], t, s, tr, ht, h => ⟨.normal, tr, t, s, rfl, ht, h⟩
  | y :: l, t, s, tr, ht, h => by
    unfold evLQ at h
    obtain ⟨e, tr1, t1, s1, g1, g2, g3⟩ := runC_ok hc hl fuel y _ t s tr ht h
    unfold evL
    rw [g1]
    cases e with
    | normal => exact evLQ_ok hc hl l t1 s1 tr1 g2 g3
    | ret => exact ⟨_, tr1, t1, s1, rfl, g2, g3⟩
    | exit i => exact ⟨_, tr1, t1, s1, rfl, g2, g3⟩
    | panic u => exact ⟨_, tr1, t1, s1, rfl, g2, g3⟩
noncomputable def raK (ih : Code → List Code → SL → AS → RR) (rest : List Code) (P : Program) (rs : List ResultVar) (K : AV → AS → RR) (e : Ex) (t : SL) (s : AS) : RR := match e with
  | .normal => match rest with
    | [] => rsQ P rs t s K
    | y :: r => ih y r t s
  | .ret => rsQ P rs t s K
  | .panic u => K (.pan u) s
  | .exit _ => none
noncomputable def raQ (P : Program) (cq : CallQ) (bk : Nat → Option Nat) (fuel nt : Nat) (rs : List ResultVar) (K : AV → AS → RR) : Nat → Code → List Code → SL → AS → RR
  | 0, _, _, _, _ => none
  | k + 1, c, rest, t, s => match c with
    | .seq x y => raQ P cq bk fuel nt rs K k x (y :: rest) t s
    | c => match rangeOf c with
      | some r => match oevF t.at r.1 with
        | .fn f [.ptr b 0] => match bk f with
          | some sz => rgQ P cq nt r.2.1 r.2.2.1 r.2.2.2.1 r.2.2.2.2 t b sz s fun sE => evLQ P cq fuel nt rest t sE (enK P rs K)
          | none => none
        | _ => none
      | none => runC P nt cq fuel c t s (raK (raQ P cq bk fuel nt rs K k) rest P rs K)
theorem raQ_ok [Tab] {P : Program} {call : Nat → List AV → AS → Option (AV × AS)} {cq : CallQ} (hc : CallRel call cq) {bk : Nat → Option Nat} {fuel nt : Nat} (hl : nt ≤ 1000000) {rs : List ResultVar} {K : AV → AS → RR} {r : RZ} : ∀ (k : Nat) (c : Code) (rest : List Code) (t : SL) (s : AS) (tr : Tr AV), tr.get .top = t.at → raQ P cq bk fuel nt rs K k c rest t s = some r → ∃ v s', raA P call bk fuel nt rs k c rest tr s = some (v, s') ∧ K v s' = some r
  | 0, _, _, _, _, _, _, h => by cases h
  | k + 1, c, rest, t, s, tr, ht, h => by
    have hev : ∀ g, oev tr g = oevF t.at g := fun g => by rw [← ht]; rfl
    have fin : ∀ {t1 : SL} {tr1 : Tr AV} {s1 : AS}, tr1.get .top = t1.at → rsQ P rs t1 s1 K = some r → ∃ v, endG P rs tr1 s1 = some (v, s1) ∧ K v s1 = some r := fun {t1 tr1 s1} h1 h2 => by
      obtain ⟨v, h3, h4⟩ := rsQ_ok h1 h2
      refine ⟨v, ?_, h4⟩
      unfold endG
      rw [h3]
    unfold raQ at h
    unfold raA
    split at h
    · exact raQ_ok hc hl k _ _ t s tr ht h
    · rename_i hns
      have hmid : ∃ v s', raM (raA P call bk fuel nt rs k) P call bk fuel nt rs c rest tr s = some (v, s') ∧ K v s' = some r := by
        unfold raM
        split at h
        · rename_i q hq
          rw [hq]
          dsimp only
          rw [hev]
          split at h
          · rename_i f b hf
            rw [hf]
            split at h
            · rename_i sz hsz
              show ∃ v s', (match bk f with
                | some sz => match rgA P call nt q.2.1 q.2.2.1 q.2.2.2.1 q.2.2.2.2 tr b sz s with
                  | some sE => endR P rs (evL P call fuel nt rest tr sE)
                  | none => none
                | none => none) = some (v, s') ∧ K v s' = some r
              rw [hsz]
              dsimp only
              obtain ⟨sE, h1, h2⟩ := rgQ_ok hc hl ht h
              rw [h1]
              dsimp only
              obtain ⟨e, tr1, t1, s1, g1, g2, g3⟩ := evLQ_ok hc hl rest t sE tr ht h2
              rw [g1]
              cases e with
              | normal =>
                obtain ⟨v, h3, h4⟩ := fin g2 g3
                exact ⟨v, s1, h3, h4⟩
              | ret =>
                obtain ⟨v, h3, h4⟩ := fin g2 g3
                exact ⟨v, s1, h3, h4⟩
              | exit i => cases g3
              | panic u => cases g3
            · cases h
          · cases h
        · rename_i hq
          rw [hq]
          dsimp only
          obtain ⟨e, tr1, t1, s1, g1, g2, g3⟩ := runC_ok hc hl fuel c _ t s tr ht h
          rw [g1]
          cases e with
          | normal =>
            cases rest with
            | nil =>
              obtain ⟨v, h3, h4⟩ := fin g2 g3
              exact ⟨v, s1, h3, h4⟩
            | cons y r => exact raQ_ok hc hl k y r t1 s1 tr1 g2 g3
          | ret =>
            obtain ⟨v, h3, h4⟩ := fin g2 g3
            exact ⟨v, s1, h3, h4⟩
          | exit i => cases g3
          | panic u => exact ⟨_, s1, rfl, g3⟩
      cases c <;> first
        | exact (hns _ _ rfl).elim
        | exact hmid
noncomputable def rangedQ (P : Program) (cq : CallQ) (bk : Nat → Option Nat) (fuel : Nat) (fn : Func) : OQ := fun args s K => match fn.body with
  | none => none
  | some c => cond (Nat.ble fn.ntmps 1000000) (cond (Nat.ble args.length fn.ntmps) (raQ P cq bk fuel fn.ntmps fn.results.toList K 10000 c [] (iniQ args 0 .nil) s) none) none
theorem rangedQ_ok [Tab] {P : Program} {call : Nat → List AV → AS → Option (AV × AS)} {cq : CallQ} (hc : CallRel call cq) {bk : Nat → Option Nat} {fuel : Nat} {fn : Func} : OrcRel (some (rangedA P call bk fuel fn)) (some (rangedQ P cq bk fuel fn)) := fun args s K r h => by
  unfold rangedQ at h
  unfold rangedA
  split at h
  · cases h
  · rename_i c hb
    cases h1 : Nat.ble fn.ntmps 1000000 with
    | false => rw [h1] at h; cases h
    | true =>
    cases h2 : Nat.ble args.length fn.ntmps with
    | false => rw [h1, h2] at h; cases h
    | true =>
      rw [h1, h2] at h
      simp only [cond_true] at h
      rw [hb]
      dsimp only
      simp only [cond_true]
      have hl : fn.ntmps ≤ 1000000 := Nat.le_of_ble_eq_true h1
      have hal : args.length ≤ fn.ntmps := Nat.le_of_ble_eq_true h2
      exact raQ_ok hc hl 10000 c [] _ s (initT args 0 .leaf) (iniQ_at args 0 .nil .leaf (by omega) (funext fun k => (SL.at_nil k).symm)) h
end Go.Proofs.YtambgppdjlhdaaaGreatDoor
