/-
  The abstract machine at the program: maps.Clone by its law; slices.Backward's closure, walked.
-/
import Derived.Test.YtambgppdjlhdaaaGreatDoorEwG
import Derived.Test.YtambgppdjlhdaaaGreatDoorEwR
import Derived.Shelf.SlMaps.Clone
import Derived.Lib.Join
import Derived.OwnWalkIn
import Derived.TacticsInMore
import Derived.LoopNIn
import Derived.LoopIn
namespace Go.Proofs.YtambgppdjlhdaaaGreatDoor
open Go.RowKit
attribute [local go_sem] Oper.semAt_some

set_option maxRecDepth 100000 in
set_option maxHeartbeats 2000000 in
theorem cloneE (b : Nat) (es : Array MapEntry) (clock : Nat) (w : World) (hb : w.heap[b]? = some (.map es clock)) :
    Calls Tryz.prog 101 #[.map (some b)] w fun e w' => e = .returned (.map (some w.heap.size)) ∧ w' = w.alloc (.map es clock) := by
  have mixed : Tryz.prog.follows .mixedOrders = true := by kernel_rfl
  have hq := fun w => run_eql_map_nil_sl (P := Tryz.prog) w 169 _ _ (some b) Tryz.underlying169
  go_enter Tryz.func101, Tryz.ntmps101
  go_wp2
  rw [run_callFunc_extern Tryz.func146 (by kernel_rfl) (by kernel_rfl) (by kernel_rfl) (e := Extern.MapsClone.clone) (by kernel_rfl), run_maps_clone_sl w 169 hb]
  simp only [Result.andThen]
  rw [Oper.upon_value]
  go_wp2
  rw [run_typeAssert_map_sl _ 169 20 _ _ _ Tryz.underlying169]
  simp only [Result.andThen]
  rw [Oper.upon_value]
  go_wp2
  go_ret
  exact ⟨rfl, rfl⟩
set_option maxRecDepth 100000 in
theorem cloneN (w : World) : Calls Tryz.prog 101 #[.map none] w fun e w' => e = .returned (.map none) ∧ w' = w := by
  have mixed : Tryz.prog.follows .mixedOrders = true := by kernel_rfl
  have hq := fun w => run_eql_map_nil_sl (P := Tryz.prog) w 169 _ _ none Tryz.underlying169
  go_enter Tryz.func101, Tryz.ntmps101
  go_wp2
  go_ret
  exact ⟨rfl, rfl⟩
noncomputable def cloneA (args : List AV) (s : AS) : Option (AV × AS) := match args with
  | [.nilm] => some (.nilm, s)
  | [.mapp b] => match s.get b with
    | .mapb es c => cond (Nat.ble (Nat.succ s.n) 1000000000) (some (.mapp s.n, s.new (.mapb es c))) none
    | _ => none
  | _ => none
theorem cloneA_ok [Tab] : OneOK Tryz.prog 101 cloneA := by
  refine ⟨⟨_, Tryz.func101, by rfl, by rfl⟩, fun args s v s' he _ E w xs h hf hv => ?_, fun args s u s' he => ?_⟩
  · unfold cloneA at he
    split at he
    · injection he with he
      injection he with e1 e2
      subst e1
      subst e2
      obtain ⟨x, rfl, hx⟩ := one_arg hv
      cases hx
      exact callEnd_below h .nilm ((cloneN w).mono fun e w' hq => ⟨hq.1, by rw [hq.2]; exact Below.refl _ _⟩)
    · rename_i b
      split at he
      · rename_i es c hg
        cases hr : Nat.ble (Nat.succ s.n) 1000000000 with
        | false => rw [hr] at he; cases he
        | true =>
          rw [hr] at he
          injection he with he
          injection he with e1 e2
          subst e1
          subst e2
          obtain ⟨x, rfl, hx⟩ := one_arg hv
          cases hx
          obtain ⟨hb, ms, h1, h2, h3, h4⟩ := h.mapb hg
          have hl : s.n < 1000000000 := Nat.le_of_ble_eq_true hr
          have hi : ¬ E.ok s.n := hf.not
          refine (cloneE (E.r b) ms c w h1).mono fun e w' hq => ?_
          obtain ⟨r1, r2⟩ := h.new hi hl (.mapb es c) (.map ms c) 0 w' (.inl hq.2) ⟨ms, rfl, h2.mono (E.le_more _ _ _ hi), h3.mono (E.le_more _ _ _ hi), h4⟩
          refine ⟨_, _, hq.1, ?_, r1, r2, E.grow_more _ _ _⟩
          have := VR.mapp (E := E.more s.n w.heap.size 0) s.n (E.more_ok _ _ _)
          rw [AEnv.more_r] at this
          exact this
      · cases he
    · cases he
  · exfalso
    unfold cloneA at he
    split at he
    · cases he
    · split at he
      · have h1 := cond_some he
        cases h1
      · cases he
    · cases he
/-- A row of two cells, loaded. -/
theorem load2 {b o : Nat} {x y : Value} {w : World} (h0 : w.cell? ⟨b, o, none⟩ = some x) (h1 : w.cell? ⟨b, o + 1, none⟩ = some y) : (Instr.loadAt 49 (.pointer (some ⟨b, o, none⟩))).run Tryz.prog w = .ok (.agg #[x, y]) w := by
  have h := run_loadVar_mid (P := Tryz.prog) w b o 49 [x, y] _ (fun i z hz => by
    match i, hz with
    | 0, hz => injection hz with hz; rw [← hz]; exact h0
    | 1, hz => injection hz with hz; rw [← hz]; exact h1
    | i + 2, hz => simp at hz) Tryz.underlying49 rfl (by kernel_rfl)
  simp [Instr.loadAt, Instr.sureAddr, h]
set_option maxRecDepth 100000 in
set_option maxHeartbeats 4000000 in
theorem back_row (l Bs b off len : Nat) (J : Nat → World → Prop) (W : World) (hlen : len ≤ 1000000)
    (hbox : ∀ k W, J k W → ∃ cap, W.cell? ⟨Bs, 0, none⟩ = some (.slice (some ⟨b, off, none⟩) len cap))
    (hY : ∀ k W, J (k + 1) W → k < len → ∃ xs : List Value, xs.length = 2 ∧ (∀ (i : Nat) x, xs[i]? = some x → W.cell? ⟨b, off + k * 2 + i, none⟩ = some x) ∧ YieldAt Fence.wide 0 Tryz.prog l #[.int .i64 k, .agg xs.toArray] W fun e W' => e = .returned (.bool true) ∧ J k W')
    (hJ : J len W) : Calls Tryz.prog 135 #[.func (.yield l) #[] #[], .pointer (some ⟨Bs, 0, none⟩)] W fun e W' => (∃ v, e = .returned v) ∧ J 0 W' := by
  refine (callsIn_wide (n := 1)).1 ?_
  refine callsIn_of_wp Tryz.func135 rfl trivial ?_ rfl
  simp only [Tryz.ntmps135, List.size_toArray, List.length_cons, List.length_nil, Nat.reduceAdd, Nat.reduceSub, Array.replicate_succ, Array.replicate_zero, List.push_toArray, List.append_toArray, List.nil_append, List.cons_append]
  obtain ⟨cap0, hc0⟩ := hbox len W hJ
  gi_wp2
  gi_loopw [3] (fun i wr => ∃ k : Nat, k ≤ len ∧ i = .int .i64 ((k : Int) - 1) ∧ J k wr) (fun i _ => (intOf i + 1).toNat)
  case atStart => exact ⟨len, Nat.le_refl _, by simp, hJ⟩
  case round =>
    obtain ⟨k, hk, rfl, hJs⟩ := hrel
    obtain ⟨cap, hcx⟩ := hbox k wr hJs
    cases k with
    | zero =>
      gi_wp2
      go_end0
      exact ⟨⟨_, rfl⟩, hJs⟩
    | succ k =>
      obtain ⟨xs, hx1, hx2, fn, tmps, assign, body, hy, hR⟩ := hY k wr hJs (by omega)
      match xs, hx1 with
      | [x0, x1], _ =>
      have h0 : wr.cell? ⟨b, off + k * 2, none⟩ = some x0 := hx2 0 x0 rfl
      have h1 : wr.cell? ⟨b, off + k * 2 + 1, none⟩ = some x1 := hx2 1 x1 rfl
      have hld := load2 h0 h1
      gi_wp2
      refine hR.mono ?_
      rintro e W3 ⟨rfl, hJ3⟩
      gi_wp2
      go_roundw
      case rel => exact ⟨k, by omega, by simp, hJ3⟩
      case measure => simp [intOf]
set_option maxRecDepth 100000 in
set_option maxHeartbeats 2000000 in
theorem back_nil (l Bs : Nat) (J : World → Prop) (W : World) (hc : W.cell? ⟨Bs, 0, none⟩ = some (.slice none 0 0)) (hJ : J W) :
    Calls Tryz.prog 135 #[.func (.yield l) #[] #[], .pointer (some ⟨Bs, 0, none⟩)] W fun e W' => (∃ v, e = .returned v) ∧ J W' := by
  refine (callsIn_wide (n := 1)).1 ?_
  refine callsIn_of_wp Tryz.func135 rfl trivial ?_ rfl
  simp only [Tryz.ntmps135, List.size_toArray, List.length_cons, List.length_nil, Nat.reduceAdd, Nat.reduceSub, Array.replicate_succ, Array.replicate_zero, List.push_toArray, List.append_toArray, List.nil_append, List.cons_append]
  gi_wp2
  gi_loopw [3] (fun i wr => i = .int .i64 (-1) ∧ J wr) (fun _ _ => 0)
  case atStart => exact ⟨rfl, hJ⟩
  case round =>
    obtain ⟨rfl, hJs⟩ := hrel
    gi_wp2
    go_end0
    exact ⟨⟨_, rfl⟩, hJs⟩
noncomputable def bkQ (f : Nat) : Option Nat := cond (Nat.beq f 135) (some 2) none
theorem bkQ_ok : ∀ f sz, bkQ f = some sz → BackOK Tryz.prog f sz := fun f sz h => by
  unfold bkQ at h
  cases hb : Nat.beq f 135 with
  | false => rw [hb] at h; cases h
  | true =>
    rw [hb] at h
    injection h with h
    subst h
    rw [Nat.eq_of_beq_eq_true hb]
    exact ⟨⟨_, Tryz.func135, by rfl, by rfl⟩, back_row, back_nil⟩
/-- Texts joined. -/
noncomputable def strsO : List AV → Option (List (List UInt8))
  | [] => some []
  | .str l :: r => match strsO r with
    | some ls => some (l :: ls)
    | none => none
  | _ :: _ => none
theorem strsO_ok {E : AEnv} : ∀ {cs : List AV} {vs : List Value} {ls : List (List UInt8)}, VL E cs vs → strsO cs = some ls → vs = ls.map fun l => Value.string ⟨l.toArray⟩
  | [], [], ls, _, h => by injection h with h; subst h; rfl
  | [], _ :: _, _, h, _ => by have := h.len; simp at this
  | _ :: _, [], _, h, _ => by have := h.len; simp at this
  | c :: cs, v :: vs, ls, h, he => by
    unfold strsO at he
    split at he
    · rename_i heq; cases heq
    · rename_i l r heq
      injection heq with e1 e2
      subst e1
      subst e2
      split at he
      · rename_i ls' hls
        injection he with he
        subst he
        have hh := h.head
        cases hh
        rw [strsO_ok h.tail hls]
        rfl
      · cases he
    · cases he
noncomputable def capB (v : AV) : Bool := match v with
  | .sl _ _ n c => Nat.ble n c
  | _ => true
noncomputable def joinA (args : List AV) (s : AS) : Option (AV × AS) := match args with
  | [v, .str sep] => match slA v with
    | some q => match rowA s q.1 q.2.1 q.2.2 with
      | some cs => match strsO cs with
        | some ls => cond (capB v) (cond (Nat.ble q.2.2 1000000) (cond (Nat.ble (Lib.join ls sep).length 1000000) (some (.str (Lib.join ls sep), s)) none) none) none
        | none => none
      | none => none
    | none => none
  | _ => none
theorem slA_ok {E : AEnv} {v : AV} {x : Value} {q : Nat × Nat × Nat} (h : slA v = some q) (hc : capB v = true) (hv : VR E v x) : E.ok q.1 ∧ ∃ cap, x = .slice (some ⟨E.r q.1, q.2.1, none⟩) q.2.2 cap ∧ q.2.2 ≤ cap := by
  unfold slA at h
  split at h
  · injection h with h
    subst h
    cases hv
    exact ⟨by assumption, _, rfl, Nat.le_of_ble_eq_true hc⟩
  · injection h with h
    subst h
    cases hv
    exact ⟨by assumption, _, rfl, by omega⟩
  · cases h
theorem joinA_ok [Tab] : OneOK Tryz.prog 70 joinA := by
  refine ⟨⟨_, Tryz.func70, by rfl, by rfl⟩, fun args s v s' he _ E w xs h hf hv => ?_, fun args s u s' he => ?_⟩
  · unfold joinA at he
    split at he
    · rename_i u sep
      split at he
      · rename_i q hq
        split at he
        · rename_i cs hcs
          split at he
          · rename_i ls hls
            cases c1 : capB u with
            | false => rw [c1] at he; cases he
            | true =>
            cases c2 : Nat.ble q.2.2 1000000 with
            | false => rw [c1, c2] at he; cases he
            | true =>
            cases c3 : Nat.ble (Lib.join ls sep).length 1000000 with
            | false => rw [c1, c2, c3] at he; cases he
            | true =>
              rw [c1, c2, c3] at he
              injection he with he
              injection he with e1 e2
              subst e1
              subst e2
              obtain ⟨x, y, rfl, hx, hy⟩ := two_arg hv
              cases hy
              obtain ⟨hok, cap, rfl, hcap⟩ := slA_ok hq c1 hx
              obtain ⟨vs, v1, v2, v3⟩ := rowA_ok h hcs
              have hvs := strsO_ok v2 hls
              have hn : q.2.2 ≤ 1000000 := Nat.le_of_ble_eq_true c2
              have hj : (Lib.join ls sep).length ≤ 1000000 := Nat.le_of_ble_eq_true c3
              have hlen : ls.length = q.2.2 := by rw [← v1, hvs, List.length_map]
              have hmap : (ls.map fun l => ByteArray.mk l.toArray).map (fun b => b.data.toList) = ls := by
                rw [List.map_map]
                have : ((fun b : ByteArray => b.data.toList) ∘ fun l : List UInt8 => ByteArray.mk l.toArray) = id := by funext l; simp
                rw [this, List.map_id]
              have hg : s.get q.1 ≠ .none := by
                intro e
                unfold rowA at hcs
                rw [e] at hcs
                cases hcs
              have hc := Tryz.strings_Join (E.r q.1) q.2.1 cap (ls.map fun l => ByteArray.mk l.toArray) ⟨sep.toArray⟩ w (fun j x hx => by
                rw [List.getElem?_map] at hx
                obtain ⟨l, hl, rfl⟩ := Option.map_eq_some_iff.1 hx
                exact v3 j _ (by rw [hvs, List.getElem?_map, hl]; rfl)) (h.heap_lt hg) (by rw [List.length_map]; omega) (by rw [List.length_map]; omega) (by rw [hmap]; show (Lib.join ls sep).length ≤ _; omega)
              rw [List.length_map, hlen, hmap] at hc
              exact callEnd_below h (.str _) hc
          · cases he
        · cases he
      · cases he
    · cases he
  · exfalso
    unfold joinA at he
    split at he
    · split at he
      · split at he
        · split at he
          · have h1 := cond_some (cond_some (cond_some he))
            cases h1
          · cases he
        · cases he
      · cases he
    · cases he
noncomputable def orcB : List (Nat × (List AV → AS → Option (AV × AS))) := (101, cloneA) :: (70, joinA) :: orcB0
theorem orcB_ok [Tab] (hT : EnvQ Tab.w0) : ∀ p ∈ orcB, OneOK Tryz.prog p.1 p.2 := List.forall_mem_cons.2 ⟨cloneA_ok, List.forall_mem_cons.2 ⟨joinA_ok, orcB0_ok hT⟩⟩
end Go.Proofs.YtambgppdjlhdaaaGreatDoor
