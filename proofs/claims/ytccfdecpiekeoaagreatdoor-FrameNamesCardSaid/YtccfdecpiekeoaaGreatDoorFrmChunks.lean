/-
  FrameChunks answers true, whatever the bytes and the cuts, in every memory in which the library's variables lie as the program lays them.
-/
import Derived.Test.YtccfdecpiekeoaaGreatDoorFraM
namespace Go.Proofs.YtccfdecpiekeoaaGreatDoor
open Go.RowKit

theorem runF_len : ∀ (n : Nat) (h : List UInt8) (k : Bool), meas h k < n → (runF h k).evs.length + (runF h k).h.length ≤ h.length := by
  intro n
  induction n with
  | zero => intro h k hm; omega
  | succ n ih =>
    intro h k hm
    have hl := step_len h k
    rcases ho : (stepF h k).on with _ | _
    · rw [runF_off ho]; exact hl
    · have := step_meas h k ho
      have h2 := ih (stepF h k).h (stepF h k).k (by omega)
      rw [runF_on ho]
      simp only [List.length_append]
      omega
theorem byt_cell {w : World} {A : Option Addr} {c : Nat} {h : List UInt8} {X : Nat → Prop} (hb : Byt w A c h X) {k : Nat} (hk : k < h.length) : ∃ ad, A = some ad ∧ w.cell? (ad.add k) = some (.int .u8 (h[k]).toNat) := by
  obtain ⟨_, _, h3⟩ := hb
  rcases h3 with ⟨_, rfl, _⟩ | ⟨ad, rfl, _, h5⟩
  · simp at hk
  · exact ⟨ad, rfl, h5 k _ (List.getElem?_eq_getElem hk)⟩
theorem evCells_one' (l : List Evt) : ∀ u ∈ evCells l, u.oneCell' = true := by
  intro u hu
  unfold evCells at hu
  rw [List.mem_flatMap] at hu
  obtain ⟨x, _, hu⟩ := hu
  simp at hu
  rcases hu with rfl | rfl <;> rfl
theorem own_snoc' {w : World} {B t n m : Nat} {v : Value} {xs zs : List Value} (h : w.ownsRow B t 2 v n xs) (hn : m = n) (hz : zs = xs) : w.ownsRow B t 2 v m zs := by
  subst hn hz; exact h
/-- append of a row to a row, both the call's own. -/
theorem run_append_rows {w : World} {B B2 : Nat} {v vl : Value} {es ls : List Evt} (h : w.ownsRow B 42 2 v es.length (evCells es)) (hl : w.ownsRow B2 42 2 vl ls.length (evCells ls)) (hs : es.length + ls.length ≤ 1000000000) (hB : B ≤ w.heap.size) :
    ∃ v' w', (Builtin.append_ #[28, 28] 28 #[v, vl]).run Tryz.prog w = .ok v' w' ∧ w'.ownsRow B 42 2 v' (es ++ ls).length (evCells (es ++ ls)) ∧ w.grownBy w' v.ownBlock ∧ (v'.ownBlock = v.ownBlock ∨ v'.ownBlock = some w.heap.size) := by
  obtain ⟨i0, hi0, hz0, hz1, hz2⟩ := info_parts infoEv
  rcases hl.2 with ⟨rfl, h0⟩ | ⟨g, cap, cur, rfl, _⟩
  · have : ls = [] := List.length_eq_zero_iff.1 h0
    subst this
    refine ⟨v, w, run_append_owned_none (P := Tryz.prog) (w := w) B 28 28 42 i0 2 Tryz.underlying28 hi0 v _ _ h, ?_, grown_of_below (Below.refl _ _) _, Or.inl rfl⟩
    rw [List.append_nil]; exact h
  · obtain ⟨v', w', hr, h2, h3, _, h5⟩ := run_append_own_at (P := Tryz.prog) w B 28 28 42 i0 _ 2 24 Tryz.underlying28 hi0 hz0 hz1 hz2 rfl (by decide) v es.length (evCells es) h ⟨g, 0, none⟩ ls.length cap (evCells ls) (by rw [evCells_len]; omega) (fun j u hu => hl.cells (g := g) rfl j u hu) (evCells_one' ls) (by unfold maxLen; omega) (by omega) hB
    refine ⟨v', w', hr, own_snoc' h2 (by rw [List.length_append]) (evCells_app es ls), h3, h5⟩
theorem wpList_append_run {P : Program} {w w' : World} {ops : Array Oper} {rest : List Oper} {o : Oper} {a : Act} {Q : Exit → Act → World → Prop} (hw : Region.wanted o (yielded ops a.tmps) = true) (s x : Operand) (t1 t2 : TypeId)
    (hop : o.op = Op.call { callee := Callee.builtin Builtin.append, args := #[s, x], argTypes := #[t1, t2] }) (vs vx v : Value) (hs : a.eval s = vs) (hx : a.eval x = vx) (hrun : (Builtin.append_ #[t1, t2] o.type #[vs, vx]).run P w = .ok v w')
    (h : wpList P ops Q rest (a.put o.dst v) w') : wpList P ops Q (o :: rest) a w :=
  wpList_step fun K hK => by
    rw [if_pos hw]
    unfold Oper.wp
    simp [execOp, hop, resolve, invoke, builtin, hs, hx, hrun, Result.andThen]
    exact hK _ _ h
theorem RdAt.grow {w w' : World} {b : Nat} {h : List UInt8} {k : Bool} {X : Nat → Prop} {row : Option Nat} (hR : RdAt w b h k X) (hg : w.grownBy w' row) (hr : ∀ g, row = some g → X g ∧ g ≠ b) : RdAt w' b h k X := by
  obtain ⟨A, c, hC, hY⟩ := hR
  refine ⟨A, c, ?_, hY.keep hg.size fun p hp hx => World.cell?_of_block (hg.block p.block hp (fun e => hx (hr _ e.symm).1))⟩
  unfold Cel at hC ⊢
  rw [hg.block b (Cel.lt hC) (fun e => (hr _ e.symm).2 rfl)]
  exact hC

set_option maxRecDepth 100000 in
set_option maxHeartbeats 4000000 in
theorem frameChunks_any (C : Option Addr) (cc : Nat) (bl : List UInt8) (A : Option Addr) (ca : Nat) (cl : List UInt8) (w : World) (hE : EnvF w) (hb : Byt w C cc bl (fun _ => False)) (hc : Byt w A ca cl (fun _ => False)) :
    Calls Tryz.prog 4 #[.slice C bl.length cc, .slice A cl.length ca] w fun en w' => en = .returned (.bool true) ∧ Below w.heap.size w w' := by
  have haw := Lib.hid (fun W (hE : EnvF W) => awake_any W hE)
  have hb1 := hb.1
  have hb2 := hb.2.1
  have hc1 := hc.1
  have hc2 := hc.2.1
  by_cases hbig : 6000 < bl.length
  · go_enter Tryz.func4, Tryz.ntmps4
    go_wp2_with fail
    refine (haw.out _ hE).mono ?_
    rintro en w1 ⟨rfl, hB⟩
    go_wp2
    go_ret
    exact ⟨rfl, hB⟩
  have hE0 := Lib.hid hE
  have hb0 := Lib.hid hb
  have hc0 := Lib.hid hc
  clear hb hc
  go_enter Tryz.func4, Tryz.ntmps4
  go_wp2_with fail
  refine (haw.out _ hE).mono ?_
  rintro e w1 ⟨rfl, hB1⟩
  have hE1 := hE0.out.below hB1
  have hb1' := hb0.out.below hB1
  have hc1' := hc0.out.below hB1
  clear haw hE
  replace hB1 := Lib.hid hB1
  replace hE1 := Lib.hid hE1
  replace hb1' := Lib.hid hb1'
  replace hc1' := Lib.hid hc1'
  go_wp2_with fail
  refine (frmNew_any w1 (fun j => j = w1.heap.size)).mono ?_
  rintro e w2 ⟨rfl, hR2, hB2⟩
  have hbE := hE1.out.base
  have hE2 := hE1.out.below hB2
  have hfd := frmFeed_any w1.heap.size [] bl false (fun j => j = w1.heap.size) (fun _ => False) C cc w2 rfl (fun j hj => by have := hR2.lt; have : j = w1.heap.size := hj; omega) hbE hE2 hR2 (hb1'.out.below hB2) (by simp; omega)
  rw [List.nil_append] at hfd
  obtain ⟨E, hEE⟩ : ∃ E, runF bl false = E := ⟨_, rfl⟩
  have hEl := runF_len _ bl false (Nat.lt_succ_self _)
  rw [hEE] at hfd hEl
  replace hEE := Lib.hid hEE
  have hs0 : w.heap.size ≤ w1.heap.size := hB1.out.size
  have hs1 : w1.heap.size ≤ w2.heap.size := hB2.size
  clear hR2
  replace hfd := Lib.hid hfd
  replace hE2 := Lib.hid hE2
  replace hB2 := Lib.hid hB2
  clear hE1
  go_wp2_with fail
  refine hfd.out.mono ?_
  rintro e w3 ⟨vw, BW, rfl, hW1, hW2, hown3, _, hg3⟩
  have hB13 := hB2.out.trans (below_of_grown hg3 hs1)
  have hB03 := hB1.out.trans (hB13.mono hs0)
  have hs3 : w.heap.size ≤ w3.heap.size := hB03.size
  have hE3 := EnvF.from hE2.out hbE (below_of_grown hg3 hs1)
  have hb3 := hb1'.out.below hB13
  have hc3 := hc1'.out.below hB13
  obtain ⟨Aw, cw, rfl, hev3, _⟩ := evr_own hown3
  clear hfd hE2 hB2 hb1' hc1' hg3 hown3 hW1 hW2 hB13 hs1 hs0 hB1 hbE
  have hbE := hE3.base
  have hnew := frmNew_any w3 (fun j => j = w3.heap.size)
  obtain ⟨b, hbb⟩ : ∃ b, w3.heap.size = b := ⟨_, rfl⟩
  rw [hbb] at hnew hbE hev3 hs3
  replace hnew := Lib.hid hnew
  replace hbb := Lib.hid hbb
  replace hB03 := Lib.hid hB03
  replace hE3 := Lib.hid hE3
  replace hb3 := Lib.hid hb3
  replace hc3 := Lib.hid hc3
  replace hev3 := Lib.hid hev3
  clear hE0 hb0 hc0
  dsimp only
  go_wp2_with fail
  refine hnew.out.mono ?_
  rintro e w4 ⟨rfl, hR4, hB4⟩
  have hbl := hR4.lt
  have hbF : ∀ W, Below b w3 W → Byt W C cc bl (fun _ => False) := fun W h => hb3.out.below (by rw [hbb.out]; exact h)
  have hcF : ∀ W, Below b w3 W → Byt W A ca cl (fun _ => False) := fun W h => hc3.out.below (by rw [hbb.out]; exact h)
  have hEF : ∀ W, Below b w3 W → EnvF W := fun W h => hE3.out.from hbE h
  clear hbb hE3 hb3 hc3 hnew
  replace hbF := Lib.hid hbF
  replace hcF := Lib.hid hcF
  replace hEF := Lib.hid hEF
  replace hR4 := Lib.hid hR4
  replace hB4 := Lib.hid hB4
  go_wp2_with fail
  go_loopw [8, 9, 10] (fun v at' i wr => ∃ (k a : Nat) (evs : List Evt) (h : List UInt8) (kk : Bool), k ≤ cl.length ∧ a ≤ bl.length ∧ i = .int .i64 k ∧ at' = .int .i64 a ∧ runF (bl.take a) false = ⟨evs, h, kk⟩ ∧ RdAt wr b h kk (fun j => j = b ∨ v.ownBlock = some j) ∧ wr.ownsRow (b + 1) 42 2 v evs.length (evCells evs) ∧ Below b w3 wr ∧ b < wr.heap.size) (fun _ _ i _ => cl.length - (intOf i).toNat)
  case atStart => exact ⟨0, 0, [], [], false, Nat.zero_le _, Nat.zero_le _, rfl, rfl, rfl, hR4.out.mono (fun j hj => by rcases hj with hj | hj; exact hj; cases hj), World.ownsRow_nil _ _ _ _, hB4.out, hbl⟩
  case round =>
    obtain ⟨k, a, evs, h, kk, hk, ha, rfl, rfl, hrun, hR, hown, hB, hsz⟩ := hrel
    clear hR4 hB4
    have hYb := hbF.out _ hB
    have hYc := hcF.out _ hB
    have hEr := hEF.out _ hB
    have hlen := runF_len _ (bl.take a) false (Nat.lt_succ_self _)
    rw [hrun, List.length_take] at hlen
    dsimp only at hlen
    replace hrun := Lib.hid hrun
    replace hR := Lib.hid hR
    replace hown := Lib.hid hown
    replace hB := Lib.hid hB
    replace hYb := Lib.hid hYb
    replace hEr := Lib.hid hEr
    by_cases hlt : k < cl.length
    · by_cases hla : a < bl.length
      · obtain ⟨ad, rfl, hcell⟩ := byt_cell hYc hlt
        obtain ⟨x, hx⟩ : ∃ x, cl[k] = x := ⟨_, rfl⟩
        have hx8 := UInt8.toNat_lt x
        rw [hx] at hcell
        clear hx hYc
        obtain ⟨t, ht⟩ : ∃ t : Nat, min (a + x.toNat) bl.length = t := ⟨_, rfl⟩
        have hmin : min ((a : Int) + (x.toNat : Int)) (bl.length : Int) = (t : Int) := by omega
        have hat : a ≤ t := by omega
        have htl : t ≤ bl.length := by omega
        clear ht
        have hY2 := (hYb.out.cut ha).take (t - a)
        rw [if_neg (by omega)] at hY2
        have htk : bl.take t = bl.take a ++ (bl.drop a).take (t - a) := by
          rw [← List.take_add]; congr 1; omega
        obtain ⟨l1, hl1⟩ : ∃ l1, (bl.drop a).take (t - a) = l1 := ⟨_, rfl⟩
        have hll : l1.length = t - a := by rw [← hl1, List.length_take, List.length_drop]; omega
        rw [hl1] at hY2 htk
        clear hl1
        have hrun2 := run_cut (bl.take a) l1 false
        rw [← htk, hrun.out] at hrun2
        dsimp only at hrun2
        have hlr := runF_len _ (h ++ l1) kk (Nat.lt_succ_self _)
        have hfd := frmFeed_any b h l1 kk (fun j => j = b ∨ u8.ownBlock = some j) (fun _ => False) _ _ wr (Or.inl rfl) (fun j hj => by rcases hj with rfl | hj; exact hsz; exact (hown.out.lt _ hj).2) hbE hEr.out hR.out hY2 (by omega)
        rw [hll] at hfd
        rw [List.length_append, hll] at hlr
        obtain ⟨r, hr⟩ : ∃ r, runF (h ++ l1) kk = r := ⟨_, rfl⟩
        rw [hr] at hfd hrun2 hlr
        clear hr htk hY2 hll hR hrun
        replace hfd := Lib.hid hfd
        replace hrun2 := Lib.hid hrun2
        go_wp2_with fail
        refine hfd.out.mono ?_
        rintro e w5 ⟨v1, B1, rfl, hB1a, hB1b, hown1, hR5, hg5⟩
        have hownk := hown.out.kept hg5 (Or.inr (fun e => by have := (hown.out.lt _ e).1; omega))
        have hB5 := hB.out.trans (below_of_grown hg5 (Nat.le_of_lt hsz))
        have hs5 : wr.heap.size ≤ w5.heap.size := hg5.size
        obtain ⟨v', w6, hrun6, hown6, hg6, hob⟩ := run_append_rows hownk hown1 (by omega) (by omega)
        have hB6 : Below b w3 w6 := Below.grown hB5 hg6 (by omega) (fun j hj => by have := (hownk.lt j hj).1; omega)
        have hs6 : w5.heap.size ≤ w6.heap.size := hg6.size
        have hR6 := (hR5.grow hg6 (fun g hg => ⟨Or.inl (Or.inr hg), by have := (hownk.lt _ hg).1; omega⟩)).mono (Y := fun j => j = b ∨ v'.ownBlock = some j) (fun j hj => by
          rcases hj with hj | hj
          · exact Or.inl (Or.inl hj)
          · rcases hob with hob | hob
            · exact Or.inl (Or.inr (hob ▸ hj))
            · rw [hob] at hj; injection hj with hj; subst hj; exact Or.inr hB1b)
        clear hg6 hg5 hR5 hob hownk hown hown1 hB5 hB hfd
        replace hrun6 := Lib.hid hrun6
        replace hown6 := Lib.hid hown6
        replace hR6 := Lib.hid hR6
        replace hB6 := Lib.hid hB6
        dsimp only
        go_wp2_with (at_builtin; refine wpList_append_run (by rfl) _ _ 28 28 rfl u8 v1 _ rfl rfl hrun6.out ?_)
        go_roundw
        case rel => exact ⟨k + 1, t, evs ++ r.evs, r.h, r.k, by omega, htl, by go_num, rfl, hrun2.out, hR6.out, hown6.out, hB6.out, by omega⟩
        case measure => simp [intOf]; omega
      · have hY2 := hYb.out.cut ha
        have hsl := fun W => slice_run C bl.length cc a ha W
        obtain ⟨A', hA'⟩ : ∃ A', (if cc = a then C else C.map (·.add a)) = A' := ⟨_, rfl⟩
        rw [hA'] at hsl hY2
        clear hA'
        obtain ⟨l1, hl1⟩ : ∃ l1, bl.drop a = l1 := ⟨_, rfl⟩
        have hll : l1.length = bl.length - a := by rw [← hl1, List.length_drop]
        have htk : bl = bl.take a ++ l1 := by rw [← hl1, List.take_append_drop]
        rw [hl1] at hY2
        clear hl1
        have hrun2 := run_cut (bl.take a) l1 false
        rw [← htk, hrun.out, hEE.out] at hrun2
        dsimp only at hrun2
        have hlr := runF_len _ (h ++ l1) kk (Nat.lt_succ_self _)
        have hfd := frmFeed_any b h l1 kk (fun j => j = b ∨ u8.ownBlock = some j) (fun _ => False) _ _ wr (Or.inl rfl) (fun j hj => by rcases hj with rfl | hj; exact hsz; exact (hown.out.lt _ hj).2) hbE hEr.out hR.out hY2 (by omega)
        rw [hll] at hfd
        rw [List.length_append, hll] at hlr
        obtain ⟨r, hr⟩ : ∃ r, runF (h ++ l1) kk = r := ⟨_, rfl⟩
        rw [hr] at hfd hrun2 hlr
        have hEv : evs ++ r.evs = E.evs := by rw [hrun2]
        clear hr htk hY2 hll hR hrun hrun2 hYc
        replace hfd := Lib.hid hfd
        replace hsl := Lib.hid hsl
        go_wp2_with (refine wpList_cut rfl 27 _ _ rfl (.slice C bl.length cc) (.int .i64 a) _ rfl rfl (hsl.out _) ?_)
        refine hfd.out.mono ?_
        rintro e w5 ⟨v1, B1, rfl, hB1a, hB1b, hown1, hR5, hg5⟩
        have hownk := hown.out.kept hg5 (Or.inr (fun e => by have := (hown.out.lt _ e).1; omega))
        have hB5 := hB.out.trans (below_of_grown hg5 (Nat.le_of_lt hsz))
        have hs5 : wr.heap.size ≤ w5.heap.size := hg5.size
        obtain ⟨v', w6, hrun6, hown6, hg6, hob⟩ := run_append_rows hownk hown1 (by omega) (by omega)
        have hB6 : Below b w3 w6 := Below.grown hB5 hg6 (by omega) (fun j hj => by have := (hownk.lt j hj).1; omega)
        have hs6 : w5.heap.size ≤ w6.heap.size := hg6.size
        rw [hEv] at hown6
        obtain ⟨A6, c6, rfl, hev6, _⟩ := evr_own hown6
        have hbk := back_any A6 c6 E.evs w6 hev6 (by omega)
        clear hg6 hg5 hR5 hob hownk hown hown1 hown6 hB5 hB hfd hsl hEv
        replace hrun6 := Lib.hid hrun6
        replace hbk := Lib.hid hbk
        replace hB6 := Lib.hid hB6
        dsimp only
        go_wp2_with (at_builtin; refine wpList_append_run (by rfl) _ _ 28 28 rfl u8 v1 _ rfl rfl hrun6.out ?_)
        refine hbk.out.mono ?_
        rintro e w7 ⟨v7, rfl, hown7, hB7⟩
        obtain ⟨A7, c7, rfl, hev7, _⟩ := evr_own hown7
        have hB37 := hB6.out.trans (hB7.mono (by omega))
        have hs7 : w6.heap.size ≤ w7.heap.size := hB7.size
        have hbk2 := back_any Aw cw E.evs w7 ((hev3.out.below hB37).more (by omega)) (by omega)
        clear hown7 hB7 hrun6 hbk hB6
        replace hB37 := Lib.hid hB37
        replace hbk2 := Lib.hid hbk2
        dsimp only
        go_wp2_with fail
        refine hbk2.out.mono ?_
        rintro e w8 ⟨v8, rfl, hown8, hB8⟩
        obtain ⟨A8, c8, rfl, hev8, _⟩ := evr_own hown8
        have hB38 := hB37.out.trans (hB8.mono (by omega))
        have hsm := refSame_any A7 A8 c7 c8 E.evs w8.heap.size w8 ((hev7.below hB8).more hB8.size) hev8 (by omega)
        clear hown8 hB8 hbk2 hB37
        replace hB38 := Lib.hid hB38
        replace hsm := Lib.hid hsm
        dsimp only
        go_wp2_with fail
        refine hsm.out.mono ?_
        rintro e w9 ⟨rfl, n, rfl⟩
        dsimp only
        go_wp2_with fail
        go_ret
        exact ⟨rfl, bel_drewN (hB03.out.trans (hB38.out.mono hs3)) n⟩
    · have hY2 := hYb.out.cut ha
      have hsl := fun W => slice_run C bl.length cc a ha W
      obtain ⟨A', hA'⟩ : ∃ A', (if cc = a then C else C.map (·.add a)) = A' := ⟨_, rfl⟩
      rw [hA'] at hsl hY2
      clear hA'
      obtain ⟨l1, hl1⟩ : ∃ l1, bl.drop a = l1 := ⟨_, rfl⟩
      have hll : l1.length = bl.length - a := by rw [← hl1, List.length_drop]
      have htk : bl = bl.take a ++ l1 := by rw [← hl1, List.take_append_drop]
      rw [hl1] at hY2
      clear hl1
      have hrun2 := run_cut (bl.take a) l1 false
      rw [← htk, hrun.out, hEE.out] at hrun2
      dsimp only at hrun2
      have hlr := runF_len _ (h ++ l1) kk (Nat.lt_succ_self _)
      have hfd := frmFeed_any b h l1 kk (fun j => j = b ∨ u8.ownBlock = some j) (fun _ => False) _ _ wr (Or.inl rfl) (fun j hj => by rcases hj with rfl | hj; exact hsz; exact (hown.out.lt _ hj).2) hbE hEr.out hR.out hY2 (by omega)
      rw [hll] at hfd
      rw [List.length_append, hll] at hlr
      obtain ⟨r, hr⟩ : ∃ r, runF (h ++ l1) kk = r := ⟨_, rfl⟩
      rw [hr] at hfd hrun2 hlr
      have hEv : evs ++ r.evs = E.evs := by rw [hrun2]
      clear hr htk hY2 hll hR hrun hrun2 hYc
      replace hfd := Lib.hid hfd
      replace hsl := Lib.hid hsl
      go_wp2_with (refine wpList_cut rfl 27 _ _ rfl (.slice C bl.length cc) (.int .i64 a) _ rfl rfl (hsl.out _) ?_)
      refine hfd.out.mono ?_
      rintro e w5 ⟨v1, B1, rfl, hB1a, hB1b, hown1, hR5, hg5⟩
      have hownk := hown.out.kept hg5 (Or.inr (fun e => by have := (hown.out.lt _ e).1; omega))
      have hB5 := hB.out.trans (below_of_grown hg5 (Nat.le_of_lt hsz))
      have hs5 : wr.heap.size ≤ w5.heap.size := hg5.size
      obtain ⟨v', w6, hrun6, hown6, hg6, hob⟩ := run_append_rows hownk hown1 (by omega) (by omega)
      have hB6 : Below b w3 w6 := Below.grown hB5 hg6 (by omega) (fun j hj => by have := (hownk.lt j hj).1; omega)
      have hs6 : w5.heap.size ≤ w6.heap.size := hg6.size
      rw [hEv] at hown6
      obtain ⟨A6, c6, rfl, hev6, _⟩ := evr_own hown6
      have hbk := back_any A6 c6 E.evs w6 hev6 (by omega)
      clear hg6 hg5 hR5 hob hownk hown hown1 hown6 hB5 hB hfd hsl hEv
      replace hrun6 := Lib.hid hrun6
      replace hbk := Lib.hid hbk
      replace hB6 := Lib.hid hB6
      dsimp only
      go_wp2_with (at_builtin; refine wpList_append_run (by rfl) _ _ 28 28 rfl u8 v1 _ rfl rfl hrun6.out ?_)
      refine hbk.out.mono ?_
      rintro e w7 ⟨v7, rfl, hown7, hB7⟩
      obtain ⟨A7, c7, rfl, hev7, _⟩ := evr_own hown7
      have hB37 := hB6.out.trans (hB7.mono (by omega))
      have hs7 : w6.heap.size ≤ w7.heap.size := hB7.size
      have hbk2 := back_any Aw cw E.evs w7 ((hev3.out.below hB37).more (by omega)) (by omega)
      clear hown7 hB7 hrun6 hbk hB6
      replace hB37 := Lib.hid hB37
      replace hbk2 := Lib.hid hbk2
      dsimp only
      go_wp2_with fail
      refine hbk2.out.mono ?_
      rintro e w8 ⟨v8, rfl, hown8, hB8⟩
      obtain ⟨A8, c8, rfl, hev8, _⟩ := evr_own hown8
      have hB38 := hB37.out.trans (hB8.mono (by omega))
      have hsm := refSame_any A7 A8 c7 c8 E.evs w8.heap.size w8 ((hev7.below hB8).more hB8.size) hev8 (by omega)
      clear hown8 hB8 hbk2 hB37
      replace hB38 := Lib.hid hB38
      replace hsm := Lib.hid hsm
      dsimp only
      go_wp2_with fail
      refine hsm.out.mono ?_
      rintro e w9 ⟨rfl, n, rfl⟩
      dsimp only
      go_wp2_with fail
      go_ret
      exact ⟨rfl, bel_drewN (hB03.out.trans (hB38.out.mono hs3)) n⟩
end Go.Proofs.YtccfdecpiekeoaaGreatDoor
