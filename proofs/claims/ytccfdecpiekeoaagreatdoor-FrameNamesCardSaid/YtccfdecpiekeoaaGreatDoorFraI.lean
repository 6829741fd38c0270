/-
  The walks of (*frame.Reader).next, frame.New and Feed.
-/
import Derived.Test.YtccfdecpiekeoaaGreatDoorFraH
import Derived.ArgAppend
import Derived.Deep.RegionLaw
import Derived.Deep.LoopGhost
import Derived.Laws.AppendOwnNone
namespace Go.Proofs.YtccfdecpiekeoaaGreatDoor
open Go.RowKit

set_option maxHeartbeats 400000 in
theorem frmNext_any (b : Nat) (h : List UInt8) (k : Bool) (X : Nat → Prop) (w : World) (hR : RdAt w b h k X) :
    Calls Tryz.prog 23 #[.pointer (some ⟨b, 0, none⟩)] w fun e w' => e = .returned (.func (Fn.func (if k then 26 else 27)) #[.pointer (some ⟨b, 0, none⟩)] #[]) ∧ w = w' := by
  obtain ⟨A, cp, hC, hB⟩ := hR
  obtain ⟨x0, x1, f0, f1⟩ := hC.two
  clear hC hB
  cases k
  · go_enter Tryz.func23, Tryz.ntmps23
    go_wp2
    go_ret
    exact ⟨rfl, rfl⟩
  · go_enter Tryz.func23, Tryz.ntmps23
    go_wp2
    go_ret
    exact ⟨rfl, rfl⟩

/-- The variables that the calls read lie below this block. -/
def EnvB (b : Nat) : Prop := 0 < b ∧ 1 < b
theorem EnvF.base {w : World} (h : EnvF w) : EnvB w.heap.size := by
  obtain ⟨h1, m, h2⟩ := h
  refine ⟨World.block_lt_of_cell? w _ h2, ?_⟩
  have hg : Tryz.prog.globalNamed "internal/strconv.uint64pow10" = some 1 := by kernel_rfl
  rcases Nat.lt_or_ge 1 w.heap.size with h3 | h3
  · exact h3
  · unfold Lib.TabIs World.var? at h1
    rw [hg] at h1
    simp only [Option.bind_some, Array.getElem?_eq_none h3] at h1
    cases h1
theorem EnvB.mono {a b : Nat} (h : EnvB a) (hab : a ≤ b) : EnvB b := ⟨Nat.lt_of_lt_of_le h.1 hab, Nat.lt_of_lt_of_le h.2 hab⟩
theorem EnvF.from {w w' : World} {b : Nat} (h : EnvF w) (hb : EnvB b) (hB : Below b w w') : EnvF w' := by
  obtain ⟨h1, m, h2⟩ := h
  have hg : Tryz.prog.globalNamed "internal/strconv.uint64pow10" = some 1 := by kernel_rfl
  exact ⟨var?_below hB hg hb.2 h1, m, by rw [hB.cell (p := ⟨0, 0, none⟩) hb.1]; exact h2⟩
theorem below_of_grown {w w' : World} {b : Nat} (h : w.grownBy w' (some b)) (hb : b ≤ w.heap.size) : Below b w w' :=
  ⟨h.os, h.tape, h.output, h.size, fun k hk => h.block k (by omega) (fun e => by injection e with e; omega)⟩

set_option maxHeartbeats 400000 in
theorem frmNew_any (w : World) (X : Nat → Prop) :
    Calls Tryz.prog 12 #[] w fun e w' => e = .returned (.pointer (some ⟨w.heap.size, 0, none⟩)) ∧ RdAt w' w.heap.size [] false X ∧ Below w.heap.size w w' := by
  go_enter Tryz.func12, Tryz.ntmps12
  go_wp2
  go_ret
  exact ⟨rfl, ⟨none, 0, Cel.fresh _ _ _, Byt.nil _ _⟩, (Below.refl _ _).alloc (Nat.le_refl _) _⟩

theorem infoU8 : (Tryz.prog.info? 5).map (fun i => (i.zero, i.size, i.bytes)) = some (some (.int .u8 0), 1, 1) := by kernel_rfl
def byC (h : List UInt8) : List Value := h.map fun u => .int .u8 u.toNat
theorem byC_at {h : List UInt8} {j : Nat} {v : Value} (hv : (byC h)[j]? = some v) : ∃ u, h[j]? = some u ∧ v = .int .u8 u.toNat := by
  unfold byC at hv
  rw [List.getElem?_map] at hv
  rcases hu : h[j]? with _ | u
  · rw [hu] at hv; cases hv
  · rw [hu] at hv; injection hv with hv; exact ⟨u, rfl, hv.symm⟩
theorem byC_one (h : List UInt8) : ∀ u ∈ byC h, u.oneCell' = true := by
  intro u hu
  unfold byC at hu
  rw [List.mem_map] at hu
  obtain ⟨x, _, rfl⟩ := hu
  rfl

/-- What a row of bytes of the call's own reads as. -/
theorem byt_own {w : World} {B : Nat} {v : Value} {h : List UInt8} {X : Nat → Prop} (hown : w.ownsRow B 5 1 v h.length (byC h)) (hX : ∀ k, X k → k < B) :
    ∃ A c, v = .slice A h.length c ∧ Byt w A c h X := by
  rcases hown.2 with ⟨rfl, h0⟩ | ⟨g, cap, cur, rfl, hg, hh, hn, hm, _⟩
  · have : h = [] := List.length_eq_zero_iff.1 h0
    subst this
    exact ⟨none, 0, rfl, Byt.nil _ _⟩
  · refine ⟨some ⟨g, 0, none⟩, cap, rfl, hn, by simpa [maxLen] using hm, Or.inr ⟨_, rfl, fun _ => ⟨(Array.getElem?_eq_some_iff.1 hh).1, fun hx => absurd (hX g hx) (Nat.not_lt.2 hg)⟩, fun j u hu => ?_⟩⟩
    exact hown.cells (g := g) rfl j _ (by unfold byC; rw [List.getElem?_map, hu]; rfl)

/-- append(held[:n:n], chunk...): the bytes, one behind the other. -/
theorem run_append_byt {w : World} {A C : Option Addr} {c0 c2 : Nat} {h l : List UInt8} {X Y : Nat → Prop} (hb : Byt w A c0 h X) (hl : Byt w C c2 l Y) (hX : ∀ k, X k → k < w.heap.size) (hs : h.length + l.length ≤ 1099511627776) (ty : TypeId) :
    ∃ A' c' w', (Builtin.append_ #[27, 27] ty #[.slice A h.length h.length, .slice C l.length c2]).run Tryz.prog w = .ok (.slice A' (h ++ l).length c') w' ∧ Byt w' A' c' (h ++ l) X ∧ Below w.heap.size w w' := by
  obtain ⟨i0, hi0, hz0, hz1, hz2⟩ := info_parts infoU8
  obtain ⟨b1, b2, b3⟩ := hb
  obtain ⟨l1, l2, l3⟩ := hl
  have hcut : Byt w A h.length h X := by
    refine ⟨Nat.le_refl _, by omega, ?_⟩
    rcases b3 with ⟨q1, q2, _⟩ | q
    · exact Or.inl ⟨q1, q2, by rw [q2]; rfl⟩
    · exact Or.inr q
  by_cases hl0 : l = []
  · subst hl0
    refine ⟨A, h.length, w, ?_, by rw [List.append_nil]; exact hcut, Below.refl _ _⟩
    rw [List.append_nil]
    rcases A with _ | ad
    · rcases C with _ | cd
      · simp [Builtin.append_, run_underlying Tryz.underlying27, sizeOf, typeInfo, hi0, hz1, Builtin.lenOf, Builtin.firstCells]
      · have hld : (loadCells cd 0).run Tryz.prog w = .ok #[] w := by
          have := run_loadCells_list (P := Tryz.prog) w cd [] (fun j v hj => by simp at hj)
          simpa using this
        simp [Builtin.append_, run_underlying Tryz.underlying27, sizeOf, typeInfo, hi0, hz1, Builtin.lenOf, Builtin.firstCells, hld]
    · rcases C with _ | cd
      · simp [Builtin.append_, run_underlying Tryz.underlying27, sizeOf, typeInfo, hi0, hz1, Builtin.lenOf, Builtin.firstCells, storeCells]
      · have hld : (loadCells cd 0).run Tryz.prog w = .ok #[] w := by
          have := run_loadCells_list (P := Tryz.prog) w cd [] (fun j v hj => by simp at hj)
          simpa using this
        simp [Builtin.append_, run_underlying Tryz.underlying27, sizeOf, typeInfo, hi0, hz1, Builtin.lenOf, Builtin.firstCells, hld, storeCells]
  · have hlp : 0 < l.length := List.length_pos_iff.2 hl0
    rcases l3 with ⟨_, q, _⟩ | ⟨cd, rfl, _, lc⟩
    · exact absurd q hl0
    · have hnews : ∀ j u, (byC l)[j]? = some u → w.cell? (cd.add j) = some u := by
        intro j u hu
        obtain ⟨x, hx, rfl⟩ := byC_at hu
        exact lc j x hx
      have fin : ∀ v' w', w'.ownsRow w.heap.size 5 1 v' (h.length + l.length) (byC h ++ byC l) → w.grownBy w' none →
          (Builtin.append_ #[27, 27] ty #[.slice A h.length h.length, .slice (some cd) l.length c2]).run Tryz.prog w = .ok v' w' →
          ∃ A' c' w', (Builtin.append_ #[27, 27] ty #[.slice A h.length h.length, .slice (some cd) l.length c2]).run Tryz.prog w = .ok (.slice A' (h ++ l).length c') w' ∧ Byt w' A' c' (h ++ l) X ∧ Below w.heap.size w w' := by
        intro v' w' hown hg hrun
        have ho : w'.ownsRow w.heap.size 5 1 v' (h ++ l).length (byC (h ++ l)) := by
          have e1 : byC (h ++ l) = byC h ++ byC l := by unfold byC; rw [List.map_append]
          rw [e1, List.length_append]; exact hown
        obtain ⟨A', c', rfl, hbt⟩ := byt_own ho hX
        exact ⟨A', c', w', hrun, hbt, ⟨hg.os, hg.tape, hg.output, hg.size, fun k hk => hg.block k hk (by simp)⟩⟩
      rcases b3 with ⟨rfl, rfl, _⟩ | ⟨ad, rfl, _, bc⟩
      · obtain ⟨v', w', hrun, hown, hg, _⟩ := run_append_own (P := Tryz.prog) w w.heap.size 27 ty 5 i0 (.int .u8 0) 1 1 Tryz.underlying27 hi0 hz0 hz1 hz2 rfl (by decide) (.slice none 0 0) 0 [] (World.ownsRow_nil w _ _ _) cd l.length c2 (byC l) (by unfold byC; simp) hnews (byC_one l) (by unfold maxLen; simp at hs; omega) (by simp at hs; omega) (Nat.le_refl _)
        exact fin v' w' hown hg hrun
      · obtain ⟨v', w', hrun, hown, hg⟩ := run_append_arg_grows (P := Tryz.prog) w 27 ty 5 i0 (.int .u8 0) 1 1 Tryz.underlying27 hi0 hz0 hz1 hz2 rfl (by decide) ad h.length h.length (byC h) (by unfold byC; simp) (fun j u hu => by
          obtain ⟨x, hx, rfl⟩ := byC_at hu
          exact bc j x hx) cd l.length c2 (byC l) (by unfold byC; simp) hnews (by omega) (by unfold maxLen; omega) (by omega)
        exact fin v' w' hown hg hrun

/-- The append as one step of a region that draws. -/
theorem step_append_run {P : Program} {ops : Array Oper} {o : Oper} {a : Act} {w : World} {K : Act → World → Prop} {Q : Exit → Act → World → Prop} {E : Prop}
    (hg : o.guard = none) (s x : Operand) (t1 t2 : TypeId) (hop : o.op = Op.call { callee := Callee.builtin Builtin.append, args := #[s, x], argTypes := #[t1, t2] })
    (vs vx v : Value) (w' : World) (hs : a.eval s = vs) (hx : a.eval x = vx) (hrun : (Builtin.append_ #[t1, t2] o.type #[vs, vx]).run P w = .ok v w') (hK : K (a.put o.dst v) w') :
    if Region.wanted o (yielded ops a.tmps) = true then Oper.wp P o a w K Q else E := by
  have hw : Region.wanted o (yielded ops a.tmps) = true := by simp [Region.wanted, hg]
  rw [if_pos hw]
  unfold Oper.wp
  simp [execOp, hop, resolve, invoke, builtin, hs, hx, hrun, Result.andThen]
  exact hK

/-- Either step. -/
theorem frmStep_any (b : Nat) (h : List UInt8) (k : Bool) (X : Nat → Prop) (w : World) (hX : X b) (hE : EnvF w) (hR : RdAt w b h k X) (hs : h.length ≤ 1073741824) :
    Calls Tryz.prog (if k then 26 else 27) #[.pointer (some ⟨b, 0, none⟩)] w (StepEnd b X (stepF h k) w) := by
  cases k
  · exact frmFrame_any b h X w hX hE hR hs
  · exact frmPass_any b h X w hX hE hR hs

/-- How Feed ends. -/
def FeedEnd (b : Nat) (X : Nat → Prop) (r : Fin') (w : World) (e : Ending) (w' : World) : Prop :=
  ∃ v B, e = .returned (.tuple #[v, .int .i64 0]) ∧ w.heap.size ≤ B ∧ B ≤ w'.heap.size ∧ w'.ownsRow B 42 2 v r.evs.length (evCells r.evs) ∧ RdAt w' b r.h r.k (fun j => X j ∨ B ≤ j) ∧ w.grownBy w' (some b)
theorem RdAt.row {w w' : World} {b B : Nat} {h : List UInt8} {k : Bool} {X : Nat → Prop} {row : Option Nat} (hR : RdAt w b h k X) (hg : w.grownBy w' row) (hr : ∀ g, row = some g → B ≤ g) (hb : b < B) (hX : ∀ j, B ≤ j → X j) : RdAt w' b h k X := by
  obtain ⟨A, c, hC, hY⟩ := hR
  refine ⟨A, c, ?_, hY.keep hg.size fun p hp hx => World.cell?_of_block (hg.block p.block hp (fun e => hx (hX _ (hr _ e.symm))))⟩
  unfold Cel at hC ⊢
  rw [hg.block b (Cel.lt hC) (fun e => by have := hr _ e.symm; omega)]
  exact hC
theorem grown_row {w w1 w2 : World} {b : Nat} {row : Option Nat} (h : w.grownBy w1 (some b)) (hg : w1.grownBy w2 row) (hr : ∀ g, row = some g → w.heap.size ≤ g) : w.grownBy w2 (some b) :=
  ⟨hg.os.trans h.os, hg.tape.trans h.tape, hg.output.trans h.output, Nat.le_trans h.size hg.size, fun k hk hne => (hg.block k (Nat.lt_of_lt_of_le hk h.size) (fun e => by have := hr _ e.symm; omega)).trans (h.block k hk hne)⟩
theorem infoEv : (Tryz.prog.info? 42).map (fun i => (i.zero, i.size, i.bytes)) = some (some (.agg #[.string ByteArray.empty, .int .i64 0]), 2, 24) := by kernel_rfl
theorem Cel.evc {w : World} {g : Nat} {t : TypeId} {x y : Value} (h : Cel w g t #[x, y]) : ∀ j u, [x, y][j]? = some u → w.cell? ((⟨g, 0, none⟩ : Addr).add j) = some u := by
  intro j u hj
  have hadd : ∀ j, (⟨g, 0, none⟩ : Addr).add j = ⟨g, j, none⟩ := by intro j; unfold Addr.add; split <;> simp_all
  rw [hadd, h.cell]
  simpa using hj

set_option maxRecDepth 100000 in
set_option maxHeartbeats 4000000 in
theorem frmFeed_any (b : Nat) (h l : List UInt8) (k : Bool) (X Y : Nat → Prop) (C : Option Addr) (c2 : Nat) (w : World) (hX : X b) (hXw : ∀ k, X k → k < w.heap.size) (hbE : EnvB b) (hE : EnvF w) (hR : RdAt w b h k X) (hL : Byt w C c2 l Y) (hs : h.length + l.length ≤ 536870912) :
    Calls Tryz.prog 13 #[.pointer (some ⟨b, 0, none⟩), .slice C l.length c2] w (FeedEnd b X (runF (h ++ l) k) w) := by
  obtain ⟨E, hEE⟩ : ∃ E, runF (h ++ l) k = E := ⟨_, rfl⟩
  rw [hEE]
  replace hEE := Lib.hid hEE
  obtain ⟨A, cp, hC, hB⟩ := hR
  obtain ⟨x0, x1, f0, f1⟩ := hC.two
  have hbl := hC.lt
  have hcp := hB.1
  have hcp2 := hB.2.1
  replace hC := Lib.hid hC
  go_enter Tryz.func13, Tryz.ntmps13
  go_upto_region 3 with (fail)
  obtain ⟨A', c', w1, hrun, hY1, hB1⟩ := run_append_byt (hB.drewN 1) (hL.drewN 1) hXw (by omega) 27
  have hrun' : (Builtin.append_ #[27, 27] 27 #[.slice A h.length h.length, .slice C l.length c2]).run Tryz.prog w.drew = .ok (.slice A' (h ++ l).length c') w1 := hrun
  have hB1' : Below w.heap.size w w1 := (bel_drawn w 1).trans hB1
  have hC1 := hC.out.below hB1' hbl
  obtain ⟨y0, y1, g0, g1⟩ := hC1.two
  obtain ⟨n', hn'⟩ : ∃ n', (h ++ l).length = n' := ⟨_, rfl⟩
  rw [hn'] at hrun'
  clear hrun hB hL hB1
  replace hrun' := Lib.hid hrun'
  replace hY1 := Lib.hid hY1
  replace hB1' := Lib.hid hB1'
  replace hC1 := Lib.hid hC1
  replace hn' := Lib.hid hn'
  refine wp_cut (fun a' wc => ∃ (u : Nat → Value), a' = ⟨#[.pointer (some ⟨b, 0, none⟩), .slice C l.length c2, u 2, u 3, .slice none 0 0, .int .i64 0, u 6, u 7, u 8, u 9, u 10, u 11, u 12, u 13, u 14, u 15, u 16, u 17, u 18, u 19, u 20, u 21, u 22, u 23, u 24, u 25, u 26, u 27, u 28, u 29, u 30, u 31, u 32, u 33, u 34, u 35, u 36, u 37, u 38, u 39, u 40, u 41, u 42], []⟩ ∧ (w1.setCell ⟨b, 0, none⟩ (.slice A' n' c') = wc)) ?rest ?first
  case first =>
    intro J K' hJ hK'
    go_region_law (refine step_append_run rfl (.tmp 26) (.tmp 27) 27 27 rfl (.slice A h.length h.length) (.slice C l.length c2) _ _ (by simp [Act.eval, Act.put]) (by simp [Act.eval, Act.put]) hrun'.out ?_)
    all_goals
      go_wp2
      refine Met.intro (hJ _ _ ?_)
      exact meetF (by kernel_rfl) rfl
  case rest =>
    clear x0 x1 f0 f1 y0 y1 g0 g1 hrun' hC
    rintro a' wc ⟨u, rfl, hwc⟩
    subst hwc
    obtain ⟨i0, hi0, hz0, hz1, hz2⟩ := info_parts infoEv
    obtain ⟨X', hXX⟩ : ∃ X' : Nat → Prop, (fun j => X j ∨ w1.heap.size ≤ j) = X' := ⟨_, rfl⟩
    obtain ⟨B, hBB⟩ : ∃ B, w1.heap.size = B := ⟨_, rfl⟩
    have hX' : X' b := by rw [← hXX]; exact Or.inl hX
    have hwB : w.heap.size ≤ B := by rw [← hBB]; exact hB1'.out.size
    have hbB : b < w.heap.size := hbl
    have hbB' : b < B := by omega
    have hE2w : EnvF (w1.setCell ⟨b, 0, none⟩ (.slice A' n' c')) := (hE.below hB1'.out).from hbE ((Below.refl b w1).setCell (p := ⟨b, 0, none⟩) (Nat.le_refl _) _)
    have hR2 : RdAt (w1.setCell ⟨b, 0, none⟩ (.slice A' n' c')) b (h ++ l) k X' := by
      refine ⟨A', c', ?_, ?_⟩
      · rw [hn'.out]; exact hC1.out.set 0 _
      · refine Byt.mono (X := X) ?_ ?_
        · exact hY1.out.set hX _
        · intro j hj hx
          rw [← hXX] at hx
          rcases hx with hx | hx
          · exact hx
          · simp [World.setCell] at hj; omega
    have hw2 : w.grownBy (w1.setCell ⟨b, 0, none⟩ (.slice A' n' c')) (some b) := grown_trans' (grown_of_below hB1'.out _) (grown_set1 (by have := hB1'.out.size; omega))
    have hs2 : (w1.setCell ⟨b, 0, none⟩ (.slice A' n' c')).heap.size = B := by rw [← hBB]; simp [World.setCell]
    have hll : (h ++ l).length ≤ 536870912 := by rw [List.length_append]; exact hs
    clear hY1 hB1' hC1 hn' hE hcp hcp2 hXw
    generalize w1.setCell ⟨b, 0, none⟩ (.slice A' n' c') = w2 at *
    rw [hBB] at hXX
    subst hXX
    have hsB : B ≤ w2.heap.size := by omega
    have hsB2 : w2.heap.size ≤ B := by omega
    clear hs2 hBB
    obtain ⟨H, hH⟩ : ∃ H, h ++ l = H := ⟨_, rfl⟩
    rw [hH] at hR2 hll hEE
    clear hH
    replace hR2 := Lib.hid hR2
    replace hw2 := Lib.hid hw2
    replace hE2w := Lib.hid hE2w
    have hwB' := hwB
    replace hwB := Lib.hid hwB
    replace hbE := hbE
    go_wp2_with fail
    go_loopg [6] (meas H k + 1) (fun g v wr => ∃ (hh : List UInt8) (kk : Bool) (evs : List Evt), meas hh kk < g ∧ hh.length ≤ 536870912 ∧ evs.length + hh.length ≤ 536870912 ∧ RdAt wr b hh kk (fun j => X j ∨ B ≤ j) ∧ wr.ownsRow B 42 2 v evs.length (evCells evs) ∧ B ≤ wr.heap.size ∧ w2.grownBy wr (some b) ∧ EnvF wr ∧ (⟨evs ++ (runF hh kk).evs, (runF hh kk).h, (runF hh kk).k⟩ : Fin') = E)
    case atStart => exact ⟨H, k, [], Nat.lt_succ_self _, hll, by simpa using hll, hR2.out, World.ownsRow_nil _ _ _ _, hsB, grown_of_below (Below.refl _ _) _, hE2w.out, by rw [hEE.out]; rfl⟩
    case round =>
      obtain ⟨hh, kk, evs, hm, hhl, hel, hR, hown, hsr, hgr, hEr, hEq⟩ := hrel
      clear hR2 hEE hll
      cases kk
      · have hnx := frmNext_any b hh false _ wr hR
        have hsp := frmFrame_any b hh _ wr hX' hEr hR (by omega)
        have hln := step_len hh false
        have hmm := step_meas hh false
        have hon := runF_on (h := hh) (k := false)
        have hoff := runF_off (h := hh) (k := false)
        have hsi := run_still hh [] false
        rcases hst : stepF hh false with ⟨evs1, on1, h1, k1⟩
        rw [hst] at hsp hln hmm hon hoff hsi
        dsimp only at hln hmm hon hoff hsi
        clear hst
        replace hnx := Lib.hid hnx
        replace hsp := Lib.hid hsp
        have hbr := hbB
        replace hR := Lib.hid hR
        replace hEr := Lib.hid hEr
        replace hown := Lib.hid hown
        replace hgr := Lib.hid hgr
        replace hon := Lib.hid hon
        replace hoff := Lib.hid hoff
        replace hmm := Lib.hid hmm
        replace hsi := Lib.hid hsi
        replace hEq := Lib.hid hEq
        go_wp2_with fail
        refine hnx.out.mono ?_
        rintro e w3 ⟨rfl, rfl⟩
        clear hnx
        go_wp2_with fail
        refine hsp.out.mono ?_
        rintro e w3 ⟨v1, rfl, hev, hR3, hg3⟩
        dsimp only at hev hR3 ⊢
        clear hsp
        have hown3 := hown.out.kept hg3 (Or.inr (fun e => by have := (hown.out.lt _ e).1; omega))
        have hgr3 := grown_trans' hgr.out hg3
        have hs3 : B ≤ w3.heap.size := by have := hg3.size; omega
        clear hg3 hown hgr
        replace hown3 := Lib.hid hown3
        replace hR3 := Lib.hid hR3
        replace hgr3 := Lib.hid hgr3
        rcases hev with ⟨rfl, rfl⟩ | ⟨g, x, rfl, hgB, rfl, hcx⟩
        · cases on1
          · have hE2 := hoff.out rfl
            have hfin : E = ⟨evs, h1, k1⟩ := by
              rw [← hEq.out, hE2]; simp
            clear hoff hon hmm hsi hEq hE2
            replace hfin := Lib.hid hfin
            go_wp2_with (at_builtin; refine wpList_append_own_none rfl _ _ 28 rfl B 42 i0 2 Tryz.underlying28 hi0 _ _ _ rfl hown3.out rfl ?_)
            go_ret2
            rw [hfin.out]
            exact ⟨_, B, rfl, hwB.out, hs3, hown3.out, hR3.out, grown_trans' hw2.out hgr3.out⟩
          · have hE2 := hon.out rfl
            have hEq2 : (⟨evs ++ (runF h1 k1).evs, (runF h1 k1).h, (runF h1 k1).k⟩ : Fin') = E := by
              rw [← hEq.out, hE2]; simp
            have hm2 := hmm.out rfl
            have hE3 := EnvF.from hE2w.out hbE (below_of_grown hgr3.out (by omega))
            clear hoff hon hmm hsi hEq hE2
            replace hEq2 := Lib.hid hEq2
            replace hE3 := Lib.hid hE3
            go_wp2_with (at_builtin; refine wpList_append_own_none rfl _ _ 28 rfl B 42 i0 2 Tryz.underlying28 hi0 _ _ _ rfl hown3.out rfl ?_)
            go_roundg (meas h1 k1 + 1)
            case measure => omega
            case rel => exact ⟨h1, k1, evs, by omega, by omega, by simp at hln; omega, hR3.out, hown3.out, hs3, hgr3.out, hE3.out, hEq2.out⟩
        · cases on1
          · exact absurd (hsi.out rfl).1 (by simp)
          · have hE2 := hon.out rfl
            have hEq2 : (⟨(evs ++ [x]) ++ (runF h1 k1).evs, (runF h1 k1).h, (runF h1 k1).k⟩ : Fin') = E := by
              rw [← hEq.out, hE2]; simp
            have hm2 := hmm.out rfl
            have hcn := hcx.evc
            clear hoff hon hmm hsi hEq hE2
            replace hEq2 := Lib.hid hEq2
            replace hcn := Lib.hid hcn
            have hl1 : 1 + h1.length ≤ hh.length := by simpa using hln
            go_wp2_with (at_builtin; refine wpList_append_own _ rfl _ _ 28 rfl B 42 i0 _ 2 24 Tryz.underlying28 hi0 hz0 hz1 hz2 rfl (by decide) _ _ _ rfl hown3.out ⟨g, 0, none⟩ 1 1 [.string ⟨x.1.toArray⟩, .int .i64 x.2] rfl rfl hcn.out (fun x hx => by simp at hx; rcases hx with rfl | rfl <;> rfl) (by unfold maxLen; omega) (by omega) hs3 ?_; intro v' w4 hown4 hg4 _)
            have hrw : ∀ g, u6.ownBlock = some g → B ≤ g := fun g e => (hown3.out.lt _ e).1
            have hR4 := hR3.out.row hg4 hrw hbB' (fun j hj => Or.inr hj)
            have hgr4 := grown_row hgr3.out hg4 (fun g e => by have := hrw g e; omega)
            have hE4 := EnvF.from hE2w.out hbE (below_of_grown hgr4 (by omega))
            have hown5 := own_snoc hown4 (m := (evs ++ [x]).length) (zs := evCells (evs ++ [x])) (by rw [List.length_append]; rfl) (by rw [evCells_app]; rfl)
            have hs4 : B ≤ w4.heap.size := by have := hg4.size; omega
            clear hg4 hown4 hrw
            replace hR4 := Lib.hid hR4
            replace hgr4 := Lib.hid hgr4
            replace hE4 := Lib.hid hE4
            replace hown5 := Lib.hid hown5
            go_wp2_with fail
            go_roundg (meas h1 k1 + 1)
            case measure => omega
            case rel => exact ⟨h1, k1, evs ++ [x], by omega, by omega, by rw [List.length_append]; show evs.length + 1 + _ ≤ _; omega, hR4.out, hown5.out, hs4, hgr4.out, hE4.out, hEq2.out⟩
      · have hnx := frmNext_any b hh true _ wr hR
        have hsp := frmPass_any b hh _ wr hX' hEr hR (by omega)
        have hln := step_len hh true
        have hmm := step_meas hh true
        have hon := runF_on (h := hh) (k := true)
        have hoff := runF_off (h := hh) (k := true)
        have hsi := run_still hh [] true
        rcases hst : stepF hh true with ⟨evs1, on1, h1, k1⟩
        rw [hst] at hsp hln hmm hon hoff hsi
        dsimp only at hln hmm hon hoff hsi
        clear hst
        replace hnx := Lib.hid hnx
        replace hsp := Lib.hid hsp
        have hbr := hbB
        replace hR := Lib.hid hR
        replace hEr := Lib.hid hEr
        replace hown := Lib.hid hown
        replace hgr := Lib.hid hgr
        replace hon := Lib.hid hon
        replace hoff := Lib.hid hoff
        replace hmm := Lib.hid hmm
        replace hsi := Lib.hid hsi
        replace hEq := Lib.hid hEq
        go_wp2_with fail
        refine hnx.out.mono ?_
        rintro e w3 ⟨rfl, rfl⟩
        clear hnx
        go_wp2_with fail
        refine hsp.out.mono ?_
        rintro e w3 ⟨v1, rfl, hev, hR3, hg3⟩
        dsimp only at hev hR3 ⊢
        clear hsp
        have hown3 := hown.out.kept hg3 (Or.inr (fun e => by have := (hown.out.lt _ e).1; omega))
        have hgr3 := grown_trans' hgr.out hg3
        have hs3 : B ≤ w3.heap.size := by have := hg3.size; omega
        clear hg3 hown hgr
        replace hown3 := Lib.hid hown3
        replace hR3 := Lib.hid hR3
        replace hgr3 := Lib.hid hgr3
        rcases hev with ⟨rfl, rfl⟩ | ⟨g, x, rfl, hgB, rfl, hcx⟩
        · cases on1
          · have hE2 := hoff.out rfl
            have hfin : E = ⟨evs, h1, k1⟩ := by
              rw [← hEq.out, hE2]; simp
            clear hoff hon hmm hsi hEq hE2
            replace hfin := Lib.hid hfin
            go_wp2_with (at_builtin; refine wpList_append_own_none rfl _ _ 28 rfl B 42 i0 2 Tryz.underlying28 hi0 _ _ _ rfl hown3.out rfl ?_)
            go_ret2
            rw [hfin.out]
            exact ⟨_, B, rfl, hwB.out, hs3, hown3.out, hR3.out, grown_trans' hw2.out hgr3.out⟩
          · have hE2 := hon.out rfl
            have hEq2 : (⟨evs ++ (runF h1 k1).evs, (runF h1 k1).h, (runF h1 k1).k⟩ : Fin') = E := by
              rw [← hEq.out, hE2]; simp
            have hm2 := hmm.out rfl
            have hE3 := EnvF.from hE2w.out hbE (below_of_grown hgr3.out (by omega))
            clear hoff hon hmm hsi hEq hE2
            replace hEq2 := Lib.hid hEq2
            replace hE3 := Lib.hid hE3
            go_wp2_with (at_builtin; refine wpList_append_own_none rfl _ _ 28 rfl B 42 i0 2 Tryz.underlying28 hi0 _ _ _ rfl hown3.out rfl ?_)
            go_roundg (meas h1 k1 + 1)
            case measure => omega
            case rel => exact ⟨h1, k1, evs, by omega, by omega, by simp at hln; omega, hR3.out, hown3.out, hs3, hgr3.out, hE3.out, hEq2.out⟩
        · cases on1
          · exact absurd (hsi.out rfl).1 (by simp)
          · have hE2 := hon.out rfl
            have hEq2 : (⟨(evs ++ [x]) ++ (runF h1 k1).evs, (runF h1 k1).h, (runF h1 k1).k⟩ : Fin') = E := by
              rw [← hEq.out, hE2]; simp
            have hm2 := hmm.out rfl
            have hcn := hcx.evc
            clear hoff hon hmm hsi hEq hE2
            replace hEq2 := Lib.hid hEq2
            replace hcn := Lib.hid hcn
            have hl1 : 1 + h1.length ≤ hh.length := by simpa using hln
            go_wp2_with (at_builtin; refine wpList_append_own _ rfl _ _ 28 rfl B 42 i0 _ 2 24 Tryz.underlying28 hi0 hz0 hz1 hz2 rfl (by decide) _ _ _ rfl hown3.out ⟨g, 0, none⟩ 1 1 [.string ⟨x.1.toArray⟩, .int .i64 x.2] rfl rfl hcn.out (fun x hx => by simp at hx; rcases hx with rfl | rfl <;> rfl) (by unfold maxLen; omega) (by omega) hs3 ?_; intro v' w4 hown4 hg4 _)
            have hrw : ∀ g, u6.ownBlock = some g → B ≤ g := fun g e => (hown3.out.lt _ e).1
            have hR4 := hR3.out.row hg4 hrw hbB' (fun j hj => Or.inr hj)
            have hgr4 := grown_row hgr3.out hg4 (fun g e => by have := hrw g e; omega)
            have hE4 := EnvF.from hE2w.out hbE (below_of_grown hgr4 (by omega))
            have hown5 := own_snoc hown4 (m := (evs ++ [x]).length) (zs := evCells (evs ++ [x])) (by rw [List.length_append]; rfl) (by rw [evCells_app]; rfl)
            have hs4 : B ≤ w4.heap.size := by have := hg4.size; omega
            clear hg4 hown4 hrw
            replace hR4 := Lib.hid hR4
            replace hgr4 := Lib.hid hgr4
            replace hE4 := Lib.hid hE4
            replace hown5 := Lib.hid hown5
            go_wp2_with fail
            go_roundg (meas h1 k1 + 1)
            case measure => omega
            case rel => exact ⟨h1, k1, evs ++ [x], by omega, by omega, by rw [List.length_append]; show evs.length + 1 + _ ≤ _; omega, hR4.out, hown5.out, hs4, hgr4.out, hE4.out, hEq2.out⟩
end Go.Proofs.YtccfdecpiekeoaaGreatDoor
