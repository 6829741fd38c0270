/-
  Rows of names, values put together: what given rests on (law by law).
-/
import Derived.Test.YtamcbgkppgdniaaGreatDoorJsG
import Derived.Deep.RegionLaw
import Derived.Deep.RegionHeld3
namespace Go.Proofs.YtamcbgkppgdniaaGreatDoor
open Go.RowKit

theorem infoS : (Tryz.prog.info? 9).map (fun i => (i.zero, i.size, i.bytes)) = some (some (.string ByteArray.empty), 1, 16) := by kernel_rfl
def NamesPost (n : List ByteArray) (W : World) (v' : Value) (W' : World) : Prop := (∃ gn, W.heap.size ≤ gn ∧ NamO W' 9 W.heap.size W'.heap.size gn v' n) ∧ Below W.heap.size W W'
set_option maxRecDepth 100000 in
theorem append_names {W : World} {X : Nat → Prop} {v : Value} {n : List ByteArray} (hv : StrL W X v n) (hn : n.length ≤ 1000000000000) (g0 : Nat) :
    ∃ v' W', (Builtin.append_ #[22, 22] 22 #[.slice (some ⟨g0, 0, none⟩) 0 0, v]).run Tryz.prog W = .ok v' W' ∧ NamesPost n W v' W' := by
  obtain ⟨i0, hi0, hz0, hz1, hz2⟩ := info_parts infoS
  obtain ⟨A, c, rfl, h1⟩ := hv
  by_cases h0 : n.length = 0
  · have e1 : n = [] := List.eq_nil_of_length_eq_zero h0
    subst e1
    refine ⟨.slice (some ⟨g0, 0, none⟩) 0 0, W, ?_, ⟨W.heap.size, Nat.le_refl _, _, 0, rfl, fun h => by simp at h⟩, Below.refl _ _⟩
    rcases A with _ | cd
    · simp [Builtin.append_, run_underlying Tryz.underlying22, sizeOf, typeInfo, hi0, hz1, Builtin.lenOf, Builtin.firstCells, storeCells]
    · have hld : (loadCells cd 0).run Tryz.prog W = .ok #[] W := by
        have := run_loadCells_list (P := Tryz.prog) W cd [] (fun j v hj => by simp at hj)
        simpa using this
      simp [Builtin.append_, run_underlying Tryz.underlying22, sizeOf, typeInfo, hi0, hz1, Builtin.lenOf, Builtin.firstCells, hld, storeCells]
  · obtain ⟨g, o, rfl, _, _, q1⟩ := h1 (by omega)
    obtain ⟨v', w', hrun, hown, hg⟩ := run_append_arg_grows (P := Tryz.prog) W 22 22 9 i0 (.string ByteArray.empty) 1 16 Tryz.underlying22 hi0 hz0 hz1 hz2 rfl (by decide) ⟨g0, 0, none⟩ 0 0 [] (by simp) (fun j u hu => by simp at hu) ⟨g, o, none⟩ n.length c (n.map Value.string) (by simp) (fun j u hu => by
      rw [List.getElem?_map] at hu
      rcases hj : n[j]? with _ | y
      · rw [hj] at hu; cases hu
      · rw [hj] at hu
        injection hu with hu
        subst hu
        have := q1 j y hj
        have hadd : (⟨g, o, none⟩ : Addr).add j = ⟨g, o + j, none⟩ := by unfold Addr.add; split <;> simp_all
        rw [hadd]; exact this) (by omega) (by unfold maxLen; omega) (by omega)
    rw [List.nil_append, Nat.zero_add] at hown
    obtain ⟨gn, hgn, hN⟩ := own_nam hown
    exact ⟨v', w', hrun, ⟨gn, hgn, hN⟩, ⟨hg.os, hg.tape, hg.output, hg.size, fun k hk => hg.block k hk (by simp)⟩⟩

theorem jl_step_run {P : Program} {ops : Array Oper} {o : Oper} {a : Act} {w : World} {K : Act → World → Prop} {Q : Exit → Act → World → Prop} {E : Prop}
    (hg : o.guard = none) (s x : Operand) (t1 t2 : TypeId) (hop : o.op = Op.call { callee := Callee.builtin Builtin.append, args := #[s, x], argTypes := #[t1, t2] })
    (vs vx v : Value) (w' : World) (hs : a.eval s = vs) (hx : a.eval x = vx) (hrun : (Builtin.append_ #[t1, t2] o.type #[vs, vx]).run P w = .ok v w') (hK : K (a.put o.dst v) w') :
    if Region.wanted o (yielded ops a.tmps) = true then Oper.wp P o a w K Q else E := by
  have hw : Region.wanted o (yielded ops a.tmps) = true := by simp [Region.wanted, hg]
  rw [if_pos hw]
  unfold Oper.wp
  simp [execOp, hop, resolve, invoke, builtin, hs, hx, hrun, Result.andThen]
  exact hK
/-- append([]string{}, names...) as one step of a region that draws, whatever the world. -/
theorem step_names {ops : Array Oper} {o : Oper} {a : Act} {w : World} {K : Act → World → Prop} {Q : Exit → Act → World → Prop} {E : Prop} {X : Nat → Prop} {v : Value} {n : List ByteArray}
    (hg : o.guard = none) (s x : Operand) (hop : o.op = Op.call { callee := Callee.builtin Builtin.append, args := #[s, x], argTypes := #[22, 22] }) (hty : o.type = 22)
    (g0 : Nat) (hs : a.eval s = .slice (some ⟨g0, 0, none⟩) 0 0) (hx : a.eval x = v) (hv : StrL w X v n) (hn : n.length ≤ 1000000000000) (hK : ∀ v' w', NamesPost n w v' w' → K (a.put o.dst v') w') :
    if Region.wanted o (yielded ops a.tmps) = true then Oper.wp Tryz.prog o a w K Q else E := by
  obtain ⟨v', w', hrun, hp⟩ := append_names hv hn g0
  exact jl_step_run hg s x _ _ hop _ _ v' w' hs hx (by rw [hty]; exact hrun) (hK v' w' hp)

theorem grown_set0 (b i : Nat) (x : Value) (w : World) : w.grownBy (w.setCell ⟨b, i, none⟩ x) (some b) :=
  ⟨rfl, rfl, rfl, by simp [World.setCell], fun k _ hne => Below.heap_setCell _ _ _ _ (fun e => hne (by rw [e]))⟩
/-- Names in a block of the call's own, other than bo. -/
def NamG (w : World) (lo hi bo : Nat) (v : Value) (n : List ByteArray) : Prop := ∃ gn, gn < hi ∧ gn ≠ bo ∧ NamO w 9 lo hi gn v n
theorem NamG.len {w : World} {lo hi bo : Nat} {v : Value} {n : List ByteArray} (h : NamG w lo hi bo v n) : ∃ A c, v = .slice A n.length c := by
  obtain ⟨_, _, _, A, c, rfl, _⟩ := h
  exact ⟨A, c, rfl⟩
theorem NamG.keep {w w' : World} {lo hi bo : Nat} {v : Value} {n : List ByteArray} (h : NamG w lo hi bo v n) (hk : ∀ b, lo ≤ b → b < hi → b ≠ bo → w'.heap[b]? = w.heap[b]?) : NamG w' lo hi bo v n := by
  obtain ⟨gn, h1, h2, A, c, rfl, q⟩ := h
  refine ⟨gn, h1, h2, A, c, rfl, fun hp => ?_⟩
  obtain ⟨e, q1, q2, cs, q3, q4⟩ := q hp
  exact ⟨e, q1, q2, cs, (hk gn q1 q2 h2).trans q3, q4⟩
theorem KidO.name {gl gn gn' lo hi : Nat} {cs : Array Value} {l : List (Jsn × (Nat → Nat → Value → Value → Prop))} {ws : List OE} (h : KidO gl gn lo hi cs l ws) (hg : gn' < lo) : KidO gl gn' lo hi cs l ws :=
  ⟨h.1, fun i x u hx hu => by obtain ⟨q1, q2, q3, q4, q5, q6, q7⟩ := h.2.1 i x u hx hu; exact ⟨q1, q2, q3, q4, q5, by omega, q7⟩, h.2.2⟩
/-- A value of the call's own, out of its row and names that lie ahead of it. -/
theorem mk_own2 {wr : World} {lo lo' B gn : Nat} {tS tJ : TypeId} {v vn : Value} {k : Int} {s : ByteArray} {ns : List ByteArray} {l : List Jsn} (hk0 : 0 ≤ k) (hk1 : k ≤ 255) (h : RowO wr B tS tJ v l) (hlo : lo' ≤ lo ∧ lo' ≤ B) (hg : gn < B) (hBs : B ≤ wr.heap.size)
    (hn : NamO wr tS lo B gn vn ns) : OwnJ wr tS tJ ⟨k, s, ns, l⟩ lo' wr.heap.size vn v := by
  obtain ⟨gl, cs, A, c, ws, hv, h1, h2⟩ := h.kids
  rw [OwnJ_eq]
  refine ⟨hk0, hk1, gn, gl, cs, A, c, ws, hn.keep (fun _ _ _ => rfl) hlo.1 hBs, hv, fun hp => ?_, ((h2 _ (Nat.le_refl _)).name hg).imp hlo.2 (Nat.le_refl _) rfl fun i x x' hx hx' => ?_⟩
  · obtain ⟨q1, q2, q3, q4⟩ := h1 hp
    exact ⟨q1, by omega, q3, by omega, q4⟩
  · rw [hx] at hx'
    injection hx' with e
    subst e
    exact ⟨rfl, fun _ _ _ _ _ _ h => h⟩
/-- What a round of given leaves. -/
theorem given_round {w wr wc w2 : World} {bo q c7 : Nat} {A7 : Option Addr} {n : List ByteArray} {l l2 : List Jsn} {x : Jsn} {vn vl v0 v1 v2 vN : Value} {cs1 cs2 : Array Value} (hrow : RowO wr wc.heap.size 9 25 (.slice A7 q c7) l) (hB : Below w.heap.size w wr) (hB2 : Below wr.drew.heap.size wr.drew w2) (hsw : wc.heap.size ≤ wr.heap.size)
    (hO : OwnJ w2 9 25 x wr.drew.heap.size w2.heap.size vn vl) (hql : l.length = q) (hq : q ≤ 1000000000000) (hsn : l2 = l ++ [x])
    (hC : Cel wr bo 25 #[v0, v1, v2, .slice A7 q c7]) (hC1 : Cel wr w.heap.size 25 cs1) (hC2 : Cel wr (w.heap.size + 1) 25 cs2) (hww : w.heap.size + 2 ≤ wc.heap.size) (hbo : w.heap.size + 2 ≤ bo)
    (hN : NamG wr (w.heap.size + 2) wc.heap.size bo vN n) (hbw : bo < wc.heap.size) :
    ∃ v' w4, (Builtin.append_ #[23, 23] 23 #[.slice A7 q c7, .slice (some ⟨w2.heap.size, 0, none⟩) 1 1]).run Tryz.prog (w2.alloc (.cells #[.int .u8 x.kind, .string x.text, vn, vl] 25)) = .ok v' w4 ∧
      ∃ A6 n6 c6, v' = .slice A6 n6 c6 ∧ bo < w2.heap.size ∧ w2.cell? ⟨bo, 3, none⟩ = some (.slice A7 q c7) ∧ w4.cell? ⟨bo, 3, none⟩ = some (.slice A7 q c7) ∧ w4.frozen? ⟨bo, 3, none⟩ = false ∧
        (RowO (w4.setCell ⟨bo, 3, none⟩ v') wc.heap.size 9 25 v' l2 ∧ Cel (w4.setCell ⟨bo, 3, none⟩ v') bo 25 #[v0, v1, v2, v'] ∧ Cel (w4.setCell ⟨bo, 3, none⟩ v') w.heap.size 25 cs1 ∧ Cel (w4.setCell ⟨bo, 3, none⟩ v') (w.heap.size + 1) 25 cs2 ∧
          NamG (w4.setCell ⟨bo, 3, none⟩ v') (w.heap.size + 2) wc.heap.size bo vN n ∧ Below w.heap.size w (w4.setCell ⟨bo, 3, none⟩ v') ∧ wc.heap.size ≤ (w4.setCell ⟨bo, 3, none⟩ v').heap.size) := by
  have hB12 : Below wr.heap.size wr w2 := (bel_drewN (Below.refl _ _) 1).trans hB2
  have hs12 := hB12.size
  obtain ⟨v', w4, hrun, hrow2, hgr, hvB⟩ := append_row 23 Tryz.underlying23 hrow (W1 := wr.drew) (Nat.le_refl _) hB12 hs12 hsw hO (by omega)
  rw [← hsn] at hrow2
  have hg4 : Below wc.heap.size wr w4 := ((hB12.mono hsw).alloc (by omega) _).trans (Below.grown (Below.refl _ _) hgr (by simp; omega) hvB)
  have hs4 := hg4.size
  obtain ⟨_, _, A6, c6, _, hv6, _⟩ := id hrow2.kids
  have hD := hC.below hg4 hbw
  have hfr : ∀ d, d ≠ bo → (w4.setCell ⟨bo, 3, none⟩ v').heap[d]? = w4.heap[d]? := fun d hd => Below.heap_setCell _ _ _ _ hd
  have hset : (w4.setCell ⟨bo, 3, none⟩ v').heap.size = w4.heap.size := by simp [World.setCell]
  refine ⟨v', w4, hrun, A6, _, c6, hv6, by omega, (hC.below hB12 (by omega)).cell 3, hD.cell 3, hD.froz 3, ?_, hD.set 3 v', (hfr _ (by omega)).trans (hC1.below hg4 (by omega)), (hfr _ (by omega)).trans (hC2.below hg4 (by omega)), ?_, ?_, by omega⟩
  · obtain ⟨ws, h1, h2, h3, h4⟩ := hrow2
    have hne : ∀ g, v'.ownBlock = some g → bo ≠ g := fun g hg => by have := (h2.lt g hg).1; omega
    refine ⟨ws, h1, h2.kept (row := some bo) (grown_set0 bo 3 v' w4) (by rcases hv : v'.ownBlock with _ | g; exact Or.inl rfl; exact Or.inr (fun e => by injection e with e; exact hne g hv e.symm)), fun i y u hy hu => ?_, h4⟩
    obtain ⟨q1, q2, q3, q4, q5⟩ := h3 i y u hy hu
    exact ⟨q1, q2, by omega, q4, OwnJ.keep y q5 (fun b h5 _ => hfr b (by omega)) (Nat.le_refl _) (Nat.le_refl _)⟩
  · exact hN.keep (fun b h1 h2 h3 => (hfr b h3).trans (hg4.block b h2))
  · exact (hB.trans (hg4.mono (by omega))).setCell (by show w.heap.size ≤ bo; omega) _
theorem bcell {W w1 : World} (hb : Below W.heap.size W w1) : (∀ b o, b < W.heap.size → w1.cell? ⟨b, o, none⟩ = W.cell? ⟨b, o, none⟩) ∧ (∀ b o, b < W.heap.size → w1.frozen? ⟨b, o, none⟩ = W.frozen? ⟨b, o, none⟩) :=
  ⟨fun b o h => hb.cell (p := ⟨b, o, none⟩) h, fun b o h => hb.frozen (p := ⟨b, o, none⟩) h⟩
theorem bel_drew {B : Nat} {a w : World} (h : Below B a w) : Below B a w.drew := ⟨h.os, h.tape, h.output, h.size, h.block⟩
theorem given_fin {W w' W2 : World} {B bo gn : Nat} {vN : Value} {n : List ByteArray} (hN : NamO w' 9 W.heap.size w'.heap.size gn vN n) (hgn : W.heap.size ≤ gn) (h2 : B ≤ W.heap.size) (hs : w'.heap.size ≤ W2.heap.size) (hblk : ∀ b, W.heap.size ≤ b → b < w'.heap.size → W2.heap[b]? = w'.heap[b]?) (hbo : bo < W.heap.size ∨ w'.heap.size ≤ bo)
    (hbB : 0 < B ∧ B ≤ bo ∧ W.heap.size ≤ w'.heap.size) : NamG W2 B W2.heap.size bo vN n := by
  obtain ⟨A, c, rfl, q⟩ := hN
  by_cases hp : 0 < n.length
  · obtain ⟨e, q1, q2, cs, q3, q4⟩ := q hp
    exact ⟨gn, by omega, by omega, A, c, rfl, fun _ => ⟨e, by omega, by omega, cs, (hblk gn q1 q2).trans q3, q4⟩⟩
  · exact ⟨B - 1, by omega, by omega, A, c, rfl, fun h => absurd h hp⟩
end Go.Proofs.YtamcbgkppgdniaaGreatDoor
