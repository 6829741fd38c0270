/-
  The walk of rostrumlaw05.given: a value as it is handed in, in new memory.
-/
import Derived.Test.YtblohaljnleeiaaGreatDoorJsG
import Derived.Deep.RegionLaw
import Derived.Deep.RegionHeld3
namespace Go.Proofs.YtblohaljnleeiaaGreatDoor
open Go.RowKit

theorem infoS : (Tryz.prog.info? 9).map (fun i => (i.zero, i.size, i.bytes)) = some (some (.string ByteArray.empty), 1, 16) := by kernel_rfl
def NamesPost (n : List ByteArray) (W : World) (v' : Value) (W' : World) : Prop := (∃ gn, W.heap.size ≤ gn ∧ NamO W' 9 W.heap.size W'.heap.size gn v' n) ∧ Below W.heap.size W W'
set_option maxRecDepth 100000 in
theorem append_names {W : World} {X : Nat → Prop} {v : Value} {n : List ByteArray} (hv : StrL W X v n) (hn : n.length ≤ 1000000000000) (g0 : Nat) :
    ∃ v' W', (Builtin.append_ #[22, 22] 22 #[.slice (some ⟨g0, 0, none⟩) 0 0, v]).run Tryz.prog W = .ok v' W' ∧ NamesPost n W v' W' := by
  obtain ⟨i0, hi0, hz0, hz1, hz2⟩ := info_parts infoS
  obtain ⟨A, c, rfl, h1⟩ := hv
  by_cases h0 : n.length = 0
  · have e1 : n = [] := List.eq_nil_of_length_eq_zero h0
    subst e1
    refine ⟨.slice (some ⟨g0, 0, none⟩) 0 0, W, ?_, ⟨W.heap.size, Nat.le_refl _, _, 0, rfl, fun h => by simp at h⟩, Below.refl _ _⟩
    rcases A with _ | cd
    · simp [Builtin.append_, run_underlying Tryz.underlying22, sizeOf, typeInfo, hi0, hz1, Builtin.lenOf, Builtin.firstCells, storeCells]
    · have hld : (loadCells cd 0).run Tryz.prog W = .ok #[] W := by
        have := run_loadCells_list (P := Tryz.prog) W cd [] (fun j v hj => by simp at hj)
        simpa using this
      simp [Builtin.append_, run_underlying Tryz.underlying22, sizeOf, typeInfo, hi0, hz1, Builtin.lenOf, Builtin.firstCells, hld, storeCells]
  · obtain ⟨g, o, rfl, _, _, q1⟩ := h1 (by omega)
    obtain ⟨v', w', hrun, hown, hg⟩ := run_append_arg_grows (P := Tryz.prog) W 22 22 9 i0 (.string ByteArray.empty) 1 16 Tryz.underlying22 hi0 hz0 hz1 hz2 rfl (by decide) ⟨g0, 0, none⟩ 0 0 [] (by simp) (fun j u hu => by simp at hu) ⟨g, o, none⟩ n.length c (n.map Value.string) (by simp) (fun j u hu => by
      rw [List.getElem?_map] at hu
      rcases hj : n[j]? with _ | y
      · rw [hj] at hu; cases hu
      · rw [hj] at hu
        injection hu with hu
        subst hu
        have := q1 j y hj
        have hadd : (⟨g, o, none⟩ : Addr).add j = ⟨g, o + j, none⟩ := by unfold Addr.add; split <;> simp_all
        rw [hadd]; exact this) (by omega) (by unfold maxLen; omega) (by omega)
    rw [List.nil_append, Nat.zero_add] at hown
    obtain ⟨gn, hgn, hN⟩ := own_nam hown
    exact ⟨v', w', hrun, ⟨gn, hgn, hN⟩, ⟨hg.os, hg.tape, hg.output, hg.size, fun k hk => hg.block k hk (by simp)⟩⟩

theorem jl_step_run {P : Program} {ops : Array Oper} {o : Oper} {a : Act} {w : World} {K : Act → World → Prop} {Q : Exit → Act → World → Prop} {E : Prop}
    (hg : o.guard = none) (s x : Operand) (t1 t2 : TypeId) (hop : o.op = Op.call { callee := Callee.builtin Builtin.append, args := #[s, x], argTypes := #[t1, t2] })
    (vs vx v : Value) (w' : World) (hs : a.eval s = vs) (hx : a.eval x = vx) (hrun : (Builtin.append_ #[t1, t2] o.type #[vs, vx]).run P w = .ok v w') (hK : K (a.put o.dst v) w') :
    if Region.wanted o (yielded ops a.tmps) = true then Oper.wp P o a w K Q else E := by
  have hw : Region.wanted o (yielded ops a.tmps) = true := by simp [Region.wanted, hg]
  rw [if_pos hw]
  unfold Oper.wp
  simp [execOp, hop, resolve, invoke, builtin, hs, hx, hrun, Result.andThen]
  exact hK
/-- append([]string{}, names...) as one step of a region that draws, whatever the world. -/
theorem step_names {ops : Array Oper} {o : Oper} {a : Act} {w : World} {K : Act → World → Prop} {Q : Exit → Act → World → Prop} {E : Prop} {X : Nat → Prop} {v : Value} {n : List ByteArray}
    (hg : o.guard = none) (s x : Operand) (hop : o.op = Op.call { callee := Callee.builtin Builtin.append, args := #[s, x], argTypes := #[22, 22] }) (hty : o.type = 22)
    (g0 : Nat) (hs : a.eval s = .slice (some ⟨g0, 0, none⟩) 0 0) (hx : a.eval x = v) (hv : StrL w X v n) (hn : n.length ≤ 1000000000000) (hK : ∀ v' w', NamesPost n w v' w' → K (a.put o.dst v') w') :
    if Region.wanted o (yielded ops a.tmps) = true then Oper.wp Tryz.prog o a w K Q else E := by
  obtain ⟨v', w', hrun, hp⟩ := append_names hv hn g0
  exact jl_step_run hg s x _ _ hop _ _ v' w' hs hx (by rw [hty]; exact hrun) (hK v' w' hp)

theorem grown_set0 (b i : Nat) (x : Value) (w : World) : w.grownBy (w.setCell ⟨b, i, none⟩ x) (some b) :=
  ⟨rfl, rfl, rfl, by simp [World.setCell], fun k _ hne => Below.heap_setCell _ _ _ _ (fun e => hne (by rw [e]))⟩
/-- Names in a block of the call's own, other than bo. -/
def NamG (w : World) (lo hi bo : Nat) (v : Value) (n : List ByteArray) : Prop := ∃ gn, gn < hi ∧ gn ≠ bo ∧ NamO w 9 lo hi gn v n
theorem NamG.len {w : World} {lo hi bo : Nat} {v : Value} {n : List ByteArray} (h : NamG w lo hi bo v n) : ∃ A c, v = .slice A n.length c := by
  obtain ⟨_, _, _, A, c, rfl, _⟩ := h
  exact ⟨A, c, rfl⟩
theorem NamG.keep {w w' : World} {lo hi bo : Nat} {v : Value} {n : List ByteArray} (h : NamG w lo hi bo v n) (hk : ∀ b, lo ≤ b → b < hi → b ≠ bo → w'.heap[b]? = w.heap[b]?) : NamG w' lo hi bo v n := by
  obtain ⟨gn, h1, h2, A, c, rfl, q⟩ := h
  refine ⟨gn, h1, h2, A, c, rfl, fun hp => ?_⟩
  obtain ⟨e, q1, q2, cs, q3, q4⟩ := q hp
  exact ⟨e, q1, q2, cs, (hk gn q1 q2 h2).trans q3, q4⟩
theorem KidO.name {gl gn gn' lo hi : Nat} {cs : Array Value} {l : List (Jsn × (Nat → Nat → Value → Value → Prop))} {ws : List OE} (h : KidO gl gn lo hi cs l ws) (hg : gn' < lo) : KidO gl gn' lo hi cs l ws :=
  ⟨h.1, fun i x u hx hu => by obtain ⟨q1, q2, q3, q4, q5, q6, q7⟩ := h.2.1 i x u hx hu; exact ⟨q1, q2, q3, q4, q5, by omega, q7⟩, h.2.2⟩
/-- A value of the call's own, out of its row and names that lie ahead of it. -/
theorem mk_own2 {wr : World} {lo lo' B gn : Nat} {tS tJ : TypeId} {v vn : Value} {k : Int} {s : ByteArray} {ns : List ByteArray} {l : List Jsn} (hk0 : 0 ≤ k) (hk1 : k ≤ 255) (h : RowO wr B tS tJ v l) (hlo : lo' ≤ lo ∧ lo' ≤ B) (hg : gn < B) (hBs : B ≤ wr.heap.size)
    (hn : NamO wr tS lo B gn vn ns) : OwnJ wr tS tJ ⟨k, s, ns, l⟩ lo' wr.heap.size vn v := by
  obtain ⟨gl, cs, A, c, ws, hv, h1, h2⟩ := h.kids
  rw [OwnJ_eq]
  refine ⟨hk0, hk1, gn, gl, cs, A, c, ws, hn.keep (fun _ _ _ => rfl) hlo.1 hBs, hv, fun hp => ?_, ((h2 _ (Nat.le_refl _)).name hg).imp hlo.2 (Nat.le_refl _) rfl fun i x x' hx hx' => ?_⟩
  · obtain ⟨q1, q2, q3, q4⟩ := h1 hp
    exact ⟨q1, by omega, q3, by omega, q4⟩
  · rw [hx] at hx'
    injection hx' with e
    subst e
    exact ⟨rfl, fun _ _ _ _ _ _ h => h⟩
/-- What a round of given leaves. -/
theorem given_round {w wr wc w2 : World} {bo q c7 : Nat} {A7 : Option Addr} {n : List ByteArray} {l l2 : List Jsn} {x : Jsn} {vn vl v0 v1 v2 vN : Value} {cs1 cs2 : Array Value} (hrow : RowO wr wc.heap.size 9 25 (.slice A7 q c7) l) (hB : Below w.heap.size w wr) (hB2 : Below wr.drew.heap.size wr.drew w2) (hsw : wc.heap.size ≤ wr.heap.size)
    (hO : OwnJ w2 9 25 x wr.drew.heap.size w2.heap.size vn vl) (hql : l.length = q) (hq : q ≤ 1000000000000) (hsn : l2 = l ++ [x])
    (hC : Cel wr bo 25 #[v0, v1, v2, .slice A7 q c7]) (hC1 : Cel wr w.heap.size 25 cs1) (hC2 : Cel wr (w.heap.size + 1) 25 cs2) (hww : w.heap.size + 2 ≤ wc.heap.size) (hbo : w.heap.size + 2 ≤ bo)
    (hN : NamG wr (w.heap.size + 2) wc.heap.size bo vN n) (hbw : bo < wc.heap.size) :
    ∃ v' w4, (Builtin.append_ #[23, 23] 23 #[.slice A7 q c7, .slice (some ⟨w2.heap.size, 0, none⟩) 1 1]).run Tryz.prog (w2.alloc (.cells #[.int .u8 x.kind, .string x.text, vn, vl] 25)) = .ok v' w4 ∧
      ∃ A6 n6 c6, v' = .slice A6 n6 c6 ∧ bo < w2.heap.size ∧ w2.cell? ⟨bo, 3, none⟩ = some (.slice A7 q c7) ∧ w4.cell? ⟨bo, 3, none⟩ = some (.slice A7 q c7) ∧ w4.frozen? ⟨bo, 3, none⟩ = false ∧
        (RowO (w4.setCell ⟨bo, 3, none⟩ v') wc.heap.size 9 25 v' l2 ∧ Cel (w4.setCell ⟨bo, 3, none⟩ v') bo 25 #[v0, v1, v2, v'] ∧ Cel (w4.setCell ⟨bo, 3, none⟩ v') w.heap.size 25 cs1 ∧ Cel (w4.setCell ⟨bo, 3, none⟩ v') (w.heap.size + 1) 25 cs2 ∧
          NamG (w4.setCell ⟨bo, 3, none⟩ v') (w.heap.size + 2) wc.heap.size bo vN n ∧ Below w.heap.size w (w4.setCell ⟨bo, 3, none⟩ v') ∧ wc.heap.size ≤ (w4.setCell ⟨bo, 3, none⟩ v').heap.size) := by
  have hB12 : Below wr.heap.size wr w2 := (bel_drewN (Below.refl _ _) 1).trans hB2
  have hs12 := hB12.size
  obtain ⟨v', w4, hrun, hrow2, hgr, hvB⟩ := append_row 23 Tryz.underlying23 hrow (W1 := wr.drew) (Nat.le_refl _) hB12 hs12 hsw hO (by omega)
  rw [← hsn] at hrow2
  have hg4 : Below wc.heap.size wr w4 := ((hB12.mono hsw).alloc (by omega) _).trans (Below.grown (Below.refl _ _) hgr (by simp; omega) hvB)
  have hs4 := hg4.size
  obtain ⟨_, _, A6, c6, _, hv6, _⟩ := id hrow2.kids
  have hD := hC.below hg4 hbw
  have hfr : ∀ d, d ≠ bo → (w4.setCell ⟨bo, 3, none⟩ v').heap[d]? = w4.heap[d]? := fun d hd => Below.heap_setCell _ _ _ _ hd
  have hset : (w4.setCell ⟨bo, 3, none⟩ v').heap.size = w4.heap.size := by simp [World.setCell]
  refine ⟨v', w4, hrun, A6, _, c6, hv6, by omega, (hC.below hB12 (by omega)).cell 3, hD.cell 3, hD.froz 3, ?_, hD.set 3 v', (hfr _ (by omega)).trans (hC1.below hg4 (by omega)), (hfr _ (by omega)).trans (hC2.below hg4 (by omega)), ?_, ?_, by omega⟩
  · obtain ⟨ws, h1, h2, h3, h4⟩ := hrow2
    have hne : ∀ g, v'.ownBlock = some g → bo ≠ g := fun g hg => by have := (h2.lt g hg).1; omega
    refine ⟨ws, h1, h2.kept (row := some bo) (grown_set0 bo 3 v' w4) (by rcases hv : v'.ownBlock with _ | g; exact Or.inl rfl; exact Or.inr (fun e => by injection e with e; exact hne g hv e.symm)), fun i y u hy hu => ?_, h4⟩
    obtain ⟨q1, q2, q3, q4, q5⟩ := h3 i y u hy hu
    exact ⟨q1, q2, by omega, q4, OwnJ.keep y q5 (fun b h5 _ => hfr b (by omega)) (Nat.le_refl _) (Nat.le_refl _)⟩
  · exact hN.keep (fun b h1 h2 h3 => (hfr b h3).trans (hg4.block b h2))
  · exact (hB.trans (hg4.mono (by omega))).setCell (by show w.heap.size ≤ bo; omega) _
theorem bcell {W w1 : World} (hb : Below W.heap.size W w1) : (∀ b o, b < W.heap.size → w1.cell? ⟨b, o, none⟩ = W.cell? ⟨b, o, none⟩) ∧ (∀ b o, b < W.heap.size → w1.frozen? ⟨b, o, none⟩ = W.frozen? ⟨b, o, none⟩) :=
  ⟨fun b o h => hb.cell (p := ⟨b, o, none⟩) h, fun b o h => hb.frozen (p := ⟨b, o, none⟩) h⟩
theorem bel_drew {B : Nat} {a w : World} (h : Below B a w) : Below B a w.drew := ⟨h.os, h.tape, h.output, h.size, h.block⟩
theorem given_fin {W w' W2 : World} {B bo gn : Nat} {vN : Value} {n : List ByteArray} (hN : NamO w' 9 W.heap.size w'.heap.size gn vN n) (hgn : W.heap.size ≤ gn) (h2 : B ≤ W.heap.size) (hs : w'.heap.size ≤ W2.heap.size) (hblk : ∀ b, W.heap.size ≤ b → b < w'.heap.size → W2.heap[b]? = w'.heap[b]?) (hbo : bo < W.heap.size ∨ w'.heap.size ≤ bo)
    (hbB : 0 < B ∧ B ≤ bo ∧ W.heap.size ≤ w'.heap.size) : NamG W2 B W2.heap.size bo vN n := by
  obtain ⟨A, c, rfl, q⟩ := hN
  by_cases hp : 0 < n.length
  · obtain ⟨e, q1, q2, cs, q3, q4⟩ := q hp
    exact ⟨gn, by omega, by omega, A, c, rfl, fun _ => ⟨e, by omega, by omega, cs, (hblk gn q1 q2).trans q3, q4⟩⟩
  · exact ⟨B - 1, by omega, by omega, A, c, rfl, fun h => absurd h hp⟩
set_option maxRecDepth 100000 in
set_option maxHeartbeats 2000000 in
theorem given_any : ∀ (j : Jsn) (X : Nat → Prop) (w : World) (vn vl : Value), JV w X j vn vl → jbulk j ≤ 1000000000000 →
    Calls Tryz.prog 48 #[.agg #[.int .u8 j.kind, .string j.text, vn, vl]] w (OwnJEnd j w) := by
  refine Jsn.ind fun k s n l ih X w vn vl hV hbk => ?_
  obtain ⟨_, hn, hl, _, hkids⟩ := bulk_parts hbk
  dsimp only at hl hkids hn
  have hnam := hV.names
  have hkd := hV.kind
  obtain ⟨An, cn, rfl⟩ := hnam.len
  obtain ⟨A, c, zs, rfl, hz, h2, h3⟩ := hV.elems
  dsimp only at hnam hkd ⊢
  have hlen : zs.length = l.length := by rw [← hz, List.length_map]
  rw [← hlen] at hl
  have hw := Lib.hid (fun (wr : World) (i : Nat) (hB : Below w.heap.size w wr) (hi : i < zs.length) => JV.at h2 h3 hB hi)
  have hb1 : ∀ x ∈ l, jbulk x ≤ 1000000000000 := fun x hx => by have := hkids x hx; omega
  have hnl := Lib.hid (fun (wr : World) (hB : Below w.heap.size w wr) => hnam.later hB)
  obtain ⟨w0, hw0⟩ : ∃ w0, (w.alloc (.cells #[.int .u8 k, .string s, .slice An n.length cn, .slice A zs.length c] 25)).alloc (.cells #[.int .u8 0, .string ⟨#[]⟩, .slice none 0 0, .slice none 0 0] 25) = w0 := ⟨_, rfl⟩
  have hB0 : Below w.heap.size w w0 := by rw [← hw0]; exact ((Below.refl _ _).alloc (Nat.le_refl _) _).alloc (by simp) _
  have hC1 : Cel w0 w.heap.size 25 #[.int .u8 k, .string s, .slice An n.length cn, .slice A zs.length c] := by rw [← hw0]; exact (Cel.fresh _ _ _).alloc _
  have hC2 : Cel w0 (w.heap.size + 1) 25 #[.int .u8 0, .string ⟨#[]⟩, .slice none 0 0, .slice none 0 0] := by
    rw [← hw0]
    have := Cel.fresh (w.alloc (.cells #[.int .u8 k, .string s, .slice An n.length cn, .slice A zs.length c] 25)) 25 #[.int .u8 0, .string ⟨#[]⟩, .slice none 0 0, .slice none 0 0]
    simpa using this
  have hs0 : w0.heap.size = w.heap.size + 2 := by rw [← hw0]; simp
  clear hV h2 h3 hnam hkids hbk hlen
  replace ih := Lib.hid ih
  replace hb1 := Lib.hid hb1
  replace hz := Lib.hid hz
  replace hw0 := Lib.hid hw0
  replace hs0 := Lib.hid hs0
  have x0 := hC1.cell 0
  have x1 := hC1.cell 1
  have x2 := hC1.cell 2
  simp only [List.getElem?_toArray, List.getElem?_cons_zero, List.getElem?_cons_succ] at x0 x1 x2
  go_enter Tryz.func48, Tryz.ntmps48
  go_upto_region 1 with (fail)
  refine wp_cut (fun a' wc => ∃ (bo : Nat) (vN : Value) (u : Nat → Value), a' = ⟨#[.agg #[.int .u8 k, .string s, .slice An n.length cn, .slice A zs.length c], .pointer (some ⟨w.heap.size, 0, none⟩), .pointer (some ⟨w.heap.size + 1, 0, none⟩), .pointer (some ⟨bo, 0, none⟩), u 4, u 5, u 6, u 7, u 8, u 9, u 10, u 11, u 12, u 13, u 14, u 15, u 16, u 17, u 18, u 19, u 20, u 21, u 22, u 23, u 24, u 25, u 26, u 27, u 28, u 29, u 30, u 31, u 32], []⟩ ∧ (Cel wc bo 25 #[.int .u8 k, .string s, vN, .slice none 0 0] ∧ w.heap.size + 2 ≤ bo ∧ NamG wc (w.heap.size + 2) wc.heap.size bo vN n ∧ Below (w.heap.size + 2) w0 wc)) ?rest ?first
  case first =>
    intro J K' hJ hK'
    rw [hw0.out]
    clear hw ih hb1 hz hC2
    have hsz0 : w.heap.size + 2 ≤ w0.heap.size := by rw [hs0.out]; omega
    have hS : ∀ W, Below (w.heap.size + 2) w0 W → (W.cell? ⟨w.heap.size, 0, none⟩ = some (.int .u8 k) ∧ W.cell? ⟨w.heap.size, 1, none⟩ = some (.string s) ∧ W.cell? ⟨w.heap.size, 2, none⟩ = some (.slice An n.length cn)) ∧ Below (w.heap.size + 2) w0 W := fun W h =>
      ⟨⟨(h.cell (p := ⟨w.heap.size, 0, none⟩) (by show w.heap.size < _; omega)).trans x0, (h.cell (p := ⟨w.heap.size, 1, none⟩) (by show w.heap.size < _; omega)).trans x1, (h.cell (p := ⟨w.heap.size, 2, none⟩) (by show w.heap.size < _; omega)).trans x2⟩, h⟩
    have hnW : ∀ W, Below (w.heap.size + 2) w0 W → StrL W X (.slice An n.length cn) n := fun W h => hnl.out W (hB0.trans (h.mono (by omega)))
    clear x0 x1 x2 hC1 hB0 hnl
    replace hS := Lib.hid hS
    replace hnW := Lib.hid hnW
    go_region_held3 (fun W => (W.cell? ⟨w.heap.size, 0, none⟩ = some (.int .u8 k) ∧ W.cell? ⟨w.heap.size, 1, none⟩ = some (.string s) ∧ W.cell? ⟨w.heap.size, 2, none⟩ = some (.slice An n.length cn)) ∧ Below (w.heap.size + 2) w0 W)
      ((refine hS.out _ ?_; (repeat (first | exact Below.refl _ _ | assumption | refine bel_drew ?_ | (refine Below.alloc ?_ (by first | omega | (simp; omega)) _) | (refine Below.setCell ?_ (by first | omega | (simp; omega)) _)))))
      (first
        | (refine step_names (n := n) (X := X) (by rfl) (.tmp 9) (.tmp 11) (by rfl) (by rfl) _ (by rfl) (by rfl) (hnW.out _ ?_) hn ?_; (repeat (first | exact Below.refl _ _ | assumption | refine bel_drew ?_ | (refine Below.alloc ?_ (by first | omega | (simp; omega)) _) | (refine Below.setCell ?_ (by first | omega | (simp; omega)) _))); intro v' w' hp; have hZ : Below (w.heap.size + 2) w0 w' := (by (refine Below.trans ?_ (hp.2.mono ?_)); (repeat (first | exact Below.refl _ _ | assumption | refine bel_drew ?_ | (refine Below.alloc ?_ (by first | omega | (simp; omega)) _) | (refine Below.setCell ?_ (by first | omega | (simp; omega)) _))); (first | omega | (simp; omega))); have hZs := hZ.size; obtain ⟨hc9, hf9⟩ := bcell hp.2; have hz9 := hp.2.size; simp at hz9; obtain ⟨gn, hgn, hN⟩ := hp.1; obtain ⟨An', cn', rfl, hN2⟩ := id hN; clear hN2; replace hN := Lib.hid hN; replace hp := Lib.hid hp))
    · have hp2 := hp.out.2
      go_wp2
      refine Met.intro (hJ _ _ ?_)
      refine ⟨w'.heap.size, .slice An' n.length cn', meetF (by kernel_rfl) ⟨Cel.fresh _ _ _, by omega, given_fin hN.out hgn (by simp; omega) (by simp) (fun b _ h => Below.heap_alloc w' _ b h) (Or.inr (Nat.le_refl _)) ⟨by omega, by first | omega | (simp; omega), hp2.size⟩, hZ.alloc (by omega) _⟩⟩
    · have hp2 := hp.out.2
      have hq := Cel.fresh (w0.alloc (.cells #[] 9)) 25 #[.int .u8 0, .string ⟨#[]⟩, .slice none 0 0, .slice none 0 0]
      have he : (w0.alloc (.cells #[] 9)).heap.size = w0.heap.size + 1 := by simp
      rw [he] at hq
      have hCo := hq.drew
      have hCo2 := (((hCo.below hp2 hCo.lt).set 0 (.int .u8 k)).set 1 (.string s)).set 2 (.slice An' n.length cn') |>.set 3 (.slice none 0 0)
      go_wp2
      refine Met.intro (hJ _ _ ?_)
      refine ⟨w0.heap.size + 1, .slice An' n.length cn', meetF (by kernel_rfl) ⟨hCo2, by omega, given_fin hN.out hgn (by simp; omega) (by simp [World.setCell]) (fun b h1 _ => ?_) (Or.inl (by first | (simp; done) | (simp; omega))) ⟨by omega, by first | omega | (simp; omega), hp2.size⟩, (((hZ.setCell (by simp; omega) _).setCell (by simp; omega) _).setCell (by simp; omega) _).setCell (by simp; omega) _⟩⟩
      simp at h1
      rw [Below.heap_setCell _ _ _ _ (by simp; omega), Below.heap_setCell _ _ _ _ (by simp; omega), Below.heap_setCell _ _ _ _ (by simp; omega), Below.heap_setCell _ _ _ _ (by simp; omega)]
    · have hp2 := hp.out.2
      have hCo := (show Cel ((w0.alloc (.cells #[.int .u8 0, .string ⟨#[]⟩, .slice none 0 0, .slice none 0 0] 25)).alloc (.cells #[] 9)).drew w0.heap.size 25 #[.int .u8 0, .string ⟨#[]⟩, .slice none 0 0, .slice none 0 0] from ((Cel.fresh w0 25 #[.int .u8 0, .string ⟨#[]⟩, .slice none 0 0, .slice none 0 0]).alloc _).drew)
      have hCo2 := (((hCo.below hp2 hCo.lt).set 0 (.int .u8 k)).set 1 (.string s)).set 2 (.slice An' n.length cn') |>.set 3 (.slice none 0 0)
      go_wp2
      refine Met.intro (hJ _ _ ?_)
      refine ⟨w0.heap.size, .slice An' n.length cn', meetF (by kernel_rfl) ⟨hCo2, by omega, given_fin hN.out hgn (by simp; omega) (by simp [World.setCell]) (fun b h1 _ => ?_) (Or.inl (by first | (simp; done) | (simp; omega))) ⟨by omega, by first | omega | (simp; omega), hp2.size⟩, (((hZ.setCell (by simp; omega) _).setCell (by simp; omega) _).setCell (by simp; omega) _).setCell (by simp; omega) _⟩⟩
      simp at h1
      rw [Below.heap_setCell _ _ _ _ (by simp; omega), Below.heap_setCell _ _ _ _ (by simp; omega), Below.heap_setCell _ _ _ _ (by simp; omega), Below.heap_setCell _ _ _ _ (by simp; omega)]
  case rest =>
    rintro a' wc ⟨bo, vN, u', rfl, hCo, hbo, hNam, hBc⟩
    obtain ⟨A5, c5, rfl⟩ := hNam.len
    have hD1 := hC1.below hBc (by omega)
    have hD2 := hC2.below hBc (by omega)
    have hs0' := hs0.out
    have hcs := hBc.size
    have hBw := hB0.trans (hBc.mono (by omega))
    clear hnl hw0 x0 x1 x2 hC1 hC2 hB0 hBc
    replace hCo := Lib.hid hCo
    replace hNam := Lib.hid hNam
    replace hD1 := Lib.hid hD1
    replace hD2 := Lib.hid hD2
    replace hBw := Lib.hid hBw
    have hbw : bo < wc.heap.size := hCo.out.lt
    clear hs0'
    go_wp2_with fail
    go_loopw [4] (fun i wr => ∃ (q : Nat) (v : Value), q ≤ zs.length ∧ i = .int .i64 q ∧ RowO wr wc.heap.size 9 25 v ((zs.take q).map (·.1)) ∧ Cel wr bo 25 #[.int .u8 k, .string s, .slice A5 n.length c5, v] ∧ Cel wr w.heap.size 25 #[.int .u8 k, .string s, .slice An n.length cn, .slice A zs.length c] ∧ Cel wr (w.heap.size + 1) 25 #[.int .u8 0, .string ⟨#[]⟩, .slice none 0 0, .slice none 0 0] ∧ NamG wr (w.heap.size + 2) wc.heap.size bo (.slice A5 n.length c5) n ∧ Below w.heap.size w wr ∧ wc.heap.size ≤ wr.heap.size) (fun i _ => zs.length - (intOf i).toNat)
    case atStart => exact ⟨0, .slice none 0 0, Nat.zero_le _, rfl, RowO.nil _ _ _ _, hCo.out, hD1.out, hD2.out, hNam.out, hBw.out, Nat.le_refl _⟩
    case round =>
      obtain ⟨q, v, hq, rfl, hrow, hC, hC1, hC2, hN, hB, hsw⟩ := hrel
      have hsz := hC1.lt
      have x13 : wr.cell? ⟨w.heap.size, 3, none⟩ = some (.slice A zs.length c) := hC1.cell 3
      by_cases hlt : q < zs.length
      · obtain ⟨g, o, ⟨x, vx, vy⟩, hzq, hzm, rfl, hVz, a0, a1, a2, a3⟩ := hw.out wr q hB hlt
        dsimp only at hVz a0 a1 a2 a3
        have hxm : x ∈ l := by rw [← hz.out]; exact List.mem_map_of_mem (f := (·.1)) hzm
        obtain ⟨Ax, nx, cx, Ay, ny, cy, rfl, rfl⟩ := hVz.forms
        have hcall : ∀ W, Below wr.heap.size wr W → Calls Tryz.prog 48 #[.agg #[.int .u8 x.kind, .string x.text, .slice Ax nx cx, .slice Ay ny cy]] W (OwnJEnd x W) := fun W h => ih.out x hxm X W _ _ (hVz.later h) (hb1.out x hxm)
        have hsnoc : (zs.take (q + 1)).map (·.1) = (zs.take q).map (·.1) ++ [x] := by rw [List.take_add_one, hzq]; simp
        have hql : ((zs.take q).map (·.1)).length = q := by rw [List.length_map, List.length_take]; omega
        obtain ⟨_, _, A7, c7, _, hv7, _, _⟩ := hrow.kids
        rw [hql] at hv7
        subst hv7
        have hou : wr.cell? ⟨bo, 3, none⟩ = some (.slice A7 q c7) := hC.cell 3
        have hbw2 := hC.lt
        have hq0 : (0 : Int) ≤ (q : Int) := by omega
        have hq1 : (q : Int) < (zs.length : Int) := by omega
        have hg1 : g < wr.heap.size := World.block_lt_of_cell? wr _ a0
        clear hVz hzq hzm
        replace hcall := Lib.hid hcall
        replace hsnoc := Lib.hid hsnoc
        replace hql := Lib.hid hql
        replace hrow := Lib.hid hrow
        replace hC := Lib.hid hC
        replace hC1 := Lib.hid hC1
        replace hC2 := Lib.hid hC2
        replace hN := Lib.hid hN
        replace hB := Lib.hid hB
        go_wp2_with fail
        clear hw ih
        go_region_law (first
          | (refine jl_step_run (by rfl) (.tmp 22) (.tmp 29) 23 23 (by rfl) (.slice A7 q c7) (.slice (some ⟨w2.heap.size, 0, none⟩) 1 1) _ w4 (by rfl) (by rfl) hrun.out ?_)
          | (go_simp; go_at_call 48; (with_reducible refine (hcall.out _ ?_).mono ?_); exact bel_drewN (Below.refl _ _) 1; rintro e w2 ⟨vn', vl', rfl, hO, hB2⟩; obtain ⟨Bx, mx, ex, By, my, ey, rfl, rfl⟩ := hO.forms; obtain ⟨v', w4, hrun, hfin⟩ := given_round hrow.out hB.out hB2 hsw hO hql.out (by omega) hsnoc.out hC.out hC1.out hC2.out (by omega) hbo hN.out hbw; obtain ⟨A6, n6, c6, hv6, hu2, hu3, hu4, hu5, hrest⟩ := hfin; subst hv6; replace hrun := Lib.hid hrun; replace hrest := Lib.hid hrest; clear hO hB2))
        all_goals
          have hn9 := hrest.out
          clear hrest hrun hcall hrow hC hC1 hC2 hN hB
          replace hn9 := Lib.hid hn9
          go_wp2_with fail
          go_roundw
          case rel => exact ⟨q + 1, _, by omega, by go_num, hn9.out.1, hn9.out.2.1, hn9.out.2.2.1, hn9.out.2.2.2.1, hn9.out.2.2.2.2.1, hn9.out.2.2.2.2.2.1, hn9.out.2.2.2.2.2.2⟩
          case measure => simp [intOf]; omega
      · have hfull : (zs.take q).map (·.1) = l := by rw [List.take_of_length_le (by omega), hz.out]
        rw [hfull] at hrow
        obtain ⟨_, _, A3, c3, _, hv3, _, _⟩ := hrow.kids
        subst hv3
        obtain ⟨gn, hgn1, hgn2, hNm⟩ := hN
        have hO := mk_own2 (k := k) (s := s) hkd.1 hkd.2 hrow (lo' := w.heap.size + 2) (by omega) hgn1 hsw hNm
        have p0 := hC.cell 0
        have p1 := hC.cell 1
        have p2 := hC.cell 2
        have p3 := hC.cell 3
        have r0 := hC2.cell 0
        have r1 := hC2.cell 1
        have r2 := hC2.cell 2
        have r3 := hC2.cell 3
        have s0 := hC2.froz 0
        have s1 := hC2.froz 1
        have s2 := hC2.froz 2
        have s3 := hC2.froz 3
        have hsz2 := hC2.lt
        simp only [List.getElem?_toArray, List.getElem?_cons_zero, List.getElem?_cons_succ] at p0 p1 p2 p3 r0 r1 r2 r3
        clear hw ih hfull hrow hNm hC hC1 hC2
        replace hO := Lib.hid hO
        replace hB := Lib.hid hB
        go_wp2_with fail
        refine bodyPost_ret (v := .agg #[.int .u8 k, .string s, .slice A5 n.length c5, .slice A3 l.length c3]) (by simp [results, Tryz.results48, go_sem, p0, p1, p2, p3, r0, r1, r2, r3]) rfl ⟨_, _, rfl, ?_, ?_⟩
        · refine OwnJ.keep _ hO.out (fun b h1 _ => ?_) (by omega) (by simp [World.setCell])
          rw [Below.heap_setCell _ _ _ _ (by simp; omega), Below.heap_setCell _ _ _ _ (by simp; omega), Below.heap_setCell _ _ _ _ (by simp; omega), Below.heap_setCell _ _ _ _ (by simp; omega)]
        · exact (((hB.out.setCell (by simp) _).setCell (by simp) _).setCell (by simp) _).setCell (by simp) _
end Go.Proofs.YtblohaljnleeiaaGreatDoor
