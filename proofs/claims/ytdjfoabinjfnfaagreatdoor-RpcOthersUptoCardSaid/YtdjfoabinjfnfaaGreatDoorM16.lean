/-
  Rows of names, values put together: what given rests on (law by law).
-/
import Derived.Test.YtdjfoabinjfnfaaGreatDoorM10
import Derived.Deep.RegionLaw
import Derived.Deep.RegionHeld3
import Derived.Test.YtdjfoabinjfnfaaGreatDoorM15
import Derived.OrdersHeld
import Derived.Deep.RegionHeld
namespace Go.Proofs.YtdjfoabinjfnfaaGreatDoor
open Go.RowKit
theorem infoS : (Tryz.prog.info? 9).map (fun i => (i.zero, i.size, i.bytes)) = some (some (.string ByteArray.empty), 1, 16) := by kernel_rfl
def NamesPost (n : List ByteArray) (W : World) (v' : Value) (W' : World) : Prop := (∃ gn, W.heap.size ≤ gn ∧ NamO W' 9 W.heap.size W'.heap.size gn v' n) ∧ Below W.heap.size W W'
set_option maxRecDepth 100000 in
theorem append_names {W : World} {X : Nat → Prop} {v : Value} {n : List ByteArray} (hv : StrL W X v n) (hn : n.length ≤ 1000000000000) (g0 : Nat) :
    ∃ v' W', (Builtin.append_ #[22, 22] 22 #[.slice (some ⟨g0, 0, none⟩) 0 0, v]).run Tryz.prog W = .ok v' W' ∧ NamesPost n W v' W' := by
  obtain ⟨i0, hi0, hz0, hz1, hz2⟩ := info_parts infoS
  obtain ⟨A, c, rfl, h1⟩ := hv
  by_cases h0 : n.length = 0
  · have e1 : n = [] := List.eq_nil_of_length_eq_zero h0
    subst e1
    refine ⟨.slice (some ⟨g0, 0, none⟩) 0 0, W, ?_, ⟨W.heap.size, Nat.le_refl _, _, 0, rfl, fun h => by simp at h⟩, Below.refl _ _⟩
    rcases A with _ | cd
    · simp [Builtin.append_, run_underlying Tryz.underlying22, sizeOf, typeInfo, hi0, Builtin.lenOf, Builtin.firstCells, storeCells]
    · have hld : (loadCells cd 0).run Tryz.prog W = .ok #[] W := by
        have := run_loadCells_list (P := Tryz.prog) W cd [] (fun j v hj => by simp at hj)
        simpa using this
      simp [Builtin.append_, run_underlying Tryz.underlying22, sizeOf, typeInfo, hi0, Builtin.lenOf, Builtin.firstCells, hld, storeCells]
  · obtain ⟨g, o, rfl, _, _, q1⟩ := h1 (by omega)
    obtain ⟨v', w', hrun, hown, hg⟩ := run_append_arg_grows (P := Tryz.prog) W 22 22 9 i0 (.string ByteArray.empty) 1 16 Tryz.underlying22 hi0 hz0 hz1 hz2 rfl (by decide) ⟨g0, 0, none⟩ 0 0 [] (by simp) (fun j u hu => by simp at hu) ⟨g, o, none⟩ n.length c (n.map Value.string) (by simp) (fun j u hu => by
      rw [List.getElem?_map] at hu
      rcases hj : n[j]? with _ | y
      · rw [hj] at hu; cases hu
      · rw [hj] at hu
        injection hu with hu
        subst hu
        have := q1 j y hj
        have hadd : (⟨g, o, none⟩ : Addr).add j = ⟨g, o + j, none⟩ := by unfold Addr.add; split <;> simp_all
        rw [hadd]; exact this) (by omega) (by unfold maxLen; omega) (by omega)
    rw [List.nil_append, Nat.zero_add] at hown
    obtain ⟨gn, hgn, hN⟩ := own_nam hown
    exact ⟨v', w', hrun, ⟨gn, hgn, hN⟩, ⟨hg.os, hg.tape, hg.output, hg.size, fun k hk => hg.block k hk (by simp)⟩⟩
theorem jl_step_run {P : Program} {ops : Array Oper} {o : Oper} {a : Act} {w : World} {K : Act → World → Prop} {Q : Exit → Act → World → Prop} {E : Prop}
    (hg : o.guard = none) (s x : Operand) (t1 t2 : TypeId) (hop : o.op = Op.call { callee := Callee.builtin Builtin.append, args := #[s, x], argTypes := #[t1, t2] })
    (vs vx v : Value) (w' : World) (hs : a.eval s = vs) (hx : a.eval x = vx) (hrun : (Builtin.append_ #[t1, t2] o.type #[vs, vx]).run P w = .ok v w') (hK : K (a.put o.dst v) w') :
    if Region.wanted o (yielded ops a.tmps) = true then Oper.wp P o a w K Q else E := by
  have hw : Region.wanted o (yielded ops a.tmps) = true := by simp [Region.wanted, hg]
  rw [if_pos hw]
  unfold Oper.wp
  simp [execOp, hop, resolve, invoke, builtin, hs, hx, hrun, Result.andThen]
  exact hK
theorem step_names {ops : Array Oper} {o : Oper} {a : Act} {w : World} {K : Act → World → Prop} {Q : Exit → Act → World → Prop} {E : Prop} {X : Nat → Prop} {v : Value} {n : List ByteArray}
    (hg : o.guard = none) (s x : Operand) (hop : o.op = Op.call { callee := Callee.builtin Builtin.append, args := #[s, x], argTypes := #[22, 22] }) (hty : o.type = 22)
    (g0 : Nat) (hs : a.eval s = .slice (some ⟨g0, 0, none⟩) 0 0) (hx : a.eval x = v) (hv : StrL w X v n) (hn : n.length ≤ 1000000000000) (hK : ∀ v' w', NamesPost n w v' w' → K (a.put o.dst v') w') :
    if Region.wanted o (yielded ops a.tmps) = true then Oper.wp Tryz.prog o a w K Q else E := by
  obtain ⟨v', w', hrun, hp⟩ := append_names hv hn g0
  exact jl_step_run hg s x _ _ hop _ _ v' w' hs hx (by rw [hty]; exact hrun) (hK v' w' hp)
theorem grown_set0 (b i : Nat) (x : Value) (w : World) : w.grownBy (w.setCell ⟨b, i, none⟩ x) (some b) :=
  ⟨rfl, rfl, rfl, by simp [World.setCell], fun k _ hne => Below.heap_setCell _ _ _ _ (fun e => hne (by rw [e]))⟩
def NamG (w : World) (lo hi bo : Nat) (v : Value) (n : List ByteArray) : Prop := ∃ gn, gn < hi ∧ gn ≠ bo ∧ NamO w 9 lo hi gn v n
theorem NamG.len {w : World} {lo hi bo : Nat} {v : Value} {n : List ByteArray} (h : NamG w lo hi bo v n) : ∃ A c, v = .slice A n.length c := by
  obtain ⟨_, _, _, A, c, rfl, _⟩ := h
  exact ⟨A, c, rfl⟩
theorem NamG.keep {w w' : World} {lo hi bo : Nat} {v : Value} {n : List ByteArray} (h : NamG w lo hi bo v n) (hk : ∀ b, lo ≤ b → b < hi → b ≠ bo → w'.heap[b]? = w.heap[b]?) : NamG w' lo hi bo v n := by
  obtain ⟨gn, h1, h2, A, c, rfl, q⟩ := h
  refine ⟨gn, h1, h2, A, c, rfl, fun hp => ?_⟩
  obtain ⟨e, q1, q2, cs, q3, q4⟩ := q hp
  exact ⟨e, q1, q2, cs, (hk gn q1 q2 h2).trans q3, q4⟩
theorem KidO.name {gl gn gn' lo hi : Nat} {cs : Array Value} {l : List (Jsn × (Nat → Nat → Value → Value → Prop))} {ws : List OE} (h : KidO gl gn lo hi cs l ws) (hg : gn' < lo) : KidO gl gn' lo hi cs l ws :=
  ⟨h.1, fun i x u hx hu => by obtain ⟨q1, q2, q3, q4, q5, q6, q7⟩ := h.2.1 i x u hx hu; exact ⟨q1, q2, q3, q4, q5, by omega, q7⟩, h.2.2⟩
theorem mk_own2 {wr : World} {lo lo' B gn : Nat} {tS tJ : TypeId} {v vn : Value} {k : Int} {s : ByteArray} {ns : List ByteArray} {l : List Jsn} (hk0 : 0 ≤ k) (hk1 : k ≤ 255) (h : RowO wr B tS tJ v l) (hlo : lo' ≤ lo ∧ lo' ≤ B) (hg : gn < B) (hBs : B ≤ wr.heap.size)
    (hn : NamO wr tS lo B gn vn ns) : OwnJ wr tS tJ ⟨k, s, ns, l⟩ lo' wr.heap.size vn v := by
  obtain ⟨gl, cs, A, c, ws, hv, h1, h2⟩ := h.kids
  rw [OwnJ_eq]
  refine ⟨hk0, hk1, gn, gl, cs, A, c, ws, hn.keep (fun _ _ _ => rfl) hlo.1 hBs, hv, fun hp => ?_, ((h2 _ (Nat.le_refl _)).name hg).imp hlo.2 (Nat.le_refl _) rfl fun i x x' hx hx' => ?_⟩
  · obtain ⟨q1, q2, q3, q4⟩ := h1 hp
    exact ⟨q1, by omega, q3, by omega, q4⟩
  · rw [hx] at hx'
    injection hx' with e
    subst e
    exact ⟨rfl, fun _ _ _ _ _ _ h => h⟩
theorem given_round {w wr wc w2 : World} {bo q c7 : Nat} {A7 : Option Addr} {n : List ByteArray} {l l2 : List Jsn} {x : Jsn} {vn vl v0 v1 v2 vN : Value} {cs1 cs2 : Array Value} (hrow : RowO wr wc.heap.size 9 25 (.slice A7 q c7) l) (hB : Below w.heap.size w wr) (hB2 : Below wr.drew.heap.size wr.drew w2) (hsw : wc.heap.size ≤ wr.heap.size)
    (hO : OwnJ w2 9 25 x wr.drew.heap.size w2.heap.size vn vl) (hql : l.length = q) (hq : q ≤ 1000000000000) (hsn : l2 = l ++ [x])
    (hC : Cel wr bo 25 #[v0, v1, v2, .slice A7 q c7]) (hC1 : Cel wr w.heap.size 25 cs1) (hC2 : Cel wr (w.heap.size + 1) 25 cs2) (hww : w.heap.size + 2 ≤ wc.heap.size) (hbo : w.heap.size + 2 ≤ bo)
    (hN : NamG wr (w.heap.size + 2) wc.heap.size bo vN n) (hbw : bo < wc.heap.size) :
    ∃ v' w4, (Builtin.append_ #[23, 23] 23 #[.slice A7 q c7, .slice (some ⟨w2.heap.size, 0, none⟩) 1 1]).run Tryz.prog (w2.alloc (.cells #[.int .u8 x.kind, .string x.text, vn, vl] 25)) = .ok v' w4 ∧
      ∃ A6 n6 c6, v' = .slice A6 n6 c6 ∧ bo < w2.heap.size ∧ w2.cell? ⟨bo, 3, none⟩ = some (.slice A7 q c7) ∧ w4.cell? ⟨bo, 3, none⟩ = some (.slice A7 q c7) ∧ w4.frozen? ⟨bo, 3, none⟩ = false ∧
        (RowO (w4.setCell ⟨bo, 3, none⟩ v') wc.heap.size 9 25 v' l2 ∧ Cel (w4.setCell ⟨bo, 3, none⟩ v') bo 25 #[v0, v1, v2, v'] ∧ Cel (w4.setCell ⟨bo, 3, none⟩ v') w.heap.size 25 cs1 ∧ Cel (w4.setCell ⟨bo, 3, none⟩ v') (w.heap.size + 1) 25 cs2 ∧
          NamG (w4.setCell ⟨bo, 3, none⟩ v') (w.heap.size + 2) wc.heap.size bo vN n ∧ Below w.heap.size w (w4.setCell ⟨bo, 3, none⟩ v') ∧ wc.heap.size ≤ (w4.setCell ⟨bo, 3, none⟩ v').heap.size) := by
  have hB12 : Below wr.heap.size wr w2 := (bel_drewN (Below.refl _ _) 1).trans hB2
  have hs12 := hB12.size
  obtain ⟨v', w4, hrun, hrow2, hgr, hvB⟩ := append_row 23 Tryz.underlying23 hrow (W1 := wr.drew) (Nat.le_refl _) hB12 hs12 hsw hO (by omega)
  rw [← hsn] at hrow2
  have hg4 : Below wc.heap.size wr w4 := ((hB12.mono hsw).alloc (by omega) _).trans (Below.grown (Below.refl _ _) hgr (by simp; omega) hvB)
  have hs4 := hg4.size
  obtain ⟨_, _, A6, c6, _, hv6, _⟩ := id hrow2.kids
  have hD := hC.below hg4 hbw
  have hfr : ∀ d, d ≠ bo → (w4.setCell ⟨bo, 3, none⟩ v').heap[d]? = w4.heap[d]? := fun d hd => Below.heap_setCell _ _ _ _ hd
  have hset : (w4.setCell ⟨bo, 3, none⟩ v').heap.size = w4.heap.size := by simp [World.setCell]
  refine ⟨v', w4, hrun, A6, _, c6, hv6, by omega, (hC.below hB12 (by omega)).cell 3, hD.cell 3, hD.froz 3, ?_, hD.set 3 v', (hfr _ (by omega)).trans (hC1.below hg4 (by omega)), (hfr _ (by omega)).trans (hC2.below hg4 (by omega)), ?_, ?_, by omega⟩
  · obtain ⟨ws, h1, h2, h3, h4⟩ := hrow2
    have hne : ∀ g, v'.ownBlock = some g → bo ≠ g := fun g hg => by have := (h2.lt g hg).1; omega
    refine ⟨ws, h1, h2.kept (row := some bo) (grown_set0 bo 3 v' w4) (by rcases hv : v'.ownBlock with _ | g; exact Or.inl rfl; exact Or.inr (fun e => by injection e with e; exact hne g hv e.symm)), fun i y u hy hu => ?_, h4⟩
    obtain ⟨q1, q2, q3, q4, q5⟩ := h3 i y u hy hu
    exact ⟨q1, q2, by omega, q4, OwnJ.keep y q5 (fun b h5 _ => hfr b (by omega)) (Nat.le_refl _) (Nat.le_refl _)⟩
  · exact hN.keep (fun b h1 h2 h3 => (hfr b h3).trans (hg4.block b h2))
  · exact (hB.trans (hg4.mono (by omega))).setCell (by show w.heap.size ≤ bo; omega) _
theorem bcell {W w1 : World} (hb : Below W.heap.size W w1) : (∀ b o, b < W.heap.size → w1.cell? ⟨b, o, none⟩ = W.cell? ⟨b, o, none⟩) ∧ (∀ b o, b < W.heap.size → w1.frozen? ⟨b, o, none⟩ = W.frozen? ⟨b, o, none⟩) :=
  ⟨fun b o h => hb.cell (p := ⟨b, o, none⟩) h, fun b o h => hb.frozen (p := ⟨b, o, none⟩) h⟩
theorem bel_drew {B : Nat} {a w : World} (h : Below B a w) : Below B a w.drew := ⟨h.os, h.tape, h.output, h.size, h.block⟩
theorem given_fin {W w' W2 : World} {B bo gn : Nat} {vN : Value} {n : List ByteArray} (hN : NamO w' 9 W.heap.size w'.heap.size gn vN n) (hgn : W.heap.size ≤ gn) (h2 : B ≤ W.heap.size) (hs : w'.heap.size ≤ W2.heap.size) (hblk : ∀ b, W.heap.size ≤ b → b < w'.heap.size → W2.heap[b]? = w'.heap[b]?) (hbo : bo < W.heap.size ∨ w'.heap.size ≤ bo)
    (hbB : 0 < B ∧ B ≤ bo ∧ W.heap.size ≤ w'.heap.size) : NamG W2 B W2.heap.size bo vN n := by
  obtain ⟨A, c, rfl, q⟩ := hN
  by_cases hp : 0 < n.length
  · obtain ⟨e, q1, q2, cs, q3, q4⟩ := q hp
    exact ⟨gn, by omega, by omega, A, c, rfl, fun _ => ⟨e, by omega, by omega, cs, (hblk gn q1 q2).trans q3, q4⟩⟩
  · exact ⟨B - 1, by omega, by omega, A, c, rfl, fun h => absurd h hp⟩
theorem RowO.keep {w w' : World} {B : Nat} {tS tJ : TypeId} {v : Value} {l : List Jsn} (h : RowO w B tS tJ v l) (hk : ∀ k, B ≤ k → k < w.heap.size → w'.heap[k]? = w.heap[k]?) (hs : w.heap.size ≤ w'.heap.size) : RowO w' B tS tJ v l := by
  obtain ⟨ws, h1, h2, h3, h4⟩ := h
  refine ⟨ws, h1, ⟨h2.1, ?_⟩, fun i x u hx hu => ?_, h4⟩
  · rcases h2.2 with e | ⟨g, cap, cur, e1, e2, e3, e4⟩
    · exact .inl e
    · exact .inr ⟨g, cap, cur, e1, e2, (hk g e2 (Array.getElem?_eq_some_iff.1 e3).1).trans e3, e4⟩
  · obtain ⟨q1, q2, q3, q4, q5⟩ := h3 i x u hx hu
    exact ⟨q1, q2, Nat.le_trans q3 hs, q4, OwnJ.keep x q5 (fun b hb1 hb2 => hk b (by omega) (by omega)) (Nat.le_refl _) (Nat.le_refl _)⟩
theorem RowO.but {w w' : World} {B b : Nat} {tS tJ : TypeId} {v : Value} {l : List Jsn} (h : RowO w B tS tJ v l) (hb : But w.heap.size b w w') (hlt : b < B) : RowO w' B tS tJ v l := h.keep (fun k h1 h2 => hb.block k h2 (by omega)) hb.size
def wcut (w : World) (n : Nat) : World := { w with heap := w.heap.extract 0 n }
theorem grown_more {w w4 : World} {row : Option Nat} (h : w.grownBy w4 row) {g : Nat} (hg : row = some g ∨ w.heap.size ≤ g) (j : Nat) (u : Value) : w.grownBy (w4.setCell ⟨g, j, none⟩ u) row :=
  ⟨h.os, h.tape, h.output, by simpa using h.size, fun k hk hn => (Below.heap_setCell w4 ⟨g, j, none⟩ u k (by
    rcases hg with e | e
    · intro e2; exact hn (by rw [e]; exact congrArg some e2)
    · show k ≠ g; omega)).trans (h.block k hk hn)⟩
def zero4 : List Value := [.int .u8 0, .string ⟨#[]⟩, .slice none 0 0, .slice none 0 0]
theorem set4 (xs : List Value) (a b c d : Value) (n : Nat) (h : xs.length = n) : ((((xs ++ zero4).set n a).set (n + 1) b).set (n + 2) c).set (n + 3) d = xs ++ [a, b, c, d] := by
  subst h
  unfold zero4
  simp [List.set_append_right]
def lay4 (w : World) (g n : Nat) (a b c d : Value) : World := (((w.setCell ⟨g, n, none⟩ a).setCell ⟨g, n + 1, none⟩ b).setCell ⟨g, n + 2, none⟩ c).setCell ⟨g, n + 3, none⟩ d
theorem lay4_size (w : World) (g n : Nat) (a b c d : Value) : (lay4 w g n a b c d).heap.size = w.heap.size := by unfold lay4; simp
theorem lay4_other (w : World) (g n : Nat) (a b c d : Value) {k : Nat} (hk : k ≠ g) : (lay4 w g n a b c d).heap[k]? = w.heap[k]? := by
  unfold lay4
  rw [Below.heap_setCell _ _ _ _ hk, Below.heap_setCell _ _ _ _ hk, Below.heap_setCell _ _ _ _ hk, Below.heap_setCell _ _ _ _ hk]
theorem RowW.snoc2 {w3 w4 : World} {B lo hi : Nat} {tS tJ : TypeId} {v v' : Value} {l : List Jsn} {ws : List OE} {x : Jsn} {vn vl : Value} (h : RowW w3 B tS tJ v l ws) (hend : ∀ u ∈ ws, u.2.2.2 ≤ lo) (hBl : B ≤ lo) (hlh : lo ≤ hi) (hhi : hi ≤ w3.heap.size)
    (hx : OwnJ w3 tS tJ x lo hi vn vl) (hout : ∀ g, v.ownBlock = some g → ¬ (lo ≤ g ∧ g < hi))
    (hown : w4.ownsRow B tJ 4 v' (l.length + 1) (rowCells l ws ++ encJ (x, vn, vl)))
    (hgr : w3.grownBy w4 v.ownBlock) (hbl : v'.ownBlock = v.ownBlock ∨ ∃ k, v'.ownBlock = some k ∧ w3.heap.size ≤ k) : RowW w4 B tS tJ v' (l ++ [x]) (ws ++ [(vn, vl, lo, hi)]) := by
  obtain ⟨h1, h2, h3, h4⟩ := h
  have hgs := hgr.size
  have hkeep : ∀ (y : Jsn) (a b : Nat) (yn yl : Value), OwnJ w3 tS tJ y a b yn yl → b ≤ w3.heap.size → (∀ g, v.ownBlock = some g → ¬ (a ≤ g ∧ g < b)) → OwnJ w4 tS tJ y a b yn yl := fun y a b yn yl hy hb hg =>
    OwnJ.keep y hy (fun c h5 h6 => hgr.block c (by omega) (fun e => hg c e.symm ⟨h5, h6⟩)) (Nat.le_refl _) (Nat.le_refl _)
  have hvb : ∀ (a b : Nat), b ≤ w3.heap.size → (∀ g, v.ownBlock = some g → ¬ (a ≤ g ∧ g < b)) → ∀ g, v'.ownBlock = some g → ¬ (a ≤ g ∧ g < b) := fun a b hb hg g hg' => by
    rcases hbl with e | ⟨k, e, hk⟩
    · exact hg g (by rw [← e]; exact hg')
    · rw [e] at hg'; injection hg' with hg'; omega
  refine ⟨by simp [h1], ?_, fun i y u hy hu => ?_, fun i j u z hij hu hz => ?_⟩
  · rw [rowCells_snoc h1, List.length_append]
    exact hown
  · by_cases hi' : i < l.length
    · rw [List.getElem?_append_left hi'] at hy
      rw [List.getElem?_append_left (by omega)] at hu
      obtain ⟨q1, q2, q3, q4, q5⟩ := h3 i y u hy hu
      exact ⟨q1, q2, by omega, hvb _ _ (by omega) q4, hkeep y _ _ _ _ q5 (by omega) q4⟩
    · rw [List.getElem?_append_right (by omega)] at hy
      rw [List.getElem?_append_right (by omega)] at hu
      have hi0 : i - l.length = 0 := by
        have := (List.getElem?_eq_some_iff.1 hy).1
        simp at this; omega
      rw [h1, hi0] at hu
      rw [hi0] at hy
      simp at hy hu
      subst hy
      subst hu
      exact ⟨hBl, hlh, by dsimp only; omega, hvb _ _ hhi hout, hkeep _ _ _ _ _ hx hhi hout⟩
  · have hjl : j < (ws ++ [(vn, vl, lo, hi)]).length := (List.getElem?_eq_some_iff.1 hz).1
    simp at hjl
    rw [List.getElem?_append_left (by omega)] at hu
    by_cases hj : j < ws.length
    · rw [List.getElem?_append_left hj] at hz
      exact h4 i j u z hij hu hz
    · rw [List.getElem?_append_right (by omega), show j - ws.length = 0 by omega] at hz
      simp at hz
      subst hz
      exact hend u (List.mem_of_getElem? hu)
theorem append_zeroW (tSl : TypeId) (ht : Tryz.prog.underlying tSl = some (.slice 25)) {wr w3 : World} {B b z lo hi : Nat} {v : Value} {l : List Jsn} {x : Jsn} {vn vl : Value} {ws0 : List OE} (hw0 : RowW wr B 9 25 v l ws0) (h13 : But wr.heap.size b wr w3) (hb : b < B) (hB : B ≤ wr.heap.size)
    (hz : Cel w3 z 25 #[.int .u8 0, .string ⟨#[]⟩, .slice none 0 0, .slice none 0 0]) (hlo : wr.heap.size ≤ lo) (hlh : lo ≤ hi) (hhi : hi ≤ w3.heap.size) (hx : OwnJ w3 9 25 x lo hi vn vl) (hl : l.length ≤ 1000000000000) :
    ∃ v' w4 g cap, (Builtin.append_ #[tSl, tSl] tSl #[v, .slice (some ⟨z, 0, none⟩) 1 1]).run Tryz.prog w3 = .ok v' w4 ∧
      v' = .slice (some ⟨g, 0, none⟩) (l.length + 1) cap ∧ B ≤ g ∧ (∀ i u, zero4[i]? = some u → w4.cell? ⟨g, l.length * 4 + i, none⟩ = some u) ∧ (∀ i, w4.frozen? ⟨g, i, none⟩ = false) ∧
      (∀ k, k < B → w4.heap[k]? = w3.heap[k]?) ∧ w3.heap.size ≤ w4.heap.size ∧ w4.os = w3.os ∧ w4.tape = w3.tape ∧ w4.output = w3.output ∧
      RowW (lay4 w4 g (l.length * 4) (.int .u8 x.kind) (.string x.text) vn vl) B 9 25 v' (l ++ [x]) (ws0 ++ [(vn, vl, lo, hi)]) ∧ (v.ownBlock = some g ∨ g = w3.heap.size) ∧ w3.grownBy w4 v.ownBlock := by
  obtain ⟨i0, hi0, hz0, hz1, hz2⟩ := info_parts infoJ
  have hs3 := h13.size
  have hend : ∀ u ∈ ws0, u.2.2.2 ≤ lo := fun u hu => by
    obtain ⟨i, hi'⟩ := List.mem_iff_getElem?.1 hu
    have hil : i < l.length := by have := (List.getElem?_eq_some_iff.1 hi').1; rw [hw0.1] at this; exact this
    have := (hw0.2.2.1 i _ u (List.getElem?_eq_getElem hil) hi').2.2.1
    omega
  have hvl : ∀ g, v.ownBlock = some g → B ≤ g ∧ g < wr.heap.size := hw0.2.1.lt
  have hw : RowW w3 B 9 25 v l ws0 := by
    obtain ⟨h1, h2, h3, h4⟩ := hw0
    have hk : ∀ k, B ≤ k → k < wr.heap.size → w3.heap[k]? = wr.heap[k]? := fun k h1 h2 => h13.block k h2 (by omega)
    refine ⟨h1, ⟨h2.1, ?_⟩, fun i x u hx hu => ?_, h4⟩
    · rcases h2.2 with e | ⟨g, cap, cur, e1, e2, e3, e4⟩
      · exact .inl e
      · exact .inr ⟨g, cap, cur, e1, e2, (hk g e2 (Array.getElem?_eq_some_iff.1 e3).1).trans e3, e4⟩
    · obtain ⟨q1, q2, q3, q4, q5⟩ := h3 i x u hx hu
      exact ⟨q1, q2, Nat.le_trans q3 hs3, q4, OwnJ.keep x q5 (fun b hb1 hb2 => hk b (by omega) (by omega)) (Nat.le_refl _) (Nat.le_refl _)⟩
  obtain ⟨v', w4, hrun, h2, h3, _, h5⟩ := run_append_own_at (P := Tryz.prog) w3 B tSl tSl 25 i0 _ 4 72 ht hi0 hz0 hz1 hz2 rfl (by decide) v l.length (rowCells l ws0) hw.2.1 ⟨z, 0, none⟩ 1 1 zero4 rfl
    (fun j u hu => by
      have hadd : (⟨z, 0, none⟩ : Addr).add j = ⟨z, j, none⟩ := by unfold Addr.add; split <;> simp_all
      rw [hadd, hz.cell]
      simpa [zero4] using hu)
    (fun u hu => by simp [zero4] at hu; rcases hu with rfl | rfl | rfl | rfl <;> rfl) (by unfold maxLen; omega) (by omega) (by omega)
  obtain ⟨g, cap, rfl⟩ : ∃ g cap, v' = .slice (some ⟨g, 0, none⟩) (l.length + 1) cap := by
    rcases h2.2 with ⟨_, h0⟩ | ⟨g, cap, cur, e, _⟩
    · omega
    · exact ⟨g, cap, e⟩
  have hrl : (rowCells l ws0).length = l.length * 4 := hw.2.1.1
  have hgg : v.ownBlock = some g ∨ w3.heap.size ≤ g := by
    rcases h5 with e | e
    · exact .inl e.symm
    · right
      have e2 : some g = some w3.heap.size := e
      injection e2 with e2
      omega
  have hge : v.ownBlock = some g ∨ g = w3.heap.size := by
    rcases h5 with e | e
    · exact .inl e.symm
    · right
      have e2 : some g = some w3.heap.size := e
      injection e2
  have hgB : B ≤ g := by
    rcases hgg with e | e
    · exact (hvl g e).1
    · omega
  refine ⟨_, w4, g, cap, hrun, rfl, hgB, fun i u hu => ?_, fun i => h2.frozenAt _, fun k hk => ?_, h3.size, h3.os, h3.tape, h3.output, ?_⟩
  · have hi : i < 4 := (List.getElem?_eq_some_iff.1 hu).1
    rw [h2.cellAt (l.length * 4 + i) (by omega), List.getElem?_append_right (by omega), hrl, Nat.add_sub_cancel_left]
    exact hu
  · exact h3.block k (by omega) (fun e => by have := (hvl k e.symm).1; omega)
  · have s1 := h2.stored (l.length * 4) (.int .u8 x.kind)
    have s2 := s1.1.stored (l.length * 4 + 1) (.string x.text)
    have s3 := s2.1.stored (l.length * 4 + 2) vn
    have s4 := s3.1.stored (l.length * 4 + 3) vl
    have hfin := s4.1
    rw [set4 _ _ _ _ _ _ hrl] at hfin
    have hgr := grown_more (grown_more (grown_more (grown_more h3 hgg (l.length * 4) (.int .u8 x.kind)) hgg (l.length * 4 + 1) (.string x.text)) hgg (l.length * 4 + 2) vn) hgg (l.length * 4 + 3) vl
    exact ⟨hw.snoc2 hend (by omega) hlh hhi hx (fun g hg => by have := hvl g hg; omega) hfin hgr (by
      rcases h5 with e | e
      · exact .inl e
      · exact .inr ⟨_, e, Nat.le_refl _⟩), hge, h3⟩
theorem append_zero (tSl : TypeId) (ht : Tryz.prog.underlying tSl = some (.slice 25)) {wr w3 : World} {B b z lo hi : Nat} {v : Value} {l : List Jsn} {x : Jsn} {vn vl : Value} (h : RowO wr B 9 25 v l) (h13 : But wr.heap.size b wr w3) (hb : b < B) (hB : B ≤ wr.heap.size)
    (hz : Cel w3 z 25 #[.int .u8 0, .string ⟨#[]⟩, .slice none 0 0, .slice none 0 0]) (hlo : wr.heap.size ≤ lo) (hlh : lo ≤ hi) (hhi : hi ≤ w3.heap.size) (hx : OwnJ w3 9 25 x lo hi vn vl) (hl : l.length ≤ 1000000000000) :
    ∃ v' w4 g cap, (Builtin.append_ #[tSl, tSl] tSl #[v, .slice (some ⟨z, 0, none⟩) 1 1]).run Tryz.prog w3 = .ok v' w4 ∧
      v' = .slice (some ⟨g, 0, none⟩) (l.length + 1) cap ∧ B ≤ g ∧ (∀ i u, zero4[i]? = some u → w4.cell? ⟨g, l.length * 4 + i, none⟩ = some u) ∧ (∀ i, w4.frozen? ⟨g, i, none⟩ = false) ∧
      (∀ k, k < B → w4.heap[k]? = w3.heap[k]?) ∧ w3.heap.size ≤ w4.heap.size ∧ w4.os = w3.os ∧ w4.tape = w3.tape ∧ w4.output = w3.output ∧
      RowO (lay4 w4 g (l.length * 4) (.int .u8 x.kind) (.string x.text) vn vl) B 9 25 v' (l ++ [x]) := by
  obtain ⟨ws, hw⟩ := h
  obtain ⟨v', w4, g, cap, q0, q1, q2, q3, q4, q5, q6, q7, q8, q9, q10, _⟩ := append_zeroW tSl ht hw h13 hb hB hz hlo hlh hhi hx hl
  exact ⟨v', w4, g, cap, q0, q1, q2, q3, q4, q5, q6, q7, q8, q9, _, q10⟩
end Go.Proofs.YtdjfoabinjfnfaaGreatDoor
namespace Go.Proofs.YtdjfoabinjfnfaaGreatDoor
section
variable {P : Program} {ops : Array Oper} {Q : Exit → Act → World → Prop} {md : Region.Mode} {S : World → Prop} {q : Nat}
def wpAnyQ (P : Program) (md : Region.Mode) (ops : Array Oper) (Q : Exit → Act → World → Prop) (S : World → Prop) (q : Nat) : Nat → Array Bool → Act → World → Prop
  | 0, listed, a, w => Region.ready md ops listed = [] ∧ Q .normal a w
  | fuel + 1, listed, a, w => (Region.ready md ops listed = [] → Q .normal a w) ∧
    ∀ i ∈ Region.ready md ops listed, wpOp P ops Q i (fun a' w' => ((listed.setIfInBounds i true).getD q true = false → S w') ∧ wpAnyQ P md ops Q S q fuel (listed.setIfInBounds i true) a' w') a w
theorem wpAny_of_Q : ∀ (fuel : Nat) (listed : Array Bool) (a : Act) (w : World), wpAnyQ P md ops Q S q fuel listed a w → wpAny P md ops Q fuel listed a w
  | 0, _, _, _, h => h
  | fuel + 1, _, _, _, h => ⟨h.1, fun i hi => wpOp_mono (fun a' w' h' => wpAny_of_Q fuel _ a' w' h'.2) (h.2 i hi)⟩
theorem wpAnyQ_first {i : Nat} {oi oq : Oper} {v : Value} (hi : ops[i]? = some oi) (hq : ops[q]? = some oq) (hqi : ∃ e ∈ oq.after, Region.binds md e = true ∧ e.on = i) (hsel : ∀ (j : Nat) (o : Oper) cs b, ops[j]? = some o → o.op ≠ .select cs b)
    (hQ : ∀ c a w, Q (.panic c) (a.put oi.dst v) w → Q (.panic c) a w) : ∀ (fuel : Nat) (listed : Array Bool) (a : Act) (w : World),
      (∀ j oj, ops[j]? = some oj → j ≠ i → listed.getD j true = false → (∀ e ∈ oj.after, Region.binds md e = true → e.on ≠ i) → oi.apart ops oj = true) →
      i ∈ Region.ready md ops listed → YieldsIf P ops S oi v a → S w → listed.getD q true = false →
      wpAnyQ P md ops Q S q fuel (listed.setIfInBounds i true) (a.put oi.dst v) w → wpAnyQ P md ops Q S q (fuel + 1) listed a w := by
  intro fuel
  induction fuel with
  | zero =>
    intro listed a w _ hr hy hS _ H
    refine ⟨fun h => (by rw [h] at hr; cases hr), fun j hj => ?_⟩
    by_cases hji : j = i
    · subst hji; exact hy.wpOp hi hS ⟨fun _ => hS, H⟩
    · have := ready_mono hj hji
      rw [H.1] at this
      cases this
  | succ fuel ih =>
    intro listed a w hfree hr hy hS hlq H
    refine ⟨fun h => (by rw [h] at hr; cases hr), fun j hj => ?_⟩
    by_cases hji : j = i
    · subst hji; exact hy.wpOp hi hS ⟨fun _ => hS, H⟩
    · have h1 := H.2 j (ready_mono hj hji)
      obtain ⟨hjun, oj, hoj, hall⟩ := mem_ready.1 hj
      have hnot : ∀ e ∈ oj.after, Region.binds md e = true → e.on ≠ i := fun e he hb heq => by
        have h1 := hall e he hb
        have h0 := (mem_ready.1 hr).1
        rw [heq] at h1
        rcases Nat.lt_or_ge i listed.size with h' | h'
        · simp [h'] at h0 h1; rw [h0] at h1; cases h1
        · simp [Array.getElem?_eq_none h'] at h1
      have hjq : j ≠ q := fun e => by
        subst e
        rw [hoj] at hq
        injection hq with hq
        subst hq
        obtain ⟨e, he, hb, hei⟩ := hqi
        exact hnot e he hb hei
      have h2 := wpOp_putIf hoj (hfree j oj hoj hji hjun hnot) (fun cs b => hsel i oi cs b hi) (fun cs b => hsel j oj cs b hoj) hQ hy h1
      have hfree' : ∀ k ok, ops[k]? = some ok → k ≠ i → (listed.setIfInBounds j true).getD k true = false → (∀ e ∈ ok.after, Region.binds md e = true → e.on ≠ i) → oi.apart ops ok = true := fun k ok hk hki hun hno => by
        refine hfree k ok hk hki ?_ hno
        by_cases hjk : j = k
        · subst hjk; exact hjun
        · rw [getD_set_ne true hjk] at hun; exact hun
      have hq1 : (listed.setIfInBounds j true).getD q true = false := by rw [getD_set_ne true hjq]; exact hlq
      have hiq : i ≠ q := fun e => by
        subst e
        have h0 := (mem_ready.1 hr).2
        obtain ⟨o, ho, hall⟩ := h0
        rw [hq] at ho
        injection ho with ho
        subst ho
        obtain ⟨e, he, hb, hei⟩ := hqi
        have h1 := hall e he hb
        rw [hei] at h1
        rcases Nat.lt_or_ge i listed.size with h' | h'
        · simp [h'] at hlq h1; rw [hlq] at h1; cases h1
        · simp [Array.getElem?_eq_none h'] at h1
      have hq2 : ((listed.setIfInBounds i true).setIfInBounds j true).getD q true = false := by rw [getD_set_ne true hjq, getD_set_ne true hiq]; exact hlq
      refine wpOp_mono (fun a' w' h3 => ⟨fun _ => h3.2.1 hq2, ih (listed.setIfInBounds j true) a' w' hfree' (ready_mono hr (Ne.symm hji)) h3.1 (h3.2.1 hq2) hq1 ?_⟩) h2
      rw [Array.setIfInBounds_comm _ _ hji]
      exact h3.2.2
theorem wpAnyQ_firstW {i : Nat} {oi : Oper} {v : Value} (hi : ops[i]? = some oi) (hiq : i ≠ q) (hsel : ∀ (j : Nat) (o : Oper) cs b, ops[j]? = some o → o.op ≠ .select cs b)
    (hQ : ∀ c a w, Q (.panic c) (a.put oi.dst v) w → Q (.panic c) a w) : ∀ (fuel : Nat) (listed : Array Bool) (a : Act) (w : World),
      (∀ j oj, ops[j]? = some oj → j ≠ i → listed.getD j true = false → (∀ e ∈ oj.after, Region.binds md e = true → e.on ≠ i) → oi.apart ops oj = true) →
      i ∈ Region.ready md ops listed → YieldsIf P ops (fun _ => True) oi v a → (listed.getD q true = false → S w) →
      wpAnyQ P md ops Q S q fuel (listed.setIfInBounds i true) (a.put oi.dst v) w → wpAnyQ P md ops Q S q (fuel + 1) listed a w := by
  intro fuel
  induction fuel with
  | zero =>
    intro listed a w _ hr hy hS H
    refine ⟨fun h => (by rw [h] at hr; cases hr), fun j hj => ?_⟩
    by_cases hji : j = i
    · subst hji; exact hy.wpOp hi trivial ⟨fun h => hS (by rw [getD_set_ne true hiq] at h; exact h), H⟩
    · have := ready_mono hj hji
      rw [H.1] at this
      cases this
  | succ fuel ih =>
    intro listed a w hfree hr hy hS H
    refine ⟨fun h => (by rw [h] at hr; cases hr), fun j hj => ?_⟩
    by_cases hji : j = i
    · subst hji; exact hy.wpOp hi trivial ⟨fun h => hS (by rw [getD_set_ne true hiq] at h; exact h), H⟩
    · have h1 := H.2 j (ready_mono hj hji)
      obtain ⟨hjun, oj, hoj, hall⟩ := mem_ready.1 hj
      have hnot : ∀ e ∈ oj.after, Region.binds md e = true → e.on ≠ i := fun e he hb heq => by
        have h1 := hall e he hb
        have h0 := (mem_ready.1 hr).1
        rw [heq] at h1
        rcases Nat.lt_or_ge i listed.size with h' | h'
        · simp [h'] at h0 h1; rw [h0] at h1; cases h1
        · simp [Array.getElem?_eq_none h'] at h1
      have h2 := wpOp_putIf hoj (hfree j oj hoj hji hjun hnot) (fun cs b => hsel i oi cs b hi) (fun cs b => hsel j oj cs b hoj) hQ hy h1
      have hfree' : ∀ k ok, ops[k]? = some ok → k ≠ i → (listed.setIfInBounds j true).getD k true = false → (∀ e ∈ ok.after, Region.binds md e = true → e.on ≠ i) → oi.apart ops ok = true := fun k ok hk hki hun hno => by
        refine hfree k ok hk hki ?_ hno
        by_cases hjk : j = k
        · subst hjk; exact hjun
        · rw [getD_set_ne true hjk] at hun; exact hun
      have hsw : ((listed.setIfInBounds i true).setIfInBounds j true).getD q true = (listed.setIfInBounds j true).getD q true := by
        rw [Array.setIfInBounds_comm _ _ (Ne.symm hji), getD_set_ne true hiq]
      refine wpOp_mono (fun a' w' h3 => ⟨fun h => h3.2.1 (hsw.trans h), ih (listed.setIfInBounds j true) a' w' hfree' (ready_mono hr (Ne.symm hji)) h3.1 (fun h => h3.2.1 (hsw.trans h)) ?_⟩) h2
      rw [Array.setIfInBounds_comm _ _ hji]
      exact h3.2.2
theorem wpAnyQ_takeW {i : Nat} {oi : Oper} {v : Value} {fuel : Nat} {listed : Array Bool} {a : Act} {w : World} (hi : ops[i]? = some oi)
    (hs : Region.noSelect ops = true) (hf : Region.free md ops listed i = true) (hr : (Region.ready md ops listed).contains i = true) (hiq : i ≠ q)
    (hQ : ∀ c a w, Q (.panic c) (a.put oi.dst v) w → Q (.panic c) a w) (hy : YieldsIf P ops (fun _ => True) oi v a) (hS : S w)
    (h : wpAnyQ P md ops Q S q fuel (listed.setIfInBounds i true) (a.put oi.dst v) w) : wpAnyQ P md ops Q S q (fuel + 1) listed a w :=
  wpAnyQ_firstW hi hiq (Region.noSelect_spec hs) hQ fuel listed a w (Region.free_spec hi hf) (by simpa using hr) hy (fun _ => hS) h
def waitsB (md : Region.Mode) (ops : Array Oper) (q i : Nat) : Bool := match ops[q]? with
  | some o => o.after.any fun e => Region.binds md e && decide (e.on = i)
  | none => false
theorem wpAnyQ_take {i : Nat} {oi : Oper} {v : Value} {fuel : Nat} {listed : Array Bool} {a : Act} {w : World} (hi : ops[i]? = some oi)
    (hs : Region.noSelect ops = true) (hf : Region.free md ops listed i = true) (hr : (Region.ready md ops listed).contains i = true) (hw : waitsB md ops q i = true) (hl : listed.getD q true = false)
    (hQ : ∀ c a w, Q (.panic c) (a.put oi.dst v) w → Q (.panic c) a w) (hy : YieldsIf P ops S oi v a) (hS : S w)
    (h : wpAnyQ P md ops Q S q fuel (listed.setIfInBounds i true) (a.put oi.dst v) w) : wpAnyQ P md ops Q S q (fuel + 1) listed a w := by
  unfold waitsB at hw
  split at hw
  · rename_i oq hq
    rw [Array.any_eq_true] at hw
    obtain ⟨k, hk, hb⟩ := hw
    simp only [Bool.and_eq_true, decide_eq_true_eq] at hb
    exact wpAnyQ_first hi hq ⟨_, Array.getElem_mem hk, hb.1, hb.2⟩ (Region.noSelect_spec hs) hQ fuel listed a w (Region.free_spec hi hf) (by simpa using hr) hy hS hl h
  · cases hw
theorem wpAnyQ_done {fuel : Nat} {listed : Array Bool} {a : Act} {w : World} (hr : Region.ready md ops listed = []) (h : Q .normal a w) : wpAnyQ P md ops Q S q fuel listed a w := by
  cases fuel with
  | zero => exact ⟨hr, h⟩
  | succ n => exact ⟨fun _ => h, fun i hi => by rw [hr] at hi; cases hi⟩
def StepQ (P : Program) (ops : Array Oper) (Q : Exit → Act → World → Prop) (o : Oper) (a : Act) (w : World) (K' : Act → World → Prop) : Prop := if Region.wanted o (yielded ops a.tmps) = true then Oper.wp P o a w K' Q else K' (a.put o.dst undef) w
theorem wpAnyQ_one {i : Nat} {o : Oper} {fuel : Nat} {listed : Array Bool} {a : Act} {w : World} (hr : Region.ready md ops listed = [i]) (ho' : ops.toList[i]? = some o)
    (h : ∀ K' : Act → World → Prop, Shut (∀ a w, ((listed.setIfInBounds i true).getD q true = false → S w) → wpAnyQ P md ops Q S q fuel (listed.setIfInBounds i true) a w → K' a w) → if Region.wanted o (yielded ops a.tmps) = true then Oper.wp P o a w K' Q else K' (a.put o.dst undef) w) : wpAnyQ P md ops Q S q (fuel + 1) listed a w := by
  have ho : ops[i]? = some o := by rw [← Array.getElem?_toList]; exact ho'
  refine ⟨fun h0 => ?_, fun j hj => ?_⟩
  · rw [hr] at h0; cases h0
  · rw [hr] at hj
    obtain rfl : j = i := by simpa using hj
    exact wpOp_step ho (fun K' hK => h K' fun a w h1 h2 => hK a w ⟨h1, h2⟩)
theorem wpAnyQ_two {i j : Nat} {o oj : Oper} {fuel : Nat} {listed : Array Bool} {a : Act} {w : World} (hr : Region.ready md ops listed = [i, j]) (ho' : ops.toList[i]? = some o) (hoj' : ops.toList[j]? = some oj)
    (h : ∀ K' : Act → World → Prop, Shut (∀ a w, ((listed.setIfInBounds i true).getD q true = false → S w) → wpAnyQ P md ops Q S q fuel (listed.setIfInBounds i true) a w → K' a w) → if Region.wanted o (yielded ops a.tmps) = true then Oper.wp P o a w K' Q else K' (a.put o.dst undef) w)
    (h' : ∀ K' : Act → World → Prop, Shut (∀ a w, ((listed.setIfInBounds j true).getD q true = false → S w) → wpAnyQ P md ops Q S q fuel (listed.setIfInBounds j true) a w → K' a w) → if Region.wanted oj (yielded ops a.tmps) = true then Oper.wp P oj a w K' Q else K' (a.put oj.dst undef) w) : wpAnyQ P md ops Q S q (fuel + 1) listed a w := by
  have ho : ops[i]? = some o := by rw [← Array.getElem?_toList]; exact ho'
  have hoj : ops[j]? = some oj := by rw [← Array.getElem?_toList]; exact hoj'
  refine ⟨fun h0 => ?_, fun k hk => ?_⟩
  · rw [hr] at h0; cases h0
  · rw [hr] at hk
    rcases List.mem_cons.1 hk with rfl | hk
    · exact wpOp_step ho (fun K' hK => h K' fun a w h1 h2 => hK a w ⟨h1, h2⟩)
    · obtain rfl : k = j := by simpa using hk
      exact wpOp_step hoj (fun K' hK => h' K' fun a w h1 h2 => hK a w ⟨h1, h2⟩)
theorem wp_region_Q {id : Nat} {a : Act} {w : World} (q : Nat) (S : World → Prop) (hm : P.follows .mixedOrders = true) (h : wpAnyQ P .any ops Q S q ops.size (Array.replicate ops.size false) a w.drew) : (Code.region id ops true).wp P Q a w :=
  wp_region_any hm (wpAny_of_Q _ _ _ _ h)
end
end Go.Proofs.YtdjfoabinjfnfaaGreatDoor
