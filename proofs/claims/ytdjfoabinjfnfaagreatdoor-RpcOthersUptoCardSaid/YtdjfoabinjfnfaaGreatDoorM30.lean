/-
  The walks of rpc.own, rpc.none, rpc.str.
-/
import Derived.Test.YtdjfoabinjfnfaaGreatDoorM10
import Derived.Test.YtdjfoabinjfnfaaGreatDoorM19
import Derived.Test.YtdjfoabinjfnfaaGreatDoorRpC
import Derived.Test.YtdjfoabinjfnfaaGreatDoorM29
import Derived.Test.YtdjfoabinjfnfaaGreatDoorM16
namespace Go.Proofs.YtdjfoabinjfnfaaGreatDoor
open Go.RowKit
set_option maxRecDepth 100000 in
set_option maxHeartbeats 2000000 in
theorem rpcOwn_any : ∀ (j : Jsn), OwnSays 84 j := by
  refine Jsn.ind fun k s n l ih X w vn vl hV hbk => ?_
  obtain ⟨_, hn, hl, _, hkids⟩ := bulk_parts hbk
  dsimp only at hl hkids hn
  obtain ⟨i0, hi0, hz0, hz1, hz2⟩ := info_parts infoJ
  have hnam := hV.names
  have hkd := hV.kind
  obtain ⟨An, cn, rfl⟩ := hnam.len
  obtain ⟨A, c, zs, rfl, hz, h2, h3⟩ := hV.elems
  dsimp only at hnam hkd ⊢
  have hlen : zs.length = l.length := by rw [← hz, List.length_map]
  rw [← hlen] at hl
  have hw := Lib.hid (fun (wr : World) (i : Nat) (hB : Below w.heap.size w wr) (hi : i < zs.length) => JV.at h2 h3 hB hi)
  have hb1 : ∀ x ∈ l, jbulk x ≤ 1000000000000 := fun x hx => by have := hkids x hx; omega
  have hnl := Lib.hid (fun (wr : World) (hB : Below w.heap.size w wr) => cloneStr_any X _ n wr (hnam.later hB) hn)
  clear hV h2 h3 hnam hkids hbk hlen
  replace ih := Lib.hid ih
  replace hb1 := Lib.hid hb1
  replace hz := Lib.hid hz
  go_enter Tryz.func84, Tryz.ntmps84
  go_wp2_with fail
  go_loopw [3, 9] (fun v i wr => ∃ q : Nat, q ≤ zs.length ∧ i = .int .i64 q ∧ RowO wr (w.heap.size + 2) 9 25 v ((zs.take q).map (·.1)) ∧ Cel wr w.heap.size 25 #[.int .u8 k, .string s, .slice An n.length cn, .slice A zs.length c] ∧ Cel wr (w.heap.size + 1) 25 #[.int .u8 0, .string ⟨#[]⟩, .slice none 0 0, .slice none 0 0] ∧ Below w.heap.size w wr) (fun _ i _ => zs.length - (intOf i).toNat)
  case atStart =>
    refine ⟨0, Nat.zero_le _, rfl, RowO.nil _ _ _ _, (Cel.fresh _ _ _).alloc _, ?_, ((Below.refl _ _).alloc (Nat.le_refl _) _).alloc (by simp) _⟩
    have := Cel.fresh (w.alloc (.cells #[.int .u8 k, .string s, .slice An n.length cn, .slice A zs.length c] 25)) 25 #[.int .u8 0, .string ⟨#[]⟩, .slice none 0 0, .slice none 0 0]
    simpa using this
  case round =>
    obtain ⟨q, hq, rfl, hrow, hC1, hC2, hB⟩ := hrel
    have hsz := hC1.lt
    have hsz2 := hC2.lt
    by_cases hlt : q < zs.length
    · obtain ⟨g, o, ⟨x, vx, vy⟩, hzq, hzm, rfl, hVz, a0, a1, a2, a3⟩ := hw.out wr q hB hlt
      dsimp only at hVz a0 a1 a2 a3
      have hxm : x ∈ l := by rw [← hz.out]; exact List.mem_map_of_mem (f := (·.1)) hzm
      obtain ⟨Ax, nx, cx, Ay, ny, cy, rfl, rfl⟩ := hVz.forms
      have hcall := ih.out x hxm X _ _ _ (hVz.alloc (.cells #[.int .u8 x.kind, .string x.text, .slice Ax nx cx, .slice Ay ny cy] 25)) (hb1.out x hxm)
      have hsnoc : (zs.take (q + 1)).map (·.1) = (zs.take q).map (·.1) ++ [x] := by rw [List.take_add_one, hzq]; simp
      have hql : ((zs.take q).map (·.1)).length = q := by rw [List.length_map, List.length_take]; omega
      clear hVz hzq hzm hw
      replace hcall := Lib.hid hcall
      replace hsnoc := Lib.hid hsnoc
      replace hql := Lib.hid hql
      replace hrow := Lib.hid hrow
      replace hC1 := Lib.hid hC1
      replace hC2 := Lib.hid hC2
      replace hB := Lib.hid hB
      go_wp2_with fail
      refine hcall.out.mono ?_
      rintro e w2 ⟨vn', vl', rfl, hO, hB2⟩
      have hbs := hB.out.size
      have hB12 : Below wr.heap.size wr w2 := ((Below.refl wr.heap.size wr).alloc (Nat.le_refl _) (.cells #[.int .u8 x.kind, .string x.text, .slice Ax nx cx, .slice Ay ny cy] 25)).trans (hB2.mono (by simp))
      have hs12 := hB2.size
      obtain ⟨Bx, mx, ex, By, my, ey, rfl, rfl⟩ := hO.forms
      obtain ⟨v', w4, hrun, hrow2, hgr, hvB⟩ := append_row 23 Tryz.underlying23 hrow.out (by simp) hB12 hs12 (by omega) hO (by rw [hql.out]; omega)
      rw [← hsnoc.out] at hrow2
      have hg4 : Below (w.heap.size + 2) wr w4 := (((hB12.mono (by omega)).alloc (by have := hB12.size; omega) _).trans (Below.grown (Below.refl _ _) hgr (by have := hB12.size; simp; omega) hvB))
      have hD1 := hC1.out.below hg4 (by omega)
      have hD2 := hC2.out.below hg4 (by omega)
      have hB4 := hB.out.trans (hg4.mono (by omega))
      clear hcall hO hB2 hB12 hs12 hgr hvB hg4 hrow hC1 hC2 hB a0 a1 a2 a3 hsnoc
      replace hrun := Lib.hid hrun
      replace hrow2 := Lib.hid hrow2
      replace hD1 := Lib.hid hD1
      replace hD2 := Lib.hid hD2
      replace hB4 := Lib.hid hB4
      go_wp2_with (at_builtin; refine jl_append_run (by rfl) _ _ 23 23 rfl u3 (.slice (some ⟨w2.heap.size, 0, none⟩) 1 1) _ rfl rfl hrun.out ?_)
      go_roundw
      case rel => exact ⟨q + 1, by omega, by go_num, hrow2.out, hD1.out, hD2.out, hB4.out⟩
      case measure => simp [intOf]; omega
    · have hfull : (zs.take q).map (·.1) = l := by rw [List.take_of_length_le (by omega), hz.out]
      rw [hfull] at hrow
      have hcl := hnl.out wr hB
      obtain ⟨_, _, A3, c3, _, hv3, _, _⟩ := hrow.kids
      have hbs := hB.size
      clear hw hnl ih hfull
      replace hrow := Lib.hid hrow
      replace hcl := Lib.hid hcl
      have x12 : wr.cell? ⟨w.heap.size, 2, none⟩ = some (.slice An n.length cn) := hC1.cell 2
      have hv3' := Lib.hid hv3
      clear hv3
      go_wp2_with fail
      refine hcl.out.mono ?_
      rintro e w2 ⟨vN, gn, rfl, hgn, hN, hB2⟩
      obtain ⟨A4, c4, rfl, _⟩ := id hN
      have hv4 := hv3'.out
      subst hv4
      have hO := mk_own (k := k) (s := s) hkd.1 hkd.2 hrow.out hB2 (by omega) hgn hN
      have hD1 := hC1.below hB2 hsz
      have hD2 := hC2.below hB2 hsz2
      have hB3 := hB.trans (hB2.mono hbs)
      have p0 := hD1.cell 0
      have p1 := hD1.cell 1
      have p2 := hD1.cell 2
      have p3 := hD1.cell 3
      have p4 := hD1.froz 2
      have p5 := hD1.froz 3
      have r0 := hD2.cell 0
      have r1 := hD2.cell 1
      have r2 := hD2.cell 2
      have r3 := hD2.cell 3
      have s0 := hD2.froz 0
      have s1 := hD2.froz 1
      have s2 := hD2.froz 2
      have s3 := hD2.froz 3
      simp only [List.getElem?_toArray, List.getElem?_cons_zero, List.getElem?_cons_succ] at p0 p1 p2 p3 r0 r1 r2 r3
      clear hcl hrow hN hB2 hC1 hC2 hB x12
      replace hO := Lib.hid hO
      replace hD1 := Lib.hid hD1
      replace hD2 := Lib.hid hD2
      replace hB3 := Lib.hid hB3
      go_wp2_with fail
      refine bodyPost_ret (v := .agg #[.int .u8 k, .string s, .slice A4 n.length c4, .slice A3 l.length c3]) (by simp [results, Tryz.results84, go_sem, r0, r1, r2, r3]) rfl ⟨_, _, rfl, ?_, ?_⟩
      · refine OwnJ.keep _ hO.out (fun b h1 _ => ?_) (by omega) (by simp [World.setCell])
        rw [Below.heap_setCell _ _ _ _ (by simp; omega), Below.heap_setCell _ _ _ _ (by simp; omega), Below.heap_setCell _ _ _ _ (by simp; omega), Below.heap_setCell _ _ _ _ (by simp; omega), Below.heap_setCell _ _ _ _ (by simp; omega), Below.heap_setCell _ _ _ _ (by simp; omega)]
      · exact (((((hB3.out.setCell (by simp) _).setCell (by simp) _).setCell (by simp) _).setCell (by simp) _).setCell (by simp) _).setCell (by simp) _
set_option maxHeartbeats 2000000 in
theorem rpcNone_any (j : Jsn) (X : Nat → Prop) (w : World) (vn vl : Value) (hV : JV w X j vn vl) (hbk : jbulk j ≤ 1000000000000000) :
    Calls Tryz.prog 83 #[jvV j vn vl] w fun e w' => e = .returned (.bool (jsame j zeroJ)) ∧ Below w.heap.size w w' := by
  obtain ⟨W0, hW0⟩ : ∃ W0, w.alloc (.cells #[.int .u8 j.kind, .string j.text, vn, vl] 25) = W0 := ⟨_, rfl⟩
  have hB0 : Below w.heap.size w W0 := by rw [← hW0]; exact (Below.refl _ _).alloc (Nat.le_refl _) _
  have hC0 : Cel W0 w.heap.size 25 #[.int .u8 j.kind, .string j.text, vn, vl] := by rw [← hW0]; exact Cel.fresh _ _ _
  have hc := Lib.hid (jsnSame_any j zeroJ X X W0 _ _ _ _ (hV.later hB0) (zero_jv W0 X) hbk (by have := zeroJ_bulk; omega))
  obtain ⟨An, nn, cn, Al, nl, cl, rfl, rfl⟩ := hV.forms
  obtain ⟨R, hR⟩ : ∃ R, jsame j zeroJ = R := ⟨_, rfl⟩
  rw [hR] at hc ⊢
  clear hR hV hbk
  obtain ⟨p0, p1, p2, p3⟩ := hC0.c4
  replace hW0 := Lib.hid hW0
  replace hB0 := Lib.hid hB0
  clear hC0
  unfold jvV
  go_enter Tryz.func83, Tryz.ntmps83
  go_upto_region 1 with fail
  rw [hW0.out]
  clear hW0
  go_wp2_with fail
  refine hc.out.mono ?_
  rintro e w1 ⟨rfl, hb⟩
  have hz := hB0.out.size
  have hf := Lib.hid (hB0.out.trans (hb.mono hz))
  clear p0 p1 p2 p3 hb hc
  go_wp2_with fail
  go_ret
  exact ⟨rfl, hf.out⟩
set_option maxHeartbeats 2000000 in
theorem rpcStr_any (s : ByteArray) (w : World) :
    Calls Tryz.prog 85 #[.string s] w fun e w' => e = .returned (.agg #[.int .u8 5, .string s, .slice none 0 0, .slice none 0 0]) ∧ Below w.heap.size w w' := by
  go_enter Tryz.func85, Tryz.ntmps85
  obtain ⟨dj, hd1, hd2⟩ := jsnDesc
  replace hd1 := Lib.hid hd1
  replace hd2 := Lib.hid hd2
  go_wp2
  exact bodyPost_ret (results_cel1 Tryz.results85 _ _ _ _ _ dj rfl (Cel.fresh w 25 _) hd1.out hd2.out jsnInfo) rfl ⟨rfl, (Below.refl _ _).alloc (Nat.le_refl _) _⟩
def ObjR (W : World) (B : Nat) (o : Jsn) (vN vL : Value) (ws : List OE) : Prop :=
  W.ownsRow B 9 1 vN o.names.length (o.names.map Value.string) ∧ RowW W B 9 25 vL o.list ws ∧ ApartN vN vL ws
theorem ObjR.keep {W W' : World} {B : Nat} {o : Jsn} {vN vL : Value} {ws : List OE} (h : ObjR W B o vN vL ws) (hk : ∀ k, B ≤ k → k < W.heap.size → W'.heap[k]? = W.heap[k]?) (hs : W.heap.size ≤ W'.heap.size) : ObjR W' B o vN vL ws :=
  ⟨ownRow_keep h.1 (fun g hg => by have := h.1.lt g hg; exact hk g this.1 this.2), h.2.1.keep hk hs, h.2.2⟩
theorem ObjR.nil (W : World) (B : Nat) (k : Int) (s : ByteArray) : ObjR W B ⟨k, s, [], []⟩ (.slice none 0 0) (.slice none 0 0) [] :=
  ⟨⟨rfl, .inl ⟨rfl, rfl⟩⟩, ⟨rfl, ⟨rfl, .inl ⟨rfl, rfl⟩⟩, fun i x u h => by simp at h, fun i j u z _ h => by simp at h⟩, fun gn h => by cases h⟩
set_option maxRecDepth 100000 in
theorem ObjR.name {W : World} {B : Nat} {o : Jsn} {vN vL : Value} {ws : List OE} (h : ObjR W B o vN vL ws) (hB : B ≤ W.heap.size) (S : ByteArray) (hn : o.names.length ≤ 1000000) :
    ∃ v' w4, (Builtin.append_ #[22, 22] 22 #[vN, .slice (some ⟨W.heap.size, 0, none⟩) 1 1]).run Tryz.prog (W.alloc (.cells #[.string S] 9)) = .ok v' w4 ∧
      ObjR w4 B ⟨o.kind, o.text, o.names ++ [S], o.list⟩ v' vL ws ∧ (W.alloc (.cells #[.string S] 9)).grownBy w4 vN.ownBlock ∧ W.heap.size < w4.heap.size ∧ (v'.ownBlock = vN.ownBlock ∨ ∃ k, v'.ownBlock = some k ∧ W.heap.size ≤ k) := by
  obtain ⟨q2, q3, q4⟩ := h
  obtain ⟨i0, hi0, hz0, hz1, hz2⟩ := info_parts infoS
  obtain ⟨v', w4, hrun, r2, r3, _, r5⟩ := run_append_own_at (P := Tryz.prog) (W.alloc (.cells #[.string S] 9)) B 22 22 9 i0 _ 1 16 Tryz.underlying22 hi0 hz0 hz1 hz2 rfl (by decide) vN o.names.length (o.names.map Value.string) (q2.alloc _) ⟨W.heap.size, 0, none⟩ 1 1 [.string S] rfl
    (fun j u hu => by
      have hadd : (⟨W.heap.size, 0, none⟩ : Addr).add j = ⟨W.heap.size, j, none⟩ := by unfold Addr.add; split <;> simp_all
      rw [hadd, (Cel.fresh W 9 #[.string S]).cell]
      simpa using hu)
    (fun u hu => by simp at hu; rw [hu]; rfl) (by unfold maxLen; omega) (by omega) (by simp; omega)
  have hvb : ∀ g', Value.ownBlock v' = some g' → Value.ownBlock vN = some g' ∨ W.heap.size + 1 = g' := fun g' hg => by
    rcases r5 with e | e
    · exact .inl (e ▸ hg)
    · right; rw [e] at hg; injection hg with hg; simpa using hg
  have hsz : W.heap.size < w4.heap.size := by have := r3.size; simp at this; omega
  have hblk : ∀ k, k < W.heap.size → Value.ownBlock vN ≠ some k → w4.heap[k]? = W.heap[k]? := fun k hk hne =>
    (r3.block k (by simp; omega) (fun e => hne e.symm)).trans (Below.heap_alloc W _ k hk)
  have hv5 : v'.ownBlock = vN.ownBlock ∨ ∃ k, v'.ownBlock = some k ∧ W.heap.size ≤ k := by
    rcases r5 with e | e
    · exact .inl e
    · exact .inr ⟨_, e, by simp⟩
  refine ⟨v', w4, hrun, ⟨?_, ?_, ?_⟩, r3, hsz, hv5⟩
  · have : (o.names ++ [S]).map Value.string = o.names.map Value.string ++ [.string S] := by simp
    rw [this, List.length_append]
    exact r2
  · refine ⟨q3.1, ownRow_keep q3.2.1 (fun k hk => ?_), fun i x u hx hu => ?_, q3.2.2.2⟩
    · have := q3.2.1.lt k hk
      exact hblk k this.2 (fun e => (q4 k e).1 hk)
    · obtain ⟨p1, p2, p3, p4, p5⟩ := q3.2.2.1 i x u hx hu
      exact ⟨p1, p2, by omega, p4, OwnJ.keep x p5 (fun c hc1 hc2 => hblk c (by omega) (fun e => (q4 c e).2 u (List.mem_of_getElem? hu) ⟨hc1, hc2⟩)) (Nat.le_refl _) (Nat.le_refl _)⟩
  · intro gn hgn
    rcases hvb gn hgn with e | e
    · exact q4 gn e
    · refine ⟨fun e2 => ?_, fun u hu => ?_⟩
      · have := q3.2.1.lt gn e2; omega
      · have := q3.ends u hu; omega
set_option maxRecDepth 100000 in
theorem ObjR.value {W w2 : World} {B : Nat} {o x : Jsn} {vN vL xn xl : Value} {ws : List OE} (h : ObjR W B o vN vL ws) (hB : B ≤ W.heap.size) (h12 : Below W.heap.size W w2) (hx : OwnJ w2 9 25 x W.heap.size w2.heap.size xn xl) (hl : o.list.length ≤ 1000000000000) :
    ∃ v' w4, (Builtin.append_ #[23, 23] 23 #[vL, .slice (some ⟨w2.heap.size, 0, none⟩) 1 1]).run Tryz.prog (w2.alloc (.cells #[.int .u8 x.kind, .string x.text, xn, xl] 25)) = .ok v' w4 ∧
      ObjR w4 B ⟨o.kind, o.text, o.names, o.list ++ [x]⟩ vN v' (ws ++ [(xn, xl, W.heap.size, w2.heap.size)]) ∧ (w2.alloc (.cells #[.int .u8 x.kind, .string x.text, xn, xl] 25)).grownBy w4 vL.ownBlock ∧ (v'.ownBlock = vL.ownBlock ∨ ∃ k, v'.ownBlock = some k ∧ W.heap.size ≤ k) := by
  obtain ⟨i0, hi0, hz0, hz1, hz2⟩ := info_parts infoJ
  have hs := h12.size
  have h2 := h.keep (W' := w2) (fun k _ hk => h12.block k hk) hs
  have hend := h.2.1.ends
  have hlt := h.2.1.2.1.lt
  have hnt := h.1.lt
  obtain ⟨Ax, nx, cx, Ay, ny, cy, e1, e2⟩ := hx.forms
  obtain ⟨W3, hW3⟩ : ∃ W3, w2.alloc (.cells #[.int .u8 x.kind, .string x.text, xn, xl] 25) = W3 := ⟨_, rfl⟩
  have hs3 : W3.heap.size = w2.heap.size + 1 := by rw [← hW3]; simp
  have hb3 : ∀ k, k < w2.heap.size → W3.heap[k]? = w2.heap[k]? := fun k hk => by rw [← hW3]; exact Below.heap_alloc w2 _ k hk
  have h3 := h2.keep (W' := W3) (fun k _ hk => hb3 k hk) (by omega)
  have hx3 := OwnJ.keep (w' := W3) x hx (fun k _ hk => hb3 k hk) (Nat.le_refl _) (Nat.le_refl _)
  have hcf : Cel W3 w2.heap.size 25 #[.int .u8 x.kind, .string x.text, xn, xl] := by rw [← hW3]; exact Cel.fresh _ _ _
  rw [hW3]
  clear hW3
  obtain ⟨v', w4, hrun, r2, r3, _, r5⟩ := run_append_own_at (P := Tryz.prog) W3 B 23 23 25 i0 _ 4 72 Tryz.underlying23 hi0 hz0 hz1 hz2 rfl (by decide) vL o.list.length (rowCells o.list ws) h3.2.1.2.1 ⟨w2.heap.size, 0, none⟩ 1 1 (encJ (x, xn, xl)) rfl
    (fun j u hu => by
      have hadd : (⟨w2.heap.size, 0, none⟩ : Addr).add j = ⟨w2.heap.size, j, none⟩ := by unfold Addr.add; split <;> simp_all
      rw [hadd, hcf.cell]
      simpa [encJ] using hu)
    (fun u hu => by subst e1; subst e2; simp [encJ] at hu; rcases hu with rfl | rfl | rfl | rfl <;> rfl) (by unfold maxLen; omega) (by omega) (by omega)
  have hvb : v'.ownBlock = vL.ownBlock ∨ ∃ k, v'.ownBlock = some k ∧ W3.heap.size ≤ k := by
    rcases r5 with e | e
    · exact .inl e
    · exact .inr ⟨_, e, Nat.le_refl _⟩
  have hrow := RowW.snoc2 h3.2.1 hend hB hs (by omega) hx3 (fun g hg => by have := hlt g hg; omega) r2 r3 hvb
  refine ⟨v', w4, hrun, ⟨?_, hrow, ?_⟩, r3, hvb.imp id (fun ⟨k, e, hk⟩ => ⟨k, e, by omega⟩)⟩
  · refine ownRow_keep h3.1 (fun g hg => ?_)
    have := hnt g hg
    exact r3.block g (by omega) (fun e => (h.2.2 g hg).1 e.symm)
  · intro gn hgn
    have := hnt gn hgn
    refine ⟨fun e => ?_, fun u hu => ?_⟩
    · rcases hvb with e' | ⟨k, e', hk⟩
      · exact (h.2.2 gn hgn).1 (by rw [← e']; exact e)
      · rw [e'] at e; injection e with e; omega
    · rw [List.mem_append] at hu
      rcases hu with hu | hu
      · exact (h.2.2 gn hgn).2 u hu
      · simp at hu; subst hu; dsimp only; omega
end Go.Proofs.YtdjfoabinjfnfaaGreatDoor
namespace Go.Proofs.YtdjfoabinjfnfaaGreatDoor
section
variable {P : Program} {ops : Array Oper} {Q : Exit → Act → World → Prop} {md : Region.Mode} {T S : World → Prop} {q : Nat}
def wpAnyT (P : Program) (md : Region.Mode) (ops : Array Oper) (Q : Exit → Act → World → Prop) (T S : World → Prop) (q : Nat) : Nat → Array Bool → Act → World → Prop
  | 0, listed, a, w => Region.ready md ops listed = [] ∧ Q .normal a w
  | fuel + 1, listed, a, w => (Region.ready md ops listed = [] → Q .normal a w) ∧
    ∀ i ∈ Region.ready md ops listed, wpOp P ops Q i (fun a' w' => (((listed.setIfInBounds i true).getD q true = false → S w') ∧ T w') ∧ wpAnyT P md ops Q T S q fuel (listed.setIfInBounds i true) a' w') a w
theorem wpAny_of_T : ∀ (fuel : Nat) (listed : Array Bool) (a : Act) (w : World), wpAnyT P md ops Q T S q fuel listed a w → wpAny P md ops Q fuel listed a w
  | 0, _, _, _, h => h
  | fuel + 1, _, _, _, h => ⟨h.1, fun i hi => wpOp_mono (fun a' w' h' => wpAny_of_T fuel _ a' w' h'.2) (h.2 i hi)⟩
theorem wpAnyT_first {i : Nat} {oi oq : Oper} {v : Value} (hi : ops[i]? = some oi) (hq : ops[q]? = some oq) (hqi : ∃ e ∈ oq.after, Region.binds md e = true ∧ e.on = i) (hsel : ∀ (j : Nat) (o : Oper) cs b, ops[j]? = some o → o.op ≠ .select cs b)
    (hQ : ∀ c a w, Q (.panic c) (a.put oi.dst v) w → Q (.panic c) a w) : ∀ (fuel : Nat) (listed : Array Bool) (a : Act) (w : World),
      (∀ j oj, ops[j]? = some oj → j ≠ i → listed.getD j true = false → (∀ e ∈ oj.after, Region.binds md e = true → e.on ≠ i) → oi.apart ops oj = true) →
      i ∈ Region.ready md ops listed → YieldsIf P ops S oi v a → S w → T w → listed.getD q true = false →
      wpAnyT P md ops Q T S q fuel (listed.setIfInBounds i true) (a.put oi.dst v) w → wpAnyT P md ops Q T S q (fuel + 1) listed a w := by
  intro fuel
  induction fuel with
  | zero =>
    intro listed a w _ hr hy hS hT _ H
    refine ⟨fun h => (by rw [h] at hr; cases hr), fun j hj => ?_⟩
    by_cases hji : j = i
    · subst hji; exact hy.wpOp hi hS ⟨⟨fun _ => hS, hT⟩, H⟩
    · have := ready_mono hj hji
      rw [H.1] at this
      cases this
  | succ fuel ih =>
    intro listed a w hfree hr hy hS hT hlq H
    refine ⟨fun h => (by rw [h] at hr; cases hr), fun j hj => ?_⟩
    by_cases hji : j = i
    · subst hji; exact hy.wpOp hi hS ⟨⟨fun _ => hS, hT⟩, H⟩
    · have h1 := H.2 j (ready_mono hj hji)
      obtain ⟨hjun, oj, hoj, hall⟩ := mem_ready.1 hj
      have hnot : ∀ e ∈ oj.after, Region.binds md e = true → e.on ≠ i := fun e he hb heq => by
        have h1 := hall e he hb
        have h0 := (mem_ready.1 hr).1
        rw [heq] at h1
        rcases Nat.lt_or_ge i listed.size with h' | h'
        · simp [h'] at h0 h1; rw [h0] at h1; cases h1
        · simp [Array.getElem?_eq_none h'] at h1
      have hjq : j ≠ q := fun e => by
        subst e
        rw [hoj] at hq
        injection hq with hq
        subst hq
        obtain ⟨e, he, hb, hei⟩ := hqi
        exact hnot e he hb hei
      have h2 := wpOp_putIf hoj (hfree j oj hoj hji hjun hnot) (fun cs b => hsel i oi cs b hi) (fun cs b => hsel j oj cs b hoj) hQ hy h1
      have hfree' : ∀ k ok, ops[k]? = some ok → k ≠ i → (listed.setIfInBounds j true).getD k true = false → (∀ e ∈ ok.after, Region.binds md e = true → e.on ≠ i) → oi.apart ops ok = true := fun k ok hk hki hun hno => by
        refine hfree k ok hk hki ?_ hno
        by_cases hjk : j = k
        · subst hjk; exact hjun
        · rw [getD_set_ne true hjk] at hun; exact hun
      have hq1 : (listed.setIfInBounds j true).getD q true = false := by rw [getD_set_ne true hjq]; exact hlq
      have hiq : i ≠ q := fun e => by
        subst e
        have h0 := (mem_ready.1 hr).2
        obtain ⟨o, ho, hall⟩ := h0
        rw [hq] at ho
        injection ho with ho
        subst ho
        obtain ⟨e, he, hb, hei⟩ := hqi
        have h1 := hall e he hb
        rw [hei] at h1
        rcases Nat.lt_or_ge i listed.size with h' | h'
        · simp [h'] at hlq h1; rw [hlq] at h1; cases h1
        · simp [Array.getElem?_eq_none h'] at h1
      have hq2 : ((listed.setIfInBounds i true).setIfInBounds j true).getD q true = false := by rw [getD_set_ne true hjq, getD_set_ne true hiq]; exact hlq
      refine wpOp_mono (fun a' w' h3 => ⟨⟨fun _ => h3.2.1.1 hq2, h3.2.1.2⟩, ih (listed.setIfInBounds j true) a' w' hfree' (ready_mono hr (Ne.symm hji)) h3.1 (h3.2.1.1 hq2) h3.2.1.2 hq1 ?_⟩) h2
      rw [Array.setIfInBounds_comm _ _ hji]
      exact h3.2.2
theorem wpAnyT_firstW {i : Nat} {oi : Oper} {v : Value} (hi : ops[i]? = some oi) (hiq : i ≠ q) (hsel : ∀ (j : Nat) (o : Oper) cs b, ops[j]? = some o → o.op ≠ .select cs b)
    (hQ : ∀ c a w, Q (.panic c) (a.put oi.dst v) w → Q (.panic c) a w) : ∀ (fuel : Nat) (listed : Array Bool) (a : Act) (w : World),
      (∀ j oj, ops[j]? = some oj → j ≠ i → listed.getD j true = false → (∀ e ∈ oj.after, Region.binds md e = true → e.on ≠ i) → oi.apart ops oj = true) →
      i ∈ Region.ready md ops listed → YieldsIf P ops T oi v a → (listed.getD q true = false → S w) → T w →
      wpAnyT P md ops Q T S q fuel (listed.setIfInBounds i true) (a.put oi.dst v) w → wpAnyT P md ops Q T S q (fuel + 1) listed a w := by
  intro fuel
  induction fuel with
  | zero =>
    intro listed a w _ hr hy hS hT H
    refine ⟨fun h => (by rw [h] at hr; cases hr), fun j hj => ?_⟩
    by_cases hji : j = i
    · subst hji; exact hy.wpOp hi hT ⟨⟨fun h => hS (by rw [getD_set_ne true hiq] at h; exact h), hT⟩, H⟩
    · have := ready_mono hj hji
      rw [H.1] at this
      cases this
  | succ fuel ih =>
    intro listed a w hfree hr hy hS hT H
    refine ⟨fun h => (by rw [h] at hr; cases hr), fun j hj => ?_⟩
    by_cases hji : j = i
    · subst hji; exact hy.wpOp hi hT ⟨⟨fun h => hS (by rw [getD_set_ne true hiq] at h; exact h), hT⟩, H⟩
    · have h1 := H.2 j (ready_mono hj hji)
      obtain ⟨hjun, oj, hoj, hall⟩ := mem_ready.1 hj
      have hnot : ∀ e ∈ oj.after, Region.binds md e = true → e.on ≠ i := fun e he hb heq => by
        have h1 := hall e he hb
        have h0 := (mem_ready.1 hr).1
        rw [heq] at h1
        rcases Nat.lt_or_ge i listed.size with h' | h'
        · simp [h'] at h0 h1; rw [h0] at h1; cases h1
        · simp [Array.getElem?_eq_none h'] at h1
      have h2 := wpOp_putIf hoj (hfree j oj hoj hji hjun hnot) (fun cs b => hsel i oi cs b hi) (fun cs b => hsel j oj cs b hoj) hQ hy h1
      have hfree' : ∀ k ok, ops[k]? = some ok → k ≠ i → (listed.setIfInBounds j true).getD k true = false → (∀ e ∈ ok.after, Region.binds md e = true → e.on ≠ i) → oi.apart ops ok = true := fun k ok hk hki hun hno => by
        refine hfree k ok hk hki ?_ hno
        by_cases hjk : j = k
        · subst hjk; exact hjun
        · rw [getD_set_ne true hjk] at hun; exact hun
      have hsw : ((listed.setIfInBounds i true).setIfInBounds j true).getD q true = (listed.setIfInBounds j true).getD q true := by
        rw [Array.setIfInBounds_comm _ _ (Ne.symm hji), getD_set_ne true hiq]
      refine wpOp_mono (fun a' w' h3 => ⟨⟨fun h => h3.2.1.1 (hsw.trans h), h3.2.1.2⟩, ih (listed.setIfInBounds j true) a' w' hfree' (ready_mono hr (Ne.symm hji)) h3.1 (fun h => h3.2.1.1 (hsw.trans h)) h3.2.1.2 ?_⟩) h2
      rw [Array.setIfInBounds_comm _ _ hji]
      exact h3.2.2
theorem wpAnyT_takeW {i : Nat} {oi : Oper} {v : Value} {fuel : Nat} {listed : Array Bool} {a : Act} {w : World} (hi : ops[i]? = some oi)
    (hs : Region.noSelect ops = true) (hf : Region.free md ops listed i = true) (hr : (Region.ready md ops listed).contains i = true) (hiq : i ≠ q)
    (hQ : ∀ c a w, Q (.panic c) (a.put oi.dst v) w → Q (.panic c) a w) (hy : YieldsIf P ops T oi v a) (hS : S w) (hT : T w)
    (h : wpAnyT P md ops Q T S q fuel (listed.setIfInBounds i true) (a.put oi.dst v) w) : wpAnyT P md ops Q T S q (fuel + 1) listed a w :=
  wpAnyT_firstW hi hiq (Region.noSelect_spec hs) hQ fuel listed a w (Region.free_spec hi hf) (by simpa using hr) hy (fun _ => hS) hT h
theorem wpAnyT_take {i : Nat} {oi : Oper} {v : Value} {fuel : Nat} {listed : Array Bool} {a : Act} {w : World} (hi : ops[i]? = some oi)
    (hs : Region.noSelect ops = true) (hf : Region.free md ops listed i = true) (hr : (Region.ready md ops listed).contains i = true) (hw : waitsB md ops q i = true) (hl : listed.getD q true = false)
    (hQ : ∀ c a w, Q (.panic c) (a.put oi.dst v) w → Q (.panic c) a w) (hy : YieldsIf P ops S oi v a) (hS : S w) (hT : T w)
    (h : wpAnyT P md ops Q T S q fuel (listed.setIfInBounds i true) (a.put oi.dst v) w) : wpAnyT P md ops Q T S q (fuel + 1) listed a w := by
  unfold waitsB at hw
  split at hw
  · rename_i oq hq
    rw [Array.any_eq_true] at hw
    obtain ⟨k, hk, hb⟩ := hw
    simp only [Bool.and_eq_true, decide_eq_true_eq] at hb
    exact wpAnyT_first hi hq ⟨_, Array.getElem_mem hk, hb.1, hb.2⟩ (Region.noSelect_spec hs) hQ fuel listed a w (Region.free_spec hi hf) (by simpa using hr) hy hS hT hl h
  · cases hw
theorem wpAnyT_done {fuel : Nat} {listed : Array Bool} {a : Act} {w : World} (hr : Region.ready md ops listed = []) (h : Q .normal a w) : wpAnyT P md ops Q T S q fuel listed a w := by
  cases fuel with
  | zero => exact ⟨hr, h⟩
  | succ n => exact ⟨fun _ => h, fun i hi => by rw [hr] at hi; cases hi⟩
def StepT (P : Program) (ops : Array Oper) (Q : Exit → Act → World → Prop) (o : Oper) (a : Act) (w : World) (K' : Act → World → Prop) : Prop := if Region.wanted o (yielded ops a.tmps) = true then Oper.wp P o a w K' Q else K' (a.put o.dst undef) w
theorem wpAnyT_one {i : Nat} {o : Oper} {fuel : Nat} {listed : Array Bool} {a : Act} {w : World} (hr : Region.ready md ops listed = [i]) (ho' : ops.toList[i]? = some o)
    (h : ∀ K' : Act → World → Prop, Shut (∀ a w, ((listed.setIfInBounds i true).getD q true = false → S w) → T w → wpAnyT P md ops Q T S q fuel (listed.setIfInBounds i true) a w → K' a w) → if Region.wanted o (yielded ops a.tmps) = true then Oper.wp P o a w K' Q else K' (a.put o.dst undef) w) : wpAnyT P md ops Q T S q (fuel + 1) listed a w := by
  have ho : ops[i]? = some o := by rw [← Array.getElem?_toList]; exact ho'
  refine ⟨fun h0 => ?_, fun j hj => ?_⟩
  · rw [hr] at h0; cases h0
  · rw [hr] at hj
    obtain rfl : j = i := by simpa using hj
    exact wpOp_step ho (fun K' hK => h K' fun a w h1 h2 h3 => hK a w ⟨⟨h1, h2⟩, h3⟩)
theorem wp_region_T {id : Nat} {a : Act} {w : World} (q : Nat) (T S : World → Prop) (hm : P.follows .mixedOrders = true) (h : wpAnyT P .any ops Q T S q ops.size (Array.replicate ops.size false) a w.drew) : (Code.region id ops true).wp P Q a w :=
  wp_region_any hm (wpAny_of_T _ _ _ _ h)
end
end Go.Proofs.YtdjfoabinjfnfaaGreatDoor
namespace Go.Proofs.YtdjfoabinjfnfaaGreatDoor
open Go.RowKit
def putJ (o : Jsn) (nm : ByteArray) (x : Jsn) : Jsn := if jsame x zeroJ = true then o else ⟨o.kind, o.text, o.names ++ [nm], o.list ++ [x]⟩
def PutsEnd (b B : Nat) (o : Jsn) (vN vL : Value) (w : World) (e : Ending) (w' : World) : Prop :=
  e = .returned (.tuple #[]) ∧ ∃ vN' vL' ws', Cel w' b 25 #[.int .u8 o.kind, .string o.text, vN', vL'] ∧ ObjR w' B o vN' vL' ws' ∧ Below b w w' ∧
    (∀ k, k ≠ b → k < w.heap.size → vN.ownBlock ≠ some k → vL.ownBlock ≠ some k → w'.heap[k]? = w.heap[k]?) ∧
    (vN'.ownBlock = vN.ownBlock ∨ ∃ k, vN'.ownBlock = some k ∧ w.heap.size ≤ k) ∧ (vL'.ownBlock = vL.ownBlock ∨ ∃ k, vL'.ownBlock = some k ∧ w.heap.size ≤ k)
theorem own_form {w : World} {B k : Nat} {t : TypeId} {v : Value} {n : Nat} {xs : List Value} (h : w.ownsRow B t k v n xs) : ∃ A m c, v = .slice A m c := by
  rcases h.2 with ⟨e, _⟩ | ⟨g, cap, cur, e, _⟩
  · exact ⟨none, 0, 0, e⟩
  · exact ⟨_, _, cap, e⟩
set_option maxRecDepth 100000 in
set_option maxHeartbeats 8000000 in
theorem rpcPut_any (b B : Nat) (o x : Jsn) (X : Nat → Prop) (w : World) (vN vL xn xl : Value) (ws : List OE) (nm : ByteArray) (hC : Cel w b 25 #[.int .u8 o.kind, .string o.text, vN, vL]) (hO : ObjR w B o vN vL ws) (hb : b < B) (hB : B ≤ w.heap.size)
    (hx : JV w X x xn xl) (hX : ∀ k, X k → vN.ownBlock ≠ some k) (hn : o.names.length ≤ 1000000) (hl : o.list.length ≤ 1000000) (hbk : jbulk x ≤ 1000000000) :
    Calls Tryz.prog 82 #[.pointer (some ⟨b, 0, none⟩), .string nm, jvV x xn xl] w (PutsEnd b B (putJ o nm x) vN vL w) := by
  have hlN := hO.1.lt
  have hlL := hO.2.1.2.1.lt
  obtain ⟨A1, n1, c1, A2, n2, c2, rfl, rfl⟩ := hx.forms
  obtain ⟨NA, na, nc, rfl⟩ := own_form hO.1
  obtain ⟨LA, la, lc, rfl⟩ := own_form hO.2.1.2.1
  obtain ⟨W0, hW0⟩ : ∃ W0, w.alloc (.cells #[.int .u8 x.kind, .string x.text, .slice A1 n1 c1, .slice A2 n2 c2] 25) = W0 := ⟨_, rfl⟩
  have hb0 : Below w.heap.size w W0 := by rw [← hW0]; exact (Below.refl _ _).alloc (Nat.le_refl _) _
  have hcx : Cel W0 w.heap.size 25 #[.int .u8 x.kind, .string x.text, .slice A1 n1 c1, .slice A2 n2 c2] := by rw [← hW0]; exact Cel.fresh _ _ _
  have hNo := Lib.hid (rpcNone_any x X W0 _ _ (hx.later hb0) (by omega))
  replace hW0 := Lib.hid hW0
  replace hb0 := Lib.hid hb0
  replace hC := Lib.hid hC
  replace hO := Lib.hid hO
  replace hx := Lib.hid hx
  replace hX := Lib.hid hX
  obtain ⟨p0, p1, p2, p3⟩ := hcx.c4
  replace hcx := Lib.hid hcx
  unfold putJ
  obtain ⟨R, hR⟩ : ∃ R, jsame x zeroJ = R := ⟨_, rfl⟩
  rw [hR] at hNo ⊢
  clear hR
  obtain ⟨P, hP⟩ : ∃ P, (if R = true then o else ⟨o.kind, o.text, o.names ++ [nm], o.list ++ [x]⟩ : Jsn) = P := ⟨_, rfl⟩
  rw [hP]
  replace hP := Lib.hid hP
  unfold jvV
  go_enter Tryz.func82, Tryz.ntmps82
  go_upto_region 1 with fail
  rw [hW0.out]
  clear hW0
  go_wp2_with fail
  refine hNo.out.mono ?_
  rintro e w1 ⟨rfl, hb1⟩
  have hz0 := hb0.out.size
  have hlt0 := hcx.out.lt
  have hbw := Lib.hid (hb0.out.trans (hb1.mono hz0))
  have hcx1 := Lib.hid (hcx.out.below hb1 hlt0)
  have hz1 := hb1.size
  clear p0 p1 p2 p3 hb1 hNo hcx hb0
  cases R
  · replace hP := hP.out
    rw [if_neg (by simp)] at hP
    replace hP := Lib.hid hP
    have hC1 := hC.out.below hbw.out hC.out.lt
    have hO1 := hO.out.keep (W' := w1) (fun k _ hk => hbw.out.block k hk) hbw.out.size
    have hx1 := hx.out.later hbw.out
    have hCd := Lib.hid (show Cel w1.drew b 25 _ from hC1.drew)
    have hcxd := Lib.hid (show Cel w1.drew w.heap.size 25 _ from hcx1.out.drew)
    have hOd := Lib.hid (show ObjR w1.drew B o _ _ ws from hO1)
    have hxd := Lib.hid (hx1.drew)
    have hbd := Lib.hid (bel_drew hbw.out)
    have hzd : w1.drew.heap.size = w1.heap.size := rfl
    clear hC1 hO1 hx1 hcx1 hbw
    obtain ⟨v', w4, hrun, hO4, hg4, hs4, hvN⟩ := hOd.out.name (by omega) nm hn
    obtain ⟨NB, nb', nd, rfl⟩ := own_form hO4.1
    have hk4 : ∀ k, k < w1.heap.size → (Value.slice NA na nc).ownBlock ≠ some k → w4.heap[k]? = w1.drew.heap[k]? := fun k hk hne => (hg4.block k (by simp; omega) (fun e => hne e.symm)).trans (Below.heap_alloc w1.drew _ k hk)
    have hC4 : Cel w4 b 25 _ := (hk4 b (by omega) (fun e => by have := hlN b e; omega)).trans hCd.out
    have hcx4 : Cel w4 w.heap.size 25 _ := (hk4 w.heap.size (by omega) (fun e => by have := hlN _ e; omega)).trans hcxd.out
    have hx4 := JV.keep (w := w1.drew) (w' := w4) (Nat.le_of_lt hs4) (fun p hp hp2 => World.cell?_of_block (hk4 p.block hp2 (hX.out _ hp))) (fun _ h _ => h) x hxd.out
    have hOwn := Lib.hid (rpcOwn_any x X w4 _ _ hx4 (by omega))
    have hs4' : w1.heap.size < w4.heap.size := hs4
    obtain ⟨Wa, hWa⟩ : ∃ W, w1.drew.alloc (.cells #[.string nm] 9) = W := ⟨_, rfl⟩
    rw [hWa] at hrun
    have hCa : Cel Wa b 25 #[.int .u8 o.kind, .string o.text, .slice NA na nc, .slice LA la lc] := by rw [← hWa]; exact hCd.out.alloc _
    have hcxa : Cel Wa w.heap.size 25 #[.int .u8 x.kind, .string x.text, .slice A1 n1 c1, .slice A2 n2 c2] := by rw [← hWa]; exact hcxd.out.alloc _
    replace hWa := Lib.hid hWa
    replace hCa := Lib.hid hCa
    replace hcxa := Lib.hid hcxa
    replace hrun := Lib.hid hrun
    replace hC4 := Lib.hid hC4
    replace hcx4 := Lib.hid hcx4
    replace hO4 := Lib.hid hO4
    replace hk4 := Lib.hid hk4
    replace hg4 := Lib.hid hg4
    replace hvN := Lib.hid hvN
    clear hx4
    go_upto_region 2 with fail
    have hS := hCd
    refine wp_region_T 19 (fun W => Cel W w.heap.size 25 #[.int .u8 x.kind, .string x.text, .slice A1 n1 c1, .slice A2 n2 c2]) (fun W => Cel W b 25 #[.int .u8 o.kind, .string o.text, .slice NA na nc, .slice LA la lc]) (by kernel_rfl) ?_
    refine wpAnyT_take (i := 0) (v := .pointer (some ⟨b, 0, none⟩)) rfl (by kernel_rfl) (by kernel_rfl) (by kernel_rfl) (by kernel_rfl) (by rfl) (fun _ _ _ h => h) (Or.inl ⟨by rfl, by
      intro w' hSw
      try dsimp only at hSw
      skip
      go_simp⟩) hS.out hcxd.out ?_
    try simp only [Act.put, List.setIfInBounds_toArray]
    refine wpAnyT_take (i := 2) (v := .pointer (some ⟨b, 0, none⟩)) rfl (by kernel_rfl) (by kernel_rfl) (by kernel_rfl) (by kernel_rfl) (by rfl) (fun _ _ _ h => h) (Or.inl ⟨by rfl, by
      intro w' hSw
      try dsimp only at hSw
      skip
      go_simp⟩) hS.out hcxd.out ?_
    try simp only [Act.put]
    refine wpAnyT_take (i := 3) (v := .pointer (some ⟨b, 0, none⟩)) rfl (by kernel_rfl) (by kernel_rfl) (by kernel_rfl) (by kernel_rfl) (by rfl) (fun _ _ _ h => h) (Or.inl ⟨by rfl, by
      intro w' hSw
      try dsimp only at hSw
      skip
      go_simp⟩) hS.out hcxd.out ?_
    try simp only [Act.put]
    refine wpAnyT_take (i := 4) (v := .pointer (some ⟨b, 2, none⟩)) rfl (by kernel_rfl) (by kernel_rfl) (by kernel_rfl) (by kernel_rfl) (by rfl) (fun _ _ _ h => h) (Or.inl ⟨by rfl, by
      intro w' hSw
      try dsimp only at hSw
      skip
      go_simp⟩) hS.out hcxd.out ?_
    try simp only [Act.put]
    refine wpAnyT_take (i := 5) (v := .slice NA na nc) rfl (by kernel_rfl) (by kernel_rfl) (by kernel_rfl) (by kernel_rfl) (by rfl) (fun _ _ _ h => h) (Or.inl ⟨by rfl, by
      intro w' hSw
      try dsimp only at hSw
      have c2 := hSw.cell 2
      simp only [List.getElem?_toArray, List.getElem?_cons_zero, List.getElem?_cons_succ] at c2
      go_simp⟩) hS.out hcxd.out ?_
    try simp only [Act.put]
    refine wpAnyT_take (i := 6) (v := .string nm) rfl (by kernel_rfl) (by kernel_rfl) (by kernel_rfl) (by kernel_rfl) (by rfl) (fun _ _ _ h => h) (Or.inl ⟨by rfl, by
      intro w' hSw
      try dsimp only at hSw
      skip
      go_simp⟩) hS.out hcxd.out ?_
    try simp only [Act.put]
    refine wpAnyT_takeW (i := 9) (v := .pointer (some ⟨b, 0, none⟩)) rfl (by kernel_rfl) (by kernel_rfl) (by kernel_rfl) (by decide) (fun _ _ _ h => h) (Or.inl ⟨by rfl, by
      intro w' hSw
      go_simp⟩) hS.out hcxd.out ?_
    try simp only [Act.put]
    refine wpAnyT_takeW (i := 1) (v := .pointer (some ⟨b, 0, none⟩)) rfl (by kernel_rfl) (by kernel_rfl) (by kernel_rfl) (by decide) (fun _ _ _ h => h) (Or.inl ⟨by rfl, by
      intro w' hSw
      go_simp⟩) hS.out hcxd.out ?_
    try simp only [Act.put]
    refine wpAnyT_takeW (i := 10) (v := .pointer (some ⟨b, 0, none⟩)) rfl (by kernel_rfl) (by kernel_rfl) (by kernel_rfl) (by decide) (fun _ _ _ h => h) (Or.inl ⟨by rfl, by
      intro w' hSw
      go_simp⟩) hS.out hcxd.out ?_
    try simp only [Act.put]
    refine wpAnyT_takeW (i := 11) (v := .pointer (some ⟨b, 3, none⟩)) rfl (by kernel_rfl) (by kernel_rfl) (by kernel_rfl) (by decide) (fun _ _ _ h => h) (Or.inl ⟨by rfl, by
      intro w' hSw
      go_simp⟩) hS.out hcxd.out ?_
    try simp only [Act.put]
    refine wpAnyT_take (i := 12) (v := .slice LA la lc) rfl (by kernel_rfl) (by kernel_rfl) (by kernel_rfl) (by kernel_rfl) (by rfl) (fun _ _ _ h => h) (Or.inl ⟨by rfl, by
      intro w' hSw
      try dsimp only at hSw
      have c3 := hSw.cell 3
      simp only [List.getElem?_toArray, List.getElem?_cons_zero, List.getElem?_cons_succ] at c3
      go_simp⟩) hS.out hcxd.out ?_
    try simp only [Act.put]
    refine wpAnyT_takeW (i := 13) (v := .agg #[.int .u8 x.kind, .string x.text, .slice A1 n1 c1, .slice A2 n2 c2]) rfl (by kernel_rfl) (by kernel_rfl) (by kernel_rfl) (by decide) (fun _ _ _ h => h) (Or.inl ⟨by rfl, by
      intro w' hSw
      try dsimp only at hSw
      obtain ⟨m0, m1, m2, m3⟩ := hSw.c4
      go_simp⟩) hS.out hcxd.out ?_
    try simp only [Act.put]
    clear hS
    refine wpAnyT_one (i := 7) (by kernel_rfl) rfl (fun K hK => ?_)
    go_simp
    refine hK.out _ (w1.drew.alloc (.cells #[.string nm] 9)) (fun _ => hCd.out.alloc _) (hcxd.out.alloc _) ?_
    rw [hWa.out]
    clear hK
    try simp only [Act.put, List.setIfInBounds_toArray, List.set_cons_zero, List.set_cons_succ]
    refine wpAnyT_one (i := 8) (by kernel_rfl) rfl (fun K hK => ?_)
    refine jl_step_run (by rfl) (.tmp 14) (.tmp 16) 22 22 (by rfl) (.slice NA na nc) (.slice (some ⟨w1.heap.size, 0, none⟩) 1 1) _ w4 (by rfl) (by rfl) hrun.out ?_
    refine hK.out _ _ (fun _ => hC4.out) hcx4.out ?_
    clear hK hrun
    try simp only [Act.put, List.setIfInBounds_toArray, List.set_cons_zero, List.set_cons_succ]
    clear hCd hcxd hOd hxd
    refine wpAnyT_one (i := 14) (by kernel_rfl) rfl (fun K hK => ?_)
    go_simp
    refine hOwn.out.mono ?_
    rintro e w5 ⟨xn', xl', rfl, hOx, hb5⟩
    have hz5 := hb5.size
    obtain ⟨EA, ea, ec, EB, eb, ed, rfl, rfl⟩ := hOx.forms
    have hC5 := Lib.hid (hC4.out.below hb5 hC4.out.lt)
    have hcx5 := Lib.hid (hcx4.out.below hb5 hcx4.out.lt)
    refine hK.out _ _ (fun _ => hC5.out) hcx5.out ?_
    clear hK hOwn
    try simp only [Act.put, List.setIfInBounds_toArray, List.set_cons_zero, List.set_cons_succ]
    obtain ⟨v2, w7, hrun, hO7, hg7, hvL⟩ := hO4.out.value (by omega) hb5 hOx (by dsimp only; omega)
    obtain ⟨LB, lb, ld, rfl⟩ := own_form hO7.2.1.2.1
    replace hrun := Lib.hid hrun
    replace hO7 := Lib.hid hO7
    replace hg7 := Lib.hid hg7
    replace hvL := Lib.hid hvL
    replace hb5 := Lib.hid hb5
    replace hOx := Lib.hid hOx
    refine wpAnyT_one (i := 15) (by kernel_rfl) rfl (fun K hK => ?_)
    go_simp
    refine hK.out _ _ (fun _ => hC5.out.alloc _) (hcx5.out.alloc _) ?_
    clear hK
    try simp only [Act.put, List.setIfInBounds_toArray, List.set_cons_zero, List.set_cons_succ]
    have hz7 : w5.heap.size < w7.heap.size := by have := hg7.out.size; simp at this; omega
    have hk7 : ∀ k, k < w5.heap.size → (Value.slice LA la lc).ownBlock ≠ some k → w7.heap[k]? = w5.heap[k]? := fun k hk hne => (hg7.out.block k (by simp; omega) (fun e => hne e.symm)).trans (Below.heap_alloc w5 _ k hk)
    have hC7 : Cel w7 b 25 _ := (hk7 b (by omega) (fun e => by have := hlL b e; omega)).trans hC5.out
    have hcx7 : Cel w7 w.heap.size 25 _ := (hk7 w.heap.size (by omega) (fun e => by have := hlL _ e; omega)).trans hcx5.out
    refine wpAnyT_one (i := 16) (by kernel_rfl) rfl (fun K hK => ?_)
    refine jl_step_run (by rfl) (.tmp 21) (.tmp 24) 23 23 (by rfl) (.slice LA la lc) (.slice (some ⟨w5.heap.size, 0, none⟩) 1 1) _ w7 (by rfl) (by rfl) hrun.out ?_
    refine hK.out _ _ (fun _ => hC7) hcx7 ?_
    clear hK hrun
    try simp only [Act.put, List.setIfInBounds_toArray, List.set_cons_zero, List.set_cons_succ]
    have hS7 := Lib.hid hC7
    replace hk7 := Lib.hid hk7
    replace hcx7 := Lib.hid hcx7
    refine wpAnyT_takeW (i := 17) (v := .pointer (some ⟨b, 0, none⟩)) rfl (by kernel_rfl) (by kernel_rfl) (by kernel_rfl) (by decide) (fun _ _ _ h => h) (Or.inl ⟨by rfl, by
      intro w' hSw
      go_simp⟩) hS7.out hcx7.out ?_
    try simp only [Act.put, List.setIfInBounds_toArray]
    refine wpAnyT_takeW (i := 18) (v := .pointer (some ⟨b, 2, none⟩)) rfl (by kernel_rfl) (by kernel_rfl) (by kernel_rfl) (by decide) (fun _ _ _ h => h) (Or.inl ⟨by rfl, by
      intro w' hSw
      go_simp⟩) hS7.out hcx7.out ?_
    try simp only [Act.put]
    have x2 : w7.cell? ⟨b, 2, none⟩ = some (.slice NA na nc) := hC7.cell 2
    have f2 := hC7.froz 2
    obtain ⟨W8, hW8⟩ : ∃ W8, w7.setCell ⟨b, 2, none⟩ (.slice NB nb' nd) = W8 := ⟨_, rfl⟩
    have hC8 : Cel W8 b 25 #[.int .u8 o.kind, .string o.text, .slice NB nb' nd, .slice LA la lc] := by rw [← hW8]; exact Cel.set hC7 2 _
    have hB8 : Below b w7 W8 := by rw [← hW8]; exact (Below.refl _ _).setCell (p := ⟨b, 2, none⟩) (Nat.le_refl _) _
    have hk8 : ∀ k, k ≠ b → W8.heap[k]? = w7.heap[k]? := fun k hk => by rw [← hW8]; exact Below.heap_setCell w7 ⟨b, 2, none⟩ _ k hk
    have hz8 : W8.heap.size = w7.heap.size := by rw [← hW8]; simp
    replace hW8 := Lib.hid hW8
    replace hz8 := Lib.hid hz8
    replace hB8 := Lib.hid hB8
    replace hk8 := Lib.hid hk8
    have hcx8 : Cel W8 w.heap.size 25 _ := (hk8.out _ (by omega)).trans hcx7.out
    replace hC7 := Lib.hid hC7
    replace hcx8 := Lib.hid hcx8
    replace hC8 := Lib.hid hC8
    refine wpAnyT_one (i := 19) (by kernel_rfl) rfl (fun K hK => ?_)
    go_simp
    rw [hW8.out]
    refine hK.out _ _ (fun h => by cases h) hcx8.out ?_
    clear hK hS7 x2 f2
    try simp only [Act.put, List.setIfInBounds_toArray, List.set_cons_zero, List.set_cons_succ]
    refine wpAnyT_one (i := 20) (by kernel_rfl) rfl (fun K hK => ?_)
    go_simp
    refine hK.out _ _ (fun h => by cases h) hcx8.out ?_
    clear hK
    try simp only [Act.put, List.setIfInBounds_toArray, List.set_cons_zero, List.set_cons_succ]
    refine wpAnyT_one (i := 21) (by kernel_rfl) rfl (fun K hK => ?_)
    go_simp
    refine hK.out _ _ (fun h => by cases h) hcx8.out ?_
    clear hK
    try simp only [Act.put, List.setIfInBounds_toArray, List.set_cons_zero, List.set_cons_succ]
    have x3 : W8.cell? ⟨b, 3, none⟩ = some (.slice LA la lc) := hC8.out.cell 3
    have f3 := hC8.out.froz 3
    obtain ⟨W9, hW9⟩ : ∃ W9, W8.setCell ⟨b, 3, none⟩ (.slice LB lb ld) = W9 := ⟨_, rfl⟩
    have hC9 : Cel W9 b 25 #[.int .u8 o.kind, .string o.text, .slice NB nb' nd, .slice LB lb ld] := by rw [← hW9]; exact Cel.set hC8.out 3 _
    have hB9 : Below b W8 W9 := by rw [← hW9]; exact (Below.refl _ _).setCell (p := ⟨b, 3, none⟩) (Nat.le_refl _) _
    have hk9 : ∀ k, k ≠ b → W9.heap[k]? = W8.heap[k]? := fun k hk => by rw [← hW9]; exact Below.heap_setCell W8 ⟨b, 3, none⟩ _ k hk
    have hz9 : W9.heap.size = W8.heap.size := by rw [← hW9]; simp
    replace hW9 := Lib.hid hW9
    replace hz9 := Lib.hid hz9
    replace hB9 := Lib.hid hB9
    replace hk9 := Lib.hid hk9
    have hcx9 : Cel W9 w.heap.size 25 _ := (hk9.out _ (by omega)).trans hcx8.out
    replace hC9 := Lib.hid hC9
    replace hcx9 := Lib.hid hcx9
    refine wpAnyT_one (i := 22) (by kernel_rfl) rfl (fun K hK => ?_)
    go_simp
    rw [hW9.out]
    refine hK.out _ _ (fun h => by cases h) hcx9.out ?_
    clear hK x3 f3
    refine wpAnyT_done (by kernel_rfl) ?_
    go_wp2_with fail
    go_end0
    have hPe := hP.out
    subst hPe
    have hzz := hbd.out.size
    have hbb : Below b w1.drew w4 := ⟨hg4.out.os, hg4.out.tape, hg4.out.output, by omega, fun k hk => hk4.out k (by omega) (fun e => by have := hlN k e; omega)⟩
    have hb7 : Below b w5 w7 := ⟨hg7.out.os, hg7.out.tape, hg7.out.output, by omega, fun k hk => hk7.out k (by omega) (fun e => by have := hlL k e; omega)⟩
    have hbA : Below b w W9 := ((((hbd.out.mono (by omega)).trans hbb).trans (hb5.out.mono (by omega))).trans hb7).trans (hB8.out.trans hB9.out)
    refine ⟨rfl, _, _, _, hC9.out, hO7.out.keep (fun k hk1 hk2 => (hk9.out k (by omega)).trans (hk8.out k (by omega))) (by rw [hz9.out, hz8.out]; exact Nat.le_refl _), hbA, fun k hk1 hk2 hn1 hn2 => ?_, ?_, ?_⟩
    · rw [hk9.out k hk1, hk8.out k hk1, hk7.out k (by omega) hn2, hb5.out.block k (by omega), hk4.out k (by omega) hn1]
      exact hbd.out.block k (by omega)
    · exact hvN.out.imp id (fun ⟨k, e, hk⟩ => ⟨k, e, by omega⟩)
    · exact hvL.out.imp id (fun ⟨k, e, hk⟩ => ⟨k, e, by omega⟩)
  · replace hP := hP.out
    rw [if_pos rfl] at hP
    subst hP
    have hbz := hbw.out.size
    go_wp2_with fail
    go_end0
    refine ⟨rfl, _, _, ws, hC.out.below hbw.out hC.out.lt, hO.out.keep (fun k _ hk => hbw.out.block k hk) hbz, hbw.out.mono (by omega), fun k _ hk _ _ => hbw.out.block k hk, .inl rfl, .inl rfl⟩
end Go.Proofs.YtdjfoabinjfnfaaGreatDoor
