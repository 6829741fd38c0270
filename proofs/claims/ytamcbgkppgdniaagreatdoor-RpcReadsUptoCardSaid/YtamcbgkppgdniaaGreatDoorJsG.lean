/-
  The walks of slices.Clone over strings, and of json.own: a value in new memory.
-/
import Derived.Test.YtamcbgkppgdniaaGreatDoorJme
namespace Go.Proofs.YtamcbgkppgdniaaGreatDoor
open Go.RowKit

theorem jl_append_run {P : Program} {w w' : World} {ops : Array Oper} {rest : List Oper} {o : Oper} {a : Act} {Q : Exit → Act → World → Prop} (hw : Region.wanted o (yielded ops a.tmps) = true) (s x : Operand) (t1 t2 : TypeId)
    (hop : o.op = Op.call { callee := Callee.builtin Builtin.append, args := #[s, x], argTypes := #[t1, t2] }) (vs vx v : Value) (hs : a.eval s = vs) (hx : a.eval x = vx) (hrun : (Builtin.append_ #[t1, t2] o.type #[vs, vx]).run P w = .ok v w')
    (h : wpList P ops Q rest (a.put o.dst v) w') : wpList P ops Q (o :: rest) a w :=
  wpList_step fun K hK => by
    rw [if_pos hw]
    unfold Oper.wp
    simp [execOp, hop, resolve, invoke, builtin, hs, hx, hrun, Result.andThen]
    exact hK _ _ h
theorem infoJ : (Tryz.prog.info? 25).map (fun i => (i.zero, i.size, i.bytes)) = some (some (.agg #[.int .u8 0, .string ByteArray.empty, .slice none 0 0, .slice none 0 0]), 4, 72) := by kernel_rfl

def CloneEnd (L : List ByteArray) (w : World) (e : Ending) (w' : World) : Prop := ∃ v' gn, e = .returned v' ∧ w.heap.size ≤ gn ∧ NamO w' 9 w.heap.size w'.heap.size gn v' L ∧ Below w.heap.size w w'
theorem own_nam {w : World} {B : Nat} {v : Value} {L : List ByteArray} (h : w.ownsRow B 9 1 v L.length (L.map Value.string)) : ∃ gn, B ≤ gn ∧ NamO w 9 B w.heap.size gn v L := by
  rcases h.2 with ⟨rfl, h0⟩ | ⟨g, cap, cur, rfl, hg, hh, hnc, hcm, hcs, htk⟩
  · have : L = [] := List.eq_nil_of_length_eq_zero h0
    subst this
    exact ⟨B, Nat.le_refl _, none, 0, rfl, fun h => by simp at h⟩
  · refine ⟨g, hg, some ⟨g, 0, none⟩, cap, rfl, fun _ => ⟨rfl, hg, (Array.getElem?_eq_some_iff.1 hh).1, cur, hh, fun j x hx => ?_⟩⟩
    have h5 : (L.map Value.string)[j]? = some (.string x) := by rw [List.getElem?_map, hx]; rfl
    rw [← htk, List.getElem?_take] at h5
    split at h5
    · rwa [Array.getElem?_toList] at h5
    · cases h5
theorem cloneStr_any (X : Nat → Prop) (v : Value) (L : List ByteArray) (w : World) (hv : StrL w X v L) (hl : L.length ≤ 1000000000000) :
    Calls Tryz.prog 149 #[v] w (CloneEnd L w) := by
  obtain ⟨A, c, rfl, h1⟩ := hv
  by_cases h0 : L.length = 0
  · have e1 : L = [] := List.eq_nil_of_length_eq_zero h0
    subst e1
    rcases A with _ | a
    · refine (Tryz.slices_Clone_string_nil 0 c w).mono ?_
      rintro e w' ⟨rfl, rfl⟩
      exact ⟨_, w'.heap.size, rfl, Nat.le_refl _, ⟨none, 0, rfl, fun h => by simp at h⟩, Below.refl _ _⟩
    · refine (Tryz.slices_Clone_string_zero a c w).mono ?_
      rintro e w' ⟨v', rfl, hown, _, hB⟩
      obtain ⟨gn, hg, hN⟩ := own_nam (L := []) hown
      exact ⟨_, gn, rfl, hg, hN, hB⟩
  · obtain ⟨g, o, rfl, _, _, q1⟩ := h1 (by omega)
    refine (Tryz.slices_Clone_string g o L.length c L w (Nat.le_refl _) (by omega) (fun j hj => by rw [q1 j _ (List.getElem?_eq_getElem hj)]; simp [List.getD, hj])).mono ?_
    rintro e w' ⟨v', rfl, hown, _, hB⟩
    rw [List.take_of_length_le (Nat.le_refl _)] at hown
    obtain ⟨gn, hg, hN⟩ := own_nam hown
    exact ⟨_, gn, rfl, hg, hN, hB⟩

/-- append(row, x): x made behind the row. -/
theorem append_row (tSl : TypeId) (ht : Tryz.prog.underlying tSl = some (.slice 25)) {wr W1 w2 : World} {B : Nat} {v : Value} {l : List Jsn} {x : Jsn} {vn vl : Value} (h : RowO wr B 9 25 v l) (hs : wr.heap.size ≤ W1.heap.size) (h12 : Below wr.heap.size wr w2) (hs2 : W1.heap.size ≤ w2.heap.size) (hB : B ≤ wr.heap.size)
    (hx : OwnJ w2 9 25 x W1.heap.size w2.heap.size vn vl) (hl : l.length ≤ 1000000000000) :
    ∃ v' w4, (Builtin.append_ #[tSl, tSl] tSl #[v, .slice (some ⟨w2.heap.size, 0, none⟩) 1 1]).run Tryz.prog (w2.alloc (.cells #[.int .u8 x.kind, .string x.text, vn, vl] 25)) = .ok v' w4 ∧
      RowO w4 B 9 25 v' (l ++ [x]) ∧ (w2.alloc (.cells #[.int .u8 x.kind, .string x.text, vn, vl] 25)).grownBy w4 v.ownBlock ∧ ∀ g, v.ownBlock = some g → B ≤ g := by
  obtain ⟨i0, hi0, hz0, hz1, hz2⟩ := info_parts infoJ
  obtain ⟨ws, hw⟩ := h
  obtain ⟨Ax, nx, cx, Ay, ny, cy, e1, e2⟩ := hx.forms
  have hown2 : w2.ownsRow B 25 4 v l.length (rowCells l ws) := hw.2.1.kept (row := none) ⟨h12.os, h12.tape, h12.output, h12.size, fun k hk _ => h12.block k hk⟩ (by rcases hv : v.ownBlock with _ | g <;> simp)
  obtain ⟨v', w4, hrun, h2, h3, _, h5⟩ := run_append_own_at (P := Tryz.prog) (w2.alloc (.cells #[.int .u8 x.kind, .string x.text, vn, vl] 25)) B tSl tSl 25 i0 _ 4 72 ht hi0 hz0 hz1 hz2 rfl (by decide) v l.length (rowCells l ws) (hown2.alloc _) ⟨w2.heap.size, 0, none⟩ 1 1 (encJ (x, vn, vl)) rfl
    (fun j u hu => by
      have hadd : (⟨w2.heap.size, 0, none⟩ : Addr).add j = ⟨w2.heap.size, j, none⟩ := by unfold Addr.add; split <;> simp_all
      rw [hadd, (Cel.fresh w2 25 #[.int .u8 x.kind, .string x.text, vn, vl]).cell]
      simpa [encJ] using hu)
    (fun u hu => by subst e1; subst e2; simp [encJ] at hu; rcases hu with rfl | rfl | rfl | rfl <;> rfl) (by unfold maxLen; omega) (by omega) (by have := h12.size; simp; omega)
  exact ⟨v', w4, hrun, ⟨_, hw.snoc hs h12 hs2 hB hx h2 h3 h5⟩, h3, fun g hg => (hw.2.1.lt g hg).1⟩

def OwnJEnd (j : Jsn) (w : World) (e : Ending) (w' : World) : Prop := ∃ vn vl, e = .returned (.agg #[.int .u8 j.kind, .string j.text, vn, vl]) ∧ OwnJ w' 9 25 j w.heap.size w'.heap.size vn vl ∧ Below w.heap.size w w'
def OwnSays (f : Nat) (j : Jsn) : Prop := ∀ (X : Nat → Prop) (w : World) (vn vl : Value), JV w X j vn vl → jbulk j ≤ 1000000000000 → Calls Tryz.prog f #[.agg #[.int .u8 j.kind, .string j.text, vn, vl]] w (OwnJEnd j w)

set_option maxRecDepth 100000 in
set_option maxHeartbeats 2000000 in
theorem jsnOwn_any : ∀ (j : Jsn), OwnSays 93 j := by
  refine Jsn.ind fun k s n l ih X w vn vl hV hbk => ?_
  obtain ⟨_, hn, hl, _, hkids⟩ := bulk_parts hbk
  dsimp only at hl hkids hn
  obtain ⟨i0, hi0, hz0, hz1, hz2⟩ := info_parts infoJ
  have hnam := hV.names
  have hkd := hV.kind
  obtain ⟨An, cn, rfl⟩ := hnam.len
  obtain ⟨A, c, zs, rfl, hz, h2, h3⟩ := hV.elems
  dsimp only at hnam hkd ⊢
  have hlen : zs.length = l.length := by rw [← hz, List.length_map]
  rw [← hlen] at hl
  have hw := Lib.hid (fun (wr : World) (i : Nat) (hB : Below w.heap.size w wr) (hi : i < zs.length) => JV.at h2 h3 hB hi)
  have hb1 : ∀ x ∈ l, jbulk x ≤ 1000000000000 := fun x hx => by have := hkids x hx; omega
  have hnl := Lib.hid (fun (wr : World) (hB : Below w.heap.size w wr) => cloneStr_any X _ n wr (hnam.later hB) hn)
  clear hV h2 h3 hnam hkids hbk hlen
  replace ih := Lib.hid ih
  replace hb1 := Lib.hid hb1
  replace hz := Lib.hid hz
  go_enter Tryz.func93, Tryz.ntmps93
  go_wp2_with fail
  go_loopw [3, 9] (fun v i wr => ∃ q : Nat, q ≤ zs.length ∧ i = .int .i64 q ∧ RowO wr (w.heap.size + 2) 9 25 v ((zs.take q).map (·.1)) ∧ Cel wr w.heap.size 25 #[.int .u8 k, .string s, .slice An n.length cn, .slice A zs.length c] ∧ Cel wr (w.heap.size + 1) 25 #[.int .u8 0, .string ⟨#[]⟩, .slice none 0 0, .slice none 0 0] ∧ Below w.heap.size w wr) (fun _ i _ => zs.length - (intOf i).toNat)
  case atStart =>
    refine ⟨0, Nat.zero_le _, rfl, RowO.nil _ _ _ _, (Cel.fresh _ _ _).alloc _, ?_, ((Below.refl _ _).alloc (Nat.le_refl _) _).alloc (by simp) _⟩
    have := Cel.fresh (w.alloc (.cells #[.int .u8 k, .string s, .slice An n.length cn, .slice A zs.length c] 25)) 25 #[.int .u8 0, .string ⟨#[]⟩, .slice none 0 0, .slice none 0 0]
    simpa using this
  case round =>
    obtain ⟨q, hq, rfl, hrow, hC1, hC2, hB⟩ := hrel
    have hsz := hC1.lt
    have hsz2 := hC2.lt
    by_cases hlt : q < zs.length
    · obtain ⟨g, o, ⟨x, vx, vy⟩, hzq, hzm, rfl, hVz, a0, a1, a2, a3⟩ := hw.out wr q hB hlt
      dsimp only at hVz a0 a1 a2 a3
      have hxm : x ∈ l := by rw [← hz.out]; exact List.mem_map_of_mem (f := (·.1)) hzm
      obtain ⟨Ax, nx, cx, Ay, ny, cy, rfl, rfl⟩ := hVz.forms
      have hcall := ih.out x hxm X _ _ _ (hVz.alloc (.cells #[.int .u8 x.kind, .string x.text, .slice Ax nx cx, .slice Ay ny cy] 25)) (hb1.out x hxm)
      have hsnoc : (zs.take (q + 1)).map (·.1) = (zs.take q).map (·.1) ++ [x] := by rw [List.take_add_one, hzq]; simp
      have hql : ((zs.take q).map (·.1)).length = q := by rw [List.length_map, List.length_take]; omega
      clear hVz hzq hzm hw
      replace hcall := Lib.hid hcall
      replace hsnoc := Lib.hid hsnoc
      replace hql := Lib.hid hql
      replace hrow := Lib.hid hrow
      replace hC1 := Lib.hid hC1
      replace hC2 := Lib.hid hC2
      replace hB := Lib.hid hB
      go_wp2_with fail
      refine hcall.out.mono ?_
      rintro e w2 ⟨vn', vl', rfl, hO, hB2⟩
      have hbs := hB.out.size
      have hB12 : Below wr.heap.size wr w2 := ((Below.refl wr.heap.size wr).alloc (Nat.le_refl _) (.cells #[.int .u8 x.kind, .string x.text, .slice Ax nx cx, .slice Ay ny cy] 25)).trans (hB2.mono (by simp))
      have hs12 := hB2.size
      obtain ⟨Bx, mx, ex, By, my, ey, rfl, rfl⟩ := hO.forms
      obtain ⟨v', w4, hrun, hrow2, hgr, hvB⟩ := append_row 23 Tryz.underlying23 hrow.out (by simp) hB12 hs12 (by omega) hO (by rw [hql.out]; omega)
      rw [← hsnoc.out] at hrow2
      have hg4 : Below (w.heap.size + 2) wr w4 := (((hB12.mono (by omega)).alloc (by have := hB12.size; omega) _).trans (Below.grown (Below.refl _ _) hgr (by have := hB12.size; simp; omega) hvB))
      have hD1 := hC1.out.below hg4 (by omega)
      have hD2 := hC2.out.below hg4 (by omega)
      have hB4 := hB.out.trans (hg4.mono (by omega))
      clear hcall hO hB2 hB12 hs12 hgr hvB hg4 hrow hC1 hC2 hB a0 a1 a2 a3 hsnoc
      replace hrun := Lib.hid hrun
      replace hrow2 := Lib.hid hrow2
      replace hD1 := Lib.hid hD1
      replace hD2 := Lib.hid hD2
      replace hB4 := Lib.hid hB4
      go_wp2_with (at_builtin; refine jl_append_run (by rfl) _ _ 23 23 rfl u3 (.slice (some ⟨w2.heap.size, 0, none⟩) 1 1) _ rfl rfl hrun.out ?_)
      go_roundw
      case rel => exact ⟨q + 1, by omega, by go_num, hrow2.out, hD1.out, hD2.out, hB4.out⟩
      case measure => simp [intOf]; omega
    · have hfull : (zs.take q).map (·.1) = l := by rw [List.take_of_length_le (by omega), hz.out]
      rw [hfull] at hrow
      have hcl := hnl.out wr hB
      obtain ⟨_, _, A3, c3, _, hv3, _, _⟩ := hrow.kids
      have hbs := hB.size
      clear hw hnl ih hfull
      replace hrow := Lib.hid hrow
      replace hcl := Lib.hid hcl
      have x12 : wr.cell? ⟨w.heap.size, 2, none⟩ = some (.slice An n.length cn) := hC1.cell 2
      have hv3' := Lib.hid hv3
      clear hv3
      go_wp2_with fail
      refine hcl.out.mono ?_
      rintro e w2 ⟨vN, gn, rfl, hgn, hN, hB2⟩
      obtain ⟨A4, c4, rfl, _⟩ := id hN
      have hv4 := hv3'.out
      subst hv4
      have hO := mk_own (k := k) (s := s) hkd.1 hkd.2 hrow.out hB2 (by omega) hgn hN
      have hD1 := hC1.below hB2 hsz
      have hD2 := hC2.below hB2 hsz2
      have hB3 := hB.trans (hB2.mono hbs)
      have p0 := hD1.cell 0
      have p1 := hD1.cell 1
      have p2 := hD1.cell 2
      have p3 := hD1.cell 3
      have p4 := hD1.froz 2
      have p5 := hD1.froz 3
      have r0 := hD2.cell 0
      have r1 := hD2.cell 1
      have r2 := hD2.cell 2
      have r3 := hD2.cell 3
      have s0 := hD2.froz 0
      have s1 := hD2.froz 1
      have s2 := hD2.froz 2
      have s3 := hD2.froz 3
      simp only [List.getElem?_toArray, List.getElem?_cons_zero, List.getElem?_cons_succ] at p0 p1 p2 p3 r0 r1 r2 r3
      clear hcl hrow hN hB2 hC1 hC2 hB x12
      replace hO := Lib.hid hO
      replace hD1 := Lib.hid hD1
      replace hD2 := Lib.hid hD2
      replace hB3 := Lib.hid hB3
      go_wp2_with fail
      refine bodyPost_ret (v := .agg #[.int .u8 k, .string s, .slice A4 n.length c4, .slice A3 l.length c3]) (by simp [results, Tryz.results93, go_sem, p0, p1, p2, p3, r0, r1, r2, r3]) rfl ⟨_, _, rfl, ?_, ?_⟩
      · refine OwnJ.keep _ hO.out (fun b h1 _ => ?_) (by omega) (by simp [World.setCell])
        rw [Below.heap_setCell _ _ _ _ (by simp; omega), Below.heap_setCell _ _ _ _ (by simp; omega), Below.heap_setCell _ _ _ _ (by simp; omega), Below.heap_setCell _ _ _ _ (by simp; omega), Below.heap_setCell _ _ _ _ (by simp; omega), Below.heap_setCell _ _ _ _ (by simp; omega)]
      · exact (((((hB3.out.setCell (by simp) _).setCell (by simp) _).setCell (by simp) _).setCell (by simp) _).setCell (by simp) _).setCell (by simp) _
end Go.Proofs.YtamcbgkppgdniaaGreatDoor
