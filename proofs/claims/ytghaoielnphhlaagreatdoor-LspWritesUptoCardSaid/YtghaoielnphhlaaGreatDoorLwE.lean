/-
  The walk of lsp.list, with the closures of Edits and of Items.
-/
import Derived.Test.YtghaoielnphhlaaGreatDoorLwD
namespace Go.Proofs.YtghaoielnphhlaaGreatDoor
open Go.RowKit

structure Pt where
  a : Int
  b : Int
  c : Int
  d : Int
  k : Int
  s : ByteArray
def ptCells (p : Pt) : List Value := [.int .i64 p.a, .int .i64 p.b, .int .i64 p.c, .int .i64 p.d, .int .i64 p.k, .string p.s]
def PtOK (p : Pt) : Prop := I64 p.a ∧ I64 p.b ∧ I64 p.c ∧ I64 p.d ∧ I64 p.k
def editP (p : Pt) : Jsn := editJ p.a p.b p.c p.d p.s
def itemP (p : Pt) : Jsn := itemJ p.a p.b p.c p.d p.k p.s
def arrJ (l : List Jsn) : Jsn := ⟨6, ⟨#[]⟩, [], l⟩
/-- Parts that lie in a row. -/
def PRow (w : World) (g o : Nat) (ps : List Pt) : Prop := ∀ (i : Nat) p, ps[i]? = some p → ∀ (j : Nat) v, (ptCells p)[j]? = some v → w.cell? ⟨g, o + i * 6 + j, none⟩ = some v
theorem PRow.at {w wr : World} {g : Nat} {ps : List Pt} (h : PRow w g 0 ps) (hB : Below w.heap.size w wr) (hg : g < w.heap.size) {q : Nat} {p : Pt} (hp : ps[q]? = some p) :
    wr.cell? ⟨g, q * 6, none⟩ = some (.int .i64 p.a) ∧ wr.cell? ⟨g, q * 6 + 1, none⟩ = some (.int .i64 p.b) ∧ wr.cell? ⟨g, q * 6 + 2, none⟩ = some (.int .i64 p.c) ∧ wr.cell? ⟨g, q * 6 + 3, none⟩ = some (.int .i64 p.d) ∧ wr.cell? ⟨g, q * 6 + 4, none⟩ = some (.int .i64 p.k) ∧ wr.cell? ⟨g, q * 6 + 5, none⟩ = some (.string p.s) := by
  have h' : ∀ (j : Nat) v, (ptCells p)[j]? = some v → wr.cell? ⟨g, q * 6 + j, none⟩ = some v := fun j v hv => by
    have := h q p hp j v hv
    rw [Nat.zero_add] at this
    exact (hB.cell (p := ⟨g, q * 6 + j, none⟩) hg).trans this
  exact ⟨h' 0 _ rfl, h' 1 _ rfl, h' 2 _ rfl, h' 3 _ rfl, h' 4 _ rfl, h' 5 _ rfl⟩
theorem partInfo : (Tryz.prog.info? 87).map (·.size) = some 6 := by kernel_rfl
theorem partDesc : ∃ d, Tryz.prog.underlying 87 = some d ∧ d.isRow = true := ⟨_, Tryz.underlying87, rfl⟩
/-- The rows of a list that is being made: a value of kind 6. -/
theorem mk_arr {w : World} {B : Nat} {l : List Jsn} {v : Value} (h : RowO w B 9 25 v l) (lo : Nat) (hlo : lo ≤ B) : OwnJ w 9 25 (arrJ l) lo w.heap.size (.slice none 0 0) v := by
  obtain ⟨ws, h1, h2, h3, h4⟩ := h
  unfold arrJ
  rw [OwnJ_eq]
  refine ⟨by omega, by omega, ?_⟩
  rcases h2.2 with ⟨e, hz⟩ | ⟨g, cap, cur, e, e1, e2, e3, e4, e5, e6⟩
  · have hl : l = [] := List.eq_nil_of_length_eq_zero hz
    subst hl
    refine ⟨w.heap.size, w.heap.size + 1, #[], none, 0, [], ⟨none, 0, rfl, fun h => by simp at h⟩, e, (fun h => by simp at h), rfl, (fun i x u h => by simp at h), (fun i j u v _ h => by simp at h)⟩
  · subst e
    have hg := (Array.getElem?_eq_some_iff.1 e2).1
    refine ⟨w.heap.size, g, cur, _, cap, ws, ⟨none, 0, rfl, fun h => by simp at h⟩, rfl, fun _ => ⟨rfl, by omega, hg, by omega, e2⟩, by rw [List.length_map]; exact h1, fun i x u hx hu => ?_, h4⟩
    rw [List.getElem?_map] at hx
    rcases hj : l[i]? with _ | y
    · rw [hj] at hx; cases hx
    · rw [hj] at hx
      injection hx with hx
      subst hx
      obtain ⟨a1, a2, a3, a4, a5⟩ := h3 i y u hj hu
      refine ⟨fun q v hv => ?_, by omega, a2, a3, a4 g rfl, by omega, a5⟩
      have hc := rowCells_at l ws i y u hj hu q v hv
      rw [← e6, List.getElem?_take] at hc
      split at hc
      · rw [← Array.getElem?_toList]; exact hc
      · cases hc
set_option maxRecDepth 100000 in
set_option maxHeartbeats 4000000 in
theorem lspListE_any (ps : List Pt) (A : Option Addr) (g c : Nat) (w : World) (hE : Env w) (hP : PRow w g 0 ps) (hA : 0 < ps.length → A = some ⟨g, 0, none⟩ ∧ g < w.heap.size) (hok : ∀ p ∈ ps, PtOK p) (hl : ps.length ≤ 1000) :
    Calls Tryz.prog 44 #[.slice A ps.length c, .func (.func 45) #[] #[]] w (OwnJEnd (arrJ (ps.map editP)) w) := by
  replace hP := Lib.hid hP
  have hOne := Lib.hid (fun (p : Pt) (hp : PtOK p) (W : World) (hb : Below w.heap.size w W) => lspEdit_any p.a p.b p.c p.d p.k p.s W (hE.below hb) hp.1 hp.2.1 hp.2.2.1 hp.2.2.2.1)
  obtain ⟨dt, hdt⟩ := partDesc
  replace hdt := Lib.hid hdt
  clear hE
  go_enter Tryz.func44, Tryz.ntmps44
  go_wp2_with fail
  go_loopw [11] (fun i wr => ∃ (q : Nat) (v : Value), q ≤ ps.length ∧ i = .int .i64 q ∧ RowO wr (w.heap.size + 2) 9 25 v ((ps.take q).map editP) ∧ Cel wr w.heap.size 25 #[.int .u8 0, .string ⟨#[]⟩, .slice none 0 0, .slice none 0 0] ∧ Cel wr (w.heap.size + 1) 25 #[.int .u8 6, .string ⟨#[]⟩, .slice none 0 0, v] ∧ Below w.heap.size w wr) (fun i _ => ps.length - (intOf i).toNat)
  case atStart =>
    refine ⟨0, .slice none 0 0, Nat.zero_le _, rfl, RowO.nil _ _ _ _, (Cel.fresh _ _ _).alloc _, ?_, ((Below.refl _ _).alloc (Nat.le_refl _) _).alloc (by simp) _⟩
    have := Cel.fresh (w.alloc (.cells #[.int .u8 0, .string ⟨#[]⟩, .slice none 0 0, .slice none 0 0] 25)) 25 #[.int .u8 6, .string ⟨#[]⟩, .slice none 0 0, .slice none 0 0]
    simpa using this
  case round =>
    obtain ⟨q, v, hq, rfl, hrow, hC1, hC2, hB⟩ := hrel
    have hsz := hC1.lt
    have hsz2 := hC2.lt
    by_cases hlt : q < ps.length
    · obtain ⟨rfl, hg⟩ := hA (by omega)
      obtain ⟨p, hp⟩ : ∃ x, ps[q]? = some x := ⟨_, List.getElem?_eq_getElem hlt⟩
      obtain ⟨a0, a1, a2, a3, a4, a5⟩ := hP.out.at hB hg hp
      have hpo := hok p (List.mem_of_getElem? hp)
      have hsnoc : (ps.take (q + 1)).map editP = (ps.take q).map editP ++ [editJ p.a p.b p.c p.d p.s] := by rw [List.take_add_one, hp]; simp [editP]
      have hql : ((ps.take q).map editP).length = q := by rw [List.length_map, List.length_take]; omega
      obtain ⟨W1, hW1⟩ : ∃ W, wr.alloc (.cells #[.int .i64 p.a, .int .i64 p.b, .int .i64 p.c, .int .i64 p.d, .int .i64 p.k, .string p.s] 87) = W := ⟨_, rfl⟩
      have hb1 : Below wr.heap.size wr W1 := by rw [← hW1]; exact (Below.refl _ _).alloc (Nat.le_refl _) _
      have hX1 : Cel W1 wr.heap.size 87 #[.int .i64 p.a, .int .i64 p.b, .int .i64 p.c, .int .i64 p.d, .int .i64 p.k, .string p.s] := by rw [← hW1]; exact Cel.fresh _ _ _
      have hs1 : W1.heap.size = wr.heap.size + 1 := by rw [← hW1]; simp
      obtain ⟨ws, hws⟩ := id hrow
      obtain ⟨LA, la, lc, hLf⟩ := own_form hws.2.1
      subst hLf
      have hlL := hws.2.1.lt
      clear hws
      have hC21 := hC2.below hb1 hsz2
      have hC11 := hC1.below hb1 hsz
      have hcall := Lib.hid (hOne.out p hpo W1.drew (bel_drew (hB.trans (hb1.mono hB.size))))
      replace hW1 := Lib.hid hW1
      replace hrow := Lib.hid hrow
      replace hB := Lib.hid hB
      replace hb1 := Lib.hid hb1
      replace hC1 := Lib.hid hC1
      replace hC2 := Lib.hid hC2
      replace hsnoc := Lib.hid hsnoc
      replace hlL := Lib.hid hlL
      go_upto_region 5 with fail
      rw [hW1.out]
      clear hW1
      have hS := Lib.hid (show Cel W1.drew (w.heap.size + 1) 25 #[.int .u8 6, .string ⟨#[]⟩, .slice none 0 0, .slice LA la lc] from hC21.drew)
      have hT := Lib.hid (show Cel W1.drew wr.heap.size 87 #[.int .i64 p.a, .int .i64 p.b, .int .i64 p.c, .int .i64 p.d, .int .i64 p.k, .string p.s] from hX1.drew)
      clear hC21 hX1 a0 a1 a2 a3 a4 a5
      refine wp_region_T 8 (fun W => Cel W wr.heap.size 87 #[.int .i64 p.a, .int .i64 p.b, .int .i64 p.c, .int .i64 p.d, .int .i64 p.k, .string p.s]) (fun W => Cel W (w.heap.size + 1) 25 #[.int .u8 6, .string ⟨#[]⟩, .slice none 0 0, .slice LA la lc]) (by kernel_rfl) ?_
      refine wpAnyT_take (i := 0) (v := .pointer (some ⟨w.heap.size + 1, 3, none⟩)) rfl (by kernel_rfl) (by kernel_rfl) (by kernel_rfl) (by kernel_rfl) (by rfl) (fun _ _ _ h => h) (Or.inl ⟨by rfl, by
        intro w' hSw
        try dsimp only at hSw
        go_simp⟩) hS.out hT.out ?_
      try simp only [Act.put, List.setIfInBounds_toArray]
      refine wpAnyT_take (i := 1) (v := .slice LA la lc) rfl (by kernel_rfl) (by kernel_rfl) (by kernel_rfl) (by kernel_rfl) (by rfl) (fun _ _ _ h => h) (Or.inl ⟨by rfl, by
        intro w' hSw
        try dsimp only at hSw
        have c3 := hSw.cell 3
        simp only [List.getElem?_toArray, List.getElem?_cons_zero, List.getElem?_cons_succ] at c3
        go_simp⟩) hS.out hT.out ?_
      try simp only [Act.put]
      refine wpAnyT_take (i := 2) (v := .func (.func 45) #[] #[]) rfl (by kernel_rfl) (by kernel_rfl) (by kernel_rfl) (by kernel_rfl) (by rfl) (fun _ _ _ h => h) (Or.inl ⟨by rfl, by
        intro w' hSw
        try dsimp only at hSw
        go_simp⟩) hS.out hT.out ?_
      try simp only [Act.put]
      refine wpAnyT_takeW (i := 3) (v := .agg #[.int .i64 p.a, .int .i64 p.b, .int .i64 p.c, .int .i64 p.d, .int .i64 p.k, .string p.s]) rfl (by kernel_rfl) (by kernel_rfl) (by kernel_rfl) (by decide) (fun _ _ _ h => h) (yieldsIf_load_mid (by rfl) 87 (.tmp 7) rfl wr.heap.size 0 (by rfl) [.int .i64 p.a, .int .i64 p.b, .int .i64 p.c, .int .i64 p.d, .int .i64 p.k, .string p.s] dt (fun W hW => Cel.rng hW) hdt.out.1 hdt.out.2 partInfo) hS.out hT.out ?_
      try simp only [Act.put]
      refine wpAnyT_one (i := 4) (by kernel_rfl) rfl (fun K hK => ?_)
      go_simp
      refine hcall.out.mono ?_
      rintro e w2 ⟨xn, xl, he, hO, hb⟩
      obtain ⟨Bx, mx, ex, By, my, ey, rfl, rfl⟩ := hO.forms
      unfold editJ mkO at he
      dsimp only at he
      subst he
      have hS2 := Lib.hid (hS.out.below hb hS.out.lt)
      have hT2 := Lib.hid (hT.out.below hb hT.out.lt)
      refine hK.out _ _ (fun _ => hS2.out) hT2.out ?_
      clear hK hcall hS hT
      try simp only [Act.put, List.setIfInBounds_toArray, List.set_cons_zero, List.set_cons_succ]
      have hB12 : Below wr.heap.size wr w2 := hb1.out.trans ((bel_drew (Below.refl _ _)).trans (hb.mono (Nat.le_refl _)) |>.mono hb1.out.size)
      have hs12 := hb.size
      obtain ⟨v', w4, hrun, hrow2, hgr, hvB⟩ := append_row 23 Tryz.underlying23 hrow.out hb1.out.size hB12 hs12 (by omega) hO (by rw [hql]; omega)
      rw [← hsnoc.out] at hrow2
      obtain ⟨ws2, hws2⟩ := id hrow2
      obtain ⟨LB, lb, ld, hLf2⟩ := own_form hws2.2.1
      subst hLf2
      clear hws2
      have hs2 : W1.heap.size ≤ w2.heap.size := hs12
      have hgs := hgr.size
      simp at hgs
      have hk4 : ∀ k, k < w2.heap.size → (Value.slice LA la lc).ownBlock ≠ some k → w4.heap[k]? = w2.heap[k]? := fun k hk hne => (hgr.block k (by simp; omega) (fun e => hne e.symm)).trans (Below.heap_alloc w2 _ k hk)
      have hC24 : Cel w4 (w.heap.size + 1) 25 #[.int .u8 6, .string ⟨#[]⟩, .slice none 0 0, .slice LA la lc] := (hk4 _ (by omega) (fun e => by have := hvB _ e; omega)).trans hS2.out
      have hX4 : Cel w4 wr.heap.size 87 #[.int .i64 p.a, .int .i64 p.b, .int .i64 p.c, .int .i64 p.d, .int .i64 p.k, .string p.s] := (hk4 _ (by omega) (fun e => by have := hlL.out _ e; omega)).trans hT2.out
      have hg4 : Below (w.heap.size + 2) wr w4 := (((hB12.mono (by omega)).alloc (by omega) _).trans (Below.grown (Below.refl _ _) hgr (by simp; omega) hvB))
      have hD1 := hC1.out.below hg4 (by omega)
      have hB4 := hB.out.trans (hg4.mono (by omega))
      obtain ⟨W5, hW5⟩ : ∃ W, w4.setCell ⟨w.heap.size + 1, 3, none⟩ (.slice LB lb ld) = W := ⟨_, rfl⟩
      have hk5 : ∀ k, k ≠ w.heap.size + 1 → W5.heap[k]? = w4.heap[k]? := fun k hk => by rw [← hW5]; exact Below.heap_setCell w4 _ _ k hk
      have hC25 : Cel W5 (w.heap.size + 1) 25 #[.int .u8 6, .string ⟨#[]⟩, .slice none 0 0, .slice LB lb ld] := by rw [← hW5]; exact hC24.set 3 _
      have hC15 : Cel W5 w.heap.size 25 #[.int .u8 0, .string ⟨#[]⟩, .slice none 0 0, .slice none 0 0] := (hk5 _ (by omega)).trans hD1
      have hX5 : Cel W5 wr.heap.size 87 #[.int .i64 p.a, .int .i64 p.b, .int .i64 p.c, .int .i64 p.d, .int .i64 p.k, .string p.s] := (hk5 _ (by omega)).trans hX4
      have hB5 : Below w.heap.size w W5 := by rw [← hW5]; exact hB4.setCell (by simp) _
      have hs5 : W5.heap.size = w4.heap.size := by rw [← hW5]; simp [World.setCell]
      have hrow5 : RowO W5 (w.heap.size + 2) 9 25 (.slice LB lb ld) ((ps.take (q + 1)).map editP) := by
        obtain ⟨ws5, h5⟩ := hrow2
        exact ⟨ws5, h5.keep (fun k hk _ => hk5 k (by omega)) (by omega)⟩
      have x3 : w4.cell? ⟨w.heap.size + 1, 3, none⟩ = some (.slice LA la lc) := hC24.cell 3
      have f3 := hC24.froz 3
      replace hrun := Lib.hid hrun
      replace hW5 := Lib.hid hW5
      replace hC24 := Lib.hid hC24
      replace hX4 := Lib.hid hX4
      replace hX5 := Lib.hid hX5
      replace hC25 := Lib.hid hC25
      replace hC15 := Lib.hid hC15
      replace hB5 := Lib.hid hB5
      replace hrow5 := Lib.hid hrow5
      clear hO hrow2 hgr hvB hk4 hg4 hD1 hB4 hk5 hs5 hb hB12 hrow hB hb1 hC1 hC2 hlL hsnoc hpo hp
      refine wpAnyT_one (i := 5) (by kernel_rfl) rfl (fun K hK => ?_)
      go_simp
      refine hK.out _ _ (fun _ => hS2.out.alloc _) (hT2.out.alloc _) ?_
      clear hK
      try simp only [Act.put, List.setIfInBounds_toArray, List.set_cons_zero, List.set_cons_succ]
      refine wpAnyT_one (i := 6) (by kernel_rfl) rfl (fun K hK => ?_)
      refine jl_step_run (by rfl) (.tmp 16) (.tmp 20) 23 23 (by rfl) (.slice LA la lc) (.slice (some ⟨w2.heap.size, 0, none⟩) 1 1) _ w4 (by rfl) (by rfl) hrun.out ?_
      refine hK.out _ _ (fun _ => hC24.out) hX4.out ?_
      clear hK hrun hS2 hT2
      try simp only [Act.put, List.setIfInBounds_toArray, List.set_cons_zero, List.set_cons_succ]
      refine wpAnyT_takeW (i := 7) (v := .pointer (some ⟨w.heap.size + 1, 3, none⟩)) rfl (by kernel_rfl) (by kernel_rfl) (by kernel_rfl) (by decide) (fun _ _ _ h => h) (Or.inl ⟨by rfl, by
        intro w' hSw
        try dsimp only at hSw
        go_simp⟩) hC24.out hX4.out ?_
      try simp only [Act.put, List.setIfInBounds_toArray]
      refine wpAnyT_one (i := 8) (by kernel_rfl) rfl (fun K hK => ?_)
      go_simp
      rw [hW5.out]
      refine hK.out _ _ (fun h => by cases h) hX5.out ?_
      clear hK x3 f3
      refine wpAnyT_done (by kernel_rfl) ?_
      go_wp2_with fail
      go_roundw
      case rel => exact ⟨q + 1, _, by omega, by go_num, hrow5.out, hC15.out, hC25.out, hB5.out⟩
      case measure => simp [intOf]; omega
    · have hfull : (ps.take q).map editP = ps.map editP := by rw [List.take_of_length_le (by omega)]
      rw [hfull] at hrow
      obtain ⟨ws, hws⟩ := id hrow
      obtain ⟨LA, la, lc, hLf⟩ := own_form hws.2.1
      subst hLf
      clear hws hfull
      obtain ⟨p0, p1, p2, p3⟩ := hC1.c4
      obtain ⟨r0, r1, r2, r3⟩ := hC2.c4
      have s0 := hC1.froz 0
      have s1 := hC1.froz 1
      have s2 := hC1.froz 2
      have s3 := hC1.froz 3
      clear hP hOne hok hC1 hC2
      replace hrow := Lib.hid hrow
      replace hB := Lib.hid hB
      go_wp2_with fail
      have hBe := (((hB.out.setCell (p := ⟨w.heap.size, 0, none⟩) (by simp) (.int .u8 6)).setCell (p := ⟨w.heap.size, 1, none⟩) (by simp) (.string ⟨#[]⟩)).setCell (p := ⟨w.heap.size, 2, none⟩) (by simp) (.slice none 0 0)).setCell (p := ⟨w.heap.size, 3, none⟩) (by simp) (.slice LA la lc)
      refine bodyPost_ret (v := .agg #[.int .u8 6, .string ⟨#[]⟩, .slice none 0 0, .slice LA la lc]) (by simp [results, Tryz.results44, go_sem, p0, p1, p2, p3]) rfl ⟨_, _, rfl, ?_, hBe⟩
      have hk : ∀ k, k ≠ w.heap.size → ((((wr.setCell ⟨w.heap.size, 0, none⟩ (.int .u8 6)).setCell ⟨w.heap.size, 1, none⟩ (.string ⟨#[]⟩)).setCell ⟨w.heap.size, 2, none⟩ (.slice none 0 0)).setCell ⟨w.heap.size, 3, none⟩ (.slice LA la lc)).heap[k]? = wr.heap[k]? := fun k hk => by
        rw [Below.heap_setCell _ _ _ _ hk, Below.heap_setCell _ _ _ _ hk, Below.heap_setCell _ _ _ _ hk, Below.heap_setCell _ _ _ _ hk]
      obtain ⟨ws5, h5⟩ := hrow.out
      exact mk_arr ⟨ws5, h5.keep (fun k hk2 _ => hk k (by omega)) (by simp [World.setCell])⟩ _ (by omega)
set_option maxRecDepth 100000 in
set_option maxHeartbeats 4000000 in
theorem lspListI_any (ps : List Pt) (A : Option Addr) (g c : Nat) (w : World) (hE : Env w) (hP : PRow w g 0 ps) (hA : 0 < ps.length → A = some ⟨g, 0, none⟩ ∧ g < w.heap.size) (hok : ∀ p ∈ ps, PtOK p) (hl : ps.length ≤ 1000) :
    Calls Tryz.prog 44 #[.slice A ps.length c, .func (.func 52) #[] #[]] w (OwnJEnd (arrJ (ps.map itemP)) w) := by
  replace hP := Lib.hid hP
  have hOne := Lib.hid (fun (p : Pt) (hp : PtOK p) (W : World) (hb : Below w.heap.size w W) => lspItem_any p.a p.b p.c p.d p.k p.s W (hE.below hb) hp.1 hp.2.1 hp.2.2.1 hp.2.2.2.1 hp.2.2.2.2)
  obtain ⟨dt, hdt⟩ := partDesc
  replace hdt := Lib.hid hdt
  clear hE
  go_enter Tryz.func44, Tryz.ntmps44
  go_wp2_with fail
  go_loopw [11] (fun i wr => ∃ (q : Nat) (v : Value), q ≤ ps.length ∧ i = .int .i64 q ∧ RowO wr (w.heap.size + 2) 9 25 v ((ps.take q).map itemP) ∧ Cel wr w.heap.size 25 #[.int .u8 0, .string ⟨#[]⟩, .slice none 0 0, .slice none 0 0] ∧ Cel wr (w.heap.size + 1) 25 #[.int .u8 6, .string ⟨#[]⟩, .slice none 0 0, v] ∧ Below w.heap.size w wr) (fun i _ => ps.length - (intOf i).toNat)
  case atStart =>
    refine ⟨0, .slice none 0 0, Nat.zero_le _, rfl, RowO.nil _ _ _ _, (Cel.fresh _ _ _).alloc _, ?_, ((Below.refl _ _).alloc (Nat.le_refl _) _).alloc (by simp) _⟩
    have := Cel.fresh (w.alloc (.cells #[.int .u8 0, .string ⟨#[]⟩, .slice none 0 0, .slice none 0 0] 25)) 25 #[.int .u8 6, .string ⟨#[]⟩, .slice none 0 0, .slice none 0 0]
    simpa using this
  case round =>
    obtain ⟨q, v, hq, rfl, hrow, hC1, hC2, hB⟩ := hrel
    have hsz := hC1.lt
    have hsz2 := hC2.lt
    by_cases hlt : q < ps.length
    · obtain ⟨rfl, hg⟩ := hA (by omega)
      obtain ⟨p, hp⟩ : ∃ x, ps[q]? = some x := ⟨_, List.getElem?_eq_getElem hlt⟩
      obtain ⟨a0, a1, a2, a3, a4, a5⟩ := hP.out.at hB hg hp
      have hpo := hok p (List.mem_of_getElem? hp)
      have hsnoc : (ps.take (q + 1)).map itemP = (ps.take q).map itemP ++ [itemJ p.a p.b p.c p.d p.k p.s] := by rw [List.take_add_one, hp]; simp [itemP]
      have hql : ((ps.take q).map itemP).length = q := by rw [List.length_map, List.length_take]; omega
      obtain ⟨W1, hW1⟩ : ∃ W, wr.alloc (.cells #[.int .i64 p.a, .int .i64 p.b, .int .i64 p.c, .int .i64 p.d, .int .i64 p.k, .string p.s] 87) = W := ⟨_, rfl⟩
      have hb1 : Below wr.heap.size wr W1 := by rw [← hW1]; exact (Below.refl _ _).alloc (Nat.le_refl _) _
      have hX1 : Cel W1 wr.heap.size 87 #[.int .i64 p.a, .int .i64 p.b, .int .i64 p.c, .int .i64 p.d, .int .i64 p.k, .string p.s] := by rw [← hW1]; exact Cel.fresh _ _ _
      have hs1 : W1.heap.size = wr.heap.size + 1 := by rw [← hW1]; simp
      obtain ⟨ws, hws⟩ := id hrow
      obtain ⟨LA, la, lc, hLf⟩ := own_form hws.2.1
      subst hLf
      have hlL := hws.2.1.lt
      clear hws
      have hC21 := hC2.below hb1 hsz2
      have hC11 := hC1.below hb1 hsz
      have hcall := Lib.hid (hOne.out p hpo W1.drew (bel_drew (hB.trans (hb1.mono hB.size))))
      replace hW1 := Lib.hid hW1
      replace hrow := Lib.hid hrow
      replace hB := Lib.hid hB
      replace hb1 := Lib.hid hb1
      replace hC1 := Lib.hid hC1
      replace hC2 := Lib.hid hC2
      replace hsnoc := Lib.hid hsnoc
      replace hlL := Lib.hid hlL
      go_upto_region 5 with fail
      rw [hW1.out]
      clear hW1
      have hS := Lib.hid (show Cel W1.drew (w.heap.size + 1) 25 #[.int .u8 6, .string ⟨#[]⟩, .slice none 0 0, .slice LA la lc] from hC21.drew)
      have hT := Lib.hid (show Cel W1.drew wr.heap.size 87 #[.int .i64 p.a, .int .i64 p.b, .int .i64 p.c, .int .i64 p.d, .int .i64 p.k, .string p.s] from hX1.drew)
      clear hC21 hX1 a0 a1 a2 a3 a4 a5
      refine wp_region_T 8 (fun W => Cel W wr.heap.size 87 #[.int .i64 p.a, .int .i64 p.b, .int .i64 p.c, .int .i64 p.d, .int .i64 p.k, .string p.s]) (fun W => Cel W (w.heap.size + 1) 25 #[.int .u8 6, .string ⟨#[]⟩, .slice none 0 0, .slice LA la lc]) (by kernel_rfl) ?_
      refine wpAnyT_take (i := 0) (v := .pointer (some ⟨w.heap.size + 1, 3, none⟩)) rfl (by kernel_rfl) (by kernel_rfl) (by kernel_rfl) (by kernel_rfl) (by rfl) (fun _ _ _ h => h) (Or.inl ⟨by rfl, by
        intro w' hSw
        try dsimp only at hSw
        go_simp⟩) hS.out hT.out ?_
      try simp only [Act.put, List.setIfInBounds_toArray]
      refine wpAnyT_take (i := 1) (v := .slice LA la lc) rfl (by kernel_rfl) (by kernel_rfl) (by kernel_rfl) (by kernel_rfl) (by rfl) (fun _ _ _ h => h) (Or.inl ⟨by rfl, by
        intro w' hSw
        try dsimp only at hSw
        have c3 := hSw.cell 3
        simp only [List.getElem?_toArray, List.getElem?_cons_zero, List.getElem?_cons_succ] at c3
        go_simp⟩) hS.out hT.out ?_
      try simp only [Act.put]
      refine wpAnyT_take (i := 2) (v := .func (.func 52) #[] #[]) rfl (by kernel_rfl) (by kernel_rfl) (by kernel_rfl) (by kernel_rfl) (by rfl) (fun _ _ _ h => h) (Or.inl ⟨by rfl, by
        intro w' hSw
        try dsimp only at hSw
        go_simp⟩) hS.out hT.out ?_
      try simp only [Act.put]
      refine wpAnyT_takeW (i := 3) (v := .agg #[.int .i64 p.a, .int .i64 p.b, .int .i64 p.c, .int .i64 p.d, .int .i64 p.k, .string p.s]) rfl (by kernel_rfl) (by kernel_rfl) (by kernel_rfl) (by decide) (fun _ _ _ h => h) (yieldsIf_load_mid (by rfl) 87 (.tmp 7) rfl wr.heap.size 0 (by rfl) [.int .i64 p.a, .int .i64 p.b, .int .i64 p.c, .int .i64 p.d, .int .i64 p.k, .string p.s] dt (fun W hW => Cel.rng hW) hdt.out.1 hdt.out.2 partInfo) hS.out hT.out ?_
      try simp only [Act.put]
      refine wpAnyT_one (i := 4) (by kernel_rfl) rfl (fun K hK => ?_)
      go_simp
      refine hcall.out.mono ?_
      rintro e w2 ⟨xn, xl, he, hO, hb⟩
      obtain ⟨Bx, mx, ex, By, my, ey, rfl, rfl⟩ := hO.forms
      unfold itemJ mkO at he
      dsimp only at he
      subst he
      have hS2 := Lib.hid (hS.out.below hb hS.out.lt)
      have hT2 := Lib.hid (hT.out.below hb hT.out.lt)
      refine hK.out _ _ (fun _ => hS2.out) hT2.out ?_
      clear hK hcall hS hT
      try simp only [Act.put, List.setIfInBounds_toArray, List.set_cons_zero, List.set_cons_succ]
      have hB12 : Below wr.heap.size wr w2 := hb1.out.trans ((bel_drew (Below.refl _ _)).trans (hb.mono (Nat.le_refl _)) |>.mono hb1.out.size)
      have hs12 := hb.size
      obtain ⟨v', w4, hrun, hrow2, hgr, hvB⟩ := append_row 23 Tryz.underlying23 hrow.out hb1.out.size hB12 hs12 (by omega) hO (by rw [hql]; omega)
      rw [← hsnoc.out] at hrow2
      obtain ⟨ws2, hws2⟩ := id hrow2
      obtain ⟨LB, lb, ld, hLf2⟩ := own_form hws2.2.1
      subst hLf2
      clear hws2
      have hs2 : W1.heap.size ≤ w2.heap.size := hs12
      have hgs := hgr.size
      simp at hgs
      have hk4 : ∀ k, k < w2.heap.size → (Value.slice LA la lc).ownBlock ≠ some k → w4.heap[k]? = w2.heap[k]? := fun k hk hne => (hgr.block k (by simp; omega) (fun e => hne e.symm)).trans (Below.heap_alloc w2 _ k hk)
      have hC24 : Cel w4 (w.heap.size + 1) 25 #[.int .u8 6, .string ⟨#[]⟩, .slice none 0 0, .slice LA la lc] := (hk4 _ (by omega) (fun e => by have := hvB _ e; omega)).trans hS2.out
      have hX4 : Cel w4 wr.heap.size 87 #[.int .i64 p.a, .int .i64 p.b, .int .i64 p.c, .int .i64 p.d, .int .i64 p.k, .string p.s] := (hk4 _ (by omega) (fun e => by have := hlL.out _ e; omega)).trans hT2.out
      have hg4 : Below (w.heap.size + 2) wr w4 := (((hB12.mono (by omega)).alloc (by omega) _).trans (Below.grown (Below.refl _ _) hgr (by simp; omega) hvB))
      have hD1 := hC1.out.below hg4 (by omega)
      have hB4 := hB.out.trans (hg4.mono (by omega))
      obtain ⟨W5, hW5⟩ : ∃ W, w4.setCell ⟨w.heap.size + 1, 3, none⟩ (.slice LB lb ld) = W := ⟨_, rfl⟩
      have hk5 : ∀ k, k ≠ w.heap.size + 1 → W5.heap[k]? = w4.heap[k]? := fun k hk => by rw [← hW5]; exact Below.heap_setCell w4 _ _ k hk
      have hC25 : Cel W5 (w.heap.size + 1) 25 #[.int .u8 6, .string ⟨#[]⟩, .slice none 0 0, .slice LB lb ld] := by rw [← hW5]; exact hC24.set 3 _
      have hC15 : Cel W5 w.heap.size 25 #[.int .u8 0, .string ⟨#[]⟩, .slice none 0 0, .slice none 0 0] := (hk5 _ (by omega)).trans hD1
      have hX5 : Cel W5 wr.heap.size 87 #[.int .i64 p.a, .int .i64 p.b, .int .i64 p.c, .int .i64 p.d, .int .i64 p.k, .string p.s] := (hk5 _ (by omega)).trans hX4
      have hB5 : Below w.heap.size w W5 := by rw [← hW5]; exact hB4.setCell (by simp) _
      have hs5 : W5.heap.size = w4.heap.size := by rw [← hW5]; simp [World.setCell]
      have hrow5 : RowO W5 (w.heap.size + 2) 9 25 (.slice LB lb ld) ((ps.take (q + 1)).map itemP) := by
        obtain ⟨ws5, h5⟩ := hrow2
        exact ⟨ws5, h5.keep (fun k hk _ => hk5 k (by omega)) (by omega)⟩
      have x3 : w4.cell? ⟨w.heap.size + 1, 3, none⟩ = some (.slice LA la lc) := hC24.cell 3
      have f3 := hC24.froz 3
      replace hrun := Lib.hid hrun
      replace hW5 := Lib.hid hW5
      replace hC24 := Lib.hid hC24
      replace hX4 := Lib.hid hX4
      replace hX5 := Lib.hid hX5
      replace hC25 := Lib.hid hC25
      replace hC15 := Lib.hid hC15
      replace hB5 := Lib.hid hB5
      replace hrow5 := Lib.hid hrow5
      clear hO hrow2 hgr hvB hk4 hg4 hD1 hB4 hk5 hs5 hb hB12 hrow hB hb1 hC1 hC2 hlL hsnoc hpo hp
      refine wpAnyT_one (i := 5) (by kernel_rfl) rfl (fun K hK => ?_)
      go_simp
      refine hK.out _ _ (fun _ => hS2.out.alloc _) (hT2.out.alloc _) ?_
      clear hK
      try simp only [Act.put, List.setIfInBounds_toArray, List.set_cons_zero, List.set_cons_succ]
      refine wpAnyT_one (i := 6) (by kernel_rfl) rfl (fun K hK => ?_)
      refine jl_step_run (by rfl) (.tmp 16) (.tmp 20) 23 23 (by rfl) (.slice LA la lc) (.slice (some ⟨w2.heap.size, 0, none⟩) 1 1) _ w4 (by rfl) (by rfl) hrun.out ?_
      refine hK.out _ _ (fun _ => hC24.out) hX4.out ?_
      clear hK hrun hS2 hT2
      try simp only [Act.put, List.setIfInBounds_toArray, List.set_cons_zero, List.set_cons_succ]
      refine wpAnyT_takeW (i := 7) (v := .pointer (some ⟨w.heap.size + 1, 3, none⟩)) rfl (by kernel_rfl) (by kernel_rfl) (by kernel_rfl) (by decide) (fun _ _ _ h => h) (Or.inl ⟨by rfl, by
        intro w' hSw
        try dsimp only at hSw
        go_simp⟩) hC24.out hX4.out ?_
      try simp only [Act.put, List.setIfInBounds_toArray]
      refine wpAnyT_one (i := 8) (by kernel_rfl) rfl (fun K hK => ?_)
      go_simp
      rw [hW5.out]
      refine hK.out _ _ (fun h => by cases h) hX5.out ?_
      clear hK x3 f3
      refine wpAnyT_done (by kernel_rfl) ?_
      go_wp2_with fail
      go_roundw
      case rel => exact ⟨q + 1, _, by omega, by go_num, hrow5.out, hC15.out, hC25.out, hB5.out⟩
      case measure => simp [intOf]; omega
    · have hfull : (ps.take q).map itemP = ps.map itemP := by rw [List.take_of_length_le (by omega)]
      rw [hfull] at hrow
      obtain ⟨ws, hws⟩ := id hrow
      obtain ⟨LA, la, lc, hLf⟩ := own_form hws.2.1
      subst hLf
      clear hws hfull
      obtain ⟨p0, p1, p2, p3⟩ := hC1.c4
      obtain ⟨r0, r1, r2, r3⟩ := hC2.c4
      have s0 := hC1.froz 0
      have s1 := hC1.froz 1
      have s2 := hC1.froz 2
      have s3 := hC1.froz 3
      clear hP hOne hok hC1 hC2
      replace hrow := Lib.hid hrow
      replace hB := Lib.hid hB
      go_wp2_with fail
      have hBe := (((hB.out.setCell (p := ⟨w.heap.size, 0, none⟩) (by simp) (.int .u8 6)).setCell (p := ⟨w.heap.size, 1, none⟩) (by simp) (.string ⟨#[]⟩)).setCell (p := ⟨w.heap.size, 2, none⟩) (by simp) (.slice none 0 0)).setCell (p := ⟨w.heap.size, 3, none⟩) (by simp) (.slice LA la lc)
      refine bodyPost_ret (v := .agg #[.int .u8 6, .string ⟨#[]⟩, .slice none 0 0, .slice LA la lc]) (by simp [results, Tryz.results44, go_sem, p0, p1, p2, p3]) rfl ⟨_, _, rfl, ?_, hBe⟩
      have hk : ∀ k, k ≠ w.heap.size → ((((wr.setCell ⟨w.heap.size, 0, none⟩ (.int .u8 6)).setCell ⟨w.heap.size, 1, none⟩ (.string ⟨#[]⟩)).setCell ⟨w.heap.size, 2, none⟩ (.slice none 0 0)).setCell ⟨w.heap.size, 3, none⟩ (.slice LA la lc)).heap[k]? = wr.heap[k]? := fun k hk => by
        rw [Below.heap_setCell _ _ _ _ hk, Below.heap_setCell _ _ _ _ hk, Below.heap_setCell _ _ _ _ hk, Below.heap_setCell _ _ _ _ hk]
      obtain ⟨ws5, h5⟩ := hrow.out
      exact mk_arr ⟨ws5, h5.keep (fun k hk2 _ => hk k (by omega)) (by simp [World.setCell])⟩ _ (by omega)
end Go.Proofs.YtghaoielnphhlaaGreatDoor
