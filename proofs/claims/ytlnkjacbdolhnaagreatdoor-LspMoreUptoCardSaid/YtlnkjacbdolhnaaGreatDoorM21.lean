/-
  The walk of lsp.object.
-/
import Derived.Test.YtlnkjacbdolhnaaGreatDoorM20
import Derived.OrdersHeld
import Derived.Deep.RegionHeld
import Derived.Test.YtlnkjacbdolhnaaGreatDoorM00
namespace Go.Proofs.YtlnkjacbdolhnaaGreatDoor
open Go.RowKit

def ObjEnd (o : Jsn) (lo : Nat) (w : World) (e : Ending) (w' : World) : Prop := ∃ vn vl, e = .returned (.agg #[.int .u8 o.kind, .string o.text, vn, vl]) ∧ OwnJ w' 9 25 o lo w'.heap.size vn vl ∧ Below w.heap.size w w'
def mkO (ns : List ByteArray) (l : List Jsn) : Jsn := ⟨7, ⟨#[]⟩, ns, l⟩
/-- What is known at the head of object's loop. -/
def ObjI (w : World) (ns : List ByteArray) (l : List Jsn) (ws : List OE) (q : Nat) (vN vL : Value) (wr : World) : Prop :=
  Cel wr w.heap.size 25 #[.int .u8 0, .string ⟨#[]⟩, .slice none 0 0, .slice none 0 0] ∧ Cel wr (w.heap.size + 1) 25 #[.int .u8 7, .string ⟨#[]⟩, vN, vL] ∧
  wr.ownsRow (w.heap.size + 2) 9 1 vN q ((ns.take q).map Value.string) ∧ wr.ownsRow (w.heap.size + 2) 25 4 vL q (rowCells (l.take q) (ws.take q)) ∧ (∀ g, vN.ownBlock = some g → vL.ownBlock ≠ some g) ∧ Below w.heap.size w wr
set_option maxRecDepth 100000 in
set_option maxHeartbeats 4000000 in
theorem lspObject_any (ns : List ByteArray) (l : List Jsn) (ws : List OE) (lo g c : Nat) (w : World) (hM : Mem5 w g ns l ws) (hg : g < w.heap.size) (hK : KidI w lo l ws) (hlo : lo ≤ w.heap.size) (hn : ns.length = l.length) (hl : l.length ≤ 1000) :
    Calls Tryz.prog 65 #[.slice (some ⟨g, 0, none⟩) l.length c] w (ObjEnd (mkO ns l) lo w) := by
  replace hM := Lib.hid hM
  replace hK := Lib.hid hK
  go_enter Tryz.func65, Tryz.ntmps65
  go_wp2_with fail
  go_loopw [9] (fun i wr => ∃ (q : Nat) (vN vL : Value), q ≤ l.length ∧ i = .int .i64 q ∧ ObjI w ns l ws q vN vL wr) (fun i _ => l.length - (intOf i).toNat)
  case atStart =>
    refine ⟨0, .slice none 0 0, .slice none 0 0, Nat.zero_le _, rfl, (Cel.fresh _ _ _).alloc _, ?_, ⟨rfl, .inl ⟨rfl, rfl⟩⟩, ⟨rfl, .inl ⟨rfl, rfl⟩⟩, fun g h => by (cases h), ((Below.refl _ _).alloc (Nat.le_refl _) _).alloc (by simp) _⟩
    have := Cel.fresh (w.alloc (.cells #[.int .u8 0, .string ⟨#[]⟩, .slice none 0 0, .slice none 0 0] 25)) 25 #[.int .u8 7, .string ⟨#[]⟩, .slice none 0 0, .slice none 0 0]
    simpa using this
  case round =>
    obtain ⟨q, vN, vL, hq, rfl, hC1, hC2, hN, hL, hA, hB⟩ := hrel
    have hsz := hC1.lt
    have hsz2 := hC2.lt
    by_cases hlt : q < l.length
    · obtain ⟨nm, hnm⟩ : ∃ x, ns[q]? = some x := ⟨_, List.getElem?_eq_getElem (by omega)⟩
      obtain ⟨x, hx⟩ : ∃ x, l[q]? = some x := ⟨_, List.getElem?_eq_getElem hlt⟩
      obtain ⟨u, hu⟩ : ∃ x, ws[q]? = some x := ⟨_, List.getElem?_eq_getElem (by rw [hK.out.1]; exact hlt)⟩
      obtain ⟨a0, a1, a2, a3, a4⟩ := hM.out q nm x u hnm hx hu
      obtain ⟨_, _, _, hOx⟩ := hK.out.2.1 q x u hx hu
      obtain ⟨An, nn, cn, Al, nl, cl, e1, e2⟩ := hOx.forms
      obtain ⟨u1, u2, u3', u4'⟩ := u
      dsimp only at e1 e2 a3 a4
      subst e1
      subst e2
      replace a0 := (hB.cell (p := ⟨g, q * 5, none⟩) hg).trans a0
      replace a1 := (hB.cell (p := ⟨g, q * 5 + 1, none⟩) hg).trans a1
      replace a2 := (hB.cell (p := ⟨g, q * 5 + 2, none⟩) hg).trans a2
      replace a3 := (hB.cell (p := ⟨g, q * 5 + 3, none⟩) hg).trans a3
      replace a4 := (hB.cell (p := ⟨g, q * 5 + 4, none⟩) hg).trans a4
      have hns : (ns.take (q + 1)).map Value.string = (ns.take q).map Value.string ++ [.string nm] := by rw [List.take_add_one, hnm]; simp
      have hls : rowCells (l.take (q + 1)) (ws.take (q + 1)) = rowCells (l.take q) (ws.take q) ++ encJ (x, .slice An nn cn, .slice Al nl cl) := by
        rw [List.take_add_one, List.take_add_one, hx, hu]
        exact rowCells_snoc (by rw [List.length_take, List.length_take, hK.out.1]) _ _
      -- the member's box
      obtain ⟨W1, hW1⟩ : ∃ W, wr.alloc (.cells #[.string nm, .int .u8 x.kind, .string x.text, .slice An nn cn, .slice Al nl cl] 127) = W := ⟨_, rfl⟩
      have hb1 : Below wr.heap.size wr W1 := by rw [← hW1]; exact (Below.refl _ _).alloc (Nat.le_refl _) _
      have hX1 : Cel W1 wr.heap.size 127 #[.string nm, .int .u8 x.kind, .string x.text, .slice An nn cn, .slice Al nl cl] := by rw [← hW1]; exact Cel.fresh _ _ _
      have hs1 : W1.heap.size = wr.heap.size + 1 := by rw [← hW1]; simp
      have hN1 := ownRow_keep hN (fun g hg => by have := hN.lt g hg; exact hb1.block g this.2)
      have hL1 := ownRow_keep hL (fun g hg => by have := hL.lt g hg; exact hb1.block g this.2)
      -- its name
      obtain ⟨vN', W2, hr1, hN2, hg2, hv2⟩ := rowS_more hN1 (by omega) nm (by omega)
      rw [← hns] at hN2
      have hs2 := hg2.size
      simp at hs2
      have hk2 : ∀ k, k < W1.heap.size → vN.ownBlock ≠ some k → W2.heap[k]? = W1.heap[k]? := fun k hk hne => (hg2.block k (by simp; omega) (fun e => hne e.symm)).trans (Below.heap_alloc W1 _ k hk)
      have hlN := hN.lt
      have hlL := hL.lt
      have hk02 : ∀ k, k < wr.heap.size → vN.ownBlock ≠ some k → W2.heap[k]? = wr.heap[k]? := fun k hk hne => (hk2 k (by omega) hne).trans (hb1.block k hk)
      obtain ⟨NA, na, nc', hNf⟩ := own_form hN
      obtain ⟨LA, la, lc, hLf⟩ := own_form hL
      obtain ⟨NB, nb, nd, hNf'⟩ := own_form hN2
      have hC21 := hC2.below hb1 hsz2
      have hC22 : Cel W2 (w.heap.size + 1) 25 _ := (hk02 _ hsz2 (fun e => by have := hlN _ e; omega)).trans hC2
      have hX2 : Cel W2 wr.heap.size 127 _ := (hk2 wr.heap.size (by omega) (fun e => by have := hlN _ e; omega)).trans hX1
      have hC12 : Cel W2 w.heap.size 25 _ := (hk02 _ hsz (fun e => by have := hlN _ e; omega)).trans hC1
      obtain ⟨W3, hW3⟩ : ∃ W, W2.setCell ⟨w.heap.size + 1, 2, none⟩ vN' = W := ⟨_, rfl⟩
      have hk3 : ∀ k, k ≠ w.heap.size + 1 → W3.heap[k]? = W2.heap[k]? := fun k hk => by rw [← hW3]; exact Below.heap_setCell W2 _ _ k hk
      have hs3 : W3.heap.size = W2.heap.size := by rw [← hW3]; simp [World.setCell]
      have hC23 : Cel W3 (w.heap.size + 1) 25 #[.int .u8 7, .string ⟨#[]⟩, vN', vL] := by
        rw [← hW3]
        exact hC22.set 2 vN'
      have hX3 : Cel W3 wr.heap.size 127 _ := (hk3 _ (by omega)).trans hX2
      have hC13 : Cel W3 w.heap.size 25 _ := (hk3 _ (by omega)).trans hC12
      have hN3 := ownRow_keep hN2 (fun g hg => hk3 g (by have := hN2.lt g hg; omega))
      have hL3 := ownRow_keep hL (fun g hg => by have := hlL g hg; exact (hk3 g (by omega)).trans (hk02 g this.2 (fun e => hA g e hg)))
      -- its value
      obtain ⟨vL', W4, hr2, hL4, hg4, hv4⟩ := rowJ_more hL3 (by omega) x (.slice An nn cn) (.slice Al nl cl) rfl rfl (by omega)
      rw [← hls] at hL4
      have hs4 := hg4.size
      simp at hs4
      have hk4 : ∀ k, k < W3.heap.size → vL.ownBlock ≠ some k → W4.heap[k]? = W3.heap[k]? := fun k hk hne => (hg4.block k (by simp; omega) (fun e => hne e.symm)).trans (Below.heap_alloc W3 _ k hk)
      obtain ⟨LB, lb, ld, hLf'⟩ := own_form hL4
      have hC24 : Cel W4 (w.heap.size + 1) 25 _ := (hk4 _ (by omega) (fun e => by have := hlL _ e; omega)).trans hC23
      have hC14 : Cel W4 w.heap.size 25 _ := (hk4 _ (by omega) (fun e => by have := hlL _ e; omega)).trans hC13
      have hAN : ∀ g, vN'.ownBlock = some g → g < W3.heap.size ∧ vL.ownBlock ≠ some g := fun g hg => by
        refine ⟨by have := hN2.lt g hg; omega, fun e => ?_⟩
        rcases hv2 with e2 | e2
        · exact hA g (e2 ▸ hg) e
        · rw [e2] at hg; injection hg with hg; have := hlL g e; omega
      have hN4 := ownRow_keep hN3 (fun g hg => hk4 g (hAN g hg).1 (hAN g hg).2)
      obtain ⟨W5, hW5⟩ : ∃ W, W4.setCell ⟨w.heap.size + 1, 3, none⟩ vL' = W := ⟨_, rfl⟩
      have hk5 : ∀ k, k ≠ w.heap.size + 1 → W5.heap[k]? = W4.heap[k]? := fun k hk => by rw [← hW5]; exact Below.heap_setCell W4 _ _ k hk
      have hC25 : Cel W5 (w.heap.size + 1) 25 #[.int .u8 7, .string ⟨#[]⟩, vN', vL'] := by
        rw [← hW5]
        exact hC24.set 3 vL'
      have hB5 : Below w.heap.size w W5 := by
        have b1 := hB.trans (hb1.mono hB.size)
        have b2 := b1.alloc b1.size (.cells #[.string nm] 9)
        have b3 := Below.grown b2 hg2 b2.size (fun g hg => by have := hlN g hg; omega)
        have b4 : Below w.heap.size w W3 := by rw [← hW3]; exact b3.setCell (by simp) _
        have b5 := b4.alloc b4.size (.cells #[.int .u8 x.kind, .string x.text, .slice An nn cn, .slice Al nl cl] 25)
        have b6 := Below.grown b5 hg4 b5.size (fun g hg => by have := hlL g hg; omega)
        rw [← hW5]; exact b6.setCell (by simp) _
      have hI : ObjI w ns l ws (q + 1) vN' vL' W5 := ⟨(hk5 _ (by omega)).trans hC14, hC25, ownRow_keep hN4 (fun g hg => hk5 g (by have := hN4.lt g hg; omega)), ownRow_keep hL4 (fun g hg => hk5 g (by have := hL4.lt g hg; omega)), fun g hg e => by
        rcases hv4 with e2 | e2
        · exact (hAN g hg).2 (e2 ▸ e)
        · rw [e2] at e; injection e with e; have := (hAN g hg).1; omega, hB5⟩
      subst hNf
      subst hLf
      subst hNf'
      subst hLf'
      obtain ⟨b0, b1, b2, b3⟩ := hC21.c4
      have x0 := hX1.cell 0
      simp only [List.getElem?_toArray, List.getElem?_cons_zero] at x0
      have y2 := hC22.cell 2
      simp only [List.getElem?_toArray, List.getElem?_cons_zero, List.getElem?_cons_succ] at y2
      have f2 := hC22.froz 2
      have z3 := hC23.cell 3
      simp only [List.getElem?_toArray, List.getElem?_cons_zero, List.getElem?_cons_succ] at z3
      have x1 := hX3.cell 1
      have x2 := hX3.cell 2
      have x3 := hX3.cell 3
      have x4 := hX3.cell 4
      simp only [List.getElem?_toArray, List.getElem?_cons_zero, List.getElem?_cons_succ] at x1 x2 x3 x4
      have y3 := hC24.cell 3
      simp only [List.getElem?_toArray, List.getElem?_cons_zero, List.getElem?_cons_succ] at y3
      have f3 := hC24.froz 3
      replace hI := Lib.hid hI
      replace hW1 := Lib.hid hW1
      replace hW3 := Lib.hid hW3
      replace hW5 := Lib.hid hW5
      replace hr1 := Lib.hid hr1
      replace hr2 := Lib.hid hr2
      replace hs1 := Lib.hid hs1
      replace hs3 := Lib.hid hs3
      clear hC1 hC2 hN hL hA hB hb1 hX1 hN1 hL1 hN2 hg2 hv2 hs2 hk2 hlN hlL hk02 hC21 hC22 hX2 hC12 hk3 hC23 hX3 hC13 hN3 hL3 hL4 hg4 hv4 hs4 hk4 hC24 hC14 hAN hN4 hk5 hC25 hB5 hM hK hnm hx hu hOx hns hls
      go_upto_region 5 with fail
      rw [hW1.out]
      go_upto_region 6 with (at_builtin; refine jl_append_run (by rfl) _ _ 22 22 rfl (.slice NA na nc') (.slice (some ⟨W1.heap.size, 0, none⟩) 1 1) _ rfl rfl hr1.out ?_)
      rw [hW3.out]
      go_upto_region 7 with (at_builtin; refine jl_append_run (by rfl) _ _ 23 23 rfl (.slice LA la lc) (.slice (some ⟨W3.heap.size, 0, none⟩) 1 1) _ rfl rfl hr2.out ?_)
      rw [hW5.out]
      go_wp2_with fail
      go_roundw
      case rel => exact ⟨q + 1, _, _, by omega, by go_num, hI.out⟩
      case measure => simp [intOf]; omega
    · have hq2 : q = l.length := by omega
      subst hq2
      rw [List.take_of_length_le (by omega)] at hN
      rw [List.take_of_length_le (Nat.le_refl _), List.take_of_length_le (by rw [hK.out.1]; exact Nat.le_refl _)] at hL
      rw [← hn] at hN
      obtain ⟨An, nn, cn, rfl⟩ := own_form hN
      obtain ⟨Al, nl, cl, rfl⟩ := own_form hL
      obtain ⟨p0, p1, p2, p3⟩ := hC1.c4
      obtain ⟨r0, r1, r2, r3⟩ := hC2.c4
      have s0 := hC1.froz 0
      have s1 := hC1.froz 1
      have s2 := hC1.froz 2
      have s3 := hC1.froz 3
      clear hM hC1 hC2
      replace hN := Lib.hid hN
      replace hL := Lib.hid hL
      replace hA := Lib.hid hA
      replace hB := Lib.hid hB
      go_wp2_with fail
      have hBe := (((hB.out.setCell (p := ⟨w.heap.size, 0, none⟩) (by simp) (.int .u8 7)).setCell (p := ⟨w.heap.size, 1, none⟩) (by simp) (.string ⟨#[]⟩)).setCell (p := ⟨w.heap.size, 2, none⟩) (by simp) (.slice An nn cn)).setCell (p := ⟨w.heap.size, 3, none⟩) (by simp) (.slice Al nl cl)
      refine bodyPost_ret (v := .agg #[.int .u8 7, .string ⟨#[]⟩, .slice An nn cn, .slice Al nl cl]) (by simp [results, Tryz.results65, go_sem, p0, p1, p2, p3]) rfl ⟨_, _, rfl, ?_, hBe⟩
      have hk : ∀ k, k ≠ w.heap.size → ((((wr.setCell ⟨w.heap.size, 0, none⟩ (.int .u8 7)).setCell ⟨w.heap.size, 1, none⟩ (.string ⟨#[]⟩)).setCell ⟨w.heap.size, 2, none⟩ (.slice An nn cn)).setCell ⟨w.heap.size, 3, none⟩ (.slice Al nl cl)).heap[k]? = wr.heap[k]? := fun k hk => by
        rw [Below.heap_setCell _ _ _ _ hk, Below.heap_setCell _ _ _ _ hk, Below.heap_setCell _ _ _ _ hk, Below.heap_setCell _ _ _ _ hk]
      exact own_rows (by omega) (by omega) (ownRow_keep hN.out (fun g hg => hk g (by have := hN.out.lt g hg; omega))) (ownRow_keep hL.out (fun g hg => hk g (by have := hL.out.lt g hg; omega))) hA.out hK.out hBe (by omega) hlo
end Go.Proofs.YtlnkjacbdolhnaaGreatDoor


/-
  A region that draws its order, kept under one condition S: one operation alone, one taken first, one that is not wanted. No program.
-/
namespace Go.Proofs.YtlnkjacbdolhnaaGreatDoor
open Go.RowKit

theorem Cel.rng {w : World} {b : Nat} {t : TypeId} {l : List Value} (h : Cel w b t l.toArray) : w.rangeAt b 0 l := fun j v hv => by rw [h.cell]; simpa using hv
section
variable {P : Program} {ops : Array Oper} {Q : Exit → Act → World → Prop} {md : Region.Mode} {S : World → Prop}
/-- One operation alone may come up. -/
theorem hOne {i : Nat} {o : Oper} {fuel : Nat} {listed : Array Bool} {a : Act} {w : World} (hr : Region.ready md ops listed = [i]) (ho' : ops.toList[i]? = some o)
    (h : ∀ K' : Act → World → Prop, Shut (∀ a w, S w → wpAnyH P md ops Q S fuel (listed.setIfInBounds i true) a w → K' a w) → if Region.wanted o (yielded ops a.tmps) = true then Oper.wp P o a w K' Q else K' (a.put o.dst undef) w) : wpAnyH P md ops Q S (fuel + 1) listed a w :=
  wpAnyH_ready hr (by simp) (AllReadyH.cons (by rw [← Array.getElem?_toList]; exact ho') (fun K' hK => h K' (fun a w hS hW => hK.out a w hS (fun _ => hW))) AllReadyH.nil)
/-- What yields wherever S holds is taken first. -/
theorem hTake {i : Nat} {oi : Oper} {v : Value} {fuel : Nat} {listed : Array Bool} {a : Act} {w : World} (hi : ops.toList[i]? = some oi)
    (hs : Region.noSelect ops = true) (hf : Region.free md ops listed i = true) (hr : (Region.ready md ops listed).contains i = true)
    (hQ : ∀ c a w, Q (.panic c) (a.put oi.dst v) w → Q (.panic c) a w) (hy : YieldsIf P ops S oi v a) (hS : S w)
    (h : wpAnyH P md ops Q S fuel (listed.setIfInBounds i true) (a.put oi.dst v) w) : wpAnyH P md ops Q S (fuel + 1) listed a w :=
  wpAnyH_take (by rw [← Array.getElem?_toList]; exact hi) hs hf hr hQ hy hS h
end
end Go.Proofs.YtlnkjacbdolhnaaGreatDoor
