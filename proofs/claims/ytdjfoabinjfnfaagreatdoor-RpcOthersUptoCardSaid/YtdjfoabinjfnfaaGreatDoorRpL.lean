/-
  The walk of rostrumlaw05.given: a value as it is handed in, in new memory.
-/
import Derived.Test.YtdjfoabinjfnfaaGreatDoorM16
namespace Go.Proofs.YtdjfoabinjfnfaaGreatDoor
open Go.RowKit
set_option maxRecDepth 100000 in
set_option maxHeartbeats 2000000 in
theorem given7_any : ∀ (j : Jsn) (X : Nat → Prop) (w : World) (vn vl : Value), JV w X j vn vl → jbulk j ≤ 1000000000000 →
    Calls Tryz.prog 47 #[.agg #[.int .u8 j.kind, .string j.text, vn, vl]] w (OwnJEnd j w) := by
  refine Jsn.ind fun k s n l ih X w vn vl hV hbk => ?_
  obtain ⟨_, hn, hl, _, hkids⟩ := bulk_parts hbk
  dsimp only at hl hkids hn
  have hnam := hV.names
  have hkd := hV.kind
  obtain ⟨An, cn, rfl⟩ := hnam.len
  obtain ⟨A, c, zs, rfl, hz, h2, h3⟩ := hV.elems
  dsimp only at hnam hkd ⊢
  have hlen : zs.length = l.length := by rw [← hz, List.length_map]
  rw [← hlen] at hl
  have hw := Lib.hid (fun (wr : World) (i : Nat) (hB : Below w.heap.size w wr) (hi : i < zs.length) => JV.at h2 h3 hB hi)
  have hb1 : ∀ x ∈ l, jbulk x ≤ 1000000000000 := fun x hx => by have := hkids x hx; omega
  have hnl := Lib.hid (fun (wr : World) (hB : Below w.heap.size w wr) => hnam.later hB)
  obtain ⟨w0, hw0⟩ : ∃ w0, (w.alloc (.cells #[.int .u8 k, .string s, .slice An n.length cn, .slice A zs.length c] 25)).alloc (.cells #[.int .u8 0, .string ⟨#[]⟩, .slice none 0 0, .slice none 0 0] 25) = w0 := ⟨_, rfl⟩
  have hB0 : Below w.heap.size w w0 := by rw [← hw0]; exact ((Below.refl _ _).alloc (Nat.le_refl _) _).alloc (by simp) _
  have hC1 : Cel w0 w.heap.size 25 #[.int .u8 k, .string s, .slice An n.length cn, .slice A zs.length c] := by rw [← hw0]; exact (Cel.fresh _ _ _).alloc _
  have hC2 : Cel w0 (w.heap.size + 1) 25 #[.int .u8 0, .string ⟨#[]⟩, .slice none 0 0, .slice none 0 0] := by
    rw [← hw0]
    have := Cel.fresh (w.alloc (.cells #[.int .u8 k, .string s, .slice An n.length cn, .slice A zs.length c] 25)) 25 #[.int .u8 0, .string ⟨#[]⟩, .slice none 0 0, .slice none 0 0]
    simpa using this
  have hs0 : w0.heap.size = w.heap.size + 2 := by rw [← hw0]; simp
  clear hV h2 h3 hnam hkids hbk hlen
  replace ih := Lib.hid ih
  replace hb1 := Lib.hid hb1
  replace hz := Lib.hid hz
  replace hw0 := Lib.hid hw0
  replace hs0 := Lib.hid hs0
  have x0 := hC1.cell 0
  have x1 := hC1.cell 1
  have x2 := hC1.cell 2
  simp only [List.getElem?_toArray, List.getElem?_cons_zero, List.getElem?_cons_succ] at x0 x1 x2
  go_enter Tryz.func47, Tryz.ntmps47
  go_upto_region 1 with (fail)
  refine wp_cut (fun a' wc => ∃ (bo : Nat) (vN : Value) (u : Nat → Value), a' = ⟨#[.agg #[.int .u8 k, .string s, .slice An n.length cn, .slice A zs.length c], .pointer (some ⟨w.heap.size, 0, none⟩), .pointer (some ⟨w.heap.size + 1, 0, none⟩), .pointer (some ⟨bo, 0, none⟩), u 4, u 5, u 6, u 7, u 8, u 9, u 10, u 11, u 12, u 13, u 14, u 15, u 16, u 17, u 18, u 19, u 20, u 21, u 22, u 23, u 24, u 25, u 26, u 27, u 28, u 29, u 30, u 31, u 32], []⟩ ∧ (Cel wc bo 25 #[.int .u8 k, .string s, vN, .slice none 0 0] ∧ w.heap.size + 2 ≤ bo ∧ NamG wc (w.heap.size + 2) wc.heap.size bo vN n ∧ Below (w.heap.size + 2) w0 wc)) ?rest ?first
  case first =>
    intro J K' hJ hK'
    rw [hw0.out]
    clear hw ih hb1 hz hC2
    have hsz0 : w.heap.size + 2 ≤ w0.heap.size := by rw [hs0.out]; omega
    have hS : ∀ W, Below (w.heap.size + 2) w0 W → (W.cell? ⟨w.heap.size, 0, none⟩ = some (.int .u8 k) ∧ W.cell? ⟨w.heap.size, 1, none⟩ = some (.string s) ∧ W.cell? ⟨w.heap.size, 2, none⟩ = some (.slice An n.length cn)) ∧ Below (w.heap.size + 2) w0 W := fun W h =>
      ⟨⟨(h.cell (p := ⟨w.heap.size, 0, none⟩) (by show w.heap.size < _; omega)).trans x0, (h.cell (p := ⟨w.heap.size, 1, none⟩) (by show w.heap.size < _; omega)).trans x1, (h.cell (p := ⟨w.heap.size, 2, none⟩) (by show w.heap.size < _; omega)).trans x2⟩, h⟩
    have hnW : ∀ W, Below (w.heap.size + 2) w0 W → StrL W X (.slice An n.length cn) n := fun W h => hnl.out W (hB0.trans (h.mono (by omega)))
    clear x0 x1 x2 hC1 hB0 hnl
    replace hS := Lib.hid hS
    replace hnW := Lib.hid hnW
    go_region_held3 (fun W => (W.cell? ⟨w.heap.size, 0, none⟩ = some (.int .u8 k) ∧ W.cell? ⟨w.heap.size, 1, none⟩ = some (.string s) ∧ W.cell? ⟨w.heap.size, 2, none⟩ = some (.slice An n.length cn)) ∧ Below (w.heap.size + 2) w0 W)
      ((refine hS.out _ ?_; (repeat (first | exact Below.refl _ _ | assumption | refine bel_drew ?_ | (refine Below.alloc ?_ (by first | omega | (simp; omega)) _) | (refine Below.setCell ?_ (by first | omega | (simp; omega)) _)))))
      (first
        | (refine step_names (n := n) (X := X) (by rfl) (.tmp 9) (.tmp 11) (by rfl) (by rfl) _ (by rfl) (by rfl) (hnW.out _ ?_) hn ?_; (repeat (first | exact Below.refl _ _ | assumption | refine bel_drew ?_ | (refine Below.alloc ?_ (by first | omega | (simp; omega)) _) | (refine Below.setCell ?_ (by first | omega | (simp; omega)) _))); intro v' w' hp; have hZ : Below (w.heap.size + 2) w0 w' := (by (refine Below.trans ?_ (hp.2.mono ?_)); (repeat (first | exact Below.refl _ _ | assumption | refine bel_drew ?_ | (refine Below.alloc ?_ (by first | omega | (simp; omega)) _) | (refine Below.setCell ?_ (by first | omega | (simp; omega)) _))); (first | omega | (simp; omega))); have hZs := hZ.size; obtain ⟨hc9, hf9⟩ := bcell hp.2; have hz9 := hp.2.size; simp at hz9; obtain ⟨gn, hgn, hN⟩ := hp.1; obtain ⟨An', cn', rfl, hN2⟩ := id hN; clear hN2; replace hN := Lib.hid hN; replace hp := Lib.hid hp))
    · have hp2 := hp.out.2
      go_wp2
      refine Met.intro (hJ _ _ ?_)
      refine ⟨w'.heap.size, .slice An' n.length cn', meetF (by kernel_rfl) ⟨Cel.fresh _ _ _, by omega, given_fin hN.out hgn (by simp; omega) (by simp) (fun b _ h => Below.heap_alloc w' _ b h) (Or.inr (Nat.le_refl _)) ⟨by omega, by first | omega | (simp; omega), hp2.size⟩, hZ.alloc (by omega) _⟩⟩
    · have hp2 := hp.out.2
      have hq := Cel.fresh (w0.alloc (.cells #[] 9)) 25 #[.int .u8 0, .string ⟨#[]⟩, .slice none 0 0, .slice none 0 0]
      have he : (w0.alloc (.cells #[] 9)).heap.size = w0.heap.size + 1 := by simp
      rw [he] at hq
      have hCo := hq.drew
      have hCo2 := (((hCo.below hp2 hCo.lt).set 0 (.int .u8 k)).set 1 (.string s)).set 2 (.slice An' n.length cn') |>.set 3 (.slice none 0 0)
      go_wp2
      refine Met.intro (hJ _ _ ?_)
      refine ⟨w0.heap.size + 1, .slice An' n.length cn', meetF (by kernel_rfl) ⟨hCo2, by omega, given_fin hN.out hgn (by simp; omega) (by simp [World.setCell]) (fun b h1 _ => ?_) (Or.inl (by first | (simp; done) | (simp; omega))) ⟨by omega, by first | omega | (simp; omega), hp2.size⟩, (((hZ.setCell (by simp; omega) _).setCell (by simp; omega) _).setCell (by simp; omega) _).setCell (by simp; omega) _⟩⟩
      simp at h1
      rw [Below.heap_setCell _ _ _ _ (by simp; omega), Below.heap_setCell _ _ _ _ (by simp; omega), Below.heap_setCell _ _ _ _ (by simp; omega), Below.heap_setCell _ _ _ _ (by simp; omega)]
    · have hp2 := hp.out.2
      have hCo := (show Cel ((w0.alloc (.cells #[.int .u8 0, .string ⟨#[]⟩, .slice none 0 0, .slice none 0 0] 25)).alloc (.cells #[] 9)).drew w0.heap.size 25 #[.int .u8 0, .string ⟨#[]⟩, .slice none 0 0, .slice none 0 0] from ((Cel.fresh w0 25 #[.int .u8 0, .string ⟨#[]⟩, .slice none 0 0, .slice none 0 0]).alloc _).drew)
      have hCo2 := (((hCo.below hp2 hCo.lt).set 0 (.int .u8 k)).set 1 (.string s)).set 2 (.slice An' n.length cn') |>.set 3 (.slice none 0 0)
      go_wp2
      refine Met.intro (hJ _ _ ?_)
      refine ⟨w0.heap.size, .slice An' n.length cn', meetF (by kernel_rfl) ⟨hCo2, by omega, given_fin hN.out hgn (by simp; omega) (by simp [World.setCell]) (fun b h1 _ => ?_) (Or.inl (by first | (simp; done) | (simp; omega))) ⟨by omega, by first | omega | (simp; omega), hp2.size⟩, (((hZ.setCell (by simp; omega) _).setCell (by simp; omega) _).setCell (by simp; omega) _).setCell (by simp; omega) _⟩⟩
      simp at h1
      rw [Below.heap_setCell _ _ _ _ (by simp; omega), Below.heap_setCell _ _ _ _ (by simp; omega), Below.heap_setCell _ _ _ _ (by simp; omega), Below.heap_setCell _ _ _ _ (by simp; omega)]
  case rest =>
    rintro a' wc ⟨bo, vN, u', rfl, hCo, hbo, hNam, hBc⟩
    obtain ⟨A5, c5, rfl⟩ := hNam.len
    have hD1 := hC1.below hBc (by omega)
    have hD2 := hC2.below hBc (by omega)
    have hs0' := hs0.out
    have hcs := hBc.size
    have hBw := hB0.trans (hBc.mono (by omega))
    clear hnl hw0 x0 x1 x2 hC1 hC2 hB0 hBc
    replace hCo := Lib.hid hCo
    replace hNam := Lib.hid hNam
    replace hD1 := Lib.hid hD1
    replace hD2 := Lib.hid hD2
    replace hBw := Lib.hid hBw
    have hbw : bo < wc.heap.size := hCo.out.lt
    clear hs0'
    go_wp2_with fail
    go_loopw [4] (fun i wr => ∃ (q : Nat) (v : Value), q ≤ zs.length ∧ i = .int .i64 q ∧ RowO wr wc.heap.size 9 25 v ((zs.take q).map (·.1)) ∧ Cel wr bo 25 #[.int .u8 k, .string s, .slice A5 n.length c5, v] ∧ Cel wr w.heap.size 25 #[.int .u8 k, .string s, .slice An n.length cn, .slice A zs.length c] ∧ Cel wr (w.heap.size + 1) 25 #[.int .u8 0, .string ⟨#[]⟩, .slice none 0 0, .slice none 0 0] ∧ NamG wr (w.heap.size + 2) wc.heap.size bo (.slice A5 n.length c5) n ∧ Below w.heap.size w wr ∧ wc.heap.size ≤ wr.heap.size) (fun i _ => zs.length - (intOf i).toNat)
    case atStart => exact ⟨0, .slice none 0 0, Nat.zero_le _, rfl, RowO.nil _ _ _ _, hCo.out, hD1.out, hD2.out, hNam.out, hBw.out, Nat.le_refl _⟩
    case round =>
      obtain ⟨q, v, hq, rfl, hrow, hC, hC1, hC2, hN, hB, hsw⟩ := hrel
      have hsz := hC1.lt
      have x13 : wr.cell? ⟨w.heap.size, 3, none⟩ = some (.slice A zs.length c) := hC1.cell 3
      by_cases hlt : q < zs.length
      · obtain ⟨g, o, ⟨x, vx, vy⟩, hzq, hzm, rfl, hVz, a0, a1, a2, a3⟩ := hw.out wr q hB hlt
        dsimp only at hVz a0 a1 a2 a3
        have hxm : x ∈ l := by rw [← hz.out]; exact List.mem_map_of_mem (f := (·.1)) hzm
        obtain ⟨Ax, nx, cx, Ay, ny, cy, rfl, rfl⟩ := hVz.forms
        have hcall : ∀ W, Below wr.heap.size wr W → Calls Tryz.prog 47 #[.agg #[.int .u8 x.kind, .string x.text, .slice Ax nx cx, .slice Ay ny cy]] W (OwnJEnd x W) := fun W h => ih.out x hxm X W _ _ (hVz.later h) (hb1.out x hxm)
        have hsnoc : (zs.take (q + 1)).map (·.1) = (zs.take q).map (·.1) ++ [x] := by rw [List.take_add_one, hzq]; simp
        have hql : ((zs.take q).map (·.1)).length = q := by rw [List.length_map, List.length_take]; omega
        obtain ⟨_, _, A7, c7, _, hv7, _, _⟩ := hrow.kids
        rw [hql] at hv7
        subst hv7
        have hou : wr.cell? ⟨bo, 3, none⟩ = some (.slice A7 q c7) := hC.cell 3
        have hbw2 := hC.lt
        have hq0 : (0 : Int) ≤ (q : Int) := by omega
        have hq1 : (q : Int) < (zs.length : Int) := by omega
        have hg1 : g < wr.heap.size := World.block_lt_of_cell? wr _ a0
        clear hVz hzq hzm
        replace hcall := Lib.hid hcall
        replace hsnoc := Lib.hid hsnoc
        replace hql := Lib.hid hql
        replace hrow := Lib.hid hrow
        replace hC := Lib.hid hC
        replace hC1 := Lib.hid hC1
        replace hC2 := Lib.hid hC2
        replace hN := Lib.hid hN
        replace hB := Lib.hid hB
        go_wp2_with fail
        clear hw ih
        go_region_law (first
          | (refine jl_step_run (by rfl) (.tmp 22) (.tmp 29) 23 23 (by rfl) (.slice A7 q c7) (.slice (some ⟨w2.heap.size, 0, none⟩) 1 1) _ w4 (by rfl) (by rfl) hrun.out ?_)
          | (go_simp; go_at_call 47; (with_reducible refine (hcall.out _ ?_).mono ?_); exact bel_drewN (Below.refl _ _) 1; rintro e w2 ⟨vn', vl', rfl, hO, hB2⟩; obtain ⟨Bx, mx, ex, By, my, ey, rfl, rfl⟩ := hO.forms; obtain ⟨v', w4, hrun, hfin⟩ := given_round hrow.out hB.out hB2 hsw hO hql.out (by omega) hsnoc.out hC.out hC1.out hC2.out (by omega) hbo hN.out hbw; obtain ⟨A6, n6, c6, hv6, hu2, hu3, hu4, hu5, hrest⟩ := hfin; subst hv6; replace hrun := Lib.hid hrun; replace hrest := Lib.hid hrest; clear hO hB2))
        all_goals
          have hn9 := hrest.out
          clear hrest hrun hcall hrow hC hC1 hC2 hN hB
          replace hn9 := Lib.hid hn9
          go_wp2_with fail
          go_roundw
          case rel => exact ⟨q + 1, _, by omega, by go_num, hn9.out.1, hn9.out.2.1, hn9.out.2.2.1, hn9.out.2.2.2.1, hn9.out.2.2.2.2.1, hn9.out.2.2.2.2.2.1, hn9.out.2.2.2.2.2.2⟩
          case measure => simp [intOf]; omega
      · have hfull : (zs.take q).map (·.1) = l := by rw [List.take_of_length_le (by omega), hz.out]
        rw [hfull] at hrow
        obtain ⟨_, _, A3, c3, _, hv3, _, _⟩ := hrow.kids
        subst hv3
        obtain ⟨gn, hgn1, hgn2, hNm⟩ := hN
        have hO := mk_own2 (k := k) (s := s) hkd.1 hkd.2 hrow (lo' := w.heap.size + 2) (by omega) hgn1 hsw hNm
        have p0 := hC.cell 0
        have p1 := hC.cell 1
        have p2 := hC.cell 2
        have p3 := hC.cell 3
        have r0 := hC2.cell 0
        have r1 := hC2.cell 1
        have r2 := hC2.cell 2
        have r3 := hC2.cell 3
        have s0 := hC2.froz 0
        have s1 := hC2.froz 1
        have s2 := hC2.froz 2
        have s3 := hC2.froz 3
        have hsz2 := hC2.lt
        simp only [List.getElem?_toArray, List.getElem?_cons_zero, List.getElem?_cons_succ] at p0 p1 p2 p3 r0 r1 r2 r3
        clear hw ih hfull hrow hNm hC hC1 hC2
        replace hO := Lib.hid hO
        replace hB := Lib.hid hB
        go_wp2_with fail
        refine bodyPost_ret (v := .agg #[.int .u8 k, .string s, .slice A5 n.length c5, .slice A3 l.length c3]) (by simp [results, Tryz.results47, go_sem, r0, r1, r2, r3]) rfl ⟨_, _, rfl, ?_, ?_⟩
        · refine OwnJ.keep _ hO.out (fun b h1 _ => ?_) (by omega) (by simp [World.setCell])
          rw [Below.heap_setCell _ _ _ _ (by simp; omega), Below.heap_setCell _ _ _ _ (by simp; omega), Below.heap_setCell _ _ _ _ (by simp; omega), Below.heap_setCell _ _ _ _ (by simp; omega)]
        · exact (((hB.out.setCell (by simp) _).setCell (by simp) _).setCell (by simp) _).setCell (by simp) _
end Go.Proofs.YtdjfoabinjfnfaaGreatDoor
