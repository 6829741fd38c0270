/-
  The walk of rostrumref08.Same: whether two values are the same.
-/
import Derived.Test.YtghaoielnphhlaaGreatDoorM01
import Derived.Test.YtghaoielnphhlaaGreatDoorM10
namespace Go.Proofs.YtghaoielnphhlaaGreatDoor
open Go.RowKit

set_option maxHeartbeats 2000000 in
theorem refSame8_any : ∀ (a : Jsn), SameSays 40 a := by
  refine Jsn.ind fun k s n l ih b X Y w vn vl un ul hV hU hbk hbu => ?_
  obtain ⟨k', s', n', l'⟩ := b
  obtain ⟨_, hn, hl, _, hkids⟩ := bulk_parts hbk
  obtain ⟨_, hn', hl', _, hkids'⟩ := bulk_parts hbu
  dsimp only at hl hkids hl' hkids' hn hn'
  have hnam := hV.names
  have hnam' := hU.names
  obtain ⟨A1, c1, rfl⟩ := hnam.len
  obtain ⟨A2, c2, rfl⟩ := hnam'.len
  obtain ⟨B1, d1, zs, rfl, hz, h2, h3⟩ := hV.elems
  obtain ⟨B2, d2, ys, rfl, hy, h4, h5⟩ := hU.elems
  dsimp only at hnam hnam' ⊢
  have hlen : zs.length = l.length := by rw [← hz, List.length_map]
  have hlen' : ys.length = l'.length := by rw [← hy, List.length_map]
  by_cases hk : k = k'
  case neg =>
    rw [js_kind hk]
    have hk1 : (k == k') = false := beq_eq_false_iff_ne.2 hk
    have hk2 : (k != k') = true := by simp [hk]
    clear ih hV hU h2 h3 h4 h5 hz hy hnam hnam' hkids hkids' hlen hlen' hbk hbu
    go_enter Tryz.func40, Tryz.ntmps40
    go_wp2_with fail
    go_ret
    exact ⟨rfl, ((Below.refl _ _).alloc (Nat.le_refl _) _).alloc (by simp) _⟩
  subst hk
  by_cases hs : s = s'
  case neg =>
    rw [js_text hs]
    have hk1 := jeq_f hs
    clear ih hV hU h2 h3 h4 h5 hz hy hnam hnam' hkids hkids' hlen hlen' hbk hbu
    go_enter Tryz.func40, Tryz.ntmps40
    go_wp2_with fail
    go_ret
    exact ⟨rfl, ((Below.refl _ _).alloc (Nat.le_refl _) _).alloc (by simp) _⟩
  subst hs
  by_cases hnl : n.length = n'.length
  case neg =>
    rw [js_names (fun h => hnl (by rw [h]))]
    have hk1 : ((n.length : Int) == (n'.length : Int)) = false := beq_eq_false_iff_ne.2 (by omega)
    have hk2 : ((n.length : Int) != (n'.length : Int)) = true := by rw [bne_iff_ne]; omega
    clear ih hV hU h2 h3 h4 h5 hz hy hnam hnam' hkids hkids' hlen hlen' hbk hbu
    go_enter Tryz.func40, Tryz.ntmps40
    go_wp2_with fail
    go_ret
    exact ⟨rfl, ((Below.refl _ _).alloc (Nat.le_refl _) _).alloc (by simp) _⟩
  by_cases hll : zs.length = ys.length
  case neg =>
    rw [js_len (by omega)]
    have hk1 : ((zs.length : Int) == (ys.length : Int)) = false := beq_eq_false_iff_ne.2 (by omega)
    have hk2 : ((zs.length : Int) != (ys.length : Int)) = true := by rw [bne_iff_ne]; omega
    have hk3 : ((n.length : Int) == (n'.length : Int)) = true := beq_iff_eq.2 (by omega)
    have hk4 : ((n.length : Int) != (n'.length : Int)) = false := by simp [hnl]
    clear ih hV hU h2 h3 h4 h5 hz hy hnam hnam' hkids hkids' hlen hlen' hbk hbu hnl
    go_enter Tryz.func40, Tryz.ntmps40
    go_wp2_with fail
    go_ret
    exact ⟨rfl, ((Below.refl _ _).alloc (Nat.le_refl _) _).alloc (by simp) _⟩
  have hlz : zs.length ≤ 1000000000000000 := by omega
  have hnz : n.length ≤ 1000000000000000 := hn
  have hjl : l.length = l'.length := by omega
  obtain ⟨W0, hW0⟩ : ∃ W0, (w.alloc (.cells #[.int .u8 k, .string s, .slice A1 n.length c1, .slice B1 zs.length d1] 25)).alloc (.cells #[.int .u8 k, .string s, .slice A2 n'.length c2, .slice B2 ys.length d2] 25) = W0 := ⟨_, rfl⟩
  have hB0 : Below w.heap.size w W0 := by rw [← hW0]; exact ((Below.refl _ _).alloc (Nat.le_refl _) _).alloc (by simp) _
  have hC1 : Cel W0 w.heap.size 25 #[.int .u8 k, .string s, .slice A1 n.length c1, .slice B1 zs.length d1] := by rw [← hW0]; exact (Cel.fresh _ _ _).alloc _
  have hC2 : Cel W0 (w.heap.size + 1) 25 #[.int .u8 k, .string s, .slice A2 n'.length c2, .slice B2 ys.length d2] := by
    rw [← hW0]
    have := Cel.fresh (w.alloc (.cells #[.int .u8 k, .string s, .slice A1 n.length c1, .slice B1 zs.length d1] 25)) 25 #[.int .u8 k, .string s, .slice A2 n'.length c2, .slice B2 ys.length d2]
    simpa using this
  rw [← hnl] at hW0 hC2 hnam' ⊢
  rw [← hll] at hW0 hC2 ⊢
  have hat1 := Lib.hid (fun (i : Nat) (hi : i < n.length) => hnam.at hB0 hi)
  have hat2 := Lib.hid (fun (i : Nat) (hi : i < n'.length) => hnam'.at hB0 hi)
  have hw1 := Lib.hid (fun (wr : World) (i : Nat) (hB : Below w.heap.size w wr) (hi : i < zs.length) => JV.at h2 h3 hB hi)
  have hw2 := Lib.hid (fun (wr : World) (i : Nat) (hB : Below w.heap.size w wr) (hi : i < ys.length) => JV.at h4 h5 hB hi)
  have hb1 : ∀ x ∈ l, jbulk x ≤ 1000000000000000 := fun x hx => by have := hkids x hx; omega
  have hb2 : ∀ x ∈ l', jbulk x ≤ 1000000000000000 := fun x hx => by have := hkids' x hx; omega
  have x12 : W0.cell? ⟨w.heap.size, 2, none⟩ = some (.slice A1 n.length c1) := hC1.cell 2
  have x22 : W0.cell? ⟨w.heap.size + 1, 2, none⟩ = some (.slice A2 n.length c2) := hC2.cell 2
  clear hV hU h2 h3 h4 h5 hnam hnam' hkids hkids' hlen hlen' hbk hbu
  replace ih := Lib.hid ih
  replace hb1 := Lib.hid hb1
  replace hb2 := Lib.hid hb2
  replace hz := Lib.hid hz
  replace hy := Lib.hid hy
  replace hnl := Lib.hid hnl
  replace hll := Lib.hid hll
  replace hjl := Lib.hid hjl
  replace hC1 := Lib.hid hC1
  replace hC2 := Lib.hid hC2
  replace hB0 := Lib.hid hB0
  replace hW0 := Lib.hid hW0
  go_enter Tryz.func40, Tryz.ntmps40
  go_wp2_with fail
  rw [hW0.out]
  clear hW0
  go_loopw [5] (fun i wr => ∃ q m : Nat, q ≤ n.length ∧ i = .int .i64 q ∧ n.take q = n'.take q ∧ wr = W0.drewN m) (fun i _ => n.length - (intOf i).toNat)
  case atStart => exact ⟨0, 0, Nat.zero_le _, rfl, rfl, rfl⟩
  case round =>
    obtain ⟨q, m, hq, rfl, htk, rfl⟩ := hrel
    by_cases hlt : q < n.length
    · have hlt' : q < n'.length := by rw [← hnl.out]; exact hlt
      obtain ⟨g1, o1, rfl, y1⟩ := hat1.out q hlt
      obtain ⟨g2, o2, rfl, y2⟩ := hat2.out q hlt'
      have e1 : n.take (q + 1) = n.take q ++ [n[q]] := by rw [List.take_add_one, List.getElem?_eq_getElem hlt]; rfl
      have e2 : n'.take (q + 1) = n'.take q ++ [n'[q]] := by rw [List.take_add_one, List.getElem?_eq_getElem hlt']; rfl
      have e3 : n[q] ≠ n'[q] → n ≠ n' := fun h h2 => h (by subst h2; rfl)
      obtain ⟨S1, hS1⟩ : ∃ S, n[q] = S := ⟨_, rfl⟩
      obtain ⟨S2, hS2⟩ : ∃ S, n'[q] = S := ⟨_, rfl⟩
      rw [hS1] at y1 e1 e3
      rw [hS2] at y2 e2 e3
      have hq0 : (0 : Int) ≤ (q : Int) := by omega
      have hq1 : (q : Int) < (n.length : Int) := by omega
      clear hS1 hS2
      by_cases heq : S1 = S2
      · subst heq
        have htk2 : n.take (q + 1) = n'.take (q + 1) := by rw [e1, e2, htk]
        clear e1 e2 e3 htk
        replace htk2 := Lib.hid htk2
        go_wp2_with fail
        go_quiet (fail)
        go_wp2_with fail
        go_roundw
        case rel => exact ⟨q + 1, m + nq, by omega, by go_num, htk2.out, by first | rfl | rw [World.drewN_drewN]⟩
        case measure => simp [intOf]; omega
      · have hj := js_names (k := k) (s := s) (l := l) (k' := k) (s' := s) (l' := l') (e3 heq)
        have hne := jeq_f heq
        have hBe := bel_drewN hB0.out m
        replace hj := Lib.hid hj
        clear e1 e2 e3 htk heq
        replace hBe := Lib.hid hBe
        go_wp2_with fail
        go_quiet (fail)
        go_wp2_with fail
        go_ret
        exact ⟨by rw [hj.out]; rfl, by first | exact bel_drewN hBe.out nq | exact bel_drewN hB0.out _⟩
    · have hnn : n = n' := by
        rw [List.take_of_length_le (by omega), List.take_of_length_le (by rw [← hnl.out]; omega)] at htk
        exact htk
      subst hnn
      have hB1 := bel_drewN hB0.out m
      have hD1 := hC1.out.drewN m
      have hD2 := hC2.out.drewN m
      have hjs := js_list (k := k) (s := s) (n := n) hjl.out
      have hfin := sameTo_full zs ys
      have hff := fun q => sameTo_false (zs := zs) (ys := ys) (q := q)
      rw [hz.out, hy.out] at hfin
      rw [hz.out, hy.out] at hff
      obtain ⟨J, hJ⟩ : ∃ J, (l.zip l').all (fun p => jsame p.1 p.2) = J := ⟨_, rfl⟩
      rw [hJ] at hfin hff hjs
      replace hjs := Lib.hid hjs
      have hmx : max zs.length ys.length = zs.length := by have := hll.out; omega
      rw [hmx] at hfin
      clear hat1 hat2 htk hJ hmx hB0 hC1 hC2
      replace hB1 := Lib.hid hB1
      replace hD1 := Lib.hid hD1
      replace hD2 := Lib.hid hD2
      replace hfin := Lib.hid hfin
      replace hff := Lib.hid hff
      go_wp2_with fail
      clear x12 x22
      go_loopw [6] (fun i wr => ∃ q : Nat, q ≤ zs.length ∧ i = .int .i64 q ∧ sameTo zs ys q = true ∧ Cel wr w.heap.size 25 #[.int .u8 k, .string s, .slice A1 n.length c1, .slice B1 zs.length d1] ∧ Cel wr (w.heap.size + 1) 25 #[.int .u8 k, .string s, .slice A2 n.length c2, .slice B2 zs.length d2] ∧ Below w.heap.size w wr) (fun i _ => zs.length - (intOf i).toNat)
      case atStart => exact ⟨0, Nat.zero_le _, rfl, rfl, hD1.out, hD2.out, hB1.out⟩
      case round =>
        obtain ⟨q, hq, rfl, hsm, hC1, hC2, hB⟩ := hrel
        have x13 : wr.cell? ⟨w.heap.size, 3, none⟩ = some (.slice B1 zs.length d1) := hC1.cell 3
        have x23 : wr.cell? ⟨w.heap.size + 1, 3, none⟩ = some (.slice B2 zs.length d2) := hC2.cell 3
        have hsz := hC1.lt
        have hsz2 := hC2.lt
        by_cases hlt : q < zs.length
        · have hlt' : q < ys.length := by rw [← hll.out]; exact hlt
          obtain ⟨g1, o1, ⟨x, vx, vy⟩, hzq, hzm, rfl, hVz, a0, a1, a2, a3⟩ := hw1.out wr q hB hlt
          obtain ⟨g2, o2, ⟨x', ux, uy⟩, hyq, hym, rfl, hUy, b0, b1, b2, b3⟩ := hw2.out wr q hB hlt'
          dsimp only at hVz a0 a1 a2 a3 hUy b0 b1 b2 b3
          have hxm : x ∈ l := by rw [← hz.out]; exact List.mem_map_of_mem (f := (·.1)) hzm
          have hym' : x' ∈ l' := by rw [← hy.out]; exact List.mem_map_of_mem (f := (·.1)) hym
          obtain ⟨Ax, nx, cx, Ay, ny, cy, rfl, rfl⟩ := hVz.forms
          obtain ⟨Bx, mx, ex, By, my, ey, rfl, rfl⟩ := hUy.forms
          have hstep := sameTo_step hzq hyq
          rw [hsm, Bool.true_and] at hstep
          obtain ⟨r, hr⟩ : ∃ r, jsame x x' = r := ⟨_, rfl⟩
          dsimp only at hstep
          rw [hr] at hstep
          have hcall : ∀ W, Below wr.heap.size wr W → Calls Tryz.prog 40 #[.agg #[.int .u8 x.kind, .string x.text, .slice Ax nx cx, .slice Ay ny cy], .agg #[.int .u8 x'.kind, .string x'.text, .slice Bx mx ex, .slice By my ey]] W fun e w' => e = .returned (.bool r) ∧ Below W.heap.size W w' := fun W h => by
            have := ih.out x hxm x' X Y W _ _ _ _ (hVz.later h) (hUy.later h) (hb1.out x hxm) (hb2.out x' hym')
            rwa [hr] at this
          have hg1 : g1 < wr.heap.size := World.block_lt_of_cell? wr _ a0
          have hg2 : g2 < wr.heap.size := World.block_lt_of_cell? wr _ b0
          have hS : ∀ W, Below wr.heap.size wr W → ((W.cell? ⟨w.heap.size, 3, none⟩ = some (.slice (some ⟨g1, o1, none⟩) zs.length d1) ∧ W.cell? ⟨w.heap.size + 1, 3, none⟩ = some (.slice (some ⟨g2, o2, none⟩) zs.length d2)) ∧
              (W.cell? ⟨g1, o1 + q * 4, none⟩ = some (.int .u8 x.kind) ∧ W.cell? ⟨g1, o1 + q * 4 + 1, none⟩ = some (.string x.text) ∧ W.cell? ⟨g1, o1 + q * 4 + 2, none⟩ = some (.slice Ax nx cx) ∧ W.cell? ⟨g1, o1 + q * 4 + 3, none⟩ = some (.slice Ay ny cy)) ∧
              (W.cell? ⟨g2, o2 + q * 4, none⟩ = some (.int .u8 x'.kind) ∧ W.cell? ⟨g2, o2 + q * 4 + 1, none⟩ = some (.string x'.text) ∧ W.cell? ⟨g2, o2 + q * 4 + 2, none⟩ = some (.slice Bx mx ex) ∧ W.cell? ⟨g2, o2 + q * 4 + 3, none⟩ = some (.slice By my ey))) ∧ Below wr.heap.size wr W := fun W h =>
            ⟨⟨⟨(h.cell (p := ⟨w.heap.size, 3, none⟩) hsz).trans x13, (h.cell (p := ⟨w.heap.size + 1, 3, none⟩) hsz2).trans x23⟩,
              ⟨(h.cell (p := ⟨g1, o1 + q * 4, none⟩) hg1).trans a0, (h.cell (p := ⟨g1, o1 + q * 4 + 1, none⟩) hg1).trans a1, (h.cell (p := ⟨g1, o1 + q * 4 + 2, none⟩) hg1).trans a2, (h.cell (p := ⟨g1, o1 + q * 4 + 3, none⟩) hg1).trans a3⟩,
              ⟨(h.cell (p := ⟨g2, o2 + q * 4, none⟩) hg2).trans b0, (h.cell (p := ⟨g2, o2 + q * 4 + 1, none⟩) hg2).trans b1, (h.cell (p := ⟨g2, o2 + q * 4 + 2, none⟩) hg2).trans b2, (h.cell (p := ⟨g2, o2 + q * 4 + 3, none⟩) hg2).trans b3⟩⟩, h⟩
          have hnx : ∀ w1, Below wr.heap.size wr w1 → Cel w1 w.heap.size 25 #[.int .u8 k, .string s, .slice A1 n.length c1, .slice (some ⟨g1, o1, none⟩) zs.length d1] ∧ Cel w1 (w.heap.size + 1) 25 #[.int .u8 k, .string s, .slice A2 n.length c2, .slice (some ⟨g2, o2, none⟩) zs.length d2] ∧ Below w.heap.size w w1 := fun w1 h => ⟨hC1.below h hsz, hC2.below h hsz2, hB.trans (h.mono (by omega))⟩
          have hq0 : (0 : Int) ≤ (q : Int) := by omega
          have hq1 : (q : Int) < (zs.length : Int) := by omega
          have hfq := hff.out (q + 1)
          rw [hstep] at hfq
          clear hC1 hC2 hB hVz hUy hzq hzm hyq hym hw1 hw2 ih hb1 hb2 hsm a0 a1 a2 a3 b0 b1 b2 b3 x23 hr hz hy hff hfin
          replace hcall := Lib.hid hcall
          replace hS := Lib.hid hS
          replace hnx := Lib.hid hnx
          replace hstep := Lib.hid hstep
          replace hfq := Lib.hid hfq
          go_wp2_with fail
          clear x13
          go_region_held3 (fun W => ((W.cell? ⟨w.heap.size, 3, none⟩ = some (.slice (some ⟨g1, o1, none⟩) zs.length d1) ∧ W.cell? ⟨w.heap.size + 1, 3, none⟩ = some (.slice (some ⟨g2, o2, none⟩) zs.length d2)) ∧
              (W.cell? ⟨g1, o1 + q * 4, none⟩ = some (.int .u8 x.kind) ∧ W.cell? ⟨g1, o1 + q * 4 + 1, none⟩ = some (.string x.text) ∧ W.cell? ⟨g1, o1 + q * 4 + 2, none⟩ = some (.slice Ax nx cx) ∧ W.cell? ⟨g1, o1 + q * 4 + 3, none⟩ = some (.slice Ay ny cy)) ∧
              (W.cell? ⟨g2, o2 + q * 4, none⟩ = some (.int .u8 x'.kind) ∧ W.cell? ⟨g2, o2 + q * 4 + 1, none⟩ = some (.string x'.text) ∧ W.cell? ⟨g2, o2 + q * 4 + 2, none⟩ = some (.slice Bx mx ex) ∧ W.cell? ⟨g2, o2 + q * 4 + 3, none⟩ = some (.slice By my ey))) ∧ Below wr.heap.size wr W)
            (first | exact hS.out _ (bel_drewN (Below.refl _ _) 1) | exact hS.out _ hZ1)
            (first
              | (go_at_call 40; (with_reducible refine (hcall.out _ ?_).mono ?_); exact bel_drewN (Below.refl _ _) 1; rintro e w1 ⟨rfl, hB1⟩; have hZ1 : Below wr.heap.size wr w1 := (bel_drewN (Below.refl _ _) 1).trans hB1; clear hB1))
          all_goals
            have hn3 := hnx.out _ hZ1
            clear hcall hS hnx
            replace hn3 := Lib.hid hn3
            cases r
            · have hJf : J = false := hfq.out rfl
              subst hJf
              clear hfq hstep
              go_wp2_with fail
              go_ret
              exact ⟨by rw [hjs.out]; rfl, hn3.out.2.2⟩
            · clear hfq
              go_wp2_with fail
              go_roundw
              case rel => exact ⟨q + 1, by omega, by go_num, hstep.out, hn3.out.1, hn3.out.2.1, hn3.out.2.2⟩
              case measure => simp [intOf]; omega
        · obtain rfl : q = zs.length := by omega
          have hJt : J = true := by rw [← hfin.out]; exact hsm
          subst hJt
          clear hC1 hC2 hw1 hw2 ih hb1 hb2 hsm hff hfin
          replace hB := Lib.hid hB
          go_wp2_with fail
          go_ret
          exact ⟨by rw [hjs.out]; rfl, hB.out⟩
end Go.Proofs.YtghaoielnphhlaaGreatDoor


/-
  The walk of rostrumlaw08.spoil: it writes over a value of the call's own, and nothing else.
-/
namespace Go.Proofs.YtghaoielnphhlaaGreatDoor
open Go.RowKit

/-- Nothing but the blocks from lo up to ahead of hi has changed. -/
def Spoilt8 (lo hi : Nat) (w w' : World) : Prop := Below lo w w' ∧ ∀ b, hi ≤ b → b < w.heap.size → w'.heap[b]? = w.heap[b]?
theorem Spoilt8.of_below {lo hi : Nat} {w w' : World} (h : Below w.heap.size w w') (hl : lo ≤ w.heap.size) : Spoilt8 lo hi w w' := ⟨h.mono hl, fun b _ hb => h.block b hb⟩
theorem Spoilt8.trans {lo hi a b : Nat} {w w1 w2 : World} (h : Spoilt8 lo hi w w1) (k : Spoilt8 a b w1 w2) (ha : lo ≤ a) (hb : b ≤ hi) : Spoilt8 lo hi w w2 :=
  ⟨h.1.trans (k.1.mono ha), fun c h1 h2 => (k.2 c (by omega) (Nat.lt_of_lt_of_le h2 h.1.size)).trans (h.2 c h1 h2)⟩
theorem Spoilt8.set {lo hi : Nat} {w w1 : World} (h : Spoilt8 lo hi w w1) (p : Addr) (u : Value) (h1 : lo ≤ p.block) (h2 : p.block < hi) : Spoilt8 lo hi w (w1.setCell p u) :=
  ⟨h.1.setCell h1 u, fun c h3 h4 => (Below.heap_setCell w1 p u c (by omega)).trans (h.2 c h3 h4)⟩
def SpoilEnd8 (lo hi : Nat) (w : World) (e : Ending) (w' : World) : Prop := e = .returned (.tuple #[]) ∧ Spoilt8 lo hi w w'

set_option maxRecDepth 100000 in
set_option maxHeartbeats 2000000 in
theorem spoil8_any : ∀ (j : Jsn) (lo hi : Nat) (w : World) (vn vl : Value), OwnJ w 9 25 j lo hi vn vl → lo ≤ hi → hi ≤ w.heap.size → jbulk j ≤ 1000000000000 →
    Calls Tryz.prog 41 #[.agg #[.int .u8 j.kind, .string j.text, vn, vl]] w (SpoilEnd8 lo hi w) := by
  refine Jsn.ind fun k s n l ih lo hi w vn vl hO hlh hhi hbk => ?_
  obtain ⟨_, hn, hl, _, hkids⟩ := bulk_parts hbk
  dsimp only at hl hkids hn ⊢
  rw [OwnJ_eq] at hO
  obtain ⟨_, _, gn, gl, cs, A, c, ws, ⟨An, cn, rfl, hnam⟩, rfl, hrow, hwl, hkid, hsort⟩ := hO
  rw [List.length_map] at hwl
  have hkid' : ∀ (i : Nat) x u, l[i]? = some x → ws[i]? = some u → (∀ (q : Nat) (v : Value), (encJ (x, u.1, u.2.1))[q]? = some v → cs[i * 4 + q]? = some v) ∧ lo ≤ u.2.2.1 ∧ u.2.2.1 ≤ u.2.2.2 ∧ u.2.2.2 ≤ hi ∧
      ¬ (u.2.2.1 ≤ gl ∧ gl < u.2.2.2) ∧ ¬ (u.2.2.1 ≤ gn ∧ gn < u.2.2.2) ∧ OwnJ w 9 25 x u.2.2.1 u.2.2.2 u.1 u.2.1 := fun i x u hx hu =>
    hkid i (x, OwnJ w 9 25 x) u (by rw [List.getElem?_map, hx]; rfl) hu
  have hb1 : ∀ x ∈ l, jbulk x ≤ 1000000000000 := fun x hx => by have := hkids x hx; omega
  clear hkid hkids hbk
  replace ih := Lib.hid ih
  replace hb1 := Lib.hid hb1
  replace hkid' := Lib.hid hkid'
  replace hsort := Lib.hid hsort
  replace hnam := Lib.hid hnam
  replace hrow := Lib.hid hrow
  replace hwl := Lib.hid hwl
  go_enter Tryz.func41, Tryz.ntmps41
  go_wp2_with fail
  go_loopw [2] (fun i wr => ∃ q : Nat, q ≤ n.length ∧ i = .int .i64 q ∧ Cel wr w.heap.size 25 #[.int .u8 k, .string s, .slice An n.length cn, .slice A l.length c] ∧ Spoilt8 lo hi w wr ∧ (∀ d, d ≠ gn → d < w.heap.size → wr.heap[d]? = w.heap[d]?) ∧ (0 < n.length → ∃ cs', Cel wr gn 9 cs' ∧ n.length ≤ cs'.size)) (fun i _ => n.length - (intOf i).toNat)
  case atStart =>
    have hB : Below w.heap.size w (w.alloc (.cells #[.int .u8 k, .string s, .slice An n.length cn, .slice A l.length c] 25)) := (Below.refl _ _).alloc (Nat.le_refl _) _
    refine ⟨0, Nat.zero_le _, rfl, Cel.fresh _ _ _, Spoilt8.of_below hB (by omega), fun d _ hd => hB.block d hd, fun hp => ?_⟩
    obtain ⟨_, _, g2, cc, g3, g4⟩ := hnam.out hp
    refine ⟨cc, g3.alloc _, ?_⟩
    have := (Array.getElem?_eq_some_iff.1 (g4 (n.length - 1) _ (List.getElem?_eq_getElem (by omega)))).1
    omega
  case round =>
    obtain ⟨q, hq, rfl, hC, hS, hF, hR⟩ := hrel
    have x12 : wr.cell? ⟨w.heap.size, 2, none⟩ = some (.slice An n.length cn) := hC.cell 2
    have hsz := hC.lt
    by_cases hlt2 : q < n.length
    · obtain ⟨rfl, hg1, hg2, _⟩ := hnam.out (by omega)
      obtain ⟨cs', hCg, hcs⟩ := hR (by omega)
      obtain ⟨y, hy⟩ : ∃ y, cs'[q]? = some y := ⟨_, Array.getElem?_eq_getElem (by omega)⟩
      have d0 : wr.cell? ⟨gn, q, none⟩ = some y := (hCg.cell q).trans hy
      have f0 := hCg.froz q
      have hnx : ∀ v, Cel (wr.setCell ⟨gn, q, none⟩ v) w.heap.size 25 #[.int .u8 k, .string s, .slice (some ⟨gn, 0, none⟩) n.length cn, .slice A l.length c] ∧ Spoilt8 lo hi w (wr.setCell ⟨gn, q, none⟩ v) ∧ (∀ d, d ≠ gn → d < w.heap.size → (wr.setCell ⟨gn, q, none⟩ v).heap[d]? = w.heap[d]?) ∧ (0 < n.length → ∃ cs', Cel (wr.setCell ⟨gn, q, none⟩ v) gn 9 cs' ∧ n.length ≤ cs'.size) := fun v =>
        ⟨hC.away (p := ⟨gn, q, none⟩) (by show w.heap.size ≠ gn; omega) v, hS.set _ _ hg1 hg2, fun d h1 h2 => (Below.heap_setCell wr ⟨gn, q, none⟩ v d h1).trans (hF d h1 h2), fun _ => ⟨_, hCg.set q v, by rw [Array.size_setIfInBounds]; exact hcs⟩⟩
      clear hC hS hR hF hCg hy
      replace hnx := Lib.hid hnx
      go_wp2_with fail
      go_roundw
      case rel => exact ⟨q + 1, by omega, by go_num, (hnx.out _).1, (hnx.out _).2.1, (hnx.out _).2.2.1, (hnx.out _).2.2.2⟩
      case measure => simp [intOf]; omega
    · have hK0 : ∀ (i : Nat) x u, l[i]? = some x → ws[i]? = some u → OwnJ wr 9 25 x u.2.2.1 u.2.2.2 u.1 u.2.1 := fun i x u h2 h3 => by
        obtain ⟨_, _, _, r4, _, r6, r7⟩ := hkid'.out i x u h2 h3
        exact OwnJ.keep x r7 (fun d h6 h7 => hF d (fun e => r6 (by subst e; exact ⟨h6, h7⟩)) (by omega)) (Nat.le_refl _) (Nat.le_refl _)
      have hR0 : 0 < l.length → ∃ cs', Cel wr gl 25 cs' ∧ ∀ i, 0 * 4 ≤ i → cs'[i]? = cs[i]? := fun hp => by
        obtain ⟨_, g1, g2, g3, g4⟩ := hrow.out hp
        exact ⟨cs, (hF gl g3 (by omega)).trans g4, fun _ _ => rfl⟩
      clear hR hF hnam
      replace hC := Lib.hid hC
      replace hS := Lib.hid hS
      replace hK0 := Lib.hid hK0
      replace hR0 := Lib.hid hR0
      go_wp2_with fail
      clear x12
      obtain ⟨w0, rfl⟩ : ∃ w0 : World, w0 = wr := ⟨_, rfl⟩
      go_loopw [3] (fun i wr => ∃ q : Nat, q ≤ l.length ∧ i = .int .i64 q ∧ Cel wr w.heap.size 25 #[.int .u8 k, .string s, .slice An n.length cn, .slice A l.length c] ∧ Spoilt8 lo hi w wr ∧
          (∀ (i : Nat) x u, q ≤ i → l[i]? = some x → ws[i]? = some u → OwnJ wr 9 25 x u.2.2.1 u.2.2.2 u.1 u.2.1) ∧
          (0 < l.length → ∃ cs', Cel wr gl 25 cs' ∧ ∀ i, q * 4 ≤ i → cs'[i]? = cs[i]?)) (fun i _ => l.length - (intOf i).toNat)
      case atStart => exact ⟨0, Nat.zero_le _, rfl, hC.out, hS.out, fun i x u _ h2 h3 => hK0.out i x u h2 h3, hR0.out⟩
      case round =>
        clear hC hS hK0 hR0
        obtain ⟨q, hq, rfl, hC, hS, hK, hR⟩ := hrel
        have hsz := hC.lt
        have x13 : wr.cell? ⟨w.heap.size, 3, none⟩ = some (.slice A l.length c) := hC.cell 3
        by_cases hlt : q < l.length
        · obtain ⟨rfl, hg1, hg2, hgne, _⟩ := hrow.out (by omega)
          obtain ⟨cs', hCg, hcs⟩ := hR (by omega)
          have hxq : l[q]? = some l[q] := List.getElem?_eq_getElem hlt
          have hxm : l[q] ∈ l := List.getElem_mem hlt
          obtain ⟨x, hx⟩ : ∃ x, l[q] = x := ⟨_, rfl⟩
          rw [hx] at hxq hxm
          have hwlt : q < ws.length := by rw [hwl.out]; exact hlt
          have huq : ws[q]? = some ws[q] := List.getElem?_eq_getElem hwlt
          obtain ⟨⟨vx, vy, a, b⟩, hu⟩ : ∃ u, ws[q] = u := ⟨_, rfl⟩
          rw [hu] at huq
          obtain ⟨k1, k2, k3, k4, k5, k6, _⟩ := hkid'.out q x _ hxq huq
          have hOx := hK q x _ (Nat.le_refl _) hxq huq
          dsimp only at k1 k2 k3 k4 k5 k6 hOx
          obtain ⟨Bx, mx, ex, By, my, ey, rfl, rfl⟩ := hOx.forms
          have hws := hS.1.size
          have hcall := ih.out x hxm a b wr _ _ hOx k3 (by omega) (hb1.out x hxm)
          have hce : ∀ (j : Nat) (v : Value), (encJ (x, .slice Bx mx ex, .slice By my ey))[j]? = some v → wr.cell? ⟨gl, q * 4 + j, none⟩ = some v := fun j v hv => by rw [hCg.cell, hcs _ (by omega)]; exact k1 j v hv
          have c0 := hce 0 _ rfl
          have c1 := hce 1 _ rfl
          have c2 := hce 2 _ rfl
          have c3 := hce 3 _ rfl
          rw [Nat.add_zero] at c0
          have hsz4 : q * 4 + 3 < cs'.size := by
            have := (hCg.cell (q * 4 + 3)).symm.trans c3
            exact (Array.getElem?_eq_some_iff.1 this).1
          have hsr := hsort.out
          clear hx hu hce
          replace hcall := Lib.hid hcall
          replace hK := Lib.hid hK
          replace hcs := Lib.hid hcs
          replace hC := Lib.hid hC
          replace hS := Lib.hid hS
          replace hCg := Lib.hid hCg
          replace k1 := Lib.hid k1
          replace hOx := Lib.hid hOx
          replace hsr := Lib.hid hsr
          replace hxq := Lib.hid hxq
          replace huq := Lib.hid huq
          go_wp2_with fail
          refine hcall.out.mono ?_
          rintro e w2 ⟨rfl, hS2⟩
          have hblk : ∀ d, d < wr.heap.size → (d < a ∨ b ≤ d) → w2.heap[d]? = wr.heap[d]? := fun d h1 h2 => by
            rcases h2 with h2 | h2
            · exact hS2.1.block d h2
            · exact hS2.2 d h2 h1
          have hC2 : Cel w2 w.heap.size 25 _ := (hblk _ hsz (Or.inr (by omega))).trans hC.out
          have hCg2 : Cel w2 gl 25 cs' := (hblk _ hCg.out.lt (by omega)).trans hCg.out
          have hK2 : ∀ (i : Nat) x u, q + 1 ≤ i → l[i]? = some x → ws[i]? = some u → OwnJ w2 9 25 x u.2.2.1 u.2.2.2 u.1 u.2.1 := fun i x u h1 h2 h3 => by
            obtain ⟨_, _, _, r4, _⟩ := hkid'.out i x u h2 h3
            have h5 := hsr.out q i _ u (by omega) huq.out h3
            exact OwnJ.keep x (hK.out i x u (by omega) h2 h3) (fun d h6 h7 => hblk d (by omega) (Or.inr (by dsimp only at h5; omega))) (Nat.le_refl _) (Nat.le_refl _)
          have hS3 : Spoilt8 lo hi w w2 := hS.out.trans hS2 k2 k4
          have hnx : ∀ (v0 : Value), Cel (w2.setCell ⟨gl, q * 4, none⟩ v0) w.heap.size 25 #[.int .u8 k, .string s, .slice An n.length cn, .slice (some ⟨gl, 0, none⟩) l.length c] ∧ Spoilt8 lo hi w (w2.setCell ⟨gl, q * 4, none⟩ v0) ∧
              (∀ (i : Nat) x u, q + 1 ≤ i → l[i]? = some x → ws[i]? = some u → OwnJ (w2.setCell ⟨gl, q * 4, none⟩ v0) 9 25 x u.2.2.1 u.2.2.2 u.1 u.2.1) ∧
              (0 < l.length → ∃ cs', Cel (w2.setCell ⟨gl, q * 4, none⟩ v0) gl 25 cs' ∧ ∀ i, (q + 1) * 4 ≤ i → cs'[i]? = cs[i]?) := by
            intro v0
            have hfr : ∀ d, d ≠ gl → (w2.setCell ⟨gl, q * 4, none⟩ v0).heap[d]? = w2.heap[d]? := fun d hd => Below.heap_setCell w2 ⟨gl, q * 4, none⟩ v0 d hd
            refine ⟨(hfr _ (by omega)).trans hC2, hS3.set _ _ hg1 hg2, fun i x u h1 h2 h3 => ?_, fun _ => ⟨_, hCg2.set _ v0, fun i hi => ?_⟩⟩
            · obtain ⟨_, _, _, _, r5, _⟩ := hkid'.out i x u h2 h3
              exact OwnJ.keep x (hK2 i x u h1 h2 h3) (fun d h6 h7 => hfr d (fun e => r5 (by subst e; exact ⟨h6, h7⟩))) (Nat.le_refl _) (Nat.le_refl _)
            · rw [Array.getElem?_setIfInBounds_ne (by omega)]
              exact hcs.out i (by omega)
          have d0 := (hCg2.cell (q * 4)).trans ((hCg.out.cell (q * 4)).symm.trans c0)
          have d1 := (hCg2.cell (q * 4 + 1)).trans ((hCg.out.cell (q * 4 + 1)).symm.trans c1)
          have d2 := (hCg2.cell (q * 4 + 2)).trans ((hCg.out.cell (q * 4 + 2)).symm.trans c2)
          have d3 := (hCg2.cell (q * 4 + 3)).trans ((hCg.out.cell (q * 4 + 3)).symm.trans c3)
          have f0 := hCg2.froz (q * 4)
          have f1 := hCg2.froz (q * 4 + 1)
          have f2 := hCg2.froz (q * 4 + 2)
          have f3 := hCg2.froz (q * 4 + 3)
          have y13 : w2.cell? ⟨w.heap.size, 3, none⟩ = some (.slice (some ⟨gl, 0, none⟩) l.length c) := hC2.cell 3
          clear hcall hK hcs hC hS hCg k1 hOx hsr hxq huq hS2 hblk hC2 hCg2 hK2 hS3 c0 c1 c2 c3 x13 ih hkid' hsort hrow hb1
          replace hnx := Lib.hid hnx
          go_wp2_with fail
          go_roundw
          case rel => exact ⟨q + 1, by omega, by go_num, (hnx.out _).1, (hnx.out _).2.1, (hnx.out _).2.2.1, (hnx.out _).2.2.2⟩
          case measure => simp [intOf]; omega
        · clear hK hR hC ih hkid' hsort hb1 hrow hwl
          replace hS := Lib.hid hS
          go_wp2_with fail
          go_end0
          exact ⟨rfl, hS.out⟩
end Go.Proofs.YtghaoielnphhlaaGreatDoor
