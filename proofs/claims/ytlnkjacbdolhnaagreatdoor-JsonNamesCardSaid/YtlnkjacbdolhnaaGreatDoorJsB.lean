/-
  The walk of the document's Same over JSON values.
-/
import Derived.Test.YtlnkjacbdolhnaaGreatDoorJsA
import Derived.BigQuiet
import Derived.Lib.Strings
import Derived.Deep.QuietTactic
import Derived.Deep.RegionHeld3
namespace Go.Proofs.YtlnkjacbdolhnaaGreatDoor
open Go.RowKit

theorem jtl_eq (s : ByteArray) : s.toList = s.data.toList := Go.Lib.toList_data s
theorem jstr_ext {a b : ByteArray} (h : a.data.toList = b.data.toList) : a = b := by
  cases a; cases b
  simp only [ByteArray.mk.injEq]
  exact Array.toList_inj.1 h
theorem jeq_t (a : ByteArray) : (a.toList == a.toList) = true := by simp
theorem jeq_f {a b : ByteArray} (h : a ≠ b) : (a.toList == b.toList) = false := by
  rw [jtl_eq, jtl_eq]
  cases h2 : (a.data.toList == b.data.toList) with
  | false => rfl
  | true => exact absurd (jstr_ext (eq_of_beq h2)) h
theorem StrL.at {w wr : World} {X : Nat → Prop} {L : List ByteArray} {A : Option Addr} {c n : Nat} (h : StrL w X (.slice A n c) L) (hB : Below w.heap.size w wr) {i : Nat} (hi : i < L.length) :
    ∃ g o, A = some ⟨g, o, none⟩ ∧ wr.cell? ⟨g, o + i, none⟩ = some (.string L[i]) := by
  obtain ⟨A', c', he, h1⟩ := h
  injection he with he1 _ _
  subst he1
  obtain ⟨g, o, q1, _, q3, q4⟩ := h1 (by omega)
  exact ⟨g, o, q1, (hB.cell (p := ⟨g, o + i, none⟩) q3).trans (q4 i _ (List.getElem?_eq_getElem hi))⟩
theorem StrL.len {w : World} {X : Nat → Prop} {v : Value} {L : List ByteArray} (h : StrL w X v L) : ∃ A c, v = .slice A L.length c := by
  obtain ⟨A, c, h1, _⟩ := h
  exact ⟨A, c, h1⟩

theorem js_kind {k s n l k' s' n' l'} (h : k ≠ k') : jsame ⟨k, s, n, l⟩ ⟨k', s', n', l'⟩ = false := by
  rw [jsame_eq1]; simp [h]
theorem js_text {k s n l k' s' n' l'} (h : s ≠ s') : jsame ⟨k, s, n, l⟩ ⟨k', s', n', l'⟩ = false := by
  rw [jsame_eq1]; simp [h]
theorem js_names {k s n l k' s' n' l'} (h : n ≠ n') : jsame ⟨k, s, n, l⟩ ⟨k', s', n', l'⟩ = false := by
  rw [jsame_eq1]; simp [h]
theorem js_len {k s n l k' s' n' l'} (h : l.length ≠ l'.length) : jsame ⟨k, s, n, l⟩ ⟨k', s', n', l'⟩ = false := by
  rw [jsame_eq1]; simp [h]
theorem js_list {k s n l l'} (h : l.length = l'.length) : jsame ⟨k, s, n, l⟩ ⟨k, s, n, l'⟩ = (l.zip l').all fun p => jsame p.1 p.2 := by
  rw [jsame_eq1]; simp [h]
/-- How far two lists are the same, item by item. -/
def sameTo (zs ys : List JE) (q : Nat) : Bool := ((zs.zip ys).take q).all fun p => jsame p.1.1 p.2.1
theorem sameTo_step {zs ys : List JE} {q : Nat} {z y : JE} (h1 : zs[q]? = some z) (h2 : ys[q]? = some y) : sameTo zs ys (q + 1) = (sameTo zs ys q && jsame z.1 y.1) := by
  unfold sameTo
  have h3 : (zs.zip ys)[q]? = some (z, y) := List.getElem?_zip_eq_some.2 ⟨h1, h2⟩
  rw [List.take_add_one, h3]
  simp
theorem sameTo_full (zs ys : List JE) : sameTo zs ys (max zs.length ys.length) = ((zs.map (·.1)).zip (ys.map (·.1))).all fun p => jsame p.1 p.2 := by
  unfold sameTo
  rw [List.take_of_length_le (by rw [List.length_zip]; omega), List.zip_map, List.all_map]
  rfl
theorem sameTo_false {zs ys : List JE} {q : Nat} (h : sameTo zs ys q = false) : (((zs.map (·.1)).zip (ys.map (·.1))).all fun p => jsame p.1 p.2) = false := by
  rw [← sameTo_full]
  unfold sameTo at h ⊢
  rw [List.take_of_length_le (by rw [List.length_zip]; omega)]
  rw [List.all_eq_false] at h ⊢
  obtain ⟨p, hp, hn⟩ := h
  exact ⟨p, List.mem_of_mem_take hp, hn⟩

def SameSays (f : Nat) (a : Jsn) : Prop := ∀ (b : Jsn) (X Y : Nat → Prop) (w : World) (vn vl un ul : Value), JV w X a vn vl → JV w Y b un ul → jbulk a ≤ 1000000000000000 → jbulk b ≤ 1000000000000000 →
    Calls Tryz.prog f #[.agg #[.int .u8 a.kind, .string a.text, vn, vl], .agg #[.int .u8 b.kind, .string b.text, un, ul]] w fun e w' => e = .returned (.bool (jsame a b)) ∧ Below w.heap.size w w'

set_option maxHeartbeats 2000000 in
theorem refSameJ_any : ∀ (a : Jsn), SameSays 14 a := by
  refine Jsn.ind fun k s n l ih b X Y w vn vl un ul hV hU hbk hbu => ?_
  obtain ⟨k', s', n', l'⟩ := b
  obtain ⟨_, hn, hl, _, hkids⟩ := bulk_parts hbk
  obtain ⟨_, hn', hl', _, hkids'⟩ := bulk_parts hbu
  dsimp only at hl hkids hl' hkids' hn hn'
  have hnam := hV.names
  have hnam' := hU.names
  obtain ⟨A1, c1, rfl⟩ := hnam.len
  obtain ⟨A2, c2, rfl⟩ := hnam'.len
  obtain ⟨B1, d1, zs, rfl, hz, h2, h3⟩ := hV.elems
  obtain ⟨B2, d2, ys, rfl, hy, h4, h5⟩ := hU.elems
  dsimp only at hnam hnam' ⊢
  have hlen : zs.length = l.length := by rw [← hz, List.length_map]
  have hlen' : ys.length = l'.length := by rw [← hy, List.length_map]
  by_cases hk : k = k'
  case neg =>
    rw [js_kind hk]
    have hk1 : (k == k') = false := beq_eq_false_iff_ne.2 hk
    have hk2 : (k != k') = true := by simp [hk]
    clear ih hV hU h2 h3 h4 h5 hz hy hnam hnam' hkids hkids' hlen hlen' hbk hbu
    go_enter Tryz.func14, Tryz.ntmps14
    go_wp2_with fail
    go_ret
    exact ⟨rfl, ((Below.refl _ _).alloc (Nat.le_refl _) _).alloc (by simp) _⟩
  subst hk
  by_cases hs : s = s'
  case neg =>
    rw [js_text hs]
    have hk1 := jeq_f hs
    clear ih hV hU h2 h3 h4 h5 hz hy hnam hnam' hkids hkids' hlen hlen' hbk hbu
    go_enter Tryz.func14, Tryz.ntmps14
    go_wp2_with fail
    go_ret
    exact ⟨rfl, ((Below.refl _ _).alloc (Nat.le_refl _) _).alloc (by simp) _⟩
  subst hs
  by_cases hnl : n.length = n'.length
  case neg =>
    rw [js_names (fun h => hnl (by rw [h]))]
    have hk1 : ((n.length : Int) == (n'.length : Int)) = false := beq_eq_false_iff_ne.2 (by omega)
    have hk2 : ((n.length : Int) != (n'.length : Int)) = true := by rw [bne_iff_ne]; omega
    clear ih hV hU h2 h3 h4 h5 hz hy hnam hnam' hkids hkids' hlen hlen' hbk hbu
    go_enter Tryz.func14, Tryz.ntmps14
    go_wp2_with fail
    go_ret
    exact ⟨rfl, ((Below.refl _ _).alloc (Nat.le_refl _) _).alloc (by simp) _⟩
  by_cases hll : zs.length = ys.length
  case neg =>
    rw [js_len (by omega)]
    have hk1 : ((zs.length : Int) == (ys.length : Int)) = false := beq_eq_false_iff_ne.2 (by omega)
    have hk2 : ((zs.length : Int) != (ys.length : Int)) = true := by rw [bne_iff_ne]; omega
    have hk3 : ((n.length : Int) == (n'.length : Int)) = true := beq_iff_eq.2 (by omega)
    have hk4 : ((n.length : Int) != (n'.length : Int)) = false := by simp [hnl]
    clear ih hV hU h2 h3 h4 h5 hz hy hnam hnam' hkids hkids' hlen hlen' hbk hbu hnl
    go_enter Tryz.func14, Tryz.ntmps14
    go_wp2_with fail
    go_ret
    exact ⟨rfl, ((Below.refl _ _).alloc (Nat.le_refl _) _).alloc (by simp) _⟩
  have hlz : zs.length ≤ 1000000000000000 := by omega
  have hnz : n.length ≤ 1000000000000000 := hn
  have hjl : l.length = l'.length := by omega
  obtain ⟨W0, hW0⟩ : ∃ W0, (w.alloc (.cells #[.int .u8 k, .string s, .slice A1 n.length c1, .slice B1 zs.length d1] 25)).alloc (.cells #[.int .u8 k, .string s, .slice A2 n'.length c2, .slice B2 ys.length d2] 25) = W0 := ⟨_, rfl⟩
  have hB0 : Below w.heap.size w W0 := by rw [← hW0]; exact ((Below.refl _ _).alloc (Nat.le_refl _) _).alloc (by simp) _
  have hC1 : Cel W0 w.heap.size 25 #[.int .u8 k, .string s, .slice A1 n.length c1, .slice B1 zs.length d1] := by rw [← hW0]; exact (Cel.fresh _ _ _).alloc _
  have hC2 : Cel W0 (w.heap.size + 1) 25 #[.int .u8 k, .string s, .slice A2 n'.length c2, .slice B2 ys.length d2] := by
    rw [← hW0]
    have := Cel.fresh (w.alloc (.cells #[.int .u8 k, .string s, .slice A1 n.length c1, .slice B1 zs.length d1] 25)) 25 #[.int .u8 k, .string s, .slice A2 n'.length c2, .slice B2 ys.length d2]
    simpa using this
  rw [← hnl] at hW0 hC2 hnam' ⊢
  rw [← hll] at hW0 hC2 ⊢
  have hat1 := Lib.hid (fun (i : Nat) (hi : i < n.length) => hnam.at hB0 hi)
  have hat2 := Lib.hid (fun (i : Nat) (hi : i < n'.length) => hnam'.at hB0 hi)
  have hw1 := Lib.hid (fun (wr : World) (i : Nat) (hB : Below w.heap.size w wr) (hi : i < zs.length) => JV.at h2 h3 hB hi)
  have hw2 := Lib.hid (fun (wr : World) (i : Nat) (hB : Below w.heap.size w wr) (hi : i < ys.length) => JV.at h4 h5 hB hi)
  have hb1 : ∀ x ∈ l, jbulk x ≤ 1000000000000000 := fun x hx => by have := hkids x hx; omega
  have hb2 : ∀ x ∈ l', jbulk x ≤ 1000000000000000 := fun x hx => by have := hkids' x hx; omega
  have x12 : W0.cell? ⟨w.heap.size, 2, none⟩ = some (.slice A1 n.length c1) := hC1.cell 2
  have x22 : W0.cell? ⟨w.heap.size + 1, 2, none⟩ = some (.slice A2 n.length c2) := hC2.cell 2
  clear hV hU h2 h3 h4 h5 hnam hnam' hkids hkids' hlen hlen' hbk hbu
  replace ih := Lib.hid ih
  replace hb1 := Lib.hid hb1
  replace hb2 := Lib.hid hb2
  replace hz := Lib.hid hz
  replace hy := Lib.hid hy
  replace hnl := Lib.hid hnl
  replace hll := Lib.hid hll
  replace hjl := Lib.hid hjl
  replace hC1 := Lib.hid hC1
  replace hC2 := Lib.hid hC2
  replace hB0 := Lib.hid hB0
  replace hW0 := Lib.hid hW0
  go_enter Tryz.func14, Tryz.ntmps14
  go_wp2_with fail
  rw [hW0.out]
  clear hW0
  go_loopw [5] (fun i wr => ∃ q m : Nat, q ≤ n.length ∧ i = .int .i64 q ∧ n.take q = n'.take q ∧ wr = W0.drewN m) (fun i _ => n.length - (intOf i).toNat)
  case atStart => exact ⟨0, 0, Nat.zero_le _, rfl, rfl, rfl⟩
  case round =>
    obtain ⟨q, m, hq, rfl, htk, rfl⟩ := hrel
    by_cases hlt : q < n.length
    · have hlt' : q < n'.length := by rw [← hnl.out]; exact hlt
      obtain ⟨g1, o1, rfl, y1⟩ := hat1.out q hlt
      obtain ⟨g2, o2, rfl, y2⟩ := hat2.out q hlt'
      have e1 : n.take (q + 1) = n.take q ++ [n[q]] := by rw [List.take_add_one, List.getElem?_eq_getElem hlt]; rfl
      have e2 : n'.take (q + 1) = n'.take q ++ [n'[q]] := by rw [List.take_add_one, List.getElem?_eq_getElem hlt']; rfl
      have e3 : n[q] ≠ n'[q] → n ≠ n' := fun h h2 => h (by subst h2; rfl)
      obtain ⟨S1, hS1⟩ : ∃ S, n[q] = S := ⟨_, rfl⟩
      obtain ⟨S2, hS2⟩ : ∃ S, n'[q] = S := ⟨_, rfl⟩
      rw [hS1] at y1 e1 e3
      rw [hS2] at y2 e2 e3
      have hq0 : (0 : Int) ≤ (q : Int) := by omega
      have hq1 : (q : Int) < (n.length : Int) := by omega
      clear hS1 hS2
      by_cases heq : S1 = S2
      · subst heq
        have htk2 : n.take (q + 1) = n'.take (q + 1) := by rw [e1, e2, htk]
        clear e1 e2 e3 htk
        replace htk2 := Lib.hid htk2
        go_wp2_with fail
        go_quiet (fail)
        go_wp2_with fail
        go_roundw
        case rel => exact ⟨q + 1, m + nq, by omega, by go_num, htk2.out, by first | rfl | rw [World.drewN_drewN]⟩
        case measure => simp [intOf]; omega
      · have hj := js_names (k := k) (s := s) (l := l) (k' := k) (s' := s) (l' := l') (e3 heq)
        have hne := jeq_f heq
        have hBe := bel_drewN hB0.out m
        replace hj := Lib.hid hj
        clear e1 e2 e3 htk heq
        replace hBe := Lib.hid hBe
        go_wp2_with fail
        go_quiet (fail)
        go_wp2_with fail
        go_ret
        exact ⟨by rw [hj.out]; rfl, by first | exact bel_drewN hBe.out nq | exact bel_drewN hB0.out _⟩
    · have hnn : n = n' := by
        rw [List.take_of_length_le (by omega), List.take_of_length_le (by rw [← hnl.out]; omega)] at htk
        exact htk
      subst hnn
      have hB1 := bel_drewN hB0.out m
      have hD1 := hC1.out.drewN m
      have hD2 := hC2.out.drewN m
      have hjs := js_list (k := k) (s := s) (n := n) hjl.out
      have hfin := sameTo_full zs ys
      have hff := fun q => sameTo_false (zs := zs) (ys := ys) (q := q)
      rw [hz.out, hy.out] at hfin
      rw [hz.out, hy.out] at hff
      obtain ⟨J, hJ⟩ : ∃ J, (l.zip l').all (fun p => jsame p.1 p.2) = J := ⟨_, rfl⟩
      rw [hJ] at hfin hff hjs
      replace hjs := Lib.hid hjs
      have hmx : max zs.length ys.length = zs.length := by have := hll.out; omega
      rw [hmx] at hfin
      clear hat1 hat2 htk hJ hmx hB0 hC1 hC2
      replace hB1 := Lib.hid hB1
      replace hD1 := Lib.hid hD1
      replace hD2 := Lib.hid hD2
      replace hfin := Lib.hid hfin
      replace hff := Lib.hid hff
      go_wp2_with fail
      clear x12 x22
      go_loopw [6] (fun i wr => ∃ q : Nat, q ≤ zs.length ∧ i = .int .i64 q ∧ sameTo zs ys q = true ∧ Cel wr w.heap.size 25 #[.int .u8 k, .string s, .slice A1 n.length c1, .slice B1 zs.length d1] ∧ Cel wr (w.heap.size + 1) 25 #[.int .u8 k, .string s, .slice A2 n.length c2, .slice B2 zs.length d2] ∧ Below w.heap.size w wr) (fun i _ => zs.length - (intOf i).toNat)
      case atStart => exact ⟨0, Nat.zero_le _, rfl, rfl, hD1.out, hD2.out, hB1.out⟩
      case round =>
        obtain ⟨q, hq, rfl, hsm, hC1, hC2, hB⟩ := hrel
        have x13 : wr.cell? ⟨w.heap.size, 3, none⟩ = some (.slice B1 zs.length d1) := hC1.cell 3
        have x23 : wr.cell? ⟨w.heap.size + 1, 3, none⟩ = some (.slice B2 zs.length d2) := hC2.cell 3
        have hsz := hC1.lt
        have hsz2 := hC2.lt
        by_cases hlt : q < zs.length
        · have hlt' : q < ys.length := by rw [← hll.out]; exact hlt
          obtain ⟨g1, o1, ⟨x, vx, vy⟩, hzq, hzm, rfl, hVz, a0, a1, a2, a3⟩ := hw1.out wr q hB hlt
          obtain ⟨g2, o2, ⟨x', ux, uy⟩, hyq, hym, rfl, hUy, b0, b1, b2, b3⟩ := hw2.out wr q hB hlt'
          dsimp only at hVz a0 a1 a2 a3 hUy b0 b1 b2 b3
          have hxm : x ∈ l := by rw [← hz.out]; exact List.mem_map_of_mem (f := (·.1)) hzm
          have hym' : x' ∈ l' := by rw [← hy.out]; exact List.mem_map_of_mem (f := (·.1)) hym
          obtain ⟨Ax, nx, cx, Ay, ny, cy, rfl, rfl⟩ := hVz.forms
          obtain ⟨Bx, mx, ex, By, my, ey, rfl, rfl⟩ := hUy.forms
          have hstep := sameTo_step hzq hyq
          rw [hsm, Bool.true_and] at hstep
          obtain ⟨r, hr⟩ : ∃ r, jsame x x' = r := ⟨_, rfl⟩
          dsimp only at hstep
          rw [hr] at hstep
          have hcall : ∀ W, Below wr.heap.size wr W → Calls Tryz.prog 14 #[.agg #[.int .u8 x.kind, .string x.text, .slice Ax nx cx, .slice Ay ny cy], .agg #[.int .u8 x'.kind, .string x'.text, .slice Bx mx ex, .slice By my ey]] W fun e w' => e = .returned (.bool r) ∧ Below W.heap.size W w' := fun W h => by
            have := ih.out x hxm x' X Y W _ _ _ _ (hVz.later h) (hUy.later h) (hb1.out x hxm) (hb2.out x' hym')
            rwa [hr] at this
          have hg1 : g1 < wr.heap.size := World.block_lt_of_cell? wr _ a0
          have hg2 : g2 < wr.heap.size := World.block_lt_of_cell? wr _ b0
          have hS : ∀ W, Below wr.heap.size wr W → ((W.cell? ⟨w.heap.size, 3, none⟩ = some (.slice (some ⟨g1, o1, none⟩) zs.length d1) ∧ W.cell? ⟨w.heap.size + 1, 3, none⟩ = some (.slice (some ⟨g2, o2, none⟩) zs.length d2)) ∧
              (W.cell? ⟨g1, o1 + q * 4, none⟩ = some (.int .u8 x.kind) ∧ W.cell? ⟨g1, o1 + q * 4 + 1, none⟩ = some (.string x.text) ∧ W.cell? ⟨g1, o1 + q * 4 + 2, none⟩ = some (.slice Ax nx cx) ∧ W.cell? ⟨g1, o1 + q * 4 + 3, none⟩ = some (.slice Ay ny cy)) ∧
              (W.cell? ⟨g2, o2 + q * 4, none⟩ = some (.int .u8 x'.kind) ∧ W.cell? ⟨g2, o2 + q * 4 + 1, none⟩ = some (.string x'.text) ∧ W.cell? ⟨g2, o2 + q * 4 + 2, none⟩ = some (.slice Bx mx ex) ∧ W.cell? ⟨g2, o2 + q * 4 + 3, none⟩ = some (.slice By my ey))) ∧ Below wr.heap.size wr W := fun W h =>
            ⟨⟨⟨(h.cell (p := ⟨w.heap.size, 3, none⟩) hsz).trans x13, (h.cell (p := ⟨w.heap.size + 1, 3, none⟩) hsz2).trans x23⟩,
              ⟨(h.cell (p := ⟨g1, o1 + q * 4, none⟩) hg1).trans a0, (h.cell (p := ⟨g1, o1 + q * 4 + 1, none⟩) hg1).trans a1, (h.cell (p := ⟨g1, o1 + q * 4 + 2, none⟩) hg1).trans a2, (h.cell (p := ⟨g1, o1 + q * 4 + 3, none⟩) hg1).trans a3⟩,
              ⟨(h.cell (p := ⟨g2, o2 + q * 4, none⟩) hg2).trans b0, (h.cell (p := ⟨g2, o2 + q * 4 + 1, none⟩) hg2).trans b1, (h.cell (p := ⟨g2, o2 + q * 4 + 2, none⟩) hg2).trans b2, (h.cell (p := ⟨g2, o2 + q * 4 + 3, none⟩) hg2).trans b3⟩⟩, h⟩
          have hnx : ∀ w1, Below wr.heap.size wr w1 → Cel w1 w.heap.size 25 #[.int .u8 k, .string s, .slice A1 n.length c1, .slice (some ⟨g1, o1, none⟩) zs.length d1] ∧ Cel w1 (w.heap.size + 1) 25 #[.int .u8 k, .string s, .slice A2 n.length c2, .slice (some ⟨g2, o2, none⟩) zs.length d2] ∧ Below w.heap.size w w1 := fun w1 h => ⟨hC1.below h hsz, hC2.below h hsz2, hB.trans (h.mono (by omega))⟩
          have hq0 : (0 : Int) ≤ (q : Int) := by omega
          have hq1 : (q : Int) < (zs.length : Int) := by omega
          have hfq := hff.out (q + 1)
          rw [hstep] at hfq
          clear hC1 hC2 hB hVz hUy hzq hzm hyq hym hw1 hw2 ih hb1 hb2 hsm a0 a1 a2 a3 b0 b1 b2 b3 x23 hr hz hy hff hfin
          replace hcall := Lib.hid hcall
          replace hS := Lib.hid hS
          replace hnx := Lib.hid hnx
          replace hstep := Lib.hid hstep
          replace hfq := Lib.hid hfq
          go_wp2_with fail
          clear x13
          go_region_held3 (fun W => ((W.cell? ⟨w.heap.size, 3, none⟩ = some (.slice (some ⟨g1, o1, none⟩) zs.length d1) ∧ W.cell? ⟨w.heap.size + 1, 3, none⟩ = some (.slice (some ⟨g2, o2, none⟩) zs.length d2)) ∧
              (W.cell? ⟨g1, o1 + q * 4, none⟩ = some (.int .u8 x.kind) ∧ W.cell? ⟨g1, o1 + q * 4 + 1, none⟩ = some (.string x.text) ∧ W.cell? ⟨g1, o1 + q * 4 + 2, none⟩ = some (.slice Ax nx cx) ∧ W.cell? ⟨g1, o1 + q * 4 + 3, none⟩ = some (.slice Ay ny cy)) ∧
              (W.cell? ⟨g2, o2 + q * 4, none⟩ = some (.int .u8 x'.kind) ∧ W.cell? ⟨g2, o2 + q * 4 + 1, none⟩ = some (.string x'.text) ∧ W.cell? ⟨g2, o2 + q * 4 + 2, none⟩ = some (.slice Bx mx ex) ∧ W.cell? ⟨g2, o2 + q * 4 + 3, none⟩ = some (.slice By my ey))) ∧ Below wr.heap.size wr W)
            (first | exact hS.out _ (bel_drewN (Below.refl _ _) 1) | exact hS.out _ hZ1)
            (first
              | (go_at_call 14; (with_reducible refine (hcall.out _ ?_).mono ?_); exact bel_drewN (Below.refl _ _) 1; rintro e w1 ⟨rfl, hB1⟩; have hZ1 : Below wr.heap.size wr w1 := (bel_drewN (Below.refl _ _) 1).trans hB1; clear hB1))
          all_goals
            have hn3 := hnx.out _ hZ1
            clear hcall hS hnx
            replace hn3 := Lib.hid hn3
            cases r
            · have hJf : J = false := hfq.out rfl
              subst hJf
              clear hfq hstep
              go_wp2_with fail
              go_ret
              exact ⟨by rw [hjs.out]; rfl, hn3.out.2.2⟩
            · clear hfq
              go_wp2_with fail
              go_roundw
              case rel => exact ⟨q + 1, by omega, by go_num, hstep.out, hn3.out.1, hn3.out.2.1, hn3.out.2.2⟩
              case measure => simp [intOf]; omega
        · obtain rfl : q = zs.length := by omega
          have hJt : J = true := by rw [← hfin.out]; exact hsm
          subst hJt
          clear hC1 hC2 hw1 hw2 ih hb1 hb2 hsm hff hfin
          replace hB := Lib.hid hB
          go_wp2_with fail
          go_ret
          exact ⟨by rw [hjs.out]; rfl, hB.out⟩
end Go.Proofs.YtlnkjacbdolhnaaGreatDoor
