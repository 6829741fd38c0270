/-
  The walks of json.write and json.Print.
-/
import Derived.Test.YtamcbgkppgdniaaGreatDoorJnd
import Derived.Test.YtamcbgkppgdniaaGreatDoorJsVc
namespace Go.Proofs.YtamcbgkppgdniaaGreatDoor
open Go.RowKit

theorem jpairs_nil (f : Bool) (n : List ByteArray) : jpairs f n [] = [] := by cases n <;> simp [jpairs]
theorem jitems_nil (f : Bool) : jitems f [] = [] := rfl
theorem isBuf_below {w W : World} {b k : Nat} (h : Below w.heap.size w W) (hb : b < w.heap.size) (hk : IsBuf W b k) : IsBuf w b k := by
  obtain ⟨n, c, e⟩ := hk
  exact ⟨n, c, by rw [← e]; exact (h.cell (p := ⟨b, 1, none⟩) hb).symm⟩
/-- These blocks are none of the builder's. -/
def Off (w : World) (b : Nat) (X : Nat → Prop) : Prop := ∀ k, X k → k < w.heap.size ∧ k ≠ b ∧ ¬ IsBuf w b k
theorem Off.wr {w w' : World} {b : Nat} {X : Nat → Prop} (h : Off w b X) (hW : Wr b w w') : Off w' b X := fun k hk => by
  obtain ⟨h1, h2, h3⟩ := h k hk
  exact ⟨Nat.lt_of_lt_of_le h1 hW.size, h2, fun e => (hW.buf k e).elim (fun e => by omega) h3⟩
theorem Off.cell {w w' : World} {b : Nat} {X : Nat → Prop} (h : Off w b X) (hW : Wr b w w') (p : Addr) (hp : X p.block) (_ : p.block < w.heap.size) : w'.cell? p = w.cell? p := by
  obtain ⟨h1, h2, h3⟩ := h _ hp
  exact hW.cell h1 h2 h3
theorem JV.wr {w w' : World} {b : Nat} {X : Nat → Prop} {j : Jsn} {vn vl : Value} (h : JV w X j vn vl) (hO : Off w b X) (hW : Wr b w w') : JV w' X j vn vl :=
  JV.keep hW.size (hO.cell hW) (fun _ h _ => h) j h
theorem StrL.wr {w w' : World} {b : Nat} {X : Nat → Prop} {v : Value} {L : List ByteArray} (h : StrL w X v L) (hO : Off w b X) (hW : Wr b w w') : StrL w' X v L :=
  h.keep hW.size (hO.cell hW) (fun _ h _ => h)
/-- A box that was laid when the builder was there already stays what it is. -/
theorem box_wr {w wr : World} {b : Nat} {t : TypeId} {x0 x1 x2 x3 : Value} {l : List UInt8} (hB : BD w b l) (hW : Wr b (w.alloc (.cells #[x0, x1, x2, x3] t)) wr) :
    wr.cell? ⟨w.heap.size, 0, none⟩ = some x0 ∧ wr.cell? ⟨w.heap.size, 1, none⟩ = some x1 ∧ wr.cell? ⟨w.heap.size, 2, none⟩ = some x2 ∧ wr.cell? ⟨w.heap.size, 3, none⟩ = some x3 := by
  have hb := hB.lt
  have hC := Cel.fresh w t #[x0, x1, x2, x3]
  have hbel := (Below.refl w.heap.size w).alloc (Nat.le_refl _) (.cells #[x0, x1, x2, x3] t)
  have hk : ∀ i, wr.cell? ⟨w.heap.size, i, none⟩ = (w.alloc (.cells #[x0, x1, x2, x3] t)).cell? ⟨w.heap.size, i, none⟩ := fun i =>
    hW.cell (p := ⟨w.heap.size, i, none⟩) (by simp) (by show w.heap.size ≠ b; omega) (fun e => by have := hB.bufLt (isBuf_below hbel hb e); exact absurd this (Nat.lt_irrefl _))
  exact ⟨(hk 0).trans (hC.cell 0), (hk 1).trans (hC.cell 1), (hk 2).trans (hC.cell 2), (hk 3).trans (hC.cell 3)⟩
theorem Wr.alloc {w : World} {b : Nat} (hb : b < w.heap.size) (o : Obj) : Wr b w (w.alloc o) := Wr.below ((Below.refl _ _).alloc (Nat.le_refl _) _) hb
theorem jbulks_snoc {l : List Jsn} {q : Nat} {x : Jsn} (h : l[q]? = some x) : jbulks (l.take q) + jbulk x ≤ jbulks l := by
  have h1 := jbulks_take l (q + 1)
  rw [List.take_add_one, h, jbulks_app] at h1
  have : jbulks ((some x).toList) = jbulk x := by simp [jbulks]
  omega
theorem nbulk_mem {n : List ByteArray} {N : ByteArray} (h : N ∈ n) : N.size + 1 ≤ nbulk n := mem_sum (fun b : ByteArray => b.size + 1) h
def WriteSays (Own : List UInt8 → List UInt8 × Int) (Val : List UInt8 → Bool) (j : Jsn) : Prop := ∀ (b : Nat) (l : List UInt8) (X : Nat → Prop) (w : World) (vn vl : Value), BD w b l → JV w X j vn vl → Off w b X → jbulk j ≤ 1000000 → jform Own Val j = true → l.length + 20 * jbulk j ≤ 10000000000 →
    Calls Tryz.prog 89 #[.pointer (some ⟨b, 0, none⟩), .agg #[.int .u8 j.kind, .string j.text, vn, vl]] w fun e w' => e = .returned (.tuple #[]) ∧ WrEnd b (l ++ jtext j) w w'

set_option maxRecDepth 20000 in
set_option maxHeartbeats 4000000 in
theorem jsnWrite_any (Own : List UInt8 → List UInt8 × Int) (Val : List UInt8 → Bool) : ∀ (j : Jsn), WriteSays Own Val j := by
  refine Jsn.ind fun k s n l ih b L X w vn vl hBd hV hOf hbk hg hlen10 => ?_
  obtain ⟨hsz, hn, hl, hnb, hkids⟩ := bulk_parts hbk
  have htl := jtext_len Own Val ⟨k, s, n, l⟩ hg
  have hkf := jform_kids hg
  have hkk := jform_kinds hg
  dsimp only at hl hkids hn hnb hsz
  have hnam := hV.names
  obtain ⟨A1, c1, rfl⟩ := hnam.len
  obtain ⟨A, c, zs, rfl, hz, h2, h3⟩ := hV.elems
  dsimp only at hnam ⊢
  have hlen : zs.length = l.length := by rw [← hz, List.length_map]
  have hbe : jbulk ⟨k, s, n, l⟩ = 1 + s.size + nbulk n + jbulks l := jbulk_eq k s n l
  have hblt := hBd.lt
  obtain ⟨W0, hW0⟩ : ∃ W0, w.alloc (.cells #[.int .u8 k, .string s, .slice A1 n.length c1, .slice A zs.length c] 25) = W0 := ⟨_, rfl⟩
  have hWr0 : Wr b w W0 := by rw [← hW0]; exact Wr.alloc hblt _
  have hBd0 : BD W0 b L := by rw [← hW0]; exact hBd.below ((Below.refl _ _).alloc (Nat.le_refl _) _)
  have hW0s : w.heap.size + 1 = W0.heap.size := by rw [← hW0]; simp
  replace hW0s := Lib.hid hW0s
  have hbx := Lib.hid (fun (wr : World) (hW : Wr b W0 wr) => box_wr hBd (hW0 ▸ hW))
  have hat := Lib.hid (fun (wr : World) (hW : Wr b W0 wr) (i : Nat) (hi : i < n.length) => (hnam.wr hOf (hWr0.trans hW)).at (Below.refl _ _) hi)
  have hw := Lib.hid (fun (wr : World) (hW : Wr b W0 wr) (i : Nat) (hi : i < zs.length) => JV.at (w := wr) (fun z hz' => (h2 z hz').wr hOf (hWr0.trans hW)) (fun hp => by
    obtain ⟨g, o, q1, q2, q3, q4⟩ := h3 hp
    exact ⟨g, o, q1, q2, Nat.lt_of_lt_of_le q3 (hWr0.trans hW).size, fun j z hz' i u hu => (hOf.cell (hWr0.trans hW) ⟨g, o + j * 4 + i, none⟩ q2 q3).trans (q4 j z hz' i u hu)⟩) (Below.refl _ _) hi)
  have hOfr := Lib.hid (fun (wr : World) (hW : Wr b W0 wr) => hOf.wr (hWr0.trans hW))
  have hih := Lib.hid (fun (x : Jsn) (hx : x ∈ l) (l' : List UInt8) (W : World) (vx vy : Value) (h1 : BD W b l') (hVx : JV W X x vx vy) (hO : Off W b X) (hl' : l'.length + 20 * jbulk x ≤ 10000000000) => ih x hx b l' X W vx vy h1 hVx hO (by have := hkids x hx; omega) (hkf x hx) hl')
  have hpl := Lib.hid (fun q => jitems_len 0 (l.take q) true (fun x hx => jtext_len Own Val x (hkf x (List.mem_of_mem_take hx))))
  have hpp := Lib.hid (fun q (h : l.length ≤ n.length) => jpairs_len 0 (l.take q) n true (by rw [List.length_take]; omega) (fun x hx => jtext_len Own Val x (hkf x (List.mem_of_mem_take hx))))
  have hxb := Lib.hid (fun q x (hx : l[q]? = some x) => jbulks_snoc hx)
  have htk := Lib.hid (fun q => jbulks_take l q)
  have hsm : zs.length ≤ 1000000 := by omega
  obtain ⟨R, hR⟩ : ∃ R, L ++ jtext ⟨k, s, n, l⟩ = R := ⟨_, rfl⟩
  rw [hR]
  rw [jtext_eq] at hR
  rw [hbe] at hlen10 hbk
  clear hV h2 h3 hnam hg ih hkf hkids htl hOf hbe
  replace hz := Lib.hid hz
  replace hnb := Lib.hid hnb
  replace hlen := Lib.hid hlen
  replace hR := Lib.hid hR
  obtain ⟨p0, p1, p2, p3⟩ := hbx.out W0 (Wr.refl _ _)
  replace hW0 := Lib.hid hW0
  replace hWr0 := Lib.hid hWr0
  clear hBd
  rcases hkk with rfl | rfl | rfl | rfl | rfl | rfl | ⟨rfl, hnl⟩
  · have hR2 := Lib.hid (show L ++ (⟨#[110, 117, 108, 108]⟩ : ByteArray).data.toList = R by rw [← hR.out]; rfl)
    have hc := Lib.hid (wStr_any b L ⟨#[110, 117, 108, 108]⟩ W0 hBd0 (by show _ + 4 ≤ _; omega))
    clear hR
    go_enter Tryz.func89, Tryz.ntmps89
    go_wp2_with fail
    rw [hW0.out]
    refine hc.out.mono ?_
    rintro e w1 ⟨rfl, hB1, hW1⟩
    have hB2 : BD w1 b R := by rw [← hR2.out]; exact hB1
    have hW2 := Lib.hid (hWr0.out.trans hW1)
    clear hc hB1 hW1 hBd0 p0 p1 p2 p3
    replace hB2 := Lib.hid hB2
    go_wp2_with fail
    go_end0
    exact ⟨rfl, hB2.out, hW2.out⟩
  · have hR2 := Lib.hid (show L ++ (⟨#[116, 114, 117, 101]⟩ : ByteArray).data.toList = R by rw [← hR.out]; rfl)
    have hc := Lib.hid (wStr_any b L ⟨#[116, 114, 117, 101]⟩ W0 hBd0 (by show _ + 4 ≤ _; omega))
    clear hR
    go_enter Tryz.func89, Tryz.ntmps89
    go_wp2_with fail
    rw [hW0.out]
    refine hc.out.mono ?_
    rintro e w1 ⟨rfl, hB1, hW1⟩
    have hB2 : BD w1 b R := by rw [← hR2.out]; exact hB1
    have hW2 := Lib.hid (hWr0.out.trans hW1)
    clear hc hB1 hW1 hBd0 p0 p1 p2 p3
    replace hB2 := Lib.hid hB2
    go_wp2_with fail
    go_end0
    exact ⟨rfl, hB2.out, hW2.out⟩
  · have hR2 := Lib.hid (show L ++ (⟨#[102, 97, 108, 115, 101]⟩ : ByteArray).data.toList = R by rw [← hR.out]; rfl)
    have hc := Lib.hid (wStr_any b L ⟨#[102, 97, 108, 115, 101]⟩ W0 hBd0 (by show _ + 5 ≤ _; omega))
    clear hR
    go_enter Tryz.func89, Tryz.ntmps89
    go_wp2_with fail
    rw [hW0.out]
    refine hc.out.mono ?_
    rintro e w1 ⟨rfl, hB1, hW1⟩
    have hB2 : BD w1 b R := by rw [← hR2.out]; exact hB1
    have hW2 := Lib.hid (hWr0.out.trans hW1)
    clear hc hB1 hW1 hBd0 p0 p1 p2 p3
    replace hB2 := Lib.hid hB2
    go_wp2_with fail
    go_end0
    exact ⟨rfl, hB2.out, hW2.out⟩
  · have hR2 := Lib.hid (show L ++ s.data.toList = R by rw [← hR.out]; rfl)
    have hc := Lib.hid (wStr_any b L s W0 hBd0 (by omega))
    clear hR
    go_enter Tryz.func89, Tryz.ntmps89
    go_wp2_with fail
    rw [hW0.out]
    refine hc.out.mono ?_
    rintro e w1 ⟨rfl, hB1, hW1⟩
    have hB2 : BD w1 b R := by rw [← hR2.out]; exact hB1
    have hW2 := Lib.hid (hWr0.out.trans hW1)
    clear hc hB1 hW1 hBd0 p0 p1 p2 p3
    replace hB2 := Lib.hid hB2
    go_wp2_with fail
    go_end0
    exact ⟨rfl, hB2.out, hW2.out⟩
  · have hR2 := Lib.hid (show L ++ jquote s.data.toList = R by rw [← hR.out]; rfl)
    have hc := Lib.hid (jsnQuote_any b L s hsz W0 hBd0 (by omega))
    clear hR
    go_enter Tryz.func89, Tryz.ntmps89
    go_wp2_with fail
    rw [hW0.out]
    refine hc.out.mono ?_
    rintro e w1 ⟨rfl, hB1, hW1⟩
    have hB2 : BD w1 b R := by rw [← hR2.out]; exact hB1
    have hW2 := Lib.hid (hWr0.out.trans hW1)
    clear hc hB1 hW1 hBd0 p0 p1 p2 p3
    replace hB2 := Lib.hid hB2
    go_wp2_with fail
    go_end0
    exact ⟨rfl, hB2.out, hW2.out⟩
  · have hR2 := Lib.hid (show L ++ (91 :: (jitems true (l.map jtext) ++ [93])) = R by rw [← hR.out]; rfl)
    have hc := Lib.hid (wByte_any b L 91 91 rfl W0 hBd0 (by omega))
    clear hR hBd0
    go_enter Tryz.func89, Tryz.ntmps89
    go_wp2_with fail
    rw [hW0.out]
    refine hc.out.mono ?_
    rintro e w1 ⟨rfl, hB1, hW1⟩
    clear hc hW0 p0 p1 p2 p3
    obtain ⟨p0, p1, p2, p3⟩ := hbx.out w1 hW1
    replace hB1 := Lib.hid hB1
    replace hW1 := Lib.hid hW1
    go_wp2_with fail
    clear p0 p1 p2 p3
    go_loopw [19] (fun i wr => ∃ q : Nat, q ≤ zs.length ∧ i = .int .i64 q ∧ BD wr b (L ++ [91] ++ jitems true ((l.take q).map jtext)) ∧ Wr b W0 wr) (fun i _ => zs.length - (intOf i).toNat)
    case atStart => exact ⟨0, Nat.zero_le _, rfl, by rw [List.take_zero, List.map_nil, jitems_nil, List.append_nil]; exact hB1.out, hW1.out⟩
    case round =>
      clear hB1 hW1
      obtain ⟨q, hq, rfl, hBq, hWq⟩ := hrel
      have hSb := hpl.out q
      have htk1 := htk.out q
      have hbl : w.heap.size < wr.heap.size := by have := hWq.size; rw [← hW0s.out] at this; exact this
      obtain ⟨S, hS⟩ : ∃ S, L ++ [91] ++ jitems true ((l.take q).map jtext) = S := ⟨_, rfl⟩
      have hSl : S.length = L.length + 1 + (jitems true ((l.take q).map jtext)).length := by rw [← hS]; simp only [List.length_append, List.length_cons, List.length_nil, Nat.zero_add]
      rw [hS] at hBq
      by_cases hlt : q < zs.length
      · obtain ⟨g, o, ⟨x, vx, vy⟩, hzq, hzm, rfl, hVz, a0, a1, a2, a3⟩ := hw.out wr hWq q hlt
        dsimp only at hVz a0 a1 a2 a3
        have hxm : x ∈ l := by rw [← hz.out]; exact List.mem_map_of_mem (f := (·.1)) hzm
        have hlq : l[q]? = some x := by rw [← hz.out, List.getElem?_map, hzq]; rfl
        have hql : q < l.length := by have := hlen.out; omega
        have hxb1 := hxb.out q x hlq
        have hst := map_take_snoc hlq
        have hni := take_nil_iff hql
        have hst2 : jitems true ((l.take (q + 1)).map jtext) = jitems true ((l.take q).map jtext) ++ ((if q = 0 then [] else [44]) ++ jtext x) := by
          rw [hst, jitems_snoc]
          simp only [true_and, hni]
        have hst3 : L ++ [91] ++ jitems true ((l.take (q + 1)).map jtext) = S ++ ((if q = 0 then [] else [44]) ++ jtext x) := by
          rw [hst2, ← hS]; simp only [List.append_assoc]
        obtain ⟨Ax, nx, cx, Ay, ny, cy, rfl, rfl⟩ := hVz.forms
        have hq0 : (0 : Int) ≤ (q : Int) := by omega
        have hq1 : (q : Int) < (zs.length : Int) := by omega
        obtain ⟨W1, hWe⟩ : ∃ W1, wr.alloc (.cells #[.int .u8 x.kind, .string x.text, .slice Ax nx cx, .slice Ay ny cy] 25) = W1 := ⟨_, rfl⟩
        have hbq := hBq.lt
        have hW1 : Wr b wr W1 := by rw [← hWe]; exact Wr.alloc hbq _
        have hB1 : BD W1 b S := by rw [← hWe]; exact hBq.below ((Below.refl _ _).alloc (Nat.le_refl _) _)
        have hbx2 := Lib.hid (fun (W : World) (hW : Wr b W1 W) => box_wr hBq (hWe ▸ hW))
        have hrec := Lib.hid (fun (l' : List UInt8) (W : World) (h1 : BD W b l') (hW : Wr b wr W) (hl' : l'.length + 20 * jbulk x ≤ 10000000000) => hih.out x hxm l' W _ _ h1 (hVz.wr (hOfr.out wr hWq) hW) (hOfr.out W (hWq.trans hW)) hl')
        clear hzq hzm hVz hxm hlq hst hni hql hst2 hS
        replace hWe := Lib.hid hWe
        have hWq1 := Lib.hid (hWq.trans hW1)
        replace hW1 := Lib.hid hW1
        replace hWq := Lib.hid hWq
        obtain ⟨p0, p1, p2, p3⟩ := hbx.out wr hWq.out
        clear hBq
        by_cases h0 : q = 0
        · rw [if_pos h0] at hst3
          have hqz : ¬ (0 : Int) < (q : Int) := by omega
          rw [List.nil_append] at hst3
          clear h0
          replace hst3 := Lib.hid hst3
          go_wp2_with fail
          rw [hWe.out]
          clear hWe p0 p1 p2 p3 a0 a1 a2 a3
          refine (hrec.out _ W1 hB1 hW1.out (by first | omega | (simp only [List.length_append, List.length_cons, List.length_nil]; omega))).mono ?_
          rintro e W5 ⟨rfl, hB5, hW5⟩
          have hWq5 := Lib.hid (hWq1.out.trans hW5)
          have hfin : BD W5 b (L ++ [91] ++ jitems true ((l.take (q + 1)).map jtext)) := by
            rw [hst3.out]
            simpa using hB5
          clear hB1 hrec hB5 hW5
          replace hfin := Lib.hid hfin
          go_wp2_with fail
          go_roundw
          case rel => exact ⟨q + 1, by omega, by go_num, hfin.out, hWq5.out⟩
          case measure => simp [intOf]; omega
        · rw [if_neg h0] at hst3
          have hqz : (0 : Int) < (q : Int) := by omega
          have hcm := Lib.hid (wByte_any b S 44 44 rfl W1 hB1 (by omega))
          clear h0
          replace hst3 := Lib.hid hst3
          go_wp2_with fail
          rw [hWe.out]
          refine hcm.out.mono ?_
          rintro e W2 ⟨rfl, hB2, hW2⟩
          have hWq2 := Lib.hid (hWq1.out.trans hW2)
          have hW12 := Lib.hid (hW1.out.trans hW2)
          clear hcm hB1 hWe p0 p1 p2 p3 a0 a1 a2 a3
          replace hW2 := Lib.hid hW2
          obtain ⟨p0, p1, p2, p3⟩ := hbx.out W2 hWq2.out
          obtain ⟨d0, d1, d2, d3⟩ := hbx2.out W2 hW2.out
          go_wp2_with fail
          refine (hrec.out _ W2 hB2 hW12.out (by first | omega | (simp only [List.length_append, List.length_cons, List.length_nil]; omega))).mono ?_
          rintro e W5 ⟨rfl, hB5, hW5⟩
          have hWq5 := Lib.hid (hWq2.out.trans hW5)
          have hfin : BD W5 b (L ++ [91] ++ jitems true ((l.take (q + 1)).map jtext)) := by
            rw [hst3.out]
            simpa using hB5
          clear hB2 hrec hB5 hW5 p0 p1 p2 p3 d0 d1 d2 d3
          replace hfin := Lib.hid hfin
          go_wp2_with fail
          go_roundw
          case rel => exact ⟨q + 1, by omega, by go_num, hfin.out, hWq5.out⟩
          case measure => simp [intOf]; omega
      · have hfull : l.take q = l := List.take_of_length_le (by have := hlen.out; omega)
        have hRe : S ++ [93] = R := by rw [← hR2.out, ← hS, hfull]; simp
        have hc := Lib.hid (wByte_any b S 93 93 rfl wr hBq (by omega))
        replace hRe := Lib.hid hRe
        replace hWq := Lib.hid hWq
        clear hBq hS hfull hSl hSb
        go_wp2_with fail
        refine hc.out.mono ?_
        rintro e w2 ⟨rfl, hB2, hW2⟩
        have hB3 : BD w2 b R := by rw [← hRe.out]; exact hB2
        have hW3 := Lib.hid (hWr0.out.trans (hWq.out.trans hW2))
        clear hc hB2 hW2 hWq
        replace hB3 := Lib.hid hB3
        go_wp2_with fail
        go_end0
        exact ⟨rfl, hB3.out, hW3.out⟩
  · have hpp1 := Lib.hid (fun q => hpp.out q (by omega))
    replace hnl := Lib.hid hnl
    have hR2 := Lib.hid (show L ++ (123 :: (jpairs true n (l.map jtext) ++ [125])) = R by rw [← hR.out]; rfl)
    have hc := Lib.hid (wByte_any b L 123 123 rfl W0 hBd0 (by omega))
    clear hR hBd0
    go_enter Tryz.func89, Tryz.ntmps89
    go_wp2_with fail
    rw [hW0.out]
    refine hc.out.mono ?_
    rintro e w1 ⟨rfl, hB1, hW1⟩
    clear hc hW0 p0 p1 p2 p3
    obtain ⟨p0, p1, p2, p3⟩ := hbx.out w1 hW1
    replace hB1 := Lib.hid hB1
    replace hW1 := Lib.hid hW1
    go_wp2_with fail
    clear p0 p1 p2 p3
    go_loopw [19] (fun i wr => ∃ q : Nat, q ≤ zs.length ∧ i = .int .i64 q ∧ BD wr b (L ++ [123] ++ jpairs true n ((l.take q).map jtext)) ∧ Wr b W0 wr) (fun i _ => zs.length - (intOf i).toNat)
    case atStart => exact ⟨0, Nat.zero_le _, rfl, by rw [List.take_zero, List.map_nil, jpairs_nil, List.append_nil]; exact hB1.out, hW1.out⟩
    case round =>
      clear hB1 hW1
      obtain ⟨q, hq, rfl, hBq, hWq⟩ := hrel
      have hSb := hpp1.out q
      have htk1 := htk.out q
      have hbl : w.heap.size < wr.heap.size := by have := hWq.size; rw [← hW0s.out] at this; exact this
      obtain ⟨S, hS⟩ : ∃ S, L ++ [123] ++ jpairs true n ((l.take q).map jtext) = S := ⟨_, rfl⟩
      have hSl : S.length = L.length + 1 + (jpairs true n ((l.take q).map jtext)).length := by rw [← hS]; simp only [List.length_append, List.length_cons, List.length_nil, Nat.zero_add]
      rw [hS] at hBq
      by_cases hlt : q < zs.length
      · obtain ⟨g, o, ⟨x, vx, vy⟩, hzq, hzm, rfl, hVz, a0, a1, a2, a3⟩ := hw.out wr hWq q hlt
        dsimp only at hVz a0 a1 a2 a3
        have hxm : x ∈ l := by rw [← hz.out]; exact List.mem_map_of_mem (f := (·.1)) hzm
        have hlq : l[q]? = some x := by rw [← hz.out, List.getElem?_map, hzq]; rfl
        have hql : q < l.length := by have := hlen.out; omega
        have hxb1 := hxb.out q x hlq
        have hst := map_take_snoc hlq
        have hni := take_nil_iff hql
        have hst2 : jpairs true n ((l.take (q + 1)).map jtext) = jpairs true n ((l.take q).map jtext) ++ ((if q = 0 then [] else [44]) ++ (jquote (n.getD q ByteArray.empty).data.toList ++ 58 :: jtext x)) := by
          rw [hst, jpairs_snoc]
          simp only [true_and, hni, List.length_map, List.length_take, Nat.min_eq_left (Nat.le_of_lt hql)]
        have hst3 : L ++ [123] ++ jpairs true n ((l.take (q + 1)).map jtext) = S ++ ((if q = 0 then [] else [44]) ++ (jquote (n.getD q ByteArray.empty).data.toList ++ 58 :: jtext x)) := by
          rw [hst2, ← hS]; simp only [List.append_assoc]
        obtain ⟨Ax, nx, cx, Ay, ny, cy, rfl, rfl⟩ := hVz.forms
        have hq0 : (0 : Int) ≤ (q : Int) := by omega
        have hq1 : (q : Int) < (zs.length : Int) := by omega
        obtain ⟨W1, hWe⟩ : ∃ W1, wr.alloc (.cells #[.int .u8 x.kind, .string x.text, .slice Ax nx cx, .slice Ay ny cy] 25) = W1 := ⟨_, rfl⟩
        have hbq := hBq.lt
        have hW1 : Wr b wr W1 := by rw [← hWe]; exact Wr.alloc hbq _
        have hB1 : BD W1 b S := by rw [← hWe]; exact hBq.below ((Below.refl _ _).alloc (Nat.le_refl _) _)
        have hbx2 := Lib.hid (fun (W : World) (hW : Wr b W1 W) => box_wr hBq (hWe ▸ hW))
        have hrec := Lib.hid (fun (l' : List UInt8) (W : World) (h1 : BD W b l') (hW : Wr b wr W) (hl' : l'.length + 20 * jbulk x ≤ 10000000000) => hih.out x hxm l' W _ _ h1 (hVz.wr (hOfr.out wr hWq) hW) (hOfr.out W (hWq.trans hW)) hl')
        have hqn : q < n.length := by have := hnl.out; have := hlen.out; omega
        obtain ⟨N, hN⟩ : ∃ N, n[q] = N := ⟨_, rfl⟩
        have hNg : n.getD q ByteArray.empty = N := by rw [List.getD_eq_getElem?_getD, List.getElem?_eq_getElem hqn, hN]; rfl
        have hNs : N.size ≤ 1000000 := hnb.out N (by rw [← hN]; exact List.getElem_mem hqn)
        rw [hNg] at hst3
        have hqi : (q : Int) < (n.length : Int) := by omega
        have hNq := jquote_len N.data.toList
        rw [bytes_len] at hNq
        obtain ⟨gn, on, rfl, y0⟩ := hat.out wr hWq q hqn
        have hnat := Lib.hid (fun (W : World) (hW : Wr b W0 W) => show W.cell? ⟨gn, on + q, none⟩ = some (.string N) by
          obtain ⟨g', o', e1, y⟩ := hat.out W hW q hqn
          injection e1 with e1
          injection e1 with e2 e3
          subst e2
          subst e3
          rwa [hN] at y)
        have hgl := World.block_lt_of_cell? wr _ y0
        rw [hN] at y0
        have hNb : N.size + 1 ≤ nbulk n := nbulk_mem (by rw [← hN]; exact List.getElem_mem hqn)
        clear hN hNg hqn
        clear hzq hzm hVz hxm hlq hst hni hql hst2 hS
        replace hWe := Lib.hid hWe
        have hWq1 := Lib.hid (hWq.trans hW1)
        replace hW1 := Lib.hid hW1
        replace hWq := Lib.hid hWq
        obtain ⟨p0, p1, p2, p3⟩ := hbx.out wr hWq.out
        clear hBq
        by_cases h0 : q = 0
        · rw [if_pos h0] at hst3
          have hqz : ¬ (0 : Int) < (q : Int) := by omega
          rw [List.nil_append] at hst3
          clear h0
          replace hst3 := Lib.hid hst3
          go_wp2_with fail
          rw [hWe.out]
          clear hWe p0 p1 p2 p3 a0 a1 a2 a3
          refine (jsnQuote_any b S N hNs W1 hB1 (by omega)).mono ?_
          rintro e W3 ⟨rfl, hB3, hW3⟩
          have hWq3 := Lib.hid (hWq1.out.trans hW3)
          have hW13 := Lib.hid (hW1.out.trans hW3)
          have hx3 := Lib.hid (Wr.trans ((Wr.refl _ _)) hW3)
          have hco := Lib.hid (wByte_any b _ 58 58 rfl W3 hB3 (by simp only [List.length_append, List.length_cons, List.length_nil]; omega))
          clear hB3 hW3 hB1 y0
          go_wp2_with fail
          refine hco.out.mono ?_
          rintro e W4 ⟨rfl, hB4, hW4⟩
          have hWq4 := Lib.hid (hWq3.out.trans hW4)
          have hW14 := Lib.hid (hW13.out.trans hW4)
          obtain ⟨d0, d1, d2, d3⟩ := hbx2.out W4 (hx3.out.trans hW4)
          clear hco hW4
          go_wp2_with fail
          refine (hrec.out _ W4 hB4 hW14.out (by first | omega | (simp only [List.length_append, List.length_cons, List.length_nil]; omega))).mono ?_
          rintro e W5 ⟨rfl, hB5, hW5⟩
          have hWq5 := Lib.hid (hWq4.out.trans hW5)
          have hfin : BD W5 b (L ++ [123] ++ jpairs true n ((l.take (q + 1)).map jtext)) := by
            rw [hst3.out]
            simpa using hB5
          clear hB4 hrec hB5 hW5 d0 d1 d2 d3
          replace hfin := Lib.hid hfin
          go_wp2_with fail
          go_roundw
          case rel => exact ⟨q + 1, by omega, by go_num, hfin.out, hWq5.out⟩
          case measure => simp [intOf]; omega
        · rw [if_neg h0] at hst3
          have hqz : (0 : Int) < (q : Int) := by omega
          have hcm := Lib.hid (wByte_any b S 44 44 rfl W1 hB1 (by omega))
          clear h0
          replace hst3 := Lib.hid hst3
          go_wp2_with fail
          rw [hWe.out]
          refine hcm.out.mono ?_
          rintro e W2 ⟨rfl, hB2, hW2⟩
          have hWq2 := Lib.hid (hWq1.out.trans hW2)
          have hW12 := Lib.hid (hW1.out.trans hW2)
          clear hcm hB1 hWe p0 p1 p2 p3 a0 a1 a2 a3
          replace hW2 := Lib.hid hW2
          obtain ⟨p0, p1, p2, p3⟩ := hbx.out W2 hWq2.out
          have y1 := hnat.out W2 hWq2.out
          go_wp2_with fail
          refine (jsnQuote_any b (S ++ [44]) N hNs W2 hB2 (by simp; omega)).mono ?_
          rintro e W3 ⟨rfl, hB3, hW3⟩
          have hWq3 := Lib.hid (hWq2.out.trans hW3)
          have hW13 := Lib.hid (hW12.out.trans hW3)
          have hx3 := Lib.hid (Wr.trans (hW2.out) hW3)
          have hco := Lib.hid (wByte_any b _ 58 58 rfl W3 hB3 (by simp only [List.length_append, List.length_cons, List.length_nil]; omega))
          clear hB3 hW3 hB2 y0 y1 p0 p1 p2 p3
          go_wp2_with fail
          refine hco.out.mono ?_
          rintro e W4 ⟨rfl, hB4, hW4⟩
          have hWq4 := Lib.hid (hWq3.out.trans hW4)
          have hW14 := Lib.hid (hW13.out.trans hW4)
          obtain ⟨d0, d1, d2, d3⟩ := hbx2.out W4 (hx3.out.trans hW4)
          clear hco hW4
          go_wp2_with fail
          refine (hrec.out _ W4 hB4 hW14.out (by first | omega | (simp only [List.length_append, List.length_cons, List.length_nil]; omega))).mono ?_
          rintro e W5 ⟨rfl, hB5, hW5⟩
          have hWq5 := Lib.hid (hWq4.out.trans hW5)
          have hfin : BD W5 b (L ++ [123] ++ jpairs true n ((l.take (q + 1)).map jtext)) := by
            rw [hst3.out]
            simpa using hB5
          clear hB4 hrec hB5 hW5 d0 d1 d2 d3
          replace hfin := Lib.hid hfin
          go_wp2_with fail
          go_roundw
          case rel => exact ⟨q + 1, by omega, by go_num, hfin.out, hWq5.out⟩
          case measure => simp [intOf]; omega
      · have hfull : l.take q = l := List.take_of_length_le (by have := hlen.out; omega)
        have hRe : S ++ [125] = R := by rw [← hR2.out, ← hS, hfull]; simp
        have hc := Lib.hid (wByte_any b S 125 125 rfl wr hBq (by omega))
        replace hRe := Lib.hid hRe
        replace hWq := Lib.hid hWq
        clear hBq hS hfull hSl hSb
        go_wp2_with fail
        refine hc.out.mono ?_
        rintro e w2 ⟨rfl, hB2, hW2⟩
        have hB3 : BD w2 b R := by rw [← hRe.out]; exact hB2
        have hW3 := Lib.hid (hWr0.out.trans (hWq.out.trans hW2))
        clear hc hB2 hW2 hWq
        replace hB3 := Lib.hid hB3
        go_wp2_with fail
        go_end0
        exact ⟨rfl, hB3.out, hW3.out⟩
end Go.Proofs.YtamcbgkppgdniaaGreatDoor
