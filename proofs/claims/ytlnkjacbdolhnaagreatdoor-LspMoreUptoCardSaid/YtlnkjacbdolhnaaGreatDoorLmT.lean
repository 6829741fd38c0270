/-
  The law LspMore: members that are not looked at, and the order of members, change no message.
-/
import Derived.Test.YtlnkjacbdolhnaaGreatDoorM31
import Derived.Test.YtlnkjacbdolhnaaGreatDoorM35
import Derived.Test.YtlnkjacbdolhnaaGreatDoorLmO
import Derived.Test.YtlnkjacbdolhnaaGreatDoorM04
import Derived.BigQuiet
namespace Go.Proofs.YtlnkjacbdolhnaaGreatDoor
open Go.RowKit

theorem noDup_all {n : List ByteArray} (h : NoDup n n.length) : n.Nodup := by
  refine List.pairwise_iff_getElem.2 fun i j hi hj hij => ?_
  exact h i j _ _ hij hj (List.getElem?_eq_getElem hi) (List.getElem?_eq_getElem hj)
theorem strL_cells {w : World} {X : Nat → Prop} {A : Option Addr} {m c : Nat} {L : List ByteArray} (h : StrL w X (.slice A m c) L) (hp : 0 < L.length) : ∃ g o, A = some ⟨g, o, none⟩ ∧ g < w.heap.size ∧ ∀ (j : Nat) x, L[j]? = some x → w.cell? ⟨g, o + j, none⟩ = some (.string x) := by
  obtain ⟨A', c', he, h1⟩ := h
  injection he with he1 _ _
  subst he1
  obtain ⟨g, o, q1, _, q3, q4⟩ := h1 hp
  exact ⟨g, o, q1, q3, q4⟩
theorem rev_at (ap : Int) (m : Nat) (hm : m ≤ 1048576) : ∃ N : Nat, wrap64 ((IntKind.u64.wrap ap).tmod ((m : Int) + 1)) = (N : Int) ∧ N ≤ m := by
  have h0 : 0 ≤ IntKind.u64.wrap ap := wrap_u64_nonneg ap
  have h1 := Int.tmod_nonneg ((m : Int) + 1) h0
  have h2 := Int.tmod_lt_of_pos (IntKind.u64.wrap ap) (show (0 : Int) < (m : Int) + 1 by omega)
  refine ⟨((IntKind.u64.wrap ap).tmod ((m : Int) + 1)).toNat, ?_, by omega⟩
  rw [Int.toNat_of_nonneg h1]
  unfold wrap64
  omega
set_option maxRecDepth 100000 in
set_option maxHeartbeats 16000000 in
theorem lspMore_any (s : ByteArray) (k : Int) (jt : ByteArray) (n : List ByteArray) (l : List Jsn) (x : Jsn) (ap : Int) (w : World) (jn jl xn xl : Value) (hE : Env w) (hV : JV w (fun b => b < w.heap.size) ⟨k, jt, n, l⟩ jn jl) (hU : JV w (fun b => b < w.heap.size) x xn xl)
    (hbj : jbulk ⟨k, jt, n, l⟩ ≤ 1048576) (hbx : jbulk x ≤ 1048576) (_ha : I64 ap) :
    Calls Tryz.prog 3 #[.string s, .agg #[.int .u8 k, .string jt, jn, jl], .agg #[.int .u8 x.kind, .string x.text, xn, xl], .int .i64 ap] w fun e w' => e = .returned (.bool true) ∧ Below w.heap.size w w' := by
  have hAw := Lib.hid (fun (W : World) (hb : Below w.heap.size w W) => awake8_any W (hE.below hb))
  have hW1 := Lib.hid (fun (W : World) (hb : Below w.heap.size w W) => weight_any 1048576 ⟨k, jt, n, l⟩ hbj _ W _ _ 1000 (hV.later hb) (by omega) (by omega) (by omega))
  have hW2 := Lib.hid (fun (W : World) (hb : Below w.heap.size w W) => weight_any 1048576 x hbx _ W _ _ 500 (hU.later hb) (by omega) (by omega) (by omega))
  have hDec := Lib.hid (fun (W : World) (hb : Below w.heap.size w W) => lspDecode_any s ⟨k, jt, n, l⟩ _ W _ _ (hV.later hb) (by omega) (fun _ => rChs_says))
  have hnam := hV.names
  obtain ⟨An, cn, rfl⟩ := hnam.len
  obtain ⟨A, c, zs, rfl, hz, h2, h3⟩ := hV.elems
  obtain ⟨Xn, xnn, xcn, Xl, xnl, xcl, rfl, rfl⟩ := hU.forms
  dsimp only at hnam hW1 hW2 hDec ⊢
  have hlen : zs.length = l.length := by rw [← hz, List.length_map]
  obtain ⟨_, hn, hl, hnm, hkids⟩ := bulk_parts hbj
  dsimp only at hn hl hnm hkids
  rw [← hlen] at hl
  have hat := Lib.hid (fun (wr : World) (hB : Below w.heap.size w wr) (i : Nat) (hi : i < n.length) => hnam.at hB hi)
  have hel := Lib.hid (fun (wr : World) (hB : Below w.heap.size w wr) (i : Nat) (hi : i < zs.length) => JV.at h2 h3 hB hi)
  have hns := Lib.hid (fun (hp : 0 < n.length) => strL_cells hnam hp)
  have hzs := Lib.hid h3
  have hx0 := Lib.hid (fun (wr : World) (hB : Below w.heap.size w wr) => hU.later hB)
  obtain ⟨w0, hw0⟩ : ∃ w0, (w.alloc (.cells #[.int .u8 k, .string jt, .slice An n.length cn, .slice A zs.length c] 25)).alloc (.cells #[.int .u8 x.kind, .string x.text, .slice Xn xnn xcn, .slice Xl xnl xcl] 25) = w0 := ⟨_, rfl⟩
  have hB0 : Below w.heap.size w w0 := by rw [← hw0]; exact ((Below.refl _ _).alloc (Nat.le_refl _) _).alloc (by simp) _
  have hC5 : Cel w0 w.heap.size 25 #[.int .u8 k, .string jt, .slice An n.length cn, .slice A zs.length c] := by rw [← hw0]; exact (Cel.fresh _ _ _).alloc _
  have hC6 : Cel w0 (w.heap.size + 1) 25 #[.int .u8 x.kind, .string x.text, .slice Xn xnn xcn, .slice Xl xnl xcl] := by
    rw [← hw0]
    have := Cel.fresh (w.alloc (.cells #[.int .u8 k, .string jt, .slice An n.length cn, .slice A zs.length c] 25)) 25 #[.int .u8 x.kind, .string x.text, .slice Xn xnn xcn, .slice Xl xnl xcl]
    simpa using this
  obtain ⟨a0, a1, a2, a3⟩ := hC5.d4
  replace hw0 := Lib.hid hw0
  replace hB0 := Lib.hid hB0
  replace hC5 := Lib.hid hC5
  replace hC6 := Lib.hid hC6
  replace hz := Lib.hid hz
  replace hlen := Lib.hid hlen
  replace h2 := Lib.hid h2
  replace hkids := Lib.hid hkids
  replace hnm := Lib.hid hnm
  replace hE := Lib.hid hE
  clear hV hU h3 hnam
  go_enter Tryz.func3, Tryz.ntmps3
  go_upto_region 1 with fail
  rw [hw0.out]
  clear hw0
  go_wp2_with fail
  refine (hW1.out w0 hB0.out).mono ?_
  rintro e w1 ⟨k1, rfl, hk10, hk11, hb1⟩
  have hC51 := Lib.hid (hC5.out.below hb1 hC5.out.lt)
  have hC61 := Lib.hid (hC6.out.below hb1 hC6.out.lt)
  have hB1 := Lib.hid (hB0.out.trans (hb1.mono hB0.out.size))
  clear hb1 hC5 hC6 hB0 hW1 a0 a1 a2 a3 hk10 hk11
  by_cases hl1 : 1000 ≤ k1
  · go_wp2_with fail
    refine (hAw.out w1 hB1.out).mono ?_
    rintro e w2 ⟨rfl, hb2⟩
    replace hb2 := Lib.hid hb2
    go_wp2_with fail
    exact bodyPost_ret (v := .bool true) (by simp [results, Tryz.results3, go_sem]) rfl ⟨rfl, hB1.out.trans (hb2.out.mono hB1.out.size)⟩
  obtain ⟨b0, b1, b2, b3⟩ := hC61.out.d4
  go_wp2_with fail
  refine (hW2.out w1 hB1.out).mono ?_
  rintro e w2 ⟨k2, rfl, hk20, hk21, hb2⟩
  have hC52 := Lib.hid (hC51.out.below hb2 hC51.out.lt)
  have hC62 := Lib.hid (hC61.out.below hb2 hC61.out.lt)
  have hB2 := Lib.hid (hB1.out.trans (hb2.mono hB1.out.size))
  clear hb2 hC51 hC61 hB1 hW2 b0 b1 b2 b3 hk20 hk21
  by_cases hl2 : 500 ≤ k2
  · go_wp2_with fail
    refine (hAw.out w2 hB2.out).mono ?_
    rintro e w3 ⟨rfl, hb3⟩
    replace hb3 := Lib.hid hb3
    go_wp2_with fail
    exact bodyPost_ret (v := .bool true) (by simp [results, Tryz.results3, go_sem]) rfl ⟨rfl, hB2.out.trans (hb3.out.mono hB2.out.size)⟩
  go_wp2_with fail
  refine (hAw.out w2 hB2.out).mono ?_
  rintro e w3 ⟨rfl, hb3⟩
  have hC53 := hC52.out.below hb3 hC52.out.lt
  have hC63 := Lib.hid (hC62.out.below hb3 hC62.out.lt)
  have hB3 := Lib.hid (hB2.out.trans (hb3.mono hB2.out.size))
  have hlt5 := hC53.lt
  obtain ⟨c0, c1, c2, c3⟩ := hC53.d4
  replace hC53 := Lib.hid hC53
  clear hb3 hC52 hC62 hB2 hAw
  by_cases hk7 : k = 7
  rotate_left
  · go_wp2_with fail
    exact bodyPost_ret (v := .bool true) (by simp [results, Tryz.results3, go_sem]) rfl ⟨rfl, hB3.out⟩
  subst hk7
  by_cases hnl : n.length = zs.length
  rotate_left
  · have hnl' : ¬ (n.length : Int) = (zs.length : Int) := by omega
    replace hnl := Lib.hid hnl
    go_wp2_with fail
    exact bodyPost_ret (v := .bool true) (by simp [results, Tryz.results3, go_sem]) rfl ⟨rfl, hB3.out⟩
  rw [← hnl] at c3
  replace hnl := Lib.hid hnl
  go_wp2_with fail
  clear c0 c1 c3
  go_loopw [9] (fun i wr => ∃ q m : Nat, q ≤ n.length ∧ i = .int .i64 q ∧ NoDup n q ∧ wr = w3.drewN m) (fun i _ => n.length - (intOf i).toNat)
  case atStart => exact ⟨0, 0, Nat.zero_le _, rfl, fun _ _ _ _ _ h => absurd h (Nat.not_lt_zero _), rfl⟩
  case round =>
    obtain ⟨q, m, hq, rfl, hnd, rfl⟩ := hrel
    by_cases hlt : q < n.length
    · obtain ⟨S, hS⟩ : ∃ S, n[q] = S := ⟨_, rfl⟩
      have hSq : n[q]? = some S := by rw [List.getElem?_eq_getElem hlt, hS]
      have hq0 : (0 : Int) ≤ (q : Int) := by omega
      have hq1 : (q : Int) < (n.length : Int) := by omega
      replace hnd := Lib.hid hnd
      replace hSq := Lib.hid hSq
      clear hS
      go_wp2_with fail
      go_loopw [10] (fun i wr => ∃ p m : Nat, p ≤ q ∧ i = .int .i64 p ∧ NoneIs n q p S ∧ wr = w3.drewN m) (fun i _ => q - (intOf i).toNat)
      case atStart => exact ⟨0, m, Nat.zero_le _, rfl, fun _ _ h => absurd h (Nat.not_lt_zero _), rfl⟩
      case round =>
        obtain ⟨p, m2, hp, rfl, hni, rfl⟩ := hrel
        by_cases hltp : p < q
        · have hpn : p < n.length := by omega
          obtain ⟨g, o, rfl, y1⟩ := hat.out w3 hB3.out q hlt
          obtain ⟨g', o', hgo, y2⟩ := hat.out w3 hB3.out p hpn
          injection hgo with hgo
          injection hgo with e1 e2
          subst e1
          subst e2
          have hqe : n[q] = S := by have := hSq.out; rw [List.getElem?_eq_getElem hlt] at this; injection this
          obtain ⟨T, hT⟩ : ∃ T, n[p] = T := ⟨_, rfl⟩
          have hTp : n[p]? = some T := by rw [List.getElem?_eq_getElem hpn, hT]
          rw [hqe] at y1
          rw [hT] at y2
          have hp0 : (0 : Int) ≤ (p : Int) := by omega
          have hp1 : (p : Int) < (n.length : Int) := by omega
          have hp2 : (p : Int) < (q : Int) := by omega
          clear hqe hT
          by_cases heq : T = S
          · subst heq
            have hBe := bel_drewN hB3.out m2
            replace hTp := Lib.hid hTp
            replace hni := Lib.hid hni
            replace hBe := Lib.hid hBe
            go_wp2_with fail
            go_quiet (fail)
            go_wp2_with fail
            go_ret
            exact ⟨rfl, by first | exact bel_drewN hBe.out nq | exact bel_drewN hB3.out _⟩
          · have hni2 := NoneIs.step hni hTp heq
            have hne := jeq_f heq
            replace hni2 := Lib.hid hni2
            clear hni hTp heq
            go_wp2_with fail
            go_quiet (fail)
            go_wp2_with fail
            go_roundw
            case rel => exact ⟨p + 1, m2 + nq, by omega, by go_num, hni2.out, by first | rfl | rw [World.drewN_drewN]⟩
            case measure => simp [intOf]; omega
        · have hpe : p = q := by omega
          subst hpe
          have hnd2 := NoDup.step hnd.out hSq.out hni
          replace hnd2 := Lib.hid hnd2
          clear hni
          go_wp2_with fail
          go_roundw
          case rel => exact ⟨p + 1, m2, by omega, by go_num, hnd2.out, rfl⟩
          case measure => simp [intOf]; omega
    · have hqe : q = n.length := by omega
      subst hqe
      have hnod := Lib.hid (noDup_all hnd)
      have hB4' := bel_drewN hB3.out m
      have hC54' := hC53.out.drewN m
      have hC64' := hC63.out.drewN m
      obtain ⟨w4, hw4⟩ : ∃ w4, w3.drewN m = w4 := ⟨_, rfl⟩
      rw [hw4] at hB4' hC54' hC64' ⊢
      have hB4 := Lib.hid hB4'
      have hC64 := Lib.hid hC64'
      have hC54 := Lib.hid hC54'
      obtain ⟨d0, d1, d2, d3⟩ := hC54'.d4
      clear hw4 hB4' hC54' hC64' hB3 hC53 hC63 hnd hlt c2 hlt5
      go_wp2_with fail
      obtain ⟨R, hR⟩ : ∃ R, ldec s ⟨7, jt, n, l⟩ = R := ⟨_, rfl⟩
      have hcall := hDec.out w4 hB4.out
      rw [hR] at hcall
      refine hcall.mono ?_
      rintro e w5 ⟨idn, idl, chv, he, hJ, hrow, hb5⟩
      clear hcall hDec d0 d1 d2 d3
      unfold mCells at he
      obtain ⟨I1, i1, i2, I2, i3, i4, rfl, rfl⟩ := hJ.forms
      obtain ⟨CB, cb, hcv⟩ := own_slice hrow
      subst hcv
      subst he
      obtain ⟨w6', hw6⟩ : ∃ W, w5.alloc (.cells #[.int .u8 R.1.kind, .string R.1.uri, .int .i64 R.1.version, .string R.1.text, .int .i64 R.1.line, .int .i64 R.1.char, .int .i64 R.1.width, .int .u8 R.1.id.kind, .string R.1.id.text, .slice I1 i1 i2, .slice I2 i3 i4, .slice CB R.1.chs.length cb] 32) = W := ⟨_, rfl⟩
      have hb56 : Below w5.heap.size w5 w6' := by rw [← hw6]; exact (Below.refl _ _).alloc (Nat.le_refl _) _
      have hC11 : Cel w6' w5.heap.size 32 #[.int .u8 R.1.kind, .string R.1.uri, .int .i64 R.1.version, .string R.1.text, .int .i64 R.1.line, .int .i64 R.1.char, .int .i64 R.1.width, .int .u8 R.1.id.kind, .string R.1.id.text, .slice I1 i1 i2, .slice I2 i3 i4, .slice CB R.1.chs.length cb] := by rw [← hw6]; exact Cel.fresh _ _ _
      have hJ6 := hJ.later hb56
      have hrow6 := ownRow_keep hrow (fun g hg => hb56.block g (hrow.lt g hg).2)
      have hC56 := (hC54.out.below hb5 hC54.out.lt).below hb56 (Nat.lt_of_lt_of_le hC54.out.lt hb5.size)
      have hC66 := (hC64.out.below hb5 hC64.out.lt).below hb56 (Nat.lt_of_lt_of_le hC64.out.lt hb5.size)
      have hB6 := Lib.hid ((hB4.out.trans (hb5.mono hB4.out.size)).trans (hb56.mono (Nat.le_trans hB4.out.size hb5.size)))
      replace hw6 := Lib.hid hw6
      clear hb5 hb56 hJ hrow hC54 hC64 hB4
      go_upto_region 14 with fail
      rw [hw6.out]
      clear hw6
      have hlt5 := Lib.hid hC56.lt
      have hlt6 := Lib.hid hC66.lt
      have c2 : w6'.cell? ⟨w.heap.size, 2, none⟩ = some (.slice An n.length cn) := hC56.cell 2
      replace hC11 := Lib.hid hC11
      replace hJ6 := Lib.hid hJ6
      replace hrow6 := Lib.hid hrow6
      replace hC56 := Lib.hid hC56
      replace hC66 := Lib.hid hC66
      go_upto_region 15 with fail
      obtain ⟨N, hN, hNle⟩ := rev_at ap n.length hn
      rw [hN]
      clear hN c2
      obtain ⟨w6, hw6⟩ : ∃ W, W = w6' := ⟨_, rfl⟩
      subst hw6
      obtain ⟨w7, hw7⟩ : ∃ W, w6.alloc (.cells #[.int .u8 7, .string ⟨#[]⟩, .slice none 0 0, .slice none 0 0] 25) = W := ⟨_, rfl⟩
      have hb67 : Below w6.heap.size w6 w7 := by rw [← hw7]; exact (Below.refl _ _).alloc (Nat.le_refl _) _
      have hC14 : Cel w7 w6.heap.size 25 #[.int .u8 7, .string ⟨#[]⟩, .slice none 0 0, .slice none 0 0] := by rw [← hw7]; exact Cel.fresh _ _ _
      have hq5 := (hC56.out.below hb67 hC56.out.lt).d4
      have hq6 := (hC66.out.below hb67 hC66.out.lt).d4
      have c2V := Lib.hid hq5.2.2.1
      have c3V := Lib.hid hq5.2.2.2
      have m0V := Lib.hid hq6.1
      have m1V := Lib.hid hq6.2.1
      have m2V := Lib.hid hq6.2.2.1
      have m3V := Lib.hid hq6.2.2.2
      have c2 : w7.cell? ⟨w.heap.size, 2, none⟩ = some (.slice An n.length cn) := hq5.2.2.1
      have hSt0 := Lib.hid (RevSt.start hC14)
      have hB7 := Lib.hid hb67
      replace hw7 := Lib.hid hw7
      clear hq5 hq6 hb67 hC14
      go_upto_region 16 with fail
      rw [hw7.out]
      clear hw7
      go_wp2_with fail
      clear c2
      go_loopw [15] (fun i wr => ∃ (r : Nat) (v : Int) (Nn : Option Addr) (cn1 : Nat) (Nl : Option Addr) (cl1 : Nat), r ≤ n.length ∧ i = .int .i64 v ∧ v = (r : Int) - 1 ∧ RevSt wr w6.heap.size (revl yNone N n (r)) (revl (x, Value.slice Xn xnn xcn, Value.slice Xl xnl xcl) N zs (r)) Nn cn1 Nl cl1 ∧ Below w6.heap.size w7 wr) (fun i _ => (intOf i + 1).toNat)
      case atStart =>
        refine ⟨n.length, (n.length : Int) - 1, none, 0, none, 0, Nat.le_refl _, by go_num, rfl, ?_, Below.refl _ _⟩
        rw [revl_top _ _ _ hNle, hnl.out, revl_top _ _ _ (by have := hnl.out; omega)]
        exact hSt0.out
      case round =>
        obtain ⟨r, v, Nn, cn1, Nl, cl1, hr, rfl, hv, hSt, hB⟩ := hrel
        replace c2V := Lib.hid ((hB.cell (p := ⟨w.heap.size, 2, none⟩) hlt5.out).trans c2V.out)
        replace c3V := Lib.hid ((hB.cell (p := ⟨w.heap.size, 3, none⟩) hlt5.out).trans c3V.out)
        replace m0V := Lib.hid ((hB.cell (p := ⟨w.heap.size + 1, 0, none⟩) hlt6.out).trans m0V.out)
        replace m1V := Lib.hid ((hB.cell (p := ⟨w.heap.size + 1, 1, none⟩) hlt6.out).trans m1V.out)
        replace m2V := Lib.hid ((hB.cell (p := ⟨w.heap.size + 1, 2, none⟩) hlt6.out).trans m2V.out)
        replace m3V := Lib.hid ((hB.cell (p := ⟨w.heap.size + 1, 3, none⟩) hlt6.out).trans m3V.out)
        by_cases hr0 : 0 < r
        · obtain ⟨q, rfl⟩ : ∃ q, r = q + 1 := ⟨r - 1, by omega⟩
          obtain rfl : v = (q : Int) := by omega
          obtain ⟨nm, hnm⟩ : ∃ S, n[q]? = some S := ⟨_, List.getElem?_eq_getElem (by omega)⟩
          have hBw := hB6.out.trans ((hB7.out.trans hB).mono hB6.out.size)
          have hnl' := hnl.out
          obtain ⟨g, o, rfl, hg, hcn⟩ := hns.out (by omega)
          have y1 := Lib.hid ((hBw.cell (p := ⟨g, o + q, none⟩) hg).trans (hcn q nm hnm))
          obtain ⟨g', o', rfl, _, hg', hcz⟩ := hzs.out (by omega)
          obtain ⟨⟨z, vx, vy⟩, hzq⟩ : ∃ z, zs[q]? = some z := ⟨_, List.getElem?_eq_getElem (by omega)⟩
          have hVz := h2.out _ (List.mem_of_getElem? hzq)
          dsimp only at hVz
          obtain ⟨z1, z2, z3, z4, z5, z6, rfl, rfl⟩ := hVz.forms
          have e0 : wr.cell? ⟨g', o' + q * 4, none⟩ = some (.int .u8 z.kind) := (hBw.cell (p := ⟨g', o' + q * 4, none⟩) hg').trans (hcz q _ hzq 0 _ rfl)
          replace e0 := Lib.hid e0
          have e1 : wr.cell? ⟨g', o' + q * 4 + 1, none⟩ = some (.string z.text) := (hBw.cell (p := ⟨g', o' + q * 4 + 1, none⟩) hg').trans (hcz q _ hzq 1 _ rfl)
          replace e1 := Lib.hid e1
          have e2 : wr.cell? ⟨g', o' + q * 4 + 2, none⟩ = some (.slice z1 z2 z3) := (hBw.cell (p := ⟨g', o' + q * 4 + 2, none⟩) hg').trans (hcz q _ hzq 2 _ rfl)
          replace e2 := Lib.hid e2
          have e3 : wr.cell? ⟨g', o' + q * 4 + 3, none⟩ = some (.slice z4 z5 z6) := (hBw.cell (p := ⟨g', o' + q * 4 + 3, none⟩) hg').trans (hcz q _ hzq 3 _ rfl)
          replace e3 := Lib.hid e3
          have hgb := Lib.hid (Nat.lt_of_lt_of_le hg hB6.out.size)
          have hgb' := Lib.hid (Nat.lt_of_lt_of_le hg' hB6.out.size)
          obtain ⟨PA, hPA⟩ : ∃ X, revl yNone N n (q + 1) = X := ⟨_, rfl⟩
          obtain ⟨PB, hPB⟩ : ∃ X, revl (x, .slice Xn xnn xcn, .slice Xl xnl xcl) N zs (q + 1) = X := ⟨_, rfl⟩
          rw [hPA, hPB] at hSt
          have hlA := Lib.hid (show PA.length ≤ 100000000 by rw [← hPA, revl_len _ _ _ _ hNle]; split <;> omega)
          have hlB := Lib.hid (show PB.length ≤ 100000000 by rw [← hPB, revl_len _ _ _ _ (by omega)]; split <;> omega)
          have hq0 : (0 : Int) ≤ (q : Int) := by omega
          have hq1 : (q : Int) < (n.length : Int) := by omega
          have hq2 : (q : Int) < (zs.length : Int) := by omega
          replace hSt := Lib.hid hSt
          replace hB := Lib.hid hB
          replace hPA := Lib.hid hPA
          replace hPB := Lib.hid hPB
          replace hnm := Lib.hid hnm
          replace hzq := Lib.hid hzq
          clear hBw hnl' hcn hcz hVz hv hg hg'
          by_cases hput : q + 1 = N
          · have hpi : (q : Int) + 1 = (N : Int) := by omega
            go_upto_region 20 with fail
            replace hpi := Lib.hid hpi
            obtain ⟨M1, d1, X1, hrun, hC4, hSt2, hBs, hB4⟩ := push_name hSt.out yNone (by have := hlA.out; omega)
            obtain ⟨V1, hV2⟩ : ∃ W, X1.setCell ⟨w6.heap.size, 2, none⟩ (.slice M1 (PA.length + 1) d1) = W := ⟨_, rfl⟩
            obtain ⟨Q1, hQ1⟩ : ∃ X, PA ++ [yNone] = X := ⟨_, rfl⟩
            rw [hV2, hQ1] at hSt2
            rw [hV2] at hBs
            have hlAn := Lib.hid (show Q1.length ≤ PA.length + 1 by rw [← hQ1]; simp)
            replace hQ1 := Lib.hid hQ1
            have x2 : X1.cell? ⟨w6.heap.size, 2, none⟩ = some (.slice Nn PA.length cn1) := hC4.cell 2
            have f2 := hC4.froz 2
            have x1 : wr.cell? ⟨w6.heap.size, 2, none⟩ = some (.slice Nn PA.length cn1) := hSt.out.1.cell 2
            replace hrun := Lib.hid hrun
            replace hV2 := Lib.hid hV2
            replace hSt2 := Lib.hid hSt2
            replace hBs := Lib.hid hBs
            clear hC4 hB4
            unfold yNone at hrun
            go_upto_region 21 with (at_builtin; refine jl_append_run (by rfl) _ _ 22 22 rfl (.slice Nn PA.length cn1) (.slice (some ⟨wr.heap.size, 0, none⟩) 1 1) _ rfl rfl hrun.out ?_)
            rw [hV2.out]
            clear hrun hV2 x1 x2 f2
            replace hB := Lib.hid (hB.out.trans hBs.out)
            have hV1 := Lib.hid (fun (p : Addr) (hp : p.block < w6.heap.size) => (hBs.out.cell (p := p) hp))
            replace c2V := Lib.hid ((hV1.out _ hlt5.out).trans c2V.out)
            replace c3V := Lib.hid ((hV1.out _ hlt5.out).trans c3V.out)
            replace m0V := Lib.hid ((hV1.out _ hlt6.out).trans m0V.out)
            replace m1V := Lib.hid ((hV1.out _ hlt6.out).trans m1V.out)
            replace m2V := Lib.hid ((hV1.out _ hlt6.out).trans m2V.out)
            replace m3V := Lib.hid ((hV1.out _ hlt6.out).trans m3V.out)
            replace y1 := Lib.hid ((hV1.out _ hgb.out).trans y1.out)
            replace e0 := Lib.hid ((hV1.out _ hgb'.out).trans e0.out)
            replace e1 := Lib.hid ((hV1.out _ hgb'.out).trans e1.out)
            replace e2 := Lib.hid ((hV1.out _ hgb'.out).trans e2.out)
            replace e3 := Lib.hid ((hV1.out _ hgb'.out).trans e3.out)
            clear hV1 hBs hSt
            have hSt := hSt2
            clear hSt2
            replace hlA := Lib.hid (show Q1.length ≤ 100000001 by have h1 := hlA.out; have h2 := hlAn.out; omega)
            clear hlAn
            obtain ⟨M2, d2, X2, hrun, hC4, hSt2, hBs, hB4⟩ := push_value hSt.out x (.slice Xn xnn xcn) (.slice Xl xnl xcl) rfl rfl (by have := hlB.out; omega)
            obtain ⟨V2, hV2⟩ : ∃ W, X2.setCell ⟨w6.heap.size, 3, none⟩ (.slice M2 (PB.length + 1) d2) = W := ⟨_, rfl⟩
            obtain ⟨Q2, hQ2⟩ : ∃ X, PB ++ [(x, .slice Xn xnn xcn, .slice Xl xnl xcl)] = X := ⟨_, rfl⟩
            rw [hV2, hQ2] at hSt2
            rw [hV2] at hBs
            have hlBn := Lib.hid (show Q2.length ≤ PB.length + 1 by rw [← hQ2]; simp)
            replace hQ2 := Lib.hid hQ2
            have x2 : X2.cell? ⟨w6.heap.size, 3, none⟩ = some (.slice Nl PB.length cl1) := hC4.cell 3
            have f2 := hC4.froz 3
            have x1 : V1.cell? ⟨w6.heap.size, 3, none⟩ = some (.slice Nl PB.length cl1) := hSt.out.1.cell 3
            have u0 := m0V.out
            have u1 := m1V.out
            have u2 := m2V.out
            have u3 := m3V.out
            replace hrun := Lib.hid hrun
            replace hV2 := Lib.hid hV2
            replace hSt2 := Lib.hid hSt2
            replace hBs := Lib.hid hBs
            clear hC4 hB4
            skip
            go_upto_region 22 with (at_builtin; refine jl_append_run (by rfl) _ _ 23 23 rfl (.slice Nl PB.length cl1) (.slice (some ⟨V1.heap.size, 0, none⟩) 1 1) _ rfl rfl hrun.out ?_)
            rw [hV2.out]
            clear hrun hV2 x1 x2 f2 u0 u1 u2 u3
            replace hB := Lib.hid (hB.out.trans hBs.out)
            have hV2 := Lib.hid (fun (p : Addr) (hp : p.block < w6.heap.size) => (hBs.out.cell (p := p) hp))
            replace c2V := Lib.hid ((hV2.out _ hlt5.out).trans c2V.out)
            replace c3V := Lib.hid ((hV2.out _ hlt5.out).trans c3V.out)
            replace m0V := Lib.hid ((hV2.out _ hlt6.out).trans m0V.out)
            replace m1V := Lib.hid ((hV2.out _ hlt6.out).trans m1V.out)
            replace m2V := Lib.hid ((hV2.out _ hlt6.out).trans m2V.out)
            replace m3V := Lib.hid ((hV2.out _ hlt6.out).trans m3V.out)
            replace y1 := Lib.hid ((hV2.out _ hgb.out).trans y1.out)
            replace e0 := Lib.hid ((hV2.out _ hgb'.out).trans e0.out)
            replace e1 := Lib.hid ((hV2.out _ hgb'.out).trans e1.out)
            replace e2 := Lib.hid ((hV2.out _ hgb'.out).trans e2.out)
            replace e3 := Lib.hid ((hV2.out _ hgb'.out).trans e3.out)
            clear hV2 hBs hSt
            have hSt := hSt2
            clear hSt2
            replace hlB := Lib.hid (show Q2.length ≤ 100000001 by have h1 := hlB.out; have h2 := hlBn.out; omega)
            clear hlBn
            replace hSt := Lib.hid (hSt.out.later (w' := V2.drew) (bel_drew (Below.refl _ _)))
            obtain ⟨M3, d3, X3, hrun, hC4, hSt2, hBs, hB4⟩ := push_name hSt.out nm (by have := hlA.out; omega)
            obtain ⟨V3, hV2⟩ : ∃ W, X3.setCell ⟨w6.heap.size, 2, none⟩ (.slice M3 (Q1.length + 1) d3) = W := ⟨_, rfl⟩
            obtain ⟨Q3, hQ3⟩ : ∃ X, Q1 ++ [nm] = X := ⟨_, rfl⟩
            rw [hV2, hQ3] at hSt2
            rw [hV2] at hBs
            have hlAn := Lib.hid (show Q3.length ≤ Q1.length + 1 by rw [← hQ3]; simp)
            replace hQ3 := Lib.hid hQ3
            have x2 : X3.cell? ⟨w6.heap.size, 2, none⟩ = some (.slice M1 Q1.length d1) := hC4.cell 2
            have f2 := hC4.froz 2
            have hS := Lib.hid (show Cel V2.drew w6.heap.size 25 #[.int .u8 7, .string ⟨#[]⟩, .slice M1 Q1.length d1, .slice M2 Q2.length d2] from hSt.out.1)
            have hT := Lib.hid (Below.refl w6.heap.size V2.drew)
            have k2 := c2V
            replace hrun := Lib.hid hrun
            replace hV2 := Lib.hid hV2
            replace hC4 := Lib.hid hC4
            replace hSt2 := Lib.hid hSt2
            replace hBs := Lib.hid hBs
            replace hB4 := Lib.hid hB4
            replace x2 := Lib.hid x2
            replace f2 := Lib.hid f2
            refine wp_region_T 10 (fun W => Below w6.heap.size V2.drew W) (fun W => Cel W w6.heap.size 25 #[.int .u8 7, .string ⟨#[]⟩, .slice M1 Q1.length d1, .slice M2 Q2.length d2]) (by kernel_rfl) ?_
            refine wpAnyT_take (i := 0) (v := .pointer (some ⟨w6.heap.size, 2, none⟩)) rfl (by kernel_rfl) (by kernel_rfl) (by kernel_rfl) (by kernel_rfl) (by rfl) (fun _ _ _ h => h) (Or.inl ⟨by rfl, by
              intro w' hSw
              try dsimp only at hSw
              skip
              go_simp⟩) hS.out hT.out ?_
            try simp only [Act.put, List.setIfInBounds_toArray]
            refine wpAnyT_take (i := 1) (v := .slice M1 Q1.length d1) rfl (by kernel_rfl) (by kernel_rfl) (by kernel_rfl) (by kernel_rfl) (by rfl) (fun _ _ _ h => h) (Or.inl ⟨by rfl, by
              intro w' hSw
              try dsimp only at hSw
              have z1 : w'.cell? ⟨w6.heap.size, 2, none⟩ = some (.slice M1 Q1.length d1) := hSw.cell 2
              go_simp⟩) hS.out hT.out ?_
            try simp only [Act.put]
            refine wpAnyT_takeW (i := 2) (v := .pointer (some ⟨w.heap.size, 2, none⟩)) rfl (by kernel_rfl) (by kernel_rfl) (by kernel_rfl) (by decide) (fun _ _ _ h => h) (Or.inl ⟨by rfl, by
              intro w' hSw
              try dsimp only at hSw
              skip
              go_simp⟩) hS.out hT.out ?_
            try simp only [Act.put]
            refine wpAnyT_takeW (i := 3) (v := .slice (some ⟨g, o, none⟩) n.length cn) rfl (by kernel_rfl) (by kernel_rfl) (by kernel_rfl) (by decide) (fun _ _ _ h => h) (Or.inl ⟨by rfl, by
              intro w' hSw
              try dsimp only at hSw
              have z3 : w'.cell? ⟨w.heap.size, 2, none⟩ = some (.slice (some ⟨g, o, none⟩) n.length cn) := (hSw.cell (p := ⟨w.heap.size, 2, none⟩) hlt5.out).trans k2.out
              go_simp⟩) hS.out hT.out ?_
            try simp only [Act.put]
            refine wpAnyT_takeW (i := 4) (v := .int .i64 q) rfl (by kernel_rfl) (by kernel_rfl) (by kernel_rfl) (by decide) (fun _ _ _ h => h) (Or.inl ⟨by rfl, by
              intro w' hSw
              try dsimp only at hSw
              skip
              go_simp⟩) hS.out hT.out ?_
            try simp only [Act.put]
            refine wpAnyT_takeW (i := 5) (v := .pointer (some ⟨g, o + q, none⟩)) rfl (by kernel_rfl) (by kernel_rfl) (by kernel_rfl) (by decide) (fun _ _ _ h => h) (Or.inl ⟨by rfl, by
              intro w' hSw
              try dsimp only at hSw
              skip
              go_simp⟩) hS.out hT.out ?_
            try simp only [Act.put]
            refine wpAnyT_takeW (i := 6) (v := .string nm) rfl (by kernel_rfl) (by kernel_rfl) (by kernel_rfl) (by decide) (fun _ _ _ h => h) (Or.inl ⟨by rfl, by
              intro w' hSw
              try dsimp only at hSw
              have z6 := (hSw.cell (p := ⟨g, o + q, none⟩) hgb.out).trans y1.out
              go_simp⟩) hS.out hT.out ?_
            try simp only [Act.put]
            refine wpAnyT_one (i := 7) (by kernel_rfl) rfl (fun K hK => ?_)
            go_simp
            refine hK.out _ _ (fun _ => hS.out.alloc _) (hT.out.alloc (Nat.le_of_lt hS.out.lt) _) ?_
            clear hK
            try simp only [Act.put, List.setIfInBounds_toArray, List.set_cons_zero, List.set_cons_succ]
            refine wpAnyT_one (i := 8) (by kernel_rfl) rfl (fun K hK => ?_)
            refine jl_step_run (by rfl) (.tmp 107) (.tmp 113) 22 22 (by rfl) (.slice M1 Q1.length d1) (.slice (some ⟨V2.drew.heap.size, 0, none⟩) 1 1) _ X3 (by rfl) (by rfl) hrun.out ?_
            refine hK.out _ _ (fun _ => hC4.out) hB4.out ?_
            clear hK hrun hS hT
            have hS := hC4
            have hT := hB4
            try simp only [Act.put, List.setIfInBounds_toArray, List.set_cons_zero, List.set_cons_succ]
            refine wpAnyT_takeW (i := 9) (v := .pointer (some ⟨w6.heap.size, 2, none⟩)) rfl (by kernel_rfl) (by kernel_rfl) (by kernel_rfl) (by decide) (fun _ _ _ h => h) (Or.inl ⟨by rfl, by
              intro w' hSw
              try dsimp only at hSw
              skip
              go_simp⟩) hS.out hT.out ?_
            try simp only [Act.put, List.setIfInBounds_toArray]
            refine wpAnyT_one (i := 10) (by kernel_rfl) rfl (fun K hK => ?_)
            have x2' := x2.out
            have f2' := f2.out
            go_simp
            rw [hV2.out]
            refine hK.out _ _ (fun h => by cases h) hBs.out ?_
            clear hK x2 f2 x2' f2' hS hT k2 hC4 hB4 hV2
            refine wpAnyT_done (by kernel_rfl) ?_
            replace hB := Lib.hid (hB.out.trans ((bel_drew (Below.refl _ _)).trans hBs.out))
            have hV3 := Lib.hid (fun (p : Addr) (hp : p.block < w6.heap.size) => (hBs.out.cell (p := p) hp))
            replace c2V := Lib.hid ((hV3.out _ hlt5.out).trans c2V.out)
            replace c3V := Lib.hid ((hV3.out _ hlt5.out).trans c3V.out)
            replace m0V := Lib.hid ((hV3.out _ hlt6.out).trans m0V.out)
            replace m1V := Lib.hid ((hV3.out _ hlt6.out).trans m1V.out)
            replace m2V := Lib.hid ((hV3.out _ hlt6.out).trans m2V.out)
            replace m3V := Lib.hid ((hV3.out _ hlt6.out).trans m3V.out)
            replace y1 := Lib.hid ((hV3.out _ hgb.out).trans y1.out)
            replace e0 := Lib.hid ((hV3.out _ hgb'.out).trans e0.out)
            replace e1 := Lib.hid ((hV3.out _ hgb'.out).trans e1.out)
            replace e2 := Lib.hid ((hV3.out _ hgb'.out).trans e2.out)
            replace e3 := Lib.hid ((hV3.out _ hgb'.out).trans e3.out)
            clear hV3 hBs hSt
            have hSt := hSt2
            clear hSt2
            replace hlA := Lib.hid (show Q3.length ≤ 100000002 by have h1 := hlA.out; have h2 := hlAn.out; omega)
            clear hlAn
            go_upto_region 23 with fail
            replace hSt := Lib.hid (hSt.out.later (w' := V3.drew) (bel_drew (Below.refl _ _)))
            obtain ⟨M4, d4, X4, hrun, hC4, hSt2, hBs, hB4⟩ := push_value hSt.out z (.slice z1 z2 z3) (.slice z4 z5 z6) rfl rfl (by have := hlB.out; omega)
            obtain ⟨V4, hV2⟩ : ∃ W, X4.setCell ⟨w6.heap.size, 3, none⟩ (.slice M4 (Q2.length + 1) d4) = W := ⟨_, rfl⟩
            obtain ⟨Q4, hQ4⟩ : ∃ X, Q2 ++ [(z, .slice z1 z2 z3, .slice z4 z5 z6)] = X := ⟨_, rfl⟩
            rw [hV2, hQ4] at hSt2
            rw [hV2] at hBs
            have hlBn := Lib.hid (show Q4.length ≤ Q2.length + 1 by rw [← hQ4]; simp)
            replace hQ4 := Lib.hid hQ4
            have x2 : X4.cell? ⟨w6.heap.size, 3, none⟩ = some (.slice M2 Q2.length d2) := hC4.cell 3
            have f2 := hC4.froz 3
            have hS := Lib.hid (show Cel V3.drew w6.heap.size 25 #[.int .u8 7, .string ⟨#[]⟩, .slice M3 Q3.length d3, .slice M2 Q2.length d2] from hSt.out.1)
            have hT := Lib.hid (Below.refl w6.heap.size V3.drew)
            have k2 := c3V
            replace hrun := Lib.hid hrun
            replace hV2 := Lib.hid hV2
            replace hC4 := Lib.hid hC4
            replace hSt2 := Lib.hid hSt2
            replace hBs := Lib.hid hBs
            replace hB4 := Lib.hid hB4
            replace x2 := Lib.hid x2
            replace f2 := Lib.hid f2
            refine wp_region_T 10 (fun W => Below w6.heap.size V3.drew W) (fun W => Cel W w6.heap.size 25 #[.int .u8 7, .string ⟨#[]⟩, .slice M3 Q3.length d3, .slice M2 Q2.length d2]) (by kernel_rfl) ?_
            refine wpAnyT_take (i := 0) (v := .pointer (some ⟨w6.heap.size, 3, none⟩)) rfl (by kernel_rfl) (by kernel_rfl) (by kernel_rfl) (by kernel_rfl) (by rfl) (fun _ _ _ h => h) (Or.inl ⟨by rfl, by
              intro w' hSw
              try dsimp only at hSw
              skip
              go_simp⟩) hS.out hT.out ?_
            try simp only [Act.put, List.setIfInBounds_toArray]
            refine wpAnyT_take (i := 1) (v := .slice M2 Q2.length d2) rfl (by kernel_rfl) (by kernel_rfl) (by kernel_rfl) (by kernel_rfl) (by rfl) (fun _ _ _ h => h) (Or.inl ⟨by rfl, by
              intro w' hSw
              try dsimp only at hSw
              have z1 : w'.cell? ⟨w6.heap.size, 3, none⟩ = some (.slice M2 Q2.length d2) := hSw.cell 3
              go_simp⟩) hS.out hT.out ?_
            try simp only [Act.put]
            refine wpAnyT_takeW (i := 2) (v := .pointer (some ⟨w.heap.size, 3, none⟩)) rfl (by kernel_rfl) (by kernel_rfl) (by kernel_rfl) (by decide) (fun _ _ _ h => h) (Or.inl ⟨by rfl, by
              intro w' hSw
              try dsimp only at hSw
              skip
              go_simp⟩) hS.out hT.out ?_
            try simp only [Act.put]
            refine wpAnyT_takeW (i := 3) (v := .slice (some ⟨g', o', none⟩) zs.length c) rfl (by kernel_rfl) (by kernel_rfl) (by kernel_rfl) (by decide) (fun _ _ _ h => h) (Or.inl ⟨by rfl, by
              intro w' hSw
              try dsimp only at hSw
              have z3 : w'.cell? ⟨w.heap.size, 3, none⟩ = some (.slice (some ⟨g', o', none⟩) zs.length c) := (hSw.cell (p := ⟨w.heap.size, 3, none⟩) hlt5.out).trans k2.out
              go_simp⟩) hS.out hT.out ?_
            try simp only [Act.put]
            refine wpAnyT_takeW (i := 4) (v := .int .i64 q) rfl (by kernel_rfl) (by kernel_rfl) (by kernel_rfl) (by decide) (fun _ _ _ h => h) (Or.inl ⟨by rfl, by
              intro w' hSw
              try dsimp only at hSw
              skip
              go_simp⟩) hS.out hT.out ?_
            try simp only [Act.put]
            refine wpAnyT_takeW (i := 5) (v := .pointer (some ⟨g', o' + q * 4, none⟩)) rfl (by kernel_rfl) (by kernel_rfl) (by kernel_rfl) (by decide) (fun _ _ _ h => h) (Or.inl ⟨by rfl, by
              intro w' hSw
              try dsimp only at hSw
              skip
              go_simp⟩) hS.out hT.out ?_
            try simp only [Act.put]
            refine wpAnyT_takeW (i := 6) (v := .agg #[.int .u8 z.kind, .string z.text, .slice z1 z2 z3, .slice z4 z5 z6]) rfl (by kernel_rfl) (by kernel_rfl) (by kernel_rfl) (by decide) (fun _ _ _ h => h) (Or.inl ⟨by rfl, by
              intro w' hSw
              try dsimp only at hSw
              have y70 := (hSw.cell (p := ⟨g', o' + q * 4, none⟩) hgb'.out).trans e0.out
              have y71 := (hSw.cell (p := ⟨g', o' + q * 4 + 1, none⟩) hgb'.out).trans e1.out
              have y72 := (hSw.cell (p := ⟨g', o' + q * 4 + 2, none⟩) hgb'.out).trans e2.out
              have y73 := (hSw.cell (p := ⟨g', o' + q * 4 + 3, none⟩) hgb'.out).trans e3.out
              go_simp⟩) hS.out hT.out ?_
            try simp only [Act.put]
            refine wpAnyT_one (i := 7) (by kernel_rfl) rfl (fun K hK => ?_)
            go_simp
            refine hK.out _ _ (fun _ => hS.out.alloc _) (hT.out.alloc (Nat.le_of_lt hS.out.lt) _) ?_
            clear hK
            try simp only [Act.put, List.setIfInBounds_toArray, List.set_cons_zero, List.set_cons_succ]
            refine wpAnyT_one (i := 8) (by kernel_rfl) rfl (fun K hK => ?_)
            refine jl_step_run (by rfl) (.tmp 117) (.tmp 123) 23 23 (by rfl) (.slice M2 Q2.length d2) (.slice (some ⟨V3.drew.heap.size, 0, none⟩) 1 1) _ X4 (by rfl) (by rfl) hrun.out ?_
            refine hK.out _ _ (fun _ => hC4.out) hB4.out ?_
            clear hK hrun hS hT
            have hS := hC4
            have hT := hB4
            try simp only [Act.put, List.setIfInBounds_toArray, List.set_cons_zero, List.set_cons_succ]
            refine wpAnyT_takeW (i := 9) (v := .pointer (some ⟨w6.heap.size, 3, none⟩)) rfl (by kernel_rfl) (by kernel_rfl) (by kernel_rfl) (by decide) (fun _ _ _ h => h) (Or.inl ⟨by rfl, by
              intro w' hSw
              try dsimp only at hSw
              skip
              go_simp⟩) hS.out hT.out ?_
            try simp only [Act.put, List.setIfInBounds_toArray]
            refine wpAnyT_one (i := 10) (by kernel_rfl) rfl (fun K hK => ?_)
            have x2' := x2.out
            have f2' := f2.out
            go_simp
            rw [hV2.out]
            refine hK.out _ _ (fun h => by cases h) hBs.out ?_
            clear hK x2 f2 x2' f2' hS hT k2 hC4 hB4 hV2
            refine wpAnyT_done (by kernel_rfl) ?_
            replace hB := Lib.hid (hB.out.trans ((bel_drew (Below.refl _ _)).trans hBs.out))
            have hV4 := Lib.hid (fun (p : Addr) (hp : p.block < w6.heap.size) => (hBs.out.cell (p := p) hp))
            replace c2V := Lib.hid ((hV4.out _ hlt5.out).trans c2V.out)
            replace c3V := Lib.hid ((hV4.out _ hlt5.out).trans c3V.out)
            replace m0V := Lib.hid ((hV4.out _ hlt6.out).trans m0V.out)
            replace m1V := Lib.hid ((hV4.out _ hlt6.out).trans m1V.out)
            replace m2V := Lib.hid ((hV4.out _ hlt6.out).trans m2V.out)
            replace m3V := Lib.hid ((hV4.out _ hlt6.out).trans m3V.out)
            replace y1 := Lib.hid ((hV4.out _ hgb.out).trans y1.out)
            replace e0 := Lib.hid ((hV4.out _ hgb'.out).trans e0.out)
            replace e1 := Lib.hid ((hV4.out _ hgb'.out).trans e1.out)
            replace e2 := Lib.hid ((hV4.out _ hgb'.out).trans e2.out)
            replace e3 := Lib.hid ((hV4.out _ hgb'.out).trans e3.out)
            clear hV4 hBs hSt
            have hSt := hSt2
            clear hSt2
            replace hlB := Lib.hid (show Q4.length ≤ 100000002 by have h1 := hlB.out; have h2 := hlBn.out; omega)
            clear hlBn
            have hfin := hSt.out
            have hfA : revl yNone N n q = Q3 := by
              have h0 := hPA.out
              rw [← hput] at h0 ⊢
              have h1 := revl_put yNone n q hnm.out
              rw [h0, hQ1.out] at h1
              exact h1.trans hQ3.out
            have hfB : revl (x, .slice Xn xnn xcn, .slice Xl xnl xcl) N zs q = Q4 := by
              have h0 := hPB.out
              rw [← hput] at h0 ⊢
              have h1 := revl_put (x, .slice Xn xnn xcn, .slice Xl xnl xcl) zs q hzq.out
              rw [h0, hQ2.out] at h1
              exact h1.trans hQ4.out
            rw [← hfA, ← hfB] at hfin
            replace hfin := Lib.hid hfin
            clear hSt hfA hfB
            go_wp2_with fail
            go_roundw
            case rel => exact ⟨q, (q : Int) - 1, _, _, _, _, by omega, by go_num, rfl, hfin.out, hB.out⟩
            case measure => first | (simp [intOf]; done) | (simp [intOf]; omega)
          · have hpi : ¬ (q : Int) + 1 = (N : Int) := by omega
            go_upto_region 22 with fail
            replace hpi := Lib.hid hpi
            replace hSt := Lib.hid (hSt.out.later (w' := wr.drew) (bel_drew (Below.refl _ _)))
            obtain ⟨M5, d5, X5, hrun, hC4, hSt2, hBs, hB4⟩ := push_name hSt.out nm (by have := hlA.out; omega)
            obtain ⟨V5, hV2⟩ : ∃ W, X5.setCell ⟨w6.heap.size, 2, none⟩ (.slice M5 (PA.length + 1) d5) = W := ⟨_, rfl⟩
            obtain ⟨Q5, hQ5⟩ : ∃ X, PA ++ [nm] = X := ⟨_, rfl⟩
            rw [hV2, hQ5] at hSt2
            rw [hV2] at hBs
            have hlAn := Lib.hid (show Q5.length ≤ PA.length + 1 by rw [← hQ5]; simp)
            replace hQ5 := Lib.hid hQ5
            have x2 : X5.cell? ⟨w6.heap.size, 2, none⟩ = some (.slice Nn PA.length cn1) := hC4.cell 2
            have f2 := hC4.froz 2
            have hS := Lib.hid (show Cel wr.drew w6.heap.size 25 #[.int .u8 7, .string ⟨#[]⟩, .slice Nn PA.length cn1, .slice Nl PB.length cl1] from hSt.out.1)
            have hT := Lib.hid (Below.refl w6.heap.size wr.drew)
            have k2 := c2V
            replace hrun := Lib.hid hrun
            replace hV2 := Lib.hid hV2
            replace hC4 := Lib.hid hC4
            replace hSt2 := Lib.hid hSt2
            replace hBs := Lib.hid hBs
            replace hB4 := Lib.hid hB4
            replace x2 := Lib.hid x2
            replace f2 := Lib.hid f2
            refine wp_region_T 10 (fun W => Below w6.heap.size wr.drew W) (fun W => Cel W w6.heap.size 25 #[.int .u8 7, .string ⟨#[]⟩, .slice Nn PA.length cn1, .slice Nl PB.length cl1]) (by kernel_rfl) ?_
            refine wpAnyT_take (i := 0) (v := .pointer (some ⟨w6.heap.size, 2, none⟩)) rfl (by kernel_rfl) (by kernel_rfl) (by kernel_rfl) (by kernel_rfl) (by rfl) (fun _ _ _ h => h) (Or.inl ⟨by rfl, by
              intro w' hSw
              try dsimp only at hSw
              skip
              go_simp⟩) hS.out hT.out ?_
            try simp only [Act.put, List.setIfInBounds_toArray]
            refine wpAnyT_take (i := 1) (v := .slice Nn PA.length cn1) rfl (by kernel_rfl) (by kernel_rfl) (by kernel_rfl) (by kernel_rfl) (by rfl) (fun _ _ _ h => h) (Or.inl ⟨by rfl, by
              intro w' hSw
              try dsimp only at hSw
              have z1 : w'.cell? ⟨w6.heap.size, 2, none⟩ = some (.slice Nn PA.length cn1) := hSw.cell 2
              go_simp⟩) hS.out hT.out ?_
            try simp only [Act.put]
            refine wpAnyT_takeW (i := 2) (v := .pointer (some ⟨w.heap.size, 2, none⟩)) rfl (by kernel_rfl) (by kernel_rfl) (by kernel_rfl) (by decide) (fun _ _ _ h => h) (Or.inl ⟨by rfl, by
              intro w' hSw
              try dsimp only at hSw
              skip
              go_simp⟩) hS.out hT.out ?_
            try simp only [Act.put]
            refine wpAnyT_takeW (i := 3) (v := .slice (some ⟨g, o, none⟩) n.length cn) rfl (by kernel_rfl) (by kernel_rfl) (by kernel_rfl) (by decide) (fun _ _ _ h => h) (Or.inl ⟨by rfl, by
              intro w' hSw
              try dsimp only at hSw
              have z3 : w'.cell? ⟨w.heap.size, 2, none⟩ = some (.slice (some ⟨g, o, none⟩) n.length cn) := (hSw.cell (p := ⟨w.heap.size, 2, none⟩) hlt5.out).trans k2.out
              go_simp⟩) hS.out hT.out ?_
            try simp only [Act.put]
            refine wpAnyT_takeW (i := 4) (v := .int .i64 q) rfl (by kernel_rfl) (by kernel_rfl) (by kernel_rfl) (by decide) (fun _ _ _ h => h) (Or.inl ⟨by rfl, by
              intro w' hSw
              try dsimp only at hSw
              skip
              go_simp⟩) hS.out hT.out ?_
            try simp only [Act.put]
            refine wpAnyT_takeW (i := 5) (v := .pointer (some ⟨g, o + q, none⟩)) rfl (by kernel_rfl) (by kernel_rfl) (by kernel_rfl) (by decide) (fun _ _ _ h => h) (Or.inl ⟨by rfl, by
              intro w' hSw
              try dsimp only at hSw
              skip
              go_simp⟩) hS.out hT.out ?_
            try simp only [Act.put]
            refine wpAnyT_takeW (i := 6) (v := .string nm) rfl (by kernel_rfl) (by kernel_rfl) (by kernel_rfl) (by decide) (fun _ _ _ h => h) (Or.inl ⟨by rfl, by
              intro w' hSw
              try dsimp only at hSw
              have z6 := (hSw.cell (p := ⟨g, o + q, none⟩) hgb.out).trans y1.out
              go_simp⟩) hS.out hT.out ?_
            try simp only [Act.put]
            refine wpAnyT_one (i := 7) (by kernel_rfl) rfl (fun K hK => ?_)
            go_simp
            refine hK.out _ _ (fun _ => hS.out.alloc _) (hT.out.alloc (Nat.le_of_lt hS.out.lt) _) ?_
            clear hK
            try simp only [Act.put, List.setIfInBounds_toArray, List.set_cons_zero, List.set_cons_succ]
            refine wpAnyT_one (i := 8) (by kernel_rfl) rfl (fun K hK => ?_)
            refine jl_step_run (by rfl) (.tmp 107) (.tmp 113) 22 22 (by rfl) (.slice Nn PA.length cn1) (.slice (some ⟨wr.drew.heap.size, 0, none⟩) 1 1) _ X5 (by rfl) (by rfl) hrun.out ?_
            refine hK.out _ _ (fun _ => hC4.out) hB4.out ?_
            clear hK hrun hS hT
            have hS := hC4
            have hT := hB4
            try simp only [Act.put, List.setIfInBounds_toArray, List.set_cons_zero, List.set_cons_succ]
            refine wpAnyT_takeW (i := 9) (v := .pointer (some ⟨w6.heap.size, 2, none⟩)) rfl (by kernel_rfl) (by kernel_rfl) (by kernel_rfl) (by decide) (fun _ _ _ h => h) (Or.inl ⟨by rfl, by
              intro w' hSw
              try dsimp only at hSw
              skip
              go_simp⟩) hS.out hT.out ?_
            try simp only [Act.put, List.setIfInBounds_toArray]
            refine wpAnyT_one (i := 10) (by kernel_rfl) rfl (fun K hK => ?_)
            have x2' := x2.out
            have f2' := f2.out
            go_simp
            rw [hV2.out]
            refine hK.out _ _ (fun h => by cases h) hBs.out ?_
            clear hK x2 f2 x2' f2' hS hT k2 hC4 hB4 hV2
            refine wpAnyT_done (by kernel_rfl) ?_
            replace hB := Lib.hid (hB.out.trans ((bel_drew (Below.refl _ _)).trans hBs.out))
            have hV5 := Lib.hid (fun (p : Addr) (hp : p.block < w6.heap.size) => (hBs.out.cell (p := p) hp))
            replace c2V := Lib.hid ((hV5.out _ hlt5.out).trans c2V.out)
            replace c3V := Lib.hid ((hV5.out _ hlt5.out).trans c3V.out)
            replace m0V := Lib.hid ((hV5.out _ hlt6.out).trans m0V.out)
            replace m1V := Lib.hid ((hV5.out _ hlt6.out).trans m1V.out)
            replace m2V := Lib.hid ((hV5.out _ hlt6.out).trans m2V.out)
            replace m3V := Lib.hid ((hV5.out _ hlt6.out).trans m3V.out)
            replace y1 := Lib.hid ((hV5.out _ hgb.out).trans y1.out)
            replace e0 := Lib.hid ((hV5.out _ hgb'.out).trans e0.out)
            replace e1 := Lib.hid ((hV5.out _ hgb'.out).trans e1.out)
            replace e2 := Lib.hid ((hV5.out _ hgb'.out).trans e2.out)
            replace e3 := Lib.hid ((hV5.out _ hgb'.out).trans e3.out)
            clear hV5 hBs hSt
            have hSt := hSt2
            clear hSt2
            replace hlA := Lib.hid (show Q5.length ≤ 100000001 by have h1 := hlA.out; have h2 := hlAn.out; omega)
            clear hlAn
            go_upto_region 23 with fail
            replace hSt := Lib.hid (hSt.out.later (w' := V5.drew) (bel_drew (Below.refl _ _)))
            obtain ⟨M6, d6, X6, hrun, hC4, hSt2, hBs, hB4⟩ := push_value hSt.out z (.slice z1 z2 z3) (.slice z4 z5 z6) rfl rfl (by have := hlB.out; omega)
            obtain ⟨V6, hV2⟩ : ∃ W, X6.setCell ⟨w6.heap.size, 3, none⟩ (.slice M6 (PB.length + 1) d6) = W := ⟨_, rfl⟩
            obtain ⟨Q6, hQ6⟩ : ∃ X, PB ++ [(z, .slice z1 z2 z3, .slice z4 z5 z6)] = X := ⟨_, rfl⟩
            rw [hV2, hQ6] at hSt2
            rw [hV2] at hBs
            have hlBn := Lib.hid (show Q6.length ≤ PB.length + 1 by rw [← hQ6]; simp)
            replace hQ6 := Lib.hid hQ6
            have x2 : X6.cell? ⟨w6.heap.size, 3, none⟩ = some (.slice Nl PB.length cl1) := hC4.cell 3
            have f2 := hC4.froz 3
            have hS := Lib.hid (show Cel V5.drew w6.heap.size 25 #[.int .u8 7, .string ⟨#[]⟩, .slice M5 Q5.length d5, .slice Nl PB.length cl1] from hSt.out.1)
            have hT := Lib.hid (Below.refl w6.heap.size V5.drew)
            have k2 := c3V
            replace hrun := Lib.hid hrun
            replace hV2 := Lib.hid hV2
            replace hC4 := Lib.hid hC4
            replace hSt2 := Lib.hid hSt2
            replace hBs := Lib.hid hBs
            replace hB4 := Lib.hid hB4
            replace x2 := Lib.hid x2
            replace f2 := Lib.hid f2
            refine wp_region_T 10 (fun W => Below w6.heap.size V5.drew W) (fun W => Cel W w6.heap.size 25 #[.int .u8 7, .string ⟨#[]⟩, .slice M5 Q5.length d5, .slice Nl PB.length cl1]) (by kernel_rfl) ?_
            refine wpAnyT_take (i := 0) (v := .pointer (some ⟨w6.heap.size, 3, none⟩)) rfl (by kernel_rfl) (by kernel_rfl) (by kernel_rfl) (by kernel_rfl) (by rfl) (fun _ _ _ h => h) (Or.inl ⟨by rfl, by
              intro w' hSw
              try dsimp only at hSw
              skip
              go_simp⟩) hS.out hT.out ?_
            try simp only [Act.put, List.setIfInBounds_toArray]
            refine wpAnyT_take (i := 1) (v := .slice Nl PB.length cl1) rfl (by kernel_rfl) (by kernel_rfl) (by kernel_rfl) (by kernel_rfl) (by rfl) (fun _ _ _ h => h) (Or.inl ⟨by rfl, by
              intro w' hSw
              try dsimp only at hSw
              have z1 : w'.cell? ⟨w6.heap.size, 3, none⟩ = some (.slice Nl PB.length cl1) := hSw.cell 3
              go_simp⟩) hS.out hT.out ?_
            try simp only [Act.put]
            refine wpAnyT_takeW (i := 2) (v := .pointer (some ⟨w.heap.size, 3, none⟩)) rfl (by kernel_rfl) (by kernel_rfl) (by kernel_rfl) (by decide) (fun _ _ _ h => h) (Or.inl ⟨by rfl, by
              intro w' hSw
              try dsimp only at hSw
              skip
              go_simp⟩) hS.out hT.out ?_
            try simp only [Act.put]
            refine wpAnyT_takeW (i := 3) (v := .slice (some ⟨g', o', none⟩) zs.length c) rfl (by kernel_rfl) (by kernel_rfl) (by kernel_rfl) (by decide) (fun _ _ _ h => h) (Or.inl ⟨by rfl, by
              intro w' hSw
              try dsimp only at hSw
              have z3 : w'.cell? ⟨w.heap.size, 3, none⟩ = some (.slice (some ⟨g', o', none⟩) zs.length c) := (hSw.cell (p := ⟨w.heap.size, 3, none⟩) hlt5.out).trans k2.out
              go_simp⟩) hS.out hT.out ?_
            try simp only [Act.put]
            refine wpAnyT_takeW (i := 4) (v := .int .i64 q) rfl (by kernel_rfl) (by kernel_rfl) (by kernel_rfl) (by decide) (fun _ _ _ h => h) (Or.inl ⟨by rfl, by
              intro w' hSw
              try dsimp only at hSw
              skip
              go_simp⟩) hS.out hT.out ?_
            try simp only [Act.put]
            refine wpAnyT_takeW (i := 5) (v := .pointer (some ⟨g', o' + q * 4, none⟩)) rfl (by kernel_rfl) (by kernel_rfl) (by kernel_rfl) (by decide) (fun _ _ _ h => h) (Or.inl ⟨by rfl, by
              intro w' hSw
              try dsimp only at hSw
              skip
              go_simp⟩) hS.out hT.out ?_
            try simp only [Act.put]
            refine wpAnyT_takeW (i := 6) (v := .agg #[.int .u8 z.kind, .string z.text, .slice z1 z2 z3, .slice z4 z5 z6]) rfl (by kernel_rfl) (by kernel_rfl) (by kernel_rfl) (by decide) (fun _ _ _ h => h) (Or.inl ⟨by rfl, by
              intro w' hSw
              try dsimp only at hSw
              have y70 := (hSw.cell (p := ⟨g', o' + q * 4, none⟩) hgb'.out).trans e0.out
              have y71 := (hSw.cell (p := ⟨g', o' + q * 4 + 1, none⟩) hgb'.out).trans e1.out
              have y72 := (hSw.cell (p := ⟨g', o' + q * 4 + 2, none⟩) hgb'.out).trans e2.out
              have y73 := (hSw.cell (p := ⟨g', o' + q * 4 + 3, none⟩) hgb'.out).trans e3.out
              go_simp⟩) hS.out hT.out ?_
            try simp only [Act.put]
            refine wpAnyT_one (i := 7) (by kernel_rfl) rfl (fun K hK => ?_)
            go_simp
            refine hK.out _ _ (fun _ => hS.out.alloc _) (hT.out.alloc (Nat.le_of_lt hS.out.lt) _) ?_
            clear hK
            try simp only [Act.put, List.setIfInBounds_toArray, List.set_cons_zero, List.set_cons_succ]
            refine wpAnyT_one (i := 8) (by kernel_rfl) rfl (fun K hK => ?_)
            refine jl_step_run (by rfl) (.tmp 117) (.tmp 123) 23 23 (by rfl) (.slice Nl PB.length cl1) (.slice (some ⟨V5.drew.heap.size, 0, none⟩) 1 1) _ X6 (by rfl) (by rfl) hrun.out ?_
            refine hK.out _ _ (fun _ => hC4.out) hB4.out ?_
            clear hK hrun hS hT
            have hS := hC4
            have hT := hB4
            try simp only [Act.put, List.setIfInBounds_toArray, List.set_cons_zero, List.set_cons_succ]
            refine wpAnyT_takeW (i := 9) (v := .pointer (some ⟨w6.heap.size, 3, none⟩)) rfl (by kernel_rfl) (by kernel_rfl) (by kernel_rfl) (by decide) (fun _ _ _ h => h) (Or.inl ⟨by rfl, by
              intro w' hSw
              try dsimp only at hSw
              skip
              go_simp⟩) hS.out hT.out ?_
            try simp only [Act.put, List.setIfInBounds_toArray]
            refine wpAnyT_one (i := 10) (by kernel_rfl) rfl (fun K hK => ?_)
            have x2' := x2.out
            have f2' := f2.out
            go_simp
            rw [hV2.out]
            refine hK.out _ _ (fun h => by cases h) hBs.out ?_
            clear hK x2 f2 x2' f2' hS hT k2 hC4 hB4 hV2
            refine wpAnyT_done (by kernel_rfl) ?_
            replace hB := Lib.hid (hB.out.trans ((bel_drew (Below.refl _ _)).trans hBs.out))
            have hV6 := Lib.hid (fun (p : Addr) (hp : p.block < w6.heap.size) => (hBs.out.cell (p := p) hp))
            replace c2V := Lib.hid ((hV6.out _ hlt5.out).trans c2V.out)
            replace c3V := Lib.hid ((hV6.out _ hlt5.out).trans c3V.out)
            replace m0V := Lib.hid ((hV6.out _ hlt6.out).trans m0V.out)
            replace m1V := Lib.hid ((hV6.out _ hlt6.out).trans m1V.out)
            replace m2V := Lib.hid ((hV6.out _ hlt6.out).trans m2V.out)
            replace m3V := Lib.hid ((hV6.out _ hlt6.out).trans m3V.out)
            replace y1 := Lib.hid ((hV6.out _ hgb.out).trans y1.out)
            replace e0 := Lib.hid ((hV6.out _ hgb'.out).trans e0.out)
            replace e1 := Lib.hid ((hV6.out _ hgb'.out).trans e1.out)
            replace e2 := Lib.hid ((hV6.out _ hgb'.out).trans e2.out)
            replace e3 := Lib.hid ((hV6.out _ hgb'.out).trans e3.out)
            clear hV6 hBs hSt
            have hSt := hSt2
            clear hSt2
            replace hlB := Lib.hid (show Q6.length ≤ 100000001 by have h1 := hlB.out; have h2 := hlBn.out; omega)
            clear hlBn
            have hfin := hSt.out
            have hfA : revl yNone N n q = Q5 := by rw [revl_next _ _ _ _ hnm.out hput, hPA.out]; exact hQ5.out
            have hfB : revl (x, .slice Xn xnn xcn, .slice Xl xnl xcl) N zs q = Q6 := by rw [revl_next _ _ _ _ hzq.out hput, hPB.out]; exact hQ6.out
            rw [← hfA, ← hfB] at hfin
            replace hfin := Lib.hid hfin
            clear hSt hfA hfB
            go_wp2_with fail
            go_roundw
            case rel => exact ⟨q, (q : Int) - 1, _, _, _, _, by omega, by go_num, rfl, hfin.out, hB.out⟩
            case measure => first | (simp [intOf]; done) | (simp [intOf]; omega)
        · have hr00 : r = 0 := by omega
          subst hr00
          have hv' : ¬ (0 : Int) ≤ v := by omega
          obtain ⟨W9, rfl⟩ : ∃ W, W = wr := ⟨_, rfl⟩
          have hBw := Lib.hid (hB6.out.trans ((hB7.out.trans hB).mono hB6.out.size))
          have c2 : W9.cell? ⟨w.heap.size, 2, none⟩ = some (.slice An n.length cn) := c2V.out
          have hzz : ∀ z ∈ revl (x, .slice Xn xnn xcn, .slice Xl xnl xcl) N zs 0, JV W9 (fun b => b < w.heap.size) z.1 z.2.1 z.2.2 := fun z hz' => by
            rcases revl_mem _ _ _ _ hz' with rfl | hz'
            · exact hx0.out W9 hBw.out
            · exact (h2.out z hz').later hBw.out
          have hJW := hSt.jv hzz
          rw [revl_map, hz.out] at hJW
          have hbig := rev_bulk jt n l N x
          have hcall := lspDecode_any s ⟨7, ⟨#[]⟩, revl yNone N n 0, revl x N l 0⟩ (fun _ => True) W9 _ _ hJW (by omega) (fun _ => rChs_says)
          dsimp only at hcall
          obtain ⟨k0, k1', k2', k3⟩ := hSt.1.d4
          obtain ⟨PA, hPA⟩ : ∃ X : Nat, (revl yNone N n 0).length = X := ⟨_, rfl⟩
          obtain ⟨PB, hPB⟩ : ∃ X : Nat, (revl (x, .slice Xn xnn xcn, .slice Xl xnl xcl) N zs 0).length = X := ⟨_, rfl⟩
          rw [hPA] at k2' hcall
          rw [hPB] at k3 hcall
          replace hcall := Lib.hid hcall
          replace k0 := Lib.hid k0
          replace k1' := Lib.hid k1'
          replace k2' := Lib.hid k2'
          replace k3 := Lib.hid k3
          replace hR := Lib.hid hR
          replace hB := Lib.hid hB
          clear hJW hzz hSt hPA hPB hbig c3V m0V m1V m2V m3V hv
          go_wp2_with fail
          go_loopw [16] (fun i wr => ∃ q : Nat, q ≤ n.length ∧ i = .int .i64 q ∧ (∀ (a : Nat) y, a < q → n[a]? = some y → y ≠ yNone) ∧ W9 = wr) (fun i _ => n.length - (intOf i).toNat)
          case atStart => exact ⟨0, Nat.zero_le _, rfl, fun _ _ h => absurd h (Nat.not_lt_zero _), rfl⟩
          case round =>
            obtain ⟨q, hq, rfl, hno, rfl⟩ := hrel
            by_cases hlt : q < n.length
            · obtain ⟨g, o, hAn, hg, hcn⟩ := hns.out (by omega)
              obtain ⟨S, hS⟩ : ∃ S, n[q]? = some S := ⟨_, List.getElem?_eq_getElem hlt⟩
              have y1 : W9.cell? ⟨g, o + q, none⟩ = some (.string S) := (hBw.out.cell (p := ⟨g, o + q, none⟩) hg).trans (hcn q S hS)
              subst hAn
              have hq0 : (0 : Int) ≤ (q : Int) := by omega
              have hq1 : (q : Int) < (n.length : Int) := by omega
              clear hcn hg
              by_cases heq : S = yNone
              · subst heq
                unfold yNone at y1
                replace hS := Lib.hid hS
                replace hno := Lib.hid hno
                go_wp2_with fail
                exact bodyPost_ret (v := .bool true) (by simp [results, Tryz.results3, go_sem]) rfl ⟨rfl, hBw.out⟩
              · have hne := jeq_f heq
                rw [show yNone.toList = [120, 45, 110, 111, 110, 101] by kernel_rfl] at hne
                have hno2 : ∀ (a : Nat) y, a < q + 1 → n[a]? = some y → y ≠ yNone := fun a y ha hay => by
                  by_cases haq : a < q
                  · exact hno a y haq hay
                  · obtain rfl : a = q := by omega
                    rw [hS] at hay
                    injection hay with hay
                    rw [← hay]
                    exact heq
                replace hno2 := Lib.hid hno2
                clear hno hS heq
                go_wp2_with fail
                go_roundw
                case rel => exact ⟨q + 1, by omega, by go_num, hno2.out, by first | rfl | trivial⟩
                case measure => simp [intOf]; omega
            · have hqe : q = n.length := by omega
              have hxn : yNone ∉ n := fun hm => by
                obtain ⟨a, ha⟩ := List.mem_iff_getElem?.1 hm
                exact hno a yNone (by have := (List.getElem?_eq_some_iff.1 ha).1; omega) ha rfl
              have hal := alike_rev jt n l N hNle (by rw [hnl.out, hlen.out]) hnod.out hxn x
              have hcall' := hcall.out
              rw [← ldec_alike hal s, hR.out] at hcall'
              have hsm := ldec_small s ⟨7, jt, n, l⟩
              rw [hR.out] at hsm
              have hsm1 : jbulk R.1.id ≤ 1000000000000 := by have := hsm.1; omega
              have hsm2 : R.1.chs.length ≤ 1000000000000 := by have := hsm.2; omega
              replace hcall := Lib.hid hcall'
              replace hsm1 := Lib.hid hsm1
              replace hsm2 := Lib.hid hsm2
              have u0 := k0.out
              have u1 := k1'.out
              have u2 := k2'.out
              have u3 := k3.out
              clear hcall' hsm hal hxn hno k0 k1' k2' k3 hR
              go_wp2_with fail
              refine hcall.out.mono ?_
              rintro e w10 ⟨idn2, idl2, chv2, he, hJ, hrow, hb10⟩
              clear hcall u0 u1 u2 u3
              unfold mCells at he
              obtain ⟨J1, j1, j2, J2, j3, j4, rfl, rfl⟩ := hJ.forms
              obtain ⟨DB, db, hcv⟩ := own_slice hrow
              subst hcv
              subst he
              obtain ⟨W11, hw11⟩ : ∃ W, w10.alloc (.cells #[.int .u8 R.1.kind, .string R.1.uri, .int .i64 R.1.version, .string R.1.text, .int .i64 R.1.line, .int .i64 R.1.char, .int .i64 R.1.width, .int .u8 R.1.id.kind, .string R.1.id.text, .slice J1 j1 j2, .slice J2 j3 j4, .slice DB R.1.chs.length db] 32) = W := ⟨_, rfl⟩
              have hb11 : Below w10.heap.size w10 W11 := by rw [← hw11]; exact (Below.refl _ _).alloc (Nat.le_refl _) _
              have hC17 : Cel W11 w10.heap.size 32 #[.int .u8 R.1.kind, .string R.1.uri, .int .i64 R.1.version, .string R.1.text, .int .i64 R.1.line, .int .i64 R.1.char, .int .i64 R.1.width, .int .u8 R.1.id.kind, .string R.1.id.text, .slice J1 j1 j2, .slice J2 j3 j4, .slice DB R.1.chs.length db] := by rw [← hw11]; exact Cel.fresh _ _ _
              have hb9 : Below W9.heap.size W9 W11 := hb10.trans (hb11.mono hb10.size)
              have hb6 : Below w6.heap.size w6 W11 := (hB7.out.trans hB.out).trans (hb9.mono (Nat.le_trans hB7.out.size hB.out.size))
              have hC11' := Lib.hid (hC11.out.below hb6 hC11.out.lt)
              have hJ2 := Lib.hid (hJ.later hb11)
              have hJ1 := Lib.hid (hJ6.out.later hb6)
              have hr1 := Lib.hid (ownRow_keep hrow6.out (fun g hg => hb6.block g (hrow6.out.lt g hg).2))
              have hr2 := Lib.hid (ownRow_keep hrow (fun g hg => hb11.block g (hrow.lt g hg).2))
              have hBf := Lib.hid (hBw.out.trans (hb9.mono hBw.out.size))
              replace hw11 := Lib.hid hw11
              replace hC17 := Lib.hid hC17
              clear hJ hrow hb10 hb11 hb9 hb6 hC11 hJ6 hrow6 hBw hB hB7
              go_upto_region 30 with fail
              rw [hw11.out]
              clear hw11
              obtain ⟨dm, hdm⟩ := lmsgDesc
              replace hdm := Lib.hid hdm
              refine wp_region_held_drew (S := fun W => Below W11.heap.size W11 W) (by kernel_rfl) (bel_drew (Below.refl _ _)) (fun hS0 => ?_)
              refine hTake (i := 0) (v := .int .i64 R.2) rfl (by kernel_rfl) (by kernel_rfl) (by kernel_rfl) (fun _ _ _ h => h) (Or.inl ⟨by rfl, by
                intro w' hSw
                go_simp⟩) hS0 ?_
              try simp only [Act.put, List.setIfInBounds_toArray, List.set_cons_zero, List.set_cons_succ]
              refine hTake (i := 1) (v := .int .i64 R.2) rfl (by kernel_rfl) (by kernel_rfl) (by kernel_rfl) (fun _ _ _ h => h) (Or.inl ⟨by rfl, by
                intro w' hSw
                go_simp⟩) hS0 ?_
              try simp only [Act.put, List.setIfInBounds_toArray, List.set_cons_zero, List.set_cons_succ]
              refine hTake (i := 2) (v := .bool true) rfl (by kernel_rfl) (by kernel_rfl) (by kernel_rfl) (fun _ _ _ h => h) (Or.inl ⟨by rfl, by
                intro w' hSw
                go_simp⟩) hS0 ?_
              try simp only [Act.put, List.setIfInBounds_toArray, List.set_cons_zero, List.set_cons_succ]
              refine hTake (i := 3) (v := .bool true) rfl (by kernel_rfl) (by kernel_rfl) (by kernel_rfl) (fun _ _ _ h => h) (Or.inl ⟨by rfl, by
                intro w' hSw
                go_simp⟩) hS0 ?_
              try simp only [Act.put, List.setIfInBounds_toArray, List.set_cons_zero, List.set_cons_succ]
              refine hTake (i := 4) (v := .agg #[.int .u8 R.1.kind, .string R.1.uri, .int .i64 R.1.version, .string R.1.text, .int .i64 R.1.line, .int .i64 R.1.char, .int .i64 R.1.width, .int .u8 R.1.id.kind, .string R.1.id.text, .slice I1 i1 i2, .slice I2 i3 i4, .slice CB R.1.chs.length cb]) rfl (by kernel_rfl) (by kernel_rfl) (by kernel_rfl) (fun _ _ _ h => h) (yieldsIf_load_mid (by rfl) 32 (.tmp 11) rfl w5.heap.size 0 (by rfl) [.int .u8 R.1.kind, .string R.1.uri, .int .i64 R.1.version, .string R.1.text, .int .i64 R.1.line, .int .i64 R.1.char, .int .i64 R.1.width, .int .u8 R.1.id.kind, .string R.1.id.text, .slice I1 i1 i2, .slice I2 i3 i4, .slice CB R.1.chs.length cb] dm (fun W hW => (hC11'.out.below hW hC11'.out.lt).rng) hdm.out.1 hdm.out.2 lmsgInfo) hS0 ?_
              try simp only [Act.put, List.setIfInBounds_toArray, List.set_cons_zero, List.set_cons_succ]
              refine hTake (i := 6) (v := .agg #[.int .u8 R.1.kind, .string R.1.uri, .int .i64 R.1.version, .string R.1.text, .int .i64 R.1.line, .int .i64 R.1.char, .int .i64 R.1.width, .int .u8 R.1.id.kind, .string R.1.id.text, .slice J1 j1 j2, .slice J2 j3 j4, .slice DB R.1.chs.length db]) rfl (by kernel_rfl) (by kernel_rfl) (by kernel_rfl) (fun _ _ _ h => h) (yieldsIf_load_mid (by rfl) 32 (.tmp 17) rfl w10.heap.size 0 (by rfl) [.int .u8 R.1.kind, .string R.1.uri, .int .i64 R.1.version, .string R.1.text, .int .i64 R.1.line, .int .i64 R.1.char, .int .i64 R.1.width, .int .u8 R.1.id.kind, .string R.1.id.text, .slice J1 j1 j2, .slice J2 j3 j4, .slice DB R.1.chs.length db] dm (fun W hW => (hC17.out.below hW hC17.out.lt).rng) hdm.out.1 hdm.out.2 lmsgInfo) hS0 ?_
              try simp only [Act.put, List.setIfInBounds_toArray, List.set_cons_zero, List.set_cons_succ]
              refine hOne (i := 5) (by kernel_rfl) rfl (fun K hK => ?_)
              go_simp
              refine (back_any R.1 I1 i1 i2 I2 i3 i4 (.slice CB R.1.chs.length cb) _ _ (ownRow_keep hr1.out (fun g hg => hS0.block g (hr1.out.lt g hg).2)) hsm2.out).mono ?_
              rintro e v1 ⟨E1, f1, rfl, hq1, hb⟩
              have hS1 : Below W11.heap.size W11 v1 := hS0.trans (hb.mono hS0.size)
              clear hb
              unfold mCells
              refine hK.out _ _ hS1 ?_
              clear hK
              try simp only [Act.put, List.setIfInBounds_toArray, List.set_cons_zero, List.set_cons_succ]
              refine hOne (i := 7) (by kernel_rfl) rfl (fun K hK => ?_)
              go_simp
              refine (back_any R.1 J1 j1 j2 J2 j3 j4 (.slice DB R.1.chs.length db) _ _ (ownRow_keep hr2.out (fun g hg => hS1.block g (hr2.out.lt g hg).2)) hsm2.out).mono ?_
              rintro e v2 ⟨E2, f2, rfl, hq2, hb⟩
              have hS2 : Below W11.heap.size W11 v2 := hS1.trans (hb.mono hS1.size)
              have hq1' := ownRow_keep hq1 (fun g hg => hb.block g (hq1.lt g hg).2)
              clear hb hq1
              unfold mCells
              refine hK.out _ _ hS2 ?_
              clear hK
              try simp only [Act.put, List.setIfInBounds_toArray, List.set_cons_zero, List.set_cons_succ]
              refine hOne (i := 8) (by kernel_rfl) rfl (fun K hK => ?_)
              go_simp
              refine (sameMsg_any R.1 _ _ _ _ v2 I1 i1 i2 I2 i3 i4 E1 f1 J1 j1 j2 J2 j3 j4 E2 f2 (hJ1.out.later hS2) (hJ2.out.later hS2) hsm1.out hsm2.out hq1' hq2).mono ?_
              rintro e v3 ⟨rfl, hb⟩
              have hS3 : Below W11.heap.size W11 v3 := hS2.trans (hb.mono hS2.size)
              clear hb hq1' hq2
              refine hK.out _ _ hS3 ?_
              clear hK
              try simp only [Act.put, List.setIfInBounds_toArray, List.set_cons_zero, List.set_cons_succ]
              refine hTake (i := 9) (v := .bool true) rfl (by kernel_rfl) (by kernel_rfl) (by kernel_rfl) (fun _ _ _ h => h) (Or.inl ⟨by rfl, by
                intro w' hSw
                go_simp⟩) hS3 ?_
              try simp only [Act.put, List.setIfInBounds_toArray, List.set_cons_zero, List.set_cons_succ]
              refine hTake (i := 10) (v := .bool true) rfl (by kernel_rfl) (by kernel_rfl) (by kernel_rfl) (fun _ _ _ h => h) (Or.inl ⟨by rfl, by
                intro w' hSw
                go_simp⟩) hS3 ?_
              try simp only [Act.put, List.setIfInBounds_toArray, List.set_cons_zero, List.set_cons_succ]
              refine wpAnyH_done (by kernel_rfl) ?_ _
              have hfin := Lib.hid (hBf.out.trans (hS3.mono hBf.out.size))
              clear hS0 hS1 hS2 hS3 hBf
              go_wp2_with fail
              exact bodyPost_ret (v := .bool true) (by simp [results, Tryz.results3, go_sem]) rfl ⟨rfl, hfin.out⟩
end Go.Proofs.YtlnkjacbdolhnaaGreatDoor
