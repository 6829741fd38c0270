/-
  The walk of rostrumlaw05.JsonWrites: the law answers true.
-/
import Derived.Test.YtbegdpdldajolaaGreatDoorJsBd
import Derived.Test.YtbegdpdldajolaaGreatDoorJsD
import Derived.Test.YtbegdpdldajolaaGreatDoorJsH
import Derived.Test.YtbegdpdldajolaaGreatDoorJsJ
import Derived.Test.YtbegdpdldajolaaGreatDoorJsK
import Derived.Test.YtbegdpdldajolaaGreatDoorJsL
import Derived.Test.YtbegdpdldajolaaGreatDoorRefF
import Derived.Deep.RegionHeld3
namespace Go.Proofs.YtbegdpdldajolaaGreatDoor
open Go.RowKit

theorem refOwn_says : OwnSaysS 95 ownL := fun s w hs => (refOwn_any s w hs).mono fun e w' ⟨g, hg, he, hB⟩ => ⟨by
  rw [he]
  have : (⟨(ownL s.data.toList).1.toArray⟩ : ByteArray) = g := jstr_ext (by rw [hg])
  rw [this], hB⟩
theorem refFormJ_says : FormSays 61 (jform ownL Lib.validD) := refFormJ_any ownL Lib.validD refOwn_says refValid_any
theorem jget_bulk {j x : Jsn} {s : ByteArray} (h : jget j s = some x) : jbulk x ≤ jbulk j := by
  obtain ⟨k, t, n, l⟩ := j
  unfold jget at h
  split at h
  · split at h
    · cases h
    · have := jbulks_mem (List.mem_of_getElem? h)
      rw [jbulk_eq]; dsimp only at this; omega
  · cases h
theorem jgetD_bulk (j : Jsn) (s : ByteArray) : jbulk ((jget j s).getD zeroJ) ≤ jbulk j := by
  rcases h : jget j s with _ | x
  · have := jbulk_pos j
    have h0 : jbulk zeroJ = 1 := by rw [zeroJ, jbulk_eq]; rfl
    simp only [Option.getD_none]; omega
  · exact jget_bulk h
theorem cel4 {W : World} {b : Nat} {x0 x1 x2 x3 : Value} (h : Cel W b 25 #[x0, x1, x2, x3]) : W.cell? ⟨b, 0, none⟩ = some x0 ∧ W.cell? ⟨b, 1, none⟩ = some x1 ∧ W.cell? ⟨b, 2, none⟩ = some x2 ∧ W.cell? ⟨b, 3, none⟩ = some x3 :=
  ⟨h.cell 0, h.cell 1, h.cell 2, h.cell 3⟩

set_option maxRecDepth 20000 in
set_option maxHeartbeats 8000000 in
theorem jsonWrites_any (a b : Jsn) (name : ByteArray) (X : Nat → Prop) (w : World) (va1 va2 vb1 vb2 : Value) (hE : EnvU w) (hVa : JV w X a va1 va2) (hVb : JV w X b vb1 vb2) (hba : jbulk a ≤ 10000000) (hbb : jbulk b ≤ 10000000) :
    Calls Tryz.prog 3 #[.agg #[.int .u8 a.kind, .string a.text, va1, va2], .agg #[.int .u8 b.kind, .string b.text, vb1, vb2], .string name] w fun e w' => e = .returned (.bool true) ∧ Below w.heap.size w w' := by
  obtain ⟨W0, hW0⟩ : ∃ W0, (w.alloc (.cells #[.int .u8 a.kind, .string a.text, va1, va2] 25)).alloc (.cells #[.int .u8 b.kind, .string b.text, vb1, vb2] 25) = W0 := ⟨_, rfl⟩
  have hB0 : Below w.heap.size w W0 := by rw [← hW0]; exact ((Below.refl _ _).alloc (Nat.le_refl _) _).alloc (by simp) _
  have hA0 : Cel W0 w.heap.size 25 #[.int .u8 a.kind, .string a.text, va1, va2] := by rw [← hW0]; exact (Cel.fresh _ _ _).alloc _
  have hC0 : Cel W0 (w.heap.size + 1) 25 #[.int .u8 b.kind, .string b.text, vb1, vb2] := by
    rw [← hW0]
    have := Cel.fresh (w.alloc (.cells #[.int .u8 a.kind, .string a.text, va1, va2] 25)) 25 #[.int .u8 b.kind, .string b.text, vb1, vb2]
    simpa using this
  have hwa := Lib.hid (fun (W : World) (hB : Below w.heap.size w W) => weight_any a X W _ _ (hVa.later hB) (by omega))
  have hwb := Lib.hid (fun (W : World) (hB : Below w.heap.size w W) => weight_any b X W _ _ (hVb.later hB) (by omega))
  have hjb := bulk_jw a
  have hjb2 := bulk_jw b
  obtain ⟨A1, n1, c1, A2, n2, c2, rfl, rfl⟩ := hVa.forms
  obtain ⟨B1, m1, d1, B2, m2, d2, rfl, rfl⟩ := hVb.forms
  have hZ0 := Lib.hid (And.intro hA0 (And.intro hC0 hB0))
  obtain ⟨p0, p1, p2, p3⟩ := cel4 hA0
  obtain ⟨q0, q1, q2, q3⟩ := cel4 hC0
  replace hW0 := Lib.hid hW0
  replace hVa := Lib.hid hVa
  replace hVb := Lib.hid hVb
  replace hE := Lib.hid hE
  clear hA0 hC0 hB0
  go_enter Tryz.func3, Tryz.ntmps3
  go_wp2_with fail
  rw [hW0.out]
  clear hW0
  refine (hwa.out _ hZ0.out.2.2).mono ?_
  rintro e w1 ⟨ma, rfl, hm1, hm2, hb⟩
  have hZ1 := Lib.hid (And.intro (hZ0.out.1.below hb hZ0.out.1.lt) (And.intro (hZ0.out.2.1.below hb hZ0.out.2.1.lt) (hZ0.out.2.2.trans (hb.mono hZ0.out.2.2.size))))
  clear p0 p1 p2 p3 q0 q1 q2 q3 hZ0 hb hwa
  obtain ⟨p0, p1, p2, p3⟩ := cel4 hZ1.out.1
  obtain ⟨q0, q1, q2, q3⟩ := cel4 hZ1.out.2.1
  by_cases ca : 1500 ≤ (ma : Int)
  · clear hm1 hm2 hwb hVa hVb hE
    go_wp2_with fail
    go_ret
    exact ⟨rfl, hZ1.out.2.2⟩
  have hja : jbulk a ≤ 96000 := by omega
  clear hm1 hm2 hjb
  go_wp2_with fail
  refine (hwb.out _ hZ1.out.2.2).mono ?_
  rintro e w2 ⟨mb, rfl, hm1, hm2, hb⟩
  have hZ2 := Lib.hid (And.intro (hZ1.out.1.below hb hZ1.out.1.lt) (And.intro (hZ1.out.2.1.below hb hZ1.out.2.1.lt) (hZ1.out.2.2.trans (hb.mono hZ1.out.2.2.size))))
  clear p0 p1 p2 p3 q0 q1 q2 q3 hZ1 hb hwb
  obtain ⟨p0, p1, p2, p3⟩ := cel4 hZ2.out.1
  obtain ⟨q0, q1, q2, q3⟩ := cel4 hZ2.out.2.1
  by_cases cb : 1500 ≤ (mb : Int)
  · clear hm1 hm2 hVa hVb hE
    go_wp2_with fail
    go_ret
    exact ⟨rfl, hZ2.out.2.2⟩
  have hjb3 : jbulk b ≤ 96000 := by omega
  clear hm1 hm2 hjb2
  by_cases cn : 1000 < (name.size : Int)
  · clear hVa hVb hE
    go_wp2_with fail
    go_ret
    exact ⟨rfl, hZ2.out.2.2⟩
  have hzb : jbulk ((jget a name).getD zeroJ) ≤ 96000 := Nat.le_trans (jgetD_bulk a name) hja
  have hg := Lib.hid (given_any a X w2 _ _ (hVa.out.later hZ2.out.2.2) (by omega))
  go_wp2_with fail
  clear cn ca cb
  refine hg.out.mono ?_
  rintro e w3 ⟨vn, vl, rfl, hO, hb⟩
  obtain ⟨I1, i1, j1, I2, i2, j2, rfl, rfl⟩ := hO.forms
  have hZ3 := Lib.hid (And.intro (hZ2.out.1.below hb hZ2.out.1.lt) (And.intro (hZ2.out.2.1.below hb hZ2.out.2.1.lt) (hZ2.out.2.2.trans (hb.mono hZ2.out.2.2.size))))
  have hs23 : w2.heap.size ≤ w3.heap.size := hb.size
  have hs2 : w.heap.size ≤ w2.heap.size := hZ2.out.2.2.size
  clear p0 p1 p2 p3 q0 q1 q2 q3 hZ2 hb hg
  obtain ⟨p0, p1, p2, p3⟩ := cel4 hZ3.out.1
  obtain ⟨q0, q1, q2, q3⟩ := cel4 hZ3.out.2.1
  obtain ⟨W3, hW3⟩ : ∃ W3, w3.alloc (.cells #[.int .u8 a.kind, .string a.text, .slice I1 i1 j1, .slice I2 i2 j2] 25) = W3 := ⟨_, rfl⟩
  have hI : Cel W3 w3.heap.size 25 #[.int .u8 a.kind, .string a.text, .slice I1 i1 j1, .slice I2 i2 j2] := by rw [← hW3]; exact Cel.fresh _ _ _
  have hb3 : Below w3.heap.size w3 W3 := by rw [← hW3]; exact (Below.refl _ _).alloc (Nat.le_refl _) _
  have hOi := OwnJ.keep (w' := W3) a hO (fun k _ hk => hb3.block k hk) (Nat.le_refl _) (Nat.le_refl _)
  have hs3 : W3.heap.size = w3.heap.size + 1 := by rw [← hW3]; simp
  have hbw : Below w.heap.size w W3 := hZ3.out.2.2.trans (hb3.mono hZ3.out.2.2.size)
  have hJi := OwnJ.jv a hOi
  -- from here on W3 is the world that all else is told from
  have hca : Cel W3 w.heap.size 25 #[.int .u8 a.kind, .string a.text, .slice A1 n1 c1, .slice A2 n2 c2] := hZ3.out.1.below hb3 hZ3.out.1.lt
  have hcb : Cel W3 (w.heap.size + 1) 25 #[.int .u8 b.kind, .string b.text, .slice B1 m1 d1, .slice B2 m2 d2] := hZ3.out.2.1.below hb3 hZ3.out.2.1.lt
  have hVa3 := hVa.out.later hbw
  have hVb3 := hVb.out.later hbw
  have hE3 := hE.out.below hbw
  have hP := Lib.hid (fun (W : World) (hB : Below W3.heap.size W3 W) => jsnPrint_any a _ W _ _ (hE3.below hB) (hJi.later hB) (by omega))
  have hQ := Lib.hid (fun (W : World) (hB : Below W3.heap.size W3 W) => refPrint_any ownL Lib.validD refFormJ_says (refText_any ownL Lib.validD) a X W _ _ (hVa3.later hB) (by omega))
  have hG := Lib.hid (fun (W : World) (hB : Below W3.heap.size W3 W) => jsnGet_any a _ W _ _ name (hJi.later hB) (by omega))
  have hH := Lib.hid (fun (W : World) (hB : Below W3.heap.size W3 W) => refGetJ_any a X W _ _ name (hVa3.later hB) (by omega))
  have hcl := Lib.hid (fun (W : World) (hB : Below W3.heap.size W3 W) => And.intro (cel4 (hca.below hB hca.lt)) (And.intro (cel4 (hcb.below hB hcb.lt)) (cel4 (hI.below hB hI.lt))))
  obtain ⟨ps, hps⟩ : ∃ ps, jprint ownL Lib.validD a = ps := ⟨_, rfl⟩
  rw [hps] at hP hQ
  obtain ⟨PS, hPS⟩ : ∃ PS : ByteArray, ⟨ps.1.toArray⟩ = PS := ⟨_, rfl⟩
  simp only [hPS] at hP hQ
  obtain ⟨pe, hpe⟩ : ∃ pe, ps.2 = pe := ⟨_, rfl⟩
  simp only [hpe] at hP hQ
  have hVw := hVa
  clear hps hPS hpe hO hZ3 hVa hVb hE
  replace hW3 := Lib.hid hW3
  go_wp2_with fail
  rw [hW3.out]
  refine (hP.out W3 (Below.refl _ _)).mono ?_
  rintro e w4 ⟨rfl, hb4⟩
  clear hW3 p0 p1 p2 p3 q0 q1 q2 q3 hP
  obtain ⟨⟨p0, p1, p2, p3⟩, ⟨q0, q1, q2, q3⟩, r0, r1, r2, r3⟩ := hcl.out w4 hb4
  go_wp2_with fail
  refine (hQ.out w4 hb4).mono ?_
  rintro e w5 ⟨rfl, hb5'⟩
  have hb5 : Below W3.heap.size W3 w5 := hb4.trans (hb5'.mono hb4.size)
  clear p0 p1 p2 p3 q0 q1 q2 q3 r0 r1 r2 r3 hQ hb5' hb4
  obtain ⟨⟨p0, p1, p2, p3⟩, ⟨q0, q1, q2, q3⟩, r0, r1, r2, r3⟩ := hcl.out w5 hb5
  go_wp2_with fail
  refine (hG.out w5 hb5).mono ?_
  rintro e w6 ⟨xn, xl, rfl, hOx, hb6'⟩
  obtain ⟨X1, x1, y1, X2, x2, y2, rfl, rfl⟩ := hOx.forms
  obtain ⟨z, hz⟩ : ∃ z, (jget a name).getD zeroJ = z := ⟨_, rfl⟩
  obtain ⟨G, hGs⟩ : ∃ G, (jget a name).isSome = G := ⟨_, rfl⟩
  rw [hz] at hOx hzb
  rw [hz, hGs]
  unfold RefGetEnd at hH
  rw [hz, hGs] at hH
  clear hz hGs
  obtain ⟨W6, hW6⟩ : ∃ W6, w6.alloc (.cells #[.int .u8 z.kind, .string z.text, .slice X1 x1 y1, .slice X2 x2 y2] 25) = W6 := ⟨_, rfl⟩
  have hXc : Cel W6 w6.heap.size 25 #[.int .u8 z.kind, .string z.text, .slice X1 x1 y1, .slice X2 x2 y2] := by rw [← hW6]; exact Cel.fresh _ _ _
  have hb66 : Below w6.heap.size w6 W6 := by rw [← hW6]; exact (Below.refl _ _).alloc (Nat.le_refl _) _
  have hOx6 := OwnJ.keep (w' := W6) z hOx (fun k _ hk => hb66.block k hk) (Nat.le_refl _) (Nat.le_refl _)
  have hb6 : Below W3.heap.size W3 W6 := (hb5.trans (hb6'.mono hb5.size)).trans (hb66.mono (Nat.le_trans hb5.size hb6'.size))
  have hs56 : w5.heap.size ≤ w6.heap.size := hb6'.size
  have hs35 : W3.heap.size ≤ w5.heap.size := hb5.size
  have hs66 : W6.heap.size = w6.heap.size + 1 := by rw [← hW6]; simp
  have hb6w : Below W3.heap.size W3 w6 := hb5.trans (hb6'.mono hb5.size)
  have hl1 : w.heap.size < w6.heap.size := by have := hca.lt; omega
  have hl2 : w.heap.size + 1 < w6.heap.size := by have := hcb.lt; omega
  have hl3 : w3.heap.size < w6.heap.size := by omega
  clear hOx hb66 hb6' hG hb5 p0 p1 p2 p3 q0 q1 q2 q3 r0 r1 r2 r3
  obtain ⟨⟨p0, p1, p2, p3⟩, ⟨q0, q1, q2, q3⟩, r0, r1, r2, r3⟩ := hcl.out w6 hb6w
  replace hW6 := Lib.hid hW6
  go_wp2_with fail
  rw [hW6.out]
  refine (hH.out W6 hb6).mono ?_
  rintro e w7 ⟨yn, yl, rfl, hJy, hb7'⟩
  obtain ⟨Y1, e1, f1, Y2, e2, f2, rfl, rfl⟩ := hJy.forms
  obtain ⟨W7, hW7⟩ : ∃ W7, w7.alloc (.cells #[.int .u8 z.kind, .string z.text, .slice Y1 e1 f1, .slice Y2 e2 f2] 25) = W7 := ⟨_, rfl⟩
  have hYc : Cel W7 w7.heap.size 25 #[.int .u8 z.kind, .string z.text, .slice Y1 e1 f1, .slice Y2 e2 f2] := by rw [← hW7]; exact Cel.fresh _ _ _
  have hb77 : Below w7.heap.size w7 W7 := by rw [← hW7]; exact (Below.refl _ _).alloc (Nat.le_refl _) _
  have hb67 : Below W6.heap.size W6 W7 := hb7'.trans (hb77.mono hb7'.size)
  have hJy7 := hJy.later hb77
  have hX7 : Cel W7 w6.heap.size 25 #[.int .u8 z.kind, .string z.text, .slice X1 x1 y1, .slice X2 x2 y2] := hXc.below hb67 hXc.lt
  have hOx7 := OwnJ.keep (w' := W7) z hOx6 (fun k _ hk => hb67.block k (by omega)) (Nat.le_refl _) (Nat.le_refl _)
  have hb7 : Below W3.heap.size W3 W7 := hb6.trans (hb67.mono hb6.size)
  have hJx7 := OwnJ.jv z hOx7
  have hs67 : W6.heap.size ≤ W7.heap.size := hb67.size
  have hca7 : Cel W7 w.heap.size 25 #[.int .u8 a.kind, .string a.text, .slice A1 n1 c1, .slice A2 n2 c2] := hca.below hb7 hca.lt
  have hcb7 : Cel W7 (w.heap.size + 1) 25 #[.int .u8 b.kind, .string b.text, .slice B1 m1 d1, .slice B2 m2 d2] := hcb.below hb7 hcb.lt
  have hci7 : Cel W7 w3.heap.size 25 #[.int .u8 a.kind, .string a.text, .slice I1 i1 j1, .slice I2 i2 j2] := hI.below hb7 hI.lt
  have hJi7 := hJi.later hb7
  have hVa7 := hVa3.later hb7
  have hVb7 := hVb3.later hb7
  have hE7 := hE3.below hb7
  have hbw7 : Below w.heap.size w W7 := hbw.trans (hb7.mono hbw.size)
  have hOi7 := OwnJ.keep (w' := W7) a hOi (fun k _ hk => hb7.block k (by omega)) (Nat.le_refl _) (Nat.le_refl _)
  clear hl1 hl2 hl3 hb6w
  clear hW6 hJy hb77 hb67 hb7' hOx6 hXc hb6 hH hcl hca hcb hI hVa3 hVb3 hE3 hJi hOi hb7 hbw
  have hc1 := Lib.hid (fun (W : World) (hB : Below W7.heap.size W7 W) => (refSameJ_any z z _ X W _ _ _ _ (hJx7.later hB) (hJy7.later hB) (by omega) (by omega)))
  have hc2 := Lib.hid (fun (W : World) (hB : Below W7.heap.size W7 W) => jsnCheck_any a _ W _ _ (hE7.below hB) (hJi7.later hB) (by omega))
  have hc3 := Lib.hid (fun (W : World) (hB : Below W7.heap.size W7 W) => refCheck_any ownL Lib.validD refFormJ_says a X W _ _ (hVa7.later hB) (by omega))
  have hc4 := Lib.hid (fun (W : World) (hB : Below W7.heap.size W7 W) => given_any b X W _ _ (hVb7.later hB) (by omega))
  have hc5 := Lib.hid (fun (W : World) (un ul : Value) (lo hi : Nat) (hB : Below W7.heap.size W7 W) (hO : OwnJ W 9 25 b lo hi un ul) => jsnSame_any a b _ _ W _ _ _ _ (hJi7.later hB) (OwnJ.jv b hO) (by omega) (by omega))
  have hc6 := Lib.hid (fun (W : World) (hB : Below W7.heap.size W7 W) => refSameJ_any a b X X W _ _ _ _ (hVa7.later hB) (hVb7.later hB) (by omega) (by omega))
  have hc7 := Lib.hid (fun (W : World) (hB : Below W7.heap.size W7 W) => given_any a X W _ _ (hVa7.later hB) (by omega))
  have hc8 := Lib.hid (fun (W : World) (un ul : Value) (lo hi : Nat) (hB : Below W7.heap.size W7 W) (hO : OwnJ W 9 25 a lo hi un ul) => jsnSame_any a a _ _ W _ _ _ _ (hJi7.later hB) (OwnJ.jv a hO) (by omega) (by omega))
  simp only [jsame_refl] at hc1 hc8
  obtain ⟨K, hK⟩ : ∃ K, jcheck ownL Lib.validD a = K := ⟨_, rfl⟩
  obtain ⟨Q, hQ⟩ : ∃ Q, jsame a b = Q := ⟨_, rfl⟩
  simp only [hK] at hc2 hc3
  simp only [hQ] at hc5 hc6
  have hcells : ∀ W, Below W7.heap.size W7 W → (W.cell? ⟨w.heap.size, 0, none⟩ = some (.int .u8 a.kind) ∧ W.cell? ⟨w.heap.size, 1, none⟩ = some (.string a.text) ∧ W.cell? ⟨w.heap.size, 2, none⟩ = some (.slice A1 n1 c1) ∧ W.cell? ⟨w.heap.size, 3, none⟩ = some (.slice A2 n2 c2)) ∧
      (W.cell? ⟨w.heap.size + 1, 0, none⟩ = some (.int .u8 b.kind) ∧ W.cell? ⟨w.heap.size + 1, 1, none⟩ = some (.string b.text) ∧ W.cell? ⟨w.heap.size + 1, 2, none⟩ = some (.slice B1 m1 d1) ∧ W.cell? ⟨w.heap.size + 1, 3, none⟩ = some (.slice B2 m2 d2)) ∧
      (W.cell? ⟨w3.heap.size, 0, none⟩ = some (.int .u8 a.kind) ∧ W.cell? ⟨w3.heap.size, 1, none⟩ = some (.string a.text) ∧ W.cell? ⟨w3.heap.size, 2, none⟩ = some (.slice I1 i1 j1) ∧ W.cell? ⟨w3.heap.size, 3, none⟩ = some (.slice I2 i2 j2)) ∧
      (W.cell? ⟨w6.heap.size, 0, none⟩ = some (.int .u8 z.kind) ∧ W.cell? ⟨w6.heap.size, 1, none⟩ = some (.string z.text) ∧ W.cell? ⟨w6.heap.size, 2, none⟩ = some (.slice X1 x1 y1) ∧ W.cell? ⟨w6.heap.size, 3, none⟩ = some (.slice X2 x2 y2)) ∧
      (W.cell? ⟨w7.heap.size, 0, none⟩ = some (.int .u8 z.kind) ∧ W.cell? ⟨w7.heap.size, 1, none⟩ = some (.string z.text) ∧ W.cell? ⟨w7.heap.size, 2, none⟩ = some (.slice Y1 e1 f1) ∧ W.cell? ⟨w7.heap.size, 3, none⟩ = some (.slice Y2 e2 f2)) ∧ Below W7.heap.size W7 W := fun W hB =>
    ⟨cel4 (hca7.below hB hca7.lt), cel4 (hcb7.below hB hcb7.lt), cel4 (hci7.below hB hci7.lt), cel4 (hX7.below hB hX7.lt), cel4 (hYc.below hB hYc.lt), hB⟩
  have hS := Lib.hid hcells
  clear hcells hK hQ hE7 hJi7 hVb7 hJx7 hJy7 hca7 hcb7 hci7 hX7 hYc
  replace hW7 := Lib.hid hW7
  replace hOx7 := Lib.hid hOx7
  replace hOi7 := Lib.hid hOi7
  replace hVa7 := Lib.hid hVa7
  replace hbw7 := Lib.hid hbw7
  have hj := jeq_t PS
  have hjn : (PS.toList != PS.toList) = false := by simp
  go_upto_region 8 with (fail)
  rw [hW7.out]
  clear hW7 p0 p1 p2 p3 q0 q1 q2 q3 r0 r1 r2 r3
  go_region_held3 (fun W => (W.cell? ⟨w.heap.size, 0, none⟩ = some (.int .u8 a.kind) ∧ W.cell? ⟨w.heap.size, 1, none⟩ = some (.string a.text) ∧ W.cell? ⟨w.heap.size, 2, none⟩ = some (.slice A1 n1 c1) ∧ W.cell? ⟨w.heap.size, 3, none⟩ = some (.slice A2 n2 c2)) ∧ (W.cell? ⟨w.heap.size + 1, 0, none⟩ = some (.int .u8 b.kind) ∧ W.cell? ⟨w.heap.size + 1, 1, none⟩ = some (.string b.text) ∧ W.cell? ⟨w.heap.size + 1, 2, none⟩ = some (.slice B1 m1 d1) ∧ W.cell? ⟨w.heap.size + 1, 3, none⟩ = some (.slice B2 m2 d2)) ∧ (W.cell? ⟨w3.heap.size, 0, none⟩ = some (.int .u8 a.kind) ∧ W.cell? ⟨w3.heap.size, 1, none⟩ = some (.string a.text) ∧ W.cell? ⟨w3.heap.size, 2, none⟩ = some (.slice I1 i1 j1) ∧ W.cell? ⟨w3.heap.size, 3, none⟩ = some (.slice I2 i2 j2)) ∧ (W.cell? ⟨w6.heap.size, 0, none⟩ = some (.int .u8 z.kind) ∧ W.cell? ⟨w6.heap.size, 1, none⟩ = some (.string z.text) ∧ W.cell? ⟨w6.heap.size, 2, none⟩ = some (.slice X1 x1 y1) ∧ W.cell? ⟨w6.heap.size, 3, none⟩ = some (.slice X2 x2 y2)) ∧ (W.cell? ⟨w7.heap.size, 0, none⟩ = some (.int .u8 z.kind) ∧ W.cell? ⟨w7.heap.size, 1, none⟩ = some (.string z.text) ∧ W.cell? ⟨w7.heap.size, 2, none⟩ = some (.slice Y1 e1 f1) ∧ W.cell? ⟨w7.heap.size, 3, none⟩ = some (.slice Y2 e2 f2)) ∧ Below W7.heap.size W7 W)
    (first | exact hS.out _ (bel_drewN (Below.refl _ _) 1) | exact hS.out _ hZ1 | exact hS.out _ hZ2 | exact hS.out _ hZ3 | exact hS.out _ hZ4 | exact hS.out _ hZ5 | exact hS.out _ hZ6 | exact hS.out _ hZ7 | exact hS.out _ hZ8)
    (first
      | (go_at_call 19; (with_reducible refine (hc1.out _ ?_).mono ?_); exact bel_drewN (Below.refl _ _) 1; rintro e u1 ⟨rfl, hu⟩; have hZ1 : Below W7.heap.size W7 u1 := (bel_drewN (Below.refl _ _) 1).trans hu; clear hu)
      | (go_at_call 20; (with_reducible refine (hc2.out _ ?_).mono ?_); exact hZ1; rintro e u2 ⟨rfl, hu⟩; have hZ2 : Below W7.heap.size W7 u2 := hZ1.trans (hu.mono hZ1.size); clear hu)
      | (go_at_call 21; (with_reducible refine (hc3.out _ ?_).mono ?_); exact hZ2; rintro e u3 ⟨rfl, hu⟩; have hZ3 : Below W7.heap.size W7 u3 := hZ2.trans (hu.mono hZ2.size); clear hu)
      | (go_at_call 14; (with_reducible refine (hc4.out _ ?_).mono ?_); exact hZ3; rintro e u4 ⟨gb1, gb2, rfl, hOb, hu⟩; obtain ⟨_, _, _, _, _, _, rfl, rfl⟩ := hOb.forms; have hZ4 : Below W7.heap.size W7 u4 := hZ3.trans (hu.mono hZ3.size); replace hOb := Lib.hid hOb; clear hu)
      | (go_at_call 22; (with_reducible refine (hc5.out _ _ _ _ _ ?_ hOb.out).mono ?_); exact hZ4; rintro e u5 ⟨rfl, hu⟩; have hZ5 : Below W7.heap.size W7 u5 := hZ4.trans (hu.mono hZ4.size); clear hu hOb)
      | (go_at_call 19; (with_reducible refine (hc6.out _ ?_).mono ?_); exact hZ5; rintro e u6 ⟨rfl, hu⟩; have hZ6 : Below W7.heap.size W7 u6 := hZ5.trans (hu.mono hZ5.size); clear hu)
      | (go_at_call 14; (with_reducible refine (hc7.out _ ?_).mono ?_); exact hZ6; rintro e u7 ⟨ga1, ga2, rfl, hOa, hu⟩; obtain ⟨_, _, _, _, _, _, rfl, rfl⟩ := hOa.forms; have hZ7 : Below W7.heap.size W7 u7 := hZ6.trans (hu.mono hZ6.size); replace hOa := Lib.hid hOa; clear hu)
      | (go_at_call 22; (with_reducible refine (hc8.out _ _ _ _ _ ?_ hOa.out).mono ?_); exact hZ7; rintro e u8 ⟨rfl, hu⟩; have hZ8 : Below W7.heap.size W7 u8 := hZ7.trans (hu.mono hZ7.size); clear hu hOa))
  all_goals
    obtain ⟨⟨p0, p1, p2, p3⟩, ⟨q0, q1, q2, q3⟩, ⟨r0, r1, r2, r3⟩, ⟨x0, x10, x20, x30⟩, ⟨y0, y10, y20, y30⟩, _⟩ := hS.out _ hZ8
    have hOx8 := OwnJ.keep (w' := u8) z hOx7.out (fun k _ hk => hZ8.block k (by omega)) (Nat.le_refl _) (Nat.le_refl _)
    have hsz8 := hZ8.size
    have hsp := Lib.hid (spoil_any z _ _ u8 _ _ hOx8 hs56 (by omega) (by omega))
    clear hOx8 hc1 hc2 hc3 hc4 hc5 hc6 hc7 hc8 q0 q1 q2 q3 y0 y10 y20 y30
    go_wp2_with fail
    refine hsp.out.mono ?_
    rintro e u9 ⟨rfl, hSp⟩
    have hsz9 := hSp.1.size
    have hOi9 := OwnJ.keep (w' := u9) a hOi7.out (fun k _ hk => (hSp.1.block k (by omega)).trans (hZ8.block k (by omega))) (Nat.le_refl _) (Nat.le_refl _)
    have hJi9 := OwnJ.jv a hOi9
    have hbw9 : Below W7.heap.size W7 u8 := hZ8
    have hbt : Below w.heap.size w u9 := (hbw7.out.trans (hZ8.mono hbw7.out.size)).trans (hSp.1.mono (by have := hbw7.out.size; omega))
    have hVa9 : JV u9 X a _ _ := (hVw.out).later hbt
    have hck : ∀ (n i : Nat), n < w5.heap.size → u9.cell? ⟨n, i, none⟩ = u8.cell? ⟨n, i, none⟩ := fun n i hn => hSp.1.cell (p := ⟨n, i, none⟩) hn
    have hn1 : w.heap.size < w5.heap.size := by omega
    have hn2 : w3.heap.size < w5.heap.size := by omega
    rw [← hck _ _ hn1] at p0 p1 p2 p3
    rw [← hck _ _ hn2] at r0 r1 r2 r3
    have hfin := Lib.hid (refSameJ_any a a _ X u9 _ _ _ _ hJi9 hVa9 (by omega) (by omega))
    rw [jsame_refl] at hfin
    replace hbt := Lib.hid hbt
    clear hsp hSp hOi9 hJi9 hbw9 hVa9 hck x0 x10 x20 x30
    go_wp2_with fail
    refine hfin.out.mono ?_
    rintro e u10 ⟨rfl, hb10⟩
    have hbz := Lib.hid (hbt.out.trans (hb10.mono hbt.out.size))
    clear hfin hb10 p0 p1 p2 p3 r0 r1 r2 r3
    go_wp2_with fail
    go_ret
    exact ⟨rfl, hbz.out⟩
end Go.Proofs.YtbegdpdldajolaaGreatDoor
