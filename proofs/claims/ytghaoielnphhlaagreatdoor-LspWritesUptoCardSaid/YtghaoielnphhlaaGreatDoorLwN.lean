/-
  The walks of the document's Shown, Log, Place.
-/
import Derived.Test.YtghaoielnphhlaaGreatDoorM36
namespace Go.Proofs.YtghaoielnphhlaaGreatDoor
open Go.RowKit

set_option maxRecDepth 100000 in
set_option maxHeartbeats 4000000 in
theorem refLog8_any (n : Int) (s : ByteArray) (w : World) (hE : Env w) (hn : I64 n) :
    Calls Tryz.prog 22 #[.int .i64 n, .string s] w (JvEnd (logJ n s) w) := by
  obtain ⟨V, hV⟩ : ∃ V, w.alloc (.cells #[.int .u8 0, .string ⟨#[]⟩, .slice none 0 0, .slice none 0 0] 25) = V := ⟨_, rfl⟩
  have hBV : Below w.heap.size w V := by rw [← hV]; exact (Below.refl _ _).alloc (Nat.le_refl _) _
  have hsV : V.heap.size = w.heap.size + 1 := by rw [← hV]; simp
  have hCr : Cel V w.heap.size 25 #[.int .u8 0, .string ⟨#[]⟩, .slice none 0 0, .slice none 0 0] := by rw [← hV]; exact Cel.fresh _ _ _
  obtain ⟨V1, hV1⟩ : ∃ X, V.alloc (.cells #[.string ⟨#[99, 111, 100, 101]⟩, .string ⟨#[109, 101, 115, 115, 97, 103, 101]⟩] 9) = X := ⟨_, rfl⟩
  have hN : pN V1 V.heap.size [lCode, lMessage] (.slice (some ⟨w.heap.size + 1, 0, none⟩) 2 2) := by rw [← hV1, ← hsV]; exact ⟨_, rfl, Nat.le_refl _, Cel.fresh _ _ _⟩
  have hB : Below V.heap.size V V1 := by rw [← hV1]; exact (Below.refl _ _).alloc (Nat.le_refl _) _
  have hs1 : V1.heap.size = V.heap.size + 1 := by rw [← hV1]; simp
  have hNum := Lib.hid (fun (n : Int) (hn : I64 n) (W : World) (hb : Below w.heap.size w W) => refNum8_any n W (hE.below hb) hn.1 hn.2)
  have hText := Lib.hid (fun (s : ByteArray) (W : World) (_ : Below w.heap.size w W) => refStr8_any s W)
  clear hE
  replace hV := Lib.hid hV
  replace hV1 := Lib.hid hV1
  replace hB := Lib.hid hB
  replace hN := Lib.hid hN
  replace hBV := Lib.hid hBV
  replace hCr := Lib.hid hCr
  have hBx := Lib.hid (fun (W : World) (hS : Below V.heap.size V W) => hBV.out.trans (hS.mono hBV.out.size))
  go_enter Tryz.func22, Tryz.ntmps22
  go_upto_region 1 with fail
  rw [hV.out]
  clear hV
  go_wp2_with fail
  rw [hV1.out]
  clear hV1
  refine (hNum.out n hn _ (hBx.out _ hB.out)).mono ?_
  rintro e w1 ⟨xn, xl, he, hO, hb⟩
  obtain ⟨A0, n0, c0, B0, m0, d0, rfl, rfl⟩ := hO.forms
  unfold numJ at he
  try dsimp only at he
  subst he
  have hJ0 := Lib.hid (show JV w1 (fun k => V.heap.size ≤ k) (numJ n) (.slice A0 n0 c0) (.slice B0 m0 d0) from (OwnJ.jv _ hO).more (fun k hk _ => by have := hB.out.size; omega))
  replace hN := Lib.hid (hN.out.keep (fun k _ hk => hb.block k hk))
  replace hB := Lib.hid (hB.out.trans (hb.mono hB.out.size))
  clear hb hO
  go_wp2_with fail
  refine (hText.out s _ (hBx.out _ hB.out)).mono ?_
  rintro e w2 ⟨xn, xl, he, hO, hb⟩
  obtain ⟨A1, n1, c1, B1, m1, d1, rfl, rfl⟩ := hO.forms
  unfold strJ at he
  try dsimp only at he
  subst he
  have hJ1 := Lib.hid (show JV w2 (fun k => V.heap.size ≤ k) (strJ s) (.slice A1 n1 c1) (.slice B1 m1 d1) from (OwnJ.jv _ hO).more (fun k hk _ => by have := hB.out.size; omega))
  replace hJ0 := Lib.hid (hJ0.out.later hb)
  replace hN := Lib.hid (hN.out.keep (fun k _ hk => hb.block k hk))
  replace hB := Lib.hid (hB.out.trans (hb.mono hB.out.size))
  clear hb hO
  obtain ⟨wx, hwx⟩ : ∃ W, w2.alloc (.cells #[.int .u8 4, .string ⟨(ofNL n).toArray⟩, .slice A0 n0 c0, .slice B0 m0 d0, .int .u8 5, .string s, .slice A1 n1 c1, .slice B1 m1 d1] 25) = W := ⟨_, rfl⟩
  have hbx : Below w2.heap.size w2 wx := by rw [← hwx]; exact (Below.refl _ _).alloc (Nat.le_refl _) _
  have hR : pR wx V.heap.size [numJ n, strJ s] (.slice (some ⟨w2.heap.size, 0, none⟩) 2 2) := by
    refine ⟨w2.heap.size, [((numJ n : Jsn), (Value.slice A0 n0 c0), (Value.slice B0 m0 d0)), ((strJ s : Jsn), (Value.slice A1 n1 c1), (Value.slice B1 m1 d1))], rfl, hB.out.size, by rw [← hwx]; exact Cel.fresh _ _ _, rfl, fun z hz => ?_⟩
    simp at hz
    rcases hz with rfl | rfl
    · exact hJ0.out.later hbx
    · exact hJ1.out.later hbx
  have hN2 := hN.out.keep (fun k _ hk => hbx.block k hk)
  obtain ⟨gn, gl, e1, e2, hJ⟩ := obj_rows hN2 hR
  replace hB := Lib.hid (hB.out.trans (hbx.mono hB.out.size))
  replace hwx := Lib.hid hwx
  replace hJ := Lib.hid hJ
  clear hbx hN hN2 hR hJ0 hJ1 e1 e2
  go_wp2_with fail
  rw [hwx.out]
  refine (refObj8_any wx (some ⟨w.heap.size + 1, 0, none⟩) 2 2 (some ⟨w2.heap.size, 0, none⟩) 2 2).mono ?_
  rintro e w9 ⟨rfl, hb⟩
  have hJ2 := Lib.hid (hJ.out.later hb)
  replace hB := Lib.hid (hB.out.trans (hb.mono hB.out.size))
  clear hb hwx hJ
  have hr := hCr.out.below hB.out (by omega)
  obtain ⟨p0, p1, p2, p3⟩ := hr.c4
  have s0 := hr.froz 0
  have s1 := hr.froz 1
  have s2 := hr.froz 2
  have s3 := hr.froz 3
  go_wp2_with fail
  refine bodyPost_ret (v := .agg #[.int .u8 7, .string ⟨#[]⟩, .slice (some ⟨w.heap.size + 1, 0, none⟩) 2 2, .slice (some ⟨w2.heap.size, 0, none⟩) 2 2]) (by simp [results, Tryz.results22, go_sem, p0, p1, p2, p3]) rfl ⟨_, _, rfl, ?_, ?_⟩
  · unfold logJ
    refine (JV.keepB hJ2.out (by simp [World.setCell]) (fun b h1 _ => by rw [Below.heap_setCell _ _ _ _ (by simp; omega), Below.heap_setCell _ _ _ _ (by simp; omega), Below.heap_setCell _ _ _ _ (by simp; omega), Below.heap_setCell _ _ _ _ (by simp; omega)])).more (fun k hk _ => by omega)
  · exact ((((hBx.out _ hB.out).setCell (by simp) _).setCell (by simp) _).setCell (by simp) _).setCell (by simp) _
set_option maxRecDepth 100000 in
set_option maxHeartbeats 4000000 in
theorem refShown8_any (n : Int) (s t : ByteArray) (w : World) (hE : Env w) (hn : I64 n) :
    Calls Tryz.prog 20 #[.int .i64 n, .string s, .string t] w (JvEnd (shownJ n s t) w) := by
  obtain ⟨V, hV⟩ : ∃ V, w.alloc (.cells #[.int .u8 0, .string ⟨#[]⟩, .slice none 0 0, .slice none 0 0] 25) = V := ⟨_, rfl⟩
  have hBV : Below w.heap.size w V := by rw [← hV]; exact (Below.refl _ _).alloc (Nat.le_refl _) _
  have hsV : V.heap.size = w.heap.size + 1 := by rw [← hV]; simp
  have hCr : Cel V w.heap.size 25 #[.int .u8 0, .string ⟨#[]⟩, .slice none 0 0, .slice none 0 0] := by rw [← hV]; exact Cel.fresh _ _ _
  obtain ⟨V1, hV1⟩ : ∃ X, V.alloc (.cells #[.string ⟨#[118, 101, 114, 115, 105, 111, 110]⟩, .string ⟨#[116, 121, 112, 101]⟩, .string ⟨#[118, 97, 108, 117, 101]⟩] 9) = X := ⟨_, rfl⟩
  have hN : pN V1 V.heap.size [lVersion, lType, lValue] (.slice (some ⟨w.heap.size + 1, 0, none⟩) 3 3) := by rw [← hV1, ← hsV]; exact ⟨_, rfl, Nat.le_refl _, Cel.fresh _ _ _⟩
  have hB : Below V.heap.size V V1 := by rw [← hV1]; exact (Below.refl _ _).alloc (Nat.le_refl _) _
  have hs1 : V1.heap.size = V.heap.size + 1 := by rw [← hV1]; simp
  have hNum := Lib.hid (fun (n : Int) (hn : I64 n) (W : World) (hb : Below w.heap.size w W) => refNum8_any n W (hE.below hb) hn.1 hn.2)
  have hOr := Lib.hid (fun (s : ByteArray) (W : World) (_ : Below w.heap.size w W) => refOr8_any s W)
  clear hE
  replace hV := Lib.hid hV
  replace hV1 := Lib.hid hV1
  replace hB := Lib.hid hB
  replace hN := Lib.hid hN
  replace hBV := Lib.hid hBV
  replace hCr := Lib.hid hCr
  have hBx := Lib.hid (fun (W : World) (hS : Below V.heap.size V W) => hBV.out.trans (hS.mono hBV.out.size))
  go_enter Tryz.func20, Tryz.ntmps20
  go_upto_region 1 with fail
  rw [hV.out]
  clear hV
  go_wp2_with fail
  rw [hV1.out]
  clear hV1
  refine (hNum.out n hn _ (hBx.out _ hB.out)).mono ?_
  rintro e w1 ⟨xn, xl, he, hO, hb⟩
  obtain ⟨A0, n0, c0, B0, m0, d0, rfl, rfl⟩ := hO.forms
  unfold numJ at he
  try dsimp only at he
  subst he
  have hJ0 := Lib.hid (show JV w1 (fun k => V.heap.size ≤ k) (numJ n) (.slice A0 n0 c0) (.slice B0 m0 d0) from (OwnJ.jv _ hO).more (fun k hk _ => by have := hB.out.size; omega))
  replace hN := Lib.hid (hN.out.keep (fun k _ hk => hb.block k hk))
  replace hB := Lib.hid (hB.out.trans (hb.mono hB.out.size))
  clear hb hO
  go_wp2_with fail
  refine (hOr.out s _ (hBx.out _ hB.out)).mono ?_
  rintro e w2 ⟨xn, xl, he, hO, hb⟩
  obtain ⟨A1, n1, c1, B1, m1, d1, rfl, rfl⟩ := hO.forms
  try dsimp only at he
  subst he
  have hJ1 := Lib.hid (show JV w2 (fun k => V.heap.size ≤ k) (someJ s) (.slice A1 n1 c1) (.slice B1 m1 d1) from (OwnJ.jv _ hO).more (fun k hk _ => by have := hB.out.size; omega))
  replace hJ0 := Lib.hid (hJ0.out.later hb)
  replace hN := Lib.hid (hN.out.keep (fun k _ hk => hb.block k hk))
  replace hB := Lib.hid (hB.out.trans (hb.mono hB.out.size))
  clear hb hO
  go_wp2_with fail
  refine (hOr.out t _ (hBx.out _ hB.out)).mono ?_
  rintro e w3 ⟨xn, xl, he, hO, hb⟩
  obtain ⟨A2, n2, c2, B2, m2, d2, rfl, rfl⟩ := hO.forms
  try dsimp only at he
  subst he
  have hJ2 := Lib.hid (show JV w3 (fun k => V.heap.size ≤ k) (someJ t) (.slice A2 n2 c2) (.slice B2 m2 d2) from (OwnJ.jv _ hO).more (fun k hk _ => by have := hB.out.size; omega))
  replace hJ0 := Lib.hid (hJ0.out.later hb)
  replace hJ1 := Lib.hid (hJ1.out.later hb)
  replace hN := Lib.hid (hN.out.keep (fun k _ hk => hb.block k hk))
  replace hB := Lib.hid (hB.out.trans (hb.mono hB.out.size))
  clear hb hO
  obtain ⟨wx, hwx⟩ : ∃ W, w3.alloc (.cells #[.int .u8 4, .string ⟨(ofNL n).toArray⟩, .slice A0 n0 c0, .slice B0 m0 d0, .int .u8 (someJ s).kind, .string (someJ s).text, .slice A1 n1 c1, .slice B1 m1 d1, .int .u8 (someJ t).kind, .string (someJ t).text, .slice A2 n2 c2, .slice B2 m2 d2] 25) = W := ⟨_, rfl⟩
  have hbx : Below w3.heap.size w3 wx := by rw [← hwx]; exact (Below.refl _ _).alloc (Nat.le_refl _) _
  have hR : pR wx V.heap.size [numJ n, someJ s, someJ t] (.slice (some ⟨w3.heap.size, 0, none⟩) 3 3) := by
    refine ⟨w3.heap.size, [((numJ n : Jsn), (Value.slice A0 n0 c0), (Value.slice B0 m0 d0)), ((someJ s : Jsn), (Value.slice A1 n1 c1), (Value.slice B1 m1 d1)), ((someJ t : Jsn), (Value.slice A2 n2 c2), (Value.slice B2 m2 d2))], rfl, hB.out.size, by rw [← hwx]; exact Cel.fresh _ _ _, rfl, fun z hz => ?_⟩
    simp at hz
    rcases hz with rfl | rfl | rfl
    · exact hJ0.out.later hbx
    · exact hJ1.out.later hbx
    · exact hJ2.out.later hbx
  have hN2 := hN.out.keep (fun k _ hk => hbx.block k hk)
  obtain ⟨gn, gl, e1, e2, hJ⟩ := obj_rows hN2 hR
  replace hB := Lib.hid (hB.out.trans (hbx.mono hB.out.size))
  replace hwx := Lib.hid hwx
  replace hJ := Lib.hid hJ
  clear hbx hN hN2 hR hJ0 hJ1 hJ2 e1 e2
  go_wp2_with fail
  rw [hwx.out]
  refine (refObj8_any wx (some ⟨w.heap.size + 1, 0, none⟩) 3 3 (some ⟨w3.heap.size, 0, none⟩) 3 3).mono ?_
  rintro e w9 ⟨rfl, hb⟩
  have hJ2 := Lib.hid (hJ.out.later hb)
  replace hB := Lib.hid (hB.out.trans (hb.mono hB.out.size))
  clear hb hwx hJ
  have hr := hCr.out.below hB.out (by omega)
  obtain ⟨p0, p1, p2, p3⟩ := hr.c4
  have s0 := hr.froz 0
  have s1 := hr.froz 1
  have s2 := hr.froz 2
  have s3 := hr.froz 3
  go_wp2_with fail
  refine bodyPost_ret (v := .agg #[.int .u8 7, .string ⟨#[]⟩, .slice (some ⟨w.heap.size + 1, 0, none⟩) 3 3, .slice (some ⟨w3.heap.size, 0, none⟩) 3 3]) (by simp [results, Tryz.results20, go_sem, p0, p1, p2, p3]) rfl ⟨_, _, rfl, ?_, ?_⟩
  · unfold shownJ
    refine (JV.keepB hJ2.out (by simp [World.setCell]) (fun b h1 _ => by rw [Below.heap_setCell _ _ _ _ (by simp; omega), Below.heap_setCell _ _ _ _ (by simp; omega), Below.heap_setCell _ _ _ _ (by simp; omega), Below.heap_setCell _ _ _ _ (by simp; omega)])).more (fun k hk _ => by omega)
  · exact ((((hBx.out _ hB.out).setCell (by simp) _).setCell (by simp) _).setCell (by simp) _).setCell (by simp) _
end Go.Proofs.YtghaoielnphhlaaGreatDoor
