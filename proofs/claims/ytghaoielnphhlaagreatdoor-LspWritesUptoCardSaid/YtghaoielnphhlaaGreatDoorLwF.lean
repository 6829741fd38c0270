/-
  The walks of lsp.Edits, Items, Shown, Log.
-/
import Derived.Test.YtghaoielnphhlaaGreatDoorLwE
namespace Go.Proofs.YtghaoielnphhlaaGreatDoor
open Go.RowKit

def editsJ (n : Int) (ps : List Pt) : Jsn := mkO [lVersion, lEdits] [numJ n, arrJ (ps.map editP)]
def itemsJ (n : Int) (ps : List Pt) : Jsn := mkO [lVersion, lItems] [numJ n, arrJ (ps.map itemP)]
def shownJ (n : Int) (s t : ByteArray) : Jsn := mkO [lVersion, lType, lValue] [numJ n, someJ s, someJ t]
def logJ (n : Int) (s : ByteArray) : Jsn := mkO [lCode, lMessage] [numJ n, strJ s]
theorem PRow.later {w w' : World} {g o : Nat} {ps : List Pt} (h : PRow w g o ps) (hb : Below w.heap.size w w') (hg : 0 < ps.length → g < w.heap.size) : PRow w' g o ps := fun i p hp j v hv => (hb.cell (p := ⟨g, o + i * 6 + j, none⟩) (hg (by have := (List.getElem?_eq_some_iff.1 hp).1; omega))).trans (h i p hp j v hv)
set_option maxRecDepth 100000 in
set_option maxHeartbeats 4000000 in
theorem lspEdits_any (n : Int) (ps : List Pt) (A : Option Addr) (g c : Nat) (w : World) (hE : Env w) (hn : I64 n) (hP : PRow w g 0 ps) (hA : 0 < ps.length → A = some ⟨g, 0, none⟩ ∧ g < w.heap.size) (hok : ∀ p ∈ ps, PtOK p) (hl : ps.length ≤ 1000) :
    Calls Tryz.prog 12 #[.int .i64 n, .slice A ps.length c] w (OwnJEnd (editsJ n ps) w) := by
  obtain ⟨V, hV⟩ : ∃ V, w.alloc (.cells #[.int .u8 0, .string ⟨#[]⟩, .slice none 0 0, .slice none 0 0] 25) = V := ⟨_, rfl⟩
  have hBV : Below w.heap.size w V := by rw [← hV]; exact (Below.refl _ _).alloc (Nat.le_refl _) _
  have hsV : V.heap.size = w.heap.size + 1 := by rw [← hV]; simp
  have hCr : Cel V w.heap.size 25 #[.int .u8 0, .string ⟨#[]⟩, .slice none 0 0, .slice none 0 0] := by rw [← hV]; exact Cel.fresh _ _ _
  have hNum := Lib.hid (fun (n : Int) (hn : I64 n) (W : World) (hb : Below w.heap.size w W) => lspNum_any n W (hE.below hb) hn.1 hn.2)
  have hList := Lib.hid (fun (W : World) (hb : Below w.heap.size w W) => lspListE_any ps A g c W (hE.below hb) (hP.later hb (fun h => (hA h).2)) (fun h => ⟨(hA h).1, Nat.lt_of_lt_of_le (hA h).2 hb.size⟩) hok hl)
  clear hE hP hok hl hA
  replace hV := Lib.hid hV
  go_enter Tryz.func12, Tryz.ntmps12
  go_upto_region 1 with fail
  rw [hV.out]
  clear hV
  have hB : Below V.heap.size V V := Below.refl _ _
  have hK0 := KidI.nil V V.heap.size
  replace hB := Lib.hid hB
  replace hCr := Lib.hid hCr
  replace hBV := Lib.hid hBV
  have hBx := Lib.hid (fun (W : World) (hS : Below V.heap.size V W) => hBV.out.trans (hS.mono hBV.out.size))
  go_wp2_with fail
  refine (hNum.out n hn _ (hBx.out _ hB.out)).mono ?_
  rintro e w1 ⟨xn, xl, he, hO, hb⟩
  obtain ⟨A0, n0, c0, B0, m0, d0, rfl, rfl⟩ := hO.forms
  unfold numJ at he
  dsimp only at he
  subst he
  have hK1 := hK0.snoc hB.out.size hb hO
  replace hB := Lib.hid (hB.out.trans (hb.mono hB.out.size))
  clear hb hO hK0
  go_wp2_with fail
  refine (hList.out _ (hBx.out _ hB.out)).mono ?_
  rintro e w2 ⟨xn, xl, he, hO, hb⟩
  obtain ⟨A1, n1, c1, B1, m1, d1, rfl, rfl⟩ := hO.forms
  unfold arrJ at he
  dsimp only at he
  subst he
  have hK2 := hK1.snoc hB.out.size hb hO
  replace hB := Lib.hid (hB.out.trans (hb.mono hB.out.size))
  clear hb hO hK1
  obtain ⟨wx, hwx⟩ : ∃ W, w2.alloc (.cells #[.string ⟨#[118, 101, 114, 115, 105, 111, 110]⟩, .int .u8 4, .string ⟨(ofNL n).toArray⟩, .slice A0 n0 c0, .slice B0 m0 d0, .string ⟨#[101, 100, 105, 116, 115]⟩, .int .u8 6, .string ⟨#[]⟩, .slice A1 n1 c1, .slice B1 m1 d1] 84) = W := ⟨_, rfl⟩
  have hbx : Below w2.heap.size w2 wx := by rw [← hwx]; exact (Below.refl _ _).alloc (Nat.le_refl _) _
  have hM : Mem5 wx w2.heap.size [lVersion, lEdits] [numJ n, arrJ (ps.map editP)] [(.slice A0 n0 c0, .slice B0 m0 d0, V.heap.size, w1.heap.size), (.slice A1 n1 c1, .slice B1 m1 d1, w1.heap.size, w2.heap.size)] := by rw [← hwx]; exact mem5_2 w2 lVersion lEdits (numJ n) (arrJ (ps.map editP)) (.slice A0 n0 c0, .slice B0 m0 d0, V.heap.size, w1.heap.size) (.slice A1 n1 c1, .slice B1 m1 d1, w1.heap.size, w2.heap.size) 84
  have hsx : w2.heap.size < wx.heap.size := by rw [← hwx]; simp
  have hKx := hK2.later hbx
  simp only [List.nil_append, List.cons_append] at hKx
  replace hwx := Lib.hid hwx
  replace hB := Lib.hid (hB.out.trans (hbx.mono hB.out.size))
  clear hbx hK2
  go_wp2_with fail
  rw [hwx.out]
  refine (lspObject_any _ _ _ V.heap.size w2.heap.size 2 wx hM hsx hKx hB.out.size rfl (by simp)).mono ?_
  rintro e w9 ⟨xn, xl, he, hO, hb⟩
  obtain ⟨An, nn, cn, Al, nl, cl, rfl, rfl⟩ := hO.forms
  unfold mkO at he
  dsimp only at he
  subst he
  replace hB := Lib.hid (hB.out.trans (hb.mono hB.out.size))
  clear hb hM hKx hwx
  have hr := hCr.out.below hB.out (by omega)
  have hO2 := Lib.hid hO
  clear hO
  obtain ⟨p0, p1, p2, p3⟩ := hr.c4
  have s0 := hr.froz 0
  have s1 := hr.froz 1
  have s2 := hr.froz 2
  have s3 := hr.froz 3
  go_wp2_with fail
  refine bodyPost_ret (v := .agg #[.int .u8 7, .string ⟨#[]⟩, .slice An nn cn, .slice Al nl cl]) (by simp [results, Tryz.results12, go_sem, p0, p1, p2, p3]) rfl ⟨_, _, rfl, ?_, ?_⟩
  · exact OwnJ.keep _ hO2.out (fun b h1 _ => by rw [Below.heap_setCell _ _ _ _ (by simp; omega), Below.heap_setCell _ _ _ _ (by simp; omega), Below.heap_setCell _ _ _ _ (by simp; omega), Below.heap_setCell _ _ _ _ (by simp; omega)]) (by omega) (by simp [World.setCell])
  · exact ((((hBx.out _ hB.out).setCell (by simp) _).setCell (by simp) _).setCell (by simp) _).setCell (by simp) _
set_option maxRecDepth 100000 in
set_option maxHeartbeats 4000000 in
theorem lspItems_any (n : Int) (ps : List Pt) (A : Option Addr) (g c : Nat) (w : World) (hE : Env w) (hn : I64 n) (hP : PRow w g 0 ps) (hA : 0 < ps.length → A = some ⟨g, 0, none⟩ ∧ g < w.heap.size) (hok : ∀ p ∈ ps, PtOK p) (hl : ps.length ≤ 1000) :
    Calls Tryz.prog 17 #[.int .i64 n, .slice A ps.length c] w (OwnJEnd (itemsJ n ps) w) := by
  obtain ⟨V, hV⟩ : ∃ V, w.alloc (.cells #[.int .u8 0, .string ⟨#[]⟩, .slice none 0 0, .slice none 0 0] 25) = V := ⟨_, rfl⟩
  have hBV : Below w.heap.size w V := by rw [← hV]; exact (Below.refl _ _).alloc (Nat.le_refl _) _
  have hsV : V.heap.size = w.heap.size + 1 := by rw [← hV]; simp
  have hCr : Cel V w.heap.size 25 #[.int .u8 0, .string ⟨#[]⟩, .slice none 0 0, .slice none 0 0] := by rw [← hV]; exact Cel.fresh _ _ _
  have hNum := Lib.hid (fun (n : Int) (hn : I64 n) (W : World) (hb : Below w.heap.size w W) => lspNum_any n W (hE.below hb) hn.1 hn.2)
  have hList := Lib.hid (fun (W : World) (hb : Below w.heap.size w W) => lspListI_any ps A g c W (hE.below hb) (hP.later hb (fun h => (hA h).2)) (fun h => ⟨(hA h).1, Nat.lt_of_lt_of_le (hA h).2 hb.size⟩) hok hl)
  clear hE hP hok hl hA
  replace hV := Lib.hid hV
  go_enter Tryz.func17, Tryz.ntmps17
  go_upto_region 1 with fail
  rw [hV.out]
  clear hV
  have hB : Below V.heap.size V V := Below.refl _ _
  have hK0 := KidI.nil V V.heap.size
  replace hB := Lib.hid hB
  replace hCr := Lib.hid hCr
  replace hBV := Lib.hid hBV
  have hBx := Lib.hid (fun (W : World) (hS : Below V.heap.size V W) => hBV.out.trans (hS.mono hBV.out.size))
  go_wp2_with fail
  refine (hNum.out n hn _ (hBx.out _ hB.out)).mono ?_
  rintro e w1 ⟨xn, xl, he, hO, hb⟩
  obtain ⟨A0, n0, c0, B0, m0, d0, rfl, rfl⟩ := hO.forms
  unfold numJ at he
  dsimp only at he
  subst he
  have hK1 := hK0.snoc hB.out.size hb hO
  replace hB := Lib.hid (hB.out.trans (hb.mono hB.out.size))
  clear hb hO hK0
  go_wp2_with fail
  refine (hList.out _ (hBx.out _ hB.out)).mono ?_
  rintro e w2 ⟨xn, xl, he, hO, hb⟩
  obtain ⟨A1, n1, c1, B1, m1, d1, rfl, rfl⟩ := hO.forms
  unfold arrJ at he
  dsimp only at he
  subst he
  have hK2 := hK1.snoc hB.out.size hb hO
  replace hB := Lib.hid (hB.out.trans (hb.mono hB.out.size))
  clear hb hO hK1
  obtain ⟨wx, hwx⟩ : ∃ W, w2.alloc (.cells #[.string ⟨#[118, 101, 114, 115, 105, 111, 110]⟩, .int .u8 4, .string ⟨(ofNL n).toArray⟩, .slice A0 n0 c0, .slice B0 m0 d0, .string ⟨#[105, 116, 101, 109, 115]⟩, .int .u8 6, .string ⟨#[]⟩, .slice A1 n1 c1, .slice B1 m1 d1] 84) = W := ⟨_, rfl⟩
  have hbx : Below w2.heap.size w2 wx := by rw [← hwx]; exact (Below.refl _ _).alloc (Nat.le_refl _) _
  have hM : Mem5 wx w2.heap.size [lVersion, lItems] [numJ n, arrJ (ps.map itemP)] [(.slice A0 n0 c0, .slice B0 m0 d0, V.heap.size, w1.heap.size), (.slice A1 n1 c1, .slice B1 m1 d1, w1.heap.size, w2.heap.size)] := by rw [← hwx]; exact mem5_2 w2 lVersion lItems (numJ n) (arrJ (ps.map itemP)) (.slice A0 n0 c0, .slice B0 m0 d0, V.heap.size, w1.heap.size) (.slice A1 n1 c1, .slice B1 m1 d1, w1.heap.size, w2.heap.size) 84
  have hsx : w2.heap.size < wx.heap.size := by rw [← hwx]; simp
  have hKx := hK2.later hbx
  simp only [List.nil_append, List.cons_append] at hKx
  replace hwx := Lib.hid hwx
  replace hB := Lib.hid (hB.out.trans (hbx.mono hB.out.size))
  clear hbx hK2
  go_wp2_with fail
  rw [hwx.out]
  refine (lspObject_any _ _ _ V.heap.size w2.heap.size 2 wx hM hsx hKx hB.out.size rfl (by simp)).mono ?_
  rintro e w9 ⟨xn, xl, he, hO, hb⟩
  obtain ⟨An, nn, cn, Al, nl, cl, rfl, rfl⟩ := hO.forms
  unfold mkO at he
  dsimp only at he
  subst he
  replace hB := Lib.hid (hB.out.trans (hb.mono hB.out.size))
  clear hb hM hKx hwx
  have hr := hCr.out.below hB.out (by omega)
  have hO2 := Lib.hid hO
  clear hO
  obtain ⟨p0, p1, p2, p3⟩ := hr.c4
  have s0 := hr.froz 0
  have s1 := hr.froz 1
  have s2 := hr.froz 2
  have s3 := hr.froz 3
  go_wp2_with fail
  refine bodyPost_ret (v := .agg #[.int .u8 7, .string ⟨#[]⟩, .slice An nn cn, .slice Al nl cl]) (by simp [results, Tryz.results17, go_sem, p0, p1, p2, p3]) rfl ⟨_, _, rfl, ?_, ?_⟩
  · exact OwnJ.keep _ hO2.out (fun b h1 _ => by rw [Below.heap_setCell _ _ _ _ (by simp; omega), Below.heap_setCell _ _ _ _ (by simp; omega), Below.heap_setCell _ _ _ _ (by simp; omega), Below.heap_setCell _ _ _ _ (by simp; omega)]) (by omega) (by simp [World.setCell])
  · exact ((((hBx.out _ hB.out).setCell (by simp) _).setCell (by simp) _).setCell (by simp) _).setCell (by simp) _
set_option maxRecDepth 100000 in
set_option maxHeartbeats 4000000 in
theorem lspShown_any (n : Int) (s t : ByteArray) (w : World) (hE : Env w) (hn : I64 n) :
    Calls Tryz.prog 19 #[.int .i64 n, .string s, .string t] w (OwnJEnd (shownJ n s t) w) := by
  obtain ⟨V, hV⟩ : ∃ V, w.alloc (.cells #[.int .u8 0, .string ⟨#[]⟩, .slice none 0 0, .slice none 0 0] 25) = V := ⟨_, rfl⟩
  have hBV : Below w.heap.size w V := by rw [← hV]; exact (Below.refl _ _).alloc (Nat.le_refl _) _
  have hsV : V.heap.size = w.heap.size + 1 := by rw [← hV]; simp
  have hCr : Cel V w.heap.size 25 #[.int .u8 0, .string ⟨#[]⟩, .slice none 0 0, .slice none 0 0] := by rw [← hV]; exact Cel.fresh _ _ _
  have hNum := Lib.hid (fun (n : Int) (hn : I64 n) (W : World) (hb : Below w.heap.size w W) => lspNum_any n W (hE.below hb) hn.1 hn.2)
  have hSome := Lib.hid (fun (s : ByteArray) (W : World) (_ : Below w.heap.size w W) => lspSome_any s W)
  clear hE
  replace hV := Lib.hid hV
  go_enter Tryz.func19, Tryz.ntmps19
  go_upto_region 1 with fail
  rw [hV.out]
  clear hV
  have hB : Below V.heap.size V V := Below.refl _ _
  have hK0 := KidI.nil V V.heap.size
  replace hB := Lib.hid hB
  replace hCr := Lib.hid hCr
  replace hBV := Lib.hid hBV
  have hBx := Lib.hid (fun (W : World) (hS : Below V.heap.size V W) => hBV.out.trans (hS.mono hBV.out.size))
  go_wp2_with fail
  refine (hNum.out n hn _ (hBx.out _ hB.out)).mono ?_
  rintro e w1 ⟨xn, xl, he, hO, hb⟩
  obtain ⟨A0, n0, c0, B0, m0, d0, rfl, rfl⟩ := hO.forms
  unfold numJ at he
  dsimp only at he
  subst he
  have hK1 := hK0.snoc hB.out.size hb hO
  replace hB := Lib.hid (hB.out.trans (hb.mono hB.out.size))
  clear hb hO hK0
  go_wp2_with fail
  refine (hSome.out s _ (hBx.out _ hB.out)).mono ?_
  rintro e w2 ⟨xn, xl, he, hO, hb⟩
  obtain ⟨A1, n1, c1, B1, m1, d1, rfl, rfl⟩ := hO.forms
  subst he
  have hK2 := hK1.snoc hB.out.size hb hO
  replace hB := Lib.hid (hB.out.trans (hb.mono hB.out.size))
  clear hb hO hK1
  go_wp2_with fail
  refine (hSome.out t _ (hBx.out _ hB.out)).mono ?_
  rintro e w3 ⟨xn, xl, he, hO, hb⟩
  obtain ⟨A2, n2, c2, B2, m2, d2, rfl, rfl⟩ := hO.forms
  subst he
  have hK3 := hK2.snoc hB.out.size hb hO
  replace hB := Lib.hid (hB.out.trans (hb.mono hB.out.size))
  clear hb hO hK2
  obtain ⟨wx, hwx⟩ : ∃ W, w3.alloc (.cells #[.string ⟨#[118, 101, 114, 115, 105, 111, 110]⟩, .int .u8 4, .string ⟨(ofNL n).toArray⟩, .slice A0 n0 c0, .slice B0 m0 d0, .string ⟨#[116, 121, 112, 101]⟩, .int .u8 (someJ s).kind, .string (someJ s).text, .slice A1 n1 c1, .slice B1 m1 d1, .string ⟨#[118, 97, 108, 117, 101]⟩, .int .u8 (someJ t).kind, .string (someJ t).text, .slice A2 n2 c2, .slice B2 m2 d2] 84) = W := ⟨_, rfl⟩
  have hbx : Below w3.heap.size w3 wx := by rw [← hwx]; exact (Below.refl _ _).alloc (Nat.le_refl _) _
  have hM : Mem5 wx w3.heap.size [lVersion, lType, lValue] [numJ n, someJ s, someJ t] [(.slice A0 n0 c0, .slice B0 m0 d0, V.heap.size, w1.heap.size), (.slice A1 n1 c1, .slice B1 m1 d1, w1.heap.size, w2.heap.size), (.slice A2 n2 c2, .slice B2 m2 d2, w2.heap.size, w3.heap.size)] := by rw [← hwx]; exact mem5_3 w3 lVersion lType lValue (numJ n) (someJ s) (someJ t) (.slice A0 n0 c0, .slice B0 m0 d0, V.heap.size, w1.heap.size) (.slice A1 n1 c1, .slice B1 m1 d1, w1.heap.size, w2.heap.size) (.slice A2 n2 c2, .slice B2 m2 d2, w2.heap.size, w3.heap.size) 84
  have hsx : w3.heap.size < wx.heap.size := by rw [← hwx]; simp
  have hKx := hK3.later hbx
  simp only [List.nil_append, List.cons_append] at hKx
  replace hwx := Lib.hid hwx
  replace hB := Lib.hid (hB.out.trans (hbx.mono hB.out.size))
  clear hbx hK3
  go_wp2_with fail
  rw [hwx.out]
  refine (lspObject_any _ _ _ V.heap.size w3.heap.size 3 wx hM hsx hKx hB.out.size rfl (by simp)).mono ?_
  rintro e w9 ⟨xn, xl, he, hO, hb⟩
  obtain ⟨An, nn, cn, Al, nl, cl, rfl, rfl⟩ := hO.forms
  unfold mkO at he
  dsimp only at he
  subst he
  replace hB := Lib.hid (hB.out.trans (hb.mono hB.out.size))
  clear hb hM hKx hwx
  have hr := hCr.out.below hB.out (by omega)
  have hO2 := Lib.hid hO
  clear hO
  obtain ⟨p0, p1, p2, p3⟩ := hr.c4
  have s0 := hr.froz 0
  have s1 := hr.froz 1
  have s2 := hr.froz 2
  have s3 := hr.froz 3
  go_wp2_with fail
  refine bodyPost_ret (v := .agg #[.int .u8 7, .string ⟨#[]⟩, .slice An nn cn, .slice Al nl cl]) (by simp [results, Tryz.results19, go_sem, p0, p1, p2, p3]) rfl ⟨_, _, rfl, ?_, ?_⟩
  · exact OwnJ.keep _ hO2.out (fun b h1 _ => by rw [Below.heap_setCell _ _ _ _ (by simp; omega), Below.heap_setCell _ _ _ _ (by simp; omega), Below.heap_setCell _ _ _ _ (by simp; omega), Below.heap_setCell _ _ _ _ (by simp; omega)]) (by omega) (by simp [World.setCell])
  · exact ((((hBx.out _ hB.out).setCell (by simp) _).setCell (by simp) _).setCell (by simp) _).setCell (by simp) _
set_option maxRecDepth 100000 in
set_option maxHeartbeats 4000000 in
theorem lspLog_any (n : Int) (s : ByteArray) (w : World) (hE : Env w) (hn : I64 n) :
    Calls Tryz.prog 21 #[.int .i64 n, .string s] w (OwnJEnd (logJ n s) w) := by
  obtain ⟨V, hV⟩ : ∃ V, w.alloc (.cells #[.int .u8 0, .string ⟨#[]⟩, .slice none 0 0, .slice none 0 0] 25) = V := ⟨_, rfl⟩
  have hBV : Below w.heap.size w V := by rw [← hV]; exact (Below.refl _ _).alloc (Nat.le_refl _) _
  have hsV : V.heap.size = w.heap.size + 1 := by rw [← hV]; simp
  have hCr : Cel V w.heap.size 25 #[.int .u8 0, .string ⟨#[]⟩, .slice none 0 0, .slice none 0 0] := by rw [← hV]; exact Cel.fresh _ _ _
  have hNum := Lib.hid (fun (n : Int) (hn : I64 n) (W : World) (hb : Below w.heap.size w W) => lspNum_any n W (hE.below hb) hn.1 hn.2)
  have hText := Lib.hid (fun (s : ByteArray) (W : World) (_ : Below w.heap.size w W) => lspText_any s W)
  clear hE
  replace hV := Lib.hid hV
  go_enter Tryz.func21, Tryz.ntmps21
  go_upto_region 1 with fail
  rw [hV.out]
  clear hV
  have hB : Below V.heap.size V V := Below.refl _ _
  have hK0 := KidI.nil V V.heap.size
  replace hB := Lib.hid hB
  replace hCr := Lib.hid hCr
  replace hBV := Lib.hid hBV
  have hBx := Lib.hid (fun (W : World) (hS : Below V.heap.size V W) => hBV.out.trans (hS.mono hBV.out.size))
  go_wp2_with fail
  refine (hNum.out n hn _ (hBx.out _ hB.out)).mono ?_
  rintro e w1 ⟨xn, xl, he, hO, hb⟩
  obtain ⟨A0, n0, c0, B0, m0, d0, rfl, rfl⟩ := hO.forms
  unfold numJ at he
  dsimp only at he
  subst he
  have hK1 := hK0.snoc hB.out.size hb hO
  replace hB := Lib.hid (hB.out.trans (hb.mono hB.out.size))
  clear hb hO hK0
  go_wp2_with fail
  refine (hText.out s _ (hBx.out _ hB.out)).mono ?_
  rintro e w2 ⟨xn, xl, he, hO, hb⟩
  obtain ⟨A1, n1, c1, B1, m1, d1, rfl, rfl⟩ := hO.forms
  unfold strJ at he
  dsimp only at he
  subst he
  have hK2 := hK1.snoc hB.out.size hb hO
  replace hB := Lib.hid (hB.out.trans (hb.mono hB.out.size))
  clear hb hO hK1
  obtain ⟨wx, hwx⟩ : ∃ W, w2.alloc (.cells #[.string ⟨#[99, 111, 100, 101]⟩, .int .u8 4, .string ⟨(ofNL n).toArray⟩, .slice A0 n0 c0, .slice B0 m0 d0, .string ⟨#[109, 101, 115, 115, 97, 103, 101]⟩, .int .u8 5, .string s, .slice A1 n1 c1, .slice B1 m1 d1] 84) = W := ⟨_, rfl⟩
  have hbx : Below w2.heap.size w2 wx := by rw [← hwx]; exact (Below.refl _ _).alloc (Nat.le_refl _) _
  have hM : Mem5 wx w2.heap.size [lCode, lMessage] [numJ n, strJ s] [(.slice A0 n0 c0, .slice B0 m0 d0, V.heap.size, w1.heap.size), (.slice A1 n1 c1, .slice B1 m1 d1, w1.heap.size, w2.heap.size)] := by rw [← hwx]; exact mem5_2 w2 lCode lMessage (numJ n) (strJ s) (.slice A0 n0 c0, .slice B0 m0 d0, V.heap.size, w1.heap.size) (.slice A1 n1 c1, .slice B1 m1 d1, w1.heap.size, w2.heap.size) 84
  have hsx : w2.heap.size < wx.heap.size := by rw [← hwx]; simp
  have hKx := hK2.later hbx
  simp only [List.nil_append, List.cons_append] at hKx
  replace hwx := Lib.hid hwx
  replace hB := Lib.hid (hB.out.trans (hbx.mono hB.out.size))
  clear hbx hK2
  go_wp2_with fail
  rw [hwx.out]
  refine (lspObject_any _ _ _ V.heap.size w2.heap.size 2 wx hM hsx hKx hB.out.size rfl (by simp)).mono ?_
  rintro e w9 ⟨xn, xl, he, hO, hb⟩
  obtain ⟨An, nn, cn, Al, nl, cl, rfl, rfl⟩ := hO.forms
  unfold mkO at he
  dsimp only at he
  subst he
  replace hB := Lib.hid (hB.out.trans (hb.mono hB.out.size))
  clear hb hM hKx hwx
  have hr := hCr.out.below hB.out (by omega)
  have hO2 := Lib.hid hO
  clear hO
  obtain ⟨p0, p1, p2, p3⟩ := hr.c4
  have s0 := hr.froz 0
  have s1 := hr.froz 1
  have s2 := hr.froz 2
  have s3 := hr.froz 3
  go_wp2_with fail
  refine bodyPost_ret (v := .agg #[.int .u8 7, .string ⟨#[]⟩, .slice An nn cn, .slice Al nl cl]) (by simp [results, Tryz.results21, go_sem, p0, p1, p2, p3]) rfl ⟨_, _, rfl, ?_, ?_⟩
  · exact OwnJ.keep _ hO2.out (fun b h1 _ => by rw [Below.heap_setCell _ _ _ _ (by simp; omega), Below.heap_setCell _ _ _ _ (by simp; omega), Below.heap_setCell _ _ _ _ (by simp; omega), Below.heap_setCell _ _ _ _ (by simp; omega)]) (by omega) (by simp [World.setCell])
  · exact ((((hBx.out _ hB.out).setCell (by simp) _).setCell (by simp) _).setCell (by simp) _).setCell (by simp) _
end Go.Proofs.YtghaoielnphhlaaGreatDoor
