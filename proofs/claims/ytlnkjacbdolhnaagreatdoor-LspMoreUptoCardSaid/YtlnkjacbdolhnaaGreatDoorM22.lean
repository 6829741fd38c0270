/-
  The walks of lsp.pos and its kind: objects of members made in turn.
-/
import Derived.Test.YtlnkjacbdolhnaaGreatDoorM21
namespace Go.Proofs.YtlnkjacbdolhnaaGreatDoor
open Go.RowKit

def lLine : ByteArray := ⟨#[108, 105, 110, 101]⟩
def lCharacter : ByteArray := ⟨#[99, 104, 97, 114, 97, 99, 116, 101, 114]⟩
def lStart : ByteArray := ⟨#[115, 116, 97, 114, 116]⟩
def lEnd : ByteArray := ⟨#[101, 110, 100]⟩
def lRange : ByteArray := ⟨#[114, 97, 110, 103, 101]⟩
def lNewText : ByteArray := ⟨#[110, 101, 119, 84, 101, 120, 116]⟩
def lCode : ByteArray := ⟨#[99, 111, 100, 101]⟩
def lMessage : ByteArray := ⟨#[109, 101, 115, 115, 97, 103, 101]⟩
def lVersion : ByteArray := ⟨#[118, 101, 114, 115, 105, 111, 110]⟩
def lEdits : ByteArray := ⟨#[101, 100, 105, 116, 115]⟩
def lItems : ByteArray := ⟨#[105, 116, 101, 109, 115]⟩
def lType : ByteArray := ⟨#[116, 121, 112, 101]⟩
def lValue : ByteArray := ⟨#[118, 97, 108, 117, 101]⟩
theorem mem5_2 (w : World) (n0 n1 : ByteArray) (x0 x1 : Jsn) (u0 u1 : OE) (t : TypeId) : Mem5 (w.alloc (.cells #[.string n0, .int .u8 x0.kind, .string x0.text, u0.1, u0.2.1, .string n1, .int .u8 x1.kind, .string x1.text, u1.1, u1.2.1] t)) w.heap.size [n0, n1] [x0, x1] [u0, u1] := by
  have hC := Cel.fresh w t #[.string n0, .int .u8 x0.kind, .string x0.text, u0.1, u0.2.1, .string n1, .int .u8 x1.kind, .string x1.text, u1.1, u1.2.1]
  intro i nm x u h1 h2 h3
  match i with
  | 0 =>
    simp at h1 h2 h3
    subst h1
    subst h2
    subst h3
    exact ⟨hC.cell 0, hC.cell 1, hC.cell 2, hC.cell 3, hC.cell 4⟩
  | 1 =>
    simp at h1 h2 h3
    subst h1
    subst h2
    subst h3
    exact ⟨hC.cell 5, hC.cell 6, hC.cell 7, hC.cell 8, hC.cell 9⟩
  | n + 2 => simp at h1
def posJ (a b : Int) : Jsn := mkO [lLine, lCharacter] [numJ a, numJ b]
def rangeJ (a b c d : Int) : Jsn := mkO [lStart, lEnd] [posJ a b, posJ c d]
/-- A whole number of 64 bits. -/
def I64 (n : Int) : Prop := -9223372036854775808 ≤ n ∧ n ≤ 9223372036854775807
def editJ (a b c d : Int) (s : ByteArray) : Jsn := mkO [lRange, lNewText] [rangeJ a b c d, strJ s]
def itemJ (a b c d k : Int) (s : ByteArray) : Jsn := mkO [lRange, lCode, lMessage] [rangeJ a b c d, numJ k, strJ s]
theorem Cel.rngAt {w : World} {b : Nat} {t : TypeId} {l : List Value} (o : Nat) (cs : List Value) (h : Cel w b t l.toArray) (hc : ∀ (j : Nat) v, cs[j]? = some v → l[o + j]? = some v) : w.rangeAt b o cs := fun j v hv => by rw [h.cell]; simpa using hc j v hv
theorem sub2 {α : Type} {x0 x1 : α} {l : List α} {o : Nat} (h0 : l[o]? = some x0) (h1 : l[o + 1]? = some x1) : ∀ (j : Nat) v, [x0, x1][j]? = some v → l[o + j]? = some v := fun j v hv => by
  match j with
  | 0 => simp at hv; subst hv; exact h0
  | 1 => simp at hv; subst hv; exact h1
  | n + 2 => simp at hv
theorem posInfo : (Tryz.prog.info? 29).map (·.size) = some 2 := by kernel_rfl
theorem posDesc : ∃ d, Tryz.prog.underlying 29 = some d ∧ d.isRow = true := ⟨_, Tryz.underlying29, rfl⟩
set_option maxRecDepth 100000 in
set_option maxHeartbeats 4000000 in
theorem lspPos_any (a b : Int) (w : World) (hE : Env w) (ha : I64 a) (hb2 : I64 b) :
    Calls Tryz.prog 124 #[.agg #[.int .i64 a, .int .i64 b]] w (OwnJEnd (posJ a b) w) := by
  obtain ⟨V, hV⟩ : ∃ V, (w.alloc (.cells #[.int .i64 a, .int .i64 b] 29)).alloc (.cells #[.int .u8 0, .string ⟨#[]⟩, .slice none 0 0, .slice none 0 0] 25) = V := ⟨_, rfl⟩
  have hBV : Below w.heap.size w V := by rw [← hV]; exact ((Below.refl _ _).alloc (Nat.le_refl _) _).alloc (by simp) _
  have hsV : V.heap.size = w.heap.size + 2 := by rw [← hV]; simp
  have hCp : Cel V w.heap.size 29 #[.int .i64 a, .int .i64 b] := by rw [← hV]; exact (Cel.fresh _ _ _).alloc _
  have hCr : Cel V (w.heap.size + 1) 25 #[.int .u8 0, .string ⟨#[]⟩, .slice none 0 0, .slice none 0 0] := by
    rw [← hV]
    have := Cel.fresh (w.alloc (.cells #[.int .i64 a, .int .i64 b] 29)) 25 #[.int .u8 0, .string ⟨#[]⟩, .slice none 0 0, .slice none 0 0]
    simpa using this
  have hNum := Lib.hid (fun (n : Int) (hn : I64 n) (W : World) (hb : Below w.heap.size w W) => lspNum_any n W (hE.below hb) hn.1 hn.2)
  clear hE 
  replace hV := Lib.hid hV
  go_enter Tryz.func124, Tryz.ntmps124
  go_upto_region 1 with fail
  rw [hV.out]
  clear hV

  refine wp_region_held_drew (S := fun W => Cel W w.heap.size 29 #[.int .i64 a, .int .i64 b]) (by kernel_rfl) hCp.drew (fun hS => ?_)
  try dsimp only at hS
  have hB : Below V.heap.size V V.drew := bel_drew (Below.refl _ _)
  have hK0 := KidI.nil V.drew V.heap.size
  replace hB := Lib.hid hB
  replace hCp := Lib.hid hCp
  replace hCr := Lib.hid hCr
  replace hBV := Lib.hid hBV
  have hBx := Lib.hid (fun (W : World) (hS : Below V.heap.size V W) => hBV.out.trans (hS.mono hBV.out.size))
  refine hTake (i := 0) (v := .pointer (some ⟨w.heap.size, 0, none⟩)) rfl (by kernel_rfl) (by kernel_rfl) (by kernel_rfl) (fun _ _ _ h => h) (Or.inl ⟨by rfl, by
    intro w' hSw
    go_simp⟩) hS ?_
  try simp only [Act.put, List.setIfInBounds_toArray, List.set_cons_zero, List.set_cons_succ]
  refine hTake (i := 1) (v := .int .i64 a) rfl (by kernel_rfl) (by kernel_rfl) (by kernel_rfl) (fun _ _ _ h => h) (Or.inl ⟨by rfl, by
    intro w' hSw
    have c0 := hSw.cell 0
    simp only [List.getElem?_toArray, List.getElem?_cons_zero] at c0
    go_simp⟩) hS ?_
  try simp only [Act.put, List.setIfInBounds_toArray, List.set_cons_zero, List.set_cons_succ]
  refine hTake (i := 4) (v := .pointer (some ⟨w.heap.size, 1, none⟩)) rfl (by kernel_rfl) (by kernel_rfl) (by kernel_rfl) (fun _ _ _ h => h) (Or.inl ⟨by rfl, by
    intro w' hSw
    go_simp⟩) hS ?_
  try simp only [Act.put, List.setIfInBounds_toArray, List.set_cons_zero, List.set_cons_succ]
  refine hTake (i := 5) (v := .int .i64 b) rfl (by kernel_rfl) (by kernel_rfl) (by kernel_rfl) (fun _ _ _ h => h) (Or.inl ⟨by rfl, by
    intro w' hSw
    have c0 := hSw.cell 1
    simp only [List.getElem?_toArray, List.getElem?_cons_zero, List.getElem?_cons_succ] at c0
    go_simp⟩) hS ?_
  try simp only [Act.put, List.setIfInBounds_toArray, List.set_cons_zero, List.set_cons_succ]
  refine hOne (i := 2) (by kernel_rfl) rfl (fun K hK => ?_)
  go_simp
  refine (hNum.out a ha _ (hBx.out _ hB.out)).mono ?_
  rintro e w1 ⟨xn, xl, he, hO, hb⟩
  obtain ⟨A0, n0, c0, B0, m0, d0, rfl, rfl⟩ := hO.forms
  unfold numJ at he
  dsimp only at he
  subst he
  have hK1 := hK0.snoc hB.out.size hb hO
  replace hB := Lib.hid (hB.out.trans (hb.mono hB.out.size))
  have hS1 : Cel w1 w.heap.size 29 #[.int .i64 a, .int .i64 b] := hS.below hb hS.lt
  clear hS hb hO hK0
  have hS := hS1
  clear hS1
  refine hK.out _ _ hS ?_
  clear hK
  try simp only [Act.put, List.setIfInBounds_toArray, List.set_cons_zero, List.set_cons_succ]
  refine hTake (i := 3) (v := .agg #[.string ⟨#[108, 105, 110, 101]⟩, .int .u8 4, .string ⟨(ofNL a).toArray⟩, .slice A0 n0 c0, .slice B0 m0 d0]) rfl (by kernel_rfl) (by kernel_rfl) (by kernel_rfl) (fun _ _ _ h => h) (Or.inl ⟨by rfl, by
    intro w' hSw
    go_simp⟩) hS ?_
  try simp only [Act.put, List.setIfInBounds_toArray, List.set_cons_zero, List.set_cons_succ]
  refine hOne (i := 6) (by kernel_rfl) rfl (fun K hK => ?_)
  go_simp
  refine (hNum.out b hb2 _ (hBx.out _ hB.out)).mono ?_
  rintro e w2 ⟨xn, xl, he, hO, hb⟩
  obtain ⟨A1, n1, c1, B1, m1, d1, rfl, rfl⟩ := hO.forms
  unfold numJ at he
  dsimp only at he
  subst he
  have hK2 := hK1.snoc hB.out.size hb hO
  replace hB := Lib.hid (hB.out.trans (hb.mono hB.out.size))
  have hS2 : Cel w2 w.heap.size 29 #[.int .i64 a, .int .i64 b] := hS.below hb hS.lt
  clear hS hb hO hK1
  have hS := hS2
  clear hS2
  refine hK.out _ _ hS ?_
  clear hK
  try simp only [Act.put, List.setIfInBounds_toArray, List.set_cons_zero, List.set_cons_succ]
  refine hTake (i := 7) (v := .agg #[.string ⟨#[99, 104, 97, 114, 97, 99, 116, 101, 114]⟩, .int .u8 4, .string ⟨(ofNL b).toArray⟩, .slice A1 n1 c1, .slice B1 m1 d1]) rfl (by kernel_rfl) (by kernel_rfl) (by kernel_rfl) (fun _ _ _ h => h) (Or.inl ⟨by rfl, by
    intro w' hSw
    go_simp⟩) hS ?_
  try simp only [Act.put, List.setIfInBounds_toArray, List.set_cons_zero, List.set_cons_succ]
  refine hOne (i := 8) (by kernel_rfl) rfl (fun K hK => ?_)
  obtain ⟨wx, hwx⟩ : ∃ W, w2.alloc (.cells #[.string ⟨#[108, 105, 110, 101]⟩, .int .u8 4, .string ⟨(ofNL a).toArray⟩, .slice A0 n0 c0, .slice B0 m0 d0, .string ⟨#[99, 104, 97, 114, 97, 99, 116, 101, 114]⟩, .int .u8 4, .string ⟨(ofNL b).toArray⟩, .slice A1 n1 c1, .slice B1 m1 d1] 127) = W := ⟨_, rfl⟩
  have hbx : Below w2.heap.size w2 wx := by rw [← hwx]; exact (Below.refl _ _).alloc (Nat.le_refl _) _
  have hM : Mem5 wx w2.heap.size [lLine, lCharacter] [numJ a, numJ b] [(.slice A0 n0 c0, .slice B0 m0 d0, V.drew.heap.size, w1.heap.size), (.slice A1 n1 c1, .slice B1 m1 d1, w1.heap.size, w2.heap.size)] := by rw [← hwx]; exact mem5_2 w2 lLine lCharacter (numJ a) (numJ b) (.slice A0 n0 c0, .slice B0 m0 d0, V.drew.heap.size, w1.heap.size) (.slice A1 n1 c1, .slice B1 m1 d1, w1.heap.size, w2.heap.size) 127
  have hsx : w2.heap.size < wx.heap.size := by rw [← hwx]; simp
  have hKx := hK2.later hbx
  simp only [List.nil_append, List.cons_append] at hKx
  replace hwx := Lib.hid hwx
  go_simp
  rw [hwx.out]
  replace hB := Lib.hid (hB.out.trans (hbx.mono hB.out.size))
  have hSx : Cel wx w.heap.size 29 #[.int .i64 a, .int .i64 b] := hS.below hbx hS.lt
  clear hS hbx hK2 hwx
  have hS := hSx
  clear hSx
  refine hK.out _ _ hS ?_
  clear hK
  try simp only [Act.put, List.setIfInBounds_toArray, List.set_cons_zero, List.set_cons_succ]
  refine hOne (i := 9) (by kernel_rfl) rfl (fun K hK => ?_)
  go_simp
  refine (lspObject_any _ _ _ V.heap.size w2.heap.size 2 wx hM hsx hKx hB.out.size rfl (by simp)).mono ?_
  rintro e w9 ⟨xn, xl, he, hO, hb⟩
  obtain ⟨An, nn, cn, Al, nl, cl, rfl, rfl⟩ := hO.forms
  unfold mkO at he
  dsimp only at he
  subst he
  replace hB := Lib.hid (hB.out.trans (hb.mono hB.out.size))
  have hS9 : Cel w9 w.heap.size 29 #[.int .i64 a, .int .i64 b] := hS.below hb hS.lt
  clear hS hb hM hKx
  have hS := hS9
  clear hS9
  refine hK.out _ _ hS ?_
  clear hK
  try simp only [Act.put, List.setIfInBounds_toArray, List.set_cons_zero, List.set_cons_succ]
  have hr := hCr.out.below hB.out (by omega)
  have hO2 := Lib.hid hO
  clear hO
  obtain ⟨p0, p1, p2, p3⟩ := hr.c4
  have s0 := hr.froz 0
  have s1 := hr.froz 1
  have s2 := hr.froz 2
  have s3 := hr.froz 3
  refine hOne (i := 10) (by kernel_rfl) rfl (fun K hK => ?_)
  go_simp
  refine hK.out _ _ ((((hS.away (by simp) _).away (by simp) _).away (by simp) _).away (by simp) _) ?_
  clear hK
  refine wpAnyH_done (by kernel_rfl) ?_ _
  go_wp2_with fail
  refine bodyPost_ret (v := .agg #[.int .u8 7, .string ⟨#[]⟩, .slice An nn cn, .slice Al nl cl]) (by simp [results, Tryz.results124, go_sem, p0, p1, p2, p3]) rfl ⟨_, _, rfl, ?_, ?_⟩
  · exact OwnJ.keep _ hO2.out (fun b h1 _ => by rw [Below.heap_setCell _ _ _ _ (by simp; omega), Below.heap_setCell _ _ _ _ (by simp; omega), Below.heap_setCell _ _ _ _ (by simp; omega), Below.heap_setCell _ _ _ _ (by simp; omega)]) (by omega) (by simp [World.setCell])
  · exact ((((hBx.out _ hB.out).setCell (by simp) _).setCell (by simp) _).setCell (by simp) _).setCell (by simp) _
set_option maxRecDepth 100000 in
set_option maxHeartbeats 4000000 in
theorem lspRanged_any (a b c d : Int) (w : World) (hE : Env w) (ha : I64 a) (hb2 : I64 b) (hc : I64 c) (hd : I64 d) :
    Calls Tryz.prog 64 #[.agg #[.int .i64 a, .int .i64 b, .int .i64 c, .int .i64 d]] w (OwnJEnd (rangeJ a b c d) w) := by
  obtain ⟨V, hV⟩ : ∃ V, (w.alloc (.cells #[.int .i64 a, .int .i64 b, .int .i64 c, .int .i64 d] 80)).alloc (.cells #[.int .u8 0, .string ⟨#[]⟩, .slice none 0 0, .slice none 0 0] 25) = V := ⟨_, rfl⟩
  have hBV : Below w.heap.size w V := by rw [← hV]; exact ((Below.refl _ _).alloc (Nat.le_refl _) _).alloc (by simp) _
  have hsV : V.heap.size = w.heap.size + 2 := by rw [← hV]; simp
  have hCp : Cel V w.heap.size 80 #[.int .i64 a, .int .i64 b, .int .i64 c, .int .i64 d] := by rw [← hV]; exact (Cel.fresh _ _ _).alloc _
  have hCr : Cel V (w.heap.size + 1) 25 #[.int .u8 0, .string ⟨#[]⟩, .slice none 0 0, .slice none 0 0] := by
    rw [← hV]
    have := Cel.fresh (w.alloc (.cells #[.int .i64 a, .int .i64 b, .int .i64 c, .int .i64 d] 80)) 25 #[.int .u8 0, .string ⟨#[]⟩, .slice none 0 0, .slice none 0 0]
    simpa using this
  have hPos := Lib.hid (fun (a b : Int) (ha : I64 a) (hc : I64 b) (W : World) (hb : Below w.heap.size w W) => lspPos_any a b W (hE.below hb) ha hc)
  obtain ⟨dp, hdp⟩ := posDesc
  replace hdp := Lib.hid hdp
  clear hE 
  replace hV := Lib.hid hV
  go_enter Tryz.func64, Tryz.ntmps64
  go_upto_region 1 with fail
  rw [hV.out]
  clear hV

  refine wp_region_held_drew (S := fun W => Cel W w.heap.size 80 #[.int .i64 a, .int .i64 b, .int .i64 c, .int .i64 d]) (by kernel_rfl) hCp.drew (fun hS => ?_)
  try dsimp only at hS
  have hB : Below V.heap.size V V.drew := bel_drew (Below.refl _ _)
  have hK0 := KidI.nil V.drew V.heap.size
  replace hB := Lib.hid hB
  replace hCp := Lib.hid hCp
  replace hCr := Lib.hid hCr
  replace hBV := Lib.hid hBV
  have hBx := Lib.hid (fun (W : World) (hS : Below V.heap.size V W) => hBV.out.trans (hS.mono hBV.out.size))
  refine hTake (i := 0) (v := .pointer (some ⟨w.heap.size, 0, none⟩)) rfl (by kernel_rfl) (by kernel_rfl) (by kernel_rfl) (fun _ _ _ h => h) (Or.inl ⟨by rfl, by
    intro w' hSw
    go_simp⟩) hS ?_
  try simp only [Act.put, List.setIfInBounds_toArray, List.set_cons_zero, List.set_cons_succ]
  refine hTake (i := 1) (v := .agg #[.int .i64 a, .int .i64 b]) rfl (by kernel_rfl) (by kernel_rfl) (by kernel_rfl) (fun _ _ _ h => h) (yieldsIf_load_mid (by rfl) 29 (.tmp 3) rfl w.heap.size 0 (by rfl) [.int .i64 a, .int .i64 b] dp (fun W hW => Cel.rngAt 0 _ hW (sub2 rfl rfl)) hdp.out.1 hdp.out.2 posInfo) hS ?_
  try simp only [Act.put, List.setIfInBounds_toArray, List.set_cons_zero, List.set_cons_succ]
  refine hTake (i := 4) (v := .pointer (some ⟨w.heap.size, 2, none⟩)) rfl (by kernel_rfl) (by kernel_rfl) (by kernel_rfl) (fun _ _ _ h => h) (Or.inl ⟨by rfl, by
    intro w' hSw
    go_simp⟩) hS ?_
  try simp only [Act.put, List.setIfInBounds_toArray, List.set_cons_zero, List.set_cons_succ]
  refine hTake (i := 5) (v := .agg #[.int .i64 c, .int .i64 d]) rfl (by kernel_rfl) (by kernel_rfl) (by kernel_rfl) (fun _ _ _ h => h) (yieldsIf_load_mid (by rfl) 29 (.tmp 7) rfl w.heap.size 2 (by rfl) [.int .i64 c, .int .i64 d] dp (fun W hW => Cel.rngAt 2 _ hW (sub2 rfl rfl)) hdp.out.1 hdp.out.2 posInfo) hS ?_
  try simp only [Act.put, List.setIfInBounds_toArray, List.set_cons_zero, List.set_cons_succ]
  refine hOne (i := 2) (by kernel_rfl) rfl (fun K hK => ?_)
  go_simp
  refine (hPos.out a b ha hb2 _ (hBx.out _ hB.out)).mono ?_
  rintro e w1 ⟨xn, xl, he, hO, hb⟩
  obtain ⟨A0, n0, c0, B0, m0, d0, rfl, rfl⟩ := hO.forms
  unfold posJ mkO at he
  dsimp only at he
  subst he
  have hK1 := hK0.snoc hB.out.size hb hO
  replace hB := Lib.hid (hB.out.trans (hb.mono hB.out.size))
  have hS1 : Cel w1 w.heap.size 80 #[.int .i64 a, .int .i64 b, .int .i64 c, .int .i64 d] := hS.below hb hS.lt
  clear hS hb hO hK0
  have hS := hS1
  clear hS1
  refine hK.out _ _ hS ?_
  clear hK
  try simp only [Act.put, List.setIfInBounds_toArray, List.set_cons_zero, List.set_cons_succ]
  refine hTake (i := 3) (v := .agg #[.string ⟨#[115, 116, 97, 114, 116]⟩, .int .u8 7, .string ⟨#[]⟩, .slice A0 n0 c0, .slice B0 m0 d0]) rfl (by kernel_rfl) (by kernel_rfl) (by kernel_rfl) (fun _ _ _ h => h) (Or.inl ⟨by rfl, by
    intro w' hSw
    go_simp⟩) hS ?_
  try simp only [Act.put, List.setIfInBounds_toArray, List.set_cons_zero, List.set_cons_succ]
  refine hOne (i := 6) (by kernel_rfl) rfl (fun K hK => ?_)
  go_simp
  refine (hPos.out c d hc hd _ (hBx.out _ hB.out)).mono ?_
  rintro e w2 ⟨xn, xl, he, hO, hb⟩
  obtain ⟨A1, n1, c1, B1, m1, d1, rfl, rfl⟩ := hO.forms
  unfold posJ mkO at he
  dsimp only at he
  subst he
  have hK2 := hK1.snoc hB.out.size hb hO
  replace hB := Lib.hid (hB.out.trans (hb.mono hB.out.size))
  have hS2 : Cel w2 w.heap.size 80 #[.int .i64 a, .int .i64 b, .int .i64 c, .int .i64 d] := hS.below hb hS.lt
  clear hS hb hO hK1
  have hS := hS2
  clear hS2
  refine hK.out _ _ hS ?_
  clear hK
  try simp only [Act.put, List.setIfInBounds_toArray, List.set_cons_zero, List.set_cons_succ]
  refine hTake (i := 7) (v := .agg #[.string ⟨#[101, 110, 100]⟩, .int .u8 7, .string ⟨#[]⟩, .slice A1 n1 c1, .slice B1 m1 d1]) rfl (by kernel_rfl) (by kernel_rfl) (by kernel_rfl) (fun _ _ _ h => h) (Or.inl ⟨by rfl, by
    intro w' hSw
    go_simp⟩) hS ?_
  try simp only [Act.put, List.setIfInBounds_toArray, List.set_cons_zero, List.set_cons_succ]
  refine hOne (i := 8) (by kernel_rfl) rfl (fun K hK => ?_)
  obtain ⟨wx, hwx⟩ : ∃ W, w2.alloc (.cells #[.string ⟨#[115, 116, 97, 114, 116]⟩, .int .u8 7, .string ⟨#[]⟩, .slice A0 n0 c0, .slice B0 m0 d0, .string ⟨#[101, 110, 100]⟩, .int .u8 7, .string ⟨#[]⟩, .slice A1 n1 c1, .slice B1 m1 d1] 127) = W := ⟨_, rfl⟩
  have hbx : Below w2.heap.size w2 wx := by rw [← hwx]; exact (Below.refl _ _).alloc (Nat.le_refl _) _
  have hM : Mem5 wx w2.heap.size [lStart, lEnd] [posJ a b, posJ c d] [(.slice A0 n0 c0, .slice B0 m0 d0, V.drew.heap.size, w1.heap.size), (.slice A1 n1 c1, .slice B1 m1 d1, w1.heap.size, w2.heap.size)] := by rw [← hwx]; exact mem5_2 w2 lStart lEnd (posJ a b) (posJ c d) (.slice A0 n0 c0, .slice B0 m0 d0, V.drew.heap.size, w1.heap.size) (.slice A1 n1 c1, .slice B1 m1 d1, w1.heap.size, w2.heap.size) 127
  have hsx : w2.heap.size < wx.heap.size := by rw [← hwx]; simp
  have hKx := hK2.later hbx
  simp only [List.nil_append, List.cons_append] at hKx
  replace hwx := Lib.hid hwx
  go_simp
  rw [hwx.out]
  replace hB := Lib.hid (hB.out.trans (hbx.mono hB.out.size))
  have hSx : Cel wx w.heap.size 80 #[.int .i64 a, .int .i64 b, .int .i64 c, .int .i64 d] := hS.below hbx hS.lt
  clear hS hbx hK2 hwx
  have hS := hSx
  clear hSx
  refine hK.out _ _ hS ?_
  clear hK
  try simp only [Act.put, List.setIfInBounds_toArray, List.set_cons_zero, List.set_cons_succ]
  refine hOne (i := 9) (by kernel_rfl) rfl (fun K hK => ?_)
  go_simp
  refine (lspObject_any _ _ _ V.heap.size w2.heap.size 2 wx hM hsx hKx hB.out.size rfl (by simp)).mono ?_
  rintro e w9 ⟨xn, xl, he, hO, hb⟩
  obtain ⟨An, nn, cn, Al, nl, cl, rfl, rfl⟩ := hO.forms
  unfold mkO at he
  dsimp only at he
  subst he
  replace hB := Lib.hid (hB.out.trans (hb.mono hB.out.size))
  have hS9 : Cel w9 w.heap.size 80 #[.int .i64 a, .int .i64 b, .int .i64 c, .int .i64 d] := hS.below hb hS.lt
  clear hS hb hM hKx
  have hS := hS9
  clear hS9
  refine hK.out _ _ hS ?_
  clear hK
  try simp only [Act.put, List.setIfInBounds_toArray, List.set_cons_zero, List.set_cons_succ]
  have hr := hCr.out.below hB.out (by omega)
  have hO2 := Lib.hid hO
  clear hO
  obtain ⟨p0, p1, p2, p3⟩ := hr.c4
  have s0 := hr.froz 0
  have s1 := hr.froz 1
  have s2 := hr.froz 2
  have s3 := hr.froz 3
  refine hOne (i := 10) (by kernel_rfl) rfl (fun K hK => ?_)
  go_simp
  refine hK.out _ _ ((((hS.away (by simp) _).away (by simp) _).away (by simp) _).away (by simp) _) ?_
  clear hK
  refine wpAnyH_done (by kernel_rfl) ?_ _
  go_wp2_with fail
  refine bodyPost_ret (v := .agg #[.int .u8 7, .string ⟨#[]⟩, .slice An nn cn, .slice Al nl cl]) (by simp [results, Tryz.results64, go_sem, p0, p1, p2, p3]) rfl ⟨_, _, rfl, ?_, ?_⟩
  · exact OwnJ.keep _ hO2.out (fun b h1 _ => by rw [Below.heap_setCell _ _ _ _ (by simp; omega), Below.heap_setCell _ _ _ _ (by simp; omega), Below.heap_setCell _ _ _ _ (by simp; omega), Below.heap_setCell _ _ _ _ (by simp; omega)]) (by omega) (by simp [World.setCell])
  · exact ((((hBx.out _ hB.out).setCell (by simp) _).setCell (by simp) _).setCell (by simp) _).setCell (by simp) _


end Go.Proofs.YtlnkjacbdolhnaaGreatDoor


/-
  The walk of lsp.list, with the closures of Edits and of Items.
-/
namespace Go.Proofs.YtlnkjacbdolhnaaGreatDoor
open Go.RowKit

structure Pt where
  a : Int
  b : Int
  c : Int
  d : Int
  k : Int
  s : ByteArray
def ptCells (p : Pt) : List Value := [.int .i64 p.a, .int .i64 p.b, .int .i64 p.c, .int .i64 p.d, .int .i64 p.k, .string p.s]
def PtOK (p : Pt) : Prop := I64 p.a ∧ I64 p.b ∧ I64 p.c ∧ I64 p.d ∧ I64 p.k
def editP (p : Pt) : Jsn := editJ p.a p.b p.c p.d p.s
def itemP (p : Pt) : Jsn := itemJ p.a p.b p.c p.d p.k p.s
def arrJ (l : List Jsn) : Jsn := ⟨6, ⟨#[]⟩, [], l⟩
/-- Parts that lie in a row. -/
def PRow (w : World) (g o : Nat) (ps : List Pt) : Prop := ∀ (i : Nat) p, ps[i]? = some p → ∀ (j : Nat) v, (ptCells p)[j]? = some v → w.cell? ⟨g, o + i * 6 + j, none⟩ = some v
theorem PRow.at {w wr : World} {g : Nat} {ps : List Pt} (h : PRow w g 0 ps) (hB : Below w.heap.size w wr) (hg : g < w.heap.size) {q : Nat} {p : Pt} (hp : ps[q]? = some p) :
    wr.cell? ⟨g, q * 6, none⟩ = some (.int .i64 p.a) ∧ wr.cell? ⟨g, q * 6 + 1, none⟩ = some (.int .i64 p.b) ∧ wr.cell? ⟨g, q * 6 + 2, none⟩ = some (.int .i64 p.c) ∧ wr.cell? ⟨g, q * 6 + 3, none⟩ = some (.int .i64 p.d) ∧ wr.cell? ⟨g, q * 6 + 4, none⟩ = some (.int .i64 p.k) ∧ wr.cell? ⟨g, q * 6 + 5, none⟩ = some (.string p.s) := by
  have h' : ∀ (j : Nat) v, (ptCells p)[j]? = some v → wr.cell? ⟨g, q * 6 + j, none⟩ = some v := fun j v hv => by
    have := h q p hp j v hv
    rw [Nat.zero_add] at this
    exact (hB.cell (p := ⟨g, q * 6 + j, none⟩) hg).trans this
  exact ⟨h' 0 _ rfl, h' 1 _ rfl, h' 2 _ rfl, h' 3 _ rfl, h' 4 _ rfl, h' 5 _ rfl⟩
end Go.Proofs.YtlnkjacbdolhnaaGreatDoor


/-
  The walks of lsp.Edits, Items, Shown, Log.
-/
namespace Go.Proofs.YtlnkjacbdolhnaaGreatDoor
open Go.RowKit

def editsJ (n : Int) (ps : List Pt) : Jsn := mkO [lVersion, lEdits] [numJ n, arrJ (ps.map editP)]
def itemsJ (n : Int) (ps : List Pt) : Jsn := mkO [lVersion, lItems] [numJ n, arrJ (ps.map itemP)]
def shownJ (n : Int) (s t : ByteArray) : Jsn := mkO [lVersion, lType, lValue] [numJ n, someJ s, someJ t]
def logJ (n : Int) (s : ByteArray) : Jsn := mkO [lCode, lMessage] [numJ n, strJ s]
theorem PRow.later {w w' : World} {g o : Nat} {ps : List Pt} (h : PRow w g o ps) (hb : Below w.heap.size w w') (hg : 0 < ps.length → g < w.heap.size) : PRow w' g o ps := fun i p hp j v hv => (hb.cell (p := ⟨g, o + i * 6 + j, none⟩) (hg (by have := (List.getElem?_eq_some_iff.1 hp).1; omega))).trans (h i p hp j v hv)
end Go.Proofs.YtlnkjacbdolhnaaGreatDoor
