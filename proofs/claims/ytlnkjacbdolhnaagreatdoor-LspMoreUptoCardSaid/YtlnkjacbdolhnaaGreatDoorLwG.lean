/-
  The walk of lsp.Place.
-/
import Derived.Test.YtlnkjacbdolhnaaGreatDoorM22
namespace Go.Proofs.YtlnkjacbdolhnaaGreatDoor
open Go.RowKit

def placeR : List Pt → Jsn
  | [] => ⟨1, ⟨#[]⟩, [], []⟩
  | p :: _ => rangeJ p.a p.b p.c p.d
def placeJ (n : Int) (ps : List Pt) : Jsn := mkO [lVersion, lRange] [numJ n, placeR ps]
theorem leaf_move {w w' : World} {k : Int} {s : ByteArray} {lo hi lo' hi' : Nat} {vn vl : Value} (h : OwnJ w 9 25 ⟨k, s, [], []⟩ lo hi vn vl) : OwnJ w' 9 25 ⟨k, s, [], []⟩ lo' hi' vn vl := by
  rw [OwnJ_eq] at h ⊢
  obtain ⟨k0, k1, gn, gl, cs, A, c, ws, ⟨An, cn, rfl, _⟩, rfl, _, _⟩ := h
  exact ⟨k0, k1, gn, gl, cs, A, c, [], ⟨An, cn, rfl, fun h => by simp at h⟩, rfl, (fun h => by simp at h), rfl, (fun i x u h => by simp at h), (fun i j u v _ h => by simp at h)⟩
theorem KidI.cons {w : World} {lo : Nat} {l : List Jsn} {ws : List OE} {x : Jsn} {vn vl : Value} (h : KidI w lo l ws) (hlo : lo ≤ w.heap.size) (hx : OwnJ w 9 25 x lo lo vn vl) : KidI w lo (x :: l) ((vn, vl, lo, lo) :: ws) := by
  refine ⟨by rw [List.length_cons, List.length_cons, h.1], fun i y u hy hu => ?_, fun i j u z hij hu hz => ?_⟩
  · cases i with
    | zero => simp at hy hu; subst hy; subst hu; exact ⟨Nat.le_refl _, Nat.le_refl _, hlo, hx⟩
    | succ i => exact h.2.1 i y u (by simpa using hy) (by simpa using hu)
  · cases j with
    | zero => omega
    | succ j =>
      have hz' : ws[j]? = some z := by simpa using hz
      have hj : j < l.length := by rw [← h.1]; exact (List.getElem?_eq_some_iff.1 hz').1
      cases i with
      | zero => simp at hu; subst hu; exact (h.2.1 j _ z (List.getElem?_eq_getElem hj) hz').1
      | succ i => exact h.2.2 i j u z (by omega) (by simpa using hu) hz'
set_option maxRecDepth 100000 in
set_option maxHeartbeats 4000000 in
theorem lspPlace_any (n : Int) (ps : List Pt) (A : Option Addr) (g c : Nat) (w : World) (hE : Env w) (hn : I64 n) (hP : PRow w g 0 ps) (hA : 0 < ps.length → A = some ⟨g, 0, none⟩ ∧ g < w.heap.size) (hok : ∀ p ∈ ps, PtOK p) (hl : ps.length ≤ 1000) :
    Calls Tryz.prog 29 #[.int .i64 n, .slice A ps.length c] w (OwnJEnd (placeJ n ps) w) := by
  obtain ⟨V, hV⟩ : ∃ V, (w.alloc (.cells #[.int .u8 0, .string ⟨#[]⟩, .slice none 0 0, .slice none 0 0] 25)).alloc (.cells #[.int .u8 1, .string ⟨#[]⟩, .slice none 0 0, .slice none 0 0] 25) = V := ⟨_, rfl⟩
  have hBV : Below w.heap.size w V := by rw [← hV]; exact ((Below.refl _ _).alloc (Nat.le_refl _) _).alloc (by simp) _
  have hsV : V.heap.size = w.heap.size + 2 := by rw [← hV]; simp
  have hCr : Cel V w.heap.size 25 #[.int .u8 0, .string ⟨#[]⟩, .slice none 0 0, .slice none 0 0] := by rw [← hV]; exact (Cel.fresh _ _ _).alloc _
  have hCp : Cel V (w.heap.size + 1) 25 #[.int .u8 1, .string ⟨#[]⟩, .slice none 0 0, .slice none 0 0] := by
    rw [← hV]
    have := Cel.fresh (w.alloc (.cells #[.int .u8 0, .string ⟨#[]⟩, .slice none 0 0, .slice none 0 0] 25)) 25 #[.int .u8 1, .string ⟨#[]⟩, .slice none 0 0, .slice none 0 0]
    simpa using this
  have hNum := Lib.hid (fun (W : World) (hb : Below w.heap.size w W) => lspNum_any n W (hE.below hb) hn.1 hn.2)
  have hRng := Lib.hid (fun (a b c d : Int) (ha : I64 a) (hc : I64 b) (hd : I64 c) (he : I64 d) (W : World) (hb : Below w.heap.size w W) => lspRanged_any a b c d W (hE.below hb) ha hc hd he)
  obtain ⟨dj, hdj⟩ := jsnDesc
  replace hdj := Lib.hid hdj
  clear hE
  replace hV := Lib.hid hV
  have hB : Below V.heap.size V V := Below.refl _ _
  replace hB := Lib.hid hB
  replace hCr := Lib.hid hCr
  replace hBV := Lib.hid hBV
  have hBx := Lib.hid (fun (W : World) (hS : Below V.heap.size V W) => hBV.out.trans (hS.mono hBV.out.size))
  replace hP := Lib.hid hP
  cases ps with
  | nil => 
    clear hRng hP hA hok
    go_enter Tryz.func29, Tryz.ntmps29
    go_upto_region 2 with fail
    rw [hV.out]
    clear hV
    have hK1 : KidI V.drew V.heap.size [placeR []] [(.slice none 0 0, .slice none 0 0, V.heap.size, V.heap.size)] := (KidI.nil V.drew V.heap.size).cons (Nat.le_refl _) (leaf_own _ 1 _ _ _ (by omega) (by omega))
    go_upto_region 4 with fail
    refine wp_region_held_drew (S := fun W => Cel W (w.heap.size + 1) 25 #[.int .u8 1, .string ⟨#[]⟩, .slice none 0 0, .slice none 0 0]) (by kernel_rfl) hCp.drew (fun hS => ?_)
    replace hB := Lib.hid (bel_drew hB.out)
    have hS : Cel V.drew (w.heap.size + 1) 25 #[.int .u8 1, .string ⟨#[]⟩, .slice none 0 0, .slice none 0 0] := hS
    refine hTake (i := 0) (v := .int .i64 n) rfl (by kernel_rfl) (by kernel_rfl) (by kernel_rfl) (fun _ _ _ h => h) (Or.inl ⟨by rfl, by
      intro w' hSw
      go_simp⟩) hS ?_
    try simp only [Act.put, List.setIfInBounds_toArray, List.set_cons_zero, List.set_cons_succ]
    refine hTake (i := 3) (v := .agg #[.int .u8 1, .string ⟨#[]⟩, .slice none 0 0, .slice none 0 0]) rfl (by kernel_rfl) (by kernel_rfl) (by kernel_rfl) (fun _ _ _ h => h) (yieldsIf_load_mid (by rfl) 25 (.tmp 5) rfl (w.heap.size + 1) 0 (by rfl) [.int .u8 1, .string ⟨#[]⟩, .slice none 0 0, .slice none 0 0] dj (fun W hW => Cel.rng hW) hdj.out.1 hdj.out.2 jsnInfo) hS ?_
    try simp only [Act.put, List.setIfInBounds_toArray, List.set_cons_zero, List.set_cons_succ]
    refine hTake (i := 4) (v := .agg #[.string ⟨#[114, 97, 110, 103, 101]⟩, .int .u8 1, .string ⟨#[]⟩, .slice none 0 0, .slice none 0 0]) rfl (by kernel_rfl) (by kernel_rfl) (by kernel_rfl) (fun _ _ _ h => h) (Or.inl ⟨by rfl, by
      intro w' hSw
      go_simp⟩) hS ?_
    try simp only [Act.put, List.setIfInBounds_toArray, List.set_cons_zero, List.set_cons_succ]
    refine hOne (i := 1) (by kernel_rfl) rfl (fun K hK => ?_)
    go_simp
    refine (hNum.out _ (hBx.out _ hB.out)).mono ?_
    rintro e w2 ⟨xn, xl, he, hO, hb⟩
    obtain ⟨A0, n0, c0, B0, m0, d0, rfl, rfl⟩ := hO.forms
    unfold numJ at he hO
    dsimp only at he
    subst he
    have hK2 : KidI w2 V.heap.size [numJ n, placeR []] [(.slice A0 n0 c0, .slice B0 m0 d0, V.heap.size, V.heap.size), (.slice none 0 0, .slice none 0 0, V.heap.size, V.heap.size)] := (KidI.later (w := V.drew) hK1 hb).cons (Nat.le_trans hB.out.size hb.size) (leaf_move hO)
    replace hB := Lib.hid (hB.out.trans (hb.mono hB.out.size))
    have hS2 : Cel w2 (w.heap.size + 1) 25 #[.int .u8 1, .string ⟨#[]⟩, .slice none 0 0, .slice none 0 0] := hS.below hb hS.lt
    clear hS hb hO hK1 hCp
    have hS := hS2
    clear hS2
    refine hK.out _ _ hS ?_
    clear hK
    try simp only [Act.put, List.setIfInBounds_toArray, List.set_cons_zero, List.set_cons_succ]
    refine hTake (i := 2) (v := .agg #[.string ⟨#[118, 101, 114, 115, 105, 111, 110]⟩, .int .u8 4, .string ⟨(ofNL n).toArray⟩, .slice A0 n0 c0, .slice B0 m0 d0]) rfl (by kernel_rfl) (by kernel_rfl) (by kernel_rfl) (fun _ _ _ h => h) (Or.inl ⟨by rfl, by
      intro w' hSw
      go_simp⟩) hS ?_
    try simp only [Act.put, List.setIfInBounds_toArray, List.set_cons_zero, List.set_cons_succ]
    refine hOne (i := 5) (by kernel_rfl) rfl (fun K hK => ?_)
    obtain ⟨wx, hwx⟩ : ∃ W, w2.alloc (.cells #[.string ⟨#[118, 101, 114, 115, 105, 111, 110]⟩, .int .u8 4, .string ⟨(ofNL n).toArray⟩, .slice A0 n0 c0, .slice B0 m0 d0, .string ⟨#[114, 97, 110, 103, 101]⟩, .int .u8 1, .string ⟨#[]⟩, .slice none 0 0, .slice none 0 0] 127) = W := ⟨_, rfl⟩
    have hbx : Below w2.heap.size w2 wx := by rw [← hwx]; exact (Below.refl _ _).alloc (Nat.le_refl _) _
    have hM : Mem5 wx w2.heap.size [lVersion, lRange] [numJ n, placeR []] [(.slice A0 n0 c0, .slice B0 m0 d0, V.heap.size, V.heap.size), (.slice none 0 0, .slice none 0 0, V.heap.size, V.heap.size)] := by rw [← hwx]; exact mem5_2 w2 lVersion lRange (numJ n) (placeR []) (.slice A0 n0 c0, .slice B0 m0 d0, V.heap.size, V.heap.size) (.slice none 0 0, .slice none 0 0, V.heap.size, V.heap.size) 127
    have hsx : w2.heap.size < wx.heap.size := by rw [← hwx]; simp
    have hKx := hK2.later hbx
    replace hwx := Lib.hid hwx
    go_simp
    rw [hwx.out]
    replace hB := Lib.hid (hB.out.trans (hbx.mono hB.out.size))
    have hSx : Cel wx (w.heap.size + 1) 25 #[.int .u8 1, .string ⟨#[]⟩, .slice none 0 0, .slice none 0 0] := hS.below hbx hS.lt
    clear hS hbx hK2 hwx
    have hS := hSx
    clear hSx
    refine hK.out _ _ hS ?_
    clear hK
    try simp only [Act.put, List.setIfInBounds_toArray, List.set_cons_zero, List.set_cons_succ]
    refine hOne (i := 6) (by kernel_rfl) rfl (fun K hK => ?_)
    go_simp
    refine (lspObject_any _ _ _ V.heap.size w2.heap.size 2 wx hM hsx hKx hB.out.size rfl (by simp)).mono ?_
    rintro e w9 ⟨xn, xl, he, hO, hb⟩
    obtain ⟨An, nn, cn, Al, nl, cl, rfl, rfl⟩ := hO.forms
    unfold mkO at he
    dsimp only at he
    subst he
    replace hB := Lib.hid (hB.out.trans (hb.mono hB.out.size))
    have hS9 : Cel w9 (w.heap.size + 1) 25 #[.int .u8 1, .string ⟨#[]⟩, .slice none 0 0, .slice none 0 0] := hS.below hb hS.lt
    clear hS hb hM hKx
    have hS := hS9
    clear hS9
    refine hK.out _ _ hS ?_
    clear hK
    try simp only [Act.put, List.setIfInBounds_toArray, List.set_cons_zero, List.set_cons_succ]
    have hr := hCr.out.below hB.out (by omega)
    have hO2 := Lib.hid hO
    clear hO
    obtain ⟨p0, p1, p2, p3⟩ := hr.c4
    have s0 := hr.froz 0
    have s1 := hr.froz 1
    have s2 := hr.froz 2
    have s3 := hr.froz 3
    refine hOne (i := 7) (by kernel_rfl) rfl (fun K hK => ?_)
    go_simp
    refine hK.out _ _ ((((hS.away (by simp) _).away (by simp) _).away (by simp) _).away (by simp) _) ?_
    clear hK
    refine wpAnyH_done (by kernel_rfl) ?_ _
    go_wp2_with fail
    refine bodyPost_ret (v := .agg #[.int .u8 7, .string ⟨#[]⟩, .slice An nn cn, .slice Al nl cl]) (by simp [results, Tryz.results29, go_sem, p0, p1, p2, p3]) rfl ⟨_, _, rfl, ?_, ?_⟩
    · exact OwnJ.keep _ hO2.out (fun b h1 _ => by rw [Below.heap_setCell _ _ _ _ (by simp; omega), Below.heap_setCell _ _ _ _ (by simp; omega), Below.heap_setCell _ _ _ _ (by simp; omega), Below.heap_setCell _ _ _ _ (by simp; omega)]) (by omega) (by simp [World.setCell])
    · exact ((((hBx.out _ hB.out).setCell (by simp) _).setCell (by simp) _).setCell (by simp) _).setCell (by simp) _
  | cons p pt => 
    obtain ⟨rfl, hg⟩ := hA (by simp)
    obtain ⟨a0, a1, a2, a3, a4, a5⟩ := hP.out.at hBV.out hg (q := 0) (p := p) rfl
    obtain ⟨o0, o1, o2, o3, _⟩ := hok p (by simp)
    have hcall := Lib.hid (hRng.out p.a p.b p.c p.d o0 o1 o2 o3 V hBV.out)
    have hlen : (0 : Int) < ((p :: pt).length : Int) := by simp
    have hlt0 : 0 < (p :: pt).length := by simp
    simp only [Nat.zero_mul, Nat.zero_add] at a0 a1 a2 a3 a4 a5
    obtain ⟨L, hL⟩ : ∃ L, (p :: pt).length = L := ⟨_, rfl⟩
    rw [hL] at hlen hlt0 hl ⊢
    replace hL := Lib.hid hL
    clear hRng hP hA hok a4 a5
    go_enter Tryz.func29, Tryz.ntmps29
    go_upto_region 2 with fail
    rw [hV.out]
    clear hV
    go_wp2_with fail
    refine hcall.out.mono ?_
    rintro e w1 ⟨xn, xl, he, hO, hb⟩
    obtain ⟨RA, ra, rc, RB, rb, rd, rfl, rfl⟩ := hO.forms
    unfold rangeJ mkO at he
    dsimp only at he
    subst he
    have hs1 := hb.size
    have hC1 := hCp.below hb hCp.lt
    obtain ⟨p0, p1, p2, p3⟩ := hC1.c4
    have s0 := hC1.froz 0
    have s1 := hC1.froz 1
    have s2 := hC1.froz 2
    have s3 := hC1.froz 3
    obtain ⟨W3, hW3⟩ : ∃ W, (((w1.setCell ⟨w.heap.size + 1, 0, none⟩ (.int .u8 7)).setCell ⟨w.heap.size + 1, 1, none⟩ (.string ⟨#[]⟩)).setCell ⟨w.heap.size + 1, 2, none⟩ (.slice RA ra rc)).setCell ⟨w.heap.size + 1, 3, none⟩ (.slice RB rb rd) = W := ⟨_, rfl⟩
    have hk3 : ∀ k, k ≠ w.heap.size + 1 → W3.heap[k]? = w1.heap[k]? := fun k hk => by
      rw [← hW3, Below.heap_setCell _ _ _ _ hk, Below.heap_setCell _ _ _ _ hk, Below.heap_setCell _ _ _ _ hk, Below.heap_setCell _ _ _ _ hk]
    have hs3 : W3.heap.size = w1.heap.size := by rw [← hW3]; simp [World.setCell]
    have hC3 : Cel W3 (w.heap.size + 1) 25 #[.int .u8 7, .string ⟨#[]⟩, .slice RA ra rc, .slice RB rb rd] := by
      rw [← hW3]
      have := (((hC1.set 0 (.int .u8 7)).set 1 (.string ⟨#[]⟩)).set 2 (.slice RA ra rc)).set 3 (.slice RB rb rd)
      simpa using this
    have hBW3 : Below w.heap.size w W3 := by
      rw [← hW3]
      exact ((((hBV.out.trans (hb.mono hBV.out.size)).setCell (by simp) _).setCell (by simp) _).setCell (by simp) _).setCell (by simp) _
    have hO3 : OwnJ W3 9 25 (rangeJ p.a p.b p.c p.d) V.heap.size W3.heap.size (.slice RA ra rc) (.slice RB rb rd) := OwnJ.keep _ hO (fun k h1 _ => hk3 k (by omega)) (Nat.le_refl _) (by omega)
    have hK1 : KidI W3.drew V.heap.size [placeR (p :: pt)] [(.slice RA ra rc, .slice RB rb rd, V.heap.size, W3.heap.size)] :=
      ⟨rfl, fun i x u hx hu => by
        match i with
        | 0 => simp at hx hu; subst hx; subst hu; exact ⟨Nat.le_refl _, by show V.heap.size ≤ W3.heap.size; omega, Nat.le_refl _, hO3⟩
        | n + 1 => simp at hx, fun i j u z hij hu hz => by
        match j with
        | 0 => omega
        | n + 1 => simp at hz⟩
    have hr3 : Cel W3 w.heap.size 25 #[.int .u8 0, .string ⟨#[]⟩, .slice none 0 0, .slice none 0 0] := (hk3 _ (by omega)).trans (hCr.out.below hb hCr.out.lt)
    replace hW3 := Lib.hid hW3
    replace hK1 := Lib.hid hK1
    replace hBW3 := Lib.hid hBW3
    replace hr3 := Lib.hid hr3
    have hC3h := Lib.hid hC3
    clear hO hO3 hC3 hk3 hC1 hcall hb hCp a0 a1 a2 a3 o0 o1 o2 o3 hB hBx hCr
    go_upto_region 4 with fail
    rw [hW3.out]
    clear hW3 p0 p1 p2 p3 s0 s1 s2 s3
    replace hK1 := hK1.out
    have hCp := hC3h.out
    have hCr := hr3
    have hBV3 := hBW3
    clear hr3 hC3h
    have hB : Below W3.heap.size W3 W3 := Below.refl _ _
    replace hB := Lib.hid hB
    have hBx := Lib.hid (fun (W : World) (hS : Below W3.heap.size W3 W) => hBV3.out.trans (hS.mono hBV3.out.size))
    refine wp_region_held_drew (S := fun W => Cel W (w.heap.size + 1) 25 #[.int .u8 7, .string ⟨#[]⟩, .slice RA ra rc, .slice RB rb rd]) (by kernel_rfl) hCp.drew (fun hS => ?_)
    replace hB := Lib.hid (bel_drew hB.out)
    have hS : Cel W3.drew (w.heap.size + 1) 25 #[.int .u8 7, .string ⟨#[]⟩, .slice RA ra rc, .slice RB rb rd] := hS
    refine hTake (i := 0) (v := .int .i64 n) rfl (by kernel_rfl) (by kernel_rfl) (by kernel_rfl) (fun _ _ _ h => h) (Or.inl ⟨by rfl, by
      intro w' hSw
      go_simp⟩) hS ?_
    try simp only [Act.put, List.setIfInBounds_toArray, List.set_cons_zero, List.set_cons_succ]
    refine hTake (i := 3) (v := .agg #[.int .u8 7, .string ⟨#[]⟩, .slice RA ra rc, .slice RB rb rd]) rfl (by kernel_rfl) (by kernel_rfl) (by kernel_rfl) (fun _ _ _ h => h) (yieldsIf_load_mid (by rfl) 25 (.tmp 5) rfl (w.heap.size + 1) 0 (by rfl) [.int .u8 7, .string ⟨#[]⟩, .slice RA ra rc, .slice RB rb rd] dj (fun W hW => Cel.rng hW) hdj.out.1 hdj.out.2 jsnInfo) hS ?_
    try simp only [Act.put, List.setIfInBounds_toArray, List.set_cons_zero, List.set_cons_succ]
    refine hTake (i := 4) (v := .agg #[.string ⟨#[114, 97, 110, 103, 101]⟩, .int .u8 7, .string ⟨#[]⟩, .slice RA ra rc, .slice RB rb rd]) rfl (by kernel_rfl) (by kernel_rfl) (by kernel_rfl) (fun _ _ _ h => h) (Or.inl ⟨by rfl, by
      intro w' hSw
      go_simp⟩) hS ?_
    try simp only [Act.put, List.setIfInBounds_toArray, List.set_cons_zero, List.set_cons_succ]
    refine hOne (i := 1) (by kernel_rfl) rfl (fun K hK => ?_)
    go_simp
    refine (hNum.out _ (hBx.out _ hB.out)).mono ?_
    rintro e w2 ⟨xn, xl, he, hO, hb⟩
    obtain ⟨A0, n0, c0, B0, m0, d0, rfl, rfl⟩ := hO.forms
    unfold numJ at he hO
    dsimp only at he
    subst he
    have hK2 : KidI w2 V.heap.size [numJ n, placeR (p :: pt)] [(.slice A0 n0 c0, .slice B0 m0 d0, V.heap.size, V.heap.size), (.slice RA ra rc, .slice RB rb rd, V.heap.size, W3.heap.size)] := (KidI.later (w := W3.drew) hK1 hb).cons (by have := hB.out.size; have := hb.size; omega) (leaf_move hO)
    replace hB := Lib.hid (hB.out.trans (hb.mono hB.out.size))
    have hS2 : Cel w2 (w.heap.size + 1) 25 #[.int .u8 7, .string ⟨#[]⟩, .slice RA ra rc, .slice RB rb rd] := hS.below hb hS.lt
    clear hS hb hO hK1 hCp
    have hS := hS2
    clear hS2
    refine hK.out _ _ hS ?_
    clear hK
    try simp only [Act.put, List.setIfInBounds_toArray, List.set_cons_zero, List.set_cons_succ]
    refine hTake (i := 2) (v := .agg #[.string ⟨#[118, 101, 114, 115, 105, 111, 110]⟩, .int .u8 4, .string ⟨(ofNL n).toArray⟩, .slice A0 n0 c0, .slice B0 m0 d0]) rfl (by kernel_rfl) (by kernel_rfl) (by kernel_rfl) (fun _ _ _ h => h) (Or.inl ⟨by rfl, by
      intro w' hSw
      go_simp⟩) hS ?_
    try simp only [Act.put, List.setIfInBounds_toArray, List.set_cons_zero, List.set_cons_succ]
    refine hOne (i := 5) (by kernel_rfl) rfl (fun K hK => ?_)
    obtain ⟨wx, hwx⟩ : ∃ W, w2.alloc (.cells #[.string ⟨#[118, 101, 114, 115, 105, 111, 110]⟩, .int .u8 4, .string ⟨(ofNL n).toArray⟩, .slice A0 n0 c0, .slice B0 m0 d0, .string ⟨#[114, 97, 110, 103, 101]⟩, .int .u8 7, .string ⟨#[]⟩, .slice RA ra rc, .slice RB rb rd] 127) = W := ⟨_, rfl⟩
    have hbx : Below w2.heap.size w2 wx := by rw [← hwx]; exact (Below.refl _ _).alloc (Nat.le_refl _) _
    have hM : Mem5 wx w2.heap.size [lVersion, lRange] [numJ n, placeR (p :: pt)] [(.slice A0 n0 c0, .slice B0 m0 d0, V.heap.size, V.heap.size), (.slice RA ra rc, .slice RB rb rd, V.heap.size, W3.heap.size)] := by rw [← hwx]; exact mem5_2 w2 lVersion lRange (numJ n) (placeR (p :: pt)) (.slice A0 n0 c0, .slice B0 m0 d0, V.heap.size, V.heap.size) (.slice RA ra rc, .slice RB rb rd, V.heap.size, W3.heap.size) 127
    have hsx : w2.heap.size < wx.heap.size := by rw [← hwx]; simp
    have hKx := hK2.later hbx
    replace hwx := Lib.hid hwx
    go_simp
    rw [hwx.out]
    replace hB := Lib.hid (hB.out.trans (hbx.mono hB.out.size))
    have hSx : Cel wx (w.heap.size + 1) 25 #[.int .u8 7, .string ⟨#[]⟩, .slice RA ra rc, .slice RB rb rd] := hS.below hbx hS.lt
    clear hS hbx hK2 hwx
    have hS := hSx
    clear hSx
    refine hK.out _ _ hS ?_
    clear hK
    try simp only [Act.put, List.setIfInBounds_toArray, List.set_cons_zero, List.set_cons_succ]
    refine hOne (i := 6) (by kernel_rfl) rfl (fun K hK => ?_)
    go_simp
    refine (lspObject_any _ _ _ V.heap.size w2.heap.size 2 wx hM hsx hKx (by have := hB.out.size; omega) rfl (by simp)).mono ?_
    rintro e w9 ⟨xn, xl, he, hO, hb⟩
    obtain ⟨An, nn, cn, Al, nl, cl, rfl, rfl⟩ := hO.forms
    unfold mkO at he
    dsimp only at he
    subst he
    replace hB := Lib.hid (hB.out.trans (hb.mono hB.out.size))
    have hS9 : Cel w9 (w.heap.size + 1) 25 #[.int .u8 7, .string ⟨#[]⟩, .slice RA ra rc, .slice RB rb rd] := hS.below hb hS.lt
    clear hS hb hM hKx
    have hS := hS9
    clear hS9
    refine hK.out _ _ hS ?_
    clear hK
    try simp only [Act.put, List.setIfInBounds_toArray, List.set_cons_zero, List.set_cons_succ]
    have hr := hCr.out.below hB.out (by omega)
    have hO2 := Lib.hid hO
    clear hO
    obtain ⟨p0, p1, p2, p3⟩ := hr.c4
    have s0 := hr.froz 0
    have s1 := hr.froz 1
    have s2 := hr.froz 2
    have s3 := hr.froz 3
    refine hOne (i := 7) (by kernel_rfl) rfl (fun K hK => ?_)
    go_simp
    refine hK.out _ _ ((((hS.away (by simp) _).away (by simp) _).away (by simp) _).away (by simp) _) ?_
    clear hK
    refine wpAnyH_done (by kernel_rfl) ?_ _
    go_wp2_with fail
    refine bodyPost_ret (v := .agg #[.int .u8 7, .string ⟨#[]⟩, .slice An nn cn, .slice Al nl cl]) (by simp [results, Tryz.results29, go_sem, p0, p1, p2, p3]) rfl ⟨_, _, rfl, ?_, ?_⟩
    · exact OwnJ.keep _ hO2.out (fun b h1 _ => by rw [Below.heap_setCell _ _ _ _ (by simp; omega), Below.heap_setCell _ _ _ _ (by simp; omega), Below.heap_setCell _ _ _ _ (by simp; omega), Below.heap_setCell _ _ _ _ (by simp; omega)]) (by omega) (by simp [World.setCell])
    · exact ((((hBx.out _ hB.out).setCell (by simp) _).setCell (by simp) _).setCell (by simp) _).setCell (by simp) _
end Go.Proofs.YtlnkjacbdolhnaaGreatDoor
