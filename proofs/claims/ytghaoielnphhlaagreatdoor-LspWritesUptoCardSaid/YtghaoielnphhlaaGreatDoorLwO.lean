/-
  The walk of the document's Place.
-/
import Derived.Test.YtghaoielnphhlaaGreatDoorLwN
namespace Go.Proofs.YtghaoielnphhlaaGreatDoor
open Go.RowKit

def PlcPhi (w0 : World) (n k : Int) (s : ByteArray) (vn vl : Value) (aJ J : Jsn) (i : Nat) (f : Tmp → Value) (w : World) : Prop := match i with
  | 0 => pN w (w0.heap.size + 2) [lVersion, lRange] (f 15)
  | 1 => f 16 = .int .i64 n
  | 2 => pJ w (w0.heap.size + 2) (numJ n) (f 17)
  | 3 => f 18 = .agg #[.int .u8 k, .string s, vn, vl]
  | 4 => pR w (w0.heap.size + 2) [numJ n, aJ] (f 19)
  | 5 => pJ w (w0.heap.size + 2) (J) (f 20)
  | 6 => ∃ vn vl, Cel w w0.heap.size 25 #[.int .u8 7, .string ⟨#[]⟩, vn, vl] ∧ JV w (fun k => w0.heap.size + 2 ≤ k) (J) vn vl
  | _ => True
set_option maxRecDepth 100000 in
set_option maxHeartbeats 4000000 in
theorem refPlace8_any (n : Int) (ps : List Pt) (A : Option Addr) (g o c : Nat) (w : World) (hE : Env w) (hn : I64 n) (hP : PRow w g o ps) (hA : 0 < ps.length → A = some ⟨g, o, none⟩ ∧ g < w.heap.size) (hok : ∀ p ∈ ps, PtOK p) (hl : ps.length ≤ 1000) :
    Calls Tryz.prog 16 #[.int .i64 n, .slice A ps.length c] w (JvEnd (placeJ n ps) w) := by
  obtain ⟨V, hV⟩ : ∃ V, (w.alloc (.cells #[.int .u8 0, .string ⟨#[]⟩, .slice none 0 0, .slice none 0 0] 25)).alloc (.cells #[.int .u8 1, .string ⟨#[]⟩, .slice none 0 0, .slice none 0 0] 25) = V := ⟨_, rfl⟩
  have hBV : Below w.heap.size w V := by rw [← hV]; exact ((Below.refl _ _).alloc (Nat.le_refl _) _).alloc (by simp) _
  have hsV : V.heap.size = w.heap.size + 2 := by rw [← hV]; simp
  have hCr : Cel V w.heap.size 25 #[.int .u8 0, .string ⟨#[]⟩, .slice none 0 0, .slice none 0 0] := by rw [← hV]; exact (Cel.fresh _ _ _).alloc _
  have hCp : Cel V (w.heap.size + 1) 25 #[.int .u8 1, .string ⟨#[]⟩, .slice none 0 0, .slice none 0 0] := by
    rw [← hV]
    have := Cel.fresh (w.alloc (.cells #[.int .u8 0, .string ⟨#[]⟩, .slice none 0 0, .slice none 0 0] 25)) 25 #[.int .u8 1, .string ⟨#[]⟩, .slice none 0 0, .slice none 0 0]
    simpa using this
  have hNum := Lib.hid (fun (W : World) (hb : Below w.heap.size w W) => refNum8_any n W (hE.below hb) hn.1 hn.2)
  have hRng := Lib.hid (fun (a b c d : Int) (ha : I64 a) (hc : I64 b) (hd : I64 c) (he : I64 d) (W : World) (hb : Below w.heap.size w W) => refRange8_any a b c d W (hE.below hb) ha hc hd he)
  clear hE
  replace hV := Lib.hid hV
  replace hP := Lib.hid hP
  cases ps with
  | nil =>
    clear hRng hP hA hok
    go_enter Tryz.func16, Tryz.ntmps16
    go_upto_region 2 with fail
    rw [hV.out]
    clear hV
    go_upto_region 4 with fail
    have hC1 := hCr
    have hC2 := hCp
    have hJa : JV V (fun k => w.heap.size + 2 ≤ k) (placeR []) (.slice none 0 0) (.slice none 0 0) := (OwnJ.jv _ (leaf_own V 1 ⟨#[]⟩ (w.heap.size + 2) (w.heap.size + 2) (by omega) (by omega))).more (fun k hk _ => hk.1)
    have hB := hBV
    clear hCr hCp hBV
    refine wp_region_planF [false, false, false, false, false, false, false, false, false, false, false, false, false, false, false, true, true, true, true, true, true] (fun i => match i with | 0 => [15] | 1 => [16] | 2 => [17] | 3 => [18] | 4 => [19] | 5 => [20] | 6 => [] | _ => []) (fun W => Cel W (w.heap.size + 1) 25 #[.int .u8 1, .string ⟨#[]⟩, .slice none 0 0, .slice none 0 0] ∧ JV W (fun k => w.heap.size + 2 ≤ k) (placeR []) (.slice none 0 0) (.slice none 0 0) ∧ Below w.heap.size w W) (fun q W => q = 6 → Cel W (w.heap.size) 25 #[.int .u8 0, .string ⟨#[]⟩, .slice none 0 0, .slice none 0 0]) (fun i W W' => W.heap.size ≤ W'.heap.size ∧ (∀ k, k < W.heap.size → (i = 6 → k ≠ w.heap.size) → W'.heap[k]? = W.heap[k]?) ∧ Below w.heap.size w W') (PlcPhi w n 1 ⟨#[]⟩ (.slice none 0 0) (.slice none 0 0) (placeR []) (placeJ n [])) (by kernel_rfl) (by kernel_rfl) (by kernel_rfl) (by rfl) (by kernel_rfl) ⟨hC2.drew, hJa.drew, bel_drew hB⟩ (fun _ _ => hC1.drew) ?_ ?_ ?_ ?_ ?_ ?_
    · intro i W W' hS h
      exact ⟨(h.2.1 _ hS.1.lt (fun _ => by omega)).trans hS.1, hS.2.1.keepB h.1 (fun k h1 h2 => h.2.1 k h2 (fun _ => by omega)), h.2.2⟩
    · intro i q W W' hiq hS hU h hq
      have hC := hU hq
      exact (h.2.1 _ hC.lt (fun e => absurd (e.trans hq.symm) hiq)).trans hC
    · intro i j f W W' hji hw hS hP h
      obtain ⟨hs, hk, _⟩ := h
      have hkB : ∀ k, w.heap.size + 2 ≤ k → k < W.heap.size → W'.heap[k]? = W.heap[k]? := fun k h1 h2 => hk k h2 (fun _ => by omega)
      match j with
      | 0 =>
        exact hP.keep (fun k h1 h2 => hkB k h1 h2)
      | 1 => exact hP
      | 2 =>
        exact hP.keep hs (fun k h1 h2 => hkB k h1 h2)
      | 3 => exact hP
      | 4 =>
        exact hP.keep hs (fun k h1 h2 => hkB k h1 h2)
      | 5 =>
        exact hP.keep hs (fun k h1 h2 => hkB k h1 h2)
      | 6 =>
        obtain ⟨vn, vl, hC, hJ⟩ := hP
        exact ⟨vn, vl, (hk _ hC.lt (fun e => absurd e.symm hji)).trans hC, hJ.keepB hs (fun k h1 h2 => hkB k h1 h2)⟩
      | m + 7 => trivial
    · intro j f f' W hf hP
      match j with
      | 0 =>
        unfold PlcPhi at hP ⊢
        try dsimp only at hP ⊢
        rw [hf 15 (by simp)]
        exact hP
      | 1 =>
        unfold PlcPhi at hP ⊢
        try dsimp only at hP ⊢
        rw [hf 16 (by simp)]
        exact hP
      | 2 =>
        unfold PlcPhi at hP ⊢
        try dsimp only at hP ⊢
        rw [hf 17 (by simp)]
        exact hP
      | 3 =>
        unfold PlcPhi at hP ⊢
        try dsimp only at hP ⊢
        rw [hf 18 (by simp)]
        exact hP
      | 4 =>
        unfold PlcPhi at hP ⊢
        try dsimp only at hP ⊢
        rw [hf 19 (by simp)]
        exact hP
      | 5 =>
        unfold PlcPhi at hP ⊢
        try dsimp only at hP ⊢
        rw [hf 20 (by simp)]
        exact hP
      | 6 => exact hP
      | m + 7 => trivial
    · intro i o ho b' W hS hU hd hz hf hdep K hK
      obtain ⟨tm, df⟩ := b'
      dsimp only at hd
      subst hd
      clear hz
      obtain ⟨hc, hJc, hbl⟩ := hS
      have hBW : w.heap.size + 2 ≤ W.heap.size := by have := hc.lt; omega
      have kp : ∀ i, i ≠ 6 → ∀ W', Below W.heap.size W W' → W.heap.size ≤ W'.heap.size ∧ (∀ k, k < W.heap.size → (i = 6 → k ≠ w.heap.size) → W'.heap[k]? = W.heap[k]?) ∧ Below w.heap.size w W' := fun i hi W' h => ⟨h.size, fun k hk _ => h.block k hk, hbl.trans (h.mono hbl.size)⟩
      match i with
      | 0 =>
        injection ho with ho
        subst ho
        clear hf hdep hU
        go_simp
        exact hK _ _ (by simp) ⟨_, rfl, hBW, Cel.fresh _ _ _⟩ (kp 0 (by decide) _ ((Below.refl _ _).alloc (Nat.le_refl _) _))
      | 1 =>
        injection ho with ho
        subst ho
        have q1 : tm[0]?.getD undef = .int .i64 n := by
          have := hf 0 (by decide)
          simpa using this
        clear hf hdep hU
        go_simp
        exact hK _ _ (by simp) rfl (kp 1 (by decide) _ (Below.refl _ _))
      | 2 =>
        injection ho with ho
        subst ho
        have h1 : tm[16]?.getD undef = .int .i64 n := by
          have := hdep 1 (by kernel_rfl)
          simpa [slotF, PlcPhi] using this
        have hcall := hNum.out W hbl
        clear hf hdep hU
        go_simp
        refine hcall.mono ?_
        rintro e w1 ⟨xn, xl, rfl, hO, hbb⟩
        exact hK _ _ (by simp) ⟨xn, xl, rfl, (OwnJ.jv _ hO).more (fun k hk _ => by omega)⟩ (kp 2 (by decide) _ hbb)
      | 3 =>
        injection ho with ho
        subst ho
        have c0 : W.cell? ⟨w.heap.size + 1, 0, none⟩ = some (.int .u8 1) := hc.cell 0
        have c1 : W.cell? ⟨w.heap.size + 1, 1, none⟩ = some (.string ⟨#[]⟩) := hc.cell 1
        have c2 : W.cell? ⟨w.heap.size + 1, 2, none⟩ = some (.slice none 0 0) := hc.cell 2
        have c3 : W.cell? ⟨w.heap.size + 1, 3, none⟩ = some (.slice none 0 0) := hc.cell 3
        have t5 : tm[5]?.getD undef = .pointer (some ⟨w.heap.size + 1, 0, none⟩) := by
          have := hf 5 (by decide)
          simpa using this
        clear hf hdep hU
        go_simp
        exact hK _ _ (by simp) rfl (kp 3 (by decide) _ (Below.refl _ _))
      | 4 =>
        injection ho with ho
        subst ho
        obtain ⟨u0, u1, e1, hJ1⟩ := hdep 2 (by kernel_rfl)
        obtain ⟨A0, n0, c0, B0, m0, d0, rfl, rfl⟩ := hJ1.forms
        have h1 : tm[17]?.getD undef = .agg #[.int .u8 4, .string ⟨(ofNL n).toArray⟩, .slice A0 n0 c0, .slice B0 m0 d0] := by simpa [slotF, jvV, numJ] using e1
        clear e1
        have h2 : tm[18]?.getD undef = .agg #[.int .u8 1, .string ⟨#[]⟩, .slice none 0 0, .slice none 0 0] := by
          have := hdep 3 (by kernel_rfl)
          simpa [slotF, PlcPhi] using this
        clear hf hdep hU
        go_simp
        have hbb := (Below.refl W.heap.size W).alloc (Nat.le_refl _) (.cells #[.int .u8 4, .string ⟨(ofNL n).toArray⟩, .slice A0 n0 c0, .slice B0 m0 d0, .int .u8 1, .string ⟨#[]⟩, .slice none 0 0, .slice none 0 0] 25)
        refine hK _ _ (by simp) ⟨_, [((numJ n : Jsn), (.slice A0 n0 c0 : Value), (.slice B0 m0 d0 : Value)), ((placeR [] : Jsn), (.slice none 0 0 : Value), (.slice none 0 0 : Value))], rfl, hBW, Cel.fresh _ _ _, rfl, fun z hz => ?_⟩ (kp 4 (by decide) _ hbb)
        simp at hz
        rcases hz with rfl | rfl
        · exact hJ1.later hbb
        · exact hJc.later hbb
      | 5 =>
        injection ho with ho
        subst ho
        obtain ⟨gn, gl, e1, e2, hJ⟩ := obj_rows (hdep 0 (by kernel_rfl)) (hdep 4 (by kernel_rfl))
        have h1 : tm[15]?.getD undef = .slice (some ⟨gn, 0, none⟩) 2 2 := by simpa [slotF] using e1
        have h2 : tm[19]?.getD undef = .slice (some ⟨gl, 0, none⟩) 2 2 := by simpa [slotF] using e2
        replace e1 : slotF ⟨tm, []⟩ 15 = .slice (some ⟨gn, 0, none⟩) 2 2 := by simpa using e1
        replace e2 : slotF ⟨tm, []⟩ 19 = .slice (some ⟨gl, 0, none⟩) 2 2 := by simpa using e2
        rw [e1, e2] at hJ
        have hcall := refObj8_any W (some ⟨gn, 0, none⟩) 2 2 (some ⟨gl, 0, none⟩) 2 2
        clear hf hdep hU e1 e2
        go_simp
        refine hcall.mono ?_
        rintro e w1 ⟨rfl, hbb⟩
        exact hK _ _ (by simp) ⟨_, _, rfl, hJ.later hbb⟩ (kp 5 (by decide) _ hbb)
      | 6 =>
        injection ho with ho
        subst ho
        obtain ⟨u1, u2, e1, hJ⟩ := hdep 5 (by kernel_rfl)
        obtain ⟨C1, r1, r2, C2, r3, r4, rfl, rfl⟩ := hJ.forms
        have h1 : tm[20]?.getD undef = .agg #[.int .u8 7, .string ⟨#[]⟩, .slice C1 r1 r2, .slice C2 r3 r4] := by
          have e2 : slotF ⟨tm, []⟩ 20 = .agg #[.int .u8 7, .string ⟨#[]⟩, .slice C1 r1 r2, .slice C2 r3 r4] := e1
          simpa [slotF] using e2
        have t2 : tm[4]?.getD undef = .pointer (some ⟨w.heap.size, 0, none⟩) := by
          have := hf 4 (by decide)
          simpa using this
        have hcr := hU 6 (Or.inl rfl) rfl
        obtain ⟨p0, p1, p2, p3⟩ := hcr.c4
        have s0 := hcr.froz 0
        have s1 := hcr.froz 1
        have s2 := hcr.froz 2
        have s3 := hcr.froz 3
        obtain ⟨W5, hW5⟩ : ∃ X, (((W.setCell ⟨w.heap.size, 0, none⟩ (.int .u8 7)).setCell ⟨w.heap.size, 1, none⟩ (.string ⟨#[]⟩)).setCell ⟨w.heap.size, 2, none⟩ (.slice C1 r1 r2)).setCell ⟨w.heap.size, 3, none⟩ (.slice C2 r3 r4) = X := ⟨_, rfl⟩
        have hk5 : ∀ k, k ≠ w.heap.size → W5.heap[k]? = W.heap[k]? := fun k hk => by
          rw [← hW5, Below.heap_setCell _ _ _ _ hk, Below.heap_setCell _ _ _ _ hk, Below.heap_setCell _ _ _ _ hk, Below.heap_setCell _ _ _ _ hk]
        have hs5 : W5.heap.size = W.heap.size := by rw [← hW5]; simp [World.setCell]
        have hC5 : Cel W5 (w.heap.size) 25 #[.int .u8 7, .string ⟨#[]⟩, .slice C1 r1 r2, .slice C2 r3 r4] := by
          rw [← hW5]
          have := (((hcr.set 0 (.int .u8 7)).set 1 (.string ⟨#[]⟩)).set 2 (.slice C1 r1 r2)).set 3 (.slice C2 r3 r4)
          simpa using this
        have hB5 : Below w.heap.size w W5 := by
          rw [← hW5]
          exact (((hbl.setCell (by simp) _).setCell (by simp) _).setCell (by simp) _).setCell (by simp) _
        have hJ5 : JV W5 (fun k => w.heap.size + 2 ≤ k) (placeJ n []) (.slice C1 r1 r2) (.slice C2 r3 r4) := hJ.keepB (by omega) (fun k h1 _ => hk5 k (by omega))
        replace hW5 := Lib.hid hW5
        clear hf hdep e1 hU
        go_simp
        rw [hW5.out]
        exact hK undef _ (fun _ => rfl) ⟨_, _, hC5, hJ5⟩ ⟨by omega, fun k hk h => hk5 k (h rfl), hB5⟩
      | m + 7 => simp at ho
    · intro u W hS hfact
      obtain ⟨hc, hJc, hbl⟩ := hS
      simp only [frameU, Nat.reduceAdd] at hfact ⊢
      obtain ⟨vn, vl, hC, hJ⟩ := hfact 6 (by decide)
      obtain ⟨dj, hd1, hd2⟩ := jsnDesc
      clear hfact hNum hC1 hC2 hJa hB hJc hc
      replace hd1 := Lib.hid hd1
      replace hd2 := Lib.hid hd2
      go_wp2
      exact bodyPost_ret (results_cel1 Tryz.results16 _ _ _ _ _ dj rfl hC hd1.out hd2.out jsnInfo) rfl ⟨_, _, rfl, hJ.more (fun k hk _ => by omega), hbl⟩
  | cons p pt =>
    obtain ⟨rfl, hg⟩ := hA (by simp)
    obtain ⟨a0, a1, a2, a3, a4, a5⟩ := hP.out.atO hBV hg (q := 0) (p := p) rfl
    obtain ⟨o0, o1, o2, o3, _⟩ := hok p (by simp)
    have hcall := Lib.hid (hRng.out p.a p.b p.c p.d o0 o1 o2 o3 V hBV)
    have hlen : (0 : Int) < ((p :: pt).length : Int) := by simp
    have hlt0 : 0 < (p :: pt).length := by simp
    simp only [Nat.zero_mul, Nat.add_zero] at a0 a1 a2 a3 a4 a5
    obtain ⟨L, hL⟩ : ∃ L, (p :: pt).length = L := ⟨_, rfl⟩
    rw [hL] at hlen hlt0 hl ⊢
    replace hL := Lib.hid hL
    clear hRng hP hA hok a4 a5
    go_enter Tryz.func16, Tryz.ntmps16
    go_upto_region 2 with fail
    rw [hV.out]
    clear hV
    go_wp2_with fail
    refine hcall.out.mono ?_
    rintro e w1 ⟨xn, xl, he, hO, hb⟩
    obtain ⟨RA, ra, rc, RB, rb, rd, rfl, rfl⟩ := hO.forms
    unfold rangeJ mkO at he
    dsimp only at he
    subst he
    have hs1 := hb.size
    have hC1 := hCp.below hb hCp.lt
    obtain ⟨p0, p1, p2, p3⟩ := hC1.c4
    have s0 := hC1.froz 0
    have s1 := hC1.froz 1
    have s2 := hC1.froz 2
    have s3 := hC1.froz 3
    obtain ⟨W3, hW3⟩ : ∃ W, (((w1.setCell ⟨w.heap.size + 1, 0, none⟩ (.int .u8 7)).setCell ⟨w.heap.size + 1, 1, none⟩ (.string ⟨#[]⟩)).setCell ⟨w.heap.size + 1, 2, none⟩ (.slice RA ra rc)).setCell ⟨w.heap.size + 1, 3, none⟩ (.slice RB rb rd) = W := ⟨_, rfl⟩
    have hk3 : ∀ k, k ≠ w.heap.size + 1 → W3.heap[k]? = w1.heap[k]? := fun k hk => by
      rw [← hW3, Below.heap_setCell _ _ _ _ hk, Below.heap_setCell _ _ _ _ hk, Below.heap_setCell _ _ _ _ hk, Below.heap_setCell _ _ _ _ hk]
    have hs3 : W3.heap.size = w1.heap.size := by rw [← hW3]; simp [World.setCell]
    have hC2 : Cel W3 (w.heap.size + 1) 25 #[.int .u8 7, .string ⟨#[]⟩, .slice RA ra rc, .slice RB rb rd] := by
      rw [← hW3]
      have := (((hC1.set 0 (.int .u8 7)).set 1 (.string ⟨#[]⟩)).set 2 (.slice RA ra rc)).set 3 (.slice RB rb rd)
      simpa using this
    have hB : Below w.heap.size w W3 := by
      rw [← hW3]
      exact ((((hBV.trans (hb.mono hBV.size)).setCell (by simp) _).setCell (by simp) _).setCell (by simp) _).setCell (by simp) _
    have hJa : JV W3 (fun k => w.heap.size + 2 ≤ k) (rangeJ p.a p.b p.c p.d) (.slice RA ra rc) (.slice RB rb rd) := (hO.more (fun k hk _ => by omega)).keepB (by omega) (fun k h1 _ => hk3 k (by omega))
    have hr3 : Cel W3 w.heap.size 25 #[.int .u8 0, .string ⟨#[]⟩, .slice none 0 0, .slice none 0 0] := (hk3 _ (by omega)).trans (hCr.below hb hCr.lt)
    replace hW3 := Lib.hid hW3
    replace hJa := Lib.hid hJa
    replace hB := Lib.hid hB
    replace hr3 := Lib.hid hr3
    replace hC2 := Lib.hid hC2
    clear hO hk3 hC1 hcall hb hCp a0 a1 a2 a3 o0 o1 o2 o3 hCr hBV
    go_upto_region 4 with fail
    rw [hW3.out]
    clear hW3 p0 p1 p2 p3 s0 s1 s2 s3
    replace hJa := hJa.out
    replace hC2 := hC2.out
    have hC1 := hr3.out
    replace hB := hB.out
    clear hr3
    refine wp_region_planF [false, false, false, false, false, false, false, false, false, false, false, false, false, false, false, true, true, true, true, true, true] (fun i => match i with | 0 => [15] | 1 => [16] | 2 => [17] | 3 => [18] | 4 => [19] | 5 => [20] | 6 => [] | _ => []) (fun W => Cel W (w.heap.size + 1) 25 #[.int .u8 7, .string ⟨#[]⟩, (.slice RA ra rc), (.slice RB rb rd)] ∧ JV W (fun k => w.heap.size + 2 ≤ k) (rangeJ p.a p.b p.c p.d) ((.slice RA ra rc)) ((.slice RB rb rd)) ∧ Below w.heap.size w W) (fun q W => q = 6 → Cel W (w.heap.size) 25 #[.int .u8 0, .string ⟨#[]⟩, .slice none 0 0, .slice none 0 0]) (fun i W W' => W.heap.size ≤ W'.heap.size ∧ (∀ k, k < W.heap.size → (i = 6 → k ≠ w.heap.size) → W'.heap[k]? = W.heap[k]?) ∧ Below w.heap.size w W') (PlcPhi w n 7 ⟨#[]⟩ (.slice RA ra rc) (.slice RB rb rd) (rangeJ p.a p.b p.c p.d) (placeJ n (p :: pt))) (by kernel_rfl) (by kernel_rfl) (by kernel_rfl) (by rfl) (by kernel_rfl) ⟨hC2.drew, hJa.drew, bel_drew hB⟩ (fun _ _ => hC1.drew) ?_ ?_ ?_ ?_ ?_ ?_
    · intro i W W' hS h
      exact ⟨(h.2.1 _ hS.1.lt (fun _ => by omega)).trans hS.1, hS.2.1.keepB h.1 (fun k h1 h2 => h.2.1 k h2 (fun _ => by omega)), h.2.2⟩
    · intro i q W W' hiq hS hU h hq
      have hC := hU hq
      exact (h.2.1 _ hC.lt (fun e => absurd (e.trans hq.symm) hiq)).trans hC
    · intro i j f W W' hji hw hS hP h
      obtain ⟨hs, hk, _⟩ := h
      have hkB : ∀ k, w.heap.size + 2 ≤ k → k < W.heap.size → W'.heap[k]? = W.heap[k]? := fun k h1 h2 => hk k h2 (fun _ => by omega)
      match j with
      | 0 =>
        exact hP.keep (fun k h1 h2 => hkB k h1 h2)
      | 1 => exact hP
      | 2 =>
        exact hP.keep hs (fun k h1 h2 => hkB k h1 h2)
      | 3 => exact hP
      | 4 =>
        exact hP.keep hs (fun k h1 h2 => hkB k h1 h2)
      | 5 =>
        exact hP.keep hs (fun k h1 h2 => hkB k h1 h2)
      | 6 =>
        obtain ⟨vn, vl, hC, hJ⟩ := hP
        exact ⟨vn, vl, (hk _ hC.lt (fun e => absurd e.symm hji)).trans hC, hJ.keepB hs (fun k h1 h2 => hkB k h1 h2)⟩
      | m + 7 => trivial
    · intro j f f' W hf hP
      match j with
      | 0 =>
        unfold PlcPhi at hP ⊢
        try dsimp only at hP ⊢
        rw [hf 15 (by simp)]
        exact hP
      | 1 =>
        unfold PlcPhi at hP ⊢
        try dsimp only at hP ⊢
        rw [hf 16 (by simp)]
        exact hP
      | 2 =>
        unfold PlcPhi at hP ⊢
        try dsimp only at hP ⊢
        rw [hf 17 (by simp)]
        exact hP
      | 3 =>
        unfold PlcPhi at hP ⊢
        try dsimp only at hP ⊢
        rw [hf 18 (by simp)]
        exact hP
      | 4 =>
        unfold PlcPhi at hP ⊢
        try dsimp only at hP ⊢
        rw [hf 19 (by simp)]
        exact hP
      | 5 =>
        unfold PlcPhi at hP ⊢
        try dsimp only at hP ⊢
        rw [hf 20 (by simp)]
        exact hP
      | 6 => exact hP
      | m + 7 => trivial
    · intro i o ho b' W hS hU hd hz hf hdep K hK
      obtain ⟨tm, df⟩ := b'
      dsimp only at hd
      subst hd
      clear hz
      obtain ⟨hc, hJc, hbl⟩ := hS
      have hBW : w.heap.size + 2 ≤ W.heap.size := by have := hc.lt; omega
      have kp : ∀ i, i ≠ 6 → ∀ W', Below W.heap.size W W' → W.heap.size ≤ W'.heap.size ∧ (∀ k, k < W.heap.size → (i = 6 → k ≠ w.heap.size) → W'.heap[k]? = W.heap[k]?) ∧ Below w.heap.size w W' := fun i hi W' h => ⟨h.size, fun k hk _ => h.block k hk, hbl.trans (h.mono hbl.size)⟩
      match i with
      | 0 =>
        injection ho with ho
        subst ho
        clear hf hdep hU
        go_simp
        exact hK _ _ (by simp) ⟨_, rfl, hBW, Cel.fresh _ _ _⟩ (kp 0 (by decide) _ ((Below.refl _ _).alloc (Nat.le_refl _) _))
      | 1 =>
        injection ho with ho
        subst ho
        have q1 : tm[0]?.getD undef = .int .i64 n := by
          have := hf 0 (by decide)
          simpa using this
        clear hf hdep hU
        go_simp
        exact hK _ _ (by simp) rfl (kp 1 (by decide) _ (Below.refl _ _))
      | 2 =>
        injection ho with ho
        subst ho
        have h1 : tm[16]?.getD undef = .int .i64 n := by
          have := hdep 1 (by kernel_rfl)
          simpa [slotF, PlcPhi] using this
        have hcall := hNum.out W hbl
        clear hf hdep hU
        go_simp
        refine hcall.mono ?_
        rintro e w1 ⟨xn, xl, rfl, hO, hbb⟩
        exact hK _ _ (by simp) ⟨xn, xl, rfl, (OwnJ.jv _ hO).more (fun k hk _ => by omega)⟩ (kp 2 (by decide) _ hbb)
      | 3 =>
        injection ho with ho
        subst ho
        have c0 : W.cell? ⟨w.heap.size + 1, 0, none⟩ = some (.int .u8 7) := hc.cell 0
        have c1 : W.cell? ⟨w.heap.size + 1, 1, none⟩ = some (.string ⟨#[]⟩) := hc.cell 1
        have c2 : W.cell? ⟨w.heap.size + 1, 2, none⟩ = some ((.slice RA ra rc)) := hc.cell 2
        have c3 : W.cell? ⟨w.heap.size + 1, 3, none⟩ = some ((.slice RB rb rd)) := hc.cell 3
        have t5 : tm[5]?.getD undef = .pointer (some ⟨w.heap.size + 1, 0, none⟩) := by
          have := hf 5 (by decide)
          simpa using this
        clear hf hdep hU
        go_simp
        exact hK _ _ (by simp) rfl (kp 3 (by decide) _ (Below.refl _ _))
      | 4 =>
        injection ho with ho
        subst ho
        obtain ⟨u0, u1, e1, hJ1⟩ := hdep 2 (by kernel_rfl)
        obtain ⟨A0, n0, c0, B0, m0, d0, rfl, rfl⟩ := hJ1.forms
        have h1 : tm[17]?.getD undef = .agg #[.int .u8 4, .string ⟨(ofNL n).toArray⟩, .slice A0 n0 c0, .slice B0 m0 d0] := by simpa [slotF, jvV, numJ] using e1
        clear e1
        have h2 : tm[18]?.getD undef = .agg #[.int .u8 7, .string ⟨#[]⟩, (.slice RA ra rc), (.slice RB rb rd)] := by
          have := hdep 3 (by kernel_rfl)
          simpa [slotF, PlcPhi] using this
        clear hf hdep hU
        go_simp
        have hbb := (Below.refl W.heap.size W).alloc (Nat.le_refl _) (.cells #[.int .u8 4, .string ⟨(ofNL n).toArray⟩, .slice A0 n0 c0, .slice B0 m0 d0, .int .u8 7, .string ⟨#[]⟩, (.slice RA ra rc), (.slice RB rb rd)] 25)
        refine hK _ _ (by simp) ⟨_, [((numJ n : Jsn), (.slice A0 n0 c0 : Value), (.slice B0 m0 d0 : Value)), ((rangeJ p.a p.b p.c p.d : Jsn), ((.slice RA ra rc) : Value), ((.slice RB rb rd) : Value))], rfl, hBW, Cel.fresh _ _ _, rfl, fun z hz => ?_⟩ (kp 4 (by decide) _ hbb)
        simp at hz
        rcases hz with rfl | rfl
        · exact hJ1.later hbb
        · exact hJc.later hbb
      | 5 =>
        injection ho with ho
        subst ho
        obtain ⟨gn, gl, e1, e2, hJ⟩ := obj_rows (hdep 0 (by kernel_rfl)) (hdep 4 (by kernel_rfl))
        have h1 : tm[15]?.getD undef = .slice (some ⟨gn, 0, none⟩) 2 2 := by simpa [slotF] using e1
        have h2 : tm[19]?.getD undef = .slice (some ⟨gl, 0, none⟩) 2 2 := by simpa [slotF] using e2
        replace e1 : slotF ⟨tm, []⟩ 15 = .slice (some ⟨gn, 0, none⟩) 2 2 := by simpa using e1
        replace e2 : slotF ⟨tm, []⟩ 19 = .slice (some ⟨gl, 0, none⟩) 2 2 := by simpa using e2
        rw [e1, e2] at hJ
        have hcall := refObj8_any W (some ⟨gn, 0, none⟩) 2 2 (some ⟨gl, 0, none⟩) 2 2
        clear hf hdep hU e1 e2
        go_simp
        refine hcall.mono ?_
        rintro e w1 ⟨rfl, hbb⟩
        exact hK _ _ (by simp) ⟨_, _, rfl, hJ.later hbb⟩ (kp 5 (by decide) _ hbb)
      | 6 =>
        injection ho with ho
        subst ho
        obtain ⟨u1, u2, e1, hJ⟩ := hdep 5 (by kernel_rfl)
        obtain ⟨C1, r1, r2, C2, r3, r4, rfl, rfl⟩ := hJ.forms
        have h1 : tm[20]?.getD undef = .agg #[.int .u8 7, .string ⟨#[]⟩, .slice C1 r1 r2, .slice C2 r3 r4] := by
          have e2 : slotF ⟨tm, []⟩ 20 = .agg #[.int .u8 7, .string ⟨#[]⟩, .slice C1 r1 r2, .slice C2 r3 r4] := e1
          simpa [slotF] using e2
        have t2 : tm[4]?.getD undef = .pointer (some ⟨w.heap.size, 0, none⟩) := by
          have := hf 4 (by decide)
          simpa using this
        have hcr := hU 6 (Or.inl rfl) rfl
        obtain ⟨p0, p1, p2, p3⟩ := hcr.c4
        have s0 := hcr.froz 0
        have s1 := hcr.froz 1
        have s2 := hcr.froz 2
        have s3 := hcr.froz 3
        obtain ⟨W5, hW5⟩ : ∃ X, (((W.setCell ⟨w.heap.size, 0, none⟩ (.int .u8 7)).setCell ⟨w.heap.size, 1, none⟩ (.string ⟨#[]⟩)).setCell ⟨w.heap.size, 2, none⟩ (.slice C1 r1 r2)).setCell ⟨w.heap.size, 3, none⟩ (.slice C2 r3 r4) = X := ⟨_, rfl⟩
        have hk5 : ∀ k, k ≠ w.heap.size → W5.heap[k]? = W.heap[k]? := fun k hk => by
          rw [← hW5, Below.heap_setCell _ _ _ _ hk, Below.heap_setCell _ _ _ _ hk, Below.heap_setCell _ _ _ _ hk, Below.heap_setCell _ _ _ _ hk]
        have hs5 : W5.heap.size = W.heap.size := by rw [← hW5]; simp [World.setCell]
        have hC5 : Cel W5 (w.heap.size) 25 #[.int .u8 7, .string ⟨#[]⟩, .slice C1 r1 r2, .slice C2 r3 r4] := by
          rw [← hW5]
          have := (((hcr.set 0 (.int .u8 7)).set 1 (.string ⟨#[]⟩)).set 2 (.slice C1 r1 r2)).set 3 (.slice C2 r3 r4)
          simpa using this
        have hB5 : Below w.heap.size w W5 := by
          rw [← hW5]
          exact (((hbl.setCell (by simp) _).setCell (by simp) _).setCell (by simp) _).setCell (by simp) _
        have hJ5 : JV W5 (fun k => w.heap.size + 2 ≤ k) (placeJ n (p :: pt)) (.slice C1 r1 r2) (.slice C2 r3 r4) := hJ.keepB (by omega) (fun k h1 _ => hk5 k (by omega))
        replace hW5 := Lib.hid hW5
        clear hf hdep e1 hU
        go_simp
        rw [hW5.out]
        exact hK undef _ (fun _ => rfl) ⟨_, _, hC5, hJ5⟩ ⟨by omega, fun k hk h => hk5 k (h rfl), hB5⟩
      | m + 7 => simp at ho
    · intro u W hS hfact
      obtain ⟨hc, hJc, hbl⟩ := hS
      simp only [frameU, Nat.reduceAdd] at hfact ⊢
      obtain ⟨vn, vl, hC, hJ⟩ := hfact 6 (by decide)
      obtain ⟨dj, hd1, hd2⟩ := jsnDesc
      clear hfact hNum hC1 hC2 hJa hB hJc hc
      replace hd1 := Lib.hid hd1
      replace hd2 := Lib.hid hd2
      go_wp2
      exact bodyPost_ret (results_cel1 Tryz.results16 _ _ _ _ _ dj rfl hC hd1.out hd2.out jsnInfo) rfl ⟨_, _, rfl, hJ.more (fun k hk _ => by omega), hbl⟩
end Go.Proofs.YtghaoielnphhlaaGreatDoor
