/-
  The walks of lsp.Method, of rostrumlaw08.asked and awake.
-/
import Derived.Test.YtlnkjacbdolhnaaGreatDoorM31
namespace Go.Proofs.YtlnkjacbdolhnaaGreatDoor
open Go.RowKit Go.WideMaps Go.Maps

theorem zeroMeth (w : World) : (zeroValue 77).run Tryz.prog w = .ok (mV (⟨#[]⟩, none)) w := by kernel_rfl
theorem meth_4 (G : Nat → Nat) (z : DataW Unit) : (methD G).atKey (.int .u8 4) z = mCode (mName4, some (68, some (G 4))) := by kernel_rfl
theorem field_name (s : ByteArray) (v : Value) (w : World) : (Instr.field 77 (.agg #[.string s, v]) 0).run Tryz.prog w = .ok (.string s) w := by kernel_rfl
set_option maxRecDepth 100000 in
set_option maxHeartbeats 2000000 in
theorem lspMethod4_any (w : World) : Calls Tryz.prog 30 #[.int .u8 4] w fun e w' => e = .returned (.string mName4) ∧ Below w.heap.size w w' := by
  have hm := Lib.hid (methods_any w)
  go_enter Tryz.func30, Tryz.ntmps30
  go_wp2_with fail
  refine hm.out.mono ?_
  rintro e w1 ⟨G, H, rfl, hown, _, hb⟩
  obtain ⟨v, ps, hrun, hv⟩ := hown.lookup lawU Tryz.underlying73 (zeroMeth w1) (RM_mV _) (keyOf_int_mk (a := 4) Tryz.underlying5 (by decide))
  obtain ⟨x, rfl, hx⟩ := RM_inv hv
  rw [meth_4] at hx
  injection hx with hx _
  have hx2 := mCode_inj hx
  subst hx2
  replace hrun : (Instr.lookup 73 (.map (some w.heap.size)) (.int .u8 4) false).run Tryz.prog w1 = .ok (.agg #[.string mName4, .func (.func 68) #[] #[.pointer (some ⟨G 4, 0, none⟩)]]) w1 := hrun
  replace hb := Lib.hid hb
  have hfl := field_name mName4 (.func (.func 68) #[] #[.pointer (some ⟨G 4, 0, none⟩)])
  clear hown hv hx hm
  go_wp2_with fail
  exact bodyPost_ret (v := .string mName4) (by simp [results, Tryz.results30, go_sem]) rfl ⟨rfl, hb.out⟩
def askedJ (u : ByteArray) (a b : Int) : Jsn := mkO [yTextDocument, yPosition] [mkO [yUri] [strJ u], posJ a b]
def AskPhi (B : Nat) (rb : Nat) (a b : Int) (u : ByteArray) (vn vl : Value) (i : Nat) (f : Tmp → Value) (w : World) : Prop := match i with
  | 0 => pN w (B) [yTextDocument, yPosition] (f 13)
  | 1 => f 14 = .agg #[.int .u8 7, .string ⟨#[]⟩, vn, vl]
  | 2 => f 15 = .int .i64 a
  | 3 => f 16 = .int .i64 b
  | 4 => f 17 = .agg #[.int .i64 a, .int .i64 b]
  | 5 => pJ w (B) (posJ a b) (f 18)
  | 6 => pR w (B) [mkO [yUri] [strJ u], posJ a b] (f 19)
  | 7 => pJ w (B) (askedJ u a b) (f 20)
  | 8 => ∃ vn vl, Cel w rb 25 #[.int .u8 7, .string ⟨#[]⟩, vn, vl] ∧ JV w (fun k => B ≤ k) (askedJ u a b) vn vl
  | _ => True
set_option maxRecDepth 100000 in
set_option maxHeartbeats 8000000 in
theorem asked_any (u : ByteArray) (a b : Int) (w : World) (hE : Env w) (ha : I64 a) (hb2 : I64 b) : Calls Tryz.prog 28 #[.string u, .int .i64 a, .int .i64 b] w (JvEnd (askedJ u a b) w) := by
  obtain ⟨V, hV⟩ : ∃ V, w.alloc (.cells #[.int .u8 0, .string ⟨#[]⟩, .slice none 0 0, .slice none 0 0] 25) = V := ⟨_, rfl⟩
  have hBV : Below w.heap.size w V := by rw [← hV]; exact (Below.refl _ _).alloc (Nat.le_refl _) _
  have hsV : V.heap.size = w.heap.size + 1 := by rw [← hV]; simp
  have hCr : Cel V w.heap.size 25 #[.int .u8 0, .string ⟨#[]⟩, .slice none 0 0, .slice none 0 0] := by rw [← hV]; exact Cel.fresh _ _ _
  obtain ⟨V1, hV1⟩ : ∃ X, V.alloc (.cells #[.string ⟨#[117, 114, 105]⟩] 9) = X := ⟨_, rfl⟩
  have hN : pN V1 V.heap.size [yUri] (.slice (some ⟨w.heap.size + 1, 0, none⟩) 1 1) := by rw [← hV1, ← hsV]; exact ⟨_, rfl, Nat.le_refl _, Cel.fresh _ _ _⟩
  have hB1 : Below V.heap.size V V1 := by rw [← hV1]; exact (Below.refl _ _).alloc (Nat.le_refl _) _
  have hPos := Lib.hid (fun (W : World) (hb : Below w.heap.size w W) => refPos8_any a b W (hE.below hb) ha hb2)
  have hStr := Lib.hid (refStr8_any u V1)
  clear hE ha hb2
  replace hV := Lib.hid hV
  replace hV1 := Lib.hid hV1
  replace hN := Lib.hid hN
  replace hBV := Lib.hid hBV
  replace hCr := Lib.hid hCr
  replace hB1 := Lib.hid hB1
  go_enter Tryz.func28, Tryz.ntmps28
  go_upto_region 1 with fail
  rw [hV.out]
  clear hV
  go_wp2_with fail
  rw [hV1.out]
  clear hV1
  refine hStr.out.mono ?_
  rintro e w2 ⟨xn, xl, he, hO, hb⟩
  obtain ⟨A0, n0, c0, B0, m0, d0, rfl, rfl⟩ := hO.forms
  unfold strJ at he
  try dsimp only at he
  subst he
  have hJ0 := (OwnJ.jv _ hO).more (Y := fun k => V.heap.size ≤ k) (fun k hk _ => by have := hB1.out.size; omega)
  have hN2 := hN.out.keep (fun k _ hk => hb.block k hk)
  have hB2 := hB1.out.trans (hb.mono hB1.out.size)
  obtain ⟨wx, hwx⟩ : ∃ W, w2.alloc (.cells #[.int .u8 5, .string u, .slice A0 n0 c0, .slice B0 m0 d0] 25) = W := ⟨_, rfl⟩
  have hbx : Below w2.heap.size w2 wx := by rw [← hwx]; exact (Below.refl _ _).alloc (Nat.le_refl _) _
  have hR : pR wx V.heap.size [strJ u] (.slice (some ⟨w2.heap.size, 0, none⟩) 1 1) := by
    refine ⟨w2.heap.size, [((strJ u : Jsn), (Value.slice A0 n0 c0), (Value.slice B0 m0 d0))], rfl, hB2.size, by rw [← hwx]; exact Cel.fresh _ _ _, rfl, fun z hz => ?_⟩
    simp at hz
    subst hz
    exact hJ0.later hbx
  obtain ⟨gn, gl, e1, e2, hJ1⟩ := obj_rows (hN2.keep (fun k _ hk => hbx.block k hk)) hR
  have hB3 := hB2.trans (hbx.mono hB2.size)
  replace hwx := Lib.hid hwx
  replace hJ1 := Lib.hid hJ1
  replace hB3 := Lib.hid hB3
  clear hb hO hJ0 hN hN2 hB1 hB2 hbx hR e1 e2 hStr
  go_wp2_with fail
  rw [hwx.out]
  clear hwx
  refine (refObj8_any wx (some ⟨w.heap.size + 1, 0, none⟩) 1 1 (some ⟨w2.heap.size, 0, none⟩) 1 1).mono ?_
  rintro e w9 ⟨rfl, hb⟩
  have hJ2 := hJ1.out.later hb
  have hB4 := hB3.out.trans (hb.mono hB3.out.size)
  obtain ⟨W0, hW0⟩ : ∃ X, w9.alloc (.cells #[.int .u8 7, .string ⟨#[]⟩, .slice (some ⟨w.heap.size + 1, 0, none⟩) 1 1, .slice (some ⟨w2.heap.size, 0, none⟩) 1 1] 25) = X := ⟨_, rfl⟩
  have hb9 : Below w9.heap.size w9 W0 := by rw [← hW0]; exact (Below.refl _ _).alloc (Nat.le_refl _) _
  have hC2 : Cel W0 w9.heap.size 25 #[.int .u8 7, .string ⟨#[]⟩, .slice (some ⟨w.heap.size + 1, 0, none⟩) 1 1, .slice (some ⟨w2.heap.size, 0, none⟩) 1 1] := by rw [← hW0]; exact Cel.fresh _ _ _
  have hB5 := hB4.trans (hb9.mono hB4.size)
  have hC1 := hCr.out.below hB5 (by omega)
  have hB := hBV.out.trans (hB5.mono hBV.out.size)
  have hJa : JV W0 (fun k => w.heap.size + 1 ≤ k) (mkO [yUri] [strJ u]) (.slice (some ⟨w.heap.size + 1, 0, none⟩) 1 1) (.slice (some ⟨w2.heap.size, 0, none⟩) 1 1) := (hJ2.later hb9).more (fun k hk _ => by omega)
  have hbx2 : w.heap.size + 1 ≤ w9.heap.size := by have := hB4.size; omega
  replace hW0 := Lib.hid hW0
  replace hC1 := Lib.hid hC1
  replace hC2 := Lib.hid hC2
  replace hB := Lib.hid hB
  replace hJa := Lib.hid hJa
  clear hb hJ2 hB4 hb9 hB5 hJ1 hB3 hCr hBV hsV
  go_upto_region 2 with fail
  rw [hW0.out]
  clear hW0
  replace hC1 := hC1.out
  replace hC2 := hC2.out
  replace hB := hB.out
  replace hJa := hJa.out
  obtain ⟨bx, hbx⟩ : ∃ k, w9.heap.size = k := ⟨_, rfl⟩
  obtain ⟨Xa, hXa⟩ : ∃ k, some (⟨w.heap.size + 1, 0, none⟩ : Addr) = k := ⟨_, rfl⟩
  obtain ⟨Xb, hXb⟩ : ∃ k, some (⟨w2.heap.size, 0, none⟩ : Addr) = k := ⟨_, rfl⟩
  rw [hbx] at hC2 hbx2 ⊢
  rw [hXa, hXb] at hC2 hJa ⊢
  replace hbx := Lib.hid hbx
  replace hXa := Lib.hid hXa
  replace hXb := Lib.hid hXb
  obtain ⟨xa, xc, xb, xd, hx1, hx2, hx3, hx4⟩ : ∃ xa xc xb xd : Nat, 1 = xa ∧ 1 = xc ∧ 1 = xb ∧ 1 = xd := ⟨_, _, _, _, rfl, rfl, rfl, rfl⟩
  subst hx1 hx2 hx3 hx4
  refine wp_region_planF [false, false, false, false, false, false, false, false, false, false, false, false, false, true, true, true, true, true, true, true, true] (fun i => match i with | 0 => [13] | 1 => [14] | 2 => [15] | 3 => [16] | 4 => [17] | 5 => [18] | 6 => [19] | 7 => [20] | 8 => [] | _ => []) (fun W => Cel W (bx) 25 #[.int .u8 7, .string ⟨#[]⟩, .slice Xa 1 1, .slice Xb 1 1] ∧ JV W (fun k => w.heap.size + 1 ≤ k) (mkO [yUri] [strJ u]) (.slice Xa 1 1) (.slice Xb 1 1) ∧ Below w.heap.size w W) (fun q W => q = 8 → Cel W (w.heap.size) 25 #[.int .u8 0, .string ⟨#[]⟩, .slice none 0 0, .slice none 0 0]) (fun i W W' => W.heap.size ≤ W'.heap.size ∧ (∀ k, k < W.heap.size → (i = 8 → k ≠ w.heap.size) → W'.heap[k]? = W.heap[k]?) ∧ Below w.heap.size w W') (AskPhi (w.heap.size + 1) w.heap.size a b u (.slice Xa 1 1) (.slice Xb 1 1)) (by kernel_rfl) (by kernel_rfl) (by kernel_rfl) (by rfl) (by kernel_rfl) ⟨hC2.drew, hJa.drew, bel_drew hB⟩ (fun _ _ => hC1.drew) ?_ ?_ ?_ ?_ ?_ ?_
  · intro i W W' hS h
    exact ⟨(h.2.1 _ hS.1.lt (fun _ => by omega)).trans hS.1, hS.2.1.keepB h.1 (fun k h1 h2 => h.2.1 k h2 (fun _ => by omega)), h.2.2⟩
  · intro i q W W' hiq hS hU h hq
    have hC := hU hq
    exact (h.2.1 _ hC.lt (fun e => absurd (e.trans hq.symm) hiq)).trans hC
  · intro i j f W W' hji hw hS hP h
    obtain ⟨hs, hk, _⟩ := h
    have hkB : ∀ k, w.heap.size + 1 ≤ k → k < W.heap.size → W'.heap[k]? = W.heap[k]? := fun k h1 h2 => hk k h2 (fun _ => by omega)
    match j with
    | 0 =>
      exact hP.keep (fun k h1 h2 => hkB k h1 h2)
    | 1 => exact hP
    | 2 => exact hP
    | 3 => exact hP
    | 4 => exact hP
    | 5 =>
      exact hP.keep hs (fun k h1 h2 => hkB k h1 h2)
    | 6 =>
      exact hP.keep hs (fun k h1 h2 => hkB k h1 h2)
    | 7 =>
      exact hP.keep hs (fun k h1 h2 => hkB k h1 h2)
    | 8 =>
      obtain ⟨vn, vl, hC, hJ⟩ := hP
      exact ⟨vn, vl, (hk _ hC.lt (fun e => absurd e.symm hji)).trans hC, hJ.keepB hs (fun k h1 h2 => hkB k h1 h2)⟩
    | m + 9 => trivial
  · intro j f f' W hf hP
    match j with
    | 0 =>
      unfold AskPhi at hP ⊢
      try dsimp only at hP ⊢
      rw [hf 13 (by simp)]
      exact hP
    | 1 =>
      unfold AskPhi at hP ⊢
      try dsimp only at hP ⊢
      rw [hf 14 (by simp)]
      exact hP
    | 2 =>
      unfold AskPhi at hP ⊢
      try dsimp only at hP ⊢
      rw [hf 15 (by simp)]
      exact hP
    | 3 =>
      unfold AskPhi at hP ⊢
      try dsimp only at hP ⊢
      rw [hf 16 (by simp)]
      exact hP
    | 4 =>
      unfold AskPhi at hP ⊢
      try dsimp only at hP ⊢
      rw [hf 17 (by simp)]
      exact hP
    | 5 =>
      unfold AskPhi at hP ⊢
      try dsimp only at hP ⊢
      rw [hf 18 (by simp)]
      exact hP
    | 6 =>
      unfold AskPhi at hP ⊢
      try dsimp only at hP ⊢
      rw [hf 19 (by simp)]
      exact hP
    | 7 =>
      unfold AskPhi at hP ⊢
      try dsimp only at hP ⊢
      rw [hf 20 (by simp)]
      exact hP
    | 8 => exact hP
    | m + 9 => trivial
  · intro i o ho b' W hS hU hd hz hf hdep K hK
    obtain ⟨tm, df⟩ := b'
    dsimp only at hd
    subst hd
    clear hz
    obtain ⟨hc, hJc, hbl⟩ := hS
    have hBW : w.heap.size + 1 ≤ W.heap.size := by have := hc.lt; omega
    have kp : ∀ i, i ≠ 8 → ∀ W', Below W.heap.size W W' → W.heap.size ≤ W'.heap.size ∧ (∀ k, k < W.heap.size → (i = 8 → k ≠ w.heap.size) → W'.heap[k]? = W.heap[k]?) ∧ Below w.heap.size w W' := fun i hi W' h => ⟨h.size, fun k hk _ => h.block k hk, hbl.trans (h.mono hbl.size)⟩
    match i with
    | 0 =>
      injection ho with ho
      subst ho
      clear hf hdep hU
      go_simp
      exact hK _ _ (by simp) ⟨_, rfl, hBW, Cel.fresh _ _ _⟩ (kp 0 (by decide) _ ((Below.refl _ _).alloc (Nat.le_refl _) _))
    | 1 =>
      injection ho with ho
      subst ho
      have c0 : W.cell? ⟨bx, 0, none⟩ = some (.int .u8 7) := hc.cell 0
      have c1 : W.cell? ⟨bx, 1, none⟩ = some (.string ⟨#[]⟩) := hc.cell 1
      have c2 : W.cell? ⟨bx, 2, none⟩ = some (.slice Xa 1 1) := hc.cell 2
      have c3 : W.cell? ⟨bx, 3, none⟩ = some (.slice Xb 1 1) := hc.cell 3
      have t5 : tm[7]?.getD undef = .pointer (some ⟨bx, 0, none⟩) := by
        have := hf 7 (by decide)
        simpa using this
      clear hf hdep hU
      go_simp
      exact hK _ _ (by simp) rfl (kp 1 (by decide) _ (Below.refl _ _))
    | 2 =>
      injection ho with ho
      subst ho
      have q1 : tm[1]?.getD undef = .int .i64 a := by
        have := hf 1 (by decide)
        simpa using this
      clear hf hdep hU
      go_simp
      exact hK _ _ (by simp) rfl (kp 2 (by decide) _ (Below.refl _ _))
    | 3 =>
      injection ho with ho
      subst ho
      have q1 : tm[2]?.getD undef = .int .i64 b := by
        have := hf 2 (by decide)
        simpa using this
      clear hf hdep hU
      go_simp
      exact hK _ _ (by simp) rfl (kp 3 (by decide) _ (Below.refl _ _))
    | 4 =>
      injection ho with ho
      subst ho
      have h1 : tm[15]?.getD undef = .int .i64 a := by
        have := hdep 2 (by kernel_rfl)
        simpa [slotF, AskPhi] using this
      have h2 : tm[16]?.getD undef = .int .i64 b := by
        have := hdep 3 (by kernel_rfl)
        simpa [slotF, AskPhi] using this
      clear hf hdep hU
      go_simp
      exact hK _ _ (by simp) rfl (kp 4 (by decide) _ (Below.refl _ _))
    | 5 =>
      injection ho with ho
      subst ho
      have h1 : tm[17]?.getD undef = .agg #[.int .i64 a, .int .i64 b] := by
        have := hdep 4 (by kernel_rfl)
        simpa [slotF, AskPhi] using this
      have hcall := hPos.out W hbl
      clear hf hdep hU
      go_simp
      refine hcall.mono ?_
      rintro e w1 ⟨xn, xl, rfl, hO, hbb⟩
      exact hK _ _ (by simp) ⟨xn, xl, rfl, hO.more (fun k hk _ => by omega)⟩ (kp 5 (by decide) _ hbb)
    | 6 =>
      injection ho with ho
      subst ho
      have h1 : tm[14]?.getD undef = .agg #[.int .u8 7, .string ⟨#[]⟩, .slice Xa 1 1, .slice Xb 1 1] := by
        have := hdep 1 (by kernel_rfl)
        simpa [slotF, AskPhi] using this
      obtain ⟨u2, u3, e2, hJ2⟩ := hdep 5 (by kernel_rfl)
      obtain ⟨A1, n1, c1, B1, m1, d1, rfl, rfl⟩ := hJ2.forms
      have h2 : tm[18]?.getD undef = .agg #[.int .u8 7, .string ⟨#[]⟩, .slice A1 n1 c1, .slice B1 m1 d1] := by simpa [slotF, jvV, posJ, mkO] using e2
      clear e2
      clear hf hdep hU
      go_simp
      have hbb := (Below.refl W.heap.size W).alloc (Nat.le_refl _) (.cells #[.int .u8 7, .string ⟨#[]⟩, .slice Xa 1 1, .slice Xb 1 1, .int .u8 7, .string ⟨#[]⟩, .slice A1 n1 c1, .slice B1 m1 d1] 25)
      refine hK _ _ (by simp) ⟨_, [((mkO [yUri] [strJ u] : Jsn), (.slice Xa 1 1 : Value), (.slice Xb 1 1 : Value)), ((posJ a b : Jsn), (.slice A1 n1 c1 : Value), (.slice B1 m1 d1 : Value))], rfl, hBW, Cel.fresh _ _ _, rfl, fun z hz => ?_⟩ (kp 6 (by decide) _ hbb)
      simp at hz
      rcases hz with rfl | rfl
      · exact hJc.later hbb
      · exact hJ2.later hbb
    | 7 =>
      injection ho with ho
      subst ho
      obtain ⟨gn, gl, e1, e2, hJ⟩ := obj_rows (hdep 0 (by kernel_rfl)) (hdep 6 (by kernel_rfl))
      have h1 : tm[13]?.getD undef = .slice (some ⟨gn, 0, none⟩) 2 2 := by simpa [slotF] using e1
      have h2 : tm[19]?.getD undef = .slice (some ⟨gl, 0, none⟩) 2 2 := by simpa [slotF] using e2
      replace e1 : slotF ⟨tm, []⟩ 13 = .slice (some ⟨gn, 0, none⟩) 2 2 := by simpa using e1
      replace e2 : slotF ⟨tm, []⟩ 19 = .slice (some ⟨gl, 0, none⟩) 2 2 := by simpa using e2
      rw [e1, e2] at hJ
      have hcall := refObj8_any W (some ⟨gn, 0, none⟩) 2 2 (some ⟨gl, 0, none⟩) 2 2
      clear hf hdep hU e1 e2
      go_simp
      refine hcall.mono ?_
      rintro e w1 ⟨rfl, hbb⟩
      exact hK _ _ (by simp) ⟨_, _, rfl, hJ.later hbb⟩ (kp 7 (by decide) _ hbb)
    | 8 =>
      injection ho with ho
      subst ho
      obtain ⟨u1, u2, e1, hJ⟩ := hdep 7 (by kernel_rfl)
      obtain ⟨C1, r1, r2, C2, r3, r4, rfl, rfl⟩ := hJ.forms
      have h1 : tm[20]?.getD undef = .agg #[.int .u8 7, .string ⟨#[]⟩, .slice C1 r1 r2, .slice C2 r3 r4] := by
        have e2 : slotF ⟨tm, []⟩ 20 = .agg #[.int .u8 7, .string ⟨#[]⟩, .slice C1 r1 r2, .slice C2 r3 r4] := e1
        simpa [slotF] using e2
      have t2 : tm[6]?.getD undef = .pointer (some ⟨w.heap.size, 0, none⟩) := by
        have := hf 6 (by decide)
        simpa using this
      have hcr := hU 8 (Or.inl rfl) rfl
      obtain ⟨p0, p1, p2, p3⟩ := hcr.c4
      have s0 := hcr.froz 0
      have s1 := hcr.froz 1
      have s2 := hcr.froz 2
      have s3 := hcr.froz 3
      obtain ⟨W5, hW5⟩ : ∃ X, (((W.setCell ⟨w.heap.size, 0, none⟩ (.int .u8 7)).setCell ⟨w.heap.size, 1, none⟩ (.string ⟨#[]⟩)).setCell ⟨w.heap.size, 2, none⟩ (.slice C1 r1 r2)).setCell ⟨w.heap.size, 3, none⟩ (.slice C2 r3 r4) = X := ⟨_, rfl⟩
      have hk5 : ∀ k, k ≠ w.heap.size → W5.heap[k]? = W.heap[k]? := fun k hk => by
        rw [← hW5, Below.heap_setCell _ _ _ _ hk, Below.heap_setCell _ _ _ _ hk, Below.heap_setCell _ _ _ _ hk, Below.heap_setCell _ _ _ _ hk]
      have hs5 : W5.heap.size = W.heap.size := by rw [← hW5]; simp [World.setCell]
      have hC5 : Cel W5 (w.heap.size) 25 #[.int .u8 7, .string ⟨#[]⟩, .slice C1 r1 r2, .slice C2 r3 r4] := by
        rw [← hW5]
        have := (((hcr.set 0 (.int .u8 7)).set 1 (.string ⟨#[]⟩)).set 2 (.slice C1 r1 r2)).set 3 (.slice C2 r3 r4)
        simpa using this
      have hB5 : Below w.heap.size w W5 := by
        rw [← hW5]
        exact (((hbl.setCell (by simp) _).setCell (by simp) _).setCell (by simp) _).setCell (by simp) _
      have hJ5 : JV W5 (fun k => w.heap.size + 1 ≤ k) (askedJ u a b) (.slice C1 r1 r2) (.slice C2 r3 r4) := hJ.keepB (by omega) (fun k h1 _ => hk5 k (by omega))
      replace hW5 := Lib.hid hW5
      clear hf hdep e1 hU
      go_simp
      rw [hW5.out]
      exact hK undef _ (fun _ => rfl) ⟨_, _, hC5, hJ5⟩ ⟨by omega, fun k hk h => hk5 k (h rfl), hB5⟩
    | m + 9 => simp at ho
  · intro u W hS hfact
    obtain ⟨hc, hJc, hbl⟩ := hS
    simp only [frameU, Nat.reduceAdd] at hfact ⊢
    obtain ⟨vn, vl, hC, hJ⟩ := hfact 8 (by decide)
    obtain ⟨dj, hd1, hd2⟩ := jsnDesc
    clear hfact hPos hC1 hC2 hJa hB hJc hc
    replace hd1 := Lib.hid hd1
    replace hd2 := Lib.hid hd2
    go_wp2
    exact bodyPost_ret (results_cel1 Tryz.results28 _ _ _ _ _ dj rfl hC hd1.out hd2.out jsnInfo) rfl ⟨_, _, rfl, hJ.more (fun k hk _ => by omega), hbl⟩
end Go.Proofs.YtlnkjacbdolhnaaGreatDoor


/-
  The walk of the document's Caps.
-/
namespace Go.Proofs.YtlnkjacbdolhnaaGreatDoor
open Go.RowKit

def capsZ (vn vl : Value) : List JE := [(trueJ, .slice none 0 0, .slice none 0 0), (trueJ, .slice none 0 0, .slice none 0 0), (trueJ, .slice none 0 0, .slice none 0 0), (trueJ, .slice none 0 0, .slice none 0 0), (trueJ, .slice none 0 0, .slice none 0 0), (numJ 2, vn, vl)]
def CapPhi (B : Nat) (i : Nat) (f : Tmp → Value) (w : World) : Prop := match i with
  | 0 => ∃ g, f 4 = .slice (some ⟨g, 0, none⟩) 6 6 ∧ B ≤ g ∧ Cel w g 9 ((capNames ++ [lSync]).map Value.string).toArray
  | 1 => f 5 = .agg #[.int .u8 2, .string ⟨#[]⟩, .slice none 0 0, .slice none 0 0]
  | 2 => f 6 = .agg #[.int .u8 2, .string ⟨#[]⟩, .slice none 0 0, .slice none 0 0]
  | 3 => f 7 = .agg #[.int .u8 2, .string ⟨#[]⟩, .slice none 0 0, .slice none 0 0]
  | 4 => f 8 = .agg #[.int .u8 2, .string ⟨#[]⟩, .slice none 0 0, .slice none 0 0]
  | 5 => f 9 = .agg #[.int .u8 2, .string ⟨#[]⟩, .slice none 0 0, .slice none 0 0]
  | 6 => ∃ vn vl, f 10 = jvV (numJ 2) vn vl ∧ JV w (fun _ => False) (numJ 2) vn vl
  | 7 => ∃ g vn vl, f 11 = .slice (some ⟨g, 0, none⟩) 6 6 ∧ B ≤ g ∧ Cel w g 25 ((capsZ vn vl).flatMap encJ).toArray ∧ JV w (fun _ => False) (numJ 2) vn vl
  | 8 => ∃ gn gl vn vl, f 12 = .agg #[.int .u8 7, .string ⟨#[]⟩, .slice (some ⟨gn, 0, none⟩) 6 6, .slice (some ⟨gl, 0, none⟩) 6 6] ∧ B ≤ gn ∧ B ≤ gl ∧ Cel w gn 9 ((capNames ++ [lSync]).map Value.string).toArray ∧ Cel w gl 25 ((capsZ vn vl).flatMap encJ).toArray ∧ JV w (fun _ => False) (numJ 2) vn vl
  | 9 => ∃ g, f 2 = .pointer (some ⟨g, 0, none⟩) ∧ B ≤ g ∧ ∃ x0 x1 x2 x3, Cel w g 25 #[x0, x1, x2, x3]
  | 10 => ∃ g vn vl, f 2 = .pointer (some ⟨g, 0, none⟩) ∧ B ≤ g ∧ Cel w g 25 #[.int .u8 7, .string ⟨#[]⟩, vn, vl] ∧ JV w (fun k => B ≤ k ∧ k ≠ g) capsIn vn vl
  | _ => True
end Go.Proofs.YtlnkjacbdolhnaaGreatDoor
