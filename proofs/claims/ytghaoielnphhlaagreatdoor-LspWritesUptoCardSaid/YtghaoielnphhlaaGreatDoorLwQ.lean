/-
  The walk of the document's Caps.
-/
import Derived.Test.YtghaoielnphhlaaGreatDoorLwN
namespace Go.Proofs.YtghaoielnphhlaaGreatDoor
open Go.RowKit

/-- A value without names and items is so whatever the world. -/
theorem leaf_jv {w w' : World} {X Y : Nat → Prop} {k : Int} {s : ByteArray} {vn vl : Value} (h : JV w X ⟨k, s, [], []⟩ vn vl) : JV w' Y ⟨k, s, [], []⟩ vn vl := by
  rw [JV_eq] at h ⊢
  obtain ⟨h0, h1, ⟨A, c, e, _⟩, A', c', e', _⟩ := h
  exact ⟨h0, h1, ⟨A, c, e, fun h => by simp at h⟩, A', c', e', fun h => by simp at h⟩
theorem cel_ne {w : World} {a b : Nat} {t u : TypeId} {cs ds : Array Value} (h1 : Cel w a t cs) (h2 : Cel w b u ds) (hn : cs.size ≠ ds.size) : a ≠ b := fun e => by
  subst e
  unfold Cel at h1 h2
  rw [h1] at h2
  injection h2 with h2
  injection h2 with h2 _ _
  exact hn (by rw [h2])
def capsZ (vn vl : Value) : List JE := [(trueJ, .slice none 0 0, .slice none 0 0), (trueJ, .slice none 0 0, .slice none 0 0), (trueJ, .slice none 0 0, .slice none 0 0), (trueJ, .slice none 0 0, .slice none 0 0), (trueJ, .slice none 0 0, .slice none 0 0), (numJ 2, vn, vl)]
def CapPhi (B : Nat) (i : Nat) (f : Tmp → Value) (w : World) : Prop := match i with
  | 0 => ∃ g, f 4 = .slice (some ⟨g, 0, none⟩) 6 6 ∧ B ≤ g ∧ Cel w g 9 ((capNames ++ [lSync]).map Value.string).toArray
  | 1 => f 5 = .agg #[.int .u8 2, .string ⟨#[]⟩, .slice none 0 0, .slice none 0 0]
  | 2 => f 6 = .agg #[.int .u8 2, .string ⟨#[]⟩, .slice none 0 0, .slice none 0 0]
  | 3 => f 7 = .agg #[.int .u8 2, .string ⟨#[]⟩, .slice none 0 0, .slice none 0 0]
  | 4 => f 8 = .agg #[.int .u8 2, .string ⟨#[]⟩, .slice none 0 0, .slice none 0 0]
  | 5 => f 9 = .agg #[.int .u8 2, .string ⟨#[]⟩, .slice none 0 0, .slice none 0 0]
  | 6 => ∃ vn vl, f 10 = jvV (numJ 2) vn vl ∧ JV w (fun _ => False) (numJ 2) vn vl
  | 7 => ∃ g vn vl, f 11 = .slice (some ⟨g, 0, none⟩) 6 6 ∧ B ≤ g ∧ Cel w g 25 ((capsZ vn vl).flatMap encJ).toArray ∧ JV w (fun _ => False) (numJ 2) vn vl
  | 8 => ∃ gn gl vn vl, f 12 = .agg #[.int .u8 7, .string ⟨#[]⟩, .slice (some ⟨gn, 0, none⟩) 6 6, .slice (some ⟨gl, 0, none⟩) 6 6] ∧ B ≤ gn ∧ B ≤ gl ∧ Cel w gn 9 ((capNames ++ [lSync]).map Value.string).toArray ∧ Cel w gl 25 ((capsZ vn vl).flatMap encJ).toArray ∧ JV w (fun _ => False) (numJ 2) vn vl
  | 9 => ∃ g, f 2 = .pointer (some ⟨g, 0, none⟩) ∧ B ≤ g ∧ ∃ x0 x1 x2 x3, Cel w g 25 #[x0, x1, x2, x3]
  | 10 => ∃ g vn vl, f 2 = .pointer (some ⟨g, 0, none⟩) ∧ B ≤ g ∧ Cel w g 25 #[.int .u8 7, .string ⟨#[]⟩, vn, vl] ∧ JV w (fun k => B ≤ k ∧ k ≠ g) capsIn vn vl
  | _ => True
set_option maxRecDepth 100000 in
set_option maxHeartbeats 8000000 in
theorem refCaps8_any (w : World) (hE : Env w) : Calls Tryz.prog 24 #[] w (JvEnd capsJ w) := by
  obtain ⟨V, hV⟩ : ∃ V, (w.alloc (.cells #[.int .u8 0, .string ⟨#[]⟩, .slice none 0 0, .slice none 0 0] 25)).alloc (.cells #[.int .u8 2, .string ⟨#[]⟩, .slice none 0 0, .slice none 0 0] 25) = V := ⟨_, rfl⟩
  have hB : Below w.heap.size w V := by rw [← hV]; exact ((Below.refl _ _).alloc (Nat.le_refl _) _).alloc (by simp) _
  have hC1 : Cel V w.heap.size 25 #[.int .u8 0, .string ⟨#[]⟩, .slice none 0 0, .slice none 0 0] := by rw [← hV]; exact (Cel.fresh _ _ _).alloc _
  have hC2 : Cel V (w.heap.size + 1) 25 #[.int .u8 2, .string ⟨#[]⟩, .slice none 0 0, .slice none 0 0] := by
    rw [← hV]
    have := Cel.fresh (w.alloc (.cells #[.int .u8 0, .string ⟨#[]⟩, .slice none 0 0, .slice none 0 0] 25)) 25 #[.int .u8 2, .string ⟨#[]⟩, .slice none 0 0, .slice none 0 0]
    simpa using this
  have hNum := Lib.hid (fun (W : World) (hb : Below w.heap.size w W) => refNum8_any 2 W (hE.below hb) (by omega) (by omega))
  clear hE
  replace hV := Lib.hid hV
  go_enter Tryz.func24, Tryz.ntmps24
  go_upto_region 2 with fail
  rw [hV.out]
  clear hV
  refine wp_region_planF [false, false, true, false, true, true, true, true, true, true, true, true, true, false, false, false, false] (fun i => match i with | 0 => [4] | 1 => [5] | 2 => [6] | 3 => [7] | 4 => [8] | 5 => [9] | 6 => [10] | 7 => [11] | 8 => [12] | 9 => [2] | 10 => [2] | _ => []) (fun W => Cel W (w.heap.size + 1) 25 #[.int .u8 2, .string ⟨#[]⟩, .slice none 0 0, .slice none 0 0] ∧ Cel W w.heap.size 25 #[.int .u8 0, .string ⟨#[]⟩, .slice none 0 0, .slice none 0 0] ∧ Below w.heap.size w W) (fun _ _ => True) (fun i W W' => W.heap.size ≤ W'.heap.size ∧ (∀ k, k < W.heap.size → (i = 10 → ∀ x0 x1 x2 x3, w.heap.size + 2 ≤ k → ¬ Cel W k 25 #[x0, x1, x2, x3]) → W'.heap[k]? = W.heap[k]?) ∧ (∀ k x0 x1 x2 x3, Cel W k 25 #[x0, x1, x2, x3] → ∃ x0 x1 x2 x3, Cel W' k 25 #[x0, x1, x2, x3]) ∧ Below w.heap.size w W') (CapPhi (w.heap.size + 2)) (by kernel_rfl) (by kernel_rfl) (by kernel_rfl) (by rfl) (by kernel_rfl) ⟨hC2.drew, hC1.drew, bel_drew hB⟩ (fun _ => trivial) ?_ (fun _ _ _ _ _ _ _ _ => trivial) ?_ ?_ ?_ ?_
  · intro i W W' hS h
    exact ⟨(h.2.1 _ hS.1.lt (fun _ x0 x1 x2 x3 h2 => by omega)).trans hS.1, (h.2.1 _ hS.2.1.lt (fun _ x0 x1 x2 x3 h2 => by omega)).trans hS.2.1, h.2.2.2⟩
  · intro i j f W W' hji hw hS hP h
    obtain ⟨hs, hk0, hk4, _⟩ := h
    have hk : ∀ k, k < W.heap.size → (i = 10 → ∀ x0 x1 x2 x3, ¬ Cel W k 25 #[x0, x1, x2, x3]) → W'.heap[k]? = W.heap[k]? := fun k h1 h2 => hk0 k h1 (fun e x0 x1 x2 x3 _ => h2 e x0 x1 x2 x3)
    match j with
    | 0 =>
      obtain ⟨g, e, hg, hC⟩ := hP
      exact ⟨g, e, hg, (hk g hC.lt (fun _ x0 x1 x2 x3 hx => absurd rfl (cel_ne hC hx (by simp [capNames])))).trans hC⟩
    | 1 => exact hP
    | 2 => exact hP
    | 3 => exact hP
    | 4 => exact hP
    | 5 => exact hP
    | 6 =>
      obtain ⟨vn, vl, e, hJ⟩ := hP
      exact ⟨vn, vl, e, leaf_jv hJ⟩
    | 7 =>
      obtain ⟨g, vn, vl, e, hg, hC, hJ⟩ := hP
      exact ⟨g, vn, vl, e, hg, (hk g hC.lt (fun _ x0 x1 x2 x3 hx => absurd rfl (cel_ne hC hx (by simp [capsZ, encJ])))).trans hC, leaf_jv hJ⟩
    | 8 =>
      obtain ⟨gn, gl, vn, vl, e, h1, h2, hN, hC, hJ⟩ := hP
      exact ⟨gn, gl, vn, vl, e, h1, h2, (hk gn hN.lt (fun _ x0 x1 x2 x3 hx => absurd rfl (cel_ne hN hx (by simp [capNames])))).trans hN, (hk gl hC.lt (fun _ x0 x1 x2 x3 hx => absurd rfl (cel_ne hC hx (by simp [capsZ, encJ])))).trans hC, leaf_jv hJ⟩
    | 9 =>
      obtain ⟨g, e, hg, x0, x1, x2, x3, hC⟩ := hP
      exact ⟨g, e, hg, hk4 g x0 x1 x2 x3 hC⟩
    | 10 =>
      obtain ⟨g, vn, vl, e, hg, hC, hJ⟩ := hP
      have hk' : ∀ k, k < W.heap.size → W'.heap[k]? = W.heap[k]? := fun k h => hk k h (fun e => absurd e.symm hji)
      exact ⟨g, vn, vl, e, hg, (hk' g hC.lt).trans hC, JV.keep hs (fun p h1 h2 => World.cell?_of_block (hk' p.block h2)) (fun _ h _ => h) _ hJ⟩
    | m + 11 => trivial
  · intro j f f' W hf hP
    match j with
    | 0 =>
      unfold CapPhi at hP ⊢
      try dsimp only at hP ⊢
      rw [hf 4 (by simp)]
      exact hP
    | 1 =>
      unfold CapPhi at hP ⊢
      try dsimp only at hP ⊢
      rw [hf 5 (by simp)]
      exact hP
    | 2 =>
      unfold CapPhi at hP ⊢
      try dsimp only at hP ⊢
      rw [hf 6 (by simp)]
      exact hP
    | 3 =>
      unfold CapPhi at hP ⊢
      try dsimp only at hP ⊢
      rw [hf 7 (by simp)]
      exact hP
    | 4 =>
      unfold CapPhi at hP ⊢
      try dsimp only at hP ⊢
      rw [hf 8 (by simp)]
      exact hP
    | 5 =>
      unfold CapPhi at hP ⊢
      try dsimp only at hP ⊢
      rw [hf 9 (by simp)]
      exact hP
    | 6 =>
      unfold CapPhi at hP ⊢
      try dsimp only at hP ⊢
      rw [hf 10 (by simp)]
      exact hP
    | 7 =>
      unfold CapPhi at hP ⊢
      try dsimp only at hP ⊢
      rw [hf 11 (by simp)]
      exact hP
    | 8 =>
      unfold CapPhi at hP ⊢
      try dsimp only at hP ⊢
      rw [hf 12 (by simp)]
      exact hP
    | 9 =>
      unfold CapPhi at hP ⊢
      try dsimp only at hP ⊢
      rw [hf 2 (by simp)]
      exact hP
    | 10 =>
      unfold CapPhi at hP ⊢
      try dsimp only at hP ⊢
      rw [hf 2 (by simp)]
      exact hP
    | m + 11 => trivial
  · intro i o ho b' W hS hU hd hz hf hdep K hK
    obtain ⟨tm, df⟩ := b'
    dsimp only at hd
    subst hd
    clear hz
    obtain ⟨hc, hcz, hbl⟩ := hS
    have hBW : w.heap.size + 2 ≤ W.heap.size := by have := hc.lt; omega
    have kp : ∀ i, i ≠ 10 → ∀ W', Below W.heap.size W W' → W.heap.size ≤ W'.heap.size ∧ (∀ k, k < W.heap.size → (i = 10 → ∀ x0 x1 x2 x3, w.heap.size + 2 ≤ k → ¬ Cel W k 25 #[x0, x1, x2, x3]) → W'.heap[k]? = W.heap[k]?) ∧ (∀ k x0 x1 x2 x3, Cel W k 25 #[x0, x1, x2, x3] → ∃ x0 x1 x2 x3, Cel W' k 25 #[x0, x1, x2, x3]) ∧ Below w.heap.size w W' := fun i _ W' h => ⟨h.size, fun k hk _ => h.block k hk, fun k x0 x1 x2 x3 hx => ⟨_, _, _, _, hx.below h hx.lt⟩, hbl.trans (h.mono hbl.size)⟩
    match i with
    | 0 =>
      injection ho with ho
      subst ho
      clear hf hdep hU
      go_simp
      exact hK _ _ (by simp) ⟨_, rfl, hBW, Cel.fresh _ _ _⟩ (kp 0 (by decide) _ ((Below.refl _ _).alloc (Nat.le_refl _) _))
    | 1 =>
      injection ho with ho
      subst ho
      have c0 : W.cell? ⟨w.heap.size + 1, 0, none⟩ = some (.int .u8 2) := hc.cell 0
      have c1 : W.cell? ⟨w.heap.size + 1, 1, none⟩ = some (.string ⟨#[]⟩) := hc.cell 1
      have c2 : W.cell? ⟨w.heap.size + 1, 2, none⟩ = some (.slice none 0 0) := hc.cell 2
      have c3 : W.cell? ⟨w.heap.size + 1, 3, none⟩ = some (.slice none 0 0) := hc.cell 3
      have t5 : tm[1]?.getD undef = .pointer (some ⟨w.heap.size + 1, 0, none⟩) := by
        have := hf 1 (by decide)
        simpa using this
      clear hf hdep hU
      go_simp
      exact hK _ _ (by simp) rfl (kp 1 (by decide) _ (Below.refl _ _))
    | 2 =>
      injection ho with ho
      subst ho
      have c0 : W.cell? ⟨w.heap.size + 1, 0, none⟩ = some (.int .u8 2) := hc.cell 0
      have c1 : W.cell? ⟨w.heap.size + 1, 1, none⟩ = some (.string ⟨#[]⟩) := hc.cell 1
      have c2 : W.cell? ⟨w.heap.size + 1, 2, none⟩ = some (.slice none 0 0) := hc.cell 2
      have c3 : W.cell? ⟨w.heap.size + 1, 3, none⟩ = some (.slice none 0 0) := hc.cell 3
      have t5 : tm[1]?.getD undef = .pointer (some ⟨w.heap.size + 1, 0, none⟩) := by
        have := hf 1 (by decide)
        simpa using this
      clear hf hdep hU
      go_simp
      exact hK _ _ (by simp) rfl (kp 2 (by decide) _ (Below.refl _ _))
    | 3 =>
      injection ho with ho
      subst ho
      have c0 : W.cell? ⟨w.heap.size + 1, 0, none⟩ = some (.int .u8 2) := hc.cell 0
      have c1 : W.cell? ⟨w.heap.size + 1, 1, none⟩ = some (.string ⟨#[]⟩) := hc.cell 1
      have c2 : W.cell? ⟨w.heap.size + 1, 2, none⟩ = some (.slice none 0 0) := hc.cell 2
      have c3 : W.cell? ⟨w.heap.size + 1, 3, none⟩ = some (.slice none 0 0) := hc.cell 3
      have t5 : tm[1]?.getD undef = .pointer (some ⟨w.heap.size + 1, 0, none⟩) := by
        have := hf 1 (by decide)
        simpa using this
      clear hf hdep hU
      go_simp
      exact hK _ _ (by simp) rfl (kp 3 (by decide) _ (Below.refl _ _))
    | 4 =>
      injection ho with ho
      subst ho
      have c0 : W.cell? ⟨w.heap.size + 1, 0, none⟩ = some (.int .u8 2) := hc.cell 0
      have c1 : W.cell? ⟨w.heap.size + 1, 1, none⟩ = some (.string ⟨#[]⟩) := hc.cell 1
      have c2 : W.cell? ⟨w.heap.size + 1, 2, none⟩ = some (.slice none 0 0) := hc.cell 2
      have c3 : W.cell? ⟨w.heap.size + 1, 3, none⟩ = some (.slice none 0 0) := hc.cell 3
      have t5 : tm[1]?.getD undef = .pointer (some ⟨w.heap.size + 1, 0, none⟩) := by
        have := hf 1 (by decide)
        simpa using this
      clear hf hdep hU
      go_simp
      exact hK _ _ (by simp) rfl (kp 4 (by decide) _ (Below.refl _ _))
    | 5 =>
      injection ho with ho
      subst ho
      have c0 : W.cell? ⟨w.heap.size + 1, 0, none⟩ = some (.int .u8 2) := hc.cell 0
      have c1 : W.cell? ⟨w.heap.size + 1, 1, none⟩ = some (.string ⟨#[]⟩) := hc.cell 1
      have c2 : W.cell? ⟨w.heap.size + 1, 2, none⟩ = some (.slice none 0 0) := hc.cell 2
      have c3 : W.cell? ⟨w.heap.size + 1, 3, none⟩ = some (.slice none 0 0) := hc.cell 3
      have t5 : tm[1]?.getD undef = .pointer (some ⟨w.heap.size + 1, 0, none⟩) := by
        have := hf 1 (by decide)
        simpa using this
      clear hf hdep hU
      go_simp
      exact hK _ _ (by simp) rfl (kp 5 (by decide) _ (Below.refl _ _))
    | 6 =>
      injection ho with ho
      subst ho
      have hcall := hNum.out W hbl
      clear hf hdep hU
      go_simp
      refine hcall.mono ?_
      rintro e w1 ⟨xn, xl, rfl, hO, hbb⟩
      exact hK _ _ (by simp) ⟨xn, xl, rfl, leaf_jv (OwnJ.jv _ hO)⟩ (kp 6 (by decide) _ hbb)
    | 7 =>
      injection ho with ho
      subst ho
      obtain ⟨u0, u1, e6, hJ6⟩ := hdep 6 (by kernel_rfl)
      obtain ⟨A0, n0, c0, B0, m0, d0, rfl, rfl⟩ := hJ6.forms
      have h6 : tm[10]?.getD undef = .agg #[.int .u8 4, .string ⟨(ofNL 2).toArray⟩, .slice A0 n0 c0, .slice B0 m0 d0] := by
        have e7 : slotF ⟨tm, []⟩ 10 = .agg #[.int .u8 4, .string ⟨(ofNL 2).toArray⟩, .slice A0 n0 c0, .slice B0 m0 d0] := e6
        simpa [slotF] using e7
      clear e6
      have h1 : tm[5]?.getD undef = .agg #[.int .u8 2, .string ⟨#[]⟩, .slice none 0 0, .slice none 0 0] := by
        have := hdep 1 (by kernel_rfl)
        simpa [slotF, CapPhi] using this
      have h2 : tm[6]?.getD undef = .agg #[.int .u8 2, .string ⟨#[]⟩, .slice none 0 0, .slice none 0 0] := by
        have := hdep 2 (by kernel_rfl)
        simpa [slotF, CapPhi] using this
      have h3 : tm[7]?.getD undef = .agg #[.int .u8 2, .string ⟨#[]⟩, .slice none 0 0, .slice none 0 0] := by
        have := hdep 3 (by kernel_rfl)
        simpa [slotF, CapPhi] using this
      have h4 : tm[8]?.getD undef = .agg #[.int .u8 2, .string ⟨#[]⟩, .slice none 0 0, .slice none 0 0] := by
        have := hdep 4 (by kernel_rfl)
        simpa [slotF, CapPhi] using this
      have h5 : tm[9]?.getD undef = .agg #[.int .u8 2, .string ⟨#[]⟩, .slice none 0 0, .slice none 0 0] := by
        have := hdep 5 (by kernel_rfl)
        simpa [slotF, CapPhi] using this
      clear hf hdep hU
      go_simp
      exact hK _ _ (by simp) ⟨_, _, _, rfl, hBW, Cel.fresh _ _ _, leaf_jv hJ6⟩ (kp 7 (by decide) _ ((Below.refl W.heap.size W).alloc (Nat.le_refl _) (.cells #[.int .u8 2, .string ⟨#[]⟩, .slice none 0 0, .slice none 0 0, .int .u8 2, .string ⟨#[]⟩, .slice none 0 0, .slice none 0 0, .int .u8 2, .string ⟨#[]⟩, .slice none 0 0, .slice none 0 0, .int .u8 2, .string ⟨#[]⟩, .slice none 0 0, .slice none 0 0, .int .u8 2, .string ⟨#[]⟩, .slice none 0 0, .slice none 0 0, .int .u8 4, .string ⟨(ofNL 2).toArray⟩, .slice A0 n0 c0, .slice B0 m0 d0] 25)))
    | 8 =>
      injection ho with ho
      subst ho
      obtain ⟨gn, e1, hgn, hN⟩ := hdep 0 (by kernel_rfl)
      obtain ⟨gl, vn, vl, e2, hgl, hC, hJ⟩ := hdep 7 (by kernel_rfl)
      have h1 : tm[4]?.getD undef = .slice (some ⟨gn, 0, none⟩) 6 6 := by simpa [slotF] using e1
      have h2 : tm[11]?.getD undef = .slice (some ⟨gl, 0, none⟩) 6 6 := by simpa [slotF] using e2
      have hcall := refObj8_any W (some ⟨gn, 0, none⟩) 6 6 (some ⟨gl, 0, none⟩) 6 6
      clear hf hdep hU e1 e2
      go_simp
      refine hcall.mono ?_
      rintro e w1 ⟨rfl, hbb⟩
      exact hK _ _ (by simp) ⟨gn, gl, vn, vl, rfl, hgn, hgl, hN.below hbb hN.lt, hC.below hbb hC.lt, leaf_jv hJ⟩ (kp 8 (by decide) _ hbb)
    | 9 =>
      injection ho with ho
      subst ho
      clear hf hdep hU
      go_simp
      exact hK _ _ (by simp) ⟨_, rfl, hBW, _, _, _, _, Cel.fresh _ _ _⟩ (kp 9 (by decide) _ ((Below.refl _ _).alloc (Nat.le_refl _) _))
    | 10 =>
      injection ho with ho
      subst ho
      obtain ⟨gn, gl, vn, vl, e1, hgn, hgl, hN, hC, hJ⟩ := hdep 8 (by kernel_rfl)
      obtain ⟨g, e2, hg, x0, x1, x2, x3, hcr⟩ := hdep 9 (by kernel_rfl)
      have h1 : tm[12]?.getD undef = .agg #[.int .u8 7, .string ⟨#[]⟩, .slice (some ⟨gn, 0, none⟩) 6 6, .slice (some ⟨gl, 0, none⟩) 6 6] := by simpa [slotF] using e1
      have h2 : tm[2]?.getD undef = .pointer (some ⟨g, 0, none⟩) := by simpa [slotF] using e2
      obtain ⟨p0, p1, p2, p3⟩ := hcr.c4
      have s0 := hcr.froz 0
      have s1 := hcr.froz 1
      have s2 := hcr.froz 2
      have s3 := hcr.froz 3
      obtain ⟨W5, hW5⟩ : ∃ X, (((W.setCell ⟨g, 0, none⟩ (.int .u8 7)).setCell ⟨g, 1, none⟩ (.string ⟨#[]⟩)).setCell ⟨g, 2, none⟩ (.slice (some ⟨gn, 0, none⟩) 6 6)).setCell ⟨g, 3, none⟩ (.slice (some ⟨gl, 0, none⟩) 6 6) = X := ⟨_, rfl⟩
      have hk5 : ∀ k, k ≠ g → W5.heap[k]? = W.heap[k]? := fun k hk => by
        rw [← hW5, Below.heap_setCell _ _ _ _ hk, Below.heap_setCell _ _ _ _ hk, Below.heap_setCell _ _ _ _ hk, Below.heap_setCell _ _ _ _ hk]
      have hs5 : W5.heap.size = W.heap.size := by rw [← hW5]; simp [World.setCell]
      have hC5 : Cel W5 g 25 #[.int .u8 7, .string ⟨#[]⟩, .slice (some ⟨gn, 0, none⟩) 6 6, .slice (some ⟨gl, 0, none⟩) 6 6] := by
        rw [← hW5]
        have := (((hcr.set 0 (.int .u8 7)).set 1 (.string ⟨#[]⟩)).set 2 (.slice (some ⟨gn, 0, none⟩) 6 6)).set 3 (.slice (some ⟨gl, 0, none⟩) 6 6)
        simpa using this
      have hB5 : Below w.heap.size w W5 := by
        rw [← hW5]
        exact (((hbl.setCell (by simp; omega) _).setCell (by simp; omega) _).setCell (by simp; omega) _).setCell (by simp; omega) _
      have hne1 : gn ≠ g := cel_ne hN hcr (by simp [capNames])
      have hne2 : gl ≠ g := cel_ne hC hcr (by simp [capsZ, encJ])
      have hJ5 : JV W5 (fun k => w.heap.size + 2 ≤ k ∧ k ≠ g) capsIn (.slice (some ⟨gn, 0, none⟩) 6 6) (.slice (some ⟨gl, 0, none⟩) 6 6) := by
        unfold capsIn mkO
        refine jv_rows (ns := (capNames ++ [lSync])) (zs := capsZ vn vl) (by omega) (by omega) ⟨hgn, hne1⟩ ⟨hgl, hne2⟩ ((hk5 gn hne1).trans hN) rfl (fun z hz => ?_) ((hk5 gl hne2).trans hC)
        unfold capsZ at hz
        simp at hz
        rcases hz with rfl | rfl
        · exact OwnJ.jv _ (true_own W5 0 0) |>.more (fun k hk _ => by omega)
        · exact leaf_jv hJ
      replace hW5 := Lib.hid hW5
      clear hf hdep e1 hU
      go_simp
      rw [hW5.out]
      exact hK undef _ (fun _ => rfl) ⟨g, _, _, e2, hg, hC5, hJ5⟩ ⟨by omega, fun k hk h => hk5 k (fun e => h rfl x0 x1 x2 x3 (by omega) (by rw [e]; exact hcr)), fun k y0 y1 y2 y3 hy => by
        by_cases hkg : k = g
        · subst hkg
          exact ⟨_, _, _, _, hC5⟩
        · exact ⟨_, _, _, _, (hk5 k hkg).trans hy⟩, hB5⟩
    | m + 11 => simp at ho
  · intro u W hS hfact
    obtain ⟨hc, hcz, hbl⟩ := hS
    obtain ⟨g, vn, vl, e2, hg, hC, hJ⟩ := hfact 10 (by decide)
    obtain ⟨A1, n1, c1, A2, n2, c2, rfl, rfl⟩ := hJ.forms
    clear hfact hC1 hC2 hB hNum hc
    simp only [frameU, Nat.reduceAdd] at e2 ⊢
    replace e2 : u 2 = .pointer (some ⟨g, 0, none⟩) := e2
    rw [e2]
    clear e2
    have hgl := hC.lt
    obtain ⟨q0, q1, q2, q3⟩ := hC.c4
    obtain ⟨z0, z1, z2, z3⟩ := hcz.c4
    obtain ⟨V1, hV1⟩ : ∃ X, W.alloc (.cells #[.string ⟨#[99, 97, 112, 97, 98, 105, 108, 105, 116, 105, 101, 115]⟩] 9) = X := ⟨_, rfl⟩
    have hb1 : Below W.heap.size W V1 := by rw [← hV1]; exact (Below.refl _ _).alloc (Nat.le_refl _) _
    have hs1 : V1.heap.size = W.heap.size + 1 := by rw [← hV1]; simp
    have hN1 : pN V1 (w.heap.size + 2) [lCapabilities] (.slice (some ⟨W.heap.size, 0, none⟩) 1 1) := by rw [← hV1]; exact ⟨_, rfl, by omega, Cel.fresh _ _ _⟩
    have hJ1 := (hJ.more (Y := fun k => w.heap.size + 2 ≤ k) (fun k h _ => h.1)).later hb1
    obtain ⟨V2, hV2⟩ : ∃ X, V1.alloc (.cells #[.int .u8 7, .string ⟨#[]⟩, .slice A1 n1 c1, .slice A2 n2 c2] 25) = X := ⟨_, rfl⟩
    have hb2 : Below V1.heap.size V1 V2 := by rw [← hV2]; exact (Below.refl _ _).alloc (Nat.le_refl _) _
    have hR2 : pR V2 (w.heap.size + 2) [capsIn] (.slice (some ⟨W.heap.size + 1, 0, none⟩) 1 1) := by
      refine ⟨V1.heap.size, [(capsIn, .slice A1 n1 c1, .slice A2 n2 c2)], by rw [hs1]; rfl, by omega, by rw [← hV2]; exact Cel.fresh _ _ _, rfl, fun z hz => ?_⟩
      simp at hz
      subst hz
      exact hJ1.later hb2
    obtain ⟨gn, gl, _, _, hJ2⟩ := obj_rows (hN1.keep (fun k _ h => hb2.block k h)) hR2
    have hb12 : Below W.heap.size W V2 := hb1.trans (hb2.mono hb1.size)
    have hcz2 := hcz.below hb12 hcz.lt
    have hB2 := hbl.trans (hb12.mono hbl.size)
    replace hV1 := Lib.hid hV1
    replace hV2 := Lib.hid hV2
    replace hJ2 := Lib.hid hJ2
    replace hcz2 := Lib.hid hcz2
    replace hB2 := Lib.hid hB2
    have hs2 := hb2.size
    clear hJ hJ1 hC hcz hbl hb1 hb2 hN1 hR2 hb12 z0 z1 z2 z3
    replace hs1 := Lib.hid hs1
    go_upto_region 3 with fail
    go_wp2_with fail
    rw [hV1.out, hV2.out]
    clear hV1 hV2
    refine (refObj8_any V2 (some ⟨W.heap.size, 0, none⟩) 1 1 (some ⟨W.heap.size + 1, 0, none⟩) 1 1).mono ?_
    rintro e w9 ⟨rfl, hb⟩
    have hJ3 := Lib.hid (hJ2.out.later hb)
    have hB3 := Lib.hid (hB2.out.trans (hb.mono hB2.out.size))
    have hr := hcz2.out.below hb hcz2.out.lt
    clear hb hJ2 hB2 hcz2 q0 q1 q2 q3
    obtain ⟨p0, p1, p2, p3⟩ := hr.c4
    have s0 := hr.froz 0
    have s1 := hr.froz 1
    have s2 := hr.froz 2
    have s3 := hr.froz 3
    go_wp2_with fail
    refine bodyPost_ret (v := .agg #[.int .u8 7, .string ⟨#[]⟩, .slice (some ⟨W.heap.size, 0, none⟩) 1 1, .slice (some ⟨W.heap.size + 1, 0, none⟩) 1 1]) (by simp [results, Tryz.results24, go_sem, p0, p1, p2, p3]) rfl ⟨_, _, rfl, ?_, ?_⟩
    · unfold capsJ
      refine (JV.keepB hJ3.out (by simp [World.setCell]) (fun b h1 _ => by rw [Below.heap_setCell _ _ _ _ (by simp; omega), Below.heap_setCell _ _ _ _ (by simp; omega), Below.heap_setCell _ _ _ _ (by simp; omega), Below.heap_setCell _ _ _ _ (by simp; omega)])).more (fun k hk _ => by omega)
    · exact (((hB3.out.setCell (by simp) _).setCell (by simp) _).setCell (by simp) _).setCell (by simp) _
end Go.Proofs.YtghaoielnphhlaaGreatDoor
