/-
  The walk of the document's Edits.
-/
import Derived.Test.YtghaoielnphhlaaGreatDoorLwO
namespace Go.Proofs.YtghaoielnphhlaaGreatDoor
open Go.RowKit

def EdtPhi (w0 : World) (r0 g0 o0 q0 : Nat) (iq : Int) (vl vL : Value) (p : Pt) (l : List Jsn) (i : Nat) (f : Tmp → Value) (w : World) : Prop := match i with
  | 0 => f 14 = .pointer (some ⟨w0.heap.size + 1, 3, none⟩)
  | 1 => f 15 = vL
  | 2 => pN w r0 [lRange, lNewText] (f 16)
  | 3 => f 17 = vl
  | 4 => f 18 = .int .i64 iq
  | 5 => f 19 = .pointer (some ⟨g0, o0 + q0 * 6, none⟩)
  | 6 => f 20 = .pointer (some ⟨g0, o0 + q0 * 6, none⟩)
  | 7 => f 21 = .agg #[.int .i64 p.a, .int .i64 p.b, .int .i64 p.c, .int .i64 p.d]
  | 8 => pJ w r0 (rangeJ p.a p.b p.c p.d) (f 22)
  | 9 => f 23 = vl
  | 10 => f 24 = .int .i64 iq
  | 11 => f 25 = .pointer (some ⟨g0, o0 + q0 * 6, none⟩)
  | 12 => f 26 = .pointer (some ⟨g0, o0 + q0 * 6 + 5, none⟩)
  | 13 => f 27 = .string p.s
  | 14 => pJ w r0 (strJ p.s) (f 28)
  | 15 => pR w (r0) [rangeJ p.a p.b p.c p.d, strJ p.s] (f 29)
  | 16 => pJ w (r0) (editJ p.a p.b p.c p.d p.s) (f 30)
  | 17 => pR w (r0) [editJ p.a p.b p.c p.d p.s] (f 31)
  | 18 => RowV w (w0.heap.size + 2) (f 32) (l ++ [editJ p.a p.b p.c p.d p.s])
  | 19 => f 33 = .pointer (some ⟨w0.heap.size + 1, 3, none⟩)
  | 20 => ∃ v, RowV w (w0.heap.size + 2) v (l ++ [editJ p.a p.b p.c p.d p.s]) ∧ Cel w (w0.heap.size + 1) 25 #[.int .u8 6, .string ⟨#[]⟩, .slice none 0 0, v]
  | _ => True
def EdtPhiT (w0 : World) (n k : Int) (s : ByteArray) (vn vl : Value) (aJ J : Jsn) (i : Nat) (f : Tmp → Value) (w : World) : Prop := match i with
  | 0 => pN w (w0.heap.size + 2) [lVersion, lEdits] (f 34)
  | 1 => f 35 = .int .i64 n
  | 2 => pJ w (w0.heap.size + 2) (numJ n) (f 36)
  | 3 => f 37 = .agg #[.int .u8 k, .string s, vn, vl]
  | 4 => pR w (w0.heap.size + 2) [numJ n, aJ] (f 38)
  | 5 => pJ w (w0.heap.size + 2) (J) (f 39)
  | 6 => ∃ vn vl, Cel w w0.heap.size 25 #[.int .u8 7, .string ⟨#[]⟩, vn, vl] ∧ JV w (fun k => w0.heap.size + 2 ≤ k) (J) vn vl
  | _ => True
set_option maxRecDepth 100000 in
set_option maxHeartbeats 8000000 in
theorem refEdits8_any (n : Int) (ps : List Pt) (A : Option Addr) (g o c : Nat) (w : World) (hE : Env w) (hn : I64 n) (hP : PRow w g o ps) (hA : 0 < ps.length → A = some ⟨g, o, none⟩ ∧ g < w.heap.size) (hok : ∀ p ∈ ps, PtOK p) (hl : ps.length ≤ 1000) :
    Calls Tryz.prog 14 #[.int .i64 n, .slice A ps.length c] w (JvEnd (editsJ n ps) w) := by
  replace hP := Lib.hid hP
  have hNum := Lib.hid (fun (n : Int) (hn : I64 n) (W : World) (hb : Below w.heap.size w W) => refNum8_any n W (hE.below hb) hn.1 hn.2)
  have hText := Lib.hid (fun (s : ByteArray) (W : World) (_ : Below w.heap.size w W) => refStr8_any s W)
  have hRng := Lib.hid (fun (a b c d : Int) (ha : I64 a) (hc : I64 b) (hd : I64 c) (he : I64 d) (W : World) (hb : Below w.heap.size w W) => refRange8_any a b c d W (hE.below hb) ha hc hd he)
  clear hE
  go_enter Tryz.func14, Tryz.ntmps14
  go_wp2_with fail
  go_loopw [6] (fun i wr => ∃ (q : Nat) (v : Value), q ≤ ps.length ∧ i = .int .i64 q ∧ RowV wr (w.heap.size + 2) v ((ps.take q).map editP) ∧ Cel wr w.heap.size 25 #[.int .u8 0, .string ⟨#[]⟩, .slice none 0 0, .slice none 0 0] ∧ Cel wr (w.heap.size + 1) 25 #[.int .u8 6, .string ⟨#[]⟩, .slice none 0 0, v] ∧ Below w.heap.size w wr) (fun i _ => ps.length - (intOf i).toNat)
  case atStart =>
    refine ⟨0, .slice none 0 0, Nat.zero_le _, rfl, RowV.nil _ _, (Cel.fresh _ _ _).alloc _, ?_, ((Below.refl _ _).alloc (Nat.le_refl _) _).alloc (by simp) _⟩
    have := Cel.fresh (w.alloc (.cells #[.int .u8 0, .string ⟨#[]⟩, .slice none 0 0, .slice none 0 0] 25)) 25 #[.int .u8 6, .string ⟨#[]⟩, .slice none 0 0, .slice none 0 0]
    simpa using this
  case round =>
    obtain ⟨q1, v, hq, rfl, hrow, hC1, hC2, hB⟩ := hrel
    have hsz := hC1.lt
    have hsz2 := hC2.lt
    have hql : ((ps.take q1).map editP).length = q1 := by rw [List.length_map, List.length_take]; omega
    obtain ⟨LA, lc, hLf⟩ := hrow.form
    subst hLf
    rw [hql] at hrow hC2
    obtain ⟨la, hla⟩ : ∃ k, q1 = k := ⟨_, rfl⟩
    have hrow0 := hrow
    have hC20 := hC2
    rw [show (Value.slice LA q1 lc) = .slice LA la lc by rw [hla]] at hrow hC2
    clear hrow0 hC20
    have hlL := Lib.hid hrow.lt
    by_cases hlt : q1 < ps.length
    · obtain ⟨rfl, hg⟩ := hA (by omega)
      obtain ⟨p, hp⟩ : ∃ x, ps[q1]? = some x := ⟨_, List.getElem?_eq_getElem hlt⟩
      obtain ⟨o0, o1, o2, o3, o4⟩ := hok p (List.mem_of_getElem? hp)
      have hsnoc := Lib.hid (show (ps.take (q1 + 1)).map editP = (ps.take q1).map editP ++ [editJ p.a p.b p.c p.d p.s] by rw [List.take_add_one, hp]; simp [editP])
      obtain ⟨L, hL⟩ : ∃ L, ps.length = L := ⟨_, rfl⟩
      rw [hL] at hlt hq hl ⊢
      replace hla := Lib.hid hla
      replace hrow := Lib.hid hrow
      replace hC1 := Lib.hid hC1
      replace hC2 := Lib.hid hC2
      replace hB := Lib.hid hB
      replace hL := Lib.hid hL
      have hq0 : (0 : Int) ≤ (q1 : Int) := by omega
      have hq1 : (q1 : Int) < (L : Int) := by omega
      go_upto_region 5 with fail
      replace hrow := hrow.out
      replace hC1 := hC1.out
      replace hC2 := hC2.out
      replace hB := hB.out
      refine wp_region_planF [false, false, false, false, false, false, false, false, false, false, false, false, false, false, true, true, true, true, true, true, true, true, true, true, true, true, true, true, true, true, true, true, true, true, false, false, false, false, false, false] (fun i => match i with | 0 => [14] | 1 => [15] | 2 => [16] | 3 => [17] | 4 => [18] | 5 => [19] | 6 => [20] | 7 => [21] | 8 => [22] | 9 => [23] | 10 => [24] | 11 => [25] | 12 => [26] | 13 => [27] | 14 => [28] | 15 => [29] | 16 => [30] | 17 => [31] | 18 => [32] | 19 => [33] | 20 => [] | _ => []) (fun W => wr.heap.size ≤ W.heap.size ∧ Cel W w.heap.size 25 #[.int .u8 0, .string ⟨#[]⟩, .slice none 0 0, .slice none 0 0] ∧ Below w.heap.size w W) (fun q W => (q = 20 → Cel W (w.heap.size + 1) 25 #[.int .u8 6, .string ⟨#[]⟩, .slice none 0 0, .slice LA la lc]) ∧ (q = 18 → RowV W (w.heap.size + 2) (.slice LA la lc) ((ps.take q1).map editP))) (fun i W W' => W.heap.size ≤ W'.heap.size ∧ (∀ k, k < W.heap.size → (i = 20 → k ≠ w.heap.size + 1) → (i = 18 → (Value.slice LA la lc).ownBlock ≠ some k) → W'.heap[k]? = W.heap[k]?) ∧ Below w.heap.size w W') (EdtPhi w wr.heap.size g o q1 q1 (.slice (some ⟨g, o, none⟩) L c) (.slice LA la lc) p ((ps.take q1).map editP)) (by kernel_rfl) (by kernel_rfl) (by kernel_rfl) (by rfl) (by kernel_rfl) ⟨Nat.le_refl _, hC1.drew, bel_drew hB⟩ (fun _ => ⟨fun _ => hC2.drew, fun _ => hrow.keep (w' := wr.drew) (Nat.le_refl _) (fun _ _ _ => rfl)⟩) ?_ ?_ ?_ ?_ ?_ ?_
      · intro i W W' hS h
        exact ⟨Nat.le_trans hS.1 h.1, (h.2.1 _ hS.2.1.lt (fun _ => by omega) (fun _ e => by have := hlL.out _ e; omega)).trans hS.2.1, h.2.2⟩
      · intro i q W W' hiq hS hU h
        refine ⟨fun hq => ?_, fun hq => ?_⟩
        · have hC := hU.1 hq
          exact (h.2.1 _ hC.lt (fun e => absurd (e.trans hq.symm) hiq) (fun _ e => by have := hlL.out _ e; omega)).trans hC
        · exact (hU.2 hq).keep h.1 (fun k h1 h2 => h.2.1 k h2 (fun _ => by omega) (fun e => absurd (e.trans hq.symm) hiq))
      · intro i j f W W' hji hw hS hP h
        obtain ⟨hs, hk, _⟩ := h
        have hkN : ∀ k, wr.heap.size ≤ k → k < W.heap.size → W'.heap[k]? = W.heap[k]? := fun k h1 h2 => hk k h2 (fun _ => by omega) (fun _ e => by have := hlL.out _ e; omega)
        match j with
        | 0 => exact hP
        | 1 => exact hP
        | 2 =>
          exact hP.keep (fun k h1 h2 => hkN k h1 h2)
        | 3 => exact hP
        | 4 => exact hP
        | 5 => exact hP
        | 6 => exact hP
        | 7 => exact hP
        | 8 =>
          exact hP.keep hs (fun k h1 h2 => hkN k h1 h2)
        | 9 => exact hP
        | 10 => exact hP
        | 11 => exact hP
        | 12 => exact hP
        | 13 => exact hP
        | 14 =>
          exact hP.keep hs (fun k h1 h2 => hkN k h1 h2)
        | 15 =>
          exact hP.keep hs (fun k h1 h2 => hkN k h1 h2)
        | 16 =>
          exact hP.keep hs (fun k h1 h2 => hkN k h1 h2)
        | 17 =>
          exact hP.keep hs (fun k h1 h2 => hkN k h1 h2)
        | 18 =>
          have hkR : ∀ k, w.heap.size + 2 ≤ k → k < W.heap.size → W'.heap[k]? = W.heap[k]? := fun k h1 h2 => hk k h2 (fun _ => by omega) (fun e => absurd e.symm hji)
          exact hP.keep hs (fun k h1 h2 => hkR k h1 h2)
        | 19 => exact hP
        | 20 =>
          obtain ⟨v, h1, h2⟩ := hP
          have h18 : i ≠ 18 := fun e => by
            subst e
            exact absurd (hw.symm.trans (show waitB _ 20 18 = true by kernel_rfl)) (by decide)
          exact ⟨v, h1.keep hs (fun k h1 h2 => hk k h2 (fun _ => by omega) (fun e => absurd e h18)), (hk _ h2.lt (fun e => absurd e.symm hji) (fun e => absurd e h18)).trans h2⟩
        | m + 21 => trivial
      · intro j f f' W hf hP
        match j with
        | 0 =>
          unfold EdtPhi at hP ⊢
          try dsimp only at hP ⊢
          rw [hf 14 (by simp)]
          exact hP
        | 1 =>
          unfold EdtPhi at hP ⊢
          try dsimp only at hP ⊢
          rw [hf 15 (by simp)]
          exact hP
        | 2 =>
          unfold EdtPhi at hP ⊢
          try dsimp only at hP ⊢
          rw [hf 16 (by simp)]
          exact hP
        | 3 =>
          unfold EdtPhi at hP ⊢
          try dsimp only at hP ⊢
          rw [hf 17 (by simp)]
          exact hP
        | 4 =>
          unfold EdtPhi at hP ⊢
          try dsimp only at hP ⊢
          rw [hf 18 (by simp)]
          exact hP
        | 5 =>
          unfold EdtPhi at hP ⊢
          try dsimp only at hP ⊢
          rw [hf 19 (by simp)]
          exact hP
        | 6 =>
          unfold EdtPhi at hP ⊢
          try dsimp only at hP ⊢
          rw [hf 20 (by simp)]
          exact hP
        | 7 =>
          unfold EdtPhi at hP ⊢
          try dsimp only at hP ⊢
          rw [hf 21 (by simp)]
          exact hP
        | 8 =>
          unfold EdtPhi at hP ⊢
          try dsimp only at hP ⊢
          rw [hf 22 (by simp)]
          exact hP
        | 9 =>
          unfold EdtPhi at hP ⊢
          try dsimp only at hP ⊢
          rw [hf 23 (by simp)]
          exact hP
        | 10 =>
          unfold EdtPhi at hP ⊢
          try dsimp only at hP ⊢
          rw [hf 24 (by simp)]
          exact hP
        | 11 =>
          unfold EdtPhi at hP ⊢
          try dsimp only at hP ⊢
          rw [hf 25 (by simp)]
          exact hP
        | 12 =>
          unfold EdtPhi at hP ⊢
          try dsimp only at hP ⊢
          rw [hf 26 (by simp)]
          exact hP
        | 13 =>
          unfold EdtPhi at hP ⊢
          try dsimp only at hP ⊢
          rw [hf 27 (by simp)]
          exact hP
        | 14 =>
          unfold EdtPhi at hP ⊢
          try dsimp only at hP ⊢
          rw [hf 28 (by simp)]
          exact hP
        | 15 =>
          unfold EdtPhi at hP ⊢
          try dsimp only at hP ⊢
          rw [hf 29 (by simp)]
          exact hP
        | 16 =>
          unfold EdtPhi at hP ⊢
          try dsimp only at hP ⊢
          rw [hf 30 (by simp)]
          exact hP
        | 17 =>
          unfold EdtPhi at hP ⊢
          try dsimp only at hP ⊢
          rw [hf 31 (by simp)]
          exact hP
        | 18 =>
          unfold EdtPhi at hP ⊢
          try dsimp only at hP ⊢
          rw [hf 32 (by simp)]
          exact hP
        | 19 =>
          unfold EdtPhi at hP ⊢
          try dsimp only at hP ⊢
          rw [hf 33 (by simp)]
          exact hP
        | 20 => exact hP
        | m + 21 => trivial
      · intro i o ho b' W hS hU hd hz hf hdep K hK
        obtain ⟨tm, df⟩ := b'
        dsimp only at hd
        subst hd
        clear hz
        obtain ⟨hBW, hcr, hbl⟩ := hS
        have kp : ∀ i, i ≠ 20 → i ≠ 18 → ∀ W', Below W.heap.size W W' → W.heap.size ≤ W'.heap.size ∧ (∀ k, k < W.heap.size → (i = 20 → k ≠ w.heap.size + 1) → (i = 18 → (Value.slice LA la lc).ownBlock ≠ some k) → W'.heap[k]? = W.heap[k]?) ∧ Below w.heap.size w W' := fun i _ _ W' h => ⟨h.size, fun k hk _ _ => h.block k hk, hbl.trans (h.mono hbl.size)⟩
        match i with
        | 0 =>
          injection ho with ho
          subst ho
          have z5 : tm[5]?.getD undef = .pointer (some ⟨w.heap.size + 1, 0, none⟩) := by
            have := hf 5 (by decide)
            simpa using this
          clear hf hdep hU
          go_simp
          exact hK _ _ (by simp) rfl (kp 0 (by decide) (by decide) _ (Below.refl _ _))
        | 1 =>
          injection ho with ho
          subst ho
          have z0 : tm[14]?.getD undef = .pointer (some ⟨w.heap.size + 1, 3, none⟩) := by
            have := hdep 0 (by kernel_rfl)
            simpa [slotF, EdtPhi] using this
          have hcb := (hU 20 (Or.inr (by kernel_rfl))).1 rfl
          have c3 : W.cell? ⟨w.heap.size + 1, 3, none⟩ = some (.slice LA la lc) := hcb.cell 3
          clear hf hdep hU
          go_simp
          exact hK _ _ (by simp) rfl (kp 1 (by decide) (by decide) _ (Below.refl _ _))
        | 2 =>
          injection ho with ho
          subst ho
          clear hf hdep hU
          go_simp
          exact hK _ _ (by simp) ⟨_, rfl, hBW, Cel.fresh _ _ _⟩ (kp 2 (by decide) (by decide) _ ((Below.refl _ _).alloc (Nat.le_refl _) _))
        | 3 =>
          injection ho with ho
          subst ho
          have z1 : tm[1]?.getD undef = .slice (some ⟨g, o, none⟩) L c := by
            have := hf 1 (by decide)
            simpa using this
          clear hf hdep hU
          go_simp
          exact hK _ _ (by simp) rfl (kp 3 (by decide) (by decide) _ (Below.refl _ _))
        | 4 =>
          injection ho with ho
          subst ho
          have z1 : tm[6]?.getD undef = .int .i64 q1 := by
            have := hf 6 (by decide)
            simpa using this
          clear hf hdep hU
          go_simp
          exact hK _ _ (by simp) rfl (kp 4 (by decide) (by decide) _ (Below.refl _ _))
        | 5 =>
          injection ho with ho
          subst ho
          have z1 : tm[17]?.getD undef = .slice (some ⟨g, o, none⟩) L c := by
            have := hdep 3 (by kernel_rfl)
            simpa [slotF, EdtPhi] using this
          have z2 : tm[18]?.getD undef = .int .i64 q1 := by
            have := hdep 4 (by kernel_rfl)
            simpa [slotF, EdtPhi] using this
          clear hf hdep hU
          go_simp
          exact hK _ _ (by simp) rfl (kp 5 (by decide) (by decide) _ (Below.refl _ _))
        | 6 =>
          injection ho with ho
          subst ho
          have z1 : tm[19]?.getD undef = .pointer (some ⟨g, o + q1 * 6, none⟩) := by
            have := hdep 5 (by kernel_rfl)
            simpa [slotF, EdtPhi] using this
          clear hf hdep hU
          go_simp
          exact hK _ _ (by simp) rfl (kp 6 (by decide) (by decide) _ (Below.refl _ _))
        | 7 =>
          injection ho with ho
          subst ho
          have z1 : tm[20]?.getD undef = .pointer (some ⟨g, o + q1 * 6, none⟩) := by
            have := hdep 6 (by kernel_rfl)
            simpa [slotF, EdtPhi] using this
          obtain ⟨b0, b1, b2, b3, b4, b5⟩ := hP.out.atO hbl hg hp
          clear hf hdep hU
          go_simp
          exact hK _ _ (by simp) rfl (kp 7 (by decide) (by decide) _ (Below.refl _ _))
        | 8 =>
          injection ho with ho
          subst ho
          have z1 : tm[21]?.getD undef = .agg #[.int .i64 p.a, .int .i64 p.b, .int .i64 p.c, .int .i64 p.d] := by
            have := hdep 7 (by kernel_rfl)
            simpa [slotF, EdtPhi] using this
          have hcall := hRng.out p.a p.b p.c p.d o0 o1 o2 o3 W hbl
          clear hf hdep hU
          go_simp
          refine hcall.mono ?_
          rintro e w1 ⟨xn, xl, rfl, hO, hbb⟩
          exact hK _ _ (by simp) ⟨xn, xl, rfl, hO.more (fun k hk _ => by omega)⟩ (kp 8 (by decide) (by decide) _ hbb)
        | 9 =>
          injection ho with ho
          subst ho
          have z1 : tm[1]?.getD undef = .slice (some ⟨g, o, none⟩) L c := by
            have := hf 1 (by decide)
            simpa using this
          clear hf hdep hU
          go_simp
          exact hK _ _ (by simp) rfl (kp 9 (by decide) (by decide) _ (Below.refl _ _))
        | 10 =>
          injection ho with ho
          subst ho
          have z1 : tm[6]?.getD undef = .int .i64 q1 := by
            have := hf 6 (by decide)
            simpa using this
          clear hf hdep hU
          go_simp
          exact hK _ _ (by simp) rfl (kp 10 (by decide) (by decide) _ (Below.refl _ _))
        | 11 =>
          injection ho with ho
          subst ho
          have z1 : tm[23]?.getD undef = .slice (some ⟨g, o, none⟩) L c := by
            have := hdep 9 (by kernel_rfl)
            simpa [slotF, EdtPhi] using this
          have z2 : tm[24]?.getD undef = .int .i64 q1 := by
            have := hdep 10 (by kernel_rfl)
            simpa [slotF, EdtPhi] using this
          clear hf hdep hU
          go_simp
          exact hK _ _ (by simp) rfl (kp 11 (by decide) (by decide) _ (Below.refl _ _))
        | 12 =>
          injection ho with ho
          subst ho
          have z1 : tm[25]?.getD undef = .pointer (some ⟨g, o + q1 * 6, none⟩) := by
            have := hdep 11 (by kernel_rfl)
            simpa [slotF, EdtPhi] using this
          clear hf hdep hU
          go_simp
          exact hK _ _ (by simp) rfl (kp 12 (by decide) (by decide) _ (Below.refl _ _))
        | 13 =>
          injection ho with ho
          subst ho
          have z1 : tm[26]?.getD undef = .pointer (some ⟨g, o + q1 * 6 + 5, none⟩) := by
            have := hdep 12 (by kernel_rfl)
            simpa [slotF, EdtPhi] using this
          obtain ⟨b0, b1, b2, b3, b4, b5⟩ := hP.out.atO hbl hg hp
          clear hf hdep hU
          go_simp
          exact hK _ _ (by simp) rfl (kp 13 (by decide) (by decide) _ (Below.refl _ _))
        | 14 =>
          injection ho with ho
          subst ho
          have z1 : tm[27]?.getD undef = .string p.s := by
            have := hdep 13 (by kernel_rfl)
            simpa [slotF, EdtPhi] using this
          have hcall := hText.out p.s W hbl
          clear hf hdep hU
          go_simp
          refine hcall.mono ?_
          rintro e w1 ⟨xn, xl, rfl, hO, hbb⟩
          exact hK _ _ (by simp) ⟨xn, xl, rfl, (OwnJ.jv _ hO).more (fun k hk _ => by omega)⟩ (kp 14 (by decide) (by decide) _ hbb)
        | 15 =>
          injection ho with ho
          subst ho
          obtain ⟨u0, u1, e1, hJ1⟩ := hdep 8 (by kernel_rfl)
          obtain ⟨A0, n0, c0, B0, m0, d0, rfl, rfl⟩ := hJ1.forms
          have h1 : tm[22]?.getD undef = .agg #[.int .u8 7, .string ⟨#[]⟩, .slice A0 n0 c0, .slice B0 m0 d0] := by simpa [slotF, jvV, rangeJ, mkO] using e1
          clear e1
          obtain ⟨u2, u3, e2, hJ2⟩ := hdep 14 (by kernel_rfl)
          obtain ⟨A1, n1, c1, B1, m1, d1, rfl, rfl⟩ := hJ2.forms
          have h2 : tm[28]?.getD undef = .agg #[.int .u8 5, .string p.s, .slice A1 n1 c1, .slice B1 m1 d1] := by simpa [slotF, jvV, strJ] using e2
          clear e2
          clear hf hdep hU
          go_simp
          have hbb := (Below.refl W.heap.size W).alloc (Nat.le_refl _) (.cells #[.int .u8 7, .string ⟨#[]⟩, .slice A0 n0 c0, .slice B0 m0 d0, .int .u8 5, .string p.s, .slice A1 n1 c1, .slice B1 m1 d1] 25)
          refine hK _ _ (by simp) ⟨_, [((rangeJ p.a p.b p.c p.d : Jsn), (.slice A0 n0 c0 : Value), (.slice B0 m0 d0 : Value)), ((strJ p.s : Jsn), (.slice A1 n1 c1 : Value), (.slice B1 m1 d1 : Value))], rfl, hBW, Cel.fresh _ _ _, rfl, fun z hz => ?_⟩ (kp 15 (by decide) (by decide) _ hbb)
          simp at hz
          rcases hz with rfl | rfl
          · exact hJ1.later hbb
          · exact hJ2.later hbb
        | 16 =>
          injection ho with ho
          subst ho
          obtain ⟨gn, gl, e1, e2, hJ⟩ := obj_rows (hdep 2 (by kernel_rfl)) (hdep 15 (by kernel_rfl))
          have h1 : tm[16]?.getD undef = .slice (some ⟨gn, 0, none⟩) 2 2 := by simpa [slotF] using e1
          have h2 : tm[29]?.getD undef = .slice (some ⟨gl, 0, none⟩) 2 2 := by simpa [slotF] using e2
          replace e1 : slotF ⟨tm, []⟩ 16 = .slice (some ⟨gn, 0, none⟩) 2 2 := by simpa using e1
          replace e2 : slotF ⟨tm, []⟩ 29 = .slice (some ⟨gl, 0, none⟩) 2 2 := by simpa using e2
          rw [e1, e2] at hJ
          have hcall := refObj8_any W (some ⟨gn, 0, none⟩) 2 2 (some ⟨gl, 0, none⟩) 2 2
          clear hf hdep hU e1 e2
          go_simp
          refine hcall.mono ?_
          rintro e w1 ⟨rfl, hbb⟩
          exact hK _ _ (by simp) ⟨_, _, rfl, hJ.later hbb⟩ (kp 16 (by decide) (by decide) _ hbb)
        | 17 =>
          injection ho with ho
          subst ho
          obtain ⟨u0, u1, e1, hJ1⟩ := hdep 16 (by kernel_rfl)
          obtain ⟨A0, n0, c0, B0, m0, d0, rfl, rfl⟩ := hJ1.forms
          have h1 : tm[30]?.getD undef = .agg #[.int .u8 7, .string ⟨#[]⟩, .slice A0 n0 c0, .slice B0 m0 d0] := by simpa [slotF, jvV, editJ, mkO] using e1
          clear e1
          clear hf hdep hU
          go_simp
          have hbb := (Below.refl W.heap.size W).alloc (Nat.le_refl _) (.cells #[.int .u8 7, .string ⟨#[]⟩, .slice A0 n0 c0, .slice B0 m0 d0] 25)
          refine hK _ _ (by simp) ⟨_, [((editJ p.a p.b p.c p.d p.s : Jsn), (.slice A0 n0 c0 : Value), (.slice B0 m0 d0 : Value))], rfl, hBW, Cel.fresh _ _ _, rfl, fun z hz => ?_⟩ (kp 17 (by decide) (by decide) _ hbb)
          simp at hz
          rcases hz with rfl
          · exact hJ1.later hbb
        | 18 =>
          injection ho with ho
          subst ho
          obtain ⟨gs, zs, e1, hgs, hC, hz1, hJz⟩ := hdep 17 (by kernel_rfl)
          obtain ⟨⟨jx, vn, vl⟩, rfl⟩ : ∃ z, zs = [z] := List.length_eq_one_iff.1 (by have := congrArg List.length hz1; simpa using this)
          have hjx : jx = editJ p.a p.b p.c p.d p.s := by simpa using hz1
          subst hjx
          have hJx := hJz _ (List.mem_singleton.2 rfl)
          have hrow0 := (hU 18 (Or.inl rfl)).2 rfl
          obtain ⟨v', w4, hrun, hrow4, hgr⟩ := append_rowV hrow0 (by omega) (by simpa [encJ] using hC) (hJx.more (fun k hk _ => ⟨by omega, fun e => by have := hlL.out k e; omega⟩)) (by rw [hql]; omega)
          have e0 : slotF ⟨tm, []⟩ 15 = .slice LA la lc := hdep 1 (by kernel_rfl)
          refine oper_append_run (.tmp 15) (.tmp 31) 23 23 (by rfl) (.slice LA la lc) (.slice (some ⟨gs, 0, none⟩) 1 1) v' w4 e0 e1 hrun ?_
          exact hK _ _ (by simp) hrow4 ⟨hgr.size, fun k hk _ h18 => hgr.block k hk (fun e => h18 rfl e.symm), Below.grown hbl hgr (by omega) (fun j hj => by have := hlL.out j hj; omega)⟩
        | 19 =>
          injection ho with ho
          subst ho
          have z5 : tm[5]?.getD undef = .pointer (some ⟨w.heap.size + 1, 0, none⟩) := by
            have := hf 5 (by decide)
            simpa using this
          clear hf hdep hU
          go_simp
          exact hK _ _ (by simp) rfl (kp 19 (by decide) (by decide) _ (Below.refl _ _))
        | 20 =>
          injection ho with ho
          subst ho
          have hrow4 : RowV W (w.heap.size + 2) (slotF ⟨tm, []⟩ 32) ((ps.take q1).map editP ++ [editJ p.a p.b p.c p.d p.s]) := hdep 18 (by kernel_rfl)
          obtain ⟨LB, ld, hLB⟩ := hrow4.form
          have z1 : tm[32]?.getD undef = .slice LB ((ps.take q1).map editP ++ [editJ p.a p.b p.c p.d p.s]).length ld := by simpa [slotF] using hLB
          rw [hLB] at hrow4
          generalize ((ps.take q1).map editP ++ [editJ p.a p.b p.c p.d p.s]).length = lb at z1 hrow4
          have z2 : tm[33]?.getD undef = .pointer (some ⟨w.heap.size + 1, 3, none⟩) := by
            have := hdep 19 (by kernel_rfl)
            simpa [slotF, EdtPhi] using this
          have hcb := (hU 20 (Or.inl rfl)).1 rfl
          have c3 : W.cell? ⟨w.heap.size + 1, 3, none⟩ = some (.slice LA la lc) := hcb.cell 3
          have f3 := hcb.froz 3
          obtain ⟨W5, hW5⟩ : ∃ X, W.setCell ⟨w.heap.size + 1, 3, none⟩ (.slice LB lb ld) = X := ⟨_, rfl⟩
          have hk5 : ∀ k, k ≠ w.heap.size + 1 → W5.heap[k]? = W.heap[k]? := fun k hk => by rw [← hW5]; exact Below.heap_setCell W _ _ k hk
          have hs5 : W5.heap.size = W.heap.size := by rw [← hW5]; simp [World.setCell]
          have hC5 : Cel W5 (w.heap.size + 1) 25 #[.int .u8 6, .string ⟨#[]⟩, .slice none 0 0, .slice LB lb ld] := by rw [← hW5]; exact hcb.set 3 _
          have hB5 : Below w.heap.size w W5 := by rw [← hW5]; exact hbl.setCell (by simp) _
          have hrow5 := hrow4.keep (w' := W5) (by omega) (fun k h1 _ => hk5 k (by omega))
          replace hW5 := Lib.hid hW5
          clear hf hdep hLB hU
          go_simp
          rw [hW5.out]
          exact hK undef _ (fun _ => rfl) ⟨_, hrow5, hC5⟩ ⟨by omega, fun k hk h _ => hk5 k (h rfl), hB5⟩
        | m + 21 => simp at ho
      · intro u W hS hfact
        obtain ⟨hBW, hcr, hbl⟩ := hS
        obtain ⟨v2, hrow2, hCb2⟩ := hfact 20 (by decide)
        rw [← hsnoc.out] at hrow2
        clear hfact hC1 hC2 hrow hB
        obtain ⟨LB, ld, rfl⟩ := hrow2.form
        generalize ((ps.take (q1 + 1)).map editP).length = lb at hrow2 hCb2
        replace hrow2 := Lib.hid hrow2
        replace hCb2 := Lib.hid hCb2
        replace hcr := Lib.hid hcr
        replace hbl := Lib.hid hbl
        simp only [frameU, Nat.reduceAdd]
        go_wp2_with fail
        go_roundw
        case rel => exact ⟨q1 + 1, _, by omega, by go_num, hrow2.out, hcr.out, hCb2.out, hbl.out⟩
        case measure => simp [intOf]; omega
    · have hfull : (ps.take q1).map editP = ps.map editP := by rw [List.take_of_length_le (by omega)]
      rw [hfull] at hrow
      replace hla := Lib.hid hla
      have hJa := Lib.hid hrow.arr
      replace hC1 := Lib.hid hC1
      replace hC2 := Lib.hid hC2
      replace hB := Lib.hid hB
      clear hrow hfull hlL hRng hText hP hA hok
      have hq1 : ¬ (q1 : Int) < (ps.length : Int) := by omega
      go_upto_region 6 with fail
      replace hJa := hJa.out
      replace hC1 := hC1.out
      replace hC2 := hC2.out
      replace hB := hB.out
      refine wp_region_planF [false, false, false, false, false, false, false, false, false, false, false, false, false, false, false, false, false, false, false, false, false, false, false, false, false, false, false, false, false, false, false, false, false, false, true, true, true, true, true, true] (fun i => match i with | 0 => [34] | 1 => [35] | 2 => [36] | 3 => [37] | 4 => [38] | 5 => [39] | 6 => [] | _ => []) (fun W => Cel W (w.heap.size + 1) 25 #[.int .u8 6, .string ⟨#[]⟩, .slice none 0 0, .slice LA la lc] ∧ JV W (fun k => w.heap.size + 2 ≤ k) (arrJ (ps.map editP)) ((.slice none 0 0)) ((.slice LA la lc)) ∧ Below w.heap.size w W) (fun q W => q = 6 → Cel W (w.heap.size) 25 #[.int .u8 0, .string ⟨#[]⟩, .slice none 0 0, .slice none 0 0]) (fun i W W' => W.heap.size ≤ W'.heap.size ∧ (∀ k, k < W.heap.size → (i = 6 → k ≠ w.heap.size) → W'.heap[k]? = W.heap[k]?) ∧ Below w.heap.size w W') (EdtPhiT w n 6 ⟨#[]⟩ (.slice none 0 0) (.slice LA la lc) (arrJ (ps.map editP)) (editsJ n ps)) (by kernel_rfl) (by kernel_rfl) (by kernel_rfl) (by rfl) (by kernel_rfl) ⟨hC2.drew, hJa.drew, bel_drew hB⟩ (fun _ _ => hC1.drew) ?_ ?_ ?_ ?_ ?_ ?_
      · intro i W W' hS h
        exact ⟨(h.2.1 _ hS.1.lt (fun _ => by omega)).trans hS.1, hS.2.1.keepB h.1 (fun k h1 h2 => h.2.1 k h2 (fun _ => by omega)), h.2.2⟩
      · intro i q W W' hiq hS hU h hq
        have hC := hU hq
        exact (h.2.1 _ hC.lt (fun e => absurd (e.trans hq.symm) hiq)).trans hC
      · intro i j f W W' hji hw hS hP h
        obtain ⟨hs, hk, _⟩ := h
        have hkB : ∀ k, w.heap.size + 2 ≤ k → k < W.heap.size → W'.heap[k]? = W.heap[k]? := fun k h1 h2 => hk k h2 (fun _ => by omega)
        match j with
        | 0 =>
          exact hP.keep (fun k h1 h2 => hkB k h1 h2)
        | 1 => exact hP
        | 2 =>
          exact hP.keep hs (fun k h1 h2 => hkB k h1 h2)
        | 3 => exact hP
        | 4 =>
          exact hP.keep hs (fun k h1 h2 => hkB k h1 h2)
        | 5 =>
          exact hP.keep hs (fun k h1 h2 => hkB k h1 h2)
        | 6 =>
          obtain ⟨vn, vl, hC, hJ⟩ := hP
          exact ⟨vn, vl, (hk _ hC.lt (fun e => absurd e.symm hji)).trans hC, hJ.keepB hs (fun k h1 h2 => hkB k h1 h2)⟩
        | m + 7 => trivial
      · intro j f f' W hf hP
        match j with
        | 0 =>
          unfold EdtPhiT at hP ⊢
          try dsimp only at hP ⊢
          rw [hf 34 (by simp)]
          exact hP
        | 1 =>
          unfold EdtPhiT at hP ⊢
          try dsimp only at hP ⊢
          rw [hf 35 (by simp)]
          exact hP
        | 2 =>
          unfold EdtPhiT at hP ⊢
          try dsimp only at hP ⊢
          rw [hf 36 (by simp)]
          exact hP
        | 3 =>
          unfold EdtPhiT at hP ⊢
          try dsimp only at hP ⊢
          rw [hf 37 (by simp)]
          exact hP
        | 4 =>
          unfold EdtPhiT at hP ⊢
          try dsimp only at hP ⊢
          rw [hf 38 (by simp)]
          exact hP
        | 5 =>
          unfold EdtPhiT at hP ⊢
          try dsimp only at hP ⊢
          rw [hf 39 (by simp)]
          exact hP
        | 6 => exact hP
        | m + 7 => trivial
      · intro i o ho b' W hS hU hd hz hf hdep K hK
        obtain ⟨tm, df⟩ := b'
        dsimp only at hd
        subst hd
        clear hz
        obtain ⟨hc, hJc, hbl⟩ := hS
        have hBW : w.heap.size + 2 ≤ W.heap.size := by have := hc.lt; omega
        have kp : ∀ i, i ≠ 6 → ∀ W', Below W.heap.size W W' → W.heap.size ≤ W'.heap.size ∧ (∀ k, k < W.heap.size → (i = 6 → k ≠ w.heap.size) → W'.heap[k]? = W.heap[k]?) ∧ Below w.heap.size w W' := fun i hi W' h => ⟨h.size, fun k hk _ => h.block k hk, hbl.trans (h.mono hbl.size)⟩
        match i with
        | 0 =>
          injection ho with ho
          subst ho
          clear hf hdep hU
          go_simp
          exact hK _ _ (by simp) ⟨_, rfl, hBW, Cel.fresh _ _ _⟩ (kp 0 (by decide) _ ((Below.refl _ _).alloc (Nat.le_refl _) _))
        | 1 =>
          injection ho with ho
          subst ho
          have q1 : tm[0]?.getD undef = .int .i64 n := by
            have := hf 0 (by decide)
            simpa using this
          clear hf hdep hU
          go_simp
          exact hK _ _ (by simp) rfl (kp 1 (by decide) _ (Below.refl _ _))
        | 2 =>
          injection ho with ho
          subst ho
          have h1 : tm[35]?.getD undef = .int .i64 n := by
            have := hdep 1 (by kernel_rfl)
            simpa [slotF, EdtPhiT] using this
          have hcall := hNum.out n hn W hbl
          clear hf hdep hU
          go_simp
          refine hcall.mono ?_
          rintro e w1 ⟨xn, xl, rfl, hO, hbb⟩
          exact hK _ _ (by simp) ⟨xn, xl, rfl, (OwnJ.jv _ hO).more (fun k hk _ => by omega)⟩ (kp 2 (by decide) _ hbb)
        | 3 =>
          injection ho with ho
          subst ho
          have c0 : W.cell? ⟨w.heap.size + 1, 0, none⟩ = some (.int .u8 6) := hc.cell 0
          have c1 : W.cell? ⟨w.heap.size + 1, 1, none⟩ = some (.string ⟨#[]⟩) := hc.cell 1
          have c2 : W.cell? ⟨w.heap.size + 1, 2, none⟩ = some ((.slice none 0 0)) := hc.cell 2
          have c3 : W.cell? ⟨w.heap.size + 1, 3, none⟩ = some ((.slice LA la lc)) := hc.cell 3
          have t5 : tm[5]?.getD undef = .pointer (some ⟨w.heap.size + 1, 0, none⟩) := by
            have := hf 5 (by decide)
            simpa using this
          clear hf hdep hU
          go_simp
          exact hK _ _ (by simp) rfl (kp 3 (by decide) _ (Below.refl _ _))
        | 4 =>
          injection ho with ho
          subst ho
          obtain ⟨u0, u1, e1, hJ1⟩ := hdep 2 (by kernel_rfl)
          obtain ⟨A0, n0, c0, B0, m0, d0, rfl, rfl⟩ := hJ1.forms
          have h1 : tm[36]?.getD undef = .agg #[.int .u8 4, .string ⟨(ofNL n).toArray⟩, .slice A0 n0 c0, .slice B0 m0 d0] := by simpa [slotF, jvV, numJ] using e1
          clear e1
          have h2 : tm[37]?.getD undef = .agg #[.int .u8 6, .string ⟨#[]⟩, (.slice none 0 0), (.slice LA la lc)] := by
            have := hdep 3 (by kernel_rfl)
            simpa [slotF, EdtPhiT] using this
          clear hf hdep hU
          go_simp
          have hbb := (Below.refl W.heap.size W).alloc (Nat.le_refl _) (.cells #[.int .u8 4, .string ⟨(ofNL n).toArray⟩, .slice A0 n0 c0, .slice B0 m0 d0, .int .u8 6, .string ⟨#[]⟩, (.slice none 0 0), (.slice LA la lc)] 25)
          refine hK _ _ (by simp) ⟨_, [((numJ n : Jsn), (.slice A0 n0 c0 : Value), (.slice B0 m0 d0 : Value)), ((arrJ (ps.map editP) : Jsn), ((.slice none 0 0) : Value), ((.slice LA la lc) : Value))], rfl, hBW, Cel.fresh _ _ _, rfl, fun z hz => ?_⟩ (kp 4 (by decide) _ hbb)
          simp at hz
          rcases hz with rfl | rfl
          · exact hJ1.later hbb
          · exact hJc.later hbb
        | 5 =>
          injection ho with ho
          subst ho
          obtain ⟨gn, gl, e1, e2, hJ⟩ := obj_rows (hdep 0 (by kernel_rfl)) (hdep 4 (by kernel_rfl))
          have h1 : tm[34]?.getD undef = .slice (some ⟨gn, 0, none⟩) 2 2 := by simpa [slotF] using e1
          have h2 : tm[38]?.getD undef = .slice (some ⟨gl, 0, none⟩) 2 2 := by simpa [slotF] using e2
          replace e1 : slotF ⟨tm, []⟩ 34 = .slice (some ⟨gn, 0, none⟩) 2 2 := by simpa using e1
          replace e2 : slotF ⟨tm, []⟩ 38 = .slice (some ⟨gl, 0, none⟩) 2 2 := by simpa using e2
          rw [e1, e2] at hJ
          have hcall := refObj8_any W (some ⟨gn, 0, none⟩) 2 2 (some ⟨gl, 0, none⟩) 2 2
          clear hf hdep hU e1 e2
          go_simp
          refine hcall.mono ?_
          rintro e w1 ⟨rfl, hbb⟩
          exact hK _ _ (by simp) ⟨_, _, rfl, hJ.later hbb⟩ (kp 5 (by decide) _ hbb)
        | 6 =>
          injection ho with ho
          subst ho
          obtain ⟨u1, u2, e1, hJ⟩ := hdep 5 (by kernel_rfl)
          obtain ⟨C1, r1, r2, C2, r3, r4, rfl, rfl⟩ := hJ.forms
          have h1 : tm[39]?.getD undef = .agg #[.int .u8 7, .string ⟨#[]⟩, .slice C1 r1 r2, .slice C2 r3 r4] := by
            have e2 : slotF ⟨tm, []⟩ 39 = .agg #[.int .u8 7, .string ⟨#[]⟩, .slice C1 r1 r2, .slice C2 r3 r4] := e1
            simpa [slotF] using e2
          have t2 : tm[4]?.getD undef = .pointer (some ⟨w.heap.size, 0, none⟩) := by
            have := hf 4 (by decide)
            simpa using this
          have hcr := hU 6 (Or.inl rfl) rfl
          obtain ⟨p0, p1, p2, p3⟩ := hcr.c4
          have s0 := hcr.froz 0
          have s1 := hcr.froz 1
          have s2 := hcr.froz 2
          have s3 := hcr.froz 3
          obtain ⟨W5, hW5⟩ : ∃ X, (((W.setCell ⟨w.heap.size, 0, none⟩ (.int .u8 7)).setCell ⟨w.heap.size, 1, none⟩ (.string ⟨#[]⟩)).setCell ⟨w.heap.size, 2, none⟩ (.slice C1 r1 r2)).setCell ⟨w.heap.size, 3, none⟩ (.slice C2 r3 r4) = X := ⟨_, rfl⟩
          have hk5 : ∀ k, k ≠ w.heap.size → W5.heap[k]? = W.heap[k]? := fun k hk => by
            rw [← hW5, Below.heap_setCell _ _ _ _ hk, Below.heap_setCell _ _ _ _ hk, Below.heap_setCell _ _ _ _ hk, Below.heap_setCell _ _ _ _ hk]
          have hs5 : W5.heap.size = W.heap.size := by rw [← hW5]; simp [World.setCell]
          have hC5 : Cel W5 (w.heap.size) 25 #[.int .u8 7, .string ⟨#[]⟩, .slice C1 r1 r2, .slice C2 r3 r4] := by
            rw [← hW5]
            have := (((hcr.set 0 (.int .u8 7)).set 1 (.string ⟨#[]⟩)).set 2 (.slice C1 r1 r2)).set 3 (.slice C2 r3 r4)
            simpa using this
          have hB5 : Below w.heap.size w W5 := by
            rw [← hW5]
            exact (((hbl.setCell (by simp) _).setCell (by simp) _).setCell (by simp) _).setCell (by simp) _
          have hJ5 : JV W5 (fun k => w.heap.size + 2 ≤ k) (editsJ n ps) (.slice C1 r1 r2) (.slice C2 r3 r4) := hJ.keepB (by omega) (fun k h1 _ => hk5 k (by omega))
          replace hW5 := Lib.hid hW5
          clear hf hdep e1 hU
          go_simp
          rw [hW5.out]
          exact hK undef _ (fun _ => rfl) ⟨_, _, hC5, hJ5⟩ ⟨by omega, fun k hk h => hk5 k (h rfl), hB5⟩
        | m + 7 => simp at ho
      · intro u W hS hfact
        obtain ⟨hc, hJc, hbl⟩ := hS
        simp only [frameU, Nat.reduceAdd] at hfact ⊢
        obtain ⟨vn, vl, hC, hJ⟩ := hfact 6 (by decide)
        obtain ⟨dj, hd1, hd2⟩ := jsnDesc
        clear hfact hNum hC1 hC2 hJa hB hJc hc
        replace hd1 := Lib.hid hd1
        replace hd2 := Lib.hid hd2
        go_wp2
        exact bodyPost_ret (results_cel1 Tryz.results14 _ _ _ _ _ dj rfl hC hd1.out hd2.out jsnInfo) rfl ⟨_, _, rfl, hJ.more (fun k hk _ => by omega), hbl⟩
end Go.Proofs.YtghaoielnphhlaaGreatDoor
