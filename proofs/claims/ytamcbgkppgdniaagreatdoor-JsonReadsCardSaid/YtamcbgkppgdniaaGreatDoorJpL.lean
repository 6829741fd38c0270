/-
  The walk of the JSON reader's closure that reads one member of an Object.
-/
import Derived.Test.YtamcbgkppgdniaaGreatDoorJna
namespace Go.Proofs.YtamcbgkppgdniaaGreatDoor
open Go.RowKit Go.WideMaps Go.Maps

theorem rjSize (l : List UInt8) : (ofL l).size = l.length := by unfold ofL; simp [ByteArray.size]
set_option maxRecDepth 100000 in
set_option maxHeartbeats 8000000 in
theorem jrItemO (val : Nat → List UInt8 → JR) (hvl : ∀ it s j it' r, val it s = .ok (j, it', r) → it < it') (w : World) (b : Nat) (d d1 : Int) (g B : Nat) (hdd : IntKind.i64.wrap (d + 1) = d1) (hV : ValSaysJ b d1 val) (st : SO) (s : List UInt8) (W0 : World) (h : IO w b d g B st.1 st.2.1 st.2.1 st.2.2 s W0) (hnl : st.2.1.length ≤ st.2.2.length) (hs : s.length ≤ 1000000) :
    Calls Tryz.prog 137 #[.pointer (some ⟨w.heap.size, 0, none⟩), .pointer (some ⟨g + 2, 0, none⟩), .pointer (some ⟨g, 0, none⟩), .pointer (some ⟨w.heap.size + 1, 0, none⟩)] W0 (LEnd (fun st s W => IO w b d g B st.1 st.2.1 st.2.1 st.2.2 s W ∧ st.2.1.length ≤ st.2.2.length) (fun W => But w.heap.size b w W) (jitO Lib.validD val st s)) := by
  obtain ⟨it, ns, l⟩ := st
  dsimp only at h hnl
  obtain ⟨Z, hZ⟩ : ∃ Z, jitO Lib.validD val (it, ns, l) s = Z := ⟨_, rfl⟩
  rw [hZ]
  rw [jitO_eq _ _ _ _ rfl] at hZ
  dsimp only at hZ
  have hT := Lib.hid (jrText_any b s it W0 h.envW h.rj hs)
  have y0 : W0.cell? ⟨w.heap.size, 0, none⟩ = some (.pointer (some ⟨b, 0, none⟩)) := h.c0.cell 0
  have hlen : ∀ n s2, jtxt s = some (n, s2) → n.length ≤ 1000000 ∧ s2.length ≤ 1000000 := fun n s2 e => by
    unfold jtxt at e
    split at e
    · have := jStr_lt _ e; simp at this hs; omega
    · cases e
  obtain ⟨R, hR⟩ : ∃ R, jtxt s = R := ⟨_, rfl⟩
  rw [hR] at hT hlen hZ
  replace h := Lib.hid h
  replace hlen := Lib.hid hlen
  replace hV := Lib.hid hV
  replace hvl := Lib.hid hvl
  clear hR
  go_enter Tryz.func137, Tryz.ntmps137
  go_wp2_with fail
  refine hT.out.mono ?_
  intro e w1 hx
  rcases R with _ | ⟨n, s2⟩
  · obtain ⟨hB1, rfl⟩ := hx
    subst hZ
    exact ⟨rfl, rfl, h.out.but.trans (hB1.mono h.out.but.size)⟩
  obtain ⟨hB1, rfl, hr1⟩ := hx
  have hl2 := hlen.out n s2 rfl
  have h1 := h.out.step hB1 hr1
  clear h hlen hT y0 hB1 hr1
  dsimp only at hZ
  obtain ⟨S, hS⟩ : ∃ S, ofL n = S := ⟨_, rfl⟩
  have hSs : S.size ≤ 1000000 := by rw [← hS, rjSize]; exact hl2.1
  rw [hS] at hZ ⊢
  clear hS
  obtain ⟨D, k, hk, hown, hsn⟩ := h1.map
  have hD := hown.isMap
  have hkey : keyOf Tryz.prog 9 (.string S) = some (.string S.data.toList) := keyOf_string_mk Tryz.underlying9 (by unfold maxLen; omega)
  have hat1 := hsn S
  have hll := h1.len
  have hi6 := h1.it'
  have hkm : k < maxLen := by unfold maxLen; omega
  have y1 : w1.cell? ⟨g + 2, 0, none⟩ = some (.map (some (g + 1))) := h1.c3.cell 0
  by_cases hm : hasB ns S = true
  · rw [if_pos hm] at hat1 hZ
    subst hZ
    have hg1 := Lib.hid (fun c (h : D.atKey (.string S.data.toList) (.lit (.int .i64 0)) = .lit (.int .i64 c)) => lit_inj (h.symm.trans hat1))
    have hg2 := Lib.hid (fun c (h : (D.put (.string S.data.toList) (.lit (.int .i64 2))).atKey (.string S.data.toList) (.lit (.int .i64 0)) = .lit (.int .i64 c)) => lit_inj (h.symm.trans (atKey_put_same hD (key_lit S) _ _)))
    clear hsn hat1 hm hD
    have hc3 := Lib.hid h1.c3
    have hbut := Lib.hid h1.but
    have hlts := Lib.hid (And.intro h1.lt h1.but.size)
    clear h1
    go_upto_region 2 with (first | (at_lookup; refine wpList_lookup_own_int _ rfl _ _ 154 rfl 9 3 .i64 lawS Tryz.underlying154 Tryz.underlying3 (zeroI _) (g + 1) _ _ rfl hown _ _ rfl hkey ?_; intro c hatc hwc; obtain rfl := hg1.out c hatc; clear hatc hwc) | (at_mapUpdate; refine wpList_mapUpdate_own _ rfl _ _ _ 154 rfl 9 3 lawS Tryz.underlying154 _ (g + 1) _ _ rfl hown hkm _ _ _ rfl rfl hkey _ [] (plainElem_int Tryz.underlying3 (WalkArith.wf_i64 (by omega))) ?_; intro w2 hown1 hgrow1))
    have hc3' : Cel w2 (g + 2) 154 #[.map (some (g + 1))] := (hgrow1.block _ hc3.out.lt (by simp)).trans hc3.out
    have y2 : w2.cell? ⟨g + 2, 0, none⟩ = some (.map (some (g + 1))) := hc3'.cell 0
    have hb2 := Lib.hid (hbut.out.grown hgrow1 hlts.out.2 (fun j hj => by have := hlts.out.1; cases hj; omega))
    clear hgrow1 hc3 hc3' y1 hown hbut
    go_wp2_with (at_lookup; refine wpList_lookup_own_int _ rfl _ _ 154 rfl 9 3 .i64 lawS Tryz.underlying154 Tryz.underlying3 (zeroI _) (g + 1) _ _ rfl hown1 _ _ rfl hkey ?_; intro c hatc hwc; obtain rfl := hg2.out c hatc; clear hatc hwc)
    refine (jrFail_any 6 _).mono ?_
    rintro e w3 ⟨rfl, rfl⟩
    exact ⟨rfl, rfl, hb2.out⟩
  rw [if_neg hm] at hat1 hZ
  have hsn2 := Lib.hid (hsn.step (S := S) hD)
  have hg1 := Lib.hid (fun c (h : D.atKey (.string S.data.toList) (.lit (.int .i64 0)) = .lit (.int .i64 c)) => lit_inj (h.symm.trans hat1))
  have hg2 := Lib.hid (fun c (h : (D.put (.string S.data.toList) (.lit (.int .i64 1))).atKey (.string S.data.toList) (.lit (.int .i64 0)) = .lit (.int .i64 c)) => lit_inj (h.symm.trans (atKey_put_same hD (key_lit S) _ _)))
  clear hsn hat1 hm hD
  replace h1 := Lib.hid h1
  go_upto_region 2 with (first | (at_lookup; refine wpList_lookup_own_int _ rfl _ _ 154 rfl 9 3 .i64 lawS Tryz.underlying154 Tryz.underlying3 (zeroI _) (g + 1) _ _ rfl hown _ _ rfl hkey ?_; intro c hatc hwc; obtain rfl := hg1.out c hatc; clear hatc hwc) | (at_mapUpdate; refine wpList_mapUpdate_own _ rfl _ _ _ 154 rfl 9 3 lawS Tryz.underlying154 _ (g + 1) _ _ rfl hown hkm _ _ _ rfl rfl hkey _ [] (plainElem_int Tryz.underlying3 (WalkArith.wf_i64 (by omega))) ?_; intro w2 hown1 hgrow1))
  have h2 : IO w b d g B it (ns ++ [S]) ns l s2 w2 := h1.out.mapped hgrow1 (by simp; omega) hown1 hsn2.out
  have y2 : w2.cell? ⟨g + 2, 0, none⟩ = some (.map (some (g + 1))) := h2.c3.cell 0
  have y3 : w2.cell? ⟨w.heap.size, 0, none⟩ = some (.pointer (some ⟨b, 0, none⟩)) := h2.c0.cell 0
  clear hgrow1 y1 hown h1 hsn2 hg1
  have hBl := Lib.hid (jrBlanks_any b s2 it w2 h2.rj)
  replace h2 := Lib.hid h2
  go_wp2_with (at_lookup; refine wpList_lookup_own_int _ rfl _ _ 154 rfl 9 3 .i64 lawS Tryz.underlying154 Tryz.underlying3 (zeroI _) (g + 1) _ _ rfl hown1 _ _ rfl hkey ?_; intro c hatc hwc; obtain rfl := hg2.out c hatc; clear hatc hwc)
  refine hBl.out.mono ?_
  rintro e w3 ⟨rfl, hr3, hb3⟩
  have h3 := h2.out.step hb3 hr3
  have hj3 := jblk_le s2
  clear h2 hr3 hb3 hBl y2 y3 hown1 hg2 hkey
  have hMu := Lib.hid (jrMust_any b (jblk s2) it ⟨#[58]⟩ w3 h3.rj)
  have y3 : w3.cell? ⟨w.heap.size, 0, none⟩ = some (.pointer (some ⟨b, 0, none⟩)) := h3.c0.cell 0
  replace h3 := Lib.hid h3
  go_wp2_with fail
  refine hMu.out.mono ?_
  rintro e w4 ⟨hb4, hx⟩
  by_cases h58 : ([58] : List UInt8).isPrefixOf (jblk s2) = true
  rotate_left
  · rw [if_neg h58] at hx hZ
    subst hx
    subst hZ
    exact ⟨rfl, rfl, h3.out.but.trans (hb4.mono h3.out.but.size)⟩
  rw [if_pos h58] at hx hZ
  obtain ⟨rfl, hr4⟩ := hx
  have h4 := h3.out.step hb4 hr4
  simp only [List.length_cons, List.length_nil] at h4
  clear h3 hr4 hb4 hMu y3 h58
  have hBl := Lib.hid (jrBlanks_any b ((jblk s2).drop 1) it w4 h4.rj)
  have y3 : w4.cell? ⟨w.heap.size, 0, none⟩ = some (.pointer (some ⟨b, 0, none⟩)) := h4.c0.cell 0
  replace h4 := Lib.hid h4
  go_wp2_with fail
  refine hBl.out.mono ?_
  rintro e w5 ⟨rfl, hr5, hb5⟩
  have h5 := h4.out.step hb5 hr5
  have hj5 : (jblk ((jblk s2).drop 1)).length ≤ 1000000 := by
    have := jblk_le ((jblk s2).drop 1)
    rw [List.length_drop] at this
    omega
  clear h4 hr5 hb5 hBl y3
  generalize jblk ((jblk s2).drop 1) = s5 at h5 hj5 hZ
  obtain ⟨A6, c6, v6, w6, A6', c6', z0, hrun, rfl, z1, z2, h6⟩ := h5.name S (by omega)
  clear h5
  replace h6 := Lib.hid h6
  replace hrun := Lib.hid hrun
  go_upto_region 8 with (at_builtin; refine jl_append_run (by rfl) _ _ 22 22 rfl (.slice A6 ns.length c6) (.slice (some ⟨w5.heap.size, 0, none⟩) 1 1) _ rfl rfl hrun.out ?_)
  generalize w6.setCell ⟨g, 2, none⟩ (.slice A6' (ns.length + 1) c6') = W at h6 ⊢
  replace h := h6.out
  clear h6 z0 z1 z2 hrun hj3 hkm hSs
  have hh := h
  obtain ⟨h1, h2, h3, h4, h5, ⟨h6, h6', h6''⟩, h7, h8, h9, h10, hmap, ⟨vN, vL, ws, q1, q2, q3, q4⟩, h13⟩ := h
  have hcall := fun (W' : World) (hb : Below W.heap.size W W') => hV.out s5 it W' ((h2.but h3).below hb) (h1.below hb) hj5 h4
  have hvl' := hvl.out it s5
  obtain ⟨R, hR⟩ : ∃ R, val it s5 = R := ⟨_, rfl⟩
  rw [hR] at hcall hvl' hZ
  have y0 : W.cell? ⟨w.heap.size, 0, none⟩ = some (.pointer (some ⟨b, 0, none⟩)) := h7.cell 0
  have y1 : W.cell? ⟨w.heap.size + 1, 0, none⟩ = some (.int .i64 d) := h8.cell 0
  obtain ⟨gl, _, A7, c7, _, hv7, _, _⟩ := (show RowO W B 9 25 vL l from ⟨ws, q3⟩).kids
  subst hv7
  have y3 : W.cell? ⟨g, 3, none⟩ = some (.slice A7 l.length c7) := q1.cell 3
  have hS : ∀ W', But W.heap.size b W W' → W'.cell? ⟨w.heap.size, 0, none⟩ = some (.pointer (some ⟨b, 0, none⟩)) ∧ W'.cell? ⟨w.heap.size + 1, 0, none⟩ = some (.int .i64 d) ∧ W'.cell? ⟨g, 3, none⟩ = some (.slice A7 l.length c7) := fun W' hb =>
    ⟨(hb.cell (p := ⟨w.heap.size, 0, none⟩) h7.lt (by show w.heap.size ≠ b; omega)).trans y0, (hb.cell (p := ⟨w.heap.size + 1, 0, none⟩) h8.lt (by show w.heap.size + 1 ≠ b; omega)).trans y1, (hb.cell (p := ⟨g, 3, none⟩) q1.lt (by show g ≠ b; omega)).trans y3⟩
  have hfz : W.frozen? ⟨g, 3, none⟩ = false := q1.froz 3
  replace hS := Lib.hid hS
  replace hcall := Lib.hid hcall
  replace hh := Lib.hid hh
  replace h3 := Lib.hid h3
  have h11 := Lib.hid q3
  have hNA := Lib.hid (And.intro q1 (And.intro q2 q4))
  have hsN : (ns ++ [S]).length ≤ (l.length + 1) := by simp; omega
  clear hR hV h1 h2 h7 h8 h9 h10 hvl q1 q2 q3 q4 hmap
  have hdr : But W.heap.size b W W.drew := (But.refl _ _ _).drew
  refine wp_region_Q 12 (fun W' => W'.cell? ⟨w.heap.size, 0, none⟩ = some (.pointer (some ⟨b, 0, none⟩)) ∧ W'.cell? ⟨w.heap.size + 1, 0, none⟩ = some (.int .i64 d) ∧ W'.cell? ⟨g, 3, none⟩ = some (.slice A7 l.length c7)) (by kernel_rfl) ?_
  refine wpAnyQ_take (i := 0) (v := .pointer (some ⟨g, 3, none⟩)) rfl (by kernel_rfl) (by kernel_rfl) (by kernel_rfl) (by kernel_rfl) (by rfl) (fun _ _ _ h => h) (Or.inl ⟨by rfl, by
    intro w' hSw
    try dsimp only at hSw
    go_simp⟩) (hS.out _ hdr) ?_
  simp only [Act.put, List.setIfInBounds_toArray, List.set_cons_zero, List.set_cons_succ]
  refine wpAnyQ_take (i := 1) (v := .slice A7 l.length c7) rfl (by kernel_rfl) (by kernel_rfl) (by kernel_rfl) (by kernel_rfl) (by rfl) (fun _ _ _ h => h) (Or.inl ⟨by rfl, by
    intro w' hSw
    try dsimp only at hSw
    go_simp⟩) (hS.out _ hdr) ?_
  simp only [Act.put, List.setIfInBounds_toArray, List.set_cons_zero, List.set_cons_succ]
  refine wpAnyQ_take (i := 2) (v := .pointer (some ⟨b, 0, none⟩)) rfl (by kernel_rfl) (by kernel_rfl) (by kernel_rfl) (by kernel_rfl) (by rfl) (fun _ _ _ h => h) (Or.inl ⟨by rfl, by
    intro w' hSw
    try dsimp only at hSw
    go_simp⟩) (hS.out _ hdr) ?_
  simp only [Act.put, List.setIfInBounds_toArray, List.set_cons_zero, List.set_cons_succ]
  refine wpAnyQ_take (i := 3) (v := .int .i64 d) rfl (by kernel_rfl) (by kernel_rfl) (by kernel_rfl) (by kernel_rfl) (by rfl) (fun _ _ _ h => h) (Or.inl ⟨by rfl, by
    intro w' hSw
    try dsimp only at hSw
    go_simp⟩) (hS.out _ hdr) ?_
  simp only [Act.put, List.setIfInBounds_toArray, List.set_cons_zero, List.set_cons_succ]
  refine wpAnyQ_take (i := 4) (v := .int .i64 d1) rfl (by kernel_rfl) (by kernel_rfl) (by kernel_rfl) (by kernel_rfl) (by rfl) (fun _ _ _ h => h) (Or.inl ⟨by rfl, by
    intro w' hSw
    try dsimp only at hSw
    go_simp⟩) (hS.out _ hdr) ?_
  simp only [Act.put, List.setIfInBounds_toArray, List.set_cons_zero, List.set_cons_succ]
  refine wpAnyQ_take (i := 6) (v := .int .i64 (l.length : Int)) rfl (by kernel_rfl) (by kernel_rfl) (by kernel_rfl) (by kernel_rfl) (by rfl) (fun _ _ _ h => h) (Or.inl ⟨by rfl, by
    intro w' hSw
    try dsimp only at hSw
    go_simp⟩) (hS.out _ hdr) ?_
  simp only [Act.put, List.setIfInBounds_toArray, List.set_cons_zero, List.set_cons_succ]
  refine wpAnyQ_two (i := 5) (j := 7) (by kernel_rfl) rfl rfl (fun K hK => ?_) (fun K hK => ?_)
  · go_simp
    refine (hcall.out W.drew (bel_drewN (Below.refl _ _) 1)).mono ?_
    intro e w2 hx
    rcases R with c | ⟨x, it2, r⟩
    · obtain ⟨hB2, rfl⟩ := hx
      subst hZ
      exact ⟨rfl, rfl, h3.out.trans ((hdr.trans hB2).mono h3.out.size)⟩
    obtain ⟨hB2, vn, vl, rfl, hR2, hO2, hit⟩ := hx
    subst hZ
    obtain ⟨Ax, nx, cx, Ay, ny, cy, rfl, rfl⟩ := hO2.forms
    have hB3 : But W.heap.size b W (w2.alloc (.cells #[.int .u8 0, .string ⟨#[]⟩, .slice none 0 0, .slice none 0 0] 25)) := (hdr.trans hB2).alloc hB2.size _
    obtain ⟨v', w4, gg, cap, hrun, rfl, q1, q2, q3, q4, q5, q6, q7, q8, q9, qge, qgr⟩ := append_zeroW 23 Tryz.underlying23 h11.out hB3 (by omega) h5 (Cel.fresh w2 25 #[.int .u8 0, .string ⟨#[]⟩, .slice none 0 0, .slice none 0 0]) (Nat.le_refl _) hB2.size (by simp) (OwnJ.keep x hO2 (fun k _ hk => Below.heap_alloc w2 _ k hk) (Nat.le_refl _) (Nat.le_refl _)) (by omega)
    have hfin := hh.out.put hNA.out.1 hNA.out.2.1 hNA.out.2.2 hB3 (hR2.below ((Below.refl _ _).alloc (Nat.le_refl _) _)) hit (hvl' _ _ _ rfl) (by simp) q1 q4 q5 q6 q7 q8 qge qgr q9
    refine hK.out _ _ (fun _ => hS.out _ (hdr.trans hB2)) ?_
    clear hK
    refine wpAnyQ_one (i := 7) (by kernel_rfl) rfl (fun K hK => ?_)
    go_simp
    refine hK.out _ _ (fun _ => hS.out _ hB3) ?_
    clear hK
    refine wpAnyQ_one (i := 8) (by kernel_rfl) rfl (fun K hK => ?_)
    refine jl_step_run (by rfl) (.tmp 29) (.tmp 35) 23 23 (by rfl) (.slice A7 l.length c7) (.slice (some ⟨w2.heap.size, 0, none⟩) 1 1) _ w4 (by rfl) (by rfl) hrun ?_
    have hS3 := hS.out _ hB3
    have hb0 : ∀ (k o : Nat), k < B → w4.cell? ⟨k, o, none⟩ = (w2.alloc (.cells #[.int .u8 0, .string ⟨#[]⟩, .slice none 0 0, .slice none 0 0] 25)).cell? ⟨k, o, none⟩ := fun k o hk => World.cell?_of_block (a := ⟨k, o, none⟩) (q4 k hk)
    have hS4 : w4.cell? ⟨w.heap.size, 0, none⟩ = some (.pointer (some ⟨b, 0, none⟩)) ∧ w4.cell? ⟨w.heap.size + 1, 0, none⟩ = some (.int .i64 d) ∧ w4.cell? ⟨g, 3, none⟩ = some (.slice A7 l.length c7) := ⟨(hb0 _ _ (by omega)).trans hS3.1, (hb0 _ _ (by omega)).trans hS3.2.1, (hb0 _ _ (by omega)).trans hS3.2.2⟩
    refine hK.out _ _ (fun _ => hS4) ?_
    clear hK
    simp only [Act.put, List.setIfInBounds_toArray, List.set_cons_zero, List.set_cons_succ]
    have k0 := q2 0 _ rfl
    have k1 := q2 1 _ rfl
    have k2 := q2 2 _ rfl
    have k3 := q2 3 _ rfl
    have f0 := q3 (l.length * 4)
    have f1 := q3 (l.length * 4 + 1)
    have f2 := q3 (l.length * 4 + 2)
    have f3 := q3 (l.length * 4 + 3)
    have g3 := hS4.2.2
    have fg : w4.frozen? ⟨g, 3, none⟩ = false := by
      have := (q4 g (by omega)).trans ((Below.heap_alloc w2 _ g (by have := hB2.size; simp at this; omega)).trans (hB2.block g (by simp; omega) (by omega)))
      exact (World.frozen?_of_block (a := ⟨g, 3, none⟩) this).trans (hfz)
    have hne : ¬ g = gg := by omega
    have hneA : ¬ w.heap.size = gg := by omega
    have hneA1 : ¬ w.heap.size + 1 = gg := by omega
    have hn0 : (0 : Int) ≤ (l.length : Int) := by omega
    have hn1 : (l.length : Int) < (l.length : Int) + 1 := by omega
    have hfin2 := Lib.hid hfin
    clear hfin q9 qge qgr hNA q2 q3 q4 q5 q6 q7 q8 hrun hS hh hcall hvl' hB2 hB3 hR2 hO2 h11 hS3 hb0
    simp only [Nat.add_zero] at k0
    refine wpAnyQ_takeW (i := 11) (v := .pointer (some ⟨g, 3, none⟩)) rfl (by kernel_rfl) (by kernel_rfl) (by kernel_rfl) (by decide) (fun _ _ _ h => h) (Or.inl ⟨by rfl, by
      intro w' hSw
      go_simp⟩) hS4 ?_
    simp only [Act.put, List.setIfInBounds_toArray, List.set_cons_zero, List.set_cons_succ]
    refine wpAnyQ_takeW (i := 9) (v := .pointer (some ⟨gg, l.length * 4, none⟩)) rfl (by kernel_rfl) (by kernel_rfl) (by kernel_rfl) (by decide) (fun _ _ _ h => h) (Or.inl ⟨by rfl, by
      intro w' hSw
      go_simp⟩) hS4 ?_
    simp only [Act.put, List.setIfInBounds_toArray, List.set_cons_zero, List.set_cons_succ]
    refine wpAnyQ_two (i := 10) (j := 12) (by kernel_rfl) rfl rfl (fun K hK => ?_) (fun K hK => ?_)
    · go_simp
      refine hK.out _ _ (fun _ => ?_) ?_
      · have hoc : ∀ (k o : Nat), k ≠ gg → (lay4 w4 gg (l.length * 4) (.int .u8 x.kind) (.string x.text) (.slice Ax nx cx) (.slice Ay ny cy)).cell? ⟨k, o, none⟩ = w4.cell? ⟨k, o, none⟩ := fun k o hk => World.cell?_of_block (a := ⟨k, o, none⟩) (lay4_other w4 gg _ _ _ _ _ hk)
        exact ⟨(hoc _ _ hneA).trans hS4.1, (hoc _ _ hneA1).trans hS4.2.1, (hoc _ _ hne).trans hS4.2.2⟩
      clear hK
      refine wpAnyQ_one (i := 12) (by kernel_rfl) rfl (fun K hK => ?_)
      go_simp
      refine hK.out _ _ (fun h => by cases h) ?_
      clear hK
      refine wpAnyQ_done (by kernel_rfl) ?_
      go_end0
      exact ⟨rfl, hfin2.out, by simpa using hsN⟩
    · go_simp
      refine hK.out _ _ (fun h => by cases h) ?_
      clear hK
      have hk' : ∀ i, (w4.setCell ⟨g, 3, none⟩ (.slice (some ⟨gg, 0, none⟩) (l.length + 1) cap)).cell? ⟨gg, i, none⟩ = w4.cell? ⟨gg, i, none⟩ := fun i => World.cell?_setCell_other w4 ⟨g, 3, none⟩ ⟨gg, i, none⟩ _ (fun e => hne (congrArg Addr.block e))
      refine wpAnyQ_one (i := 10) (by kernel_rfl) rfl (fun K hK => ?_)
      go_simp
      refine hK.out _ _ (fun h => by cases h) ?_
      clear hK
      refine wpAnyQ_done (by kernel_rfl) ?_
      go_end0
      refine ⟨rfl, ?_, by simpa using hsN⟩
      have e := lay4_comm w4 gg (l.length * 4) g (.int .u8 x.kind) (.string x.text) (.slice Ax nx cx) (.slice Ay ny cy) (.slice (some ⟨gg, 0, none⟩) (l.length + 1) cap) hne
      show IO w b d g B _ _ _ _ _ (lay4 _ _ _ _ _ _ _)
      rw [e]
      exact hfin2.out
  · go_simp
    have hdz : But W.heap.size b W (W.drew.alloc (.cells #[.int .u8 0, .string ⟨#[]⟩, .slice none 0 0, .slice none 0 0] 25)) := hdr.alloc (Nat.le_refl _) _
    refine hK.out _ _ (fun _ => hS.out _ hdz) ?_
    clear hK
    refine wpAnyQ_one (i := 5) (by kernel_rfl) rfl (fun K hK => ?_)
    go_simp
    refine (hcall.out (W.drew.alloc (.cells #[.int .u8 0, .string ⟨#[]⟩, .slice none 0 0, .slice none 0 0] 25)) ((bel_drewN (Below.refl _ _) 1).alloc (Nat.le_refl _) _)).mono ?_
    intro e w2 hx
    rcases R with c | ⟨x, it2, r⟩
    · obtain ⟨hB2, rfl⟩ := hx
      subst hZ
      exact ⟨rfl, rfl, h3.out.trans ((hdz.trans (hB2.mono (by simp))).mono h3.out.size)⟩
    obtain ⟨hB2, vn, vl, rfl, hR2, hO2, hit⟩ := hx
    subst hZ
    obtain ⟨Ax, nx, cx, Ay, ny, cy, rfl, rfl⟩ := hO2.forms
    have hB3 : But W.heap.size b W w2 := hdz.trans (hB2.mono (by simp))
    have hz3 : Cel w2 W.heap.size 25 #[.int .u8 0, .string ⟨#[]⟩, .slice none 0 0, .slice none 0 0] := Cel.but (Cel.fresh W.drew 25 #[.int .u8 0, .string ⟨#[]⟩, .slice none 0 0, .slice none 0 0]) hB2 (by simp) (by show W.heap.size ≠ b; omega)
    obtain ⟨v', w4, gg, cap, hrun, rfl, q1, q2, q3, q4, q5, q6, q7, q8, q9, qge, qgr⟩ := append_zeroW 23 Tryz.underlying23 h11.out hB3 (by omega) h5 hz3 (by simp) hB2.size (Nat.le_refl _) hO2 (by omega)
    have hfin := hh.out.put hNA.out.1 hNA.out.2.1 hNA.out.2.2 hB3 hR2 hit (hvl' _ _ _ rfl) (by simp) q1 q4 q5 q6 q7 q8 qge qgr q9
    refine hK.out _ _ (fun _ => hS.out _ hB3) ?_
    clear hK
    refine wpAnyQ_one (i := 8) (by kernel_rfl) rfl (fun K hK => ?_)
    refine jl_step_run (by rfl) (.tmp 29) (.tmp 35) 23 23 (by rfl) (.slice A7 l.length c7) (.slice (some ⟨W.heap.size, 0, none⟩) 1 1) _ w4 (by rfl) (by rfl) hrun ?_
    have hS3 := hS.out _ hB3
    have hb0 : ∀ (k o : Nat), k < B → w4.cell? ⟨k, o, none⟩ = w2.cell? ⟨k, o, none⟩ := fun k o hk => World.cell?_of_block (a := ⟨k, o, none⟩) (q4 k hk)
    have hS4 : w4.cell? ⟨w.heap.size, 0, none⟩ = some (.pointer (some ⟨b, 0, none⟩)) ∧ w4.cell? ⟨w.heap.size + 1, 0, none⟩ = some (.int .i64 d) ∧ w4.cell? ⟨g, 3, none⟩ = some (.slice A7 l.length c7) := ⟨(hb0 _ _ (by omega)).trans hS3.1, (hb0 _ _ (by omega)).trans hS3.2.1, (hb0 _ _ (by omega)).trans hS3.2.2⟩
    refine hK.out _ _ (fun _ => hS4) ?_
    clear hK
    simp only [Act.put, List.setIfInBounds_toArray, List.set_cons_zero, List.set_cons_succ]
    have k0 := q2 0 _ rfl
    have k1 := q2 1 _ rfl
    have k2 := q2 2 _ rfl
    have k3 := q2 3 _ rfl
    have f0 := q3 (l.length * 4)
    have f1 := q3 (l.length * 4 + 1)
    have f2 := q3 (l.length * 4 + 2)
    have f3 := q3 (l.length * 4 + 3)
    have g3 := hS4.2.2
    have fg : w4.frozen? ⟨g, 3, none⟩ = false := by
      have := (q4 g (by omega)).trans (hB3.block g (by omega) (by omega))
      exact (World.frozen?_of_block (a := ⟨g, 3, none⟩) this).trans (hfz)
    have hne : ¬ g = gg := by omega
    have hneA : ¬ w.heap.size = gg := by omega
    have hneA1 : ¬ w.heap.size + 1 = gg := by omega
    have hn0 : (0 : Int) ≤ (l.length : Int) := by omega
    have hn1 : (l.length : Int) < (l.length : Int) + 1 := by omega
    have hfin2 := Lib.hid hfin
    clear hfin q9 qge qgr hNA q2 q3 q4 q5 q6 q7 q8 hrun hS hh hcall hvl' hB2 hB3 hR2 hO2 h11 hS3 hb0
    simp only [Nat.add_zero] at k0
    refine wpAnyQ_takeW (i := 11) (v := .pointer (some ⟨g, 3, none⟩)) rfl (by kernel_rfl) (by kernel_rfl) (by kernel_rfl) (by decide) (fun _ _ _ h => h) (Or.inl ⟨by rfl, by
      intro w' hSw
      go_simp⟩) hS4 ?_
    simp only [Act.put, List.setIfInBounds_toArray, List.set_cons_zero, List.set_cons_succ]
    refine wpAnyQ_takeW (i := 9) (v := .pointer (some ⟨gg, l.length * 4, none⟩)) rfl (by kernel_rfl) (by kernel_rfl) (by kernel_rfl) (by decide) (fun _ _ _ h => h) (Or.inl ⟨by rfl, by
      intro w' hSw
      go_simp⟩) hS4 ?_
    simp only [Act.put, List.setIfInBounds_toArray, List.set_cons_zero, List.set_cons_succ]
    refine wpAnyQ_two (i := 10) (j := 12) (by kernel_rfl) rfl rfl (fun K hK => ?_) (fun K hK => ?_)
    · go_simp
      refine hK.out _ _ (fun _ => ?_) ?_
      · have hoc : ∀ (k o : Nat), k ≠ gg → (lay4 w4 gg (l.length * 4) (.int .u8 x.kind) (.string x.text) (.slice Ax nx cx) (.slice Ay ny cy)).cell? ⟨k, o, none⟩ = w4.cell? ⟨k, o, none⟩ := fun k o hk => World.cell?_of_block (a := ⟨k, o, none⟩) (lay4_other w4 gg _ _ _ _ _ hk)
        exact ⟨(hoc _ _ hneA).trans hS4.1, (hoc _ _ hneA1).trans hS4.2.1, (hoc _ _ hne).trans hS4.2.2⟩
      clear hK
      refine wpAnyQ_one (i := 12) (by kernel_rfl) rfl (fun K hK => ?_)
      go_simp
      refine hK.out _ _ (fun h => by cases h) ?_
      clear hK
      refine wpAnyQ_done (by kernel_rfl) ?_
      go_end0
      exact ⟨rfl, hfin2.out, by simpa using hsN⟩
    · go_simp
      refine hK.out _ _ (fun h => by cases h) ?_
      clear hK
      have hk' : ∀ i, (w4.setCell ⟨g, 3, none⟩ (.slice (some ⟨gg, 0, none⟩) (l.length + 1) cap)).cell? ⟨gg, i, none⟩ = w4.cell? ⟨gg, i, none⟩ := fun i => World.cell?_setCell_other w4 ⟨g, 3, none⟩ ⟨gg, i, none⟩ _ (fun e => hne (congrArg Addr.block e))
      refine wpAnyQ_one (i := 10) (by kernel_rfl) rfl (fun K hK => ?_)
      go_simp
      refine hK.out _ _ (fun h => by cases h) ?_
      clear hK
      refine wpAnyQ_done (by kernel_rfl) ?_
      go_end0
      refine ⟨rfl, ?_, by simpa using hsN⟩
      have e := lay4_comm w4 gg (l.length * 4) g (.int .u8 x.kind) (.string x.text) (.slice Ax nx cx) (.slice Ay ny cy) (.slice (some ⟨gg, 0, none⟩) (l.length + 1) cap) hne
      show IO w b d g B _ _ _ _ _ (lay4 _ _ _ _ _ _ _)
      rw [e]
      exact hfin2.out
end Go.Proofs.YtamcbgkppgdniaaGreatDoor
