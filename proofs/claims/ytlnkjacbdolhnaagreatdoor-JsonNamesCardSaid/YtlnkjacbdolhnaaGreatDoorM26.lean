/-
  The walk of the JSON reader's closure that reads one member of an Object.
-/
import Derived.Test.YtlnkjacbdolhnaaGreatDoorM25
namespace Go.Proofs.YtlnkjacbdolhnaaGreatDoor
open Go.RowKit Go.WideMaps Go.Maps

theorem jitO_eq (Val : List UInt8 → Bool) (val : Nat → List UInt8 → JR) (st : SO) (s : List UInt8) (hV : Val = Lib.validD) : jitO Val val st s = match jtxt s with
    | none => .error 4
    | some (n, s2) => if hasB st.2.1 (ofL n) = true then .error 6 else if ([58] : List UInt8).isPrefixOf (jblk s2) = true then match val st.1 (jblk ((jblk s2).drop 1)) with
        | .error e => .error e
        | .ok (j, it, r) => .ok ((it, st.2.1 ++ [ofL n], st.2.2 ++ [j]), r)
      else .error 4 := by
  subst hV
  rcases s with _ | ⟨c, s1⟩
  · rfl
  by_cases hc : c = 34
  · subst hc
    have e1 : jtxt (34 :: s1) = jStr Lib.validD [] s1 := rfl
    rw [e1]
    have e2 : jitO Lib.validD val st (34 :: s1) = (match jStr Lib.validD [] s1 with
      | none => .error 4
      | some (n, s2) => if (st.2.1.any fun b => decide (b = ofL n)) = true then .error 6 else match jblk s2 with
        | 58 :: s3 => match val st.1 (jblk s3) with
          | .error e => .error e
          | .ok (j, it, r) => .ok ((it, st.2.1 ++ [ofL n], st.2.2 ++ [j]), r)
        | _ => .error 4) := rfl
    rw [e2]
    rcases jStr Lib.validD [] s1 with _ | ⟨n, s2⟩
    · rfl
    · dsimp only
      by_cases hm : hasB st.2.1 (ofL n) = true
      · rw [if_pos hm]
        exact if_pos hm
      · rw [if_neg hm]
        refine (if_neg hm).trans ?_
        rcases hb : jblk s2 with _ | ⟨c, r⟩
        · rfl
        · by_cases hc : c = 58
          · subst hc
            rw [if_pos ((pre_eq 58 58 r).2 rfl)]
            rfl
          · rw [if_neg (fun e => hc ((pre_eq 58 c r).1 e))]
            split
            · rename_i s3 e; injection e with e; exact absurd e hc
            · rfl
  · rw [jtxt_no (fun e => hc ((pre_eq 34 c s1).1 e))]
    unfold jitO
    split
    · rename_i s3 e; injection e with e; exact absurd e hc
    · rfl
set_option maxHeartbeats 2000000 in
/-- One member more. -/
theorem IO.put {w W w3 w4 : World} {b : Nat} {d : Int} {g B gg n it it2 lo hi : Nat} {ms ns : List ByteArray} {l : List Jsn} {s r : List UInt8} {x : Jsn} {vN vL vn vl a1 a2 a3 a4 : Value} {ws : List OE} {c1 c2 : Nat} (h : IO w b d g B it ms ns l s W)
    (hC : Cel W g 25 #[.int .u8 7, .string ⟨#[]⟩, vN, vL]) (hN : W.ownsRow B 9 1 vN ns.length (ns.map Value.string)) (hA : ApartN vN vL ws)
    (h3 : But W.heap.size b W w3) (hr : RJ w3 b r it2) (hit : it2 ≤ 65536) (hlt : it < it2) (hlo : W.heap.size ≤ lo)
    (hgg : B ≤ gg) (hlow : ∀ k, k < B → w4.heap[k]? = w3.heap[k]?) (hsz : w3.heap.size ≤ w4.heap.size) (hos : w4.os = w3.os) (htp : w4.tape = w3.tape) (hou : w4.output = w3.output) (hge : vL.ownBlock = some gg ∨ gg = w3.heap.size) (hgr : w3.grownBy w4 vL.ownBlock)
    (hrow : RowW (lay4 w4 gg n a1 a2 a3 a4) B 9 25 (.slice (some ⟨gg, 0, none⟩) c1 c2) (l ++ [x]) (ws ++ [(vn, vl, lo, hi)])) : IO w b d g B it2 ms ns (l ++ [x]) r ((lay4 w4 gg n a1 a2 a3 a4).setCell ⟨g, 3, none⟩ (.slice (some ⟨gg, 0, none⟩) c1 c2)) := by
  obtain ⟨h1, h2, hB, h4, h5, ⟨h6, h6', h6''⟩, h7, h8, h9, h10, ⟨D, k, m1, m2, m3⟩, _, h13⟩ := h
  obtain ⟨v', hv'⟩ : ∃ v' : Value, .slice (some ⟨gg, 0, none⟩) c1 c2 = v' := ⟨_, rfl⟩
  have hvb : v'.ownBlock = some gg := by rw [← hv']; rfl
  rw [hv'] at hrow ⊢
  clear hv'
  have hs := hB.size
  have hs3 := h3.size
  obtain ⟨W6, hW6⟩ : ∃ W6, (lay4 w4 gg n a1 a2 a3 a4).setCell ⟨g, 3, none⟩ v' = W6 := ⟨_, rfl⟩
  have hoth : ∀ k, k ≠ gg → k ≠ g → W6.heap[k]? = w4.heap[k]? := fun k hk hg => by
    have h := lay4_set w4 gg n g a1 a2 a3 a4 v' hk hg
    rw [hW6] at h
    exact h
  have hat2 : ∀ k, k < B → k ≠ g → k ≠ b → W6.heap[k]? = W.heap[k]? := fun k hk hg hb => (hoth k (by omega) hg).trans ((hlow k hk).trans (h3.block k (by omega) hb))
  have hsize : W6.heap.size = w4.heap.size := by rw [← hW6]; simp [lay4_size]
  have hg0 : (lay4 w4 gg n a1 a2 a3 a4).heap[g]? = W.heap[g]? := (lay4_other w4 gg n a1 a2 a3 a4 (k := g) (by omega)).trans ((hlow g (by omega)).trans (h3.block g (by omega) (by omega)))
  have hc2 : Cel W6 g 25 #[.int .u8 7, .string ⟨#[]⟩, vN, v'] := by rw [← hW6]; exact Cel.set (hg0.trans hC) 3 v'
  have hr2 : RowW W6 B 9 25 v' (l ++ [x]) (ws ++ [(vn, vl, lo, hi)]) := by
    rw [← hW6]
    exact hrow.keep (fun k h1 h2 => Below.heap_setCell _ _ _ _ (by show k ≠ g; omega)) (by simp)
  have e1 : W6.os = w.os := by rw [← hB.os, ← h3.os, ← hos, ← hW6]; rfl
  have e2 : W6.tape = w.tape := by rw [← hB.tape, ← h3.tape, ← htp, ← hW6]; rfl
  have e3 : W6.output = w.output := by rw [← hB.output, ← h3.output, ← hou, ← hW6]; rfl
  rw [hW6]
  clear hW6
  have hNb : ∀ gn, vN.ownBlock = some gn → B ≤ gn ∧ gn < W.heap.size ∧ gn ≠ gg := fun gn hgn => by
    have := hN.lt gn hgn
    refine ⟨this.1, this.2, fun e => ?_⟩
    rcases hge with e2 | e2
    · exact (hA gn hgn).1 (by rw [e2, e])
    · omega
  refine ⟨(hoth b (by omega) (by omega)).trans ((hlow b (by omega)).trans hr), h2, ⟨e1, e2, e3, by rw [hsize]; omega, fun k hk hb => (hat2 k (by omega) (by omega) hb).trans (hB.block k hk hb)⟩, hit, by rw [hsize]; omega, ⟨h6, h6', h6''⟩,
    (hat2 _ (by omega) (by omega) (by omega)).trans h7, (hat2 _ (by omega) (by omega) (by omega)).trans h8, (hat2 _ (by omega) (by omega) (by omega)).trans h9, (hat2 _ (by omega) (by omega) (by omega)).trans h10, ⟨D, k, m1, ?_, m3⟩, ⟨vN, v', _, hc2, ?_, hr2, ?_⟩, ?_⟩
  · obtain ⟨es, clock, hb, F, p1, p2⟩ := m2
    exact ⟨es, clock, (hat2 _ (by omega) (by omega) (by omega)).trans hb, F, p1, p2⟩
  · refine ownRow_keep hN fun gn hgn => ?_
    obtain ⟨p1, p2, p3⟩ := hNb gn hgn
    refine (hoth gn p3 (by omega)).trans ((hgr.block gn (by omega) (fun e => (hA gn hgn).1 e.symm)).trans (h3.block gn p2 (by omega)))
  · intro gn hgn
    obtain ⟨p1, p2, p3⟩ := hNb gn hgn
    refine ⟨fun e => p3 (by rw [hvb] at e; injection e with e; exact e.symm), fun u hu => ?_⟩
    rcases List.mem_append.1 hu with hu | hu
    · exact (hA gn hgn).2 u hu
    · simp at hu; subst hu; dsimp only; omega
  · simp; omega
end Go.Proofs.YtlnkjacbdolhnaaGreatDoor


/-
  The walk of the JSON reader's closure that reads one member of an Object.
-/
namespace Go.Proofs.YtlnkjacbdolhnaaGreatDoor
open Go.RowKit Go.WideMaps Go.Maps

theorem rjSize (l : List UInt8) : (ofL l).size = l.length := by unfold ofL; simp [ByteArray.size]
set_option maxRecDepth 100000 in
set_option maxHeartbeats 8000000 in
theorem jrItemO (val : Nat → List UInt8 → JR) (hvl : ∀ it s j it' r, val it s = .ok (j, it', r) → it < it') (w : World) (b : Nat) (d d1 : Int) (g B : Nat) (hdd : IntKind.i64.wrap (d + 1) = d1) (hV : ValSaysJ b d1 val) (st : SO) (s : List UInt8) (W0 : World) (h : IO w b d g B st.1 st.2.1 st.2.1 st.2.2 s W0) (hnl : st.2.1.length ≤ st.2.2.length) (hs : s.length ≤ 1000000) :
    Calls Tryz.prog 89 #[.pointer (some ⟨w.heap.size, 0, none⟩), .pointer (some ⟨g + 2, 0, none⟩), .pointer (some ⟨g, 0, none⟩), .pointer (some ⟨w.heap.size + 1, 0, none⟩)] W0 (LEnd (fun st s W => IO w b d g B st.1 st.2.1 st.2.1 st.2.2 s W ∧ st.2.1.length ≤ st.2.2.length) (fun W => But w.heap.size b w W) (jitO Lib.validD val st s)) := by
  obtain ⟨it, ns, l⟩ := st
  dsimp only at h hnl
  obtain ⟨Z, hZ⟩ : ∃ Z, jitO Lib.validD val (it, ns, l) s = Z := ⟨_, rfl⟩
  rw [hZ]
  rw [jitO_eq _ _ _ _ rfl] at hZ
  dsimp only at hZ
  have hT := Lib.hid (jrText_any b s it W0 h.envW h.rj hs)
  have y0 : W0.cell? ⟨w.heap.size, 0, none⟩ = some (.pointer (some ⟨b, 0, none⟩)) := h.c0.cell 0
  have hlen : ∀ n s2, jtxt s = some (n, s2) → n.length ≤ 1000000 ∧ s2.length ≤ 1000000 := fun n s2 e => by
    unfold jtxt at e
    split at e
    · have := jStr_lt _ e; simp at this hs; omega
    · cases e
  obtain ⟨R, hR⟩ : ∃ R, jtxt s = R := ⟨_, rfl⟩
  rw [hR] at hT hlen hZ
  replace h := Lib.hid h
  replace hlen := Lib.hid hlen
  replace hV := Lib.hid hV
  replace hvl := Lib.hid hvl
  clear hR
  go_enter Tryz.func89, Tryz.ntmps89
  go_wp2_with fail
  refine hT.out.mono ?_
  intro e w1 hx
  rcases R with _ | ⟨n, s2⟩
  · obtain ⟨hB1, rfl⟩ := hx
    subst hZ
    exact ⟨rfl, rfl, h.out.but.trans (hB1.mono h.out.but.size)⟩
  obtain ⟨hB1, rfl, hr1⟩ := hx
  have hl2 := hlen.out n s2 rfl
  have h1 := h.out.step hB1 hr1
  clear h hlen hT y0 hB1 hr1
  dsimp only at hZ
  obtain ⟨S, hS⟩ : ∃ S, ofL n = S := ⟨_, rfl⟩
  have hSs : S.size ≤ 1000000 := by rw [← hS, rjSize]; exact hl2.1
  rw [hS] at hZ ⊢
  clear hS
  obtain ⟨D, k, hk, hown, hsn⟩ := h1.map
  have hD := hown.isMap
  have hkey : keyOf Tryz.prog 9 (.string S) = some (.string S.data.toList) := keyOf_string_mk Tryz.underlying9 (by unfold maxLen; omega)
  have hat1 := hsn S
  have hll := h1.len
  have hi6 := h1.it'
  have hkm : k < maxLen := by unfold maxLen; omega
  have y1 : w1.cell? ⟨g + 2, 0, none⟩ = some (.map (some (g + 1))) := h1.c3.cell 0
  by_cases hm : hasB ns S = true
  · rw [if_pos hm] at hat1 hZ
    subst hZ
    have hg1 := Lib.hid (fun c (h : D.atKey (.string S.data.toList) (.lit (.int .i64 0)) = .lit (.int .i64 c)) => lit_inj (h.symm.trans hat1))
    have hg2 := Lib.hid (fun c (h : (D.put (.string S.data.toList) (.lit (.int .i64 2))).atKey (.string S.data.toList) (.lit (.int .i64 0)) = .lit (.int .i64 c)) => lit_inj (h.symm.trans (atKey_put_same hD (key_lit S) _ _)))
    clear hsn hat1 hm hD
    have hc3 := Lib.hid h1.c3
    have hbut := Lib.hid h1.but
    have hlts := Lib.hid (And.intro h1.lt h1.but.size)
    clear h1
    go_upto_region 2 with (first | (at_lookup; refine wpList_lookup_own_int _ rfl _ _ 140 rfl 9 3 .i64 lawS Tryz.underlying140 Tryz.underlying3 (zeroI _) (g + 1) _ _ rfl hown _ _ rfl hkey ?_; intro c hatc hwc; obtain rfl := hg1.out c hatc; clear hatc hwc) | (at_mapUpdate; refine wpList_mapUpdate_own _ rfl _ _ _ 140 rfl 9 3 lawS Tryz.underlying140 _ (g + 1) _ _ rfl hown hkm _ _ _ rfl rfl hkey _ [] (plainElem_int Tryz.underlying3 (WalkArith.wf_i64 (by omega))) ?_; intro w2 hown1 hgrow1))
    have hc3' : Cel w2 (g + 2) 140 #[.map (some (g + 1))] := (hgrow1.block _ hc3.out.lt (by simp)).trans hc3.out
    have y2 : w2.cell? ⟨g + 2, 0, none⟩ = some (.map (some (g + 1))) := hc3'.cell 0
    have hb2 := Lib.hid (hbut.out.grown hgrow1 hlts.out.2 (fun j hj => by have := hlts.out.1; cases hj; omega))
    clear hgrow1 hc3 hc3' y1 hown hbut
    go_wp2_with (at_lookup; refine wpList_lookup_own_int _ rfl _ _ 140 rfl 9 3 .i64 lawS Tryz.underlying140 Tryz.underlying3 (zeroI _) (g + 1) _ _ rfl hown1 _ _ rfl hkey ?_; intro c hatc hwc; obtain rfl := hg2.out c hatc; clear hatc hwc)
    refine (jrFail_any 6 _).mono ?_
    rintro e w3 ⟨rfl, rfl⟩
    exact ⟨rfl, rfl, hb2.out⟩
  rw [if_neg hm] at hat1 hZ
  have hsn2 := Lib.hid (hsn.step (S := S) hD)
  have hg1 := Lib.hid (fun c (h : D.atKey (.string S.data.toList) (.lit (.int .i64 0)) = .lit (.int .i64 c)) => lit_inj (h.symm.trans hat1))
  have hg2 := Lib.hid (fun c (h : (D.put (.string S.data.toList) (.lit (.int .i64 1))).atKey (.string S.data.toList) (.lit (.int .i64 0)) = .lit (.int .i64 c)) => lit_inj (h.symm.trans (atKey_put_same hD (key_lit S) _ _)))
  clear hsn hat1 hm hD
  replace h1 := Lib.hid h1
  go_upto_region 2 with (first | (at_lookup; refine wpList_lookup_own_int _ rfl _ _ 140 rfl 9 3 .i64 lawS Tryz.underlying140 Tryz.underlying3 (zeroI _) (g + 1) _ _ rfl hown _ _ rfl hkey ?_; intro c hatc hwc; obtain rfl := hg1.out c hatc; clear hatc hwc) | (at_mapUpdate; refine wpList_mapUpdate_own _ rfl _ _ _ 140 rfl 9 3 lawS Tryz.underlying140 _ (g + 1) _ _ rfl hown hkm _ _ _ rfl rfl hkey _ [] (plainElem_int Tryz.underlying3 (WalkArith.wf_i64 (by omega))) ?_; intro w2 hown1 hgrow1))
  have h2 : IO w b d g B it (ns ++ [S]) ns l s2 w2 := h1.out.mapped hgrow1 (by simp; omega) hown1 hsn2.out
  have y2 : w2.cell? ⟨g + 2, 0, none⟩ = some (.map (some (g + 1))) := h2.c3.cell 0
  have y3 : w2.cell? ⟨w.heap.size, 0, none⟩ = some (.pointer (some ⟨b, 0, none⟩)) := h2.c0.cell 0
  clear hgrow1 y1 hown h1 hsn2 hg1
  have hBl := Lib.hid (jrBlanks_any b s2 it w2 h2.rj)
  replace h2 := Lib.hid h2
  go_wp2_with (at_lookup; refine wpList_lookup_own_int _ rfl _ _ 140 rfl 9 3 .i64 lawS Tryz.underlying140 Tryz.underlying3 (zeroI _) (g + 1) _ _ rfl hown1 _ _ rfl hkey ?_; intro c hatc hwc; obtain rfl := hg2.out c hatc; clear hatc hwc)
  refine hBl.out.mono ?_
  rintro e w3 ⟨rfl, hr3, hb3⟩
  have h3 := h2.out.step hb3 hr3
  have hj3 := jblk_le s2
  clear h2 hr3 hb3 hBl y2 y3 hown1 hg2 hkey
  have hMu := Lib.hid (jrMust_any b (jblk s2) it ⟨#[58]⟩ w3 h3.rj)
  have y3 : w3.cell? ⟨w.heap.size, 0, none⟩ = some (.pointer (some ⟨b, 0, none⟩)) := h3.c0.cell 0
  replace h3 := Lib.hid h3
  go_wp2_with fail
  refine hMu.out.mono ?_
  rintro e w4 ⟨hb4, hx⟩
  by_cases h58 : ([58] : List UInt8).isPrefixOf (jblk s2) = true
  rotate_left
  · rw [if_neg h58] at hx hZ
    subst hx
    subst hZ
    exact ⟨rfl, rfl, h3.out.but.trans (hb4.mono h3.out.but.size)⟩
  rw [if_pos h58] at hx hZ
  obtain ⟨rfl, hr4⟩ := hx
  have h4 := h3.out.step hb4 hr4
  simp only [List.length_cons, List.length_nil] at h4
  clear h3 hr4 hb4 hMu y3 h58
  have hBl := Lib.hid (jrBlanks_any b ((jblk s2).drop 1) it w4 h4.rj)
  have y3 : w4.cell? ⟨w.heap.size, 0, none⟩ = some (.pointer (some ⟨b, 0, none⟩)) := h4.c0.cell 0
  replace h4 := Lib.hid h4
  go_wp2_with fail
  refine hBl.out.mono ?_
  rintro e w5 ⟨rfl, hr5, hb5⟩
  have h5 := h4.out.step hb5 hr5
  have hj5 : (jblk ((jblk s2).drop 1)).length ≤ 1000000 := by
    have := jblk_le ((jblk s2).drop 1)
    rw [List.length_drop] at this
    omega
  clear h4 hr5 hb5 hBl y3
  generalize jblk ((jblk s2).drop 1) = s5 at h5 hj5 hZ
  obtain ⟨A6, c6, v6, w6, A6', c6', z0, hrun, rfl, z1, z2, h6⟩ := h5.name S (by omega)
  clear h5
  replace h6 := Lib.hid h6
  replace hrun := Lib.hid hrun
  go_upto_region 8 with (at_builtin; refine jl_append_run (by rfl) _ _ 22 22 rfl (.slice A6 ns.length c6) (.slice (some ⟨w5.heap.size, 0, none⟩) 1 1) _ rfl rfl hrun.out ?_)
  generalize w6.setCell ⟨g, 2, none⟩ (.slice A6' (ns.length + 1) c6') = W at h6 ⊢
  replace h := h6.out
  clear h6 z0 z1 z2 hrun hj3 hkm hSs
  have hh := h
  obtain ⟨h1, h2, h3, h4, h5, ⟨h6, h6', h6''⟩, h7, h8, h9, h10, hmap, ⟨vN, vL, ws, q1, q2, q3, q4⟩, h13⟩ := h
  have hcall := fun (W' : World) (hb : Below W.heap.size W W') => hV.out s5 it W' ((h2.but h3).below hb) (h1.below hb) hj5 h4
  have hvl' := hvl.out it s5
  obtain ⟨R, hR⟩ : ∃ R, val it s5 = R := ⟨_, rfl⟩
  rw [hR] at hcall hvl' hZ
  have y0 : W.cell? ⟨w.heap.size, 0, none⟩ = some (.pointer (some ⟨b, 0, none⟩)) := h7.cell 0
  have y1 : W.cell? ⟨w.heap.size + 1, 0, none⟩ = some (.int .i64 d) := h8.cell 0
  obtain ⟨gl, _, A7, c7, _, hv7, _, _⟩ := (show RowO W B 9 25 vL l from ⟨ws, q3⟩).kids
  subst hv7
  have y3 : W.cell? ⟨g, 3, none⟩ = some (.slice A7 l.length c7) := q1.cell 3
  have hS : ∀ W', But W.heap.size b W W' → W'.cell? ⟨w.heap.size, 0, none⟩ = some (.pointer (some ⟨b, 0, none⟩)) ∧ W'.cell? ⟨w.heap.size + 1, 0, none⟩ = some (.int .i64 d) ∧ W'.cell? ⟨g, 3, none⟩ = some (.slice A7 l.length c7) := fun W' hb =>
    ⟨(hb.cell (p := ⟨w.heap.size, 0, none⟩) h7.lt (by show w.heap.size ≠ b; omega)).trans y0, (hb.cell (p := ⟨w.heap.size + 1, 0, none⟩) h8.lt (by show w.heap.size + 1 ≠ b; omega)).trans y1, (hb.cell (p := ⟨g, 3, none⟩) q1.lt (by show g ≠ b; omega)).trans y3⟩
  have hfz : W.frozen? ⟨g, 3, none⟩ = false := q1.froz 3
  replace hS := Lib.hid hS
  replace hcall := Lib.hid hcall
  replace hh := Lib.hid hh
  replace h3 := Lib.hid h3
  have h11 := Lib.hid q3
  have hNA := Lib.hid (And.intro q1 (And.intro q2 q4))
  have hsN : (ns ++ [S]).length ≤ (l.length + 1) := by simp; omega
  clear hR hV h1 h2 h7 h8 h9 h10 hvl q1 q2 q3 q4 hmap
  have hdr : But W.heap.size b W W.drew := (But.refl _ _ _).drew
  refine wp_region_Q 12 (fun W' => W'.cell? ⟨w.heap.size, 0, none⟩ = some (.pointer (some ⟨b, 0, none⟩)) ∧ W'.cell? ⟨w.heap.size + 1, 0, none⟩ = some (.int .i64 d) ∧ W'.cell? ⟨g, 3, none⟩ = some (.slice A7 l.length c7)) (by kernel_rfl) ?_
  refine wpAnyQ_take (i := 0) (v := .pointer (some ⟨g, 3, none⟩)) rfl (by kernel_rfl) (by kernel_rfl) (by kernel_rfl) (by kernel_rfl) (by rfl) (fun _ _ _ h => h) (Or.inl ⟨by rfl, by
    intro w' hSw
    try dsimp only at hSw
    go_simp⟩) (hS.out _ hdr) ?_
  simp only [Act.put, List.setIfInBounds_toArray]
  refine wpAnyQ_take (i := 1) (v := .slice A7 l.length c7) rfl (by kernel_rfl) (by kernel_rfl) (by kernel_rfl) (by kernel_rfl) (by rfl) (fun _ _ _ h => h) (Or.inl ⟨by rfl, by
    intro w' hSw
    try dsimp only at hSw
    go_simp⟩) (hS.out _ hdr) ?_
  simp only [Act.put]
  refine wpAnyQ_take (i := 2) (v := .pointer (some ⟨b, 0, none⟩)) rfl (by kernel_rfl) (by kernel_rfl) (by kernel_rfl) (by kernel_rfl) (by rfl) (fun _ _ _ h => h) (Or.inl ⟨by rfl, by
    intro w' hSw
    try dsimp only at hSw
    go_simp⟩) (hS.out _ hdr) ?_
  simp only [Act.put]
  refine wpAnyQ_take (i := 3) (v := .int .i64 d) rfl (by kernel_rfl) (by kernel_rfl) (by kernel_rfl) (by kernel_rfl) (by rfl) (fun _ _ _ h => h) (Or.inl ⟨by rfl, by
    intro w' hSw
    try dsimp only at hSw
    go_simp⟩) (hS.out _ hdr) ?_
  simp only [Act.put]
  refine wpAnyQ_take (i := 4) (v := .int .i64 d1) rfl (by kernel_rfl) (by kernel_rfl) (by kernel_rfl) (by kernel_rfl) (by rfl) (fun _ _ _ h => h) (Or.inl ⟨by rfl, by
    intro w' hSw
    try dsimp only at hSw
    go_simp⟩) (hS.out _ hdr) ?_
  simp only [Act.put]
  refine wpAnyQ_take (i := 6) (v := .int .i64 (l.length : Int)) rfl (by kernel_rfl) (by kernel_rfl) (by kernel_rfl) (by kernel_rfl) (by rfl) (fun _ _ _ h => h) (Or.inl ⟨by rfl, by
    intro w' hSw
    try dsimp only at hSw
    go_simp⟩) (hS.out _ hdr) ?_
  simp only [Act.put]
  refine wpAnyQ_two (i := 5) (j := 7) (by kernel_rfl) rfl rfl (fun K hK => ?_) (fun K hK => ?_)
  · go_simp
    refine (hcall.out W.drew (bel_drewN (Below.refl _ _) 1)).mono ?_
    intro e w2 hx
    rcases R with c | ⟨x, it2, r⟩
    · obtain ⟨hB2, rfl⟩ := hx
      subst hZ
      exact ⟨rfl, rfl, h3.out.trans ((hdr.trans hB2).mono h3.out.size)⟩
    obtain ⟨hB2, vn, vl, rfl, hR2, hO2, hit⟩ := hx
    subst hZ
    obtain ⟨Ax, nx, cx, Ay, ny, cy, rfl, rfl⟩ := hO2.forms
    have hB3 : But W.heap.size b W (w2.alloc (.cells #[.int .u8 0, .string ⟨#[]⟩, .slice none 0 0, .slice none 0 0] 25)) := (hdr.trans hB2).alloc hB2.size _
    obtain ⟨v', w4, gg, cap, hrun, rfl, q1, q2, q3, q4, q5, q6, q7, q8, q9, qge, qgr⟩ := append_zeroW 23 Tryz.underlying23 h11.out hB3 (by omega) h5 (Cel.fresh w2 25 #[.int .u8 0, .string ⟨#[]⟩, .slice none 0 0, .slice none 0 0]) (Nat.le_refl _) hB2.size (by simp) (OwnJ.keep x hO2 (fun k _ hk => Below.heap_alloc w2 _ k hk) (Nat.le_refl _) (Nat.le_refl _)) (by omega)
    have hfin := hh.out.put hNA.out.1 hNA.out.2.1 hNA.out.2.2 hB3 (hR2.below ((Below.refl _ _).alloc (Nat.le_refl _) _)) hit (hvl' _ _ _ rfl) (by simp) q1 q4 q5 q6 q7 q8 qge qgr q9
    refine hK.out _ _ (fun _ => hS.out _ (hdr.trans hB2)) ?_
    clear hK
    refine wpAnyQ_one (i := 7) (by kernel_rfl) rfl (fun K hK => ?_)
    go_simp
    refine hK.out _ _ (fun _ => hS.out _ hB3) ?_
    clear hK
    refine wpAnyQ_one (i := 8) (by kernel_rfl) rfl (fun K hK => ?_)
    refine jl_step_run (by rfl) (.tmp 29) (.tmp 35) 23 23 (by rfl) (.slice A7 l.length c7) (.slice (some ⟨w2.heap.size, 0, none⟩) 1 1) _ w4 (by rfl) (by rfl) hrun ?_
    have hS3 := hS.out _ hB3
    have hb0 : ∀ (k o : Nat), k < B → w4.cell? ⟨k, o, none⟩ = (w2.alloc (.cells #[.int .u8 0, .string ⟨#[]⟩, .slice none 0 0, .slice none 0 0] 25)).cell? ⟨k, o, none⟩ := fun k o hk => World.cell?_of_block (a := ⟨k, o, none⟩) (q4 k hk)
    have hS4 : w4.cell? ⟨w.heap.size, 0, none⟩ = some (.pointer (some ⟨b, 0, none⟩)) ∧ w4.cell? ⟨w.heap.size + 1, 0, none⟩ = some (.int .i64 d) ∧ w4.cell? ⟨g, 3, none⟩ = some (.slice A7 l.length c7) := ⟨(hb0 _ _ (by omega)).trans hS3.1, (hb0 _ _ (by omega)).trans hS3.2.1, (hb0 _ _ (by omega)).trans hS3.2.2⟩
    refine hK.out _ _ (fun _ => hS4) ?_
    clear hK
    simp only [Act.put, List.setIfInBounds_toArray, List.set_cons_zero, List.set_cons_succ]
    have k0 := q2 0 _ rfl
    have k1 := q2 1 _ rfl
    have k2 := q2 2 _ rfl
    have k3 := q2 3 _ rfl
    have f0 := q3 (l.length * 4)
    have f1 := q3 (l.length * 4 + 1)
    have f2 := q3 (l.length * 4 + 2)
    have f3 := q3 (l.length * 4 + 3)
    have g3 := hS4.2.2
    have fg : w4.frozen? ⟨g, 3, none⟩ = false := by
      have := (q4 g (by omega)).trans ((Below.heap_alloc w2 _ g (by have := hB2.size; simp at this; omega)).trans (hB2.block g (by simp; omega) (by omega)))
      exact (World.frozen?_of_block (a := ⟨g, 3, none⟩) this).trans (hfz)
    have hne : ¬ g = gg := by omega
    have hneA : ¬ w.heap.size = gg := by omega
    have hneA1 : ¬ w.heap.size + 1 = gg := by omega
    have hn0 : (0 : Int) ≤ (l.length : Int) := by omega
    have hn1 : (l.length : Int) < (l.length : Int) + 1 := by omega
    have hfin2 := Lib.hid hfin
    clear hfin q9 qge qgr hNA q2 q3 q4 q5 q6 q7 q8 hrun hS hh hcall hvl' hB2 hB3 hR2 hO2 h11 hS3 hb0
    simp only [Nat.add_zero] at k0
    refine wpAnyQ_takeW (i := 11) (v := .pointer (some ⟨g, 3, none⟩)) rfl (by kernel_rfl) (by kernel_rfl) (by kernel_rfl) (by decide) (fun _ _ _ h => h) (Or.inl ⟨by rfl, by
      intro w' hSw
      go_simp⟩) hS4 ?_
    simp only [Act.put, List.setIfInBounds_toArray]
    refine wpAnyQ_takeW (i := 9) (v := .pointer (some ⟨gg, l.length * 4, none⟩)) rfl (by kernel_rfl) (by kernel_rfl) (by kernel_rfl) (by decide) (fun _ _ _ h => h) (Or.inl ⟨by rfl, by
      intro w' hSw
      go_simp⟩) hS4 ?_
    simp only [Act.put]
    refine wpAnyQ_two (i := 10) (j := 12) (by kernel_rfl) rfl rfl (fun K hK => ?_) (fun K hK => ?_)
    · go_simp
      refine hK.out _ _ (fun _ => ?_) ?_
      · have hoc : ∀ (k o : Nat), k ≠ gg → (lay4 w4 gg (l.length * 4) (.int .u8 x.kind) (.string x.text) (.slice Ax nx cx) (.slice Ay ny cy)).cell? ⟨k, o, none⟩ = w4.cell? ⟨k, o, none⟩ := fun k o hk => World.cell?_of_block (a := ⟨k, o, none⟩) (lay4_other w4 gg _ _ _ _ _ hk)
        exact ⟨(hoc _ _ hneA).trans hS4.1, (hoc _ _ hneA1).trans hS4.2.1, (hoc _ _ hne).trans hS4.2.2⟩
      clear hK
      refine wpAnyQ_one (i := 12) (by kernel_rfl) rfl (fun K hK => ?_)
      go_simp
      refine hK.out _ _ (fun h => by cases h) ?_
      clear hK
      refine wpAnyQ_done (by kernel_rfl) ?_
      go_end0
      exact ⟨rfl, hfin2.out, by simpa using hsN⟩
    · go_simp
      refine hK.out _ _ (fun h => by cases h) ?_
      clear hK
      have hk' : ∀ i, (w4.setCell ⟨g, 3, none⟩ (.slice (some ⟨gg, 0, none⟩) (l.length + 1) cap)).cell? ⟨gg, i, none⟩ = w4.cell? ⟨gg, i, none⟩ := fun i => World.cell?_setCell_other w4 ⟨g, 3, none⟩ ⟨gg, i, none⟩ _ (fun e => hne (congrArg Addr.block e))
      refine wpAnyQ_one (i := 10) (by kernel_rfl) rfl (fun K hK => ?_)
      go_simp
      refine hK.out _ _ (fun h => by cases h) ?_
      clear hK
      refine wpAnyQ_done (by kernel_rfl) ?_
      go_end0
      refine ⟨rfl, ?_, by simpa using hsN⟩
      have e := lay4_comm w4 gg (l.length * 4) g (.int .u8 x.kind) (.string x.text) (.slice Ax nx cx) (.slice Ay ny cy) (.slice (some ⟨gg, 0, none⟩) (l.length + 1) cap) hne
      show IO w b d g B _ _ _ _ _ (lay4 _ _ _ _ _ _ _)
      rw [e]
      exact hfin2.out
  · go_simp
    have hdz : But W.heap.size b W (W.drew.alloc (.cells #[.int .u8 0, .string ⟨#[]⟩, .slice none 0 0, .slice none 0 0] 25)) := hdr.alloc (Nat.le_refl _) _
    refine hK.out _ _ (fun _ => hS.out _ hdz) ?_
    clear hK
    refine wpAnyQ_one (i := 5) (by kernel_rfl) rfl (fun K hK => ?_)
    go_simp
    refine (hcall.out (W.drew.alloc (.cells #[.int .u8 0, .string ⟨#[]⟩, .slice none 0 0, .slice none 0 0] 25)) ((bel_drewN (Below.refl _ _) 1).alloc (Nat.le_refl _) _)).mono ?_
    intro e w2 hx
    rcases R with c | ⟨x, it2, r⟩
    · obtain ⟨hB2, rfl⟩ := hx
      subst hZ
      exact ⟨rfl, rfl, h3.out.trans ((hdz.trans (hB2.mono (by simp))).mono h3.out.size)⟩
    obtain ⟨hB2, vn, vl, rfl, hR2, hO2, hit⟩ := hx
    subst hZ
    obtain ⟨Ax, nx, cx, Ay, ny, cy, rfl, rfl⟩ := hO2.forms
    have hB3 : But W.heap.size b W w2 := hdz.trans (hB2.mono (by simp))
    have hz3 : Cel w2 W.heap.size 25 #[.int .u8 0, .string ⟨#[]⟩, .slice none 0 0, .slice none 0 0] := Cel.but (Cel.fresh W.drew 25 #[.int .u8 0, .string ⟨#[]⟩, .slice none 0 0, .slice none 0 0]) hB2 (by simp) (by show W.heap.size ≠ b; omega)
    obtain ⟨v', w4, gg, cap, hrun, rfl, q1, q2, q3, q4, q5, q6, q7, q8, q9, qge, qgr⟩ := append_zeroW 23 Tryz.underlying23 h11.out hB3 (by omega) h5 hz3 (by simp) hB2.size (Nat.le_refl _) hO2 (by omega)
    have hfin := hh.out.put hNA.out.1 hNA.out.2.1 hNA.out.2.2 hB3 hR2 hit (hvl' _ _ _ rfl) (by simp) q1 q4 q5 q6 q7 q8 qge qgr q9
    refine hK.out _ _ (fun _ => hS.out _ hB3) ?_
    clear hK
    refine wpAnyQ_one (i := 8) (by kernel_rfl) rfl (fun K hK => ?_)
    refine jl_step_run (by rfl) (.tmp 29) (.tmp 35) 23 23 (by rfl) (.slice A7 l.length c7) (.slice (some ⟨W.heap.size, 0, none⟩) 1 1) _ w4 (by rfl) (by rfl) hrun ?_
    have hS3 := hS.out _ hB3
    have hb0 : ∀ (k o : Nat), k < B → w4.cell? ⟨k, o, none⟩ = w2.cell? ⟨k, o, none⟩ := fun k o hk => World.cell?_of_block (a := ⟨k, o, none⟩) (q4 k hk)
    have hS4 : w4.cell? ⟨w.heap.size, 0, none⟩ = some (.pointer (some ⟨b, 0, none⟩)) ∧ w4.cell? ⟨w.heap.size + 1, 0, none⟩ = some (.int .i64 d) ∧ w4.cell? ⟨g, 3, none⟩ = some (.slice A7 l.length c7) := ⟨(hb0 _ _ (by omega)).trans hS3.1, (hb0 _ _ (by omega)).trans hS3.2.1, (hb0 _ _ (by omega)).trans hS3.2.2⟩
    refine hK.out _ _ (fun _ => hS4) ?_
    clear hK
    simp only [Act.put, List.setIfInBounds_toArray, List.set_cons_zero, List.set_cons_succ]
    have k0 := q2 0 _ rfl
    have k1 := q2 1 _ rfl
    have k2 := q2 2 _ rfl
    have k3 := q2 3 _ rfl
    have f0 := q3 (l.length * 4)
    have f1 := q3 (l.length * 4 + 1)
    have f2 := q3 (l.length * 4 + 2)
    have f3 := q3 (l.length * 4 + 3)
    have g3 := hS4.2.2
    have fg : w4.frozen? ⟨g, 3, none⟩ = false := by
      have := (q4 g (by omega)).trans (hB3.block g (by omega) (by omega))
      exact (World.frozen?_of_block (a := ⟨g, 3, none⟩) this).trans (hfz)
    have hne : ¬ g = gg := by omega
    have hneA : ¬ w.heap.size = gg := by omega
    have hneA1 : ¬ w.heap.size + 1 = gg := by omega
    have hn0 : (0 : Int) ≤ (l.length : Int) := by omega
    have hn1 : (l.length : Int) < (l.length : Int) + 1 := by omega
    have hfin2 := Lib.hid hfin
    clear hfin q9 qge qgr hNA q2 q3 q4 q5 q6 q7 q8 hrun hS hh hcall hvl' hB2 hB3 hR2 hO2 h11 hS3 hb0
    simp only [Nat.add_zero] at k0
    refine wpAnyQ_takeW (i := 11) (v := .pointer (some ⟨g, 3, none⟩)) rfl (by kernel_rfl) (by kernel_rfl) (by kernel_rfl) (by decide) (fun _ _ _ h => h) (Or.inl ⟨by rfl, by
      intro w' hSw
      go_simp⟩) hS4 ?_
    simp only [Act.put, List.setIfInBounds_toArray]
    refine wpAnyQ_takeW (i := 9) (v := .pointer (some ⟨gg, l.length * 4, none⟩)) rfl (by kernel_rfl) (by kernel_rfl) (by kernel_rfl) (by decide) (fun _ _ _ h => h) (Or.inl ⟨by rfl, by
      intro w' hSw
      go_simp⟩) hS4 ?_
    simp only [Act.put]
    refine wpAnyQ_two (i := 10) (j := 12) (by kernel_rfl) rfl rfl (fun K hK => ?_) (fun K hK => ?_)
    · go_simp
      refine hK.out _ _ (fun _ => ?_) ?_
      · have hoc : ∀ (k o : Nat), k ≠ gg → (lay4 w4 gg (l.length * 4) (.int .u8 x.kind) (.string x.text) (.slice Ax nx cx) (.slice Ay ny cy)).cell? ⟨k, o, none⟩ = w4.cell? ⟨k, o, none⟩ := fun k o hk => World.cell?_of_block (a := ⟨k, o, none⟩) (lay4_other w4 gg _ _ _ _ _ hk)
        exact ⟨(hoc _ _ hneA).trans hS4.1, (hoc _ _ hneA1).trans hS4.2.1, (hoc _ _ hne).trans hS4.2.2⟩
      clear hK
      refine wpAnyQ_one (i := 12) (by kernel_rfl) rfl (fun K hK => ?_)
      go_simp
      refine hK.out _ _ (fun h => by cases h) ?_
      clear hK
      refine wpAnyQ_done (by kernel_rfl) ?_
      go_end0
      exact ⟨rfl, hfin2.out, by simpa using hsN⟩
    · go_simp
      refine hK.out _ _ (fun h => by cases h) ?_
      clear hK
      have hk' : ∀ i, (w4.setCell ⟨g, 3, none⟩ (.slice (some ⟨gg, 0, none⟩) (l.length + 1) cap)).cell? ⟨gg, i, none⟩ = w4.cell? ⟨gg, i, none⟩ := fun i => World.cell?_setCell_other w4 ⟨g, 3, none⟩ ⟨gg, i, none⟩ _ (fun e => hne (congrArg Addr.block e))
      refine wpAnyQ_one (i := 10) (by kernel_rfl) rfl (fun K hK => ?_)
      go_simp
      refine hK.out _ _ (fun h => by cases h) ?_
      clear hK
      refine wpAnyQ_done (by kernel_rfl) ?_
      go_end0
      refine ⟨rfl, ?_, by simpa using hsN⟩
      have e := lay4_comm w4 gg (l.length * 4) g (.int .u8 x.kind) (.string x.text) (.slice Ax nx cx) (.slice Ay ny cy) (.slice (some ⟨gg, 0, none⟩) (l.length + 1) cap) hne
      show IO w b d g B _ _ _ _ _ (lay4 _ _ _ _ _ _ _)
      rw [e]
      exact hfin2.out
end Go.Proofs.YtlnkjacbdolhnaaGreatDoor


/-
  The walk of the JSON reader's value: what is known on its way, and its ends.
-/
namespace Go.Proofs.YtlnkjacbdolhnaaGreatDoor
open Go.RowKit

/-- A value of the call's own, out of a row of values and a row of names apart from it. -/
theorem mk_own3 {w : World} {B lo : Nat} {tJ : TypeId} {vN vL : Value} {k : Int} {s : ByteArray} {ns : List ByteArray} {l : List Jsn} {ws : List OE} (hk0 : 0 ≤ k) (hk1 : k ≤ 255) (hN : w.ownsRow B 9 1 vN ns.length (ns.map Value.string)) (hR : RowW w B 9 tJ vL l ws) (hA : ApartN vN vL ws) (hlo : lo < B) (hB : B ≤ w.heap.size) :
    OwnJ w 9 tJ ⟨k, s, ns, l⟩ lo w.heap.size vN vL := by
  rcases hN.2 with ⟨e, h0⟩ | ⟨gn, cap, cur, e, hgn, hh, hnc, hcm, hcs, htk⟩
  · have e2 : ns = [] := List.eq_nil_of_length_eq_zero h0
    subst e2
    subst e
    exact mk_own2 (lo := lo) (gn := lo) hk0 hk1 ⟨ws, hR⟩ ⟨Nat.le_refl _, by omega⟩ hlo hB ⟨none, 0, rfl, fun h => by simp at h⟩
  · have hNO : NamO w 9 lo w.heap.size gn vN ns := by
      subst e
      refine ⟨some ⟨gn, 0, none⟩, cap, rfl, fun _ => ⟨rfl, by omega, (Array.getElem?_eq_some_iff.1 hh).1, cur, hh, fun j x hx => ?_⟩⟩
      have h5 : (ns.map Value.string)[j]? = some (.string x) := by rw [List.getElem?_map, hx]; rfl
      rw [← htk, List.getElem?_take] at h5
      split at h5
      · rwa [Array.getElem?_toList] at h5
      · cases h5
    have hap := hA gn (by rw [e]; rfl)
    obtain ⟨h1, h2, h3, h4⟩ := hR
    rcases h2.2 with ⟨rfl, h0⟩ | ⟨g, cap', cur', rfl, hg, hh', hnc', hcm', hcs', htk'⟩
    · have e2 : l = [] := List.eq_nil_of_length_eq_zero h0
      subst e2
      rw [OwnJ_eq]
      exact ⟨hk0, hk1, gn, 0, #[], none, 0, [], hNO, rfl, (fun h => by simp at h), rfl, (fun i x u h => by simp at h), (fun i j u v _ h => by simp at h)⟩
    · rw [OwnJ_eq]
      refine ⟨hk0, hk1, gn, g, cur', some ⟨g, 0, none⟩, cap', ws, hNO, rfl, fun _ => ⟨rfl, by omega, (Array.getElem?_eq_some_iff.1 hh').1, fun e => hap.1 (by rw [← e]; rfl), hh'⟩, by simp [h1], fun i x u hx hu => ?_, h4⟩
      rw [List.getElem?_map] at hx
      rcases hj : l[i]? with _ | y
      · rw [hj] at hx; cases hx
      · rw [hj] at hx
        injection hx with hx
        subst hx
        obtain ⟨q1, q2, q3, q4, q5⟩ := h3 i y u hj hu
        refine ⟨fun q v hv => ?_, by omega, q2, q3, q4 g rfl, hap.2 u (List.mem_of_getElem? hu), q5⟩
        have h5 := rowCells_at l ws i y u hj hu q v hv
        rw [← htk', List.getElem?_take] at h5
        split at h5
        · rwa [Array.getElem?_toList] at h5
        · cases h5
theorem flat_own (w : World) (tS tJ : TypeId) (k : Int) (t : ByteArray) (lo hi : Nat) (h0 : 0 ≤ k) (h1 : k ≤ 255) : OwnJ w tS tJ ⟨k, t, [], []⟩ lo hi (.slice none 0 0) (.slice none 0 0) := by
  rw [OwnJ_eq]
  exact ⟨h0, h1, 0, 0, #[], none, 0, [], ⟨none, 0, rfl, fun h => by simp at h⟩, rfl, (fun h => by simp at h), rfl, (fun i x u h => by simp at h), (fun i j u v _ h => by simp at h)⟩
/-- What is known on value's way: its variables lie in the blocks A, A + 1, A + 2. -/
structure VS (w : World) (b : Nat) (d : Int) (s : List UInt8) (it : Nat) (W : World) : Prop where
  rj : RJ W b s it
  env : EnvB b w
  but : But w.heap.size b w W
  lt : b < w.heap.size
  size : w.heap.size + 3 ≤ W.heap.size
  c0 : Cel W w.heap.size 86 #[.pointer (some ⟨b, 0, none⟩)]
  c1 : Cel W (w.heap.size + 1) 3 #[.int .i64 d]
  c2 : Cel W (w.heap.size + 2) 25 zero4.toArray
section
variable {w W W' : World} {b : Nat} {d : Int} {s s' : List UInt8} {it it' : Nat}
theorem VS.step (h : VS w b d s it W) (hb : But W.heap.size b W W') (hr : RJ W' b s' it') : VS w b d s' it' W' := by
  obtain ⟨h1, h2, h3, h4, h5, h6, h7, h8⟩ := h
  have := h3.size
  have := hb.size
  exact ⟨hr, h2, h3.trans (hb.mono h3.size), h4, by omega, h6.but hb h6.lt (by omega), h7.but hb h7.lt (by omega), h8.but hb h8.lt (by omega)⟩
theorem VS.envW (h : VS w b d s it W) : EnvB b W := h.env.but h.but
theorem lay_but {A : Nat} (hb : But w.heap.size b w W) (hA : w.heap.size ≤ A) (a1 a2 a3 a4 : Value) : But w.heap.size b w (lay4 W A 0 a1 a2 a3 a4) := by
  unfold lay4
  exact (((hb.setCell (p := ⟨A, 0, none⟩) hA _).setCell (p := ⟨A, 1, none⟩) hA _).setCell (p := ⟨A, 2, none⟩) hA _).setCell (p := ⟨A, 3, none⟩) hA _
theorem VS.flat (h : VS w b d s it W) (hi : it ≤ 65536) (k : Int) (t : ByteArray) (h0 : 0 ≤ k) (h1 : k ≤ 255) (a1 a2 a3 a4 : Value) :
    ValJ b w (.ok (⟨k, t, [], []⟩, it, s)) (.returned (.agg #[.int .u8 k, .string t, .slice none 0 0, .slice none 0 0])) (lay4 W (w.heap.size + 2) 0 a1 a2 a3 a4) := by
  have := h.lt
  exact ⟨lay_but h.but (by omega) _ _ _ _, .slice none 0 0, .slice none 0 0, rfl, (lay4_other W _ _ _ _ _ _ (by omega)).trans h.rj, flat_own _ _ _ _ _ _ _ h0 h1, hi⟩
theorem IA.fin {g B : Nat} {st : SA} {v a1 a2 a3 a4 : Value} (h : IA w b d g B st s W) (_hC : Cel W g 25 #[.int .u8 6, .string ⟨#[]⟩, .slice none 0 0, v]) (hR : RowO W B 9 25 v st.2) :
    ValJ b w (.ok (⟨6, ofL [], [], st.2⟩, st.1, s)) (.returned (.agg #[.int .u8 6, .string ⟨#[]⟩, .slice none 0 0, v])) (lay4 W (w.heap.size + 2) 0 a1 a2 a3 a4) := by
  obtain ⟨h1, h2, h3, h4, h5, ⟨h6, h6', h6''⟩, h7, h8, h9, v', h10, h11, h12⟩ := h
  have hs := lay4_size W (w.heap.size + 2) 0 a1 a2 a3 a4
  have hR2 : RowO (lay4 W (w.heap.size + 2) 0 a1 a2 a3 a4) B 9 25 v st.2 := hR.keep (fun k hk _ => lay4_other W _ _ _ _ _ _ (by omega)) (by omega)
  refine ⟨lay_but h3 (by omega) _ _ _ _, .slice none 0 0, v, rfl, (lay4_other W _ _ _ _ _ _ (by omega)).trans h1, ?_, h4⟩
  exact mk_own2 (lo := w.heap.size) (gn := w.heap.size) (by omega) (by omega) hR2 ⟨Nat.le_refl _, by omega⟩ (by omega) (by omega) ⟨none, 0, rfl, fun h => by simp at h⟩
theorem IO.fin {g B it : Nat} {ns ms : List ByteArray} {l : List Jsn} {vN vL a1 a2 a3 a4 : Value} {ws : List OE} (h : IO w b d g B it ms ns l s W) (hC : W.ownsRow B 9 1 vN ns.length (ns.map Value.string)) (hR : RowW W B 9 25 vL l ws) (hA : ApartN vN vL ws) :
    ValJ b w (.ok (⟨7, ofL [], ns, l⟩, it, s)) (.returned (.agg #[.int .u8 7, .string ⟨#[]⟩, vN, vL])) (lay4 W (w.heap.size + 2) 0 a1 a2 a3 a4) := by
  obtain ⟨h1, h2, h3, h4, h5, ⟨h6, h6', h6''⟩, _⟩ := h
  have hs := lay4_size W (w.heap.size + 2) 0 a1 a2 a3 a4
  have hR2 : RowW (lay4 W (w.heap.size + 2) 0 a1 a2 a3 a4) B 9 25 vL l ws := hR.keep (fun k hk _ => lay4_other W _ _ _ _ _ _ (by omega)) (by omega)
  have hN2 : (lay4 W (w.heap.size + 2) 0 a1 a2 a3 a4).ownsRow B 9 1 vN ns.length (ns.map Value.string) := ownRow_keep hC fun k hk => lay4_other W _ _ _ _ _ _ (by have := hC.lt k hk; omega)
  refine ⟨lay_but h3 (by omega) _ _ _ _, vN, vL, rfl, (lay4_other W _ _ _ _ _ _ (by omega)).trans h1, ?_, h4⟩
  exact mk_own3 (by omega) (by omega) hN2 hR2 hA (by omega) (by omega)
/-- An Array begins. -/
theorem VS.array (h : VS w b d s it W) (hi : it ≤ 65536) : IA w b d W.heap.size (W.heap.size + 1) (it, []) s (W.alloc (.cells #[.int .u8 6, .string ⟨#[]⟩, .slice none 0 0, .slice none 0 0] 25)) := by
  obtain ⟨h1, h2, h3, h4, h5, h6, h7, h8⟩ := h
  have hb : ∀ k, k < W.heap.size → (W.alloc (.cells #[.int .u8 6, .string ⟨#[]⟩, .slice none 0 0, .slice none 0 0] 25)).heap[k]? = W.heap[k]? := fun k hk => Below.heap_alloc W _ k hk
  exact ⟨(hb b (by omega)).trans h1, h2, h3.alloc h3.size _, hi, by simp, ⟨h4, by omega, by omega⟩, (hb _ (by omega)).trans h6, (hb _ (by omega)).trans h7, (hb _ (by omega)).trans h8, .slice none 0 0, Cel.fresh W 25 #[.int .u8 6, .string ⟨#[]⟩, .slice none 0 0, .slice none 0 0], RowO.nil _ _ _ _, by simp⟩
/-- An Object begins. -/
theorem VS.object (h : VS w b d s it W) (hi : it ≤ 65536) :
    IO w b d W.heap.size (W.heap.size + 3) it [] [] [] s (((W.alloc (.cells #[.int .u8 7, .string ⟨#[]⟩, .slice none 0 0, .slice none 0 0] 25)).alloc (.map #[] 0)).alloc (.cells #[.map (some (W.heap.size + 1))] 140)) := by
  obtain ⟨h1, h2, h3, h4, h5, h6, h7, h8⟩ := h
  have hC1 : Cel (W.alloc (.cells #[.int .u8 7, .string ⟨#[]⟩, .slice none 0 0, .slice none 0 0] 25)) W.heap.size 25 #[.int .u8 7, .string ⟨#[]⟩, .slice none 0 0, .slice none 0 0] := Cel.fresh _ _ _
  obtain ⟨W1, hW1⟩ : ∃ W1, W.alloc (.cells #[.int .u8 7, .string ⟨#[]⟩, .slice none 0 0, .slice none 0 0] 25) = W1 := ⟨_, rfl⟩
  have hs1 : W1.heap.size = W.heap.size + 1 := by rw [← hW1]; simp
  have hb1 : ∀ k, k < W.heap.size → W1.heap[k]? = W.heap[k]? := fun k hk => by rw [← hW1]; exact Below.heap_alloc W _ k hk
  have hB1 : But w.heap.size b w W1 := by rw [← hW1]; exact h3.alloc h3.size _
  rw [hW1] at hC1 ⊢
  clear hW1
  have hom := (World.ownsMap_made (H := Unit) W1 Tryz.prog 9 (plainElem Tryz.prog 3)).alloc (.cells #[.map (some (W.heap.size + 1))] 140)
  have hf := Cel.fresh (W1.alloc (.map #[] 0)) 140 #[.map (some (W.heap.size + 1))]
  obtain ⟨W2, hW2⟩ : ∃ W2, (W1.alloc (.map #[] 0)).alloc (.cells #[.map (some (W.heap.size + 1))] 140) = W2 := ⟨_, rfl⟩
  have hs2 : W2.heap.size = W.heap.size + 3 := by rw [← hW2]; simp [hs1]
  have hb2 : ∀ k, k < W1.heap.size → W2.heap[k]? = W1.heap[k]? := fun k hk => by rw [← hW2]; exact (Below.heap_alloc (W1.alloc (.map #[] 0)) _ k (by simp; omega)).trans (Below.heap_alloc W1 _ k hk)
  have hB2 : But w.heap.size b w W2 := by rw [← hW2]; exact (hB1.alloc (by have := h3.size; omega) _).alloc (by have := h3.size; simp; omega) _
  have hsz : (W1.alloc (.map #[] 0)).heap.size = W.heap.size + 2 := by simp [hs1]
  rw [hsz] at hf
  rw [hs1] at hom
  rw [hW2] at hf hom ⊢
  clear hW2
  have hb : ∀ k, k < W.heap.size → W2.heap[k]? = W.heap[k]? := fun k hk => (hb2 k (by omega)).trans (hb1 k hk)
  exact ⟨(hb b (by omega)).trans h1, h2, hB2, hi, by omega, ⟨h4, by omega, by omega⟩, (hb _ (by omega)).trans h6, (hb _ (by omega)).trans h7, (hb _ (by omega)).trans h8, hf, ⟨.map [], 0, Nat.zero_le _, hom, fun x => rfl⟩,
    ⟨.slice none 0 0, .slice none 0 0, [], (hb2 _ (by omega)).trans hC1, World.ownsRow_nil _ _ _ _, ⟨rfl, World.ownsRow_nil _ _ _ _, (fun i x u h => by simp at h), (fun i j u z _ h => by simp at h)⟩, fun gn h => by cases h⟩, by simp⟩
end
theorem enA : ∀ args w, (callFunc 88 args).run Tryz.prog w = .ok (.enter 88 args) w := fun _ _ => by kernel_rfl
theorem enO : ∀ args w, (callFunc 89 args).run Tryz.prog w = .ok (.enter 89 args) w := fun _ _ => by kernel_rfl
end Go.Proofs.YtlnkjacbdolhnaaGreatDoor
