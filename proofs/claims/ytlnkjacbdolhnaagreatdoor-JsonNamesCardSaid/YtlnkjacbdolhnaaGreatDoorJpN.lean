/-
  The walk of the JSON reader's value.
-/
import Derived.Test.YtlnkjacbdolhnaaGreatDoorM26
namespace Go.Proofs.YtlnkjacbdolhnaaGreatDoor
open Go.RowKit

theorem VS.made {w : World} {b : Nat} {d : Int} {s : List UInt8} {it : Nat} (hE : EnvB b w) (h : RJ w b s it) :
    VS w b d s it (((w.alloc (.cells #[.pointer (some ⟨b, 0, none⟩)] 86)).alloc (.cells #[.int .i64 d] 3)).alloc (.cells #[.int .u8 0, .string ⟨#[]⟩, .slice none 0 0, .slice none 0 0] 25)) := by
  have hb : Below w.heap.size w (((w.alloc (.cells #[.pointer (some ⟨b, 0, none⟩)] 86)).alloc (.cells #[.int .i64 d] 3)).alloc (.cells #[.int .u8 0, .string ⟨#[]⟩, .slice none 0 0, .slice none 0 0] 25)) := (((Below.refl _ _).alloc (Nat.le_refl _) _).alloc (by simp) _).alloc (by simp; omega) _
  refine ⟨h.below hb, hE, But.of hb, h.lt, by simp, ?_, ?_, ?_⟩
  · exact ((Cel.fresh w 86 #[.pointer (some ⟨b, 0, none⟩)]).alloc _).alloc _
  · have := (Cel.fresh (w.alloc (.cells #[.pointer (some ⟨b, 0, none⟩)] 86)) 3 #[.int .i64 d]).alloc (.cells #[.int .u8 0, .string ⟨#[]⟩, .slice none 0 0, .slice none 0 0] 25)
    simpa using this
  · have := Cel.fresh ((w.alloc (.cells #[.pointer (some ⟨b, 0, none⟩)] 86)).alloc (.cells #[.int .i64 d] 3)) 25 #[.int .u8 0, .string ⟨#[]⟩, .slice none 0 0, .slice none 0 0]
    simpa [zero4] using this
theorem VS.more {w W : World} {b : Nat} {d : Int} {s : List UInt8} {it : Nat} (h : VS w b d s it W) : VS w b d s (it + 1) (W.setCell ⟨b, 1, none⟩ (.int .i64 ((it : Int) + 1))) := by
  refine h.step ((But.refl _ b W).set 1 _) ?_
  have := Cel.set h.rj 1 (.int .i64 ((it : Int) + 1))
  exact this
theorem VS.cells {w W : World} {b : Nat} {d : Int} {s : List UInt8} {it : Nat} (h : VS w b d s it W) :
    (W.cell? ⟨w.heap.size, 0, none⟩ = some (.pointer (some ⟨b, 0, none⟩)) ∧ W.cell? ⟨w.heap.size + 1, 0, none⟩ = some (.int .i64 d)) ∧
    (W.cell? ⟨w.heap.size + 2, 0, none⟩ = some (.int .u8 0) ∧ W.cell? ⟨w.heap.size + 2, 1, none⟩ = some (.string ⟨#[]⟩) ∧ W.cell? ⟨w.heap.size + 2, 2, none⟩ = some (.slice none 0 0) ∧ W.cell? ⟨w.heap.size + 2, 3, none⟩ = some (.slice none 0 0)) ∧
    (W.frozen? ⟨w.heap.size + 2, 0, none⟩ = false ∧ W.frozen? ⟨w.heap.size + 2, 1, none⟩ = false ∧ W.frozen? ⟨w.heap.size + 2, 2, none⟩ = false ∧ W.frozen? ⟨w.heap.size + 2, 3, none⟩ = false) :=
  ⟨⟨h.c0.cell 0, h.c1.cell 0⟩, ⟨h.c2.cell 0, h.c2.cell 1, h.c2.cell 2, h.c2.cell 3⟩, h.c2.froz 0, h.c2.froz 1, h.c2.froz 2, h.c2.froz 3⟩
set_option maxRecDepth 100000 in
set_option maxHeartbeats 8000000 in
theorem jrValue_any : ∀ (f : Nat) (b : Nat) (d : Int), d + f = 65 → 1 ≤ d → ValSaysJ b d (fun it s => jval ownL Lib.validD f it s) := by
  intro f
  induction f with
  | zero =>
    intro b d hdf hd1 s it w hE hR hs hit
    have hV := VS.made (d := d) hE hR
    have hd : 64 < d := by omega
    obtain ⟨W0, hW0⟩ : ∃ W0, (((w.alloc (.cells #[.pointer (some ⟨b, 0, none⟩)] 86)).alloc (.cells #[.int .i64 d] 3)).alloc (.cells #[.int .u8 0, .string ⟨#[]⟩, .slice none 0 0, .slice none 0 0] 25)) = W0 := ⟨_, rfl⟩
    rw [hW0] at hV
    replace hW0 := Lib.hid hW0
    clear hE hR
    show Calls _ _ _ _ (ValJ b w (.error 61))
    go_enter Tryz.func35, Tryz.ntmps35
    go_upto_region 1 with fail
    rw [hW0.out]
    have y1 := hV.cells.1.2
    replace hV := Lib.hid hV
    go_wp2_with fail
    refine (jrFail_any 61 _).mono ?_
    rintro e w3 ⟨rfl, rfl⟩
    exact ⟨rfl, hV.out.but, rfl⟩
  | succ f ih =>
    intro b d hdf hd1 s it w hE hR hs hit
    have hV := VS.made (d := d) hE hR
    have hd : ¬ 64 < d := by omega
    obtain ⟨W0, hW0⟩ : ∃ W0, (((w.alloc (.cells #[.pointer (some ⟨b, 0, none⟩)] 86)).alloc (.cells #[.int .i64 d] 3)).alloc (.cells #[.int .u8 0, .string ⟨#[]⟩, .slice none 0 0, .slice none 0 0] 25)) = W0 := ⟨_, rfl⟩
    rw [hW0] at hV
    obtain ⟨Z, hZ⟩ : ∃ Z, jval ownL Lib.validD (f + 1) it s = Z := ⟨_, rfl⟩
    show Calls _ _ _ _ (ValJ b w (jval ownL Lib.validD (f + 1) it s))
    rw [hZ]
    unfold jval at hZ
    replace hW0 := Lib.hid hW0
    replace ih := Lib.hid ih
    clear hE hR
    go_enter Tryz.func35, Tryz.ntmps35
    go_upto_region 1 with fail
    rw [hW0.out]
    clear hW0
    obtain ⟨⟨y0, y1⟩, _, _⟩ := hV.cells
    have z0 := Cel.cell hV.rj 1
    have z1 := Cel.froz hV.rj 1
    simp only [List.getElem?_toArray, List.getElem?_cons_zero, List.getElem?_cons_succ] at z0
    have hn0 : (0 : Int) ≤ (it : Int) := by omega
    have hn1 : (it : Int) ≤ 65536 := by omega
    have hVm := Lib.hid hV.more
    clear hV
    go_upto_region 4 with fail
    generalize W0.setCell ⟨b, 1, none⟩ (.int .i64 ((it : Int) + 1)) = W1 at hVm ⊢
    have hV := hVm.out
    clear hVm z0 z1 y0 y1
    obtain ⟨⟨y0, y1⟩, _, _⟩ := hV.cells
    have z0 := Cel.cell hV.rj 1
    simp only [List.getElem?_toArray, List.getElem?_cons_zero, List.getElem?_cons_succ] at z0
    obtain ⟨N, hN⟩ : ∃ N, it + 1 = N := ⟨_, rfl⟩
    rw [hN] at hV z0 hZ
    by_cases hit2 : 65536 < N
    · rw [if_pos hit2] at hZ
      subst hZ
      have c2 : (65536 : Int) < (N : Int) := by omega
      replace hV := Lib.hid hV
      go_wp2_with fail
      refine (jrFail_any 40 _).mono ?_
      rintro e w3 ⟨rfl, rfl⟩
      exact ⟨rfl, hV.out.but, rfl⟩
    rw [if_neg hit2] at hZ
    have c2 : ¬ (65536 : Int) < (N : Int) := by omega
    have hin : N ≤ 65536 := by omega
    -- CHAIN
    have hT := jrTake_any b s N ⟨#[110, 117, 108, 108]⟩ W1 hV.rj
    have e1 : (⟨#[110, 117, 108, 108]⟩ : ByteArray).data.toList = [110, 117, 108, 108] := rfl
    rw [e1] at hT
    unfold jtk at hT
    clear e1
    by_cases hp : ([110, 117, 108, 108] : List UInt8).isPrefixOf s = true
    · rw [if_pos hp] at hZ hT
      rw [hp] at hT
      replace hT := Lib.hid hT
      replace hV := Lib.hid hV
      go_wp2_with fail
      refine hT.out.mono ?_
      rintro e w2 ⟨rfl, hR2, hB2⟩
      have h2 := hV.out.step hB2 hR2
      clear hT hV hR2 hB2 y0 y1 z0
      obtain ⟨⟨y0, y1⟩, ⟨x0, x1, x2, x3⟩, f0, f1, f2, f3⟩ := h2.cells
      subst hZ
      replace h2 := Lib.hid h2
      go_wp2_with fail
      refine bodyPost_ret (v := .agg #[.int .u8 1, .string ⟨#[]⟩, .slice none 0 0, .slice none 0 0]) (by simp [results, Tryz.results35, go_sem, x0, x1, x2, x3]) rfl ?_
      exact h2.out.flat hin 1 ⟨#[]⟩ (by decide) (by decide) _ _ _ _
    rw [if_neg hp] at hZ hT
    rw [Bool.eq_false_iff.2 hp] at hT
    replace hT := Lib.hid hT
    replace hV := Lib.hid hV
    go_wp2_with fail
    refine hT.out.mono ?_
    rintro e W2 ⟨rfl, hR2, hB2⟩
    replace hV := hV.out.step hB2 hR2
    clear hT hR2 hB2 y0 y1 z0 hp
    obtain ⟨⟨y0, y1⟩, _, _⟩ := hV.cells
    have z0 := Cel.cell hV.rj 0
    simp only [List.getElem?_toArray, List.getElem?_cons_zero] at z0
    have hT := jrTake_any b s N ⟨#[116, 114, 117, 101]⟩ W2 hV.rj
    have e1 : (⟨#[116, 114, 117, 101]⟩ : ByteArray).data.toList = [116, 114, 117, 101] := rfl
    rw [e1] at hT
    unfold jtk at hT
    clear e1
    by_cases hp : ([116, 114, 117, 101] : List UInt8).isPrefixOf s = true
    · rw [if_pos hp] at hZ hT
      rw [hp] at hT
      replace hT := Lib.hid hT
      replace hV := Lib.hid hV
      go_wp2_with fail
      refine hT.out.mono ?_
      rintro e w2 ⟨rfl, hR2, hB2⟩
      have h2 := hV.out.step hB2 hR2
      clear hT hV hR2 hB2 y0 y1 z0
      obtain ⟨⟨y0, y1⟩, ⟨x0, x1, x2, x3⟩, f0, f1, f2, f3⟩ := h2.cells
      subst hZ
      replace h2 := Lib.hid h2
      go_wp2_with fail
      refine bodyPost_ret (v := .agg #[.int .u8 2, .string ⟨#[]⟩, .slice none 0 0, .slice none 0 0]) (by simp [results, Tryz.results35, go_sem, x0, x1, x2, x3]) rfl ?_
      exact h2.out.flat hin 2 ⟨#[]⟩ (by decide) (by decide) _ _ _ _
    rw [if_neg hp] at hZ hT
    rw [Bool.eq_false_iff.2 hp] at hT
    replace hT := Lib.hid hT
    replace hV := Lib.hid hV
    go_wp2_with fail
    refine hT.out.mono ?_
    rintro e W3 ⟨rfl, hR2, hB2⟩
    replace hV := hV.out.step hB2 hR2
    clear hT hR2 hB2 y0 y1 z0 hp
    obtain ⟨⟨y0, y1⟩, _, _⟩ := hV.cells
    have z0 := Cel.cell hV.rj 0
    simp only [List.getElem?_toArray, List.getElem?_cons_zero] at z0
    have hT := jrTake_any b s N ⟨#[102, 97, 108, 115, 101]⟩ W3 hV.rj
    have e1 : (⟨#[102, 97, 108, 115, 101]⟩ : ByteArray).data.toList = [102, 97, 108, 115, 101] := rfl
    rw [e1] at hT
    unfold jtk at hT
    clear e1
    by_cases hp : ([102, 97, 108, 115, 101] : List UInt8).isPrefixOf s = true
    · rw [if_pos hp] at hZ hT
      rw [hp] at hT
      replace hT := Lib.hid hT
      replace hV := Lib.hid hV
      go_wp2_with fail
      refine hT.out.mono ?_
      rintro e w2 ⟨rfl, hR2, hB2⟩
      have h2 := hV.out.step hB2 hR2
      clear hT hV hR2 hB2 y0 y1 z0
      obtain ⟨⟨y0, y1⟩, ⟨x0, x1, x2, x3⟩, f0, f1, f2, f3⟩ := h2.cells
      subst hZ
      replace h2 := Lib.hid h2
      go_wp2_with fail
      refine bodyPost_ret (v := .agg #[.int .u8 3, .string ⟨#[]⟩, .slice none 0 0, .slice none 0 0]) (by simp [results, Tryz.results35, go_sem, x0, x1, x2, x3]) rfl ?_
      exact h2.out.flat hin 3 ⟨#[]⟩ (by decide) (by decide) _ _ _ _
    rw [if_neg hp] at hZ hT
    rw [Bool.eq_false_iff.2 hp] at hT
    replace hT := Lib.hid hT
    replace hV := Lib.hid hV
    go_wp2_with fail
    refine hT.out.mono ?_
    rintro e W4 ⟨rfl, hR2, hB2⟩
    replace hV := hV.out.step hB2 hR2
    clear hT hR2 hB2 y0 y1 z0 hp
    obtain ⟨⟨y0, y1⟩, _, _⟩ := hV.cells
    have z0 := Cel.cell hV.rj 0
    simp only [List.getElem?_toArray, List.getElem?_cons_zero] at z0
    have hH := Tryz.strings_HasPrefix (ofL s) ⟨#[34]⟩ W4
    rw [toList_ofL] at hH
    have e2 : Lib.hasPrefix s (⟨#[34]⟩ : ByteArray).data.toList = ([34] : List UInt8).isPrefixOf s := rfl
    rw [e2] at hH
    clear e2
    have hTx := jrText_any b s N W4 hV.envW hV.rj hs
    obtain ⟨S, hS⟩ : ∃ S, ofL s = S := ⟨_, rfl⟩
    rw [hS] at hH z0
    clear hS
    replace hV := Lib.hid hV
    replace hTx := Lib.hid hTx
    by_cases hp : ([34] : List UInt8).isPrefixOf s = true
    · rw [if_pos hp] at hZ
      rw [hp] at hH
      have et : jStr Lib.validD [] (s.drop 1) = jtxt s := by obtain ⟨r, rfl⟩ := pre_cons hp; rfl
      rw [et] at hZ
      obtain ⟨R, hR⟩ : ∃ R, jtxt s = R := ⟨_, rfl⟩
      rw [hR] at hTx hZ
      clear et hR
      replace hH := Lib.hid hH
      go_wp2_with fail
      refine hH.out.mono ?_
      rintro e w2 ⟨rfl, rfl⟩
      clear hH
      go_wp2_with fail
      refine hTx.out.mono ?_
      intro e w3 hx
      rcases R with _ | ⟨n, r⟩
      · obtain ⟨hB2, rfl⟩ := hx
        subst hZ
        exact ⟨rfl, hV.out.but.trans (hB2.mono hV.out.but.size), rfl⟩
      obtain ⟨hB2, rfl, hR2⟩ := hx
      dsimp only at hZ
      subst hZ
      have h2 := hV.out.step hB2 hR2
      clear hTx hV hR2 hB2 y0 y1 z0
      obtain ⟨⟨y0, y1⟩, ⟨x0, x1, x2, x3⟩, f0, f1, f2, f3⟩ := h2.cells
      replace h2 := Lib.hid h2
      go_wp2_with fail
      refine bodyPost_ret (v := .agg #[.int .u8 5, .string (ofL n), .slice none 0 0, .slice none 0 0]) (by simp [results, Tryz.results35, go_sem, x0, x1, x2, x3]) rfl ?_
      exact h2.out.flat hin 5 (ofL n) (by decide) (by decide) _ _ _ _
    rw [if_neg hp] at hZ
    rw [Bool.eq_false_iff.2 hp] at hH
    replace hH := Lib.hid hH
    go_wp2_with fail
    refine hH.out.mono ?_
    rintro e w2 ⟨rfl, rfl⟩
    replace hV := hV.out
    clear hH hTx hp
    have hdd : IntKind.i64.wrap (d + 1) = d + 1 := by
      rw [IntKind.wrap_i64]
      omega
    have hT := jrTake_any b s N ⟨#[91]⟩ w2 hV.rj
    have e1 : (⟨#[91]⟩ : ByteArray).data.toList = [91] := rfl
    rw [e1] at hT
    unfold jtk at hT
    clear e1
    by_cases hp : ([91] : List UInt8).isPrefixOf s = true
    · rw [if_pos hp] at hZ hT
      rw [hp] at hT
      replace hT := Lib.hid hT
      replace hV := Lib.hid hV
      go_wp2_with fail
      refine hT.out.mono ?_
      rintro e w2 ⟨rfl, hR2, hB2⟩
      have h2 := hV.out.step hB2 hR2
      clear hT hV hR2 hB2 y0 y1 z0
      obtain ⟨⟨y0, y1⟩, ⟨x0, x1, x2, x3⟩, f0, f1, f2, f3⟩ := h2.cells
      have hj : (s.drop 1).length ≤ 1000000 := by rw [List.length_drop]; omega
      generalize s.drop 1 = s2 at h2 hZ hj
      have hA := h2.array hin
      have hVn : ValSaysJ b (d + 1) (fun it s => jval ownL Lib.validD f it s) := ih.out b (d + 1) (by omega) (by omega)
      have hL := jrList_any 88 #[.pointer (some ⟨w2.heap.size, 0, none⟩), .pointer (some ⟨w.heap.size, 0, none⟩), .pointer (some ⟨w.heap.size + 1, 0, none⟩)] enA (jitA fun it s => jval ownL Lib.validD f it s) (shorterA f) b 93 (IA w b d w2.heap.size (w2.heap.size + 1)) (fun st => st.1) (fun W => But w.heap.size b w W)
        (fun st s W h => h.rj) (fun st s W h => h.but) (fun st s s' W W' h hb hr => h.step hb hr) (fun W W' h hb => h.trans (hb.mono h.size)) (fun st s W h hs => jrItemA _ (fun it s j it' r hv => (jval_shorter ownL Lib.validD f it s j it' r hv).2) w b d (d + 1) _ _ hdd hVn st s W h hs)
        (N, []) s2 _ hA hj
      obtain ⟨R, hR⟩ : ∃ R, jList (jitA fun it s => jval ownL Lib.validD f it s) 93 (N, []) s2 = R := ⟨_, rfl⟩
      rw [hR] at hL hZ
      obtain ⟨W6, hW6⟩ : ∃ W6, w2.alloc (.cells #[.int .u8 6, .string ⟨#[]⟩, .slice none 0 0, .slice none 0 0] 25) = W6 := ⟨_, rfl⟩
      rw [hW6] at hL hA
      have y2 : W6.cell? ⟨w.heap.size, 0, none⟩ = some (.pointer (some ⟨b, 0, none⟩)) := hA.c0.cell 0
      have hlt3 : w.heap.size + 2 < w2.heap.size := hA.lt.2.1
      clear hA hR hVn x0 x1 x2 x3 f0 f1 f2 f3 h2
      replace hL := Lib.hid hL
      replace hW6 := Lib.hid hW6
      go_upto_region 16 with fail
      rw [hW6.out]
      clear hW6 y0 y1
      go_wp2_with fail
      refine hL.out.mono ?_
      intro e w4 hx
      clear hL y2
      rcases R with c | ⟨st, r⟩
      · obtain ⟨rfl, hK⟩ := hx
        dsimp only at hZ
        subst hZ
        exact ⟨rfl, hK, rfl⟩
      obtain ⟨rfl, hI⟩ := hx
      dsimp only at hZ
      subst hZ
      obtain ⟨v, hC, hRo, _⟩ := hI.row
      have hI2 := Lib.hid (hI.fin hC hRo (a1 := .int .u8 6) (a2 := .string ⟨#[]⟩) (a3 := .slice none 0 0) (a4 := v))
      obtain ⟨gl, _, A7, c7, _, hv7, _, _⟩ := hRo.kids
      subst hv7
      have g0 := hC.cell 0
      have g1 := hC.cell 1
      have g2 := hC.cell 2
      have g3 := hC.cell 3
      have x0 := hI.c2.cell 0
      have x1 := hI.c2.cell 1
      have x2 := hI.c2.cell 2
      have x3 := hI.c2.cell 3
      have f0 := hI.c2.froz 0
      have f1 := hI.c2.froz 1
      have f2 := hI.c2.froz 2
      have f3 := hI.c2.froz 3
      unfold zero4 at x0 x1 x2 x3
      simp only [List.getElem?_toArray, List.getElem?_cons_zero, List.getElem?_cons_succ] at g0 g1 g2 g3 x0 x1 x2 x3
      clear hI hRo hC
      go_wp2_with fail
      refine bodyPost_ret (v := .agg #[.int .u8 6, .string ⟨#[]⟩, .slice none 0 0, .slice A7 st.2.length c7]) (by simp [results, Tryz.results35, go_sem, x0, x1, x2, x3]) rfl ?_
      exact hI2.out
    rw [if_neg hp] at hZ hT
    rw [Bool.eq_false_iff.2 hp] at hT
    replace hT := Lib.hid hT
    replace hV := Lib.hid hV
    go_wp2_with fail
    refine hT.out.mono ?_
    rintro e W5 ⟨rfl, hR2, hB2⟩
    replace hV := hV.out.step hB2 hR2
    clear hT hR2 hB2 y0 y1 z0 hp
    obtain ⟨⟨y0, y1⟩, _, _⟩ := hV.cells
    have z0 := Cel.cell hV.rj 0
    simp only [List.getElem?_toArray, List.getElem?_cons_zero] at z0
    have hT := jrTake_any b s N ⟨#[123]⟩ W5 hV.rj
    have e1 : (⟨#[123]⟩ : ByteArray).data.toList = [123] := rfl
    rw [e1] at hT
    unfold jtk at hT
    clear e1
    by_cases hp : ([123] : List UInt8).isPrefixOf s = true
    · rw [if_pos hp] at hZ hT
      rw [hp] at hT
      replace hT := Lib.hid hT
      replace hV := Lib.hid hV
      go_wp2_with fail
      refine hT.out.mono ?_
      rintro e w2 ⟨rfl, hR2, hB2⟩
      have h2 := hV.out.step hB2 hR2
      clear hT hV hR2 hB2 y0 y1 z0
      obtain ⟨⟨y0, y1⟩, ⟨x0, x1, x2, x3⟩, f0, f1, f2, f3⟩ := h2.cells
      have hj : (s.drop 1).length ≤ 1000000 := by rw [List.length_drop]; omega
      generalize s.drop 1 = s2 at h2 hZ hj
      have hA := h2.object hin
      have hVn : ValSaysJ b (d + 1) (fun it s => jval ownL Lib.validD f it s) := ih.out b (d + 1) (by omega) (by omega)
      have hL := jrList_any 89 #[.pointer (some ⟨w.heap.size, 0, none⟩), .pointer (some ⟨w2.heap.size + 2, 0, none⟩), .pointer (some ⟨w2.heap.size, 0, none⟩), .pointer (some ⟨w.heap.size + 1, 0, none⟩)] enO (jitO Lib.validD fun it s => jval ownL Lib.validD f it s) (shorterO f) b 125 (fun st s W => IO w b d w2.heap.size (w2.heap.size + 3) st.1 st.2.1 st.2.1 st.2.2 s W ∧ st.2.1.length ≤ st.2.2.length) (fun st => st.1) (fun W => But w.heap.size b w W)
        (fun st s W h => h.1.rj) (fun st s W h => h.1.but) (fun st s s' W W' h hb hr => ⟨h.1.step hb hr, h.2⟩) (fun W W' h hb => h.trans (hb.mono h.size)) (fun st s W h hs => jrItemO _ (fun it s j it' r hv => (jval_shorter ownL Lib.validD f it s j it' r hv).2) w b d (d + 1) _ _ hdd hVn st s W h.1 h.2 hs)
        (N, [], []) s2 _ ⟨hA, Nat.le_refl _⟩ hj
      obtain ⟨R, hR⟩ : ∃ R, jList (jitO Lib.validD fun it s => jval ownL Lib.validD f it s) 125 (N, [], []) s2 = R := ⟨_, rfl⟩
      rw [hR] at hL hZ
      obtain ⟨W5, hW5⟩ : ∃ W5, w2.alloc (.cells #[.int .u8 7, .string ⟨#[]⟩, .slice none 0 0, .slice none 0 0] 25) = W5 := ⟨_, rfl⟩
      rw [hW5] at hL hA
      have hs5 : W5.heap.size = w2.heap.size + 1 := by rw [← hW5]; simp
      obtain ⟨W6, hW6⟩ : ∃ W6, (W5.alloc (.map #[] 0)).alloc (.cells #[.map (some (w2.heap.size + 1))] 140) = W6 := ⟨_, rfl⟩
      rw [hW6] at hL hA
      have y2 : W6.cell? ⟨w.heap.size, 0, none⟩ = some (.pointer (some ⟨b, 0, none⟩)) := hA.c0.cell 0
      have hlt3 : w.heap.size + 2 < w2.heap.size := hA.lt.2.1
      clear hA hR hVn x0 x1 x2 x3 f0 f1 f2 f3 h2
      replace hL := Lib.hid hL
      replace hW5 := Lib.hid hW5
      replace hW6 := Lib.hid hW6
      go_upto_region 20 with fail
      rw [hW5.out]
      clear hW5 y0 y1
      have hmm := @run_makeMap Tryz.prog
      go_upto_region 21 with fail
      rw [hW6.out]
      clear hW6 hmm
      go_wp2_with fail
      refine hL.out.mono ?_
      intro e w4 hx
      clear hL y2
      rcases R with c | ⟨st, r⟩
      · obtain ⟨rfl, hK⟩ := hx
        dsimp only at hZ
        subst hZ
        exact ⟨rfl, hK, rfl⟩
      obtain ⟨rfl, hI, _⟩ := hx
      dsimp only at hZ
      subst hZ
      obtain ⟨vN, vL, ws, hC, hN, hRo, hAp⟩ := hI.row
      have hI2 := Lib.hid (hI.fin hN hRo hAp (a1 := .int .u8 7) (a2 := .string ⟨#[]⟩) (a3 := vN) (a4 := vL))
      obtain ⟨gl, _, A7, c7, _, hv7, _, _⟩ := (show RowO w4 _ 9 25 vL st.2.2 from ⟨ws, hRo⟩).kids
      subst hv7
      obtain ⟨A6, c6, hv6⟩ : ∃ A6 c6, vN = .slice A6 st.2.1.length c6 := by
        rcases hN.2 with ⟨e, h0⟩ | ⟨gn, cap, cur, e, _⟩
        · exact ⟨none, 0, by rw [e, h0]⟩
        · exact ⟨_, cap, e⟩
      subst hv6
      have g0 := hC.cell 0
      have g1 := hC.cell 1
      have g2 := hC.cell 2
      have g3 := hC.cell 3
      have x0 := hI.c2.cell 0
      have x1 := hI.c2.cell 1
      have x2 := hI.c2.cell 2
      have x3 := hI.c2.cell 3
      have f0 := hI.c2.froz 0
      have f1 := hI.c2.froz 1
      have f2 := hI.c2.froz 2
      have f3 := hI.c2.froz 3
      unfold zero4 at x0 x1 x2 x3
      simp only [List.getElem?_toArray, List.getElem?_cons_zero, List.getElem?_cons_succ] at g0 g1 g2 g3 x0 x1 x2 x3
      clear hI hRo hC hN hAp
      go_wp2_with fail
      refine bodyPost_ret (v := .agg #[.int .u8 7, .string ⟨#[]⟩, .slice A6 st.2.1.length c6, .slice A7 st.2.2.length c7]) (by simp [results, Tryz.results35, go_sem, x0, x1, x2, x3]) rfl ?_
      exact hI2.out
    rw [if_neg hp] at hZ hT
    rw [Bool.eq_false_iff.2 hp] at hT
    replace hT := Lib.hid hT
    replace hV := Lib.hid hV
    go_wp2_with fail
    refine hT.out.mono ?_
    rintro e W6 ⟨rfl, hR2, hB2⟩
    replace hV := hV.out.step hB2 hR2
    clear hT hR2 hB2 y0 y1 z0 hp
    obtain ⟨⟨y0, y1⟩, _, _⟩ := hV.cells
    have z0 := Cel.cell hV.rj 0
    simp only [List.getElem?_toArray, List.getElem?_cons_zero] at z0
    have hTx := jrNumber_any b s N W6 hV.envW hV.rj hs
    obtain ⟨Q, hQ⟩ : ∃ Q, ownL (s.takeWhile jnumc) = Q := ⟨_, rfl⟩
    rw [hQ] at hTx hZ
    generalize s.dropWhile jnumc = s2 at hTx hZ
    clear hQ
    replace hV := Lib.hid hV
    replace hTx := Lib.hid hTx
    go_wp2_with fail
    refine hTx.out.mono ?_
    intro e w3 hx
    obtain ⟨hB2, hx⟩ := hx
    by_cases hq : Q.2 = 0
    · rw [if_pos hq] at hx hZ
      subst hZ
      obtain ⟨rfl, hR2⟩ := hx
      have h2 := hV.out.step hB2 hR2
      clear hTx hV hR2 hB2 y0 y1 z0
      obtain ⟨⟨y0, y1⟩, ⟨x0, x1, x2, x3⟩, f0, f1, f2, f3⟩ := h2.cells
      replace h2 := Lib.hid h2
      go_wp2_with fail
      refine bodyPost_ret (v := .agg #[.int .u8 4, .string (ofL Q.1), .slice none 0 0, .slice none 0 0]) (by simp [results, Tryz.results35, go_sem, x0, x1, x2, x3]) rfl ?_
      exact h2.out.flat hin 4 (ofL Q.1) (by decide) (by decide) _ _ _ _
    · rw [if_neg hq] at hx hZ
      subst hZ
      subst hx
      exact ⟨rfl, hV.out.but.trans (hB2.mono hV.out.but.size), rfl⟩
end Go.Proofs.YtlnkjacbdolhnaaGreatDoor
