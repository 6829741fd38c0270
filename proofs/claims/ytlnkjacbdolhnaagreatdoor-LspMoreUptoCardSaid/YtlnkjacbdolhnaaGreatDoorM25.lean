/-
  The walk of the document's Pos (begun).
-/
import Derived.Test.YtlnkjacbdolhnaaGreatDoorM24
namespace Go.Proofs.YtlnkjacbdolhnaaGreatDoor
open Go.RowKit

def PosPhi (s : Nat) (a b : Int) (i : Nat) (v : Value) (w : World) : Prop := match i with
  | 0 => ∃ g, v = .slice (some ⟨g, 0, none⟩) 2 2 ∧ s + 1 < g ∧ Cel w g 9 ([lLine, lCharacter].map Value.string).toArray
  | 1 => v = .pointer (some ⟨s, 0, none⟩)
  | 2 => v = .int .i64 a
  | 3 => ∃ vn vl, v = jvV (numJ a) vn vl ∧ JV w (fun k => s + 1 < k) (numJ a) vn vl
  | 4 => v = .pointer (some ⟨s, 1, none⟩)
  | 5 => v = .int .i64 b
  | 6 => ∃ vn vl, v = jvV (numJ b) vn vl ∧ JV w (fun k => s + 1 < k) (numJ b) vn vl
  | 7 => ∃ g x1 x2 y1 y2, v = .slice (some ⟨g, 0, none⟩) 2 2 ∧ s + 1 < g ∧ Cel w g 25 ([((numJ a, x1, x2) : JE), (numJ b, y1, y2)].flatMap encJ).toArray ∧ JV w (fun k => s + 1 < k) (numJ a) x1 x2 ∧ JV w (fun k => s + 1 < k) (numJ b) y1 y2
  | 8 => ∃ vn vl, v = .agg #[.int .u8 7, .string ⟨#[]⟩, vn, vl] ∧ JV w (fun k => s + 1 < k) (posJ a b) vn vl
  | 9 => ∃ vn vl, Cel w (s + 1) 25 #[.int .u8 7, .string ⟨#[]⟩, vn, vl] ∧ JV w (fun k => s + 1 < k) (posJ a b) vn vl
  | _ => True
set_option maxRecDepth 100000 in
set_option maxHeartbeats 4000000 in
theorem refPos8_any (a b : Int) (w : World) (hE : Env w) (ha : I64 a) (hb2 : I64 b) :
    Calls Tryz.prog 63 #[.agg #[.int .i64 a, .int .i64 b]] w (JvEnd (posJ a b) w) := by
  obtain ⟨V, hV⟩ : ∃ V, (w.alloc (.cells #[.int .i64 a, .int .i64 b] 29)).alloc (.cells #[.int .u8 0, .string ⟨#[]⟩, .slice none 0 0, .slice none 0 0] 25) = V := ⟨_, rfl⟩
  have hCp : Cel V w.heap.size 29 #[.int .i64 a, .int .i64 b] := by rw [← hV]; exact (Cel.fresh _ _ _).alloc _
  have hCr : Cel V (w.heap.size + 1) 25 #[.int .u8 0, .string ⟨#[]⟩, .slice none 0 0, .slice none 0 0] := by
    rw [← hV]
    have := Cel.fresh (w.alloc (.cells #[.int .i64 a, .int .i64 b] 29)) 25 #[.int .u8 0, .string ⟨#[]⟩, .slice none 0 0, .slice none 0 0]
    simpa using this
  have hBV : Below w.heap.size w V := by rw [← hV]; exact ((Below.refl _ _).alloc (Nat.le_refl _) _).alloc (by simp) _
  replace hV := Lib.hid hV
  go_enter Tryz.func63, Tryz.ntmps63
  go_upto_region 1 with fail
  rw [hV.out]
  clear hV
  have hnum := Lib.hid (fun (n : Int) (hn : I64 n) (W : World) (hb : Below w.heap.size w W) => refNum8_any n W (hE.below hb) hn.1 hn.2)
  obtain ⟨SS, hSS⟩ : ∃ SS : World → Prop, (fun W => Cel W w.heap.size 29 #[.int .i64 a, .int .i64 b] ∧ (∃ x0 x1 x2 x3, Cel W (w.heap.size + 1) 25 #[x0, x1, x2, x3]) ∧ Below w.heap.size w W) = SS := ⟨_, rfl⟩
  refine wp_region_tidy SS (fun i W W' => if i = 9 then SS W' ∧ W.heap.size ≤ W'.heap.size ∧ ∀ k, k ≠ w.heap.size + 1 → k < W.heap.size → W'.heap[k]? = W.heap[k]? else Below W.heap.size W W') (PosPhi w.heap.size a b) (by kernel_rfl) (by kernel_rfl) ?_ ?_ ?_ ?_ ?_
  · subst hSS; exact ⟨hCp.drew, ⟨_, _, _, _, hCr.drew⟩, bel_drew hBV⟩
  · intro i W W' hS hk
    by_cases h9 : i = 9
    · rw [if_pos h9] at hk; exact hk.1
    · rw [if_neg h9] at hk
      subst hSS
      obtain ⟨h1, ⟨x0, x1, x2, x3, h2⟩, h3⟩ := hS
      exact ⟨h1.below hk h1.lt, ⟨x0, x1, x2, x3, h2.below hk h2.lt⟩, h3.trans (hk.mono h3.size)⟩
  · intro i j v W W' hji hj hk
    have hk2 : W.heap.size ≤ W'.heap.size ∧ (∀ k, k ≠ w.heap.size + 1 → k < W.heap.size → W'.heap[k]? = W.heap[k]?) ∧ (i ≠ 9 → ∀ k, k < W.heap.size → W'.heap[k]? = W.heap[k]?) := by
      by_cases h9 : i = 9
      · rw [if_pos h9] at hk; exact ⟨hk.2.1, hk.2.2, fun h => absurd h9 h⟩
      · rw [if_neg h9] at hk; exact ⟨hk.size, fun k _ hlt => hk.block k hlt, fun _ k hlt => hk.block k hlt⟩
    obtain ⟨hsz, hkk, hk9⟩ := hk2
    have hJk : ∀ (x : Jsn) (vn vl : Value), JV W (fun k => w.heap.size + 1 < k) x vn vl → JV W' (fun k => w.heap.size + 1 < k) x vn vl := fun x vn vl hx =>
      JV.keep hsz (fun p hp hp2 => World.cell?_of_block (hkk p.block (by omega) hp2)) (fun _ h _ => h) x hx
    clear hk
    match j with
    | 0 =>
      obtain ⟨g, e, hg, hC⟩ := hj
      exact ⟨g, e, hg, (hkk g (by omega) hC.lt).trans hC⟩
    | 1 => exact hj
    | 2 => exact hj
    | 3 => obtain ⟨vn, vl, e, h⟩ := hj; exact ⟨vn, vl, e, hJk _ _ _ h⟩
    | 4 => exact hj
    | 5 => exact hj
    | 6 => obtain ⟨vn, vl, e, h⟩ := hj; exact ⟨vn, vl, e, hJk _ _ _ h⟩
    | 7 =>
      obtain ⟨g, x1, x2, y1, y2, e, hg, hC, h1, h2⟩ := hj
      exact ⟨g, x1, x2, y1, y2, e, hg, (hkk g (by omega) hC.lt).trans hC, hJk _ _ _ h1, hJk _ _ _ h2⟩
    | 8 => obtain ⟨vn, vl, e, h⟩ := hj; exact ⟨vn, vl, e, hJk _ _ _ h⟩
    | 9 =>
      obtain ⟨vn, vl, hC, h⟩ := hj
      exact ⟨vn, vl, (hk9 (fun e => hji e.symm) _ hC.lt).trans hC, hJk _ _ _ h⟩
    | m + 10 => trivial
  · intro i o ho b' W hS hd hf hdep K hK
    obtain ⟨tm, df⟩ := b'
    dsimp only at hd
    subst hd
    have hS' := hS
    rw [← hSS] at hS'
    obtain ⟨hc, ⟨x0, x1, x2, x3, hcr⟩, hbl⟩ := hS'
    have hlt := hcr.lt
    have kp : ∀ i, i ≠ 9 → ∀ W', Below W.heap.size W W' → (if i = 9 then SS W' ∧ W.heap.size ≤ W'.heap.size ∧ ∀ k, k ≠ w.heap.size + 1 → k < W.heap.size → W'.heap[k]? = W.heap[k]? else Below W.heap.size W W') := fun i hi W' h => by rw [if_neg hi]; exact h
    have t1 : tm[1]?.getD undef = .pointer (some ⟨w.heap.size, 0, none⟩) := by
      have := hf 1 (by decide)
      simpa using this
    match i with
    | 0 =>
      injection ho with ho
      subst ho
      clear hf hdep
      go_simp
      exact hK _ _ (by simp) ⟨_, rfl, by omega, Cel.fresh _ _ _⟩ (kp 0 (by decide) _ (((Below.refl _ _).alloc (Nat.le_refl _) _)))
    | 1 =>
      injection ho with ho
      subst ho
      clear hf hdep
      go_simp
      exact hK _ _ (by simp) rfl (kp 1 (by decide) _ (Below.refl _ _))
    | 2 =>
      injection ho with ho
      subst ho
      have h1 : tm[4]?.getD undef = .pointer (some ⟨w.heap.size, 0, none⟩) := by have := hdep ⟨1, .data⟩ (by simp) (by rfl) _ rfl; simpa [valD, PosPhi] using this
      have c0 : W.cell? ⟨w.heap.size, 0, none⟩ = some (.int .i64 a) := hc.cell 0
      clear hf hdep
      go_simp
      exact hK _ _ (by simp) rfl (kp 2 (by decide) _ (Below.refl _ _))
    | 3 =>
      injection ho with ho
      subst ho
      have h1 : tm[5]?.getD undef = .int .i64 a := by have := hdep ⟨2, .data⟩ (by simp) (by rfl) _ rfl; simpa [valD, PosPhi] using this
      have hcall := hnum.out a ha W hbl
      clear hf hdep
      go_simp
      refine hcall.mono ?_
      rintro e w1 ⟨xn, xl, rfl, hO, hbb⟩
      exact hK _ _ (by simp) ⟨xn, xl, rfl, (OwnJ.jv _ hO).more (fun k hk _ => by omega)⟩ (kp 3 (by decide) _ hbb)
    | 4 =>
      injection ho with ho
      subst ho
      clear hf hdep
      go_simp
      exact hK _ _ (by simp) rfl (kp 4 (by decide) _ (Below.refl _ _))
    | 5 =>
      injection ho with ho
      subst ho
      have h1 : tm[7]?.getD undef = .pointer (some ⟨w.heap.size, 1, none⟩) := by have := hdep ⟨4, .data⟩ (by simp) (by rfl) _ rfl; simpa [valD, PosPhi] using this
      have c1 : W.cell? ⟨w.heap.size, 1, none⟩ = some (.int .i64 b) := hc.cell 1
      clear hf hdep
      go_simp
      exact hK _ _ (by simp) rfl (kp 5 (by decide) _ (Below.refl _ _))
    | 6 =>
      injection ho with ho
      subst ho
      have h1 : tm[8]?.getD undef = .int .i64 b := by have := hdep ⟨5, .data⟩ (by simp) (by rfl) _ rfl; simpa [valD, PosPhi] using this
      have hcall := hnum.out b hb2 W hbl
      clear hf hdep
      go_simp
      refine hcall.mono ?_
      rintro e w1 ⟨xn, xl, rfl, hO, hbb⟩
      exact hK _ _ (by simp) ⟨xn, xl, rfl, (OwnJ.jv _ hO).more (fun k hk _ => by omega)⟩ (kp 6 (by decide) _ hbb)
    | 7 =>
      injection ho with ho
      subst ho
      obtain ⟨u1, u2, e1, hJ1⟩ := hdep ⟨3, .data⟩ (by simp) (by rfl) _ rfl
      obtain ⟨u3, u4, e2, hJ2⟩ := hdep ⟨6, .data⟩ (by simp) (by rfl) _ rfl
      obtain ⟨A, n, c, B, m, d, rfl, rfl⟩ := hJ1.forms
      obtain ⟨A', n', c', B', m', d', rfl, rfl⟩ := hJ2.forms
      have h1 : tm[6]?.getD undef = .agg #[.int .u8 4, .string ⟨(ofNL a).toArray⟩, .slice A n c, .slice B m d] := by simpa [valD, jvV, numJ] using e1
      have h2 : tm[9]?.getD undef = .agg #[.int .u8 4, .string ⟨(ofNL b).toArray⟩, .slice A' n' c', .slice B' m' d'] := by simpa [valD, jvV, numJ] using e2
      clear hf hdep e1 e2
      go_simp
      have hbb := (Below.refl W.heap.size W).alloc (Nat.le_refl _) (.cells #[.int .u8 4, .string ⟨(ofNL a).toArray⟩, .slice A n c, .slice B m d, .int .u8 4, .string ⟨(ofNL b).toArray⟩, .slice A' n' c', .slice B' m' d'] 25)
      exact hK _ _ (by simp) ⟨_, _, _, _, _, rfl, by omega, Cel.fresh _ _ _, hJ1.later hbb, hJ2.later hbb⟩ (kp 7 (by decide) _ hbb)
    | 8 =>
      injection ho with ho
      subst ho
      obtain ⟨g, e1, hg, hC⟩ := hdep ⟨0, .data⟩ (by simp) (by rfl) _ rfl
      obtain ⟨gl, y1, y2, y3, y4, e2, hgl, hL, hJ1, hJ2⟩ := hdep ⟨7, .data⟩ (by simp) (by rfl) _ rfl
      have h1 : tm[3]?.getD undef = .slice (some ⟨g, 0, none⟩) 2 2 := by simpa [valD] using e1
      have h2 : tm[10]?.getD undef = .slice (some ⟨gl, 0, none⟩) 2 2 := by simpa [valD] using e2
      have hcall := refObj8_any W (some ⟨g, 0, none⟩) 2 2 (some ⟨gl, 0, none⟩) 2 2
      have hJ : JV W (fun k => w.heap.size + 1 < k) (posJ a b) (.slice (some ⟨g, 0, none⟩) 2 2) (.slice (some ⟨gl, 0, none⟩) 2 2) :=
        jv_rows (zs := [(numJ a, y1, y2), (numJ b, y3, y4)]) (by omega) (by omega) hg hgl hC rfl (fun z hz => by
          simp at hz
          rcases hz with rfl | rfl
          · exact hJ1
          · exact hJ2) hL
      clear hf hdep e1 e2
      go_simp
      refine hcall.mono ?_
      rintro e w1 ⟨rfl, hbb⟩
      exact hK _ _ (by simp) ⟨_, _, rfl, hJ.later hbb⟩ (kp 8 (by decide) _ hbb)
    | 9 =>
      injection ho with ho
      subst ho
      obtain ⟨u1, u2, e1, hJ⟩ := hdep ⟨8, .data⟩ (by simp) (by rfl) _ rfl
      obtain ⟨A, n, c, B, m, d, rfl, rfl⟩ := hJ.forms
      have h1 : tm[11]?.getD undef = .agg #[.int .u8 7, .string ⟨#[]⟩, .slice A n c, .slice B m d] := by simpa [valD] using e1
      have t2 : tm[2]?.getD undef = .pointer (some ⟨w.heap.size + 1, 0, none⟩) := by
        have := hf 2 (by decide)
        simpa using this
      obtain ⟨p0, p1, p2, p3⟩ := hcr.c4
      have s0 := hcr.froz 0
      have s1 := hcr.froz 1
      have s2 := hcr.froz 2
      have s3 := hcr.froz 3
      obtain ⟨W5, hW5⟩ : ∃ X, (((W.setCell ⟨w.heap.size + 1, 0, none⟩ (.int .u8 7)).setCell ⟨w.heap.size + 1, 1, none⟩ (.string ⟨#[]⟩)).setCell ⟨w.heap.size + 1, 2, none⟩ (.slice A n c)).setCell ⟨w.heap.size + 1, 3, none⟩ (.slice B m d) = X := ⟨_, rfl⟩
      have hk5 : ∀ k, k ≠ w.heap.size + 1 → W5.heap[k]? = W.heap[k]? := fun k hk => by
        rw [← hW5, Below.heap_setCell _ _ _ _ hk, Below.heap_setCell _ _ _ _ hk, Below.heap_setCell _ _ _ _ hk, Below.heap_setCell _ _ _ _ hk]
      have hs5 : W5.heap.size = W.heap.size := by rw [← hW5]; simp [World.setCell]
      have hC5 : Cel W5 (w.heap.size + 1) 25 #[.int .u8 7, .string ⟨#[]⟩, .slice A n c, .slice B m d] := by
        rw [← hW5]
        have := (((hcr.set 0 (.int .u8 7)).set 1 (.string ⟨#[]⟩)).set 2 (.slice A n c)).set 3 (.slice B m d)
        simpa using this
      have hB5 : Below w.heap.size w W5 := by
        rw [← hW5]
        exact (((hbl.setCell (by simp) _).setCell (by simp) _).setCell (by simp) _).setCell (by simp) _
      have hJ5 : JV W5 (fun k => w.heap.size + 1 < k) (posJ a b) (.slice A n c) (.slice B m d) := JV.keep (by omega) (fun p hp hp2 => World.cell?_of_block (hk5 p.block (by omega))) (fun _ h _ => h) _ hJ
      have hS5 : SS W5 := by rw [← hSS]; exact ⟨(hk5 _ (by omega)).trans hc, ⟨_, _, _, _, hC5⟩, hB5⟩
      replace hW5 := Lib.hid hW5
      clear hf hdep e1
      go_simp
      rw [hW5.out]
      exact hK undef _ (fun _ => rfl) ⟨_, _, hC5, hJ5⟩ (by rw [if_pos rfl]; exact ⟨hS5, by omega, fun k hk _ => hk5 k hk⟩)
    | m + 10 => simp at ho
  · intro b' W hS hd hz hf hfact
    obtain ⟨tm, df⟩ := b'
    dsimp only at hd hz
    subst hd
    rw [← hSS] at hS
    obtain ⟨vn, vl, hC, hJ⟩ := hfact 9 _ rfl
    have t2 : tm.getD 2 undef = .pointer (some ⟨w.heap.size + 1, 0, none⟩) := hf 2 (by decide)
    obtain ⟨dj, hd1, hd2⟩ := jsnDesc
    have hBl := hS.2.2
    clear hfact hf hSS hnum hCp hCr hBV
    replace hd1 := Lib.hid hd1
    replace hd2 := Lib.hid hd2
    go_wp2
    exact bodyPost_ret (results_cel1 Tryz.results63 _ _ _ _ _ dj t2 hC hd1.out hd2.out jsnInfo) rfl ⟨_, _, rfl, hJ.more (fun k hk _ => by omega), hBl⟩
end Go.Proofs.YtlnkjacbdolhnaaGreatDoor


/-
  The walk of the document's Range.
-/
namespace Go.Proofs.YtlnkjacbdolhnaaGreatDoor
open Go.RowKit

def RngPhi (s : Nat) (a b y z : Int) (i : Nat) (v : Value) (w : World) : Prop := match i with
  | 0 => ∃ g, v = .slice (some ⟨g, 0, none⟩) 2 2 ∧ s + 1 < g ∧ Cel w g 9 ([lStart, lEnd].map Value.string).toArray
  | 1 => v = .pointer (some ⟨s, 0, none⟩)
  | 2 => v = .agg #[.int .i64 a, .int .i64 b]
  | 3 => ∃ vn vl, v = jvV (posJ a b) vn vl ∧ JV w (fun k => s + 1 < k) (posJ a b) vn vl
  | 4 => v = .pointer (some ⟨s, 2, none⟩)
  | 5 => v = .agg #[.int .i64 y, .int .i64 z]
  | 6 => ∃ vn vl, v = jvV (posJ y z) vn vl ∧ JV w (fun k => s + 1 < k) (posJ y z) vn vl
  | 7 => ∃ g x1 x2 y1 y2, v = .slice (some ⟨g, 0, none⟩) 2 2 ∧ s + 1 < g ∧ Cel w g 25 ([((posJ a b, x1, x2) : JE), (posJ y z, y1, y2)].flatMap encJ).toArray ∧ JV w (fun k => s + 1 < k) (posJ a b) x1 x2 ∧ JV w (fun k => s + 1 < k) (posJ y z) y1 y2
  | 8 => ∃ vn vl, v = .agg #[.int .u8 7, .string ⟨#[]⟩, vn, vl] ∧ JV w (fun k => s + 1 < k) (rangeJ a b y z) vn vl
  | 9 => ∃ vn vl, Cel w (s + 1) 25 #[.int .u8 7, .string ⟨#[]⟩, vn, vl] ∧ JV w (fun k => s + 1 < k) (rangeJ a b y z) vn vl
  | _ => True
end Go.Proofs.YtlnkjacbdolhnaaGreatDoor
