/-
  The walks of lsp.text, lsp.num, lsp.some, and the document's Str, Num, or.
-/
import Derived.Test.YtlnkjacbdolhnaaGreatDoorM15
import Derived.Test.YtlnkjacbdolhnaaGreatDoorM19
import Derived.Test.YtlnkjacbdolhnaaGreatDoorM10
import Derived.Test.YtlnkjacbdolhnaaGreatDoorM12
namespace Go.Proofs.YtlnkjacbdolhnaaGreatDoor
open Go.RowKit

theorem leaf_own (w : World) (k : Int) (s : ByteArray) (lo hi : Nat) (h0 : 0 ≤ k) (h1 : k ≤ 255) : OwnJ w 9 25 ⟨k, s, [], []⟩ lo hi (.slice none 0 0) (.slice none 0 0) := by
  rw [OwnJ_eq]
  exact ⟨h0, h1, 0, 0, #[], none, 0, [], ⟨none, 0, rfl, fun h => by simp at h⟩, rfl, (fun h => by simp at h), rfl, (fun i x u h => by simp at h), (fun i j u v _ h => by simp at h)⟩
/-- null in the place of the empty text. -/
def someJ (s : ByteArray) : Jsn := if s = ⟨#[]⟩ then ⟨1, ⟨#[]⟩, [], []⟩ else strJ s

set_option maxHeartbeats 2000000 in
theorem refStr8_any (s : ByteArray) (w : World) :
    Calls Tryz.prog 62 #[.string s] w (OwnJEnd (strJ s) w) := by
  go_enter Tryz.func62, Tryz.ntmps62
  obtain ⟨dj, hd1, hd2⟩ := jsnDesc
  replace hd1 := Lib.hid hd1
  replace hd2 := Lib.hid hd2
  go_wp2
  exact bodyPost_ret (results_cel1 Tryz.results62 _ _ _ _ _ dj rfl (Cel.fresh w 25 _) hd1.out hd2.out jsnInfo) rfl ⟨_, _, rfl, leaf_own _ 5 s _ _ (by omega) (by omega), (Below.refl _ _).alloc (Nat.le_refl _) _⟩

set_option maxHeartbeats 2000000 in
theorem lspNum_any (n : Int) (w : World) (hE : Env w) (h0 : -9223372036854775808 ≤ n) (h1 : n ≤ 9223372036854775807) :
    Calls Tryz.prog 66 #[.int .i64 n] w (OwnJEnd (numJ n) w) := by
  obtain ⟨W0, hW0⟩ : ∃ W0, w.alloc (.cells #[.int .u8 0, .string ⟨#[]⟩, .slice none 0 0, .slice none 0 0] 25) = W0 := ⟨_, rfl⟩
  have hB0 : Below w.heap.size w W0 := by rw [← hW0]; exact (Below.refl _ _).alloc (Nat.le_refl _) _
  have hC0 : Cel W0 w.heap.size 25 #[.int .u8 0, .string ⟨#[]⟩, .slice none 0 0, .slice none 0 0] := by rw [← hW0]; exact Cel.fresh _ _ _
  have hc := Lib.hid (decOf_any n W0 (hE.below hB0) h0 h1)
  replace hW0 := Lib.hid hW0
  replace hB0 := Lib.hid hB0
  replace hC0 := Lib.hid hC0
  clear hE h0 h1
  go_enter Tryz.func66, Tryz.ntmps66
  go_upto_region 1 with fail
  rw [hW0.out]
  clear hW0
  go_wp2_with fail
  refine hc.out.mono ?_
  rintro e w1 ⟨t, ht, rfl, hb⟩
  have ht2 : t = ⟨(ofNL n).toArray⟩ := by rw [← ht]
  subst ht2
  have hz := hB0.out.size
  have hlt := hC0.out.lt
  have hC1 := hC0.out.below hb hlt
  have hB1 := Lib.hid (hB0.out.trans (hb.mono hz))
  have p0 := hC1.cell 0
  have p1 := hC1.cell 1
  have p2 := hC1.cell 2
  have p3 := hC1.cell 3
  have s0 := hC1.froz 0
  have s1 := hC1.froz 1
  have s2 := hC1.froz 2
  have s3 := hC1.froz 3
  simp only [List.getElem?_toArray, List.getElem?_cons_zero, List.getElem?_cons_succ] at p0 p1 p2 p3
  clear hb ht hc hC0 hz hlt hB0 hC1
  go_wp2_with fail
  refine bodyPost_ret (v := .agg #[.int .u8 4, .string ⟨(ofNL n).toArray⟩, .slice none 0 0, .slice none 0 0]) (by simp [results, Tryz.results66, go_sem, p0, p1, p2, p3]) rfl ⟨_, _, rfl, leaf_own _ 4 _ _ _ (by omega) (by omega), ?_⟩
  exact (((hB1.out.setCell (by simp) _).setCell (by simp) _).setCell (by simp) _).setCell (by simp) _
set_option maxHeartbeats 2000000 in
theorem refNum8_any (n : Int) (w : World) (_hE : Env w) (h0 : -9223372036854775808 ≤ n) (h1 : n ≤ 9223372036854775807) :
    Calls Tryz.prog 123 #[.int .i64 n] w (OwnJEnd (numJ n) w) := by
  obtain ⟨W0, hW0⟩ : ∃ W0, w.alloc (.cells #[.int .u8 0, .string ⟨#[]⟩, .slice none 0 0, .slice none 0 0] 25) = W0 := ⟨_, rfl⟩
  have hB0 : Below w.heap.size w W0 := by rw [← hW0]; exact (Below.refl _ _).alloc (Nat.le_refl _) _
  have hC0 : Cel W0 w.heap.size 25 #[.int .u8 0, .string ⟨#[]⟩, .slice none 0 0, .slice none 0 0] := by rw [← hW0]; exact Cel.fresh _ _ _
  have hc := Lib.hid (refOf_any n W0 h0 h1)
  replace hW0 := Lib.hid hW0
  replace hB0 := Lib.hid hB0
  replace hC0 := Lib.hid hC0
  clear _hE h0 h1
  go_enter Tryz.func123, Tryz.ntmps123
  go_upto_region 1 with fail
  rw [hW0.out]
  clear hW0
  go_wp2_with fail
  refine hc.out.mono ?_
  rintro e w1 ⟨t, ht, rfl, hb⟩
  have ht2 : t = ⟨(ofNL n).toArray⟩ := by rw [← ht]
  subst ht2
  have hz := hB0.out.size
  have hlt := hC0.out.lt
  have hC1 := hC0.out.below hb hlt
  have hB1 := Lib.hid (hB0.out.trans (hb.mono hz))
  have p0 := hC1.cell 0
  have p1 := hC1.cell 1
  have p2 := hC1.cell 2
  have p3 := hC1.cell 3
  have s0 := hC1.froz 0
  have s1 := hC1.froz 1
  have s2 := hC1.froz 2
  have s3 := hC1.froz 3
  simp only [List.getElem?_toArray, List.getElem?_cons_zero, List.getElem?_cons_succ] at p0 p1 p2 p3
  clear hb ht hc hC0 hz hlt hB0 hC1
  go_wp2_with fail
  refine bodyPost_ret (v := .agg #[.int .u8 4, .string ⟨(ofNL n).toArray⟩, .slice none 0 0, .slice none 0 0]) (by simp [results, Tryz.results123, go_sem, p0, p1, p2, p3]) rfl ⟨_, _, rfl, leaf_own _ 4 _ _ _ (by omega) (by omega), ?_⟩
  exact (((hB1.out.setCell (by simp) _).setCell (by simp) _).setCell (by simp) _).setCell (by simp) _
end Go.Proofs.YtlnkjacbdolhnaaGreatDoor


/-
  lsp.object: an object of members whose values lie in memory made before its rows.
-/
namespace Go.Proofs.YtlnkjacbdolhnaaGreatDoor
open Go.RowKit

/-- Rows of members: name, kind, text, names, list. -/
def Mem5 (w : World) (g : Nat) (ns : List ByteArray) (l : List Jsn) (ws : List OE) : Prop :=
  ∀ (i : Nat) nm x u, ns[i]? = some nm → l[i]? = some x → ws[i]? = some u → w.cell? ⟨g, i * 5, none⟩ = some (.string nm) ∧ w.cell? ⟨g, i * 5 + 1, none⟩ = some (.int .u8 x.kind) ∧
    w.cell? ⟨g, i * 5 + 2, none⟩ = some (.string x.text) ∧ w.cell? ⟨g, i * 5 + 3, none⟩ = some u.1 ∧ w.cell? ⟨g, i * 5 + 4, none⟩ = some u.2.1
/-- Values of the call's own, one behind the other, from lo on. -/
def KidI (w : World) (lo : Nat) (l : List Jsn) (ws : List OE) : Prop := ws.length = l.length ∧
  (∀ (i : Nat) x u, l[i]? = some x → ws[i]? = some u → lo ≤ u.2.2.1 ∧ u.2.2.1 ≤ u.2.2.2 ∧ u.2.2.2 ≤ w.heap.size ∧ OwnJ w 9 25 x u.2.2.1 u.2.2.2 u.1 u.2.1) ∧
  (∀ (i j : Nat) (u z : OE), i < j → ws[i]? = some u → ws[j]? = some z → u.2.2.2 ≤ z.2.2.1)
theorem KidI.nil (w : World) (lo : Nat) : KidI w lo [] [] := ⟨rfl, (fun i x u h => by simp at h), (fun i j u z _ h => by simp at h)⟩
theorem KidI.later {w w' : World} {lo : Nat} {l : List Jsn} {ws : List OE} (h : KidI w lo l ws) (hb : Below w.heap.size w w') : KidI w' lo l ws :=
  ⟨h.1, fun i x u hx hu => by
    obtain ⟨a, b, c, d⟩ := h.2.1 i x u hx hu
    exact ⟨a, b, Nat.le_trans c hb.size, OwnJ.keep x d (fun k _ hk => hb.block k (by omega)) (Nat.le_refl _) (Nat.le_refl _)⟩, h.2.2⟩
/-- A value more, made behind the others. -/
theorem KidI.snoc {w w' : World} {lo : Nat} {l : List Jsn} {ws : List OE} {x : Jsn} {vn vl : Value} (h : KidI w lo l ws) (hlo : lo ≤ w.heap.size) (hb : Below w.heap.size w w') (hx : OwnJ w' 9 25 x w.heap.size w'.heap.size vn vl) :
    KidI w' lo (l ++ [x]) (ws ++ [(vn, vl, w.heap.size, w'.heap.size)]) := by
  have h' := h.later hb
  have hs := hb.size
  refine ⟨by rw [List.length_append, List.length_append, h.1]; rfl, fun i y u hy hu => ?_, fun i j u z hij hu hz => ?_⟩
  · by_cases hi : i < l.length
    · rw [List.getElem?_append_left hi] at hy
      rw [List.getElem?_append_left (by rw [h.1]; exact hi)] at hu
      exact h'.2.1 i y u hy hu
    · have hi2 : i = l.length := by have := (List.getElem?_eq_some_iff.1 hy).1; simp at this; omega
      subst hi2
      rw [List.getElem?_append_right (Nat.le_refl _)] at hy
      rw [← h.1, List.getElem?_append_right (Nat.le_refl _)] at hu
      simp at hy hu
      subst hy
      subst hu
      exact ⟨hlo, hs, Nat.le_refl _, hx⟩
  · by_cases hj : j < ws.length
    · rw [List.getElem?_append_left hj] at hz
      rw [List.getElem?_append_left (by omega)] at hu
      exact h.2.2 i j u z hij hu hz
    · have hj2 : j = ws.length := by have := (List.getElem?_eq_some_iff.1 hz).1; simp at this; omega
      subst hj2
      rw [List.getElem?_append_right (Nat.le_refl _)] at hz
      rw [List.getElem?_append_left hij] at hu
      simp at hz
      subst hz
      have hi : i < l.length := by rw [← h.1]; exact hij
      exact (h.2.1 i _ u (List.getElem?_eq_getElem hi) hu).2.2.1
set_option maxRecDepth 100000 in
/-- Rows of names and of values, made behind the values: an object of the call's own. -/
theorem own_rows {w w' : World} {B lo : Nat} {k : Int} {s : ByteArray} {ns : List ByteArray} {l : List Jsn} {ws : List OE} {vN vL : Value} (hk0 : 0 ≤ k) (hk1 : k ≤ 255)
    (hN : w'.ownsRow B 9 1 vN ns.length (ns.map Value.string)) (hL : w'.ownsRow B 25 4 vL l.length (rowCells l ws)) (hA : ∀ g, vN.ownBlock = some g → vL.ownBlock ≠ some g)
    (hK : KidI w lo l ws) (hb : Below w.heap.size w w') (hB : w.heap.size ≤ B) (hlo : lo ≤ w.heap.size) : OwnJ w' 9 25 ⟨k, s, ns, l⟩ lo w'.heap.size vN vL := by
  have hK' := hK.later hb
  have hs := hb.size
  rw [OwnJ_eq]
  refine ⟨hk0, hk1, ?_⟩
  obtain ⟨gn, gn0, hgn, hNam⟩ : ∃ gn, w.heap.size ≤ gn ∧ (∀ g, vL.ownBlock = some g → g ≠ gn) ∧ NamO w' 9 lo w'.heap.size gn vN ns := by
    rcases hN.2 with ⟨e, hz⟩ | ⟨g, cap, cur, e, h1, h2, h3, h4, h5, h6⟩
    · refine ⟨w'.heap.size, hs, fun g hg e2 => ?_, none, 0, by rw [e, hz], fun hp => by omega⟩
      have := (hL.lt g hg).2
      omega
    · subst e
      refine ⟨g, by omega, fun g' hg' e2 => ?_, some ⟨g, 0, none⟩, cap, rfl, fun _ => ⟨rfl, by omega, (Array.getElem?_eq_some_iff.1 h2).1, cur, h2, fun j x hx => ?_⟩⟩
      · subst e2; exact hA g' rfl hg'
      · have hj : (ns.map Value.string)[j]? = some (.string x) := by rw [List.getElem?_map, hx]; rfl
        rw [← h6, List.getElem?_take] at hj
        split at hj
        · rw [← Array.getElem?_toList]; exact hj
        · cases hj
  obtain ⟨gl, cs, A, c, hgl, hv, hC, hcs⟩ : ∃ (gl : Nat) (cs : Array Value) (A : Option Addr) (c : Nat), w.heap.size ≤ gl ∧ vL = .slice A l.length c ∧ (0 < l.length → A = some ⟨gl, 0, none⟩ ∧ lo ≤ gl ∧ gl < w'.heap.size ∧ gl ≠ gn ∧ Cel w' gl 25 cs) ∧ (∀ (i : Nat) (v : Value), (rowCells l ws)[i]? = some v → cs[i]? = some v) := by
    rcases hL.2 with ⟨e, hz⟩ | ⟨g, cap, cur, e, h1, h2, h3, h4, h5, h6⟩
    · refine ⟨w'.heap.size, #[], none, 0, hs, by rw [e, hz], fun hp => by omega, fun i v hv => ?_⟩
      have hl0 := hL.1
      rw [hz, Nat.zero_mul] at hl0
      rw [List.eq_nil_of_length_eq_zero hl0] at hv
      simp at hv
    · subst e
      refine ⟨g, cur, _, cap, by omega, rfl, fun _ => ⟨rfl, by omega, (Array.getElem?_eq_some_iff.1 h2).1, hgn g rfl, h2⟩, fun i v hi => ?_⟩
      rw [← h6, List.getElem?_take] at hi
      split at hi
      · rw [← Array.getElem?_toList]; exact hi
      · cases hi
  refine ⟨gn, gl, cs, A, c, ws, hNam, hv, hC, by rw [List.length_map]; exact hK.1, fun i x u hx hu => ?_, hK.2.2⟩
  rw [List.getElem?_map] at hx
  rcases hj : l[i]? with _ | y
  · rw [hj] at hx; cases hx
  · rw [hj] at hx
    injection hx with hx
    subst hx
    obtain ⟨a1, a2, a3, a4⟩ := hK'.2.1 i y u hj hu
    obtain ⟨_, _, b3, _⟩ := hK.2.1 i y u hj hu
    exact ⟨fun q v hv => hcs _ _ (rowCells_at l ws i y u hj hu q v hv), a1, a2, a3, by omega, by omega, a4⟩
/-- A name more in a row. -/
theorem rowS_more {W : World} {B n : Nat} {vN : Value} {xs : List Value} (h : W.ownsRow B 9 1 vN n xs) (hB : B ≤ W.heap.size) (S : ByteArray) (hn : n ≤ 1000000) :
    ∃ v' w4, (Builtin.append_ #[22, 22] 22 #[vN, .slice (some ⟨W.heap.size, 0, none⟩) 1 1]).run Tryz.prog (W.alloc (.cells #[.string S] 9)) = .ok v' w4 ∧
      w4.ownsRow B 9 1 v' (n + 1) (xs ++ [.string S]) ∧ (W.alloc (.cells #[.string S] 9)).grownBy w4 vN.ownBlock ∧ (v'.ownBlock = vN.ownBlock ∨ v'.ownBlock = some (W.heap.size + 1)) := by
  obtain ⟨i0, hi0, hz0, hz1, hz2⟩ := info_parts infoS
  obtain ⟨v', w4, hrun, r2, r3, _, r5⟩ := run_append_own_at (P := Tryz.prog) (W.alloc (.cells #[.string S] 9)) B 22 22 9 i0 _ 1 16 Tryz.underlying22 hi0 hz0 hz1 hz2 rfl (by decide) vN n xs (h.alloc _) ⟨W.heap.size, 0, none⟩ 1 1 [.string S] rfl
    (fun j u hu => by
      have hadd : (⟨W.heap.size, 0, none⟩ : Addr).add j = ⟨W.heap.size, j, none⟩ := by unfold Addr.add; split <;> simp_all
      rw [hadd, (Cel.fresh W 9 #[.string S]).cell]
      simpa using hu)
    (fun u hu => by simp at hu; rw [hu]; rfl) (by unfold maxLen; omega) (by omega) (by simp; omega)
  exact ⟨v', w4, hrun, r2, r3, r5.imp id fun e => by simpa using e⟩
/-- A value more in a row. -/
theorem rowJ_more {W : World} {B n : Nat} {vL : Value} {xs : List Value} (h : W.ownsRow B 25 4 vL n xs) (hB : B ≤ W.heap.size) (x : Jsn) (xn xl : Value) (h1 : xn.oneCell' = true) (h2 : xl.oneCell' = true) (hn : n ≤ 1000000) :
    ∃ v' w4, (Builtin.append_ #[23, 23] 23 #[vL, .slice (some ⟨W.heap.size, 0, none⟩) 1 1]).run Tryz.prog (W.alloc (.cells #[.int .u8 x.kind, .string x.text, xn, xl] 25)) = .ok v' w4 ∧
      w4.ownsRow B 25 4 v' (n + 1) (xs ++ encJ (x, xn, xl)) ∧ (W.alloc (.cells #[.int .u8 x.kind, .string x.text, xn, xl] 25)).grownBy w4 vL.ownBlock ∧ (v'.ownBlock = vL.ownBlock ∨ v'.ownBlock = some (W.heap.size + 1)) := by
  obtain ⟨i0, hi0, hz0, hz1, hz2⟩ := info_parts infoJ
  obtain ⟨v', w4, hrun, r2, r3, _, r5⟩ := run_append_own_at (P := Tryz.prog) (W.alloc (.cells #[.int .u8 x.kind, .string x.text, xn, xl] 25)) B 23 23 25 i0 _ 4 72 Tryz.underlying23 hi0 hz0 hz1 hz2 rfl (by decide) vL n xs (h.alloc _) ⟨W.heap.size, 0, none⟩ 1 1 (encJ (x, xn, xl)) rfl
    (fun j u hu => by
      have hadd : (⟨W.heap.size, 0, none⟩ : Addr).add j = ⟨W.heap.size, j, none⟩ := by unfold Addr.add; split <;> simp_all
      rw [hadd, (Cel.fresh W 25 #[.int .u8 x.kind, .string x.text, xn, xl]).cell]
      simpa [encJ] using hu)
    (fun u hu => by simp [encJ] at hu; rcases hu with rfl | rfl | rfl | rfl <;> first | rfl | assumption) (by unfold maxLen; omega) (by omega) (by simp; omega)
  exact ⟨v', w4, hrun, r2, r3, r5.imp id fun e => by simpa using e⟩
end Go.Proofs.YtlnkjacbdolhnaaGreatDoor
