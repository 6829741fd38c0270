/-
  The walk of the JSON reader's value: what is known on its way, and its ends.
-/
import Derived.Test.YtblohaljnleeiaaGreatDoorJpL
namespace Go.Proofs.YtblohaljnleeiaaGreatDoor
open Go.RowKit

/-- A value of the call's own, out of a row of values and a row of names apart from it. -/
theorem mk_own3 {w : World} {B lo : Nat} {tJ : TypeId} {vN vL : Value} {k : Int} {s : ByteArray} {ns : List ByteArray} {l : List Jsn} {ws : List OE} (hk0 : 0 ≤ k) (hk1 : k ≤ 255) (hN : w.ownsRow B 9 1 vN ns.length (ns.map Value.string)) (hR : RowW w B 9 tJ vL l ws) (hA : ApartN vN vL ws) (hlo : lo < B) (hB : B ≤ w.heap.size) :
    OwnJ w 9 tJ ⟨k, s, ns, l⟩ lo w.heap.size vN vL := by
  rcases hN.2 with ⟨e, h0⟩ | ⟨gn, cap, cur, e, hgn, hh, hnc, hcm, hcs, htk⟩
  · have e2 : ns = [] := List.eq_nil_of_length_eq_zero h0
    subst e2
    subst e
    exact mk_own2 (lo := lo) (gn := lo) hk0 hk1 ⟨ws, hR⟩ ⟨Nat.le_refl _, by omega⟩ hlo hB ⟨none, 0, rfl, fun h => by simp at h⟩
  · have hNO : NamO w 9 lo w.heap.size gn vN ns := by
      subst e
      refine ⟨some ⟨gn, 0, none⟩, cap, rfl, fun _ => ⟨rfl, by omega, (Array.getElem?_eq_some_iff.1 hh).1, cur, hh, fun j x hx => ?_⟩⟩
      have h5 : (ns.map Value.string)[j]? = some (.string x) := by rw [List.getElem?_map, hx]; rfl
      rw [← htk, List.getElem?_take] at h5
      split at h5
      · rwa [Array.getElem?_toList] at h5
      · cases h5
    have hap := hA gn (by rw [e]; rfl)
    obtain ⟨h1, h2, h3, h4⟩ := hR
    rcases h2.2 with ⟨rfl, h0⟩ | ⟨g, cap', cur', rfl, hg, hh', hnc', hcm', hcs', htk'⟩
    · have e2 : l = [] := List.eq_nil_of_length_eq_zero h0
      subst e2
      rw [OwnJ_eq]
      exact ⟨hk0, hk1, gn, 0, #[], none, 0, [], hNO, rfl, (fun h => by simp at h), rfl, (fun i x u h => by simp at h), (fun i j u v _ h => by simp at h)⟩
    · rw [OwnJ_eq]
      refine ⟨hk0, hk1, gn, g, cur', some ⟨g, 0, none⟩, cap', ws, hNO, rfl, fun _ => ⟨rfl, by omega, (Array.getElem?_eq_some_iff.1 hh').1, fun e => hap.1 (by rw [← e]; rfl), hh'⟩, by simp [h1], fun i x u hx hu => ?_, h4⟩
      rw [List.getElem?_map] at hx
      rcases hj : l[i]? with _ | y
      · rw [hj] at hx; cases hx
      · rw [hj] at hx
        injection hx with hx
        subst hx
        obtain ⟨q1, q2, q3, q4, q5⟩ := h3 i y u hj hu
        refine ⟨fun q v hv => ?_, by omega, q2, q3, q4 g rfl, hap.2 u (List.mem_of_getElem? hu), q5⟩
        have h5 := rowCells_at l ws i y u hj hu q v hv
        rw [← htk', List.getElem?_take] at h5
        split at h5
        · rwa [Array.getElem?_toList] at h5
        · cases h5
theorem flat_own (w : World) (tS tJ : TypeId) (k : Int) (t : ByteArray) (lo hi : Nat) (h0 : 0 ≤ k) (h1 : k ≤ 255) : OwnJ w tS tJ ⟨k, t, [], []⟩ lo hi (.slice none 0 0) (.slice none 0 0) := by
  rw [OwnJ_eq]
  exact ⟨h0, h1, 0, 0, #[], none, 0, [], ⟨none, 0, rfl, fun h => by simp at h⟩, rfl, (fun h => by simp at h), rfl, (fun i x u h => by simp at h), (fun i j u v _ h => by simp at h)⟩
/-- What is known on value's way: its variables lie in the blocks A, A + 1, A + 2. -/
structure VS (w : World) (b : Nat) (d : Int) (s : List UInt8) (it : Nat) (W : World) : Prop where
  rj : RJ W b s it
  env : EnvB b w
  but : But w.heap.size b w W
  lt : b < w.heap.size
  size : w.heap.size + 3 ≤ W.heap.size
  c0 : Cel W w.heap.size 123 #[.pointer (some ⟨b, 0, none⟩)]
  c1 : Cel W (w.heap.size + 1) 3 #[.int .i64 d]
  c2 : Cel W (w.heap.size + 2) 25 zero4.toArray
section
variable {w W W' : World} {b : Nat} {d : Int} {s s' : List UInt8} {it it' : Nat}
theorem VS.step (h : VS w b d s it W) (hb : But W.heap.size b W W') (hr : RJ W' b s' it') : VS w b d s' it' W' := by
  obtain ⟨h1, h2, h3, h4, h5, h6, h7, h8⟩ := h
  have := h3.size
  have := hb.size
  exact ⟨hr, h2, h3.trans (hb.mono h3.size), h4, by omega, h6.but hb h6.lt (by omega), h7.but hb h7.lt (by omega), h8.but hb h8.lt (by omega)⟩
theorem VS.envW (h : VS w b d s it W) : EnvB b W := h.env.but h.but
theorem lay_but {A : Nat} (hb : But w.heap.size b w W) (hA : w.heap.size ≤ A) (a1 a2 a3 a4 : Value) : But w.heap.size b w (lay4 W A 0 a1 a2 a3 a4) := by
  unfold lay4
  exact (((hb.setCell (p := ⟨A, 0, none⟩) hA _).setCell (p := ⟨A, 1, none⟩) hA _).setCell (p := ⟨A, 2, none⟩) hA _).setCell (p := ⟨A, 3, none⟩) hA _
theorem VS.flat (h : VS w b d s it W) (hi : it ≤ 65536) (k : Int) (t : ByteArray) (h0 : 0 ≤ k) (h1 : k ≤ 255) (a1 a2 a3 a4 : Value) :
    ValJ b w (.ok (⟨k, t, [], []⟩, it, s)) (.returned (.agg #[.int .u8 k, .string t, .slice none 0 0, .slice none 0 0])) (lay4 W (w.heap.size + 2) 0 a1 a2 a3 a4) := by
  have := h.lt
  exact ⟨lay_but h.but (by omega) _ _ _ _, .slice none 0 0, .slice none 0 0, rfl, (lay4_other W _ _ _ _ _ _ (by omega)).trans h.rj, flat_own _ _ _ _ _ _ _ h0 h1, hi⟩
theorem IA.fin {g B : Nat} {st : SA} {v a1 a2 a3 a4 : Value} (h : IA w b d g B st s W) (hC : Cel W g 25 #[.int .u8 6, .string ⟨#[]⟩, .slice none 0 0, v]) (hR : RowO W B 9 25 v st.2) :
    ValJ b w (.ok (⟨6, ofL [], [], st.2⟩, st.1, s)) (.returned (.agg #[.int .u8 6, .string ⟨#[]⟩, .slice none 0 0, v])) (lay4 W (w.heap.size + 2) 0 a1 a2 a3 a4) := by
  obtain ⟨h1, h2, h3, h4, h5, ⟨h6, h6', h6''⟩, h7, h8, h9, v', h10, h11, h12⟩ := h
  have hs := lay4_size W (w.heap.size + 2) 0 a1 a2 a3 a4
  have hR2 : RowO (lay4 W (w.heap.size + 2) 0 a1 a2 a3 a4) B 9 25 v st.2 := hR.keep (fun k hk _ => lay4_other W _ _ _ _ _ _ (by omega)) (by omega)
  refine ⟨lay_but h3 (by omega) _ _ _ _, .slice none 0 0, v, rfl, (lay4_other W _ _ _ _ _ _ (by omega)).trans h1, ?_, h4⟩
  exact mk_own2 (lo := w.heap.size) (gn := w.heap.size) (by omega) (by omega) hR2 ⟨Nat.le_refl _, by omega⟩ (by omega) (by omega) ⟨none, 0, rfl, fun h => by simp at h⟩
theorem IO.fin {g B it : Nat} {ns ms : List ByteArray} {l : List Jsn} {vN vL a1 a2 a3 a4 : Value} {ws : List OE} (h : IO w b d g B it ms ns l s W) (hC : W.ownsRow B 9 1 vN ns.length (ns.map Value.string)) (hR : RowW W B 9 25 vL l ws) (hA : ApartN vN vL ws) :
    ValJ b w (.ok (⟨7, ofL [], ns, l⟩, it, s)) (.returned (.agg #[.int .u8 7, .string ⟨#[]⟩, vN, vL])) (lay4 W (w.heap.size + 2) 0 a1 a2 a3 a4) := by
  obtain ⟨h1, h2, h3, h4, h5, ⟨h6, h6', h6''⟩, _⟩ := h
  have hs := lay4_size W (w.heap.size + 2) 0 a1 a2 a3 a4
  have hR2 : RowW (lay4 W (w.heap.size + 2) 0 a1 a2 a3 a4) B 9 25 vL l ws := hR.keep (fun k hk _ => lay4_other W _ _ _ _ _ _ (by omega)) (by omega)
  have hN2 : (lay4 W (w.heap.size + 2) 0 a1 a2 a3 a4).ownsRow B 9 1 vN ns.length (ns.map Value.string) := ownRow_keep hC fun k hk => lay4_other W _ _ _ _ _ _ (by have := hC.lt k hk; omega)
  refine ⟨lay_but h3 (by omega) _ _ _ _, vN, vL, rfl, (lay4_other W _ _ _ _ _ _ (by omega)).trans h1, ?_, h4⟩
  exact mk_own3 (by omega) (by omega) hN2 hR2 hA (by omega) (by omega)
/-- An Array begins. -/
theorem VS.array (h : VS w b d s it W) (hi : it ≤ 65536) : IA w b d W.heap.size (W.heap.size + 1) (it, []) s (W.alloc (.cells #[.int .u8 6, .string ⟨#[]⟩, .slice none 0 0, .slice none 0 0] 25)) := by
  obtain ⟨h1, h2, h3, h4, h5, h6, h7, h8⟩ := h
  have hb : ∀ k, k < W.heap.size → (W.alloc (.cells #[.int .u8 6, .string ⟨#[]⟩, .slice none 0 0, .slice none 0 0] 25)).heap[k]? = W.heap[k]? := fun k hk => Below.heap_alloc W _ k hk
  exact ⟨(hb b (by omega)).trans h1, h2, h3.alloc h3.size _, hi, by simp, ⟨h4, by omega, by omega⟩, (hb _ (by omega)).trans h6, (hb _ (by omega)).trans h7, (hb _ (by omega)).trans h8, .slice none 0 0, Cel.fresh W 25 #[.int .u8 6, .string ⟨#[]⟩, .slice none 0 0, .slice none 0 0], RowO.nil _ _ _ _, by simp⟩
/-- An Object begins. -/
theorem VS.object (h : VS w b d s it W) (hi : it ≤ 65536) :
    IO w b d W.heap.size (W.heap.size + 3) it [] [] [] s (((W.alloc (.cells #[.int .u8 7, .string ⟨#[]⟩, .slice none 0 0, .slice none 0 0] 25)).alloc (.map #[] 0)).alloc (.cells #[.map (some (W.heap.size + 1))] 156)) := by
  obtain ⟨h1, h2, h3, h4, h5, h6, h7, h8⟩ := h
  have hC1 : Cel (W.alloc (.cells #[.int .u8 7, .string ⟨#[]⟩, .slice none 0 0, .slice none 0 0] 25)) W.heap.size 25 #[.int .u8 7, .string ⟨#[]⟩, .slice none 0 0, .slice none 0 0] := Cel.fresh _ _ _
  obtain ⟨W1, hW1⟩ : ∃ W1, W.alloc (.cells #[.int .u8 7, .string ⟨#[]⟩, .slice none 0 0, .slice none 0 0] 25) = W1 := ⟨_, rfl⟩
  have hs1 : W1.heap.size = W.heap.size + 1 := by rw [← hW1]; simp
  have hb1 : ∀ k, k < W.heap.size → W1.heap[k]? = W.heap[k]? := fun k hk => by rw [← hW1]; exact Below.heap_alloc W _ k hk
  have hB1 : But w.heap.size b w W1 := by rw [← hW1]; exact h3.alloc h3.size _
  rw [hW1] at hC1 ⊢
  clear hW1
  have hom := (World.ownsMap_made (H := Unit) W1 Tryz.prog 9 (plainElem Tryz.prog 3)).alloc (.cells #[.map (some (W.heap.size + 1))] 156)
  have hf := Cel.fresh (W1.alloc (.map #[] 0)) 156 #[.map (some (W.heap.size + 1))]
  obtain ⟨W2, hW2⟩ : ∃ W2, (W1.alloc (.map #[] 0)).alloc (.cells #[.map (some (W.heap.size + 1))] 156) = W2 := ⟨_, rfl⟩
  have hs2 : W2.heap.size = W.heap.size + 3 := by rw [← hW2]; simp [hs1]
  have hb2 : ∀ k, k < W1.heap.size → W2.heap[k]? = W1.heap[k]? := fun k hk => by rw [← hW2]; exact (Below.heap_alloc (W1.alloc (.map #[] 0)) _ k (by simp; omega)).trans (Below.heap_alloc W1 _ k hk)
  have hB2 : But w.heap.size b w W2 := by rw [← hW2]; exact (hB1.alloc (by have := h3.size; omega) _).alloc (by have := h3.size; simp; omega) _
  have hsz : (W1.alloc (.map #[] 0)).heap.size = W.heap.size + 2 := by simp [hs1]
  rw [hsz] at hf
  rw [hs1] at hom
  rw [hW2] at hf hom ⊢
  clear hW2
  have hb : ∀ k, k < W.heap.size → W2.heap[k]? = W.heap[k]? := fun k hk => (hb2 k (by omega)).trans (hb1 k hk)
  exact ⟨(hb b (by omega)).trans h1, h2, hB2, hi, by omega, ⟨h4, by omega, by omega⟩, (hb _ (by omega)).trans h6, (hb _ (by omega)).trans h7, (hb _ (by omega)).trans h8, hf, ⟨.map [], 0, Nat.zero_le _, hom, fun x => rfl⟩,
    ⟨.slice none 0 0, .slice none 0 0, [], (hb2 _ (by omega)).trans hC1, World.ownsRow_nil _ _ _ _, ⟨rfl, World.ownsRow_nil _ _ _ _, (fun i x u h => by simp at h), (fun i j u z _ h => by simp at h)⟩, fun gn h => by cases h⟩, by simp⟩
end
theorem enA : ∀ args w, (callFunc 140 args).run Tryz.prog w = .ok (.enter 140 args) w := fun _ _ => by kernel_rfl
theorem enO : ∀ args w, (callFunc 141 args).run Tryz.prog w = .ok (.enter 141 args) w := fun _ _ => by kernel_rfl
end Go.Proofs.YtblohaljnleeiaaGreatDoor
