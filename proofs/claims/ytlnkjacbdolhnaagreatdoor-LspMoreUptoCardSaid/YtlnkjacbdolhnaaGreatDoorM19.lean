/-
  The walk of the JSON reader's closure that reads one member of an Object.
-/
import Derived.Test.YtlnkjacbdolhnaaGreatDoorM18
import Derived.Test.YtlnkjacbdolhnaaGreatDoorM15
import Derived.Test.YtlnkjacbdolhnaaGreatDoorM14
import Derived.BigQuiet
namespace Go.Proofs.YtlnkjacbdolhnaaGreatDoor
open Go.RowKit Go.WideMaps Go.Maps

end Go.Proofs.YtlnkjacbdolhnaaGreatDoor


/-
  The walk of the JSON reader's value: what is known on its way, and its ends.
-/
namespace Go.Proofs.YtlnkjacbdolhnaaGreatDoor
open Go.RowKit

/-- A value of the call's own, out of a row of values and a row of names apart from it. -/
theorem mk_own3 {w : World} {B lo : Nat} {tJ : TypeId} {vN vL : Value} {k : Int} {s : ByteArray} {ns : List ByteArray} {l : List Jsn} {ws : List OE} (hk0 : 0 ≤ k) (hk1 : k ≤ 255) (hN : w.ownsRow B 9 1 vN ns.length (ns.map Value.string)) (hR : RowW w B 9 tJ vL l ws) (hA : ApartN vN vL ws) (hlo : lo < B) (hB : B ≤ w.heap.size) :
    OwnJ w 9 tJ ⟨k, s, ns, l⟩ lo w.heap.size vN vL := by
  rcases hN.2 with ⟨e, h0⟩ | ⟨gn, cap, cur, e, hgn, hh, hnc, hcm, hcs, htk⟩
  · have e2 : ns = [] := List.eq_nil_of_length_eq_zero h0
    subst e2
    subst e
    exact mk_own2 (lo := lo) (gn := lo) hk0 hk1 ⟨ws, hR⟩ ⟨Nat.le_refl _, by omega⟩ hlo hB ⟨none, 0, rfl, fun h => by simp at h⟩
  · have hNO : NamO w 9 lo w.heap.size gn vN ns := by
      subst e
      refine ⟨some ⟨gn, 0, none⟩, cap, rfl, fun _ => ⟨rfl, by omega, (Array.getElem?_eq_some_iff.1 hh).1, cur, hh, fun j x hx => ?_⟩⟩
      have h5 : (ns.map Value.string)[j]? = some (.string x) := by rw [List.getElem?_map, hx]; rfl
      rw [← htk, List.getElem?_take] at h5
      split at h5
      · rwa [Array.getElem?_toList] at h5
      · cases h5
    have hap := hA gn (by rw [e]; rfl)
    obtain ⟨h1, h2, h3, h4⟩ := hR
    rcases h2.2 with ⟨rfl, h0⟩ | ⟨g, cap', cur', rfl, hg, hh', hnc', hcm', hcs', htk'⟩
    · have e2 : l = [] := List.eq_nil_of_length_eq_zero h0
      subst e2
      rw [OwnJ_eq]
      exact ⟨hk0, hk1, gn, 0, #[], none, 0, [], hNO, rfl, (fun h => by simp at h), rfl, (fun i x u h => by simp at h), (fun i j u v _ h => by simp at h)⟩
    · rw [OwnJ_eq]
      refine ⟨hk0, hk1, gn, g, cur', some ⟨g, 0, none⟩, cap', ws, hNO, rfl, fun _ => ⟨rfl, by omega, (Array.getElem?_eq_some_iff.1 hh').1, fun e => hap.1 (by rw [← e]; rfl), hh'⟩, by simp [h1], fun i x u hx hu => ?_, h4⟩
      rw [List.getElem?_map] at hx
      rcases hj : l[i]? with _ | y
      · rw [hj] at hx; cases hx
      · rw [hj] at hx
        injection hx with hx
        subst hx
        obtain ⟨q1, q2, q3, q4, q5⟩ := h3 i y u hj hu
        refine ⟨fun q v hv => ?_, by omega, q2, q3, q4 g rfl, hap.2 u (List.mem_of_getElem? hu), q5⟩
        have h5 := rowCells_at l ws i y u hj hu q v hv
        rw [← htk', List.getElem?_take] at h5
        split at h5
        · rwa [Array.getElem?_toList] at h5
        · cases h5
/-- What is known on value's way: its variables lie in the blocks A, A + 1, A + 2. -/
structure VS (w : World) (b : Nat) (d : Int) (s : List UInt8) (it : Nat) (W : World) : Prop where
  rj : RJ W b s it
  env : EnvB b w
  but : But w.heap.size b w W
  lt : b < w.heap.size
  size : w.heap.size + 3 ≤ W.heap.size
  c0 : Cel W w.heap.size 86 #[.pointer (some ⟨b, 0, none⟩)]
  c1 : Cel W (w.heap.size + 1) 3 #[.int .i64 d]
  c2 : Cel W (w.heap.size + 2) 25 zero4.toArray
section
variable {w W W' : World} {b : Nat} {d : Int} {s s' : List UInt8} {it it' : Nat}
theorem VS.step (h : VS w b d s it W) (hb : But W.heap.size b W W') (hr : RJ W' b s' it') : VS w b d s' it' W' := by
  obtain ⟨h1, h2, h3, h4, h5, h6, h7, h8⟩ := h
  have := h3.size
  have := hb.size
  exact ⟨hr, h2, h3.trans (hb.mono h3.size), h4, by omega, h6.but hb h6.lt (by omega), h7.but hb h7.lt (by omega), h8.but hb h8.lt (by omega)⟩
theorem VS.envW (h : VS w b d s it W) : EnvB b W := h.env.but h.but
theorem lay_but {A : Nat} (hb : But w.heap.size b w W) (hA : w.heap.size ≤ A) (a1 a2 a3 a4 : Value) : But w.heap.size b w (lay4 W A 0 a1 a2 a3 a4) := by
  unfold lay4
  exact (((hb.setCell (p := ⟨A, 0, none⟩) hA _).setCell (p := ⟨A, 1, none⟩) hA _).setCell (p := ⟨A, 2, none⟩) hA _).setCell (p := ⟨A, 3, none⟩) hA _
theorem IA.fin {g B : Nat} {st : SA} {v a1 a2 a3 a4 : Value} (h : IA w b d g B st s W) (_hC : Cel W g 25 #[.int .u8 6, .string ⟨#[]⟩, .slice none 0 0, v]) (hR : RowO W B 9 25 v st.2) :
    ValJ b w (.ok (⟨6, ofL [], [], st.2⟩, st.1, s)) (.returned (.agg #[.int .u8 6, .string ⟨#[]⟩, .slice none 0 0, v])) (lay4 W (w.heap.size + 2) 0 a1 a2 a3 a4) := by
  obtain ⟨h1, h2, h3, h4, h5, ⟨h6, h6', h6''⟩, h7, h8, h9, v', h10, h11, h12⟩ := h
  have hs := lay4_size W (w.heap.size + 2) 0 a1 a2 a3 a4
  have hR2 : RowO (lay4 W (w.heap.size + 2) 0 a1 a2 a3 a4) B 9 25 v st.2 := hR.keep (fun k hk _ => lay4_other W _ _ _ _ _ _ (by omega)) (by omega)
  refine ⟨lay_but h3 (by omega) _ _ _ _, .slice none 0 0, v, rfl, (lay4_other W _ _ _ _ _ _ (by omega)).trans h1, ?_, h4⟩
  exact mk_own2 (lo := w.heap.size) (gn := w.heap.size) (by omega) (by omega) hR2 ⟨Nat.le_refl _, by omega⟩ (by omega) (by omega) ⟨none, 0, rfl, fun h => by simp at h⟩
theorem IO.fin {g B it : Nat} {ns ms : List ByteArray} {l : List Jsn} {vN vL a1 a2 a3 a4 : Value} {ws : List OE} (h : IO w b d g B it ms ns l s W) (hC : W.ownsRow B 9 1 vN ns.length (ns.map Value.string)) (hR : RowW W B 9 25 vL l ws) (hA : ApartN vN vL ws) :
    ValJ b w (.ok (⟨7, ofL [], ns, l⟩, it, s)) (.returned (.agg #[.int .u8 7, .string ⟨#[]⟩, vN, vL])) (lay4 W (w.heap.size + 2) 0 a1 a2 a3 a4) := by
  obtain ⟨h1, h2, h3, h4, h5, ⟨h6, h6', h6''⟩, _⟩ := h
  have hs := lay4_size W (w.heap.size + 2) 0 a1 a2 a3 a4
  have hR2 : RowW (lay4 W (w.heap.size + 2) 0 a1 a2 a3 a4) B 9 25 vL l ws := hR.keep (fun k hk _ => lay4_other W _ _ _ _ _ _ (by omega)) (by omega)
  have hN2 : (lay4 W (w.heap.size + 2) 0 a1 a2 a3 a4).ownsRow B 9 1 vN ns.length (ns.map Value.string) := ownRow_keep hC fun k hk => lay4_other W _ _ _ _ _ _ (by have := hC.lt k hk; omega)
  refine ⟨lay_but h3 (by omega) _ _ _ _, vN, vL, rfl, (lay4_other W _ _ _ _ _ _ (by omega)).trans h1, ?_, h4⟩
  exact mk_own3 (by omega) (by omega) hN2 hR2 hA (by omega) (by omega)
/-- An Array begins. -/
theorem VS.array (h : VS w b d s it W) (hi : it ≤ 65536) : IA w b d W.heap.size (W.heap.size + 1) (it, []) s (W.alloc (.cells #[.int .u8 6, .string ⟨#[]⟩, .slice none 0 0, .slice none 0 0] 25)) := by
  obtain ⟨h1, h2, h3, h4, h5, h6, h7, h8⟩ := h
  have hb : ∀ k, k < W.heap.size → (W.alloc (.cells #[.int .u8 6, .string ⟨#[]⟩, .slice none 0 0, .slice none 0 0] 25)).heap[k]? = W.heap[k]? := fun k hk => Below.heap_alloc W _ k hk
  exact ⟨(hb b (by omega)).trans h1, h2, h3.alloc h3.size _, hi, by simp, ⟨h4, by omega, by omega⟩, (hb _ (by omega)).trans h6, (hb _ (by omega)).trans h7, (hb _ (by omega)).trans h8, .slice none 0 0, Cel.fresh W 25 #[.int .u8 6, .string ⟨#[]⟩, .slice none 0 0, .slice none 0 0], RowO.nil _ _ _ _, by simp⟩
/-- An Object begins. -/
theorem VS.object (h : VS w b d s it W) (hi : it ≤ 65536) :
    IO w b d W.heap.size (W.heap.size + 3) it [] [] [] s (((W.alloc (.cells #[.int .u8 7, .string ⟨#[]⟩, .slice none 0 0, .slice none 0 0] 25)).alloc (.map #[] 0)).alloc (.cells #[.map (some (W.heap.size + 1))] 140)) := by
  obtain ⟨h1, h2, h3, h4, h5, h6, h7, h8⟩ := h
  have hC1 : Cel (W.alloc (.cells #[.int .u8 7, .string ⟨#[]⟩, .slice none 0 0, .slice none 0 0] 25)) W.heap.size 25 #[.int .u8 7, .string ⟨#[]⟩, .slice none 0 0, .slice none 0 0] := Cel.fresh _ _ _
  obtain ⟨W1, hW1⟩ : ∃ W1, W.alloc (.cells #[.int .u8 7, .string ⟨#[]⟩, .slice none 0 0, .slice none 0 0] 25) = W1 := ⟨_, rfl⟩
  have hs1 : W1.heap.size = W.heap.size + 1 := by rw [← hW1]; simp
  have hb1 : ∀ k, k < W.heap.size → W1.heap[k]? = W.heap[k]? := fun k hk => by rw [← hW1]; exact Below.heap_alloc W _ k hk
  have hB1 : But w.heap.size b w W1 := by rw [← hW1]; exact h3.alloc h3.size _
  rw [hW1] at hC1 ⊢
  clear hW1
  have hom := (World.ownsMap_made (H := Unit) W1 Tryz.prog 9 (plainElem Tryz.prog 3)).alloc (.cells #[.map (some (W.heap.size + 1))] 140)
  have hf := Cel.fresh (W1.alloc (.map #[] 0)) 140 #[.map (some (W.heap.size + 1))]
  obtain ⟨W2, hW2⟩ : ∃ W2, (W1.alloc (.map #[] 0)).alloc (.cells #[.map (some (W.heap.size + 1))] 140) = W2 := ⟨_, rfl⟩
  have hs2 : W2.heap.size = W.heap.size + 3 := by rw [← hW2]; simp [hs1]
  have hb2 : ∀ k, k < W1.heap.size → W2.heap[k]? = W1.heap[k]? := fun k hk => by rw [← hW2]; exact (Below.heap_alloc (W1.alloc (.map #[] 0)) _ k (by simp; omega)).trans (Below.heap_alloc W1 _ k hk)
  have hB2 : But w.heap.size b w W2 := by rw [← hW2]; exact (hB1.alloc (by have := h3.size; omega) _).alloc (by have := h3.size; simp; omega) _
  have hsz : (W1.alloc (.map #[] 0)).heap.size = W.heap.size + 2 := by simp [hs1]
  rw [hsz] at hf
  rw [hs1] at hom
  rw [hW2] at hf hom ⊢
  clear hW2
  have hb : ∀ k, k < W.heap.size → W2.heap[k]? = W.heap[k]? := fun k hk => (hb2 k (by omega)).trans (hb1 k hk)
  exact ⟨(hb b (by omega)).trans h1, h2, hB2, hi, by omega, ⟨h4, by omega, by omega⟩, (hb _ (by omega)).trans h6, (hb _ (by omega)).trans h7, (hb _ (by omega)).trans h8, hf, ⟨.map [], 0, Nat.zero_le _, hom, fun x => rfl⟩,
    ⟨.slice none 0 0, .slice none 0 0, [], (hb2 _ (by omega)).trans hC1, World.ownsRow_nil _ _ _ _, ⟨rfl, World.ownsRow_nil _ _ _ _, (fun i x u h => by simp at h), (fun i j u z _ h => by simp at h)⟩, fun gn h => by cases h⟩, by simp⟩
end
end Go.Proofs.YtlnkjacbdolhnaaGreatDoor


/-
  An object under construction in a box of its own: a name and a value more (plain: the memory that rpc.Write's put leaves).
-/
namespace Go.Proofs.YtlnkjacbdolhnaaGreatDoor
open Go.RowKit

/-- The rows of an object under construction: names, values, apart from each other. -/
def ObjR (W : World) (B : Nat) (o : Jsn) (vN vL : Value) (ws : List OE) : Prop :=
  W.ownsRow B 9 1 vN o.names.length (o.names.map Value.string) ∧ RowW W B 9 25 vL o.list ws ∧ ApartN vN vL ws
theorem ObjR.keep {W W' : World} {B : Nat} {o : Jsn} {vN vL : Value} {ws : List OE} (h : ObjR W B o vN vL ws) (hk : ∀ k, B ≤ k → k < W.heap.size → W'.heap[k]? = W.heap[k]?) (hs : W.heap.size ≤ W'.heap.size) : ObjR W' B o vN vL ws :=
  ⟨ownRow_keep h.1 (fun g hg => by have := h.1.lt g hg; exact hk g this.1 this.2), h.2.1.keep hk hs, h.2.2⟩
theorem ObjR.nil (W : World) (B : Nat) (k : Int) (s : ByteArray) : ObjR W B ⟨k, s, [], []⟩ (.slice none 0 0) (.slice none 0 0) [] :=
  ⟨⟨rfl, .inl ⟨rfl, rfl⟩⟩, ⟨rfl, ⟨rfl, .inl ⟨rfl, rfl⟩⟩, fun i x u h => by simp at h, fun i j u z _ h => by simp at h⟩, fun gn h => by cases h⟩
set_option maxRecDepth 100000 in
/-- A name more. -/
theorem ObjR.name {W : World} {B : Nat} {o : Jsn} {vN vL : Value} {ws : List OE} (h : ObjR W B o vN vL ws) (hB : B ≤ W.heap.size) (S : ByteArray) (hn : o.names.length ≤ 1000000) :
    ∃ v' w4, (Builtin.append_ #[22, 22] 22 #[vN, .slice (some ⟨W.heap.size, 0, none⟩) 1 1]).run Tryz.prog (W.alloc (.cells #[.string S] 9)) = .ok v' w4 ∧
      ObjR w4 B ⟨o.kind, o.text, o.names ++ [S], o.list⟩ v' vL ws ∧ (W.alloc (.cells #[.string S] 9)).grownBy w4 vN.ownBlock ∧ W.heap.size < w4.heap.size ∧ (v'.ownBlock = vN.ownBlock ∨ ∃ k, v'.ownBlock = some k ∧ W.heap.size ≤ k) := by
  obtain ⟨q2, q3, q4⟩ := h
  obtain ⟨i0, hi0, hz0, hz1, hz2⟩ := info_parts infoS
  obtain ⟨v', w4, hrun, r2, r3, _, r5⟩ := run_append_own_at (P := Tryz.prog) (W.alloc (.cells #[.string S] 9)) B 22 22 9 i0 _ 1 16 Tryz.underlying22 hi0 hz0 hz1 hz2 rfl (by decide) vN o.names.length (o.names.map Value.string) (q2.alloc _) ⟨W.heap.size, 0, none⟩ 1 1 [.string S] rfl
    (fun j u hu => by
      have hadd : (⟨W.heap.size, 0, none⟩ : Addr).add j = ⟨W.heap.size, j, none⟩ := by unfold Addr.add; split <;> simp_all
      rw [hadd, (Cel.fresh W 9 #[.string S]).cell]
      simpa using hu)
    (fun u hu => by simp at hu; rw [hu]; rfl) (by unfold maxLen; omega) (by omega) (by simp; omega)
  have hvb : ∀ g', Value.ownBlock v' = some g' → Value.ownBlock vN = some g' ∨ W.heap.size + 1 = g' := fun g' hg => by
    rcases r5 with e | e
    · exact .inl (e ▸ hg)
    · right; rw [e] at hg; injection hg with hg; simpa using hg
  have hsz : W.heap.size < w4.heap.size := by have := r3.size; simp at this; omega
  have hblk : ∀ k, k < W.heap.size → Value.ownBlock vN ≠ some k → w4.heap[k]? = W.heap[k]? := fun k hk hne =>
    (r3.block k (by simp; omega) (fun e => hne e.symm)).trans (Below.heap_alloc W _ k hk)
  have hv5 : v'.ownBlock = vN.ownBlock ∨ ∃ k, v'.ownBlock = some k ∧ W.heap.size ≤ k := by
    rcases r5 with e | e
    · exact .inl e
    · exact .inr ⟨_, e, by simp⟩
  refine ⟨v', w4, hrun, ⟨?_, ?_, ?_⟩, r3, hsz, hv5⟩
  · have : (o.names ++ [S]).map Value.string = o.names.map Value.string ++ [.string S] := by simp
    rw [this, List.length_append]
    exact r2
  · refine ⟨q3.1, ownRow_keep q3.2.1 (fun k hk => ?_), fun i x u hx hu => ?_, q3.2.2.2⟩
    · have := q3.2.1.lt k hk
      exact hblk k this.2 (fun e => (q4 k e).1 hk)
    · obtain ⟨p1, p2, p3, p4, p5⟩ := q3.2.2.1 i x u hx hu
      exact ⟨p1, p2, by omega, p4, OwnJ.keep x p5 (fun c hc1 hc2 => hblk c (by omega) (fun e => (q4 c e).2 u (List.mem_of_getElem? hu) ⟨hc1, hc2⟩)) (Nat.le_refl _) (Nat.le_refl _)⟩
  · intro gn hgn
    rcases hvb gn hgn with e | e
    · exact q4 gn e
    · refine ⟨fun e2 => ?_, fun u hu => ?_⟩
      · have := q3.2.1.lt gn e2; omega
      · have := q3.ends u hu; omega
set_option maxRecDepth 100000 in
/-- A value more: it lies in memory made behind all that the rows hold. -/
theorem ObjR.value {W w2 : World} {B : Nat} {o x : Jsn} {vN vL xn xl : Value} {ws : List OE} (h : ObjR W B o vN vL ws) (hB : B ≤ W.heap.size) (h12 : Below W.heap.size W w2) (hx : OwnJ w2 9 25 x W.heap.size w2.heap.size xn xl) (hl : o.list.length ≤ 1000000000000) :
    ∃ v' w4, (Builtin.append_ #[23, 23] 23 #[vL, .slice (some ⟨w2.heap.size, 0, none⟩) 1 1]).run Tryz.prog (w2.alloc (.cells #[.int .u8 x.kind, .string x.text, xn, xl] 25)) = .ok v' w4 ∧
      ObjR w4 B ⟨o.kind, o.text, o.names, o.list ++ [x]⟩ vN v' (ws ++ [(xn, xl, W.heap.size, w2.heap.size)]) ∧ (w2.alloc (.cells #[.int .u8 x.kind, .string x.text, xn, xl] 25)).grownBy w4 vL.ownBlock ∧ (v'.ownBlock = vL.ownBlock ∨ ∃ k, v'.ownBlock = some k ∧ W.heap.size ≤ k) := by
  obtain ⟨i0, hi0, hz0, hz1, hz2⟩ := info_parts infoJ
  have hs := h12.size
  have h2 := h.keep (W' := w2) (fun k _ hk => h12.block k hk) hs
  have hend := h.2.1.ends
  have hlt := h.2.1.2.1.lt
  have hnt := h.1.lt
  obtain ⟨Ax, nx, cx, Ay, ny, cy, e1, e2⟩ := hx.forms
  obtain ⟨W3, hW3⟩ : ∃ W3, w2.alloc (.cells #[.int .u8 x.kind, .string x.text, xn, xl] 25) = W3 := ⟨_, rfl⟩
  have hs3 : W3.heap.size = w2.heap.size + 1 := by rw [← hW3]; simp
  have hb3 : ∀ k, k < w2.heap.size → W3.heap[k]? = w2.heap[k]? := fun k hk => by rw [← hW3]; exact Below.heap_alloc w2 _ k hk
  have h3 := h2.keep (W' := W3) (fun k _ hk => hb3 k hk) (by omega)
  have hx3 := OwnJ.keep (w' := W3) x hx (fun k _ hk => hb3 k hk) (Nat.le_refl _) (Nat.le_refl _)
  have hcf : Cel W3 w2.heap.size 25 #[.int .u8 x.kind, .string x.text, xn, xl] := by rw [← hW3]; exact Cel.fresh _ _ _
  rw [hW3]
  clear hW3
  obtain ⟨v', w4, hrun, r2, r3, _, r5⟩ := run_append_own_at (P := Tryz.prog) W3 B 23 23 25 i0 _ 4 72 Tryz.underlying23 hi0 hz0 hz1 hz2 rfl (by decide) vL o.list.length (rowCells o.list ws) h3.2.1.2.1 ⟨w2.heap.size, 0, none⟩ 1 1 (encJ (x, xn, xl)) rfl
    (fun j u hu => by
      have hadd : (⟨w2.heap.size, 0, none⟩ : Addr).add j = ⟨w2.heap.size, j, none⟩ := by unfold Addr.add; split <;> simp_all
      rw [hadd, hcf.cell]
      simpa [encJ] using hu)
    (fun u hu => by subst e1; subst e2; simp [encJ] at hu; rcases hu with rfl | rfl | rfl | rfl <;> rfl) (by unfold maxLen; omega) (by omega) (by omega)
  have hvb : v'.ownBlock = vL.ownBlock ∨ ∃ k, v'.ownBlock = some k ∧ W3.heap.size ≤ k := by
    rcases r5 with e | e
    · exact .inl e
    · exact .inr ⟨_, e, Nat.le_refl _⟩
  have hrow := RowW.snoc2 h3.2.1 hend hB hs (by omega) hx3 (fun g hg => by have := hlt g hg; omega) r2 r3 hvb
  refine ⟨v', w4, hrun, ⟨?_, hrow, ?_⟩, r3, hvb.imp id (fun ⟨k, e, hk⟩ => ⟨k, e, by omega⟩)⟩
  · refine ownRow_keep h3.1 (fun g hg => ?_)
    have := hnt g hg
    exact r3.block g (by omega) (fun e => (h.2.2 g hg).1 e.symm)
  · intro gn hgn
    have := hnt gn hgn
    refine ⟨fun e => ?_, fun u hu => ?_⟩
    · rcases hvb with e' | ⟨k, e', hk⟩
      · exact (h.2.2 gn hgn).1 (by rw [← e']; exact e)
      · rw [e'] at e; injection e with e; omega
    · rw [List.mem_append] at hu
      rcases hu with hu | hu
      · exact (h.2.2 gn hgn).2 u hu
      · simp at hu; subst hu; dsimp only; omega
end Go.Proofs.YtlnkjacbdolhnaaGreatDoor


/-
  A region that draws its order: what is kept always (T), what is kept till the region's own store number q (S). No program.
-/
namespace Go.Proofs.YtlnkjacbdolhnaaGreatDoor

section
variable {P : Program} {ops : Array Oper} {Q : Exit → Act → World → Prop} {md : Region.Mode} {T S : World → Prop} {q : Nat}
/-- Whatever order is picked: T holds always, S till number q has come up. -/
def wpAnyT (P : Program) (md : Region.Mode) (ops : Array Oper) (Q : Exit → Act → World → Prop) (T S : World → Prop) (q : Nat) : Nat → Array Bool → Act → World → Prop
  | 0, listed, a, w => Region.ready md ops listed = [] ∧ Q .normal a w
  | fuel + 1, listed, a, w => (Region.ready md ops listed = [] → Q .normal a w) ∧
    ∀ i ∈ Region.ready md ops listed, wpOp P ops Q i (fun a' w' => (((listed.setIfInBounds i true).getD q true = false → S w') ∧ T w') ∧ wpAnyT P md ops Q T S q fuel (listed.setIfInBounds i true) a' w') a w
theorem wpAny_of_T : ∀ (fuel : Nat) (listed : Array Bool) (a : Act) (w : World), wpAnyT P md ops Q T S q fuel listed a w → wpAny P md ops Q fuel listed a w
  | 0, _, _, _, h => h
  | fuel + 1, _, _, _, h => ⟨h.1, fun i hi => wpOp_mono (fun a' w' h' => wpAny_of_T fuel _ a' w' h'.2) (h.2 i hi)⟩
/-- One that yields in every world of S, and for which number q waits, may be taken first. -/
theorem wpAnyT_first {i : Nat} {oi oq : Oper} {v : Value} (hi : ops[i]? = some oi) (hq : ops[q]? = some oq) (hqi : ∃ e ∈ oq.after, Region.binds md e = true ∧ e.on = i) (hsel : ∀ (j : Nat) (o : Oper) cs b, ops[j]? = some o → o.op ≠ .select cs b)
    (hQ : ∀ c a w, Q (.panic c) (a.put oi.dst v) w → Q (.panic c) a w) : ∀ (fuel : Nat) (listed : Array Bool) (a : Act) (w : World),
      (∀ j oj, ops[j]? = some oj → j ≠ i → listed.getD j true = false → (∀ e ∈ oj.after, Region.binds md e = true → e.on ≠ i) → oi.apart ops oj = true) →
      i ∈ Region.ready md ops listed → YieldsIf P ops S oi v a → S w → T w → listed.getD q true = false →
      wpAnyT P md ops Q T S q fuel (listed.setIfInBounds i true) (a.put oi.dst v) w → wpAnyT P md ops Q T S q (fuel + 1) listed a w := by
  intro fuel
  induction fuel with
  | zero =>
    intro listed a w _ hr hy hS hT _ H
    refine ⟨fun h => (by rw [h] at hr; cases hr), fun j hj => ?_⟩
    by_cases hji : j = i
    · subst hji; exact hy.wpOp hi hS ⟨⟨fun _ => hS, hT⟩, H⟩
    · have := ready_mono hj hji
      rw [H.1] at this
      cases this
  | succ fuel ih =>
    intro listed a w hfree hr hy hS hT hlq H
    refine ⟨fun h => (by rw [h] at hr; cases hr), fun j hj => ?_⟩
    by_cases hji : j = i
    · subst hji; exact hy.wpOp hi hS ⟨⟨fun _ => hS, hT⟩, H⟩
    · have h1 := H.2 j (ready_mono hj hji)
      obtain ⟨hjun, oj, hoj, hall⟩ := mem_ready.1 hj
      have hnot : ∀ e ∈ oj.after, Region.binds md e = true → e.on ≠ i := fun e he hb heq => by
        have h1 := hall e he hb
        have h0 := (mem_ready.1 hr).1
        rw [heq] at h1
        rcases Nat.lt_or_ge i listed.size with h' | h'
        · simp [h'] at h0 h1; rw [h0] at h1; cases h1
        · simp [Array.getElem?_eq_none h'] at h1
      have hjq : j ≠ q := fun e => by
        subst e
        rw [hoj] at hq
        injection hq with hq
        subst hq
        obtain ⟨e, he, hb, hei⟩ := hqi
        exact hnot e he hb hei
      have h2 := wpOp_putIf hoj (hfree j oj hoj hji hjun hnot) (fun cs b => hsel i oi cs b hi) (fun cs b => hsel j oj cs b hoj) hQ hy h1
      have hfree' : ∀ k ok, ops[k]? = some ok → k ≠ i → (listed.setIfInBounds j true).getD k true = false → (∀ e ∈ ok.after, Region.binds md e = true → e.on ≠ i) → oi.apart ops ok = true := fun k ok hk hki hun hno => by
        refine hfree k ok hk hki ?_ hno
        by_cases hjk : j = k
        · subst hjk; exact hjun
        · rw [getD_set_ne true hjk] at hun; exact hun
      have hq1 : (listed.setIfInBounds j true).getD q true = false := by rw [getD_set_ne true hjq]; exact hlq
      have hiq : i ≠ q := fun e => by
        subst e
        have h0 := (mem_ready.1 hr).2
        obtain ⟨o, ho, hall⟩ := h0
        rw [hq] at ho
        injection ho with ho
        subst ho
        obtain ⟨e, he, hb, hei⟩ := hqi
        have h1 := hall e he hb
        rw [hei] at h1
        rcases Nat.lt_or_ge i listed.size with h' | h'
        · simp [h'] at hlq h1; rw [hlq] at h1; cases h1
        · simp [Array.getElem?_eq_none h'] at h1
      have hq2 : ((listed.setIfInBounds i true).setIfInBounds j true).getD q true = false := by rw [getD_set_ne true hjq, getD_set_ne true hiq]; exact hlq
      refine wpOp_mono (fun a' w' h3 => ⟨⟨fun _ => h3.2.1.1 hq2, h3.2.1.2⟩, ih (listed.setIfInBounds j true) a' w' hfree' (ready_mono hr (Ne.symm hji)) h3.1 (h3.2.1.1 hq2) h3.2.1.2 hq1 ?_⟩) h2
      rw [Array.setIfInBounds_comm _ _ hji]
      exact h3.2.2
/-- One that yields in every world of T may be taken first. -/
theorem wpAnyT_firstW {i : Nat} {oi : Oper} {v : Value} (hi : ops[i]? = some oi) (hiq : i ≠ q) (hsel : ∀ (j : Nat) (o : Oper) cs b, ops[j]? = some o → o.op ≠ .select cs b)
    (hQ : ∀ c a w, Q (.panic c) (a.put oi.dst v) w → Q (.panic c) a w) : ∀ (fuel : Nat) (listed : Array Bool) (a : Act) (w : World),
      (∀ j oj, ops[j]? = some oj → j ≠ i → listed.getD j true = false → (∀ e ∈ oj.after, Region.binds md e = true → e.on ≠ i) → oi.apart ops oj = true) →
      i ∈ Region.ready md ops listed → YieldsIf P ops T oi v a → (listed.getD q true = false → S w) → T w →
      wpAnyT P md ops Q T S q fuel (listed.setIfInBounds i true) (a.put oi.dst v) w → wpAnyT P md ops Q T S q (fuel + 1) listed a w := by
  intro fuel
  induction fuel with
  | zero =>
    intro listed a w _ hr hy hS hT H
    refine ⟨fun h => (by rw [h] at hr; cases hr), fun j hj => ?_⟩
    by_cases hji : j = i
    · subst hji; exact hy.wpOp hi hT ⟨⟨fun h => hS (by rw [getD_set_ne true hiq] at h; exact h), hT⟩, H⟩
    · have := ready_mono hj hji
      rw [H.1] at this
      cases this
  | succ fuel ih =>
    intro listed a w hfree hr hy hS hT H
    refine ⟨fun h => (by rw [h] at hr; cases hr), fun j hj => ?_⟩
    by_cases hji : j = i
    · subst hji; exact hy.wpOp hi hT ⟨⟨fun h => hS (by rw [getD_set_ne true hiq] at h; exact h), hT⟩, H⟩
    · have h1 := H.2 j (ready_mono hj hji)
      obtain ⟨hjun, oj, hoj, hall⟩ := mem_ready.1 hj
      have hnot : ∀ e ∈ oj.after, Region.binds md e = true → e.on ≠ i := fun e he hb heq => by
        have h1 := hall e he hb
        have h0 := (mem_ready.1 hr).1
        rw [heq] at h1
        rcases Nat.lt_or_ge i listed.size with h' | h'
        · simp [h'] at h0 h1; rw [h0] at h1; cases h1
        · simp [Array.getElem?_eq_none h'] at h1
      have h2 := wpOp_putIf hoj (hfree j oj hoj hji hjun hnot) (fun cs b => hsel i oi cs b hi) (fun cs b => hsel j oj cs b hoj) hQ hy h1
      have hfree' : ∀ k ok, ops[k]? = some ok → k ≠ i → (listed.setIfInBounds j true).getD k true = false → (∀ e ∈ ok.after, Region.binds md e = true → e.on ≠ i) → oi.apart ops ok = true := fun k ok hk hki hun hno => by
        refine hfree k ok hk hki ?_ hno
        by_cases hjk : j = k
        · subst hjk; exact hjun
        · rw [getD_set_ne true hjk] at hun; exact hun
      have hsw : ((listed.setIfInBounds i true).setIfInBounds j true).getD q true = (listed.setIfInBounds j true).getD q true := by
        rw [Array.setIfInBounds_comm _ _ (Ne.symm hji), getD_set_ne true hiq]
      refine wpOp_mono (fun a' w' h3 => ⟨⟨fun h => h3.2.1.1 (hsw.trans h), h3.2.1.2⟩, ih (listed.setIfInBounds j true) a' w' hfree' (ready_mono hr (Ne.symm hji)) h3.1 (fun h => h3.2.1.1 (hsw.trans h)) h3.2.1.2 ?_⟩) h2
      rw [Array.setIfInBounds_comm _ _ hji]
      exact h3.2.2
theorem wpAnyT_takeW {i : Nat} {oi : Oper} {v : Value} {fuel : Nat} {listed : Array Bool} {a : Act} {w : World} (hi : ops[i]? = some oi)
    (hs : Region.noSelect ops = true) (hf : Region.free md ops listed i = true) (hr : (Region.ready md ops listed).contains i = true) (hiq : i ≠ q)
    (hQ : ∀ c a w, Q (.panic c) (a.put oi.dst v) w → Q (.panic c) a w) (hy : YieldsIf P ops T oi v a) (hS : S w) (hT : T w)
    (h : wpAnyT P md ops Q T S q fuel (listed.setIfInBounds i true) (a.put oi.dst v) w) : wpAnyT P md ops Q T S q (fuel + 1) listed a w :=
  wpAnyT_firstW hi hiq (Region.noSelect_spec hs) hQ fuel listed a w (Region.free_spec hi hf) (by simpa using hr) hy (fun _ => hS) hT h
theorem wpAnyT_take {i : Nat} {oi : Oper} {v : Value} {fuel : Nat} {listed : Array Bool} {a : Act} {w : World} (hi : ops[i]? = some oi)
    (hs : Region.noSelect ops = true) (hf : Region.free md ops listed i = true) (hr : (Region.ready md ops listed).contains i = true) (hw : waitsB md ops q i = true) (hl : listed.getD q true = false)
    (hQ : ∀ c a w, Q (.panic c) (a.put oi.dst v) w → Q (.panic c) a w) (hy : YieldsIf P ops S oi v a) (hS : S w) (hT : T w)
    (h : wpAnyT P md ops Q T S q fuel (listed.setIfInBounds i true) (a.put oi.dst v) w) : wpAnyT P md ops Q T S q (fuel + 1) listed a w := by
  unfold waitsB at hw
  split at hw
  · rename_i oq hq
    rw [Array.any_eq_true] at hw
    obtain ⟨k, hk, hb⟩ := hw
    simp only [Bool.and_eq_true, decide_eq_true_eq] at hb
    exact wpAnyT_first hi hq ⟨_, Array.getElem_mem hk, hb.1, hb.2⟩ (Region.noSelect_spec hs) hQ fuel listed a w (Region.free_spec hi hf) (by simpa using hr) hy hS hT hl h
  · cases hw
theorem wpAnyT_done {fuel : Nat} {listed : Array Bool} {a : Act} {w : World} (hr : Region.ready md ops listed = []) (h : Q .normal a w) : wpAnyT P md ops Q T S q fuel listed a w := by
  cases fuel with
  | zero => exact ⟨hr, h⟩
  | succ n => exact ⟨fun _ => h, fun i hi => by rw [hr] at hi; cases hi⟩
/-- What one step asks. -/
def StepT (P : Program) (ops : Array Oper) (Q : Exit → Act → World → Prop) (o : Oper) (a : Act) (w : World) (K' : Act → World → Prop) : Prop := if Region.wanted o (yielded ops a.tmps) = true then Oper.wp P o a w K' Q else K' (a.put o.dst undef) w
theorem wpAnyT_one {i : Nat} {o : Oper} {fuel : Nat} {listed : Array Bool} {a : Act} {w : World} (hr : Region.ready md ops listed = [i]) (ho' : ops.toList[i]? = some o)
    (h : ∀ K' : Act → World → Prop, Shut (∀ a w, ((listed.setIfInBounds i true).getD q true = false → S w) → T w → wpAnyT P md ops Q T S q fuel (listed.setIfInBounds i true) a w → K' a w) → if Region.wanted o (yielded ops a.tmps) = true then Oper.wp P o a w K' Q else K' (a.put o.dst undef) w) : wpAnyT P md ops Q T S q (fuel + 1) listed a w := by
  have ho : ops[i]? = some o := by rw [← Array.getElem?_toList]; exact ho'
  refine ⟨fun h0 => ?_, fun j hj => ?_⟩
  · rw [hr] at h0; cases h0
  · rw [hr] at hj
    obtain rfl : j = i := by simpa using hj
    exact wpOp_step ho (fun K' hK => h K' fun a w h1 h2 h3 => hK a w ⟨⟨h1, h2⟩, h3⟩)
theorem wp_region_T {id : Nat} {a : Act} {w : World} (q : Nat) (T S : World → Prop) (hm : P.follows .mixedOrders = true) (h : wpAnyT P .any ops Q T S q ops.size (Array.replicate ops.size false) a w.drew) : (Code.region id ops true).wp P Q a w :=
  wp_region_any hm (wpAny_of_T _ _ _ _ h)
end
end Go.Proofs.YtlnkjacbdolhnaaGreatDoor


/-
  The walk of rpc.Write's put: a name and a value more, if there is a value.
-/
namespace Go.Proofs.YtlnkjacbdolhnaaGreatDoor
open Go.RowKit

/-- An object with a member more, if there is a value. -/
def putJ (o : Jsn) (nm : ByteArray) (x : Jsn) : Jsn := if jsame x zeroJ = true then o else ⟨o.kind, o.text, o.names ++ [nm], o.list ++ [x]⟩
/-- What put leaves: the box, its rows; what else has changed. -/
def PutsEnd (b B : Nat) (o : Jsn) (vN vL : Value) (w : World) (e : Ending) (w' : World) : Prop :=
  e = .returned (.tuple #[]) ∧ ∃ vN' vL' ws', Cel w' b 25 #[.int .u8 o.kind, .string o.text, vN', vL'] ∧ ObjR w' B o vN' vL' ws' ∧ Below b w w' ∧
    (∀ k, k ≠ b → k < w.heap.size → vN.ownBlock ≠ some k → vL.ownBlock ≠ some k → w'.heap[k]? = w.heap[k]?) ∧
    (vN'.ownBlock = vN.ownBlock ∨ ∃ k, vN'.ownBlock = some k ∧ w.heap.size ≤ k) ∧ (vL'.ownBlock = vL.ownBlock ∨ ∃ k, vL'.ownBlock = some k ∧ w.heap.size ≤ k)
theorem own_form {w : World} {B k : Nat} {t : TypeId} {v : Value} {n : Nat} {xs : List Value} (h : w.ownsRow B t k v n xs) : ∃ A m c, v = .slice A m c := by
  rcases h.2 with ⟨e, _⟩ | ⟨g, cap, cur, e, _⟩
  · exact ⟨none, 0, 0, e⟩
  · exact ⟨_, _, cap, e⟩
end Go.Proofs.YtlnkjacbdolhnaaGreatDoor


/-
  The walk of rpc.Message.form: messages of the four kinds.
-/
namespace Go.Proofs.YtlnkjacbdolhnaaGreatDoor
open Go.RowKit

/-- What form asks of a message of one of the four kinds. -/
def mform (k : Int) (I : Jsn) (me : ByteArray) (P R : Jsn) (co : Int) (tx : ByteArray) : Bool :=
  !((k == 2 && !jsame I zeroJ) || (k != 2 && !jisid I && !(k == 4 && I.kind == 1))) &&
  !((decide (2 < k) && (me.data.toList != [] || !jsame P zeroJ)) || (decide (k ≤ 2) && !jsame P zeroJ && !jispar P)) &&
  !((k == 3) == jsame R zeroJ) && !(k != 4 && (co != 0 || tx.data.toList != [])) && Lib.validD me.data.toList && Lib.validD tx.data.toList
/-- The message's box, and what else. -/
structure FmI (w : World) (cs : Array Value) (W : World) : Prop where
  cel : Cel W w.heap.size 61 cs
  bel : Below w.heap.size w W
theorem FmI.step {w W W' : World} {cs : Array Value} (h : FmI w cs W) (hb : Below W.heap.size W W') : FmI w cs W' := ⟨h.1.below hb h.1.lt, h.2.trans (hb.mono h.2.size)⟩
theorem FmI.drewN {w W : World} {cs : Array Value} (h : FmI w cs W) (n : Nat) : FmI w cs (W.drewN n) := ⟨h.1, bel_drewN h.2 n⟩









end Go.Proofs.YtlnkjacbdolhnaaGreatDoor


/-
  Messages written as envelopes, and read again, as plain data: what is written is read as it was; what is read is written and read again as the same. No program.
-/
namespace Go.Proofs.YtlnkjacbdolhnaaGreatDoor

def strJ (s : ByteArray) : Jsn := ⟨5, s, [], []⟩
def numJ (n : Int) : Jsn := ⟨4, ⟨(ofNL n).toArray⟩, [], []⟩
def objJ : Jsn := ⟨7, ⟨#[]⟩, [], []⟩
def verJ : Jsn := strJ ⟨#[50, 46, 48]⟩
/-- A fault's object; a message's envelope. -/
def errJ (m : Msg) : Jsn := putJ (putJ objJ kCode (numJ m.code)) kMsg (strJ m.text)
def headJ (m : Msg) : Jsn := putJ (putJ objJ kVer verJ) kId m.id
def askJ (m : Msg) : Jsn := if m.kind ≤ 2 then putJ (putJ (headJ m) kMeth (strJ m.method)) kPar m.params else headJ m
def resJ (m : Msg) : Jsn := putJ (askJ m) kRes m.result
def menv (m : Msg) : Jsn := if m.kind = 4 then putJ (resJ m) kErr (errJ m) else resJ m
def mok (m : Msg) : Bool := mform m.kind m.id m.method m.params m.result m.code m.text
def jwrite (Own : List UInt8 → List UInt8 × Int) (Val : List UInt8 → Bool) (m : Msg) : Jsn × Int :=
  if m.kind < 1 ∨ 4 < m.kind then (zeroJ, 1) else if mok m = false then (zeroJ, 4)
  else if jcheck Own Val (menv m) ≠ 0 then (zeroJ, jcheck Own Val (menv m)) else (menv m, 0)

/-- An object whose names and values are as many. -/
def ObjK (o : Jsn) : Prop := o.kind = 7 ∧ o.text = ⟨#[]⟩ ∧ o.names.length = o.list.length
end Go.Proofs.YtlnkjacbdolhnaaGreatDoor
