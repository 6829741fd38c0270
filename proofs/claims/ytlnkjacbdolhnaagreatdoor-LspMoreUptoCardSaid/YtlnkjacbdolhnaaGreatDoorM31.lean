/-
  The object under construction in the law: its box, the row of its names and the row of its values; a name more, a value more.
-/
import Derived.Test.YtlnkjacbdolhnaaGreatDoorM00
import Derived.Test.YtlnkjacbdolhnaaGreatDoorM26
import Derived.Test.YtlnkjacbdolhnaaGreatDoorLmN
import Derived.Test.YtlnkjacbdolhnaaGreatDoorM28
import Derived.Maps.StringElems
import Derived.Test.YtlnkjacbdolhnaaGreatDoorM13
namespace Go.Proofs.YtlnkjacbdolhnaaGreatDoor
open Go.RowKit

/-- A name more in a row. -/
theorem rowS_big {W : World} {B n : Nat} {vN : Value} {xs : List Value} (h : W.ownsRow B 9 1 vN n xs) (hB : B ≤ W.heap.size) (S : ByteArray) (hn : n ≤ 1000000000000) :
    ∃ v' w4, (Builtin.append_ #[22, 22] 22 #[vN, .slice (some ⟨W.heap.size, 0, none⟩) 1 1]).run Tryz.prog (W.alloc (.cells #[.string S] 9)) = .ok v' w4 ∧
      w4.ownsRow B 9 1 v' (n + 1) (xs ++ [.string S]) ∧ (W.alloc (.cells #[.string S] 9)).grownBy w4 vN.ownBlock ∧ (v'.ownBlock = vN.ownBlock ∨ v'.ownBlock = some (W.heap.size + 1)) := by
  obtain ⟨i0, hi0, hz0, hz1, hz2⟩ := info_parts infoS
  obtain ⟨v', w4, hrun, r2, r3, _, r5⟩ := run_append_own_at (P := Tryz.prog) (W.alloc (.cells #[.string S] 9)) B 22 22 9 i0 _ 1 16 Tryz.underlying22 hi0 hz0 hz1 hz2 rfl (by decide) vN n xs (h.alloc _) ⟨W.heap.size, 0, none⟩ 1 1 [.string S] rfl
    (fun j u hu => by
      have hadd : (⟨W.heap.size, 0, none⟩ : Addr).add j = ⟨W.heap.size, j, none⟩ := by unfold Addr.add; split <;> simp_all
      rw [hadd, (Cel.fresh W 9 #[.string S]).cell]
      simpa using hu)
    (fun u hu => by simp at hu; rw [hu]; rfl) (by unfold maxLen; omega) (by omega) (by simp; omega)
  exact ⟨v', w4, hrun, r2, r3, r5.imp id fun e => by simpa using e⟩
/-- A value more in a row. -/
theorem rowJ_big {W : World} {B n : Nat} {vL : Value} {xs : List Value} (h : W.ownsRow B 25 4 vL n xs) (hB : B ≤ W.heap.size) (x : Jsn) (xn xl : Value) (h1 : xn.oneCell' = true) (h2 : xl.oneCell' = true) (hn : n ≤ 1000000000000) :
    ∃ v' w4, (Builtin.append_ #[23, 23] 23 #[vL, .slice (some ⟨W.heap.size, 0, none⟩) 1 1]).run Tryz.prog (W.alloc (.cells #[.int .u8 x.kind, .string x.text, xn, xl] 25)) = .ok v' w4 ∧
      w4.ownsRow B 25 4 v' (n + 1) (xs ++ encJ (x, xn, xl)) ∧ (W.alloc (.cells #[.int .u8 x.kind, .string x.text, xn, xl] 25)).grownBy w4 vL.ownBlock ∧ (v'.ownBlock = vL.ownBlock ∨ v'.ownBlock = some (W.heap.size + 1)) := by
  obtain ⟨i0, hi0, hz0, hz1, hz2⟩ := info_parts infoJ
  obtain ⟨v', w4, hrun, r2, r3, _, r5⟩ := run_append_own_at (P := Tryz.prog) (W.alloc (.cells #[.int .u8 x.kind, .string x.text, xn, xl] 25)) B 23 23 25 i0 _ 4 72 Tryz.underlying23 hi0 hz0 hz1 hz2 rfl (by decide) vL n xs (h.alloc _) ⟨W.heap.size, 0, none⟩ 1 1 (encJ (x, xn, xl)) rfl
    (fun j u hu => by
      have hadd : (⟨W.heap.size, 0, none⟩ : Addr).add j = ⟨W.heap.size, j, none⟩ := by unfold Addr.add; split <;> simp_all
      rw [hadd, (Cel.fresh W 25 #[.int .u8 x.kind, .string x.text, xn, xl]).cell]
      simpa [encJ] using hu)
    (fun u hu => by simp [encJ] at hu; rcases hu with rfl | rfl | rfl | rfl <;> first | rfl | assumption) (by unfold maxLen; omega) (by omega) (by simp; omega)
  exact ⟨v', w4, hrun, r2, r3, r5.imp id fun e => by simpa using e⟩
def RevSt (w : World) (b : Nat) (ns : List ByteArray) (zs : List JE) (An : Option Addr) (cn : Nat) (Al : Option Addr) (cl : Nat) : Prop :=
  Cel w b 25 #[.int .u8 7, .string ⟨#[]⟩, .slice An ns.length cn, .slice Al zs.length cl] ∧ w.ownsRow (b + 1) 9 1 (.slice An ns.length cn) ns.length (ns.map Value.string) ∧
    w.ownsRow (b + 1) 25 4 (.slice Al zs.length cl) zs.length (zs.flatMap encJ) ∧ ∀ g, (Value.slice An ns.length cn).ownBlock = some g → (Value.slice Al zs.length cl).ownBlock ≠ some g
theorem RevSt.start {w : World} {b : Nat} (h : Cel w b 25 #[.int .u8 7, .string ⟨#[]⟩, .slice none 0 0, .slice none 0 0]) : RevSt w b [] [] none 0 none 0 :=
  ⟨h, World.ownsRow_nil _ _ _ _, World.ownsRow_nil _ _ _ _, fun g h => by cases h⟩
theorem RevSt.later {w w' : World} {b : Nat} {ns : List ByteArray} {zs : List JE} {An Al : Option Addr} {cn cl : Nat} (h : RevSt w b ns zs An cn Al cl) (hb : Below w.heap.size w w') : RevSt w' b ns zs An cn Al cl :=
  ⟨h.1.below hb h.1.lt, ownRow_keep h.2.1 (fun g hg => hb.block g (h.2.1.lt g hg).2), ownRow_keep h.2.2.1 (fun g hg => hb.block g (h.2.2.1.lt g hg).2), h.2.2.2⟩
set_option maxRecDepth 100000 in
theorem push_name {W : World} {b : Nat} {ns : List ByteArray} {zs : List JE} {An Al : Option Addr} {cn cl : Nat} (h : RevSt W b ns zs An cn Al cl) (S : ByteArray) (hl : ns.length ≤ 1000000000000) :
    ∃ A' c' w4, (Builtin.append_ #[22, 22] 22 #[.slice An ns.length cn, .slice (some ⟨W.heap.size, 0, none⟩) 1 1]).run Tryz.prog (W.alloc (.cells #[.string S] 9)) = .ok (.slice A' (ns.length + 1) c') w4 ∧
      Cel w4 b 25 #[.int .u8 7, .string ⟨#[]⟩, .slice An ns.length cn, .slice Al zs.length cl] ∧ RevSt (w4.setCell ⟨b, 2, none⟩ (.slice A' (ns.length + 1) c')) b (ns ++ [S]) zs A' c' Al cl ∧ Below b W (w4.setCell ⟨b, 2, none⟩ (.slice A' (ns.length + 1) c')) ∧ Below b W w4 := by
  obtain ⟨hC, hN, hL, hA⟩ := h
  have hlt := hC.lt
  obtain ⟨v', w4, hrun, hN2, hg, hv⟩ := rowS_big hN (by omega) S hl
  obtain ⟨A', c', rfl⟩ := own_slice hN2
  have hgs := hg.size
  simp at hgs
  have hk : ∀ k, k < W.heap.size → (Value.slice An ns.length cn).ownBlock ≠ some k → w4.heap[k]? = W.heap[k]? := fun k hk hne => (hg.block k (by simp; omega) (fun e => hne e.symm)).trans (Below.heap_alloc W _ k hk)
  have hC4 : Cel w4 b 25 #[.int .u8 7, .string ⟨#[]⟩, .slice An ns.length cn, .slice Al zs.length cl] := (hk b hlt (fun e => by have := hN.lt _ e; omega)).trans hC
  have hk5 : ∀ k, k ≠ b → (w4.setCell ⟨b, 2, none⟩ (.slice A' (ns.length + 1) c')).heap[k]? = w4.heap[k]? := fun k hk => Below.heap_setCell w4 _ _ k hk
  have hN5 := ownRow_keep hN2 (fun g hg => hk5 g (by have := hN2.lt g hg; omega))
  have hL5 : (w4.setCell ⟨b, 2, none⟩ (.slice A' (ns.length + 1) c')).ownsRow (b + 1) 25 4 (.slice Al zs.length cl) zs.length (zs.flatMap encJ) := ownRow_keep hL (fun g hg => by
    have h1 := hL.lt g hg
    exact (hk5 g (by omega)).trans (hk g h1.2 (fun e => hA g e hg)))
  have hlen : (ns ++ [S]).length = ns.length + 1 := by simp
  refine ⟨A', c', w4, hrun, hC4, ⟨?_, ?_, hL5, ?_⟩, ?_, ?_⟩
  · rw [hlen]; exact hC4.set 2 _
  · rw [hlen, List.map_append]; exact hN5
  · rw [hlen]
    intro g hg' e
    rcases hv with e2 | e2
    · exact hA g (e2 ▸ hg') e
    · rw [e2] at hg'; injection hg' with hg'; have := hL.lt g e; omega
  · have b2 : Below b W (W.alloc (.cells #[.string S] 9)) := (Below.refl b W).alloc (by omega) _
    exact (Below.grown b2 hg (by simp; omega) (fun g hg => by have := hN.lt g hg; omega)).setCell (by simp) _
  · exact Below.grown ((Below.refl b W).alloc (by omega) _) hg (by simp; omega) (fun g hg => by have := hN.lt g hg; omega)
set_option maxRecDepth 100000 in
theorem push_value {W : World} {b : Nat} {ns : List ByteArray} {zs : List JE} {An Al : Option Addr} {cn cl : Nat} (h : RevSt W b ns zs An cn Al cl) (x : Jsn) (xn xl : Value) (h1 : xn.oneCell' = true) (h2 : xl.oneCell' = true) (hl : zs.length ≤ 1000000000000) :
    ∃ A' c' w4, (Builtin.append_ #[23, 23] 23 #[.slice Al zs.length cl, .slice (some ⟨W.heap.size, 0, none⟩) 1 1]).run Tryz.prog (W.alloc (.cells #[.int .u8 x.kind, .string x.text, xn, xl] 25)) = .ok (.slice A' (zs.length + 1) c') w4 ∧
      Cel w4 b 25 #[.int .u8 7, .string ⟨#[]⟩, .slice An ns.length cn, .slice Al zs.length cl] ∧ RevSt (w4.setCell ⟨b, 3, none⟩ (.slice A' (zs.length + 1) c')) b ns (zs ++ [(x, xn, xl)]) An cn A' c' ∧ Below b W (w4.setCell ⟨b, 3, none⟩ (.slice A' (zs.length + 1) c')) ∧ Below b W w4 := by
  obtain ⟨hC, hN, hL, hA⟩ := h
  have hlt := hC.lt
  obtain ⟨v', w4, hrun, hL2, hg, hv⟩ := rowJ_big hL (by omega) x xn xl h1 h2 hl
  obtain ⟨A', c', rfl⟩ := own_slice hL2
  have hgs := hg.size
  simp at hgs
  have hk : ∀ k, k < W.heap.size → (Value.slice Al zs.length cl).ownBlock ≠ some k → w4.heap[k]? = W.heap[k]? := fun k hk hne => (hg.block k (by simp; omega) (fun e => hne e.symm)).trans (Below.heap_alloc W _ k hk)
  have hC4 : Cel w4 b 25 #[.int .u8 7, .string ⟨#[]⟩, .slice An ns.length cn, .slice Al zs.length cl] := (hk b hlt (fun e => by have := hL.lt _ e; omega)).trans hC
  have hk5 : ∀ k, k ≠ b → (w4.setCell ⟨b, 3, none⟩ (.slice A' (zs.length + 1) c')).heap[k]? = w4.heap[k]? := fun k hk => Below.heap_setCell w4 _ _ k hk
  have hL5 := ownRow_keep hL2 (fun g hg => hk5 g (by have := hL2.lt g hg; omega))
  have hN5 : (w4.setCell ⟨b, 3, none⟩ (.slice A' (zs.length + 1) c')).ownsRow (b + 1) 9 1 (.slice An ns.length cn) ns.length (ns.map Value.string) := ownRow_keep hN (fun g hg => by
    have h1 := hN.lt g hg
    exact (hk5 g (by omega)).trans (hk g h1.2 (fun e => hA g hg e)))
  have hlen : (zs ++ [(x, xn, xl)]).length = zs.length + 1 := by simp
  refine ⟨A', c', w4, hrun, hC4, ⟨?_, hN5, ?_, ?_⟩, ?_, ?_⟩
  · rw [hlen]; exact hC4.set 3 _
  · rw [hlen, List.flatMap_append]
    simpa using hL5
  · rw [hlen]
    intro g hg' e
    rcases hv with e2 | e2
    · exact hA g hg' (e2 ▸ e)
    · rw [e2] at e; injection e with e; have := hN.lt g hg'; omega
  · have b2 : Below b W (W.alloc (.cells #[.int .u8 x.kind, .string x.text, xn, xl] 25)) := (Below.refl b W).alloc (by omega) _
    exact (Below.grown b2 hg (by simp; omega) (fun g hg => by have := hL.lt g hg; omega)).setCell (by simp) _
  · exact Below.grown ((Below.refl b W).alloc (by omega) _) hg (by simp; omega) (fun g hg => by have := hL.lt g hg; omega)
theorem RevSt.jv {w : World} {b : Nat} {ns : List ByteArray} {zs : List JE} {An Al : Option Addr} {cn cl : Nat} (h : RevSt w b ns zs An cn Al cl) {X : Nat → Prop} (hz : ∀ z ∈ zs, JV w X z.1 z.2.1 z.2.2) :
    JV w (fun _ => True) ⟨7, ⟨#[]⟩, ns, zs.map (·.1)⟩ (.slice An ns.length cn) (.slice Al zs.length cl) := by
  obtain ⟨hC, hN, hL, hA⟩ := h
  refine JV.of_elems (by omega) (by omega) ⟨An, cn, rfl, fun hp => ?_⟩ rfl (fun z hz' => (hz z hz').more (fun _ _ _ => trivial)) (fun hp => ?_)
  · obtain ⟨g, cap, e, h1, h2, h3⟩ := row_cells hN hp
    injection e with e1 e2 e3
    refine ⟨g, 0, e1, trivial, h2, fun j x hx => ?_⟩
    have := h3 j (.string x) (by rw [List.getElem?_map, hx]; rfl)
    rw [Nat.zero_add]
    exact this
  · obtain ⟨g, cap, e, h1, h2, h3⟩ := row_cells hL hp
    injection e with e1 e2 e3
    refine ⟨g, 0, e1, trivial, h2, fun j z hj i u hu => ?_⟩
    rw [Nat.zero_add]
    exact h3 _ _ (encRow_at zs j z hj i u hu)
end Go.Proofs.YtlnkjacbdolhnaaGreatDoor


/-
  The walk of the closure that lsp.methods makes of others: a document's name, then what the others read.
-/
namespace Go.Proofs.YtlnkjacbdolhnaaGreatDoor
open Go.RowKit

theorem LMem.more {w : World} {X Y : Nat → Prop} {B b : Nat} {m : LM} (h : LMem w X B b m) (hXY : ∀ k, X k → k < w.heap.size → Y k) : LMem w Y B b m := by
  obtain ⟨idn, idl, chv, h1, h2, h3, h4⟩ := h
  exact ⟨idn, idl, chv, h1, h2.more hXY, h3, h4⟩
def ReadSaysK (F : Nat) (caps : Array Value) (rd : Rd) (K : Nat → World → Prop) : Prop := ∀ (j : Jsn) (X : Nat → Prop) (B b : Nat) (m : LM) (w : World) (vn vl : Value), K b w → JV w X j vn vl → jbulk j ≤ 1000000000000 → (∀ k, X k → k < w.heap.size → k ≠ b ∧ k < B) → LMem w X B b m → m.chs = [] → b < B → B ≤ w.heap.size →
  Calls Tryz.prog F (#[.pointer (some ⟨b, 0, none⟩), .agg #[.int .u8 j.kind, .string j.text, vn, vl]] ++ caps) w (ReadEndM (rd j m) X B b w)
/-- The functions that a closure of doc hands on to, as they lie. -/
def DocK (g h cap : Nat) (Af : Option Addr) (fs : List (Nat × Rd)) (b : Nat) (w : World) : Prop := g ≠ b ∧ g < w.heap.size ∧ Cel w g 128 #[.slice Af fs.length cap] ∧ (0 < fs.length → h ≠ b ∧ Af = some ⟨h, 0, none⟩ ∧ Cel w h 75 (fs.map fun p => Value.func (.func p.1) #[] #[]).toArray)
theorem docK_fun {g h cap : Nat} {Af : Option Addr} {fs : List (Nat × Rd)} {b : Nat} {w : World} (hk : DocK g h cap Af fs b w) {q : Nat} {p : Nat × Rd} (hq : fs[q]? = some p) : Af = some ⟨h, 0, none⟩ ∧ w.cell? ⟨h, q, none⟩ = some (.func (.func p.1) #[] #[]) := by
  have hlt := (List.getElem?_eq_some_iff.1 hq).1
  obtain ⟨_, _, _, h5⟩ := hk
  obtain ⟨_, e, hC⟩ := h5 (by omega)
  refine ⟨e, ?_⟩
  rw [hC.cell, List.getElem?_toArray, List.getElem?_map, hq]
  rfl
theorem DocK.but {g h cap : Nat} {Af : Option Addr} {fs : List (Nat × Rd)} {b : Nat} {w w' : World} (hk : DocK g h cap Af fs b w) {B : Nat} (hb : But B b w w') (hB : w.heap.size ≤ B) : DocK g h cap Af fs b w' := by
  obtain ⟨h1, h3, h4, h5⟩ := hk
  exact ⟨h1, Nat.lt_of_lt_of_le h3 hb.size, h4.but hb (by omega) h1, fun hp => ⟨(h5 hp).1, (h5 hp).2.1, (h5 hp).2.2.but hb (by have := (h5 hp).2.2.lt; omega) (h5 hp).1⟩⟩
set_option maxRecDepth 100000 in
set_option maxHeartbeats 4000000 in
theorem doc_says (g h cap : Nat) (Af : Option Addr) (fs : List (Nat × Rd)) (hfs : ∀ p ∈ fs, ReadSays p.1 #[] p.2 (fun _ => True)) (heF : ∀ p ∈ fs, ∀ args w, (callFunc p.1 args).run Tryz.prog w = .ok (.enter p.1 args) w) (hfl : fs.length ≤ 1000)
    (hnil : ∀ (j : Jsn) (a : Bool × LM), a.2.chs = [] → ∀ q, q < fs.length → (((fs.take q).map (·.2)).foldl (docStep j) a).2.chs = []) :
    ReadSaysK 68 #[.pointer (some ⟨g, 0, none⟩)] (rDoc (fs.map (·.2))) (DocK g h cap Af fs) := by
  intro j X0 B b m w vn vl hK0 hV0 hbk hX0 hL0 h0 hbB hBw
  suffices hsuf : ∀ X : Nat → Prop, (∀ k, X k → X0 k ∧ k < w.heap.size) → JV w X j vn vl → LMem w X B b m → Calls Tryz.prog 68 (#[.pointer (some ⟨b, 0, none⟩), .agg #[.int .u8 j.kind, .string j.text, vn, vl]] ++ #[.pointer (some ⟨g, 0, none⟩)]) w (ReadEndM (rDoc (fs.map (·.2)) j m) X B b w) by
    refine (hsuf (fun k => X0 k ∧ k < w.heap.size) (fun k h => h) (hV0.more (fun k h1 h2 => ⟨h1, h2⟩)) (hL0.more (fun k h1 h2 => ⟨h1, h2⟩))).mono ?_
    rintro e w' ⟨h1, h2, h3⟩
    exact ⟨h1, h2.more (fun k h _ => h.1), h3⟩
  intro X hXX hV hL
  have hX : ∀ k, X k → k ≠ b ∧ k < B := fun k h => hX0 k (hXX k h).1 (hXX k h).2
  clear hV0 hL0 hX0
  obtain ⟨A, n, c, A', n', c', rfl, rfl⟩ := hV.forms
  obtain ⟨Ai, ni, ci, Ai', ni', ci', hMm, hJi⟩ := hL.open0 h0
  obtain ⟨w0, hw0⟩ : ∃ w0, w.alloc (.cells #[.int .u8 j.kind, .string j.text, .slice A n c, .slice A' n' c'] 25) = w0 := ⟨_, rfl⟩
  have hB0 : Below w.heap.size w w0 := by rw [← hw0]; exact (Below.refl _ _).alloc (Nat.le_refl _) _
  have hs0 : w0.heap.size = w.heap.size + 1 := by rw [← hw0]; simp
  have hC1 : Cel w0 w.heap.size 25 #[.int .u8 j.kind, .string j.text, .slice A n c, .slice A' n' c'] := by rw [← hw0]; exact Cel.fresh _ _ _
  have hblt := hMm.lt
  have hM := (hMm.below hB0 hMm.lt).drew
  have hback : ∀ W, But w0.heap.size b w0 W → But w.heap.size b w W := fun W h => (But.of hB0).trans (h.mono (by omega))
  have hXb : ∀ k, X k → k < w.heap.size → k < w.heap.size ∧ k ≠ b := fun k h1 h2 => ⟨h2, (hX k h1).1⟩
  have hJ : ∀ W, But w0.heap.size b w0 W → JV W X j (.slice A n c) (.slice A' n' c') := fun W h => hV.but (hback W h) hXb
  have hId : ∀ W, But w0.heap.size b w0 W → JV W X m.id (.slice Ai ni ci) (.slice Ai' ni' ci') := fun W h => hJi.but (hback W h) hXb
  have hZ : But w0.heap.size b w0 w0.drew := (But.refl _ _ _).drew
  have hwb : w.heap.size ≠ b := by omega
  replace hw0 := Lib.hid hw0
  replace hback := Lib.hid hback
  replace hs0 := Lib.hid hs0
  replace hC1 := Lib.hid hC1
  replace hM := Lib.hid hM
  replace hZ := Lib.hid hZ
  replace hId := Lib.hid hId
  replace h0 := Lib.hid h0
  have hm0 := Lib.hid (fun (W : World) (hz : But w0.heap.size b w0 W) => (show Calls Tryz.prog 70 #[.agg #[.int .u8 j.kind, .string j.text, .slice A n c, .slice A' n' c'], .string ⟨#[116, 101, 120, 116, 68, 111, 99, 117, 109, 101, 110, 116]⟩] W (MemEnd (memJ j yTextDocument) X W) from lspMember_any j X W _ _ _ (hJ W hz) hbk))
  have hm1 := Lib.hid (fun (W : World) (un ul : Value) (hz : JV W X (memJ j yTextDocument) un ul) => (show Calls Tryz.prog 70 #[.agg #[.int .u8 (memJ j yTextDocument).kind, .string (memJ j yTextDocument).text, un, ul], .string ⟨#[117, 114, 105]⟩] W (MemEnd (memJ (memJ j yTextDocument) yUri) X W) from lspMember_any (memJ j yTextDocument) X W _ _ _ hz (memJ_bulk _ _ hbk)))
  have hc := Lib.hid (fun (W : World) (un ul : Value) (h1 : JV W X (memJ (memJ j yTextDocument) yUri) un ul) (h2 : Cel W b 32 (mCells m (.slice Ai ni ci) (.slice Ai' ni' ci') (.slice none 0 0))) => lspStr_any (memJ (memJ j yTextDocument) yUri) X b 1 32 (mCells m (.slice Ai ni ci) (.slice Ai' ni' ci') (.slice none 0 0)) m.uri W un ul h1 h2 rfl)
  have hdk := Lib.hid (fun (W : World) (hz : But w0.heap.size b w0 W) => DocK.but hK0 (hback.out W hz) (Nat.le_refl _))
  have hread := Lib.hid (fun (q : Nat) (p : Nat × Rd) (hq : fs[q]? = some p) (m1 : LM) (W : World) (hz : But w0.heap.size b w0 W) (hLm : LMem W X B b m1) (hn : m1.chs = []) => hfs p (List.mem_of_getElem? hq) j X B b m1 W _ _ trivial (hJ W hz) hbk (fun k h1 _ => hX k h1) hLm hn hbB (Nat.le_trans hBw (by have := hz.size; have := hs0.out; omega)))
  obtain ⟨R, hR⟩ : ∃ R, rDoc (fs.map (·.2)) j m = R := ⟨_, rfl⟩
  rw [hR]
  replace hR := Lib.hid hR
  have hXX2 := hXX
  clear hV hbk hL hB0 hMm hJ hJi hblt hXb hK0 hfs hXX hXX2
  go_enter Tryz.func68, Tryz.ntmps68
  go_upto_region 1 with fail
  rw [hw0.out]
  clear hw0
  refine wp_region_held_drew (S := fun W => Cel W w.heap.size 25 #[.int .u8 j.kind, .string j.text, .slice A n c, .slice A' n' c']) (by kernel_rfl) hC1.out.drew (fun hS => ?_)
  try dsimp only at hS
  have hS : Cel w0.drew w.heap.size 25 #[.int .u8 j.kind, .string j.text, .slice A n c, .slice A' n' c'] := hS
  refine hTake (i := 0) (v := .agg #[.int .u8 j.kind, .string j.text, .slice A n c, .slice A' n' c']) rfl (by kernel_rfl) (by kernel_rfl) (by kernel_rfl) (fun _ _ _ h => h) (Or.inl ⟨by rfl, by
    intro w' hSw
    obtain ⟨e0, e1, e2, e3⟩ := hSw.d4
    go_simp⟩) hS ?_
  try simp only [Act.put, List.setIfInBounds_toArray, List.set_cons_zero, List.set_cons_succ]
  refine hTake (i := 3) (v := .pointer (some ⟨b, 0, none⟩)) rfl (by kernel_rfl) (by kernel_rfl) (by kernel_rfl) (fun _ _ _ h => h) (Or.inl ⟨by rfl, by
    intro w' hSw
    go_simp⟩) hS ?_
  try simp only [Act.put, List.setIfInBounds_toArray, List.set_cons_zero, List.set_cons_succ]
  refine hTake (i := 4) (v := .pointer (some ⟨b, 0, none⟩)) rfl (by kernel_rfl) (by kernel_rfl) (by kernel_rfl) (fun _ _ _ h => h) (Or.inl ⟨by rfl, by
    intro w' hSw
    go_simp⟩) hS ?_
  try simp only [Act.put, List.setIfInBounds_toArray, List.set_cons_zero, List.set_cons_succ]
  refine hTake (i := 5) (v := .pointer (some ⟨b, 1, none⟩)) rfl (by kernel_rfl) (by kernel_rfl) (by kernel_rfl) (fun _ _ _ h => h) (Or.inl ⟨by rfl, by
    intro w' hSw
    go_simp⟩) hS ?_
  try simp only [Act.put, List.setIfInBounds_toArray, List.set_cons_zero, List.set_cons_succ]
  refine hOne (i := 1) (by kernel_rfl) rfl (fun K hK => ?_)
  go_simp
  refine (hm0.out _ hZ.out).mono ?_
  rintro e u0 ⟨un, ul, rfl, hJ0, hu⟩
  obtain ⟨A0, n0, c0, B0, m0, d0, rfl, rfl⟩ := hJ0.forms
  replace hM := Lib.hid (hM.out.below hu hM.out.lt)
  have hS2 := hS.below hu hS.lt
  replace hZ := Lib.hid (hZ.out.trans ((But.of hu).mono hZ.out.size))
  replace hJ0 := Lib.hid hJ0
  clear hS hu
  have hS := hS2
  clear hS2
  refine hK.out _ _ hS ?_
  clear hK
  try simp only [Act.put, List.setIfInBounds_toArray, List.set_cons_zero, List.set_cons_succ]
  refine hOne (i := 2) (by kernel_rfl) rfl (fun K hK => ?_)
  go_simp
  refine (hm1.out _ _ _ hJ0.out).mono ?_
  rintro e u1 ⟨un, ul, rfl, hJ1, hu⟩
  obtain ⟨A1, n1, c1, B1, m1, d1, rfl, rfl⟩ := hJ1.forms
  replace hM := Lib.hid (hM.out.below hu hM.out.lt)
  have hS2 := hS.below hu hS.lt
  replace hZ := Lib.hid (hZ.out.trans ((But.of hu).mono hZ.out.size))
  replace hJ1 := Lib.hid hJ1
  clear hS hu
  have hS := hS2
  clear hS2
  refine hK.out _ _ hS ?_
  clear hK
  try simp only [Act.put, List.setIfInBounds_toArray, List.set_cons_zero, List.set_cons_succ]
  refine hOne (i := 6) (by kernel_rfl) rfl (fun K hK => ?_)
  go_simp
  refine (hc.out _ _ _ hJ1.out hM.out).mono ?_
  rintro e u4 ⟨rfl, hM2, hu⟩
  have hS2 := hS.but hu hS.lt hwb
  replace hZ := Lib.hid (hZ.out.trans (hu.mono hZ.out.size))
  clear hS hu hM
  have hS := hS2
  clear hS2
  have hM := Lib.hid hM2
  clear hM2
  refine hK.out _ _ hS ?_
  clear hK
  try simp only [Act.put, List.setIfInBounds_toArray, List.set_cons_zero, List.set_cons_succ]
  refine hTake (i := 7) (v := .bool (lTxt (memJ (memJ j yTextDocument) yUri) m.uri).1) rfl (by kernel_rfl) (by kernel_rfl) (by kernel_rfl) (fun _ _ _ h => h) (Or.inl ⟨by rfl, by
    intro w' hSw
    go_simp⟩) hS ?_
  try simp only [Act.put, List.setIfInBounds_toArray, List.set_cons_zero, List.set_cons_succ]
  refine wpAnyH_done (by kernel_rfl) ?_ _
  obtain ⟨st0, hst0⟩ : ∃ a : Bool × LM, ((lTxt (memJ (memJ j yTextDocument) yUri) m.uri).1, { m with uri := (lTxt (memJ (memJ j yTextDocument) yUri) m.uri).2 }) = a := ⟨_, rfl⟩
  have hL4 : LMem u4 X B b st0.2 := by rw [← hst0]; exact LMem.shut0 (by exact hM.out) (hId.out _ hZ.out) h0.out
  have hn4 : st0.2.chs = [] := by rw [← hst0]; exact h0.out
  have hst1 : (lTxt (memJ (memJ j yTextDocument) yUri) m.uri).1 = st0.1 := by rw [← hst0]
  have hres : rDoc (fs.map (·.2)) j m = (fs.map (·.2)).foldl (docStep j) st0 := by rw [← hst0]; rfl
  rw [hst1]
  have hR2 := hR.out
  rw [hres] at hR2
  clear hR
  have hR := Lib.hid hR2
  clear hR2
  have hni := Lib.hid (fun (q : Nat) (hq : q < fs.length) => hnil j st0 hn4 q hq)
  replace hL4 := Lib.hid hL4
  clear hc hm0 hm1 hJ0 hJ1 hM hId hst0 hst1 hres hn4 hnil
  obtain ⟨ok0, hok0⟩ : ∃ v, Value.bool st0.1 = v := ⟨_, rfl⟩
  rw [hok0]
  have hd4 := hdk.out _ hZ.out
  have x2 : u4.cell? ⟨g, 0, none⟩ = some (.slice Af fs.length cap) := hd4.2.2.1.cell 0
  clear hd4
  have hS4 := Lib.hid hS
  clear hS
  go_wp2_with fail
  go_loopw [6, 18] (fun ok i wr => ∃ q : Nat, q ≤ fs.length ∧ i = .int .i64 q ∧ ok = .bool (((fs.take q).map (·.2)).foldl (docStep j) st0).1 ∧ LMem wr X B b (((fs.take q).map (·.2)).foldl (docStep j) st0).2 ∧ Cel wr w.heap.size 25 #[.int .u8 j.kind, .string j.text, .slice A n c, .slice A' n' c'] ∧ But w0.heap.size b w0 wr) (fun ok i _ => fs.length - (intOf i).toNat)
  case atStart => exact ⟨0, Nat.zero_le _, rfl, hok0.symm, hL4.out, hS4.out, hZ.out⟩
  case round =>
    obtain ⟨q, hq, rfl, rfl, hLq, hSq, hZq⟩ := hrel
    by_cases hlt : q < fs.length
    · obtain ⟨p, hp⟩ : ∃ p, fs[q]? = some p := ⟨_, List.getElem?_eq_getElem hlt⟩
      have hdq := hdk.out _ hZq
      obtain ⟨rfl, hcell⟩ := docK_fun hdq hp
      have eF := heF p (List.mem_of_getElem? hp)
      have hcall := Lib.hid (hread.out q p hp _ wr hZq hLq (hni.out q hlt))
      have hq0 : (0 : Int) ≤ (q : Int) := by omega
      have hq1 : (q : Int) < (fs.length : Int) := by omega
      have hstep : ((fs.take (q + 1)).map (·.2)).foldl (docStep j) st0 = docStep j (((fs.take q).map (·.2)).foldl (docStep j) st0) p.2 := by
        rw [List.take_add_one, hp]
        simp [List.foldl_append]
      obtain ⟨⟨ok, m1⟩, hacc⟩ : ∃ a, ((fs.take q).map (·.2)).foldl (docStep j) st0 = a := ⟨_, rfl⟩
      rw [hacc] at hstep hcall ⊢
      obtain ⟨e0, e1, e2, e3⟩ := hSq.d4
      have hSl := hSq.lt
      replace hstep := Lib.hid hstep
      replace hSq := Lib.hid hSq
      replace hZq := Lib.hid hZq
      obtain ⟨F2, rd2⟩ := p
      dsimp only at hcell eF hcall hstep ⊢
      clear hLq hread hdk hni hacc hdq heF hp hL4 hS4 hok0 x2
      have hst2 : docStep j (ok, m1) rd2 = ((rd2 j m1).1 && ok, (rd2 j m1).2) := rfl
      obtain ⟨⟨r1, m2⟩, hr1⟩ : ∃ a, rd2 j m1 = a := ⟨_, rfl⟩
      rw [hr1] at hcall hst2
      replace hst2 := Lib.hid hst2
      replace hr1 := Lib.hid hr1
      cases r1 with
      | true =>
        go_wp2_with fail
        refine hcall.out.mono ?_
        rintro e u5 ⟨rfl, hL5, hb5⟩
        have hZ5 := Lib.hid (hZq.out.trans (hb5.mono hZq.out.size))
        have hS5 := Lib.hid (hSq.out.but hb5 hSl hwb)
        replace hL5 := Lib.hid hL5
        clear hb5 hcall
        go_wp2_with fail
        go_roundw
        case rel => exact ⟨q + 1, by omega, by go_num, by rw [hstep.out, hst2.out]; simp, by rw [hstep.out, hst2.out]; exact hL5.out, hS5.out, hZ5.out⟩
        case measure => simp [intOf]; omega
      | false =>
        go_wp2_with fail
        refine hcall.out.mono ?_
        rintro e u5 ⟨rfl, hL5, hb5⟩
        have hZ5 := Lib.hid (hZq.out.trans (hb5.mono hZq.out.size))
        have hS5 := Lib.hid (hSq.out.but hb5 hSl hwb)
        replace hL5 := Lib.hid hL5
        clear hb5 hcall
        go_wp2_with fail
        go_roundw
        case rel => exact ⟨q + 1, by omega, by go_num, by rw [hstep.out, hst2.out]; simp, by rw [hstep.out, hst2.out]; exact hL5.out, hS5.out, hZ5.out⟩
        case measure => simp [intOf]; omega
    · have hfull : (fs.take q).map (·.2) = fs.map (·.2) := by rw [List.take_of_length_le (by omega)]
      rw [hfull, hR.out] at hLq
      rw [hfull, hR.out]
      have hq1 : ¬ (q : Int) < (fs.length : Int) := by omega
      have hfin := Lib.hid (hback.out _ hZq)
      replace hLq := Lib.hid hLq
      clear hread hdk hni heF hfull hSq hZq hL4 hS4 hok0 x2
      go_wp2_with fail
      exact bodyPost_ret (v := .bool R.1) (by simp [results, Tryz.results68, go_sem]) rfl ⟨rfl, hLq.out, hfin.out⟩
end Go.Proofs.YtlnkjacbdolhnaaGreatDoor


/-
  The walk of lsp.methods: a map of methods, their readers as closures.
-/
namespace Go.Proofs.YtlnkjacbdolhnaaGreatDoor
open Go.RowKit Go.WideMaps Go.Maps

/-- A closure: none, or a function and the block that it holds. -/
def mFn : Option (Nat × Option Nat) → Value
  | none => .nilFunc
  | some (F, none) => .func (.func F) #[] #[]
  | some (F, some g) => .func (.func F) #[] #[.pointer (some ⟨g, 0, none⟩)]
abbrev ME := ByteArray × Option (Nat × Option Nat)
def mV (x : ME) : Value := .agg #[.string x.1, mFn x.2]
theorem mFn_inj {x y : Option (Nat × Option Nat)} (h : mFn x = mFn y) : x = y := by
  rcases x with _ | ⟨F, _ | g⟩ <;> rcases y with _ | ⟨F', _ | g'⟩ <;> simp [mFn] at h
  · rfl
  · subst h; rfl
  · obtain ⟨rfl, rfl⟩ := h; rfl
theorem mV_inj {x y : ME} (h : mV x = mV y) : x = y := by
  unfold mV at h
  simp at h
  exact Prod.ext h.1 (mFn_inj h.2)
def mC : Option (Nat × Option Nat) → Int × Int
  | none => (-1, -1)
  | some (F, none) => (F, -1)
  | some (F, some g) => (F, g)
theorem mC_inj {x y : Option (Nat × Option Nat)} (h : mC x = mC y) : x = y := by
  rcases x with _ | ⟨F, _ | g⟩ <;> rcases y with _ | ⟨F', _ | g'⟩ <;> simp only [mC, Prod.mk.injEq] at h <;> first | rfl | (exfalso; omega) | (rw [show F = F' by omega]; done) | (rw [show F = F' by omega, show g = g' by omega])
def mCode (x : ME) : DataW Unit := .agg [.lit (.string x.1.data.toList), .lit (.int .i64 (mC x.2).1), .lit (.int .i64 (mC x.2).2)]
theorem mCode_inj {x y : ME} (h : mCode x = mCode y) : x = y := by
  unfold mCode at h
  simp at h
  obtain ⟨h1, h2, h3⟩ := h
  refine Prod.ext ?_ (mC_inj (Prod.ext h2 h3))
  obtain ⟨⟨⟨a⟩⟩, _⟩ := x
  obtain ⟨⟨⟨b⟩⟩, _⟩ := y
  simp at h1
  subst h1
  rfl
open Classical in
/-- How a method's value reads. -/
noncomputable def RM (v : Value) : Option (DataW Unit × List MemPlace) := if h : ∃ x, v = mV x then some (mCode h.choose, []) else none
theorem RM_mV (x : ME) : RM (mV x) = some (mCode x, []) := by
  unfold RM
  have h : ∃ y, mV x = mV y := ⟨x, rfl⟩
  rw [dif_pos h, ← mV_inj h.choose_spec]
theorem RM_inv {v : Value} {y : DataW Unit × List MemPlace} (h : RM v = some y) : ∃ x, v = mV x ∧ y = (mCode x, []) := by
  unfold RM at h
  split at h
  · next hx =>
    injection h with h
    exact ⟨hx.choose, hx.choose_spec, h.symm⟩
  · cases h
theorem lawU : Keyed Tryz.prog 5 := int_keyed Tryz.underlying5
/-- The methods: kind, name, closure; G: the blocks that doc's closures hold. -/
def mEnts (G : Nat → Nat) : List (Nat × ME) := [(1, mName1, some (76, none)), (2, mName2, some (75, none)), (3, mName3, some (68, some (G 3))), (4, mName4, some (68, some (G 4))), (5, mName5, some (68, some (G 5))), (6, mName6, some (68, some (G 6))), (7, mName7, some (68, some (G 7))), (8, mName8, some (75, none)), (9, mName9, some (75, none)), (10, mName10, some (79, none)), (11, mName11, some (68, some (G 11))), (12, mName12, some (68, some (G 12))), (13, mName13, some (68, some (G 13)))]
def mPut (D : DataW Unit) (p : Nat × ME) : DataW Unit := D.put (.int .u8 p.1) (mCode p.2)
def methD (G : Nat → Nat) : DataW Unit := (mEnts G).foldl mPut (.map [])
theorem puts_at : ∀ (es : List (Nat × ME)) (D : DataW Unit), IsMap D → ∀ (k : Nat) (z : DataW Unit), (∃ p ∈ es, p.1 = k ∧ (es.foldl mPut D).atKey (.int .u8 k) z = mCode p.2) ∨ (es.foldl mPut D).atKey (.int .u8 k) z = D.atKey (.int .u8 k) z
  | [], D, _, k, z => Or.inr rfl
  | p :: es, D, hD, k, z => by
    rcases puts_at es (mPut D p) (hD.put _ _) k z with ⟨q, hq, h1, h2⟩ | h
    · exact Or.inl ⟨q, by simp [hq], h1, h2⟩
    · by_cases hk : p.1 = k
      · left
        refine ⟨p, by simp, hk, ?_⟩
        rw [List.foldl_cons, h]
        unfold mPut
        rw [hk]
        exact atKey_put_same hD (by trivial) _ _
      · right
        rw [List.foldl_cons, h]
        unfold mPut
        have hne : (Lit.int .u8 (k : Int)) ≠ Lit.int .u8 (p.1 : Int) := fun e => hk (by injection e with _ e2; omega)
        exact atKey_put_other hne _ _
theorem meth_at {G : Nat → Nat} {x : Int} {c : ME} (h : ∀ z, (methD G).atKey (.int .u8 x) z = mCode c) : ∃ p ∈ mEnts G, (p.1 : Int) = x ∧ p.2 = c := by
  have hm : IsMap (.map [] : DataW Unit) := isMap_empty
  have hx : ∃ k : Nat, (k : Int) = x := by
    by_cases h0 : 0 ≤ x
    · exact ⟨x.toNat, by omega⟩
    · exfalso
      have h1 := h .nil
      have key : ∀ (es : List (Nat × ME)) (D : DataW Unit), IsMap D → (es.foldl mPut D).atKey (.int .u8 x) .nil = D.atKey (.int .u8 x) .nil := by
        intro es
        induction es with
        | nil => intro D _; rfl
        | cons p es ih =>
          intro D hD
          rw [List.foldl_cons, ih (mPut D p) (hD.put _ _)]
          unfold mPut
          have hne : (Lit.int .u8 x) ≠ Lit.int .u8 (p.1 : Int) := fun e => by injection e with _ e2; omega
          exact atKey_put_other hne _ _
      unfold methD at h1
      rw [key _ _ hm] at h1
      cases h1
  obtain ⟨k, rfl⟩ := hx
  rcases puts_at (mEnts G) (.map []) hm k .nil with ⟨p, hp, h1, h2⟩ | h1
  · refine ⟨p, hp, by omega, ?_⟩
    have h3 := h .nil
    unfold methD at h3
    rw [h2] at h3
    exact mCode_inj h3
  · exfalso
    have h3 := h .nil
    unfold methD at h3
    rw [h1] at h3
    cases h3
/-- What doc was given. -/
def docFs : Nat → List (Nat × Rd)
  | 3 => [(77, rFmt)]
  | 4 => [(71, rAt), (78, rName)]
  | 5 => [(71, rAt)]
  | 6 => [(71, rAt)]
  | 7 => []
  | 11 => [(73, rVer), (81, rText)]
  | 12 => [(73, rVer), (82, rChs)]
  | 13 => []
  | _ => []
def DocC (b0 : Nat) (w : World) (g h : Nat) (fs : List (Nat × Rd)) : Prop := b0 ≤ g ∧ g < w.heap.size ∧ ∃ Af cap, Cel w g 128 #[.slice Af fs.length cap] ∧ (0 < fs.length → Af = some ⟨h, 0, none⟩ ∧ b0 ≤ h ∧ Cel w h 75 (fs.map fun p => Value.func (.func p.1) #[] #[]).toArray)
theorem DocC.keep {b0 : Nat} {w w' : World} {g h : Nat} {fs : List (Nat × Rd)} (hd : DocC b0 w g h fs) (hs : w.heap.size ≤ w'.heap.size) (hk : ∀ k, b0 ≤ k → k < w.heap.size → w'.heap[k]? = w.heap[k]?) : DocC b0 w' g h fs := by
  obtain ⟨h1, h2, Af, cap, h3, h4⟩ := hd
  exact ⟨h1, by omega, Af, cap, (hk g h1 h2).trans h3, fun hp => ⟨(h4 hp).1, (h4 hp).2.1, (hk h (h4 hp).2.1 (h4 hp).2.2.lt).trans (h4 hp).2.2⟩⟩
def MethodsEnd (w : World) (e : Ending) (w' : World) : Prop := ∃ G H : Nat → Nat, e = .returned (.map (some w.heap.size)) ∧ w'.ownsMap Tryz.prog 5 RM w.heap.size 13 (methD G) ∧ (∀ k ∈ [3, 4, 5, 6, 7, 11, 12, 13], DocC (w.heap.size + 1) w' (G k) (H k) (docFs k)) ∧ Below w.heap.size w w'
set_option maxHeartbeats 1000000 in
theorem methods1_any (A : Option Addr) (n c : Nat) (w : World) : Calls Tryz.prog 67 #[.slice A n c] w fun e w' => e = .returned (.func (.func 68) #[] #[.pointer (some ⟨w.heap.size, 0, none⟩)]) ∧ w' = w.alloc (.cells #[.slice A n c] 128) := by
  go_enter Tryz.func67, Tryz.ntmps67
  go_wp2_with fail
  exact bodyPost_ret (v := .func (.func 68) #[] #[.pointer (some ⟨w.heap.size, 0, none⟩)]) (by simp [results, Tryz.results67, go_sem]) rfl ⟨rfl, rfl⟩
/-- What is known in the midst of lsp.methods. -/
def MSt (w : World) (ds : List (Nat × Nat × Nat)) (n : Nat) (D : DataW Unit) (W : World) : Prop := W.ownsMap Tryz.prog 5 RM w.heap.size n D ∧ (∀ d ∈ ds, DocC (w.heap.size + 1) W d.2.1 d.2.2 (docFs d.1)) ∧ Below w.heap.size w W ∧ w.heap.size < W.heap.size
theorem MSt.insert {w W W' : World} {ds : List (Nat × Nat × Nat)} {n : Nat} {D D' : DataW Unit} (h : MSt w ds n D W) (h1 : W'.ownsMap Tryz.prog 5 RM w.heap.size (n + 1) D') (hg : W.grownBy W' (some w.heap.size)) : MSt w ds (n + 1) D' W' :=
  ⟨h1, fun d hd => (h.2.1 d hd).keep hg.size (fun k h1 h2 => hg.block k h2 (fun e => by injection e with e; omega)), Below.grown h.2.2.1 hg (by have := h.2.2.2; omega) (fun j hj => by injection hj with hj; omega), Nat.lt_of_lt_of_le h.2.2.2 hg.size⟩
theorem MSt.below {w W W' : World} {ds : List (Nat × Nat × Nat)} {n : Nat} {D : DataW Unit} (h : MSt w ds n D W) (o : Obj) (hW : W' = W.alloc o) : MSt w ds n D W' := by
  subst hW
  have hb := (Below.refl W.heap.size W).alloc (Nat.le_refl _) o
  exact ⟨h.1.alloc _, fun d hd => (h.2.1 d hd).keep hb.size (fun k _ h2 => hb.block k h2), h.2.2.1.trans (hb.mono (by have := h.2.2.2; omega)), Nat.lt_of_lt_of_le h.2.2.2 hb.size⟩
theorem MSt.doc {w W : World} {ds : List (Nat × Nat × Nat)} {n : Nat} {D : DataW Unit} (h : MSt w ds n D W) (k m : Nat) (fns : Array Value) (hm : m = (docFs k).length) (hf : fns = ((docFs k).map fun p => Value.func (.func p.1) #[] #[]).toArray) :
    MSt w ((k, W.heap.size + 1, W.heap.size) :: ds) n D ((W.alloc (.cells fns 75)).alloc (.cells #[.slice (some ⟨W.heap.size, 0, none⟩) m m] 128)) := by
  have h1 := (h.below (.cells fns 75) rfl).below (.cells #[.slice (some ⟨W.heap.size, 0, none⟩) m m] 128) rfl
  refine ⟨h1.1, fun d hd => ?_, h1.2.2⟩
  rcases List.mem_cons.1 hd with rfl | hd
  · have hlt := h.2.2.2
    have hC := Cel.fresh (W.alloc (.cells fns 75)) 128 #[.slice (some ⟨W.heap.size, 0, none⟩) m m]
    rw [show (W.alloc (.cells fns 75)).heap.size = W.heap.size + 1 by simp] at hC
    subst hm
    exact ⟨by dsimp only; omega, hC.lt, _, _, hC, fun _ => ⟨rfl, by dsimp only; omega, by rw [← hf]; exact (Cel.fresh W 75 fns).alloc _⟩⟩
  · exact h1.2.1 d hd
theorem MSt.doc0 {w W : World} {ds : List (Nat × Nat × Nat)} {n : Nat} {D : DataW Unit} (h : MSt w ds n D W) (k : Nat) (hm : docFs k = []) : MSt w ((k, W.heap.size, 0) :: ds) n D (W.alloc (.cells #[.slice none 0 0] 128)) := by
  have h1 := h.below (.cells #[.slice none 0 0] 128) rfl
  refine ⟨h1.1, fun d hd => ?_, h1.2.2⟩
  rcases List.mem_cons.1 hd with rfl | hd
  · have hlt := h.2.2.2
    have hC := Cel.fresh W 128 #[.slice none 0 0]
    refine ⟨by dsimp only; omega, hC.lt, none, 0, ?_, fun hp => ?_⟩
    · dsimp only; rw [hm]; exact hC
    · dsimp only at hp; rw [hm] at hp; simp at hp
  · exact h1.2.1 d hd
set_option maxRecDepth 100000 in
set_option maxHeartbeats 8000000 in
theorem methods_any (w : World) : Calls Tryz.prog 31 #[] w (MethodsEnd w) := by
  have hmm := @run_makeMap Tryz.prog
  have hst : MSt w [] 0 (.map []) (w.alloc (.map #[] 0)) := ⟨World.ownsMap_made (H := Unit) w Tryz.prog 5 RM, (fun d hd => by cases hd), (Below.refl _ _).alloc (Nat.le_refl _) _, by simp⟩
  obtain ⟨w1, hr1, ho1, hg1⟩ := hst.1.update lawU Tryz.underlying73 (by unfold maxLen; omega) (keyOf_int_mk (a := 1) Tryz.underlying5 (by decide)) (RM_mV (mName1, some (76, none)))
  have hst1 := hst.insert ho1 hg1
  clear hst ho1 hg1
  have hst := hst1
  clear hst1
  replace hr1 : (Instr.mapUpdate 73 (.map (some w.heap.size)) (.int .u8 1) (.agg #[.string ⟨#[105, 110, 105, 116, 105, 97, 108, 105, 122, 101]⟩, .func (.func 76) #[] #[]])).run Tryz.prog (w.alloc (.map #[] 0)) = .ok () w1 := hr1
  obtain ⟨w2, hr2, ho2, hg2⟩ := hst.1.update lawU Tryz.underlying73 (by unfold maxLen; omega) (keyOf_int_mk (a := 2) Tryz.underlying5 (by decide)) (RM_mV (mName2, some (75, none)))
  have hst1 := hst.insert ho2 hg2
  clear hst ho2 hg2
  have hst := hst1
  clear hst1
  replace hr2 : (Instr.mapUpdate 73 (.map (some w.heap.size)) (.int .u8 2) (.agg #[.string ⟨#[115, 104, 117, 116, 100, 111, 119, 110]⟩, .func (.func 75) #[] #[]])).run Tryz.prog w1 = .ok () w2 := hr2
  go_enter Tryz.func31, Tryz.ntmps31
  go_wp2_with fail
  clear hr1 hr2
  refine (methods1_any _ 1 1 _).mono ?_
  rintro e w2 ⟨rfl, rfl⟩
  have hst2 := hst.doc 3 1 #[.func (.func 77) #[] #[]] rfl rfl
  obtain ⟨V, hV⟩ : ∃ V, (w2.alloc (.cells #[.func (.func 77) #[] #[]] 75)).alloc (.cells #[.slice (some ⟨w2.heap.size, 0, none⟩) 1 1] 128) = V := ⟨_, rfl⟩
  rw [show (w2.alloc (.cells #[.func (.func 77) #[] #[]] 75)).heap.size = w2.heap.size + 1 by simp]
  rw [hV] at hst2 ⊢
  obtain ⟨g3, hg3⟩ : ∃ g, w2.heap.size + 1 = g := ⟨_, rfl⟩
  rw [hg3] at hst2 ⊢
  obtain ⟨h3, hh3⟩ : ∃ g, w2.heap.size = g := ⟨_, rfl⟩
  rw [hh3] at hst2
  clear hst hV hg3 hh3
  have hst := hst2
  clear hst2
  obtain ⟨w3, hr3, ho3, hg3⟩ := hst.1.update lawU Tryz.underlying73 (by unfold maxLen; omega) (keyOf_int_mk (a := 3) Tryz.underlying5 (by decide)) (RM_mV (mName3, some (68, some g3)))
  have hst1 := hst.insert ho3 hg3
  clear hst ho3 hg3
  have hst := hst1
  clear hst1
  replace hr3 : (Instr.mapUpdate 73 (.map (some w.heap.size)) (.int .u8 3) (.agg #[.string ⟨#[116, 101, 120, 116, 68, 111, 99, 117, 109, 101, 110, 116, 47, 102, 111, 114, 109, 97, 116, 116, 105, 110, 103]⟩, .func (.func 68) #[] #[.pointer (some ⟨g3, 0, none⟩)]])).run Tryz.prog V = .ok () w3 := hr3
  go_wp2_with fail
  clear hr3
  refine (methods1_any _ 2 2 _).mono ?_
  rintro e w2 ⟨rfl, rfl⟩
  have hst2 := hst.doc 4 2 #[.func (.func 71) #[] #[], .func (.func 78) #[] #[]] rfl rfl
  obtain ⟨V, hV⟩ : ∃ V, (w3.alloc (.cells #[.func (.func 71) #[] #[], .func (.func 78) #[] #[]] 75)).alloc (.cells #[.slice (some ⟨w3.heap.size, 0, none⟩) 2 2] 128) = V := ⟨_, rfl⟩
  rw [show (w3.alloc (.cells #[.func (.func 71) #[] #[], .func (.func 78) #[] #[]] 75)).heap.size = w3.heap.size + 1 by simp]
  rw [hV] at hst2 ⊢
  obtain ⟨g4, hg4⟩ : ∃ g, w3.heap.size + 1 = g := ⟨_, rfl⟩
  rw [hg4] at hst2 ⊢
  obtain ⟨h4, hh4⟩ : ∃ g, w3.heap.size = g := ⟨_, rfl⟩
  rw [hh4] at hst2
  clear hst hV hg4 hh4
  have hst := hst2
  clear hst2
  obtain ⟨w4, hr4, ho4, hg4⟩ := hst.1.update lawU Tryz.underlying73 (by unfold maxLen; omega) (keyOf_int_mk (a := 4) Tryz.underlying5 (by decide)) (RM_mV (mName4, some (68, some g4)))
  have hst1 := hst.insert ho4 hg4
  clear hst ho4 hg4
  have hst := hst1
  clear hst1
  replace hr4 : (Instr.mapUpdate 73 (.map (some w.heap.size)) (.int .u8 4) (.agg #[.string ⟨#[116, 101, 120, 116, 68, 111, 99, 117, 109, 101, 110, 116, 47, 114, 101, 110, 97, 109, 101]⟩, .func (.func 68) #[] #[.pointer (some ⟨g4, 0, none⟩)]])).run Tryz.prog V = .ok () w4 := hr4
  go_wp2_with fail
  clear hr4
  refine (methods1_any _ 1 1 _).mono ?_
  rintro e w2 ⟨rfl, rfl⟩
  have hst2 := hst.doc 5 1 #[.func (.func 71) #[] #[]] rfl rfl
  obtain ⟨V, hV⟩ : ∃ V, (w4.alloc (.cells #[.func (.func 71) #[] #[]] 75)).alloc (.cells #[.slice (some ⟨w4.heap.size, 0, none⟩) 1 1] 128) = V := ⟨_, rfl⟩
  rw [show (w4.alloc (.cells #[.func (.func 71) #[] #[]] 75)).heap.size = w4.heap.size + 1 by simp]
  rw [hV] at hst2 ⊢
  obtain ⟨g5, hg5⟩ : ∃ g, w4.heap.size + 1 = g := ⟨_, rfl⟩
  rw [hg5] at hst2 ⊢
  obtain ⟨h5, hh5⟩ : ∃ g, w4.heap.size = g := ⟨_, rfl⟩
  rw [hh5] at hst2
  clear hst hV hg5 hh5
  have hst := hst2
  clear hst2
  obtain ⟨w5, hr5, ho5, hg5⟩ := hst.1.update lawU Tryz.underlying73 (by unfold maxLen; omega) (keyOf_int_mk (a := 5) Tryz.underlying5 (by decide)) (RM_mV (mName5, some (68, some g5)))
  have hst1 := hst.insert ho5 hg5
  clear hst ho5 hg5
  have hst := hst1
  clear hst1
  replace hr5 : (Instr.mapUpdate 73 (.map (some w.heap.size)) (.int .u8 5) (.agg #[.string ⟨#[116, 101, 120, 116, 68, 111, 99, 117, 109, 101, 110, 116, 47, 100, 101, 102, 105, 110, 105, 116, 105, 111, 110]⟩, .func (.func 68) #[] #[.pointer (some ⟨g5, 0, none⟩)]])).run Tryz.prog V = .ok () w5 := hr5
  go_wp2_with fail
  clear hr5
  refine (methods1_any _ 1 1 _).mono ?_
  rintro e w2 ⟨rfl, rfl⟩
  have hst2 := hst.doc 6 1 #[.func (.func 71) #[] #[]] rfl rfl
  obtain ⟨V, hV⟩ : ∃ V, (w5.alloc (.cells #[.func (.func 71) #[] #[]] 75)).alloc (.cells #[.slice (some ⟨w5.heap.size, 0, none⟩) 1 1] 128) = V := ⟨_, rfl⟩
  rw [show (w5.alloc (.cells #[.func (.func 71) #[] #[]] 75)).heap.size = w5.heap.size + 1 by simp]
  rw [hV] at hst2 ⊢
  obtain ⟨g6, hg6⟩ : ∃ g, w5.heap.size + 1 = g := ⟨_, rfl⟩
  rw [hg6] at hst2 ⊢
  obtain ⟨h6, hh6⟩ : ∃ g, w5.heap.size = g := ⟨_, rfl⟩
  rw [hh6] at hst2
  clear hst hV hg6 hh6
  have hst := hst2
  clear hst2
  obtain ⟨w6, hr6, ho6, hg6⟩ := hst.1.update lawU Tryz.underlying73 (by unfold maxLen; omega) (keyOf_int_mk (a := 6) Tryz.underlying5 (by decide)) (RM_mV (mName6, some (68, some g6)))
  have hst1 := hst.insert ho6 hg6
  clear hst ho6 hg6
  have hst := hst1
  clear hst1
  replace hr6 : (Instr.mapUpdate 73 (.map (some w.heap.size)) (.int .u8 6) (.agg #[.string ⟨#[116, 101, 120, 116, 68, 111, 99, 117, 109, 101, 110, 116, 47, 104, 111, 118, 101, 114]⟩, .func (.func 68) #[] #[.pointer (some ⟨g6, 0, none⟩)]])).run Tryz.prog V = .ok () w6 := hr6
  go_wp2_with fail
  clear hr6
  refine (methods1_any none 0 0 _).mono ?_
  rintro e w2 ⟨rfl, rfl⟩
  have hst2 := hst.doc0 7 rfl
  obtain ⟨V, hV⟩ : ∃ V, w6.alloc (.cells #[.slice none 0 0] 128) = V := ⟨_, rfl⟩
  rw [hV] at hst2 ⊢
  obtain ⟨g7, hg7⟩ : ∃ g, w6.heap.size = g := ⟨_, rfl⟩
  rw [hg7] at hst2 ⊢
  clear hst hg7
  replace hV := Lib.hid hV
  have hst := hst2
  clear hst2
  obtain ⟨w7, hr7, ho7, hg7⟩ := hst.1.update lawU Tryz.underlying73 (by unfold maxLen; omega) (keyOf_int_mk (a := 7) Tryz.underlying5 (by decide)) (RM_mV (mName7, some (68, some g7)))
  have hst1 := hst.insert ho7 hg7
  clear hst ho7 hg7
  have hst := hst1
  clear hst1
  replace hr7 : (Instr.mapUpdate 73 (.map (some w.heap.size)) (.int .u8 7) (.agg #[.string ⟨#[116, 101, 120, 116, 68, 111, 99, 117, 109, 101, 110, 116, 47, 100, 105, 97, 103, 110, 111, 115, 116, 105, 99]⟩, .func (.func 68) #[] #[.pointer (some ⟨g7, 0, none⟩)]])).run Tryz.prog V = .ok () w7 := hr7
  obtain ⟨w8, hr8, ho8, hg8⟩ := hst.1.update lawU Tryz.underlying73 (by unfold maxLen; omega) (keyOf_int_mk (a := 8) Tryz.underlying5 (by decide)) (RM_mV (mName8, some (75, none)))
  have hst1 := hst.insert ho8 hg8
  clear hst ho8 hg8
  have hst := hst1
  clear hst1
  replace hr8 : (Instr.mapUpdate 73 (.map (some w.heap.size)) (.int .u8 8) (.agg #[.string ⟨#[105, 110, 105, 116, 105, 97, 108, 105, 122, 101, 100]⟩, .func (.func 75) #[] #[]])).run Tryz.prog w7 = .ok () w8 := hr8
  obtain ⟨w9, hr9, ho9, hg9⟩ := hst.1.update lawU Tryz.underlying73 (by unfold maxLen; omega) (keyOf_int_mk (a := 9) Tryz.underlying5 (by decide)) (RM_mV (mName9, some (75, none)))
  have hst1 := hst.insert ho9 hg9
  clear hst ho9 hg9
  have hst := hst1
  clear hst1
  replace hr9 : (Instr.mapUpdate 73 (.map (some w.heap.size)) (.int .u8 9) (.agg #[.string ⟨#[101, 120, 105, 116]⟩, .func (.func 75) #[] #[]])).run Tryz.prog w8 = .ok () w9 := hr9
  obtain ⟨w10, hr10, ho10, hg10⟩ := hst.1.update lawU Tryz.underlying73 (by unfold maxLen; omega) (keyOf_int_mk (a := 10) Tryz.underlying5 (by decide)) (RM_mV (mName10, some (79, none)))
  have hst1 := hst.insert ho10 hg10
  clear hst ho10 hg10
  have hst := hst1
  clear hst1
  replace hr10 : (Instr.mapUpdate 73 (.map (some w.heap.size)) (.int .u8 10) (.agg #[.string ⟨#[36, 47, 99, 97, 110, 99, 101, 108, 82, 101, 113, 117, 101, 115, 116]⟩, .func (.func 79) #[] #[]])).run Tryz.prog w9 = .ok () w10 := hr10
  go_wp2_with fail
  clear hr7 hr8 hr9 hr10
  refine (methods1_any _ 2 2 _).mono ?_
  rintro e w2 ⟨rfl, rfl⟩
  have hst2 := hst.doc 11 2 #[.func (.func 73) #[] #[], .func (.func 81) #[] #[]] rfl rfl
  obtain ⟨V, hV⟩ : ∃ V, (w10.alloc (.cells #[.func (.func 73) #[] #[], .func (.func 81) #[] #[]] 75)).alloc (.cells #[.slice (some ⟨w10.heap.size, 0, none⟩) 2 2] 128) = V := ⟨_, rfl⟩
  rw [show (w10.alloc (.cells #[.func (.func 73) #[] #[], .func (.func 81) #[] #[]] 75)).heap.size = w10.heap.size + 1 by simp]
  rw [hV] at hst2 ⊢
  obtain ⟨g11, hg11⟩ : ∃ g, w10.heap.size + 1 = g := ⟨_, rfl⟩
  rw [hg11] at hst2 ⊢
  obtain ⟨h11, hh11⟩ : ∃ g, w10.heap.size = g := ⟨_, rfl⟩
  rw [hh11] at hst2
  clear hst hV hg11 hh11
  have hst := hst2
  clear hst2
  obtain ⟨w11, hr11, ho11, hg11⟩ := hst.1.update lawU Tryz.underlying73 (by unfold maxLen; omega) (keyOf_int_mk (a := 11) Tryz.underlying5 (by decide)) (RM_mV (mName11, some (68, some g11)))
  have hst1 := hst.insert ho11 hg11
  clear hst ho11 hg11
  have hst := hst1
  clear hst1
  replace hr11 : (Instr.mapUpdate 73 (.map (some w.heap.size)) (.int .u8 11) (.agg #[.string ⟨#[116, 101, 120, 116, 68, 111, 99, 117, 109, 101, 110, 116, 47, 100, 105, 100, 79, 112, 101, 110]⟩, .func (.func 68) #[] #[.pointer (some ⟨g11, 0, none⟩)]])).run Tryz.prog V = .ok () w11 := hr11
  go_wp2_with fail
  clear hr11
  refine (methods1_any _ 2 2 _).mono ?_
  rintro e w2 ⟨rfl, rfl⟩
  have hst2 := hst.doc 12 2 #[.func (.func 73) #[] #[], .func (.func 82) #[] #[]] rfl rfl
  obtain ⟨V, hV⟩ : ∃ V, (w11.alloc (.cells #[.func (.func 73) #[] #[], .func (.func 82) #[] #[]] 75)).alloc (.cells #[.slice (some ⟨w11.heap.size, 0, none⟩) 2 2] 128) = V := ⟨_, rfl⟩
  rw [show (w11.alloc (.cells #[.func (.func 73) #[] #[], .func (.func 82) #[] #[]] 75)).heap.size = w11.heap.size + 1 by simp]
  rw [hV] at hst2 ⊢
  obtain ⟨g12, hg12⟩ : ∃ g, w11.heap.size + 1 = g := ⟨_, rfl⟩
  rw [hg12] at hst2 ⊢
  obtain ⟨h12, hh12⟩ : ∃ g, w11.heap.size = g := ⟨_, rfl⟩
  rw [hh12] at hst2
  clear hst hV hg12 hh12
  have hst := hst2
  clear hst2
  obtain ⟨w12, hr12, ho12, hg12⟩ := hst.1.update lawU Tryz.underlying73 (by unfold maxLen; omega) (keyOf_int_mk (a := 12) Tryz.underlying5 (by decide)) (RM_mV (mName12, some (68, some g12)))
  have hst1 := hst.insert ho12 hg12
  clear hst ho12 hg12
  have hst := hst1
  clear hst1
  replace hr12 : (Instr.mapUpdate 73 (.map (some w.heap.size)) (.int .u8 12) (.agg #[.string ⟨#[116, 101, 120, 116, 68, 111, 99, 117, 109, 101, 110, 116, 47, 100, 105, 100, 67, 104, 97, 110, 103, 101]⟩, .func (.func 68) #[] #[.pointer (some ⟨g12, 0, none⟩)]])).run Tryz.prog V = .ok () w12 := hr12
  go_wp2_with fail
  clear hr12
  refine (methods1_any none 0 0 _).mono ?_
  rintro e w2 ⟨rfl, rfl⟩
  have hst2 := hst.doc0 13 rfl
  obtain ⟨V, hV⟩ : ∃ V, w12.alloc (.cells #[.slice none 0 0] 128) = V := ⟨_, rfl⟩
  rw [hV] at hst2 ⊢
  obtain ⟨g13, hg13⟩ : ∃ g, w12.heap.size = g := ⟨_, rfl⟩
  rw [hg13] at hst2 ⊢
  clear hst hg13
  replace hV := Lib.hid hV
  have hst := hst2
  clear hst2
  obtain ⟨w13, hr13, ho13, hg13⟩ := hst.1.update lawU Tryz.underlying73 (by unfold maxLen; omega) (keyOf_int_mk (a := 13) Tryz.underlying5 (by decide)) (RM_mV (mName13, some (68, some g13)))
  have hst1 := hst.insert ho13 hg13
  clear hst ho13 hg13
  have hst := hst1
  clear hst1
  replace hr13 : (Instr.mapUpdate 73 (.map (some w.heap.size)) (.int .u8 13) (.agg #[.string ⟨#[116, 101, 120, 116, 68, 111, 99, 117, 109, 101, 110, 116, 47, 100, 105, 100, 67, 108, 111, 115, 101]⟩, .func (.func 68) #[] #[.pointer (some ⟨g13, 0, none⟩)]])).run Tryz.prog V = .ok () w13 := hr13
  go_wp2_with fail
  clear hr13
  obtain ⟨st1, st2, st3, st4⟩ := hst
  refine bodyPost_ret (v := .map (some w.heap.size)) (by simp [results, Tryz.results31, go_sem]) rfl ⟨(fun k => match k with | 3 => g3 | 4 => g4 | 5 => g5 | 6 => g6 | 7 => g7 | 11 => g11 | 12 => g12 | 13 => g13 | _ => 0), (fun k => match k with | 3 => h3 | 4 => h4 | 5 => h5 | 6 => h6 | 7 => 0 | 11 => h11 | 12 => h12 | 13 => 0 | _ => 0), rfl, st1, fun k hk => ?_, st3⟩
  simp only [List.mem_cons, List.not_mem_nil, or_false] at hk
  rcases hk with rfl | rfl | rfl | rfl | rfl | rfl | rfl | rfl
  · exact st2 (3, g3, h3) (by simp)
  · exact st2 (4, g4, h4) (by simp)
  · exact st2 (5, g5, h5) (by simp)
  · exact st2 (6, g6, h6) (by simp)
  · exact st2 (7, g7, 0) (by simp)
  · exact st2 (11, g11, h11) (by simp)
  · exact st2 (12, g12, h12) (by simp)
  · exact st2 (13, g13, 0) (by simp)
end Go.Proofs.YtlnkjacbdolhnaaGreatDoor


/-
  The walks of lsp.Decode and of lsp.Method.
-/
namespace Go.Proofs.YtlnkjacbdolhnaaGreatDoor
open Go.RowKit Go.WideMaps Go.Maps

theorem ReadSays.k {F : Nat} {caps : Array Value} {rd : Rd} (h : ReadSays F caps rd (fun _ => True)) : ReadSaysK F caps rd (fun _ _ => True) := fun j X B b m w vn vl _ => h j X B b m w vn vl trivial
/-- What is known of a method's entry. -/
def EntOK (W : World) (p : Nat × ME) : Prop := ∃ rd F caps, lMethods.find? (fun x => decide (x.1 = p.2.1)) = some (p.2.1, (p.1 : Int), rd) ∧ mFn p.2.2 = .func (.func F) #[] caps ∧ (∀ args w, (callFunc F args).run Tryz.prog w = .ok (.enter F args) w) ∧
  ∃ K : Nat → World → Prop, ReadSaysK F caps rd K ∧ ∀ b, W.heap.size ≤ b → ∀ W', Below W.heap.size W W' → K b W'
theorem en_changes : ∀ args w, (callFunc 82 args).run Tryz.prog w = .ok (.enter 82 args) w := fun _ _ => by kernel_rfl
theorem en_methods_1_1 : ∀ args w, (callFunc 68 args).run Tryz.prog w = .ok (.enter 68 args) w := fun _ _ => by kernel_rfl
theorem en_methods_2 : ∀ args w, (callFunc 71 args).run Tryz.prog w = .ok (.enter 71 args) w := fun _ _ => by kernel_rfl
theorem en_methods_3 : ∀ args w, (callFunc 73 args).run Tryz.prog w = .ok (.enter 73 args) w := fun _ _ => by kernel_rfl
theorem en_methods_4 : ∀ args w, (callFunc 75 args).run Tryz.prog w = .ok (.enter 75 args) w := fun _ _ => by kernel_rfl
theorem en_methods_5 : ∀ args w, (callFunc 76 args).run Tryz.prog w = .ok (.enter 76 args) w := fun _ _ => by kernel_rfl
theorem en_methods_6 : ∀ args w, (callFunc 77 args).run Tryz.prog w = .ok (.enter 77 args) w := fun _ _ => by kernel_rfl
theorem en_methods_7 : ∀ args w, (callFunc 78 args).run Tryz.prog w = .ok (.enter 78 args) w := fun _ _ => by kernel_rfl
theorem en_methods_8 : ∀ args w, (callFunc 79 args).run Tryz.prog w = .ok (.enter 79 args) w := fun _ _ => by kernel_rfl
theorem en_methods_9 : ∀ args w, (callFunc 81 args).run Tryz.prog w = .ok (.enter 81 args) w := fun _ _ => by kernel_rfl
theorem doc_ent {b0 : Nat} {W : World} {G H : Nat → Nat} {k : Nat} (hd : DocC b0 W (G k) (H k) (docFs k)) (nm : ByteArray) (hf : lMethods.find? (fun x => decide (x.1 = nm)) = some (nm, (k : Int), rDoc ((docFs k).map (·.2)))) (hfs : ∀ p ∈ docFs k, ReadSays p.1 #[] p.2 (fun _ => True)) (heF : ∀ p ∈ docFs k, ∀ args w, (callFunc p.1 args).run Tryz.prog w = .ok (.enter p.1 args) w) (hfl : (docFs k).length ≤ 1000)
    (hnil : ∀ (j : Jsn) (a : Bool × LM), a.2.chs = [] → ∀ q, q < (docFs k).length → ((((docFs k).take q).map (·.2)).foldl (docStep j) a).2.chs = []) : EntOK W (k, nm, some (68, some (G k))) := by
  obtain ⟨h1, h2, Af, cap, h3, h4⟩ := hd
  refine ⟨_, 68, #[.pointer (some ⟨G k, 0, none⟩)], hf, rfl, en_methods_1_1, DocK (G k) (H k) cap Af (docFs k), doc_says (G k) (H k) cap Af (docFs k) hfs heF hfl hnil, fun b hb W' hbW => ⟨by omega, Nat.lt_of_lt_of_le h2 hbW.size, h3.below hbW h2, fun hp => ?_⟩⟩
  obtain ⟨e, h5, h6⟩ := h4 hp
  have := h6.lt
  exact ⟨by omega, e, h6.below hbW h6.lt⟩
theorem nil_one (f : Nat × Rd) : ∀ (j : Jsn) (a : Bool × LM), a.2.chs = [] → ∀ q, q < [f].length → ((([f].take q).map (·.2)).foldl (docStep j) a).2.chs = [] := fun j a h q hq => by
  have : q = 0 := by simp at hq; omega
  subst this
  exact h
theorem nil_two (f g : Nat × Rd) (hf : ∀ j m, m.chs = [] → (f.2 j m).2.chs = []) : ∀ (j : Jsn) (a : Bool × LM), a.2.chs = [] → ∀ q, q < [f, g].length → ((([f, g].take q).map (·.2)).foldl (docStep j) a).2.chs = [] := fun j a h q hq => by
  match q, hq with
  | 0, _ => exact h
  | 1, _ => exact hf j a.2 h
  | q + 2, hq => simp at hq; omega
set_option maxRecDepth 100000 in
theorem ent_ok {b0 : Nat} {W : World} {G H : Nat → Nat} (hd : ∀ k ∈ [3, 4, 5, 6, 7, 11, 12, 13], DocC b0 W (G k) (H k) (docFs k)) : ∀ p ∈ mEnts G, (p.1 = 12 → ReadSays 82 #[] rChs (fun _ => True)) → EntOK W p := by
  intro p hp hch
  unfold mEnts at hp
  simp only [List.mem_cons, List.not_mem_nil, or_false] at hp
  rcases hp with rfl | rfl | rfl | rfl | rfl | rfl | rfl | rfl | rfl | rfl | rfl | rfl | rfl
  · exact ⟨_, 76, #[], by kernel_rfl, rfl, en_methods_5, _, (rInit_says).k, fun _ _ _ _ => trivial⟩
  · exact ⟨_, 75, #[], by kernel_rfl, rfl, en_methods_4, _, (rLoose_says).k, fun _ _ _ _ => trivial⟩
  · exact doc_ent (hd 3 (by simp)) mName3 (by kernel_rfl) (fun p hp => by
      simp only [docFs, List.mem_cons, List.not_mem_nil, or_false] at hp
      subst hp; exact rFmt_says) (fun p hp => by
      simp only [docFs, List.mem_cons, List.not_mem_nil, or_false] at hp
      subst hp; exact en_methods_6) (by simp [docFs]) (nil_one _)
  · exact doc_ent (hd 4 (by simp)) mName4 (by kernel_rfl) (fun p hp => by
      simp only [docFs, List.mem_cons, List.not_mem_nil, or_false] at hp
      rcases hp with rfl | rfl
      · exact rAt_says
      · exact rName_says) (fun p hp => by
      simp only [docFs, List.mem_cons, List.not_mem_nil, or_false] at hp
      rcases hp with rfl | rfl
      · exact en_methods_2
      · exact en_methods_7) (by simp [docFs]) (nil_two _ _ (fun j m h => h))
  · exact doc_ent (hd 5 (by simp)) mName5 (by kernel_rfl) (fun p hp => by
      simp only [docFs, List.mem_cons, List.not_mem_nil, or_false] at hp
      subst hp; exact rAt_says) (fun p hp => by
      simp only [docFs, List.mem_cons, List.not_mem_nil, or_false] at hp
      subst hp; exact en_methods_2) (by simp [docFs]) (nil_one _)
  · exact doc_ent (hd 6 (by simp)) mName6 (by kernel_rfl) (fun p hp => by
      simp only [docFs, List.mem_cons, List.not_mem_nil, or_false] at hp
      subst hp; exact rAt_says) (fun p hp => by
      simp only [docFs, List.mem_cons, List.not_mem_nil, or_false] at hp
      subst hp; exact en_methods_2) (by simp [docFs]) (nil_one _)
  · exact doc_ent (hd 7 (by simp)) mName7 (by kernel_rfl) (fun p hp => by simp [docFs] at hp) (fun p hp => by simp [docFs] at hp) (by simp [docFs]) (fun _ _ _ q hq => by simp [docFs] at hq)
  · exact ⟨_, 75, #[], by kernel_rfl, rfl, en_methods_4, _, (rLoose_says).k, fun _ _ _ _ => trivial⟩
  · exact ⟨_, 75, #[], by kernel_rfl, rfl, en_methods_4, _, (rLoose_says).k, fun _ _ _ _ => trivial⟩
  · exact ⟨_, 79, #[], by kernel_rfl, rfl, en_methods_8, _, (rCancel_says).k, fun _ _ _ _ => trivial⟩
  · exact doc_ent (hd 11 (by simp)) mName11 (by kernel_rfl) (fun p hp => by
      simp only [docFs, List.mem_cons, List.not_mem_nil, or_false] at hp
      rcases hp with rfl | rfl
      · exact rVer_says
      · exact rText_says) (fun p hp => by
      simp only [docFs, List.mem_cons, List.not_mem_nil, or_false] at hp
      rcases hp with rfl | rfl
      · exact en_methods_3
      · exact en_methods_9) (by simp [docFs]) (nil_two _ _ (fun j m h => h))
  · exact doc_ent (hd 12 (by simp)) mName12 (by kernel_rfl) (fun p hp => by
      simp only [docFs, List.mem_cons, List.not_mem_nil, or_false] at hp
      rcases hp with rfl | rfl
      · exact rVer_says
      · exact (hch rfl)) (fun p hp => by
      simp only [docFs, List.mem_cons, List.not_mem_nil, or_false] at hp
      rcases hp with rfl | rfl
      · exact en_methods_3
      · exact en_changes) (by simp [docFs]) (nil_two _ _ (fun j m h => h))
  · exact doc_ent (hd 13 (by simp)) mName13 (by kernel_rfl) (fun p hp => by simp [docFs] at hp) (fun p hp => by simp [docFs] at hp) (by simp [docFs]) (fun _ _ _ q hq => by simp [docFs] at hq)
end Go.Proofs.YtlnkjacbdolhnaaGreatDoor


/-
  The walk of lsp.Decode.
-/
namespace Go.Proofs.YtlnkjacbdolhnaaGreatDoor
open Go.RowKit Go.WideMaps Go.Maps

/-- How lsp.Decode ends. -/
def DecEnd (r : LM × Int) (X : Nat → Prop) (w : World) (e : Ending) (w' : World) : Prop := ∃ idn idl chv, e = .returned (.tuple #[.agg (mCells r.1 idn idl chv), .int .i64 r.2]) ∧ JV w' X r.1.id idn idl ∧ w'.ownsRow w.heap.size 83 6 chv r.1.chs.length (chRow r.1.chs) ∧ Below w.heap.size w w'
theorem ent_keys (G : Nat → Nat) : ∀ p ∈ mEnts G, ∀ q ∈ mEnts G, p.1 = q.1 → p = q := by
  intro p hp q hq h
  unfold mEnts at hp hq
  simp only [List.mem_cons, List.not_mem_nil, or_false] at hp hq
  rcases hp with rfl | rfl | rfl | rfl | rfl | rfl | rfl | rfl | rfl | rfl | rfl | rfl | rfl <;> rcases hq with rfl | rfl | rfl | rfl | rfl | rfl | rfl | rfl | rfl | rfl | rfl | rfl | rfl <;> first | rfl | (simp at h)
theorem ent_has (G : Nat → Nat) : ∀ p ∈ mEnts G, Maps.has (methD G) (.int .u8 p.1) = true := by
  intro p hp
  unfold mEnts at hp
  simp only [List.mem_cons, List.not_mem_nil, or_false] at hp
  rcases hp with rfl | rfl | rfl | rfl | rfl | rfl | rfl | rfl | rfl | rfl | rfl | rfl | rfl <;> kernel_rfl
theorem ent_none (G : Nat → Nat) (s : ByteArray) (h : ∀ p ∈ mEnts G, p.2.1 ≠ s) : lMethods.find? (fun p => decide (p.1 = s)) = none := by
  rw [List.find?_eq_none]
  intro x hx
  have key : ∀ x ∈ lMethods, ∃ p ∈ mEnts G, p.2.1 = x.1 := by
    intro x hx
    unfold lMethods at hx
    simp only [List.mem_cons, List.not_mem_nil, or_false] at hx
    unfold mEnts
    rcases hx with rfl | rfl | rfl | rfl | rfl | rfl | rfl | rfl | rfl | rfl | rfl | rfl | rfl <;> simp
  obtain ⟨p, hp, e⟩ := key x hx
  have := h p hp
  rw [e] at this
  simpa using this
theorem ownsRow_same {w w' : World} {B k n : Nat} {e : TypeId} {v : Value} {xs : List Value} (h : w.ownsRow B e k v n xs) (hk : ∀ b, v.ownBlock = some b → w'.heap[b]? = w.heap[b]?) : w'.ownsRow B e k v n xs :=
  ⟨h.1, h.2.imp id (fun ⟨g, cap, cur, e1, e2, e3, r⟩ => ⟨g, cap, cur, e1, e2, (hk g (by rw [e1]; rfl)).trans e3, r⟩)⟩
theorem ownsRow_base {w : World} {B B' k n : Nat} {e : TypeId} {v : Value} {xs : List Value} (h : w.ownsRow B e k v n xs) (hB : B' ≤ B) : w.ownsRow B' e k v n xs :=
  ⟨h.1, h.2.imp id (fun ⟨g, cap, cur, e1, e2, r⟩ => ⟨g, cap, cur, e1, Nat.le_trans hB e2, r⟩)⟩
theorem ent_shape (G : Nat → Nat) : ∀ p ∈ mEnts G, ∃ F caps, mFn p.2.2 = .func (.func F) #[] caps := by
  intro p hp
  unfold mEnts at hp
  simp only [List.mem_cons, List.not_mem_nil, or_false] at hp
  rcases hp with rfl | rfl | rfl | rfl | rfl | rfl | rfl | rfl | rfl | rfl | rfl | rfl | rfl <;> exact ⟨_, _, rfl⟩
theorem ent_12 (G : Nat → Nat) (p : Nat × ME) (hp : p ∈ mEnts G) (h : p.1 = 12) : p.2.1 = mName12 := by
  unfold mEnts at hp
  simp only [List.mem_cons, List.not_mem_nil, or_false] at hp
  rcases hp with rfl | rfl | rfl | rfl | rfl | rfl | rfl | rfl | rfl | rfl | rfl | rfl | rfl <;> first | rfl | (simp at h)
theorem lmsgDesc : ∃ d, Tryz.prog.underlying 32 = some d ∧ d.isRow = true := ⟨_, Tryz.underlying32, rfl⟩
theorem lmsgInfo : (Tryz.prog.info? 32).map (·.size) = some 12 := by kernel_rfl
theorem methInfo : (Tryz.prog.info? 77).map (·.size) = some 2 := by kernel_rfl
set_option maxRecDepth 100000 in
set_option maxHeartbeats 8000000 in
theorem lspDecode_any (s : ByteArray) (j : Jsn) (X : Nat → Prop) (w : World) (vn vl : Value) (hV : JV w X j vn vl) (hbk : jbulk j ≤ 1000000000000) (hch : s = mName12 → ReadSays 82 #[] rChs (fun _ => True)) :
    Calls Tryz.prog 8 #[.string s, .agg #[.int .u8 j.kind, .string j.text, vn, vl]] w (DecEnd (ldec s j) X w) := by
  obtain ⟨A, n, c, A', n', c', rfl, rfl⟩ := hV.forms
  obtain ⟨W0, hW0⟩ : ∃ W0, (w.alloc (.cells #[.int .u8 j.kind, .string j.text, .slice A n c, .slice A' n' c'] 25)).alloc (.cells #[.int .u8 0, .string ⟨#[]⟩, .int .i64 0, .string ⟨#[]⟩, .int .i64 0, .int .i64 0, .int .i64 0, .int .u8 0, .string ⟨#[]⟩, .slice none 0 0, .slice none 0 0, .slice none 0 0] 32) = W0 := ⟨_, rfl⟩
  have hB0 : Below w.heap.size w W0 := by rw [← hW0]; exact ((Below.refl _ _).alloc (Nat.le_refl _) _).alloc (by simp) _
  have hs0 : W0.heap.size = w.heap.size + 2 := by rw [← hW0]; simp
  have hC3 : Cel W0 w.heap.size 25 #[.int .u8 j.kind, .string j.text, .slice A n c, .slice A' n' c'] := by rw [← hW0]; exact (Cel.fresh _ _ _).alloc _
  have hC4 : Cel W0 (w.heap.size + 1) 32 #[.int .u8 0, .string ⟨#[]⟩, .int .i64 0, .string ⟨#[]⟩, .int .i64 0, .int .i64 0, .int .i64 0, .int .u8 0, .string ⟨#[]⟩, .slice none 0 0, .slice none 0 0, .slice none 0 0] := by
    rw [← hW0]
    have := Cel.fresh (w.alloc (.cells #[.int .u8 j.kind, .string j.text, .slice A n c, .slice A' n' c'] 25)) 32 #[.int .u8 0, .string ⟨#[]⟩, .int .i64 0, .string ⟨#[]⟩, .int .i64 0, .int .i64 0, .int .i64 0, .int .u8 0, .string ⟨#[]⟩, .slice none 0 0, .slice none 0 0, .slice none 0 0]
    simpa using this
  have hmeth := methods_any W0
  obtain ⟨R, hR⟩ : ∃ R, ldec s j = R := ⟨_, rfl⟩
  rw [hR]
  replace hR := Lib.hid hR
  replace hW0 := Lib.hid hW0
  replace hmeth := Lib.hid hmeth
  replace hC3 := Lib.hid hC3
  replace hC4 := Lib.hid hC4
  replace hB0 := Lib.hid hB0
  replace hs0 := Lib.hid hs0
  replace hV := Lib.hid hV
  go_enter Tryz.func8, Tryz.ntmps8
  go_upto_region 1 with fail
  rw [hW0.out]
  clear hW0
  go_wp2_with fail
  refine hmeth.out.mono ?_
  rintro e w1 ⟨G, H, rfl, hown, hdocs, hb1⟩
  obtain ⟨w2, hrun2, hrg, hgr2, hs2⟩ := hown.range lawU Tryz.underlying73
  have hb2 : Below w1.heap.size w1 w2 := Below.grown (Below.refl _ _) hgr2 (Nat.le_refl _) (fun k hk => by cases hk)
  have hB02 : Below W0.heap.size W0 w2 := hb1.trans (hb2.mono hb1.size)
  have h32 := hC3.out.below hB02 hC3.out.lt
  have h42 := hC4.out.below hB02 hC4.out.lt
  have hBw := hB0.out.trans (hB02.mono hB0.out.size)
  have hr1 := hb1.size
  have hbm := hown.lt
  have hs02 := hs0.out
  have hent := Lib.hid (fun p hp hc => ent_ok hdocs p hp hc)
  have hb2h := Lib.hid hb2
  replace hs2 := Lib.hid hs2
  replace h32 := Lib.hid h32
  replace h42 := Lib.hid h42
  replace hBw := Lib.hid hBw
  replace hrg := Lib.hid hrg
  replace hs02 := Lib.hid hs02
  clear hown hdocs hgr2 hb1 hb2 hB02 hmeth hC3 hC4 hB0 hs0
  go_wp2_with fail
  clear hrun2
  go_loopw [6] (fun _ wr => ∃ left cnt, wr.ranges Tryz.prog 5 RM W0.heap.size w1.heap.size 13 (methD G) left cnt ∧ (∀ p ∈ mEnts G, p.2.1 = s → left (.int .u8 p.1) = true) ∧ Cel wr w.heap.size 25 #[.int .u8 j.kind, .string j.text, .slice A n c, .slice A' n' c'] ∧ Cel wr (w.heap.size + 1) 32 #[.int .u8 0, .string ⟨#[]⟩, .int .i64 0, .string ⟨#[]⟩, .int .i64 0, .int .i64 0, .int .i64 0, .int .u8 0, .string ⟨#[]⟩, .slice none 0 0, .slice none 0 0, .slice none 0 0] ∧ Below w.heap.size w wr ∧ Below w1.heap.size w1 wr) (fun _ wr => wr.rangeLeft W0.heap.size w1.heap.size)
  case atStart => exact ⟨_, _, hrg.out, fun p hp _ => ent_has G p hp, h32.out, h42.out, hBw.out, hb2h.out⟩
  case round =>
    obtain ⟨left, cnt, hrg3, hleft, hC3, hC4, hB, hB1⟩ := hrel
    have hrne : w1.heap.size ≠ w.heap.size ∧ w1.heap.size ≠ w.heap.size + 1 ∧ w.heap.size < w1.heap.size := by have := hs02.out; omega
    obtain ⟨dm, hdm⟩ := lmsgDesc
    replace hdm := Lib.hid hdm
    have hent2 := hent
    rcases hrg3.next lawU 0 with ⟨h0, hl, hrun⟩ | ⟨key, v, kl, y, wn, cnt', hkey, hlk, hv, hat, hrun, hrg4, hlt, hgr, hsz4, hen⟩
    · have hnone : ∀ p ∈ mEnts G, p.2.1 ≠ s := fun p hp e => by
        have := hleft p hp e
        rw [hl] at this
        cases this
      have hR2 : R = (zeroLM 0, 68) := by rw [← hR.out]; unfold ldec; rw [ent_none G s hnone]
      subst hR2
      replace hC4 := Lib.hid hC4
      replace hB := Lib.hid hB
      clear hent hent2 hnone hl hleft hrg3 hR hB1 hrg h32 h42 hBw hC3 hV
      go_wp2_with (refine wpList_store_cel rfl 32 (.tmp 4) (.tmp 29) (by rfl) (w.heap.size + 1) 0 #[.int .u8 0, .string ⟨#[]⟩, .int .i64 0, .string ⟨#[]⟩, .int .i64 0, .int .i64 0, .int .i64 0, .int .u8 0, .string ⟨#[]⟩, .slice none 0 0, .slice none 0 0, .slice none 0 0] _ #[.int .u8 0, .string ⟨#[]⟩, .int .i64 0, .string ⟨#[]⟩, .int .i64 0, .int .i64 0, .int .i64 0, .int .u8 0, .string ⟨#[]⟩, .slice none 0 0, .slice none 0 0, .slice none 0 0] 32 (by rfl) (by rfl) hC4.out (Nat.le_refl _) (putA_whole _ _ rfl) lmsgInfo (by simp [Value.oneCell']) ?_; intro w5 hC5 hA5)
      exact bodyPost_ret (results_cel2 Tryz.results8 _ _ _ _ _ dm rfl hC5 hdm.out.1 hdm.out.2 lmsgInfo) rfl ⟨_, _, _, rfl, zero8_jv _ _, World.ownsRow_nil _ _ _ _, hB.out.trans (hA5.1 _ (by omega))⟩
    · obtain ⟨x, rfl, rfl, hwf⟩ := keyOf_int_inv Tryz.underlying5 hkey
      obtain ⟨cm, rfl, hy⟩ := RM_inv hv
      obtain ⟨p, hp, hpx, hpc⟩ := meth_at (G := G) (x := x) (c := cm) (fun z => by have := hat z; rw [hy] at this; exact this)
      subst hpx
      subst hpc
      have hC3n : Cel wn w.heap.size 25 #[.int .u8 j.kind, .string j.text, .slice A n c, .slice A' n' c'] := (hgr.block _ hC3.lt (fun e => by injection e with e; omega)).trans hC3
      have hC4n : Cel wn (w.heap.size + 1) 32 #[.int .u8 0, .string ⟨#[]⟩, .int .i64 0, .string ⟨#[]⟩, .int .i64 0, .int .i64 0, .int .i64 0, .int .u8 0, .string ⟨#[]⟩, .slice none 0 0, .slice none 0 0, .slice none 0 0] := (hgr.block _ hC4.lt (fun e => by injection e with e; omega)).trans hC4
      have hBn : Below w.heap.size w wn := Below.grown hB hgr hB.size (fun k hk => by injection hk with hk; omega)
      have hB1n : Below w1.heap.size w1 wn := Below.grown hB1 hgr hB1.size (fun k hk => by injection hk with hk; omega)
      have hleft4 : ∀ q ∈ mEnts G, q.2.1 = s → p.2.1 ≠ s → (fun z : Lit => left z && !z.sameKey (.int .u8 p.1)) (.int .u8 q.1) = true := fun q hq e hne => by
        have h1 := hleft q hq e
        have h2 : q.1 ≠ p.1 := fun e2 => hne (by rw [← ent_keys G q hq p hp e2]; exact e)
        dsimp only
        rw [h1]
        have h3 : ((q.1 : Nat) : Int) ≠ (p.1 : Int) := by omega
        simp [Lit.sameKey, h3]
      obtain ⟨F0, caps0, hsh⟩ := ent_shape G p hp
      have hmv : mV p.2 = .agg #[.string p.2.1, .func (.func F0) #[] caps0] := by unfold mV; rw [hsh]
      rw [hmv] at hrun hen
      have h12 := ent_12 G p hp
      have hentp := fun hc => hent.out p hp hc
      obtain ⟨k, ⟨nm, fn⟩⟩ := p
      dsimp only at hrun hen hleft4 hsh h12 hlt hrg4
      replace hleft4 := Lib.hid hleft4
      replace hrg4 := Lib.hid hrg4
      replace hentp := Lib.hid hentp
      replace hB1n := Lib.hid hB1n
      replace hBn := Lib.hid hBn
      replace hC4n := Lib.hid hC4n
      have hC3h := Lib.hid hC3n
      obtain ⟨e0, e1, e2, e3⟩ := hC3n.d4
      have hm := hrg3.left_eq
      have hrlt := hrg3.lt
      have hszn : w1.heap.size ≤ wn.heap.size := hB1n.out.size
      have hwsn : w.heap.size ≤ wn.heap.size := hBn.out.size
      replace hsz4 := Lib.hid hsz4
      clear hC3 hC4 hB hB1 hleft hat hy hv hlk hkey hgr hent hent2 hmv hrg h32 h42 hBw hC3n hp
      replace hrg3 := Lib.hid hrg3
      by_cases hnm : nm = s
      · subst hnm
        obtain ⟨rd, F, caps, hfind, hfn, heF, K, hread, hK⟩ := hentp.out (fun h => hch (h12 h))
        dsimp only at hfind hfn
        rw [hsh] at hfn
        injection hfn with hfn1 _ hfn2
        injection hfn1 with hfn1
        subst hfn1
        subst hfn2
        have hR2 : R = ldecOf k rd j := by rw [← hR.out]; unfold ldec; rw [hfind]
        clear hR hfind hentp hsh h12 hleft4 hrg4 hrg3 hm
        replace hR2 := Lib.hid hR2
        replace hread := Lib.hid hread
        replace hK := Lib.hid hK
        go_upto_region 6 with (first | (refine wpList_store_cel rfl 77 (.tmp 7) (.tmp 15) (by rfl) wn.heap.size 0 #[.string nm, .func (.func F0) #[] caps0] #[.string ⟨#[]⟩, .nilFunc] #[.string nm, .func (.func F0) #[] caps0] 77 (by rfl) (by rfl) (Cel.fresh _ _ _) (Nat.le_refl _) (putA_whole _ _ rfl) methInfo (by simp [Value.oneCell']) ?_; intro w5 hC7 hA7; have hA7h := Lib.hid hA7; have c0 : w5.cell? ⟨wn.heap.size, 0, none⟩ = some (.string nm) := hC7.cell 0; have c1 : w5.cell? ⟨wn.heap.size, 1, none⟩ = some (.func (.func F0) #[] caps0) := hC7.cell 1; have hC7h := Lib.hid hC7; obtain ⟨y0, y1, y2, y3⟩ := (hA7.cel (hC3h.out.alloc _) (Nat.ne_of_lt hC3h.out.lt)).d4; have hs5 : w5.heap.size = wn.heap.size + 1 := hA7.2.2.trans (by simp); have h5a : wn.heap.size < w5.heap.size := (by omega); have h5b : w.heap.size < w5.heap.size := (by omega); replace hs5 := Lib.hid hs5; clear hC7 hA7))
        go_wp2_with fail
        obtain ⟨w6, hw6⟩ : ∃ W, w5.alloc (.cells #[.int .u8 k, .string ⟨#[]⟩, .int .i64 0, .string ⟨#[]⟩, .int .i64 0, .int .i64 0, .int .i64 0, .int .u8 0, .string ⟨#[]⟩, .slice none 0 0, .slice none 0 0, .slice none 0 0] 32) = W := ⟨_, rfl⟩
        rw [hw6]
        have hC8 : Cel w6 w5.heap.size 32 #[.int .u8 k, .string ⟨#[]⟩, .int .i64 0, .string ⟨#[]⟩, .int .i64 0, .int .i64 0, .int .i64 0, .int .u8 0, .string ⟨#[]⟩, .slice none 0 0, .slice none 0 0, .slice none 0 0] := by rw [← hw6]; exact Cel.fresh _ _ _
        have hs6 : w6.heap.size = w5.heap.size + 1 := by rw [← hw6]; simp
        have hb56 : Below w5.heap.size w5 w6 := by rw [← hw6]; exact (Below.refl _ _).alloc (Nat.le_refl _) _
        have hbn5 : Below wn.heap.size wn w5 := ((Below.refl wn.heap.size wn).alloc (Nat.le_refl _) _).trans (hA7h.out.1 _ (Nat.le_refl _))
        have hb6 : Below wn.heap.size wn w6 := hbn5.trans (hb56.mono (by omega))
        have hBw6 : Below w.heap.size w w6 := hBn.out.trans (hb6.mono hwsn)
        have hB16 : Below w1.heap.size w1 w6 := hB1n.out.trans (hb6.mono hszn)
        have hC46 : Cel w6 (w.heap.size + 1) 32 #[.int .u8 0, .string ⟨#[]⟩, .int .i64 0, .string ⟨#[]⟩, .int .i64 0, .int .i64 0, .int .i64 0, .int .u8 0, .string ⟨#[]⟩, .slice none 0 0, .slice none 0 0, .slice none 0 0] := hC4n.out.below hb6 hC4n.out.lt
        have hc4lt := hC4n.out.lt
        have hL : LMem w6 (fun i => X i ∧ i < w.heap.size) (w5.heap.size + 1) w5.heap.size (zeroLM k) := LMem.shut0 (idn := .slice none 0 0) (idl := .slice none 0 0) hC8 (zero8_jv _ _) rfl
        have hVj : JV w6 (fun i => X i ∧ i < w.heap.size) j (.slice A n c) (.slice A' n' c') := (hV.out.more (Y := fun i => X i ∧ i < w.heap.size) (fun i h1 h2 => ⟨h1, h2⟩)).later hBw6
        have hcall := hread.out j (fun i => X i ∧ i < w.heap.size) (w5.heap.size + 1) w5.heap.size (zeroLM k) w6 _ _ (hK.out w5.heap.size (by omega) w6 hB16) hVj hbk (fun i h1 h2 => ⟨by omega, by omega⟩) hL rfl (Nat.lt_succ_self _) (by omega)
        obtain ⟨⟨ok, m2⟩, hrd⟩ : ∃ a, rd j (zeroLM k) = a := ⟨_, rfl⟩
        rw [hrd] at hcall
        have hR3 := hR2.out
        unfold ldecOf at hR3
        rw [hrd] at hR3
        replace hcall := Lib.hid hcall
        replace hrd := Lib.hid hrd
        replace hw6 := Lib.hid hw6
        replace hs6 := Lib.hid hs6
        clear hR2 hread hK hch heF hL hVj hB16 hC8 hb56 hbn5 hC7h hA7h c0 c1 y0 y1 y2 y3 e0 e1 e2 e3 hC3h hB1n hrun hen hlt hwf hb2h hV
        refine hcall.out.mono ?_
        rintro e w7 ⟨rfl, hL7, hbut7⟩
        have hC47 : Cel w7 (w.heap.size + 1) 32 #[.int .u8 0, .string ⟨#[]⟩, .int .i64 0, .string ⟨#[]⟩, .int .i64 0, .int .i64 0, .int .i64 0, .int .u8 0, .string ⟨#[]⟩, .slice none 0 0, .slice none 0 0, .slice none 0 0] := hC46.but hbut7 hC46.lt (by omega)
        have hB7 : Below w.heap.size w w7 := hBw6.trans (hbut7.below (by omega) hBw6.size)
        replace hC47 := Lib.hid hC47
        replace hB7 := Lib.hid hB7
        clear hcall hC46 hBw6 hb6
        cases ok with
        | false =>
          simp only [Bool.false_eq_true, if_false] at hR3
          subst hR3
          clear hL7
          go_wp2_with (refine wpList_store_cel rfl 32 (.tmp 4) (.tmp 27) (by rfl) (w.heap.size + 1) 0 #[.int .u8 0, .string ⟨#[]⟩, .int .i64 0, .string ⟨#[]⟩, .int .i64 0, .int .i64 0, .int .i64 0, .int .u8 0, .string ⟨#[]⟩, .slice none 0 0, .slice none 0 0, .slice none 0 0] _ #[.int .u8 0, .string ⟨#[]⟩, .int .i64 0, .string ⟨#[]⟩, .int .i64 0, .int .i64 0, .int .i64 0, .int .u8 0, .string ⟨#[]⟩, .slice none 0 0, .slice none 0 0, .slice none 0 0] 32 (by rfl) (by rfl) hC47.out (Nat.le_refl _) (putA_whole _ _ rfl) lmsgInfo (by simp [Value.oneCell']) ?_; intro w8 hC9 hA9)
          exact bodyPost_ret (results_cel2 Tryz.results8 _ _ _ _ _ dm rfl hC9 hdm.out.1 hdm.out.2 lmsgInfo) rfl ⟨_, _, _, rfl, zero8_jv _ _, World.ownsRow_nil _ _ _ _, hB7.out.trans (hA9.1 _ (by omega))⟩
        | true =>
          simp only [if_true] at hR3
          subst hR3
          obtain ⟨idn, idl, chv, hC9, hJ9, hrow9, _⟩ := hL7
          obtain ⟨I1, i1, i2, I2, i3, i4, rfl, rfl⟩ := hJ9.forms
          obtain ⟨CA, ca, cc, hcv⟩ : ∃ A n c, chv = .slice A n c := by
            rcases hrow9.2 with ⟨e, _⟩ | ⟨g, cap, cur, e, _⟩
            · exact ⟨_, _, _, e⟩
            · exact ⟨_, _, _, e⟩
          subst hcv
          obtain ⟨mk, mu, mv, mt, ml, mch, mw, mid, mcs⟩ := m2
          replace hC9 := Lib.hid hC9
          replace hJ9 := Lib.hid hJ9
          replace hrow9 := Lib.hid hrow9
          go_wp2_with (first | (refine wpList_load_all rfl 32 (.tmp 8) (by rfl) w5.heap.size _ 32 dm (by rfl) hC9.out hdm.out.1 hdm.out.2 lmsgInfo ?_) | (refine wpList_store_cel rfl 32 (.tmp 4) (.tmp 28) (by rfl) (w.heap.size + 1) 0 (mCells ⟨mk, mu, mv, mt, ml, mch, mw, mid, mcs⟩ (.slice I1 i1 i2) (.slice I2 i3 i4) (.slice CA ca cc)) _ (mCells ⟨mk, mu, mv, mt, ml, mch, mw, mid, mcs⟩ (.slice I1 i1 i2) (.slice I2 i3 i4) (.slice CA ca cc)) 32 (by rfl) (by rfl) hC47.out (Nat.le_refl _) (putA_whole _ _ rfl) lmsgInfo (by simp [Value.oneCell', mCells]) ?_; intro w8 hC10 hA10))
          refine bodyPost_ret (results_cel2 Tryz.results8 _ _ _ _ _ dm rfl hC10 hdm.out.1 hdm.out.2 lmsgInfo) rfl ⟨_, _, _, rfl, ?_, ?_, hB7.out.trans (hA10.1 _ (by omega))⟩
          · exact (JV.keep (by rw [hA10.2.2]; exact Nat.le_refl _) (fun p h1 h2 => World.cell?_of_block (hA10.2.1 p.block (by have := h1.2; omega))) (fun i h1 _ => h1.1) _ hJ9.out)
          · exact ownsRow_base (ownsRow_same hrow9.out (fun i hi => hA10.2.1 i (by have := (hrow9.out.lt i hi).1; omega))) (by omega)
      · have hn1 := jeq_f hnm
        replace hnm := Lib.hid hnm
        go_wp2_with (refine wpList_store_cel rfl 77 (.tmp 7) (.tmp 15) (by rfl) wn.heap.size 0 #[.string nm, .func (.func F0) #[] caps0] #[.string ⟨#[]⟩, .nilFunc] #[.string nm, .func (.func F0) #[] caps0] 77 (by rfl) (by rfl) (Cel.fresh _ _ _) (Nat.le_refl _) (putA_whole _ _ rfl) methInfo (by simp [Value.oneCell']) ?_; intro w5 hC7 hA7; have c0 : w5.cell? ⟨wn.heap.size, 0, none⟩ = some (.string nm) := hC7.cell 0; have c1 : w5.cell? ⟨wn.heap.size, 1, none⟩ = some (.func (.func F0) #[] caps0) := hC7.cell 1; replace hC7 := Lib.hid hC7; replace hA7 := Lib.hid hA7)
        have hk7 : ∀ i, i < wn.heap.size → w5.heap[i]? = wn.heap[i]? := fun i hi => (hA7.out.2.1 i (by omega)).trans (Below.heap_alloc wn _ i hi)
        have hs7 : w5.heap.size = wn.heap.size + 1 := hA7.out.2.2.trans (by simp)
        have hg7 : wn.grownBy w5 none := ⟨(hA7.out.1 0 (Nat.zero_le _)).os, (hA7.out.1 0 (Nat.zero_le _)).tape, (hA7.out.1 0 (Nat.zero_le _)).output, by omega, fun i hi _ => hk7 i hi⟩
        have hrg5 := hrg4.out.kept hg7 (by simp) (by simp)
        go_roundw
        case rel => exact ⟨_, _, hrg5, fun q hq e => hleft4.out q hq e hnm.out, (hk7 _ hC3h.out.lt).trans hC3h.out, (hk7 _ hC4n.out.lt).trans hC4n.out, hBn.out.trans ((Below.refl wn.heap.size wn).alloc (Nat.le_refl _) _ |>.trans (hA7.out.1 _ (Nat.le_refl _)) |>.mono hwsn), hB1n.out.trans ((Below.refl wn.heap.size wn).alloc (Nat.le_refl _) _ |>.trans (hA7.out.1 _ (Nat.le_refl _)) |>.mono hszn)⟩
        case measure => rw [hrg5.left_eq, hm]; omega
end Go.Proofs.YtlnkjacbdolhnaaGreatDoor


/-
  The walks of the document's Shown, Log, Place.
-/
namespace Go.Proofs.YtlnkjacbdolhnaaGreatDoor
open Go.RowKit

end Go.Proofs.YtlnkjacbdolhnaaGreatDoor
