/-
  The walk of rostrumlaw08.back: a message that was read, as the reference's.
-/
import Derived.Test.YtlnkjacbdolhnaaGreatDoorLmF
import Derived.Test.YtlnkjacbdolhnaaGreatDoorM24
namespace Go.Proofs.YtlnkjacbdolhnaaGreatDoor
open Go.RowKit

theorem chRow_at : ∀ (l : List Ch) (i : Nat) (c : Ch), l[i]? = some c → ∀ (j : Nat) v, (chCells c)[j]? = some v → (chRow l)[i * 6 + j]? = some v
  | [], i, c, h, j, v, h3 => by simp at h
  | y :: l, 0, c, h, j, v, h3 => by
    simp at h
    subst h
    have hq : j < 6 := (List.getElem?_eq_some_iff.1 h3).1
    have e : chRow (y :: l) = chCells y ++ chRow l := rfl
    rw [e, Nat.zero_mul, Nat.zero_add, List.getElem?_append_left hq]
    exact h3
  | y :: l, i + 1, c, h1, j, v, h3 => by
    have := chRow_at l i c (by simpa using h1) j v h3
    have e : chRow (y :: l) = chCells y ++ chRow l := rfl
    rw [e, List.getElem?_append_right (by show 6 ≤ _; omega)]
    show (chRow l)[(i + 1) * 6 + j - 6]? = some v
    rw [show (i + 1) * 6 + j - 6 = i * 6 + j by omega]
    exact this
theorem infoRCh : (Tryz.prog.info? 82).map (fun i => (i.zero, i.size, i.bytes)) = some (some (.agg #[.bool false, .int .i64 0, .int .i64 0, .int .i64 0, .int .i64 0, .string ByteArray.empty]), 6, 56) := by kernel_rfl
theorem cell_ch (V1 : World) (t : TypeId) (c : Ch) : ∀ (j : Nat) u, (chCells c)[j]? = some u → (V1.alloc (.cells #[.bool c.whole, .int .i64 c.a, .int .i64 c.b, .int .i64 c.c, .int .i64 c.d, .string c.t] t)).cell? ((⟨V1.heap.size, 0, none⟩ : Addr).add j) = some u := fun j u hu => by
  have hadd : (⟨V1.heap.size, 0, none⟩ : Addr).add j = ⟨V1.heap.size, j, none⟩ := by unfold Addr.add; split <;> simp_all
  rw [hadd, (Cel.fresh V1 t #[.bool c.whole, .int .i64 c.a, .int .i64 c.b, .int .i64 c.c, .int .i64 c.d, .string c.t]).cell]
  simpa [chCells] using hu
theorem ones_ch (c : Ch) : ∀ u ∈ chCells c, u.oneCell' = true := fun u hu => by simp [chCells] at hu; rcases hu with rfl | rfl | rfl | rfl | rfl | rfl <;> rfl
theorem own_slice {w : World} {B k n : Nat} {t : TypeId} {v : Value} {xs : List Value} (h : w.ownsRow B t k v n xs) : ∃ A c, v = .slice A n c := by
  rcases h.2 with ⟨e, h1⟩ | ⟨g, cap, cur, e, _⟩
  · exact ⟨none, 0, by rw [e, h1]⟩
  · exact ⟨_, _, e⟩
def BackEnd (m : LM) (idn idl : Value) (w : World) (e : Ending) (w' : World) : Prop := ∃ A c, e = .returned (.agg (mCells m idn idl (.slice A m.chs.length c))) ∧ w'.ownsRow w.heap.size 82 6 (.slice A m.chs.length c) m.chs.length (chRow m.chs) ∧ Below w.heap.size w w'
set_option maxRecDepth 100000 in
set_option maxHeartbeats 8000000 in
theorem back_any (m : LM) (Ai : Option Addr) (ni ci : Nat) (Ai' : Option Addr) (ni' ci' : Nat) (chv : Value) (B : Nat) (w : World) (hrow : w.ownsRow B 83 6 chv m.chs.length (chRow m.chs)) (hl : m.chs.length ≤ 1000000000000) :
    Calls Tryz.prog 10 #[.agg (mCells m (.slice Ai ni ci) (.slice Ai' ni' ci') chv)] w (BackEnd m (.slice Ai ni ci) (.slice Ai' ni' ci') w) := by
  obtain ⟨i0, hi0, hz0, hz1, hz2⟩ := info_parts infoRCh
  obtain ⟨CA, cc, rfl⟩ : ∃ A c, chv = .slice A m.chs.length c := by
    rcases hrow.2 with ⟨e, h1⟩ | ⟨g, cap, cur, e, _⟩
    · exact ⟨none, 0, by rw [e, h1]⟩
    · exact ⟨_, _, e⟩
  have hat : ∀ (wr : World), Below w.heap.size w wr → ∀ (q : Nat) (c : Ch), m.chs[q]? = some c → ∃ g o, CA = some ⟨g, o, none⟩ ∧ wr.cell? ⟨g, o + q * 6, none⟩ = some (.bool c.whole) ∧ wr.cell? ⟨g, o + q * 6 + 1, none⟩ = some (.int .i64 c.a) ∧ wr.cell? ⟨g, o + q * 6 + 2, none⟩ = some (.int .i64 c.b) ∧ wr.cell? ⟨g, o + q * 6 + 3, none⟩ = some (.int .i64 c.c) ∧ wr.cell? ⟨g, o + q * 6 + 4, none⟩ = some (.int .i64 c.d) ∧ wr.cell? ⟨g, o + q * 6 + 5, none⟩ = some (.string c.t) := by
    intro wr hB q c hq
    have hlt := (List.getElem?_eq_some_iff.1 hq).1
    obtain ⟨g, cap, e, _, h2, h3⟩ := row_cells hrow (by omega)
    injection e with e1 e2 e3
    refine ⟨g, 0, e1, ?_⟩
    have key : ∀ (j : Nat) v, (chCells c)[j]? = some v → wr.cell? ⟨g, 0 + q * 6 + j, none⟩ = some v := fun j v hj => by
      rw [Nat.zero_add]
      exact (World.cell?_of_block (w := w) (a := ⟨g, q * 6 + j, none⟩) (hB.block g h2)).trans (h3 _ _ (chRow_at _ _ _ hq j v hj))
    exact ⟨key 0 _ rfl, key 1 _ rfl, key 2 _ rfl, key 3 _ rfl, key 4 _ rfl, key 5 _ rfl⟩
  obtain ⟨w0, hw0⟩ : ∃ w0, ((w.alloc (.cells #[.int .u8 m.kind, .string m.uri, .int .i64 m.version, .string m.text, .int .i64 m.line, .int .i64 m.char, .int .i64 m.width, .int .u8 m.id.kind, .string m.id.text, .slice Ai ni ci, .slice Ai' ni' ci', .slice CA m.chs.length cc] 32)).alloc (.cells #[.int .u8 0, .string ⟨#[]⟩, .int .i64 0, .string ⟨#[]⟩, .int .i64 0, .int .i64 0, .int .i64 0, .int .u8 0, .string ⟨#[]⟩, .slice none 0 0, .slice none 0 0, .slice none 0 0] 40)).alloc (.cells #[.int .u8 m.kind, .string m.uri, .int .i64 m.version, .string m.text, .int .i64 m.line, .int .i64 m.char, .int .i64 m.width, .int .u8 m.id.kind, .string m.id.text, .slice Ai ni ci, .slice Ai' ni' ci', .slice none 0 0] 40) = w0 := ⟨_, rfl⟩
  have hB0 : Below w.heap.size w w0 := by rw [← hw0]; exact (((Below.refl _ _).alloc (Nat.le_refl _) _).alloc (by simp) _).alloc (by simp; omega) _
  have hs0 : w0.heap.size = w.heap.size + 3 := by rw [← hw0]; simp
  have hM1 : Cel w0 w.heap.size 32 #[.int .u8 m.kind, .string m.uri, .int .i64 m.version, .string m.text, .int .i64 m.line, .int .i64 m.char, .int .i64 m.width, .int .u8 m.id.kind, .string m.id.text, .slice Ai ni ci, .slice Ai' ni' ci', .slice CA m.chs.length cc] := by rw [← hw0]; exact ((Cel.fresh _ _ _).alloc _).alloc _
  have hM2 : Cel w0 (w.heap.size + 1) 40 #[.int .u8 0, .string ⟨#[]⟩, .int .i64 0, .string ⟨#[]⟩, .int .i64 0, .int .i64 0, .int .i64 0, .int .u8 0, .string ⟨#[]⟩, .slice none 0 0, .slice none 0 0, .slice none 0 0] := by
    rw [← hw0]
    have := (Cel.fresh (w.alloc (.cells #[.int .u8 m.kind, .string m.uri, .int .i64 m.version, .string m.text, .int .i64 m.line, .int .i64 m.char, .int .i64 m.width, .int .u8 m.id.kind, .string m.id.text, .slice Ai ni ci, .slice Ai' ni' ci', .slice CA m.chs.length cc] 32)) 40 #[.int .u8 0, .string ⟨#[]⟩, .int .i64 0, .string ⟨#[]⟩, .int .i64 0, .int .i64 0, .int .i64 0, .int .u8 0, .string ⟨#[]⟩, .slice none 0 0, .slice none 0 0, .slice none 0 0]).alloc (.cells #[.int .u8 m.kind, .string m.uri, .int .i64 m.version, .string m.text, .int .i64 m.line, .int .i64 m.char, .int .i64 m.width, .int .u8 m.id.kind, .string m.id.text, .slice Ai ni ci, .slice Ai' ni' ci', .slice none 0 0] 40)
    simpa using this
  have hM3 : Cel w0 (w.heap.size + 2) 40 #[.int .u8 m.kind, .string m.uri, .int .i64 m.version, .string m.text, .int .i64 m.line, .int .i64 m.char, .int .i64 m.width, .int .u8 m.id.kind, .string m.id.text, .slice Ai ni ci, .slice Ai' ni' ci', .slice none 0 0] := by
    rw [← hw0]
    have := Cel.fresh ((w.alloc (.cells #[.int .u8 m.kind, .string m.uri, .int .i64 m.version, .string m.text, .int .i64 m.line, .int .i64 m.char, .int .i64 m.width, .int .u8 m.id.kind, .string m.id.text, .slice Ai ni ci, .slice Ai' ni' ci', .slice CA m.chs.length cc] 32)).alloc (.cells #[.int .u8 0, .string ⟨#[]⟩, .int .i64 0, .string ⟨#[]⟩, .int .i64 0, .int .i64 0, .int .i64 0, .int .u8 0, .string ⟨#[]⟩, .slice none 0 0, .slice none 0 0, .slice none 0 0] 40)) 40 #[.int .u8 m.kind, .string m.uri, .int .i64 m.version, .string m.text, .int .i64 m.line, .int .i64 m.char, .int .i64 m.width, .int .u8 m.id.kind, .string m.id.text, .slice Ai ni ci, .slice Ai' ni' ci', .slice none 0 0]
    simpa using this
  clear hrow
  replace hat := Lib.hid hat
  replace hw0 := Lib.hid hw0
  replace hB0 := Lib.hid hB0
  replace hM2 := Lib.hid hM2
  replace hM3 := Lib.hid hM3
  replace hM1 := Lib.hid hM1
  unfold mCells
  go_enter Tryz.func10, Tryz.ntmps10
  go_upto_region 2 with fail
  rw [hw0.out]
  clear hw0
  rw [show w.heap.size + 1 + 1 = w.heap.size + 2 from rfl]
  go_wp2_with fail
  go_loopw [4] (fun i wr => ∃ (q : Nat) (ch : Value), q ≤ m.chs.length ∧ i = .int .i64 q ∧ Cel wr (w.heap.size + 2) 40 #[.int .u8 m.kind, .string m.uri, .int .i64 m.version, .string m.text, .int .i64 m.line, .int .i64 m.char, .int .i64 m.width, .int .u8 m.id.kind, .string m.id.text, .slice Ai ni ci, .slice Ai' ni' ci', ch] ∧ wr.ownsRow (w.heap.size + 3) 82 6 ch q (chRow (m.chs.take q)) ∧ w0.heap.size ≤ wr.heap.size ∧ Cel wr w.heap.size 32 #[.int .u8 m.kind, .string m.uri, .int .i64 m.version, .string m.text, .int .i64 m.line, .int .i64 m.char, .int .i64 m.width, .int .u8 m.id.kind, .string m.id.text, .slice Ai ni ci, .slice Ai' ni' ci', .slice CA m.chs.length cc] ∧ Cel wr (w.heap.size + 1) 40 #[.int .u8 0, .string ⟨#[]⟩, .int .i64 0, .string ⟨#[]⟩, .int .i64 0, .int .i64 0, .int .i64 0, .int .u8 0, .string ⟨#[]⟩, .slice none 0 0, .slice none 0 0, .slice none 0 0] ∧ Below w.heap.size w wr) (fun i _ => m.chs.length - (intOf i).toNat)
  case atStart => exact ⟨0, .slice none 0 0, Nat.zero_le _, rfl, hM3.out, World.ownsRow_nil _ _ _ _, Nat.le_refl _, hM1.out, hM2.out, hB0.out⟩
  case round =>
    obtain ⟨q, ch, hq, rfl, hR, hrow, hsz, hM, hZ, hB⟩ := hrel
    obtain ⟨RA, rc, hch⟩ : ∃ A c, ch = .slice A q c := by
      rcases hrow.2 with ⟨e, h1⟩ | ⟨g, cap, cur, e, _⟩
      · exact ⟨none, 0, by rw [e, h1]⟩
      · exact ⟨_, _, e⟩
    subst hch
    have m11 := hM.cell 11
    replace m11 : wr.cell? ⟨w.heap.size, 11, none⟩ = some (.slice CA m.chs.length cc) := m11
    by_cases hlt : q < m.chs.length
    · obtain ⟨c, hc⟩ : ∃ x, m.chs[q]? = some x := ⟨_, List.getElem?_eq_getElem hlt⟩
      obtain ⟨g, o, hgo, e0, e1, e2, e3, e4, e5⟩ := hat.out wr hB q c hc
      subst hgo
      have hsnoc : m.chs.take (q + 1) = m.chs.take q ++ [c] := by rw [List.take_add_one, hc]; rfl
      have hq0 : (0 : Int) ≤ (q : Int) := by omega
      have hq1 : (q : Int) < (m.chs.length : Int) := by omega
      obtain ⟨V1, hV1⟩ : ∃ W, wr.alloc (.cells #[.bool c.whole, .int .i64 c.a, .int .i64 c.b, .int .i64 c.c, .int .i64 c.d, .string c.t] 83) = W := ⟨_, rfl⟩
      have hs1 : V1.heap.size = wr.heap.size + 1 := by rw [← hV1]; simp
      have hBV1 : Below wr.heap.size wr V1 := by rw [← hV1]; exact (Below.refl _ _).alloc (Nat.le_refl _) _
      have hC5 : Cel V1 wr.heap.size 83 #[.bool c.whole, .int .i64 c.a, .int .i64 c.b, .int .i64 c.c, .int .i64 c.d, .string c.t] := by rw [← hV1]; exact Cel.fresh _ _ _
      have hR1 := hR.below hBV1 hR.lt
      have hM1' := hM.below hBV1 hM.lt
      have hZ1 := hZ.below hBV1 hZ.lt
      have hrow1 : V1.ownsRow (w.heap.size + 3) 82 6 (.slice RA q rc) q (chRow (m.chs.take q)) := by rw [← hV1]; exact hrow.alloc _
      have c0 : V1.cell? ⟨wr.heap.size, 0, none⟩ = some (.bool c.whole) := hC5.cell 0
      have c1 : V1.cell? ⟨wr.heap.size, 1, none⟩ = some (.int .i64 c.a) := hC5.cell 1
      have c2 : V1.cell? ⟨wr.heap.size, 2, none⟩ = some (.int .i64 c.b) := hC5.cell 2
      have c3 : V1.cell? ⟨wr.heap.size, 3, none⟩ = some (.int .i64 c.c) := hC5.cell 3
      have c4 : V1.cell? ⟨wr.heap.size, 4, none⟩ = some (.int .i64 c.d) := hC5.cell 4
      have c5 : V1.cell? ⟨wr.heap.size, 5, none⟩ = some (.string c.t) := hC5.cell 5
      have r11 : V1.cell? ⟨w.heap.size + 2, 11, none⟩ = some (.slice RA q rc) := hR1.cell 11
      have hBt := hB.trans (hBV1.mono hB.size)
      have hnews := Lib.hid (cell_ch V1 82 c)
      have hones := Lib.hid (ones_ch c)
      have hml : q + 1 ≤ maxLen := by unfold maxLen; omega
      have hby : (q + 1) * 56 ≤ 140737488355328 := by omega
      have hba : w.heap.size + 3 ≤ (V1.alloc (.cells #[.bool c.whole, .int .i64 c.a, .int .i64 c.b, .int .i64 c.c, .int .i64 c.d, .string c.t] 82)).heap.size := by simp; omega
      have hv1 : w.heap.size + 3 ≤ V1.heap.size := by omega
      have hv2 : w0.heap.size ≤ V1.heap.size := by omega
      have hbr : ∀ k, (Value.slice RA q rc).ownBlock = some k → w.heap.size + 3 ≤ k := fun k hk => (hrow1.lt k hk).1
      have hkeep : ∀ w3, (V1.alloc (.cells #[.bool c.whole, .int .i64 c.a, .int .i64 c.b, .int .i64 c.c, .int .i64 c.d, .string c.t] 82)).grownBy w3 (Value.slice RA q rc).ownBlock → ∀ k, k < w.heap.size + 3 → w3.heap[k]? = V1.heap[k]? := fun w3 hgr k hk => (hgr.block k (by simp; omega) (fun e => by have := hbr k e.symm; omega)).trans (Below.heap_alloc V1 _ k (by omega))
      have hcel3 : ∀ w3, (V1.alloc (.cells #[.bool c.whole, .int .i64 c.a, .int .i64 c.b, .int .i64 c.c, .int .i64 c.d, .string c.t] 82)).grownBy w3 (Value.slice RA q rc).ownBlock → Cel w3 (w.heap.size + 2) 40 #[.int .u8 m.kind, .string m.uri, .int .i64 m.version, .string m.text, .int .i64 m.line, .int .i64 m.char, .int .i64 m.width, .int .u8 m.id.kind, .string m.id.text, .slice Ai ni ci, .slice Ai' ni' ci', .slice RA q rc] := fun w3 h => (hkeep w3 h _ (by omega)).trans hR1
      replace hbr := Lib.hid hbr
      replace hkeep := Lib.hid hkeep
      replace hcel3 := Lib.hid hcel3
      replace hs1 := Lib.hid hs1
      replace hV1 := Lib.hid hV1
      replace hBt := Lib.hid hBt
      replace hR1 := Lib.hid hR1
      replace hM1' := Lib.hid hM1'
      replace hZ1 := Lib.hid hZ1
      replace hrow1 := Lib.hid hrow1
      replace hsnoc := Lib.hid hsnoc
      clear hR hrow hM hZ hB hC5 hBV1 hc hat
      go_upto_region 6 with fail
      rw [hV1.out]
      clear hV1 e0 e1 e2 e3 e4 e5 m11
      go_wp2_with (at_builtin; refine wpList_append_own _ rfl _ _ 38 rfl (w.heap.size + 3) 82 i0 _ 6 56 Tryz.underlying38 hi0 hz0 hz1 hz2 rfl (by decide) (.slice RA q rc) _ _ (by rfl) (hrow1.out.alloc _) ⟨V1.heap.size, 0, none⟩ 1 1 (chCells c) (by rfl) rfl hnews.out hones.out hml hby hba ?_; intro v' w3 hown' hgr _; obtain ⟨LB, ld, hv'⟩ := own_slice hown'; subst hv'; have hR3 := hcel3.out w3 hgr; have x11 : w3.cell? ⟨w.heap.size + 2, 11, none⟩ = some (.slice RA q rc) := hR3.cell 11; have f11 := hR3.froz 11)
      clear c0 c1 c2 c3 c4 c5 r11
      have hgs : V1.heap.size + 1 ≤ w3.heap.size := by have := hgr.size; simpa using this
      have hk3 := hkeep.out w3 hgr
      have hM3' : Cel w3 w.heap.size 32 #[.int .u8 m.kind, .string m.uri, .int .i64 m.version, .string m.text, .int .i64 m.line, .int .i64 m.char, .int .i64 m.width, .int .u8 m.id.kind, .string m.id.text, .slice Ai ni ci, .slice Ai' ni' ci', .slice (some ⟨g, o, none⟩) m.chs.length cc] := (hk3 _ (by omega)).trans hM1'.out
      have hZ3 : Cel w3 (w.heap.size + 1) 40 #[.int .u8 0, .string ⟨#[]⟩, .int .i64 0, .string ⟨#[]⟩, .int .i64 0, .int .i64 0, .int .i64 0, .int .u8 0, .string ⟨#[]⟩, .slice none 0 0, .slice none 0 0, .slice none 0 0] := (hk3 _ (by omega)).trans hZ1.out
      have hB3 : Below w.heap.size w w3 := Below.grown (hBt.out.alloc hBt.out.size _) hgr (by have := hBt.out.size; simp; omega) (fun k hk => by have := hbr.out k hk; omega)
      rw [← chRow_snoc, ← hsnoc.out] at hown'
      obtain ⟨W5, hW5⟩ : ∃ X, w3.setCell ⟨w.heap.size + 2, 11, none⟩ (.slice LB (q + 1) ld) = X := ⟨_, rfl⟩
      have hk5 : ∀ k, k ≠ w.heap.size + 2 → W5.heap[k]? = w3.heap[k]? := fun k hk => by rw [← hW5]; exact Below.heap_setCell w3 _ _ k hk
      have hs5 : W5.heap.size = w3.heap.size := by rw [← hW5]; simp [World.setCell]
      have hR5 : Cel W5 (w.heap.size + 2) 40 #[.int .u8 m.kind, .string m.uri, .int .i64 m.version, .string m.text, .int .i64 m.line, .int .i64 m.char, .int .i64 m.width, .int .u8 m.id.kind, .string m.id.text, .slice Ai ni ci, .slice Ai' ni' ci', .slice LB (q + 1) ld] := by rw [← hW5]; exact hR3.set 11 _
      have hM5 : Cel W5 w.heap.size 32 #[.int .u8 m.kind, .string m.uri, .int .i64 m.version, .string m.text, .int .i64 m.line, .int .i64 m.char, .int .i64 m.width, .int .u8 m.id.kind, .string m.id.text, .slice Ai ni ci, .slice Ai' ni' ci', .slice (some ⟨g, o, none⟩) m.chs.length cc] := (hk5 _ (by omega)).trans hM3'
      have hZ5 : Cel W5 (w.heap.size + 1) 40 #[.int .u8 0, .string ⟨#[]⟩, .int .i64 0, .string ⟨#[]⟩, .int .i64 0, .int .i64 0, .int .i64 0, .int .u8 0, .string ⟨#[]⟩, .slice none 0 0, .slice none 0 0, .slice none 0 0] := (hk5 _ (by omega)).trans hZ3
      have hrow5 : W5.ownsRow (w.heap.size + 3) 82 6 (.slice LB (q + 1) ld) (q + 1) (chRow (m.chs.take (q + 1))) := hown'.kept (row := some (w.heap.size + 2)) ⟨by rw [← hW5]; rfl, by rw [← hW5]; rfl, by rw [← hW5]; rfl, by omega, fun k hk hne => hk5 k (fun e => hne (by rw [e]))⟩ (Or.inr fun e => by have := (hown'.lt _ e).1; omega)
      have hB5 : Below w.heap.size w W5 := by rw [← hW5]; exact hB3.setCell (by simp) _
      replace hW5 := Lib.hid hW5
      replace hR5 := Lib.hid hR5
      replace hM5 := Lib.hid hM5
      replace hZ5 := Lib.hid hZ5
      replace hrow5 := Lib.hid hrow5
      replace hB5 := Lib.hid hB5
      clear hR3 hM3' hZ3 hB3 hown' hgr hk3 hbr hk5 hR1 hM1' hZ1 hrow1 hBt
      rw [hW5.out]
      go_roundw
      case rel => exact ⟨q + 1, (.slice LB (q + 1) ld), by omega, by go_num, hR5.out, hrow5.out, by omega, hM5.out, hZ5.out, hB5.out⟩
      case measure => simp [intOf]; omega
    · have hfull : m.chs.take q = m.chs := List.take_of_length_le (by omega)
      rw [hfull] at hrow
      have hq1 : ¬ (q : Int) < (m.chs.length : Int) := by omega
      have hqe : q = m.chs.length := by omega
      subst hqe
      have r0 := hR.cell 0
      have r1 := hR.cell 1
      have r2 := hR.cell 2
      have r3 := hR.cell 3
      have r4 := hR.cell 4
      have r5 := hR.cell 5
      have r6 := hR.cell 6
      have r7 := hR.cell 7
      have r8 := hR.cell 8
      have r9 := hR.cell 9
      have r10 := hR.cell 10
      have r11 := hR.cell 11
      have z0 := hZ.cell 0
      have z1 := hZ.cell 1
      have z2 := hZ.cell 2
      have z3 := hZ.cell 3
      have z4 := hZ.cell 4
      have z5 := hZ.cell 5
      have z6 := hZ.cell 6
      have z7 := hZ.cell 7
      have z8 := hZ.cell 8
      have z9 := hZ.cell 9
      have z10 := hZ.cell 10
      have z11 := hZ.cell 11
      have s0 := hZ.froz 0
      have s1 := hZ.froz 1
      have s2 := hZ.froz 2
      have s3 := hZ.froz 3
      have s4 := hZ.froz 4
      have s5 := hZ.froz 5
      have s6 := hZ.froz 6
      have s7 := hZ.froz 7
      have s8 := hZ.froz 8
      have s9 := hZ.froz 9
      have s10 := hZ.froz 10
      have s11 := hZ.froz 11
      simp only [List.getElem?_toArray, List.getElem?_cons_zero, List.getElem?_cons_succ] at r0 z0 r1 z1 r2 z2 r3 z3 r4 z4 r5 z5 r6 z6 r7 z7 r8 z8 r9 z9 r10 z10 r11 z11
      have hfin : ∀ W, But wr.heap.size (w.heap.size + 1) wr W → W.ownsRow w.heap.size 82 6 (.slice RA m.chs.length rc) m.chs.length (chRow m.chs) ∧ Below w.heap.size w W := fun W h => by
        have h1 : W.ownsRow (w.heap.size + 3) 82 6 (.slice RA m.chs.length rc) m.chs.length (chRow m.chs) := hrow.kept (row := some (w.heap.size + 1)) ⟨h.os, h.tape, h.output, h.size, fun k hk hn => h.block k hk (fun e => hn (by rw [e]))⟩ (Or.inr fun e => by have := (hrow.lt _ e).1; omega)
        exact ⟨⟨h1.1, h1.2.imp id (fun ⟨g, cap, cur, e1, e2, r⟩ => ⟨g, cap, cur, e1, by omega, r⟩)⟩, hB.trans (h.below (by omega) hB.size)⟩
      replace hfin := Lib.hid hfin
      clear hR hrow hM hZ hB hat hfull
      go_wp2_with fail
      refine bodyPost_ret (v := .agg #[.int .u8 m.kind, .string m.uri, .int .i64 m.version, .string m.text, .int .i64 m.line, .int .i64 m.char, .int .i64 m.width, .int .u8 m.id.kind, .string m.id.text, .slice Ai ni ci, .slice Ai' ni' ci', .slice RA m.chs.length rc]) (by simp [results, Tryz.results10, go_sem, z0, z1, z2, z3, z4, z5, z6, z7, z8, z9, z10, z11]) rfl ⟨RA, rc, rfl, hfin.out _ ?_⟩
      exact ((((((((((((But.refl _ _ _).set 0 _).set 1 _).set 2 _).set 3 _).set 4 _).set 5 _).set 6 _).set 7 _).set 8 _).set 9 _).set 10 _).set 11 _
end Go.Proofs.YtlnkjacbdolhnaaGreatDoor
