/-
  The walk of the JSON reader's closure that reads one item of an Array.
-/
import Derived.Test.YtamcbgkppgdniaaGreatDoorJpG
import Derived.Test.YtamcbgkppgdniaaGreatDoorJsLa
namespace Go.Proofs.YtamcbgkppgdniaaGreatDoor
open Go.RowKit

theorem RowO.keep {w w' : World} {B : Nat} {tS tJ : TypeId} {v : Value} {l : List Jsn} (h : RowO w B tS tJ v l) (hk : ∀ k, B ≤ k → k < w.heap.size → w'.heap[k]? = w.heap[k]?) (hs : w.heap.size ≤ w'.heap.size) : RowO w' B tS tJ v l := by
  obtain ⟨ws, h1, h2, h3, h4⟩ := h
  refine ⟨ws, h1, ⟨h2.1, ?_⟩, fun i x u hx hu => ?_, h4⟩
  · rcases h2.2 with e | ⟨g, cap, cur, e1, e2, e3, e4⟩
    · exact .inl e
    · exact .inr ⟨g, cap, cur, e1, e2, (hk g e2 (Array.getElem?_eq_some_iff.1 e3).1).trans e3, e4⟩
  · obtain ⟨q1, q2, q3, q4, q5⟩ := h3 i x u hx hu
    exact ⟨q1, q2, Nat.le_trans q3 hs, q4, OwnJ.keep x q5 (fun b hb1 hb2 => hk b (by omega) (by omega)) (Nat.le_refl _) (Nat.le_refl _)⟩
theorem RowO.but {w w' : World} {B b : Nat} {tS tJ : TypeId} {v : Value} {l : List Jsn} (h : RowO w B tS tJ v l) (hb : But w.heap.size b w w') (hlt : b < B) : RowO w' B tS tJ v l := h.keep (fun k h1 h2 => hb.block k h2 (by omega)) hb.size
/-- A world cut off behind so many blocks. -/
def wcut (w : World) (n : Nat) : World := { w with heap := w.heap.extract 0 n }
theorem wcut_size {w : World} {n : Nat} (h : n ≤ w.heap.size) : (wcut w n).heap.size = n := by unfold wcut; simp; omega
theorem wcut_at {w : World} {n k : Nat} (h : n ≤ w.heap.size) (hk : k < n) : (wcut w n).heap[k]? = w.heap[k]? := by
  unfold wcut
  simp only [Array.getElem?_extract]
  rw [if_pos (by omega)]
  simp
theorem wcut_below {w : World} {n : Nat} (h : n ≤ w.heap.size) : Below n (wcut w n) w := ⟨rfl, rfl, rfl, by rw [wcut_size h]; exact h, fun k hk => (wcut_at h hk).symm⟩
theorem grown_more {w w4 : World} {row : Option Nat} (h : w.grownBy w4 row) {g : Nat} (hg : row = some g ∨ w.heap.size ≤ g) (j : Nat) (u : Value) : w.grownBy (w4.setCell ⟨g, j, none⟩ u) row :=
  ⟨h.os, h.tape, h.output, by simpa using h.size, fun k hk hn => (Below.heap_setCell w4 ⟨g, j, none⟩ u k (by
    rcases hg with e | e
    · intro e2; exact hn (by rw [e]; exact congrArg some e2)
    · show k ≠ g; omega)).trans (h.block k hk hn)⟩
def zero4 : List Value := [.int .u8 0, .string ⟨#[]⟩, .slice none 0 0, .slice none 0 0]
theorem set4 (xs : List Value) (a b c d : Value) (n : Nat) (h : xs.length = n) : ((((xs ++ zero4).set n a).set (n + 1) b).set (n + 2) c).set (n + 3) d = xs ++ [a, b, c, d] := by
  subst h
  unfold zero4
  simp [List.set_append_right]
/-- A value laid over the place behind a row. -/
def lay4 (w : World) (g n : Nat) (a b c d : Value) : World := (((w.setCell ⟨g, n, none⟩ a).setCell ⟨g, n + 1, none⟩ b).setCell ⟨g, n + 2, none⟩ c).setCell ⟨g, n + 3, none⟩ d
theorem lay4_size (w : World) (g n : Nat) (a b c d : Value) : (lay4 w g n a b c d).heap.size = w.heap.size := by unfold lay4; simp
theorem lay4_other (w : World) (g n : Nat) (a b c d : Value) {k : Nat} (hk : k ≠ g) : (lay4 w g n a b c d).heap[k]? = w.heap[k]? := by
  unfold lay4
  rw [Below.heap_setCell _ _ _ _ hk, Below.heap_setCell _ _ _ _ hk, Below.heap_setCell _ _ _ _ hk, Below.heap_setCell _ _ _ _ hk]
/-- One value more, somewhere in memory of the call's own (w3), appended (w4). -/
theorem RowW.snoc2 {w3 w4 : World} {B lo hi : Nat} {tS tJ : TypeId} {v v' : Value} {l : List Jsn} {ws : List OE} {x : Jsn} {vn vl : Value} (h : RowW w3 B tS tJ v l ws) (hend : ∀ u ∈ ws, u.2.2.2 ≤ lo) (hBl : B ≤ lo) (hlh : lo ≤ hi) (hhi : hi ≤ w3.heap.size)
    (hx : OwnJ w3 tS tJ x lo hi vn vl) (hout : ∀ g, v.ownBlock = some g → ¬ (lo ≤ g ∧ g < hi))
    (hown : w4.ownsRow B tJ 4 v' (l.length + 1) (rowCells l ws ++ encJ (x, vn, vl)))
    (hgr : w3.grownBy w4 v.ownBlock) (hbl : v'.ownBlock = v.ownBlock ∨ ∃ k, v'.ownBlock = some k ∧ w3.heap.size ≤ k) : RowW w4 B tS tJ v' (l ++ [x]) (ws ++ [(vn, vl, lo, hi)]) := by
  obtain ⟨h1, h2, h3, h4⟩ := h
  have hgs := hgr.size
  have hkeep : ∀ (y : Jsn) (a b : Nat) (yn yl : Value), OwnJ w3 tS tJ y a b yn yl → b ≤ w3.heap.size → (∀ g, v.ownBlock = some g → ¬ (a ≤ g ∧ g < b)) → OwnJ w4 tS tJ y a b yn yl := fun y a b yn yl hy hb hg =>
    OwnJ.keep y hy (fun c h5 h6 => hgr.block c (by omega) (fun e => hg c e.symm ⟨h5, h6⟩)) (Nat.le_refl _) (Nat.le_refl _)
  have hvb : ∀ (a b : Nat), b ≤ w3.heap.size → (∀ g, v.ownBlock = some g → ¬ (a ≤ g ∧ g < b)) → ∀ g, v'.ownBlock = some g → ¬ (a ≤ g ∧ g < b) := fun a b hb hg g hg' => by
    rcases hbl with e | ⟨k, e, hk⟩
    · exact hg g (by rw [← e]; exact hg')
    · rw [e] at hg'; injection hg' with hg'; omega
  refine ⟨by simp [h1], ?_, fun i y u hy hu => ?_, fun i j u z hij hu hz => ?_⟩
  · rw [rowCells_snoc h1, List.length_append]
    exact hown
  · by_cases hi' : i < l.length
    · rw [List.getElem?_append_left hi'] at hy
      rw [List.getElem?_append_left (by omega)] at hu
      obtain ⟨q1, q2, q3, q4, q5⟩ := h3 i y u hy hu
      exact ⟨q1, q2, by omega, hvb _ _ (by omega) q4, hkeep y _ _ _ _ q5 (by omega) q4⟩
    · rw [List.getElem?_append_right (by omega)] at hy
      rw [List.getElem?_append_right (by omega)] at hu
      have hi0 : i - l.length = 0 := by
        have := (List.getElem?_eq_some_iff.1 hy).1
        simp at this; omega
      rw [h1, hi0] at hu
      rw [hi0] at hy
      simp at hy hu
      subst hy
      subst hu
      exact ⟨hBl, hlh, by dsimp only; omega, hvb _ _ hhi hout, hkeep _ _ _ _ _ hx hhi hout⟩
  · have hjl : j < (ws ++ [(vn, vl, lo, hi)]).length := (List.getElem?_eq_some_iff.1 hz).1
    simp at hjl
    rw [List.getElem?_append_left (by omega)] at hu
    by_cases hj : j < ws.length
    · rw [List.getElem?_append_left hj] at hz
      exact h4 i j u z hij hu hz
    · rw [List.getElem?_append_right (by omega), show j - ws.length = 0 by omega] at hz
      simp at hz
      subst hz
      exact hend u (List.mem_of_getElem? hu)
/-- One value more: a place is appended, the value laid into it. -/
theorem append_zeroW (tSl : TypeId) (ht : Tryz.prog.underlying tSl = some (.slice 25)) {wr w3 : World} {B b z lo hi : Nat} {v : Value} {l : List Jsn} {x : Jsn} {vn vl : Value} {ws0 : List OE} (hw0 : RowW wr B 9 25 v l ws0) (h13 : But wr.heap.size b wr w3) (hb : b < B) (hB : B ≤ wr.heap.size)
    (hz : Cel w3 z 25 #[.int .u8 0, .string ⟨#[]⟩, .slice none 0 0, .slice none 0 0]) (hlo : wr.heap.size ≤ lo) (hlh : lo ≤ hi) (hhi : hi ≤ w3.heap.size) (hx : OwnJ w3 9 25 x lo hi vn vl) (hl : l.length ≤ 1000000000000) :
    ∃ v' w4 g cap, (Builtin.append_ #[tSl, tSl] tSl #[v, .slice (some ⟨z, 0, none⟩) 1 1]).run Tryz.prog w3 = .ok v' w4 ∧
      v' = .slice (some ⟨g, 0, none⟩) (l.length + 1) cap ∧ B ≤ g ∧ (∀ i u, zero4[i]? = some u → w4.cell? ⟨g, l.length * 4 + i, none⟩ = some u) ∧ (∀ i, w4.frozen? ⟨g, i, none⟩ = false) ∧
      (∀ k, k < B → w4.heap[k]? = w3.heap[k]?) ∧ w3.heap.size ≤ w4.heap.size ∧ w4.os = w3.os ∧ w4.tape = w3.tape ∧ w4.output = w3.output ∧
      RowW (lay4 w4 g (l.length * 4) (.int .u8 x.kind) (.string x.text) vn vl) B 9 25 v' (l ++ [x]) (ws0 ++ [(vn, vl, lo, hi)]) ∧ (v.ownBlock = some g ∨ g = w3.heap.size) ∧ w3.grownBy w4 v.ownBlock := by
  obtain ⟨i0, hi0, hz0, hz1, hz2⟩ := info_parts infoJ
  have hs3 := h13.size
  have hend : ∀ u ∈ ws0, u.2.2.2 ≤ lo := fun u hu => by
    obtain ⟨i, hi'⟩ := List.mem_iff_getElem?.1 hu
    have hil : i < l.length := by have := (List.getElem?_eq_some_iff.1 hi').1; rw [hw0.1] at this; exact this
    have := (hw0.2.2.1 i _ u (List.getElem?_eq_getElem hil) hi').2.2.1
    omega
  have hvl : ∀ g, v.ownBlock = some g → B ≤ g ∧ g < wr.heap.size := hw0.2.1.lt
  have hw : RowW w3 B 9 25 v l ws0 := by
    obtain ⟨h1, h2, h3, h4⟩ := hw0
    have hk : ∀ k, B ≤ k → k < wr.heap.size → w3.heap[k]? = wr.heap[k]? := fun k h1 h2 => h13.block k h2 (by omega)
    refine ⟨h1, ⟨h2.1, ?_⟩, fun i x u hx hu => ?_, h4⟩
    · rcases h2.2 with e | ⟨g, cap, cur, e1, e2, e3, e4⟩
      · exact .inl e
      · exact .inr ⟨g, cap, cur, e1, e2, (hk g e2 (Array.getElem?_eq_some_iff.1 e3).1).trans e3, e4⟩
    · obtain ⟨q1, q2, q3, q4, q5⟩ := h3 i x u hx hu
      exact ⟨q1, q2, Nat.le_trans q3 hs3, q4, OwnJ.keep x q5 (fun b hb1 hb2 => hk b (by omega) (by omega)) (Nat.le_refl _) (Nat.le_refl _)⟩
  obtain ⟨v', w4, hrun, h2, h3, _, h5⟩ := run_append_own_at (P := Tryz.prog) w3 B tSl tSl 25 i0 _ 4 72 ht hi0 hz0 hz1 hz2 rfl (by decide) v l.length (rowCells l ws0) hw.2.1 ⟨z, 0, none⟩ 1 1 zero4 rfl
    (fun j u hu => by
      have hadd : (⟨z, 0, none⟩ : Addr).add j = ⟨z, j, none⟩ := by unfold Addr.add; split <;> simp_all
      rw [hadd, hz.cell]
      simpa [zero4] using hu)
    (fun u hu => by simp [zero4] at hu; rcases hu with rfl | rfl | rfl | rfl <;> rfl) (by unfold maxLen; omega) (by omega) (by omega)
  obtain ⟨g, cap, rfl⟩ : ∃ g cap, v' = .slice (some ⟨g, 0, none⟩) (l.length + 1) cap := by
    rcases h2.2 with ⟨_, h0⟩ | ⟨g, cap, cur, e, _⟩
    · omega
    · exact ⟨g, cap, e⟩
  have hrl : (rowCells l ws0).length = l.length * 4 := hw.2.1.1
  have hgg : v.ownBlock = some g ∨ w3.heap.size ≤ g := by
    rcases h5 with e | e
    · exact .inl e.symm
    · right
      have e2 : some g = some w3.heap.size := e
      injection e2 with e2
      omega
  have hge : v.ownBlock = some g ∨ g = w3.heap.size := by
    rcases h5 with e | e
    · exact .inl e.symm
    · right
      have e2 : some g = some w3.heap.size := e
      injection e2
  have hgB : B ≤ g := by
    rcases hgg with e | e
    · exact (hvl g e).1
    · omega
  refine ⟨_, w4, g, cap, hrun, rfl, hgB, fun i u hu => ?_, fun i => h2.frozenAt _, fun k hk => ?_, h3.size, h3.os, h3.tape, h3.output, ?_⟩
  · have hi : i < 4 := (List.getElem?_eq_some_iff.1 hu).1
    rw [h2.cellAt (l.length * 4 + i) (by omega), List.getElem?_append_right (by omega), hrl, Nat.add_sub_cancel_left]
    exact hu
  · exact h3.block k (by omega) (fun e => by have := (hvl k e.symm).1; omega)
  · have s1 := h2.stored (l.length * 4) (.int .u8 x.kind)
    have s2 := s1.1.stored (l.length * 4 + 1) (.string x.text)
    have s3 := s2.1.stored (l.length * 4 + 2) vn
    have s4 := s3.1.stored (l.length * 4 + 3) vl
    have hfin := s4.1
    rw [set4 _ _ _ _ _ _ hrl] at hfin
    have hgr := grown_more (grown_more (grown_more (grown_more h3 hgg (l.length * 4) (.int .u8 x.kind)) hgg (l.length * 4 + 1) (.string x.text)) hgg (l.length * 4 + 2) vn) hgg (l.length * 4 + 3) vl
    exact ⟨hw.snoc2 hend (by omega) hlh hhi hx (fun g hg => by have := hvl g hg; omega) hfin hgr (by
      rcases h5 with e | e
      · exact .inl e
      · exact .inr ⟨_, e, Nat.le_refl _⟩), hge, h3⟩
theorem append_zero (tSl : TypeId) (ht : Tryz.prog.underlying tSl = some (.slice 25)) {wr w3 : World} {B b z lo hi : Nat} {v : Value} {l : List Jsn} {x : Jsn} {vn vl : Value} (h : RowO wr B 9 25 v l) (h13 : But wr.heap.size b wr w3) (hb : b < B) (hB : B ≤ wr.heap.size)
    (hz : Cel w3 z 25 #[.int .u8 0, .string ⟨#[]⟩, .slice none 0 0, .slice none 0 0]) (hlo : wr.heap.size ≤ lo) (hlh : lo ≤ hi) (hhi : hi ≤ w3.heap.size) (hx : OwnJ w3 9 25 x lo hi vn vl) (hl : l.length ≤ 1000000000000) :
    ∃ v' w4 g cap, (Builtin.append_ #[tSl, tSl] tSl #[v, .slice (some ⟨z, 0, none⟩) 1 1]).run Tryz.prog w3 = .ok v' w4 ∧
      v' = .slice (some ⟨g, 0, none⟩) (l.length + 1) cap ∧ B ≤ g ∧ (∀ i u, zero4[i]? = some u → w4.cell? ⟨g, l.length * 4 + i, none⟩ = some u) ∧ (∀ i, w4.frozen? ⟨g, i, none⟩ = false) ∧
      (∀ k, k < B → w4.heap[k]? = w3.heap[k]?) ∧ w3.heap.size ≤ w4.heap.size ∧ w4.os = w3.os ∧ w4.tape = w3.tape ∧ w4.output = w3.output ∧
      RowO (lay4 w4 g (l.length * 4) (.int .u8 x.kind) (.string x.text) vn vl) B 9 25 v' (l ++ [x]) := by
  obtain ⟨ws, hw⟩ := h
  obtain ⟨v', w4, g, cap, q0, q1, q2, q3, q4, q5, q6, q7, q8, q9, q10, _⟩ := append_zeroW tSl ht hw h13 hb hB hz hlo hlh hhi hx hl
  exact ⟨v', w4, g, cap, q0, q1, q2, q3, q4, q5, q6, q7, q8, q9, _, q10⟩
end Go.Proofs.YtamcbgkppgdniaaGreatDoor
