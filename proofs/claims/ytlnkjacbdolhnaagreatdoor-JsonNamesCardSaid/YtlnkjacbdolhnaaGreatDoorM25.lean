/-
  The walk of the JSON reader's closure that reads one item of an Array.
-/
import Derived.Test.YtlnkjacbdolhnaaGreatDoorM24
import Derived.OrdersHeld
import Derived.Deep.RegionHeld
import Derived.Test.YtlnkjacbdolhnaaGreatDoorM21
namespace Go.Proofs.YtlnkjacbdolhnaaGreatDoor
open Go.RowKit

theorem RowO.keep {w w' : World} {B : Nat} {tS tJ : TypeId} {v : Value} {l : List Jsn} (h : RowO w B tS tJ v l) (hk : ∀ k, B ≤ k → k < w.heap.size → w'.heap[k]? = w.heap[k]?) (hs : w.heap.size ≤ w'.heap.size) : RowO w' B tS tJ v l := by
  obtain ⟨ws, h1, h2, h3, h4⟩ := h
  refine ⟨ws, h1, ⟨h2.1, ?_⟩, fun i x u hx hu => ?_, h4⟩
  · rcases h2.2 with e | ⟨g, cap, cur, e1, e2, e3, e4⟩
    · exact .inl e
    · exact .inr ⟨g, cap, cur, e1, e2, (hk g e2 (Array.getElem?_eq_some_iff.1 e3).1).trans e3, e4⟩
  · obtain ⟨q1, q2, q3, q4, q5⟩ := h3 i x u hx hu
    exact ⟨q1, q2, Nat.le_trans q3 hs, q4, OwnJ.keep x q5 (fun b hb1 hb2 => hk b (by omega) (by omega)) (Nat.le_refl _) (Nat.le_refl _)⟩
theorem RowO.but {w w' : World} {B b : Nat} {tS tJ : TypeId} {v : Value} {l : List Jsn} (h : RowO w B tS tJ v l) (hb : But w.heap.size b w w') (hlt : b < B) : RowO w' B tS tJ v l := h.keep (fun k h1 h2 => hb.block k h2 (by omega)) hb.size
/-- A world cut off behind so many blocks. -/
def wcut (w : World) (n : Nat) : World := { w with heap := w.heap.extract 0 n }
theorem grown_more {w w4 : World} {row : Option Nat} (h : w.grownBy w4 row) {g : Nat} (hg : row = some g ∨ w.heap.size ≤ g) (j : Nat) (u : Value) : w.grownBy (w4.setCell ⟨g, j, none⟩ u) row :=
  ⟨h.os, h.tape, h.output, by simpa using h.size, fun k hk hn => (Below.heap_setCell w4 ⟨g, j, none⟩ u k (by
    rcases hg with e | e
    · intro e2; exact hn (by rw [e]; exact congrArg some e2)
    · show k ≠ g; omega)).trans (h.block k hk hn)⟩
def zero4 : List Value := [.int .u8 0, .string ⟨#[]⟩, .slice none 0 0, .slice none 0 0]
theorem set4 (xs : List Value) (a b c d : Value) (n : Nat) (h : xs.length = n) : ((((xs ++ zero4).set n a).set (n + 1) b).set (n + 2) c).set (n + 3) d = xs ++ [a, b, c, d] := by
  subst h
  unfold zero4
  simp [List.set_append_right]
/-- A value laid over the place behind a row. -/
def lay4 (w : World) (g n : Nat) (a b c d : Value) : World := (((w.setCell ⟨g, n, none⟩ a).setCell ⟨g, n + 1, none⟩ b).setCell ⟨g, n + 2, none⟩ c).setCell ⟨g, n + 3, none⟩ d
theorem lay4_size (w : World) (g n : Nat) (a b c d : Value) : (lay4 w g n a b c d).heap.size = w.heap.size := by unfold lay4; simp
theorem lay4_other (w : World) (g n : Nat) (a b c d : Value) {k : Nat} (hk : k ≠ g) : (lay4 w g n a b c d).heap[k]? = w.heap[k]? := by
  unfold lay4
  rw [Below.heap_setCell _ _ _ _ hk, Below.heap_setCell _ _ _ _ hk, Below.heap_setCell _ _ _ _ hk, Below.heap_setCell _ _ _ _ hk]
/-- One value more, somewhere in memory of the call's own (w3), appended (w4). -/
theorem RowW.snoc2 {w3 w4 : World} {B lo hi : Nat} {tS tJ : TypeId} {v v' : Value} {l : List Jsn} {ws : List OE} {x : Jsn} {vn vl : Value} (h : RowW w3 B tS tJ v l ws) (hend : ∀ u ∈ ws, u.2.2.2 ≤ lo) (hBl : B ≤ lo) (hlh : lo ≤ hi) (hhi : hi ≤ w3.heap.size)
    (hx : OwnJ w3 tS tJ x lo hi vn vl) (hout : ∀ g, v.ownBlock = some g → ¬ (lo ≤ g ∧ g < hi))
    (hown : w4.ownsRow B tJ 4 v' (l.length + 1) (rowCells l ws ++ encJ (x, vn, vl)))
    (hgr : w3.grownBy w4 v.ownBlock) (hbl : v'.ownBlock = v.ownBlock ∨ ∃ k, v'.ownBlock = some k ∧ w3.heap.size ≤ k) : RowW w4 B tS tJ v' (l ++ [x]) (ws ++ [(vn, vl, lo, hi)]) := by
  obtain ⟨h1, h2, h3, h4⟩ := h
  have hgs := hgr.size
  have hkeep : ∀ (y : Jsn) (a b : Nat) (yn yl : Value), OwnJ w3 tS tJ y a b yn yl → b ≤ w3.heap.size → (∀ g, v.ownBlock = some g → ¬ (a ≤ g ∧ g < b)) → OwnJ w4 tS tJ y a b yn yl := fun y a b yn yl hy hb hg =>
    OwnJ.keep y hy (fun c h5 h6 => hgr.block c (by omega) (fun e => hg c e.symm ⟨h5, h6⟩)) (Nat.le_refl _) (Nat.le_refl _)
  have hvb : ∀ (a b : Nat), b ≤ w3.heap.size → (∀ g, v.ownBlock = some g → ¬ (a ≤ g ∧ g < b)) → ∀ g, v'.ownBlock = some g → ¬ (a ≤ g ∧ g < b) := fun a b hb hg g hg' => by
    rcases hbl with e | ⟨k, e, hk⟩
    · exact hg g (by rw [← e]; exact hg')
    · rw [e] at hg'; injection hg' with hg'; omega
  refine ⟨by simp [h1], ?_, fun i y u hy hu => ?_, fun i j u z hij hu hz => ?_⟩
  · rw [rowCells_snoc h1, List.length_append]
    exact hown
  · by_cases hi' : i < l.length
    · rw [List.getElem?_append_left hi'] at hy
      rw [List.getElem?_append_left (by omega)] at hu
      obtain ⟨q1, q2, q3, q4, q5⟩ := h3 i y u hy hu
      exact ⟨q1, q2, by omega, hvb _ _ (by omega) q4, hkeep y _ _ _ _ q5 (by omega) q4⟩
    · rw [List.getElem?_append_right (by omega)] at hy
      rw [List.getElem?_append_right (by omega)] at hu
      have hi0 : i - l.length = 0 := by
        have := (List.getElem?_eq_some_iff.1 hy).1
        simp at this; omega
      rw [h1, hi0] at hu
      rw [hi0] at hy
      simp at hy hu
      subst hy
      subst hu
      exact ⟨hBl, hlh, by dsimp only; omega, hvb _ _ hhi hout, hkeep _ _ _ _ _ hx hhi hout⟩
  · have hjl : j < (ws ++ [(vn, vl, lo, hi)]).length := (List.getElem?_eq_some_iff.1 hz).1
    simp at hjl
    rw [List.getElem?_append_left (by omega)] at hu
    by_cases hj : j < ws.length
    · rw [List.getElem?_append_left hj] at hz
      exact h4 i j u z hij hu hz
    · rw [List.getElem?_append_right (by omega), show j - ws.length = 0 by omega] at hz
      simp at hz
      subst hz
      exact hend u (List.mem_of_getElem? hu)
/-- One value more: a place is appended, the value laid into it. -/
theorem append_zeroW (tSl : TypeId) (ht : Tryz.prog.underlying tSl = some (.slice 25)) {wr w3 : World} {B b z lo hi : Nat} {v : Value} {l : List Jsn} {x : Jsn} {vn vl : Value} {ws0 : List OE} (hw0 : RowW wr B 9 25 v l ws0) (h13 : But wr.heap.size b wr w3) (hb : b < B) (hB : B ≤ wr.heap.size)
    (hz : Cel w3 z 25 #[.int .u8 0, .string ⟨#[]⟩, .slice none 0 0, .slice none 0 0]) (hlo : wr.heap.size ≤ lo) (hlh : lo ≤ hi) (hhi : hi ≤ w3.heap.size) (hx : OwnJ w3 9 25 x lo hi vn vl) (hl : l.length ≤ 1000000000000) :
    ∃ v' w4 g cap, (Builtin.append_ #[tSl, tSl] tSl #[v, .slice (some ⟨z, 0, none⟩) 1 1]).run Tryz.prog w3 = .ok v' w4 ∧
      v' = .slice (some ⟨g, 0, none⟩) (l.length + 1) cap ∧ B ≤ g ∧ (∀ i u, zero4[i]? = some u → w4.cell? ⟨g, l.length * 4 + i, none⟩ = some u) ∧ (∀ i, w4.frozen? ⟨g, i, none⟩ = false) ∧
      (∀ k, k < B → w4.heap[k]? = w3.heap[k]?) ∧ w3.heap.size ≤ w4.heap.size ∧ w4.os = w3.os ∧ w4.tape = w3.tape ∧ w4.output = w3.output ∧
      RowW (lay4 w4 g (l.length * 4) (.int .u8 x.kind) (.string x.text) vn vl) B 9 25 v' (l ++ [x]) (ws0 ++ [(vn, vl, lo, hi)]) ∧ (v.ownBlock = some g ∨ g = w3.heap.size) ∧ w3.grownBy w4 v.ownBlock := by
  obtain ⟨i0, hi0, hz0, hz1, hz2⟩ := info_parts infoJ
  have hs3 := h13.size
  have hend : ∀ u ∈ ws0, u.2.2.2 ≤ lo := fun u hu => by
    obtain ⟨i, hi'⟩ := List.mem_iff_getElem?.1 hu
    have hil : i < l.length := by have := (List.getElem?_eq_some_iff.1 hi').1; rw [hw0.1] at this; exact this
    have := (hw0.2.2.1 i _ u (List.getElem?_eq_getElem hil) hi').2.2.1
    omega
  have hvl : ∀ g, v.ownBlock = some g → B ≤ g ∧ g < wr.heap.size := hw0.2.1.lt
  have hw : RowW w3 B 9 25 v l ws0 := by
    obtain ⟨h1, h2, h3, h4⟩ := hw0
    have hk : ∀ k, B ≤ k → k < wr.heap.size → w3.heap[k]? = wr.heap[k]? := fun k h1 h2 => h13.block k h2 (by omega)
    refine ⟨h1, ⟨h2.1, ?_⟩, fun i x u hx hu => ?_, h4⟩
    · rcases h2.2 with e | ⟨g, cap, cur, e1, e2, e3, e4⟩
      · exact .inl e
      · exact .inr ⟨g, cap, cur, e1, e2, (hk g e2 (Array.getElem?_eq_some_iff.1 e3).1).trans e3, e4⟩
    · obtain ⟨q1, q2, q3, q4, q5⟩ := h3 i x u hx hu
      exact ⟨q1, q2, Nat.le_trans q3 hs3, q4, OwnJ.keep x q5 (fun b hb1 hb2 => hk b (by omega) (by omega)) (Nat.le_refl _) (Nat.le_refl _)⟩
  obtain ⟨v', w4, hrun, h2, h3, _, h5⟩ := run_append_own_at (P := Tryz.prog) w3 B tSl tSl 25 i0 _ 4 72 ht hi0 hz0 hz1 hz2 rfl (by decide) v l.length (rowCells l ws0) hw.2.1 ⟨z, 0, none⟩ 1 1 zero4 rfl
    (fun j u hu => by
      have hadd : (⟨z, 0, none⟩ : Addr).add j = ⟨z, j, none⟩ := by unfold Addr.add; split <;> simp_all
      rw [hadd, hz.cell]
      simpa [zero4] using hu)
    (fun u hu => by simp [zero4] at hu; rcases hu with rfl | rfl | rfl | rfl <;> rfl) (by unfold maxLen; omega) (by omega) (by omega)
  obtain ⟨g, cap, rfl⟩ : ∃ g cap, v' = .slice (some ⟨g, 0, none⟩) (l.length + 1) cap := by
    rcases h2.2 with ⟨_, h0⟩ | ⟨g, cap, cur, e, _⟩
    · omega
    · exact ⟨g, cap, e⟩
  have hrl : (rowCells l ws0).length = l.length * 4 := hw.2.1.1
  have hgg : v.ownBlock = some g ∨ w3.heap.size ≤ g := by
    rcases h5 with e | e
    · exact .inl e.symm
    · right
      have e2 : some g = some w3.heap.size := e
      injection e2 with e2
      omega
  have hge : v.ownBlock = some g ∨ g = w3.heap.size := by
    rcases h5 with e | e
    · exact .inl e.symm
    · right
      have e2 : some g = some w3.heap.size := e
      injection e2
  have hgB : B ≤ g := by
    rcases hgg with e | e
    · exact (hvl g e).1
    · omega
  refine ⟨_, w4, g, cap, hrun, rfl, hgB, fun i u hu => ?_, fun i => h2.frozenAt _, fun k hk => ?_, h3.size, h3.os, h3.tape, h3.output, ?_⟩
  · have hi : i < 4 := (List.getElem?_eq_some_iff.1 hu).1
    rw [h2.cellAt (l.length * 4 + i) (by omega), List.getElem?_append_right (by omega), hrl, Nat.add_sub_cancel_left]
    exact hu
  · exact h3.block k (by omega) (fun e => by have := (hvl k e.symm).1; omega)
  · have s1 := h2.stored (l.length * 4) (.int .u8 x.kind)
    have s2 := s1.1.stored (l.length * 4 + 1) (.string x.text)
    have s3 := s2.1.stored (l.length * 4 + 2) vn
    have s4 := s3.1.stored (l.length * 4 + 3) vl
    have hfin := s4.1
    rw [set4 _ _ _ _ _ _ hrl] at hfin
    have hgr := grown_more (grown_more (grown_more (grown_more h3 hgg (l.length * 4) (.int .u8 x.kind)) hgg (l.length * 4 + 1) (.string x.text)) hgg (l.length * 4 + 2) vn) hgg (l.length * 4 + 3) vl
    exact ⟨hw.snoc2 hend (by omega) hlh hhi hx (fun g hg => by have := hvl g hg; omega) hfin hgr (by
      rcases h5 with e | e
      · exact .inl e
      · exact .inr ⟨_, e, Nat.le_refl _⟩), hge, h3⟩
theorem append_zero (tSl : TypeId) (ht : Tryz.prog.underlying tSl = some (.slice 25)) {wr w3 : World} {B b z lo hi : Nat} {v : Value} {l : List Jsn} {x : Jsn} {vn vl : Value} (h : RowO wr B 9 25 v l) (h13 : But wr.heap.size b wr w3) (hb : b < B) (hB : B ≤ wr.heap.size)
    (hz : Cel w3 z 25 #[.int .u8 0, .string ⟨#[]⟩, .slice none 0 0, .slice none 0 0]) (hlo : wr.heap.size ≤ lo) (hlh : lo ≤ hi) (hhi : hi ≤ w3.heap.size) (hx : OwnJ w3 9 25 x lo hi vn vl) (hl : l.length ≤ 1000000000000) :
    ∃ v' w4 g cap, (Builtin.append_ #[tSl, tSl] tSl #[v, .slice (some ⟨z, 0, none⟩) 1 1]).run Tryz.prog w3 = .ok v' w4 ∧
      v' = .slice (some ⟨g, 0, none⟩) (l.length + 1) cap ∧ B ≤ g ∧ (∀ i u, zero4[i]? = some u → w4.cell? ⟨g, l.length * 4 + i, none⟩ = some u) ∧ (∀ i, w4.frozen? ⟨g, i, none⟩ = false) ∧
      (∀ k, k < B → w4.heap[k]? = w3.heap[k]?) ∧ w3.heap.size ≤ w4.heap.size ∧ w4.os = w3.os ∧ w4.tape = w3.tape ∧ w4.output = w3.output ∧
      RowO (lay4 w4 g (l.length * 4) (.int .u8 x.kind) (.string x.text) vn vl) B 9 25 v' (l ++ [x]) := by
  obtain ⟨ws, hw⟩ := h
  obtain ⟨v', w4, g, cap, q0, q1, q2, q3, q4, q5, q6, q7, q8, q9, q10, _⟩ := append_zeroW tSl ht hw h13 hb hB hz hlo hlh hhi hx hl
  exact ⟨v', w4, g, cap, q0, q1, q2, q3, q4, q5, q6, q7, q8, q9, _, q10⟩
end Go.Proofs.YtlnkjacbdolhnaaGreatDoor


/-
  A region that draws its order: loads taken first where what they read is written by the region's own last store alone. No program.
-/
namespace Go.Proofs.YtlnkjacbdolhnaaGreatDoor

section
variable {P : Program} {ops : Array Oper} {Q : Exit → Act → World → Prop} {md : Region.Mode} {S : World → Prop} {q : Nat}
/-- Whatever order is picked, and S holds till number q has come up. -/
def wpAnyQ (P : Program) (md : Region.Mode) (ops : Array Oper) (Q : Exit → Act → World → Prop) (S : World → Prop) (q : Nat) : Nat → Array Bool → Act → World → Prop
  | 0, listed, a, w => Region.ready md ops listed = [] ∧ Q .normal a w
  | fuel + 1, listed, a, w => (Region.ready md ops listed = [] → Q .normal a w) ∧
    ∀ i ∈ Region.ready md ops listed, wpOp P ops Q i (fun a' w' => ((listed.setIfInBounds i true).getD q true = false → S w') ∧ wpAnyQ P md ops Q S q fuel (listed.setIfInBounds i true) a' w') a w
theorem wpAny_of_Q : ∀ (fuel : Nat) (listed : Array Bool) (a : Act) (w : World), wpAnyQ P md ops Q S q fuel listed a w → wpAny P md ops Q fuel listed a w
  | 0, _, _, _, h => h
  | fuel + 1, _, _, _, h => ⟨h.1, fun i hi => wpOp_mono (fun a' w' h' => wpAny_of_Q fuel _ a' w' h'.2) (h.2 i hi)⟩
/-- One that yields in every world of S, and for which number q waits, may be taken first. -/
theorem wpAnyQ_first {i : Nat} {oi oq : Oper} {v : Value} (hi : ops[i]? = some oi) (hq : ops[q]? = some oq) (hqi : ∃ e ∈ oq.after, Region.binds md e = true ∧ e.on = i) (hsel : ∀ (j : Nat) (o : Oper) cs b, ops[j]? = some o → o.op ≠ .select cs b)
    (hQ : ∀ c a w, Q (.panic c) (a.put oi.dst v) w → Q (.panic c) a w) : ∀ (fuel : Nat) (listed : Array Bool) (a : Act) (w : World),
      (∀ j oj, ops[j]? = some oj → j ≠ i → listed.getD j true = false → (∀ e ∈ oj.after, Region.binds md e = true → e.on ≠ i) → oi.apart ops oj = true) →
      i ∈ Region.ready md ops listed → YieldsIf P ops S oi v a → S w → listed.getD q true = false →
      wpAnyQ P md ops Q S q fuel (listed.setIfInBounds i true) (a.put oi.dst v) w → wpAnyQ P md ops Q S q (fuel + 1) listed a w := by
  intro fuel
  induction fuel with
  | zero =>
    intro listed a w _ hr hy hS _ H
    refine ⟨fun h => (by rw [h] at hr; cases hr), fun j hj => ?_⟩
    by_cases hji : j = i
    · subst hji; exact hy.wpOp hi hS ⟨fun _ => hS, H⟩
    · have := ready_mono hj hji
      rw [H.1] at this
      cases this
  | succ fuel ih =>
    intro listed a w hfree hr hy hS hlq H
    refine ⟨fun h => (by rw [h] at hr; cases hr), fun j hj => ?_⟩
    by_cases hji : j = i
    · subst hji; exact hy.wpOp hi hS ⟨fun _ => hS, H⟩
    · have h1 := H.2 j (ready_mono hj hji)
      obtain ⟨hjun, oj, hoj, hall⟩ := mem_ready.1 hj
      have hnot : ∀ e ∈ oj.after, Region.binds md e = true → e.on ≠ i := fun e he hb heq => by
        have h1 := hall e he hb
        have h0 := (mem_ready.1 hr).1
        rw [heq] at h1
        rcases Nat.lt_or_ge i listed.size with h' | h'
        · simp [h'] at h0 h1; rw [h0] at h1; cases h1
        · simp [Array.getElem?_eq_none h'] at h1
      have hjq : j ≠ q := fun e => by
        subst e
        rw [hoj] at hq
        injection hq with hq
        subst hq
        obtain ⟨e, he, hb, hei⟩ := hqi
        exact hnot e he hb hei
      have h2 := wpOp_putIf hoj (hfree j oj hoj hji hjun hnot) (fun cs b => hsel i oi cs b hi) (fun cs b => hsel j oj cs b hoj) hQ hy h1
      have hfree' : ∀ k ok, ops[k]? = some ok → k ≠ i → (listed.setIfInBounds j true).getD k true = false → (∀ e ∈ ok.after, Region.binds md e = true → e.on ≠ i) → oi.apart ops ok = true := fun k ok hk hki hun hno => by
        refine hfree k ok hk hki ?_ hno
        by_cases hjk : j = k
        · subst hjk; exact hjun
        · rw [getD_set_ne true hjk] at hun; exact hun
      have hq1 : (listed.setIfInBounds j true).getD q true = false := by rw [getD_set_ne true hjq]; exact hlq
      have hiq : i ≠ q := fun e => by
        subst e
        have h0 := (mem_ready.1 hr).2
        obtain ⟨o, ho, hall⟩ := h0
        rw [hq] at ho
        injection ho with ho
        subst ho
        obtain ⟨e, he, hb, hei⟩ := hqi
        have h1 := hall e he hb
        rw [hei] at h1
        rcases Nat.lt_or_ge i listed.size with h' | h'
        · simp [h'] at hlq h1; rw [hlq] at h1; cases h1
        · simp [Array.getElem?_eq_none h'] at h1
      have hq2 : ((listed.setIfInBounds i true).setIfInBounds j true).getD q true = false := by rw [getD_set_ne true hjq, getD_set_ne true hiq]; exact hlq
      refine wpOp_mono (fun a' w' h3 => ⟨fun _ => h3.2.1 hq2, ih (listed.setIfInBounds j true) a' w' hfree' (ready_mono hr (Ne.symm hji)) h3.1 (h3.2.1 hq2) hq1 ?_⟩) h2
      rw [Array.setIfInBounds_comm _ _ hji]
      exact h3.2.2
/-- One that yields in whatever world may be taken first. -/
theorem wpAnyQ_firstW {i : Nat} {oi : Oper} {v : Value} (hi : ops[i]? = some oi) (hiq : i ≠ q) (hsel : ∀ (j : Nat) (o : Oper) cs b, ops[j]? = some o → o.op ≠ .select cs b)
    (hQ : ∀ c a w, Q (.panic c) (a.put oi.dst v) w → Q (.panic c) a w) : ∀ (fuel : Nat) (listed : Array Bool) (a : Act) (w : World),
      (∀ j oj, ops[j]? = some oj → j ≠ i → listed.getD j true = false → (∀ e ∈ oj.after, Region.binds md e = true → e.on ≠ i) → oi.apart ops oj = true) →
      i ∈ Region.ready md ops listed → YieldsIf P ops (fun _ => True) oi v a → (listed.getD q true = false → S w) →
      wpAnyQ P md ops Q S q fuel (listed.setIfInBounds i true) (a.put oi.dst v) w → wpAnyQ P md ops Q S q (fuel + 1) listed a w := by
  intro fuel
  induction fuel with
  | zero =>
    intro listed a w _ hr hy hS H
    refine ⟨fun h => (by rw [h] at hr; cases hr), fun j hj => ?_⟩
    by_cases hji : j = i
    · subst hji; exact hy.wpOp hi trivial ⟨fun h => hS (by rw [getD_set_ne true hiq] at h; exact h), H⟩
    · have := ready_mono hj hji
      rw [H.1] at this
      cases this
  | succ fuel ih =>
    intro listed a w hfree hr hy hS H
    refine ⟨fun h => (by rw [h] at hr; cases hr), fun j hj => ?_⟩
    by_cases hji : j = i
    · subst hji; exact hy.wpOp hi trivial ⟨fun h => hS (by rw [getD_set_ne true hiq] at h; exact h), H⟩
    · have h1 := H.2 j (ready_mono hj hji)
      obtain ⟨hjun, oj, hoj, hall⟩ := mem_ready.1 hj
      have hnot : ∀ e ∈ oj.after, Region.binds md e = true → e.on ≠ i := fun e he hb heq => by
        have h1 := hall e he hb
        have h0 := (mem_ready.1 hr).1
        rw [heq] at h1
        rcases Nat.lt_or_ge i listed.size with h' | h'
        · simp [h'] at h0 h1; rw [h0] at h1; cases h1
        · simp [Array.getElem?_eq_none h'] at h1
      have h2 := wpOp_putIf hoj (hfree j oj hoj hji hjun hnot) (fun cs b => hsel i oi cs b hi) (fun cs b => hsel j oj cs b hoj) hQ hy h1
      have hfree' : ∀ k ok, ops[k]? = some ok → k ≠ i → (listed.setIfInBounds j true).getD k true = false → (∀ e ∈ ok.after, Region.binds md e = true → e.on ≠ i) → oi.apart ops ok = true := fun k ok hk hki hun hno => by
        refine hfree k ok hk hki ?_ hno
        by_cases hjk : j = k
        · subst hjk; exact hjun
        · rw [getD_set_ne true hjk] at hun; exact hun
      have hsw : ((listed.setIfInBounds i true).setIfInBounds j true).getD q true = (listed.setIfInBounds j true).getD q true := by
        rw [Array.setIfInBounds_comm _ _ (Ne.symm hji), getD_set_ne true hiq]
      refine wpOp_mono (fun a' w' h3 => ⟨fun h => h3.2.1 (hsw.trans h), ih (listed.setIfInBounds j true) a' w' hfree' (ready_mono hr (Ne.symm hji)) h3.1 (fun h => h3.2.1 (hsw.trans h)) ?_⟩) h2
      rw [Array.setIfInBounds_comm _ _ hji]
      exact h3.2.2
theorem wpAnyQ_takeW {i : Nat} {oi : Oper} {v : Value} {fuel : Nat} {listed : Array Bool} {a : Act} {w : World} (hi : ops[i]? = some oi)
    (hs : Region.noSelect ops = true) (hf : Region.free md ops listed i = true) (hr : (Region.ready md ops listed).contains i = true) (hiq : i ≠ q)
    (hQ : ∀ c a w, Q (.panic c) (a.put oi.dst v) w → Q (.panic c) a w) (hy : YieldsIf P ops (fun _ => True) oi v a) (hS : S w)
    (h : wpAnyQ P md ops Q S q fuel (listed.setIfInBounds i true) (a.put oi.dst v) w) : wpAnyQ P md ops Q S q (fuel + 1) listed a w :=
  wpAnyQ_firstW hi hiq (Region.noSelect_spec hs) hQ fuel listed a w (Region.free_spec hi hf) (by simpa using hr) hy (fun _ => hS) h
def waitsB (md : Region.Mode) (ops : Array Oper) (q i : Nat) : Bool := match ops[q]? with
  | some o => o.after.any fun e => Region.binds md e && decide (e.on = i)
  | none => false
theorem wpAnyQ_take {i : Nat} {oi : Oper} {v : Value} {fuel : Nat} {listed : Array Bool} {a : Act} {w : World} (hi : ops[i]? = some oi)
    (hs : Region.noSelect ops = true) (hf : Region.free md ops listed i = true) (hr : (Region.ready md ops listed).contains i = true) (hw : waitsB md ops q i = true) (hl : listed.getD q true = false)
    (hQ : ∀ c a w, Q (.panic c) (a.put oi.dst v) w → Q (.panic c) a w) (hy : YieldsIf P ops S oi v a) (hS : S w)
    (h : wpAnyQ P md ops Q S q fuel (listed.setIfInBounds i true) (a.put oi.dst v) w) : wpAnyQ P md ops Q S q (fuel + 1) listed a w := by
  unfold waitsB at hw
  split at hw
  · rename_i oq hq
    rw [Array.any_eq_true] at hw
    obtain ⟨k, hk, hb⟩ := hw
    simp only [Bool.and_eq_true, decide_eq_true_eq] at hb
    exact wpAnyQ_first hi hq ⟨_, Array.getElem_mem hk, hb.1, hb.2⟩ (Region.noSelect_spec hs) hQ fuel listed a w (Region.free_spec hi hf) (by simpa using hr) hy hS hl h
  · cases hw
theorem wpAnyQ_done {fuel : Nat} {listed : Array Bool} {a : Act} {w : World} (hr : Region.ready md ops listed = []) (h : Q .normal a w) : wpAnyQ P md ops Q S q fuel listed a w := by
  cases fuel with
  | zero => exact ⟨hr, h⟩
  | succ n => exact ⟨fun _ => h, fun i hi => by rw [hr] at hi; cases hi⟩
/-- What one step asks. -/
def StepQ (P : Program) (ops : Array Oper) (Q : Exit → Act → World → Prop) (o : Oper) (a : Act) (w : World) (K' : Act → World → Prop) : Prop := if Region.wanted o (yielded ops a.tmps) = true then Oper.wp P o a w K' Q else K' (a.put o.dst undef) w
theorem wpAnyQ_one {i : Nat} {o : Oper} {fuel : Nat} {listed : Array Bool} {a : Act} {w : World} (hr : Region.ready md ops listed = [i]) (ho' : ops.toList[i]? = some o)
    (h : ∀ K' : Act → World → Prop, Shut (∀ a w, ((listed.setIfInBounds i true).getD q true = false → S w) → wpAnyQ P md ops Q S q fuel (listed.setIfInBounds i true) a w → K' a w) → if Region.wanted o (yielded ops a.tmps) = true then Oper.wp P o a w K' Q else K' (a.put o.dst undef) w) : wpAnyQ P md ops Q S q (fuel + 1) listed a w := by
  have ho : ops[i]? = some o := by rw [← Array.getElem?_toList]; exact ho'
  refine ⟨fun h0 => ?_, fun j hj => ?_⟩
  · rw [hr] at h0; cases h0
  · rw [hr] at hj
    obtain rfl : j = i := by simpa using hj
    exact wpOp_step ho (fun K' hK => h K' fun a w h1 h2 => hK a w ⟨h1, h2⟩)
theorem wpAnyQ_two {i j : Nat} {o oj : Oper} {fuel : Nat} {listed : Array Bool} {a : Act} {w : World} (hr : Region.ready md ops listed = [i, j]) (ho' : ops.toList[i]? = some o) (hoj' : ops.toList[j]? = some oj)
    (h : ∀ K' : Act → World → Prop, Shut (∀ a w, ((listed.setIfInBounds i true).getD q true = false → S w) → wpAnyQ P md ops Q S q fuel (listed.setIfInBounds i true) a w → K' a w) → if Region.wanted o (yielded ops a.tmps) = true then Oper.wp P o a w K' Q else K' (a.put o.dst undef) w)
    (h' : ∀ K' : Act → World → Prop, Shut (∀ a w, ((listed.setIfInBounds j true).getD q true = false → S w) → wpAnyQ P md ops Q S q fuel (listed.setIfInBounds j true) a w → K' a w) → if Region.wanted oj (yielded ops a.tmps) = true then Oper.wp P oj a w K' Q else K' (a.put oj.dst undef) w) : wpAnyQ P md ops Q S q (fuel + 1) listed a w := by
  have ho : ops[i]? = some o := by rw [← Array.getElem?_toList]; exact ho'
  have hoj : ops[j]? = some oj := by rw [← Array.getElem?_toList]; exact hoj'
  refine ⟨fun h0 => ?_, fun k hk => ?_⟩
  · rw [hr] at h0; cases h0
  · rw [hr] at hk
    rcases List.mem_cons.1 hk with rfl | hk
    · exact wpOp_step ho (fun K' hK => h K' fun a w h1 h2 => hK a w ⟨h1, h2⟩)
    · obtain rfl : k = j := by simpa using hk
      exact wpOp_step hoj (fun K' hK => h' K' fun a w h1 h2 => hK a w ⟨h1, h2⟩)
theorem wp_region_Q {id : Nat} {a : Act} {w : World} (q : Nat) (S : World → Prop) (hm : P.follows .mixedOrders = true) (h : wpAnyQ P .any ops Q S q ops.size (Array.replicate ops.size false) a w.drew) : (Code.region id ops true).wp P Q a w :=
  wp_region_any hm (wpAny_of_Q _ _ _ _ h)
end
end Go.Proofs.YtlnkjacbdolhnaaGreatDoor


/-
  The walk of the JSON reader's closure that reads one item of an Array.
-/
namespace Go.Proofs.YtlnkjacbdolhnaaGreatDoor
open Go.RowKit

/-- What value leaves. -/
def ValJ (b : Nat) (w : World) (R : JR) (e : Ending) (w' : World) : Prop := But w.heap.size b w w' ∧ (match R with
  | .error c => e = Pan c
  | .ok (j, it, r) => ∃ vn vl, e = .returned (.agg #[.int .u8 j.kind, .string j.text, vn, vl]) ∧ RJ w' b r it ∧ OwnJ w' 9 25 j w.heap.size w'.heap.size vn vl ∧ it ≤ 65536)
/-- value, one level further in. -/
def ValSaysJ (b : Nat) (d : Int) (val : Nat → List UInt8 → JR) : Prop := ∀ (s : List UInt8) (it : Nat) (W : World), EnvB b W → RJ W b s it → s.length ≤ 1000000 → it ≤ 65536 →
  Calls Tryz.prog 35 #[.pointer (some ⟨b, 0, none⟩), .int .i64 d] W (ValJ b W (val it s))
/-- What is known between the items of an Array: the reader; the call's variables, in blocks A, A + 1, A + 2; the Array, in block g. -/
structure IA (w : World) (b : Nat) (d : Int) (g B : Nat) (st : SA) (s : List UInt8) (W : World) : Prop where
  rj : RJ W b s st.1
  env : EnvB b w
  but : But w.heap.size b w W
  it : st.1 ≤ 65536
  size : B ≤ W.heap.size
  lt : b < w.heap.size ∧ w.heap.size + 2 < g ∧ g < B
  c0 : Cel W w.heap.size 86 #[.pointer (some ⟨b, 0, none⟩)]
  c1 : Cel W (w.heap.size + 1) 3 #[.int .i64 d]
  c2 : Cel W (w.heap.size + 2) 25 zero4.toArray
  row : ∃ v, Cel W g 25 #[.int .u8 6, .string ⟨#[]⟩, .slice none 0 0, v] ∧ RowO W B 9 25 v st.2 ∧ st.2.length ≤ st.1
theorem IA.step {w : World} {b : Nat} {d : Int} {g B : Nat} {st : SA} {s s' : List UInt8} {W W' : World} (h : IA w b d g B st s W) (hb : But W.heap.size b W W') (hr : RJ W' b s' st.1) : IA w b d g B st s' W' := by
  obtain ⟨h1, h2, h3, h4, h5, ⟨h6, h6', h6''⟩, h7, h8, h9, v, h10, h11, h12⟩ := h
  have hs := h3.size
  exact ⟨hr, h2, h3.trans (hb.mono hs), h4, Nat.le_trans h5 hb.size, ⟨h6, h6', h6''⟩, h7.but hb h7.lt (by omega), h8.but hb h8.lt (by omega), h9.but hb h9.lt (by omega), v, h10.but hb h10.lt (by omega), h11.but hb (by omega), h12⟩
theorem setCell_swap (w : World) {a c : Addr} (u v : Value) (h : a.block ≠ c.block) : (w.setCell a u).setCell c v = (w.setCell c v).setCell a u := by
  have e : ((w.setCell a u).setCell c v).heap = ((w.setCell c v).setCell a u).heap := by
    apply Array.ext_getElem?
    intro i
    by_cases h1 : i = a.block
    · subst h1
      rw [Below.heap_setCell _ _ _ _ h]
      simp only [World.setCell, Array.getElem?_modify, if_true]
      rw [if_neg (fun e => h e.symm)]
    · rw [Below.heap_setCell (w.setCell c v) _ _ _ h1]
      by_cases h2 : i = c.block
      · subst h2
        simp only [World.setCell, Array.getElem?_modify, if_true]
        rw [if_neg (fun e => h1 e.symm)]
      · rw [Below.heap_setCell _ _ _ _ h2, Below.heap_setCell _ _ _ _ h2, Below.heap_setCell _ _ _ _ h1]
  have e2 : ∀ w1 w2 : World, w1.heap = w2.heap → w1.tape = w2.tape → w1.drawn = w2.drawn → w1.os = w2.os → w1.output = w2.output → w1 = w2 := by
    intro w1 w2 h1 h2 h3 h4 h5
    cases w1; cases w2
    simp_all
  exact e2 _ _ e rfl rfl rfl rfl
theorem lay4_comm (w : World) (gg n g : Nat) (a1 a2 a3 a4 v' : Value) (h : ¬ g = gg) : lay4 (w.setCell ⟨g, 3, none⟩ v') gg n a1 a2 a3 a4 = (lay4 w gg n a1 a2 a3 a4).setCell ⟨g, 3, none⟩ v' := by
  unfold lay4
  rw [setCell_swap w (a := ⟨g, 3, none⟩) (c := ⟨gg, n, none⟩) _ _ h, setCell_swap _ (a := ⟨g, 3, none⟩) (c := ⟨gg, n + 1, none⟩) _ _ h, setCell_swap _ (a := ⟨g, 3, none⟩) (c := ⟨gg, n + 2, none⟩) _ _ h, setCell_swap _ (a := ⟨g, 3, none⟩) (c := ⟨gg, n + 3, none⟩) _ _ h]
theorem lay4_set (w4 : World) (gg n g : Nat) (a1 a2 a3 a4 v' : Value) {k : Nat} (hk : k ≠ gg) (hk2 : k ≠ g) : ((lay4 w4 gg n a1 a2 a3 a4).setCell ⟨g, 3, none⟩ v').heap[k]? = w4.heap[k]? :=
  (Below.heap_setCell _ ⟨g, 3, none⟩ _ k hk2).trans (lay4_other _ _ _ _ _ _ _ hk)
set_option maxHeartbeats 2000000 in
/-- One item more. -/
theorem IA.put {w W w3 w4 : World} {b : Nat} {d : Int} {g B gg n it2 : Nat} {st : SA} {s r : List UInt8} {x : Jsn} {v' a1 a2 a3 a4 : Value} (h : IA w b d g B st s W) (h3 : But W.heap.size b W w3) (hr : RJ w3 b r it2) (hit : it2 ≤ 65536) (hlt : st.1 < it2)
    (hgg : B ≤ gg) (hlow : ∀ k, k < B → w4.heap[k]? = w3.heap[k]?) (hsz : w3.heap.size ≤ w4.heap.size) (hos : w4.os = w3.os) (htp : w4.tape = w3.tape) (hou : w4.output = w3.output)
    (hrow : RowO (lay4 w4 gg n a1 a2 a3 a4) B 9 25 v' (st.2 ++ [x])) : IA w b d g B (it2, st.2 ++ [x]) r ((lay4 w4 gg n a1 a2 a3 a4).setCell ⟨g, 3, none⟩ v') := by
  obtain ⟨h1, h2, hB, h4, h5, ⟨h6, h6', h6''⟩, h7, h8, h9, v, h10, h11, h12⟩ := h
  have hs := hB.size
  have hs3 := h3.size
  obtain ⟨W6, hW6⟩ : ∃ W6, (lay4 w4 gg n a1 a2 a3 a4).setCell ⟨g, 3, none⟩ v' = W6 := ⟨_, rfl⟩
  have hat : ∀ k, k < B → k ≠ g → W6.heap[k]? = w3.heap[k]? := fun k hk hg => by
    have h := lay4_set w4 gg n g a1 a2 a3 a4 v' (k := k) (by omega) hg
    rw [hW6] at h
    exact h.trans (hlow k hk)
  have hat2 : ∀ k, k < B → k ≠ g → k ≠ b → W6.heap[k]? = W.heap[k]? := fun k hk hg hb => (hat k hk hg).trans (h3.block k (by omega) hb)
  have hsize : W6.heap.size = w4.heap.size := by rw [← hW6]; simp [lay4_size]
  have hg0 : (lay4 w4 gg n a1 a2 a3 a4).heap[g]? = W.heap[g]? := (lay4_other w4 gg n a1 a2 a3 a4 (k := g) (by omega)).trans ((hlow g h6'').trans (h3.block g (by omega) (by omega)))
  have hc : Cel (lay4 w4 gg n a1 a2 a3 a4) g 25 #[.int .u8 6, .string ⟨#[]⟩, .slice none 0 0, v] := hg0.trans h10
  have hc2 : Cel W6 g 25 #[.int .u8 6, .string ⟨#[]⟩, .slice none 0 0, v'] := by rw [← hW6]; exact hc.set 3 v'
  have hr2 : RowO W6 B 9 25 v' (st.2 ++ [x]) := by
    rw [← hW6]
    exact hrow.keep (fun k h1 h2 => Below.heap_setCell _ _ _ _ (by show k ≠ g; omega)) (by simp)
  have e1 : W6.os = w.os := by rw [← hB.os, ← h3.os, ← hos, ← hW6]; rfl
  have e2 : W6.tape = w.tape := by rw [← hB.tape, ← h3.tape, ← htp, ← hW6]; rfl
  have e3 : W6.output = w.output := by rw [← hB.output, ← h3.output, ← hou, ← hW6]; rfl
  rw [hW6]
  clear hW6
  refine ⟨(hat b (by omega) (by omega)).trans hr, h2, ⟨e1, e2, e3, by rw [hsize]; omega, fun k hk hb => (hat2 k (by omega) (by omega) hb).trans (hB.block k hk hb)⟩, hit, by rw [hsize]; omega, ⟨h6, h6', h6''⟩, (hat2 _ (by omega) (by omega) (by omega)).trans h7, (hat2 _ (by omega) (by omega) (by omega)).trans h8, (hat2 _ (by omega) (by omega) (by omega)).trans h9, v', hc2, hr2, ?_⟩
  simp; omega
set_option maxRecDepth 100000 in
set_option maxHeartbeats 4000000 in
theorem jrItemA (val : Nat → List UInt8 → JR) (hvl : ∀ it s j it' r, val it s = .ok (j, it', r) → it < it') (w : World) (b : Nat) (d d1 : Int) (g B : Nat) (hdd : IntKind.i64.wrap (d + 1) = d1) (hV : ValSaysJ b d1 val) (st : SA) (s : List UInt8) (W : World) (h : IA w b d g B st s W) (hs : s.length ≤ 1000000) :
    Calls Tryz.prog 88 #[.pointer (some ⟨g, 0, none⟩), .pointer (some ⟨w.heap.size, 0, none⟩), .pointer (some ⟨w.heap.size + 1, 0, none⟩)] W (LEnd (IA w b d g B) (fun W => But w.heap.size b w W) (jitA val st s)) := by
  have hh := h
  obtain ⟨h1, h2, h3, h4, h5, ⟨h6, h6', h6''⟩, h7, h8, h9, v, h10, h11, h12⟩ := h
  have hcall := fun (W' : World) (hb : Below W.heap.size W W') => hV s st.1 W' ((h2.but h3).below hb) (h1.below hb) hs h4
  have hvl' := hvl st.1 s
  obtain ⟨R, hR⟩ : ∃ R, val st.1 s = R := ⟨_, rfl⟩
  rw [hR] at hcall hvl'
  unfold jitA
  rw [hR]
  have y0 : W.cell? ⟨w.heap.size, 0, none⟩ = some (.pointer (some ⟨b, 0, none⟩)) := h7.cell 0
  have y1 : W.cell? ⟨w.heap.size + 1, 0, none⟩ = some (.int .i64 d) := h8.cell 0
  obtain ⟨gl, _, A7, c7, _, hv7, _, _⟩ := h11.kids
  subst hv7
  have y3 : W.cell? ⟨g, 3, none⟩ = some (.slice A7 st.2.length c7) := h10.cell 3
  have hS : ∀ W', But W.heap.size b W W' → W'.cell? ⟨w.heap.size, 0, none⟩ = some (.pointer (some ⟨b, 0, none⟩)) ∧ W'.cell? ⟨w.heap.size + 1, 0, none⟩ = some (.int .i64 d) ∧ W'.cell? ⟨g, 3, none⟩ = some (.slice A7 st.2.length c7) := fun W' hb =>
    ⟨(hb.cell (p := ⟨w.heap.size, 0, none⟩) h7.lt (by show w.heap.size ≠ b; omega)).trans y0, (hb.cell (p := ⟨w.heap.size + 1, 0, none⟩) h8.lt (by show w.heap.size + 1 ≠ b; omega)).trans y1, (hb.cell (p := ⟨g, 3, none⟩) h10.lt (by show g ≠ b; omega)).trans y3⟩
  have hfz : W.frozen? ⟨g, 3, none⟩ = false := h10.froz 3
  replace hS := Lib.hid hS
  replace hcall := Lib.hid hcall
  replace hh := Lib.hid hh
  replace h3 := Lib.hid h3
  clear hR hV h1 h2 h7 h8 h9 h10 hvl
  have hdr : But W.heap.size b W W.drew := (But.refl _ _ _).drew
  go_enter Tryz.func88, Tryz.ntmps88
  refine wp_region_Q 12 (fun W' => W'.cell? ⟨w.heap.size, 0, none⟩ = some (.pointer (some ⟨b, 0, none⟩)) ∧ W'.cell? ⟨w.heap.size + 1, 0, none⟩ = some (.int .i64 d) ∧ W'.cell? ⟨g, 3, none⟩ = some (.slice A7 st.2.length c7)) (by kernel_rfl) ?_
  refine wpAnyQ_take (i := 0) (v := .pointer (some ⟨g, 3, none⟩)) rfl (by kernel_rfl) (by kernel_rfl) (by kernel_rfl) (by kernel_rfl) (by rfl) (fun _ _ _ h => h) (Or.inl ⟨by rfl, by
    intro w' hSw
    try dsimp only at hSw
    go_simp⟩) (hS.out _ hdr) ?_
  simp only [Act.put, List.setIfInBounds_toArray]
  refine wpAnyQ_take (i := 1) (v := .slice A7 st.2.length c7) rfl (by kernel_rfl) (by kernel_rfl) (by kernel_rfl) (by kernel_rfl) (by rfl) (fun _ _ _ h => h) (Or.inl ⟨by rfl, by
    intro w' hSw
    try dsimp only at hSw
    go_simp⟩) (hS.out _ hdr) ?_
  simp only [Act.put]
  refine wpAnyQ_take (i := 2) (v := .pointer (some ⟨b, 0, none⟩)) rfl (by kernel_rfl) (by kernel_rfl) (by kernel_rfl) (by kernel_rfl) (by rfl) (fun _ _ _ h => h) (Or.inl ⟨by rfl, by
    intro w' hSw
    try dsimp only at hSw
    go_simp⟩) (hS.out _ hdr) ?_
  simp only [Act.put]
  refine wpAnyQ_take (i := 3) (v := .int .i64 d) rfl (by kernel_rfl) (by kernel_rfl) (by kernel_rfl) (by kernel_rfl) (by rfl) (fun _ _ _ h => h) (Or.inl ⟨by rfl, by
    intro w' hSw
    try dsimp only at hSw
    go_simp⟩) (hS.out _ hdr) ?_
  simp only [Act.put]
  refine wpAnyQ_take (i := 4) (v := .int .i64 d1) rfl (by kernel_rfl) (by kernel_rfl) (by kernel_rfl) (by kernel_rfl) (by rfl) (fun _ _ _ h => h) (Or.inl ⟨by rfl, by
    intro w' hSw
    try dsimp only at hSw
    go_simp⟩) (hS.out _ hdr) ?_
  simp only [Act.put]
  refine wpAnyQ_take (i := 6) (v := .int .i64 (st.2.length : Int)) rfl (by kernel_rfl) (by kernel_rfl) (by kernel_rfl) (by kernel_rfl) (by rfl) (fun _ _ _ h => h) (Or.inl ⟨by rfl, by
    intro w' hSw
    try dsimp only at hSw
    go_simp⟩) (hS.out _ hdr) ?_
  simp only [Act.put]
  refine wpAnyQ_two (i := 5) (j := 7) (by kernel_rfl) rfl rfl (fun K hK => ?_) (fun K hK => ?_)
  · go_simp
    refine (hcall.out W.drew (bel_drewN (Below.refl _ _) 1)).mono ?_
    intro e w2 hx
    rcases R with c | ⟨x, it2, r⟩
    · obtain ⟨hB2, rfl⟩ := hx
      exact ⟨rfl, rfl, h3.out.trans ((hdr.trans hB2).mono h3.out.size)⟩
    obtain ⟨hB2, vn, vl, rfl, hR2, hO2, hit⟩ := hx
    obtain ⟨Ax, nx, cx, Ay, ny, cy, rfl, rfl⟩ := hO2.forms
    have hB3 : But W.heap.size b W (w2.alloc (.cells #[.int .u8 0, .string ⟨#[]⟩, .slice none 0 0, .slice none 0 0] 25)) := (hdr.trans hB2).alloc hB2.size _
    obtain ⟨v', w4, gg, cap, hrun, rfl, q1, q2, q3, q4, q5, q6, q7, q8, q9⟩ := append_zero 23 Tryz.underlying23 h11 hB3 (by omega) h5 (Cel.fresh w2 25 #[.int .u8 0, .string ⟨#[]⟩, .slice none 0 0, .slice none 0 0]) (Nat.le_refl _) hB2.size (by simp) (OwnJ.keep x hO2 (fun k _ hk => Below.heap_alloc w2 _ k hk) (Nat.le_refl _) (Nat.le_refl _)) (by omega)
    have hfin := hh.out.put hB3 (hR2.below ((Below.refl _ _).alloc (Nat.le_refl _) _)) hit (hvl' _ _ _ rfl) q1 q4 q5 q6 q7 q8 q9
    refine hK.out _ _ (fun _ => hS.out _ (hdr.trans hB2)) ?_
    clear hK
    refine wpAnyQ_one (i := 7) (by kernel_rfl) rfl (fun K hK => ?_)
    go_simp
    refine hK.out _ _ (fun _ => hS.out _ hB3) ?_
    clear hK
    refine wpAnyQ_one (i := 8) (by kernel_rfl) rfl (fun K hK => ?_)
    refine jl_step_run (by rfl) (.tmp 4) (.tmp 10) 23 23 (by rfl) (.slice A7 st.2.length c7) (.slice (some ⟨w2.heap.size, 0, none⟩) 1 1) _ w4 (by rfl) (by rfl) hrun ?_
    have hS3 := hS.out _ hB3
    have hb0 : ∀ (k o : Nat), k < B → w4.cell? ⟨k, o, none⟩ = (w2.alloc (.cells #[.int .u8 0, .string ⟨#[]⟩, .slice none 0 0, .slice none 0 0] 25)).cell? ⟨k, o, none⟩ := fun k o hk => World.cell?_of_block (a := ⟨k, o, none⟩) (q4 k hk)
    have hS4 : w4.cell? ⟨w.heap.size, 0, none⟩ = some (.pointer (some ⟨b, 0, none⟩)) ∧ w4.cell? ⟨w.heap.size + 1, 0, none⟩ = some (.int .i64 d) ∧ w4.cell? ⟨g, 3, none⟩ = some (.slice A7 st.2.length c7) := ⟨(hb0 _ _ (by omega)).trans hS3.1, (hb0 _ _ (by omega)).trans hS3.2.1, (hb0 _ _ (by omega)).trans hS3.2.2⟩
    refine hK.out _ _ (fun _ => hS4) ?_
    clear hK
    simp only [Act.put, List.setIfInBounds_toArray, List.set_cons_zero, List.set_cons_succ]
    have k0 := q2 0 _ rfl
    have k1 := q2 1 _ rfl
    have k2 := q2 2 _ rfl
    have k3 := q2 3 _ rfl
    have f0 := q3 (st.2.length * 4)
    have f1 := q3 (st.2.length * 4 + 1)
    have f2 := q3 (st.2.length * 4 + 2)
    have f3 := q3 (st.2.length * 4 + 3)
    have g3 := hS4.2.2
    have fg : w4.frozen? ⟨g, 3, none⟩ = false := by
      have := (q4 g h6'').trans ((Below.heap_alloc w2 _ g (by have := hB2.size; simp at this; omega)).trans (hB2.block g (by simp; omega) (by omega)))
      exact (World.frozen?_of_block (a := ⟨g, 3, none⟩) this).trans (hfz)
    have hne : ¬ g = gg := by omega
    have hneA : ¬ w.heap.size = gg := by omega
    have hneA1 : ¬ w.heap.size + 1 = gg := by omega
    have hn0 : (0 : Int) ≤ (st.2.length : Int) := by omega
    have hn1 : (st.2.length : Int) < (st.2.length : Int) + 1 := by omega
    have hfin2 := Lib.hid hfin
    clear hfin q9 q2 q3 q4 q5 q6 q7 q8 hrun hS hh hcall hvl' hB2 hB3 hR2 hO2 h11 hS3 hb0
    simp only [Nat.add_zero] at k0
    refine wpAnyQ_takeW (i := 11) (v := .pointer (some ⟨g, 3, none⟩)) rfl (by kernel_rfl) (by kernel_rfl) (by kernel_rfl) (by decide) (fun _ _ _ h => h) (Or.inl ⟨by rfl, by
      intro w' hSw
      go_simp⟩) hS4 ?_
    simp only [Act.put, List.setIfInBounds_toArray]
    refine wpAnyQ_takeW (i := 9) (v := .pointer (some ⟨gg, st.2.length * 4, none⟩)) rfl (by kernel_rfl) (by kernel_rfl) (by kernel_rfl) (by decide) (fun _ _ _ h => h) (Or.inl ⟨by rfl, by
      intro w' hSw
      go_simp⟩) hS4 ?_
    simp only [Act.put]
    refine wpAnyQ_two (i := 10) (j := 12) (by kernel_rfl) rfl rfl (fun K hK => ?_) (fun K hK => ?_)
    · go_simp
      refine hK.out _ _ (fun _ => ?_) ?_
      · have hoc : ∀ (k o : Nat), k ≠ gg → (lay4 w4 gg (st.2.length * 4) (.int .u8 x.kind) (.string x.text) (.slice Ax nx cx) (.slice Ay ny cy)).cell? ⟨k, o, none⟩ = w4.cell? ⟨k, o, none⟩ := fun k o hk => World.cell?_of_block (a := ⟨k, o, none⟩) (lay4_other w4 gg _ _ _ _ _ hk)
        exact ⟨(hoc _ _ hneA).trans hS4.1, (hoc _ _ hneA1).trans hS4.2.1, (hoc _ _ hne).trans hS4.2.2⟩
      clear hK
      refine wpAnyQ_one (i := 12) (by kernel_rfl) rfl (fun K hK => ?_)
      go_simp
      refine hK.out _ _ (fun h => by cases h) ?_
      clear hK
      refine wpAnyQ_done (by kernel_rfl) ?_
      go_end0
      exact ⟨rfl, hfin2.out⟩
    · go_simp
      refine hK.out _ _ (fun h => by cases h) ?_
      clear hK
      have hk' : ∀ i, (w4.setCell ⟨g, 3, none⟩ (.slice (some ⟨gg, 0, none⟩) (st.2.length + 1) cap)).cell? ⟨gg, i, none⟩ = w4.cell? ⟨gg, i, none⟩ := fun i => World.cell?_setCell_other w4 ⟨g, 3, none⟩ ⟨gg, i, none⟩ _ (fun e => hne (congrArg Addr.block e))
      refine wpAnyQ_one (i := 10) (by kernel_rfl) rfl (fun K hK => ?_)
      go_simp
      refine hK.out _ _ (fun h => by cases h) ?_
      clear hK
      refine wpAnyQ_done (by kernel_rfl) ?_
      go_end0
      refine ⟨rfl, ?_⟩
      have e := lay4_comm w4 gg (st.2.length * 4) g (.int .u8 x.kind) (.string x.text) (.slice Ax nx cx) (.slice Ay ny cy) (.slice (some ⟨gg, 0, none⟩) (st.2.length + 1) cap) hne
      show IA w b d g B _ _ (lay4 _ _ _ _ _ _ _)
      rw [e]
      exact hfin2.out
  · go_simp
    have hdz : But W.heap.size b W (W.drew.alloc (.cells #[.int .u8 0, .string ⟨#[]⟩, .slice none 0 0, .slice none 0 0] 25)) := hdr.alloc (Nat.le_refl _) _
    refine hK.out _ _ (fun _ => hS.out _ hdz) ?_
    clear hK
    refine wpAnyQ_one (i := 5) (by kernel_rfl) rfl (fun K hK => ?_)
    go_simp
    refine (hcall.out (W.drew.alloc (.cells #[.int .u8 0, .string ⟨#[]⟩, .slice none 0 0, .slice none 0 0] 25)) ((bel_drewN (Below.refl _ _) 1).alloc (Nat.le_refl _) _)).mono ?_
    intro e w2 hx
    rcases R with c | ⟨x, it2, r⟩
    · obtain ⟨hB2, rfl⟩ := hx
      exact ⟨rfl, rfl, h3.out.trans ((hdz.trans (hB2.mono (by simp))).mono h3.out.size)⟩
    obtain ⟨hB2, vn, vl, rfl, hR2, hO2, hit⟩ := hx
    obtain ⟨Ax, nx, cx, Ay, ny, cy, rfl, rfl⟩ := hO2.forms
    have hB3 : But W.heap.size b W w2 := hdz.trans (hB2.mono (by simp))
    have hz3 : Cel w2 W.heap.size 25 #[.int .u8 0, .string ⟨#[]⟩, .slice none 0 0, .slice none 0 0] := Cel.but (Cel.fresh W.drew 25 #[.int .u8 0, .string ⟨#[]⟩, .slice none 0 0, .slice none 0 0]) hB2 (by simp) (by show W.heap.size ≠ b; omega)
    obtain ⟨v', w4, gg, cap, hrun, rfl, q1, q2, q3, q4, q5, q6, q7, q8, q9⟩ := append_zero 23 Tryz.underlying23 h11 hB3 (by omega) h5 hz3 (by simp) hB2.size (Nat.le_refl _) hO2 (by omega)
    have hfin := hh.out.put hB3 hR2 hit (hvl' _ _ _ rfl) q1 q4 q5 q6 q7 q8 q9
    refine hK.out _ _ (fun _ => hS.out _ hB3) ?_
    clear hK
    refine wpAnyQ_one (i := 8) (by kernel_rfl) rfl (fun K hK => ?_)
    refine jl_step_run (by rfl) (.tmp 4) (.tmp 10) 23 23 (by rfl) (.slice A7 st.2.length c7) (.slice (some ⟨W.heap.size, 0, none⟩) 1 1) _ w4 (by rfl) (by rfl) hrun ?_
    have hS3 := hS.out _ hB3
    have hb0 : ∀ (k o : Nat), k < B → w4.cell? ⟨k, o, none⟩ = w2.cell? ⟨k, o, none⟩ := fun k o hk => World.cell?_of_block (a := ⟨k, o, none⟩) (q4 k hk)
    have hS4 : w4.cell? ⟨w.heap.size, 0, none⟩ = some (.pointer (some ⟨b, 0, none⟩)) ∧ w4.cell? ⟨w.heap.size + 1, 0, none⟩ = some (.int .i64 d) ∧ w4.cell? ⟨g, 3, none⟩ = some (.slice A7 st.2.length c7) := ⟨(hb0 _ _ (by omega)).trans hS3.1, (hb0 _ _ (by omega)).trans hS3.2.1, (hb0 _ _ (by omega)).trans hS3.2.2⟩
    refine hK.out _ _ (fun _ => hS4) ?_
    clear hK
    simp only [Act.put, List.setIfInBounds_toArray, List.set_cons_zero, List.set_cons_succ]
    have k0 := q2 0 _ rfl
    have k1 := q2 1 _ rfl
    have k2 := q2 2 _ rfl
    have k3 := q2 3 _ rfl
    have f0 := q3 (st.2.length * 4)
    have f1 := q3 (st.2.length * 4 + 1)
    have f2 := q3 (st.2.length * 4 + 2)
    have f3 := q3 (st.2.length * 4 + 3)
    have g3 := hS4.2.2
    have fg : w4.frozen? ⟨g, 3, none⟩ = false := by
      have := (q4 g h6'').trans (hB3.block g (by omega) (by omega))
      exact (World.frozen?_of_block (a := ⟨g, 3, none⟩) this).trans (hfz)
    have hne : ¬ g = gg := by omega
    have hneA : ¬ w.heap.size = gg := by omega
    have hneA1 : ¬ w.heap.size + 1 = gg := by omega
    have hn0 : (0 : Int) ≤ (st.2.length : Int) := by omega
    have hn1 : (st.2.length : Int) < (st.2.length : Int) + 1 := by omega
    have hfin2 := Lib.hid hfin
    clear hfin q9 q2 q3 q4 q5 q6 q7 q8 hrun hS hh hcall hvl' hB2 hB3 hR2 hO2 h11 hS3 hb0
    simp only [Nat.add_zero] at k0
    refine wpAnyQ_takeW (i := 11) (v := .pointer (some ⟨g, 3, none⟩)) rfl (by kernel_rfl) (by kernel_rfl) (by kernel_rfl) (by decide) (fun _ _ _ h => h) (Or.inl ⟨by rfl, by
      intro w' hSw
      go_simp⟩) hS4 ?_
    simp only [Act.put, List.setIfInBounds_toArray]
    refine wpAnyQ_takeW (i := 9) (v := .pointer (some ⟨gg, st.2.length * 4, none⟩)) rfl (by kernel_rfl) (by kernel_rfl) (by kernel_rfl) (by decide) (fun _ _ _ h => h) (Or.inl ⟨by rfl, by
      intro w' hSw
      go_simp⟩) hS4 ?_
    simp only [Act.put]
    refine wpAnyQ_two (i := 10) (j := 12) (by kernel_rfl) rfl rfl (fun K hK => ?_) (fun K hK => ?_)
    · go_simp
      refine hK.out _ _ (fun _ => ?_) ?_
      · have hoc : ∀ (k o : Nat), k ≠ gg → (lay4 w4 gg (st.2.length * 4) (.int .u8 x.kind) (.string x.text) (.slice Ax nx cx) (.slice Ay ny cy)).cell? ⟨k, o, none⟩ = w4.cell? ⟨k, o, none⟩ := fun k o hk => World.cell?_of_block (a := ⟨k, o, none⟩) (lay4_other w4 gg _ _ _ _ _ hk)
        exact ⟨(hoc _ _ hneA).trans hS4.1, (hoc _ _ hneA1).trans hS4.2.1, (hoc _ _ hne).trans hS4.2.2⟩
      clear hK
      refine wpAnyQ_one (i := 12) (by kernel_rfl) rfl (fun K hK => ?_)
      go_simp
      refine hK.out _ _ (fun h => by cases h) ?_
      clear hK
      refine wpAnyQ_done (by kernel_rfl) ?_
      go_end0
      exact ⟨rfl, hfin2.out⟩
    · go_simp
      refine hK.out _ _ (fun h => by cases h) ?_
      clear hK
      have hk' : ∀ i, (w4.setCell ⟨g, 3, none⟩ (.slice (some ⟨gg, 0, none⟩) (st.2.length + 1) cap)).cell? ⟨gg, i, none⟩ = w4.cell? ⟨gg, i, none⟩ := fun i => World.cell?_setCell_other w4 ⟨g, 3, none⟩ ⟨gg, i, none⟩ _ (fun e => hne (congrArg Addr.block e))
      refine wpAnyQ_one (i := 10) (by kernel_rfl) rfl (fun K hK => ?_)
      go_simp
      refine hK.out _ _ (fun h => by cases h) ?_
      clear hK
      refine wpAnyQ_done (by kernel_rfl) ?_
      go_end0
      refine ⟨rfl, ?_⟩
      have e := lay4_comm w4 gg (st.2.length * 4) g (.int .u8 x.kind) (.string x.text) (.slice Ax nx cx) (.slice Ay ny cy) (.slice (some ⟨gg, 0, none⟩) (st.2.length + 1) cap) hne
      show IA w b d g B _ _ (lay4 _ _ _ _ _ _ _)
      rw [e]
      exact hfin2.out
end Go.Proofs.YtlnkjacbdolhnaaGreatDoor


/-
  The walk of the JSON reader's closure that reads one member of an Object: what is known between the members.
-/
namespace Go.Proofs.YtlnkjacbdolhnaaGreatDoor
open Go.RowKit Go.WideMaps Go.Maps

theorem RowW.keep {w w' : World} {B : Nat} {tS tJ : TypeId} {v : Value} {l : List Jsn} {ws : List OE} (h : RowW w B tS tJ v l ws) (hk : ∀ k, B ≤ k → k < w.heap.size → w'.heap[k]? = w.heap[k]?) (hs : w.heap.size ≤ w'.heap.size) : RowW w' B tS tJ v l ws := by
  obtain ⟨h1, h2, h3, h4⟩ := h
  refine ⟨h1, ⟨h2.1, ?_⟩, fun i x u hx hu => ?_, h4⟩
  · rcases h2.2 with e | ⟨g, cap, cur, e1, e2, e3, e4⟩
    · exact .inl e
    · exact .inr ⟨g, cap, cur, e1, e2, (hk g e2 (Array.getElem?_eq_some_iff.1 e3).1).trans e3, e4⟩
  · obtain ⟨q1, q2, q3, q4, q5⟩ := h3 i x u hx hu
    exact ⟨q1, q2, Nat.le_trans q3 hs, q4, OwnJ.keep x q5 (fun b hb1 hb2 => hk b (by omega) (by omega)) (Nat.le_refl _) (Nat.le_refl _)⟩
theorem RowW.ends {w : World} {B : Nat} {tS tJ : TypeId} {v : Value} {l : List Jsn} {ws : List OE} (h : RowW w B tS tJ v l ws) : ∀ u ∈ ws, u.2.2.2 ≤ w.heap.size := fun u hu => by
  obtain ⟨i, hi'⟩ := List.mem_iff_getElem?.1 hu
  have hil : i < l.length := by have := (List.getElem?_eq_some_iff.1 hi').1; rw [h.1] at this; exact this
  exact (h.2.2.1 i _ u (List.getElem?_eq_getElem hil) hi').2.2.1
theorem ownRow_keep {w w' : World} {B k : Nat} {t : TypeId} {v : Value} {n : Nat} {xs : List Value} (h : w.ownsRow B t k v n xs) (hk : ∀ g, v.ownBlock = some g → w'.heap[g]? = w.heap[g]?) : w'.ownsRow B t k v n xs := by
  refine ⟨h.1, ?_⟩
  rcases h.2 with e | ⟨g, cap, cur, e1, e2, e3, e4⟩
  · exact .inl e
  · exact .inr ⟨g, cap, cur, e1, e2, (hk g (by rw [e1]; rfl)).trans e3, e4⟩
/-- What the map holds: each name once. -/
def SeenN (D : DataW Unit) (ns : List ByteArray) : Prop := ∀ x : ByteArray, D.atKey (.string x.data.toList) (.lit (.int .i64 0)) = .lit (.int .i64 (if hasB ns x = true then 1 else 0))
theorem SeenN.step {D : DataW Unit} {ns : List ByteArray} {S : ByteArray} (h : SeenN D ns) (hD : IsMap D) : SeenN (D.put (.string S.data.toList) (.lit (.int .i64 1))) (ns ++ [S]) := fun x => by
  have h1 : hasB (ns ++ [S]) x = (hasB ns x || decide (S = x)) := by unfold hasB; simp
  rw [h1]
  by_cases e : x = S
  · subst e
    rw [atKey_put_same hD (key_lit x)]; simp
  · rw [atKey_put_other (fun he => e (jstr_ext (by injection he)))]
    rw [h x, decide_eq_false (fun he => e he.symm), Bool.or_false]
/-- The names' row lies apart from the values. -/
def ApartN (vN vL : Value) (ws : List OE) : Prop := ∀ gn, vN.ownBlock = some gn → vL.ownBlock ≠ some gn ∧ ∀ u ∈ ws, ¬ (u.2.2.1 ≤ gn ∧ gn < u.2.2.2)
/-- What is known within a member of an Object: ms: the names in the map; ns: those in the row. -/
structure IO (w : World) (b : Nat) (d : Int) (g B it : Nat) (ms ns : List ByteArray) (l : List Jsn) (s : List UInt8) (W : World) : Prop where
  rj : RJ W b s it
  env : EnvB b w
  but : But w.heap.size b w W
  it' : it ≤ 65536
  size : B ≤ W.heap.size
  lt : b < w.heap.size ∧ w.heap.size + 2 < g ∧ g + 2 < B
  c0 : Cel W w.heap.size 86 #[.pointer (some ⟨b, 0, none⟩)]
  c1 : Cel W (w.heap.size + 1) 3 #[.int .i64 d]
  c2 : Cel W (w.heap.size + 2) 25 zero4.toArray
  c3 : Cel W (g + 2) 140 #[.map (some (g + 1))]
  map : ∃ D k, k ≤ ms.length ∧ W.ownsMap Tryz.prog 9 (plainElem Tryz.prog 3) (g + 1) k D ∧ SeenN D ms
  row : ∃ vN vL ws, Cel W g 25 #[.int .u8 7, .string ⟨#[]⟩, vN, vL] ∧ W.ownsRow B 9 1 vN ns.length (ns.map Value.string) ∧ RowW W B 9 25 vL l ws ∧ ApartN vN vL ws
  len : l.length ≤ it
section
variable {w W W' : World} {b : Nat} {d : Int} {g B it : Nat} {ms ms' ns : List ByteArray} {l : List Jsn} {s s' : List UInt8}
theorem IO.keep (h : IO w b d g B it ms ns l s W) (hos : W'.os = W.os) (htp : W'.tape = W.tape) (hou : W'.output = W.output) (hsz : W.heap.size ≤ W'.heap.size) (hblk : ∀ k, k < W.heap.size → k ≠ b → k ≠ g + 1 → W'.heap[k]? = W.heap[k]?)
    (hr : RJ W' b s' it) (hm : ∃ D k, k ≤ ms'.length ∧ W'.ownsMap Tryz.prog 9 (plainElem Tryz.prog 3) (g + 1) k D ∧ SeenN D ms') : IO w b d g B it ms' ns l s' W' := by
  obtain ⟨h1, h2, h3, h4, h5, ⟨h6, h6', h6''⟩, h7, h8, h9, h10, h11, ⟨vN, vL, ws, q1, q2, q3, q4⟩, h13⟩ := h
  have hs := h3.size
  refine ⟨hr, h2, ⟨hos.trans h3.os, htp.trans h3.tape, hou.trans h3.output, Nat.le_trans hs hsz, fun k hk hb => (hblk k (by omega) hb (by omega)).trans (h3.block k hk hb)⟩, h4, by omega, ⟨h6, h6', h6''⟩,
    (hblk _ (by omega) (by omega) (by omega)).trans h7, (hblk _ (by omega) (by omega) (by omega)).trans h8, (hblk _ (by omega) (by omega) (by omega)).trans h9, (hblk _ (by omega) (by omega) (by omega)).trans h10, hm,
    ⟨vN, vL, ws, (hblk _ (by omega) (by omega) (by omega)).trans q1, ownRow_keep q2 (fun k hk => ?_), q3.keep (fun k hk1 hk2 => hblk k hk2 (by omega) (by omega)) hsz, q4⟩, h13⟩
  have := q2.lt k hk
  exact hblk k this.2 (by omega) (by omega)
theorem IO.step (h : IO w b d g B it ms ns l s W) (hb : But W.heap.size b W W') (hr : RJ W' b s' it) : IO w b d g B it ms ns l s' W' := by
  refine h.keep hb.os hb.tape hb.output hb.size (fun k h1 h2 _ => hb.block k h1 h2) hr ?_
  obtain ⟨D, k, h1, h2, h3⟩ := h.map
  exact ⟨D, k, h1, h2.kept hb.grow (by have := h.lt; simp; omega), h3⟩
theorem IO.mapped (h : IO w b d g B it ms ns l s W) {D : DataW Unit} {k : Nat} (hgr : W.grownBy W' (some (g + 1))) (hk : k ≤ ms'.length) (hown : W'.ownsMap Tryz.prog 9 (plainElem Tryz.prog 3) (g + 1) k D) (hs : SeenN D ms') : IO w b d g B it ms' ns l s W' :=
  h.keep hgr.os hgr.tape hgr.output hgr.size (fun k h1 _ h3 => hgr.block k h1 (by simp; omega)) ((hgr.block b h.rj.lt (by have := h.lt; simp; omega)).trans h.rj) ⟨D, k, hk, hown, hs⟩
theorem IO.envW (h : IO w b d g B it ms ns l s W) : EnvB b W := h.env.but h.but
set_option maxRecDepth 100000 in
/-- A name more. -/
theorem IO.name (h : IO w b d g B it ms ns l s W) (S : ByteArray) (hn : ns.length ≤ 1000000) :
    ∃ A cn v' w4 A' cn', W.cell? ⟨g, 2, none⟩ = some (.slice A ns.length cn) ∧ (Builtin.append_ #[22, 22] 22 #[.slice A ns.length cn, .slice (some ⟨W.heap.size, 0, none⟩) 1 1]).run Tryz.prog (W.alloc (.cells #[.string S] 9)) = .ok v' w4 ∧
      v' = .slice A' (ns.length + 1) cn' ∧ w4.cell? ⟨g, 2, none⟩ = some (.slice A ns.length cn) ∧ w4.frozen? ⟨g, 2, none⟩ = false ∧ IO w b d g B it ms (ns ++ [S]) l s (w4.setCell ⟨g, 2, none⟩ v') := by
  obtain ⟨h1, h2, h3, h4, h5, ⟨h6, h6', h6''⟩, h7, h8, h9, h10, ⟨D, k, m1, m2, m3⟩, ⟨vN, vL, ws, q1, q2, q3, q4⟩, h13⟩ := h
  obtain ⟨i0, hi0, hz0, hz1, hz2⟩ := info_parts infoS
  have hs := h3.size
  obtain ⟨A, cn, rfl⟩ : ∃ A cn, vN = .slice A ns.length cn := by
    rcases q2.2 with ⟨e, h0⟩ | ⟨gn, cap, cur, e, _⟩
    · exact ⟨none, 0, by rw [e, h0]⟩
    · exact ⟨_, cap, e⟩
  obtain ⟨v', w4, hrun, r2, r3, _, r5⟩ := run_append_own_at (P := Tryz.prog) (W.alloc (.cells #[.string S] 9)) B 22 22 9 i0 _ 1 16 Tryz.underlying22 hi0 hz0 hz1 hz2 rfl (by decide) _ ns.length (ns.map Value.string) (q2.alloc _) ⟨W.heap.size, 0, none⟩ 1 1 [.string S] rfl
    (fun j u hu => by
      have hadd : (⟨W.heap.size, 0, none⟩ : Addr).add j = ⟨W.heap.size, j, none⟩ := by unfold Addr.add; split <;> simp_all
      rw [hadd, (Cel.fresh W 9 #[.string S]).cell]
      simpa using hu)
    (fun u hu => by simp at hu; rw [hu]; rfl) (by unfold maxLen; omega) (by omega) (by simp; omega)
  have hvn := q2.lt
  have hvb : ∀ g', Value.ownBlock v' = some g' → Value.ownBlock (.slice A ns.length cn) = some g' ∨ W.heap.size + 1 = g' := fun g' hg => by
    rcases r5 with e | e
    · exact .inl (e ▸ hg)
    · right; rw [e] at hg; injection hg with hg; simpa using hg
  obtain ⟨A', cn', e'⟩ : ∃ A' cn', v' = .slice A' (ns.length + 1) cn' := by
    rcases r2.2 with ⟨e, h0⟩ | ⟨gn, cap, cur, e, _⟩
    · omega
    · exact ⟨_, cap, e⟩
  have hblk : ∀ k, k < W.heap.size → Value.ownBlock (.slice A ns.length cn) ≠ some k → w4.heap[k]? = W.heap[k]? := fun k hk hne =>
    (r3.block k (by simp; omega) (fun e => hne e.symm)).trans (Below.heap_alloc W _ k hk)
  have hbl : ∀ k, k < W.heap.size → k < B → w4.heap[k]? = W.heap[k]? := fun k hk hkB => hblk k hk (fun e => by have := (hvn k e).1; omega)
  have hsz : W.heap.size ≤ w4.heap.size := by have := r3.size; simp at this; omega
  have hgb := hbl g (by omega) (by omega)
  refine ⟨A, cn, v', w4, A', cn', q1.cell 2, hrun, e', (World.cell?_of_block (a := ⟨g, 2, none⟩) hgb).trans (q1.cell 2), (World.frozen?_of_block (a := ⟨g, 2, none⟩) hgb).trans (q1.froz 2), ?_⟩
  obtain ⟨W6, hW6⟩ : ∃ W6, w4.setCell ⟨g, 2, none⟩ v' = W6 := ⟨_, rfl⟩
  have hsz6 : W6.heap.size = w4.heap.size := by rw [← hW6]; simp
  have h6b : ∀ k, k ≠ g → W6.heap[k]? = w4.heap[k]? := fun k hk => by rw [← hW6]; exact Below.heap_setCell w4 ⟨g, 2, none⟩ v' k hk
  have hcg : Cel W6 g 25 #[.int .u8 7, .string ⟨#[]⟩, v', vL] := by rw [← hW6]; exact Cel.set (hgb.trans q1) 2 v'
  have e1 : W6.os = W.os := by rw [← hW6]; exact r3.os
  have e2 : W6.tape = W.tape := by rw [← hW6]; exact r3.tape
  have e3 : W6.output = W.output := by rw [← hW6]; exact r3.output
  rw [hW6]
  clear hW6
  have hlow : ∀ k, k < W.heap.size → k < B → k ≠ g → W6.heap[k]? = W.heap[k]? := fun k hk hkB hkg => (h6b k hkg).trans (hbl k hk hkB)
  refine ⟨(hlow b (by omega) (by omega) (by omega)).trans h1, h2, ⟨e1.trans h3.os, e2.trans h3.tape, e3.trans h3.output, by omega, fun k hk hb => (hlow k (by omega) (by omega) (by omega)).trans (h3.block k hk hb)⟩, h4, by omega, ⟨h6, h6', h6''⟩,
    (hlow _ (by omega) (by omega) (by omega)).trans h7, (hlow _ (by omega) (by omega) (by omega)).trans h8, (hlow _ (by omega) (by omega) (by omega)).trans h9, (hlow _ (by omega) (by omega) (by omega)).trans h10, ⟨D, k, m1, ?_, m3⟩, ⟨v', vL, ws, hcg, ?_, ?_, ?_⟩, h13⟩
  · obtain ⟨es, clock, hb, F, p1, p2⟩ := m2
    exact ⟨es, clock, (hlow _ (by omega) (by omega) (by omega)).trans hb, F, p1, p2⟩
  · have : (ns ++ [S]).map Value.string = ns.map Value.string ++ [.string S] := by simp
    rw [this, List.length_append]
    exact ownRow_keep r2 (fun k hk => h6b k (by have := r2.lt k hk; omega))
  · refine ⟨q3.1, ownRow_keep q3.2.1 (fun k hk => ?_), fun i x u hx hu => ?_, q3.2.2.2⟩
    · have := q3.2.1.lt k hk
      exact (h6b k (by omega)).trans (hblk k this.2 (fun e => (q4 k e).1 hk))
    · obtain ⟨p1, p2, p3, p4, p5⟩ := q3.2.2.1 i x u hx hu
      exact ⟨p1, p2, by omega, p4, OwnJ.keep x p5 (fun c hc1 hc2 => (h6b c (by omega)).trans (hblk c (by omega) (fun e => (q4 c e).2 u (List.mem_of_getElem? hu) ⟨hc1, hc2⟩))) (Nat.le_refl _) (Nat.le_refl _)⟩
  · intro gn hgn
    rcases hvb gn hgn with e | e
    · exact q4 gn e
    · refine ⟨fun e2 => ?_, fun u hu => ?_⟩
      · have := q3.2.1.lt gn e2; omega
      · have := q3.ends u hu; omega
end
end Go.Proofs.YtlnkjacbdolhnaaGreatDoor
