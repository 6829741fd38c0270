/-
  JSON values in memory of the call's own: each value within lies in an interval of blocks of its own. No program.
-/
import Derived.Test.YtlnkjacbdolhnaaGreatDoorM07
import Derived.Laws.AppendOwn
import Derived.Maps.AppendAt
import Derived.Test.YtlnkjacbdolhnaaGreatDoorJsB
import Derived.Test.YtlnkjacbdolhnaaGreatDoorShelf
namespace Go.Proofs.YtlnkjacbdolhnaaGreatDoor
open Go.RowKit

/-- Names in a block of the call's own. -/
def NamO (w : World) (tS : TypeId) (lo hi gn : Nat) (vn : Value) (ns : List ByteArray) : Prop :=
  ∃ A c, vn = .slice A ns.length c ∧ (0 < ns.length → A = some ⟨gn, 0, none⟩ ∧ lo ≤ gn ∧ gn < hi ∧ ∃ cs : Array Value, Cel w gn tS cs ∧ ∀ (j : Nat) (x : ByteArray), ns[j]? = some x → cs[j]? = some (Value.string x))
/-- How an element lies: its names, its list, its interval. -/
abbrev OE := Value × Value × Nat × Nat
/-- The elements of a list of the call's own, told by predicates. -/
def KidO (gl gn lo hi : Nat) (cs : Array Value) (l : List (Jsn × (Nat → Nat → Value → Value → Prop))) (ws : List OE) : Prop :=
  ws.length = l.length ∧
  (∀ (i : Nat) x u, l[i]? = some x → ws[i]? = some u → (∀ (q : Nat) (v : Value), (encJ (x.1, u.1, u.2.1))[q]? = some v → cs[i * 4 + q]? = some v) ∧ lo ≤ u.2.2.1 ∧ u.2.2.1 ≤ u.2.2.2 ∧ u.2.2.2 ≤ hi ∧
    ¬ (u.2.2.1 ≤ gl ∧ gl < u.2.2.2) ∧ ¬ (u.2.2.1 ≤ gn ∧ gn < u.2.2.2) ∧ x.2 u.2.2.1 u.2.2.2 u.1 u.2.1) ∧
  (∀ (i j : Nat) (u v : OE), i < j → ws[i]? = some u → ws[j]? = some v → u.2.2.2 ≤ v.2.2.1)
/-- A value of the call's own, in the blocks from lo up to ahead of hi; none of its cells is frozen. -/
def OwnJ (w : World) (tS tJ : TypeId) : Jsn → Nat → Nat → Value → Value → Prop := Jsn.para fun k _ ns l lo hi vn vl =>
  0 ≤ k ∧ k ≤ 255 ∧ ∃ (gn gl : Nat) (cs : Array Value) (A : Option Addr) (c : Nat) (ws : List OE),
    NamO w tS lo hi gn vn ns ∧ vl = .slice A l.length c ∧ (0 < l.length → A = some ⟨gl, 0, none⟩ ∧ lo ≤ gl ∧ gl < hi ∧ gl ≠ gn ∧ Cel w gl tJ cs) ∧ KidO gl gn lo hi cs l ws
theorem OwnJ_eq (w : World) (tS tJ : TypeId) (k : Int) (s : ByteArray) (ns : List ByteArray) (l : List Jsn) (lo hi : Nat) (vn vl : Value) : OwnJ w tS tJ ⟨k, s, ns, l⟩ lo hi vn vl =
    (0 ≤ k ∧ k ≤ 255 ∧ ∃ (gn gl : Nat) (cs : Array Value) (A : Option Addr) (c : Nat) (ws : List OE),
      NamO w tS lo hi gn vn ns ∧ vl = .slice A l.length c ∧ (0 < l.length → A = some ⟨gl, 0, none⟩ ∧ lo ≤ gl ∧ gl < hi ∧ gl ≠ gn ∧ Cel w gl tJ cs) ∧ KidO gl gn lo hi cs (l.map fun x => (x, OwnJ w tS tJ x)) ws) := by
  conv => lhs; unfold OwnJ
  rw [Jsn.para_eq]
  simp only [List.length_map]
  rfl

theorem NamO.keep {w w' : World} {tS : TypeId} {lo hi lo' hi' gn : Nat} {vn : Value} {ns : List ByteArray} (h : NamO w tS lo hi gn vn ns) (hk : ∀ b, lo ≤ b → b < hi → w'.heap[b]? = w.heap[b]?) (h1 : lo' ≤ lo) (h2 : hi ≤ hi') : NamO w' tS lo' hi' gn vn ns := by
  obtain ⟨A, c, rfl, q⟩ := h
  refine ⟨A, c, rfl, fun hp => ?_⟩
  obtain ⟨e, q1, q2, cs, q3, q4⟩ := q hp
  exact ⟨e, by omega, by omega, cs, (hk gn q1 q2).trans q3, q4⟩
theorem KidO.imp {gl gn lo hi lo' hi' : Nat} {cs : Array Value} {l l' : List (Jsn × (Nat → Nat → Value → Value → Prop))} {ws : List OE} (h : KidO gl gn lo hi cs l ws) (h1 : lo' ≤ lo) (h2 : hi ≤ hi') (hl : l'.length = l.length)
    (hx : ∀ (i : Nat) x x', l[i]? = some x → l'[i]? = some x' → x'.1 = x.1 ∧ ∀ a b vn vl, lo ≤ a → b ≤ hi → x.2 a b vn vl → x'.2 a b vn vl) : KidO gl gn lo' hi' cs l' ws := by
  obtain ⟨k1, k2, k3⟩ := h
  refine ⟨by omega, fun i x' u hx' hu => ?_, k3⟩
  have hi' : i < l'.length := (List.getElem?_eq_some_iff.1 hx').1
  have hxi : l[i]? = some (l[i]'(by omega)) := List.getElem?_eq_getElem (by omega)
  obtain ⟨q1, q2, q3, q4, q5, q6, q7⟩ := k2 i _ u hxi hu
  obtain ⟨e1, e2⟩ := hx i _ _ hxi hx'
  exact ⟨by rw [e1]; exact q1, by omega, q3, by omega, q5, q6, e2 _ _ _ _ q2 q4 q7⟩
theorem OwnJ.keep {w w' : World} {tS tJ : TypeId} : ∀ (j : Jsn) {lo hi lo' hi' : Nat} {vn vl : Value}, OwnJ w tS tJ j lo hi vn vl → (∀ b, lo ≤ b → b < hi → w'.heap[b]? = w.heap[b]?) → lo' ≤ lo → hi ≤ hi' → OwnJ w' tS tJ j lo' hi' vn vl := by
  refine Jsn.ind fun k s n l ih => ?_
  intro lo hi lo' hi' vn vl h hk h1 h2
  rw [OwnJ_eq] at h ⊢
  obtain ⟨k0, k1, gn, gl, cs, A, c, ws, q1, q2, q4, q5⟩ := h
  refine ⟨k0, k1, gn, gl, cs, A, c, ws, q1.keep hk h1 h2, q2, fun hp => ?_, q5.imp h1 h2 (by simp) fun i x x' hx hx' => ?_⟩
  · obtain ⟨e1, e2, e3, e0, e4⟩ := q4 hp
    exact ⟨e1, by omega, by omega, e0, (hk gl e2 e3).trans e4⟩
  · rw [List.getElem?_map] at hx hx'
    rcases hj : l[i]? with _ | y
    · rw [hj] at hx; cases hx
    · rw [hj] at hx hx'
      injection hx with hx
      injection hx' with hx'
      subst hx
      subst hx'
      refine ⟨rfl, fun a b vn vl ha hb hP => ?_⟩
      exact ih y (List.mem_of_getElem? hj) hP (fun c h3 h4 => hk c (by omega) (by omega)) (Nat.le_refl _) (Nat.le_refl _)
/-- Read only. -/
theorem OwnJ.jv {w : World} {tS tJ : TypeId} : ∀ (j : Jsn) {lo hi : Nat} {vn vl : Value}, OwnJ w tS tJ j lo hi vn vl → JV w (fun b => lo ≤ b ∧ b < hi) j vn vl := by
  refine Jsn.ind fun k s n l ih => ?_
  intro lo hi vn vl h
  rw [OwnJ_eq] at h
  obtain ⟨k0, k1, gn, gl, cs, A, c, ws, ⟨An, cn, rfl, q1⟩, rfl, q4, q5, q6, _⟩ := h
  rw [List.length_map] at q5
  have hzl : (l.zip ws).length = l.length := by rw [List.length_zip]; omega
  have hzg : ∀ (i : Nat) (z : Jsn × OE), (l.zip ws)[i]? = some z → l[i]? = some z.1 ∧ ws[i]? = some z.2 := fun i z h => List.getElem?_zip_eq_some.1 h
  have e : ((l.zip ws).map fun z => ((z.1, z.2.1, z.2.2.1) : JE)).map (·.1) = l := by
    rw [List.map_map]
    show (l.zip ws).map (fun z => z.1) = l
    rw [show (fun z : Jsn × OE => z.1) = Prod.fst from rfl, List.map_fst_zip (by omega)]
  have hlen : ((l.zip ws).map fun z => ((z.1, z.2.1, z.2.2.1) : JE)).length = l.length := by rw [List.length_map, hzl]
  rw [← hlen]
  refine JV.of_elems k0 k1 ⟨An, cn, rfl, fun hp => ?_⟩ e (fun z hz => ?_) fun hp => ?_
  · obtain ⟨e1, e2, e3, cc, e4, e5⟩ := q1 hp
    exact ⟨gn, 0, e1, ⟨e2, e3⟩, e4.lt, fun j x hx => by rw [Nat.zero_add, e4.cell]; exact e5 j x hx⟩
  · rw [List.mem_map] at hz
    obtain ⟨y, hy, rfl⟩ := hz
    obtain ⟨i, hi⟩ := List.mem_iff_getElem?.1 hy
    obtain ⟨hl1, hl2⟩ := hzg i y hi
    obtain ⟨_, r2, _, r4, _, _, r7⟩ := q6 i (y.1, OwnJ w tS tJ y.1) y.2 (by rw [List.getElem?_map, hl1]; rfl) hl2
    exact (ih y.1 (List.mem_of_getElem? hl1) r7).more (fun b hb _ => ⟨Nat.le_trans r2 hb.1, Nat.lt_of_lt_of_le hb.2 r4⟩)
  · rw [hlen] at hp
    obtain ⟨e1, e2, e3, _, e4⟩ := q4 hp
    refine ⟨gl, 0, e1, ⟨e2, e3⟩, e4.lt, fun j z hz i u hu => ?_⟩
    rw [List.getElem?_map] at hz
    rcases hj : (l.zip ws)[j]? with _ | y
    · rw [hj] at hz; cases hz
    · rw [hj] at hz
      injection hz with hz
      subst hz
      obtain ⟨hl1, hl2⟩ := hzg j y hj
      obtain ⟨r1, _⟩ := q6 j (y.1, OwnJ w tS tJ y.1) y.2 (by rw [List.getElem?_map, hl1]; rfl) hl2
      rw [Nat.zero_add, e4.cell]
      exact r1 i u hu
end Go.Proofs.YtlnkjacbdolhnaaGreatDoor


/-
  A row of JSON values that a call fills, one behind the other, each in memory of its own. No program.
-/
namespace Go.Proofs.YtlnkjacbdolhnaaGreatDoor
open Go.RowKit

def rowCells (l : List Jsn) (ws : List OE) : List Value := (l.zip ws).flatMap fun p => encJ (p.1, p.2.1, p.2.2.1)
theorem rowCells_snoc {l : List Jsn} {ws : List OE} (h : ws.length = l.length) (x : Jsn) (u : OE) : rowCells (l ++ [x]) (ws ++ [u]) = rowCells l ws ++ encJ (x, u.1, u.2.1) := by
  unfold rowCells
  rw [List.zip_append h.symm]
  simp
theorem rowCells_at : ∀ (l : List Jsn) (ws : List OE) (i : Nat) (x : Jsn) (u : OE), l[i]? = some x → ws[i]? = some u → ∀ (q : Nat) (v : Value), (encJ (x, u.1, u.2.1))[q]? = some v → (rowCells l ws)[i * 4 + q]? = some v
  | [], _, _, _, _, h, _, _, _, _ => by simp at h
  | _ :: _, [], _, _, _, _, h, _, _, _ => by simp at h
  | y :: l, z :: ws, 0, x, u, h1, h2, q, v, h3 => by
    simp at h1 h2; subst h1; subst h2
    have hq : q < 4 := (List.getElem?_eq_some_iff.1 h3).1
    have : rowCells (y :: l) (z :: ws) = encJ (y, z.1, z.2.1) ++ rowCells l ws := rfl
    rw [this, Nat.zero_mul, Nat.zero_add, List.getElem?_append_left hq]
    exact h3
  | y :: l, z :: ws, i + 1, x, u, h1, h2, q, v, h3 => by
    have := rowCells_at l ws i x u (by simpa using h1) (by simpa using h2) q v h3
    have e : rowCells (y :: l) (z :: ws) = encJ (y, z.1, z.2.1) ++ rowCells l ws := rfl
    rw [e, List.getElem?_append_right (by show 4 ≤ _; omega)]
    show (rowCells l ws)[(i + 1) * 4 + q - 4]? = some v
    rw [show (i + 1) * 4 + q - 4 = i * 4 + q by omega]
    exact this

/-- A row of values, each in an interval of blocks of its own, in which the row's block does not lie. -/
def RowW (w : World) (B : Nat) (tS tJ : TypeId) (v : Value) (l : List Jsn) (ws : List OE) : Prop := ws.length = l.length ∧ w.ownsRow B tJ 4 v l.length (rowCells l ws) ∧
  (∀ (i : Nat) x u, l[i]? = some x → ws[i]? = some u → B ≤ u.2.2.1 ∧ u.2.2.1 ≤ u.2.2.2 ∧ u.2.2.2 ≤ w.heap.size ∧ (∀ g, v.ownBlock = some g → ¬ (u.2.2.1 ≤ g ∧ g < u.2.2.2)) ∧ OwnJ w tS tJ x u.2.2.1 u.2.2.2 u.1 u.2.1) ∧
  (∀ (i j : Nat) (u z : OE), i < j → ws[i]? = some u → ws[j]? = some z → u.2.2.2 ≤ z.2.2.1)
def RowO (w : World) (B : Nat) (tS tJ : TypeId) (v : Value) (l : List Jsn) : Prop := ∃ ws : List OE, RowW w B tS tJ v l ws
theorem RowO.nil (w : World) (B : Nat) (tS tJ : TypeId) : RowO w B tS tJ (.slice none 0 0) [] :=
  ⟨[], rfl, World.ownsRow_nil _ _ _ _, (fun i x u h => by simp at h), (fun i j u z _ h => by simp at h)⟩
theorem RowO.below {w w' : World} {B : Nat} {tS tJ : TypeId} {v : Value} {l : List Jsn} (h : RowO w B tS tJ v l) (hb : Below w.heap.size w w') : RowO w' B tS tJ v l := by
  obtain ⟨ws, h1, h2, h3, h4⟩ := h
  refine ⟨ws, h1, h2.kept (row := none) ⟨hb.os, hb.tape, hb.output, hb.size, fun k hk _ => hb.block k hk⟩ (by rcases hv : v.ownBlock with _ | g <;> simp), fun i x u hx hu => ?_, h4⟩
  obtain ⟨q1, q2, q3, q4, q5⟩ := h3 i x u hx hu
  exact ⟨q1, q2, Nat.le_trans q3 hb.size, q4, OwnJ.keep x q5 (fun b _ hb2 => hb.block b (by omega)) (Nat.le_refl _) (Nat.le_refl _)⟩

/-- One value more: it was made behind the row (W1 to w2), laid into a block (w3), appended (w4). -/
theorem RowW.snoc {wr W1 w2 w4 : World} {B : Nat} {tS tJ : TypeId} {v v' : Value} {l : List Jsn} {ws : List OE} {x : Jsn} {vn vl : Value} (h : RowW wr B tS tJ v l ws) (hs : wr.heap.size ≤ W1.heap.size) (h12 : Below wr.heap.size wr w2) (hs2 : W1.heap.size ≤ w2.heap.size) (hB : B ≤ wr.heap.size)
    (hx : OwnJ w2 tS tJ x W1.heap.size w2.heap.size vn vl) {cs3 : Array Value}
    (hown : w4.ownsRow B tJ 4 v' (l.length + 1) (rowCells l ws ++ encJ (x, vn, vl)))
    (hgr : (w2.alloc (.cells cs3 tJ)).grownBy w4 v.ownBlock) (hbl : v'.ownBlock = v.ownBlock ∨ v'.ownBlock = some (w2.alloc (.cells cs3 tJ)).heap.size) : RowW w4 B tS tJ v' (l ++ [x]) (ws ++ [(vn, vl, W1.heap.size, w2.heap.size)]) := by
  have hvl : ∀ g, v.ownBlock = some g → B ≤ g ∧ g < wr.heap.size := h.2.1.lt
  obtain ⟨h1, h20, h30, h4⟩ := h
  have h2 : w2.ownsRow B tJ 4 v l.length (rowCells l ws) := h20.kept (row := none) ⟨h12.os, h12.tape, h12.output, h12.size, fun k hk _ => h12.block k hk⟩ (by rcases hv : v.ownBlock with _ | g <;> simp)
  have h12s := h12.size
  have h3 : ∀ (i : Nat) x u, l[i]? = some x → ws[i]? = some u → B ≤ u.2.2.1 ∧ u.2.2.1 ≤ u.2.2.2 ∧ u.2.2.2 ≤ wr.heap.size ∧ (∀ g, v.ownBlock = some g → ¬ (u.2.2.1 ≤ g ∧ g < u.2.2.2)) ∧ OwnJ w2 tS tJ x u.2.2.1 u.2.2.2 u.1 u.2.1 := fun i x u hx hu => by
    obtain ⟨q1, q2, q3, q4, q5⟩ := h30 i x u hx hu
    exact ⟨q1, q2, q3, q4, OwnJ.keep x q5 (fun b _ hb2 => h12.block b (by omega)) (Nat.le_refl _) (Nat.le_refl _)⟩
  have hgs := hgr.size
  simp at hgs hbl
  have hkeep : ∀ (y : Jsn) (a b : Nat) (yn yl : Value), OwnJ w2 tS tJ y a b yn yl → b ≤ w2.heap.size → (∀ g, v.ownBlock = some g → ¬ (a ≤ g ∧ g < b)) → OwnJ w4 tS tJ y a b yn yl := fun y a b yn yl hy hb hg =>
    OwnJ.keep y hy (fun c h5 h6 => (hgr.block c (by simp; omega) (fun e => hg c e.symm ⟨h5, h6⟩)).trans (Below.heap_alloc w2 _ c (by omega))) (Nat.le_refl _) (Nat.le_refl _)
  refine ⟨by simp [h1], ?_, fun i y u hy hu => ?_, fun i j u z hij hu hz => ?_⟩
  · rw [rowCells_snoc h1, List.length_append]
    exact hown
  · have hvb : ∀ (a b : Nat), b ≤ w2.heap.size → (∀ g, v.ownBlock = some g → ¬ (a ≤ g ∧ g < b)) → ∀ g, v'.ownBlock = some g → ¬ (a ≤ g ∧ g < b) := fun a b hb hg g hg' => by
      rcases hbl with e | e
      · exact hg g (by rw [← e]; exact hg')
      · rw [e] at hg'; injection hg' with hg'; omega
    by_cases hi : i < l.length
    · rw [List.getElem?_append_left hi] at hy
      rw [List.getElem?_append_left (by omega)] at hu
      obtain ⟨q1, q2, q3, q4, q5⟩ := h3 i y u hy hu
      exact ⟨q1, q2, by omega, hvb _ _ (by omega) q4, hkeep y _ _ _ _ q5 (by omega) q4⟩
    · rw [List.getElem?_append_right (by omega)] at hy
      rw [List.getElem?_append_right (by omega)] at hu
      have hi0 : i - l.length = 0 := by
        have := (List.getElem?_eq_some_iff.1 hy).1
        simp at this; omega
      rw [h1, hi0] at hu
      rw [hi0] at hy
      simp at hy hu
      subst hy
      subst hu
      have hn : ∀ g, v.ownBlock = some g → ¬ (W1.heap.size ≤ g ∧ g < w2.heap.size) := fun g hg => by have := hvl g hg; omega
      exact ⟨by dsimp only; omega, hs2, by dsimp only; omega, hvb _ _ (Nat.le_refl _) hn, hkeep _ _ _ _ _ hx (Nat.le_refl _) hn⟩
  · have hjl : j < (ws ++ [(vn, vl, W1.heap.size, w2.heap.size)]).length := (List.getElem?_eq_some_iff.1 hz).1
    simp at hjl
    rw [List.getElem?_append_left (by omega)] at hu
    by_cases hj : j < ws.length
    · rw [List.getElem?_append_left hj] at hz
      exact h4 i j u z hij hu hz
    · rw [List.getElem?_append_right (by omega), show j - ws.length = 0 by omega] at hz
      simp at hz
      subst hz
      have hil : i < l.length := by omega
      obtain ⟨_, _, q3, _⟩ := h3 i _ u (List.getElem?_eq_getElem hil) hu
      dsimp only
      omega

theorem OwnJ.forms {w : World} {tS tJ : TypeId} {j : Jsn} {lo hi : Nat} {vn vl : Value} (h : OwnJ w tS tJ j lo hi vn vl) : ∃ A n c A' n' c', vn = .slice A n c ∧ vl = .slice A' n' c' := by
  obtain ⟨k, s, n, l⟩ := j; rw [OwnJ_eq] at h
  obtain ⟨_, _, gn, gl, cs, A, c, ws, ⟨A2, c2, h1, _⟩, h2, _⟩ := h
  exact ⟨A2, _, c2, A, _, c, h1, h2⟩
/-- The row, whole, as a value's list. -/
theorem RowO.kids {w : World} {B : Nat} {tS tJ : TypeId} {v : Value} {l : List Jsn} (h : RowO w B tS tJ v l) :
    ∃ (gl : Nat) (cs : Array Value) (A : Option Addr) (c : Nat) (ws : List OE), v = .slice A l.length c ∧ (0 < l.length → A = some ⟨gl, 0, none⟩ ∧ B ≤ gl ∧ gl < w.heap.size ∧ Cel w gl tJ cs) ∧ ∀ gn, w.heap.size ≤ gn → KidO gl gn B w.heap.size cs (l.map fun x => (x, OwnJ w tS tJ x)) ws := by
  obtain ⟨ws, h1, h2, h3, h4⟩ := h
  rcases h2.2 with ⟨rfl, h0⟩ | ⟨g, cap, cur, rfl, hg, hh, hnc, hcm, hcs, htk⟩
  · have : l = [] := List.eq_nil_of_length_eq_zero h0
    subst this
    have hw : ws = [] := List.eq_nil_of_length_eq_zero (by rw [h1]; rfl)
    subst hw
    exact ⟨0, #[], none, 0, [], rfl, (fun h => by simp at h), fun gn _ => ⟨rfl, (fun i x u h => by simp at h), (fun i j u v _ h => by simp at h)⟩⟩
  · refine ⟨g, cur, some ⟨g, 0, none⟩, cap, ws, rfl, fun _ => ⟨rfl, hg, (Array.getElem?_eq_some_iff.1 hh).1, hh⟩, fun gn hgn => ⟨by simp [h1], fun i x u hx hu => ?_, h4⟩⟩
    rw [List.getElem?_map] at hx
    rcases hj : l[i]? with _ | y
    · rw [hj] at hx; cases hx
    · rw [hj] at hx
      injection hx with hx
      subst hx
      obtain ⟨q1, q2, q3, q4, q5⟩ := h3 i y u hj hu
      refine ⟨fun q v hv => ?_, q1, q2, q3, q4 g rfl, by omega, q5⟩
      have h5 := rowCells_at l ws i y u hj hu q v hv
      rw [← htk, List.getElem?_take] at h5
      split at h5
      · rwa [Array.getElem?_toList] at h5
      · cases h5

/-- A value of the call's own, out of its names and its row. -/
theorem mk_own {wr w2 : World} {B gn : Nat} {tS tJ : TypeId} {v vn : Value} {k : Int} {s : ByteArray} {ns : List ByteArray} {l : List Jsn} (hk0 : 0 ≤ k) (hk1 : k ≤ 255) (h : RowO wr B tS tJ v l) (hb : Below wr.heap.size wr w2) (hB : B ≤ wr.heap.size) (hg : wr.heap.size ≤ gn)
    (hn : NamO w2 tS wr.heap.size w2.heap.size gn vn ns) : OwnJ w2 tS tJ ⟨k, s, ns, l⟩ B w2.heap.size vn v := by
  obtain ⟨gl, cs, A, c, ws, hv, h1, h2⟩ := h.kids
  rw [OwnJ_eq]
  refine ⟨hk0, hk1, gn, gl, cs, A, c, ws, hn.keep (fun _ _ _ => rfl) hB (Nat.le_refl _), hv, fun hp => ?_, (h2 gn hg).imp (Nat.le_refl _) hb.size (by simp) fun i x x' hx hx' => ?_⟩
  · obtain ⟨q1, q2, q3, q4⟩ := h1 hp
    exact ⟨q1, q2, Nat.lt_of_lt_of_le q3 hb.size, by omega, q4.below hb q3⟩
  · rw [List.getElem?_map] at hx hx'
    rcases hj : l[i]? with _ | y
    · rw [hj] at hx; cases hx
    · rw [hj] at hx hx'
      injection hx with hx
      injection hx' with hx'
      subst hx
      subst hx'
      exact ⟨rfl, fun a b vn vl ha hb2 hP => OwnJ.keep y hP (fun c h3 h4 => hb.block c (by omega)) (Nat.le_refl _) (Nat.le_refl _)⟩
end Go.Proofs.YtlnkjacbdolhnaaGreatDoor


/-
  The walks of slices.EqualFunc over JSON values, and of json.Same.
-/
namespace Go.Proofs.YtlnkjacbdolhnaaGreatDoor
open Go.RowKit


/-- A function value that tells of any of these and any of those whether they are the same. -/
def PredJ2 (g : Nat) (w : World) (X Y : Nat → Prop) (l m : List Jsn) : Prop :=
  ∀ (W : World) (x y : Jsn) (vn vl un ul : Value), x ∈ l → y ∈ m → Below w.heap.size w W → JV W X x vn vl → JV W Y y un ul →
    Calls Tryz.prog g #[.agg #[.int .u8 x.kind, .string x.text, vn, vl], .agg #[.int .u8 y.kind, .string y.text, un, ul]] W fun e w' => e = .returned (.bool (jsame x y)) ∧ Below W.heap.size W w'

end Go.Proofs.YtlnkjacbdolhnaaGreatDoor
