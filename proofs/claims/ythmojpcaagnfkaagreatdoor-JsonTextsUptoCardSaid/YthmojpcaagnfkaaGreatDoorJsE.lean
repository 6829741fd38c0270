/-
  JSON values in memory of the call's own: each value within lies in an interval of blocks of its own. No program.
-/
import Derived.Test.YthmojpcaagnfkaaGreatDoorJsM
namespace Go.Proofs.YthmojpcaagnfkaaGreatDoor
open Go.RowKit

/-- Names in a block of the call's own. -/
def NamO (w : World) (tS : TypeId) (lo hi gn : Nat) (vn : Value) (ns : List ByteArray) : Prop :=
  ∃ A c, vn = .slice A ns.length c ∧ (0 < ns.length → A = some ⟨gn, 0, none⟩ ∧ lo ≤ gn ∧ gn < hi ∧ ∃ cs : Array Value, Cel w gn tS cs ∧ ∀ (j : Nat) (x : ByteArray), ns[j]? = some x → cs[j]? = some (Value.string x))
/-- How an element lies: its names, its list, its interval. -/
abbrev OE := Value × Value × Nat × Nat
/-- The elements of a list of the call's own, told by predicates. -/
def KidO (gl gn lo hi : Nat) (cs : Array Value) (l : List (Jsn × (Nat → Nat → Value → Value → Prop))) (ws : List OE) : Prop :=
  ws.length = l.length ∧
  (∀ (i : Nat) x u, l[i]? = some x → ws[i]? = some u → (∀ (q : Nat) (v : Value), (encJ (x.1, u.1, u.2.1))[q]? = some v → cs[i * 4 + q]? = some v) ∧ lo ≤ u.2.2.1 ∧ u.2.2.1 ≤ u.2.2.2 ∧ u.2.2.2 ≤ hi ∧
    ¬ (u.2.2.1 ≤ gl ∧ gl < u.2.2.2) ∧ ¬ (u.2.2.1 ≤ gn ∧ gn < u.2.2.2) ∧ x.2 u.2.2.1 u.2.2.2 u.1 u.2.1) ∧
  (∀ (i j : Nat) (u v : OE), i < j → ws[i]? = some u → ws[j]? = some v → u.2.2.2 ≤ v.2.2.1)
/-- A value of the call's own, in the blocks from lo up to ahead of hi; none of its cells is frozen. -/
def OwnJ (w : World) (tS tJ : TypeId) : Jsn → Nat → Nat → Value → Value → Prop := Jsn.para fun k _ ns l lo hi vn vl =>
  0 ≤ k ∧ k ≤ 255 ∧ ∃ (gn gl : Nat) (cs : Array Value) (A : Option Addr) (c : Nat) (ws : List OE),
    NamO w tS lo hi gn vn ns ∧ vl = .slice A l.length c ∧ (0 < l.length → A = some ⟨gl, 0, none⟩ ∧ lo ≤ gl ∧ gl < hi ∧ gl ≠ gn ∧ Cel w gl tJ cs) ∧ KidO gl gn lo hi cs l ws
theorem OwnJ_eq (w : World) (tS tJ : TypeId) (k : Int) (s : ByteArray) (ns : List ByteArray) (l : List Jsn) (lo hi : Nat) (vn vl : Value) : OwnJ w tS tJ ⟨k, s, ns, l⟩ lo hi vn vl =
    (0 ≤ k ∧ k ≤ 255 ∧ ∃ (gn gl : Nat) (cs : Array Value) (A : Option Addr) (c : Nat) (ws : List OE),
      NamO w tS lo hi gn vn ns ∧ vl = .slice A l.length c ∧ (0 < l.length → A = some ⟨gl, 0, none⟩ ∧ lo ≤ gl ∧ gl < hi ∧ gl ≠ gn ∧ Cel w gl tJ cs) ∧ KidO gl gn lo hi cs (l.map fun x => (x, OwnJ w tS tJ x)) ws) := by
  conv => lhs; unfold OwnJ
  rw [Jsn.para_eq]
  simp only [List.length_map]
  rfl

theorem NamO.keep {w w' : World} {tS : TypeId} {lo hi lo' hi' gn : Nat} {vn : Value} {ns : List ByteArray} (h : NamO w tS lo hi gn vn ns) (hk : ∀ b, lo ≤ b → b < hi → w'.heap[b]? = w.heap[b]?) (h1 : lo' ≤ lo) (h2 : hi ≤ hi') : NamO w' tS lo' hi' gn vn ns := by
  obtain ⟨A, c, rfl, q⟩ := h
  refine ⟨A, c, rfl, fun hp => ?_⟩
  obtain ⟨e, q1, q2, cs, q3, q4⟩ := q hp
  exact ⟨e, by omega, by omega, cs, (hk gn q1 q2).trans q3, q4⟩
theorem KidO.imp {gl gn lo hi lo' hi' : Nat} {cs : Array Value} {l l' : List (Jsn × (Nat → Nat → Value → Value → Prop))} {ws : List OE} (h : KidO gl gn lo hi cs l ws) (h1 : lo' ≤ lo) (h2 : hi ≤ hi') (hl : l'.length = l.length)
    (hx : ∀ (i : Nat) x x', l[i]? = some x → l'[i]? = some x' → x'.1 = x.1 ∧ ∀ a b vn vl, lo ≤ a → b ≤ hi → x.2 a b vn vl → x'.2 a b vn vl) : KidO gl gn lo' hi' cs l' ws := by
  obtain ⟨k1, k2, k3⟩ := h
  refine ⟨by omega, fun i x' u hx' hu => ?_, k3⟩
  have hi' : i < l'.length := (List.getElem?_eq_some_iff.1 hx').1
  have hxi : l[i]? = some (l[i]'(by omega)) := List.getElem?_eq_getElem (by omega)
  obtain ⟨q1, q2, q3, q4, q5, q6, q7⟩ := k2 i _ u hxi hu
  obtain ⟨e1, e2⟩ := hx i _ _ hxi hx'
  exact ⟨by rw [e1]; exact q1, by omega, q3, by omega, q5, q6, e2 _ _ _ _ q2 q4 q7⟩
theorem OwnJ.keep {w w' : World} {tS tJ : TypeId} : ∀ (j : Jsn) {lo hi lo' hi' : Nat} {vn vl : Value}, OwnJ w tS tJ j lo hi vn vl → (∀ b, lo ≤ b → b < hi → w'.heap[b]? = w.heap[b]?) → lo' ≤ lo → hi ≤ hi' → OwnJ w' tS tJ j lo' hi' vn vl := by
  refine Jsn.ind fun k s n l ih => ?_
  intro lo hi lo' hi' vn vl h hk h1 h2
  rw [OwnJ_eq] at h ⊢
  obtain ⟨k0, k1, gn, gl, cs, A, c, ws, q1, q2, q4, q5⟩ := h
  refine ⟨k0, k1, gn, gl, cs, A, c, ws, q1.keep hk h1 h2, q2, fun hp => ?_, q5.imp h1 h2 (by simp) fun i x x' hx hx' => ?_⟩
  · obtain ⟨e1, e2, e3, e0, e4⟩ := q4 hp
    exact ⟨e1, by omega, by omega, e0, (hk gl e2 e3).trans e4⟩
  · rw [List.getElem?_map] at hx hx'
    rcases hj : l[i]? with _ | y
    · rw [hj] at hx; cases hx
    · rw [hj] at hx hx'
      injection hx with hx
      injection hx' with hx'
      subst hx
      subst hx'
      refine ⟨rfl, fun a b vn vl ha hb hP => ?_⟩
      exact ih y (List.mem_of_getElem? hj) hP (fun c h3 h4 => hk c (by omega) (by omega)) (Nat.le_refl _) (Nat.le_refl _)
/-- Read only. -/
theorem OwnJ.jv {w : World} {tS tJ : TypeId} : ∀ (j : Jsn) {lo hi : Nat} {vn vl : Value}, OwnJ w tS tJ j lo hi vn vl → JV w (fun b => lo ≤ b ∧ b < hi) j vn vl := by
  refine Jsn.ind fun k s n l ih => ?_
  intro lo hi vn vl h
  rw [OwnJ_eq] at h
  obtain ⟨k0, k1, gn, gl, cs, A, c, ws, ⟨An, cn, rfl, q1⟩, rfl, q4, q5, q6, _⟩ := h
  rw [List.length_map] at q5
  have hzl : (l.zip ws).length = l.length := by rw [List.length_zip]; omega
  have hzg : ∀ (i : Nat) (z : Jsn × OE), (l.zip ws)[i]? = some z → l[i]? = some z.1 ∧ ws[i]? = some z.2 := fun i z h => List.getElem?_zip_eq_some.1 h
  have e : ((l.zip ws).map fun z => ((z.1, z.2.1, z.2.2.1) : JE)).map (·.1) = l := by
    rw [List.map_map]
    show (l.zip ws).map (fun z => z.1) = l
    rw [show (fun z : Jsn × OE => z.1) = Prod.fst from rfl, List.map_fst_zip (by omega)]
  have hlen : ((l.zip ws).map fun z => ((z.1, z.2.1, z.2.2.1) : JE)).length = l.length := by rw [List.length_map, hzl]
  rw [← hlen]
  refine JV.of_elems k0 k1 ⟨An, cn, rfl, fun hp => ?_⟩ e (fun z hz => ?_) fun hp => ?_
  · obtain ⟨e1, e2, e3, cc, e4, e5⟩ := q1 hp
    exact ⟨gn, 0, e1, ⟨e2, e3⟩, e4.lt, fun j x hx => by rw [Nat.zero_add, e4.cell]; exact e5 j x hx⟩
  · rw [List.mem_map] at hz
    obtain ⟨y, hy, rfl⟩ := hz
    obtain ⟨i, hi⟩ := List.mem_iff_getElem?.1 hy
    obtain ⟨hl1, hl2⟩ := hzg i y hi
    obtain ⟨_, r2, _, r4, _, _, r7⟩ := q6 i (y.1, OwnJ w tS tJ y.1) y.2 (by rw [List.getElem?_map, hl1]; rfl) hl2
    exact (ih y.1 (List.mem_of_getElem? hl1) r7).more (fun b hb _ => ⟨Nat.le_trans r2 hb.1, Nat.lt_of_lt_of_le hb.2 r4⟩)
  · rw [hlen] at hp
    obtain ⟨e1, e2, e3, _, e4⟩ := q4 hp
    refine ⟨gl, 0, e1, ⟨e2, e3⟩, e4.lt, fun j z hz i u hu => ?_⟩
    rw [List.getElem?_map] at hz
    rcases hj : (l.zip ws)[j]? with _ | y
    · rw [hj] at hz; cases hz
    · rw [hj] at hz
      injection hz with hz
      subst hz
      obtain ⟨hl1, hl2⟩ := hzg j y hj
      obtain ⟨r1, _⟩ := q6 j (y.1, OwnJ w tS tJ y.1) y.2 (by rw [List.getElem?_map, hl1]; rfl) hl2
      rw [Nat.zero_add, e4.cell]
      exact r1 i u hu
end Go.Proofs.YthmojpcaagnfkaaGreatDoor
