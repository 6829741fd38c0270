/-
  The walk of the document's text of a value that may be.
-/
import Derived.Test.YtdjfoabinjfnfaaGreatDoorM09
import Derived.Test.YtdjfoabinjfnfaaGreatDoorJsQ
import Derived.Test.YtdjfoabinjfnfaaGreatDoorM03
import Derived.Test.YtdjfoabinjfnfaaGreatDoorM00
import Derived.Laws.AppendOwn
import Derived.Maps.AppendAt
import Derived.Test.YtdjfoabinjfnfaaGreatDoorM02
import Derived.Test.YtdjfoabinjfnfaaGreatDoorShelf
import Derived.Shelf.Strings.Builder1
namespace Go.Proofs.YtdjfoabinjfnfaaGreatDoor
open Go.RowKit
theorem jitems_snoc (x : List UInt8) : ∀ (xs : List (List UInt8)) (f : Bool), jitems f (xs ++ [x]) = jitems f xs ++ ((if f = true ∧ xs = [] then [] else [44]) ++ x)
  | [], f => by cases f <;> simp [jitems]
  | y :: r, f => by
    rw [List.cons_append, jitems, jitems, jitems_snoc x r false]
    simp
theorem jpairs_snoc (x : List UInt8) : ∀ (xs : List (List UInt8)) (n : List ByteArray) (f : Bool), jpairs f n (xs ++ [x]) = jpairs f n xs ++ ((if f = true ∧ xs = [] then [] else [44]) ++ (jquote (n.getD xs.length ByteArray.empty).data.toList ++ 58 :: x))
  | [], n, f => by cases f <;> cases n <;> simp [jpairs]
  | y :: r, n, f => by
    have e : (n.tail.getD r.length ByteArray.empty) = n.getD (y :: r).length ByteArray.empty := by
      cases n <;> simp
    rw [List.cons_append, jpairs, jpairs, jpairs_snoc x r n.tail false, e]
    simp
theorem jquote_len (s : List UInt8) : (jquote s).length ≤ 6 * s.length + 2 := by
  have : ∀ l : List UInt8, (l.flatMap jesc).length ≤ 6 * l.length := fun l => by
    induction l with
    | nil => simp
    | cons x r ih => have := jesc_len x; rw [List.flatMap_cons, List.length_append, List.length_cons]; omega
  have := this s
  unfold jquote
  simp only [List.length_cons, List.length_append, List.length_nil]
  omega
theorem jitems_len (c : Nat) : ∀ (l : List Jsn) (f : Bool), (∀ x ∈ l, (jtext x).length + 1 ≤ 10 * jbulk x) → (jitems f (l.map jtext)).length ≤ 10 * jbulks l
  | [], _, _ => by simp [jitems]
  | x :: r, f, h => by
    have h1 := jitems_len c r false (fun y hy => h y (by simp [hy]))
    have h2 := h x (by simp)
    have h3 : jbulks (x :: r) = jbulk x + jbulks r := by simp [jbulks]
    rw [List.map_cons, jitems, List.length_append, List.length_append, h3]
    cases f <;> simp <;> omega
def nbulk (n : List ByteArray) : Nat := (n.map fun b => b.size + 1).sum
theorem jpairs_len (c : Nat) : ∀ (l : List Jsn) (n : List ByteArray) (f : Bool), l.length ≤ n.length → (∀ x ∈ l, (jtext x).length + 1 ≤ 10 * jbulk x) → (jpairs f n (l.map jtext)).length ≤ 10 * (nbulk n + jbulks l)
  | [], n, _, _, _ => by cases n <;> simp [jpairs]
  | x :: r, [], f, hn, h => by simp at hn
  | x :: r, m :: n, f, hn, h => by
    have h1 := jpairs_len c r n false (by simpa using hn) (fun y hy => h y (by simp [hy]))
    have h2 := h x (by simp)
    have h3 : jbulks (x :: r) = jbulk x + jbulks r := by simp [jbulks]
    have h4 : nbulk (m :: n) = m.size + 1 + nbulk n := by simp [nbulk]
    have h5 := jquote_len m.data.toList
    rw [bytes_len] at h5
    rw [List.map_cons, jpairs, h3, h4]
    simp only [List.headD_cons, List.tail_cons, List.length_append, List.length_cons]
    cases f <;> simp <;> omega
theorem jtext_len (Own : List UInt8 → List UInt8 × Int) (Val : List UInt8 → Bool) : ∀ (j : Jsn), jform Own Val j = true → (jtext j).length + 1 ≤ 10 * jbulk j := by
  refine Jsn.ind fun k s n l ih hg => ?_
  rw [jtext_eq, jbulk_eq]
  have hs := bytes_len s
  unfold jtext1
  by_cases h1 : k = 1
  · rw [if_pos h1]; simp; omega
  rw [if_neg h1]
  by_cases h2 : k = 2
  · rw [if_pos h2]; simp; omega
  rw [if_neg h2]
  by_cases h3 : k = 3
  · rw [if_pos h3]; simp; omega
  rw [if_neg h3]
  by_cases h4 : k = 4
  · rw [if_pos h4, hs]; omega
  rw [if_neg h4]
  by_cases h5 : k = 5
  · rw [if_pos h5]
    have := jquote_len s.data.toList
    omega
  rw [if_neg h5]
  by_cases h7 : k = 7
  · subst h7
    rw [jf_obj] at hg
    simp only [Bool.and_eq_true, decide_eq_true_eq, List.all_eq_true] at hg
    obtain ⟨⟨⟨_, hn⟩, _⟩, ha⟩ := hg
    have := jpairs_len 0 l n true (by omega) (fun x hx => ih x hx (ha x hx))
    rw [if_pos rfl]
    unfold nbulk at this
    simp only [List.length_cons, List.length_append, List.length_nil]
    omega
  rw [if_neg h7]
  by_cases h6 : k = 6
  · subst h6
    rw [jf_arr] at hg
    simp only [Bool.and_eq_true, decide_eq_true_eq, List.all_eq_true] at hg
    obtain ⟨_, ha⟩ := hg
    have := jitems_len 0 l true (fun x hx => ih x hx (ha x hx))
    simp only [List.length_cons, List.length_append, List.length_nil]
    omega
  · rw [jf_else (by rintro (h | h | h) <;> contradiction) h4 h5 h6 h7] at hg
    cases hg
theorem jbulks_app (a b : List Jsn) : jbulks (a ++ b) = jbulks a + jbulks b := by simp [jbulks]
theorem jbulks_take (l : List Jsn) (q : Nat) : jbulks (l.take q) ≤ jbulks l := by
  have := jbulks_app (l.take q) (l.drop q)
  rw [List.take_append_drop] at this; omega
theorem jform_kids {Own Val k s n l} (h : jform Own Val ⟨k, s, n, l⟩ = true) : ∀ x ∈ l, jform Own Val x = true := by
  by_cases h1 : k = 1 ∨ k = 2 ∨ k = 3
  · rw [jf_plain h1] at h
    simp only [Bool.and_eq_true, decide_eq_true_eq] at h
    have : l = [] := List.eq_nil_of_length_eq_zero (by omega)
    subst this; intro x hx; cases hx
  by_cases h4 : k = 4
  · subst h4; rw [jf_num] at h
    simp only [Bool.and_eq_true, decide_eq_true_eq] at h
    have : l = [] := List.eq_nil_of_length_eq_zero (by omega)
    subst this; intro x hx; cases hx
  by_cases h5 : k = 5
  · subst h5; rw [jf_str] at h
    simp only [Bool.and_eq_true, decide_eq_true_eq] at h
    have : l = [] := List.eq_nil_of_length_eq_zero (by omega)
    subst this; intro x hx; cases hx
  by_cases h6 : k = 6
  · subst h6; rw [jf_arr] at h
    simp only [Bool.and_eq_true, decide_eq_true_eq, List.all_eq_true] at h
    exact h.2
  by_cases h7 : k = 7
  · subst h7; rw [jf_obj] at h
    simp only [Bool.and_eq_true, decide_eq_true_eq, List.all_eq_true] at h
    exact h.2
  · rw [jf_else h1 h4 h5 h6 h7] at h; cases h
theorem jform_kinds {Own Val k s n l} (h : jform Own Val ⟨k, s, n, l⟩ = true) : k = 1 ∨ k = 2 ∨ k = 3 ∨ k = 4 ∨ k = 5 ∨ k = 6 ∨ (k = 7 ∧ n.length = l.length) := by
  by_cases h1 : k = 1 ∨ k = 2 ∨ k = 3
  · rcases h1 with h | h | h <;> simp [h]
  by_cases h4 : k = 4
  · simp [h4]
  by_cases h5 : k = 5
  · simp [h5]
  by_cases h6 : k = 6
  · simp [h6]
  by_cases h7 : k = 7
  · subst h7; rw [jf_obj] at h
    simp only [Bool.and_eq_true, decide_eq_true_eq, List.all_eq_true] at h
    have := h.1.1.2
    simp [this]
  · rw [jf_else h1 h4 h5 h6 h7] at h; cases h
def Box (w : World) (k : Int) (s : ByteArray) (vn vl : Value) (W : World) : Prop := Cel W w.heap.size 25 #[.int .u8 k, .string s, vn, vl] ∧ Below w.heap.size w W
theorem map_take_snoc {l : List Jsn} {q : Nat} {x : Jsn} (h : l[q]? = some x) : (l.take (q + 1)).map jtext = (l.take q).map jtext ++ [jtext x] := by
  rw [List.take_add_one, h]; simp
theorem take_nil_iff {l : List Jsn} {q : Nat} (hq : q < l.length) : ((l.take q).map jtext = []) ↔ q = 0 := by
  rw [List.map_eq_nil_iff, List.take_eq_nil_iff]
  constructor
  · rintro (h | h)
    · exact h
    · subst h; simp at hq
  · exact .inl
def NamO (w : World) (tS : TypeId) (lo hi gn : Nat) (vn : Value) (ns : List ByteArray) : Prop :=
  ∃ A c, vn = .slice A ns.length c ∧ (0 < ns.length → A = some ⟨gn, 0, none⟩ ∧ lo ≤ gn ∧ gn < hi ∧ ∃ cs : Array Value, Cel w gn tS cs ∧ ∀ (j : Nat) (x : ByteArray), ns[j]? = some x → cs[j]? = some (Value.string x))
abbrev OE := Value × Value × Nat × Nat
def KidO (gl gn lo hi : Nat) (cs : Array Value) (l : List (Jsn × (Nat → Nat → Value → Value → Prop))) (ws : List OE) : Prop :=
  ws.length = l.length ∧
  (∀ (i : Nat) x u, l[i]? = some x → ws[i]? = some u → (∀ (q : Nat) (v : Value), (encJ (x.1, u.1, u.2.1))[q]? = some v → cs[i * 4 + q]? = some v) ∧ lo ≤ u.2.2.1 ∧ u.2.2.1 ≤ u.2.2.2 ∧ u.2.2.2 ≤ hi ∧
    ¬ (u.2.2.1 ≤ gl ∧ gl < u.2.2.2) ∧ ¬ (u.2.2.1 ≤ gn ∧ gn < u.2.2.2) ∧ x.2 u.2.2.1 u.2.2.2 u.1 u.2.1) ∧
  (∀ (i j : Nat) (u v : OE), i < j → ws[i]? = some u → ws[j]? = some v → u.2.2.2 ≤ v.2.2.1)
def OwnJ (w : World) (tS tJ : TypeId) : Jsn → Nat → Nat → Value → Value → Prop := Jsn.para fun k _ ns l lo hi vn vl =>
  0 ≤ k ∧ k ≤ 255 ∧ ∃ (gn gl : Nat) (cs : Array Value) (A : Option Addr) (c : Nat) (ws : List OE),
    NamO w tS lo hi gn vn ns ∧ vl = .slice A l.length c ∧ (0 < l.length → A = some ⟨gl, 0, none⟩ ∧ lo ≤ gl ∧ gl < hi ∧ gl ≠ gn ∧ Cel w gl tJ cs) ∧ KidO gl gn lo hi cs l ws
theorem OwnJ_eq (w : World) (tS tJ : TypeId) (k : Int) (s : ByteArray) (ns : List ByteArray) (l : List Jsn) (lo hi : Nat) (vn vl : Value) : OwnJ w tS tJ ⟨k, s, ns, l⟩ lo hi vn vl =
    (0 ≤ k ∧ k ≤ 255 ∧ ∃ (gn gl : Nat) (cs : Array Value) (A : Option Addr) (c : Nat) (ws : List OE),
      NamO w tS lo hi gn vn ns ∧ vl = .slice A l.length c ∧ (0 < l.length → A = some ⟨gl, 0, none⟩ ∧ lo ≤ gl ∧ gl < hi ∧ gl ≠ gn ∧ Cel w gl tJ cs) ∧ KidO gl gn lo hi cs (l.map fun x => (x, OwnJ w tS tJ x)) ws) := by
  conv => lhs; unfold OwnJ
  rw [Jsn.para_eq]
  simp only [List.length_map]
  rfl
theorem NamO.keep {w w' : World} {tS : TypeId} {lo hi lo' hi' gn : Nat} {vn : Value} {ns : List ByteArray} (h : NamO w tS lo hi gn vn ns) (hk : ∀ b, lo ≤ b → b < hi → w'.heap[b]? = w.heap[b]?) (h1 : lo' ≤ lo) (h2 : hi ≤ hi') : NamO w' tS lo' hi' gn vn ns := by
  obtain ⟨A, c, rfl, q⟩ := h
  refine ⟨A, c, rfl, fun hp => ?_⟩
  obtain ⟨e, q1, q2, cs, q3, q4⟩ := q hp
  exact ⟨e, by omega, by omega, cs, (hk gn q1 q2).trans q3, q4⟩
theorem KidO.imp {gl gn lo hi lo' hi' : Nat} {cs : Array Value} {l l' : List (Jsn × (Nat → Nat → Value → Value → Prop))} {ws : List OE} (h : KidO gl gn lo hi cs l ws) (h1 : lo' ≤ lo) (h2 : hi ≤ hi') (hl : l'.length = l.length)
    (hx : ∀ (i : Nat) x x', l[i]? = some x → l'[i]? = some x' → x'.1 = x.1 ∧ ∀ a b vn vl, lo ≤ a → b ≤ hi → x.2 a b vn vl → x'.2 a b vn vl) : KidO gl gn lo' hi' cs l' ws := by
  obtain ⟨k1, k2, k3⟩ := h
  refine ⟨by omega, fun i x' u hx' hu => ?_, k3⟩
  have hi' : i < l'.length := (List.getElem?_eq_some_iff.1 hx').1
  have hxi : l[i]? = some (l[i]'(by omega)) := List.getElem?_eq_getElem (by omega)
  obtain ⟨q1, q2, q3, q4, q5, q6, q7⟩ := k2 i _ u hxi hu
  obtain ⟨e1, e2⟩ := hx i _ _ hxi hx'
  exact ⟨by rw [e1]; exact q1, by omega, q3, by omega, q5, q6, e2 _ _ _ _ q2 q4 q7⟩
theorem OwnJ.keep {w w' : World} {tS tJ : TypeId} : ∀ (j : Jsn) {lo hi lo' hi' : Nat} {vn vl : Value}, OwnJ w tS tJ j lo hi vn vl → (∀ b, lo ≤ b → b < hi → w'.heap[b]? = w.heap[b]?) → lo' ≤ lo → hi ≤ hi' → OwnJ w' tS tJ j lo' hi' vn vl := by
  refine Jsn.ind fun k s n l ih => ?_
  intro lo hi lo' hi' vn vl h hk h1 h2
  rw [OwnJ_eq] at h ⊢
  obtain ⟨k0, k1, gn, gl, cs, A, c, ws, q1, q2, q4, q5⟩ := h
  refine ⟨k0, k1, gn, gl, cs, A, c, ws, q1.keep hk h1 h2, q2, fun hp => ?_, q5.imp h1 h2 (by simp) fun i x x' hx hx' => ?_⟩
  · obtain ⟨e1, e2, e3, e0, e4⟩ := q4 hp
    exact ⟨e1, by omega, by omega, e0, (hk gl e2 e3).trans e4⟩
  · rw [List.getElem?_map] at hx hx'
    rcases hj : l[i]? with _ | y
    · rw [hj] at hx; cases hx
    · rw [hj] at hx hx'
      injection hx with hx
      injection hx' with hx'
      subst hx
      subst hx'
      refine ⟨rfl, fun a b vn vl ha hb hP => ?_⟩
      exact ih y (List.mem_of_getElem? hj) hP (fun c h3 h4 => hk c (by omega) (by omega)) (Nat.le_refl _) (Nat.le_refl _)
theorem OwnJ.jv {w : World} {tS tJ : TypeId} : ∀ (j : Jsn) {lo hi : Nat} {vn vl : Value}, OwnJ w tS tJ j lo hi vn vl → JV w (fun b => lo ≤ b ∧ b < hi) j vn vl := by
  refine Jsn.ind fun k s n l ih => ?_
  intro lo hi vn vl h
  rw [OwnJ_eq] at h
  obtain ⟨k0, k1, gn, gl, cs, A, c, ws, ⟨An, cn, rfl, q1⟩, rfl, q4, q5, q6, _⟩ := h
  rw [List.length_map] at q5
  have hzl : (l.zip ws).length = l.length := by rw [List.length_zip]; omega
  have hzg : ∀ (i : Nat) (z : Jsn × OE), (l.zip ws)[i]? = some z → l[i]? = some z.1 ∧ ws[i]? = some z.2 := fun i z h => List.getElem?_zip_eq_some.1 h
  have e : ((l.zip ws).map fun z => ((z.1, z.2.1, z.2.2.1) : JE)).map (·.1) = l := by
    rw [List.map_map]
    show (l.zip ws).map (fun z => z.1) = l
    rw [show (fun z : Jsn × OE => z.1) = Prod.fst from rfl, List.map_fst_zip (by omega)]
  have hlen : ((l.zip ws).map fun z => ((z.1, z.2.1, z.2.2.1) : JE)).length = l.length := by rw [List.length_map, hzl]
  rw [← hlen]
  refine JV.of_elems k0 k1 ⟨An, cn, rfl, fun hp => ?_⟩ e (fun z hz => ?_) fun hp => ?_
  · obtain ⟨e1, e2, e3, cc, e4, e5⟩ := q1 hp
    exact ⟨gn, 0, e1, ⟨e2, e3⟩, e4.lt, fun j x hx => by rw [Nat.zero_add, e4.cell]; exact e5 j x hx⟩
  · rw [List.mem_map] at hz
    obtain ⟨y, hy, rfl⟩ := hz
    obtain ⟨i, hi⟩ := List.mem_iff_getElem?.1 hy
    obtain ⟨hl1, hl2⟩ := hzg i y hi
    obtain ⟨_, r2, _, r4, _, _, r7⟩ := q6 i (y.1, OwnJ w tS tJ y.1) y.2 (by rw [List.getElem?_map, hl1]; rfl) hl2
    exact (ih y.1 (List.mem_of_getElem? hl1) r7).more (fun b hb _ => ⟨Nat.le_trans r2 hb.1, Nat.lt_of_lt_of_le hb.2 r4⟩)
  · rw [hlen] at hp
    obtain ⟨e1, e2, e3, _, e4⟩ := q4 hp
    refine ⟨gl, 0, e1, ⟨e2, e3⟩, e4.lt, fun j z hz i u hu => ?_⟩
    rw [List.getElem?_map] at hz
    rcases hj : (l.zip ws)[j]? with _ | y
    · rw [hj] at hz; cases hz
    · rw [hj] at hz
      injection hz with hz
      subst hz
      obtain ⟨hl1, hl2⟩ := hzg j y hj
      obtain ⟨r1, _⟩ := q6 j (y.1, OwnJ w tS tJ y.1) y.2 (by rw [List.getElem?_map, hl1]; rfl) hl2
      rw [Nat.zero_add, e4.cell]
      exact r1 i u hu
def rowCells (l : List Jsn) (ws : List OE) : List Value := (l.zip ws).flatMap fun p => encJ (p.1, p.2.1, p.2.2.1)
theorem rowCells_snoc {l : List Jsn} {ws : List OE} (h : ws.length = l.length) (x : Jsn) (u : OE) : rowCells (l ++ [x]) (ws ++ [u]) = rowCells l ws ++ encJ (x, u.1, u.2.1) := by
  unfold rowCells
  rw [List.zip_append h.symm]
  simp
theorem rowCells_at : ∀ (l : List Jsn) (ws : List OE) (i : Nat) (x : Jsn) (u : OE), l[i]? = some x → ws[i]? = some u → ∀ (q : Nat) (v : Value), (encJ (x, u.1, u.2.1))[q]? = some v → (rowCells l ws)[i * 4 + q]? = some v
  | [], _, _, _, _, h, _, _, _, _ => by simp at h
  | _ :: _, [], _, _, _, _, h, _, _, _ => by simp at h
  | y :: l, z :: ws, 0, x, u, h1, h2, q, v, h3 => by
    simp at h1 h2; subst h1; subst h2
    have hq : q < 4 := (List.getElem?_eq_some_iff.1 h3).1
    have : rowCells (y :: l) (z :: ws) = encJ (y, z.1, z.2.1) ++ rowCells l ws := rfl
    rw [this, Nat.zero_mul, Nat.zero_add, List.getElem?_append_left hq]
    exact h3
  | y :: l, z :: ws, i + 1, x, u, h1, h2, q, v, h3 => by
    have := rowCells_at l ws i x u (by simpa using h1) (by simpa using h2) q v h3
    have e : rowCells (y :: l) (z :: ws) = encJ (y, z.1, z.2.1) ++ rowCells l ws := rfl
    rw [e, List.getElem?_append_right (by show 4 ≤ _; omega)]
    show (rowCells l ws)[(i + 1) * 4 + q - 4]? = some v
    rw [show (i + 1) * 4 + q - 4 = i * 4 + q by omega]
    exact this
def RowW (w : World) (B : Nat) (tS tJ : TypeId) (v : Value) (l : List Jsn) (ws : List OE) : Prop := ws.length = l.length ∧ w.ownsRow B tJ 4 v l.length (rowCells l ws) ∧
  (∀ (i : Nat) x u, l[i]? = some x → ws[i]? = some u → B ≤ u.2.2.1 ∧ u.2.2.1 ≤ u.2.2.2 ∧ u.2.2.2 ≤ w.heap.size ∧ (∀ g, v.ownBlock = some g → ¬ (u.2.2.1 ≤ g ∧ g < u.2.2.2)) ∧ OwnJ w tS tJ x u.2.2.1 u.2.2.2 u.1 u.2.1) ∧
  (∀ (i j : Nat) (u z : OE), i < j → ws[i]? = some u → ws[j]? = some z → u.2.2.2 ≤ z.2.2.1)
def RowO (w : World) (B : Nat) (tS tJ : TypeId) (v : Value) (l : List Jsn) : Prop := ∃ ws : List OE, RowW w B tS tJ v l ws
theorem RowO.nil (w : World) (B : Nat) (tS tJ : TypeId) : RowO w B tS tJ (.slice none 0 0) [] :=
  ⟨[], rfl, World.ownsRow_nil _ _ _ _, (fun i x u h => by simp at h), (fun i j u z _ h => by simp at h)⟩
theorem RowO.below {w w' : World} {B : Nat} {tS tJ : TypeId} {v : Value} {l : List Jsn} (h : RowO w B tS tJ v l) (hb : Below w.heap.size w w') : RowO w' B tS tJ v l := by
  obtain ⟨ws, h1, h2, h3, h4⟩ := h
  refine ⟨ws, h1, h2.kept (row := none) ⟨hb.os, hb.tape, hb.output, hb.size, fun k hk _ => hb.block k hk⟩ (by rcases hv : v.ownBlock with _ | g <;> simp), fun i x u hx hu => ?_, h4⟩
  obtain ⟨q1, q2, q3, q4, q5⟩ := h3 i x u hx hu
  exact ⟨q1, q2, Nat.le_trans q3 hb.size, q4, OwnJ.keep x q5 (fun b _ hb2 => hb.block b (by omega)) (Nat.le_refl _) (Nat.le_refl _)⟩
theorem RowW.snoc {wr W1 w2 w4 : World} {B : Nat} {tS tJ : TypeId} {v v' : Value} {l : List Jsn} {ws : List OE} {x : Jsn} {vn vl : Value} (h : RowW wr B tS tJ v l ws) (hs : wr.heap.size ≤ W1.heap.size) (h12 : Below wr.heap.size wr w2) (hs2 : W1.heap.size ≤ w2.heap.size) (hB : B ≤ wr.heap.size)
    (hx : OwnJ w2 tS tJ x W1.heap.size w2.heap.size vn vl) {cs3 : Array Value}
    (hown : w4.ownsRow B tJ 4 v' (l.length + 1) (rowCells l ws ++ encJ (x, vn, vl)))
    (hgr : (w2.alloc (.cells cs3 tJ)).grownBy w4 v.ownBlock) (hbl : v'.ownBlock = v.ownBlock ∨ v'.ownBlock = some (w2.alloc (.cells cs3 tJ)).heap.size) : RowW w4 B tS tJ v' (l ++ [x]) (ws ++ [(vn, vl, W1.heap.size, w2.heap.size)]) := by
  have hvl : ∀ g, v.ownBlock = some g → B ≤ g ∧ g < wr.heap.size := h.2.1.lt
  obtain ⟨h1, h20, h30, h4⟩ := h
  have h2 : w2.ownsRow B tJ 4 v l.length (rowCells l ws) := h20.kept (row := none) ⟨h12.os, h12.tape, h12.output, h12.size, fun k hk _ => h12.block k hk⟩ (by rcases hv : v.ownBlock with _ | g <;> simp)
  have h12s := h12.size
  have h3 : ∀ (i : Nat) x u, l[i]? = some x → ws[i]? = some u → B ≤ u.2.2.1 ∧ u.2.2.1 ≤ u.2.2.2 ∧ u.2.2.2 ≤ wr.heap.size ∧ (∀ g, v.ownBlock = some g → ¬ (u.2.2.1 ≤ g ∧ g < u.2.2.2)) ∧ OwnJ w2 tS tJ x u.2.2.1 u.2.2.2 u.1 u.2.1 := fun i x u hx hu => by
    obtain ⟨q1, q2, q3, q4, q5⟩ := h30 i x u hx hu
    exact ⟨q1, q2, q3, q4, OwnJ.keep x q5 (fun b _ hb2 => h12.block b (by omega)) (Nat.le_refl _) (Nat.le_refl _)⟩
  have hgs := hgr.size
  simp at hgs hbl
  have hkeep : ∀ (y : Jsn) (a b : Nat) (yn yl : Value), OwnJ w2 tS tJ y a b yn yl → b ≤ w2.heap.size → (∀ g, v.ownBlock = some g → ¬ (a ≤ g ∧ g < b)) → OwnJ w4 tS tJ y a b yn yl := fun y a b yn yl hy hb hg =>
    OwnJ.keep y hy (fun c h5 h6 => (hgr.block c (by simp; omega) (fun e => hg c e.symm ⟨h5, h6⟩)).trans (Below.heap_alloc w2 _ c (by omega))) (Nat.le_refl _) (Nat.le_refl _)
  refine ⟨by simp [h1], ?_, fun i y u hy hu => ?_, fun i j u z hij hu hz => ?_⟩
  · rw [rowCells_snoc h1, List.length_append]
    exact hown
  · have hvb : ∀ (a b : Nat), b ≤ w2.heap.size → (∀ g, v.ownBlock = some g → ¬ (a ≤ g ∧ g < b)) → ∀ g, v'.ownBlock = some g → ¬ (a ≤ g ∧ g < b) := fun a b hb hg g hg' => by
      rcases hbl with e | e
      · exact hg g (by rw [← e]; exact hg')
      · rw [e] at hg'; injection hg' with hg'; omega
    by_cases hi : i < l.length
    · rw [List.getElem?_append_left hi] at hy
      rw [List.getElem?_append_left (by omega)] at hu
      obtain ⟨q1, q2, q3, q4, q5⟩ := h3 i y u hy hu
      exact ⟨q1, q2, by omega, hvb _ _ (by omega) q4, hkeep y _ _ _ _ q5 (by omega) q4⟩
    · rw [List.getElem?_append_right (by omega)] at hy
      rw [List.getElem?_append_right (by omega)] at hu
      have hi0 : i - l.length = 0 := by
        have := (List.getElem?_eq_some_iff.1 hy).1
        simp at this; omega
      rw [h1, hi0] at hu
      rw [hi0] at hy
      simp at hy hu
      subst hy
      subst hu
      have hn : ∀ g, v.ownBlock = some g → ¬ (W1.heap.size ≤ g ∧ g < w2.heap.size) := fun g hg => by have := hvl g hg; omega
      exact ⟨by dsimp only; omega, hs2, by dsimp only; omega, hvb _ _ (Nat.le_refl _) hn, hkeep _ _ _ _ _ hx (Nat.le_refl _) hn⟩
  · have hjl : j < (ws ++ [(vn, vl, W1.heap.size, w2.heap.size)]).length := (List.getElem?_eq_some_iff.1 hz).1
    simp at hjl
    rw [List.getElem?_append_left (by omega)] at hu
    by_cases hj : j < ws.length
    · rw [List.getElem?_append_left hj] at hz
      exact h4 i j u z hij hu hz
    · rw [List.getElem?_append_right (by omega), show j - ws.length = 0 by omega] at hz
      simp at hz
      subst hz
      have hil : i < l.length := by omega
      obtain ⟨_, _, q3, _⟩ := h3 i _ u (List.getElem?_eq_getElem hil) hu
      dsimp only
      omega
theorem OwnJ.forms {w : World} {tS tJ : TypeId} {j : Jsn} {lo hi : Nat} {vn vl : Value} (h : OwnJ w tS tJ j lo hi vn vl) : ∃ A n c A' n' c', vn = .slice A n c ∧ vl = .slice A' n' c' := by
  obtain ⟨k, s, n, l⟩ := j; rw [OwnJ_eq] at h
  obtain ⟨_, _, gn, gl, cs, A, c, ws, ⟨A2, c2, h1, _⟩, h2, _⟩ := h
  exact ⟨A2, _, c2, A, _, c, h1, h2⟩
theorem RowO.kids {w : World} {B : Nat} {tS tJ : TypeId} {v : Value} {l : List Jsn} (h : RowO w B tS tJ v l) :
    ∃ (gl : Nat) (cs : Array Value) (A : Option Addr) (c : Nat) (ws : List OE), v = .slice A l.length c ∧ (0 < l.length → A = some ⟨gl, 0, none⟩ ∧ B ≤ gl ∧ gl < w.heap.size ∧ Cel w gl tJ cs) ∧ ∀ gn, w.heap.size ≤ gn → KidO gl gn B w.heap.size cs (l.map fun x => (x, OwnJ w tS tJ x)) ws := by
  obtain ⟨ws, h1, h2, h3, h4⟩ := h
  rcases h2.2 with ⟨rfl, h0⟩ | ⟨g, cap, cur, rfl, hg, hh, hnc, hcm, hcs, htk⟩
  · have : l = [] := List.eq_nil_of_length_eq_zero h0
    subst this
    have hw : ws = [] := List.eq_nil_of_length_eq_zero (by rw [h1]; rfl)
    subst hw
    exact ⟨0, #[], none, 0, [], rfl, (fun h => by simp at h), fun gn _ => ⟨rfl, (fun i x u h => by simp at h), (fun i j u v _ h => by simp at h)⟩⟩
  · refine ⟨g, cur, some ⟨g, 0, none⟩, cap, ws, rfl, fun _ => ⟨rfl, hg, (Array.getElem?_eq_some_iff.1 hh).1, hh⟩, fun gn hgn => ⟨by simp [h1], fun i x u hx hu => ?_, h4⟩⟩
    rw [List.getElem?_map] at hx
    rcases hj : l[i]? with _ | y
    · rw [hj] at hx; cases hx
    · rw [hj] at hx
      injection hx with hx
      subst hx
      obtain ⟨q1, q2, q3, q4, q5⟩ := h3 i y u hj hu
      refine ⟨fun q v hv => ?_, q1, q2, q3, q4 g rfl, by omega, q5⟩
      have h5 := rowCells_at l ws i y u hj hu q v hv
      rw [← htk, List.getElem?_take] at h5
      split at h5
      · rwa [Array.getElem?_toList] at h5
      · cases h5
theorem mk_own {wr w2 : World} {B gn : Nat} {tS tJ : TypeId} {v vn : Value} {k : Int} {s : ByteArray} {ns : List ByteArray} {l : List Jsn} (hk0 : 0 ≤ k) (hk1 : k ≤ 255) (h : RowO wr B tS tJ v l) (hb : Below wr.heap.size wr w2) (hB : B ≤ wr.heap.size) (hg : wr.heap.size ≤ gn)
    (hn : NamO w2 tS wr.heap.size w2.heap.size gn vn ns) : OwnJ w2 tS tJ ⟨k, s, ns, l⟩ B w2.heap.size vn v := by
  obtain ⟨gl, cs, A, c, ws, hv, h1, h2⟩ := h.kids
  rw [OwnJ_eq]
  refine ⟨hk0, hk1, gn, gl, cs, A, c, ws, hn.keep (fun _ _ _ => rfl) hB (Nat.le_refl _), hv, fun hp => ?_, (h2 gn hg).imp (Nat.le_refl _) hb.size (by simp) fun i x x' hx hx' => ?_⟩
  · obtain ⟨q1, q2, q3, q4⟩ := h1 hp
    exact ⟨q1, q2, Nat.lt_of_lt_of_le q3 hb.size, by omega, q4.below hb q3⟩
  · rw [List.getElem?_map] at hx hx'
    rcases hj : l[i]? with _ | y
    · rw [hj] at hx; cases hx
    · rw [hj] at hx hx'
      injection hx with hx
      injection hx' with hx'
      subst hx
      subst hx'
      exact ⟨rfl, fun a b vn vl ha hb2 hP => OwnJ.keep y hP (fun c h3 h4 => hb.block c (by omega)) (Nat.le_refl _) (Nat.le_refl _)⟩
theorem eqStr_any (X Y : Nat → Prop) (v u : Value) (L M : List ByteArray) (w : World) (hv : StrL w X v L) (hu : StrL w Y u M) (hl : L.length ≤ 1000000000000000) (hm : M.length ≤ 1000000000000000) :
    Calls Tryz.prog 155 #[v, u] w fun e w' => e = .returned (.bool (decide (L = M))) ∧ Below w.heap.size w w' := by
  obtain ⟨A, c, rfl, h1⟩ := hv
  obtain ⟨B, d, rfl, h2⟩ := hu
  by_cases hlen : L.length = M.length
  case neg =>
    have := Tryz.slices_Equal_string_lens A B L.length c M.length d w hlen
    have hne : decide (L = M) = false := decide_eq_false (fun h => hlen (by rw [h]))
    rw [hne]
    exact this.mono fun e w' ⟨h, h'⟩ => ⟨h, by subst h'; exact Below.refl _ _⟩
  by_cases h0 : L.length = 0
  · have := Tryz.slices_Equal_string_empty A B c M.length d w (by omega)
    have e1 : L = [] := List.eq_nil_of_length_eq_zero h0
    have e2 : M = [] := List.eq_nil_of_length_eq_zero (by omega)
    subst e1
    subst e2
    exact this.mono fun e w' ⟨h, h'⟩ => ⟨h, by subst h'; exact Below.refl _ _⟩
  · obtain ⟨g1, o1, rfl, _, _, q1⟩ := h1 (by omega)
    obtain ⟨g2, o2, rfl, _, _, q2⟩ := h2 (by omega)
    have := Tryz.slices_Equal_string g1 o1 L.length c g2 o2 M.length d L M w (Nat.le_refl _) (Nat.le_refl _) (by omega) (by omega) (fun j hj => by rw [q1 j _ (List.getElem?_eq_getElem hj)]; simp [List.getD, hj]) (fun j hj => by rw [q2 j _ (List.getElem?_eq_getElem hj)]; simp [List.getD, hj])
    rw [List.take_of_length_le (Nat.le_refl _), List.take_of_length_le (Nat.le_refl _)] at this
    exact this.mono fun e w' ⟨h, q, h'⟩ => ⟨h, by subst h'; exact bel_drewN (Below.refl _ _) q⟩
def PredJ2 (g : Nat) (w : World) (X Y : Nat → Prop) (l m : List Jsn) : Prop :=
  ∀ (W : World) (x y : Jsn) (vn vl un ul : Value), x ∈ l → y ∈ m → Below w.heap.size w W → JV W X x vn vl → JV W Y y un ul →
    Calls Tryz.prog g #[.agg #[.int .u8 x.kind, .string x.text, vn, vl], .agg #[.int .u8 y.kind, .string y.text, un, ul]] W fun e w' => e = .returned (.bool (jsame x y)) ∧ Below W.heap.size W w'
set_option maxHeartbeats 2000000 in
theorem eqFuncJ_any (g : Nat) (eg : ∀ args w, (callFunc g args).run Tryz.prog w = .ok (.enter g args) w) (B1 B2 : Option Addr) (d1 d2 : Nat) (zs ys : List JE) (X Y : Nat → Prop) (w : World) (hl : zs.length ≤ 1000000000000000) (_hl2 : ys.length ≤ 1000000000000000)
    (h2 : ∀ z ∈ zs, JV w X z.1 z.2.1 z.2.2) (h3 : 0 < zs.length → ∃ g o, B1 = some ⟨g, o, none⟩ ∧ X g ∧ g < w.heap.size ∧ ∀ j z, zs[j]? = some z → ∀ (i : Nat) (u : Value), (encJ z)[i]? = some u → w.cell? ⟨g, o + j * 4 + i, none⟩ = some u)
    (h4 : ∀ z ∈ ys, JV w Y z.1 z.2.1 z.2.2) (h5 : 0 < ys.length → ∃ g o, B2 = some ⟨g, o, none⟩ ∧ Y g ∧ g < w.heap.size ∧ ∀ j z, ys[j]? = some z → ∀ (i : Nat) (u : Value), (encJ z)[i]? = some u → w.cell? ⟨g, o + j * 4 + i, none⟩ = some u)
    (hp : PredJ2 g w X Y (zs.map (·.1)) (ys.map (·.1))) :
    Calls Tryz.prog 156 #[.slice B1 zs.length d1, .slice B2 ys.length d2, .func (.func g) #[] #[]] w fun e w' => e = .returned (.bool (decide (zs.length = ys.length) && ((zs.map (·.1)).zip (ys.map (·.1))).all fun p => jsame p.1 p.2)) ∧ Below w.heap.size w w' := by
  by_cases hll : zs.length = ys.length
  case neg =>
    have hd : decide (zs.length = ys.length) = false := decide_eq_false hll
    rw [hd, Bool.false_and]
    have hk1 : ((zs.length : Int) == (ys.length : Int)) = false := beq_eq_false_iff_ne.2 (by omega)
    have hk2 : ((zs.length : Int) != (ys.length : Int)) = true := by rw [bne_iff_ne]; omega
    clear h2 h3 h4 h5 hp hd eg
    go_enter Tryz.func156, Tryz.ntmps156
    go_wp2_with fail
    go_ret
    exact ⟨rfl, Below.refl _ _⟩
  have hd : decide (zs.length = ys.length) = true := decide_eq_true hll
  rw [hd, Bool.true_and]
  have hw1 := Lib.hid (fun (wr : World) (i : Nat) (hB : Below w.heap.size w wr) (hi : i < zs.length) => JV.at h2 h3 hB hi)
  have hw2 := Lib.hid (fun (wr : World) (i : Nat) (hB : Below w.heap.size w wr) (hi : i < ys.length) => JV.at h4 h5 hB hi)
  have hfin := sameTo_full zs ys
  have hff := fun q => sameTo_false (zs := zs) (ys := ys) (q := q)
  obtain ⟨J, hJ⟩ : ∃ J, ((zs.map (·.1)).zip (ys.map (·.1))).all (fun p => jsame p.1 p.2) = J := ⟨_, rfl⟩
  rw [hJ] at hfin hff ⊢
  rw [← hll] at hfin _hl2 ⊢
  rw [Nat.max_self] at hfin
  clear hJ h2 h3 h4 h5 hd
  replace hfin := Lib.hid hfin
  replace hff := Lib.hid hff
  replace hp := Lib.hid hp
  replace hll := Lib.hid hll
  go_enter Tryz.func156, Tryz.ntmps156
  go_wp2_with fail
  go_loopw [17] (fun i wr => ∃ q : Nat, q ≤ zs.length ∧ i = .int .i64 q ∧ sameTo zs ys q = true ∧ Below w.heap.size w wr) (fun i _ => zs.length - (intOf i).toNat)
  case atStart => exact ⟨0, Nat.zero_le _, rfl, rfl, Below.refl _ _⟩
  case round =>
    obtain ⟨q, hq, rfl, hsm, hB⟩ := hrel
    by_cases hlt : q < zs.length
    · have hlt' : q < ys.length := by rw [← hll.out]; exact hlt
      obtain ⟨g1, o1, ⟨x, vx, vy⟩, hzq, hzm, rfl, hVz, a0, a1, a2, a3⟩ := hw1.out wr q hB hlt
      have hBa := hB.alloc hB.size (.cells #[.int .u8 x.kind, .string x.text, vx, vy] 25)
      obtain ⟨g2, o2, ⟨x', ux, uy⟩, hyq, hym, rfl, hUy, b0, b1, b2, b3⟩ := hw2.out _ q hBa hlt'
      dsimp only at hVz a0 a1 a2 a3 hUy b0 b1 b2 b3
      obtain ⟨Ax, nx, cx, Ay, ny, cy, rfl, rfl⟩ := hVz.forms
      obtain ⟨Bx, mx, ex, By, my, ey, rfl, rfl⟩ := hUy.forms
      have hstep := sameTo_step hzq hyq
      rw [hsm, Bool.true_and] at hstep
      have hbs := hB.size
      have hBb := hBa.alloc (by simp; omega) (.cells #[.int .u8 x'.kind, .string x'.text, .slice Bx mx ex, .slice By my ey] 25)
      have hcall := hp.out _ x x' _ _ _ _ (List.mem_map_of_mem (f := (·.1)) hzm) (List.mem_map_of_mem (f := (·.1)) hym) hBb ((hVz.alloc _).alloc _) (hUy.alloc _)
      obtain ⟨r, hr⟩ : ∃ r, jsame x x' = r := ⟨_, rfl⟩
      dsimp only at hstep
      rw [hr] at hstep hcall
      have hfq := hff.out (q + 1)
      rw [hstep] at hfq
      clear hB hBa hVz hUy hzq hzm hyq hym hw1 hw2 hp hsm hr hff hfin
      replace hcall := Lib.hid hcall
      replace hstep := Lib.hid hstep
      replace hfq := Lib.hid hfq
      replace hBb := Lib.hid hBb
      go_wp2_with fail
      refine hcall.out.mono ?_
      rintro e w1 ⟨rfl, hB1⟩
      have hB2 := hBb.out.trans (hB1.mono (by simp; omega))
      clear hcall hBb hB1 a0 a1 a2 a3 b0 b1 b2 b3
      replace hB2 := Lib.hid hB2
      cases r
      · have hJf : J = false := hfq.out rfl
        subst hJf
        clear hfq hstep
        go_wp2_with fail
        go_ret
        exact ⟨rfl, hB2.out⟩
      · clear hfq
        go_wp2_with fail
        go_roundw
        case rel => exact ⟨q + 1, by omega, by go_num, hstep.out, hB2.out⟩
        case measure => simp [intOf]; omega
    · obtain rfl : q = zs.length := by omega
      have hJt : J = true := by rw [← hfin.out]; exact hsm
      subst hJt
      clear hw1 hw2 hp hsm hff hfin
      replace hB := Lib.hid hB
      go_wp2_with fail
      go_ret
      exact ⟨rfl, hB.out⟩
theorem jl_append_run {P : Program} {w w' : World} {ops : Array Oper} {rest : List Oper} {o : Oper} {a : Act} {Q : Exit → Act → World → Prop} (hw : Region.wanted o (yielded ops a.tmps) = true) (s x : Operand) (t1 t2 : TypeId)
    (hop : o.op = Op.call { callee := Callee.builtin Builtin.append, args := #[s, x], argTypes := #[t1, t2] }) (vs vx v : Value) (hs : a.eval s = vs) (hx : a.eval x = vx) (hrun : (Builtin.append_ #[t1, t2] o.type #[vs, vx]).run P w = .ok v w')
    (h : wpList P ops Q rest (a.put o.dst v) w') : wpList P ops Q (o :: rest) a w :=
  wpList_step fun K hK => by
    rw [if_pos hw]
    unfold Oper.wp
    simp [execOp, hop, resolve, invoke, builtin, hs, hx, hrun, Result.andThen]
    exact hK _ _ h
theorem infoJ : (Tryz.prog.info? 25).map (fun i => (i.zero, i.size, i.bytes)) = some (some (.agg #[.int .u8 0, .string ByteArray.empty, .slice none 0 0, .slice none 0 0]), 4, 72) := by kernel_rfl
def CloneEnd (L : List ByteArray) (w : World) (e : Ending) (w' : World) : Prop := ∃ v' gn, e = .returned v' ∧ w.heap.size ≤ gn ∧ NamO w' 9 w.heap.size w'.heap.size gn v' L ∧ Below w.heap.size w w'
theorem own_nam {w : World} {B : Nat} {v : Value} {L : List ByteArray} (h : w.ownsRow B 9 1 v L.length (L.map Value.string)) : ∃ gn, B ≤ gn ∧ NamO w 9 B w.heap.size gn v L := by
  rcases h.2 with ⟨rfl, h0⟩ | ⟨g, cap, cur, rfl, hg, hh, hnc, hcm, hcs, htk⟩
  · have : L = [] := List.eq_nil_of_length_eq_zero h0
    subst this
    exact ⟨B, Nat.le_refl _, none, 0, rfl, fun h => by simp at h⟩
  · refine ⟨g, hg, some ⟨g, 0, none⟩, cap, rfl, fun _ => ⟨rfl, hg, (Array.getElem?_eq_some_iff.1 hh).1, cur, hh, fun j x hx => ?_⟩⟩
    have h5 : (L.map Value.string)[j]? = some (.string x) := by rw [List.getElem?_map, hx]; rfl
    rw [← htk, List.getElem?_take] at h5
    split at h5
    · rwa [Array.getElem?_toList] at h5
    · cases h5
theorem cloneStr_any (X : Nat → Prop) (v : Value) (L : List ByteArray) (w : World) (hv : StrL w X v L) (hl : L.length ≤ 1000000000000) :
    Calls Tryz.prog 124 #[v] w (CloneEnd L w) := by
  obtain ⟨A, c, rfl, h1⟩ := hv
  by_cases h0 : L.length = 0
  · have e1 : L = [] := List.eq_nil_of_length_eq_zero h0
    subst e1
    rcases A with _ | a
    · refine (Tryz.slices_Clone_string_nil 0 c w).mono ?_
      rintro e w' ⟨rfl, rfl⟩
      exact ⟨_, w'.heap.size, rfl, Nat.le_refl _, ⟨none, 0, rfl, fun h => by simp at h⟩, Below.refl _ _⟩
    · refine (Tryz.slices_Clone_string_zero a c w).mono ?_
      rintro e w' ⟨v', rfl, hown, _, hB⟩
      obtain ⟨gn, hg, hN⟩ := own_nam (L := []) hown
      exact ⟨_, gn, rfl, hg, hN, hB⟩
  · obtain ⟨g, o, rfl, _, _, q1⟩ := h1 (by omega)
    refine (Tryz.slices_Clone_string g o L.length c L w (Nat.le_refl _) (by omega) (fun j hj => by rw [q1 j _ (List.getElem?_eq_getElem hj)]; simp [List.getD, hj])).mono ?_
    rintro e w' ⟨v', rfl, hown, _, hB⟩
    rw [List.take_of_length_le (Nat.le_refl _)] at hown
    obtain ⟨gn, hg, hN⟩ := own_nam hown
    exact ⟨_, gn, rfl, hg, hN, hB⟩
theorem append_row (tSl : TypeId) (ht : Tryz.prog.underlying tSl = some (.slice 25)) {wr W1 w2 : World} {B : Nat} {v : Value} {l : List Jsn} {x : Jsn} {vn vl : Value} (h : RowO wr B 9 25 v l) (hs : wr.heap.size ≤ W1.heap.size) (h12 : Below wr.heap.size wr w2) (hs2 : W1.heap.size ≤ w2.heap.size) (hB : B ≤ wr.heap.size)
    (hx : OwnJ w2 9 25 x W1.heap.size w2.heap.size vn vl) (hl : l.length ≤ 1000000000000) :
    ∃ v' w4, (Builtin.append_ #[tSl, tSl] tSl #[v, .slice (some ⟨w2.heap.size, 0, none⟩) 1 1]).run Tryz.prog (w2.alloc (.cells #[.int .u8 x.kind, .string x.text, vn, vl] 25)) = .ok v' w4 ∧
      RowO w4 B 9 25 v' (l ++ [x]) ∧ (w2.alloc (.cells #[.int .u8 x.kind, .string x.text, vn, vl] 25)).grownBy w4 v.ownBlock ∧ ∀ g, v.ownBlock = some g → B ≤ g := by
  obtain ⟨i0, hi0, hz0, hz1, hz2⟩ := info_parts infoJ
  obtain ⟨ws, hw⟩ := h
  obtain ⟨Ax, nx, cx, Ay, ny, cy, e1, e2⟩ := hx.forms
  have hown2 : w2.ownsRow B 25 4 v l.length (rowCells l ws) := hw.2.1.kept (row := none) ⟨h12.os, h12.tape, h12.output, h12.size, fun k hk _ => h12.block k hk⟩ (by rcases hv : v.ownBlock with _ | g <;> simp)
  obtain ⟨v', w4, hrun, h2, h3, _, h5⟩ := run_append_own_at (P := Tryz.prog) (w2.alloc (.cells #[.int .u8 x.kind, .string x.text, vn, vl] 25)) B tSl tSl 25 i0 _ 4 72 ht hi0 hz0 hz1 hz2 rfl (by decide) v l.length (rowCells l ws) (hown2.alloc _) ⟨w2.heap.size, 0, none⟩ 1 1 (encJ (x, vn, vl)) rfl
    (fun j u hu => by
      have hadd : (⟨w2.heap.size, 0, none⟩ : Addr).add j = ⟨w2.heap.size, j, none⟩ := by unfold Addr.add; split <;> simp_all
      rw [hadd, (Cel.fresh w2 25 #[.int .u8 x.kind, .string x.text, vn, vl]).cell]
      simpa [encJ] using hu)
    (fun u hu => by subst e1; subst e2; simp [encJ] at hu; rcases hu with rfl | rfl | rfl | rfl <;> rfl) (by unfold maxLen; omega) (by omega) (by have := h12.size; simp; omega)
  exact ⟨v', w4, hrun, ⟨_, hw.snoc hs h12 hs2 hB hx h2 h3 h5⟩, h3, fun g hg => (hw.2.1.lt g hg).1⟩
def OwnJEnd (j : Jsn) (w : World) (e : Ending) (w' : World) : Prop := ∃ vn vl, e = .returned (.agg #[.int .u8 j.kind, .string j.text, vn, vl]) ∧ OwnJ w' 9 25 j w.heap.size w'.heap.size vn vl ∧ Below w.heap.size w w'
def OwnSays (f : Nat) (j : Jsn) : Prop := ∀ (X : Nat → Prop) (w : World) (vn vl : Value), JV w X j vn vl → jbulk j ≤ 1000000000000 → Calls Tryz.prog f #[.agg #[.int .u8 j.kind, .string j.text, vn, vl]] w (OwnJEnd j w)
set_option maxRecDepth 100000 in
set_option maxHeartbeats 2000000 in
theorem jsnOwn_any : ∀ (j : Jsn), OwnSays 75 j := by
  refine Jsn.ind fun k s n l ih X w vn vl hV hbk => ?_
  obtain ⟨_, hn, hl, _, hkids⟩ := bulk_parts hbk
  dsimp only at hl hkids hn
  obtain ⟨i0, hi0, hz0, hz1, hz2⟩ := info_parts infoJ
  have hnam := hV.names
  have hkd := hV.kind
  obtain ⟨An, cn, rfl⟩ := hnam.len
  obtain ⟨A, c, zs, rfl, hz, h2, h3⟩ := hV.elems
  dsimp only at hnam hkd ⊢
  have hlen : zs.length = l.length := by rw [← hz, List.length_map]
  rw [← hlen] at hl
  have hw := Lib.hid (fun (wr : World) (i : Nat) (hB : Below w.heap.size w wr) (hi : i < zs.length) => JV.at h2 h3 hB hi)
  have hb1 : ∀ x ∈ l, jbulk x ≤ 1000000000000 := fun x hx => by have := hkids x hx; omega
  have hnl := Lib.hid (fun (wr : World) (hB : Below w.heap.size w wr) => cloneStr_any X _ n wr (hnam.later hB) hn)
  clear hV h2 h3 hnam hkids hbk hlen
  replace ih := Lib.hid ih
  replace hb1 := Lib.hid hb1
  replace hz := Lib.hid hz
  go_enter Tryz.func75, Tryz.ntmps75
  go_wp2_with fail
  go_loopw [3, 9] (fun v i wr => ∃ q : Nat, q ≤ zs.length ∧ i = .int .i64 q ∧ RowO wr (w.heap.size + 2) 9 25 v ((zs.take q).map (·.1)) ∧ Cel wr w.heap.size 25 #[.int .u8 k, .string s, .slice An n.length cn, .slice A zs.length c] ∧ Cel wr (w.heap.size + 1) 25 #[.int .u8 0, .string ⟨#[]⟩, .slice none 0 0, .slice none 0 0] ∧ Below w.heap.size w wr) (fun _ i _ => zs.length - (intOf i).toNat)
  case atStart =>
    refine ⟨0, Nat.zero_le _, rfl, RowO.nil _ _ _ _, (Cel.fresh _ _ _).alloc _, ?_, ((Below.refl _ _).alloc (Nat.le_refl _) _).alloc (by simp) _⟩
    have := Cel.fresh (w.alloc (.cells #[.int .u8 k, .string s, .slice An n.length cn, .slice A zs.length c] 25)) 25 #[.int .u8 0, .string ⟨#[]⟩, .slice none 0 0, .slice none 0 0]
    simpa using this
  case round =>
    obtain ⟨q, hq, rfl, hrow, hC1, hC2, hB⟩ := hrel
    have hsz := hC1.lt
    have hsz2 := hC2.lt
    by_cases hlt : q < zs.length
    · obtain ⟨g, o, ⟨x, vx, vy⟩, hzq, hzm, rfl, hVz, a0, a1, a2, a3⟩ := hw.out wr q hB hlt
      dsimp only at hVz a0 a1 a2 a3
      have hxm : x ∈ l := by rw [← hz.out]; exact List.mem_map_of_mem (f := (·.1)) hzm
      obtain ⟨Ax, nx, cx, Ay, ny, cy, rfl, rfl⟩ := hVz.forms
      have hcall := ih.out x hxm X _ _ _ (hVz.alloc (.cells #[.int .u8 x.kind, .string x.text, .slice Ax nx cx, .slice Ay ny cy] 25)) (hb1.out x hxm)
      have hsnoc : (zs.take (q + 1)).map (·.1) = (zs.take q).map (·.1) ++ [x] := by rw [List.take_add_one, hzq]; simp
      have hql : ((zs.take q).map (·.1)).length = q := by rw [List.length_map, List.length_take]; omega
      clear hVz hzq hzm hw
      replace hcall := Lib.hid hcall
      replace hsnoc := Lib.hid hsnoc
      replace hql := Lib.hid hql
      replace hrow := Lib.hid hrow
      replace hC1 := Lib.hid hC1
      replace hC2 := Lib.hid hC2
      replace hB := Lib.hid hB
      go_wp2_with fail
      refine hcall.out.mono ?_
      rintro e w2 ⟨vn', vl', rfl, hO, hB2⟩
      have hbs := hB.out.size
      have hB12 : Below wr.heap.size wr w2 := ((Below.refl wr.heap.size wr).alloc (Nat.le_refl _) (.cells #[.int .u8 x.kind, .string x.text, .slice Ax nx cx, .slice Ay ny cy] 25)).trans (hB2.mono (by simp))
      have hs12 := hB2.size
      obtain ⟨Bx, mx, ex, By, my, ey, rfl, rfl⟩ := hO.forms
      obtain ⟨v', w4, hrun, hrow2, hgr, hvB⟩ := append_row 23 Tryz.underlying23 hrow.out (by simp) hB12 hs12 (by omega) hO (by rw [hql.out]; omega)
      rw [← hsnoc.out] at hrow2
      have hg4 : Below (w.heap.size + 2) wr w4 := (((hB12.mono (by omega)).alloc (by have := hB12.size; omega) _).trans (Below.grown (Below.refl _ _) hgr (by have := hB12.size; simp; omega) hvB))
      have hD1 := hC1.out.below hg4 (by omega)
      have hD2 := hC2.out.below hg4 (by omega)
      have hB4 := hB.out.trans (hg4.mono (by omega))
      clear hcall hO hB2 hB12 hs12 hgr hvB hg4 hrow hC1 hC2 hB a0 a1 a2 a3 hsnoc
      replace hrun := Lib.hid hrun
      replace hrow2 := Lib.hid hrow2
      replace hD1 := Lib.hid hD1
      replace hD2 := Lib.hid hD2
      replace hB4 := Lib.hid hB4
      go_wp2_with (at_builtin; refine jl_append_run (by rfl) _ _ 23 23 rfl u3 (.slice (some ⟨w2.heap.size, 0, none⟩) 1 1) _ rfl rfl hrun.out ?_)
      go_roundw
      case rel => exact ⟨q + 1, by omega, by go_num, hrow2.out, hD1.out, hD2.out, hB4.out⟩
      case measure => simp [intOf]; omega
    · have hfull : (zs.take q).map (·.1) = l := by rw [List.take_of_length_le (by omega), hz.out]
      rw [hfull] at hrow
      have hcl := hnl.out wr hB
      obtain ⟨_, _, A3, c3, _, hv3, _, _⟩ := hrow.kids
      have hbs := hB.size
      clear hw hnl ih hfull
      replace hrow := Lib.hid hrow
      replace hcl := Lib.hid hcl
      have x12 : wr.cell? ⟨w.heap.size, 2, none⟩ = some (.slice An n.length cn) := hC1.cell 2
      have hv3' := Lib.hid hv3
      clear hv3
      go_wp2_with fail
      refine hcl.out.mono ?_
      rintro e w2 ⟨vN, gn, rfl, hgn, hN, hB2⟩
      obtain ⟨A4, c4, rfl, _⟩ := id hN
      have hv4 := hv3'.out
      subst hv4
      have hO := mk_own (k := k) (s := s) hkd.1 hkd.2 hrow.out hB2 (by omega) hgn hN
      have hD1 := hC1.below hB2 hsz
      have hD2 := hC2.below hB2 hsz2
      have hB3 := hB.trans (hB2.mono hbs)
      have p0 := hD1.cell 0
      have p1 := hD1.cell 1
      have p2 := hD1.cell 2
      have p3 := hD1.cell 3
      have p4 := hD1.froz 2
      have p5 := hD1.froz 3
      have r0 := hD2.cell 0
      have r1 := hD2.cell 1
      have r2 := hD2.cell 2
      have r3 := hD2.cell 3
      have s0 := hD2.froz 0
      have s1 := hD2.froz 1
      have s2 := hD2.froz 2
      have s3 := hD2.froz 3
      simp only [List.getElem?_toArray, List.getElem?_cons_zero, List.getElem?_cons_succ] at p0 p1 p2 p3 r0 r1 r2 r3
      clear hcl hrow hN hB2 hC1 hC2 hB x12
      replace hO := Lib.hid hO
      replace hD1 := Lib.hid hD1
      replace hD2 := Lib.hid hD2
      replace hB3 := Lib.hid hB3
      go_wp2_with fail
      refine bodyPost_ret (v := .agg #[.int .u8 k, .string s, .slice A4 n.length c4, .slice A3 l.length c3]) (by simp [results, Tryz.results75, go_sem, r0, r1, r2, r3]) rfl ⟨_, _, rfl, ?_, ?_⟩
      · refine OwnJ.keep _ hO.out (fun b h1 _ => ?_) (by omega) (by simp [World.setCell])
        rw [Below.heap_setCell _ _ _ _ (by simp; omega), Below.heap_setCell _ _ _ _ (by simp; omega), Below.heap_setCell _ _ _ _ (by simp; omega), Below.heap_setCell _ _ _ _ (by simp; omega), Below.heap_setCell _ _ _ _ (by simp; omega), Below.heap_setCell _ _ _ _ (by simp; omega)]
      · exact (((((hB3.out.setCell (by simp) _).setCell (by simp) _).setCell (by simp) _).setCell (by simp) _).setCell (by simp) _).setCell (by simp) _
def IsBuf (w : World) (b k : Nat) : Prop := ∃ n c, w.cell? ⟨b, 1, none⟩ = some (.slice (some ⟨k, 0, none⟩) n c)
def BDv (w : World) (b : Nat) (p v : Value) (l : List UInt8) : Prop := w.heap[b]? = some (.cells #[p, v] 116 (0, 0)) ∧ RowB w 0 v l ∧ v.ownBlock ≠ some b
def BD (w : World) (b : Nat) (l : List UInt8) : Prop := ∃ p v, (p = .pointer none ∨ p = .pointer (some ⟨b, 0, none⟩)) ∧ BDv w b p v l
structure Wr (b : Nat) (w w' : World) : Prop where
  os : w'.os = w.os
  tape : w'.tape = w.tape
  output : w'.output = w.output
  size : w.heap.size ≤ w'.heap.size
  block : ∀ k, k < w.heap.size → k ≠ b → ¬ IsBuf w b k → w'.heap[k]? = w.heap[k]?
  buf : ∀ k, IsBuf w' b k → w.heap.size ≤ k ∨ IsBuf w b k
theorem Wr.refl (b : Nat) (w : World) : Wr b w w := ⟨rfl, rfl, rfl, Nat.le_refl _, fun _ _ _ _ => rfl, fun _ h => .inr h⟩
theorem Wr.trans {b : Nat} {w w1 w2 : World} (h : Wr b w w1) (k : Wr b w1 w2) : Wr b w w2 :=
  ⟨k.os.trans h.os, k.tape.trans h.tape, k.output.trans h.output, Nat.le_trans h.size k.size,
    fun i hi hb hn => (k.block i (Nat.lt_of_lt_of_le hi h.size) hb (fun hh => (h.buf i hh).elim (fun e => by omega) hn)).trans (h.block i hi hb hn),
    fun i hi => (k.buf i hi).elim (fun e => .inl (Nat.le_trans h.size e)) (h.buf i)⟩
theorem Wr.cell {b : Nat} {w w' : World} (h : Wr b w w') {p : Addr} (hp : p.block < w.heap.size) (hb : p.block ≠ b) (hn : ¬ IsBuf w b p.block) : w'.cell? p = w.cell? p := by
  unfold World.cell?; rw [h.block _ hp hb hn]
theorem Wr.below {b : Nat} {w w' : World} (h : Below w.heap.size w w') (hb : b < w.heap.size) : Wr b w w' :=
  ⟨h.os, h.tape, h.output, h.size, fun k hk _ _ => h.block k hk, fun k ⟨n, c, e⟩ => .inr ⟨n, c, by rw [← e]; exact (h.cell (p := ⟨b, 1, none⟩) hb).symm⟩⟩
theorem BDv.cell1 {w : World} {b : Nat} {p v : Value} {l : List UInt8} (h : BDv w b p v l) : w.cell? ⟨b, 1, none⟩ = some v := by rw [Lib.cell_of_heap h.1]; rfl
theorem BDv.lt {w : World} {b : Nat} {p v : Value} {l : List UInt8} (h : BDv w b p v l) : b < w.heap.size := by
  rcases Nat.lt_or_ge b w.heap.size with h' | h'
  · exact h'
  · have := h.1; simp [Array.getElem?_eq_none h'] at this
theorem BD.lt {w : World} {b : Nat} {l : List UInt8} (h : BD w b l) : b < w.heap.size := by obtain ⟨p, v, _, h⟩ := h; exact h.lt
theorem own_buf {w : World} {v : Value} {l : List UInt8} (h : RowB w 0 v l) {k : Nat} : v.ownBlock = some k ↔ ∃ n c, v = .slice (some ⟨k, 0, none⟩) n c := by
  rcases h.2 with ⟨rfl, _⟩ | ⟨g, cap, cur, rfl, _⟩
  · simp [Value.ownBlock]
  · simp [Value.ownBlock]
theorem BDv.isBuf {w : World} {b : Nat} {p v : Value} {l : List UInt8} (h : BDv w b p v l) {k : Nat} : IsBuf w b k ↔ v.ownBlock = some k := by
  rw [own_buf h.2.1]
  unfold IsBuf
  rw [h.cell1]
  simp
theorem BD.bufLt {w : World} {b : Nat} {l : List UInt8} (h : BD w b l) {k : Nat} (hk : IsBuf w b k) : k < w.heap.size := by
  obtain ⟨p, v, _, h⟩ := h
  exact (World.ownsRow.lt h.2.1 k (h.isBuf.1 hk)).2
theorem BD.below {w w' : World} {b : Nat} {l : List UInt8} (h : BD w b l) (hb : Below w.heap.size w w') : BD w' b l := by
  obtain ⟨p, v, hp, h⟩ := h
  exact ⟨p, v, hp, (hb.block b h.lt).trans h.1, h.2.1.below hb, h.2.2⟩
theorem sizeBd : (Tryz.prog.info? 116).map (·.size) = some 2 := by kernel_rfl
theorem liesBd : liesAt Tryz.prog Tryz.prog.depth 116 (2 / Tryz.prog.cellsOf 116) 0 116 1 = true := by kernel_rfl
set_option maxRecDepth 100000 in
theorem cc_used (b : Nat) (w : World) (h0 : w.cell? ⟨b, 0, none⟩ = some (.pointer (some ⟨b, 0, none⟩))) :
    Calls Tryz.prog 150 #[.pointer (some ⟨b, 0, none⟩)] w fun e w' => e = .returned (.tuple #[]) ∧ w' = w := by
  obtain ⟨j, hj, _⟩ := Option.map_eq_some_iff.1 sizeBd
  go_enter Tryz.func150, Tryz.ntmps150
  go_wp2
  rw [Lib.run_neq_ptr_same w _ Tryz.underlying114 hj]
  go_wp2
  go_end0
  exact ⟨rfl, rfl⟩
set_option maxRecDepth 100000 in
theorem cc_fresh (b : Nat) (w : World) (h0 : w.cell? ⟨b, 0, none⟩ = some (.pointer none)) (hsh : w.shape? b = some (116, 2)) (hfz : w.frozen? ⟨b, 0, none⟩ = false) :
    Calls Tryz.prog 150 #[.pointer (some ⟨b, 0, none⟩)] w fun e w' => e = .returned (.tuple #[]) ∧ w' = w.setCell ⟨b, 0, none⟩ (.pointer (some ⟨b, 0, none⟩)) := by
  obtain ⟨j, hj, hjs⟩ := Option.map_eq_some_iff.1 sizeBd
  go_enter Tryz.func150, Tryz.ntmps150
  go_wp2
  rw [Lib.run_to_unsafe w ⟨b, 0, none⟩ Tryz.underlying114 Tryz.underlying205 hj (by rw [hjs]; decide) hsh (Nat.zero_lt_succ 1)]
  simp only [Result.andThen]
  rw [Oper.upon_value]
  go_wp2
  rw [run_callFunc_extern Tryz.func174 (by kernel_rfl) (by kernel_rfl) (by kernel_rfl) (e := Extern.AbiNoEscape.same) (by kernel_rfl)]
  rw [Lib.run_noEscape]
  simp only [Result.andThen]
  rw [Oper.upon_value]
  go_wp2
  rw [Lib.run_from_unsafe w ⟨b, 0, none⟩ Tryz.underlying205 Tryz.underlying114 hj hsh liesBd]
  simp only [Result.andThen]
  rw [Oper.upon_value]
  go_wp2
  go_end0
  exact ⟨rfl, rfl⟩
def CcEnd (b : Nat) (l : List UInt8) (w : World) (e : Ending) (w' : World) : Prop := e = .returned (.tuple #[]) ∧ (∃ v, BDv w' b (.pointer (some ⟨b, 0, none⟩)) v l) ∧ Wr b w w'
theorem cc_any (b : Nat) (l : List UInt8) (w : World) (h : BD w b l) : Calls Tryz.prog 150 #[.pointer (some ⟨b, 0, none⟩)] w (CcEnd b l w) := by
  obtain ⟨p, v, rfl | rfl, h⟩ := h
  · refine (cc_fresh b w (by rw [Lib.cell_of_heap h.1]; rfl) (by unfold World.shape?; rw [h.1]; rfl) (by unfold World.frozen?; rw [h.1]; rfl)).mono ?_
    rintro e w' ⟨rfl, rfl⟩
    have hg : w.grownBy (w.setCell ⟨b, 0, none⟩ (.pointer (some ⟨b, 0, none⟩))) (some b) :=
      ⟨rfl, rfl, rfl, by simp [World.setCell], fun k _ hk => Below.heap_setCell _ _ _ _ (fun e => hk (by simp [e]))⟩
    have h2 : BDv (w.setCell ⟨b, 0, none⟩ (.pointer (some ⟨b, 0, none⟩))) b (.pointer (some ⟨b, 0, none⟩)) v l :=
      ⟨by have := h.1; simp [World.setCell, Array.getElem?_modify, this], World.ownsRow.kept h.2.1 hg (Or.inr h.2.2), h.2.2⟩
    exact ⟨rfl, ⟨v, h2⟩, rfl, rfl, rfl, hg.size, fun k hk hb _ => hg.block k hk (by simpa using hb), fun k hk => .inr (h.isBuf.2 (h2.isBuf.1 hk))⟩
  · refine (cc_used b w (by rw [Lib.cell_of_heap h.1]; rfl)).mono ?_
    rintro e w' ⟨rfl, rfl⟩
    exact ⟨rfl, ⟨v, h⟩, Wr.refl _ _⟩
def WrEnd (b : Nat) (l : List UInt8) (w w' : World) : Prop := BD w' b l ∧ Wr b w w'
theorem put_back {b : Nat} {v v' : Value} {l l' : List UInt8} {w1 w2 : World} (h : BDv w1 b (.pointer (some ⟨b, 0, none⟩)) v l) (hown : RowB w2 0 v' l') (hg : w1.grownBy w2 v.ownBlock) (hat : v'.ownBlock = v.ownBlock ∨ v'.ownBlock = none ∨ ∃ k, v'.ownBlock = some k ∧ w1.heap.size ≤ k) :
    WrEnd b l' w1 (w2.setCell ⟨b, 1, none⟩ v') := by
  have hlt := h.lt
  have hb2 : w2.heap[b]? = some (.cells #[.pointer (some ⟨b, 0, none⟩), v] 116 (0, 0)) := (hg.block b hlt (fun e => h.2.2 e.symm)).trans h.1
  have hlt2 : b < w2.heap.size := Nat.lt_of_lt_of_le hlt hg.size
  have hne : v'.ownBlock ≠ some b := by
    rcases hat with e | e | ⟨k, e, hk⟩
    · rw [e]; exact h.2.2
    · rw [e]; simp
    · rw [e]; simp; omega
  have hg2 : w2.grownBy (w2.setCell ⟨b, 1, none⟩ v') (some b) := ⟨rfl, rfl, rfl, by simp [World.setCell], fun k _ hk => Below.heap_setCell _ _ _ _ (fun e => hk (by simp [e]))⟩
  have h2 : BDv (w2.setCell ⟨b, 1, none⟩ v') b (.pointer (some ⟨b, 0, none⟩)) v' l' :=
    ⟨by simp [World.setCell, Array.getElem?_modify, hb2], World.ownsRow.kept hown hg2 (Or.inr hne), hne⟩
  refine ⟨⟨_, _, .inr rfl, h2⟩, hg.os, hg.tape, hg.output, Nat.le_trans hg.size hg2.size, fun k hk hb hn => ?_, fun k hk => ?_⟩
  · rw [hg2.block k (Nat.lt_of_lt_of_le hk hg.size) (by simpa using hb)]
    exact hg.block k hk (fun e => hn (h.isBuf.2 e.symm))
  · have := h2.isBuf.1 hk
    rcases hat with e | e | ⟨j, e, hj⟩
    · exact .inr (h.isBuf.2 (by rw [← e]; exact this))
    · rw [e] at this; cases this
    · rw [e] at this; injection this with this; subst this; exact .inl hj
theorem app_str {w : World} {v : Value} {l : List UInt8} (h : RowB w 0 v l) (s : ByteArray) (hl : l.length + s.size ≤ 100000000000000) :
    ∃ v' w', (Builtin.append_ #[108, 9] 108 #[v, .string s]).run Tryz.prog w = .ok v' w' ∧ RowB w' 0 v' (l ++ s.data.toList) ∧ w.grownBy w' v.ownBlock ∧ (v'.ownBlock = v.ownBlock ∨ v'.ownBlock = none ∨ ∃ k, v'.ownBlock = some k ∧ w.heap.size ≤ k) := by
  obtain ⟨i0, hi0, hz0, hz1, hz2⟩ := info_parts infoB
  obtain ⟨v', w', hr, h2, h3, _⟩ := Lib.run_append_own_string (P := Tryz.prog) w 0 108 9 108 5 i0 Tryz.underlying108 Tryz.underlying9 hi0 hz0 hz1 hz2 v l.length _ h s (by unfold maxLen; omega) (by omega) (Nat.zero_le _)
  refine ⟨v', w', hr, RowB.snoc h2, h3, ?_⟩
  have hh := h
  rcases h.2 with ⟨rfl, h0⟩ | ⟨g, cap, cur, rfl, hbg, hg, hnc, hcm, hcs, htake⟩
  · have hn : w.ownsRow w.heap.size 5 1 (.slice none 0 0) l.length (l.map fun b => Value.int .u8 b.toNat) := ⟨h.1, .inl ⟨rfl, h0⟩⟩
    obtain ⟨v2, w2, hr2, h22, _, _⟩ := Lib.run_append_own_string (P := Tryz.prog) w w.heap.size 108 9 108 5 i0 Tryz.underlying108 Tryz.underlying9 hi0 hz0 hz1 hz2 _ l.length _ hn s (by unfold maxLen; omega) (by omega) (Nat.le_refl _)
    rw [hr] at hr2
    injection hr2 with e1 e2
    subst e1
    rcases hv : v'.ownBlock with _ | k
    · exact .inr (.inl rfl)
    · subst e2
      exact .inr (.inr ⟨k, rfl, (World.ownsRow.lt h22 k hv).1⟩)
  · by_cases hroom : l.length + s.size ≤ cap
    · have hr2 := Lib.run_append_room_string (P := Tryz.prog) w 108 9 108 5 i0 Tryz.underlying108 Tryz.underlying9 hi0 hz1 g l.length cap cur hg s hroom (by omega)
      rw [hr] at hr2
      injection hr2 with e1 e2
      subst e1
      exact .inl rfl
    · have hr2 := Lib.run_append_grow_string (P := Tryz.prog) w 108 9 108 5 i0 (.int .u8 0) Tryz.underlying108 Tryz.underlying9 hi0 hz0 ⟨g, 0, none⟩ l.length cap _ (by rw [hz1]; exact hh.1) (World.ownsRow.cells hh (g := g) rfl) s (by omega) (by omega) (by rw [hz2]; exact growslice_fits (by omega) (by omega))
      rw [hr] at hr2
      injection hr2 with e1 e2
      subst e1
      exact .inr (.inr ⟨_, rfl, Nat.le_refl _⟩)
theorem app_byte {w : World} {v : Value} {l : List UInt8} (h : RowB w 0 v l) (u : UInt8) (c : Int) (hc : c = (u.toNat : Int)) (hl : l.length ≤ 100000000000000) :
    ∃ v' w', (Builtin.append_ #[108, 108] 108 #[v, .slice (some ⟨w.heap.size, 0, none⟩) 1 1]).run Tryz.prog (w.alloc (.cells #[.int .u8 c] 5)) = .ok v' w' ∧ RowB w' 0 v' (l ++ [u]) ∧ w.grownBy w' v.ownBlock ∧ (v'.ownBlock = v.ownBlock ∨ v'.ownBlock = none ∨ ∃ k, v'.ownBlock = some k ∧ w.heap.size ≤ k) := by
  obtain ⟨i0, hi0, hz0, hz1, hz2⟩ := info_parts infoB
  obtain ⟨v', w', hr, h2, hgr, _, hat⟩ := run_append_own_at (P := Tryz.prog) (w.alloc (.cells #[.int .u8 c] 5)) 0 108 108 5 i0 (.int .u8 0) 1 1 Tryz.underlying108 hi0 hz0 hz1 hz2 rfl (by decide) v l.length _ (World.ownsRow.alloc h _) ⟨w.heap.size, 0, none⟩ 1 1 [.int .u8 c] rfl (cell_one _ _ _) (fun x hx => by simp at hx; subst hx; rfl) (by unfold maxLen; omega) (by omega) (Nat.zero_le _)
  refine ⟨v', w', hr, RowB.snoc1 hc h2, ⟨hgr.os, hgr.tape, hgr.output, by have := hgr.size; simp at this; omega, fun k hk hne => (hgr.block k (by simp; omega) hne).trans (Below.heap_alloc w _ k hk)⟩, ?_⟩
  rcases hat with e | e
  · exact .inl e
  · exact .inr (.inr ⟨_, e, by simp⟩)
set_option maxRecDepth 100000 in
set_option maxHeartbeats 2000000 in
theorem wByte_any (b : Nat) (l : List UInt8) (u : UInt8) (c : Int) (hc : c = (u.toNat : Int)) (w : World) (h : BD w b l) (hl : l.length ≤ 1000000000000) :
    Calls Tryz.prog 123 #[.pointer (some ⟨b, 0, none⟩), .int .u8 c] w fun e w' => e = .returned .nilIface ∧ WrEnd b (l ++ [u]) w w' := by
  have hcc := Lib.hid (cc_any b l w h)
  clear h
  go_enter Tryz.func123, Tryz.ntmps123
  go_wp2_with fail
  refine hcc.out.mono ?_
  rintro e w1 ⟨rfl, ⟨v, h1⟩, hW⟩
  have c0 : w1.cell? ⟨b, 0, none⟩ = some (.pointer (some ⟨b, 0, none⟩)) := by rw [Lib.cell_of_heap h1.1]; rfl
  have c1 : w1.cell? ⟨b, 1, none⟩ = some v := h1.cell1
  have hlt := h1.lt
  obtain ⟨v', w2, hrun, hR, hg2, hat⟩ := app_byte h1.2.1 u c hc (by omega)
  have hf := put_back h1 hR hg2 hat
  have c2 : (w1.alloc (.cells #[.int .u8 c] 5)).cell? ⟨b, 1, none⟩ = some v := (World.cell?_alloc_lt w1 _ ⟨b, 1, none⟩ hlt).trans c1
  have d0 : w2.heap[b]? = some (.cells #[.pointer (some ⟨b, 0, none⟩), v] 116 (0, 0)) := (hg2.block b hlt (fun e => h1.2.2 e.symm)).trans h1.1
  have d1 : w2.cell? ⟨b, 1, none⟩ = some v := by rw [Lib.cell_of_heap d0]; rfl
  have f1 : w2.frozen? ⟨b, 1, none⟩ = false := Lib.frozen_of_heap d0 1
  have hsl : ∃ ao n' cap, v' = .slice ao n' cap := by
    rcases hR.2 with ⟨hv, _⟩ | ⟨g, cap, cur, hv, _⟩
    · exact ⟨_, _, _, hv⟩
    · exact ⟨_, _, _, hv⟩
  obtain ⟨ao, n', cap, rfl⟩ := hsl
  clear hc hcc hat hg2 hR h1 d0
  replace hW := Lib.hid hW
  replace hf := Lib.hid hf
  replace hrun := Lib.hid hrun
  go_wp2_with (at_builtin; refine jl_append_run (by rfl) _ _ 108 108 rfl v (.slice (some ⟨w1.heap.size, 0, none⟩) 1 1) _ rfl rfl hrun.out ?_)
  go_ret
  exact ⟨rfl, hf.out.1, hW.out.trans hf.out.2⟩
set_option maxRecDepth 100000 in
set_option maxHeartbeats 2000000 in
theorem wStr_any (b : Nat) (l : List UInt8) (s : ByteArray) (w : World) (h : BD w b l) (hl : l.length + s.size ≤ 1000000000000) :
    Calls Tryz.prog 121 #[.pointer (some ⟨b, 0, none⟩), .string s] w fun e w' => e = .returned (.tuple #[.int .i64 s.size, .nilIface]) ∧ WrEnd b (l ++ s.data.toList) w w' := by
  have hcc := Lib.hid (cc_any b l w h)
  clear h
  go_enter Tryz.func121, Tryz.ntmps121
  go_wp2_with fail
  refine hcc.out.mono ?_
  rintro e w1 ⟨rfl, ⟨v, h1⟩, hW⟩
  have c0 : w1.cell? ⟨b, 0, none⟩ = some (.pointer (some ⟨b, 0, none⟩)) := by rw [Lib.cell_of_heap h1.1]; rfl
  have c1 : w1.cell? ⟨b, 1, none⟩ = some v := h1.cell1
  have hlt := h1.lt
  obtain ⟨v', w2, hrun, hR, hg2, hat⟩ := app_str h1.2.1 s (by omega)
  have hf := put_back h1 hR hg2 hat
  have d0 : w2.heap[b]? = some (.cells #[.pointer (some ⟨b, 0, none⟩), v] 116 (0, 0)) := (hg2.block b hlt (fun e => h1.2.2 e.symm)).trans h1.1
  have d1 : w2.cell? ⟨b, 1, none⟩ = some v := by rw [Lib.cell_of_heap d0]; rfl
  have f1 : w2.frozen? ⟨b, 1, none⟩ = false := Lib.frozen_of_heap d0 1
  have hsl : ∃ ao n' cap, v' = .slice ao n' cap := by
    rcases hR.2 with ⟨hv, _⟩ | ⟨g, cap, cur, hv, _⟩
    · exact ⟨_, _, _, hv⟩
    · exact ⟨_, _, _, hv⟩
  obtain ⟨ao, n', cap, rfl⟩ := hsl
  clear hcc hat hg2 hR h1 d0
  replace hW := Lib.hid hW
  replace hf := Lib.hid hf
  replace hrun := Lib.hid hrun
  go_wp2_with (at_builtin; refine jl_append_run (by rfl) _ _ 108 9 rfl v (.string s) _ rfl rfl hrun.out ?_)
  go_ret2
  exact ⟨rfl, hf.out.1, hW.out.trans hf.out.2⟩
end Go.Proofs.YtdjfoabinjfnfaaGreatDoor
