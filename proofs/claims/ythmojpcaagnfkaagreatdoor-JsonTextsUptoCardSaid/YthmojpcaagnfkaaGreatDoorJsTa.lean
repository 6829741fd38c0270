/-
  The walk of the document's text of a value that may be.
-/
import Derived.Test.YthmojpcaagnfkaaGreatDoorJsT
import Derived.Test.YthmojpcaagnfkaaGreatDoorJsQ
import Derived.Test.YthmojpcaagnfkaaGreatDoorPl
namespace Go.Proofs.YthmojpcaagnfkaaGreatDoor
open Go.RowKit

theorem jitems_snoc (x : List UInt8) : ∀ (xs : List (List UInt8)) (f : Bool), jitems f (xs ++ [x]) = jitems f xs ++ ((if f = true ∧ xs = [] then [] else [44]) ++ x)
  | [], f => by cases f <;> simp [jitems]
  | y :: r, f => by
    rw [List.cons_append, jitems, jitems, jitems_snoc x r false]
    simp
theorem jpairs_snoc (x : List UInt8) : ∀ (xs : List (List UInt8)) (n : List ByteArray) (f : Bool), jpairs f n (xs ++ [x]) = jpairs f n xs ++ ((if f = true ∧ xs = [] then [] else [44]) ++ (jquote (n.getD xs.length ByteArray.empty).data.toList ++ 58 :: x))
  | [], n, f => by cases f <;> cases n <;> simp [jpairs]
  | y :: r, n, f => by
    have e : (n.tail.getD r.length ByteArray.empty) = n.getD (y :: r).length ByteArray.empty := by
      cases n <;> simp
    rw [List.cons_append, jpairs, jpairs, jpairs_snoc x r n.tail false, e]
    simp
theorem jquote_len (s : List UInt8) : (jquote s).length ≤ 6 * s.length + 2 := by
  have : ∀ l : List UInt8, (l.flatMap jesc).length ≤ 6 * l.length := fun l => by
    induction l with
    | nil => simp
    | cons x r ih => have := jesc_len x; rw [List.flatMap_cons, List.length_append, List.length_cons]; omega
  have := this s
  unfold jquote
  simp only [List.length_cons, List.length_append, List.length_nil]
  omega
theorem jitems_len (c : Nat) : ∀ (l : List Jsn) (f : Bool), (∀ x ∈ l, (jtext x).length + 1 ≤ 10 * jbulk x) → (jitems f (l.map jtext)).length ≤ 10 * jbulks l
  | [], _, _ => by simp [jitems]
  | x :: r, f, h => by
    have h1 := jitems_len c r false (fun y hy => h y (by simp [hy]))
    have h2 := h x (by simp)
    have h3 : jbulks (x :: r) = jbulk x + jbulks r := by simp [jbulks]
    rw [List.map_cons, jitems, List.length_append, List.length_append, h3]
    cases f <;> simp <;> omega
def nbulk (n : List ByteArray) : Nat := (n.map fun b => b.size + 1).sum
theorem jpairs_len (c : Nat) : ∀ (l : List Jsn) (n : List ByteArray) (f : Bool), l.length ≤ n.length → (∀ x ∈ l, (jtext x).length + 1 ≤ 10 * jbulk x) → (jpairs f n (l.map jtext)).length ≤ 10 * (nbulk n + jbulks l)
  | [], n, _, _, _ => by cases n <;> simp [jpairs]
  | x :: r, [], f, hn, h => by simp at hn
  | x :: r, m :: n, f, hn, h => by
    have h1 := jpairs_len c r n false (by simpa using hn) (fun y hy => h y (by simp [hy]))
    have h2 := h x (by simp)
    have h3 : jbulks (x :: r) = jbulk x + jbulks r := by simp [jbulks]
    have h4 : nbulk (m :: n) = m.size + 1 + nbulk n := by simp [nbulk]
    have h5 := jquote_len m.data.toList
    rw [bytes_len] at h5
    rw [List.map_cons, jpairs, h3, h4]
    simp only [List.headD_cons, List.tail_cons, List.length_append, List.length_cons]
    cases f <;> simp <;> omega
/-- A text is not longer than ten times its value's bulk. -/
theorem jtext_len (Own : List UInt8 → List UInt8 × Int) (Val : List UInt8 → Bool) : ∀ (j : Jsn), jform Own Val j = true → (jtext j).length + 1 ≤ 10 * jbulk j := by
  refine Jsn.ind fun k s n l ih hg => ?_
  rw [jtext_eq, jbulk_eq]
  have hs := bytes_len s
  unfold jtext1
  by_cases h1 : k = 1
  · rw [if_pos h1]; simp; omega
  rw [if_neg h1]
  by_cases h2 : k = 2
  · rw [if_pos h2]; simp; omega
  rw [if_neg h2]
  by_cases h3 : k = 3
  · rw [if_pos h3]; simp; omega
  rw [if_neg h3]
  by_cases h4 : k = 4
  · rw [if_pos h4, hs]; omega
  rw [if_neg h4]
  by_cases h5 : k = 5
  · rw [if_pos h5]
    have := jquote_len s.data.toList
    omega
  rw [if_neg h5]
  by_cases h7 : k = 7
  · subst h7
    rw [jf_obj] at hg
    simp only [Bool.and_eq_true, decide_eq_true_eq, List.all_eq_true] at hg
    obtain ⟨⟨⟨_, hn⟩, _⟩, ha⟩ := hg
    have := jpairs_len 0 l n true (by omega) (fun x hx => ih x hx (ha x hx))
    rw [if_pos rfl]
    unfold nbulk at this
    simp only [List.length_cons, List.length_append, List.length_nil]
    omega
  rw [if_neg h7]
  by_cases h6 : k = 6
  · subst h6
    rw [jf_arr] at hg
    simp only [Bool.and_eq_true, decide_eq_true_eq, List.all_eq_true] at hg
    obtain ⟨_, ha⟩ := hg
    have := jitems_len 0 l true (fun x hx => ih x hx (ha x hx))
    simp only [List.length_cons, List.length_append, List.length_nil]
    omega
  · rw [jf_else (by rintro (h | h | h) <;> contradiction) h4 h5 h6 h7] at hg
    cases hg
theorem bytes_ap (a b : ByteArray) : (a ++ b).data.toList = a.data.toList ++ b.data.toList := by rw [ByteArray.data_append, Array.toList_append]
theorem jbulks_app (a b : List Jsn) : jbulks (a ++ b) = jbulks a + jbulks b := by simp [jbulks]
theorem jbulks_take (l : List Jsn) (q : Nat) : jbulks (l.take q) ≤ jbulks l := by
  have := jbulks_app (l.take q) (l.drop q)
  rw [List.take_append_drop] at this; omega
theorem jform_kids {Own Val k s n l} (h : jform Own Val ⟨k, s, n, l⟩ = true) : ∀ x ∈ l, jform Own Val x = true := by
  by_cases h1 : k = 1 ∨ k = 2 ∨ k = 3
  · rw [jf_plain h1] at h
    simp only [Bool.and_eq_true, decide_eq_true_eq] at h
    have : l = [] := List.eq_nil_of_length_eq_zero (by omega)
    subst this; intro x hx; cases hx
  by_cases h4 : k = 4
  · subst h4; rw [jf_num] at h
    simp only [Bool.and_eq_true, decide_eq_true_eq] at h
    have : l = [] := List.eq_nil_of_length_eq_zero (by omega)
    subst this; intro x hx; cases hx
  by_cases h5 : k = 5
  · subst h5; rw [jf_str] at h
    simp only [Bool.and_eq_true, decide_eq_true_eq] at h
    have : l = [] := List.eq_nil_of_length_eq_zero (by omega)
    subst this; intro x hx; cases hx
  by_cases h6 : k = 6
  · subst h6; rw [jf_arr] at h
    simp only [Bool.and_eq_true, decide_eq_true_eq, List.all_eq_true] at h
    exact h.2
  by_cases h7 : k = 7
  · subst h7; rw [jf_obj] at h
    simp only [Bool.and_eq_true, decide_eq_true_eq, List.all_eq_true] at h
    exact h.2
  · rw [jf_else h1 h4 h5 h6 h7] at h; cases h
theorem jform_kinds {Own Val k s n l} (h : jform Own Val ⟨k, s, n, l⟩ = true) : k = 1 ∨ k = 2 ∨ k = 3 ∨ k = 4 ∨ k = 5 ∨ k = 6 ∨ (k = 7 ∧ n.length = l.length) := by
  by_cases h1 : k = 1 ∨ k = 2 ∨ k = 3
  · rcases h1 with h | h | h <;> simp [h]
  by_cases h4 : k = 4
  · simp [h4]
  by_cases h5 : k = 5
  · simp [h5]
  by_cases h6 : k = 6
  · simp [h6]
  by_cases h7 : k = 7
  · subst h7; rw [jf_obj] at h
    simp only [Bool.and_eq_true, decide_eq_true_eq, List.all_eq_true] at h
    have := h.1.1.2
    simp [this]
  · rw [jf_else h1 h4 h5 h6 h7] at h; cases h
/-- The box of the value that the call was handed, behind calls and draws. -/
def Box (w : World) (k : Int) (s : ByteArray) (vn vl : Value) (W : World) : Prop := Cel W w.heap.size 27 #[.int .u8 k, .string s, vn, vl] ∧ Below w.heap.size w W
theorem map_take_snoc {l : List Jsn} {q : Nat} {x : Jsn} (h : l[q]? = some x) : (l.take (q + 1)).map jtext = (l.take q).map jtext ++ [jtext x] := by
  rw [List.take_add_one, h]; simp
theorem take_nil_iff {l : List Jsn} {q : Nat} (hq : q < l.length) : ((l.take q).map jtext = []) ↔ q = 0 := by
  rw [List.map_eq_nil_iff, List.take_eq_nil_iff]
  constructor
  · rintro (h | h)
    · exact h
    · subst h; simp at hq
  · exact .inl
theorem sz_of {S : ByteArray} {l : List UInt8} (h : S.data.toList = l) : S.size = l.length := by rw [← h, bytes_len]

end Go.Proofs.YthmojpcaagnfkaaGreatDoor
