/-
  The walk of the document's twice: does a name stand twice, in a value or in one within?
-/
import Derived.Test.YtlnkjacbdolhnaaGreatDoorJsB
namespace Go.Proofs.YtlnkjacbdolhnaaGreatDoor
open Go.RowKit

/-- No name stands twice among the first q. -/
def NoDup (n : List ByteArray) (q : Nat) : Prop := ∀ (i j : Nat) (x y : ByteArray), i < j → j < q → n[i]? = some x → n[j]? = some y → x ≠ y
theorem dup_true : ∀ (n : List ByteArray) (i j : Nat) (x : ByteArray), i < j → n[i]? = some x → n[j]? = some x → dupB n = true
  | [], _, _, _, _, h, _ => by simp at h
  | y :: r, 0, j + 1, x, _, h1, h2 => by
    rw [List.getElem?_cons_zero] at h1
    rw [List.getElem?_cons_succ] at h2
    injection h1 with h1
    subst h1
    have : r.any (fun z => decide (z = y)) = true := List.any_eq_true.2 ⟨y, List.mem_of_getElem? h2, by simp⟩
    unfold dupB
    rw [this]; rfl
  | y :: r, i + 1, j + 1, x, h, h1, h2 => by
    rw [List.getElem?_cons_succ] at h1 h2
    have := dup_true r i j x (by omega) h1 h2
    unfold dupB
    rw [this]; simp
theorem dup_false : ∀ (n : List ByteArray), NoDup n n.length → dupB n = false
  | [], _ => rfl
  | y :: r, h => by
    have h1 : r.any (fun z => decide (z = y)) = false := by
      rw [List.any_eq_false]
      intro z hz
      obtain ⟨j, hj⟩ := List.getElem?_of_mem hz
      have hjl := (List.getElem?_eq_some_iff.1 hj).1
      have := h 0 (j + 1) y z (by omega) (by simp; omega) rfl (by rw [List.getElem?_cons_succ]; exact hj)
      simp [Ne.symm this]
    have h2 := dup_false r fun i j x z hi hj e1 e2 => h (i + 1) (j + 1) x z (by omega) (by simp; omega) (by rw [List.getElem?_cons_succ]; exact e1) (by rw [List.getElem?_cons_succ]; exact e2)
    unfold dupB
    rw [h1, h2]; rfl
/-- None of the first p is the q-th. -/
def NoneIs (n : List ByteArray) (_q p : Nat) (S : ByteArray) : Prop := ∀ (i : Nat) (x : ByteArray), i < p → n[i]? = some x → x ≠ S
theorem NoDup.step {n : List ByteArray} {q : Nat} {S : ByteArray} (h : NoDup n q) (hS : n[q]? = some S) (h2 : NoneIs n q q S) : NoDup n (q + 1) := fun i j x y hi hj e1 e2 => by
  by_cases hjq : j < q
  · exact h i j x y hi hjq e1 e2
  · have : j = q := by omega
    subst this
    rw [hS] at e2
    injection e2 with e2
    subst e2
    exact h2 i x hi e1
theorem NoneIs.step {n : List ByteArray} {q p : Nat} {S T : ByteArray} (h : NoneIs n q p S) (hT : n[p]? = some T) (hne : T ≠ S) : NoneIs n q (p + 1) S := fun i x hi e => by
  by_cases hip : i < p
  · exact h i x hip e
  · have : i = p := by omega
    subst this
    rw [hT] at e
    injection e with e
    subst e
    exact hne
theorem jtw_names {k s n l} (h : dupB n = true) : jtwice ⟨k, s, n, l⟩ = true := by rw [jtwice_eq, h]; rfl
theorem jtw_list {k s n l} (h : dupB n = false) : jtwice ⟨k, s, n, l⟩ = l.any jtwice := by rw [jtwice_eq, h]; rfl

end Go.Proofs.YtlnkjacbdolhnaaGreatDoor
