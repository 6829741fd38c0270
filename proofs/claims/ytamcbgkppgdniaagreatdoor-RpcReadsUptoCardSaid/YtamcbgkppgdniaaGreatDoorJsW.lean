/-
  How much a value weighs, as the statements have it. No program.
-/
import Derived.Test.YtamcbgkppgdniaaGreatDoorJmp
namespace Go.Proofs.YtamcbgkppgdniaaGreatDoor

def nsum (n : List ByteArray) : Nat := (n.map fun b => b.size / 64).sum
def jw : Jsn → Nat := Jsn.para fun _ s n l => 1 + s.size / 64 + n.length + nsum n + (l.map (·.2)).sum
def jws (l : List Jsn) : Nat := (l.map jw).sum
theorem jw_eq (k : Int) (s : ByteArray) (n : List ByteArray) (l : List Jsn) : jw ⟨k, s, n, l⟩ = 1 + s.size / 64 + n.length + nsum n + jws l := by
  conv => lhs; unfold jw
  rw [Jsn.para_eq, map_pair]; rfl
theorem nsum_app (n m : List ByteArray) : nsum (n ++ m) = nsum n + nsum m := by simp [nsum]
theorem jws_app (l m : List Jsn) : jws (l ++ m) = jws l + jws m := by simp [jws]
theorem nsum_one (b : ByteArray) : nsum [b] = b.size / 64 := by simp [nsum]
theorem jws_one (x : Jsn) : jws [x] = jw x := by simp [jws]
theorem nsum_take (n : List ByteArray) (q : Nat) : nsum (n.take q) ≤ nsum n := by
  have := nsum_app (n.take q) (n.drop q)
  rw [List.take_append_drop] at this; omega
theorem nsum_bulk : ∀ (n : List ByteArray), nsum n + n.length ≤ (n.map fun b => b.size + 1).sum ∧ (n.map fun b => b.size + 1).sum ≤ 64 * nsum n + 64 * n.length
  | [] => by simp [nsum]
  | b :: n => by
    have ih := nsum_bulk n
    have e : nsum (b :: n) = b.size / 64 + nsum n := by simp [nsum]
    simp only [List.map_cons, List.sum_cons, List.length_cons]
    rw [e]
    omega
theorem sums_le {f g : Jsn → Nat} (c : Nat) : ∀ (l : List Jsn), (∀ x ∈ l, f x ≤ c * g x) → (l.map f).sum ≤ c * (l.map g).sum
  | [], _ => by simp
  | x :: r, h => by
    have h1 := sums_le c r (fun y hy => h y (by simp [hy]))
    have h2 := h x (by simp)
    simp only [List.map_cons, List.sum_cons, Nat.mul_add]
    omega
theorem jw_bulk : ∀ (j : Jsn), jw j ≤ jbulk j := by
  refine Jsn.ind fun k s n l ih => ?_
  rw [jw_eq, jbulk_eq]
  have h1 := (nsum_bulk n).1
  have h2 : jws l ≤ 1 * jbulks l := sums_le 1 l (fun x hx => by have := ih x hx; omega)
  omega
theorem bulk_jw : ∀ (j : Jsn), jbulk j ≤ 64 * jw j := by
  refine Jsn.ind fun k s n l ih => ?_
  rw [jw_eq, jbulk_eq]
  have h1 := (nsum_bulk n).2
  have h2 : jbulks l ≤ 64 * jws l := sums_le 64 l ih
  omega
end Go.Proofs.YtamcbgkppgdniaaGreatDoor
