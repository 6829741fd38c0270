/-
  The walk of the document's form over JSON values, over contracts of a Number's own text and of a valid text.
-/
import Derived.Test.YtlnkjacbdolhnaaGreatDoorJsO
namespace Go.Proofs.YtlnkjacbdolhnaaGreatDoor
open Go.RowKit

theorem empty_iff (s : ByteArray) : s.data.toList.isEmpty = decide (s = ⟨#[]⟩) := by
  by_cases h : s = ⟨#[]⟩
  · subst h; rfl
  · rw [decide_eq_false h]
    cases h2 : s.data.toList with
    | nil => exact absurd (jstr_ext (b := ⟨#[]⟩) h2) h
    | cons a b => rfl
theorem empties (n : List ByteArray) (l : List Jsn) : (n.isEmpty && l.isEmpty) = decide (n.length + l.length = 0) := by
  cases n <;> cases l <;> simp
theorem jf_plain {Own Val k s n l} (h : k = 1 ∨ k = 2 ∨ k = 3) : jform Own Val ⟨k, s, n, l⟩ = (decide (s = ⟨#[]⟩) && decide (n.length + l.length = 0)) := by
  rw [jform_eq, if_pos h, Bool.and_assoc, empties, empty_iff]
theorem jf_num {Own Val s n l} : jform Own Val ⟨4, s, n, l⟩ = (decide (Own s.data.toList = (s.data.toList, 0)) && decide (n.length + l.length = 0)) := by
  rw [jform_eq, if_neg (by decide), if_pos rfl, Bool.and_assoc, empties]
theorem jf_str {Own Val s n l} : jform Own Val ⟨5, s, n, l⟩ = (Val s.data.toList && decide (n.length + l.length = 0)) := by
  rw [jform_eq, if_neg (by decide), if_neg (by decide), if_pos rfl, Bool.and_assoc, empties]
theorem jf_arr {Own Val s n l} : jform Own Val ⟨6, s, n, l⟩ = (((decide (s = ⟨#[]⟩) && decide (n.length = 0)) && n.all (fun b => Val b.data.toList)) && l.all (jform Own Val)) := by
  rw [jform_eq, if_neg (by decide), if_neg (by decide), if_neg (by decide), if_pos rfl, empty_iff]
  cases n <;> simp
theorem jf_obj {Own Val s n l} : jform Own Val ⟨7, s, n, l⟩ = (((decide (s = ⟨#[]⟩) && decide (n.length = l.length)) && n.all (fun b => Val b.data.toList)) && l.all (jform Own Val)) := by
  rw [jform_eq, if_neg (by decide), if_neg (by decide), if_neg (by decide), if_neg (by decide), if_pos rfl, empty_iff]
theorem jf_else {Own Val k s n l} (h1 : ¬ (k = 1 ∨ k = 2 ∨ k = 3)) (h4 : k ≠ 4) (h5 : k ≠ 5) (h6 : k ≠ 6) (h7 : k ≠ 7) : jform Own Val ⟨k, s, n, l⟩ = false := by
  rw [jform_eq, if_neg h1, if_neg h4, if_neg h5, if_neg h6, if_neg h7]
theorem own_pair (u : List UInt8) (e : Int) (s : ByteArray) : decide ((u, e) = (s.data.toList, (0 : Int))) = (decide (e = 0) && decide ((⟨u.toArray⟩ : ByteArray) = s)) := by
  rw [Bool.eq_iff_iff]
  simp only [decide_eq_true_eq, Bool.and_eq_true, Prod.mk.injEq]
  constructor
  · rintro ⟨rfl, rfl⟩; exact ⟨rfl, rfl⟩
  · rintro ⟨rfl, rfl⟩; exact ⟨by simp, rfl⟩
def OwnSaysS (f : Nat) (Own : List UInt8 → List UInt8 × Int) : Prop := ∀ (s : ByteArray) (w : World), s.size ≤ 1000000 →
    Calls Tryz.prog f #[.string s] w fun e w' => e = .returned (.tuple #[.string ⟨(Own s.data.toList).1.toArray⟩, .int .i64 (Own s.data.toList).2]) ∧ Below w.heap.size w w'
def ValSays (f : Nat) (Val : List UInt8 → Bool) : Prop := ∀ (s : ByteArray) (w : World), s.size ≤ 1000000 →
    Calls Tryz.prog f #[.string s] w fun e w' => e = .returned (.bool (Val s.data.toList)) ∧ Below w.heap.size w w'

def FI (w wr : World) (A1 : Option Addr) (n c1 : Nat) (A : Option Addr) (m c : Nat) : Prop := w.heap.size < wr.heap.size ∧ wr.cell? ⟨w.heap.size, 2, none⟩ = some (.slice A1 n c1) ∧ wr.cell? ⟨w.heap.size, 3, none⟩ = some (.slice A m c) ∧ Below w.heap.size w wr
theorem FI.step {w wr w1 : World} {A1 : Option Addr} {n c1 : Nat} {A : Option Addr} {m c : Nat} (h : FI w wr A1 n c1 A m c) (hb : Below wr.heap.size wr w1) : FI w w1 A1 n c1 A m c := by
  obtain ⟨h1, h2, h3, h4⟩ := h
  exact ⟨Nat.lt_of_lt_of_le h1 hb.size, (hb.cell (p := ⟨w.heap.size, 2, none⟩) h1).trans h2, (hb.cell (p := ⟨w.heap.size, 3, none⟩) h1).trans h3, h4.trans (hb.mono (Nat.le_of_lt h1))⟩
end Go.Proofs.YtlnkjacbdolhnaaGreatDoor
