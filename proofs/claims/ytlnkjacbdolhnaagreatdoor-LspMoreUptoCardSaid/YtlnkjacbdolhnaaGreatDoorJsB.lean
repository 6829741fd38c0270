/-
  The walk of the document's Same over JSON values.
-/
import Derived.Test.YtlnkjacbdolhnaaGreatDoorM01
import Derived.BigQuiet
import Derived.Lib.Strings
import Derived.Deep.QuietTactic
import Derived.Deep.RegionHeld3
namespace Go.Proofs.YtlnkjacbdolhnaaGreatDoor
open Go.RowKit

theorem jtl_eq (s : ByteArray) : s.toList = s.data.toList := Go.Lib.toList_data s
theorem jstr_ext {a b : ByteArray} (h : a.data.toList = b.data.toList) : a = b := by
  cases a; cases b
  simp only [ByteArray.mk.injEq]
  exact Array.toList_inj.1 h
theorem jeq_f {a b : ByteArray} (h : a ≠ b) : (a.toList == b.toList) = false := by
  rw [jtl_eq, jtl_eq]
  cases h2 : (a.data.toList == b.data.toList) with
  | false => rfl
  | true => exact absurd (jstr_ext (eq_of_beq h2)) h
theorem StrL.at {w wr : World} {X : Nat → Prop} {L : List ByteArray} {A : Option Addr} {c n : Nat} (h : StrL w X (.slice A n c) L) (hB : Below w.heap.size w wr) {i : Nat} (hi : i < L.length) :
    ∃ g o, A = some ⟨g, o, none⟩ ∧ wr.cell? ⟨g, o + i, none⟩ = some (.string L[i]) := by
  obtain ⟨A', c', he, h1⟩ := h
  injection he with he1 _ _
  subst he1
  obtain ⟨g, o, q1, _, q3, q4⟩ := h1 (by omega)
  exact ⟨g, o, q1, (hB.cell (p := ⟨g, o + i, none⟩) q3).trans (q4 i _ (List.getElem?_eq_getElem hi))⟩
theorem StrL.len {w : World} {X : Nat → Prop} {v : Value} {L : List ByteArray} (h : StrL w X v L) : ∃ A c, v = .slice A L.length c := by
  obtain ⟨A, c, h1, _⟩ := h
  exact ⟨A, c, h1⟩

theorem js_kind {k s n l k' s' n' l'} (h : k ≠ k') : jsame ⟨k, s, n, l⟩ ⟨k', s', n', l'⟩ = false := by
  rw [jsame_eq1]; simp [h]
theorem js_text {k s n l k' s' n' l'} (h : s ≠ s') : jsame ⟨k, s, n, l⟩ ⟨k', s', n', l'⟩ = false := by
  rw [jsame_eq1]; simp [h]
theorem js_names {k s n l k' s' n' l'} (h : n ≠ n') : jsame ⟨k, s, n, l⟩ ⟨k', s', n', l'⟩ = false := by
  rw [jsame_eq1]; simp [h]
theorem js_len {k s n l k' s' n' l'} (h : l.length ≠ l'.length) : jsame ⟨k, s, n, l⟩ ⟨k', s', n', l'⟩ = false := by
  rw [jsame_eq1]; simp [h]
theorem js_list {k s n l l'} (h : l.length = l'.length) : jsame ⟨k, s, n, l⟩ ⟨k, s, n, l'⟩ = (l.zip l').all fun p => jsame p.1 p.2 := by
  rw [jsame_eq1]; simp [h]
/-- How far two lists are the same, item by item. -/
def sameTo (zs ys : List JE) (q : Nat) : Bool := ((zs.zip ys).take q).all fun p => jsame p.1.1 p.2.1
theorem sameTo_step {zs ys : List JE} {q : Nat} {z y : JE} (h1 : zs[q]? = some z) (h2 : ys[q]? = some y) : sameTo zs ys (q + 1) = (sameTo zs ys q && jsame z.1 y.1) := by
  unfold sameTo
  have h3 : (zs.zip ys)[q]? = some (z, y) := List.getElem?_zip_eq_some.2 ⟨h1, h2⟩
  rw [List.take_add_one, h3]
  simp
theorem sameTo_full (zs ys : List JE) : sameTo zs ys (max zs.length ys.length) = ((zs.map (·.1)).zip (ys.map (·.1))).all fun p => jsame p.1 p.2 := by
  unfold sameTo
  rw [List.take_of_length_le (by rw [List.length_zip]; omega), List.zip_map, List.all_map]
  rfl
theorem sameTo_false {zs ys : List JE} {q : Nat} (h : sameTo zs ys q = false) : (((zs.map (·.1)).zip (ys.map (·.1))).all fun p => jsame p.1 p.2) = false := by
  rw [← sameTo_full]
  unfold sameTo at h ⊢
  rw [List.take_of_length_le (by rw [List.length_zip]; omega)]
  rw [List.all_eq_false] at h ⊢
  obtain ⟨p, hp, hn⟩ := h
  exact ⟨p, List.mem_of_mem_take hp, hn⟩

def SameSays (f : Nat) (a : Jsn) : Prop := ∀ (b : Jsn) (X Y : Nat → Prop) (w : World) (vn vl un ul : Value), JV w X a vn vl → JV w Y b un ul → jbulk a ≤ 1000000000000000 → jbulk b ≤ 1000000000000000 →
    Calls Tryz.prog f #[.agg #[.int .u8 a.kind, .string a.text, vn, vl], .agg #[.int .u8 b.kind, .string b.text, un, ul]] w fun e w' => e = .returned (.bool (jsame a b)) ∧ Below w.heap.size w w'

end Go.Proofs.YtlnkjacbdolhnaaGreatDoor
