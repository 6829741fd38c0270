/-
  The abstract machine: loops over maps, whatever the order. No program.
-/
import Derived.Test.YtambgppdjlhdaaaGreatDoorEvRp
namespace Go.Proofs.YtambgppdjlhdaaaGreatDoor
open Go.RowKit

/-- The next entry of a map that nobody turns: one that has not come up, or the end. -/
theorem next_run {P : Program} {w : World} {r mm clock : Nat} {seen : Array Nat} {xs : Array MapEntry} {ty : TypeId} (h1 : w.heap[r]? = some (.mapIter (some mm) clock seen clock)) (h2 : w.heap[mm]? = some (.map xs clock)) (hb : ∀ e ∈ xs, e.born < clock) :
    ((∀ e ∈ xs, seen.contains e.born = true) ∧ (Instr.next (.pointer (some ⟨r, 0, none⟩)) false ty).run P w = .ok (.tuple #[.bool false]) w) ∨
    ∃ e ∈ xs, seen.contains e.born = false ∧ ∃ w1, (w1 = w ∨ w1 = w.drew) ∧ (Instr.next (.pointer (some ⟨r, 0, none⟩)) false ty).run P w = .ok (.tuple #[.bool true, e.key, e.val]) { w1 with heap := w1.heap.setIfInBounds r (.mapIter (some mm) clock (seen.push e.born) clock) } := by
  obtain ⟨left, hleft⟩ : ∃ l, xs.filter (fun e => !seen.contains e.born) = l := ⟨_, rfl⟩
  have hlb : ∀ e ∈ left, e.born < clock := fun e he => by rw [← hleft] at he; exact hb e (Array.mem_filter.1 he).1
  have hold : left.filter (fun e => decide (e.born < clock)) = left := by
    rw [Array.filter_eq_self]
    intro e he
    exact decide_eq_true (hlb e he)
  have hnew : left.filter (fun e => decide (e.born ≥ clock)) = #[] := by
    rw [Array.filter_eq_empty_iff]
    intro e he
    have := hlb e he
    simp
    omega
  have hall : (!seen.isEmpty && !xs.isEmpty && xs.all (fun e => decide (e.born ≥ clock))) = false := by
    cases hx : xs.isEmpty with
    | true => simp
    | false =>
      have hs : 0 < xs.size := by
        rcases Nat.eq_zero_or_pos xs.size with h | h
        · have : xs = #[] := Array.eq_empty_of_size_eq_zero h
          subst this
          simp at hx
        · exact h
      have : xs.all (fun e => decide (e.born ≥ clock)) = false := by
        rw [Bool.eq_false_iff]
        intro ha
        have h3 := (Array.all_eq_true_iff_forall_mem.1 ha) xs[0] (Array.getElem_mem hs)
        have h4 := hb xs[0] (Array.getElem_mem hs)
        simp at h3
        omega
      rw [this]
      simp
  have hlt : r < w.heap.size := (Array.getElem?_eq_some_iff.1 h1).1
  by_cases hl : left = #[]
  · left
    refine ⟨fun e he => ?_, ?_⟩
    · cases hc : seen.contains e.born with
      | true => rfl
      | false =>
        have : e ∈ left := by rw [← hleft]; exact Array.mem_filter.2 ⟨he, by rw [hc]; rfl⟩
        rw [hl] at this
        simp at this
    · unfold Instr.next
      simp only [Sem.run_bind, getObj, Sem.run, h1, Result.andThen_ok, h2]
      rw [hall]
      simp only [Bool.false_eq_true, if_false]
      rw [hleft, hold, hnew, hl]
      simp [choose, Sem.run, Question.forced]
  · right
    unfold Instr.next
    simp only [Sem.run_bind, getObj, Sem.run, h1, Result.andThen_ok, h2]
    rw [hall]
    simp only [Bool.false_eq_true, if_false]
    rw [hleft, hold, hnew]
    have hne : left.isEmpty = false := by
      rw [Bool.eq_false_iff]
      intro h
      exact hl (by simpa using h)
    rw [hne]
    simp only [Bool.false_eq_true, if_false, Array.empty_append, Array.append_empty, Array.size_map]
    have hpos : 0 < left.size := by
      rcases Nat.eq_zero_or_pos left.size with h | h
      · exact absurd (Array.eq_empty_of_size_eq_zero h) hl
      · exact h
    obtain ⟨k, w1, hk, hw1, hch⟩ : ∃ k w1, k < left.size ∧ (w1 = w ∨ w1 = w.drew) ∧ (choose (Question.mapNext left.size)).run P w = .ok k w1 := by
      by_cases hf : left.size ≤ 1
      · exact ⟨0, w, hpos, .inl rfl, by simp [choose, Sem.run, Question.forced, hf]⟩
      · exact ⟨w.tape w.drawn (.mapNext left.size) % left.size, w.drew, Nat.mod_lt _ hpos, .inr rfl, by simp [choose, Sem.run, Question.forced, hf, Question.cut]⟩
    obtain ⟨e, hke⟩ : ∃ e, left[k]? = some e := ⟨left[k], Array.getElem?_eq_getElem hk⟩
    have hmem : e ∈ left := Array.mem_of_getElem? hke
    rw [← hleft] at hmem
    obtain ⟨m1, m2⟩ := Array.mem_filter.1 hmem
    have m2' : seen.contains e.born = false := by
      cases hc : seen.contains e.born with
      | false => rfl
      | true => rw [hc] at m2; cases m2
    refine ⟨e, m1, m2', w1, hw1, ?_⟩
    have hr : w1.heap[r]? = some (.mapIter (some mm) clock seen clock) := by rcases hw1 with rfl | rfl <;> exact h1
    simp only [Sem.run_bind, hch, Result.andThen_ok, Array.getElem?_map, hke, Option.map_some, setObj, Sem.run, hr]
    rfl
end Go.Proofs.YtambgppdjlhdaaaGreatDoor
