/-
  The walk of rostrumlaw08.given: the document's parts as the program's, in new memory.
-/
import Derived.Test.YtghaoielnphhlaaGreatDoorLwE
import Derived.Test.YtghaoielnphhlaaGreatDoorM34
import Derived.Test.YtghaoielnphhlaaGreatDoorM36
namespace Go.Proofs.YtghaoielnphhlaaGreatDoor
open Go.RowKit

def partsRow (ps : List Pt) : List Value := ps.flatMap ptCells
theorem partsRow_at : ∀ (ps : List Pt) (i : Nat) (p : Pt), ps[i]? = some p → ∀ (j : Nat) (v : Value), (ptCells p)[j]? = some v → (partsRow ps)[i * 6 + j]? = some v
  | [], _, _, h, _, _, _ => by simp at h
  | y :: ps, 0, p, h1, j, v, h3 => by
    simp at h1; subst h1
    have hq : j < 6 := (List.getElem?_eq_some_iff.1 h3).1
    have e : partsRow (y :: ps) = ptCells y ++ partsRow ps := rfl
    rw [e, Nat.zero_mul, Nat.zero_add, List.getElem?_append_left hq]
    exact h3
  | y :: ps, i + 1, p, h1, j, v, h3 => by
    have := partsRow_at ps i p (by simpa using h1) j v h3
    have e : partsRow (y :: ps) = ptCells y ++ partsRow ps := rfl
    rw [e, List.getElem?_append_right (by show 6 ≤ _; omega)]
    show (partsRow ps)[(i + 1) * 6 + j - 6]? = some v
    rw [show (i + 1) * 6 + j - 6 = i * 6 + j by omega]
    exact this
theorem infoPt : (Tryz.prog.info? 87).map (fun i => (i.zero, i.size, i.bytes)) = some (some (.agg #[.int .i64 0, .int .i64 0, .int .i64 0, .int .i64 0, .int .i64 0, .string ByteArray.empty]), 6, 56) := by kernel_rfl
/-- A part more in a row. -/
theorem rowP_more {W : World} {B : Nat} {v : Value} {ps : List Pt} (h : W.ownsRow B 87 6 v ps.length (partsRow ps)) (hB : B ≤ W.heap.size) (p : Pt) (hn : ps.length ≤ 1000) :
    ∃ v' w4, (Builtin.append_ #[46, 46] 46 #[v, .slice (some ⟨W.heap.size, 0, none⟩) 1 1]).run Tryz.prog (W.alloc (.cells #[.int .i64 p.a, .int .i64 p.b, .int .i64 p.c, .int .i64 p.d, .int .i64 p.k, .string p.s] 87)) = .ok v' w4 ∧
      w4.ownsRow B 87 6 v' (ps.length + 1) (partsRow (ps ++ [p])) ∧ (W.alloc (.cells #[.int .i64 p.a, .int .i64 p.b, .int .i64 p.c, .int .i64 p.d, .int .i64 p.k, .string p.s] 87)).grownBy w4 v.ownBlock := by
  obtain ⟨i0, hi0, hz0, hz1, hz2⟩ := info_parts infoPt
  obtain ⟨v', w4, hrun, r2, r3, _, r5⟩ := run_append_own_at (P := Tryz.prog) (W.alloc (.cells #[.int .i64 p.a, .int .i64 p.b, .int .i64 p.c, .int .i64 p.d, .int .i64 p.k, .string p.s] 87)) B 46 46 87 i0 _ 6 56 Tryz.underlying46 hi0 hz0 hz1 hz2 rfl (by decide) v ps.length (partsRow ps) (h.alloc _) ⟨W.heap.size, 0, none⟩ 1 1 (ptCells p) rfl
    (fun j u hu => by
      have hadd : (⟨W.heap.size, 0, none⟩ : Addr).add j = ⟨W.heap.size, j, none⟩ := by unfold Addr.add; split <;> simp_all
      rw [hadd, (Cel.fresh W 87 #[.int .i64 p.a, .int .i64 p.b, .int .i64 p.c, .int .i64 p.d, .int .i64 p.k, .string p.s]).cell]
      simpa [ptCells] using hu)
    (fun u hu => by simp [ptCells] at hu; rcases hu with rfl | rfl | rfl | rfl | rfl | rfl <;> rfl) (by unfold maxLen; omega) (by omega) (by simp; omega)
  refine ⟨v', w4, hrun, ?_, r3⟩
  have e : partsRow (ps ++ [p]) = partsRow ps ++ ptCells p := by unfold partsRow; simp
  rw [e]
  exact r2
def GivenEnd8 (ps : List Pt) (w : World) (e : Ending) (w' : World) : Prop := ∃ A g c, e = .returned (.slice A ps.length c) ∧ PRow w' g 0 ps ∧ (0 < ps.length → A = some ⟨g, 0, none⟩ ∧ g < w'.heap.size) ∧ Below w.heap.size w w'
set_option maxRecDepth 100000 in
set_option maxHeartbeats 4000000 in
theorem given8_any (ps : List Pt) (A : Option Addr) (g o c : Nat) (w : World) (hP : PRow w g o ps) (hA : 0 < ps.length → A = some ⟨g, o, none⟩ ∧ g < w.heap.size) (hl : ps.length ≤ 1000) :
    Calls Tryz.prog 13 #[.slice A ps.length c] w (GivenEnd8 ps w) := by
  replace hP := Lib.hid hP
  obtain ⟨dq, hdq⟩ := rangeDesc
  replace hdq := Lib.hid hdq
  go_enter Tryz.func13, Tryz.ntmps13
  go_wp2_with fail
  go_loopw [3, 4] (fun v i wr => ∃ q : Nat, q ≤ ps.length ∧ i = .int .i64 q ∧ wr.ownsRow w.heap.size 87 6 v (ps.take q).length (partsRow (ps.take q)) ∧ Below w.heap.size w wr) (fun v i _ => ps.length - (intOf i).toNat)
  case atStart => exact ⟨0, Nat.zero_le _, rfl, World.ownsRow_nil _ _ _ _, Below.refl _ _⟩
  case round =>
    obtain ⟨q, hq, rfl, hrow, hB⟩ := hrel
    have hql : (ps.take q).length = q := by rw [List.length_take]; omega
    by_cases hlt : q < ps.length
    · obtain ⟨rfl, hg⟩ := hA (by omega)
      obtain ⟨p, hp⟩ : ∃ x, ps[q]? = some x := ⟨_, List.getElem?_eq_getElem hlt⟩
      obtain ⟨a0, a1, a2, a3, a4, a5⟩ := hP.out.atO hB hg hp
      have hsnoc : ps.take (q + 1) = ps.take q ++ [p] := by rw [List.take_add_one, hp]; rfl
      have hq0 : (0 : Int) ≤ (q : Int) := by omega
      have hq1 : (q : Int) < (ps.length : Int) := by omega
      obtain ⟨v', w4, hrun, hrow2, hgr⟩ := rowP_more (W := wr.drew) hrow hB.size p (by omega)
      rw [← hsnoc] at hrow2
      have hlen2 : (ps.take q).length + 1 = (ps.take (q + 1)).length := by rw [hsnoc]; simp
      rw [hlen2] at hrow2
      have hB2 : Below w.heap.size w w4 := Below.grown ((bel_drew hB).alloc (by exact hB.size) _) hgr (by have := hB.size; simp; omega) (fun j hj => (hrow.lt j hj).1)
      replace hrow2 := Lib.hid hrow2
      replace hB2 := Lib.hid hB2
      replace hrun := Lib.hid hrun
      replace hB := Lib.hid hB
      clear hgr hsnoc hlen2 hp hrow hql
      go_wp2_with fail
      go_region_law (first
        | (refine jl_step_run (by rfl) (.tmp 11) (.tmp 28) 46 46 (by rfl) u3 (.slice (some ⟨wr.heap.size, 0, none⟩) 1 1) _ w4 (by rfl) (by rfl) hrun.out ?_))
      all_goals
        go_wp2_with fail
        go_roundw
        case rel => exact ⟨q + 1, by omega, by go_num, hrow2.out, hB2.out⟩
        case measure => simp [intOf]; omega
    · have hfull : ps.take q = ps := List.take_of_length_le (by omega)
      rw [hfull] at hrow
      have hq1 : ¬ (q : Int) < (ps.length : Int) := by omega
      obtain ⟨A2, g2, c2, rfl, hcells⟩ : ∃ A2 g2 c2, u3 = .slice A2 ps.length c2 ∧ (0 < ps.length → A2 = some ⟨g2, 0, none⟩ ∧ g2 < wr.heap.size ∧ ∀ (i : Nat) u, (partsRow ps)[i]? = some u → wr.cell? ⟨g2, i, none⟩ = some u) := by
        by_cases h0 : 0 < ps.length
        · obtain ⟨g2, c2, e, _, h2, h3⟩ := row_cells hrow h0
          exact ⟨some ⟨g2, 0, none⟩, g2, c2, e, fun _ => ⟨rfl, h2, h3⟩⟩
        · have hz : ps.length = 0 := by omega
          rcases hrow.2 with ⟨e, _⟩ | ⟨g2, cap, cur, e, _⟩
          · exact ⟨none, 0, 0, by rw [e, hz], fun h => absurd h h0⟩
          · exact ⟨_, g2, cap, e, fun h => absurd h h0⟩
      replace hB := Lib.hid hB
      clear hrow hfull hP hql
      go_wp2_with fail
      refine bodyPost_ret (v := .slice A2 ps.length c2) (by simp [results, Tryz.results13, go_sem]) rfl ⟨A2, g2, c2, rfl, fun i p hp j u hu => ?_, fun h => ⟨(hcells h).1, (hcells h).2.1⟩, hB.out⟩
      have h0 : 0 < ps.length := by have := (List.getElem?_eq_some_iff.1 hp).1; omega
      rw [Nat.zero_add]
      exact (hcells h0).2.2 _ _ (partsRow_at ps i p hp j u hu)
end Go.Proofs.YtghaoielnphhlaaGreatDoor
