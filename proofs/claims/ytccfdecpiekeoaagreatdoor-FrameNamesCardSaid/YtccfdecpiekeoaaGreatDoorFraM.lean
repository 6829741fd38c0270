/-
  The walks of rostrumref06.Same, at two slices that hold the same events, and of rostrumlaw06.back.
-/
import Derived.Test.YtccfdecpiekeoaaGreatDoorFrmBack
import Derived.Maps.AppendAt
import Derived.Laws.AppendOwnNone
namespace Go.Proofs.YtccfdecpiekeoaaGreatDoor
open Go.RowKit

/-- A slice that reads as these events; it lies below block B. -/
def EvR (w : World) (B : Nat) (A : Option Addr) (evs : List Evt) : Prop :=
  0 < evs.length → ∃ g o, A = some ⟨g, o, none⟩ ∧ g < B ∧ ∀ j u, (evCells evs)[j]? = some u → w.cell? ⟨g, o + j, none⟩ = some u
theorem EvR.below {w w' : World} {B : Nat} {A : Option Addr} {evs : List Evt} (h : EvR w B A evs) (hB : Below B w w') : EvR w' B A evs := fun hp => by
  obtain ⟨g, o, q1, q2, q3⟩ := h hp
  exact ⟨g, o, q1, q2, fun j u hu => (hB.cell q2).trans (q3 j u hu)⟩
theorem EvR.more {w : World} {B B' : Nat} {A : Option Addr} {evs : List Evt} (h : EvR w B A evs) (hB : B ≤ B') : EvR w B' A evs := fun hp => by
  obtain ⟨g, o, q1, q2, q3⟩ := h hp
  exact ⟨g, o, q1, by omega, q3⟩
theorem EvR.drewN {w : World} {B : Nat} {A : Option Addr} {evs : List Evt} (h : EvR w B A evs) (n : Nat) : EvR (w.drewN n) B A evs := h
theorem EvR.at {w : World} {B : Nat} {A : Option Addr} {evs : List Evt} (h : EvR w B A evs) {k : Nat} (hk : k < evs.length) :
    ∃ g o, A = some ⟨g, o, none⟩ ∧ w.cell? ⟨g, o + k * 2, none⟩ = some (.string ⟨evs[k].1.toArray⟩) ∧ w.cell? ⟨g, o + k * 2 + 1, none⟩ = some (.int .i64 evs[k].2) := by
  obtain ⟨g, o, q1, _, q3⟩ := h (by omega)
  obtain ⟨h1, h2⟩ := ev_cells_at evs k _ (List.getElem?_eq_getElem hk)
  exact ⟨g, o, q1, q3 _ _ h1, q3 _ _ h2⟩
/-- What a row of the call's own reads as. -/
theorem evr_own {w : World} {B t : Nat} {v : Value} {evs : List Evt} (h : w.ownsRow B t 2 v evs.length (evCells evs)) : ∃ A c, v = .slice A evs.length c ∧ EvR w w.heap.size A evs ∧ (A = none → c = 0) := by
  rcases h.2 with ⟨rfl, h0⟩ | ⟨g, cap, cur, rfl, _, hh, _⟩
  · exact ⟨none, 0, by rw [h0], fun hp => by omega, fun _ => rfl⟩
  · refine ⟨_, cap, rfl, fun _ => ⟨g, 0, rfl, (Array.getElem?_eq_some_iff.1 hh).1, fun j u hu => ?_⟩, fun e => by cases e⟩
    have hadd : (⟨g, 0, none⟩ : Addr).add j = ⟨g, j, none⟩ := by unfold Addr.add; split <;> simp_all
    have := h.cells (g := g) rfl j u hu
    rw [hadd] at this
    rw [Nat.zero_add]
    exact this

set_option maxHeartbeats 1000000 in
theorem refSame_any (A C : Option Addr) (ca cc : Nat) (evs : List Evt) (B : Nat) (w : World) (ha : EvR w B A evs) (hc : EvR w B C evs) (hl : evs.length ≤ 1099511627776) :
    Calls Tryz.prog 14 #[.slice A evs.length ca, .slice C evs.length cc] w fun e w' => e = .returned (.bool true) ∧ ∃ n, w' = w.drewN n := by
  replace ha := Lib.hid ha
  replace hc := Lib.hid hc
  go_enter Tryz.func14, Tryz.ntmps14
  go_wp2_with fail
  go_loopw [5] (fun i wr => ∃ k n : Nat, k ≤ evs.length ∧ i = .int .i64 k ∧ wr = w.drewN n) (fun i _ => evs.length - (intOf i).toNat)
  case atStart => exact ⟨0, 0, Nat.zero_le _, rfl, rfl⟩
  case round =>
    obtain ⟨k, n, hk, rfl, rfl⟩ := hrel
    by_cases hlt : k < evs.length
    · obtain ⟨g, o, rfl, x0, x1⟩ := ha.out.at hlt
      obtain ⟨g2, o2, rfl, y0, y1⟩ := hc.out.at hlt
      obtain ⟨S, hS⟩ : ∃ S : ByteArray, (⟨evs[k].1.toArray⟩ : ByteArray) = S := ⟨_, rfl⟩
      obtain ⟨q, hq⟩ : ∃ q, evs[k].2 = q := ⟨_, rfl⟩
      rw [hS] at x0 y0
      rw [hq] at x1 y1
      clear hS hq
      go_wp2_with fail
      go_quiet (fail)
      go_wp2_with fail
      go_roundw
      case rel => exact ⟨k + 1, n + nq, by omega, by go_num, by first | rfl | rw [World.drewN_drewN]⟩
      case measure => simp [intOf]; omega
    · go_wp2_with fail
      go_ret
      exact ⟨rfl, n, rfl⟩

set_option maxRecDepth 100000 in
set_option maxHeartbeats 4000000 in
theorem back_any (A : Option Addr) (c : Nat) (evs : List Evt) (w : World) (ha : EvR w w.heap.size A evs) (hl : evs.length ≤ 1099511627776) :
    Calls Tryz.prog 15 #[.slice A evs.length c] w (EvEnd 51 w evs) := by
  obtain ⟨i0, hi0, hz0, hz1, hz2⟩ := info_parts (show (Tryz.prog.info? 51).map (fun i => (i.zero, i.size, i.bytes)) = some (some (.agg #[.string ByteArray.empty, .int .i64 0]), 2, 24) by kernel_rfl)
  replace ha := Lib.hid ha
  go_enter Tryz.func15, Tryz.ntmps15
  go_wp2_with fail
  go_loopw [3, 4] (fun v i wr => ∃ k : Nat, k ≤ evs.length ∧ i = .int .i64 k ∧ wr.ownsRow w.heap.size 51 2 v k (evCells (evs.take k)) ∧ Below w.heap.size w wr) (fun _ i _ => evs.length - (intOf i).toNat)
  case atStart => exact ⟨0, Nat.zero_le _, rfl, World.ownsRow_nil _ _ _ _, Below.refl _ _⟩
  case round =>
    obtain ⟨k, hk, rfl, hown, hB⟩ := hrel
    by_cases hlt : k < evs.length
    · obtain ⟨g, o, rfl, x0, x1⟩ := (ha.out.below hB).at hlt
      have htk : evs.take (k + 1) = evs.take k ++ [evs[k]] := by rw [List.take_add_one, List.getElem?_eq_getElem hlt]; rfl
      obtain ⟨S, hS⟩ : ∃ S : ByteArray, (⟨evs[k].1.toArray⟩ : ByteArray) = S := ⟨_, rfl⟩
      obtain ⟨q, hq⟩ : ∃ q, evs[k].2 = q := ⟨_, rfl⟩
      have hcat : evCells (evs.take (k + 1)) = evCells (evs.take k) ++ [.string S, .int .i64 q] := by
        rw [htk, evCells_app, ← hS, ← hq]; rfl
      rw [hS] at x0
      rw [hq] at x1
      clear hS hq htk
      obtain ⟨v', w', hrun, h2, h3, _, _⟩ := run_append_own_at (P := Tryz.prog) (wr.drew.alloc (.cells #[.string S, .int .i64 q] 51)) w.heap.size 34 34 51 i0 _ 2 24 Tryz.underlying34 hi0 hz0 hz1 hz2 rfl (by decide) u3 k (evCells (evs.take k)) (hown.drew.alloc _) ⟨wr.heap.size, 0, none⟩ 1 1 [.string S, .int .i64 q] rfl (cell_two _ _ _ _) (fun x hx => by simp at hx; rcases hx with rfl | rfl <;> rfl) (by unfold maxLen; omega) (by omega) (by have := hB.size; simp; omega)
      have hB2 : Below w.heap.size w w' := Below.grown ((hB.drew).alloc (by have := hB.size; simpa using this) _) h3 (by have := hB.size; simp; omega) (fun j hj => (hown.lt j hj).1)
      rw [← hcat] at h2
      clear h3 hcat
      replace hown := Lib.hid hown
      replace hB := Lib.hid hB
      replace hB2 := Lib.hid hB2
      replace h2 := Lib.hid h2
      replace hrun := Lib.hid hrun
      go_wp2_with fail
      go_region_law (refine step_append_run rfl (.tmp 11) (.tmp 23) 34 34 rfl u3 (.slice (some ⟨wr.heap.size, 0, none⟩) 1 1) _ _ (by simp [Act.eval, Act.put]) (by simp [Act.eval, Act.put]) hrun.out ?_)
      all_goals
        go_wp2_with fail
        go_roundw
        case rel => exact ⟨k + 1, by omega, by go_num, h2.out, hB2.out⟩
        case measure => simp [intOf]; omega
    · have hfull : evs.take k = evs := List.take_of_length_le (by omega)
      have hke : k = evs.length := by omega
      rw [hfull] at hown
      have hown2 : wr.ownsRow w.heap.size 51 2 u3 evs.length (evCells evs) := by rw [← hke]; exact hown
      clear hown hfull hke
      replace hown2 := Lib.hid hown2
      replace hB := Lib.hid hB
      go_wp2_with fail
      go_ret
      exact ⟨_, rfl, hown2.out, hB.out⟩
end Go.Proofs.YtccfdecpiekeoaaGreatDoor
