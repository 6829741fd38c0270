/-
  Chunks as an argument; the walk of rostrumlaw06.long.
-/
import Derived.Test.YtccfdecpiekeoaaGreatDoorFraM
namespace Go.Proofs.YtccfdecpiekeoaaGreatDoor
open Go.RowKit

/-- A chunk as it lies: its array, its capacity, its bytes. -/
abbrev Chk := Option Addr × Nat × List UInt8
/-- A slice of slices of bytes. -/
def ChkS (w : World) (B : Nat) (A : Option Addr) (L : List Chk) : Prop :=
  (0 < L.length → ∃ ad, A = some ad ∧ ad.block < B ∧ ∀ j x, L[j]? = some x → w.cell? (ad.add j) = some (.slice x.1 x.2.2.length x.2.1)) ∧ ∀ x ∈ L, Byt w x.1 x.2.1 x.2.2 (fun _ => False)
def chkSum (L : List Chk) : Nat := (L.map fun x => x.2.2.length).sum
theorem chkSum_take (L : List Chk) {k : Nat} (hk : k < L.length) : chkSum (L.take (k + 1)) = chkSum (L.take k) + (L[k]).2.2.length := by
  unfold chkSum
  rw [List.take_add_one, List.getElem?_eq_getElem hk, List.map_append, List.sum_append]
  simp
theorem chkSum_le : ∀ (L : List Chk) (k : Nat), chkSum (L.take k) ≤ chkSum L := by
  intro L k
  have : chkSum L = chkSum (L.take k) + chkSum (L.drop k) := by
    unfold chkSum
    rw [← List.sum_append, ← List.map_append, List.take_append_drop]
  omega
theorem ChkS.at {w : World} {B : Nat} {A : Option Addr} {L : List Chk} (h : ChkS w B A L) {k : Nat} (hk : k < L.length) : ∃ ad, A = some ad ∧ w.cell? (ad.add k) = some (.slice (L[k]).1 (L[k]).2.2.length (L[k]).2.1) := by
  obtain ⟨ad, q1, _, q3⟩ := h.1 (by omega)
  exact ⟨ad, q1, q3 k _ (List.getElem?_eq_getElem hk)⟩

def LongEnd (L : List Chk) (w : World) (e : Ending) (w' : World) : Prop := ∃ r : Bool, e = .returned (.bool r) ∧ (r = false → L.length ≤ 300 ∧ chkSum L < 6000) ∧ w = w'
set_option maxRecDepth 100000 in
set_option maxHeartbeats 1000000 in
theorem long_any (A : Option Addr) (c : Nat) (L : List Chk) (w : World) (hL : ChkS w w.heap.size A L) (hl : L.length ≤ 9223372036854775807) :
    Calls Tryz.prog 18 #[.slice A L.length c] w (LongEnd L w) := by
  replace hL := Lib.hid hL
  by_cases h300 : 300 < L.length
  · go_enter Tryz.func18, Tryz.ntmps18
    go_wp2_with fail
    go_ret
    exact ⟨true, rfl, (fun h => by cases h), rfl⟩
  go_enter Tryz.func18, Tryz.ntmps18
  go_wp2_with fail
  go_loop [3, 4] (fun n i => ∃ (k s : Nat), k ≤ L.length ∧ s ≤ 12000 ∧ i = .int .i64 k ∧ n = .int .i64 s ∧ s = chkSum (L.take k)) (fun _ i => L.length - (intOf i).toNat)
  case atStart => exact ⟨0, 0, Nat.zero_le _, by omega, rfl, rfl, by simp [chkSum]⟩
  case round =>
    obtain ⟨k, s, hk, hs, rfl, rfl, hsum⟩ := hrel
    have hle := chkSum_le L k
    replace hsum := Lib.hid hsum
    by_cases hlt : k < L.length
    · by_cases h6 : s < 6000
      · obtain ⟨ad, rfl, hcell⟩ := hL.out.at hlt
        have hst := chkSum_take L hlt
        obtain ⟨y, hy⟩ : ∃ y, L[k] = y := ⟨_, rfl⟩
        rw [hy] at hcell hst
        clear hy
        obtain ⟨m, hm⟩ : ∃ m, y.2.2.length = m := ⟨_, rfl⟩
        rw [hm] at hcell hst
        clear hm
        by_cases hbig : 6000 ≤ m
        · go_wp2_with fail
          go_ret
          exact ⟨true, rfl, (fun h => by cases h), rfl⟩
        · go_wp2_with fail
          go_round
          case rel => exact ⟨k + 1, s + m, by omega, by omega, by go_num, by go_num, by rw [hst, ← hsum.out]⟩
          case measure => simp [intOf]; omega
      · go_wp2_with fail
        go_ret
        exact ⟨true, rfl, (fun h => by cases h), rfl⟩
    · have hsum2 := hsum.out
      rw [List.take_of_length_le (by omega)] at hsum2
      clear hsum
      replace hsum2 := Lib.hid hsum2
      go_wp2_with fail
      go_ret
      exact ⟨decide (6000 ≤ (s : Int)), rfl, fun h => ⟨by omega, by have := hsum2.out; have := of_decide_eq_false h; omega⟩, rfl⟩

set_option maxRecDepth 100000 in
set_option maxHeartbeats 2000000 in
theorem frmCopy_any (b : Nat) (h : List UInt8) (k : Bool) (X : Nat → Prop) (w : World) (hR : RdAt w b h k X) (hs : h.length ≤ 1099511627776) :
    Calls Tryz.prog 19 #[.pointer (some ⟨b, 0, none⟩)] w fun e w' => ∃ g, e = .returned (.pointer (some ⟨g, 0, none⟩)) ∧ w.heap.size ≤ g ∧ RdAt w' g h k (fun j => j = g ∨ j < w.heap.size) ∧ Below w.heap.size w w' := by
  obtain ⟨A, cp, hC, hB⟩ := hR
  obtain ⟨x0, x1, f0, f1⟩ := hC.two
  go_enter Tryz.func19, Tryz.ntmps19
  obtain ⟨A', c', w1, hrun, hY1, hB1⟩ := run_append_byt (w := (w.alloc (.cells #[] 5)).drew) (A := some ⟨w.heap.size, 0, none⟩) (C := A) (c0 := 0) (c2 := cp) (h := []) (l := h) (X := fun j => j < w.heap.size) (Y := X) ⟨Nat.le_refl _, by omega, Or.inr ⟨_, rfl, fun hp => absurd hp (by simp), fun j u hu => by simp at hu⟩⟩ (hB.alloc _).drew (fun j hj => by simp [World.drew]; omega) (by simpa using hs) 27
  rw [List.nil_append] at hrun hY1
  have hB1' : Below w.heap.size w w1 := (((Below.refl w.heap.size w).alloc (Nat.le_refl _) _).drew).trans (hB1.mono (by simp [World.drew]))
  have hs1 : w.heap.size < w1.heap.size := by have := hB1.size; simp [World.drew] at this; omega
  obtain ⟨n', hn'⟩ : ∃ n', h.length = n' := ⟨_, rfl⟩
  have hbl := hC.lt
  have y0 := (hC.alloc (.cells #[] 5)).cell 0
  have y1 := (hC.alloc (.cells #[] 5)).cell 1
  have z1 := (hC.below hB1' hbl).cell 1
  simp only [List.getElem?_toArray, List.getElem?_cons_zero, List.getElem?_cons_succ] at y0 y1 z1
  rw [hn'] at hrun x0 y0
  replace hrun := Lib.hid hrun
  replace hY1 := Lib.hid hY1
  replace hB1' := Lib.hid hB1'
  replace hn' := Lib.hid hn'
  clear hB1 hC hB
  go_upto_region 3 with (fail)
  go_region_law (refine step_append_run rfl (.tmp 5) (.tmp 9) 27 27 rfl (.slice (some ⟨w.heap.size, 0, none⟩) 0 0) (.slice A n' cp) _ _ (by simp [Act.eval, Act.put]) (by simp [Act.eval, Act.put]) hrun.out ?_)
  all_goals
    go_wp2_with fail
    go_ret
    refine ⟨_, rfl, by omega, ⟨A', c', ?_, ?_⟩, ?_⟩
    · rw [hn'.out]; exact Cel.fresh _ _ _
    · exact (hY1.out.mono (Y := fun j => j = w1.heap.size ∨ j < w.heap.size) (fun j hj hy => by rcases hy with hy | hy; (exact absurd hy (by omega)); exact hy)).alloc _
    · exact hB1'.out.alloc (by omega) _

/-- What a row of the call's own reads as; its capacity. -/
theorem evr_own_cap {w : World} {B t : Nat} {v : Value} {evs : List Evt} (h : w.ownsRow B t 2 v evs.length (evCells evs)) : ∃ A c, v = .slice A evs.length c ∧ EvR w w.heap.size A evs ∧ evs.length ≤ c := by
  rcases h.2 with ⟨rfl, h0⟩ | ⟨g, cap, cur, rfl, _, hh, hnc, _⟩
  · exact ⟨none, 0, by rw [h0], fun hp => by omega, by omega⟩
  · refine ⟨_, cap, rfl, fun _ => ⟨g, 0, rfl, (Array.getElem?_eq_some_iff.1 hh).1, fun j u hu => ?_⟩, hnc⟩
    have hadd : (⟨g, 0, none⟩ : Addr).add j = ⟨g, j, none⟩ := by unfold Addr.add; split <;> simp_all
    have := h.cells (g := g) rfl j u hu
    rw [hadd] at this
    rw [Nat.zero_add]
    exact this
theorem evCells_drop : ∀ (l : List Evt) (k : Nat), evCells (l.drop k) = (evCells l).drop (k * 2)
  | l, 0 => by simp
  | [], k + 1 => by simp [evCells]
  | x :: l, k + 1 => by
    have : (k + 1) * 2 = k * 2 + 1 + 1 := by omega
    rw [List.drop_succ_cons, evCells_drop l k, this]
    rfl
theorem EvR.drop {w : World} {B : Nat} {A : Option Addr} {c : Nat} {evs : List Evt} (h : EvR w B A evs) (hc : evs.length ≤ c) (k : Nat) : EvR w B (if c = k then A else A.map (·.add (k * 2))) (evs.drop k) := by
  intro hp
  rw [List.length_drop] at hp
  rw [if_neg (by omega)]
  obtain ⟨g, o, rfl, q2, q3⟩ := h (by omega)
  have hadd : (⟨g, o, none⟩ : Addr).add (k * 2) = ⟨g, o + k * 2, none⟩ := by unfold Addr.add; split <;> simp_all
  refine ⟨g, o + k * 2, by simp [hadd], q2, fun j u hu => ?_⟩
  rw [evCells_drop, List.getElem?_drop] at hu
  have := q3 _ u hu
  rwa [← Nat.add_assoc] at this
theorem slice_runE (A : Option Addr) (n c k : Nat) (hk : k ≤ n) (W : World) :
    (Instr.sliceAt 34 (.slice A n c) (some (.int .i64 k)) none none).run Tryz.prog W = .ok (.slice (if c = k then A else A.map (·.add (k * 2))) (n - k) (c - k)) W := by
  have he : Tryz.prog.elem 34 = 51 := by kernel_rfl
  have hu : Tryz.prog.underlying 34 = some (.slice (Tryz.prog.elem 34)) := by rw [he]; exact Tryz.underlying34
  rw [run_sliceAt_slice W _ _ _ _ _ hu, run_slice_l W _ A n c hu .i64 k (by omega) (by omega), he]
  have hs : (sizeOf 51).run Tryz.prog W = .ok 2 W := by kernel_rfl
  rw [hs]
  simp only [Result.andThen, sliced, Int.toNat_natCast]
end Go.Proofs.YtccfdecpiekeoaaGreatDoor
