/-
  A fresh copy of bytes, its cells free to be written; events and bytes that are the call's own.
-/
import Derived.Test.YtccfdecpiekeoaaGreatDoorFraO
namespace Go.Proofs.YtccfdecpiekeoaaGreatDoor
open Go.RowKit

/-- The cells of a slice (elements of this size) lie in a block of the call's own, from B on, and may be written. -/
def OwnC (w : World) (B T t sz : Nat) (A : Option Addr) (n : Nat) : Prop :=
  0 < n → ∃ g cs, A = some ⟨g, 0, none⟩ ∧ B ≤ g ∧ g < T ∧ Cel w g t cs ∧ n * sz ≤ cs.size
theorem OwnC.keep {w w' : World} {B T t sz n : Nat} {A : Option Addr} (h : OwnC w B T t sz A n) (hk : ∀ g, B ≤ g → g < T → g < w.heap.size → w'.heap[g]? = w.heap[g]?) : OwnC w' B T t sz A n := fun hp => by
  obtain ⟨g, cs, q1, q2, q2', q3, q4⟩ := h hp
  exact ⟨g, cs, q1, q2, q2', (hk g q2 q2' q3.lt).trans q3, q4⟩
theorem own_ownC {w : World} {B t sz : Nat} {v : Value} {n : Nat} {xs : List Value} (h : w.ownsRow B t sz v n xs) : ∃ A c, v = .slice A n c ∧ OwnC w B w.heap.size t sz A n := by
  rcases h.2 with ⟨rfl, h0⟩ | ⟨g, cap, cur, rfl, hg, hh, hnc, rest⟩
  · exact ⟨none, 0, by rw [h0], fun hp => by omega⟩
  · refine ⟨_, cap, rfl, fun _ => ⟨g, cur, rfl, hg, (Array.getElem?_eq_some_iff.1 hh).1, hh, ?_⟩⟩
    rw [rest.2.1]; exact Nat.mul_le_mul_right _ hnc
theorem ChkS.below {w w' : World} {B : Nat} {A : Option Addr} {L : List Chk} (h : ChkS w B A L) (hB : B = w.heap.size) (hb : Below B w w') : ChkS w' B A L := by
  refine ⟨fun hp => ?_, fun x hx => (h.2 x hx).below (hB ▸ hb)⟩
  obtain ⟨ad, q1, q2, q3⟩ := h.1 hp
  exact ⟨ad, q1, q2, fun j x hx => (hb.cell (by rw [block_add]; exact q2)).trans (q3 j x hx)⟩
theorem EvN.grow {w w' : World} {B : Nat} {A : Option Addr} {evs : List Evt} {row : Option Nat} (h : EvN w B A evs) (hg : w.grownBy w' row) (hr : ∀ g, row = some g → g < B) : EvN w' B A evs := fun hp => by
  obtain ⟨g, o, q1, q2, q3, q4⟩ := h hp
  exact ⟨g, o, q1, q2, Nat.lt_of_lt_of_le q3 hg.size, fun j u hu => (World.cell?_of_block (hg.block g q3 (fun e => by have := hr _ e.symm; omega))).trans (q4 j u hu)⟩
theorem EvN.evr {w : World} {B : Nat} {A : Option Addr} {evs : List Evt} (h : EvN w B A evs) : EvR w w.heap.size A evs := fun hp => by
  obtain ⟨g, o, q1, _, q3, q4⟩ := h hp
  exact ⟨g, o, q1, q3, q4⟩
theorem RdAt.wide {w : World} {b : Nat} {h : List UInt8} {k : Bool} {X Y : Nat → Prop} (hR : RdAt w b h k X) (hXY : ∀ j, j < w.heap.size → Y j → X j) : RdAt w b h k Y := by
  obtain ⟨A, c, hC, hY⟩ := hR
  exact ⟨A, c, hC, hY.mono hXY⟩
/-- append([]byte{}, l...): the bytes in a row of the call's own. -/
theorem run_append_fresh {w : World} {C : Option Addr} {c2 g0 : Nat} {l : List UInt8} {Y : Nat → Prop} (hl : Byt w C c2 l Y) (hs : l.length ≤ 1000000) (ty : TypeId) :
    ∃ A' c' w', (Builtin.append_ #[27, 27] ty #[.slice (some ⟨g0, 0, none⟩) 0 0, .slice C l.length c2]).run Tryz.prog w = .ok (.slice A' l.length c') w' ∧ Byt w' A' c' l (fun j => j < w.heap.size) ∧ Below w.heap.size w w' ∧ OwnC w' w.heap.size w'.heap.size 5 1 A' l.length := by
  by_cases hl0 : l = []
  · subst hl0
    obtain ⟨A', c', w', h1, h2, h3⟩ := run_append_byt (w := w) (A := some ⟨g0, 0, none⟩) (C := C) (c0 := 0) (c2 := c2) (h := []) (l := []) (X := fun j => j < w.heap.size) (Y := Y) ⟨Nat.le_refl _, by omega, Or.inr ⟨_, rfl, fun hp => absurd hp (by simp), fun j u hu => by simp at hu⟩⟩ hl (fun j hj => hj) (by simp) ty
    exact ⟨A', c', w', h1, h2, h3, fun hp => absurd hp (by simp)⟩
  · obtain ⟨i0, hi0, hz0, hz1, hz2⟩ := info_parts infoU8
    obtain ⟨l1, l2, l3⟩ := hl
    rcases l3 with ⟨_, q, _⟩ | ⟨cd, rfl, _, lc⟩
    · exact absurd q hl0
    · have hlp : 0 < l.length := List.length_pos_iff.2 hl0
      obtain ⟨v', w', hrun, hown, hg⟩ := run_append_arg_grows (P := Tryz.prog) w 27 ty 5 i0 (.int .u8 0) 1 1 Tryz.underlying27 hi0 hz0 hz1 hz2 rfl (by decide) ⟨g0, 0, none⟩ 0 0 [] (by simp) (fun j u hu => by simp at hu) cd l.length c2 (byC l) (by unfold byC; simp) (fun j u hu => by
        obtain ⟨x, hx, rfl⟩ := byC_at hu
        exact lc j x hx) (by omega) (by unfold maxLen; omega) (by omega)
      rw [List.nil_append, Nat.zero_add] at hown
      obtain ⟨A', c', rfl, hbt⟩ := byt_own (X := fun j => j < w.heap.size) hown (fun j hj => hj)
      obtain ⟨A2, c3, he, hoc⟩ := own_ownC hown
      injection he with he1 he2 he3
      subst he1
      exact ⟨_, c', w', hrun, hbt, ⟨hg.os, hg.tape, hg.output, hg.size, fun k hk => hg.block k hk (by simp)⟩, hoc⟩
end Go.Proofs.YtccfdecpiekeoaaGreatDoor
