/-
  The walk of the JSON reader's number.
-/
import Derived.Test.YtghaoielnphhlaaGreatDoorM23
import Derived.Deep.RegionHeld3
import Derived.Test.YtghaoielnphhlaaGreatDoorM18
namespace Go.Proofs.YtghaoielnphhlaaGreatDoor
open Go.RowKit

def numB : ByteArray := ⟨#[48, 49, 50, 51, 52, 53, 54, 55, 56, 57, 43, 45, 46, 101, 69]⟩
def NumEnd (b it : Nat) (w : World) (s : List UInt8) (r : List UInt8 × Int) (e : Ending) (w' : World) : Prop := But w.heap.size b w w' ∧ (if r.2 = 0 then e = .returned (.agg #[.int .u8 4, .string (ofL r.1), .slice none 0 0, .slice none 0 0]) ∧ RJ w' b s it else e = Pan r.2)
end Go.Proofs.YtghaoielnphhlaaGreatDoor


/-
  The walk of the JSON reader's list: things with commas between, by a closure.
-/
namespace Go.Proofs.YtghaoielnphhlaaGreatDoor
open Go.RowKit

/-- What a closure that reads one thing leaves; what list leaves. -/
def LEnd {σ : Type} (I : σ → List UInt8 → World → Prop) (K : World → Prop) (R : Except Int (σ × List UInt8)) (e : Ending) (w' : World) : Prop := match R with
  | .error c => e = Pan c ∧ K w'
  | .ok (st, s) => e = .returned (.tuple #[]) ∧ I st s w'
def jEnd {σ : Type} (endb : UInt8) (st : σ) (s : List UInt8) : Except Int (σ × List UInt8) := if ([endb] : List UInt8).isPrefixOf s = true then .ok (st, s.drop 1) else .error 4
def yes01 : Value → Nat
  | .bool true => 1
  | _ => 0
/-- What a round of list knows. -/
def LstI {σ : Type} (one : σ → List UInt8 → Except Int (σ × List UInt8)) (endb : UInt8) (I : σ → List UInt8 → World → Prop) (R : Except Int (σ × List UInt8)) (m : Value) (wr : World) : Prop :=
  ∃ st s, I st s wr ∧ s.length ≤ 1000000 ∧ ((m = .bool true ∧ jLoop one endb st s = R) ∨ (m = .bool false ∧ jEnd endb st s = R))
end Go.Proofs.YtghaoielnphhlaaGreatDoor


/-
  The walk of the JSON reader's closure that reads one item of an Array.
-/
namespace Go.Proofs.YtghaoielnphhlaaGreatDoor
open Go.RowKit

theorem RowO.keep {w w' : World} {B : Nat} {tS tJ : TypeId} {v : Value} {l : List Jsn} (h : RowO w B tS tJ v l) (hk : ∀ k, B ≤ k → k < w.heap.size → w'.heap[k]? = w.heap[k]?) (hs : w.heap.size ≤ w'.heap.size) : RowO w' B tS tJ v l := by
  obtain ⟨ws, h1, h2, h3, h4⟩ := h
  refine ⟨ws, h1, ⟨h2.1, ?_⟩, fun i x u hx hu => ?_, h4⟩
  · rcases h2.2 with e | ⟨g, cap, cur, e1, e2, e3, e4⟩
    · exact .inl e
    · exact .inr ⟨g, cap, cur, e1, e2, (hk g e2 (Array.getElem?_eq_some_iff.1 e3).1).trans e3, e4⟩
  · obtain ⟨q1, q2, q3, q4, q5⟩ := h3 i x u hx hu
    exact ⟨q1, q2, Nat.le_trans q3 hs, q4, OwnJ.keep x q5 (fun b hb1 hb2 => hk b (by omega) (by omega)) (Nat.le_refl _) (Nat.le_refl _)⟩
theorem RowO.but {w w' : World} {B b : Nat} {tS tJ : TypeId} {v : Value} {l : List Jsn} (h : RowO w B tS tJ v l) (hb : But w.heap.size b w w') (hlt : b < B) : RowO w' B tS tJ v l := h.keep (fun k h1 h2 => hb.block k h2 (by omega)) hb.size
/-- A world cut off behind so many blocks. -/
def wcut (w : World) (n : Nat) : World := { w with heap := w.heap.extract 0 n }
def zero4 : List Value := [.int .u8 0, .string ⟨#[]⟩, .slice none 0 0, .slice none 0 0]
/-- A value laid over the place behind a row. -/
def lay4 (w : World) (g n : Nat) (a b c d : Value) : World := (((w.setCell ⟨g, n, none⟩ a).setCell ⟨g, n + 1, none⟩ b).setCell ⟨g, n + 2, none⟩ c).setCell ⟨g, n + 3, none⟩ d
theorem lay4_size (w : World) (g n : Nat) (a b c d : Value) : (lay4 w g n a b c d).heap.size = w.heap.size := by unfold lay4; simp
theorem lay4_other (w : World) (g n : Nat) (a b c d : Value) {k : Nat} (hk : k ≠ g) : (lay4 w g n a b c d).heap[k]? = w.heap[k]? := by
  unfold lay4
  rw [Below.heap_setCell _ _ _ _ hk, Below.heap_setCell _ _ _ _ hk, Below.heap_setCell _ _ _ _ hk, Below.heap_setCell _ _ _ _ hk]
/-- One value more, somewhere in memory of the call's own (w3), appended (w4). -/
theorem RowW.snoc2 {w3 w4 : World} {B lo hi : Nat} {tS tJ : TypeId} {v v' : Value} {l : List Jsn} {ws : List OE} {x : Jsn} {vn vl : Value} (h : RowW w3 B tS tJ v l ws) (hend : ∀ u ∈ ws, u.2.2.2 ≤ lo) (hBl : B ≤ lo) (hlh : lo ≤ hi) (hhi : hi ≤ w3.heap.size)
    (hx : OwnJ w3 tS tJ x lo hi vn vl) (hout : ∀ g, v.ownBlock = some g → ¬ (lo ≤ g ∧ g < hi))
    (hown : w4.ownsRow B tJ 4 v' (l.length + 1) (rowCells l ws ++ encJ (x, vn, vl)))
    (hgr : w3.grownBy w4 v.ownBlock) (hbl : v'.ownBlock = v.ownBlock ∨ ∃ k, v'.ownBlock = some k ∧ w3.heap.size ≤ k) : RowW w4 B tS tJ v' (l ++ [x]) (ws ++ [(vn, vl, lo, hi)]) := by
  obtain ⟨h1, h2, h3, h4⟩ := h
  have hgs := hgr.size
  have hkeep : ∀ (y : Jsn) (a b : Nat) (yn yl : Value), OwnJ w3 tS tJ y a b yn yl → b ≤ w3.heap.size → (∀ g, v.ownBlock = some g → ¬ (a ≤ g ∧ g < b)) → OwnJ w4 tS tJ y a b yn yl := fun y a b yn yl hy hb hg =>
    OwnJ.keep y hy (fun c h5 h6 => hgr.block c (by omega) (fun e => hg c e.symm ⟨h5, h6⟩)) (Nat.le_refl _) (Nat.le_refl _)
  have hvb : ∀ (a b : Nat), b ≤ w3.heap.size → (∀ g, v.ownBlock = some g → ¬ (a ≤ g ∧ g < b)) → ∀ g, v'.ownBlock = some g → ¬ (a ≤ g ∧ g < b) := fun a b hb hg g hg' => by
    rcases hbl with e | ⟨k, e, hk⟩
    · exact hg g (by rw [← e]; exact hg')
    · rw [e] at hg'; injection hg' with hg'; omega
  refine ⟨by simp [h1], ?_, fun i y u hy hu => ?_, fun i j u z hij hu hz => ?_⟩
  · rw [rowCells_snoc h1, List.length_append]
    exact hown
  · by_cases hi' : i < l.length
    · rw [List.getElem?_append_left hi'] at hy
      rw [List.getElem?_append_left (by omega)] at hu
      obtain ⟨q1, q2, q3, q4, q5⟩ := h3 i y u hy hu
      exact ⟨q1, q2, by omega, hvb _ _ (by omega) q4, hkeep y _ _ _ _ q5 (by omega) q4⟩
    · rw [List.getElem?_append_right (by omega)] at hy
      rw [List.getElem?_append_right (by omega)] at hu
      have hi0 : i - l.length = 0 := by
        have := (List.getElem?_eq_some_iff.1 hy).1
        simp at this; omega
      rw [h1, hi0] at hu
      rw [hi0] at hy
      simp at hy hu
      subst hy
      subst hu
      exact ⟨hBl, hlh, by dsimp only; omega, hvb _ _ hhi hout, hkeep _ _ _ _ _ hx hhi hout⟩
  · have hjl : j < (ws ++ [(vn, vl, lo, hi)]).length := (List.getElem?_eq_some_iff.1 hz).1
    simp at hjl
    rw [List.getElem?_append_left (by omega)] at hu
    by_cases hj : j < ws.length
    · rw [List.getElem?_append_left hj] at hz
      exact h4 i j u z hij hu hz
    · rw [List.getElem?_append_right (by omega), show j - ws.length = 0 by omega] at hz
      simp at hz
      subst hz
      exact hend u (List.mem_of_getElem? hu)
end Go.Proofs.YtghaoielnphhlaaGreatDoor
