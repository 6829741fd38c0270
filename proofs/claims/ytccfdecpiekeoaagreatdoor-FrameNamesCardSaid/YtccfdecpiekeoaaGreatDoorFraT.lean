/-
  Frames: the steps of the reader, case by case; events as cells. No program.
-/
import Derived.Test.YtccfdecpiekeoaaGreatDoorFraQ
import Derived.OwnWalk
namespace Go.Proofs.YtccfdecpiekeoaaGreatDoor
open Go.RowKit

theorem idx_take_none {s p : List UInt8} {m : Nat} (hp : p ≠ []) (h : idx s p = none) : idx (s.take m) p = none := by
  rcases hh : idx (s.take m) p with _ | i
  · rfl
  · rw [((idx_take hp).1 hh).1] at h; cases h
theorem st_wait {S : List UInt8} (h : idx S fEnd = none) (hl : S.length < 1028) : stepF S false = ⟨[], false, S, false⟩ := by
  unfold stepF; rw [idx_take_none fEnd_ne h]; simp only; rw [if_pos hl]
theorem st_long {S : List UInt8} (h : idx S fEnd = none ∨ ∃ i, idx S fEnd = some i ∧ 1024 < i) (hl : ¬ S.length < 1028) : stepF S false = ⟨[([], 72)], true, S.drop 1, true⟩ := by
  have hn : idx (S.take 1028) fEnd = none := by
    rcases h with h | ⟨i, h, hi⟩
    · exact idx_take_none fEnd_ne h
    · rcases hh : idx (S.take 1028) fEnd with _ | j
      · rfl
      · obtain ⟨h1, h2⟩ := (idx_take fEnd_ne).1 hh
        rw [h] at h1
        injection h1 with h1
        have h4 : fEnd.length = 4 := rfl
        omega
  unfold stepF; rw [hn]; simp only; rw [if_neg hl]
section
variable {S : List UInt8} {i : Nat} (h : idx S fEnd = some i) (hi : i ≤ 1024)
include h hi
theorem st_found : idx (S.take 1028) fEnd = some i := (idx_take fEnd_ne).2 ⟨h, by show i + 4 ≤ 1028; omega⟩
theorem st_head (hd : headL (S.take i) = none) : stepF S false = ⟨[([], 72)], true, S.drop 1, true⟩ := by
  unfold stepF; rw [st_found h hi]; simp only; rw [hd]
theorem st_large {n : Nat} (hd : headL (S.take i) = some n) (hn : 262144 < n) : stepF S false = ⟨[([], 40)], true, S.drop 1, true⟩ := by
  unfold stepF; rw [st_found h hi]; simp only; rw [hd]; simp only; rw [if_pos hn]
theorem st_body_wait {n : Nat} (hd : headL (S.take i) = some n) (hn : ¬ 262144 < n) (hl : S.length < i + 4 + n) : stepF S false = ⟨[], false, S, false⟩ := by
  unfold stepF; rw [st_found h hi]; simp only; rw [hd]; simp only; rw [if_neg hn, if_pos hl]
theorem st_body {n : Nat} (hd : headL (S.take i) = some n) (hn : ¬ 262144 < n) (hl : ¬ S.length < i + 4 + n) : stepF S false = ⟨[((S.drop (i + 4)).take n, 0)], true, S.drop (i + 4 + n), false⟩ := by
  unfold stepF; rw [st_found h hi]; simp only; rw [hd]; simp only; rw [if_neg hn, if_neg hl]
end
theorem st_pass {S : List UInt8} {i : Nat} (h : idx S fMark = some i) : stepF S true = ⟨[], true, S.drop i, false⟩ := by
  unfold stepF; rw [h]
theorem st_none {S : List UInt8} (h : idx S fMark = none) : stepF S true = ⟨[], false, S.drop (S.length - 14), true⟩ := by
  unfold stepF; rw [h]
theorem end_take {S : List UInt8} {i : Nat} (h : idx S fEnd = some i) : S.take (i + 2) = S.take i ++ fCr := by
  have ho := (idx_some fEnd_ne h).1
  unfold occ at ho
  have : (S.drop i).take 2 = fCr := by
    have h2 := congrArg (List.take 2) ho
    rw [List.take_take] at h2
    exact h2
  rw [List.take_add, this]

/-- Events as cells: a body, what is wrong. -/
def evCells (l : List Evt) : List Value := l.flatMap fun x => [.string ⟨x.1.toArray⟩, .int .i64 x.2]
theorem evCells_nil : evCells [] = [] := rfl
theorem evCells_one (b : List UInt8) (e : Int) : evCells [(b, e)] = [.string ⟨b.toArray⟩, .int .i64 e] := rfl
theorem evCells_app (l m : List Evt) : evCells (l ++ m) = evCells l ++ evCells m := by unfold evCells; rw [List.flatMap_append]
theorem evCells_len : ∀ (l : List Evt), (evCells l).length = 2 * l.length
  | [] => rfl
  | x :: l => by
    have := evCells_len l
    show (.string ⟨x.1.toArray⟩ :: .int .i64 x.2 :: evCells l : List Value).length = _
    rw [List.length_cons, List.length_cons, this, List.length_cons]; omega
theorem cell_two (w : World) (x y : Value) (t : TypeId) : ∀ j u, [x, y][j]? = some u → (w.alloc (.cells #[x, y] t)).cell? ((⟨w.heap.size, 0, none⟩ : Addr).add j) = some u := by
  intro j u hj
  match j, hj with
  | 0, hj => simp at hj; subst hj; simp [Addr.add]
  | 1, hj => simp at hj; subst hj; simp [Addr.add]
def szOf : Value → Nat | .string S => S.size | _ => 0
def blOf : Value → Nat | .bool true => 1 | _ => 0
/-- How an event's slice is handed back. -/
def EvEnd (t : TypeId) (w : World) (l : List Evt) (e : Ending) (w' : World) : Prop :=
  ∃ v, e = .returned v ∧ w'.ownsRow w.heap.size t 2 v l.length (evCells l) ∧ Below w.heap.size w w'
theorem own_snoc {w : World} {B t : Nat} {v : Value} {n m : Nat} {xs ys zs : List Value} (h : w.ownsRow B t 2 v (n + 1) (xs ++ ys)) (hn : m = n + 1) (hz : zs = xs ++ ys) : w.ownsRow B t 2 v m zs := by
  subst hn hz; exact h
end Go.Proofs.YtccfdecpiekeoaaGreatDoor
