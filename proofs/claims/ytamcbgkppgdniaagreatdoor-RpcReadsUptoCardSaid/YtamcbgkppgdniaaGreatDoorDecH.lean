/-
  The walks of dec.Cmp and Of.
-/
import Derived.Test.YtamcbgkppgdniaaGreatDoorDecF
namespace Go.Proofs.YtamcbgkppgdniaaGreatDoor
open Go.RowKit

/-- How two worths of one sign are held against each other. -/
def cmpW (x y : Wth) : Int :=
  if cmp3 (x.digits.length + x.exp) (y.digits.length + y.exp) = 0 then Lib.compareBytes x.digits y.digits
  else cmp3 (x.digits.length + x.exp) (y.digits.length + y.exp)

/-- dec.Cmp. -/
def cmpL (a b : List UInt8) : Int × Int :=
  if (decGetL a).2 ≠ 0 then (0, (decGetL a).2)
  else if (decGetL b).2 ≠ 0 then (0, (decGetL b).2)
  else if signW (decGetL a).1 ≠ signW (decGetL b).1 then (cmp3 (signW (decGetL a).1) (signW (decGetL b).1), 0)
  else (cmpW (decGetL a).1 (decGetL b).1 * signW (decGetL a).1, 0)

theorem cmp3_bd (a b : Int) : -1 ≤ cmp3 a b ∧ cmp3 a b ≤ 1 := by
  unfold cmp3; split
  · omega
  · split <;> omega
theorem signW_bd (x : Wth) : -1 ≤ signW x ∧ signW x ≤ 1 := by
  unfold signW; split
  · omega
  · split <;> omega

def PairEnd (w : World) (r : Int × Int) (en : Ending) (w' : World) : Prop := en = .returned (.tuple #[.int .i64 r.1, .int .i64 r.2]) ∧ Below w.heap.size w w'
theorem pair_end {w w' : World} {r : Int × Int} {a b : Int} (h : r = (a, b)) (hB : Below w.heap.size w w') : PairEnd w r (.returned (.tuple #[.int .i64 a, .int .i64 b])) w' := by
  subst h; exact ⟨rfl, hB⟩


theorem compareBytes_bd : ∀ a b : List UInt8, -1 ≤ Lib.compareBytes a b ∧ Lib.compareBytes a b ≤ 1
  | [], [] => by simp [Lib.compareBytes]
  | [], _ :: _ => by simp [Lib.compareBytes]
  | _ :: _, [] => by simp [Lib.compareBytes]
  | a :: xs, b :: ys => by
    unfold Lib.compareBytes
    split
    · omega
    · split
      · omega
      · exact compareBytes_bd xs ys
theorem mul_bd {a b : Int} (h1 : -1 ≤ a) (h2 : a ≤ 1) (h3 : -1 ≤ b) (h4 : b ≤ 1) : -1 ≤ a * b ∧ a * b ≤ 1 := by
  have : a = -1 ∨ a = 0 ∨ a = 1 := by omega
  rcases this with rfl | rfl | rfl <;> omega

end Go.Proofs.YtamcbgkppgdniaaGreatDoor
