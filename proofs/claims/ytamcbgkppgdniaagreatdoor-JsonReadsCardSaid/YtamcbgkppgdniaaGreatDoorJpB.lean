/-
  The walks of utf.Put, utf.Pair, and of what reads escapes.
-/
import Derived.Test.YtamcbgkppgdniaaGreatDoorJpA
import Derived.Test.YtamcbgkppgdniaaGreatDoorJrH
namespace Go.Proofs.YtamcbgkppgdniaaGreatDoor
open Go.RowKit

theorem utfPut_any (p : Int) (h0 : 0 ≤ p) (h1 : p < 2000000) (w : World) : Calls Tryz.prog 196 #[.int .i64 p] w fun e w' => e = .returned (.string (ofL (rput p))) ∧ w' = w := by
  have n0 : ¬ p < 0 := by omega
  by_cases hb : 1114111 < p
  · rw [rput_bad (.inr (.inl hb))]
    go_enter Tryz.func196, Tryz.ntmps196
    go_wp2
    go_ret
    exact ⟨rfl, rfl⟩
  by_cases hs : 55296 ≤ p
  · by_cases hs2 : p < 57344
    · rw [rput_bad (.inr (.inr ⟨hs, by omega⟩))]
      go_enter Tryz.func196, Tryz.ntmps196
      go_wp2
      go_ret
      exact ⟨rfl, rfl⟩
    · rw [← encode_put h0 (by omega) (by omega)]
      have hw : wrap32 p = p := by unfold wrap32; omega
      go_enter Tryz.func196, Tryz.ntmps196
      go_wp2
      go_ret
      exact ⟨rfl, rfl⟩
  · rw [← encode_put h0 (by omega) (by omega)]
    have hw : wrap32 p = p := by unfold wrap32; omega
    go_enter Tryz.func196, Tryz.ntmps196
    go_wp2
    go_ret
    exact ⟨rfl, rfl⟩
/-- The code point of two units, as it is handed back. -/
def pairV (a b : Nat) : Value := match jpair a b with
  | none => .tuple #[.int .i64 0, .bool false]
  | some p => .tuple #[.int .i64 (p : Int), .bool true]
theorem utfPair_any (a b : Nat) (ha : a < 65536) (hb : b < 65536) (w : World) : Calls Tryz.prog 197 #[.int .i64 a, .int .i64 b] w fun e w' => e = .returned (pairV a b) ∧ w' = w := by
  unfold pairV jpair
  obtain ⟨x, hx⟩ : ∃ x : Int, (a : Int) = x := ⟨_, rfl⟩
  obtain ⟨y, hy⟩ : ∃ y : Int, (b : Int) = y := ⟨_, rfl⟩
  by_cases c1 : a < 55296
  · rw [if_neg (by omega)]
    rw [hx, hy]
    have d1 : x < 55296 := by omega
    clear hx hy c1 ha hb
    go_enter Tryz.func197, Tryz.ntmps197
    go_wp2
    go_ret2
    exact ⟨rfl, rfl⟩
  by_cases c2 : 56320 ≤ a
  · rw [if_neg (by omega)]
    rw [hx, hy]
    have d1 : ¬ x < 55296 := by omega
    have d2 : 56320 ≤ x := by omega
    clear hx hy c1 c2 ha hb
    go_enter Tryz.func197, Tryz.ntmps197
    go_wp2
    go_ret2
    exact ⟨rfl, rfl⟩
  by_cases c3 : b < 56320
  · rw [if_neg (by omega)]
    rw [hx, hy]
    have d1 : ¬ x < 55296 := by omega
    have d2 : ¬ 56320 ≤ x := by omega
    have d3 : y < 56320 := by omega
    clear hx hy c1 c2 c3 ha hb
    go_enter Tryz.func197, Tryz.ntmps197
    go_wp2
    go_ret2
    exact ⟨rfl, rfl⟩
  by_cases c4 : 57344 ≤ b
  · rw [if_neg (by omega)]
    rw [hx, hy]
    have d1 : ¬ x < 55296 := by omega
    have d2 : ¬ 56320 ≤ x := by omega
    have d3 : ¬ y < 56320 := by omega
    have d4 : 57344 ≤ y := by omega
    clear hx hy c1 c2 c3 c4 ha hb
    go_enter Tryz.func197, Tryz.ntmps197
    go_wp2
    go_ret2
    exact ⟨rfl, rfl⟩
  rw [if_pos (by omega)]
  dsimp only
  obtain ⟨z, hz⟩ : ∃ z : Int, ((65536 + (a - 55296) * 1024 + (b - 56320) : Nat) : Int) = z := ⟨_, rfl⟩
  rw [hz, hx, hy]
  have d1 : ¬ x < 55296 := by omega
  have d2 : ¬ 56320 ≤ x := by omega
  have d3 : ¬ y < 56320 := by omega
  have d4 : ¬ 57344 ≤ y := by omega
  have d5 : z = 65536 + (x - 55296) * 1024 + (y - 56320) := by omega
  have d6 : x < 65536 := by omega
  have d7 : y < 65536 := by omega
  clear hx hy hz c1 c2 c3 c4 ha hb
  replace d5 := Lib.hid d5
  go_enter Tryz.func197, Tryz.ntmps197
  go_wp2
  go_ret2
  refine ⟨?_, rfl⟩
  rw [d5.out]
  go_num
end Go.Proofs.YtamcbgkppgdniaaGreatDoor
