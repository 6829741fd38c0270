/-
  DecCompares answers true, whatever the two texts, in every memory in which the table of powers of ten lies as the program lays it.
-/
import Derived.Test.YtflnkclobgjfdaaDoorRefE
import Derived.Test.YtflnkclobgjfdaaDoorDecAw
namespace Go.Proofs.YtflnkclobgjfdaaDoor
open Go.RowKit

set_option maxHeartbeats 1000000 in
theorem decCompares_any (s t : ByteArray) (w : World) (hE : Env w) (hs : s.size ≤ 9223372036854775807) (ht : t.size ≤ 9223372036854775807) :
    Calls Tryd.prog 3 #[.string s, .string t] w fun en w' => en = .returned (.bool true) ∧ Below w.heap.size w w' := by
  have haw := Lib.hid (fun W (hE : Env W) => awake_any W hE)
  by_cases h1 : 20000 < s.size
  · go_enter Tryd.func3, Tryd.ntmps3
    go_wp2_with fail
    refine (haw.out _ hE).mono ?_
    rintro en w1 ⟨rfl, hB⟩
    go_wp2
    go_ret
    exact ⟨rfl, hB⟩
  · by_cases h2 : 20000 < t.size
    · go_enter Tryd.func3, Tryd.ntmps3
      go_wp2_with fail
      refine (haw.out _ hE).mono ?_
      rintro en w1 ⟨rfl, hB⟩
      go_wp2
      go_ret
      exact ⟨rfl, hB⟩
    · obtain ⟨a, e, hr⟩ : ∃ a e, cmpL s.data.toList t.data.toList = (a, e) := ⟨_, _, rfl⟩
      have hcmp := Lib.hid (fun W => cmp_lit s t W (by omega) (by omega) hr)
      have hrcmp : ∀ W, Calls Tryd.prog 10 #[.string s, .string t] W fun en w' => en = .returned (.tuple #[.int .i64 a, .int .i64 e]) ∧ Below W.heap.size W w' := fun W => by
        have := refCmp_any s t W (by omega) (by omega)
        rw [hr] at this
        exact this
      replace hrcmp := Lib.hid hrcmp
      clear hr
      go_enter Tryd.func3, Tryd.ntmps3
      go_wp2_with fail
      refine (hcmp.out _).mono ?_
      rintro en w1 ⟨rfl, hB1⟩
      have hE1 := hE.below hB1
      replace hB1 := Lib.hid hB1
      go_wp2_with fail
      refine (hrcmp.out _).mono ?_
      rintro en w2 ⟨rfl, hB2⟩
      have hE2 := hE1.below hB2
      replace hB2 := Lib.hid (hB1.out.trans (hB2.mono hB1.out.size))
      go_wp2_with fail
      refine (haw.out _ hE2).mono ?_
      rintro en w3 ⟨rfl, hB3⟩
      replace hB3 := Lib.hid (hB2.out.trans (hB3.mono hB2.out.size))
      clear hB1 hB2 hcmp hrcmp haw hE hE1 hE2
      go_wp2
      go_ret
      exact ⟨rfl, hB3.out⟩
end Go.Proofs.YtflnkclobgjfdaaDoor
