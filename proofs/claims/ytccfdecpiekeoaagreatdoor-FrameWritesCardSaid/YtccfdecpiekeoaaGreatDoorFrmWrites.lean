/-
  FrameWrites answers true, whatever the body, in every memory in which the library's variables lie as the program lays them.
-/
import Derived.Test.YtccfdecpiekeoaaGreatDoorFraK
namespace Go.Proofs.YtccfdecpiekeoaaGreatDoor
open Go.RowKit

theorem str_self (a : ByteArray) : (a.toList == a.toList) = true := by simp

set_option maxHeartbeats 1000000 in
theorem frameWrites_any (s : ByteArray) (w : World) (hE : EnvF w) (hs : s.size ≤ 9223372036854775807) :
    Calls Tryz.prog 3 #[.string s] w fun en w' => en = .returned (.bool true) ∧ Below w.heap.size w w' := by
  have haw := Lib.hid (fun W (hE : EnvF W) => awake_any W hE)
  by_cases h1 : 300000 < s.size
  · go_enter Tryz.func3, Tryz.ntmps3
    go_wp2_with fail
    refine (haw.out _ hE).mono ?_
    rintro en w1 ⟨rfl, hB⟩
    go_wp2
    go_ret
    exact ⟨rfl, hB⟩
  · have m1 := Lib.hid (fun W (hE : EnvF W) => frmWrite_any s W hE (by omega))
    have m2 := Lib.hid (fun W => refWrite_any s W (by omega))
    obtain ⟨r, hr⟩ : ∃ r, writeL s.data.toList = r := ⟨_, rfl⟩
    rw [hr] at m1 m2
    clear hr
    obtain ⟨l, c⟩ := r
    obtain ⟨g, hg⟩ : ∃ g : ByteArray, (⟨l.toArray⟩ : ByteArray) = g := ⟨_, rfl⟩
    replace hg := Lib.hid hg
    go_enter Tryz.func3, Tryz.ntmps3
    go_wp2_with fail
    refine (m1.out _ hE).mono ?_
    rintro en w1 ⟨rfl, hB1⟩
    dsimp only
    rw [hg.out]
    have hE1 := hE.below hB1
    replace hB1 := Lib.hid hB1
    go_wp2_with fail
    refine (m2.out _).mono ?_
    rintro en w2 ⟨rfl, hB2⟩
    dsimp only
    rw [hg.out]
    have hE2 := hE1.below hB2
    replace hB2 := Lib.hid (hB1.out.trans (hB2.mono hB1.out.size))
    clear hB1 hE1 m1 m2 hE
    go_wp2_with fail
    refine (haw.out _ hE2).mono ?_
    rintro en w3 ⟨rfl, hB3⟩
    replace hB3 := Lib.hid (hB2.out.trans (hB3.mono hB2.out.size))
    clear hB2 hE2 haw
    go_wp2
    go_ret
    exact ⟨rfl, hB3.out⟩
end Go.Proofs.YtccfdecpiekeoaaGreatDoor
