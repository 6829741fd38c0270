/-
  DecForms answers true, whatever the text and the number, in every memory in which the table of powers of ten lies as the program lays it.
-/
import Derived.Test.YtflnkclobgjfdaaGreatDoorRefG
import Derived.Test.YtflnkclobgjfdaaGreatDoorDecAw
namespace Go.Proofs.YtflnkclobgjfdaaGreatDoor
open Go.RowKit

theorem refOwn_lit (s : ByteArray) (w : World) (hs : s.size ≤ 100000) {l : List UInt8} {e : Int} (h : ownL s.data.toList = (l, e)) :
    Calls Tryz.prog 6 #[.string s] w fun en w' => en = .returned (.tuple #[.string ⟨l.toArray⟩, .int .i64 e]) ∧ Below w.heap.size w w' := by
  refine (refOwn_any s w hs).mono ?_
  rintro en w' ⟨g, hg, rfl, hB⟩
  rw [h] at hg ⊢
  simp only at hg ⊢
  refine ⟨?_, hB⟩
  rw [← hg, bytes_mk]
theorem refOf_lit (n : Int) (w : World) (h0 : -9223372036854775808 ≤ n) (h1 : n ≤ 9223372036854775807) {l : List UInt8} (h : ofL n = l) :
    Calls Tryz.prog 10 #[.int .i64 n] w fun en w' => en = .returned (.string ⟨l.toArray⟩) ∧ Below w.heap.size w w' := by
  refine (refOf_any n w h0 h1).mono ?_
  rintro en w' ⟨g, hg, rfl, hB⟩
  rw [h] at hg
  refine ⟨?_, hB⟩
  rw [← hg, bytes_mk]

set_option maxHeartbeats 1000000 in
theorem decForms_any (s : ByteArray) (n : Int) (w : World) (hE : Env w) (h0 : -9223372036854775808 ≤ n) (h1 : n ≤ 9223372036854775807) (hs : s.size ≤ 9223372036854775807) :
    Calls Tryz.prog 3 #[.string s, .int .i64 n] w fun en w' => en = .returned (.bool true) ∧ Below w.heap.size w w' := by
  have haw := Lib.hid (fun W (hE : Env W) => awake_any W hE)
  by_cases hbig : 30000 < s.size
  · go_enter Tryz.func3, Tryz.ntmps3
    go_wp2_with fail
    refine (haw.out _ hE).mono ?_
    rintro en w1 ⟨rfl, hB⟩
    go_wp2
    go_ret
    exact ⟨rfl, hB⟩
  · obtain ⟨l, e, hr⟩ : ∃ l e, ownL s.data.toList = (l, e) := ⟨_, _, rfl⟩
    obtain ⟨c, g, hi⟩ : ∃ c g, intL s.data.toList = (c, g) := ⟨_, _, rfl⟩
    have m1 := Lib.hid (fun W (hE : Env W) => own_lit s W hE (by omega) hr)
    have m2 := Lib.hid (fun W => refOwn_lit s W (by omega) hr)
    have m3 := Lib.hid (fun W => int_lit s W (by omega) hi)
    have m4 : ∀ W, Calls Tryz.prog 8 #[.string s] W fun en w' => en = .returned (.tuple #[.int .i64 c, .int .i64 g]) ∧ Below W.heap.size W w' := fun W => by
      have := refInt_any s W (by omega)
      rw [hi] at this
      exact this
    replace m4 := Lib.hid m4
    obtain ⟨o, ho⟩ : ∃ o, ofL n = o := ⟨_, rfl⟩
    have m5 := Lib.hid (fun W (hE : Env W) => of_lit n W hE h0 h1 ho)
    have m6 := Lib.hid (fun W => refOf_lit n W h0 h1 ho)
    clear hr hi ho h0 h1
    go_enter Tryz.func3, Tryz.ntmps3
    go_wp2_with fail
    refine (m1.out _ hE).mono ?_
    rintro en w1 ⟨rfl, hB1⟩
    have hE1 := hE.below hB1
    replace hB1 := Lib.hid hB1
    go_wp2_with fail
    refine (m2.out _).mono ?_
    rintro en w2 ⟨rfl, hB2⟩
    have hE2 := hE1.below hB2
    replace hB2 := Lib.hid (hB1.out.trans (hB2.mono hB1.out.size))
    go_wp2_with fail
    refine (m3.out _).mono ?_
    rintro en w3 ⟨rfl, hB3⟩
    have hE3 := hE2.below hB3
    replace hB3 := Lib.hid (hB2.out.trans (hB3.mono hB2.out.size))
    go_wp2_with fail
    refine (m4.out _).mono ?_
    rintro en w4 ⟨rfl, hB4⟩
    have hE4 := hE3.below hB4
    replace hB4 := Lib.hid (hB3.out.trans (hB4.mono hB3.out.size))
    clear hB1 hB2 hB3 m1 m2 m3 m4 hE hE1 hE2 hE3
    go_wp2_with fail
    refine (m5.out _ hE4).mono ?_
    rintro en w5 ⟨rfl, hB5⟩
    have hE5 := hE4.below hB5
    replace hB5 := Lib.hid (hB4.out.trans (hB5.mono hB4.out.size))
    go_wp2_with fail
    refine (m6.out _).mono ?_
    rintro en w6 ⟨rfl, hB6⟩
    have hE6 := hE5.below hB6
    replace hB6 := Lib.hid (hB5.out.trans (hB6.mono hB5.out.size))
    go_wp2_with fail
    refine (haw.out _ hE6).mono ?_
    rintro en w7 ⟨rfl, hB7⟩
    replace hB7 := Lib.hid (hB6.out.trans (hB7.mono hB6.out.size))
    clear hB4 hB5 hB6 m5 m6 haw hE4 hE5 hE6
    go_wp2
    go_ret
    exact ⟨rfl, hB7.out⟩
end Go.Proofs.YtflnkclobgjfdaaGreatDoor
