/-
  The walk of rostrumlaw04.awake: it answers true.
-/
import Derived.Test.YtflnkclobgjfdaaGreatDoorDecH
import Derived.Test.YtflnkclobgjfdaaGreatDoorDecO
namespace Go.Proofs.YtflnkclobgjfdaaGreatDoor
open Go.RowKit

theorem aw_own : ownL [45, 49, 50, 48, 46, 53, 48, 101, 49] = ([45, 49, 50, 48, 53], 0) := by decide +kernel
theorem aw_cmp : cmpL [49, 101, 50] [57, 57, 46, 57] = (1, 0) := by decide +kernel
theorem aw_int : intL [49, 101, 50] = (100, 0) := by decide +kernel
theorem aw_itoa : Lib.itoa 7 = [55] := by
  unfold Lib.itoa
  rw [if_neg (by omega)]
  rw [show (7 : Int).toNat = 7 from rfl, Lib.decDigits, dif_pos (by omega)]
  rfl
theorem aw_of : ofL 7 = [55] := by
  unfold ofL
  rw [aw_itoa]
  decide +kernel

theorem own_lit (s : ByteArray) (w : World) (hE : Env w) (hs : s.size ≤ 1099511627776) {l : List UInt8} {e : Int} (h : ownL s.data.toList = (l, e)) :
    Calls Tryz.prog 5 #[.string s] w fun en w' => en = .returned (.tuple #[.string ⟨l.toArray⟩, .int .i64 e]) ∧ Below w.heap.size w w' := by
  refine (decOwn_any s w hE hs).mono ?_
  rintro en w' ⟨g, hg, rfl, hB⟩
  rw [h] at hg ⊢
  simp only at hg
  rw [← hg, bytes_mk]
  exact ⟨rfl, hB⟩
theorem cmp_lit (s t : ByteArray) (w : World) (hs : s.size ≤ 1099511627776) (ht : t.size ≤ 1099511627776) {a e : Int} (h : cmpL s.data.toList t.data.toList = (a, e)) :
    Calls Tryz.prog 11 #[.string s, .string t] w fun en w' => en = .returned (.tuple #[.int .i64 a, .int .i64 e]) ∧ Below w.heap.size w w' := by
  refine (decCmp_any s t w hs ht).mono ?_
  rintro en w' ⟨rfl, hB⟩
  rw [h]
  exact ⟨rfl, hB⟩
theorem int_lit (s : ByteArray) (w : World) (hs : s.size ≤ 1099511627776) {a e : Int} (h : intL s.data.toList = (a, e)) :
    Calls Tryz.prog 7 #[.string s] w fun en w' => en = .returned (.tuple #[.int .i64 a, .int .i64 e]) ∧ Below w.heap.size w w' := by
  refine (decInt_any s w hs).mono ?_
  rintro en w' ⟨rfl, hB⟩
  rw [h]
  exact ⟨rfl, hB⟩
theorem of_lit (n : Int) (w : World) (hE : Env w) (h0 : -9223372036854775808 ≤ n) (h1 : n ≤ 9223372036854775807) {l : List UInt8} (h : ofL n = l) :
    Calls Tryz.prog 9 #[.int .i64 n] w fun en w' => en = .returned (.string ⟨l.toArray⟩) ∧ Below w.heap.size w w' := by
  refine (decOf_any n w hE h0 h1).mono ?_
  rintro en w' ⟨g, hg, rfl, hB⟩
  rw [h] at hg
  rw [← hg, bytes_mk]
  exact ⟨rfl, hB⟩

set_option maxHeartbeats 1000000 in
theorem awake_any (w : World) (hE : Env w) :
    Calls Tryz.prog 4 #[] w fun en w' => en = .returned (.bool true) ∧ Below w.heap.size w w' := by
  go_enter Tryz.func4, Tryz.ntmps4
  go_wp2_with fail
  refine (own_lit ⟨#[45, 49, 50, 48, 46, 53, 48, 101, 49]⟩ w hE (by decide) aw_own).mono ?_
  rintro en w1 ⟨rfl, hB1⟩
  have hE1 := hE.below hB1
  replace hB1 := Lib.hid hB1
  go_wp2_with fail
  refine (cmp_lit ⟨#[49, 101, 50]⟩ ⟨#[57, 57, 46, 57]⟩ w1 (by decide) (by decide) aw_cmp).mono ?_
  rintro en w2 ⟨rfl, hB2⟩
  have hE2 := hE1.below hB2
  replace hB2 := Lib.hid (hB1.out.trans (hB2.mono hB1.out.size))
  go_wp2_with fail
  refine (int_lit ⟨#[49, 101, 50]⟩ w2 (by decide) aw_int).mono ?_
  rintro en w3 ⟨rfl, hB3⟩
  have hE3 := hE2.below hB3
  replace hB3 := Lib.hid (hB2.out.trans (hB3.mono hB2.out.size))
  go_wp2_with fail
  refine (of_lit 7 w3 hE3 (by omega) (by omega) aw_of).mono ?_
  rintro en w4 ⟨rfl, hB4⟩
  replace hB4 := Lib.hid (hB3.out.trans (hB4.mono hB3.out.size))
  go_wp2
  go_ret
  exact ⟨rfl, hB4.out⟩
end Go.Proofs.YtflnkclobgjfdaaGreatDoor
