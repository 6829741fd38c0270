/-
  The walk of dec.Of.
-/
import Derived.Test.YthmojpcaagnfkaaGreatDoorDecE
namespace Go.Proofs.YthmojpcaagnfkaaGreatDoor
open Go.RowKit

theorem format_call (n : Int) (h0 : -9223372036854775808 ≤ n) (h1 : n ≤ 9223372036854775807) (W : World) (hE : Env W) :
    Calls Tryz.prog 146 #[.int .i64 n, .int .i64 10] W fun e w' => ∃ t : ByteArray, e = .returned (.string t) ∧ t.data.toList = Lib.itoa n ∧ Below W.heap.size W w' :=
  (Tryz.strconv_FormatInt_10 n h0 h1 W hE).mono fun e w' hh => ⟨_, hh.1, rfl, by obtain ⟨_, k, os, rfl⟩ := hh; exact bel_grow W k os⟩

/-- dec.Of. -/
def ofL (n : Int) : List UInt8 := formL (decGetL (Lib.itoa n)).1

set_option maxHeartbeats 1000000 in
theorem decOf_any (n : Int) (w : World) (hE : Env w) (h0 : -9223372036854775808 ≤ n) (h1 : n ≤ 9223372036854775807) :
    Calls Tryz.prog 96 #[.int .i64 n] w (StrEnd w (ofL n)) := by
  have hfmt := Lib.hid (format_call n h0 h1 w hE)
  have hlen := Lib.itoa_length_le n h0 h1
  clear h0 h1
  go_enter Tryz.func96, Tryz.ntmps96
  go_wp2_with fail
  refine hfmt.out.mono ?_
  rintro en w1 ⟨t, rfl, ht, hB1⟩
  clear hfmt
  have htl : t.size ≤ 21 := by rw [← bytes_len, ht]; exact hlen
  clear hlen
  have hE1 := hE.below hB1
  replace hB1 := Lib.hid hB1
  replace ht := Lib.hid ht
  go_wp2_with fail
  refine (decGet_any t w1 (by omega)).mono ?_
  rintro en w2 ⟨⟨d, hd, rfl⟩, hB2⟩
  have hbd := decGetL_bd t.data.toList
  have hE2 := hE1.below hB2
  replace hB2 := Lib.hid (hB1.out.trans (hB2.mono hB1.out.size))
  have hof : ofL n = formL (decGetL t.data.toList).1 := by rw [ht.out]; rfl
  obtain ⟨r, hgen⟩ : ∃ r, decGetL t.data.toList = r := ⟨_, rfl⟩
  rw [hgen] at hbd hd hof ⊢
  clear hgen hE hE1
  obtain ⟨⟨m, dd, e⟩, err⟩ := r
  simp only at hbd hd hof ⊢
  have hdl : d.size ≤ 200 := by rw [← bytes_len, hd]; exact hbd.1
  subst hd
  obtain ⟨_, b1, b2, b3⟩ := hbd
  clear b3
  have hform := decForm_any m d e (w2.alloc (.cells #[.bool m, .string d, .int .i64 e] 160)) (hE2.below ((Below.refl _ _).alloc (Nat.le_refl _) _)) (by omega) (by omega) (by omega)
  rw [← hof] at hform
  clear hof
  replace hform := Lib.hid hform
  simp only [numV]
  go_wp2_with fail
  refine hform.out.mono ?_
  rintro en w3 ⟨g, hg, rfl, hB3⟩
  replace hB3 := Lib.hid ((hB2.out.trans ((Below.refl _ _).alloc hB2.out.size _)).trans (hB3.mono (by have := hB2.out.size; simp; omega)))
  replace hg := Lib.hid hg
  go_wp2
  go_ret
  exact ⟨g, hg.out, rfl, hB3.out⟩
end Go.Proofs.YthmojpcaagnfkaaGreatDoor
