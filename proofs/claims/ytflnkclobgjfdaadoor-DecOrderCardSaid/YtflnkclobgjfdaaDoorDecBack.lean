/-
  DecBack answers true, whatever the number and the text, in every memory in which the table of powers of ten lies as the program lays it.
-/
import Derived.Test.YtflnkclobgjfdaaDoorDecAw
import Derived.Test.YtflnkclobgjfdaaDoorDecQ
namespace Go.Proofs.YtflnkclobgjfdaaDoor
open Go.RowKit

theorem own_err (l : List UInt8) (h : ¬ (ownL l).2 = 0) : (ownL l).1 = [] := by
  unfold ownL at h ⊢
  split at h
  · exact absurd rfl h
  · rename_i h2
    rw [if_neg h2]
theorem formL_len (x : Wth) (h : Nrm x) : (formL x).length ≤ 300 := by
  unfold formL
  split
  · simp
  · have h1 := h.len
    have h2 := Lib.itoa_length_le x.exp (by have := h.lo; omega) (by have := h.hi; omega)
    rw [List.length_append]
    split <;> split <;> simp <;> omega
theorem ownL_len (l : List UInt8) : (ownL l).1.length ≤ 300 := by
  unfold ownL
  split
  · exact formL_len _ (get_nrm l)
  · simp

set_option maxHeartbeats 1000000 in
theorem decBack_any (n : Int) (s : ByteArray) (w : World) (hE : Env w) (h0 : -9223372036854775808 ≤ n) (h1 : n ≤ 9223372036854775807) (hs : s.size ≤ 9223372036854775807) :
    Calls Tryd.prog 5 #[.int .i64 n, .string s] w fun en w' => en = .returned (.bool true) ∧ Below w.heap.size w w' := by
  have haw := fun W (hE : Env W) => awake_any W hE
  replace haw := Lib.hid haw
  by_cases hbig : 30000 < s.size
  · go_enter Tryd.func5, Tryd.ntmps5
    go_wp2_with fail
    refine (haw.out _ hE).mono ?_
    rintro en w1 ⟨rfl, hB⟩
    go_wp2
    go_ret
    exact ⟨rfl, hB⟩
  · have hof := Lib.hid (fun W (hE : Env W) => of_lit n W hE h0 h1 rfl)
    have hint := Lib.hid (fun W => int_lit (⟨(ofL n).toArray⟩ : ByteArray) W (a := n) (e := 0) (by
      show (ofL n).toArray.size ≤ _
      have := formL_len _ (get_nrm (Lib.itoa n))
      rw [List.size_toArray]
      unfold ofL; omega) (back_int n h0 h1))
    have hown := Lib.hid (fun W (hE : Env W) => decOwn_any s W hE (by omega))
    have hback := Lib.hid (back_own s.data.toList)
    have herr := Lib.hid (own_err s.data.toList)
    have hlen := Lib.hid (ownL_len s.data.toList)
    clear h0 h1
    go_enter Tryd.func5, Tryd.ntmps5
    go_wp2_with fail
    refine (haw.out _ hE).mono ?_
    rintro en w1 ⟨rfl, hB1⟩
    have hE1 := hE.below hB1
    replace hB1 := Lib.hid hB1
    go_wp2_with fail
    refine (hof.out _ hE1).mono ?_
    rintro en w2 ⟨rfl, hB2⟩
    have hE2 := hE1.below hB2
    replace hB2 := Lib.hid (hB1.out.trans (hB2.mono hB1.out.size))
    go_wp2_with fail
    refine (hint.out _).mono ?_
    rintro en w3 ⟨rfl, hB3⟩
    have hE3 := hE2.below hB3
    replace hB3 := Lib.hid (hB2.out.trans (hB3.mono hB2.out.size))
    clear hof hint hB1 hB2
    go_wp2_with fail
    refine (hown.out _ hE3).mono ?_
    rintro en w4 ⟨g, hg, rfl, hB4⟩
    have hE4 := hE3.below hB4
    replace hB4 := Lib.hid (hB3.out.trans (hB4.mono hB3.out.size))
    clear hown hB3
    obtain ⟨r, hr⟩ : ∃ r, ownL s.data.toList = r := ⟨_, rfl⟩
    rw [hr] at hback herr hlen hg
    rw [hr]
    clear hr
    obtain ⟨l, err⟩ := r
    simp only at hg ⊢
    by_cases he : err = 0
    · subst he
      have hb2 := Lib.hid (fun W (hE : Env W) => own_lit g W hE (l := l) (e := 0) (by rw [← bytes_len, hg]; have := hlen.out; simp only at this; omega) (by rw [hg]; exact hback.out rfl))
      replace hg := Lib.hid hg
      go_wp2_with fail
      refine (hb2.out _ hE4).mono ?_
      rintro en w5 ⟨rfl, hB5⟩
      replace hB5 := Lib.hid (hB4.out.trans (hB5.mono hB4.out.size))
      have hsame : (⟨l.toArray⟩ : ByteArray) = g := by rw [← hg.out, bytes_mk]
      rw [hsame]
      clear hsame
      go_wp2
      go_ret
      exact ⟨rfl, hB5.out⟩
    · have hne : ((err : Int) != 0) = true := by simpa using he
      have hl : l = [] := herr.out he
      have hem := isEmpty_t g (by rw [hg, hl])
      clear he hl
      replace hg := Lib.hid hg
      go_wp2
      go_ret
      exact ⟨rfl, hB4.out⟩
end Go.Proofs.YtflnkclobgjfdaaDoor
