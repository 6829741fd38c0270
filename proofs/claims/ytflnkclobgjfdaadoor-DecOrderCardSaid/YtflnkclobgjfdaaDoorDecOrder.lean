/-
  DecOrder answers true, whatever the three texts, in every memory in which the table of powers of ten lies as the program lays it.
-/
import Derived.Test.YtflnkclobgjfdaaDoorDecBack
import Derived.Test.YtflnkclobgjfdaaDoorDecR
namespace Go.Proofs.YtflnkclobgjfdaaDoor
open Go.RowKit

theorem bytes_eq_of {a b : ByteArray} (h : a.data.toList = b.data.toList) : a = b := by rw [← bytes_mk a, h, bytes_mk]

set_option maxRecDepth 100000 in
set_option maxHeartbeats 2000000 in
theorem decOrder_any (s t u : ByteArray) (w : World) (hE : Env w) (hs : s.size ≤ 9223372036854775807) (ht : t.size ≤ 9223372036854775807) (hu : u.size ≤ 9223372036854775807) :
    Calls Tryd.prog 6 #[.string s, .string t, .string u] w fun en w' => en = .returned (.bool true) ∧ Below w.heap.size w w' := by
  have haw := Lib.hid (fun W (hE : Env W) => awake_any W hE)
  by_cases hbig : 20000 < s.size ∨ 20000 < t.size ∨ 20000 < u.size
  · have hbig' := Lib.hid hbig
    clear hbig
    by_cases h1 : 20000 < s.size
    · go_enter Tryd.func6, Tryd.ntmps6
      go_wp2_with fail
      refine (haw.out _ hE).mono ?_
      rintro en w1 ⟨rfl, hB⟩
      go_wp2
      go_ret
      exact ⟨rfl, hB⟩
    · by_cases h2 : 20000 < t.size
      · go_enter Tryd.func6, Tryd.ntmps6
        go_wp2_with fail
        refine (haw.out _ hE).mono ?_
        rintro en w1 ⟨rfl, hB⟩
        go_wp2
        go_ret
        exact ⟨rfl, hB⟩
      · have h3 : 20000 < u.size := by
          rcases hbig'.out with h | h | h
          · exact absurd h h1
          · exact absurd h h2
          · exact h
        go_enter Tryd.func6, Tryd.ntmps6
        go_wp2_with fail
        refine (haw.out _ hE).mono ?_
        rintro en w1 ⟨rfl, hB⟩
        go_wp2
        go_ret
        exact ⟨rfl, hB⟩
  · have h1 : ¬ 20000 < s.size := fun h => hbig (Or.inl h)
    have h2 : ¬ 20000 < t.size := fun h => hbig (Or.inr (Or.inl h))
    have h3 : ¬ 20000 < u.size := fun h => hbig (Or.inr (Or.inr h))
    clear hbig
    have hos := Lib.hid (fun W (hE : Env W) => decOwn_any s W hE (by omega))
    have hot := Lib.hid (fun W (hE : Env W) => decOwn_any t W hE (by omega))
    have hou := Lib.hid (fun W (hE : Env W) => decOwn_any u W hE (by omega))
    have hlaw := Lib.hid (order_law s.data.toList t.data.toList u.data.toList)
    go_enter Tryd.func6, Tryd.ntmps6
    go_wp2_with fail
    refine (haw.out _ hE).mono ?_
    rintro en w1 ⟨rfl, hB1⟩
    have hE1 := hE.below hB1
    replace hB1 := Lib.hid hB1
    go_wp2_with fail
    refine (hos.out _ hE1).mono ?_
    rintro en w2 ⟨g1, hg1, rfl, hB2⟩
    have hE2 := hE1.below hB2
    replace hB2 := Lib.hid (hB1.out.trans (hB2.mono hB1.out.size))
    go_wp2_with fail
    refine (hot.out _ hE2).mono ?_
    rintro en w3 ⟨g2, hg2, rfl, hB3⟩
    have hE3 := hE2.below hB3
    replace hB3 := Lib.hid (hB2.out.trans (hB3.mono hB2.out.size))
    go_wp2_with fail
    refine (hou.out _ hE3).mono ?_
    rintro en w4 ⟨g3, hg3, rfl, hB4⟩
    have hE4 := hE3.below hB4
    replace hB4 := Lib.hid (hB3.out.trans (hB4.mono hB3.out.size))
    clear hB1 hB2 hB3 hos hot hou hE hE1 hE2 hE3
    obtain ⟨r1, hr1⟩ : ∃ r, ownL s.data.toList = r := ⟨_, rfl⟩
    obtain ⟨r2, hr2⟩ : ∃ r, ownL t.data.toList = r := ⟨_, rfl⟩
    obtain ⟨r3, hr3⟩ : ∃ r, ownL u.data.toList = r := ⟨_, rfl⟩
    rw [hr1] at hg1 hlaw ⊢
    rw [hr2] at hg2 hlaw ⊢
    rw [hr3] at hg3 hlaw ⊢
    clear hr1 hr2 hr3
    obtain ⟨l1, e1⟩ := r1
    obtain ⟨l2, e2⟩ := r2
    obtain ⟨l3, e3⟩ := r3
    simp only at hg1 hg2 hg3 hlaw ⊢
    by_cases c1 : e1 = 0
    · by_cases c2 : e2 = 0
      · by_cases c3 : e3 = 0
        · subst c1 c2 c3
          obtain ⟨x, z, y, k1, k2, k3, k4, b1, b2, hz, htr⟩ := hlaw.out rfl rfl rfl
          have m1 := Lib.hid (fun W => cmp_lit s t W (by omega) (by omega) k1)
          have m2 := Lib.hid (fun W => cmp_lit t s W (by omega) (by omega) k2)
          have m3 := Lib.hid (fun W => cmp_lit t u W (by omega) (by omega) k3)
          have m4 := Lib.hid (fun W => cmp_lit s u W (by omega) (by omega) k4)
          rw [← hg1, ← hg2] at hz
          clear hlaw k1 k2 k3 k4
          replace hg1 := Lib.hid hg1
          replace hg2 := Lib.hid hg2
          replace hg3 := Lib.hid hg3
          replace hz := Lib.hid hz
          replace htr := Lib.hid htr
          go_wp2_with fail
          refine (m1.out _).mono ?_
          rintro en w5 ⟨rfl, hB5⟩
          replace hB5 := Lib.hid (hB4.out.trans (hB5.mono hB4.out.size))
          go_wp2_with fail
          refine (m2.out _).mono ?_
          rintro en w6 ⟨rfl, hB6⟩
          replace hB6 := Lib.hid (hB5.out.trans (hB6.mono hB5.out.size))
          go_wp2_with fail
          refine (m3.out _).mono ?_
          rintro en w7 ⟨rfl, hB7⟩
          replace hB7 := Lib.hid (hB6.out.trans (hB7.mono hB6.out.size))
          go_wp2_with fail
          refine (m4.out _).mono ?_
          rintro en w8 ⟨rfl, hB8⟩
          replace hB8 := Lib.hid (hB7.out.trans (hB8.mono hB7.out.size))
          clear m1 m2 m3 m4 hB4 hB5 hB6 hB7 haw
          by_cases hx : x = 0
          · have hgg : g1 = g2 := bytes_eq_of (hz.out.1 hx)
            subst hx hgg
            clear hz
            by_cases hz0 : z ≤ 0
            · have hh := htr.out (by omega) hz0
              obtain ⟨hy, hh⟩ := hh
              by_cases hy0 : y < 0
              · clear hh
                go_wp2
                go_ret
                exact ⟨rfl, hB8.out⟩
              · have hzz : z = 0 := by
                  rcases hh with h | h
                  · exact absurd h hy0
                  · exact h.2
                subst hzz
                clear hh
                go_wp2
                go_ret
                exact ⟨rfl, hB8.out⟩
            · go_wp2
              go_ret
              exact ⟨rfl, hB8.out⟩
          · have hx1 : ((x : Int) == 0) = false := by simpa using hx
            have hgg : (g1.toList == g2.toList) = false := by
              rw [Lib.toList_data, Lib.toList_data]
              have : ¬ g1.data.toList = g2.data.toList := fun h => hx (hz.out.2 h)
              simpa using this
            clear hz
            by_cases hxz : x ≤ 0
            · by_cases hz0 : z ≤ 0
              · have hh := htr.out hxz hz0
                obtain ⟨hy, hh⟩ := hh
                have hy0 : y < 0 := by
                  rcases hh with h | h
                  · exact h
                  · exact absurd h.1 hx
                clear hh hx
                go_wp2
                go_ret
                exact ⟨rfl, hB8.out⟩
              · clear hx
                go_wp2
                go_ret
                exact ⟨rfl, hB8.out⟩
            · clear hx
              go_wp2
              go_ret
              exact ⟨rfl, hB8.out⟩
        · subst c1 c2
          have n3 : ((e3 : Int) != 0) = true := by simpa using c3
          clear c3 hlaw hg1 hg2 hg3
          go_wp2
          go_ret
          exact ⟨rfl, hB4.out⟩
      · subst c1
        have n2 : ((e2 : Int) != 0) = true := by simpa using c2
        clear c2 hlaw hg1 hg2 hg3
        go_wp2
        go_ret
        exact ⟨rfl, hB4.out⟩
    · have n1 : ((e1 : Int) != 0) = true := by simpa using c1
      clear c1 hlaw hg1 hg2 hg3
      go_wp2
      go_ret
      exact ⟨rfl, hB4.out⟩
end Go.Proofs.YtflnkclobgjfdaaDoor
