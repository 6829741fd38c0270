/-
  The walk of rostrumref04.Cmp: what it answers is what dec's answers.
-/
import Derived.Test.YtflnkclobgjfdaaDoorRefD
namespace Go.Proofs.YtflnkclobgjfdaaDoor
open Go.RowKit

set_option maxHeartbeats 4000000 in
theorem refCmp_any (s t : ByteArray) (w : World) (hs : s.size ≤ 100000) (ht : t.size ≤ 100000) :
    Calls Tryd.prog 10 #[.string s, .string t] w (PairEnd w (cmpL s.data.toList t.data.toList)) := by
  have hbd := decGetL_bd s.data.toList
  have hbd2 := decGetL_bd t.data.toList
  have hnx := get_nrm s.data.toList
  have hny := get_nrm t.data.toList
  have hget := Lib.hid (refGet_any s w hs)
  have hget2 := fun W => refGet_any t W ht
  replace hget2 := Lib.hid hget2
  go_enter Tryd.func10, Tryd.ntmps10
  go_wp2_with fail
  refine hget.out.mono ?_
  rintro en w1 ⟨⟨d, hd, rfl⟩, hB⟩
  clear hget
  obtain ⟨r, hgen⟩ : ∃ r, decGetL s.data.toList = r := ⟨_, rfl⟩
  rw [hgen] at hbd hd hnx ⊢
  obtain ⟨⟨m, dd, e⟩, err⟩ := r
  simp only at hbd hd hnx ⊢
  have hdl : d.size ≤ 200 := by rw [← bytes_len, hd]; exact hbd.1
  subst hd
  obtain ⟨_, b1, b2, b3⟩ := hbd
  replace hgen := Lib.hid hgen
  replace hnx := Lib.hid hnx
  replace hny := Lib.hid hny
  replace hB := Lib.hid hB
  simp only [numV]
  by_cases h0 : err = 0
  · subst h0
    clear b3
    go_wp2_with fail
    refine (hget2.out _).mono ?_
    rintro en w2 ⟨⟨d2, hd2, rfl⟩, hB2⟩
    clear hget2
    obtain ⟨r2, hgen2⟩ : ∃ r2, decGetL t.data.toList = r2 := ⟨_, rfl⟩
    have hny2 := hny.out
    clear hny
    rw [hgen2] at hbd2 hd2 hny2 ⊢
    obtain ⟨⟨m2, dd2, e2⟩, err2⟩ := r2
    simp only at hbd2 hd2 hny2 ⊢
    have hdl2 : d2.size ≤ 200 := by rw [← bytes_len, hd2]; exact hbd2.1
    subst hd2
    obtain ⟨_, c1, c2, c3⟩ := hbd2
    have habv := Lib.hid (fun W => refAbove_agg hnx.out hny2 W)
    clear hnx hny2
    replace hgen2 := Lib.hid hgen2
    have hX := (Cel.fresh w1 48 #[.bool m, .string d, .int .i64 e]).below hB2 (by simp)
    have hBx := (hB.out.alloc hB.out.size (.cells #[.bool m, .string d, .int .i64 e] 48)).trans (hB2.mono (by have := hB.out.size; simp; omega))
    obtain ⟨x0, x1, x2, f0, f1, f2⟩ := hX.three
    have hXl := hX.lt
    replace hBx := Lib.hid hBx
    clear hB2 hB
    simp only [numV]
    by_cases h02 : err2 = 0
    · subst h02
      clear c3
      have hY := Cel.fresh w2 48 #[.bool m2, .string d2, .int .i64 e2]
      replace hX := hX.alloc (.cells #[.bool m2, .string d2, .int .i64 e2] 48)
      replace hBx := hBx.out.alloc hBx.out.size (.cells #[.bool m2, .string d2, .int .i64 e2] 48)
      go_upto_region 7 with (fail)
      clear x0 x1 x2 f0 f1 f2
      generalize w2.alloc (.cells #[.bool m2, .string d2, .int .i64 e2] 48) = wx at *
      obtain ⟨x0, x1, x2, f0, f1, f2⟩ := hX.three
      obtain ⟨y0, y1, y2, g0, g1, g2⟩ := hY.three
      have hXl2 := hX.lt
      have hYl := hY.lt
      obtain ⟨s1, hs1⟩ : ∃ q, signW ⟨m, d.data.toList, e⟩ = q := ⟨_, rfl⟩
      obtain ⟨s2, hs2⟩ : ∃ q, signW ⟨m2, d2.data.toList, e2⟩ = q := ⟨_, rfl⟩
      have hb1 := signW_bd ⟨m, d.data.toList, e⟩
      have hb2 := signW_bd ⟨m2, d2.data.toList, e2⟩
      rw [hs1] at hb1
      rw [hs2] at hb2
      replace hs1 := Lib.hid hs1
      replace hs2 := Lib.hid hs2
      obtain ⟨p1, p2⟩ := hb1
      obtain ⟨p3, p4⟩ := hb2
      refine wp_cut (fun a' wc => ∃ (u : Nat → Value), a' = ⟨#[.string s, .string t, u 2, u 3, .int .i64 0, .int .i64 0, .pointer (some ⟨w1.heap.size, 0, none⟩), u 7, .pointer (some ⟨w2.heap.size, 0, none⟩), u 9, u 10, u 11, u 12, u 13, u 14, u 15, u 16, u 17, u 18, u 19, u 20, u 21, u 22, u 23, u 24, u 25, u 26, u 27, u 28, .bool (s1 != s2), u 30, u 31, u 32, u 33, u 34, u 35, u 36, u 37, u 38, u 39, u 40, u 41, u 42, u 43], []⟩ ∧ (Cel wc w1.heap.size 48 #[.bool m, .string d, .int .i64 e] ∧ Cel wc w2.heap.size 48 #[.bool m2, .string d2, .int .i64 e2] ∧ Below w.heap.size w wc)) ?rest ?first
      case first =>
        intro J K' hJ hK'
        go_region_with (go_at_call 20; refine (refSign_any _ _ _ _).mono ?_; rintro en w3 ⟨rfl, rfl⟩)
        all_goals
          go_wp2
          refine Met.intro (hJ _ _ ?_)
          rw [← hs1.out, ← hs2.out]
          exact meetF (by kernel_rfl) ⟨(hX.alloc _).alloc _, (hY.alloc _).alloc _, ((hBx.alloc hBx.size _).alloc (by have := hBx.size; simp; omega) _).drew⟩
      case rest =>
        clear x0 x1 x2 f0 f1 f2 y0 y1 y2 g0 g1 g2 hX hY hBx hXl2 hYl
        rintro a' wc ⟨u, rfl, hX, hY, hBx⟩
        obtain ⟨x0, x1, x2, f0, f1, f2⟩ := hX.three
        obtain ⟨y0, y1, y2, g0, g1, g2⟩ := hY.three
        have hXl2 := hX.lt
        have hYl := hY.lt
        by_cases hne : s1 = s2
        · have hq : (s1 != s2) = false := by simpa using hne
          have hfin : cmpL s.data.toList t.data.toList = (cmpW ⟨m, d.data.toList, e⟩ ⟨m2, d2.data.toList, e2⟩ * s1, 0) := by
            unfold cmpL
            rw [hgen.out, hgen2.out]
            simp only [ne_eq, not_true_eq_false, if_false]
            rw [hs1.out, hs2.out, if_neg (by simpa using hne)]
          replace hfin := Lib.hid hfin
          rw [hq]
          clear hq hne
          have hXa := hX.alloc (.cells #[.bool m, .string d, .int .i64 e] 48)
          have hYa := hY.alloc (.cells #[.bool m, .string d, .int .i64 e] 48)
          have hBa := hBx.alloc hBx.size (.cells #[.bool m, .string d, .int .i64 e] 48)
          replace hX := Lib.hid hX
          replace hY := Lib.hid hY
          replace hBx := Lib.hid hBx
          go_wp2_with fail
          refine (refSign_any _ _ _ _).mono ?_
          rintro en w3 ⟨rfl, rfl⟩
          rw [hs1.out]
          generalize wc.alloc (.cells #[.bool m, .string d, .int .i64 e] 48) = wy at *
          clear x0 x1 x2 f0 f1 f2 y0 y1 y2 g0 g1 g2 hXl2 hYl hX hY hBx
          obtain ⟨x0, x1, x2, f0, f1, f2⟩ := hXa.three
          obtain ⟨y0, y1, y2, g0, g1, g2⟩ := hYa.three
          have hXl2 := hXa.lt
          have hYl := hYa.lt
          replace hBa := Lib.hid hBa
          by_cases hs0 : s1 = 0
          · subst hs0
            have hf2 : cmpL s.data.toList t.data.toList = (0, 0) := by rw [hfin.out]; simp
            replace hf2 := Lib.hid hf2
            clear hfin
            go_wp2
            go_ret2
            exact pair_end hf2.out hBa.out
          · have hs00 : ((s1 : Int) == 0) = false := by simpa using hs0
            obtain ⟨q, hq⟩ : ∃ q, cmpW ⟨m, d.data.toList, e⟩ ⟨m2, d2.data.toList, e2⟩ = q := ⟨_, rfl⟩
            have hqb : -1 ≤ q ∧ q ≤ 1 := by
              rw [← hq]
              unfold cmpW; split
              · exact compareBytes_bd _ _
              · exact cmp3_bd _ _
            obtain ⟨q1, q2⟩ := hqb
            have habv2 := habv.out
            clear habv
            simp only [hq] at habv2
            rw [hq] at hfin
            clear hq
            have hm := mul_bd q1 q2 p1 p2
            rw [Int.mul_comm] at hm
            obtain ⟨m1', m2'⟩ := hm
            have hcom : q * s1 = s1 * q := Int.mul_comm _ _
            rw [hcom] at hfin
            have hwm : IntKind.i64.wrap (s1 * q) = s1 * q := by rw [IntKind.wrap_i64]; omega
            replace habv2 := Lib.hid habv2
            clear hcom hs0
            go_upto_region 13 with (fail)
            go_region_with (first
              | (go_at_call 20; refine (refSign_any _ _ _ _).mono ?_; rintro en w3 ⟨rfl, rfl⟩; rw [hs1.out])
              | (go_at_call 21; refine (habv2.out _).mono ?_; rintro en w3 ⟨rfl, hB3⟩
                 have hX3 := Cel.below (b := w1.heap.size) (t := 48) (cs := #[.bool m, .string d, .int .i64 e]) (by first | exact hXa | exact hXa.alloc _) hB3 (by first | exact hXl2 | (simp; omega))
                 have hY3 := Cel.below (b := w2.heap.size) (t := 48) (cs := #[.bool m2, .string d2, .int .i64 e2]) (by first | exact hYa | exact hYa.alloc _) hB3 (by first | exact hYl | (simp; omega))
                 obtain ⟨v0, v1, v2, _, _, _⟩ := hX3.three
                 obtain ⟨z0, z1, z2, _, _, _⟩ := hY3.three))
            all_goals
              go_wp2
              go_ret2
              refine pair_end hfin.out ?_
              first
                | exact (hBa.out.trans (hB3.mono hBa.out.size)).alloc (by have := hBa.out.size; have := hB3.size; simp at *; omega) _
                | exact ((hBa.out.alloc hBa.out.size _).trans (hB3.mono (by have := hBa.out.size; simp; omega)))
                | exact ((hBa.out.alloc hBa.out.size _).drew.trans (hB3.mono (by have := hBa.out.size; simp; omega)))
        · have hq : (s1 != s2) = true := by simpa using hne
          have hfin : cmpL s.data.toList t.data.toList = (cmp3 s1 s2, 0) := by
            unfold cmpL
            rw [hgen.out, hgen2.out]
            simp only [ne_eq, not_true_eq_false, if_false]
            rw [hs1.out, hs2.out, if_pos hne]
          replace hfin := Lib.hid hfin
          rw [hq]
          clear hq
          replace hX := Lib.hid hX
          replace hY := Lib.hid hY
          replace hBx := Lib.hid hBx
          go_upto_region 8 with (fail)
          go_region_with (go_at_call 20; refine (refSign_any _ _ _ _).mono ?_; rintro en w3 ⟨rfl, rfl⟩)
          all_goals
            rw [hs1.out, hs2.out]
            by_cases hls : s1 < s2
            · have hc : cmp3 s1 s2 = -1 := by unfold cmp3; rw [if_pos hls]
              clear hne
              go_wp2
              go_ret2
              exact pair_end (by rw [hfin.out, hc]) ((hBx.out.alloc hBx.out.size _).alloc (by have := hBx.out.size; simp; omega) _).drew
            · have hc : cmp3 s1 s2 = 1 := by unfold cmp3; rw [if_neg hls, if_pos (by omega)]
              clear hne
              go_wp2
              go_ret2
              exact pair_end (by rw [hfin.out, hc]) ((hBx.out.alloc hBx.out.size _).alloc (by have := hBx.out.size; simp; omega) _).drew
    · have hne : ((err2 : Int) != 0) = true := by simpa using h02
      have hfin : cmpL s.data.toList t.data.toList = (0, err2) := by
        unfold cmpL
        rw [hgen.out, hgen2.out]
        simp only [ne_eq, not_true_eq_false, if_false]
        rw [if_pos h02]
      replace hfin := Lib.hid hfin
      clear h02 c3
      go_wp2
      go_ret2
      exact pair_end hfin.out (hBx.out.alloc hBx.out.size _)
  · have hne : ((err : Int) != 0) = true := by simpa using h0
    have hfin : cmpL s.data.toList t.data.toList = (0, err) := by
      unfold cmpL
      rw [hgen.out]
      simp only [ne_eq]
      rw [if_pos h0]
    replace hfin := Lib.hid hfin
    clear h0 b3
    go_wp2
    go_ret2
    exact pair_end hfin.out (hB.out.alloc hB.out.size _)
end Go.Proofs.YtflnkclobgjfdaaDoor
