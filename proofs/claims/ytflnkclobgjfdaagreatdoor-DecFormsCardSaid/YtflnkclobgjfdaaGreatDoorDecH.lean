/-
  The walks of dec.Cmp and Of.
-/
import Derived.Test.YtflnkclobgjfdaaGreatDoorDecF
namespace Go.Proofs.YtflnkclobgjfdaaGreatDoor
open Go.RowKit

/-- How two worths of one sign are held against each other. -/
def cmpW (x y : Wth) : Int :=
  if cmp3 (x.digits.length + x.exp) (y.digits.length + y.exp) = 0 then Lib.compareBytes x.digits y.digits
  else cmp3 (x.digits.length + x.exp) (y.digits.length + y.exp)

/-- dec.Cmp. -/
def cmpL (a b : List UInt8) : Int × Int :=
  if (decGetL a).2 ≠ 0 then (0, (decGetL a).2)
  else if (decGetL b).2 ≠ 0 then (0, (decGetL b).2)
  else if signW (decGetL a).1 ≠ signW (decGetL b).1 then (cmp3 (signW (decGetL a).1) (signW (decGetL b).1), 0)
  else (cmpW (decGetL a).1 (decGetL b).1 * signW (decGetL a).1, 0)

theorem cmp3_bd (a b : Int) : -1 ≤ cmp3 a b ∧ cmp3 a b ≤ 1 := by
  unfold cmp3; split
  · omega
  · split <;> omega
theorem signW_bd (x : Wth) : -1 ≤ signW x ∧ signW x ≤ 1 := by
  unfold signW; split
  · omega
  · split <;> omega

def PairEnd (w : World) (r : Int × Int) (en : Ending) (w' : World) : Prop := en = .returned (.tuple #[.int .i64 r.1, .int .i64 r.2]) ∧ Below w.heap.size w w'
theorem pair_end {w w' : World} {r : Int × Int} {a b : Int} (h : r = (a, b)) (hB : Below w.heap.size w w') : PairEnd w r (.returned (.tuple #[.int .i64 a, .int .i64 b])) w' := by
  subst h; exact ⟨rfl, hB⟩

theorem decSign_agg (m : Bool) (d : ByteArray) (e : Int) (w : World) :
    Calls Tryz.prog 20 #[.agg #[.bool m, .string d, .int .i64 e]] w fun en w' => en = .returned (.int .i64 (signW ⟨m, d.data.toList, e⟩)) ∧ w' = w.alloc (.cells #[.bool m, .string d, .int .i64 e] 33) := decSign_any m d e w

theorem compareBytes_bd : ∀ a b : List UInt8, -1 ≤ Lib.compareBytes a b ∧ Lib.compareBytes a b ≤ 1
  | [], [] => by simp [Lib.compareBytes]
  | [], _ :: _ => by simp [Lib.compareBytes]
  | _ :: _, [] => by simp [Lib.compareBytes]
  | a :: xs, b :: ys => by
    unfold Lib.compareBytes
    split
    · omega
    · split
      · omega
      · exact compareBytes_bd xs ys
theorem mul_bd {a b : Int} (h1 : -1 ≤ a) (h2 : a ≤ 1) (h3 : -1 ≤ b) (h4 : b ≤ 1) : -1 ≤ a * b ∧ a * b ≤ 1 := by
  have : a = -1 ∨ a = 0 ∨ a = 1 := by omega
  rcases this with rfl | rfl | rfl <;> omega

set_option maxHeartbeats 2000000 in
theorem decCmp_any (s t : ByteArray) (w : World) (hs : s.size ≤ 1099511627776) (ht : t.size ≤ 1099511627776) :
    Calls Tryz.prog 11 #[.string s, .string t] w (PairEnd w (cmpL s.data.toList t.data.toList)) := by
  have hbd := decGetL_bd s.data.toList
  have hbd2 := decGetL_bd t.data.toList
  have hget := Lib.hid (decGet_any s w hs)
  have hget2 := fun W => decGet_any t W ht
  replace hget2 := Lib.hid hget2
  go_enter Tryz.func11, Tryz.ntmps11
  go_wp2_with fail
  refine hget.out.mono ?_
  rintro en w1 ⟨⟨d, hd, rfl⟩, hB⟩
  clear hget
  obtain ⟨r, hgen⟩ : ∃ r, decGetL s.data.toList = r := ⟨_, rfl⟩
  rw [hgen] at hbd hd ⊢
  obtain ⟨⟨m, dd, e⟩, err⟩ := r
  simp only at hbd hd ⊢
  have hdl : d.size ≤ 200 := by rw [← bytes_len, hd]; exact hbd.1
  subst hd
  obtain ⟨_, b1, b2, b3⟩ := hbd
  replace hgen := Lib.hid hgen
  replace hB := Lib.hid hB
  simp only [numV]
  by_cases h0 : err = 0
  · subst h0
    clear b3
    go_wp2_with fail
    refine (hget2.out _).mono ?_
    rintro en w2 ⟨⟨d2, hd2, rfl⟩, hB2⟩
    clear hget2
    obtain ⟨r2, hgen2⟩ : ∃ r2, decGetL t.data.toList = r2 := ⟨_, rfl⟩
    rw [hgen2] at hbd2 hd2 ⊢
    obtain ⟨⟨m2, dd2, e2⟩, err2⟩ := r2
    simp only at hbd2 hd2 ⊢
    have hdl2 : d2.size ≤ 200 := by rw [← bytes_len, hd2]; exact hbd2.1
    subst hd2
    obtain ⟨_, c1, c2, c3⟩ := hbd2
    replace hgen2 := Lib.hid hgen2
    have hX := (Cel.fresh w1 33 #[.bool m, .string d, .int .i64 e]).below hB2 (by simp)
    have hBx := (hB.out.alloc hB.out.size (.cells #[.bool m, .string d, .int .i64 e] 33)).trans (hB2.mono (by have := hB.out.size; simp; omega))
    obtain ⟨x0, x1, x2, f0, f1, f2⟩ := hX.three
    have hXl := hX.lt
    replace hBx := Lib.hid hBx
    clear hB2 hB
    simp only [numV]
    by_cases h02 : err2 = 0
    · subst h02
      clear c3
      have hY := Cel.fresh w2 33 #[.bool m2, .string d2, .int .i64 e2]
      replace hX := hX.alloc (.cells #[.bool m2, .string d2, .int .i64 e2] 33)
      replace hBx := hBx.out.alloc hBx.out.size (.cells #[.bool m2, .string d2, .int .i64 e2] 33)
      go_upto_region 7 with (fail)
      clear x0 x1 x2 f0 f1 f2
      generalize w2.alloc (.cells #[.bool m2, .string d2, .int .i64 e2] 33) = wx at *
      obtain ⟨x0, x1, x2, f0, f1, f2⟩ := hX.three
      obtain ⟨y0, y1, y2, g0, g1, g2⟩ := hY.three
      have hXl2 := hX.lt
      have hYl := hY.lt
      obtain ⟨s1, hs1⟩ : ∃ q, signW ⟨m, d.data.toList, e⟩ = q := ⟨_, rfl⟩
      obtain ⟨s2, hs2⟩ : ∃ q, signW ⟨m2, d2.data.toList, e2⟩ = q := ⟨_, rfl⟩
      have hb1 := signW_bd ⟨m, d.data.toList, e⟩
      have hb2 := signW_bd ⟨m2, d2.data.toList, e2⟩
      rw [hs1] at hb1
      rw [hs2] at hb2
      replace hs1 := Lib.hid hs1
      replace hs2 := Lib.hid hs2
      obtain ⟨p1, p2⟩ := hb1
      obtain ⟨p3, p4⟩ := hb2
      refine wp_cut (fun a' wc => ∃ (u : Nat → Value), a' = ⟨#[.string s, .string t, u 2, u 3, u 4, u 5, .pointer (some ⟨w1.heap.size, 0, none⟩), u 7, .pointer (some ⟨w2.heap.size, 0, none⟩), u 9, u 10, u 11, u 12, u 13, u 14, u 15, u 16, u 17, u 18, u 19, u 20, u 21, u 22, u 23, u 24, u 25, u 26, u 27, u 28, u 29, .bool (s1 != s2), u 31, u 32, u 33, u 34, u 35, u 36, u 37, u 38, u 39, u 40, u 41, u 42, u 43, u 44, u 45, u 46, u 47, u 48, u 49, u 50, u 51, u 52, u 53, u 54, u 55, u 56, u 57, u 58, u 59], []⟩ ∧ (Cel wc w1.heap.size 33 #[.bool m, .string d, .int .i64 e] ∧ Cel wc w2.heap.size 33 #[.bool m2, .string d2, .int .i64 e2] ∧ Below w.heap.size w wc)) ?rest ?first
      case first =>
        intro J K' hJ hK'
        go_region_with (go_at_call 20; refine (decSign_agg _ _ _ _).mono ?_; rintro en w3 ⟨rfl, rfl⟩)
        all_goals
          go_wp2
          refine Met.intro (hJ _ _ ?_)
          rw [← hs1.out, ← hs2.out]
          exact meetF (by kernel_rfl) ⟨(hX.alloc _).alloc _, (hY.alloc _).alloc _, ((hBx.alloc hBx.size _).alloc (by have := hBx.size; simp; omega) _).drew⟩
      case rest =>
        clear x0 x1 x2 f0 f1 f2 y0 y1 y2 g0 g1 g2 hX hY hBx hXl2 hYl
        rintro a' wc ⟨u, rfl, hX, hY, hBx⟩
        obtain ⟨x0, x1, x2, f0, f1, f2⟩ := hX.three
        obtain ⟨y0, y1, y2, g0, g1, g2⟩ := hY.three
        have hXl2 := hX.lt
        have hYl := hY.lt
        replace hX := Lib.hid hX
        replace hY := Lib.hid hY
        replace hBx := Lib.hid hBx
        by_cases hne : s1 = s2
        · have hq : (s1 != s2) = false := by simpa using hne
          have hfin : cmpL s.data.toList t.data.toList = (cmpW ⟨m, d.data.toList, e⟩ ⟨m2, d2.data.toList, e2⟩ * s1, 0) := by
            unfold cmpL
            rw [hgen.out, hgen2.out]
            simp only [ne_eq, not_true_eq_false, if_false]
            rw [hs1.out, hs2.out, if_neg (by simpa using hne)]
          replace hfin := Lib.hid hfin
          rw [hq]
          clear hq hne
          go_wp2_with fail
          refine (decCmp3_any _ _ _).mono ?_
          rintro en w3 ⟨rfl, rfl⟩
          obtain ⟨c, hc⟩ : ∃ c, cmp3 ((d.size : Int) + e) ((d2.size : Int) + e2) = c := ⟨_, rfl⟩
          have hcb := cmp3_bd ((d.size : Int) + e) ((d2.size : Int) + e2)
          rw [hc] at hcb
          simp only [hc]
          have hW : cmpW ⟨m, d.data.toList, e⟩ ⟨m2, d2.data.toList, e2⟩ = if c = 0 then Lib.compareBytes d.data.toList d2.data.toList else c := by
            unfold cmpW
            simp only [bytes_len]
            rw [hc]
          clear hc
          obtain ⟨k1, k2⟩ := hcb
          by_cases hc0 : c = 0
          · subst hc0
            rw [if_pos rfl] at hW
            have hcmp := fun W => Tryz.strings_Compare d d2 W
            obtain ⟨q, hq⟩ : ∃ q, Lib.compareBytes d.data.toList d2.data.toList = q := ⟨_, rfl⟩
            have hqb := compareBytes_bd d.data.toList d2.data.toList
            rw [hq] at hW hqb
            simp only [hq] at hcmp
            clear hq
            replace hcmp := Lib.hid hcmp
            replace hW := Lib.hid hW
            have hm := mul_bd hqb.1 hqb.2 p1 p2
            obtain ⟨m1', m2'⟩ := hm
            clear k1 k2 hqb
            go_wp2_with fail
            refine (hcmp.out _).mono ?_
            rintro en w3 ⟨rfl, rfl⟩
            go_wp2_with fail
            refine (decSign_agg _ _ _ _).mono ?_
            rintro en w4 ⟨rfl, rfl⟩
            rw [hs1.out]
            go_wp2
            go_ret2
            exact pair_end (by rw [hfin.out, hW.out]) (hBx.out.alloc hBx.out.size _)
          · rw [if_neg hc0] at hW
            replace hW := Lib.hid hW
            have hc1 : (c == 0) = false := by simpa using hc0
            have hm := mul_bd k1 k2 p1 p2
            obtain ⟨m1', m2'⟩ := hm
            clear hc0
            go_wp2_with fail
            refine (decSign_agg _ _ _ _).mono ?_
            rintro en w4 ⟨rfl, rfl⟩
            rw [hs1.out]
            go_wp2
            go_ret2
            exact pair_end (by rw [hfin.out, hW.out]) (hBx.out.alloc hBx.out.size _)
        · have hq : (s1 != s2) = true := by simpa using hne
          have hfin : cmpL s.data.toList t.data.toList = (cmp3 s1 s2, 0) := by
            unfold cmpL
            rw [hgen.out, hgen2.out]
            simp only [ne_eq, not_true_eq_false, if_false]
            rw [hs1.out, hs2.out, if_pos hne]
          replace hfin := Lib.hid hfin
          rw [hq]
          clear hq hne
          go_upto_region 8 with (fail)
          go_region_with (first | (go_at_call 20; refine (decSign_agg _ _ _ _).mono ?_; rintro en w3 ⟨rfl, rfl⟩) | (go_at_call 21; refine (decCmp3_any _ _ _).mono ?_; rintro en w3 ⟨rfl, rfl⟩))
          all_goals
            go_wp2
            go_ret2
            refine pair_end (by rw [hfin.out, hs1.out, hs2.out]) ?_
            exact ((hBx.out.alloc hBx.out.size _).alloc (by have := hBx.out.size; simp; omega) _).drew
    · have hne : ((err2 : Int) != 0) = true := by simpa using h02
      have hfin : cmpL s.data.toList t.data.toList = (0, err2) := by
        unfold cmpL
        rw [hgen.out, hgen2.out]
        simp only [ne_eq, not_true_eq_false, if_false]
        rw [if_pos h02]
      replace hfin := Lib.hid hfin
      clear h02 c3
      go_wp2
      go_ret2
      exact pair_end hfin.out (hBx.out.alloc hBx.out.size _)
  · have hne : ((err : Int) != 0) = true := by simpa using h0
    have hfin : cmpL s.data.toList t.data.toList = (0, err) := by
      unfold cmpL
      rw [hgen.out]
      simp only [ne_eq]
      rw [if_pos h0]
    replace hfin := Lib.hid hfin
    clear h0 b3
    go_wp2
    go_ret2
    exact pair_end hfin.out (hB.out.alloc hB.out.size _)
end Go.Proofs.YtflnkclobgjfdaaGreatDoor
