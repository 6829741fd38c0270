/-
  The walks of dec.Cmp and Of.
-/
import Derived.Test.YtghaoielnphhlaaGreatDoorDecF
import Derived.Test.YtghaoielnphhlaaGreatDoorM14
import Derived.Test.YtghaoielnphhlaaGreatDoorRefB
namespace Go.Proofs.YtghaoielnphhlaaGreatDoor
open Go.RowKit

/-- How two worths of one sign are held against each other. -/
def cmpW (x y : Wth) : Int :=
  if cmp3 (x.digits.length + x.exp) (y.digits.length + y.exp) = 0 then Lib.compareBytes x.digits y.digits
  else cmp3 (x.digits.length + x.exp) (y.digits.length + y.exp)

/-- dec.Cmp. -/
def cmpL (a b : List UInt8) : Int × Int :=
  if (decGetL a).2 ≠ 0 then (0, (decGetL a).2)
  else if (decGetL b).2 ≠ 0 then (0, (decGetL b).2)
  else if signW (decGetL a).1 ≠ signW (decGetL b).1 then (cmp3 (signW (decGetL a).1) (signW (decGetL b).1), 0)
  else (cmpW (decGetL a).1 (decGetL b).1 * signW (decGetL a).1, 0)

def PairEnd (w : World) (r : Int × Int) (en : Ending) (w' : World) : Prop := en = .returned (.tuple #[.int .i64 r.1, .int .i64 r.2]) ∧ Below w.heap.size w w'
end Go.Proofs.YtghaoielnphhlaaGreatDoor


/-
  The walk of rostrumref04.Get: what they answer is what dec's answer.
-/
namespace Go.Proofs.YtghaoielnphhlaaGreatDoor
open Go.RowKit

theorem getEnd_of {l : List UInt8} (hl : l.length ≤ 1000000) {x : Wth} {e : Int} (h : getL l = (x, e)) (d : ByteArray) (hd : d.data.toList = x.digits) : GetEnd l (.returned (.tuple #[numV x.minus d x.exp, .int .i64 e])) := by
  unfold GetEnd; rw [get_same l hl, h]; exact ⟨d, hd, rfl⟩

set_option maxHeartbeats 2000000 in
theorem refGet_any (s : ByteArray) (w : World) (hs : s.size ≤ 1000000) :
    Calls Tryz.prog 132 #[.string s] w fun en w' => GetEnd s.data.toList en ∧ Below w.heap.size w w' := by
  have hl : s.data.toList.length ≤ 1000000 := by rw [bytes_len]; exact hs
  have hcon := Lib.hid (fun W => refParse_any s W (by omega))
  have hC0 := Cel.fresh w 170 #[.bool false, .string ⟨#[]⟩, .int .i64 0]
  have hB0 := (Below.refl w.heap.size w).alloc (Nat.le_refl _) (.cells #[.bool false, .string ⟨#[]⟩, .int .i64 0] 170)
  replace hC0 := Lib.hid hC0
  replace hB0 := Lib.hid hB0
  cases hP : parseL s.data.toList with
  | none =>
    have hfin : GetEnd s.data.toList (.returned (.tuple #[numV false ⟨#[]⟩ 0, .int .i64 4])) := getEnd_of hl (x := ⟨false, [], 0⟩) (by unfold getL; rw [hP]) ⟨#[]⟩ rfl
    replace hfin := Lib.hid hfin
    replace hP := Lib.hid hP
    go_enter Tryz.func132, Tryz.ntmps132
    go_wp2_with fail
    refine (hcon.out _).mono ?_
    rintro en w1 ⟨hpe, hB⟩
    unfold ParseEnd at hpe
    rw [hP.out] at hpe
    obtain ⟨x, y, z, rfl⟩ := hpe
    have hC := (hC0.out.below hB (by simp)).alloc (.cells #[.bool x, .string y, .int .i64 z] 170)
    obtain ⟨x0, x1, x2, f0, f1, f2⟩ := hC.three
    have q := Lib.hid (hC.over3 (x' := .bool false) (y' := .string ⟨#[]⟩) (z' := .int .i64 0)).three
    have hBf := (hB0.out.trans (hB.mono (by simp)))
    replace hBf := Lib.hid (hBf.alloc hBf.size (.cells #[.bool x, .string y, .int .i64 z] 170))
    clear hcon hB hC0 hB0
    go_wp2
    replace q := q.out
    refine bodyPost_ret (v := .tuple #[numV false ⟨#[]⟩ 0, .int .i64 4]) (by simp [numV, results, Tryz.results132, go_sem, q.1, q.2.1, q.2.2.1]) rfl ⟨hfin.out, ?_⟩
    exact ((hBf.out.setCell (by simp) _).setCell (by simp) _).setCell (by simp) _
  | some x =>
    obtain ⟨m, dd, e⟩ := x
    obtain ⟨d, hd⟩ : ∃ d : ByteArray, d = ⟨dd.toArray⟩ := ⟨_, rfl⟩
    have hdd : d.data.toList = dd := by rw [hd]
    have hdl : d.size = dd.length := by rw [← bytes_len, hdd]
    have hpe : ∀ en, ParseEnd s.data.toList en → en = .returned (.tuple #[numV m d e, .bool true]) := by
      intro en h
      unfold ParseEnd at h
      rw [hP] at h
      rw [h, hd]; rfl
    have hg : getL s.data.toList = if 200 < dd.length ∨ e < -9999 ∨ 9999 < e then (⟨false, [], 0⟩, 40) else (⟨m, dd, e⟩, 0) := by unfold getL; rw [hP]
    replace hpe := Lib.hid hpe
    clear hd hP
    by_cases hbig : 200 < dd.length ∨ e < -9999 ∨ 9999 < e
    · rw [if_pos hbig] at hg
      have hfin : GetEnd s.data.toList (.returned (.tuple #[numV false ⟨#[]⟩ 0, .int .i64 40])) := getEnd_of hl (x := ⟨false, [], 0⟩) hg ⟨#[]⟩ rfl
      replace hfin := Lib.hid hfin
      clear hg hdd
      have hthree : (200 < (d.size : Int)) ∨ (¬ (200 < (d.size : Int)) ∧ e < -9999) ∨ (¬ (200 < (d.size : Int)) ∧ ¬ e < -9999 ∧ 9999 < e) := by omega
      clear hdl hbig
      rcases hthree with h1 | ⟨h1, h2⟩ | ⟨h1, h2, h3⟩
      all_goals
        go_enter Tryz.func132, Tryz.ntmps132
        go_wp2_with fail
        refine (hcon.out _).mono ?_
        rintro en w1 ⟨hen, hB⟩
        have hen := hpe.out _ hen
        subst hen
        have hC := (hC0.out.below hB (by simp)).alloc (.cells #[.bool m, .string d, .int .i64 e] 170)
        have hD := Cel.fresh w1 170 #[.bool m, .string d, .int .i64 e]
        obtain ⟨x0, x1, x2, f0, f1, f2⟩ := hC.three
        obtain ⟨y0, y1, y2, g0, g1, g2⟩ := hD.three
        have q := Lib.hid (hC.over3 (x' := .bool false) (y' := .string ⟨#[]⟩) (z' := .int .i64 0)).three
        have hBf := (hB0.out.trans (hB.mono (by simp)))
        replace hBf := Lib.hid (hBf.alloc hBf.size (.cells #[.bool m, .string d, .int .i64 e] 170))
        clear hcon hB hC0 hB0
        simp only [numV]
        go_wp2
        replace q := q.out
        refine bodyPost_ret (v := .tuple #[numV false ⟨#[]⟩ 0, .int .i64 40]) (by simp [numV, results, Tryz.results132, go_sem, q.1, q.2.1, q.2.2.1]) rfl ⟨hfin.out, ?_⟩
        exact ((hBf.out.setCell (by simp) _).setCell (by simp) _).setCell (by simp) _
    · rw [if_neg hbig] at hg
      have hfin : GetEnd s.data.toList (.returned (.tuple #[numV m d e, .int .i64 0])) := getEnd_of hl hg d hdd
      replace hfin := Lib.hid hfin
      have h1 : ¬ (200 < (d.size : Int)) := by omega
      have h2 : ¬ e < -9999 := by omega
      have h3 : ¬ 9999 < e := by omega
      clear hg hdd hdl hbig
      go_enter Tryz.func132, Tryz.ntmps132
      go_wp2_with fail
      refine (hcon.out _).mono ?_
      rintro en w1 ⟨hen, hB⟩
      have hen := hpe.out _ hen
      subst hen
      have hC := (hC0.out.below hB (by simp)).alloc (.cells #[.bool m, .string d, .int .i64 e] 170)
      have hD := Cel.fresh w1 170 #[.bool m, .string d, .int .i64 e]
      obtain ⟨x0, x1, x2, f0, f1, f2⟩ := hC.three
      obtain ⟨y0, y1, y2, g0, g1, g2⟩ := hD.three
      have q := Lib.hid (hC.over3 (x' := .bool m) (y' := .string d) (z' := .int .i64 e)).three
      have hBf := (hB0.out.trans (hB.mono (by simp)))
      replace hBf := Lib.hid (hBf.alloc hBf.size (.cells #[.bool m, .string d, .int .i64 e] 170))
      clear hcon hB hC0 hB0
      simp only [numV]
      go_wp2
      replace q := q.out
      refine bodyPost_ret (v := .tuple #[numV m d e, .int .i64 0]) (by simp [numV, results, Tryz.results132, go_sem, q.1, q.2.1, q.2.2.1]) rfl ⟨hfin.out, ?_⟩
      exact ((hBf.out.setCell (by simp) _).setCell (by simp) _).setCell (by simp) _
end Go.Proofs.YtghaoielnphhlaaGreatDoor
