/-
  The walk of dec.get.
-/
import Derived.Test.YtlnkjacbdolhnaaGreatDoorM01
import Derived.Deep.CutBlock
import Derived.Deep.DeepMust
import Derived.Lib.ItoaLen
import Derived.Lib.LaidTab
import Derived.WalkSmall
import Derived.Lib.AppendIntMem
namespace Go.Proofs.YtlnkjacbdolhnaaGreatDoor
open Go.RowKit

def numV (m : Bool) (d : ByteArray) (e : Int) : Value := .agg #[.bool m, .string d, .int .i64 e]

/-- Which state comes next, and what the reader holds then. -/
def NextR (w : World) (b : Nat) (l : List UInt8) (next : Value) (wr : World) : Prop :=
  Below b w wr ∧ ∃ (s d : ByteArray) (r : Rst), s.data.toList = r.s ∧ d.data.toList = r.d ∧ RD wr b s r.m d r.e ∧
    ((next = fnV 179 b ∧ r = ⟨l, false, [], 0⟩) ∨ (next = fnV 204 b ∧ wholeL l = some r) ∨
     (next = fnV 233 b ∧ (wholeL l).bind partL = some r) ∨ (next = .nilFunc ∧ decL l = some r))

/-- How many states are left. -/
def left_ : Value → Nat
  | .func (.func f) _ _ => if f = 179 then 3 else if f = 204 then 2 else 1
  | _ => 0

def GetEnd (l : List UInt8) (en : Ending) : Prop :=
  ∃ d : ByteArray, d.data.toList = (decGetL l).1.digits ∧ en = .returned (.tuple #[numV (decGetL l).1.minus d (decGetL l).1.exp, .int .i64 (decGetL l).2])

theorem get_none {l : List UInt8} (h : decL l = none) : GetEnd l (.returned (.tuple #[numV false ⟨#[]⟩ 0, .int .i64 4])) := by
  have e : decGetL l = (⟨false, [], 0⟩, 4) := by unfold decGetL; rw [h]
  unfold GetEnd; rw [e]; exact ⟨⟨#[]⟩, rfl, rfl⟩

theorem neq_fn (f : Nat) (a : Value) (W : World) : (binOp .neq 232 (.func (.func f) #[a] #[]) .nilFunc).run Tryz.prog W = .ok (.bool true) W := by kernel_rfl
theorem neq_nil (W : World) : (binOp .neq 232 .nilFunc .nilFunc).run Tryz.prog W = .ok (.bool false) W := by kernel_rfl

theorem trimRZ (l : List UInt8) : Lib.trimRightB l 48 = trimR l := by
  unfold Lib.trimRightB trimR
  congr 2
  funext c
  unfold isZ
  rw [Bool.eq_iff_iff]
  simp only [beq_iff_eq, decide_eq_true_eq]
  exact ⟨fun h => by rw [h]; rfl, fun h => UInt8.toNat_inj.1 h⟩
theorem trimRight_call (d : ByteArray) (hd : d.size ≤ 4398046511104) (W : World) :
    Calls Tryz.prog 180 #[.string d, .string ⟨#[48]⟩] W fun e w' => ∃ t : ByteArray, e = .returned (.string t) ∧ t.data.toList = trimR d.data.toList ∧ W = w' :=
  (Tryz.strings_TrimRight_one d 48 (by decide) W (by omega)).mono fun e w' hh => ⟨_, hh.1, by rw [trimRZ], hh.2.symm⟩
theorem trimLeft_call (d : ByteArray) (W : World) :
    Calls Tryz.prog 83 #[.string d, .string ⟨#[48]⟩] W fun e w' => ∃ t : ByteArray, e = .returned (.string t) ∧ t.data.toList = d.data.toList.dropWhile isZ ∧ W = w' :=
  (Tryz.strings_TrimLeft_one d 48 (by decide) W).mono fun e w' hh => ⟨_, hh.1, by rw [trimZ], hh.2.symm⟩
theorem trimR_len (l : List UInt8) : (trimR l).length ≤ l.length := by
  unfold trimR
  rw [List.length_reverse]
  have := dropWhile_length_le (p := isZ) l.reverse
  simpa using this

set_option maxRecDepth 100000 in
set_option maxHeartbeats 2000000 in
theorem decGet_any (s : ByteArray) (w : World) (hs : s.size ≤ 1099511627776) :
    Calls Tryz.prog 137 #[.string s] w fun en w' => GetEnd s.data.toList en ∧ Below w.heap.size w w' := by
  go_enter Tryz.func137, Tryz.ntmps137
  go_upto_block 0 with (fail)
  have hR0 : RD ((w.alloc (.cells #[.bool false, .string ⟨#[]⟩, .int .i64 0] 187)).alloc (.cells #[.string s, .bool false, .string ⟨#[]⟩, .int .i64 0, .int .i64 0] 230)) (w.heap.size + 1) s false ⟨#[]⟩ 0 := by
    have := Cel.fresh (w.alloc (.cells #[.bool false, .string ⟨#[]⟩, .int .i64 0] 187)) 230 #[.string s, .bool false, .string ⟨#[]⟩, .int .i64 0, .int .i64 0]
    simpa [RD] using this
  have hC0 := (Cel.fresh w 187 #[.bool false, .string ⟨#[]⟩, .int .i64 0]).alloc (.cells #[.string s, .bool false, .string ⟨#[]⟩, .int .i64 0, .int .i64 0] 230)
  have hB0 : Below w.heap.size w ((w.alloc (.cells #[.bool false, .string ⟨#[]⟩, .int .i64 0] 187)).alloc (.cells #[.string s, .bool false, .string ⟨#[]⟩, .int .i64 0, .int .i64 0] 230)) := ((Below.refl _ _).alloc (Nat.le_refl _) _).alloc (by simp) _
  generalize (w.alloc (.cells #[.bool false, .string ⟨#[]⟩, .int .i64 0] 187)).alloc (.cells #[.string s, .bool false, .string ⟨#[]⟩, .int .i64 0, .int .i64 0] 230) = w0 at *
  replace hR0 := Lib.hid hR0
  replace hC0 := Lib.hid hC0
  replace hB0 := Lib.hid hB0
  refine wp_cut (fun a' wc => ∃ (s1 d : ByteArray) (r : Rst) (u : Nat → Value), a' = ⟨#[.string s, u 1, .pointer (some ⟨w.heap.size, 0, none⟩), u 3, .pointer (some ⟨w.heap.size + 1, 0, none⟩), u 5, u 6, u 7, u 8, u 9, u 10, u 11, u 12, u 13, u 14, u 15, u 16, u 17, u 18, u 19, u 20, u 21, u 22, u 23, u 24, u 25, u 26, u 27, u 28, u 29, u 30, u 31, u 32, u 33, u 34, u 35, u 36, u 37, u 38, u 39, u 40, u 41, u 42, u 43, u 44, u 45, u 46, u 47, u 48, u 49, u 50, u 51, u 52, u 53, u 54, u 55, u 56, u 57, u 58, u 59, u 60, u 61, u 62, u 63, u 64, u 65, u 66, u 67], []⟩ ∧ (Below (w.heap.size + 1) w0 wc ∧ d.data.toList = r.d ∧ RD wc (w.heap.size + 1) s1 r.m d r.e ∧ decL s.data.toList = some r)) ?rest ?first
  case first =>
    intro J K' hJ hK'
    go_wp2
    go_loopw [5] (fun next wr => NextR w0 (w.heap.size + 1) s.data.toList next wr) (fun next _ => left_ next)
    case atStart => exact ⟨Below.refl _ _, s, ⟨#[]⟩, ⟨s.data.toList, false, [], 0⟩, rfl, rfl, hR0.out, Or.inl ⟨rfl, rfl⟩⟩
    case round =>
      obtain ⟨hB, s1, d, r, hs1, hd, hR, hn⟩ := hrel
      rcases hn with ⟨rfl, rfl⟩ | ⟨rfl, hw⟩ | ⟨rfl, hw⟩ | ⟨rfl, hw⟩
      · have hd0 : d = ⟨#[]⟩ := by rw [← bytes_mk d, hd]
        subst hd0
        have hz : s1.size ≤ 1099511627776 := by rw [← bytes_len, hs1, bytes_len]; exact hs
        have hcon := decWhole_any (w.heap.size + 1) s1 wr hR hz
        rw [hs1] at hcon
        simp only at hcon
        cases hr : wholeL s.data.toList
        · rw [hr] at hcon
          have hfin : GetEnd s.data.toList (.returned (.tuple #[numV false ⟨#[]⟩ 0, .int .i64 4])) := get_none (by unfold decL; rw [hr]; rfl)
          replace hfin := Lib.hid hfin
          replace hcon := Lib.hid hcon
          replace hd := Lib.hid hd
          replace hs1 := Lib.hid hs1
          replace hr := Lib.hid hr
          simp only [fnV]
          have hne := neq_fn 179 (.pointer (some ⟨w.heap.size + 1, 0, none⟩))
          go_wp2_with fail
          refine hcon.out.mono ?_
          rintro en w' ⟨⟨v, rfl⟩, hB2⟩
          have hC := hC0.out.below (hB.trans hB2) (Nat.lt_succ_self _)
          obtain ⟨x0, x1, x2, f0, f1, f2⟩ := hC.three
          have q := Lib.hid (hC.over3 (x' := .bool false) (y' := .string ⟨#[]⟩) (z' := .int .i64 0)).three
          have hBf := Lib.hid (hB0.out.trans ((hB.trans hB2).mono (Nat.le_succ w.heap.size)))
          clear hne hcon
          go_wp2
          replace q := q.out
          refine bodyPost_ret (v := .tuple #[numV false ⟨#[]⟩ 0, .int .i64 4]) (by simp [numV, results, Tryz.results137, go_sem, q.1, q.2.1, q.2.2.1]) rfl ⟨hfin.out, ?_⟩
          exact ((hBf.out.setCell (by simp) _).setCell (by simp) _).setCell (by simp) _
        · rename_i r1
          rw [hr] at hcon
          replace hcon := Lib.hid hcon
          replace hd := Lib.hid hd
          replace hs1 := Lib.hid hs1
          replace hr := Lib.hid hr
          simp only [fnV]
          have hne := neq_fn 179 (.pointer (some ⟨w.heap.size + 1, 0, none⟩))
          go_wp2_with fail
          refine hcon.out.mono ?_
          rintro en w' ⟨s2, d2, rfl, hs2, hd2, hR2, hB2⟩
          clear hne hcon
          replace hs2 := Lib.hid hs2
          replace hd2 := Lib.hid hd2
          replace hR2 := Lib.hid hR2
          go_wp2
          go_roundw
          case rel => exact ⟨hB.trans hB2, s2, d2, r1, hs2.out, hd2.out, hR2.out, Or.inr (Or.inl ⟨rfl, hr.out⟩)⟩
          case measure => simp [left_, fnV]
      · have hbd := wholeL_bd hw
        rw [← hs1, ← hd, bytes_len, bytes_len, bytes_len] at hbd
        have hcon := decPart_any (w.heap.size + 1) s1 r.m d r.e wr hR (by omega) (by omega) (by omega) (by omega)
        rw [hs1, hd] at hcon
        replace hw := Lib.hid hw
        cases hr : partL r
        · rw [hr] at hcon
          have hfin : GetEnd s.data.toList (.returned (.tuple #[numV false ⟨#[]⟩ 0, .int .i64 4])) := get_none (by unfold decL; rw [hw.out]; show (partL r).bind powerL = none; rw [hr]; rfl)
          replace hfin := Lib.hid hfin
          replace hcon := Lib.hid hcon
          replace hd := Lib.hid hd
          replace hs1 := Lib.hid hs1
          replace hr := Lib.hid hr
          simp only [fnV]
          have hne := neq_fn 204 (.pointer (some ⟨w.heap.size + 1, 0, none⟩))
          go_wp2_with fail
          refine hcon.out.mono ?_
          rintro en w' ⟨⟨v, rfl⟩, hB2⟩
          have hC := hC0.out.below (hB.trans hB2) (Nat.lt_succ_self _)
          obtain ⟨x0, x1, x2, f0, f1, f2⟩ := hC.three
          have q := Lib.hid (hC.over3 (x' := .bool false) (y' := .string ⟨#[]⟩) (z' := .int .i64 0)).three
          have hBf := Lib.hid (hB0.out.trans ((hB.trans hB2).mono (Nat.le_succ w.heap.size)))
          clear hne hcon
          go_wp2
          replace q := q.out
          refine bodyPost_ret (v := .tuple #[numV false ⟨#[]⟩ 0, .int .i64 4]) (by simp [numV, results, Tryz.results137, go_sem, q.1, q.2.1, q.2.2.1]) rfl ⟨hfin.out, ?_⟩
          exact ((hBf.out.setCell (by simp) _).setCell (by simp) _).setCell (by simp) _
        · rename_i r1
          rw [hr] at hcon
          replace hcon := Lib.hid hcon
          replace hd := Lib.hid hd
          replace hs1 := Lib.hid hs1
          replace hr := Lib.hid hr
          simp only [fnV]
          have hne := neq_fn 204 (.pointer (some ⟨w.heap.size + 1, 0, none⟩))
          go_wp2_with fail
          refine hcon.out.mono ?_
          rintro en w' ⟨s2, d2, rfl, hs2, hd2, hR2, hB2⟩
          clear hne hcon
          replace hs2 := Lib.hid hs2
          replace hd2 := Lib.hid hd2
          replace hR2 := Lib.hid hR2
          go_wp2
          go_roundw
          case rel => exact ⟨hB.trans hB2, s2, d2, r1, hs2.out, hd2.out, hR2.out, Or.inr (Or.inr (Or.inl ⟨rfl, by rw [hw.out]; exact hr.out⟩))⟩
          case measure => simp [left_, fnV]
      · have hbd : r.s.length ≤ s.data.toList.length ∧ -(s.data.toList.length : Int) ≤ r.e ∧ r.e ≤ 0 := by
          obtain ⟨r0, h1, h2⟩ := Option.bind_eq_some_iff.1 hw
          have a := wholeL_bd h1
          have b := partL_bd h2
          omega
        rw [← hs1, bytes_len, bytes_len] at hbd
        have hcon := decPower_any (w.heap.size + 1) s1 r.m d r.e wr hR (by omega) (by omega) (by omega)
        rw [hs1, hd] at hcon
        replace hw := Lib.hid hw
        cases hr : powerL r
        · rw [hr] at hcon
          have hfin : GetEnd s.data.toList (.returned (.tuple #[numV false ⟨#[]⟩ 0, .int .i64 4])) := get_none (by unfold decL; rw [← Option.bind_assoc, hw.out]; exact hr)
          replace hfin := Lib.hid hfin
          replace hcon := Lib.hid hcon
          replace hd := Lib.hid hd
          replace hs1 := Lib.hid hs1
          replace hr := Lib.hid hr
          simp only [fnV]
          have hne := neq_fn 233 (.pointer (some ⟨w.heap.size + 1, 0, none⟩))
          go_wp2_with fail
          refine hcon.out.mono ?_
          rintro en w' ⟨⟨v, rfl⟩, hB2⟩
          have hC := hC0.out.below (hB.trans hB2) (Nat.lt_succ_self _)
          obtain ⟨x0, x1, x2, f0, f1, f2⟩ := hC.three
          have q := Lib.hid (hC.over3 (x' := .bool false) (y' := .string ⟨#[]⟩) (z' := .int .i64 0)).three
          have hBf := Lib.hid (hB0.out.trans ((hB.trans hB2).mono (Nat.le_succ w.heap.size)))
          clear hne hcon
          go_wp2
          replace q := q.out
          refine bodyPost_ret (v := .tuple #[numV false ⟨#[]⟩ 0, .int .i64 4]) (by simp [numV, results, Tryz.results137, go_sem, q.1, q.2.1, q.2.2.1]) rfl ⟨hfin.out, ?_⟩
          exact ((hBf.out.setCell (by simp) _).setCell (by simp) _).setCell (by simp) _
        · rename_i r1
          rw [hr] at hcon
          replace hcon := Lib.hid hcon
          replace hd := Lib.hid hd
          replace hs1 := Lib.hid hs1
          replace hr := Lib.hid hr
          simp only [fnV]
          have hne := neq_fn 233 (.pointer (some ⟨w.heap.size + 1, 0, none⟩))
          go_wp2_with fail
          refine hcon.out.mono ?_
          rintro en w' ⟨s2, d2, rfl, hs2, hd2, hR2, hB2⟩
          clear hne hcon
          replace hs2 := Lib.hid hs2
          replace hd2 := Lib.hid hd2
          replace hR2 := Lib.hid hR2
          go_wp2
          go_roundw
          case rel => exact ⟨hB.trans hB2, s2, d2, r1, hs2.out, hd2.out, hR2.out, Or.inr (Or.inr (Or.inr ⟨rfl, by unfold decL; rw [← Option.bind_assoc, hw.out]; exact hr.out⟩))⟩
          case measure => simp [left_]
      · have hne := neq_nil
        replace hd := Lib.hid hd
        replace hs1 := Lib.hid hs1
        replace hw := Lib.hid hw
        go_wp2
        refine Met.intro (hJ _ _ ?_)
        exact ⟨s1, d, r, meetF (by kernel_rfl) ⟨hB, hd.out, hR, hw.out⟩⟩
  case rest =>
    rintro a' wc ⟨s1, d, r, u, rfl, hB, hd, hR, hr⟩
    have hbd := decL_bd hr
    rw [← hd, bytes_len, bytes_len] at hbd
    have hC := hC0.out.below hB (Nat.lt_succ_self _)
    have hBf := hB0.out.trans (hB.mono (Nat.le_succ w.heap.size))
    obtain ⟨x0, x1, x2, x3, f0, f1, f2, f3⟩ := hR.facts
    replace hr := Lib.hid hr
    replace hd := Lib.hid hd
    have hlt := hR.lt
    replace hR := Lib.hid hR
    obtain ⟨z0, z1, z2⟩ := hbd
    go_wp2_with fail
    refine (trimRight_call d (by omega) _).mono ?_
    rintro en w4 ⟨t, rfl, ht, rfl⟩
    have htl : t.size ≤ d.size := by
      have := trimR_len d.data.toList
      rw [← ht, bytes_len, bytes_len] at this
      exact this
    replace ht := Lib.hid ht
    go_wp2_with fail
    refine (trimLeft_call t _).mono ?_
    rintro en w5 ⟨g, rfl, hg, rfl⟩
    have hgl : g.size ≤ t.size := by
      have := dropWhile_length_le (p := isZ) t.data.toList
      rw [← hg, bytes_len, bytes_len] at this
      exact this
    have hdec : decGetL s.data.toList = if g.data.toList = [] then (⟨false, [], 0⟩, 0) else if 200 < g.size ∨ r.e + (d.size - t.size : Nat) < -9999 ∨ 9999 < r.e + (d.size - t.size : Nat) then (⟨false, [], 0⟩, 40) else (⟨r.m, g.data.toList, r.e + (d.size - t.size : Nat)⟩, 0) := by
      unfold decGetL
      rw [hr.out]
      simp only
      rw [← hd.out, ← ht.out, ← hg, bytes_len, bytes_len, bytes_len]
    have hsub : ((d.size - t.size : Nat) : Int) = (d.size : Int) - t.size := by omega
    rw [hsub] at hdec
    clear hsub
    replace hdec := Lib.hid hdec
    replace hg := Lib.hid hg
    go_upto_region 12 with (fail)
    obtain ⟨E, hE⟩ : ∃ E : Int, r.e + ((d.size : Int) - t.size) = E := ⟨_, rfl⟩
    rw [hE] at hdec
    rw [hE]
    have hC' := hC.alloc (.cells #[.bool r.m, .string g, .int .i64 E] 187)
    have hBf' := Lib.hid (hBf.alloc (by have := hC.lt; omega) (.cells #[.bool r.m, .string g, .int .i64 E] 187))
    clear hE hBf x0 x1 x2 x3 f0 f1 f2 f3
    have hX := Cel.fresh wc 187 #[.bool r.m, .string g, .int .i64 E]
    obtain ⟨x0, x1, x2, f0, f1, f2⟩ := hC'.three
    obtain ⟨y0, y1, y2, g0, g1, g2⟩ := hX.three
    rcases hgl2 : g.data.toList with _ | ⟨c0, t0⟩
    · have hem := isEmpty_t g hgl2
      have hfin : GetEnd s.data.toList (.returned (.tuple #[numV false ⟨#[]⟩ 0, .int .i64 0])) := by
        unfold GetEnd; rw [hdec.out, if_pos hgl2]; exact ⟨⟨#[]⟩, rfl, rfl⟩
      replace hfin := Lib.hid hfin
      clear hgl2
      have q := Lib.hid (hC'.over3 (x' := .bool false) (y' := .string ⟨#[]⟩) (z' := .int .i64 0)).three
      go_wp2
      replace q := q.out
      refine bodyPost_ret (v := .tuple #[numV false ⟨#[]⟩ 0, .int .i64 0]) (by simp [numV, results, Tryz.results137, go_sem, q.1, q.2.1, q.2.2.1]) rfl ⟨hfin.out, ?_⟩
      exact ((hBf'.out.setCell (by simp) _).setCell (by simp) _).setCell (by simp) _
    · have hem := isEmpty_f g c0 t0 hgl2
      have hne : ¬ g.data.toList = [] := by rw [hgl2]; simp
      by_cases hbig : 200 < g.size ∨ E < -9999 ∨ 9999 < E
      · have hfin : GetEnd s.data.toList (.returned (.tuple #[numV false ⟨#[]⟩ 0, .int .i64 40])) := by
          unfold GetEnd; rw [hdec.out, if_neg hne, if_pos hbig]; exact ⟨⟨#[]⟩, rfl, rfl⟩
        replace hfin := Lib.hid hfin
        clear hgl2 hne
        by_cases h1 : 200 < g.size
        · clear hbig
          have q := Lib.hid (hC'.over3 (x' := .bool false) (y' := .string ⟨#[]⟩) (z' := .int .i64 0)).three
          go_wp2
          replace q := q.out
          refine bodyPost_ret (v := .tuple #[numV false ⟨#[]⟩ 0, .int .i64 40]) (by simp [numV, results, Tryz.results137, go_sem, q.1, q.2.1, q.2.2.1]) rfl ⟨hfin.out, ?_⟩
          exact ((hBf'.out.setCell (by simp) _).setCell (by simp) _).setCell (by simp) _
        · by_cases h2 : E < -9999
          · clear hbig
            have q := Lib.hid (hC'.over3 (x' := .bool false) (y' := .string ⟨#[]⟩) (z' := .int .i64 0)).three
            go_wp2
            replace q := q.out
            refine bodyPost_ret (v := .tuple #[numV false ⟨#[]⟩ 0, .int .i64 40]) (by simp [numV, results, Tryz.results137, go_sem, q.1, q.2.1, q.2.2.1]) rfl ⟨hfin.out, ?_⟩
            exact ((hBf'.out.setCell (by simp) _).setCell (by simp) _).setCell (by simp) _
          · have h3 : 9999 < E := by omega
            clear hbig
            have q := Lib.hid (hC'.over3 (x' := .bool false) (y' := .string ⟨#[]⟩) (z' := .int .i64 0)).three
            go_wp2
            replace q := q.out
            refine bodyPost_ret (v := .tuple #[numV false ⟨#[]⟩ 0, .int .i64 40]) (by simp [numV, results, Tryz.results137, go_sem, q.1, q.2.1, q.2.2.1]) rfl ⟨hfin.out, ?_⟩
            exact ((hBf'.out.setCell (by simp) _).setCell (by simp) _).setCell (by simp) _
      · have hfin : GetEnd s.data.toList (.returned (.tuple #[numV r.m g E, .int .i64 0])) := by
          unfold GetEnd; rw [hdec.out, if_neg hne, if_neg hbig]; exact ⟨g, rfl, rfl⟩
        replace hfin := Lib.hid hfin
        have h1 : ¬ 200 < g.size := fun h => hbig (Or.inl h)
        have h2 : ¬ E < -9999 := fun h => hbig (Or.inr (Or.inl h))
        have h3 : ¬ 9999 < E := fun h => hbig (Or.inr (Or.inr h))
        clear hgl2 hne hbig
        have q := Lib.hid (hC'.over3 (x' := .bool r.m) (y' := .string g) (z' := .int .i64 E)).three
        go_wp2
        replace q := q.out
        refine bodyPost_ret (v := .tuple #[numV r.m g E, .int .i64 0]) (by simp [numV, results, Tryz.results137, go_sem, q.1, q.2.1, q.2.2.1]) rfl ⟨hfin.out, ?_⟩
        exact ((hBf'.out.setCell (by simp) _).setCell (by simp) _).setCell (by simp) _
end Go.Proofs.YtlnkjacbdolhnaaGreatDoor


/-
  The walks of (dec.num).sign and form, dec.cmp, Own and Of.
-/
namespace Go.Proofs.YtlnkjacbdolhnaaGreatDoor
open Go.RowKit

/-- What the calls ask of memory: the table of powers of ten. -/
def Env (w : World) : Prop := Lib.TabIs Tryz.prog w "internal/strconv.uint64pow10" .u64 Lib.pow10Tab
theorem Env.below {w w' : World} (h : Env w) (hb : Below w.heap.size w w') : Env w' := by
  have hg : Tryz.prog.globalNamed "internal/strconv.uint64pow10" = some 2 := by kernel_rfl
  have hlt : 2 < w.heap.size := by
    rcases Nat.lt_or_ge 2 w.heap.size with h1 | h1
    · exact h1
    · unfold Env Lib.TabIs World.var? at h
      rw [hg] at h
      simp only [Option.bind_some, Array.getElem?_eq_none h1] at h
      cases h
  exact var?_below hb hg hlt h
theorem Env.at {w w' : World} {B : Nat} (h : Env w) (hB : w.heap.size ≤ B) (hb : Below B w w') : Env w' := h.below (hb.mono hB)

def signW (x : Wth) : Int := if x.digits = [] then 0 else if x.minus then -1 else 1


def cmp3 (a b : Int) : Int := if a < b then -1 else if b < a then 1 else 0


/-- A worth's own form. -/
def formL (x : Wth) : List UInt8 :=
  if x.digits = [] then [48]
  else (if x.minus then 45 :: x.digits else x.digits) ++ (if x.exp = 0 then [] else 101 :: Lib.itoa x.exp)

theorem bel_grow (w : World) (k : Nat) (os : Array Obj) : Below w.heap.size w (Sort.grow (w.drewN k) os) := by
  refine ⟨rfl, rfl, rfl, ?_, fun i hi => ?_⟩
  · show w.heap.size ≤ (w.heap ++ os).size
    rw [Array.size_append]; omega
  · show (w.heap ++ os)[i]? = _
    rw [Array.getElem?_append_left hi]

/-- A string of just these bytes is handed back, and nothing that was there has turned. -/
def StrEnd (w : World) (l : List UInt8) (en : Ending) (w' : World) : Prop :=
  ∃ g : ByteArray, g.data.toList = l ∧ en = .returned (.string g) ∧ Below w.heap.size w w'

theorem itoa_call (n : Int) (h0 : -9223372036854775808 ≤ n) (h1 : n ≤ 9223372036854775807) (W : World) (hE : Env W) :
    Calls Tryz.prog 150 #[.int .i64 n] W fun e w' => ∃ t : ByteArray, e = .returned (.string t) ∧ t.data.toList = Lib.itoa n ∧ Below W.heap.size W w' :=
  (Tryz.strconv_Itoa n h0 h1 W hE).mono fun e w' hh => ⟨_, hh.1, rfl, by obtain ⟨_, k, os, rfl⟩ := hh; exact bel_grow W k os⟩

theorem add_ok (a b : ByteArray) (h : a.size + b.size ≤ 9223372036854775807) : ∀ W, (Op.stringOp .add a b).run Tryz.prog W = .ok (.string (a ++ b)) W := fun W => run_string_add_sum W _ _ h
theorem cat_one (c : UInt8) (h : ByteArray) : ((⟨#[c]⟩ : ByteArray) ++ h).data.toList = c :: h.data.toList := by rw [ByteArray.data_append, Array.toList_append]; rfl
theorem size_one (c : UInt8) (h : ByteArray) : ((⟨#[c]⟩ : ByteArray) ++ h).size = h.size + 1 := by
  rw [← bytes_len, cat_one, ← bytes_len]; rfl

set_option maxHeartbeats 1000000 in
theorem decForm_any (m : Bool) (d : ByteArray) (e : Int) (w : World) (hE : Env w) (hd : d.size ≤ 1099511627776) (h0 : -1099511627776 ≤ e) (h1 : e ≤ 1099511627776) :
    Calls Tryz.prog 138 #[numV m d e] w (StrEnd w (formL ⟨m, d.data.toList, e⟩)) := by
  unfold numV
  have hB0 : Below w.heap.size w (w.alloc (.cells #[.bool m, .string d, .int .i64 e] 187)) := (Below.refl _ _).alloc (Nat.le_refl _) _
  replace hB0 := Lib.hid hB0
  rcases hl : d.data.toList with _ | ⟨c, t⟩
  · have hem := isEmpty_t d hl
    clear hl
    go_enter Tryz.func138, Tryz.ntmps138
    go_wp2
    go_ret
    exact ⟨⟨#[48]⟩, rfl, rfl, hB0.out⟩
  · have hem := isEmpty_f d c t hl
    by_cases he : e = 0
    · subst he
      cases m
      · have hf : formL ⟨false, c :: t, 0⟩ = c :: t := by simp [formL]
        rw [hf]
        replace hl := Lib.hid hl
        clear hf
        go_enter Tryz.func138, Tryz.ntmps138
        go_wp2
        go_ret
        exact ⟨d, hl.out, rfl, hB0.out⟩
      · have hf : formL ⟨true, c :: t, 0⟩ = 45 :: c :: t := by simp [formL]
        rw [hf]
        have hadd := add_ok ⟨#[45]⟩ d (by show 1 + d.size ≤ _; omega)
        replace hl := Lib.hid hl
        clear hf
        go_enter Tryz.func138, Tryz.ntmps138
        go_wp2
        go_ret
        exact ⟨⟨#[45]⟩ ++ d, by rw [cat_one, hl.out], rfl, hB0.out⟩
    · have hne : ((e : Int) != 0) = true := by simpa using he
      have hit := itoa_call e (by omega) (by omega) _ (hE.below hB0.out)
      replace hit := Lib.hid hit
      cases m
      · have hf : formL ⟨false, c :: t, e⟩ = (c :: t) ++ 101 :: Lib.itoa e := by simp [formL, he]
        rw [hf]
        replace hl := Lib.hid hl
        clear hf he
        go_enter Tryz.func138, Tryz.ntmps138
        go_wp2_with fail
        refine hit.out.mono ?_
        rintro en w1 ⟨g, rfl, hg, hB1⟩
        have hgl : g.size ≤ 21 := by rw [← bytes_len, hg]; exact Lib.itoa_length_le e (by omega) (by omega)
        have hadd := add_ok ⟨#[101]⟩ g (by show 1 + g.size ≤ _; omega)
        have hadd2 := add_ok d (⟨#[101]⟩ ++ g) (by rw [size_one]; omega)
        replace hB1 := Lib.hid (hB0.out.trans (hB1.mono hB0.out.size))
        replace hg := Lib.hid hg
        clear hit hne
        go_wp2
        go_ret
        exact ⟨d ++ (⟨#[101]⟩ ++ g), by rw [ByteArray.data_append, Array.toList_append, cat_one, hl.out, hg.out]; rfl, rfl, hB1.out⟩
      · have hf : formL ⟨true, c :: t, e⟩ = (45 :: c :: t) ++ 101 :: Lib.itoa e := by simp [formL, he]
        rw [hf]
        have hadd0 := add_ok ⟨#[45]⟩ d (by show 1 + d.size ≤ _; omega)
        replace hl := Lib.hid hl
        clear hf he
        go_enter Tryz.func138, Tryz.ntmps138
        go_wp2_with fail
        refine hit.out.mono ?_
        rintro en w1 ⟨g, rfl, hg, hB1⟩
        have hgl : g.size ≤ 21 := by rw [← bytes_len, hg]; exact Lib.itoa_length_le e (by omega) (by omega)
        have hadd := add_ok ⟨#[101]⟩ g (by show 1 + g.size ≤ _; omega)
        have hadd2 := add_ok (⟨#[45]⟩ ++ d) (⟨#[101]⟩ ++ g) (by rw [size_one, size_one]; omega)
        replace hB1 := Lib.hid (hB0.out.trans (hB1.mono hB0.out.size))
        replace hg := Lib.hid hg
        clear hit hne hadd0
        go_wp2
        go_ret
        exact ⟨(⟨#[45]⟩ ++ d) ++ (⟨#[101]⟩ ++ g), by rw [ByteArray.data_append, Array.toList_append, cat_one, cat_one, hl.out, hg.out]; rfl, rfl, hB1.out⟩

/-- dec.Own: the own form, and the error. -/
def ownL (l : List UInt8) : List UInt8 × Int := if (decGetL l).2 = 0 then (formL (decGetL l).1, 0) else ([], (decGetL l).2)

theorem decGetL_bd (l : List UInt8) : (decGetL l).1.digits.length ≤ 200 ∧ -9999 ≤ (decGetL l).1.exp ∧ (decGetL l).1.exp ≤ 9999 ∧ ((decGetL l).2 = 0 ∨ (decGetL l).2 = 4 ∨ (decGetL l).2 = 40) := by
  unfold decGetL
  split
  · simp
  · simp only
    split
    · simp
    · split
      · simp
      · rename_i h1 h2
        refine ⟨?_, ?_, ?_, Or.inl rfl⟩
        · show ((trimR _).dropWhile isZ).length ≤ 200
          omega
        · show -9999 ≤ _ + _
          omega
        · show _ + _ ≤ (9999 : Int)
          omega

def OwnEnd (w : World) (r : List UInt8 × Int) (en : Ending) (w' : World) : Prop :=
  ∃ g : ByteArray, g.data.toList = r.1 ∧ en = .returned (.tuple #[.string g, .int .i64 r.2]) ∧ Below w.heap.size w w'

theorem own_end {w w' : World} {r : List UInt8 × Int} {g : ByteArray} {l : List UInt8} {e : Int} (h : r = (l, e)) (hg : g.data.toList = l) (hB : Below w.heap.size w w') : OwnEnd w r (.returned (.tuple #[.string g, .int .i64 e])) w' := by
  subst h; exact ⟨g, hg, rfl, hB⟩

set_option maxHeartbeats 1000000 in
theorem decOwn_any (s : ByteArray) (w : World) (hE : Env w) (hs : s.size ≤ 1099511627776) :
    Calls Tryz.prog 98 #[.string s] w (OwnEnd w (ownL s.data.toList)) := by
  have hbd := decGetL_bd s.data.toList
  have hget := Lib.hid (decGet_any s w hs)
  go_enter Tryz.func98, Tryz.ntmps98
  go_wp2_with fail
  refine hget.out.mono ?_
  rintro en w1 ⟨⟨d, hd, rfl⟩, hB⟩
  clear hget
  obtain ⟨r, hgen⟩ : ∃ r, decGetL s.data.toList = r := ⟨_, rfl⟩
  rw [hgen] at hbd hd ⊢
  have hown0 : ownL s.data.toList = (if r.2 = 0 then (formL r.1, 0) else ([], r.2)) := by unfold ownL; rw [hgen]
  clear hgen
  obtain ⟨⟨m, dd, e⟩, err⟩ := r
  simp only at hbd hd ⊢
  have hE1 := hE.below hB
  replace hB := Lib.hid hB
  have hdl : d.size ≤ 200 := by rw [← bytes_len, hd]; exact hbd.1
  obtain ⟨_, b1, b2, b3⟩ := hbd
  by_cases h0 : err = 0
  · subst h0
    have hown : ownL s.data.toList = (formL ⟨m, dd, e⟩, 0) := by rw [hown0, if_pos rfl]
    replace hown := Lib.hid hown
    clear hown0 b3
    have hform := decForm_any m d e (w1.alloc (.cells #[.bool m, .string d, .int .i64 e] 187)) (hE1.below ((Below.refl _ _).alloc (Nat.le_refl _) _)) (by omega) (by omega) (by omega)
    rw [hd] at hform
    replace hform := Lib.hid hform
    replace hd := Lib.hid hd
    simp only [numV]
    go_wp2_with fail
    refine hform.out.mono ?_
    rintro en w2 ⟨g, hg, rfl, hB2⟩
    replace hB2 := Lib.hid ((hB.out.trans ((Below.refl _ _).alloc hB.out.size _)).trans (hB2.mono (by have := hB.out.size; simp; omega)))
    replace hg := Lib.hid hg
    go_wp2
    go_ret2
    exact own_end hown.out hg.out hB2.out
  · have hne : ((err : Int) != 0) = true := by simpa using h0
    have hown : ownL s.data.toList = ([], err) := by rw [hown0, if_neg h0]
    replace hown := Lib.hid hown
    clear hown0 h0 b3
    simp only [numV]
    go_wp2
    go_ret2
    exact own_end (g := ⟨#[]⟩) hown.out rfl (hB.out.alloc hB.out.size _)
end Go.Proofs.YtlnkjacbdolhnaaGreatDoor


/-
  The walk of dec.Of.
-/
namespace Go.Proofs.YtlnkjacbdolhnaaGreatDoor
open Go.RowKit

/-- dec.Of. -/
def ofNL (n : Int) : List UInt8 := formL (decGetL (Lib.itoa n)).1

end Go.Proofs.YtlnkjacbdolhnaaGreatDoor
