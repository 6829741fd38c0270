/-
  The walk of rostrumref04.parse: what it answers is parseL.
-/
import Derived.Test.YtlnkjacbdolhnaaGreatDoorProg
import Derived.Test.YtlnkjacbdolhnaaGreatDoorM00
import Derived.Test.YtlnkjacbdolhnaaGreatDoorM10
import Derived.WalkKit
import Derived.WalkSpells
import Derived.WalkLawsBesides
import Derived.Lib.Hide
import Derived.Lib.Strings
import Derived.Deep.CutBlock
import Derived.IntWalk
import Derived.Deep.RegionWith
import Derived.Lib.SmallJoins
import Derived.Deep.DeepCutAuto
namespace Go.Proofs.YtlnkjacbdolhnaaGreatDoor
open Go.RowKit

def refV (m : Bool) (d : List UInt8) (e : Int) : Value := .agg #[.bool m, .string ⟨d.toArray⟩, .int .i64 e]

/-- The two blocks of parse: the result's and x's. -/
def PX (w : World) (m : Bool) (d : ByteArray) (e : Int) (wc : World) : Prop :=
  Cel wc w.heap.size 247 #[.bool false, .string ⟨#[]⟩, .int .i64 0] ∧ Cel wc (w.heap.size + 1) 247 #[.bool m, .string d, .int .i64 e] ∧ Below w.heap.size w wc

theorem PX.cells {w wc : World} {m : Bool} {d : ByteArray} {e : Int} (h : PX w m d e wc) :
    wc.cell? ⟨w.heap.size + 1, 0, none⟩ = some (.bool m) ∧ wc.cell? ⟨w.heap.size + 1, 1, none⟩ = some (.string d) ∧ wc.cell? ⟨w.heap.size + 1, 2, none⟩ = some (.int .i64 e) := ⟨h.2.1.cell 0, h.2.1.cell 1, h.2.1.cell 2⟩
theorem PX.free {w wc : World} {m : Bool} {d : ByteArray} {e : Int} (h : PX w m d e wc) :
    wc.frozen? ⟨w.heap.size + 1, 0, none⟩ = false ∧ wc.frozen? ⟨w.heap.size + 1, 1, none⟩ = false ∧ wc.frozen? ⟨w.heap.size + 1, 2, none⟩ = false := ⟨h.2.1.froz 0, h.2.1.froz 1, h.2.1.froz 2⟩
theorem PX.rcells {w wc : World} {m : Bool} {d : ByteArray} {e : Int} (h : PX w m d e wc) :
    wc.cell? ⟨w.heap.size, 0, none⟩ = some (.bool false) ∧ wc.cell? ⟨w.heap.size, 1, none⟩ = some (.string ⟨#[]⟩) ∧ wc.cell? ⟨w.heap.size, 2, none⟩ = some (.int .i64 0) := ⟨h.1.cell 0, h.1.cell 1, h.1.cell 2⟩
theorem PX.rfree {w wc : World} {m : Bool} {d : ByteArray} {e : Int} (h : PX w m d e wc) :
    wc.frozen? ⟨w.heap.size, 0, none⟩ = false ∧ wc.frozen? ⟨w.heap.size, 1, none⟩ = false ∧ wc.frozen? ⟨w.heap.size, 2, none⟩ = false := ⟨h.1.froz 0, h.1.froz 1, h.1.froz 2⟩
theorem PX.start (w : World) : PX w false ⟨#[]⟩ 0 ((w.alloc (.cells #[.bool false, .string ⟨#[]⟩, .int .i64 0] 247)).alloc (.cells #[.bool false, .string ⟨#[]⟩, .int .i64 0] 247)) := by
  refine ⟨(Cel.fresh w _ _).alloc _, ?_, ((Below.refl _ _).alloc (Nat.le_refl _) _).alloc (by simp) _⟩
  have := Cel.fresh (w.alloc (.cells #[.bool false, .string ⟨#[]⟩, .int .i64 0] 247)) 247 #[.bool false, .string ⟨#[]⟩, .int .i64 0]
  simpa using this
theorem PX.drew {w wc : World} {m : Bool} {d : ByteArray} {e : Int} (h : PX w m d e wc) : PX w m d e wc.drew := ⟨h.1.drew, h.2.1.drew, h.2.2.drew⟩
theorem PX.set0 {w wc : World} {m : Bool} {d : ByteArray} {e : Int} (h : PX w m d e wc) (m' : Bool) : PX w m' d e (wc.setCell ⟨w.heap.size + 1, 0, none⟩ (.bool m')) :=
  ⟨h.1.away (by simp) _, h.2.1.set 0 _, h.2.2.setCell (by simp) _⟩
theorem PX.set1 {w wc : World} {m : Bool} {d : ByteArray} {e : Int} (h : PX w m d e wc) (d' : ByteArray) : PX w m d' e (wc.setCell ⟨w.heap.size + 1, 1, none⟩ (.string d')) :=
  ⟨h.1.away (by simp) _, h.2.1.set 1 _, h.2.2.setCell (by simp) _⟩
theorem PX.set2 {w wc : World} {m : Bool} {d : ByteArray} {e : Int} (h : PX w m d e wc) (e' : Int) : PX w m d e' (wc.setCell ⟨w.heap.size + 1, 2, none⟩ (.int .i64 e')) :=
  ⟨h.1.away (by simp) _, h.2.1.set 2 _, h.2.2.setCell (by simp) _⟩

/-- How parse ends. -/
def ParseEnd (l : List UInt8) (e : Ending) : Prop :=
  match parseL l with
  | none => ∃ (x : Bool) (y : ByteArray) (z : Int), e = .returned (.tuple #[.agg #[.bool x, .string y, .int .i64 z], .bool false])
  | some x => e = .returned (.tuple #[refV x.minus x.digits x.exp, .bool true])

theorem ends_none {s : ByteArray} {x : Bool} {y : ByteArray} {z : Int} (h : parseL s.data.toList = none) : ParseEnd s.data.toList (.returned (.tuple #[.agg #[.bool x, .string y, .int .i64 z], .bool false])) := by
  unfold ParseEnd; rw [h]; exact ⟨x, y, z, rfl⟩

set_option maxRecDepth 100000 in
set_option maxHeartbeats 4000000 in
theorem refParse_any (s : ByteArray) (w : World) (hs : s.size ≤ 1099511627776) :
    Calls Tryz.prog 219 #[.string s] w fun e w' => ParseEnd s.data.toList e ∧ Below w.heap.size w w' := by
  go_enter Tryz.func219, Tryz.ntmps219
  go_upto_region 3 with (fail)
  refine wp_cut (fun a' wc => ∃ (u : Nat → Value), a' = ⟨#[.string s, u 1, .pointer (some ⟨w.heap.size, 0, none⟩), .bool false, .pointer (some ⟨w.heap.size + 1, 0, none⟩), .int .i64 0, u 6, u 7, u 8, u 9, u 10, u 11, u 12, u 13, u 14, u 15, u 16, u 17, u 18, u 19, .bool (isAt s.data.toList 0 45), u 21, u 22, u 23, u 24, u 25, u 26, u 27, u 28, u 29, u 30, u 31, u 32, u 33, u 34, u 35, u 36, u 37, u 38, u 39, u 40, u 41, u 42, u 43, u 44, u 45, u 46, u 47, u 48, u 49, u 50, u 51, u 52, u 53, u 54, u 55, u 56, u 57, u 58, u 59, u 60, u 61, u 62, u 63, u 64, u 65, u 66, u 67, u 68, u 69, u 70, u 71, u 72, u 73, u 74, u 75, u 76, u 77, u 78, u 79, u 80, u 81, u 82, u 83, u 84, u 85, u 86, u 87, u 88, u 89, u 90, u 91, u 92, u 93, u 94, u 95, u 96, u 97, u 98, u 99, u 100, u 101, u 102, u 103, u 104, u 105, u 106, u 107, u 108, u 109, u 110, u 111, u 112, u 113, u 114, u 115, u 116, u 117, u 118, u 119, u 120, u 121, u 122, u 123, u 124, u 125, u 126, u 127, u 128, u 129, u 130, u 131, u 132, u 133, u 134, u 135, u 136, u 137, u 138, u 139, u 140, u 141, u 142, u 143, u 144, u 145, u 146, u 147, u 148, u 149, u 150, u 151, u 152, u 153, u 154, u 155, u 156, u 157, u 158, u 159, u 160, u 161, u 162, u 163, u 164, u 165, u 166, u 167, u 168, u 169, u 170, u 171, u 172, u 173, u 174, u 175, u 176, u 177, u 178, u 179, u 180, u 181, u 182, u 183, u 184, u 185, u 186, u 187, u 188, u 189, u 190, u 191, u 192, u 193, u 194, u 195, u 196, u 197], []⟩ ∧ (PX w false ⟨#[]⟩ 0 wc)) ?rest ?first
  case first =>
    intro J K' hJ hK'
    by_cases h : 0 < s.size
    · have hb := Lib.hid (isAt_beq (n := 45) (bytes_at s 0 h))
      cases hc : ((s[0].toNat : Int) == 45)
      all_goals
        have H := Lib.hid (hb.out.trans hc)
        go_wp2
        refine Met.intro (hJ _ _ ?_)
        rw [H.out]
        exact meetF (by kernel_rfl) (PX.start w)
    · have H := Lib.hid (isAt_none (n := 45) (show s.data.toList.length ≤ 0 by rw [bytes_len]; omega))
      go_wp2
      refine Met.intro (hJ _ _ ?_)
      rw [H.out]
      exact meetF (by kernel_rfl) (PX.start w)
  case rest =>
    rintro a' wc ⟨u, rfl, hX⟩
    go_upto_if 20 with (fail)
    refine wp_cut (fun a' wc => ∃ (m : Bool) (k : Nat) (u : Nat → Value), a' = ⟨#[.string s, u 1, .pointer (some ⟨w.heap.size, 0, none⟩), .bool false, .pointer (some ⟨w.heap.size + 1, 0, none⟩), .int .i64 k, u 6, u 7, u 8, u 9, u 10, u 11, u 12, u 13, u 14, u 15, u 16, u 17, u 18, u 19, u 20, u 21, u 22, u 23, u 24, u 25, u 26, u 27, u 28, u 29, u 30, u 31, u 32, u 33, u 34, u 35, u 36, u 37, u 38, u 39, u 40, u 41, u 42, u 43, u 44, u 45, u 46, u 47, u 48, u 49, u 50, u 51, u 52, u 53, u 54, u 55, u 56, u 57, u 58, u 59, u 60, u 61, u 62, u 63, u 64, u 65, u 66, u 67, u 68, u 69, u 70, u 71, u 72, u 73, u 74, u 75, u 76, u 77, u 78, u 79, u 80, u 81, u 82, u 83, u 84, u 85, u 86, u 87, u 88, u 89, u 90, u 91, u 92, u 93, u 94, u 95, u 96, u 97, u 98, u 99, u 100, u 101, u 102, u 103, u 104, u 105, u 106, u 107, u 108, u 109, u 110, u 111, u 112, u 113, u 114, u 115, u 116, u 117, u 118, u 119, u 120, u 121, u 122, u 123, u 124, u 125, u 126, u 127, u 128, u 129, u 130, u 131, u 132, u 133, u 134, u 135, u 136, u 137, u 138, u 139, u 140, u 141, u 142, u 143, u 144, u 145, u 146, u 147, u 148, u 149, u 150, u 151, u 152, u 153, u 154, u 155, u 156, u 157, u 158, u 159, u 160, u 161, u 162, u 163, u 164, u 165, u 166, u 167, u 168, u 169, u 170, u 171, u 172, u 173, u 174, u 175, u 176, u 177, u 178, u 179, u 180, u 181, u 182, u 183, u 184, u 185, u 186, u 187, u 188, u 189, u 190, u 191, u 192, u 193, u 194, u 195, u 196, u 197], []⟩ ∧ (PX w m ⟨#[]⟩ 0 wc ∧ k ≤ s.size ∧ parseL s.data.toList = parse1 s.data.toList m k)) ?rest ?first
    case first =>
      intro J K' hJ hK'
      cases h : isAt s.data.toList 0 45
      · have H := Lib.hid h
        clear h
        go_wp2
        refine Met.intro (hJ _ _ ?_)
        exact ⟨false, 0, meetF (by kernel_rfl) ⟨hX, by omega, by simp [parseL, H.out]⟩⟩
      · have hlt := isAt_lt h
        rw [bytes_len] at hlt
        have H := Lib.hid h
        obtain ⟨x0, x1, x2⟩ := hX.cells
        obtain ⟨f0, f1, f2⟩ := hX.free
        clear h
        go_wp2
        refine Met.intro (hJ _ _ ?_)
        exact ⟨true, 1, meetF (by kernel_rfl) ⟨hX.set0 true, by omega, by simp [parseL, H.out]⟩⟩
    case rest =>
      clear hX u
      rintro a' wc ⟨m, k, u, rfl, hX, hk, hP⟩
      replace hP := Lib.hid hP
      go_upto_region 7 with (go_at_call 241; refine (refRun_any _ _ _ (by omega) (by omega)).mono ?_; rintro e w' ⟨rfl, rfl⟩)
      have hn0 := runN_le s.data.toList k (by rw [bytes_len]; omega)
      rw [bytes_len] at hn0
      obtain ⟨n, hn⟩ : ∃ n, runN s.data.toList k = n := ⟨_, rfl⟩
      rw [hn] at hn0
      simp only [hn]
      replace hn := Lib.hid hn
      refine wp_cut (fun a' wc => ∃ (u : Nat → Value), a' = ⟨#[.string s, u 1, .pointer (some ⟨w.heap.size, 0, none⟩), .bool false, .pointer (some ⟨w.heap.size + 1, 0, none⟩), .int .i64 k, .int .i64 n, u 7, u 8, u 9, u 10, u 11, u 12, u 13, u 14, u 15, u 16, u 17, u 18, u 19, u 20, u 21, u 22, u 23, u 24, u 25, u 26, u 27, u 28, u 29, u 30, u 31, u 32, u 33, u 34, u 35, u 36, u 37, .bool (decide (n = 0) || (decide (1 < n) && isAt s.data.toList k 48)), u 39, u 40, u 41, u 42, u 43, u 44, u 45, u 46, u 47, u 48, u 49, u 50, u 51, u 52, u 53, u 54, u 55, u 56, u 57, u 58, u 59, u 60, u 61, u 62, u 63, u 64, u 65, u 66, u 67, u 68, u 69, u 70, u 71, u 72, u 73, u 74, u 75, u 76, u 77, u 78, u 79, u 80, u 81, u 82, u 83, u 84, u 85, u 86, u 87, u 88, u 89, u 90, u 91, u 92, u 93, u 94, u 95, u 96, u 97, u 98, u 99, u 100, u 101, u 102, u 103, u 104, u 105, u 106, u 107, u 108, u 109, u 110, u 111, u 112, u 113, u 114, u 115, u 116, u 117, u 118, u 119, u 120, u 121, u 122, u 123, u 124, u 125, u 126, u 127, u 128, u 129, u 130, u 131, u 132, u 133, u 134, u 135, u 136, u 137, u 138, u 139, u 140, u 141, u 142, u 143, u 144, u 145, u 146, u 147, u 148, u 149, u 150, u 151, u 152, u 153, u 154, u 155, u 156, u 157, u 158, u 159, u 160, u 161, u 162, u 163, u 164, u 165, u 166, u 167, u 168, u 169, u 170, u 171, u 172, u 173, u 174, u 175, u 176, u 177, u 178, u 179, u 180, u 181, u 182, u 183, u 184, u 185, u 186, u 187, u 188, u 189, u 190, u 191, u 192, u 193, u 194, u 195, u 196, u 197], []⟩ ∧ (PX w m ⟨#[]⟩ 0 wc)) ?rest ?first
      case first =>
        intro J K' hJ hK'
        by_cases h0 : n = 0
        · subst h0
          go_wp2
          refine Met.intro (hJ _ _ ?_)
          exact meetF (by kernel_rfl) hX
        · have h0' : ((n : Int) == 0) = false := by simp; omega
          have hb := Lib.hid (isAt_beq (n := 48) (bytes_at s k (by omega)))
          have hks : k < s.size := by omega
          by_cases h1 : 1 < n
          · have H0 := Lib.hid (decide_eq_false h0)
            have H1 := Lib.hid (decide_eq_true h1)
            cases hc : ((s[k].toNat : Int) == 48)
            all_goals
              have H := Lib.hid (hb.out.trans hc)
              go_wp2
              refine Met.intro (hJ _ _ ?_)
              rw [H.out, H0.out, H1.out]
              exact meetF (by kernel_rfl) hX
          · have H0 := Lib.hid (decide_eq_false h0)
            have H1 := Lib.hid (decide_eq_false h1)
            go_wp2
            refine Met.intro (hJ _ _ ?_)
            rw [H0.out, H1.out]
            exact meetF (by kernel_rfl) hX
      case rest =>
        clear hX u
        rintro a' wc ⟨u, rfl, hX⟩
        cases hc : (decide (n = 0) || (decide (1 < n) && isAt s.data.toList k 48))
        · obtain ⟨x0, x1, x2⟩ := hX.cells
          obtain ⟨f0, f1, f2⟩ := hX.free
          go_upto_region 11 with (fail)
          have hP2 : parseL s.data.toList = parse2 s.data.toList m (s.extract k (k + n)).data.toList (k + n) := by
            rw [hP.out, parse1, hn.out]
            have hc' := hc
            simp only [Bool.or_eq_false_iff, decide_eq_false_iff_not] at hc'
            rw [if_neg hc'.1, if_neg (by rw [hc'.2]; simp), Lib.extract_data]
            simp
          replace hP2 := Lib.hid hP2
          have hds : (s.extract k (k + n)).size ≤ k + n := by rw [ByteArray.size_extract]; omega
          replace hds := Lib.hid hds
          have hX1 := hX.set1 (s.extract k (k + n))
          refine wp_cut (fun a' wc => ∃ (d : ByteArray) (k : Nat) (u : Nat → Value), a' = ⟨#[.string s, u 1, .pointer (some ⟨w.heap.size, 0, none⟩), .bool false, .pointer (some ⟨w.heap.size + 1, 0, none⟩), .int .i64 k, u 6, u 7, u 8, u 9, u 10, u 11, u 12, u 13, u 14, u 15, u 16, u 17, u 18, u 19, u 20, u 21, u 22, u 23, u 24, u 25, u 26, u 27, u 28, u 29, u 30, u 31, u 32, u 33, u 34, u 35, u 36, u 37, u 38, u 39, u 40, u 41, u 42, u 43, u 44, u 45, u 46, u 47, u 48, u 49, u 50, u 51, u 52, u 53, u 54, u 55, u 56, u 57, u 58, .bool (isAt s.data.toList k 46), u 60, u 61, u 62, u 63, u 64, u 65, u 66, u 67, u 68, u 69, u 70, u 71, u 72, u 73, u 74, u 75, u 76, u 77, u 78, u 79, u 80, u 81, u 82, u 83, u 84, u 85, u 86, u 87, u 88, u 89, u 90, u 91, u 92, u 93, u 94, u 95, u 96, u 97, u 98, u 99, u 100, u 101, u 102, u 103, u 104, u 105, u 106, u 107, u 108, u 109, u 110, u 111, u 112, u 113, u 114, u 115, u 116, u 117, u 118, u 119, u 120, u 121, u 122, u 123, u 124, u 125, u 126, u 127, u 128, u 129, u 130, u 131, u 132, u 133, u 134, u 135, u 136, u 137, u 138, u 139, u 140, u 141, u 142, u 143, u 144, u 145, u 146, u 147, u 148, u 149, u 150, u 151, u 152, u 153, u 154, u 155, u 156, u 157, u 158, u 159, u 160, u 161, u 162, u 163, u 164, u 165, u 166, u 167, u 168, u 169, u 170, u 171, u 172, u 173, u 174, u 175, u 176, u 177, u 178, u 179, u 180, u 181, u 182, u 183, u 184, u 185, u 186, u 187, u 188, u 189, u 190, u 191, u 192, u 193, u 194, u 195, u 196, u 197], []⟩ ∧ (PX w m d 0 wc ∧ k ≤ s.size ∧ d.size ≤ k ∧ parseL s.data.toList = parse2 s.data.toList m d.data.toList k)) ?rest ?first
          case first =>
            intro J K' hJ hK'
            by_cases h : k + n < s.size
            · have hb := Lib.hid (isAt_beq (n := 46) (bytes_at s (k + n) h))
              cases hc : ((s[k + n].toNat : Int) == 46)
              all_goals
                have H := Lib.hid (hb.out.trans hc)
                go_wp2
                refine Met.intro (hJ _ _ ?_)
                exact ⟨_, k + n, by rw [H.out]; exact meetF (by kernel_rfl) ⟨hX1, hn0, hds.out, hP2.out⟩⟩
            · have H := Lib.hid (isAt_none (n := 46) (show s.data.toList.length ≤ k + n by rw [bytes_len]; omega))
              go_wp2
              refine Met.intro (hJ _ _ ?_)
              exact ⟨_, k + n, by rw [H.out]; exact meetF (by kernel_rfl) ⟨hX1, hn0, hds.out, hP2.out⟩⟩
          case rest =>
            clear hds hX1 hP2 hP hn hc x0 x1 x2 f0 f1 f2 hX u hn0 hk
            clear n k
            rintro a' wc ⟨d, k, u, rfl, hX, hk, hds, hP⟩
            replace hP := Lib.hid hP
            go_upto_if 59 with (fail)
            refine wp_cut (fun a' wc => ∃ (d : ByteArray) (e : Int) (k : Nat) (u : Nat → Value), a' = ⟨#[.string s, u 1, .pointer (some ⟨w.heap.size, 0, none⟩), .bool false, .pointer (some ⟨w.heap.size + 1, 0, none⟩), .int .i64 k, u 6, u 7, u 8, u 9, u 10, u 11, u 12, u 13, u 14, u 15, u 16, u 17, u 18, u 19, u 20, u 21, u 22, u 23, u 24, u 25, u 26, u 27, u 28, u 29, u 30, u 31, u 32, u 33, u 34, u 35, u 36, u 37, u 38, u 39, u 40, u 41, u 42, u 43, u 44, u 45, u 46, u 47, u 48, u 49, u 50, u 51, u 52, u 53, u 54, u 55, u 56, u 57, u 58, u 59, u 60, u 61, u 62, u 63, u 64, u 65, u 66, u 67, u 68, u 69, u 70, u 71, u 72, u 73, u 74, u 75, u 76, u 77, u 78, u 79, u 80, u 81, u 82, u 83, u 84, u 85, u 86, u 87, u 88, u 89, u 90, u 91, u 92, u 93, u 94, u 95, u 96, u 97, u 98, u 99, u 100, u 101, u 102, u 103, u 104, u 105, u 106, u 107, u 108, u 109, u 110, u 111, u 112, u 113, u 114, u 115, u 116, u 117, u 118, u 119, u 120, u 121, u 122, u 123, u 124, u 125, u 126, u 127, u 128, u 129, u 130, u 131, u 132, u 133, u 134, u 135, u 136, u 137, u 138, u 139, u 140, u 141, u 142, u 143, u 144, u 145, u 146, u 147, u 148, u 149, u 150, u 151, u 152, u 153, u 154, u 155, u 156, u 157, u 158, u 159, u 160, u 161, u 162, u 163, u 164, u 165, u 166, u 167, u 168, u 169, u 170, u 171, u 172, u 173, u 174, u 175, u 176, u 177, u 178, u 179, u 180, u 181, u 182, u 183, u 184, u 185, u 186, u 187, u 188, u 189, u 190, u 191, u 192, u 193, u 194, u 195, u 196, u 197], []⟩ ∧ (PX w m d e wc ∧ k ≤ s.size ∧ d.size ≤ k ∧ -1099511627776 ≤ e ∧ e ≤ 0 ∧ parseL s.data.toList = parse3 s.data.toList m d.data.toList e k)) ?rest ?first
            case first =>
              intro J K' hJ hK'
              cases h : isAt s.data.toList k 46
              · have H := Lib.hid h
                clear h
                go_wp2
                refine Met.intro (hJ _ _ ?_)
                exact ⟨d, 0, k, meetF (by kernel_rfl) ⟨hX, hk, hds, by omega, by omega, by rw [hP.out, parse2, H.out]; rfl⟩⟩
              · have hlt := isAt_lt h
                rw [bytes_len] at hlt
                have H := Lib.hid h
                obtain ⟨x0, x1, x2⟩ := hX.cells
                obtain ⟨r0, r1, r2⟩ := hX.rcells
                obtain ⟨f0, f1, f2⟩ := hX.free
                obtain ⟨g0, g1, g2⟩ := hX.rfree
                clear h
                go_upto_region 13 with (go_at_call 241; refine (refRun_any _ (k + 1) _ (by omega) (by omega)).mono ?_; rintro e w' ⟨rfl, rfl⟩)
                have hn0 := runN_le s.data.toList (k + 1) (by rw [bytes_len]; omega)
                rw [bytes_len] at hn0
                obtain ⟨n, hn⟩ : ∃ n, runN s.data.toList (k + 1) = n := ⟨_, rfl⟩
                rw [hn] at hn0
                simp only [hn]
                replace hn := Lib.hid hn
                by_cases h0 : n = 0
                · subst h0
                  have hend : parseL s.data.toList = none := by rw [hP.out, parse2, H.out, hn.out]; rfl
                  replace hend := Lib.hid hend
                  have q := (hX.1.over3 (x' := .bool m) (y' := .string d) (z' := .int .i64 0)).three
                  replace q := Lib.hid q
                  go_wp2
                  replace q := q.out
                  refine bodyPost_ret (v := .tuple #[.agg #[.bool m, .string d, .int .i64 0], .bool false]) (by simp [results, Tryz.results219, go_sem, q.1, q.2.1, q.2.2.1]) rfl ⟨ends_none hend.out, ?_⟩
                  exact ((hX.2.2.setCell (by simp) _).setCell (by simp) _).setCell (by simp) _
                · have h0' : ((n : Int) == 0) = false := by simp; omega
                  go_upto_region 15 with (fail)
                  have hadd : ∀ W, (Op.stringOp .add d (s.extract (k + 1) (k + 1 + n))).run Tryz.prog W = .ok (.string (d ++ s.extract (k + 1) (k + 1 + n))) W := fun W => run_string_add_sum W _ _ (by rw [ByteArray.size_extract]; omega)
                  go_region
                  clear hadd
                  go_wp2
                  refine Met.intro (hJ _ _ ?_)
                  refine ⟨d ++ s.extract (k + 1) (k + 1 + n), -(n : Int), k + 1 + n, meetF (by kernel_rfl) ⟨?_, by omega, ?_, by omega, by omega, ?_⟩⟩
                  · exact ((hX.set1 _).set2 _).drew
                  · rw [ByteArray.size_append, ByteArray.size_extract]; omega
                  · rw [hP.out, parse2, H.out, hn.out]
                    simp only [if_true]
                    rw [if_neg h0, ByteArray.data_append, Array.toList_append, Lib.extract_data]
                    simp
            case rest =>
              clear hP hds hk hX u d k
              rintro a' wc ⟨d, e, k, u, rfl, hX, hk, hds, he0, he1, hP⟩
              replace hP := Lib.hid hP
              go_upto_region 18 with (fail)
              refine wp_cut (fun a' wc => ∃ (u : Nat → Value), a' = ⟨#[.string s, u 1, .pointer (some ⟨w.heap.size, 0, none⟩), .bool false, .pointer (some ⟨w.heap.size + 1, 0, none⟩), .int .i64 k, u 6, u 7, u 8, u 9, u 10, u 11, u 12, u 13, u 14, u 15, u 16, u 17, u 18, u 19, u 20, u 21, u 22, u 23, u 24, u 25, u 26, u 27, u 28, u 29, u 30, u 31, u 32, u 33, u 34, u 35, u 36, u 37, u 38, u 39, u 40, u 41, u 42, u 43, u 44, u 45, u 46, u 47, u 48, u 49, u 50, u 51, u 52, u 53, u 54, u 55, u 56, u 57, u 58, u 59, u 60, u 61, u 62, u 63, u 64, u 65, u 66, u 67, u 68, u 69, u 70, u 71, u 72, u 73, u 74, u 75, u 76, u 77, u 78, u 79, u 80, u 81, u 82, u 83, u 84, u 85, u 86, u 87, u 88, u 89, u 90, u 91, u 92, u 93, u 94, u 95, u 96, u 97, u 98, u 99, u 100, .bool (isAt s.data.toList k 101 || isAt s.data.toList k 69), u 102, u 103, u 104, u 105, u 106, u 107, u 108, u 109, u 110, u 111, u 112, u 113, u 114, u 115, u 116, u 117, u 118, u 119, u 120, u 121, u 122, u 123, u 124, u 125, u 126, u 127, u 128, u 129, u 130, u 131, u 132, u 133, u 134, u 135, u 136, u 137, u 138, u 139, u 140, u 141, u 142, u 143, u 144, u 145, u 146, u 147, u 148, u 149, u 150, u 151, u 152, u 153, u 154, u 155, u 156, u 157, u 158, u 159, u 160, u 161, u 162, u 163, u 164, u 165, u 166, u 167, u 168, u 169, u 170, u 171, u 172, u 173, u 174, u 175, u 176, u 177, u 178, u 179, u 180, u 181, u 182, u 183, u 184, u 185, u 186, u 187, u 188, u 189, u 190, u 191, u 192, u 193, u 194, u 195, u 196, u 197], []⟩ ∧ (PX w m d e wc)) ?rest ?first
              case first =>
                intro J K' hJ hK'
                by_cases h : k < s.size
                · have hb := Lib.hid (isAt_beq (n := 101) (bytes_at s k h))
                  have hb2 := Lib.hid (isAt_beq (n := 69) (bytes_at s k h))
                  cases hc : ((s[k].toNat : Int) == 101)
                  · have H := Lib.hid (hb.out.trans hc)
                    cases hc2 : ((s[k].toNat : Int) == 69)
                    all_goals
                      have H2 := Lib.hid (hb2.out.trans hc2)
                      go_wp2
                      refine Met.intro (hJ _ _ ?_)
                      rw [H.out, H2.out]
                      exact meetF (by kernel_rfl) hX
                  · have H := Lib.hid (hb.out.trans hc)
                    go_wp2
                    refine Met.intro (hJ _ _ ?_)
                    rw [H.out]
                    exact meetF (by kernel_rfl) hX
                · have H := Lib.hid (isAt_none (n := 101) (show s.data.toList.length ≤ k by rw [bytes_len]; omega))
                  have H2 := Lib.hid (isAt_none (n := 69) (show s.data.toList.length ≤ k by rw [bytes_len]; omega))
                  go_wp2
                  refine Met.intro (hJ _ _ ?_)
                  rw [H.out, H2.out]
                  exact meetF (by kernel_rfl) hX
              case rest =>
                clear hX u
                rintro a' wc ⟨u, rfl, hX⟩
                go_upto_if 101 with (fail)
                refine wp_cut (fun a' wc => ∃ (d : ByteArray) (e : Int) (k : Nat) (u : Nat → Value), a' = ⟨#[.string s, u 1, .pointer (some ⟨w.heap.size, 0, none⟩), .bool false, .pointer (some ⟨w.heap.size + 1, 0, none⟩), .int .i64 k, u 6, u 7, u 8, u 9, u 10, u 11, u 12, u 13, u 14, u 15, u 16, u 17, u 18, u 19, u 20, u 21, u 22, u 23, u 24, u 25, u 26, u 27, u 28, u 29, u 30, u 31, u 32, u 33, u 34, u 35, u 36, u 37, u 38, u 39, u 40, u 41, u 42, u 43, u 44, u 45, u 46, u 47, u 48, u 49, u 50, u 51, u 52, u 53, u 54, u 55, u 56, u 57, u 58, u 59, u 60, u 61, u 62, u 63, u 64, u 65, u 66, u 67, u 68, u 69, u 70, u 71, u 72, u 73, u 74, u 75, u 76, u 77, u 78, u 79, u 80, u 81, u 82, u 83, u 84, u 85, u 86, u 87, u 88, u 89, u 90, u 91, u 92, u 93, u 94, u 95, u 96, u 97, u 98, u 99, u 100, u 101, u 102, u 103, u 104, u 105, u 106, u 107, u 108, u 109, u 110, u 111, u 112, u 113, u 114, u 115, u 116, u 117, u 118, u 119, u 120, u 121, u 122, u 123, u 124, u 125, u 126, u 127, u 128, u 129, u 130, u 131, u 132, u 133, u 134, u 135, u 136, u 137, u 138, u 139, u 140, u 141, u 142, u 143, u 144, u 145, u 146, u 147, u 148, u 149, u 150, u 151, u 152, u 153, u 154, u 155, u 156, u 157, u 158, u 159, u 160, u 161, u 162, u 163, u 164, u 165, u 166, u 167, u 168, u 169, u 170, u 171, u 172, u 173, u 174, u 175, u 176, u 177, u 178, u 179, u 180, u 181, u 182, u 183, u 184, u 185, u 186, u 187, u 188, u 189, u 190, u 191, u 192, u 193, u 194, u 195, u 196, u 197], []⟩ ∧ (PX w m d e wc ∧ k ≤ s.size ∧ d.size ≤ s.size ∧ -2199023255552 ≤ e ∧ e ≤ 2199023255552 ∧ parseL s.data.toList = parse4 s.data.toList m d.data.toList e k)) ?rest ?first
                case first =>
                  intro J K' hJ hK'
                  cases h : (isAt s.data.toList k 101 || isAt s.data.toList k 69)
                  · have H := Lib.hid h
                    clear h
                    go_wp2
                    refine Met.intro (hJ _ _ ?_)
                    exact ⟨d, e, k, meetF (by kernel_rfl) ⟨hX, hk, by omega, by omega, by omega, by rw [hP.out, parse3, H.out]; rfl⟩⟩
                  · have hlt : k < s.size := by
                      rw [← bytes_len]
                      rcases Bool.or_eq_true_iff.1 h with h1 | h1 <;> exact isAt_lt h1
                    have hP3 : parseL s.data.toList = parse3b s.data.toList m d.data.toList e (powSign s.data.toList (k + 1)).1 (powSign s.data.toList (k + 1)).2 := by
                      rw [hP.out, parse3, h]; rfl
                    replace hP := Lib.hid hP3
                    clear h hP3
                    go_upto_region 21 with (fail)
                    refine wp_cut (fun a' wc => ∃ (u : Nat → Value), a' = ⟨#[.string s, u 1, .pointer (some ⟨w.heap.size, 0, none⟩), .bool false, .pointer (some ⟨w.heap.size + 1, 0, none⟩), .int .i64 (k + 1 : Nat), u 6, .int .i64 1, u 8, u 9, u 10, u 11, u 12, u 13, u 14, u 15, u 16, u 17, u 18, u 19, u 20, u 21, u 22, u 23, u 24, u 25, u 26, u 27, u 28, u 29, u 30, u 31, u 32, u 33, u 34, u 35, u 36, u 37, u 38, u 39, u 40, u 41, u 42, u 43, u 44, u 45, u 46, u 47, u 48, u 49, u 50, u 51, u 52, u 53, u 54, u 55, u 56, u 57, u 58, u 59, u 60, u 61, u 62, u 63, u 64, u 65, u 66, u 67, u 68, u 69, u 70, u 71, u 72, u 73, u 74, u 75, u 76, u 77, u 78, u 79, u 80, u 81, u 82, u 83, u 84, u 85, u 86, u 87, u 88, u 89, u 90, u 91, u 92, u 93, u 94, u 95, u 96, u 97, u 98, u 99, u 100, u 101, u 102, u 103, u 104, u 105, u 106, u 107, u 108, u 109, u 110, u 111, u 112, u 113, u 114, u 115, u 116, u 117, u 118, .bool (isAt s.data.toList (k + 1) 43 || isAt s.data.toList (k + 1) 45), u 120, u 121, u 122, u 123, u 124, u 125, u 126, u 127, u 128, u 129, u 130, u 131, u 132, u 133, u 134, u 135, u 136, u 137, u 138, u 139, u 140, u 141, u 142, u 143, u 144, u 145, u 146, u 147, u 148, u 149, u 150, u 151, u 152, u 153, u 154, u 155, u 156, u 157, u 158, u 159, u 160, u 161, u 162, u 163, u 164, u 165, u 166, u 167, u 168, u 169, u 170, u 171, u 172, u 173, u 174, u 175, u 176, u 177, u 178, u 179, u 180, u 181, u 182, u 183, u 184, u 185, u 186, u 187, u 188, u 189, u 190, u 191, u 192, u 193, u 194, u 195, u 196, u 197], []⟩ ∧ (PX w m d e wc)) ?rest7 ?first7
                    case first7 =>
                      intro J' K'' hJ' hK''
                      by_cases h : k + 1 < s.size
                      · have hb := Lib.hid (isAt_beq (n := 43) (bytes_at s (k + 1) h))
                        have hb2 := Lib.hid (isAt_beq (n := 45) (bytes_at s (k + 1) h))
                        cases hc : ((s[k + 1].toNat : Int) == 43)
                        · have H := Lib.hid (hb.out.trans hc)
                          cases hc2 : ((s[k + 1].toNat : Int) == 45)
                          all_goals
                            have H2 := Lib.hid (hb2.out.trans hc2)
                            go_wp2
                            refine Met.intro (hJ' _ _ ?_)
                            rw [H.out, H2.out]
                            exact meetF (by kernel_rfl) hX
                        · have H := Lib.hid (hb.out.trans hc)
                          go_wp2
                          refine Met.intro (hJ' _ _ ?_)
                          rw [H.out]
                          exact meetF (by kernel_rfl) hX
                      · have H := Lib.hid (isAt_none (n := 43) (show s.data.toList.length ≤ k + 1 by rw [bytes_len]; omega))
                        have H2 := Lib.hid (isAt_none (n := 45) (show s.data.toList.length ≤ k + 1 by rw [bytes_len]; omega))
                        go_wp2
                        refine Met.intro (hJ' _ _ ?_)
                        rw [H.out, H2.out]
                        exact meetF (by kernel_rfl) hX
                    case rest7 =>
                      clear hX u
                      rintro a' wc ⟨u, rfl, hX⟩
                      go_upto_if 119 with (fail)
                      refine wp_cut (fun a' wc => ∃ (sg : Int) (j : Nat) (u : Nat → Value), a' = ⟨#[.string s, u 1, .pointer (some ⟨w.heap.size, 0, none⟩), .bool false, .pointer (some ⟨w.heap.size + 1, 0, none⟩), .int .i64 j, u 6, .int .i64 sg, u 8, u 9, u 10, u 11, u 12, u 13, u 14, u 15, u 16, u 17, u 18, u 19, u 20, u 21, u 22, u 23, u 24, u 25, u 26, u 27, u 28, u 29, u 30, u 31, u 32, u 33, u 34, u 35, u 36, u 37, u 38, u 39, u 40, u 41, u 42, u 43, u 44, u 45, u 46, u 47, u 48, u 49, u 50, u 51, u 52, u 53, u 54, u 55, u 56, u 57, u 58, u 59, u 60, u 61, u 62, u 63, u 64, u 65, u 66, u 67, u 68, u 69, u 70, u 71, u 72, u 73, u 74, u 75, u 76, u 77, u 78, u 79, u 80, u 81, u 82, u 83, u 84, u 85, u 86, u 87, u 88, u 89, u 90, u 91, u 92, u 93, u 94, u 95, u 96, u 97, u 98, u 99, u 100, u 101, u 102, u 103, u 104, u 105, u 106, u 107, u 108, u 109, u 110, u 111, u 112, u 113, u 114, u 115, u 116, u 117, u 118, u 119, u 120, u 121, u 122, u 123, u 124, u 125, u 126, u 127, u 128, u 129, u 130, u 131, u 132, u 133, u 134, u 135, u 136, u 137, u 138, u 139, u 140, u 141, u 142, u 143, u 144, u 145, u 146, u 147, u 148, u 149, u 150, u 151, u 152, u 153, u 154, u 155, u 156, u 157, u 158, u 159, u 160, u 161, u 162, u 163, u 164, u 165, u 166, u 167, u 168, u 169, u 170, u 171, u 172, u 173, u 174, u 175, u 176, u 177, u 178, u 179, u 180, u 181, u 182, u 183, u 184, u 185, u 186, u 187, u 188, u 189, u 190, u 191, u 192, u 193, u 194, u 195, u 196, u 197], []⟩ ∧ (PX w m d e wc ∧ j ≤ s.size ∧ -1 ≤ sg ∧ sg ≤ 1 ∧ parseL s.data.toList = parse3b s.data.toList m d.data.toList e sg j)) ?rest8 ?first8
                      case first8 =>
                        intro J' K'' hJ' hK''
                        cases h : (isAt s.data.toList (k + 1) 43 || isAt s.data.toList (k + 1) 45)
                        · have hs1 : powSign s.data.toList (k + 1) = (1, k + 1) := by
                            simp only [Bool.or_eq_false_iff] at h
                            unfold powSign
                            rw [h.1, h.2]; rfl
                          replace hs1 := Lib.hid hs1
                          clear h
                          go_wp2
                          refine Met.intro (hJ' _ _ ?_)
                          exact ⟨1, k + 1, meetF (by kernel_rfl) ⟨hX, by omega, by omega, by omega, by rw [hP.out, hs1.out]⟩⟩
                        · have hlt1 : k + 1 < s.size := by
                            rw [← bytes_len]
                            rcases Bool.or_eq_true_iff.1 h with h1 | h1 <;> exact isAt_lt h1
                          have hb := Lib.hid (isAt_beq (n := 45) (bytes_at s (k + 1) hlt1))
                          cases hc : ((s[k + 1].toNat : Int) == 45)
                          · have hs1 : powSign s.data.toList (k + 1) = (1, k + 2) := by
                              have h45 := hb.out.trans hc
                              rw [h45, Bool.or_false] at h
                              unfold powSign
                              rw [h45, h]; rfl
                            replace hs1 := Lib.hid hs1
                            clear h
                            go_wp2
                            refine Met.intro (hJ' _ _ ?_)
                            exact ⟨1, k + 2, meetF (by kernel_rfl) ⟨hX, by omega, by omega, by omega, by rw [hP.out, hs1.out]⟩⟩
                          · have hs1 : powSign s.data.toList (k + 1) = (-1, k + 2) := by
                              have h45 := hb.out.trans hc
                              unfold powSign
                              rw [h45]; rfl
                            replace hs1 := Lib.hid hs1
                            clear h
                            go_wp2
                            refine Met.intro (hJ' _ _ ?_)
                            exact ⟨-1, k + 2, meetF (by kernel_rfl) ⟨hX, by omega, by omega, by omega, by rw [hP.out, hs1.out]⟩⟩
                      case rest8 =>
                        clear hX u hP
                        rintro a' wc ⟨sg, j, u, rfl, hX, hj, hg0, hg1, hP⟩
                        replace hP := Lib.hid hP
                        go_upto_region 26 with (go_at_call 241; refine (refRun_any _ j _ (by omega) (by omega)).mono ?_; rintro e w' ⟨rfl, rfl⟩)
                        have hn0 := runN_le s.data.toList j (by rw [bytes_len]; omega)
                        rw [bytes_len] at hn0
                        obtain ⟨n, hn⟩ : ∃ n, runN s.data.toList j = n := ⟨_, rfl⟩
                        rw [hn] at hn0
                        simp only [hn]
                        replace hn := Lib.hid hn
                        obtain ⟨x0, x1, x2⟩ := hX.cells
                        obtain ⟨r0, r1, r2⟩ := hX.rcells
                        obtain ⟨f0, f1, f2⟩ := hX.free
                        obtain ⟨g0, g1, g2⟩ := hX.rfree
                        by_cases h0 : n = 0
                        · subst h0
                          have hend : parseL s.data.toList = none := by rw [hP.out, parse3b, hn.out]; rfl
                          replace hend := Lib.hid hend
                          have q := (hX.1.over3 (x' := .bool m) (y' := .string d) (z' := .int .i64 e)).three
                          replace q := Lib.hid q
                          go_wp2
                          replace q := q.out
                          refine bodyPost_ret (v := .tuple #[.agg #[.bool m, .string d, .int .i64 e], .bool false]) (by simp [results, Tryz.results219, go_sem, q.1, q.2.1, q.2.2.1]) rfl ⟨ends_none hend.out, ?_⟩
                          exact ((hX.2.2.setCell (by simp) _).setCell (by simp) _).setCell (by simp) _
                        · have h0' : ((n : Int) == 0) = false := by simp; omega
                          have hdig : ∀ (i : Nat) (c : UInt8), (s.extract j (j + n)).data.toList[i]? = some c → isDig c = true := by
                            intro i c hc
                            rw [Lib.extract_data, Nat.add_sub_cancel_left] at hc
                            have hi : i < n := by
                              rcases Nat.lt_or_ge i n with h1 | h1
                              · exact h1
                              · rw [List.getElem?_take_eq_none h1] at hc; cases hc
                            rw [List.getElem?_take_of_lt hi, List.getElem?_drop] at hc
                            obtain ⟨c', h1, h2⟩ := runN_dig s.data.toList j i (by rw [hn.out]; exact hi)
                            rw [hc] at h1
                            injection h1 with h1
                            rw [h1]; exact h2
                          have hbd : 0 ≤ powN (s.extract j (j + n)).data.toList ∧ powN (s.extract j (j + n)).data.toList ≤ 1000000000 := by
                            refine powN_bd _ (fun c hc => ?_)
                            obtain ⟨i, hi, he⟩ := List.mem_iff_getElem.1 hc
                            exact hdig i c (by rw [List.getElem?_eq_getElem hi, he])
                          replace hdig := Lib.hid hdig
                          have hpw : ∀ W, Calls Tryz.prog 242 #[.string (s.extract j (j + n))] W fun e w' => e = .returned (.int .i64 (powN (s.extract j (j + n)).data.toList)) ∧ W = w' := fun W => refPower_any _ W hdig.out (by rw [ByteArray.size_extract]; omega)
                          have hnext : parseL s.data.toList = parse4 s.data.toList m d.data.toList (e + sg * powN (s.extract j (j + n)).data.toList) (j + n) := by
                            rw [hP.out, parse3b, hn.out]
                            rw [if_neg h0, Lib.extract_data, Nat.add_sub_cancel_left]
                          obtain ⟨pw, hpe⟩ : ∃ pw, powN (s.extract j (j + n)).data.toList = pw := ⟨_, rfl⟩
                          rw [hpe] at hbd hnext
                          simp only [hpe] at hpw
                          clear hpe
                          replace hnext := Lib.hid hnext
                          have hm1 : -1000000000 ≤ sg * pw ∧ sg * pw ≤ 1000000000 := by
                            have : sg = -1 ∨ sg = 0 ∨ sg = 1 := by omega
                            rcases this with rfl | rfl | rfl <;> omega
                          obtain ⟨b0, b1⟩ := hbd
                          obtain ⟨b2, b3⟩ := hm1
                          go_upto_region 28 with (fail)
                          replace hpw := Lib.hid hpw
                          have w1 : IntKind.i64.wrap ((j : Int) + n) = (j : Int) + n := IntWalk.i64_in _ (by omega)
                          have w2 : ((j : Int) + n).toNat = j + n := by omega
                          have w3 : (j : Int) ≤ (j : Int) + n := by omega
                          have w4 : (j : Int) + n ≤ (s.size : Int) := by omega
                          have w5 : 0 ≤ (j : Int) + n := by omega
                          go_region_with (go_at_call 242; refine (hpw.out _).mono ?_; rintro e w' ⟨rfl, rfl⟩)
                          all_goals
                            clear w1 w2 w3 w4 w5
                            go_wp2
                            refine Met.intro (hJ _ _ ?_)
                            exact ⟨d, e + sg * pw, j + n, meetF (by kernel_rfl) ⟨(hX.set2 _).drew, hn0, by omega, by omega, by omega, hnext.out⟩⟩
                case rest =>
                  clear hX hP hds hk he0 he1 u d e k
                  rintro a' wc ⟨d, e, k, u, rfl, hX, hk, hds, he0, he1, hP⟩
                  replace hP := Lib.hid hP
                  obtain ⟨x0, x1, x2⟩ := hX.cells
                  obtain ⟨r0, r1, r2⟩ := hX.rcells
                  obtain ⟨f0, f1, f2⟩ := hX.free
                  obtain ⟨g0, g1, g2⟩ := hX.rfree
                  by_cases hke : k = s.size
                  · have hne : ((k : Int) != (s.size : Int)) = false := by simp; omega
                    have hS : parseL s.data.toList = some (strip m d.data.toList e) := by rw [hP.out, parse4, if_neg (by rw [bytes_len]; omega)]
                    replace hS := Lib.hid hS
                    clear hke
                    go_upto_block 0 with (fail)
                    refine wp_cut (fun a' wc => ∃ (u : Nat → Value), a' = ⟨#[.string s, u 1, .pointer (some ⟨w.heap.size, 0, none⟩), .bool false, .pointer (some ⟨w.heap.size + 1, 0, none⟩), u 5, u 6, u 7, .int .i64 (twl isZ d.data.toList : Nat), u 9, u 10, u 11, u 12, u 13, u 14, u 15, u 16, u 17, u 18, u 19, u 20, u 21, u 22, u 23, u 24, u 25, u 26, u 27, u 28, u 29, u 30, u 31, u 32, u 33, u 34, u 35, u 36, u 37, u 38, u 39, u 40, u 41, u 42, u 43, u 44, u 45, u 46, u 47, u 48, u 49, u 50, u 51, u 52, u 53, u 54, u 55, u 56, u 57, u 58, u 59, u 60, u 61, u 62, u 63, u 64, u 65, u 66, u 67, u 68, u 69, u 70, u 71, u 72, u 73, u 74, u 75, u 76, u 77, u 78, u 79, u 80, u 81, u 82, u 83, u 84, u 85, u 86, u 87, u 88, u 89, u 90, u 91, u 92, u 93, u 94, u 95, u 96, u 97, u 98, u 99, u 100, u 101, u 102, u 103, u 104, u 105, u 106, u 107, u 108, u 109, u 110, u 111, u 112, u 113, u 114, u 115, u 116, u 117, u 118, u 119, u 120, u 121, u 122, u 123, u 124, u 125, u 126, u 127, u 128, u 129, u 130, u 131, u 132, u 133, u 134, u 135, u 136, u 137, u 138, u 139, u 140, u 141, u 142, u 143, u 144, u 145, u 146, u 147, u 148, u 149, u 150, u 151, u 152, u 153, u 154, u 155, u 156, u 157, u 158, u 159, u 160, u 161, u 162, u 163, u 164, u 165, u 166, u 167, u 168, u 169, u 170, u 171, u 172, u 173, u 174, u 175, u 176, u 177, u 178, u 179, u 180, u 181, u 182, u 183, u 184, u 185, u 186, u 187, u 188, u 189, u 190, u 191, u 192, u 193, u 194, u 195, u 196, u 197], []⟩ ∧ (PX w m d e wc)) ?rest9 ?first9
                    case first9 =>
                      intro J K' hJ hK'
                      go_wp2
                      go_loop [8] (fun f => ∃ i : Nat, i ≤ d.size ∧ i ≤ twl isZ d.data.toList ∧ f = .int .i64 i) (fun f => d.size - (intOf f).toNat)
                      case atStart => exact ⟨0, by omega, by omega, rfl⟩
                      case round =>
                        obtain ⟨i, hi, hi2, rfl⟩ := hrel
                        by_cases hlt : i < d.size
                        · have hb := Lib.hid (bytes_at d i hlt)
                          cases hc : ((d[i].toNat : Int) == 48)
                          · have H := Lib.hid (twl_stop isZ _ i _ hi2 hb.out ((isZ_beq _).trans hc))
                            go_wp2
                            refine Met.intro (hJ _ _ ?_)
                            rw [H.out]
                            exact meetF (by kernel_rfl) hX
                          · have H := Lib.hid (twl_step isZ _ i _ hi2 hb.out ((isZ_beq _).trans hc))
                            go_wp2
                            go_round
                            case rel => exact ⟨i + 1, by omega, H.out, by go_num⟩
                            case measure => simp [intOf]; omega
                        · have H := Lib.hid (twl_end isZ d.data.toList i hi2 (by rw [bytes_len]; omega))
                          go_wp2
                          refine Met.intro (hJ _ _ ?_)
                          rw [H.out]
                          exact meetF (by kernel_rfl) hX
                    case rest9 =>
                      clear x0 x1 x2 r0 r1 r2 f0 f1 f2 g0 g1 g2 hP hX u
                      rintro a' wc ⟨u, rfl, hX⟩
                      obtain ⟨x0, x1, x2⟩ := hX.cells
                      have hfl := twl_le isZ d.data.toList
                      rw [bytes_len] at hfl
                      obtain ⟨f, hf⟩ : ∃ f, twl isZ d.data.toList = f := ⟨_, rfl⟩
                      rw [hf] at hfl
                      simp only [hf]
                      replace hf := Lib.hid hf
                      have htl := tz_le (d.data.toList.drop f)
                      rw [List.length_drop, bytes_len] at htl
                      go_upto_block 2 with (fail)
                      clear x0 x1 x2
                      refine wp_cut (fun a' wc => ∃ (u : Nat → Value), a' = ⟨#[.string s, u 1, .pointer (some ⟨w.heap.size, 0, none⟩), .bool false, .pointer (some ⟨w.heap.size + 1, 0, none⟩), u 5, u 6, u 7, .int .i64 f, .int .i64 (d.size - tz (d.data.toList.drop f) : Nat), u 10, u 11, u 12, u 13, u 14, u 15, u 16, u 17, u 18, u 19, u 20, u 21, u 22, u 23, u 24, u 25, u 26, u 27, u 28, u 29, u 30, u 31, u 32, u 33, u 34, u 35, u 36, u 37, u 38, u 39, u 40, u 41, u 42, u 43, u 44, u 45, u 46, u 47, u 48, u 49, u 50, u 51, u 52, u 53, u 54, u 55, u 56, u 57, u 58, u 59, u 60, u 61, u 62, u 63, u 64, u 65, u 66, u 67, u 68, u 69, u 70, u 71, u 72, u 73, u 74, u 75, u 76, u 77, u 78, u 79, u 80, u 81, u 82, u 83, u 84, u 85, u 86, u 87, u 88, u 89, u 90, u 91, u 92, u 93, u 94, u 95, u 96, u 97, u 98, u 99, u 100, u 101, u 102, u 103, u 104, u 105, u 106, u 107, u 108, u 109, u 110, u 111, u 112, u 113, u 114, u 115, u 116, u 117, u 118, u 119, u 120, u 121, u 122, u 123, u 124, u 125, u 126, u 127, u 128, u 129, u 130, u 131, u 132, u 133, u 134, u 135, u 136, u 137, u 138, u 139, u 140, u 141, u 142, u 143, u 144, u 145, u 146, u 147, u 148, u 149, u 150, u 151, u 152, u 153, u 154, u 155, u 156, u 157, u 158, u 159, u 160, u 161, u 162, u 163, u 164, u 165, u 166, u 167, u 168, u 169, u 170, u 171, u 172, u 173, u 174, u 175, u 176, u 177, u 178, u 179, u 180, u 181, u 182, u 183, u 184, u 185, u 186, u 187, u 188, u 189, u 190, u 191, u 192, u 193, u 194, u 195, u 196, u 197], []⟩ ∧ (PX w m d (e + tz (d.data.toList.drop f)) wc)) ?rest10 ?first10
                      case first10 =>
                        intro J K' hJ hK'
                        go_wp2
                        go_loopw [9] (fun t wr => ∃ (q : Nat) (e' : Int), f ≤ q ∧ q ≤ d.size ∧ d.size - q ≤ tz (d.data.toList.drop f) ∧ e' = e + (d.size - q : Nat) ∧ t = .int .i64 q ∧ PX w m d e' wr) (fun t _ => (intOf t).toNat)
                        case atStart => exact ⟨d.size, e, by omega, by omega, by omega, by simp, rfl, hX⟩
                        case round =>
                          obtain ⟨q, e', hq, hq1, hq2, he', rfl, hXr⟩ := hrel
                          have he0' : -2199023255552 ≤ e' := by omega
                          have he1' : e' ≤ 4398046511104 := by omega
                          replace he' := Lib.hid he'
                          obtain ⟨x0, x1, x2⟩ := hXr.cells
                          obtain ⟨f0, f1, f2⟩ := hXr.free
                          by_cases hlt : f < q
                          · have hb : d.data.toList[d.data.toList.length - 1 - (d.size - q)]? = some d[q - 1] := by
                              rw [show d.data.toList.length - 1 - (d.size - q) = q - 1 by rw [bytes_len]; omega]
                              exact bytes_at d (q - 1) (by omega)
                            replace hb := Lib.hid hb
                            cases hc : ((d[q - 1].toNat : Int) == 48)
                            · have H := Lib.hid (tz_stop _ f (d.size - q) _ (by rw [bytes_len]; omega) hq2 hb.out ((isZ_beq _).trans hc))
                              go_wp2
                              refine Met.intro (hJ _ _ ?_)
                              rw [H.out, show d.size - (d.size - q) = q by omega, ← he'.out]
                              exact meetF (by kernel_rfl) hXr
                            · have H := Lib.hid (tz_step _ f (d.size - q) _ (by rw [bytes_len]; omega) hq2 hb.out ((isZ_beq _).trans hc))
                              go_wp2
                              go_roundw
                              case rel => exact ⟨q - 1, e' + 1, by omega, by omega, by have := H.out; omega, by have := he'.out; omega, by go_num, hXr.set2 _⟩
                              case measure => simp [intOf]; omega
                          · have H := Lib.hid (tz_end d.data.toList f (d.size - q) (by rw [bytes_len]; omega) hq2)
                            go_wp2
                            refine Met.intro (hJ _ _ ?_)
                            rw [H.out, show d.size - (d.size - q) = q by omega, ← he'.out]
                            exact meetF (by kernel_rfl) hXr
                      case rest10 =>
                        clear hX u
                        rintro a' wc ⟨u, rfl, hX⟩
                        obtain ⟨z, hz⟩ : ∃ z, tz (d.data.toList.drop f) = z := ⟨_, rfl⟩
                        rw [hz] at htl
                        simp only [hz] at hX ⊢
                        replace hz := Lib.hid hz
                        obtain ⟨x0, x1, x2⟩ := hX.cells
                        obtain ⟨r0, r1, r2⟩ := hX.rcells
                        obtain ⟨f0, f1, f2⟩ := hX.free
                        obtain ⟨g0, g1, g2⟩ := hX.rfree
                        go_upto_region 40 with (fail)
                        have hE : (d.extract f (d.size - z)).data.toList = (d.data.toList.drop f).take ((d.data.toList.drop f).length - z) := by
                          rw [Lib.extract_data, List.length_drop, bytes_len]
                          congr 1
                          omega
                        replace hX := hX.set1 (d.extract f (d.size - z))
                        generalize d.extract f (d.size - z) = E at *
                        obtain ⟨x0, x1, x2⟩ := hX.cells
                        obtain ⟨r0, r1, r2⟩ := hX.rcells
                        obtain ⟨f0, f1, f2⟩ := hX.free
                        obtain ⟨g0, g1, g2⟩ := hX.rfree
                        generalize wc.setCell ⟨w.heap.size + 1, 1, none⟩ (.string E) = wd at *
                        have hfin : ParseEnd s.data.toList (.returned (.tuple #[refV (strip m d.data.toList e).minus (strip m d.data.toList e).digits (strip m d.data.toList e).exp, .bool true])) := by
                          unfold ParseEnd; rw [hS.out]
                        have hstrip := strip_of m d.data.toList e hf.out hz.out hE
                        clear hE
                        cases hemp : E.toList.isEmpty
                        · rw [if_neg (by rw [← Lib.toList_data]; simpa using hemp)] at hstrip
                          rw [hstrip] at hfin
                          simp only [refV, bytes_mk] at hfin
                          replace hfin := Lib.hid hfin
                          clear hstrip
                          have q := (hX.1.over3 (x' := .bool m) (y' := .string E) (z' := .int .i64 (e + z))).three
                          replace q := Lib.hid q
                          go_wp2
                          replace q := q.out
                          refine bodyPost_ret (v := .tuple #[.agg #[.bool m, .string E, .int .i64 (e + z)], .bool true]) (by simp [results, Tryz.results219, go_sem, q.1, q.2.1, q.2.2.1]) rfl ⟨hfin.out, ?_⟩
                          exact ((hX.2.2.setCell (by simp) _).setCell (by simp) _).setCell (by simp) _
                        · rw [if_pos (by rw [← Lib.toList_data]; simpa using hemp)] at hstrip
                          rw [hstrip] at hfin
                          simp only [refV] at hfin
                          replace hfin := Lib.hid hfin
                          clear hstrip
                          have q := (hX.1.over3 (x' := .bool false) (y' := .string ⟨#[]⟩) (z' := .int .i64 0)).three
                          replace q := Lib.hid q
                          go_wp2
                          replace q := q.out
                          refine bodyPost_ret (v := .tuple #[.agg #[.bool false, .string ⟨#[]⟩, .int .i64 0], .bool true]) (by simp [results, Tryz.results219, go_sem, q.1, q.2.1, q.2.2.1]) rfl ⟨hfin.out, ?_⟩
                          exact ((hX.2.2.setCell (by simp) _).setCell (by simp) _).setCell (by simp) _
                  · have hne : ((k : Int) != (s.size : Int)) = true := by simp; omega
                    have hend : parseL s.data.toList = none := by rw [hP.out, parse4, if_pos (by rw [bytes_len]; omega)]
                    replace hend := Lib.hid hend
                    have q := (hX.1.over3 (x' := .bool m) (y' := .string d) (z' := .int .i64 e)).three
                    replace q := Lib.hid q
                    go_wp2
                    replace q := q.out
                    refine bodyPost_ret (v := .tuple #[.agg #[.bool m, .string d, .int .i64 e], .bool false]) (by simp [results, Tryz.results219, go_sem, q.1, q.2.1, q.2.2.1]) rfl ⟨ends_none hend.out, ?_⟩
                    exact ((hX.2.2.setCell (by simp) _).setCell (by simp) _).setCell (by simp) _
        · obtain ⟨x0, x1, x2⟩ := hX.cells
          obtain ⟨r0, r1, r2⟩ := hX.rcells
          obtain ⟨f0, f1, f2⟩ := hX.rfree
          have hend : parseL s.data.toList = none := by
            rw [hP.out, parse1, hn.out]
            by_cases h0 : n = 0
            · simp [h0]
            · have : decide (1 < n) && isAt s.data.toList k 48 := by simpa [h0] using hc
              simp [h0, this]
          replace hend := Lib.hid hend
          have q := (hX.1.over3 (x' := .bool m) (y' := .string ⟨#[]⟩) (z' := .int .i64 0)).three
          replace q := Lib.hid q
          go_wp2
          replace q := q.out
          refine bodyPost_ret (v := .tuple #[.agg #[.bool m, .string ⟨#[]⟩, .int .i64 0], .bool false]) (by simp [results, Tryz.results219, go_sem, q.1, q.2.1, q.2.2.1]) rfl ⟨ends_none hend.out, ?_⟩
          exact ((hX.2.2.setCell (by simp) _).setCell (by simp) _).setCell (by simp) _
end Go.Proofs.YtlnkjacbdolhnaaGreatDoor
