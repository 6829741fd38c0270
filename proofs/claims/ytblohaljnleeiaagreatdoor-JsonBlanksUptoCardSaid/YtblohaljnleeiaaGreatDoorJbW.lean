/-
  The walks of rostrumlaw05's example and works.
-/
import Derived.Test.YtblohaljnleeiaaGreatDoorJpP
import Derived.Test.YtblohaljnleeiaaGreatDoorJmq
import Derived.Test.YtblohaljnleeiaaGreatDoorJma
namespace Go.Proofs.YtblohaljnleeiaaGreatDoor
open Go.RowKit

theorem KidO.two {gl gn lo hi : Nat} {cs : Array Value} {x0 x1 : Jsn × (Nat → Nat → Value → Value → Prop)} {u0 u1 : OE} (hc : cs.toList = encJ (x0.1, u0.1, u0.2.1) ++ encJ (x1.1, u1.1, u1.2.1)) (ho : u0.2.2.2 ≤ u1.2.2.1)
    (h0 : lo ≤ u0.2.2.1 ∧ u0.2.2.1 ≤ u0.2.2.2 ∧ u0.2.2.2 ≤ hi ∧ ¬ (u0.2.2.1 ≤ gl ∧ gl < u0.2.2.2) ∧ ¬ (u0.2.2.1 ≤ gn ∧ gn < u0.2.2.2) ∧ x0.2 u0.2.2.1 u0.2.2.2 u0.1 u0.2.1)
    (h1 : lo ≤ u1.2.2.1 ∧ u1.2.2.1 ≤ u1.2.2.2 ∧ u1.2.2.2 ≤ hi ∧ ¬ (u1.2.2.1 ≤ gl ∧ gl < u1.2.2.2) ∧ ¬ (u1.2.2.1 ≤ gn ∧ gn < u1.2.2.2) ∧ x1.2 u1.2.2.1 u1.2.2.2 u1.1 u1.2.1) : KidO gl gn lo hi cs [x0, x1] [u0, u1] := by
  have hl : (encJ (x0.1, u0.1, u0.2.1)).length = 4 := rfl
  refine ⟨rfl, fun i x u hx hu => ?_, fun i j u v hij hu hv => ?_⟩
  · match i, hx, hu with
    | 0, hx, hu =>
      injection hx with hx
      injection hu with hu
      subst hx
      subst hu
      refine ⟨fun q v hv => ?_, h0⟩
      have hq : q < 4 := by have := (List.getElem?_eq_some_iff.1 hv).1; rw [hl] at this; exact this
      rw [← Array.getElem?_toList, hc, List.getElem?_append_left (by rw [hl]; omega), Nat.zero_mul, Nat.zero_add]
      exact hv
    | 1, hx, hu =>
      injection hx with hx
      injection hu with hu
      subst hx
      subst hu
      refine ⟨fun q v hv => ?_, h1⟩
      rw [← Array.getElem?_toList, hc, List.getElem?_append_right (by rw [hl]; omega), hl, Nat.one_mul, Nat.add_sub_cancel_left]
      exact hv
    | n + 2, hx, hu => cases hx
  · match i, j, hij, hu, hv with
    | 0, 1, _, hu, hv =>
      injection hu with hu
      injection hv with hv
      subst hu
      subst hv
      exact ho
    | 0, n + 2, _, _, hv => cases hv
    | 1, n + 2, _, _, hv => cases hv
    | n + 2, _, _, hu, _ => cases hu
/-- The first example, as it lies. -/
theorem ex_own {w : World} {A : Nat} (h1 : Cel w (A + 1) 9 #[.string ⟨#[97]⟩, .string ⟨#[195, 169]⟩])
    (h3 : Cel w (A + 3) 25 #[.int .u8 4, .string ⟨#[49, 53, 101, 45, 49]⟩, .slice none 0 0, .slice none 0 0, .int .u8 1, .string ⟨#[]⟩, .slice none 0 0, .slice none 0 0])
    (h6 : Cel w (A + 6) 25 #[.int .u8 6, .string ⟨#[]⟩, .slice none 0 0, .slice (some ⟨A + 3, 0, none⟩) 2 2, .int .u8 5, .string ⟨#[240, 157, 132, 158]⟩, .slice none 0 0, .slice none 0 0]) (hs : w.heap.size = A + 7) :
    OwnJ w 9 25 exJ A w.heap.size (.slice (some ⟨A + 1, 0, none⟩) 2 2) (.slice (some ⟨A + 6, 0, none⟩) 2 2) := by
  unfold exJ
  rw [OwnJ_eq]
  refine ⟨by omega, by omega, A + 1, A + 6, _, some ⟨A + 6, 0, none⟩, 2, [(.slice none 0 0, .slice (some ⟨A + 3, 0, none⟩) 2 2, A + 3, A + 4), (.slice none 0 0, .slice none 0 0, A + 5, A + 5)], ⟨some ⟨A + 1, 0, none⟩, 2, rfl, fun _ => ⟨rfl, by omega, by omega, _, h1, fun j x hx => ?_⟩⟩, rfl, fun _ => ⟨rfl, by omega, by omega, by omega, h6⟩, KidO.two rfl (by dsimp only; omega) ⟨by dsimp only; omega, by dsimp only; omega, by dsimp only; omega, by dsimp only; omega, by dsimp only; omega, ?_⟩ ⟨by dsimp only; omega, by dsimp only; omega, by dsimp only; omega, by dsimp only; omega, by dsimp only; omega, flat_own _ _ _ _ _ _ _ (by decide) (by decide)⟩⟩
  · match j, hx with
    | 0, hx => injection hx with hx; subst hx; rfl
    | 1, hx => injection hx with hx; subst hx; rfl
    | n + 2, hx => cases hx
  · dsimp only
    rw [OwnJ_eq]
    exact ⟨by omega, by omega, A + 4, A + 3, _, some ⟨A + 3, 0, none⟩, 2, [(.slice none 0 0, .slice none 0 0, A + 4, A + 4), (.slice none 0 0, .slice none 0 0, A + 4, A + 4)], ⟨none, 0, rfl, fun h => by simp at h⟩, rfl, fun _ => ⟨rfl, by omega, by omega, by omega, h3⟩, KidO.two rfl (by dsimp only; omega) ⟨by dsimp only; omega, by dsimp only; omega, by dsimp only; omega, by dsimp only; omega, by dsimp only; omega, flat_own _ _ _ _ _ _ _ (by decide) (by decide)⟩ ⟨by dsimp only; omega, by dsimp only; omega, by dsimp only; omega, by dsimp only; omega, by dsimp only; omega, flat_own _ _ _ _ _ _ _ (by decide) (by decide)⟩⟩
set_option maxRecDepth 100000 in
set_option maxHeartbeats 4000000 in
theorem example_any (w : World) : Calls Tryz.prog 54 #[] w (OwnJEnd exJ w) := by
  go_enter Tryz.func54, Tryz.ntmps54
  go_wp2
  obtain ⟨w1, e1⟩ : ∃ w1, w.alloc (.cells #[.int .u8 7, .string ⟨#[]⟩, .slice (some ⟨w.heap.size + 1, 0, none⟩) 2 2, .slice (some ⟨w.heap.size + 1 + 1 + 1 + 1 + 1 + 1, 0, none⟩) 2 2] 25) = w1 := ⟨_, rfl⟩
  have c0 : Cel w1 w.heap.size 25 #[.int .u8 7, .string ⟨#[]⟩, .slice (some ⟨w.heap.size + 1, 0, none⟩) 2 2, .slice (some ⟨w.heap.size + 6, 0, none⟩) 2 2] := by rw [← e1]; exact Cel.fresh _ _ _
  have s1 : w1.heap.size = w.heap.size + 1 := by rw [← e1]; simp
  have b1 : Below w.heap.size w w1 := by rw [← e1]; exact (Below.refl _ _).alloc (Nat.le_refl _) _
  obtain ⟨w2, e2⟩ : ∃ x, w1.alloc (.cells #[.string ⟨#[97]⟩, .string ⟨#[195, 169]⟩] 9) = x := ⟨_, rfl⟩
  have c1 : Cel w2 (w.heap.size + 1) 9 #[.string ⟨#[97]⟩, .string ⟨#[195, 169]⟩] := by rw [← e2, ← s1]; exact Cel.fresh _ _ _
  have s2 : w2.heap.size = w.heap.size + 2 := by rw [← e2]; simp [s1]
  have b2 : Below w.heap.size w w2 := by rw [← e2]; exact b1.alloc (by omega) _
  obtain ⟨w3, e3⟩ : ∃ x, w2.alloc (.cells #[.int .u8 4, .string ⟨#[49, 53, 101, 45, 49]⟩, .slice none 0 0, .slice none 0 0] 25) = x := ⟨_, rfl⟩
  have c2 : Cel w3 (w.heap.size + 2) 25 #[.int .u8 4, .string ⟨#[49, 53, 101, 45, 49]⟩, .slice none 0 0, .slice none 0 0] := by rw [← e3, ← s2]; exact Cel.fresh _ _ _
  have s3 : w3.heap.size = w.heap.size + 3 := by rw [← e3]; simp [s2]
  have b3 : Below w.heap.size w w3 := by rw [← e3]; exact b2.alloc (by omega) _
  obtain ⟨w4, e4⟩ : ∃ x, w3.alloc (.cells #[.int .u8 4, .string ⟨#[49, 53, 101, 45, 49]⟩, .slice none 0 0, .slice none 0 0, .int .u8 1, .string ⟨#[]⟩, .slice none 0 0, .slice none 0 0] 25) = x := ⟨_, rfl⟩
  have c3 : Cel w4 (w.heap.size + 3) 25 #[.int .u8 4, .string ⟨#[49, 53, 101, 45, 49]⟩, .slice none 0 0, .slice none 0 0, .int .u8 1, .string ⟨#[]⟩, .slice none 0 0, .slice none 0 0] := by rw [← e4, ← s3]; exact Cel.fresh _ _ _
  have s4 : w4.heap.size = w.heap.size + 4 := by rw [← e4]; simp [s3]
  have b4 : Below w.heap.size w w4 := by rw [← e4]; exact b3.alloc (by omega) _
  obtain ⟨w5, e5⟩ : ∃ x, w4.alloc (.cells #[.int .u8 6, .string ⟨#[]⟩, .slice none 0 0, .slice (some ⟨w.heap.size + 1 + 1 + 1, 0, none⟩) 2 2] 25) = x := ⟨_, rfl⟩
  have c4 : Cel w5 (w.heap.size + 4) 25 #[.int .u8 6, .string ⟨#[]⟩, .slice none 0 0, .slice (some ⟨w.heap.size + 3, 0, none⟩) 2 2] := by rw [← e5, ← s4]; exact Cel.fresh _ _ _
  have s5 : w5.heap.size = w.heap.size + 5 := by rw [← e5]; simp [s4]
  have b5 : Below w.heap.size w w5 := by rw [← e5]; exact b4.alloc (by omega) _
  obtain ⟨w6, e6⟩ : ∃ x, w5.alloc (.cells #[.int .u8 5, .string ⟨#[240, 157, 132, 158]⟩, .slice none 0 0, .slice none 0 0] 25) = x := ⟨_, rfl⟩
  have c5 : Cel w6 (w.heap.size + 5) 25 #[.int .u8 5, .string ⟨#[240, 157, 132, 158]⟩, .slice none 0 0, .slice none 0 0] := by rw [← e6, ← s5]; exact Cel.fresh _ _ _
  have s6 : w6.heap.size = w.heap.size + 6 := by rw [← e6]; simp [s5]
  have b6 : Below w.heap.size w w6 := by rw [← e6]; exact b5.alloc (by omega) _
  obtain ⟨w7, e7⟩ : ∃ x, w6.alloc (.cells #[.int .u8 6, .string ⟨#[]⟩, .slice none 0 0, .slice (some ⟨w.heap.size + 1 + 1 + 1, 0, none⟩) 2 2, .int .u8 5, .string ⟨#[240, 157, 132, 158]⟩, .slice none 0 0, .slice none 0 0] 25) = x := ⟨_, rfl⟩
  have c6 : Cel w7 (w.heap.size + 6) 25 #[.int .u8 6, .string ⟨#[]⟩, .slice none 0 0, .slice (some ⟨w.heap.size + 3, 0, none⟩) 2 2, .int .u8 5, .string ⟨#[240, 157, 132, 158]⟩, .slice none 0 0, .slice none 0 0] := by rw [← e7, ← s6]; exact Cel.fresh _ _ _
  have s7 : w7.heap.size = w.heap.size + 7 := by rw [← e7]; simp [s6]
  have b7 : Below w.heap.size w w7 := by rw [← e7]; exact b6.alloc (by omega) _
  have h0 : Cel w7 w.heap.size 25 #[.int .u8 7, .string ⟨#[]⟩, .slice (some ⟨w.heap.size + 1, 0, none⟩) 2 2, .slice (some ⟨w.heap.size + 6, 0, none⟩) 2 2] := by rw [← e7, ← e6, ← e5, ← e4, ← e3, ← e2]; exact (((((c0.alloc _).alloc _).alloc _).alloc _).alloc _).alloc _
  have h1 := (((((c1.alloc (.cells #[.int .u8 4, .string ⟨#[49, 53, 101, 45, 49]⟩, .slice none 0 0, .slice none 0 0] 25))))))
  have k1 : Cel w7 (w.heap.size + 1) 9 #[.string ⟨#[97]⟩, .string ⟨#[195, 169]⟩] := by rw [← e7, ← e6, ← e5, ← e4, ← e3]; exact ((((c1.alloc _).alloc _).alloc _).alloc _).alloc _
  have k3 : Cel w7 (w.heap.size + 3) 25 #[.int .u8 4, .string ⟨#[49, 53, 101, 45, 49]⟩, .slice none 0 0, .slice none 0 0, .int .u8 1, .string ⟨#[]⟩, .slice none 0 0, .slice none 0 0] := by rw [← e7, ← e6, ← e5]; exact ((c3.alloc _).alloc _).alloc _
  have hO := Lib.hid (ex_own k1 k3 c6 s7)
  have hb7 := Lib.hid b7
  obtain ⟨x0, x1, x2, x3⟩ : w7.cell? ⟨w.heap.size, 0, none⟩ = some (.int .u8 7) ∧ w7.cell? ⟨w.heap.size, 1, none⟩ = some (.string ⟨#[]⟩) ∧ w7.cell? ⟨w.heap.size, 2, none⟩ = some (.slice (some ⟨w.heap.size + 1, 0, none⟩) 2 2) ∧ w7.cell? ⟨w.heap.size, 3, none⟩ = some (.slice (some ⟨w.heap.size + 6, 0, none⟩) 2 2) := ⟨h0.cell 0, h0.cell 1, h0.cell 2, h0.cell 3⟩
  rw [e1, e2, e3, e4, e5, e6, e7]
  clear e1 e2 e3 e4 e5 e6 e7 c0 c1 c2 c3 c4 c5 c6 h0 h1 k1 k3 b1 b2 b3 b4 b5 b6 b7 s1 s2 s3 s4 s5 s6 s7
  refine bodyPost_ret (v := .agg #[.int .u8 7, .string ⟨#[]⟩, .slice (some ⟨w.heap.size + 1, 0, none⟩) 2 2, .slice (some ⟨w.heap.size + 6, 0, none⟩) 2 2]) (by simp [results, Tryz.results54, go_sem, x0, x1, x2, x3]) rfl ?_
  exact ⟨_, _, rfl, hO.out, hb7.out⟩
theorem cel4' {W : World} {b : Nat} {x0 x1 x2 x3 : Value} (h : Cel W b 25 #[x0, x1, x2, x3]) : W.cell? ⟨b, 0, none⟩ = some x0 ∧ W.cell? ⟨b, 1, none⟩ = some x1 ∧ W.cell? ⟨b, 2, none⟩ = some x2 ∧ W.cell? ⟨b, 3, none⟩ = some x3 :=
  ⟨h.cell 0, h.cell 1, h.cell 2, h.cell 3⟩
set_option maxRecDepth 100000 in
set_option maxHeartbeats 8000000 in
theorem works_any (w : World) (hE : EnvC w) : Calls Tryz.prog 45 #[] w fun e w' => e = .returned (.bool true) ∧ Below w.heap.size w w' := by
  have hP := jsnParse_any exS w hE
  rw [ex_parse] at hP
  go_enter Tryz.func45, Tryz.ntmps45
  go_wp2_with fail
  refine hP.mono ?_
  rintro e w1 ⟨hb1, vn, vl, rfl, hO1⟩
  obtain ⟨Ax, nx, cx, Ay, ny, cy, rfl, rfl⟩ := hO1.forms
  obtain ⟨W1, hW1⟩ : ∃ W1, w1.alloc (.cells #[.int .u8 exJ.kind, .string exJ.text, .slice Ax nx cx, .slice Ay ny cy] 25) = W1 := ⟨_, rfl⟩
  have hbe : Below w.heap.size w W1 := by rw [← hW1]; exact hb1.alloc hb1.size _
  have hC : Cel W1 w1.heap.size 25 #[.int .u8 exJ.kind, .string exJ.text, .slice Ax nx cx, .slice Ay ny cy] := by rw [← hW1]; exact Cel.fresh _ _ _
  have hOW := OwnJ.keep (w' := W1) exJ hO1 (fun k _ hk => by rw [← hW1]; exact Below.heap_alloc w1 _ k hk) (Nat.le_refl _) (Nat.le_refl _)
  have hJ := OwnJ.jv exJ hOW
  have hex := Lib.hid (example_any W1)
  replace hW1 := Lib.hid hW1
  replace hJ := Lib.hid hJ
  clear hP hO1 hOW hb1
  go_upto_region 2 with fail
  rw [hW1.out]
  clear hW1
  go_wp2_with fail
  refine hex.out.mono ?_
  rintro e w2 ⟨vn2, vl2, rfl, hO2, hb2⟩
  obtain ⟨Bx, mx, dx, By, my, dy, rfl, rfl⟩ := hO2.forms
  have hE2 := hE.below (hbe.trans (hb2.mono hbe.size))
  have hPr := jsnPrint_any exJ _ w2 _ _ hE2.1 (OwnJ.jv exJ hO2) (by have := ex_bulk; omega)
  rw [ex_print] at hPr
  have hPr : Calls Tryz.prog 47 #[.agg #[.int .u8 exJ.kind, .string exJ.text, .slice Bx mx dx, .slice By my dy]] w2 fun e w' => e = .returned (.tuple #[.string ⟨#[123, 34, 97, 34, 58, 91, 49, 53, 101, 45, 49, 44, 110, 117, 108, 108, 93, 44, 34, 195, 169, 34, 58, 34, 240, 157, 132, 158, 34, 125]⟩, .int .i64 0]) ∧ Below w2.heap.size w2 w' := hPr
  replace hPr := Lib.hid hPr
  go_wp2_with fail
  refine hPr.out.mono ?_
  rintro e w3 ⟨rfl, hb3⟩
  have hb13 : Below W1.heap.size W1 w3 := hb2.trans (hb3.mono hb2.size)
  have hC3 := hC.below hb13 hC.lt
  have hJ3 := hJ.out.later hb13
  have hex3 := Lib.hid (fun (W : World) (_ : Below w3.heap.size w3 W) => example_any W)
  have hSm := Lib.hid (fun (W : World) (un ul : Value) (lo hi : Nat) (hB : Below w3.heap.size w3 W) (hO : OwnJ W 9 25 exJ lo hi un ul) => refSameJ_any exJ exJ _ _ W _ _ _ _ (hJ3.later hB) (OwnJ.jv exJ hO) (by have := ex_bulk; omega) (by have := ex_bulk; omega))
  simp only [jsame_refl] at hSm
  have hw3 := Lib.hid (hbe.trans (hb13.mono hbe.size))
  have hS := Lib.hid (fun (W : World) (hB : Below w3.heap.size w3 W) => And.intro (cel4' (hC3.below hB hC3.lt)) hB)
  clear hPr hJ hC hC3 hJ3 hb2 hb3 hb13 hO2 hE2 hbe hE hex
  go_upto_region 3 with fail
  go_region_held3 (fun W => (W.cell? ⟨w1.heap.size, 0, none⟩ = some (.int .u8 exJ.kind) ∧ W.cell? ⟨w1.heap.size, 1, none⟩ = some (.string exJ.text) ∧ W.cell? ⟨w1.heap.size, 2, none⟩ = some (.slice Ax nx cx) ∧ W.cell? ⟨w1.heap.size, 3, none⟩ = some (.slice Ay ny cy)) ∧ Below w3.heap.size w3 W)
    (first | exact hS.out _ (bel_drewN (Below.refl _ _) 1) | exact hS.out _ hZ1 | exact hS.out _ hZ2)
    (first
      | (go_at_call 54; (with_reducible refine (hex3.out _ ?_).mono ?_); exact bel_drewN (Below.refl _ _) 1; rintro e u1 ⟨ga1, ga2, rfl, hOa, hu⟩; obtain ⟨_, _, _, _, _, _, rfl, rfl⟩ := hOa.forms; have hZ1 : Below w3.heap.size w3 u1 := (bel_drewN (Below.refl _ _) 1).trans hu; replace hOa := Lib.hid hOa; clear hu)
      | (go_at_call 38; (with_reducible refine (hSm.out _ _ _ _ _ ?_ hOa.out).mono ?_); exact hZ1; rintro e u2 ⟨rfl, hu⟩; have hZ2 : Below w3.heap.size w3 u2 := hZ1.trans (hu.mono hZ1.size); clear hu hOa))
  all_goals
    go_wp2_with fail
    go_ret
    exact ⟨rfl, hw3.out.trans (hZ2.mono hw3.out.size)⟩
end Go.Proofs.YtblohaljnleeiaaGreatDoor
