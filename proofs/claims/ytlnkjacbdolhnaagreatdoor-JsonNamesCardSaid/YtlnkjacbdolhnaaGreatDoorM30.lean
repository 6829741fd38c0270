/-
  The walks of rostrumlaw05's example and works.
-/
import Derived.Test.YtlnkjacbdolhnaaGreatDoorJpP
import Derived.Test.YtlnkjacbdolhnaaGreatDoorM06
import Derived.Test.YtlnkjacbdolhnaaGreatDoorJsB
import Derived.Test.YtlnkjacbdolhnaaGreatDoorM20
import Derived.Lib.SlicesS
namespace Go.Proofs.YtlnkjacbdolhnaaGreatDoor
open Go.RowKit

theorem KidO.two {gl gn lo hi : Nat} {cs : Array Value} {x0 x1 : Jsn × (Nat → Nat → Value → Value → Prop)} {u0 u1 : OE} (hc : cs.toList = encJ (x0.1, u0.1, u0.2.1) ++ encJ (x1.1, u1.1, u1.2.1)) (ho : u0.2.2.2 ≤ u1.2.2.1)
    (h0 : lo ≤ u0.2.2.1 ∧ u0.2.2.1 ≤ u0.2.2.2 ∧ u0.2.2.2 ≤ hi ∧ ¬ (u0.2.2.1 ≤ gl ∧ gl < u0.2.2.2) ∧ ¬ (u0.2.2.1 ≤ gn ∧ gn < u0.2.2.2) ∧ x0.2 u0.2.2.1 u0.2.2.2 u0.1 u0.2.1)
    (h1 : lo ≤ u1.2.2.1 ∧ u1.2.2.1 ≤ u1.2.2.2 ∧ u1.2.2.2 ≤ hi ∧ ¬ (u1.2.2.1 ≤ gl ∧ gl < u1.2.2.2) ∧ ¬ (u1.2.2.1 ≤ gn ∧ gn < u1.2.2.2) ∧ x1.2 u1.2.2.1 u1.2.2.2 u1.1 u1.2.1) : KidO gl gn lo hi cs [x0, x1] [u0, u1] := by
  have hl : (encJ (x0.1, u0.1, u0.2.1)).length = 4 := rfl
  refine ⟨rfl, fun i x u hx hu => ?_, fun i j u v hij hu hv => ?_⟩
  · match i, hx, hu with
    | 0, hx, hu =>
      injection hx with hx
      injection hu with hu
      subst hx
      subst hu
      refine ⟨fun q v hv => ?_, h0⟩
      have hq : q < 4 := by have := (List.getElem?_eq_some_iff.1 hv).1; rw [hl] at this; exact this
      rw [← Array.getElem?_toList, hc, List.getElem?_append_left (by rw [hl]; omega), Nat.zero_mul, Nat.zero_add]
      exact hv
    | 1, hx, hu =>
      injection hx with hx
      injection hu with hu
      subst hx
      subst hu
      refine ⟨fun q v hv => ?_, h1⟩
      rw [← Array.getElem?_toList, hc, List.getElem?_append_right (by rw [hl]; omega), hl, Nat.one_mul, Nat.add_sub_cancel_left]
      exact hv
    | n + 2, hx, hu => cases hx
  · match i, j, hij, hu, hv with
    | 0, 1, _, hu, hv =>
      injection hu with hu
      injection hv with hv
      subst hu
      subst hv
      exact ho
    | 0, n + 2, _, _, hv => cases hv
    | 1, n + 2, _, _, hv => cases hv
    | n + 2, _, _, hu, _ => cases hu
/-- The first example, as it lies. -/
theorem ex_own {w : World} {A : Nat} (h1 : Cel w (A + 1) 9 #[.string ⟨#[97]⟩, .string ⟨#[195, 169]⟩])
    (h3 : Cel w (A + 3) 25 #[.int .u8 4, .string ⟨#[49, 53, 101, 45, 49]⟩, .slice none 0 0, .slice none 0 0, .int .u8 1, .string ⟨#[]⟩, .slice none 0 0, .slice none 0 0])
    (h6 : Cel w (A + 6) 25 #[.int .u8 6, .string ⟨#[]⟩, .slice none 0 0, .slice (some ⟨A + 3, 0, none⟩) 2 2, .int .u8 5, .string ⟨#[240, 157, 132, 158]⟩, .slice none 0 0, .slice none 0 0]) (hs : w.heap.size = A + 7) :
    OwnJ w 9 25 exJ A w.heap.size (.slice (some ⟨A + 1, 0, none⟩) 2 2) (.slice (some ⟨A + 6, 0, none⟩) 2 2) := by
  unfold exJ
  rw [OwnJ_eq]
  refine ⟨by omega, by omega, A + 1, A + 6, _, some ⟨A + 6, 0, none⟩, 2, [(.slice none 0 0, .slice (some ⟨A + 3, 0, none⟩) 2 2, A + 3, A + 4), (.slice none 0 0, .slice none 0 0, A + 5, A + 5)], ⟨some ⟨A + 1, 0, none⟩, 2, rfl, fun _ => ⟨rfl, by omega, by omega, _, h1, fun j x hx => ?_⟩⟩, rfl, fun _ => ⟨rfl, by omega, by omega, by omega, h6⟩, KidO.two rfl (by dsimp only; omega) ⟨by dsimp only; omega, by dsimp only; omega, by dsimp only; omega, by dsimp only; omega, by dsimp only; omega, ?_⟩ ⟨by dsimp only; omega, by dsimp only; omega, by dsimp only; omega, by dsimp only; omega, by dsimp only; omega, flat_own _ _ _ _ _ _ _ (by decide) (by decide)⟩⟩
  · match j, hx with
    | 0, hx => injection hx with hx; subst hx; rfl
    | 1, hx => injection hx with hx; subst hx; rfl
    | n + 2, hx => cases hx
  · dsimp only
    rw [OwnJ_eq]
    exact ⟨by omega, by omega, A + 4, A + 3, _, some ⟨A + 3, 0, none⟩, 2, [(.slice none 0 0, .slice none 0 0, A + 4, A + 4), (.slice none 0 0, .slice none 0 0, A + 4, A + 4)], ⟨none, 0, rfl, fun h => by simp at h⟩, rfl, fun _ => ⟨rfl, by omega, by omega, by omega, h3⟩, KidO.two rfl (by dsimp only; omega) ⟨by dsimp only; omega, by dsimp only; omega, by dsimp only; omega, by dsimp only; omega, by dsimp only; omega, flat_own _ _ _ _ _ _ _ (by decide) (by decide)⟩ ⟨by dsimp only; omega, by dsimp only; omega, by dsimp only; omega, by dsimp only; omega, by dsimp only; omega, flat_own _ _ _ _ _ _ _ (by decide) (by decide)⟩⟩
set_option maxRecDepth 100000 in
set_option maxHeartbeats 4000000 in
theorem example_any (w : World) : Calls Tryz.prog 19 #[] w (OwnJEnd exJ w) := by
  go_enter Tryz.func19, Tryz.ntmps19
  go_wp2
  obtain ⟨w1, e1⟩ : ∃ w1, w.alloc (.cells #[.int .u8 7, .string ⟨#[]⟩, .slice (some ⟨w.heap.size + 1, 0, none⟩) 2 2, .slice (some ⟨w.heap.size + 1 + 1 + 1 + 1 + 1 + 1, 0, none⟩) 2 2] 25) = w1 := ⟨_, rfl⟩
  have c0 : Cel w1 w.heap.size 25 #[.int .u8 7, .string ⟨#[]⟩, .slice (some ⟨w.heap.size + 1, 0, none⟩) 2 2, .slice (some ⟨w.heap.size + 6, 0, none⟩) 2 2] := by rw [← e1]; exact Cel.fresh _ _ _
  have s1 : w1.heap.size = w.heap.size + 1 := by rw [← e1]; simp
  have b1 : Below w.heap.size w w1 := by rw [← e1]; exact (Below.refl _ _).alloc (Nat.le_refl _) _
  obtain ⟨w2, e2⟩ : ∃ x, w1.alloc (.cells #[.string ⟨#[97]⟩, .string ⟨#[195, 169]⟩] 9) = x := ⟨_, rfl⟩
  have c1 : Cel w2 (w.heap.size + 1) 9 #[.string ⟨#[97]⟩, .string ⟨#[195, 169]⟩] := by rw [← e2, ← s1]; exact Cel.fresh _ _ _
  have s2 : w2.heap.size = w.heap.size + 2 := by rw [← e2]; simp [s1]
  have b2 : Below w.heap.size w w2 := by rw [← e2]; exact b1.alloc (by omega) _
  obtain ⟨w3, e3⟩ : ∃ x, w2.alloc (.cells #[.int .u8 4, .string ⟨#[49, 53, 101, 45, 49]⟩, .slice none 0 0, .slice none 0 0] 25) = x := ⟨_, rfl⟩
  have c2 : Cel w3 (w.heap.size + 2) 25 #[.int .u8 4, .string ⟨#[49, 53, 101, 45, 49]⟩, .slice none 0 0, .slice none 0 0] := by rw [← e3, ← s2]; exact Cel.fresh _ _ _
  have s3 : w3.heap.size = w.heap.size + 3 := by rw [← e3]; simp [s2]
  have b3 : Below w.heap.size w w3 := by rw [← e3]; exact b2.alloc (by omega) _
  obtain ⟨w4, e4⟩ : ∃ x, w3.alloc (.cells #[.int .u8 4, .string ⟨#[49, 53, 101, 45, 49]⟩, .slice none 0 0, .slice none 0 0, .int .u8 1, .string ⟨#[]⟩, .slice none 0 0, .slice none 0 0] 25) = x := ⟨_, rfl⟩
  have c3 : Cel w4 (w.heap.size + 3) 25 #[.int .u8 4, .string ⟨#[49, 53, 101, 45, 49]⟩, .slice none 0 0, .slice none 0 0, .int .u8 1, .string ⟨#[]⟩, .slice none 0 0, .slice none 0 0] := by rw [← e4, ← s3]; exact Cel.fresh _ _ _
  have s4 : w4.heap.size = w.heap.size + 4 := by rw [← e4]; simp [s3]
  have b4 : Below w.heap.size w w4 := by rw [← e4]; exact b3.alloc (by omega) _
  obtain ⟨w5, e5⟩ : ∃ x, w4.alloc (.cells #[.int .u8 6, .string ⟨#[]⟩, .slice none 0 0, .slice (some ⟨w.heap.size + 1 + 1 + 1, 0, none⟩) 2 2] 25) = x := ⟨_, rfl⟩
  have c4 : Cel w5 (w.heap.size + 4) 25 #[.int .u8 6, .string ⟨#[]⟩, .slice none 0 0, .slice (some ⟨w.heap.size + 3, 0, none⟩) 2 2] := by rw [← e5, ← s4]; exact Cel.fresh _ _ _
  have s5 : w5.heap.size = w.heap.size + 5 := by rw [← e5]; simp [s4]
  have b5 : Below w.heap.size w w5 := by rw [← e5]; exact b4.alloc (by omega) _
  obtain ⟨w6, e6⟩ : ∃ x, w5.alloc (.cells #[.int .u8 5, .string ⟨#[240, 157, 132, 158]⟩, .slice none 0 0, .slice none 0 0] 25) = x := ⟨_, rfl⟩
  have c5 : Cel w6 (w.heap.size + 5) 25 #[.int .u8 5, .string ⟨#[240, 157, 132, 158]⟩, .slice none 0 0, .slice none 0 0] := by rw [← e6, ← s5]; exact Cel.fresh _ _ _
  have s6 : w6.heap.size = w.heap.size + 6 := by rw [← e6]; simp [s5]
  have b6 : Below w.heap.size w w6 := by rw [← e6]; exact b5.alloc (by omega) _
  obtain ⟨w7, e7⟩ : ∃ x, w6.alloc (.cells #[.int .u8 6, .string ⟨#[]⟩, .slice none 0 0, .slice (some ⟨w.heap.size + 1 + 1 + 1, 0, none⟩) 2 2, .int .u8 5, .string ⟨#[240, 157, 132, 158]⟩, .slice none 0 0, .slice none 0 0] 25) = x := ⟨_, rfl⟩
  have c6 : Cel w7 (w.heap.size + 6) 25 #[.int .u8 6, .string ⟨#[]⟩, .slice none 0 0, .slice (some ⟨w.heap.size + 3, 0, none⟩) 2 2, .int .u8 5, .string ⟨#[240, 157, 132, 158]⟩, .slice none 0 0, .slice none 0 0] := by rw [← e7, ← s6]; exact Cel.fresh _ _ _
  have s7 : w7.heap.size = w.heap.size + 7 := by rw [← e7]; simp [s6]
  have b7 : Below w.heap.size w w7 := by rw [← e7]; exact b6.alloc (by omega) _
  have h0 : Cel w7 w.heap.size 25 #[.int .u8 7, .string ⟨#[]⟩, .slice (some ⟨w.heap.size + 1, 0, none⟩) 2 2, .slice (some ⟨w.heap.size + 6, 0, none⟩) 2 2] := by rw [← e7, ← e6, ← e5, ← e4, ← e3, ← e2]; exact (((((c0.alloc _).alloc _).alloc _).alloc _).alloc _).alloc _
  have h1 := (((((c1.alloc (.cells #[.int .u8 4, .string ⟨#[49, 53, 101, 45, 49]⟩, .slice none 0 0, .slice none 0 0] 25))))))
  have k1 : Cel w7 (w.heap.size + 1) 9 #[.string ⟨#[97]⟩, .string ⟨#[195, 169]⟩] := by rw [← e7, ← e6, ← e5, ← e4, ← e3]; exact ((((c1.alloc _).alloc _).alloc _).alloc _).alloc _
  have k3 : Cel w7 (w.heap.size + 3) 25 #[.int .u8 4, .string ⟨#[49, 53, 101, 45, 49]⟩, .slice none 0 0, .slice none 0 0, .int .u8 1, .string ⟨#[]⟩, .slice none 0 0, .slice none 0 0] := by rw [← e7, ← e6, ← e5]; exact ((c3.alloc _).alloc _).alloc _
  have hO := Lib.hid (ex_own k1 k3 c6 s7)
  have hb7 := Lib.hid b7
  obtain ⟨x0, x1, x2, x3⟩ : w7.cell? ⟨w.heap.size, 0, none⟩ = some (.int .u8 7) ∧ w7.cell? ⟨w.heap.size, 1, none⟩ = some (.string ⟨#[]⟩) ∧ w7.cell? ⟨w.heap.size, 2, none⟩ = some (.slice (some ⟨w.heap.size + 1, 0, none⟩) 2 2) ∧ w7.cell? ⟨w.heap.size, 3, none⟩ = some (.slice (some ⟨w.heap.size + 6, 0, none⟩) 2 2) := ⟨h0.cell 0, h0.cell 1, h0.cell 2, h0.cell 3⟩
  rw [e1, e2, e3, e4, e5, e6, e7]
  clear e1 e2 e3 e4 e5 e6 e7 c0 c1 c2 c3 c4 c5 c6 h0 h1 k1 k3 b1 b2 b3 b4 b5 b6 b7 s1 s2 s3 s4 s5 s6 s7
  refine bodyPost_ret (v := .agg #[.int .u8 7, .string ⟨#[]⟩, .slice (some ⟨w.heap.size + 1, 0, none⟩) 2 2, .slice (some ⟨w.heap.size + 6, 0, none⟩) 2 2]) (by simp [results, Tryz.results19, go_sem, x0, x1, x2, x3]) rfl ?_
  exact ⟨_, _, rfl, hO.out, hb7.out⟩
theorem cel4' {W : World} {b : Nat} {x0 x1 x2 x3 : Value} (h : Cel W b 25 #[x0, x1, x2, x3]) : W.cell? ⟨b, 0, none⟩ = some x0 ∧ W.cell? ⟨b, 1, none⟩ = some x1 ∧ W.cell? ⟨b, 2, none⟩ = some x2 ∧ W.cell? ⟨b, 3, none⟩ = some x3 :=
  ⟨h.cell 0, h.cell 1, h.cell 2, h.cell 3⟩
set_option maxRecDepth 100000 in
set_option maxHeartbeats 8000000 in
theorem works_any (w : World) (hE : EnvC w) : Calls Tryz.prog 11 #[] w fun e w' => e = .returned (.bool true) ∧ Below w.heap.size w w' := by
  have hP := jsnParse_any exS w hE
  rw [ex_parse] at hP
  go_enter Tryz.func11, Tryz.ntmps11
  go_wp2_with fail
  refine hP.mono ?_
  rintro e w1 ⟨hb1, vn, vl, rfl, hO1⟩
  obtain ⟨Ax, nx, cx, Ay, ny, cy, rfl, rfl⟩ := hO1.forms
  obtain ⟨W1, hW1⟩ : ∃ W1, w1.alloc (.cells #[.int .u8 exJ.kind, .string exJ.text, .slice Ax nx cx, .slice Ay ny cy] 25) = W1 := ⟨_, rfl⟩
  have hbe : Below w.heap.size w W1 := by rw [← hW1]; exact hb1.alloc hb1.size _
  have hC : Cel W1 w1.heap.size 25 #[.int .u8 exJ.kind, .string exJ.text, .slice Ax nx cx, .slice Ay ny cy] := by rw [← hW1]; exact Cel.fresh _ _ _
  have hOW := OwnJ.keep (w' := W1) exJ hO1 (fun k _ hk => by rw [← hW1]; exact Below.heap_alloc w1 _ k hk) (Nat.le_refl _) (Nat.le_refl _)
  have hJ := OwnJ.jv exJ hOW
  have hex := Lib.hid (example_any W1)
  replace hW1 := Lib.hid hW1
  replace hJ := Lib.hid hJ
  clear hP hO1 hOW hb1
  go_upto_region 2 with fail
  rw [hW1.out]
  clear hW1
  go_wp2_with fail
  refine hex.out.mono ?_
  rintro e w2 ⟨vn2, vl2, rfl, hO2, hb2⟩
  obtain ⟨Bx, mx, dx, By, my, dy, rfl, rfl⟩ := hO2.forms
  have hE2 := hE.below (hbe.trans (hb2.mono hbe.size))
  have hPr := jsnPrint_any exJ _ w2 _ _ hE2.1 (OwnJ.jv exJ hO2) (by have := ex_bulk; omega)
  rw [ex_print] at hPr
  have hPr : Calls Tryz.prog 18 #[.agg #[.int .u8 exJ.kind, .string exJ.text, .slice Bx mx dx, .slice By my dy]] w2 fun e w' => e = .returned (.tuple #[.string ⟨#[123, 34, 97, 34, 58, 91, 49, 53, 101, 45, 49, 44, 110, 117, 108, 108, 93, 44, 34, 195, 169, 34, 58, 34, 240, 157, 132, 158, 34, 125]⟩, .int .i64 0]) ∧ Below w2.heap.size w2 w' := hPr
  replace hPr := Lib.hid hPr
  go_wp2_with fail
  refine hPr.out.mono ?_
  rintro e w3 ⟨rfl, hb3⟩
  have hb13 : Below W1.heap.size W1 w3 := hb2.trans (hb3.mono hb2.size)
  have hC3 := hC.below hb13 hC.lt
  have hJ3 := hJ.out.later hb13
  have hex3 := Lib.hid (fun (W : World) (_ : Below w3.heap.size w3 W) => example_any W)
  have hSm := Lib.hid (fun (W : World) (un ul : Value) (lo hi : Nat) (hB : Below w3.heap.size w3 W) (hO : OwnJ W 9 25 exJ lo hi un ul) => refSameJ_any exJ exJ _ _ W _ _ _ _ (hJ3.later hB) (OwnJ.jv exJ hO) (by have := ex_bulk; omega) (by have := ex_bulk; omega))
  simp only [jsame_refl] at hSm
  have hw3 := Lib.hid (hbe.trans (hb13.mono hbe.size))
  have hS := Lib.hid (fun (W : World) (hB : Below w3.heap.size w3 W) => And.intro (cel4' (hC3.below hB hC3.lt)) hB)
  clear hPr hJ hC hC3 hJ3 hb2 hb3 hb13 hO2 hE2 hbe hE hex
  go_upto_region 3 with fail
  go_region_held3 (fun W => (W.cell? ⟨w1.heap.size, 0, none⟩ = some (.int .u8 exJ.kind) ∧ W.cell? ⟨w1.heap.size, 1, none⟩ = some (.string exJ.text) ∧ W.cell? ⟨w1.heap.size, 2, none⟩ = some (.slice Ax nx cx) ∧ W.cell? ⟨w1.heap.size, 3, none⟩ = some (.slice Ay ny cy)) ∧ Below w3.heap.size w3 W)
    (first | exact hS.out _ (bel_drewN (Below.refl _ _) 1) | exact hS.out _ hZ1 | exact hS.out _ hZ2)
    (first
      | (go_at_call 19; (with_reducible refine (hex3.out _ ?_).mono ?_); exact bel_drewN (Below.refl _ _) 1; rintro e u1 ⟨ga1, ga2, rfl, hOa, hu⟩; obtain ⟨_, _, _, _, _, _, rfl, rfl⟩ := hOa.forms; have hZ1 : Below w3.heap.size w3 u1 := (bel_drewN (Below.refl _ _) 1).trans hu; replace hOa := Lib.hid hOa; clear hu)
      | (go_at_call 14; (with_reducible refine (hSm.out _ _ _ _ _ ?_ hOa.out).mono ?_); exact hZ1; rintro e u2 ⟨rfl, hu⟩; have hZ2 : Below w3.heap.size w3 u2 := hZ1.trans (hu.mono hZ1.size); clear hu hOa))
  all_goals
    go_wp2_with fail
    go_ret
    exact ⟨rfl, hw3.out.trans (hZ2.mono hw3.out.size)⟩
end Go.Proofs.YtlnkjacbdolhnaaGreatDoor


/-
  The walk of rostrumlaw05.spoil: it writes over a value of the call's own, and nothing else.
-/
namespace Go.Proofs.YtlnkjacbdolhnaaGreatDoor
open Go.RowKit

/-- Nothing but the blocks from lo up to ahead of hi has changed. -/
def Spoilt (lo hi : Nat) (w w' : World) : Prop := Below lo w w' ∧ ∀ b, hi ≤ b → b < w.heap.size → w'.heap[b]? = w.heap[b]?
theorem Spoilt.of_below {lo hi : Nat} {w w' : World} (h : Below w.heap.size w w') (hl : lo ≤ w.heap.size) : Spoilt lo hi w w' := ⟨h.mono hl, fun b _ hb => h.block b hb⟩
theorem Spoilt.trans {lo hi a b : Nat} {w w1 w2 : World} (h : Spoilt lo hi w w1) (k : Spoilt a b w1 w2) (ha : lo ≤ a) (hb : b ≤ hi) : Spoilt lo hi w w2 :=
  ⟨h.1.trans (k.1.mono ha), fun c h1 h2 => (k.2 c (by omega) (Nat.lt_of_lt_of_le h2 h.1.size)).trans (h.2 c h1 h2)⟩
theorem Spoilt.set {lo hi : Nat} {w w1 : World} (h : Spoilt lo hi w w1) (p : Addr) (u : Value) (h1 : lo ≤ p.block) (h2 : p.block < hi) : Spoilt lo hi w (w1.setCell p u) :=
  ⟨h.1.setCell h1 u, fun c h3 h4 => (Below.heap_setCell w1 p u c (by omega)).trans (h.2 c h3 h4)⟩
def SpoilEnd (lo hi : Nat) (w : World) (e : Ending) (w' : World) : Prop := e = .returned (.tuple #[]) ∧ Spoilt lo hi w w'

set_option maxRecDepth 100000 in
set_option maxHeartbeats 2000000 in
theorem spoil_any : ∀ (j : Jsn) (lo hi : Nat) (w : World) (vn vl : Value), OwnJ w 9 25 j lo hi vn vl → lo ≤ hi → hi ≤ w.heap.size → jbulk j ≤ 1000000000000 →
    Calls Tryz.prog 21 #[.agg #[.int .u8 j.kind, .string j.text, vn, vl]] w (SpoilEnd lo hi w) := by
  refine Jsn.ind fun k s n l ih lo hi w vn vl hO hlh hhi hbk => ?_
  obtain ⟨_, hn, hl, _, hkids⟩ := bulk_parts hbk
  dsimp only at hl hkids hn ⊢
  rw [OwnJ_eq] at hO
  obtain ⟨_, _, gn, gl, cs, A, c, ws, ⟨An, cn, rfl, hnam⟩, rfl, hrow, hwl, hkid, hsort⟩ := hO
  rw [List.length_map] at hwl
  have hkid' : ∀ (i : Nat) x u, l[i]? = some x → ws[i]? = some u → (∀ (q : Nat) (v : Value), (encJ (x, u.1, u.2.1))[q]? = some v → cs[i * 4 + q]? = some v) ∧ lo ≤ u.2.2.1 ∧ u.2.2.1 ≤ u.2.2.2 ∧ u.2.2.2 ≤ hi ∧
      ¬ (u.2.2.1 ≤ gl ∧ gl < u.2.2.2) ∧ ¬ (u.2.2.1 ≤ gn ∧ gn < u.2.2.2) ∧ OwnJ w 9 25 x u.2.2.1 u.2.2.2 u.1 u.2.1 := fun i x u hx hu =>
    hkid i (x, OwnJ w 9 25 x) u (by rw [List.getElem?_map, hx]; rfl) hu
  have hb1 : ∀ x ∈ l, jbulk x ≤ 1000000000000 := fun x hx => by have := hkids x hx; omega
  clear hkid hkids hbk
  replace ih := Lib.hid ih
  replace hb1 := Lib.hid hb1
  replace hkid' := Lib.hid hkid'
  replace hsort := Lib.hid hsort
  replace hnam := Lib.hid hnam
  replace hrow := Lib.hid hrow
  replace hwl := Lib.hid hwl
  go_enter Tryz.func21, Tryz.ntmps21
  go_wp2_with fail
  go_loopw [2] (fun i wr => ∃ q : Nat, q ≤ l.length ∧ i = .int .i64 q ∧ Cel wr w.heap.size 25 #[.int .u8 k, .string s, .slice An n.length cn, .slice A l.length c] ∧ Spoilt lo hi w wr ∧
      (∀ (i : Nat) x u, q ≤ i → l[i]? = some x → ws[i]? = some u → OwnJ wr 9 25 x u.2.2.1 u.2.2.2 u.1 u.2.1) ∧
      (0 < l.length → ∃ cs', Cel wr gl 25 cs' ∧ ∀ i, q * 4 ≤ i → cs'[i]? = cs[i]?) ∧ (gn < w.heap.size → 0 < n.length → wr.heap[gn]? = w.heap[gn]?)) (fun i _ => l.length - (intOf i).toNat)
  case atStart =>
    have hB : Below w.heap.size w (w.alloc (.cells #[.int .u8 k, .string s, .slice An n.length cn, .slice A l.length c] 25)) := (Below.refl _ _).alloc (Nat.le_refl _) _
    refine ⟨0, Nat.zero_le _, rfl, Cel.fresh _ _ _, ?_, fun i x u _ hx hu => ?_, fun hp => ?_, fun hg _ => hB.block gn hg⟩
    · exact Spoilt.of_below hB (by omega)
    · obtain ⟨_, _, _, q4, _, _, q7⟩ := hkid'.out i x u hx hu
      exact OwnJ.keep x q7 (fun b _ h2 => hB.block b (by omega)) (Nat.le_refl _) (Nat.le_refl _)
    · obtain ⟨q1, q2, q3, _, q5⟩ := hrow.out hp
      exact ⟨cs, q5.alloc _, fun _ _ => rfl⟩
  case round =>
    obtain ⟨q, hq, rfl, hC, hS, hK, hR, hN⟩ := hrel
    have hsz := hC.lt
    have x13 : wr.cell? ⟨w.heap.size, 3, none⟩ = some (.slice A l.length c) := hC.cell 3
    by_cases hlt : q < l.length
    · obtain ⟨rfl, hg1, hg2, hgne, _⟩ := hrow.out (by omega)
      obtain ⟨cs', hCg, hcs⟩ := hR (by omega)
      have hxq : l[q]? = some l[q] := List.getElem?_eq_getElem hlt
      have hxm : l[q] ∈ l := List.getElem_mem hlt
      obtain ⟨x, hx⟩ : ∃ x, l[q] = x := ⟨_, rfl⟩
      rw [hx] at hxq hxm
      have hwlt : q < ws.length := by rw [hwl.out]; exact hlt
      have huq : ws[q]? = some ws[q] := List.getElem?_eq_getElem hwlt
      obtain ⟨⟨vx, vy, a, b⟩, hu⟩ : ∃ u, ws[q] = u := ⟨_, rfl⟩
      rw [hu] at huq
      obtain ⟨k1, k2, k3, k4, k5, k6, _⟩ := hkid'.out q x _ hxq huq
      have hOx := hK q x _ (Nat.le_refl _) hxq huq
      dsimp only at k1 k2 k3 k4 k5 k6 hOx
      obtain ⟨Bx, mx, ex, By, my, ey, rfl, rfl⟩ := hOx.forms
      have hws := hS.1.size
      have hcall := ih.out x hxm a b wr _ _ hOx k3 (by omega) (hb1.out x hxm)
      have hce : ∀ (j : Nat) (v : Value), (encJ (x, .slice Bx mx ex, .slice By my ey))[j]? = some v → wr.cell? ⟨gl, q * 4 + j, none⟩ = some v := fun j v hv => by rw [hCg.cell, hcs _ (by omega)]; exact k1 j v hv
      have c0 := hce 0 _ rfl
      have c1 := hce 1 _ rfl
      have c2 := hce 2 _ rfl
      have c3 := hce 3 _ rfl
      rw [Nat.add_zero] at c0
      have hsz4 : q * 4 + 3 < cs'.size := by
        have := (hCg.cell (q * 4 + 3)).symm.trans c3
        exact (Array.getElem?_eq_some_iff.1 this).1
      have hsr := hsort.out
      clear hx hu hce
      replace hcall := Lib.hid hcall
      replace hK := Lib.hid hK
      replace hcs := Lib.hid hcs
      replace hC := Lib.hid hC
      replace hS := Lib.hid hS
      replace hCg := Lib.hid hCg
      replace hN := Lib.hid hN
      replace k1 := Lib.hid k1
      replace hOx := Lib.hid hOx
      replace hsr := Lib.hid hsr
      replace hxq := Lib.hid hxq
      replace huq := Lib.hid huq
      go_wp2_with fail
      refine hcall.out.mono ?_
      rintro e w2 ⟨rfl, hS2⟩
      have hblk : ∀ d, d < wr.heap.size → (d < a ∨ b ≤ d) → w2.heap[d]? = wr.heap[d]? := fun d h1 h2 => by
        rcases h2 with h2 | h2
        · exact hS2.1.block d h2
        · exact hS2.2 d h2 h1
      have hC2 : Cel w2 w.heap.size 25 _ := (hblk _ hsz (Or.inr (by omega))).trans hC.out
      have hCg2 : Cel w2 gl 25 cs' := (hblk _ hCg.out.lt (by omega)).trans hCg.out
      have hK2 : ∀ (i : Nat) x u, q + 1 ≤ i → l[i]? = some x → ws[i]? = some u → OwnJ w2 9 25 x u.2.2.1 u.2.2.2 u.1 u.2.1 := fun i x u h1 h2 h3 => by
        obtain ⟨_, _, _, r4, _⟩ := hkid'.out i x u h2 h3
        have h5 := hsr.out q i _ u (by omega) huq.out h3
        exact OwnJ.keep x (hK.out i x u (by omega) h2 h3) (fun d h6 h7 => hblk d (by omega) (Or.inr (by dsimp only at h5; omega))) (Nat.le_refl _) (Nat.le_refl _)
      have hN2 : gn < w.heap.size → 0 < n.length → w2.heap[gn]? = w.heap[gn]? := fun h1 h2 => (hblk gn (by omega) (by omega)).trans (hN.out h1 h2)
      have hS3 : Spoilt lo hi w w2 := hS.out.trans hS2 k2 k4
      have hnx : ∀ (v0 v1 v2 v3 : Value), Cel ((((w2.setCell ⟨gl, q * 4, none⟩ v0).setCell ⟨gl, q * 4 + 1, none⟩ v1).setCell ⟨gl, q * 4 + 2, none⟩ v2).setCell ⟨gl, q * 4 + 3, none⟩ v3) w.heap.size 25 #[.int .u8 k, .string s, .slice An n.length cn, .slice (some ⟨gl, 0, none⟩) l.length c] ∧
          Spoilt lo hi w ((((w2.setCell ⟨gl, q * 4, none⟩ v0).setCell ⟨gl, q * 4 + 1, none⟩ v1).setCell ⟨gl, q * 4 + 2, none⟩ v2).setCell ⟨gl, q * 4 + 3, none⟩ v3) ∧
          (∀ (i : Nat) x u, q + 1 ≤ i → l[i]? = some x → ws[i]? = some u → OwnJ ((((w2.setCell ⟨gl, q * 4, none⟩ v0).setCell ⟨gl, q * 4 + 1, none⟩ v1).setCell ⟨gl, q * 4 + 2, none⟩ v2).setCell ⟨gl, q * 4 + 3, none⟩ v3) 9 25 x u.2.2.1 u.2.2.2 u.1 u.2.1) ∧
          (0 < l.length → ∃ cs', Cel ((((w2.setCell ⟨gl, q * 4, none⟩ v0).setCell ⟨gl, q * 4 + 1, none⟩ v1).setCell ⟨gl, q * 4 + 2, none⟩ v2).setCell ⟨gl, q * 4 + 3, none⟩ v3) gl 25 cs' ∧ ∀ i, (q + 1) * 4 ≤ i → cs'[i]? = cs[i]?) ∧
          (gn < w.heap.size → 0 < n.length → ((((w2.setCell ⟨gl, q * 4, none⟩ v0).setCell ⟨gl, q * 4 + 1, none⟩ v1).setCell ⟨gl, q * 4 + 2, none⟩ v2).setCell ⟨gl, q * 4 + 3, none⟩ v3).heap[gn]? = w.heap[gn]?) := by
        intro v0 v1 v2 v3
        have hfr : ∀ d, d ≠ gl → ((((w2.setCell ⟨gl, q * 4, none⟩ v0).setCell ⟨gl, q * 4 + 1, none⟩ v1).setCell ⟨gl, q * 4 + 2, none⟩ v2).setCell ⟨gl, q * 4 + 3, none⟩ v3).heap[d]? = w2.heap[d]? := fun d hd => by
          rw [Below.heap_setCell _ _ _ _ hd, Below.heap_setCell _ _ _ _ hd, Below.heap_setCell _ _ _ _ hd, Below.heap_setCell _ _ _ _ hd]
        refine ⟨(hfr _ (by omega)).trans hC2, (((hS3.set _ _ hg1 hg2).set _ _ hg1 hg2).set _ _ hg1 hg2).set _ _ hg1 hg2, fun i x u h1 h2 h3 => ?_, fun _ => ⟨_, (((hCg2.set _ v0).set _ v1).set _ v2).set _ v3, fun i hi => ?_⟩, fun h1 h2 => (hfr gn (Ne.symm hgne)).trans (hN2 h1 h2)⟩
        · obtain ⟨_, _, _, _, r5, _⟩ := hkid'.out i x u h2 h3
          exact OwnJ.keep x (hK2 i x u h1 h2 h3) (fun d h6 h7 => hfr d (fun e => r5 (by subst e; exact ⟨h6, h7⟩))) (Nat.le_refl _) (Nat.le_refl _)
        · rw [Array.getElem?_setIfInBounds_ne (by omega), Array.getElem?_setIfInBounds_ne (by omega), Array.getElem?_setIfInBounds_ne (by omega), Array.getElem?_setIfInBounds_ne (by omega)]
          exact hcs.out i (by omega)
      have d0 := (hCg2.cell (q * 4)).trans ((hCg.out.cell (q * 4)).symm.trans c0)
      have d1 := (hCg2.cell (q * 4 + 1)).trans ((hCg.out.cell (q * 4 + 1)).symm.trans c1)
      have d2 := (hCg2.cell (q * 4 + 2)).trans ((hCg.out.cell (q * 4 + 2)).symm.trans c2)
      have d3 := (hCg2.cell (q * 4 + 3)).trans ((hCg.out.cell (q * 4 + 3)).symm.trans c3)
      have f0 := hCg2.froz (q * 4)
      have f1 := hCg2.froz (q * 4 + 1)
      have f2 := hCg2.froz (q * 4 + 2)
      have f3 := hCg2.froz (q * 4 + 3)
      have y13 : w2.cell? ⟨w.heap.size, 3, none⟩ = some (.slice (some ⟨gl, 0, none⟩) l.length c) := hC2.cell 3
      clear hcall hK hcs hC hS hCg hN k1 hOx hsr hxq huq hS2 hblk hC2 hCg2 hK2 hN2 hS3 c0 c1 c2 c3 x13 ih hkid' hsort hnam hrow hb1
      replace hnx := Lib.hid hnx
      go_wp2_with fail
      go_roundw
      case rel => exact ⟨q + 1, by omega, by go_num, (hnx.out _ _ _ _).1, (hnx.out _ _ _ _).2.1, (hnx.out _ _ _ _).2.2.1, (hnx.out _ _ _ _).2.2.2.1, (hnx.out _ _ _ _).2.2.2.2⟩
      case measure => simp [intOf]; omega
    · clear hK hR ih hkid' hsort hb1 hrow hwl
      replace hC := Lib.hid hC
      replace hS := Lib.hid hS
      replace hN := Lib.hid hN
      go_wp2_with fail
      clear x13
      obtain ⟨w0, rfl⟩ : ∃ w0 : World, w0 = wr := ⟨_, rfl⟩
      have hst : 0 < n.length → ∃ cs', Cel w0 gn 9 cs' ∧ n.length ≤ cs'.size := fun hp => by
        obtain ⟨_, _, g2, cc, g3, g4⟩ := hnam.out hp
        refine ⟨cc, (hN.out (by omega) hp).trans g3, ?_⟩
        have := (Array.getElem?_eq_some_iff.1 (g4 (n.length - 1) _ (List.getElem?_eq_getElem (by omega)))).1
        omega
      replace hst := Lib.hid hst
      clear hN
      go_loopw [3] (fun i wr => ∃ q : Nat, q ≤ n.length ∧ i = .int .i64 q ∧ Cel wr w.heap.size 25 #[.int .u8 k, .string s, .slice An n.length cn, .slice A l.length c] ∧ Spoilt lo hi w wr ∧ (0 < n.length → ∃ cs', Cel wr gn 9 cs' ∧ n.length ≤ cs'.size)) (fun i _ => n.length - (intOf i).toNat)
      case atStart => exact ⟨0, Nat.zero_le _, rfl, hC.out, hS.out, hst.out⟩
      case round =>
        obtain ⟨q, hq, rfl, hC, hS, hR⟩ := hrel
        have x12 : wr.cell? ⟨w.heap.size, 2, none⟩ = some (.slice An n.length cn) := hC.cell 2
        have hsz := hC.lt
        by_cases hlt2 : q < n.length
        · obtain ⟨rfl, hg1, hg2, _⟩ := hnam.out (by omega)
          obtain ⟨cs', hCg, hcs⟩ := hR (by omega)
          obtain ⟨y, hy⟩ : ∃ y, cs'[q]? = some y := ⟨_, Array.getElem?_eq_getElem (by omega)⟩
          have d0 : wr.cell? ⟨gn, q, none⟩ = some y := (hCg.cell q).trans hy
          have f0 := hCg.froz q
          have hnx : ∀ v, Cel (wr.setCell ⟨gn, q, none⟩ v) w.heap.size 25 #[.int .u8 k, .string s, .slice (some ⟨gn, 0, none⟩) n.length cn, .slice A l.length c] ∧ Spoilt lo hi w (wr.setCell ⟨gn, q, none⟩ v) ∧ (0 < n.length → ∃ cs', Cel (wr.setCell ⟨gn, q, none⟩ v) gn 9 cs' ∧ n.length ≤ cs'.size) := fun v =>
            ⟨hC.away (p := ⟨gn, q, none⟩) (by show w.heap.size ≠ gn; omega) v, hS.set _ _ hg1 hg2, fun _ => ⟨_, hCg.set q v, by rw [Array.size_setIfInBounds]; exact hcs⟩⟩
          clear hC hS hR hCg hy hst
          replace hnx := Lib.hid hnx
          go_wp2_with fail
          go_roundw
          case rel => exact ⟨q + 1, by omega, by go_num, (hnx.out _).1, (hnx.out _).2.1, (hnx.out _).2.2⟩
          case measure => simp [intOf]; omega
        · clear hR hC hst
          replace hS := Lib.hid hS
          go_wp2_with fail
          go_end0
          exact ⟨rfl, hS.out⟩
end Go.Proofs.YtlnkjacbdolhnaaGreatDoor


/-
  The walks of slices.Index over strings, and of json.Get.
-/
namespace Go.Proofs.YtlnkjacbdolhnaaGreatDoor
open Go.RowKit

def findI (L : List ByteArray) (x : ByteArray) : Int := match jfind L x with | none => -1 | some i => (i : Int)
theorem idxFromS_find (x : ByteArray) : ∀ (L : List ByteArray) (i : Nat), Go.Lib.idxFromS L x i = match jfind L x with | none => -1 | some k => ((i + k : Nat) : Int)
  | [], i => by simp [Go.Lib.idxFromS, jfind]
  | z :: L, i => by
    have ih := idxFromS_find x L (i + 1)
    unfold jfind at ih ⊢
    by_cases h : z = x
    · simp [Go.Lib.idxFromS, List.findIdx?_cons, h]
    · simp only [Go.Lib.idxFromS, List.findIdx?_cons, h, if_false, decide_false]
      rw [ih]
      rcases L.findIdx? (fun b => decide (b = x)) with _ | k
      · rfl
      · simp only [Option.map_some]
        show ((i + 1 + k : Nat) : Int) = ((i + (k + 1) : Nat) : Int)
        omega
theorem idxOfS_find (L : List ByteArray) (x : ByteArray) : Go.Lib.idxOfS L x = findI L x := by
  unfold Go.Lib.idxOfS findI
  rw [idxFromS_find]
  rcases jfind L x with _ | k
  · rfl
  · simp
theorem indexStr_any (X : Nat → Prop) (v : Value) (L : List ByteArray) (x : ByteArray) (w : World) (hv : StrL w X v L) (hl : L.length ≤ 1000000000000) :
    Calls Tryz.prog 40 #[v, .string x] w fun e w' => e = .returned (.int .i64 (findI L x)) ∧ w = w' := by
  obtain ⟨A, c, rfl, h1⟩ := hv
  by_cases h0 : L.length = 0
  · have e1 : L = [] := List.eq_nil_of_length_eq_zero h0
    subst e1
    refine (Tryz.slices_Index_string_empty A c x w).mono ?_
    rintro e w' ⟨rfl, rfl⟩
    exact ⟨by rw [idxOfS_find], rfl⟩
  · obtain ⟨g, o, rfl, _, _, q1⟩ := h1 (by omega)
    refine (Tryz.slices_Index_string g o L.length c L x w (Nat.le_refl _) (by omega) (fun j hj => by rw [q1 j _ (List.getElem?_eq_getElem hj)]; simp [List.getD, hj])).mono ?_
    rintro e w' ⟨rfl, rfl⟩
    rw [List.take_of_length_le (Nat.le_refl _)]
    exact ⟨by rw [idxOfS_find], rfl⟩
theorem findI_bd (L : List ByteArray) (x : ByteArray) : -1 ≤ findI L x ∧ findI L x < L.length ∨ findI L x = -1 := by
  unfold findI
  rcases h : jfind L x with _ | k
  · exact Or.inr rfl
  · left
    have := (List.findIdx?_eq_some_iff_findIdx_eq.1 h).1
    constructor
    · simp only; omega
    · simp only; omega

def zeroJ : Jsn := ⟨0, ⟨#[]⟩, [], []⟩
/-- How a call ends that hands a value of its own, and whether there is one. -/
def GetJEnd (r : Option Jsn) (w : World) (e : Ending) (w' : World) : Prop := ∃ vn vl, e = .returned (.tuple #[.agg #[.int .u8 (r.getD zeroJ).kind, .string (r.getD zeroJ).text, vn, vl], .bool r.isSome]) ∧ OwnJ w' 9 25 (r.getD zeroJ) w.heap.size w'.heap.size vn vl ∧ Below w.heap.size w w'
theorem zero_own (w : World) (tS tJ : TypeId) (lo hi : Nat) : OwnJ w tS tJ zeroJ lo hi (.slice none 0 0) (.slice none 0 0) := by
  unfold zeroJ
  rw [OwnJ_eq]
  exact ⟨by omega, by omega, 0, 0, #[], none, 0, [], ⟨none, 0, rfl, fun h => by simp at h⟩, rfl, (fun h => by simp at h), rfl, (fun i x u h => by simp at h), (fun i j u v _ h => by simp at h)⟩

set_option maxRecDepth 100000 in
set_option maxHeartbeats 2000000 in
theorem jsnGet_any (j : Jsn) (X : Nat → Prop) (w : World) (vn vl : Value) (x : ByteArray) (hV : JV w X j vn vl) (hbk : jbulk j ≤ 1000000000000) :
    Calls Tryz.prog 20 #[.agg #[.int .u8 j.kind, .string j.text, vn, vl], .string x] w (GetJEnd (jget j x) w) := by
  obtain ⟨k, s, n, l⟩ := j
  obtain ⟨_, hn, hl, _, hkids⟩ := bulk_parts hbk
  dsimp only at hl hkids hn
  have hnam := hV.names
  obtain ⟨An, cn, rfl⟩ := hnam.len
  obtain ⟨A, c, zs, rfl, hz, h2, h3⟩ := hV.elems
  dsimp only at hnam ⊢
  have hlen : zs.length = l.length := by rw [← hz, List.length_map]
  rw [← hlen] at hl
  have hB0 : Below w.heap.size w ((w.alloc (.cells #[.int .u8 k, .string s, .slice An n.length cn, .slice A zs.length c] 25)).alloc (.cells #[.int .u8 0, .string ⟨#[]⟩, .slice none 0 0, .slice none 0 0] 25)) := ((Below.refl _ _).alloc (Nat.le_refl _) _).alloc (by simp) _
  have hix := indexStr_any X _ n x _ (hnam.later hB0) hn
  obtain ⟨I, hI⟩ : ∃ I, findI n x = I := ⟨_, rfl⟩
  have hbd := findI_bd n x
  rw [hI] at hix hbd
  obtain ⟨r, hr⟩ : ∃ r, jget ⟨k, s, n, l⟩ x = r := ⟨_, rfl⟩
  rw [hr]
  by_cases hyes : k = 7 ∧ 0 ≤ I ∧ I < zs.length
  · obtain ⟨rfl, hI0, hI1⟩ := hyes
    obtain ⟨i, rfl⟩ : ∃ i : Nat, I = (i : Int) := ⟨I.toNat, by omega⟩
    have hlt : i < zs.length := by omega
    obtain ⟨g, o, ⟨y, vx, vy⟩, hzq, hzm, rfl, hVz, a0, a1, a2, a3⟩ := JV.at h2 h3 hB0 hlt
    dsimp only at hVz a0 a1 a2 a3
    have hym : y ∈ l := by rw [← hz]; exact List.mem_map_of_mem (f := (·.1)) hzm
    have hrv : r = some y := by
      rw [← hr]
      unfold jget
      rw [if_pos rfl]
      unfold findI at hI
      rcases hj : jfind n x with _ | kk
      · rw [hj] at hI; simp only at hI; omega
      · rw [hj] at hI
        simp only at hI ⊢
        have : kk = i := by omega
        subst this
        show l[kk]? = some y
        rw [← hz, List.getElem?_map, hzq]; rfl
    subst hrv
    obtain ⟨Ax, nx, cx, Ay, ny, cy, rfl, rfl⟩ := hVz.forms
    have hcall := jsnOwn_any y X _ _ _ hVz (by have := hkids y hym; omega)
    clear hV h2 h3 hkids hbk hlen hI hr hnam hzq hzm hVz hz
    replace hix := Lib.hid hix
    replace hcall := Lib.hid hcall
    replace hB0 := Lib.hid hB0
    have hi0 : (0 : Int) ≤ (i : Int) := by omega
    have hi1 : (i : Int) < (zs.length : Int) := by omega
    go_enter Tryz.func20, Tryz.ntmps20
    go_wp2_with fail
    refine hix.out.mono ?_
    rintro e w1 ⟨rfl, rfl⟩
    clear hix
    go_wp2_with fail
    refine hcall.out.mono ?_
    rintro e w2 ⟨vN, vL, rfl, hO, hB2⟩
    obtain ⟨A3, n3, c3, A4, n4, c4, rfl, rfl⟩ := hO.forms
    have hC2 : Cel ((w.alloc (.cells #[.int .u8 7, .string s, .slice An n.length cn, .slice (some ⟨g, o, none⟩) zs.length c] 25)).alloc (.cells #[.int .u8 0, .string ⟨#[]⟩, .slice none 0 0, .slice none 0 0] 25)) (w.heap.size + 1) 25 #[.int .u8 0, .string ⟨#[]⟩, .slice none 0 0, .slice none 0 0] := by
      have := Cel.fresh (w.alloc (.cells #[.int .u8 7, .string s, .slice An n.length cn, .slice (some ⟨g, o, none⟩) zs.length c] 25)) 25 #[.int .u8 0, .string ⟨#[]⟩, .slice none 0 0, .slice none 0 0]
      simpa using this
    have hD2 := hC2.below hB2 hC2.lt
    have hB3 := hB0.out.trans (hB2.mono (by simp; omega))
    have hs3 := hB2.size
    simp at hs3
    have r0 := hD2.cell 0
    have r1 := hD2.cell 1
    have r2 := hD2.cell 2
    have r3 := hD2.cell 3
    have s0 := hD2.froz 0
    have s1 := hD2.froz 1
    have s2 := hD2.froz 2
    have s3 := hD2.froz 3
    simp only [List.getElem?_toArray, List.getElem?_cons_zero, List.getElem?_cons_succ] at r0 r1 r2 r3
    clear hcall hB2 hB0 hC2 hD2 a0 a1 a2 a3
    replace hO := Lib.hid hO
    replace hB3 := Lib.hid hB3
    go_wp2_with fail
    refine bodyPost_ret (v := .tuple #[.agg #[.int .u8 y.kind, .string y.text, .slice A3 n3 c3, .slice A4 n4 c4], .bool true]) (by simp [results, Tryz.results20, go_sem, r0, r1, r2, r3]) rfl ⟨_, _, rfl, ?_, ?_⟩
    · refine OwnJ.keep _ hO.out (fun b h1 _ => ?_) (by simp; omega) (by simp [World.setCell])
      simp at h1
      rw [Below.heap_setCell _ _ _ _ (by simp; omega), Below.heap_setCell _ _ _ _ (by simp; omega), Below.heap_setCell _ _ _ _ (by simp; omega), Below.heap_setCell _ _ _ _ (by simp; omega)]
    · exact (((hB3.out.setCell (by simp) _).setCell (by simp) _).setCell (by simp) _).setCell (by simp) _
  · have hrv : r = none := by
      rw [← hr]
      unfold jget
      by_cases hk : k = 7
      · rw [if_pos hk]
        unfold findI at hI
        show (match jfind n x with | none => none | some i => l[i]?) = none
        rcases hj : jfind n x with _ | kk
        · rfl
        · rw [hj] at hI
          simp only at hI ⊢
          exact List.getElem?_eq_none (by omega)
      · rw [if_neg hk]
    subst hrv
    clear hV h2 h3 hkids hbk hI hr hz hnam
    replace hix := Lib.hid hix
    replace hB0 := Lib.hid hB0
    clear hlen
    by_cases hk : k = 7
    · subst hk
      by_cases hI0 : I < 0
      · clear hyes hB0
        go_enter Tryz.func20, Tryz.ntmps20
        go_wp2_with fail
        refine hix.out.mono ?_
        rintro e w1 ⟨rfl, rfl⟩
        clear hix
        go_wp2_with fail
        exact bodyPost_ret (v := .tuple #[.agg #[.int .u8 0, .string ⟨#[]⟩, .slice none 0 0, .slice none 0 0], .bool false]) (by simp [results, Tryz.results20, go_sem]) rfl ⟨_, _, rfl, zero_own _ _ _ _ _, ((Below.refl _ _).alloc (Nat.le_refl _) _).alloc (by simp) _⟩
      · have hI1 : (zs.length : Int) ≤ I := by
          rcases Int.lt_or_le I (zs.length : Int) with h | h
          · exact absurd ⟨rfl, by omega, h⟩ hyes
          · exact h
        clear hyes hB0
        go_enter Tryz.func20, Tryz.ntmps20
        go_wp2_with fail
        refine hix.out.mono ?_
        rintro e w1 ⟨rfl, rfl⟩
        clear hix
        go_wp2_with fail
        exact bodyPost_ret (v := .tuple #[.agg #[.int .u8 0, .string ⟨#[]⟩, .slice none 0 0, .slice none 0 0], .bool false]) (by simp [results, Tryz.results20, go_sem]) rfl ⟨_, _, rfl, zero_own _ _ _ _ _, ((Below.refl _ _).alloc (Nat.le_refl _) _).alloc (by simp) _⟩
    · have hk1 : (k == 7) = false := beq_eq_false_iff_ne.2 hk
      have hk2 : (k != 7) = true := by simp [hk]
      · clear hyes hB0
        go_enter Tryz.func20, Tryz.ntmps20
        go_wp2_with fail
        refine hix.out.mono ?_
        rintro e w1 ⟨rfl, rfl⟩
        clear hix
        go_wp2_with fail
        exact bodyPost_ret (v := .tuple #[.agg #[.int .u8 0, .string ⟨#[]⟩, .slice none 0 0, .slice none 0 0], .bool false]) (by simp [results, Tryz.results20, go_sem]) rfl ⟨_, _, rfl, zero_own _ _ _ _ _, ((Below.refl _ _).alloc (Nat.le_refl _) _).alloc (by simp) _⟩
end Go.Proofs.YtlnkjacbdolhnaaGreatDoor
