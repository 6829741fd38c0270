/-
  The walk of (*rostrumref06.Reader).Feed.
-/
import Derived.Test.YtccfdecpiekeoaaGreatDoorFraN
import Derived.Test.YtccfdecpiekeoaaGreatDoorFraD
namespace Go.Proofs.YtccfdecpiekeoaaGreatDoor
open Go.RowKit

/-- A slice that reads as these events; it lies in a block from B on. -/
def EvN (w : World) (B : Nat) (A : Option Addr) (evs : List Evt) : Prop :=
  0 < evs.length → ∃ g o, A = some ⟨g, o, none⟩ ∧ B ≤ g ∧ g < w.heap.size ∧ ∀ j u, (evCells evs)[j]? = some u → w.cell? ⟨g, o + j, none⟩ = some u
theorem evn_own_cap {w : World} {B t : Nat} {v : Value} {evs : List Evt} (h : w.ownsRow B t 2 v evs.length (evCells evs)) : ∃ A c, v = .slice A evs.length c ∧ EvN w B A evs ∧ evs.length ≤ c := by
  rcases h.2 with ⟨rfl, h0⟩ | ⟨g, cap, cur, rfl, hgB, hh, hnc, _⟩
  · exact ⟨none, 0, by rw [h0], fun hp => by omega, by omega⟩
  · refine ⟨_, cap, rfl, fun _ => ⟨g, 0, rfl, hgB, (Array.getElem?_eq_some_iff.1 hh).1, fun j u hu => ?_⟩, hnc⟩
    have hadd : (⟨g, 0, none⟩ : Addr).add j = ⟨g, j, none⟩ := by unfold Addr.add; split <;> simp_all
    have := h.cells (g := g) rfl j u hu
    rw [hadd] at this
    rw [Nat.zero_add]
    exact this
theorem EvN.drop {w : World} {B : Nat} {A : Option Addr} {c : Nat} {evs : List Evt} (h : EvN w B A evs) (hc : evs.length ≤ c) (k : Nat) : EvN w B (if c = k then A else A.map (·.add (k * 2))) (evs.drop k) := by
  intro hp
  rw [List.length_drop] at hp
  rw [if_neg (by omega)]
  obtain ⟨g, o, rfl, q1, q2, q3⟩ := h (by omega)
  have hadd : (⟨g, o, none⟩ : Addr).add (k * 2) = ⟨g, o + k * 2, none⟩ := by unfold Addr.add; split <;> simp_all
  refine ⟨g, o + k * 2, by simp [hadd], q1, q2, fun j u hu => ?_⟩
  rw [evCells_drop, List.getElem?_drop] at hu
  have := q3 _ u hu
  rwa [← Nat.add_assoc] at this
/-- How the document's Feed ends. -/
def RefFeedEnd (b : Nat) (S : ByteArray) (n : Nat) (tl : List Evt) (w : World) (e : Ending) (w' : World) : Prop :=
  ∃ A c, e = .returned (.slice A tl.length c) ∧ EvN w' w.heap.size A tl ∧ Cel w' b 49 #[.string S, .int .i64 n] ∧ w.grownBy w' (some b)

set_option maxRecDepth 100000 in
set_option maxHeartbeats 4000000 in
theorem refFeed_any (b : Nat) (al : ByteArray) (n : Nat) (C : Option Addr) (c2 : Nat) (l : List UInt8) (Y : Nat → Prop) (E : List Evt) (w : World) (hC : Cel w b 49 #[.string al, .int .i64 n]) (hL : Byt w C c2 l Y) (hs : al.size + l.length ≤ 1000000)
    (hE : (runF (al ++ ⟨l.toArray⟩).data.toList false).evs = E) (hn : n ≤ E.length) (hel : E.length ≤ 1000000) :
    Calls Tryz.prog 20 #[.pointer (some ⟨b, 0, none⟩), .slice C l.length c2] w (RefFeedEnd b (al ++ ⟨l.toArray⟩) E.length (E.drop n) w) := by
  obtain ⟨x0, x1, f0, f1⟩ := hC.two
  have hbl := hC.lt
  obtain ⟨S, hS⟩ : ∃ S, al ++ (⟨l.toArray⟩ : ByteArray) = S := ⟨_, rfl⟩
  have hcv := conv_str hL.drew
  have hcv0 := conv_str hL
  obtain ⟨sb, hsb⟩ : ∃ sb : ByteArray, (⟨l.toArray⟩ : ByteArray) = sb := ⟨_, rfl⟩
  have hsz : sb.size = l.length := by rw [← hsb]; rfl
  rw [hsb] at hS hE hcv hcv0 ⊢
  have hadd := add_ok al sb (by omega)
  rw [hS] at hE hadd ⊢
  have hSs : S.size ≤ 1000000 := by rw [← hS, ByteArray.size_append]; omega
  clear hS hsb hL
  replace hE := Lib.hid hE
  have hC0 := Lib.hid hC
  clear hC
  go_enter Tryz.func20, Tryz.ntmps20
  go_upto_region 1 with (fail)
  refine wp_cut (fun a' wc => ∃ (u : Nat → Value), a' = ⟨#[.pointer (some ⟨b, 0, none⟩), .slice C l.length c2, u 2, u 3, .slice none 0 0, u 5, u 6, u 7, u 8, u 9, u 10, u 11, u 12, u 13, u 14, u 15, u 16, u 17, u 18, u 19, u 20, u 21, u 22, u 23, u 24, u 25, u 26, u 27, u 28, u 29, u 30, u 31, u 32, u 33], []⟩ ∧ (w.drew.setCell ⟨b, 0, none⟩ (.string S) = wc)) ?rest ?first
  case first =>
    intro J K' hJ hK'
    go_region_law (fail)
    all_goals
      go_wp2
      refine Met.intro (hJ _ _ ?_)
      exact meetF (by kernel_rfl) rfl
  case rest =>
    rintro a' wc ⟨u, rfl, hwc⟩
    have hC1 : Cel wc b 49 #[.string S, .int .i64 n] := by subst hwc; exact (hC0.out.drew).set 0 _
    have hg1 : w.grownBy wc (some b) := by subst hwc; exact grown_trans' (grown_of_below (bel_drawn w 1) _) (grown_set1 hbl)
    have hs1 : wc.heap.size = w.heap.size := by subst hwc; simp [World.setCell]
    clear x0 x1 f0 f1 hcv hcv0 hadd hwc hC0
    obtain ⟨x0, x1, f0, f1⟩ := hC1.two
    have hct := refCut_any S wc (by omega)
    rw [hE.out] at hct
    replace hct := Lib.hid hct
    replace hC1 := Lib.hid hC1
    replace hg1 := Lib.hid hg1
    go_wp2_with fail
    refine hct.out.mono ?_
    rintro e w2 ⟨v, rfl, hown, hB⟩
    have hC2 := hC1.out.below hB (by omega)
    obtain ⟨y0, y1, e0, e1⟩ := hC2.two
    have hg2 : w.grownBy (w2.setCell ⟨b, 1, none⟩ (.int .i64 E.length)) (some b) := grown_trans' (grown_trans' hg1.out (grown_of_below hB _)) (grown_set1 hC2.lt)
    have hC3 := hC2.set 1 (.int .i64 E.length)
    have hown3 : (w2.setCell ⟨b, 1, none⟩ (.int .i64 E.length)).ownsRow wc.heap.size 51 2 v E.length (evCells E) := hown.kept (grown_set1 (i := 1) (x := .int .i64 E.length) hC2.lt) (Or.inr (fun e => by have := (hown.lt _ e).1; omega))
    rw [hs1] at hown3
    obtain ⟨A, c, rfl, hev, hcap⟩ := evn_own_cap hown3
    have hd := hev.drop hcap n
    have hsl := fun W => slice_runE A E.length c n hn W
    obtain ⟨A', hA'⟩ : ∃ A', (if c = n then A else A.map (·.add (n * 2))) = A' := ⟨_, rfl⟩
    rw [hA'] at hd hsl
    clear hA' hev hcap hown3 hown hB hC2 hct hC1 hg1 x0 x1 f0 f1 hE
    have hdl : (E.drop n).length = E.length - n := List.length_drop
    replace hd := Lib.hid hd
    replace hsl := Lib.hid hsl
    replace hg2 := Lib.hid hg2
    replace hC3 := Lib.hid hC3
    replace hdl := Lib.hid hdl
    go_wp2_with (refine wpList_cut rfl 34 _ _ rfl (.slice A E.length c) (.int .i64 n) _ rfl rfl (hsl.out _) ?_)
    go_ret
    exact ⟨A', c - n, by rw [hdl.out]; rfl, hd.out, hC3.out, hg2.out⟩
end Go.Proofs.YtccfdecpiekeoaaGreatDoor
