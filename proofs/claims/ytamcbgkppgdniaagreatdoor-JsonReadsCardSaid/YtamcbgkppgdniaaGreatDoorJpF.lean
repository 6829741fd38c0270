/-
  The walk of the JSON reader's number.
-/
import Derived.Test.YtamcbgkppgdniaaGreatDoorJpE
import Derived.Deep.RegionHeld3
namespace Go.Proofs.YtamcbgkppgdniaaGreatDoor
open Go.RowKit

def numB : ByteArray := ⟨#[48, 49, 50, 51, 52, 53, 54, 55, 56, 57, 43, 45, 46, 101, 69]⟩
theorem trim_num (s : List UInt8) : Lib.trimLeftS s numB.data.toList = s.dropWhile jnumc := by
  unfold Lib.trimLeftS
  congr 1
  funext c
  have key : ∀ n : Fin 256, numB.data.toList.contains (UInt8.ofNat n.val) = jnumc (UInt8.ofNat n.val) := by decide +kernel
  have := key ⟨c.toNat, c.toNat_lt⟩
  rw [UInt8.ofNat_toNat] at this
  exact this
theorem num_split (s : List UInt8) : s.take (s.takeWhile jnumc).length = s.takeWhile jnumc ∧ s.drop (s.takeWhile jnumc).length = s.dropWhile jnumc := by
  have h := List.takeWhile_append_dropWhile (p := jnumc) (l := s)
  constructor
  · conv => lhs; arg 2; rw [← h]
    rw [List.take_append_of_le_length (Nat.le_refl _), List.take_length]
  · conv => lhs; arg 2; rw [← h]
    rw [List.drop_append_of_le_length (Nat.le_refl _), List.drop_length, List.nil_append]
def NumEnd (b it : Nat) (w : World) (s : List UInt8) (r : List UInt8 × Int) (e : Ending) (w' : World) : Prop := But w.heap.size b w w' ∧ (if r.2 = 0 then e = .returned (.agg #[.int .u8 4, .string (ofL r.1), .slice none 0 0, .slice none 0 0]) ∧ RJ w' b s it else e = Pan r.2)
set_option maxRecDepth 100000 in
set_option maxHeartbeats 4000000 in
theorem jrNumber_any (b : Nat) (s : List UInt8) (it : Nat) (w : World) (hE : EnvB b w) (h : RJ w b s it) (hs : s.length ≤ 1000000) :
    Calls Tryz.prog 139 #[.pointer (some ⟨b, 0, none⟩)] w (NumEnd b it w (s.dropWhile jnumc) (ownL (s.takeWhile jnumc))) := by
  have hlt := h.lt
  have hT := fun (W : World) => Tryz.strings_TrimLeft_set (ofL s) numB W (by decide) (by
    intro j c hj
    have key : ∀ c ∈ numB.data.toList, c.toNat < 128 := by decide
    exact key c (List.mem_of_getElem? hj))
  rw [toList_ofL, trim_num] at hT
  obtain ⟨s1, s2⟩ := num_split s
  have hlen : (s.takeWhile jnumc).length + (s.dropWhile jnumc).length = s.length := by rw [← List.length_append, List.takeWhile_append_dropWhile]
  have hx1 := jxt_take s (s.takeWhile jnumc).length
  have hx2 := jxt_drop s (s.takeWhile jnumc).length
  rw [s1] at hx1
  rw [s2] at hx2
  have hO := fun (W : World) (hE : Env W) => decOwn_any (ofL (s.takeWhile jnumc)) W hE (by rw [size_ofL]; omega)
  rw [toList_ofL] at hO
  obtain ⟨Ro, hRo⟩ : ∃ Ro, ownL (s.takeWhile jnumc) = Ro := ⟨_, rfl⟩
  rw [hRo] at hO ⊢
  obtain ⟨T, hTT⟩ : ∃ T, s.takeWhile jnumc = T := ⟨_, rfl⟩
  obtain ⟨D, hD⟩ : ∃ D, s.dropWhile jnumc = D := ⟨_, rfl⟩
  rw [hTT] at hlen hx1 hx2 hO
  rw [hD] at hlen hx2 hT ⊢
  obtain ⟨n, hn⟩ : ∃ n, T.length = n := ⟨_, rfl⟩
  rw [hn] at hlen hx1 hx2
  have hzs := size_ofL s
  have hzd := size_ofL D
  obtain ⟨S, hS⟩ : ∃ S, ofL s = S := ⟨_, rfl⟩
  obtain ⟨ST, hST⟩ : ∃ ST, ofL T = ST := ⟨_, rfl⟩
  obtain ⟨SD, hSD⟩ : ∃ SD, ofL D = SD := ⟨_, rfl⟩
  have hTD : ∀ W, Calls Tryz.prog 131 #[.string S, .string numB] W fun e w' => e = .returned (.string SD) ∧ Below W.heap.size W w' := fun W => by
    have := hT W
    rw [hS] at this
    rw [← hSD]
    exact this
  rw [hS] at hx1 hx2 hzs
  rw [hST] at hx1 hO
  rw [hSD] at hx2 hzd
  have hsub : (S.size : Int) - (SD.size : Int) = (n : Int) := by omega
  have hn0 : (0 : Int) ≤ (n : Int) := by omega
  have hn1 : (n : Int) ≤ 1000000 := by omega
  have hn2 : (n : Int) ≤ (S.size : Int) := by omega
  have p0 : w.cell? ⟨b, 0, none⟩ = some (.string S) := by rw [← hS]; exact Cel.cell h 0
  obtain ⟨w0, hw0⟩ : ∃ w0, w.alloc (.cells #[.int .u8 0, .string ⟨#[]⟩, .slice none 0 0, .slice none 0 0] 25) = w0 := ⟨_, rfl⟩
  have hB0 : Below w.heap.size w w0 := by rw [← hw0]; exact (Below.refl _ _).alloc (Nat.le_refl _) _
  have hC0 : Cel w0 w.heap.size 25 #[.int .u8 0, .string ⟨#[]⟩, .slice none 0 0, .slice none 0 0] := by rw [← hw0]; exact Cel.fresh _ _ _
  have hR0 := h.below hB0
  have hE0 := hE.below hB0
  have hSt : ∀ W, Below w0.heap.size w0 W → W.cell? ⟨b, 0, none⟩ = some (.string S) ∧ Below w0.heap.size w0 W := fun W hb => ⟨(hb.cell (p := ⟨b, 0, none⟩) (Nat.lt_of_lt_of_le hlt hB0.size)).trans ((hB0.cell (p := ⟨b, 0, none⟩) hlt).trans p0), hb⟩
  replace hS := Lib.hid hS
  clear hT hTT hD hn hST s1 s2 hRo hlen hzs hzd h hE
  unfold numB at hTD
  replace hTD := Lib.hid hTD
  replace hO := Lib.hid hO
  replace hSt := Lib.hid hSt
  replace hR0 := Lib.hid hR0
  replace hE0 := Lib.hid hE0
  replace hC0 := Lib.hid hC0
  replace hw0 := Lib.hid hw0
  replace hSD := Lib.hid hSD
  replace hB0 := Lib.hid hB0
  go_enter Tryz.func139, Tryz.ntmps139
  go_wp2_with fail
  rw [hw0.out]
  clear p0
  have p0 := (hSt.out w0 (Below.refl _ _)).1
  go_region_held3 (fun W => W.cell? ⟨b, 0, none⟩ = some (.string S) ∧ Below w0.heap.size w0 W)
    (first | exact hSt.out _ (bel_drewN (Below.refl _ _) 1) | exact hSt.out _ hZ1)
    (first
      | (go_at_call 131; (with_reducible refine (hTD.out _).mono ?_); rintro e w1 ⟨rfl, hB1⟩; have hZ1 : Below w0.heap.size w0 w1 := (bel_drewN (Below.refl _ _) 1).trans hB1; clear hB1))
  all_goals
    have hR1 := hR0.out.below hZ1
    have hE1 := hE0.out.below hZ1
    have hC1 := hC0.out.below hZ1 hC0.out.lt
    have hB1 := hB0.out.trans (hZ1.mono hB0.out.size)
    have hown := hO.out w1 hE1.env.1.1
    have q0 : w1.cell? ⟨b, 0, none⟩ = some (.string S) := (hSt.out w1 hZ1).1
    clear hTD hO hR0 hE0 hC0 hB0 hSt hE1 p0 hsub
    replace hZ1 := Lib.hid hZ1
    replace hR1 := Lib.hid hR1
    replace hC1 := Lib.hid hC1
    replace hB1 := Lib.hid hB1
    replace hown := Lib.hid hown
    go_wp2_with fail
    refine hown.out.mono ?_
    rintro e w2 ⟨g, hg, rfl, hb2⟩
    have hR2 := hR1.out.below hb2
    have hC2 := hC1.out.below hb2 hC1.out.lt
    have hB2 := hB1.out.trans (hb2.mono hB1.out.size)
    obtain ⟨r1, r2⟩ := Ro
    dsimp only at hg
    have hgg : ofL r1 = g := by rw [← hg]; exact ofL_toList g
    clear hown hR1 hC1 hB1 hb2 hZ1 hg q0
    dsimp only
    by_cases hr : r2 = 0
    · subst hr
      have q0 : w2.cell? ⟨b, 0, none⟩ = some (.string S) := by rw [← hS.out]; exact Cel.cell hR2 0
      have f0 := Cel.froz hR2 0
      have x0 := hC2.cell 0
      have x1 := hC2.cell 1
      have x2 := hC2.cell 2
      have x3 := hC2.cell 3
      have y0 := hC2.froz 0
      have y1 := hC2.froz 1
      have y2 := hC2.froz 2
      have y3 := hC2.froz 3
      simp only [List.getElem?_toArray, List.getElem?_cons_zero, List.getElem?_cons_succ] at x0 x1 x2 x3
      have hne : ¬ b = w.heap.size := by omega
      have hne' : ¬ w.heap.size = b := by omega
      replace hR2 := Lib.hid hR2
      replace hC2 := Lib.hid hC2
      replace hB2 := Lib.hid hB2
      replace hgg := Lib.hid hgg
      go_wp2_with fail
      refine bodyPost_ret (v := .agg #[.int .u8 4, .string g, .slice none 0 0, .slice none 0 0]) (by simp [results, Tryz.results139, go_sem, x0, x1, x2, x3, hne, hne']) rfl ⟨?_, ?_⟩
      · exact ((((((But.of hB2.out : But w.heap.size b w w2).set 0 _).setCell (p := ⟨w.heap.size, 0, none⟩) (Nat.le_refl _) _).setCell (p := ⟨w.heap.size, 1, none⟩) (Nat.le_refl _) _).setCell (p := ⟨w.heap.size, 2, none⟩) (Nat.le_refl _) _).setCell (p := ⟨w.heap.size, 3, none⟩) (Nat.le_refl _) _)
      · rw [if_pos rfl]
        refine ⟨by rw [hgg.out], ?_⟩
        have h1 : RJ (w2.setCell ⟨b, 0, none⟩ (.string SD)) b D it := by rw [← hSD.out]; exact hR2.out.set
        exact (((Cel.away h1 (p := ⟨w.heap.size, 0, none⟩) hne _).away (p := ⟨w.heap.size, 1, none⟩) hne _).away (p := ⟨w.heap.size, 2, none⟩) hne _).away (p := ⟨w.heap.size, 3, none⟩) hne _
    · have hr2 : (r2 != 0) = true := by simp [hr]
      have hr3 : (r2 == 0) = false := by simp [hr]
      replace hB2 := Lib.hid hB2
      clear hR2 hC2 hgg
      go_wp2_with fail
      refine (jrFail_any r2 _).mono ?_
      rintro e w3 ⟨rfl, rfl⟩
      refine ⟨rfl, But.of hB2.out, ?_⟩
      rw [if_neg hr]
      rfl
end Go.Proofs.YtamcbgkppgdniaaGreatDoor
