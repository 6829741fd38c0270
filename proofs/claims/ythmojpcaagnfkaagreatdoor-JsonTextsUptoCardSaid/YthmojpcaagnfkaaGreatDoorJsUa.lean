/-
  The walks of the document's bits, Rune and Valid.
-/
import Derived.Test.YthmojpcaagnfkaaGreatDoorJsU
import Derived.Test.YthmojpcaagnfkaaGreatDoorPl
namespace Go.Proofs.YthmojpcaagnfkaaGreatDoor
open Go.RowKit

theorem getD_at (s : ByteArray) (k : Nat) (h : k < s.size) : s.data.toList.getD k 0 = s[k] := by
  rw [List.getD_eq_getElem?_getD, bytes_at s k h]; rfl
theorem byte_bd (c : UInt8) : 0 ≤ (c.toNat : Int) ∧ (c.toNat : Int) < 256 := by have := c.toNat_lt; omega
set_option maxHeartbeats 2000000 in
theorem refBits_any (s : ByteArray) (w : World) (h1 : 1 ≤ s.size) (h4 : s.size ≤ 4) :
    Calls Tryz.prog 213 #[.string s] w fun e w' => e = .returned (.int .i64 (rbits s.data.toList)) ∧ Below w.heap.size w w' := by
  have hl : s.data.toList.length = s.size := bytes_len s
  have hrb := rbp_bits s.data.toList (by omega) (by omega)
  rw [hl] at hrb
  obtain ⟨R, hR⟩ : ∃ R, rbits s.data.toList = R := ⟨_, rfl⟩
  rw [hR] at hrb ⊢
  have h0 : 0 < s.size := h1
  by_cases c1 : s.size = 1
  · have e1 : R = (s[0].toNat : Int) := by
      rw [hrb, c1]
      show ((s.data.toList.getD 0 0).toNat : Int) - rhead 1 = _
      rw [getD_at s 0 h1]; simp [rhead]
    subst e1
    clear hR hrb hl
    obtain ⟨d0, d2⟩ := byte_bd s[0]
    go_enter Tryz.func213, Tryz.ntmps213
    go_wp2
    go_ret
    exact ⟨rfl, (Below.refl _ _).alloc (Nat.le_refl _) _⟩
  · obtain ⟨hbd, hbd2⟩ := rhead_bd s.size
    have hst := Lib.hid (fun q (hq : 1 ≤ q) => rbp_step s.data.toList (rhead s.size) q hq)
    have hbp := Lib.hid (fun q (hq : q ≤ 4) => rbp_bd s.data.toList (rhead s.size) hbd hbd2 q hq)
    have h1v : rbp s.data.toList (rhead s.size) 1 = (s[0].toNat : Int) - rhead s.size := by
      show ((s.data.toList.getD 0 0).toNat : Int) - rhead s.size = _
      rw [getD_at s 0 h1]
    have hc : s.size = 2 ∧ rhead s.size = 192 ∨ s.size = 3 ∧ rhead s.size = 224 ∨ s.size = 4 ∧ rhead s.size = 240 := by
      rcases (by omega : s.size = 2 ∨ s.size = 3 ∨ s.size = 4) with h | h | h <;> rw [h] <;> simp [rhead]
    obtain ⟨RB, hRB⟩ : ∃ RB, rbp s.data.toList (rhead s.size) = RB := ⟨_, rfl⟩
    rw [hRB] at hrb h1v
    simp only [hRB] at hst hbp
    clear hRB
    clear hR hl hbd hbd2
    obtain ⟨d0, d2⟩ := byte_bd s[0]
    rcases hc with ⟨hn, hh⟩ | ⟨hn, hh⟩ | ⟨hn, hh⟩
    all_goals
      rw [hh] at h1v
      replace hrb := Lib.hid hrb
      replace h1v := Lib.hid h1v
      clear hh c1
      have h01 : 0 < s.size := h0
      go_enter Tryz.func213, Tryz.ntmps213
      go_wp2_with fail
      go_quiet (fail)
      go_wp2_with fail
      go_loopw [5, 6] (fun o i wr => ∃ (q : Nat) (X : Int), 1 ≤ q ∧ q ≤ s.size ∧ i = .int .i64 q ∧ o = .int .i64 X ∧ RB q = X ∧ Below w.heap.size w wr) (fun _ i _ => s.size - (intOf i).toNat)
      case atStart => exact ⟨1, _, Nat.le_refl _, by omega, rfl, rfl, h1v.out, bel_drewN ((Below.refl _ _).alloc (Nat.le_refl _) _) _⟩
      case round =>
        clear d0 d2
        obtain ⟨q, X, hq1, hq2, rfl, rfl, hX, hB⟩ := hrel
        have hb := hbp.out q (by omega)
        rw [hX] at hb
        obtain ⟨hb1, hb2⟩ := hb
        have hst1 := hst.out q hq1
        rw [hX] at hst1
        replace hB := Lib.hid hB
        by_cases hlt : q < s.size
        · have hg := getD_at s q hlt
          rw [hg] at hst1
          replace hX := Lib.hid hX
          clear hg
          obtain ⟨f0, f2⟩ := byte_bd s[q]
          obtain ⟨b, hb⟩ : ∃ b : Int, (s[q].toNat : Int) = b := ⟨_, rfl⟩
          rw [hb] at f0 f2 hst1
          replace hst1 := Lib.hid hst1
          go_wp2_with fail
          go_roundw
          case rel => exact ⟨q + 1, _, by omega, by omega, by go_num, rfl, hst1.out, hB.out⟩
          case measure => simp [intOf]; omega
        · have hqe : q = s.size := by omega
          have hRX : R = X := by rw [hrb.out, ← hX, hqe]
          subst hRX
          replace hst1 := Lib.hid hst1
          replace hX := Lib.hid hX
          clear hqe
          go_wp2_with fail
          go_ret
          exact ⟨rfl, hB.out⟩
end Go.Proofs.YthmojpcaagnfkaaGreatDoor
