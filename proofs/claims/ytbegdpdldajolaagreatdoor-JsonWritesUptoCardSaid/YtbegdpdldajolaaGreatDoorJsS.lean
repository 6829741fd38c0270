/-
  The walk of the document's digit.
-/
import Derived.Test.YtbegdpdldajolaaGreatDoorJsQ
import Derived.Lib.SlBytesRow
namespace Go.Proofs.YtbegdpdldajolaaGreatDoor
open Go.RowKit

/-- A new row of one byte, handed to string(..). -/
theorem one_byte_j (V : World) (c : Int) (h0 : 0 ≤ c) (h1 : c < 256) :
    (convert 53 9 (.slice (some ⟨V.heap.size, 0, none⟩) 1 1)).run Tryz.prog (V.alloc (.cells #[.int .u8 c] 5)) = .ok (.string ⟨#[UInt8.ofNat c.toNat]⟩) (V.alloc (.cells #[.int .u8 c] 5)) := by
  have hb : Lib.Bytes (V.alloc (.cells #[.int .u8 c] 5)) V.heap.size 0 ⟨#[UInt8.ofNat c.toNat]⟩ := by
    intro i hi
    have hi0 : i = 0 := by have : (⟨#[UInt8.ofNat c.toNat]⟩ : ByteArray).size = 1 := rfl; omega
    subst hi0
    rw [World.cell?_alloc_at _ _ _ _ rfl]
    have e : (⟨#[UInt8.ofNat c.toNat]⟩ : ByteArray)[0] = UInt8.ofNat c.toNat := rfl
    rw [e]
    have : ((UInt8.ofNat c.toNat).toNat : Int) = c := by
      rw [UInt8.toNat_ofNat']; omega
    rw [this]; rfl
  exact Lib.run_convert_whole (P := Tryz.prog) (V.alloc (.cells #[.int .u8 c] 5)) 53 5 9 Tryz.underlying53 Tryz.underlying5 Tryz.underlying9 V.heap.size 0 ⟨#[UInt8.ofNat c.toNat]⟩ hb 1


theorem refDigitJ_any (d : Nat) (hd : d < 16) (w : World) :
    Calls Tryz.prog 120 #[.int .i64 d] w fun e w' => e = .returned (.string ⟨#[jhex d]⟩) ∧ Below w.heap.size w w' := by
  obtain ⟨R, hR⟩ : ∃ R, jhex d = R := ⟨_, rfl⟩
  rw [hR]
  unfold jhex at hR
  by_cases h : d < 10
  · have hcv := fun V => one_byte_j V (48 + d) (by omega) (by omega)
    have e1 : UInt8.ofNat (48 + (d : Int)).toNat = R := by
      rw [← hR, if_pos h]; congr 1
    rw [e1] at hcv
    have hw : IntKind.u8.wrap (48 + (d : Int)) = 48 + d := by rw [IntKind.wrap_u8]; omega
    have hcmp : ((d : Int) < 10) := by omega
    clear hR e1
    go_enter Tryz.func120, Tryz.ntmps120
    go_wp2
    go_ret
    exact ⟨rfl, (Below.refl _ _).alloc (Nat.le_refl _) _⟩
  · have hcv := fun V => one_byte_j V (87 + d) (by omega) (by omega)
    have e1 : UInt8.ofNat (87 + (d : Int)).toNat = R := by
      rw [← hR, if_neg h]; congr 1
    rw [e1] at hcv
    have e2 : (97 + (d : Int) - 10) = 87 + d := by omega
    have hw : IntKind.u8.wrap (87 + (d : Int)) = 87 + d := by rw [IntKind.wrap_u8]; omega
    have hw2 : IntKind.u8.wrap (97 + (d : Int) - 10) = 87 + d := by rw [e2, hw]
    have hcmp : ¬ ((d : Int) < 10) := by omega
    clear hR e1 e2
    go_enter Tryz.func120, Tryz.ntmps120
    go_wp2
    go_ret
    exact ⟨rfl, (Below.refl _ _).alloc (Nat.le_refl _) _⟩
end Go.Proofs.YtbegdpdldajolaaGreatDoor
