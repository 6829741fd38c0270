/-
  The walk of the document's digit.
-/
import Derived.Test.YthmojpcaagnfkaaGreatDoorJsQ
import Derived.Lib.SlBytesRow
namespace Go.Proofs.YthmojpcaagnfkaaGreatDoor
open Go.RowKit

/-- A new row of one byte, handed to string(..). -/
theorem one_byte_j (V : World) (c : Int) (h0 : 0 ≤ c) (h1 : c < 256) :
    (convert 103 9 (.slice (some ⟨V.heap.size, 0, none⟩) 1 1)).run Tryz.prog (V.alloc (.cells #[.int .u8 c] 5)) = .ok (.string ⟨#[UInt8.ofNat c.toNat]⟩) (V.alloc (.cells #[.int .u8 c] 5)) := by
  have hb : Lib.Bytes (V.alloc (.cells #[.int .u8 c] 5)) V.heap.size 0 ⟨#[UInt8.ofNat c.toNat]⟩ := by
    intro i hi
    have hi0 : i = 0 := by have : (⟨#[UInt8.ofNat c.toNat]⟩ : ByteArray).size = 1 := rfl; omega
    subst hi0
    rw [World.cell?_alloc_at _ _ _ _ rfl]
    have e : (⟨#[UInt8.ofNat c.toNat]⟩ : ByteArray)[0] = UInt8.ofNat c.toNat := rfl
    rw [e]
    have : ((UInt8.ofNat c.toNat).toNat : Int) = c := by
      rw [UInt8.toNat_ofNat']; omega
    rw [this]; rfl
  exact Lib.run_convert_whole (P := Tryz.prog) (V.alloc (.cells #[.int .u8 c] 5)) 103 5 9 Tryz.underlying103 Tryz.underlying5 Tryz.underlying9 V.heap.size 0 ⟨#[UInt8.ofNat c.toNat]⟩ hb 1


end Go.Proofs.YthmojpcaagnfkaaGreatDoor
