/-
  Arguments that are slices of bytes, of strings: opened; and read again behind the call.
-/
import Derived.Test.YtccfdecpiekeoaaGreatDoorFraL
import Derived.ProofKit
import Derived.OpenShut
namespace Go.Proofs.YtccfdecpiekeoaaGreatDoor
open Go.ChangeShapes Go.WideShapes Go.ChangeAt Go.RowKit
open Go.WideMaps Go.WideElems

theorem laidOut : laidOutB Tryz.prog = true := by kernel_rfl
variable {H : Type} {enc : TypeId × Value → H}

set_option maxRecDepth 100000 in
theorem open_strs_arg {W : World} {base : Nat} {v : Value} {d : DataW H} {p : List MemPlace} (hv : Value.okWide Tryz.prog W .any base 37 v) (h : DataW.Trod enc Tryz.prog W 0 (fun _ => true) true 37 v d p) :
    ∃ (A : Option Addr) (c : Nat) (L : List ByteArray), v = .slice A L.length c ∧ StrS W W.heap.size A L ∧ L.length ≤ 9223372036854775807 ∧ (∀ b ∈ L, b.size ≤ 9223372036854775807) := by
  obtain ⟨a0, len, cap, rfl⟩ := okWide_slice Tryz.underlying37 hv
  obtain ⟨fuel, hf⟩ := h
  have hc1 : Tryz.prog.cellsOf 9 = 1 := by kernel_rfl
  rcases open_strings Tryz.underlying37 Tryz.underlying9 hc1 hf with ⟨hcs, _⟩ | ⟨a, len', cap', ss, hcs, _, hl, hm, hz, _, hcell, hws⟩
  · simp [Value.cells] at hcs
    obtain ⟨rfl, rfl, rfl⟩ := hcs
    exact ⟨none, 0, [], rfl, fun h => absurd h (by simp), by simp, by simp⟩
  · simp [Value.cells] at hcs
    obtain ⟨rfl, rfl, rfl⟩ := hcs
    simp only [if_true] at hz
    have hm' : cap ≤ 9223372036854775807 := by simpa [maxLen] using hm
    have htl : (ss.take len).length = len := by rw [List.length_take]; omega
    refine ⟨some a, cap, ss.take len, by rw [htl], fun hp => ?_, by omega, fun b hb => by simpa [maxLen] using hws b (List.mem_of_mem_take hb)⟩
    have h0 := hcell 0 (by omega)
    refine ⟨a, rfl, ?_, fun j x hx => ?_⟩
    · have := World.block_lt_of_cell? W _ h0
      rwa [block_add] at this
    · rw [List.getElem?_take] at hx
      split at hx
      · have hj : j < ss.length := (List.getElem?_eq_some_iff.1 hx).1
        rw [hcell j hj]
        simp [List.getD, hx]
      · cases hx

set_option maxRecDepth 100000 in
theorem open_byt_arg {W : World} {base : Nat} {v : Value} {d : DataW H} {p : List MemPlace} (hv : Value.okWide Tryz.prog W .any base 27 v) (h : DataW.Trod enc Tryz.prog W 0 (fun _ => true) true 27 v d p) :
    ∃ (A : Option Addr) (c : Nat) (l : List UInt8), v = .slice A l.length c ∧ Byt W A c l (fun _ => False) := by
  obtain ⟨a0, len, cap, rfl⟩ := okWide_slice Tryz.underlying27 hv
  obtain ⟨fuel, hf⟩ := h
  have hc1 : Tryz.prog.cellsOf 5 = 1 := by kernel_rfl
  rcases open_ints Tryz.underlying27 Tryz.underlying5 hc1 hf with ⟨hcs, _⟩ | ⟨a, len', cap', zs, hcs, _, hl, hm, hz, _, hcell, hwz⟩
  · simp [Value.cells] at hcs
    obtain ⟨rfl, rfl, rfl⟩ := hcs
    exact ⟨none, 0, [], rfl, Byt.nil _ _⟩
  · simp [Value.cells] at hcs
    obtain ⟨rfl, rfl, rfl⟩ := hcs
    simp only [if_true] at hz
    have hm' : cap ≤ 9223372036854775807 := by simpa [maxLen] using hm
    have htl : ((zs.take len).map fun z => UInt8.ofNat z.toNat).length = len := by rw [List.length_map, List.length_take]; omega
    refine ⟨some a, cap, (zs.take len).map fun z => UInt8.ofNat z.toNat, by rw [htl], by rw [htl]; exact hl, hm', Or.inr ⟨a, rfl, fun hp => ⟨?_, fun h => h⟩, fun j u hu => ?_⟩⟩
    · rw [htl] at hp
      have := World.block_lt_of_cell? W _ (hcell 0 (by omega))
      rwa [block_add] at this
    · rw [List.getElem?_map, List.getElem?_take] at hu
      split at hu
      · rcases hzj : zs[j]? with _ | z
        · rw [hzj] at hu; cases hu
        · rw [hzj] at hu
          injection hu with hu
          have hj : j < zs.length := (List.getElem?_eq_some_iff.1 hzj).1
          rw [hcell j hj]
          have hb := bounds_u8 (hwz z (List.mem_of_getElem? hzj))
          have : ((UInt8.ofNat z.toNat).toNat : Int) = z := by rw [UInt8.toNat_ofNat']; omega
          rw [← hu, this]
          simp [List.getD, hzj]
      · cases hu
end Go.Proofs.YtccfdecpiekeoaaGreatDoor
