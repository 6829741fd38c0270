/-
  An argument that is a slice of slices of bytes: opened.
-/
import Derived.Test.YtccfdecpiekeoaaGreatDoorFraN
import Derived.Test.YtccfdecpiekeoaaGreatDoorFrmArg
import Derived.Deep.Matrix
namespace Go.Proofs.YtccfdecpiekeoaaGreatDoor
open Go.ChangeShapes Go.WideShapes Go.ChangeAt Go.RowKit
open Go.WideMaps Go.WideElems
variable {H : Type} {enc : TypeId × Value → H}

def chkOf (A : Nat → Option Addr) (L C : Nat → Nat) (Z : Nat → List Int) (r : Nat) : Chk := (A r, C r, ((Z r).take (L r)).map fun z => UInt8.ofNat z.toNat)

set_option maxRecDepth 100000 in
theorem open_chks_arg {W : World} {base : Nat} {v : Value} {d : DataW H} {p : List MemPlace} (hv : Value.okWide Tryz.prog W .any base 45 v) (h : DataW.Trod enc Tryz.prog W 0 (fun _ => true) true 45 v d p) :
    ∃ (A : Option Addr) (c : Nat) (L : List Chk), v = .slice A L.length c ∧ ChkS W W.heap.size A L ∧ L.length ≤ 9223372036854775807 := by
  obtain ⟨a0, len, cap, rfl⟩ := okWide_slice Tryz.underlying45 hv
  obtain ⟨fuel, hf⟩ := h
  have hc1 : Tryz.prog.cellsOf 27 = 1 := by kernel_rfl
  have hc2 : Tryz.prog.cellsOf 5 = 1 := by kernel_rfl
  rcases Go.Deep.open_int_rows Tryz.underlying45 Tryz.underlying27 Tryz.underlying5 hc1 hc2 hf with ⟨hcs, _⟩ | ⟨a, len', cap', A, L, C, Z, hcs, _, hl, hm, _, hr⟩
  · simp [Value.cells] at hcs
    obtain ⟨rfl, rfl, rfl⟩ := hcs
    exact ⟨none, 0, [], rfl, ⟨fun h => absurd h (by simp), fun x hx => by simp at hx⟩, by simp⟩
  · simp [Value.cells] at hcs
    obtain ⟨rfl, rfl, rfl⟩ := hcs
    have hm' : cap ≤ 9223372036854775807 := by simpa [maxLen] using hm
    have hlen : ((List.range len).map (chkOf A L C Z)).length = len := by simp
    have hget : ∀ (j : Nat) (x : Chk), ((List.range len).map (chkOf A L C Z))[j]? = some x → j < len ∧ x = chkOf A L C Z j := fun j x hx => by
      rw [List.getElem?_map] at hx
      by_cases hj : j < len
      · rw [List.getElem?_range hj] at hx
        exact ⟨hj, (Option.some.inj hx).symm⟩
      · rw [List.getElem?_eq_none (by simp; omega)] at hx; cases hx
    have hlenr : ∀ r, r < cap → (chkOf A L C Z r).2.2.length = L r := fun r h => by
      obtain ⟨_, q1, _, q3, _⟩ := hr r h
      show (((Z r).take (L r)).map _).length = L r
      rw [List.length_map, List.length_take]; omega
    refine ⟨some a, cap, (List.range len).map (chkOf A L C Z), by rw [hlen], ⟨fun hp => ⟨a, rfl, ?_, fun j x hx => ?_⟩, fun x hx => ?_⟩, by rw [hlen]; omega⟩
    · rw [hlen] at hp
      have := World.block_lt_of_cell? W _ (hr 0 (by omega)).1
      rwa [block_add] at this
    · obtain ⟨hj, rfl⟩ := hget j x hx
      rw [(hr j (by omega)).1, hlenr j (by omega)]
      rfl
    · rw [List.mem_map] at hx
      obtain ⟨r, hr0, rfl⟩ := hx
      rw [List.mem_range] at hr0
      obtain ⟨_, q1, q2, q3, q4, q5, q6⟩ := hr r (by omega)
      have hq2 : C r ≤ 9223372036854775807 := by simpa [maxLen] using q2
      refine ⟨by rw [hlenr r (by omega)]; exact q1, hq2, ?_⟩
      rcases hA : A r with _ | a'
      · have := q5 hA
        refine Or.inl ⟨hA, ?_, this⟩
        exact List.eq_nil_of_length_eq_zero (by rw [hlenr r (by omega)]; omega)
      · obtain ⟨_, q7⟩ := q6 a' hA
        refine Or.inr ⟨a', hA, fun hp => ⟨?_, fun h => h⟩, fun j u hu => ?_⟩
        · rw [hlenr r (by omega)] at hp
          have := World.block_lt_of_cell? W _ (q7 0 (by omega))
          rwa [block_add] at this
        · change (((Z r).take (L r)).map fun z => UInt8.ofNat z.toNat)[j]? = some u at hu
          rw [List.getElem?_map, List.getElem?_take] at hu
          split at hu
          · rcases hzj : (Z r)[j]? with _ | z
            · rw [hzj] at hu; cases hu
            · rw [hzj] at hu
              injection hu with hu
              have hj : j < (Z r).length := (List.getElem?_eq_some_iff.1 hzj).1
              rw [q7 j (by omega)]
              have hb := bounds_u8 (q4 z (List.mem_of_getElem? hzj))
              have : ((UInt8.ofNat z.toNat).toNat : Int) = z := by rw [UInt8.toNat_ofNat']; omega
              rw [← hu, this]
              simp [List.getD, hzj]
          · cases hu
end Go.Proofs.YtccfdecpiekeoaaGreatDoor
