/-
  The walks of the document's Count and Deep.
-/
import Derived.Test.YthmojpcaagnfkaaGreatDoorJsM
import Derived.Test.YthmojpcaagnfkaaGreatDoorProg
import Derived.Tactics
import Derived.Tactics2
import Derived.WalkKit
import Derived.LoopTactic
import Derived.KernelRfl
import Derived.Handy
namespace Go.Proofs.YthmojpcaagnfkaaGreatDoor
open Go.RowKit

theorem four_cells {w : World} {g o i : Nat} {z : JE} (h : ∀ (q : Nat) (u : Value), (encJ z)[q]? = some u → w.cell? ⟨g, o + i * 4 + q, none⟩ = some u) :
    w.cell? ⟨g, o + i * 4, none⟩ = some (.int .u8 z.1.kind) ∧ w.cell? ⟨g, o + i * 4 + 1, none⟩ = some (.string z.1.text) ∧ w.cell? ⟨g, o + i * 4 + 2, none⟩ = some z.2.1 ∧ w.cell? ⟨g, o + i * 4 + 3, none⟩ = some z.2.2 :=
  ⟨h 0 _ rfl, h 1 _ rfl, h 2 _ rfl, h 3 _ rfl⟩
/-- The value at a place of the list, and its four cells, in a world that has grown. -/
theorem JV.at {w wr : World} {X : Nat → Prop} {zs : List JE} {A : Option Addr} (h2 : ∀ z ∈ zs, JV w X z.1 z.2.1 z.2.2)
    (h3 : 0 < zs.length → ∃ g o, A = some ⟨g, o, none⟩ ∧ X g ∧ g < w.heap.size ∧ ∀ j z, zs[j]? = some z → ∀ (i : Nat) (u : Value), (encJ z)[i]? = some u → w.cell? ⟨g, o + j * 4 + i, none⟩ = some u)
    (hB : Below w.heap.size w wr) {i : Nat} (hi : i < zs.length) :
    ∃ g o z, zs[i]? = some z ∧ z ∈ zs ∧ A = some ⟨g, o, none⟩ ∧ JV wr X z.1 z.2.1 z.2.2 ∧ wr.cell? ⟨g, o + i * 4, none⟩ = some (.int .u8 z.1.kind) ∧ wr.cell? ⟨g, o + i * 4 + 1, none⟩ = some (.string z.1.text) ∧ wr.cell? ⟨g, o + i * 4 + 2, none⟩ = some z.2.1 ∧ wr.cell? ⟨g, o + i * 4 + 3, none⟩ = some z.2.2 := by
  obtain ⟨g, o, q1, _, q3, q4⟩ := h3 (by omega)
  have hz : zs[i]? = some zs[i] := List.getElem?_eq_getElem hi
  have hm : zs[i] ∈ zs := List.getElem_mem hi
  obtain ⟨c0, c1, c2, c3⟩ := four_cells (q4 i _ hz)
  exact ⟨g, o, zs[i], hz, hm, q1, (h2 _ hm).later hB, (hB.cell (p := ⟨g, o + i * 4, none⟩) q3).trans c0, (hB.cell (p := ⟨g, o + i * 4 + 1, none⟩) q3).trans c1, (hB.cell (p := ⟨g, o + i * 4 + 2, none⟩) q3).trans c2, (hB.cell (p := ⟨g, o + i * 4 + 3, none⟩) q3).trans c3⟩
theorem take_map_snoc {α : Type} {zs : List JE} {i : Nat} {z : JE} (hz : zs[i]? = some z) (f : Jsn → α) : (((zs.take (i + 1)).map (·.1)).map f) = ((zs.take i).map (·.1)).map f ++ [f z.1] := by
  rw [List.take_add_one, hz]; simp

set_option maxHeartbeats 1000000 in
theorem refCount_any : ∀ (j : Jsn) (X : Nat → Prop) (w : World) (vn vl : Value), JV w X j vn vl → jcount j ≤ 1000000000000 →
    Calls Tryz.prog 98 #[.agg #[.int .u8 j.kind, .string j.text, vn, vl]] w fun e w' => e = .returned (.int .i64 (jcount j)) ∧ Below w.heap.size w w' := by
  refine Jsn.ind fun k s n l ih X w vn vl hV hc => ?_
  obtain ⟨A, c, zs, rfl, hz, h2, h3⟩ := hV.elems
  rw [jcount_eq] at hc ⊢
  have hlen : zs.length = l.length := by rw [← hz, List.length_map]
  have hlc := jlen_count l
  rw [← hlen] at hlc
  clear hlen
  obtain ⟨C, hC⟩ : ∃ C, jcounts l = C := ⟨_, rfl⟩
  rw [hC] at hc hlc ⊢
  replace ih := Lib.hid ih
  replace hz := Lib.hid hz
  replace hC := Lib.hid hC
  have hw := Lib.hid (fun (wr : World) (i : Nat) (hB : Below w.heap.size w wr) (hi : i < zs.length) => JV.at h2 h3 hB hi)
  clear h2 h3 hV
  dsimp only
  go_enter Tryz.func98, Tryz.ntmps98
  go_wp2_with fail
  go_loopw [3, 4] (fun n i wr => ∃ q m : Nat, q ≤ zs.length ∧ i = .int .i64 q ∧ n = .int .i64 m ∧ m = jcounts ((zs.take q).map (·.1)) + 1 ∧ m ≤ C + 1 ∧ Cel wr w.heap.size 27 #[.int .u8 k, .string s, vn, .slice A zs.length c] ∧ Below w.heap.size w wr) (fun _ i _ => zs.length - (intOf i).toNat)
  case atStart => exact ⟨0, 1, Nat.zero_le _, rfl, rfl, rfl, by omega, Cel.fresh _ _ _, (Below.refl _ _).alloc (Nat.le_refl _) _⟩
  case round =>
    obtain ⟨q, m, hq, rfl, rfl, hm, hmC, hCl, hB⟩ := hrel
    have hx3 : wr.cell? ⟨w.heap.size, 3, none⟩ = some (.slice A zs.length c) := hCl.cell 3
    have hsz := hCl.lt
    by_cases hlt : q < zs.length
    · obtain ⟨g, o, ⟨x, vx, vy⟩, hzq, hzm, rfl, hVz, c0, c1, c2, c3⟩ := hw.out wr q hB hlt
      have hxm : x ∈ l := by rw [← hz.out]; exact List.mem_map_of_mem (f := (·.1)) hzm
      have hxC : jcount x ≤ C := by rw [← hC.out]; exact jcounts_mem hxm
      have hsn : jcounts ((zs.take (q + 1)).map (·.1)) + 1 = m + jcount x := by
        rw [List.take_add_one, hzq, hm]; simp [jcounts_app, jcounts_cons, jcounts_nil]; omega
      have hle : jcounts ((zs.take (q + 1)).map (·.1)) ≤ C := by
        have := jcounts_app ((zs.drop (q + 1)).map (·.1)) ((zs.take (q + 1)).map (·.1))
        rw [← List.map_append, List.take_append_drop, hz.out, hC.out] at this; omega
      have hcall := ih.out x hxm X wr vx vy hVz (by omega)
      dsimp only at c0 c1 c2 c3
      have hnx : ∀ w1, Below wr.heap.size wr w1 → Cel w1 w.heap.size 27 #[.int .u8 k, .string s, vn, .slice (some ⟨g, o, none⟩) zs.length c] ∧ Below w.heap.size w w1 := fun w1 h => ⟨hCl.below h hsz, hB.trans (h.mono (by omega))⟩
      obtain ⟨D, hD⟩ : ∃ D, jcount x = D := ⟨_, rfl⟩
      rw [hD] at hcall hsn hxC
      clear hCl hB hVz hzq hw ih hm hD
      replace hcall := Lib.hid hcall
      replace hnx := Lib.hid hnx
      replace hsn := Lib.hid hsn
      go_wp2_with fail
      refine hcall.out.mono ?_
      rintro e w1 ⟨rfl, hB1⟩
      clear c0 c1 c2 c3 hx3
      replace hB1 := Lib.hid hB1
      go_wp2_with fail
      go_roundw
      case rel => exact ⟨q + 1, m + D, by omega, by go_num, by go_num, hsn.out.symm, by rw [← hsn.out]; omega, (hnx.out _ hB1.out).1, (hnx.out _ hB1.out).2⟩
      case measure => simp [intOf]; omega
    · have hfull : zs.take q = zs := List.take_of_length_le (by omega)
      rw [hfull, hz.out, hC.out] at hm
      subst hm
      clear hCl hw ih hfull
      replace hB := Lib.hid hB
      go_wp2_with fail
      go_ret
      exact ⟨rfl, hB.out⟩
set_option maxHeartbeats 1000000 in
theorem refDeep_any : ∀ (j : Jsn) (X : Nat → Prop) (w : World) (vn vl : Value), JV w X j vn vl → jdeep j ≤ 1000000000000 → jbulk j ≤ 1000000000000000 →
    Calls Tryz.prog 97 #[.agg #[.int .u8 j.kind, .string j.text, vn, vl]] w fun e w' => e = .returned (.int .i64 (jdeep j)) ∧ Below w.heap.size w w' := by
  refine Jsn.ind fun k s n l ih X w vn vl hV hc hbk => ?_
  obtain ⟨_, _, hl, _, hkids⟩ := bulk_parts hbk
  dsimp only at hl hkids
  have hkid : ∀ x ∈ l, jbulk x ≤ 1000000000000000 := fun x hx => by have := hkids x hx; omega
  clear hkids hbk
  replace hkid := Lib.hid hkid
  obtain ⟨A, c, zs, rfl, hz, h2, h3⟩ := hV.elems
  rw [jdeep_eq] at hc ⊢
  have hlen : zs.length = l.length := by rw [← hz, List.length_map]
  rw [← hlen] at hl
  clear hlen
  obtain ⟨C, hC⟩ : ∃ C, jdeeps l = C := ⟨_, rfl⟩
  rw [hC] at hc ⊢
  replace ih := Lib.hid ih
  replace hz := Lib.hid hz
  replace hC := Lib.hid hC
  have hw := Lib.hid (fun (wr : World) (i : Nat) (hB : Below w.heap.size w wr) (hi : i < zs.length) => JV.at h2 h3 hB hi)
  clear h2 h3 hV
  dsimp only
  go_enter Tryz.func97, Tryz.ntmps97
  go_wp2_with fail
  go_loopw [3, 4] (fun n i wr => ∃ q m : Nat, q ≤ zs.length ∧ i = .int .i64 q ∧ n = .int .i64 m ∧ m = jdeeps ((zs.take q).map (·.1)) ∧ m ≤ C ∧ Cel wr w.heap.size 27 #[.int .u8 k, .string s, vn, .slice A zs.length c] ∧ Below w.heap.size w wr) (fun _ i _ => zs.length - (intOf i).toNat)
  case atStart => exact ⟨0, 0, Nat.zero_le _, rfl, rfl, rfl, by omega, Cel.fresh _ _ _, (Below.refl _ _).alloc (Nat.le_refl _) _⟩
  case round =>
    obtain ⟨q, m, hq, rfl, rfl, hm, hmC, hCl, hB⟩ := hrel
    have hx3 : wr.cell? ⟨w.heap.size, 3, none⟩ = some (.slice A zs.length c) := hCl.cell 3
    have hsz := hCl.lt
    by_cases hlt : q < zs.length
    · obtain ⟨g, o, ⟨x, vx, vy⟩, hzq, hzm, rfl, hVz, c0, c1, c2, c3⟩ := hw.out wr q hB hlt
      have hxm : x ∈ l := by rw [← hz.out]; exact List.mem_map_of_mem (f := (·.1)) hzm
      have hxC : jdeep x ≤ C := by rw [← hC.out]; exact jdeeps_mem hxm
      have hsn : jdeeps ((zs.take (q + 1)).map (·.1)) = max m (jdeep x) := by
        rw [List.take_add_one, hzq, hm]; simp [jdeeps_app, jdeeps_cons, jdeeps_nil]
      have hcall := ih.out x hxm X wr vx vy hVz (by omega) (hkid.out x hxm)
      dsimp only at c0 c1 c2 c3
      have hnx : ∀ w1, Below wr.heap.size wr w1 → Cel w1 w.heap.size 27 #[.int .u8 k, .string s, vn, .slice (some ⟨g, o, none⟩) zs.length c] ∧ Below w.heap.size w w1 := fun w1 h => ⟨hCl.below h hsz, hB.trans (h.mono (by omega))⟩
      obtain ⟨D, hD⟩ : ∃ D, jdeep x = D := ⟨_, rfl⟩
      rw [hD] at hcall hsn hxC
      clear hCl hB hVz hzq hw ih hm hD
      replace hcall := Lib.hid hcall
      replace hnx := Lib.hid hnx
      replace hsn := Lib.hid hsn
      go_wp2_with fail
      refine hcall.out.mono ?_
      rintro e w1 ⟨rfl, hB1⟩
      clear c0 c1 c2 c3 hx3
      replace hB1 := Lib.hid hB1
      go_wp2_with fail
      go_roundw
      case rel => exact ⟨q + 1, max m D, by omega, by go_num, by go_num, hsn.out.symm, by omega, (hnx.out _ hB1.out).1, (hnx.out _ hB1.out).2⟩
      case measure => simp [intOf]; omega
    · have hfull : zs.take q = zs := List.take_of_length_le (by omega)
      rw [hfull, hz.out, hC.out] at hm
      subst hm
      clear hCl hw ih hfull
      replace hB := Lib.hid hB
      go_wp2_with fail
      go_ret
      exact ⟨rfl, hB.out⟩
end Go.Proofs.YthmojpcaagnfkaaGreatDoor
