/-
  The walk of rostrumref08.SameMessage: true for a message and the same message.
-/
import Derived.Test.YtlnkjacbdolhnaaGreatDoorLmN
import Derived.Test.YtlnkjacbdolhnaaGreatDoorLwS
namespace Go.Proofs.YtlnkjacbdolhnaaGreatDoor
open Go.RowKit

theorem chrow_cells {w wr : World} {B : Nat} {t : TypeId} {l : List Ch} {A : Option Addr} {k : Nat} (h : w.ownsRow B t 6 (.slice A l.length k) l.length (chRow l)) (hB : Below w.heap.size w wr) {q : Nat} {c : Ch} (hq : l[q]? = some c) :
    ∃ g o, A = some ⟨g, o, none⟩ ∧ wr.cell? ⟨g, o + q * 6, none⟩ = some (.bool c.whole) ∧ wr.cell? ⟨g, o + q * 6 + 1, none⟩ = some (.int .i64 c.a) ∧ wr.cell? ⟨g, o + q * 6 + 2, none⟩ = some (.int .i64 c.b) ∧ wr.cell? ⟨g, o + q * 6 + 3, none⟩ = some (.int .i64 c.c) ∧ wr.cell? ⟨g, o + q * 6 + 4, none⟩ = some (.int .i64 c.d) ∧ wr.cell? ⟨g, o + q * 6 + 5, none⟩ = some (.string c.t) := by
  have hlt := (List.getElem?_eq_some_iff.1 hq).1
  obtain ⟨g, cap, e, _, h2, h3⟩ := row_cells h (by omega)
  injection e with e1 e2 e3
  refine ⟨g, 0, e1, ?_⟩
  have key : ∀ (j : Nat) v, (chCells c)[j]? = some v → wr.cell? ⟨g, 0 + q * 6 + j, none⟩ = some v := fun j v hj => by
    rw [Nat.zero_add]
    exact (World.cell?_of_block (w := w) (a := ⟨g, q * 6 + j, none⟩) (hB.block g h2)).trans (h3 _ _ (chRow_at _ _ _ hq j v hj))
  exact ⟨key 0 _ rfl, key 1 _ rfl, key 2 _ rfl, key 3 _ rfl, key 4 _ rfl, key 5 _ rfl⟩
def RMsg (m : LM) (Ai : Option Addr) (ni ci : Nat) (Ai' : Option Addr) (ni' ci' : Nat) (A : Option Addr) (c : Nat) : Array Value := #[.int .u8 m.kind, .string m.uri, .int .i64 m.version, .string m.text, .int .i64 m.line, .int .i64 m.char, .int .i64 m.width, .int .u8 m.id.kind, .string m.id.text, .slice Ai ni ci, .slice Ai' ni' ci', .slice A m.chs.length c]
set_option maxRecDepth 100000 in
set_option maxHeartbeats 8000000 in
theorem sameMsg_any (m : LM) (X Y : Nat → Prop) (B B' : Nat) (w : World) (A1 : Option Addr) (n1 c1 : Nat) (A2 : Option Addr) (n2 c2 : Nat) (A3 : Option Addr) (c3 : Nat) (D1 : Option Addr) (k1 d1 : Nat) (D2 : Option Addr) (k2 d2 : Nat) (D3 : Option Addr) (d3 : Nat)
    (hV : JV w X m.id (.slice A1 n1 c1) (.slice A2 n2 c2)) (hU : JV w Y m.id (.slice D1 k1 d1) (.slice D2 k2 d2)) (hbk : jbulk m.id ≤ 1000000000000) (hl : m.chs.length ≤ 1000000000000)
    (hr1 : w.ownsRow B 82 6 (.slice A3 m.chs.length c3) m.chs.length (chRow m.chs)) (hr2 : w.ownsRow B' 82 6 (.slice D3 m.chs.length d3) m.chs.length (chRow m.chs)) :
    Calls Tryz.prog 9 #[.agg (RMsg m A1 n1 c1 A2 n2 c2 A3 c3), .agg (RMsg m D1 k1 d1 D2 k2 d2 D3 d3)] w fun e w' => e = .returned (.bool true) ∧ Below w.heap.size w w' := by
  obtain ⟨w0, hw0⟩ : ∃ w0, (w.alloc (.cells #[.int .u8 m.kind, .string m.uri, .int .i64 m.version, .string m.text, .int .i64 m.line, .int .i64 m.char, .int .i64 m.width, .int .u8 m.id.kind, .string m.id.text, .slice A1 n1 c1, .slice A2 n2 c2, .slice A3 m.chs.length c3] 40)).alloc (.cells #[.int .u8 m.kind, .string m.uri, .int .i64 m.version, .string m.text, .int .i64 m.line, .int .i64 m.char, .int .i64 m.width, .int .u8 m.id.kind, .string m.id.text, .slice D1 k1 d1, .slice D2 k2 d2, .slice D3 m.chs.length d3] 40) = w0 := ⟨_, rfl⟩
  have hB0 : Below w.heap.size w w0 := by rw [← hw0]; exact ((Below.refl _ _).alloc (Nat.le_refl _) _).alloc (by simp) _
  have hM1 : Cel w0 w.heap.size 40 #[.int .u8 m.kind, .string m.uri, .int .i64 m.version, .string m.text, .int .i64 m.line, .int .i64 m.char, .int .i64 m.width, .int .u8 m.id.kind, .string m.id.text, .slice A1 n1 c1, .slice A2 n2 c2, .slice A3 m.chs.length c3] := by rw [← hw0]; exact (Cel.fresh _ _ _).alloc _
  have hM2 : Cel w0 (w.heap.size + 1) 40 #[.int .u8 m.kind, .string m.uri, .int .i64 m.version, .string m.text, .int .i64 m.line, .int .i64 m.char, .int .i64 m.width, .int .u8 m.id.kind, .string m.id.text, .slice D1 k1 d1, .slice D2 k2 d2, .slice D3 m.chs.length d3] := by
    rw [← hw0]
    have := Cel.fresh (w.alloc (.cells #[.int .u8 m.kind, .string m.uri, .int .i64 m.version, .string m.text, .int .i64 m.line, .int .i64 m.char, .int .i64 m.width, .int .u8 m.id.kind, .string m.id.text, .slice A1 n1 c1, .slice A2 n2 c2, .slice A3 m.chs.length c3] 40)) 40 #[.int .u8 m.kind, .string m.uri, .int .i64 m.version, .string m.text, .int .i64 m.line, .int .i64 m.char, .int .i64 m.width, .int .u8 m.id.kind, .string m.id.text, .slice D1 k1 d1, .slice D2 k2 d2, .slice D3 m.chs.length d3]
    simpa using this
  have hs : jsame m.id m.id = true := jsame_refl _
  have hcall := refSame8_any m.id m.id X Y w0 _ _ _ _ (hV.later hB0) (hU.later hB0) (by omega) (by omega)
  rw [hs] at hcall
  replace hcall := Lib.hid hcall
  have p0 := hM1.cell 0
  have p1 := hM1.cell 1
  have p2 := hM1.cell 2
  have p3 := hM1.cell 3
  have p4 := hM1.cell 4
  have p5 := hM1.cell 5
  have p6 := hM1.cell 6
  have p7 := hM1.cell 7
  have p8 := hM1.cell 8
  have p9 := hM1.cell 9
  have p10 := hM1.cell 10
  have p11 := hM1.cell 11
  have r0 := hM2.cell 0
  have r1 := hM2.cell 1
  have r2 := hM2.cell 2
  have r3 := hM2.cell 3
  have r4 := hM2.cell 4
  have r5 := hM2.cell 5
  have r6 := hM2.cell 6
  have r7 := hM2.cell 7
  have r8 := hM2.cell 8
  have r9 := hM2.cell 9
  have r10 := hM2.cell 10
  have r11 := hM2.cell 11
  simp only [List.getElem?_toArray, List.getElem?_cons_zero, List.getElem?_cons_succ] at p0 r0 p1 r1 p2 r2 p3 r3 p4 r4 p5 r5 p6 r6 p7 r7 p8 r8 p9 r9 p10 r10 p11 r11
  replace hw0 := Lib.hid hw0
  replace hB0 := Lib.hid hB0
  replace hM1 := Lib.hid hM1
  replace hM2 := Lib.hid hM2
  replace hr1 := Lib.hid hr1
  replace hr2 := Lib.hid hr2
  clear hV hU hs
  unfold RMsg
  go_enter Tryz.func9, Tryz.ntmps9
  go_upto_region 1 with fail
  rw [hw0.out]
  clear hw0
  go_wp2_with fail
  refine hcall.out.mono ?_
  rintro e w1 ⟨rfl, hB1⟩
  have hN1 := hM1.out.below hB1 hM1.out.lt
  have hN2 := hM2.out.below hB1 hM2.out.lt
  have q11 : w1.cell? ⟨w.heap.size, 11, none⟩ = some (.slice A3 m.chs.length c3) := hN1.cell 11
  have s11 : w1.cell? ⟨w.heap.size + 1, 11, none⟩ = some (.slice D3 m.chs.length d3) := hN2.cell 11
  have hBt := Lib.hid (hB0.out.trans (hB1.mono hB0.out.size))
  have hlt1 := hN1.lt
  have hlt2 := hN2.lt
  clear hcall hB1 hN1 hN2 p0 r0 p1 r1 p2 r2 p3 r3 p4 r4 p5 r5 p6 r6 p7 r7 p8 r8 p9 r9 p10 r10 p11 r11
  go_wp2_with fail
  go_loopw [5] (fun i wr => ∃ q : Nat, q ≤ m.chs.length ∧ i = .int .i64 q ∧ Below w1.heap.size w1 wr) (fun i _ => m.chs.length - (intOf i).toNat)
  case atStart => exact ⟨0, Nat.zero_le _, rfl, Below.refl _ _⟩
  case round =>
    obtain ⟨q, hq, rfl, hB⟩ := hrel
    have hBw := hBt.out.trans (hB.mono hBt.out.size)
    have q11' : wr.cell? ⟨w.heap.size, 11, none⟩ = some (.slice A3 m.chs.length c3) := (World.cell?_of_block (w := w1) (hB.block _ hlt1)).trans q11
    have s11' : wr.cell? ⟨w.heap.size + 1, 11, none⟩ = some (.slice D3 m.chs.length d3) := (World.cell?_of_block (w := w1) (hB.block _ hlt2)).trans s11
    by_cases hlt : q < m.chs.length
    · obtain ⟨c, hc⟩ : ∃ x, m.chs[q]? = some x := ⟨_, List.getElem?_eq_getElem hlt⟩
      obtain ⟨g, o, hgo, e0, e1, e2, e3, e4, e5⟩ := chrow_cells hr1.out hBw hc
      obtain ⟨h, x, hhx, f0, f1, f2, f3, f4, f5⟩ := chrow_cells hr2.out hBw hc
      subst hgo hhx
      have hq0 : (0 : Int) ≤ (q : Int) := by omega
      have hq1 : (q : Int) < (m.chs.length : Int) := by omega
      replace hB := Lib.hid hB
      clear hBw hc q11 s11
      go_wp2_with fail
      refine wp_region_held_drew (S := fun W => ∀ p, W.cell? p = wr.cell? p) (by kernel_rfl) (fun _ => rfl) (fun hS => ?_)
      try dsimp only at hS
      refine hTake (i := 0) (v := .pointer (some ⟨w.heap.size, 11, none⟩)) rfl (by kernel_rfl) (by kernel_rfl) (by kernel_rfl) (fun _ _ _ h => h) (Or.inl ⟨by rfl, by
        intro w' hSw
        try dsimp only at hSw
        go_simp⟩) hS ?_
      try simp only [Act.put, List.setIfInBounds_toArray, List.set_cons_zero, List.set_cons_succ]
      refine hTake (i := 1) (v := .slice (some ⟨g, o, none⟩) m.chs.length c3) rfl (by kernel_rfl) (by kernel_rfl) (by kernel_rfl) (fun _ _ _ h => h) (Or.inl ⟨by rfl, by
        intro w' hSw
        try dsimp only at hSw
        have z_q11' := (hSw _).trans q11'
        go_simp⟩) hS ?_
      try simp only [Act.put, List.setIfInBounds_toArray, List.set_cons_zero, List.set_cons_succ]
      refine hTake (i := 2) (v := .int .i64 q) rfl (by kernel_rfl) (by kernel_rfl) (by kernel_rfl) (fun _ _ _ h => h) (Or.inl ⟨by rfl, by
        intro w' hSw
        try dsimp only at hSw
        go_simp⟩) hS ?_
      try simp only [Act.put, List.setIfInBounds_toArray, List.set_cons_zero, List.set_cons_succ]
      refine hTake (i := 3) (v := .pointer (some ⟨g, o + q * 6, none⟩)) rfl (by kernel_rfl) (by kernel_rfl) (by kernel_rfl) (fun _ _ _ h => h) (Or.inl ⟨by rfl, by
        intro w' hSw
        try dsimp only at hSw
        go_simp⟩) hS ?_
      try simp only [Act.put, List.setIfInBounds_toArray, List.set_cons_zero, List.set_cons_succ]
      refine hTake (i := 4) (v := .agg #[.bool c.whole, .int .i64 c.a, .int .i64 c.b, .int .i64 c.c, .int .i64 c.d, .string c.t]) rfl (by kernel_rfl) (by kernel_rfl) (by kernel_rfl) (fun _ _ _ h => h) (Or.inl ⟨by rfl, by
        intro w' hSw
        try dsimp only at hSw
        have z_e0 := (hSw _).trans e0
        have z_e1 := (hSw _).trans e1
        have z_e2 := (hSw _).trans e2
        have z_e3 := (hSw _).trans e3
        have z_e4 := (hSw _).trans e4
        have z_e5 := (hSw _).trans e5
        go_simp⟩) hS ?_
      try simp only [Act.put, List.setIfInBounds_toArray, List.set_cons_zero, List.set_cons_succ]
      refine hTake (i := 5) (v := .pointer (some ⟨w.heap.size + 1, 11, none⟩)) rfl (by kernel_rfl) (by kernel_rfl) (by kernel_rfl) (fun _ _ _ h => h) (Or.inl ⟨by rfl, by
        intro w' hSw
        try dsimp only at hSw
        go_simp⟩) hS ?_
      try simp only [Act.put, List.setIfInBounds_toArray, List.set_cons_zero, List.set_cons_succ]
      refine hTake (i := 6) (v := .slice (some ⟨h, x, none⟩) m.chs.length d3) rfl (by kernel_rfl) (by kernel_rfl) (by kernel_rfl) (fun _ _ _ h => h) (Or.inl ⟨by rfl, by
        intro w' hSw
        try dsimp only at hSw
        have z_s11' := (hSw _).trans s11'
        go_simp⟩) hS ?_
      try simp only [Act.put, List.setIfInBounds_toArray, List.set_cons_zero, List.set_cons_succ]
      refine hTake (i := 7) (v := .int .i64 q) rfl (by kernel_rfl) (by kernel_rfl) (by kernel_rfl) (fun _ _ _ h => h) (Or.inl ⟨by rfl, by
        intro w' hSw
        try dsimp only at hSw
        go_simp⟩) hS ?_
      try simp only [Act.put, List.setIfInBounds_toArray, List.set_cons_zero, List.set_cons_succ]
      refine hTake (i := 8) (v := .pointer (some ⟨h, x + q * 6, none⟩)) rfl (by kernel_rfl) (by kernel_rfl) (by kernel_rfl) (fun _ _ _ h => h) (Or.inl ⟨by rfl, by
        intro w' hSw
        try dsimp only at hSw
        go_simp⟩) hS ?_
      try simp only [Act.put, List.setIfInBounds_toArray, List.set_cons_zero, List.set_cons_succ]
      refine hTake (i := 9) (v := .agg #[.bool c.whole, .int .i64 c.a, .int .i64 c.b, .int .i64 c.c, .int .i64 c.d, .string c.t]) rfl (by kernel_rfl) (by kernel_rfl) (by kernel_rfl) (fun _ _ _ h => h) (Or.inl ⟨by rfl, by
        intro w' hSw
        try dsimp only at hSw
        have z_f0 := (hSw _).trans f0
        have z_f1 := (hSw _).trans f1
        have z_f2 := (hSw _).trans f2
        have z_f3 := (hSw _).trans f3
        have z_f4 := (hSw _).trans f4
        have z_f5 := (hSw _).trans f5
        go_simp⟩) hS ?_
      try simp only [Act.put, List.setIfInBounds_toArray, List.set_cons_zero, List.set_cons_succ]
      refine hTake (i := 10) (v := .bool false) rfl (by kernel_rfl) (by kernel_rfl) (by kernel_rfl) (fun _ _ _ h => h) (Or.inl ⟨by rfl, by
        intro w' hSw
        try dsimp only at hSw
        go_simp⟩) hS ?_
      try simp only [Act.put, List.setIfInBounds_toArray, List.set_cons_zero, List.set_cons_succ]
      refine wpAnyH_done (by kernel_rfl) ?_ _
      clear hS
      go_wp2_with fail
      go_roundw
      case rel => exact ⟨q + 1, by omega, by go_num, ⟨hB.out.os, hB.out.tape, hB.out.output, hB.out.size, hB.out.block⟩⟩
      case measure => simp [intOf]; omega
    · have hq1 : ¬ (q : Int) < (m.chs.length : Int) := by omega
      replace hBw := Lib.hid hBw
      clear hB
      go_wp2_with fail
      exact bodyPost_ret (v := .bool true) (by simp [results, Tryz.results9, go_sem]) rfl ⟨rfl, hBw.out⟩
end Go.Proofs.YtlnkjacbdolhnaaGreatDoor
