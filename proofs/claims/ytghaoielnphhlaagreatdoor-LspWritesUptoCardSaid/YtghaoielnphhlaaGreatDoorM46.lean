/-
  rostrumlaw08.awake answers true: by contracts.
-/
import Derived.Test.YtghaoielnphhlaaGreatDoorLmK
import Derived.Test.YtghaoielnphhlaaGreatDoorM45
import Derived.Test.YtghaoielnphhlaaGreatDoorRows
import Derived.Test.YtghaoielnphhlaaGreatDoorM00
import Derived.Deep.Strs
import Derived.ProofKit
import Derived.Carry
import Derived.Test.YtghaoielnphhlaaGreatDoorLwF
namespace Go.Proofs.YtghaoielnphhlaaGreatDoor
open Go.RowKit

def aA : ByteArray := ⟨#[97]⟩
theorem dec_one : ldec mName6 (askedJ aA 1 2) = (⟨6, aA, 0, ⟨#[]⟩, 1, 2, 0, ⟨0, ⟨#[]⟩, [], []⟩, []⟩, 0) := by kernel_rfl
theorem dec_two : ldec mName6 (askedJ aA 1 (-2)) = (zeroLM 0, 69) := by kernel_rfl
theorem asked_bulk (u : ByteArray) (a b : Int) (ha : I64 a) (hb : I64 b) (hu : u.size ≤ 1048576) : jbulk (askedJ u a b) ≤ 1000000000000 := by
  have h1 := pos_bulk8 a b ha hb
  have h2 := str_bulk8 u
  have h3 : jbulk (mkO [yUri] [strJ u]) ≤ 1200000 := Nat.le_trans (obj_bulk8 _ _ (a := 90) (b := 1100000) (by decide) (by rw [bulks_cons, bulks_nil]; omega)) (by omega)
  exact Nat.le_trans (obj_bulk8 _ _ (a := 90) (b := 1300000) (by decide) (by rw [bulks_cons, bulks_cons, bulks_nil]; omega)) (by omega)
theorem text_three : (⟨(ofNL 3).toArray⟩ : ByteArray) = ⟨#[51]⟩ := by kernel_rfl
/-- What lies where in a place's value. -/
theorem place_cells {w : World} {X : Nat → Prop} {vn vl : Value} (h : JV w X (placeJ 3 []) vn vl) : ∃ gn on cn gl ol cl, vn = .slice (some ⟨gn, on, none⟩) 2 cn ∧ vl = .slice (some ⟨gl, ol, none⟩) 2 cl ∧ gn < w.heap.size ∧ gl < w.heap.size ∧
    w.cell? ⟨gn, on, none⟩ = some (.string lVersion) ∧ w.cell? ⟨gl, ol + 1, none⟩ = some (.string ⟨#[51]⟩) ∧ w.cell? ⟨gl, ol + 4, none⟩ = some (.int .u8 1) := by
  obtain ⟨A, c, e1, h1⟩ := h.names
  obtain ⟨gn, on, rfl, _, hg, hc⟩ := h1 (by decide)
  obtain ⟨A2, c2, zs, e2, hz, h2, h3⟩ := JV.elems (show JV w X ⟨7, ⟨#[]⟩, [lVersion, lRange], [numJ 3, placeR []]⟩ vn vl from h)
  have hlen : zs.length = 2 := by have := congrArg List.length hz; simpa using this
  obtain ⟨gl, ol, rfl, _, hg2, hc2⟩ := h3 (by omega)
  match zs, hz, hlen with
  | [z0, z1], hz, _ =>
    simp at hz
    have a1 := hc2 0 z0 rfl 1 (.string z0.1.text) rfl
    have a2 := hc2 1 z1 rfl 0 (.int .u8 z1.1.kind) rfl
    rw [hz.1] at a1
    rw [hz.2] at a2
    refine ⟨gn, on, c, gl, ol, c2, e1, by simpa using e2, hg, hg2, by simpa using hc 0 lVersion rfl, ?_, ?_⟩
    · have : (numJ 3).text = ⟨#[51]⟩ := text_three
      rw [this] at a1
      simpa using a1
    · simpa [placeR] using a2
set_option maxRecDepth 100000 in
set_option maxHeartbeats 8000000 in
theorem awake8_any (w : World) (hE : Env w) : Calls Tryz.prog 7 #[] w fun e w' => e = .returned (.bool true) ∧ Below w.heap.size w w' := by
  have hAsk1 := Lib.hid (asked_any aA 1 2 w hE ⟨by omega, by omega⟩ ⟨by omega, by omega⟩)
  have hAsk2 := Lib.hid (fun (W : World) (hb : Below w.heap.size w W) => asked_any aA 1 (-2) W (hE.below hb) ⟨by omega, by omega⟩ ⟨by omega, by omega⟩)
  have hPlace := Lib.hid (fun (W : World) (hb : Below w.heap.size w W) => lspPlace_any 3 [] none 0 0 W (hE.below hb) ⟨by omega, by omega⟩ (fun i p h => by simp at h) (fun h => by simp at h) (fun p h => by cases h) (by simp))
  have hb1 := asked_bulk aA 1 2 ⟨by omega, by omega⟩ ⟨by omega, by omega⟩ (by decide)
  have hb2 := asked_bulk aA 1 (-2) ⟨by omega, by omega⟩ ⟨by omega, by omega⟩ (by decide)
  clear hE
  go_enter Tryz.func7, Tryz.ntmps7
  go_wp2_with fail
  refine hAsk1.out.mono ?_
  rintro e w1 ⟨un, ul, he, hJ1, hB1⟩
  unfold askedJ mkO at he
  dsimp only at he
  subst he
  obtain ⟨A, n, c, A', n', c', rfl, rfl⟩ := hJ1.forms
  have hdec := Lib.hid (lspDecode_any mName6 _ _ w1 _ _ hJ1 hb1 (fun h => absurd h (by decide)))
  replace hB1 := Lib.hid hB1
  clear hAsk1 hJ1 hb1
  go_wp2_with fail
  refine hdec.out.mono ?_
  rintro e w2 ⟨idn, idl, chv, he, hJ2, hrow2, hB2⟩
  rw [dec_one] at he hJ2 hrow2
  unfold mCells at he
  dsimp only at he
  subst he
  obtain ⟨I1, i1, i2, I2, i3, i4, rfl, rfl⟩ := hJ2.forms
  obtain ⟨CA, ca, cc, rfl⟩ : ∃ A n c, chv = .slice A n c := by
    rcases hrow2.2 with ⟨e, _⟩ | ⟨g, cap, cur, e, _⟩
    · exact ⟨_, _, _, e⟩
    · exact ⟨_, _, _, e⟩
  obtain ⟨w3, hw3⟩ : ∃ W, w2.alloc (.cells #[.int .u8 6, .string aA, .int .i64 0, .string ⟨#[]⟩, .int .i64 1, .int .i64 2, .int .i64 0, .int .u8 0, .string ⟨#[]⟩, .slice I1 i1 i2, .slice I2 i3 i4, .slice CA ca cc] 32) = W := ⟨_, rfl⟩
  have hC3 : Cel w3 w2.heap.size 32 #[.int .u8 6, .string aA, .int .i64 0, .string ⟨#[]⟩, .int .i64 1, .int .i64 2, .int .i64 0, .int .u8 0, .string ⟨#[]⟩, .slice I1 i1 i2, .slice I2 i3 i4, .slice CA ca cc] := by rw [← hw3]; exact Cel.fresh _ _ _
  have hB3 : Below w.heap.size w w3 := by
    rw [← hw3]
    exact (hB1.out.trans (hB2.mono hB1.out.size)).alloc (Nat.le_trans hB1.out.size hB2.size) _
  replace hw3 := Lib.hid hw3
  replace hC3 := Lib.hid hC3
  replace hB3 := Lib.hid hB3
  clear hJ2 hrow2 hB2 hdec hB1
  go_upto_region 2 with fail
  rw [hw3.out]
  clear hw3
  go_wp2_with fail
  refine (hAsk2.out w3 hB3.out).mono ?_
  rintro e w4 ⟨vn, vl, he, hJ4, hB4⟩
  unfold askedJ mkO at he
  dsimp only at he
  subst he
  obtain ⟨A, n, c, A', n', c', rfl, rfl⟩ := hJ4.forms
  have hdec := Lib.hid (lspDecode_any mName6 _ _ w4 _ _ hJ4 hb2 (fun h => absurd h (by decide)))
  have hC4 := Lib.hid (hC3.out.below hB4 hC3.out.lt)
  replace hB4 := Lib.hid (hB3.out.trans (hB4.mono hB3.out.size))
  clear hAsk2 hJ4 hb2 hC3 hB3
  go_wp2_with fail
  refine hdec.out.mono ?_
  rintro e w5 ⟨idn, idl, chv, he, hJ5, hrow5, hB5⟩
  rw [dec_two] at he hJ5 hrow5
  unfold mCells zeroLM at he
  dsimp only at he
  subst he
  obtain ⟨K1, k1, k2, K2, k3, k4, rfl, rfl⟩ := hJ5.forms
  obtain ⟨CB, cb, cd, rfl⟩ : ∃ A n c, chv = .slice A n c := by
    rcases hrow5.2 with ⟨e, _⟩ | ⟨g, cap, cur, e, _⟩
    · exact ⟨_, _, _, e⟩
    · exact ⟨_, _, _, e⟩
  obtain ⟨w6, hw6⟩ : ∃ W, w5.alloc (.cells #[.int .u8 0, .string ⟨#[]⟩, .int .i64 0, .string ⟨#[]⟩, .int .i64 0, .int .i64 0, .int .i64 0, .int .u8 0, .string ⟨#[]⟩, .slice K1 k1 k2, .slice K2 k3 k4, .slice CB cb cd] 32) = W := ⟨_, rfl⟩
  have hb56 : Below w5.heap.size w5 w6 := by rw [← hw6]; exact (Below.refl _ _).alloc (Nat.le_refl _) _
  have hC6 := (hC4.out.below hB5 hC4.out.lt).below hb56 (Nat.lt_of_lt_of_le hC4.out.lt hB5.size)
  have hB6 : Below w.heap.size w w6 := (hB4.out.trans (hB5.mono hB4.out.size)).trans (hb56.mono (Nat.le_trans hB4.out.size hB5.size))
  replace hw6 := Lib.hid hw6
  replace hC6 := Lib.hid hC6
  replace hB6 := Lib.hid hB6
  clear hJ5 hrow5 hB5 hdec hB4 hb56 hC4
  go_upto_region 3 with fail
  rw [hw6.out]
  clear hw6
  go_wp2_with fail
  refine (hPlace.out w6 hB6.out).mono ?_
  rintro e w7 ⟨xn, xl, he, hO, hB7⟩
  obtain ⟨gn, on, cn, gl, ol, cl, rfl, rfl, hgn, hgl, hc1, hc2, hc3⟩ := place_cells (OwnJ.jv _ hO)
  unfold placeJ mkO at he
  dsimp only at he
  subst he
  have hC7 := hC6.out.below hB7 hC6.out.lt
  have hB8 := Lib.hid (hB6.out.trans (hB7.mono hB6.out.size))
  obtain ⟨w8, hw8⟩ : ∃ W, w7.alloc (.cells #[.int .u8 7, .string ⟨#[]⟩, .slice (some ⟨gn, on, none⟩) 2 cn, .slice (some ⟨gl, ol, none⟩) 2 cl] 25) = W := ⟨_, rfl⟩
  have hb78 : Below w7.heap.size w7 w8 := by rw [← hw8]; exact (Below.refl _ _).alloc (Nat.le_refl _) _
  have hC8 := hC7.below hb78 hC7.lt
  have hP8 : Cel w8 w7.heap.size 25 #[.int .u8 7, .string ⟨#[]⟩, .slice (some ⟨gn, on, none⟩) 2 cn, .slice (some ⟨gl, ol, none⟩) 2 cl] := by rw [← hw8]; exact Cel.fresh _ _ _
  have d1 : w8.cell? ⟨gn, on, none⟩ = some (.string lVersion) := (hb78.cell (p := ⟨gn, on, none⟩) hgn).trans hc1
  have d2 : w8.cell? ⟨gl, ol + 1, none⟩ = some (.string ⟨#[51]⟩) := (hb78.cell (p := ⟨gl, ol + 1, none⟩) hgl).trans hc2
  have d3 : w8.cell? ⟨gl, ol + 4, none⟩ = some (.int .u8 1) := (hb78.cell (p := ⟨gl, ol + 4, none⟩) hgl).trans hc3
  have m0 : w8.cell? ⟨w2.heap.size, 0, none⟩ = some (.int .u8 6) := hC8.cell 0
  have m1 : w8.cell? ⟨w2.heap.size, 1, none⟩ = some (.string aA) := hC8.cell 1
  have m4 : w8.cell? ⟨w2.heap.size, 4, none⟩ = some (.int .i64 1) := hC8.cell 4
  have m5 : w8.cell? ⟨w2.heap.size, 5, none⟩ = some (.int .i64 2) := hC8.cell 5
  have n2 : w8.cell? ⟨w7.heap.size, 2, none⟩ = some (.slice (some ⟨gn, on, none⟩) 2 cn) := hP8.cell 2
  have n3 : w8.cell? ⟨w7.heap.size, 3, none⟩ = some (.slice (some ⟨gl, ol, none⟩) 2 cl) := hP8.cell 3
  have hB9 := Lib.hid (hB8.out.trans (hb78.mono hB8.out.size))
  have hMeth := Lib.hid (show Calls Tryz.prog 38 #[.int .u8 4] w8 (fun e w' => e = .returned (.string ⟨#[116, 101, 120, 116, 68, 111, 99, 117, 109, 101, 110, 116, 47, 114, 101, 110, 97, 109, 101]⟩) ∧ Below w8.heap.size w8 w') from lspMethod4_any w8)
  replace hw8 := Lib.hid hw8
  clear hC7 hC8 hP8 hb78 hc1 hc2 hc3 hO hB7 hB8 hC6 hB6 hPlace hgn hgl
  go_upto_region 4 with fail
  rw [hw8.out]
  clear hw8
  unfold aA at m1
  unfold lVersion at d1
  go_wp2_with fail
  refine hMeth.out.mono ?_
  rintro e w9 ⟨rfl, hB10⟩
  have hfin := Lib.hid (hB9.out.trans (hB10.mono hB9.out.size))
  clear hMeth hB10 hB9 m0 m1 m4 m5 n2 n3 d1 d2 d3
  go_wp2_with fail
  exact bodyPost_ret (v := .bool true) (by simp [results, Tryz.results7, go_sem]) rfl ⟨rfl, hfin.out⟩
end Go.Proofs.YtghaoielnphhlaaGreatDoor


/-
  An argument that is a JSON value: opened; what a bound on what is read bounds.
-/
namespace Go.Proofs.YtghaoielnphhlaaGreatDoor
open Go.ChangeShapes Go.WideShapes Go.ChangeAt Go.RowKit
open Go.WideMaps Go.WideElems
variable {H : Type} {enc : TypeId × Value → H}

theorem cell_addr {w : World} {a : Addr} {v : Value} (h : w.cell? a = some v) : a.spot = none ∧ a.block < w.heap.size := by
  refine ⟨?_, World.block_lt_of_cell? w _ h⟩
  unfold World.cell? at h
  split at h
  · rcases hs : a.spot with _ | s
    · rfl
    · rw [hs] at h; simp at h
  · cases h
theorem bulk_mem {d : DataW H} : ∀ {l : List (DataW H)}, d ∈ l → Rows.uptoBulk d ≤ Rows.uptoBulkAll l
  | [], h => by cases h
  | x :: r, h => by
    simp only [Rows.uptoBulkAll]
    rcases List.mem_cons.1 h with rfl | h
    · omega
    · have := bulk_mem h; omega
set_option maxRecDepth 100000 in
theorem laidOutJ : laidOutB Tryz.prog = true := by kernel_rfl
end Go.Proofs.YtghaoielnphhlaaGreatDoor


/-
  An argument that is a row of the document's parts: opened.
-/
namespace Go.Proofs.YtghaoielnphhlaaGreatDoor
open Go.ChangeShapes Go.WideShapes Go.ChangeAt Go.RowKit
open Go.WideMaps Go.WideElems
variable {H : Type} {enc : TypeId × Value → H}

theorem trod_two8 {P : Program} {w : World} {base : Nat} {spare : Nat → Bool} {held : Bool} {t : TypeId} {f0 f1 : Field} {fuel : Nat} {cs : List Value} {x : DataW H × List MemPlace} (ht : P.underlying t = some (.struct #[f0, f1])) (h : DataW.trod enc P w base spare held fuel t cs = some x) :
    ∃ y0 y1 n, cs.length = P.cellsOf t ∧ DataW.trod enc P w base spare held n f0.type ((cs.drop f0.offset).take (P.cellsOf f0.type)) = some y0 ∧
      DataW.trod enc P w base spare held n f1.type ((cs.drop f1.offset).take (P.cellsOf f1.type)) = some y1 := by
  obtain ⟨xs, n, _, rfl, hl, hlen, hf⟩ := DataW.trod_struct ht h
  match xs, hlen with
  | [y0, y1], _ => exact ⟨y0, y1, n, hl, by simpa using hf 0 f0 rfl, by simpa using hf 1 f1 rfl⟩
theorem trod_three8 {P : Program} {w : World} {base : Nat} {spare : Nat → Bool} {held : Bool} {t : TypeId} {f0 f1 f2 : Field} {fuel : Nat} {cs : List Value} {x : DataW H × List MemPlace} (ht : P.underlying t = some (.struct #[f0, f1, f2])) (h : DataW.trod enc P w base spare held fuel t cs = some x) :
    ∃ y0 y1 y2 n, x.1 = .agg [y0.1, y1.1, y2.1] ∧ cs.length = P.cellsOf t ∧ DataW.trod enc P w base spare held n f0.type ((cs.drop f0.offset).take (P.cellsOf f0.type)) = some y0 ∧
      DataW.trod enc P w base spare held n f1.type ((cs.drop f1.offset).take (P.cellsOf f1.type)) = some y1 ∧ DataW.trod enc P w base spare held n f2.type ((cs.drop f2.offset).take (P.cellsOf f2.type)) = some y2 := by
  obtain ⟨xs, n, _, rfl, hl, hlen, hf⟩ := DataW.trod_struct ht h
  match xs, hlen with
  | [y0, y1, y2], _ => exact ⟨y0, y1, y2, n, rfl, hl, by simpa using hf 0 f0 rfl, by simpa using hf 1 f1 rfl, by simpa using hf 2 f2 rfl⟩
theorem i64_wf {k : Int} (h : (Lit.int .i64 k).wf = true) : I64 k := by
  have hm : IntKind.min .i64 = -9223372036854775808 := by decide
  have hM : IntKind.max .i64 = 9223372036854775807 := by decide
  simp [Lit.wf, hm, hM] at h
  exact ⟨by omega, by omega⟩
set_option maxRecDepth 100000 in
theorem open_pos8 {W : World} {fuel : Nat} {cs : List Value} {d : DataW H × List MemPlace} (h : DataW.trod enc Tryz.prog W 0 (fun _ => true) true fuel 29 cs = some d) : ∃ a b : Int, cs = [.int .i64 a, .int .i64 b] ∧ I64 a ∧ I64 b := by
  have c2 : Tryz.prog.cellsOf 29 = 2 := by kernel_rfl
  have c1 : Tryz.prog.cellsOf 3 = 1 := by kernel_rfl
  obtain ⟨y0, y1, n, hlen, h0, h1⟩ := trod_two8 Tryz.underlying29 h
  dsimp only at h0 h1
  rw [c2] at hlen
  rw [c1] at h0 h1
  match cs, hlen with
  | [v0, v1], _ =>
  simp only [List.drop_zero, List.drop_succ_cons, List.take_succ_cons, List.take_zero] at h0 h1
  obtain ⟨a, e0, rfl, ha⟩ := DataW.trod_int Tryz.underlying3 h0
  obtain ⟨b, e1, rfl, hb⟩ := DataW.trod_int Tryz.underlying3 h1
  injection e0 with e0
  injection e1 with e1
  subst e0
  subst e1
  exact ⟨a, b, rfl, i64_wf ha, i64_wf hb⟩
set_option maxRecDepth 100000 in
theorem open_range8 {W : World} {fuel : Nat} {cs : List Value} {x : DataW H × List MemPlace} (h : DataW.trod enc Tryz.prog W 0 (fun _ => true) true fuel 77 cs = some x) : ∃ a b c d : Int, cs = [.int .i64 a, .int .i64 b, .int .i64 c, .int .i64 d] ∧ I64 a ∧ I64 b ∧ I64 c ∧ I64 d := by
  have c4 : Tryz.prog.cellsOf 77 = 4 := by kernel_rfl
  have c2 : Tryz.prog.cellsOf 29 = 2 := by kernel_rfl
  obtain ⟨y0, y1, n, hlen, h0, h1⟩ := trod_two8 Tryz.underlying77 h
  dsimp only at h0 h1
  rw [c4] at hlen
  rw [c2] at h0 h1
  match cs, hlen with
  | [v0, v1, v2, v3], _ =>
  simp only [List.drop_zero, List.drop_succ_cons, List.take_succ_cons, List.take_zero] at h0 h1
  obtain ⟨a, b, e0, ha, hb⟩ := open_pos8 h0
  obtain ⟨c, d, e1, hc, hd⟩ := open_pos8 h1
  injection e0 with e00 e01
  injection e01 with e01
  injection e1 with e10 e11
  injection e11 with e11
  subst e00
  subst e01
  subst e10
  subst e11
  exact ⟨a, b, c, d, rfl, ha, hb, hc, hd⟩
set_option maxRecDepth 100000 in
theorem open_part8 {W : World} {fuel : Nat} {cs : List Value} {d : DataW H} {p : List MemPlace} (h : DataW.trod enc Tryz.prog W 0 (fun _ => true) true fuel 90 cs = some (d, p)) : ∃ q : Pt, cs = ptCells q ∧ PtOK q ∧ q.s.size ≤ Rows.uptoBulk d := by
  have c6 : Tryz.prog.cellsOf 90 = 6 := by kernel_rfl
  have c4 : Tryz.prog.cellsOf 77 = 4 := by kernel_rfl
  have c1 : Tryz.prog.cellsOf 3 = 1 := by kernel_rfl
  have c9 : Tryz.prog.cellsOf 9 = 1 := by kernel_rfl
  obtain ⟨y0, y1, y2, n, hx, hlen, h0, h1, h2⟩ := trod_three8 Tryz.underlying90 h
  dsimp only at hx h0 h1 h2
  rw [c6] at hlen
  rw [c4] at h0
  rw [c1] at h1
  rw [c9] at h2
  match cs, hlen with
  | [v0, v1, v2, v3, v4, v5], _ =>
  simp only [List.drop_zero, List.drop_succ_cons, List.take_succ_cons, List.take_zero] at h0 h1 h2
  obtain ⟨a, b, c, e, e0, ha, hb, hc, he⟩ := open_range8 h0
  obtain ⟨k, e1, rfl, hk⟩ := DataW.trod_int Tryz.underlying3 h1
  obtain ⟨s, e2, rfl, hs⟩ := DataW.trod_string Tryz.underlying9 h2
  injection e0 with e00 e0
  injection e0 with e01 e0
  injection e0 with e02 e0
  injection e0 with e03 e0
  injection e1 with e1
  injection e2 with e2
  subst e00
  subst e01
  subst e02
  subst e03
  subst e1
  subst e2
  refine ⟨⟨a, b, c, e, k, s⟩, rfl, ⟨ha, hb, hc, he, i64_wf hk⟩, ?_⟩
  subst hx
  simp only [Rows.uptoBulk, Rows.uptoBulkAll, Array.length_toList]
  show s.data.size ≤ _
  omega
theorem part_cells8 (q : Pt) : (ptCells q).length = 6 := rfl
set_option maxRecDepth 100000 in
theorem open_parts8 {W : World} {base : Nat} {v : Value} {d : DataW H} {p : List MemPlace} (hv : Value.okWide Tryz.prog W .any base 43 v) (h : DataW.Trod enc Tryz.prog W 0 (fun _ => true) true 43 v d p) :
    ∃ (ps : List Pt) (A : Option Addr) (g o c : Nat), v = .slice A ps.length c ∧ PRow W g o ps ∧ (0 < ps.length → A = some ⟨g, o, none⟩ ∧ g < W.heap.size) ∧ (∀ q ∈ ps, PtOK q) ∧ ∀ q ∈ ps, q.s.size ≤ Rows.uptoBulk d := by
  have c6 : Tryz.prog.cellsOf 90 = 6 := by kernel_rfl
  obtain ⟨a0, len0, cap0, rfl⟩ := okWide_slice Tryz.underlying43 hv
  obtain ⟨fuel, hf⟩ := h
  rcases Go.Deep.open_slice Tryz.underlying43 hf with ⟨e3, hdp⟩ | ⟨a, len, cap, m, n', D, Pl, e3, _, hlc, _, hm, hdp, hel⟩
  · simp [Value.cells] at e3
    obtain ⟨rfl, rfl, rfl⟩ := e3
    exact ⟨[], none, 0, 0, 0, rfl, (fun i q hq => by simp at hq), (fun h => by simp at h), (fun q hq => by cases hq), (fun q hq => by cases hq)⟩
  · simp [Value.cells] at e3
    obtain ⟨rfl, rfl, rfl⟩ := e3
    have hd := (Prod.mk.inj hdp).1
    simp only [if_true] at hm
    subst hm
    rw [c6] at hel
    haveI : Inhabited Pt := ⟨⟨0, 0, 0, 0, 0, ⟨#[]⟩⟩⟩
    have each : ∀ i, i < len0 → ∃ q : Pt, W.cells? 0 (a.add (i * 6)) 6 = some (ptCells q) ∧ PtOK q ∧ q.s.size ≤ Rows.uptoBulk (D i) := fun i hi => by
      obtain ⟨cs', hc1, hc2⟩ := hel i (by omega)
      obtain ⟨q, rfl, hq, hb⟩ := open_part8 hc2
      exact ⟨q, hc1, hq, hb⟩
    obtain ⟨f, hf2⟩ := Go.Deep.choose_lt each
    have hll : ((List.range len0).map f).length = len0 := by simp
    refine ⟨(List.range len0).map f, some a, a.block, a.off, _, by rw [hll], ?_, ?_, ?_, ?_⟩
    · intro i q hq j u hu
      rw [List.getElem?_map] at hq
      by_cases hi : i < len0
      · rw [List.getElem?_range hi] at hq
        have hq' : f i = q := Option.some.inj hq
        subst hq'
        obtain ⟨_, _, hcell⟩ := World.cells?_some (hf2 i hi).1
        obtain ⟨_, _, hcell0⟩ := World.cells?_some (hf2 0 (by omega)).1
        have h00 := hcell0 0 (by omega)
        obtain ⟨hsp, hlt⟩ := cell_addr (v := .int .i64 (f 0).a) h00
        have ha : a = ⟨a.block, a.off, none⟩ := by
          obtain ⟨ab, ao, asp⟩ := a
          have : asp = none := by
            have h2 : (Addr.add ⟨ab, ao, asp⟩ (0 * 6)).spot = none := hsp
            simpa [Addr.add] using h2
          subst this; rfl
        have hj6 : j < 6 := by
          have := (List.getElem?_eq_some_iff.1 hu).1
          rwa [part_cells8] at this
        have := hcell j hj6
        rw [hu, ha, Addr.add_lit, Addr.add_lit] at this
        exact this
      · rw [List.getElem?_eq_none (by simp; omega)] at hq; cases hq
    · intro hp
      have hp' : 0 < len0 := by simpa using hp
      obtain ⟨_, _, hcell0⟩ := World.cells?_some (hf2 0 hp').1
      have h00 := hcell0 0 (by omega)
      obtain ⟨hsp, hlt⟩ := cell_addr (v := .int .i64 (f 0).a) h00
      have ha : a = ⟨a.block, a.off, none⟩ := by
        obtain ⟨ab, ao, asp⟩ := a
        have : asp = none := by
          have h2 : (Addr.add ⟨ab, ao, asp⟩ (0 * 6)).spot = none := hsp
          simpa [Addr.add] using h2
        subst this; rfl
      refine ⟨by rw [← ha], ?_⟩
      have h2 : (Addr.add a (0 * 6)).block < W.heap.size := hlt
      rw [ha, Addr.add_lit] at h2
      exact h2
    · intro q hq
      obtain ⟨i, hi, rfl⟩ := List.mem_map.1 hq
      exact (hf2 i (List.mem_range.1 hi)).2.1
    · intro q hq
      obtain ⟨i, hi, rfl⟩ := List.mem_map.1 hq
      have hi' := List.mem_range.1 hi
      have hmem : D i ∈ (List.range len0).map D := List.mem_map.2 ⟨i, hi, rfl⟩
      have h1 := bulk_mem hmem
      have h2 := (hf2 i hi').2.2
      rw [hd]
      simp only [Rows.uptoBulk]
      omega
end Go.Proofs.YtghaoielnphhlaaGreatDoor
