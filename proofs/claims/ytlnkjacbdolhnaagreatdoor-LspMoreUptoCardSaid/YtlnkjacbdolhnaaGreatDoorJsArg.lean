/-
  An argument that is a JSON value: opened; what a bound on what is read bounds.
-/
import Derived.Test.YtlnkjacbdolhnaaGreatDoorRows
import Derived.Test.YtlnkjacbdolhnaaGreatDoorM00
import Derived.Deep.Strs
import Derived.ProofKit
import Derived.Carry
namespace Go.Proofs.YtlnkjacbdolhnaaGreatDoor
open Go.ChangeShapes Go.WideShapes Go.ChangeAt Go.RowKit
open Go.WideMaps Go.WideElems
variable {H : Type} {enc : TypeId × Value → H}

theorem trod_four {P : Program} {w : World} {base : Nat} {spare : Nat → Bool} {held : Bool} {t : TypeId} {f0 f1 f2 f3 : Field} {fuel : Nat} {cs : List Value} {x : DataW H × List MemPlace} (ht : P.underlying t = some (.struct #[f0, f1, f2, f3])) (h : DataW.trod enc P w base spare held fuel t cs = some x) :
    ∃ y0 y1 y2 y3 n, x.1 = .agg [y0.1, y1.1, y2.1, y3.1] ∧ cs.length = P.cellsOf t ∧ DataW.trod enc P w base spare held n f0.type ((cs.drop f0.offset).take (P.cellsOf f0.type)) = some y0 ∧
      DataW.trod enc P w base spare held n f1.type ((cs.drop f1.offset).take (P.cellsOf f1.type)) = some y1 ∧ DataW.trod enc P w base spare held n f2.type ((cs.drop f2.offset).take (P.cellsOf f2.type)) = some y2 ∧
      DataW.trod enc P w base spare held n f3.type ((cs.drop f3.offset).take (P.cellsOf f3.type)) = some y3 := by
  obtain ⟨xs, n, _, rfl, hl, hlen, hf⟩ := DataW.trod_struct ht h
  match xs, hlen with
  | [y0, y1, y2, y3], _ => exact ⟨y0, y1, y2, y3, n, rfl, hl, by simpa using hf 0 f0 rfl, by simpa using hf 1 f1 rfl, by simpa using hf 2 f2 rfl, by simpa using hf 3 f3 rfl⟩
theorem cell_addr {w : World} {a : Addr} {v : Value} (h : w.cell? a = some v) : a.spot = none ∧ a.block < w.heap.size := by
  refine ⟨?_, World.block_lt_of_cell? w _ h⟩
  unfold World.cell? at h
  split at h
  · rcases hs : a.spot with _ | s
    · rfl
    · rw [hs] at h; simp at h
  · cases h
theorem bulkAll_map {α : Type} (f : α → DataW H) : ∀ l : List α, Rows.uptoBulkAll (l.map f) = (l.map fun a => Rows.uptoBulk (f a)).sum
  | [] => rfl
  | a :: r => by simp only [List.map_cons, Rows.uptoBulkAll, List.sum_cons, bulkAll_map f r]
theorem sum_le_map {α : Type} (f g : α → Nat) : ∀ (l : List α), (∀ x ∈ l, f x ≤ g x) → (l.map f).sum ≤ (l.map g).sum
  | [], _ => by simp
  | x :: r, h => by
    have := sum_le_map f g r (fun y hy => h y (by simp [hy]))
    have := h x (by simp)
    simp; omega
theorem bulk_mem {d : DataW H} : ∀ {l : List (DataW H)}, d ∈ l → Rows.uptoBulk d ≤ Rows.uptoBulkAll l
  | [], h => by cases h
  | x :: r, h => by
    simp only [Rows.uptoBulkAll]
    rcases List.mem_cons.1 h with rfl | h
    · omega
    · have := bulk_mem h; omega
theorem u8_bd {k : Int} (h : (Lit.int .u8 k).wf = true) : 0 ≤ k ∧ k ≤ 255 := by
  have hm : IntKind.min .u8 = 0 := by decide
  have hM : IntKind.max .u8 = 255 := by decide
  simp [Lit.wf, hm, hM] at h
  omega

set_option maxRecDepth 100000 in
theorem open_json {W : World} : ∀ (N : Nat) (d : DataW H), Rows.uptoBulk d ≤ N → ∀ (fuel : Nat) (cs : List Value) (p : List MemPlace), DataW.trod enc Tryz.prog W 0 (fun _ => true) true fuel 25 cs = some (d, p) →
    ∃ (j : Jsn) (vn vl : Value), cs = [.int .u8 j.kind, .string j.text, vn, vl] ∧ JV W (fun _ => True) j vn vl ∧ jbulk j ≤ Rows.uptoBulk d := by
  intro N
  induction N with
  | zero =>
    intro d hd fuel cs p h
    obtain ⟨y0, y1, y2, y3, n, hx, _⟩ := trod_four Tryz.underlying25 h
    dsimp only at hx
    subst hx
    simp [Rows.uptoBulk] at hd
  | succ N ih =>
    intro d hd fuel cs p h
    have c25 : Tryz.prog.cellsOf 25 = 4 := by kernel_rfl
    have c5 : Tryz.prog.cellsOf 5 = 1 := by kernel_rfl
    have c9 : Tryz.prog.cellsOf 9 = 1 := by kernel_rfl
    have c22 : Tryz.prog.cellsOf 22 = 1 := by kernel_rfl
    have c23 : Tryz.prog.cellsOf 23 = 1 := by kernel_rfl
    obtain ⟨y0, y1, y2, y3, n, hx, hlen, h0, h1, h2, h3⟩ := trod_four Tryz.underlying25 h
    dsimp only at hx h0 h1 h2 h3
    rw [c25] at hlen
    rw [c5] at h0
    rw [c9] at h1
    rw [c22] at h2
    rw [c23] at h3
    match cs, hlen with
    | [v0, v1, v2, v3], _ =>
    simp only [List.drop_zero, List.drop_succ_cons, List.take_succ_cons, List.take_zero] at h0 h1 h2 h3
    obtain ⟨k, e0, rfl, hk⟩ := DataW.trod_int Tryz.underlying5 h0
    obtain ⟨s, e1, rfl, hs⟩ := DataW.trod_string Tryz.underlying9 h1
    obtain ⟨hk0, hk1⟩ := u8_bd hk
    injection e0 with e0
    injection e1 with e1
    subst e0
    subst e1
    -- the names
    have hnames : ∃ ns : List ByteArray, StrL W (fun _ => True) v2 ns ∧ (ns.map fun b => b.size + 1).sum ≤ Rows.uptoBulk y2.1 := by
      rcases Go.Deep.open_strs Tryz.underlying22 Tryz.underlying9 c9 h2 with ⟨e2, rfl⟩ | ⟨a, len, cap, m, Sx, e2, _, hlc, _, hm, rfl, hcell⟩
      · injection e2 with e2
        subst e2
        exact ⟨[], ⟨none, 0, rfl, fun h => by simp at h⟩, by simp⟩
      · injection e2 with e2
        subst e2
        simp only [if_true] at hm
        subst hm
        refine ⟨(List.range len).map Sx, ⟨some a, m, by simp, fun hp => ?_⟩, ?_⟩
        · have hp' : 0 < len := by simpa using hp
          obtain ⟨hsp, hlt⟩ := cell_addr (hcell 0 (by omega)).1
          have ha : a = ⟨a.block, a.off, none⟩ := by
            obtain ⟨ab, ao, asp⟩ := a
            have : asp = none := hsp
            subst this; rfl
          refine ⟨a.block, a.off, by rw [← ha], trivial, hlt, fun j x hx => ?_⟩
          rw [List.getElem?_map] at hx
          by_cases hj : j < len
          · rw [List.getElem?_range hj] at hx
            have := (hcell j (by omega)).1
            rw [ha, Addr.add_lit] at this
            rw [← Option.some.inj hx]
            exact this
          · rw [List.getElem?_eq_none (by simp; omega)] at hx; cases hx
        · simp only [Rows.uptoBulk, bulkAll_map, List.map_map]
          have : ((List.range len).map ((fun b : ByteArray => b.size + 1) ∘ Sx)).sum = ((List.range len).map fun a => (Sx a).data.toList.length + 1).sum := by
            congr 1
          rw [this]; omega
    obtain ⟨ns, hns, hnb⟩ := hnames
    have hd2 : Rows.uptoBulk d = Rows.uptoBulk y2.1 + Rows.uptoBulk y3.1 + s.size + 3 := by
      subst hx
      simp only [Rows.uptoBulk, Rows.uptoBulkAll, Array.length_toList]
      have : s.data.size = s.size := rfl
      omega
    rcases Go.Deep.open_slice Tryz.underlying23 h3 with ⟨e3, rfl⟩ | ⟨a, len, cap, m, n', D, Pl, e3, _, hlc, _, hm, rfl, hel⟩
    · injection e3 with e3
      subst e3
      refine ⟨⟨k, s, ns, []⟩, v2, .slice none 0 0, rfl, JV.of_elems (zs := []) hk0 hk1 hns rfl (fun z hz => by cases hz) (fun hp => by simp at hp), ?_⟩
      have h00 : jbulks [] = 0 := rfl
      rw [jbulk_eq, h00]; omega
    · injection e3 with e3
      subst e3
      simp only [if_true] at hm
      subst hm
      rw [c25] at hel
      haveI : Inhabited JE := ⟨(⟨0, ⟨#[]⟩, [], []⟩, .slice none 0 0, .slice none 0 0)⟩
      have hbD : ∀ i, i < len → Rows.uptoBulk (D i) ≤ N := fun i hi => by
        have hmem : D i ∈ (List.range len).map D := List.mem_map.2 ⟨i, List.mem_range.2 hi, rfl⟩
        have := bulk_mem hmem
        simp only [Rows.uptoBulk] at hd2
        omega
      have each : ∀ i, i < len → ∃ z : JE, W.cells? 0 (a.add (i * 4)) 4 = some (encJ z) ∧ JV W (fun _ => True) z.1 z.2.1 z.2.2 ∧ jbulk z.1 ≤ Rows.uptoBulk (D i) := fun i hi => by
        obtain ⟨cs', hc1, hc2⟩ := hel i (by omega)
        obtain ⟨j, vn, vl, rfl, hV, hb⟩ := ih (D i) (hbD i hi) n' cs' (Pl i) hc2
        exact ⟨(j, vn, vl), hc1, hV, hb⟩
      obtain ⟨f, hf⟩ := Go.Deep.choose_lt each
      have hzl : ((List.range len).map f).length = len := by simp
      refine ⟨⟨k, s, ns, ((List.range len).map f).map (·.1)⟩, v2, .slice (some a) len m, rfl, ?_, ?_⟩
      · have := JV.of_elems (w := W) (X := fun _ => True) (s := s) (A := some a) (c := m) (zs := (List.range len).map f) hk0 hk1 hns rfl (fun z hz => by
            obtain ⟨i, hi, rfl⟩ := List.mem_map.1 hz
            exact (hf i (List.mem_range.1 hi)).2.1) (fun hp => by
            have hp' : 0 < len := by simpa using hp
            obtain ⟨_, _, hcell0⟩ := World.cells?_some (hf 0 hp').1
            have h00 := hcell0 0 (by omega)
            obtain ⟨hsp, hlt⟩ := cell_addr (v := .int .u8 (f 0).1.kind) h00
            have ha : a = ⟨a.block, a.off, none⟩ := by
              obtain ⟨ab, ao, asp⟩ := a
              have : asp = none := hsp
              subst this; rfl
            refine ⟨a.block, a.off, by rw [← ha], trivial, hlt, fun j z hz i u hu => ?_⟩
            rw [List.getElem?_map] at hz
            by_cases hj : j < len
            · rw [List.getElem?_range hj] at hz
              have hz' : f j = z := Option.some.inj hz
              subst hz'
              obtain ⟨_, _, hcell⟩ := World.cells?_some (hf j hj).1
              have hi4 : i < 4 := by
                have := (List.getElem?_eq_some_iff.1 hu).1
                rwa [encJ_len] at this
              have := hcell i hi4
              rw [hu, ha, Addr.add_lit, Addr.add_lit] at this
              exact this
            · rw [List.getElem?_eq_none (by simp; omega)] at hz; cases hz)
        rw [hzl] at this
        exact this
      · have hsum : jbulks (((List.range len).map f).map (·.1)) ≤ ((List.range len).map fun i => Rows.uptoBulk (D i)).sum := by
          unfold jbulks
          rw [List.map_map, List.map_map]
          exact sum_le_map _ _ _ (fun i hi => (hf i (List.mem_range.1 hi)).2.2)
        simp only [Rows.uptoBulk, bulkAll_map] at hd2
        rw [jbulk_eq]; omega

set_option maxRecDepth 100000 in
theorem open_json_arg {W : World} {base : Nat} {v : Value} {d : DataW H} {p : List MemPlace} (hv : Value.okWide Tryz.prog W .any base 25 v) (h : DataW.Trod enc Tryz.prog W 0 (fun _ => true) true 25 v d p) :
    ∃ (j : Jsn) (vn vl : Value), v = .agg #[.int .u8 j.kind, .string j.text, vn, vl] ∧ JV W (fun _ => True) j vn vl ∧ jbulk j ≤ Rows.uptoBulk d := by
  obtain ⟨cs, rfl, _⟩ := okWide_struct Tryz.underlying25 hv
  obtain ⟨fuel, hf⟩ := h
  obtain ⟨j, vn, vl, e, hV, hb⟩ := open_json (Rows.uptoBulk d) d Nat.le.refl fuel (Value.agg cs).cells.toList p hf
  refine ⟨j, vn, vl, ?_, hV, hb⟩
  have e' : cs.toList = [.int .u8 j.kind, .string j.text, vn, vl] := e
  congr 1
  rw [← Array.toArray_toList (xs := cs), e']
set_option maxRecDepth 100000 in
theorem laidOutJ : laidOutB Tryz.prog = true := by kernel_rfl
end Go.Proofs.YtlnkjacbdolhnaaGreatDoor
