/-
  The walk of the JSON reader's closure that reads one item of an Array.
-/
import Derived.Test.YtdjfoabinjfnfaaGreatDoorM16
namespace Go.Proofs.YtdjfoabinjfnfaaGreatDoor
open Go.RowKit
def ValJ (b : Nat) (w : World) (R : JR) (e : Ending) (w' : World) : Prop := But w.heap.size b w w' ∧ (match R with
  | .error c => e = Pan c
  | .ok (j, it, r) => ∃ vn vl, e = .returned (.agg #[.int .u8 j.kind, .string j.text, vn, vl]) ∧ RJ w' b r it ∧ OwnJ w' 9 25 j w.heap.size w'.heap.size vn vl ∧ it ≤ 65536)
def ValSaysJ (b : Nat) (d : Int) (val : Nat → List UInt8 → JR) : Prop := ∀ (s : List UInt8) (it : Nat) (W : World), EnvB b W → RJ W b s it → s.length ≤ 1000000 → it ≤ 65536 →
  Calls Tryz.prog 69 #[.pointer (some ⟨b, 0, none⟩), .int .i64 d] W (ValJ b W (val it s))
structure IA (w : World) (b : Nat) (d : Int) (g B : Nat) (st : SA) (s : List UInt8) (W : World) : Prop where
  rj : RJ W b s st.1
  env : EnvB b w
  but : But w.heap.size b w W
  it : st.1 ≤ 65536
  size : B ≤ W.heap.size
  lt : b < w.heap.size ∧ w.heap.size + 2 < g ∧ g < B
  c0 : Cel W w.heap.size 110 #[.pointer (some ⟨b, 0, none⟩)]
  c1 : Cel W (w.heap.size + 1) 3 #[.int .i64 d]
  c2 : Cel W (w.heap.size + 2) 25 zero4.toArray
  row : ∃ v, Cel W g 25 #[.int .u8 6, .string ⟨#[]⟩, .slice none 0 0, v] ∧ RowO W B 9 25 v st.2 ∧ st.2.length ≤ st.1
theorem IA.step {w : World} {b : Nat} {d : Int} {g B : Nat} {st : SA} {s s' : List UInt8} {W W' : World} (h : IA w b d g B st s W) (hb : But W.heap.size b W W') (hr : RJ W' b s' st.1) : IA w b d g B st s' W' := by
  obtain ⟨h1, h2, h3, h4, h5, ⟨h6, h6', h6''⟩, h7, h8, h9, v, h10, h11, h12⟩ := h
  have hs := h3.size
  exact ⟨hr, h2, h3.trans (hb.mono hs), h4, Nat.le_trans h5 hb.size, ⟨h6, h6', h6''⟩, h7.but hb h7.lt (by omega), h8.but hb h8.lt (by omega), h9.but hb h9.lt (by omega), v, h10.but hb h10.lt (by omega), h11.but hb (by omega), h12⟩
theorem setCell_swap (w : World) {a c : Addr} (u v : Value) (h : a.block ≠ c.block) : (w.setCell a u).setCell c v = (w.setCell c v).setCell a u := by
  have e : ((w.setCell a u).setCell c v).heap = ((w.setCell c v).setCell a u).heap := by
    apply Array.ext_getElem?
    intro i
    by_cases h1 : i = a.block
    · subst h1
      rw [Below.heap_setCell _ _ _ _ h]
      simp only [World.setCell, Array.getElem?_modify, if_true]
      rw [if_neg (fun e => h e.symm)]
    · rw [Below.heap_setCell (w.setCell c v) _ _ _ h1]
      by_cases h2 : i = c.block
      · subst h2
        simp only [World.setCell, Array.getElem?_modify, if_true]
        rw [if_neg (fun e => h1 e.symm)]
      · rw [Below.heap_setCell _ _ _ _ h2, Below.heap_setCell _ _ _ _ h2, Below.heap_setCell _ _ _ _ h1]
  have e2 : ∀ w1 w2 : World, w1.heap = w2.heap → w1.tape = w2.tape → w1.drawn = w2.drawn → w1.os = w2.os → w1.output = w2.output → w1 = w2 := by
    intro w1 w2 h1 h2 h3 h4 h5
    cases w1; cases w2
    simp_all
  exact e2 _ _ e rfl rfl rfl rfl
theorem lay4_comm (w : World) (gg n g : Nat) (a1 a2 a3 a4 v' : Value) (h : ¬ g = gg) : lay4 (w.setCell ⟨g, 3, none⟩ v') gg n a1 a2 a3 a4 = (lay4 w gg n a1 a2 a3 a4).setCell ⟨g, 3, none⟩ v' := by
  unfold lay4
  rw [setCell_swap w (a := ⟨g, 3, none⟩) (c := ⟨gg, n, none⟩) _ _ h, setCell_swap _ (a := ⟨g, 3, none⟩) (c := ⟨gg, n + 1, none⟩) _ _ h, setCell_swap _ (a := ⟨g, 3, none⟩) (c := ⟨gg, n + 2, none⟩) _ _ h, setCell_swap _ (a := ⟨g, 3, none⟩) (c := ⟨gg, n + 3, none⟩) _ _ h]
theorem lay4_set (w4 : World) (gg n g : Nat) (a1 a2 a3 a4 v' : Value) {k : Nat} (hk : k ≠ gg) (hk2 : k ≠ g) : ((lay4 w4 gg n a1 a2 a3 a4).setCell ⟨g, 3, none⟩ v').heap[k]? = w4.heap[k]? :=
  (Below.heap_setCell _ ⟨g, 3, none⟩ _ k hk2).trans (lay4_other _ _ _ _ _ _ _ hk)
set_option maxHeartbeats 2000000 in
theorem IA.put {w W w3 w4 : World} {b : Nat} {d : Int} {g B gg n it2 : Nat} {st : SA} {s r : List UInt8} {x : Jsn} {v' a1 a2 a3 a4 : Value} (h : IA w b d g B st s W) (h3 : But W.heap.size b W w3) (hr : RJ w3 b r it2) (hit : it2 ≤ 65536) (hlt : st.1 < it2)
    (hgg : B ≤ gg) (hlow : ∀ k, k < B → w4.heap[k]? = w3.heap[k]?) (hsz : w3.heap.size ≤ w4.heap.size) (hos : w4.os = w3.os) (htp : w4.tape = w3.tape) (hou : w4.output = w3.output)
    (hrow : RowO (lay4 w4 gg n a1 a2 a3 a4) B 9 25 v' (st.2 ++ [x])) : IA w b d g B (it2, st.2 ++ [x]) r ((lay4 w4 gg n a1 a2 a3 a4).setCell ⟨g, 3, none⟩ v') := by
  obtain ⟨h1, h2, hB, h4, h5, ⟨h6, h6', h6''⟩, h7, h8, h9, v, h10, h11, h12⟩ := h
  have hs := hB.size
  have hs3 := h3.size
  obtain ⟨W6, hW6⟩ : ∃ W6, (lay4 w4 gg n a1 a2 a3 a4).setCell ⟨g, 3, none⟩ v' = W6 := ⟨_, rfl⟩
  have hat : ∀ k, k < B → k ≠ g → W6.heap[k]? = w3.heap[k]? := fun k hk hg => by
    have h := lay4_set w4 gg n g a1 a2 a3 a4 v' (k := k) (by omega) hg
    rw [hW6] at h
    exact h.trans (hlow k hk)
  have hat2 : ∀ k, k < B → k ≠ g → k ≠ b → W6.heap[k]? = W.heap[k]? := fun k hk hg hb => (hat k hk hg).trans (h3.block k (by omega) hb)
  have hsize : W6.heap.size = w4.heap.size := by rw [← hW6]; simp [lay4_size]
  have hg0 : (lay4 w4 gg n a1 a2 a3 a4).heap[g]? = W.heap[g]? := (lay4_other w4 gg n a1 a2 a3 a4 (k := g) (by omega)).trans ((hlow g h6'').trans (h3.block g (by omega) (by omega)))
  have hc : Cel (lay4 w4 gg n a1 a2 a3 a4) g 25 #[.int .u8 6, .string ⟨#[]⟩, .slice none 0 0, v] := hg0.trans h10
  have hc2 : Cel W6 g 25 #[.int .u8 6, .string ⟨#[]⟩, .slice none 0 0, v'] := by rw [← hW6]; exact hc.set 3 v'
  have hr2 : RowO W6 B 9 25 v' (st.2 ++ [x]) := by
    rw [← hW6]
    exact hrow.keep (fun k h1 h2 => Below.heap_setCell _ _ _ _ (by show k ≠ g; omega)) (by simp)
  have e1 : W6.os = w.os := by rw [← hB.os, ← h3.os, ← hos, ← hW6]; rfl
  have e2 : W6.tape = w.tape := by rw [← hB.tape, ← h3.tape, ← htp, ← hW6]; rfl
  have e3 : W6.output = w.output := by rw [← hB.output, ← h3.output, ← hou, ← hW6]; rfl
  rw [hW6]
  clear hW6
  refine ⟨(hat b (by omega) (by omega)).trans hr, h2, ⟨e1, e2, e3, by rw [hsize]; omega, fun k hk hb => (hat2 k (by omega) (by omega) hb).trans (hB.block k hk hb)⟩, hit, by rw [hsize]; omega, ⟨h6, h6', h6''⟩, (hat2 _ (by omega) (by omega) (by omega)).trans h7, (hat2 _ (by omega) (by omega) (by omega)).trans h8, (hat2 _ (by omega) (by omega) (by omega)).trans h9, v', hc2, hr2, ?_⟩
  simp; omega
set_option maxRecDepth 100000 in
set_option maxHeartbeats 4000000 in
theorem jrItemA (val : Nat → List UInt8 → JR) (hvl : ∀ it s j it' r, val it s = .ok (j, it', r) → it < it') (w : World) (b : Nat) (d d1 : Int) (g B : Nat) (hdd : IntKind.i64.wrap (d + 1) = d1) (hV : ValSaysJ b d1 val) (st : SA) (s : List UInt8) (W : World) (h : IA w b d g B st s W) (hs : s.length ≤ 1000000) :
    Calls Tryz.prog 117 #[.pointer (some ⟨g, 0, none⟩), .pointer (some ⟨w.heap.size, 0, none⟩), .pointer (some ⟨w.heap.size + 1, 0, none⟩)] W (LEnd (IA w b d g B) (fun W => But w.heap.size b w W) (jitA val st s)) := by
  have hh := h
  obtain ⟨h1, h2, h3, h4, h5, ⟨h6, h6', h6''⟩, h7, h8, h9, v, h10, h11, h12⟩ := h
  have hcall := fun (W' : World) (hb : Below W.heap.size W W') => hV s st.1 W' ((h2.but h3).below hb) (h1.below hb) hs h4
  have hvl' := hvl st.1 s
  obtain ⟨R, hR⟩ : ∃ R, val st.1 s = R := ⟨_, rfl⟩
  rw [hR] at hcall hvl'
  unfold jitA
  rw [hR]
  have y0 : W.cell? ⟨w.heap.size, 0, none⟩ = some (.pointer (some ⟨b, 0, none⟩)) := h7.cell 0
  have y1 : W.cell? ⟨w.heap.size + 1, 0, none⟩ = some (.int .i64 d) := h8.cell 0
  obtain ⟨gl, _, A7, c7, _, hv7, _, _⟩ := h11.kids
  subst hv7
  have y3 : W.cell? ⟨g, 3, none⟩ = some (.slice A7 st.2.length c7) := h10.cell 3
  have hS : ∀ W', But W.heap.size b W W' → W'.cell? ⟨w.heap.size, 0, none⟩ = some (.pointer (some ⟨b, 0, none⟩)) ∧ W'.cell? ⟨w.heap.size + 1, 0, none⟩ = some (.int .i64 d) ∧ W'.cell? ⟨g, 3, none⟩ = some (.slice A7 st.2.length c7) := fun W' hb =>
    ⟨(hb.cell (p := ⟨w.heap.size, 0, none⟩) h7.lt (by show w.heap.size ≠ b; omega)).trans y0, (hb.cell (p := ⟨w.heap.size + 1, 0, none⟩) h8.lt (by show w.heap.size + 1 ≠ b; omega)).trans y1, (hb.cell (p := ⟨g, 3, none⟩) h10.lt (by show g ≠ b; omega)).trans y3⟩
  have hfz : W.frozen? ⟨g, 3, none⟩ = false := h10.froz 3
  replace hS := Lib.hid hS
  replace hcall := Lib.hid hcall
  replace hh := Lib.hid hh
  replace h3 := Lib.hid h3
  clear hR hV h1 h2 h7 h8 h9 h10 hvl
  have hdr : But W.heap.size b W W.drew := (But.refl _ _ _).drew
  go_enter Tryz.func117, Tryz.ntmps117
  refine wp_region_Q 12 (fun W' => W'.cell? ⟨w.heap.size, 0, none⟩ = some (.pointer (some ⟨b, 0, none⟩)) ∧ W'.cell? ⟨w.heap.size + 1, 0, none⟩ = some (.int .i64 d) ∧ W'.cell? ⟨g, 3, none⟩ = some (.slice A7 st.2.length c7)) (by kernel_rfl) ?_
  refine wpAnyQ_take (i := 0) (v := .pointer (some ⟨g, 3, none⟩)) rfl (by kernel_rfl) (by kernel_rfl) (by kernel_rfl) (by kernel_rfl) (by rfl) (fun _ _ _ h => h) (Or.inl ⟨by rfl, by
    intro w' hSw
    try dsimp only at hSw
    go_simp⟩) (hS.out _ hdr) ?_
  simp only [Act.put, List.setIfInBounds_toArray]
  refine wpAnyQ_take (i := 1) (v := .slice A7 st.2.length c7) rfl (by kernel_rfl) (by kernel_rfl) (by kernel_rfl) (by kernel_rfl) (by rfl) (fun _ _ _ h => h) (Or.inl ⟨by rfl, by
    intro w' hSw
    try dsimp only at hSw
    go_simp⟩) (hS.out _ hdr) ?_
  simp only [Act.put]
  refine wpAnyQ_take (i := 2) (v := .pointer (some ⟨b, 0, none⟩)) rfl (by kernel_rfl) (by kernel_rfl) (by kernel_rfl) (by kernel_rfl) (by rfl) (fun _ _ _ h => h) (Or.inl ⟨by rfl, by
    intro w' hSw
    try dsimp only at hSw
    go_simp⟩) (hS.out _ hdr) ?_
  simp only [Act.put]
  refine wpAnyQ_take (i := 3) (v := .int .i64 d) rfl (by kernel_rfl) (by kernel_rfl) (by kernel_rfl) (by kernel_rfl) (by rfl) (fun _ _ _ h => h) (Or.inl ⟨by rfl, by
    intro w' hSw
    try dsimp only at hSw
    go_simp⟩) (hS.out _ hdr) ?_
  simp only [Act.put]
  refine wpAnyQ_take (i := 4) (v := .int .i64 d1) rfl (by kernel_rfl) (by kernel_rfl) (by kernel_rfl) (by kernel_rfl) (by rfl) (fun _ _ _ h => h) (Or.inl ⟨by rfl, by
    intro w' hSw
    try dsimp only at hSw
    go_simp⟩) (hS.out _ hdr) ?_
  simp only [Act.put]
  refine wpAnyQ_take (i := 6) (v := .int .i64 (st.2.length : Int)) rfl (by kernel_rfl) (by kernel_rfl) (by kernel_rfl) (by kernel_rfl) (by rfl) (fun _ _ _ h => h) (Or.inl ⟨by rfl, by
    intro w' hSw
    try dsimp only at hSw
    go_simp⟩) (hS.out _ hdr) ?_
  simp only [Act.put]
  refine wpAnyQ_two (i := 5) (j := 7) (by kernel_rfl) rfl rfl (fun K hK => ?_) (fun K hK => ?_)
  · go_simp
    refine (hcall.out W.drew (bel_drewN (Below.refl _ _) 1)).mono ?_
    intro e w2 hx
    rcases R with c | ⟨x, it2, r⟩
    · obtain ⟨hB2, rfl⟩ := hx
      exact ⟨rfl, rfl, h3.out.trans ((hdr.trans hB2).mono h3.out.size)⟩
    obtain ⟨hB2, vn, vl, rfl, hR2, hO2, hit⟩ := hx
    obtain ⟨Ax, nx, cx, Ay, ny, cy, rfl, rfl⟩ := hO2.forms
    have hB3 : But W.heap.size b W (w2.alloc (.cells #[.int .u8 0, .string ⟨#[]⟩, .slice none 0 0, .slice none 0 0] 25)) := (hdr.trans hB2).alloc hB2.size _
    obtain ⟨v', w4, gg, cap, hrun, rfl, q1, q2, q3, q4, q5, q6, q7, q8, q9⟩ := append_zero 23 Tryz.underlying23 h11 hB3 (by omega) h5 (Cel.fresh w2 25 #[.int .u8 0, .string ⟨#[]⟩, .slice none 0 0, .slice none 0 0]) (Nat.le_refl _) hB2.size (by simp) (OwnJ.keep x hO2 (fun k _ hk => Below.heap_alloc w2 _ k hk) (Nat.le_refl _) (Nat.le_refl _)) (by omega)
    have hfin := hh.out.put hB3 (hR2.below ((Below.refl _ _).alloc (Nat.le_refl _) _)) hit (hvl' _ _ _ rfl) q1 q4 q5 q6 q7 q8 q9
    refine hK.out _ _ (fun _ => hS.out _ (hdr.trans hB2)) ?_
    clear hK
    refine wpAnyQ_one (i := 7) (by kernel_rfl) rfl (fun K hK => ?_)
    go_simp
    refine hK.out _ _ (fun _ => hS.out _ hB3) ?_
    clear hK
    refine wpAnyQ_one (i := 8) (by kernel_rfl) rfl (fun K hK => ?_)
    refine jl_step_run (by rfl) (.tmp 4) (.tmp 10) 23 23 (by rfl) (.slice A7 st.2.length c7) (.slice (some ⟨w2.heap.size, 0, none⟩) 1 1) _ w4 (by rfl) (by rfl) hrun ?_
    have hS3 := hS.out _ hB3
    have hb0 : ∀ (k o : Nat), k < B → w4.cell? ⟨k, o, none⟩ = (w2.alloc (.cells #[.int .u8 0, .string ⟨#[]⟩, .slice none 0 0, .slice none 0 0] 25)).cell? ⟨k, o, none⟩ := fun k o hk => World.cell?_of_block (a := ⟨k, o, none⟩) (q4 k hk)
    have hS4 : w4.cell? ⟨w.heap.size, 0, none⟩ = some (.pointer (some ⟨b, 0, none⟩)) ∧ w4.cell? ⟨w.heap.size + 1, 0, none⟩ = some (.int .i64 d) ∧ w4.cell? ⟨g, 3, none⟩ = some (.slice A7 st.2.length c7) := ⟨(hb0 _ _ (by omega)).trans hS3.1, (hb0 _ _ (by omega)).trans hS3.2.1, (hb0 _ _ (by omega)).trans hS3.2.2⟩
    refine hK.out _ _ (fun _ => hS4) ?_
    clear hK
    simp only [Act.put, List.setIfInBounds_toArray, List.set_cons_zero, List.set_cons_succ]
    have k0 := q2 0 _ rfl
    have k1 := q2 1 _ rfl
    have k2 := q2 2 _ rfl
    have k3 := q2 3 _ rfl
    have f0 := q3 (st.2.length * 4)
    have f1 := q3 (st.2.length * 4 + 1)
    have f2 := q3 (st.2.length * 4 + 2)
    have f3 := q3 (st.2.length * 4 + 3)
    have g3 := hS4.2.2
    have fg : w4.frozen? ⟨g, 3, none⟩ = false := by
      have := (q4 g h6'').trans ((Below.heap_alloc w2 _ g (by have := hB2.size; simp at this; omega)).trans (hB2.block g (by simp; omega) (by omega)))
      exact (World.frozen?_of_block (a := ⟨g, 3, none⟩) this).trans (hfz)
    have hne : ¬ g = gg := by omega
    have hneA : ¬ w.heap.size = gg := by omega
    have hneA1 : ¬ w.heap.size + 1 = gg := by omega
    have hn0 : (0 : Int) ≤ (st.2.length : Int) := by omega
    have hn1 : (st.2.length : Int) < (st.2.length : Int) + 1 := by omega
    have hfin2 := Lib.hid hfin
    clear hfin q9 q2 q3 q4 q5 q6 q7 q8 hrun hS hh hcall hvl' hB2 hB3 hR2 hO2 h11 hS3 hb0
    simp only [Nat.add_zero] at k0
    refine wpAnyQ_takeW (i := 11) (v := .pointer (some ⟨g, 3, none⟩)) rfl (by kernel_rfl) (by kernel_rfl) (by kernel_rfl) (by decide) (fun _ _ _ h => h) (Or.inl ⟨by rfl, by
      intro w' hSw
      go_simp⟩) hS4 ?_
    simp only [Act.put, List.setIfInBounds_toArray]
    refine wpAnyQ_takeW (i := 9) (v := .pointer (some ⟨gg, st.2.length * 4, none⟩)) rfl (by kernel_rfl) (by kernel_rfl) (by kernel_rfl) (by decide) (fun _ _ _ h => h) (Or.inl ⟨by rfl, by
      intro w' hSw
      go_simp⟩) hS4 ?_
    simp only [Act.put]
    refine wpAnyQ_two (i := 10) (j := 12) (by kernel_rfl) rfl rfl (fun K hK => ?_) (fun K hK => ?_)
    · go_simp
      refine hK.out _ _ (fun _ => ?_) ?_
      · have hoc : ∀ (k o : Nat), k ≠ gg → (lay4 w4 gg (st.2.length * 4) (.int .u8 x.kind) (.string x.text) (.slice Ax nx cx) (.slice Ay ny cy)).cell? ⟨k, o, none⟩ = w4.cell? ⟨k, o, none⟩ := fun k o hk => World.cell?_of_block (a := ⟨k, o, none⟩) (lay4_other w4 gg _ _ _ _ _ hk)
        exact ⟨(hoc _ _ hneA).trans hS4.1, (hoc _ _ hneA1).trans hS4.2.1, (hoc _ _ hne).trans hS4.2.2⟩
      clear hK
      refine wpAnyQ_one (i := 12) (by kernel_rfl) rfl (fun K hK => ?_)
      go_simp
      refine hK.out _ _ (fun h => by cases h) ?_
      clear hK
      refine wpAnyQ_done (by kernel_rfl) ?_
      go_end0
      exact ⟨rfl, hfin2.out⟩
    · go_simp
      refine hK.out _ _ (fun h => by cases h) ?_
      clear hK
      have hk' : ∀ i, (w4.setCell ⟨g, 3, none⟩ (.slice (some ⟨gg, 0, none⟩) (st.2.length + 1) cap)).cell? ⟨gg, i, none⟩ = w4.cell? ⟨gg, i, none⟩ := fun i => World.cell?_setCell_other w4 ⟨g, 3, none⟩ ⟨gg, i, none⟩ _ (fun e => hne (congrArg Addr.block e))
      refine wpAnyQ_one (i := 10) (by kernel_rfl) rfl (fun K hK => ?_)
      go_simp
      refine hK.out _ _ (fun h => by cases h) ?_
      clear hK
      refine wpAnyQ_done (by kernel_rfl) ?_
      go_end0
      refine ⟨rfl, ?_⟩
      have e := lay4_comm w4 gg (st.2.length * 4) g (.int .u8 x.kind) (.string x.text) (.slice Ax nx cx) (.slice Ay ny cy) (.slice (some ⟨gg, 0, none⟩) (st.2.length + 1) cap) hne
      show IA w b d g B _ _ (lay4 _ _ _ _ _ _ _)
      rw [e]
      exact hfin2.out
  · go_simp
    have hdz : But W.heap.size b W (W.drew.alloc (.cells #[.int .u8 0, .string ⟨#[]⟩, .slice none 0 0, .slice none 0 0] 25)) := hdr.alloc (Nat.le_refl _) _
    refine hK.out _ _ (fun _ => hS.out _ hdz) ?_
    clear hK
    refine wpAnyQ_one (i := 5) (by kernel_rfl) rfl (fun K hK => ?_)
    go_simp
    refine (hcall.out (W.drew.alloc (.cells #[.int .u8 0, .string ⟨#[]⟩, .slice none 0 0, .slice none 0 0] 25)) ((bel_drewN (Below.refl _ _) 1).alloc (Nat.le_refl _) _)).mono ?_
    intro e w2 hx
    rcases R with c | ⟨x, it2, r⟩
    · obtain ⟨hB2, rfl⟩ := hx
      exact ⟨rfl, rfl, h3.out.trans ((hdz.trans (hB2.mono (by simp))).mono h3.out.size)⟩
    obtain ⟨hB2, vn, vl, rfl, hR2, hO2, hit⟩ := hx
    obtain ⟨Ax, nx, cx, Ay, ny, cy, rfl, rfl⟩ := hO2.forms
    have hB3 : But W.heap.size b W w2 := hdz.trans (hB2.mono (by simp))
    have hz3 : Cel w2 W.heap.size 25 #[.int .u8 0, .string ⟨#[]⟩, .slice none 0 0, .slice none 0 0] := Cel.but (Cel.fresh W.drew 25 #[.int .u8 0, .string ⟨#[]⟩, .slice none 0 0, .slice none 0 0]) hB2 (by simp) (by show W.heap.size ≠ b; omega)
    obtain ⟨v', w4, gg, cap, hrun, rfl, q1, q2, q3, q4, q5, q6, q7, q8, q9⟩ := append_zero 23 Tryz.underlying23 h11 hB3 (by omega) h5 hz3 (by simp) hB2.size (Nat.le_refl _) hO2 (by omega)
    have hfin := hh.out.put hB3 hR2 hit (hvl' _ _ _ rfl) q1 q4 q5 q6 q7 q8 q9
    refine hK.out _ _ (fun _ => hS.out _ hB3) ?_
    clear hK
    refine wpAnyQ_one (i := 8) (by kernel_rfl) rfl (fun K hK => ?_)
    refine jl_step_run (by rfl) (.tmp 4) (.tmp 10) 23 23 (by rfl) (.slice A7 st.2.length c7) (.slice (some ⟨W.heap.size, 0, none⟩) 1 1) _ w4 (by rfl) (by rfl) hrun ?_
    have hS3 := hS.out _ hB3
    have hb0 : ∀ (k o : Nat), k < B → w4.cell? ⟨k, o, none⟩ = w2.cell? ⟨k, o, none⟩ := fun k o hk => World.cell?_of_block (a := ⟨k, o, none⟩) (q4 k hk)
    have hS4 : w4.cell? ⟨w.heap.size, 0, none⟩ = some (.pointer (some ⟨b, 0, none⟩)) ∧ w4.cell? ⟨w.heap.size + 1, 0, none⟩ = some (.int .i64 d) ∧ w4.cell? ⟨g, 3, none⟩ = some (.slice A7 st.2.length c7) := ⟨(hb0 _ _ (by omega)).trans hS3.1, (hb0 _ _ (by omega)).trans hS3.2.1, (hb0 _ _ (by omega)).trans hS3.2.2⟩
    refine hK.out _ _ (fun _ => hS4) ?_
    clear hK
    simp only [Act.put, List.setIfInBounds_toArray, List.set_cons_zero, List.set_cons_succ]
    have k0 := q2 0 _ rfl
    have k1 := q2 1 _ rfl
    have k2 := q2 2 _ rfl
    have k3 := q2 3 _ rfl
    have f0 := q3 (st.2.length * 4)
    have f1 := q3 (st.2.length * 4 + 1)
    have f2 := q3 (st.2.length * 4 + 2)
    have f3 := q3 (st.2.length * 4 + 3)
    have g3 := hS4.2.2
    have fg : w4.frozen? ⟨g, 3, none⟩ = false := by
      have := (q4 g h6'').trans (hB3.block g (by omega) (by omega))
      exact (World.frozen?_of_block (a := ⟨g, 3, none⟩) this).trans (hfz)
    have hne : ¬ g = gg := by omega
    have hneA : ¬ w.heap.size = gg := by omega
    have hneA1 : ¬ w.heap.size + 1 = gg := by omega
    have hn0 : (0 : Int) ≤ (st.2.length : Int) := by omega
    have hn1 : (st.2.length : Int) < (st.2.length : Int) + 1 := by omega
    have hfin2 := Lib.hid hfin
    clear hfin q9 q2 q3 q4 q5 q6 q7 q8 hrun hS hh hcall hvl' hB2 hB3 hR2 hO2 h11 hS3 hb0
    simp only [Nat.add_zero] at k0
    refine wpAnyQ_takeW (i := 11) (v := .pointer (some ⟨g, 3, none⟩)) rfl (by kernel_rfl) (by kernel_rfl) (by kernel_rfl) (by decide) (fun _ _ _ h => h) (Or.inl ⟨by rfl, by
      intro w' hSw
      go_simp⟩) hS4 ?_
    simp only [Act.put, List.setIfInBounds_toArray]
    refine wpAnyQ_takeW (i := 9) (v := .pointer (some ⟨gg, st.2.length * 4, none⟩)) rfl (by kernel_rfl) (by kernel_rfl) (by kernel_rfl) (by decide) (fun _ _ _ h => h) (Or.inl ⟨by rfl, by
      intro w' hSw
      go_simp⟩) hS4 ?_
    simp only [Act.put]
    refine wpAnyQ_two (i := 10) (j := 12) (by kernel_rfl) rfl rfl (fun K hK => ?_) (fun K hK => ?_)
    · go_simp
      refine hK.out _ _ (fun _ => ?_) ?_
      · have hoc : ∀ (k o : Nat), k ≠ gg → (lay4 w4 gg (st.2.length * 4) (.int .u8 x.kind) (.string x.text) (.slice Ax nx cx) (.slice Ay ny cy)).cell? ⟨k, o, none⟩ = w4.cell? ⟨k, o, none⟩ := fun k o hk => World.cell?_of_block (a := ⟨k, o, none⟩) (lay4_other w4 gg _ _ _ _ _ hk)
        exact ⟨(hoc _ _ hneA).trans hS4.1, (hoc _ _ hneA1).trans hS4.2.1, (hoc _ _ hne).trans hS4.2.2⟩
      clear hK
      refine wpAnyQ_one (i := 12) (by kernel_rfl) rfl (fun K hK => ?_)
      go_simp
      refine hK.out _ _ (fun h => by cases h) ?_
      clear hK
      refine wpAnyQ_done (by kernel_rfl) ?_
      go_end0
      exact ⟨rfl, hfin2.out⟩
    · go_simp
      refine hK.out _ _ (fun h => by cases h) ?_
      clear hK
      have hk' : ∀ i, (w4.setCell ⟨g, 3, none⟩ (.slice (some ⟨gg, 0, none⟩) (st.2.length + 1) cap)).cell? ⟨gg, i, none⟩ = w4.cell? ⟨gg, i, none⟩ := fun i => World.cell?_setCell_other w4 ⟨g, 3, none⟩ ⟨gg, i, none⟩ _ (fun e => hne (congrArg Addr.block e))
      refine wpAnyQ_one (i := 10) (by kernel_rfl) rfl (fun K hK => ?_)
      go_simp
      refine hK.out _ _ (fun h => by cases h) ?_
      clear hK
      refine wpAnyQ_done (by kernel_rfl) ?_
      go_end0
      refine ⟨rfl, ?_⟩
      have e := lay4_comm w4 gg (st.2.length * 4) g (.int .u8 x.kind) (.string x.text) (.slice Ax nx cx) (.slice Ay ny cy) (.slice (some ⟨gg, 0, none⟩) (st.2.length + 1) cap) hne
      show IA w b d g B _ _ (lay4 _ _ _ _ _ _ _)
      rw [e]
      exact hfin2.out
end Go.Proofs.YtdjfoabinjfnfaaGreatDoor
