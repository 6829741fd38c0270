/-
  The walk of json.Parse.
-/
import Derived.Test.YtlnkjacbdolhnaaGreatDoorJpO
namespace Go.Proofs.YtlnkjacbdolhnaaGreatDoor
open Go.RowKit

/-- How Parse ends. -/
def JsnEnd (R : Except Int Jsn) (w : World) (e : Ending) (w' : World) : Prop := Below w.heap.size w w' ∧ (match R with
  | .error c => e = .returned (.tuple #[.agg #[.int .u8 0, .string ⟨#[]⟩, .slice none 0 0, .slice none 0 0], .int .i64 c])
  | .ok j => ∃ vn vl, e = .returned (.tuple #[.agg #[.int .u8 j.kind, .string j.text, vn, vl], .int .i64 0]) ∧ OwnJ w' 9 25 j w.heap.size w'.heap.size vn vl)
/-- What is known on Parse's way. -/
structure PS (w : World) (s : List UInt8) (it : Nat) (x0 x1 x2 x3 : Value) (W : World) : Prop where
  rj : RJ W (w.heap.size + 2) s it
  env : EnvC w
  bel : Below w.heap.size w W
  c0 : Cel W w.heap.size 25 #[x0, x1, x2, x3]
  c1 : Cel W (w.heap.size + 1) 33 #[.int .i64 0]
section
variable {w W W' : World} {s s' : List UInt8} {it it' : Nat} {x0 x1 x2 x3 : Value}
theorem PS.step (h : PS w s it x0 x1 x2 x3 W) (hb : But W.heap.size (w.heap.size + 2) W W') (hr : RJ W' (w.heap.size + 2) s' it') : PS w s' it' x0 x1 x2 x3 W' := by
  obtain ⟨h1, h2, h3, h4, h5⟩ := h
  have := h1.lt
  exact ⟨hr, h2, h3.trans (hb.below (by omega) (by omega)), h4.but hb h4.lt (by omega), h5.but hb h5.lt (by omega)⟩
theorem PS.made (hE : EnvC w) (s : ByteArray) : PS w s.data.toList 0 (.int .u8 0) (.string ⟨#[]⟩) (.slice none 0 0) (.slice none 0 0) (((w.alloc (.cells #[.int .u8 0, .string ⟨#[]⟩, .slice none 0 0, .slice none 0 0] 25)).alloc (.cells #[.int .i64 0] 33)).alloc (.cells #[.string s, .int .i64 0] 88)) := by
  have hb : Below w.heap.size w (((w.alloc (.cells #[.int .u8 0, .string ⟨#[]⟩, .slice none 0 0, .slice none 0 0] 25)).alloc (.cells #[.int .i64 0] 33)).alloc (.cells #[.string s, .int .i64 0] 88)) := (((Below.refl _ _).alloc (Nat.le_refl _) _).alloc (by simp) _).alloc (by simp; omega) _
  have e1 : ofL s.data.toList = s := ofL_toList s
  refine ⟨?_, hE, hb, ?_, ?_⟩
  · have := Cel.fresh ((w.alloc (.cells #[.int .u8 0, .string ⟨#[]⟩, .slice none 0 0, .slice none 0 0] 25)).alloc (.cells #[.int .i64 0] 33)) 88 #[.string s, .int .i64 0]
    unfold RJ
    rw [e1]
    simpa using this
  · exact ((Cel.fresh w 25 #[.int .u8 0, .string ⟨#[]⟩, .slice none 0 0, .slice none 0 0]).alloc _).alloc _
  · have := (Cel.fresh (w.alloc (.cells #[.int .u8 0, .string ⟨#[]⟩, .slice none 0 0, .slice none 0 0] 25)) 33 #[.int .i64 0]).alloc (.cells #[.string s, .int .i64 0] 88)
    simpa using this
end
theorem PS.pan {w W W' : World} {s : List UInt8} {it : Nat} {x0 x1 x2 x3 : Value} (h : PS w s it x0 x1 x2 x3 W) (hb : But W.heap.size (w.heap.size + 2) W W') : Below w.heap.size w W' ∧ Cel W' w.heap.size 25 #[x0, x1, x2, x3] ∧ Cel W' (w.heap.size + 1) 33 #[.int .i64 0] := by
  obtain ⟨h1, h2, h3, h4, h5⟩ := h
  have := h1.lt
  exact ⟨h3.trans (hb.below (by omega) (by omega)), h4.but hb h4.lt (by omega), h5.but hb h5.lt (by omega)⟩
theorem PS.thrown {w W W' : World} {x0 x1 x2 x3 a1 a2 a3 a4 : Value} {c : Int} (h : Below w.heap.size w W ∧ Cel W w.heap.size 25 #[x0, x1, x2, x3] ∧ Cel W (w.heap.size + 1) 33 #[.int .i64 0]) (hW : W' = (lay4 W w.heap.size 0 a1 a2 a3 a4).setCell ⟨w.heap.size + 1, 0, none⟩ (.int .i64 c)) :
    Below w.heap.size w W' ∧ Cel W' w.heap.size 25 #[a1, a2, a3, a4] ∧ Cel W' (w.heap.size + 1) 33 #[.int .i64 c] := by
  obtain ⟨h1, h2, h3⟩ := h
  subst hW
  refine ⟨?_, ?_, ?_⟩
  · refine Below.setCell ?_ (by show w.heap.size ≤ w.heap.size + 1; omega) _
    unfold lay4
    exact (((h1.setCell (p := ⟨w.heap.size, 0, none⟩) (Nat.le_refl _) _).setCell (p := ⟨w.heap.size, 1, none⟩) (Nat.le_refl _) _).setCell (p := ⟨w.heap.size, 2, none⟩) (Nat.le_refl _) _).setCell (p := ⟨w.heap.size, 3, none⟩) (Nat.le_refl _) _
  · refine (Below.heap_setCell _ ⟨w.heap.size + 1, 0, none⟩ _ _ (by show w.heap.size ≠ w.heap.size + 1; omega)).trans ?_
    exact (((h2.set 0 a1).set 1 a2).set 2 a3).set 3 a4
  · exact Cel.set ((lay4_other W _ _ _ _ _ _ (by omega)).trans h3) 0 (.int .i64 c)
theorem PS.stored {w W : World} {s : List UInt8} {it : Nat} {x0 x1 x2 x3 : Value} (h : PS w s it x0 x1 x2 x3 W) (a1 a2 a3 a4 : Value) : PS w s it a1 a2 a3 a4 (lay4 W w.heap.size 0 a1 a2 a3 a4) := by
  obtain ⟨h1, h2, h3, h4, h5⟩ := h
  have hb : Below w.heap.size W (lay4 W w.heap.size 0 a1 a2 a3 a4) := by
    unfold lay4
    exact ((((Below.refl _ _).setCell (p := ⟨w.heap.size, 0, none⟩) (Nat.le_refl _) _).setCell (p := ⟨w.heap.size, 1, none⟩) (Nat.le_refl _) _).setCell (p := ⟨w.heap.size, 2, none⟩) (Nat.le_refl _) _).setCell (p := ⟨w.heap.size, 3, none⟩) (Nat.le_refl _) _
  refine ⟨(lay4_other W _ _ _ _ _ _ (by omega)).trans h1, h2, h3.trans hb, ?_, (lay4_other W _ _ _ _ _ _ (by omega)).trans h5⟩
  exact (((h4.set 0 a1).set 1 a2).set 2 a3).set 3 a4
theorem PS.envW {w W : World} {s : List UInt8} {it : Nat} {x0 x1 x2 x3 : Value} (h : PS w s it x0 x1 x2 x3 W) : EnvB (w.heap.size + 2) W := ⟨w, h.env, by omega, h.bel⟩
set_option maxRecDepth 100000 in
set_option maxHeartbeats 8000000 in
theorem jsnParse_any (s : ByteArray) (w : World) (hE : EnvC w) : Calls Tryz.prog 13 #[.string s] w (JsnEnd (jparse ownL Lib.validD s.data.toList) w) := by
  have hV := PS.made hE s
  have hsz : s.data.toList.length = s.size := by rw [Array.length_toList]; rfl
  obtain ⟨W0, hW0⟩ : ∃ W0, (((w.alloc (.cells #[.int .u8 0, .string ⟨#[]⟩, .slice none 0 0, .slice none 0 0] 25)).alloc (.cells #[.int .i64 0] 33)).alloc (.cells #[.string s, .int .i64 0] 88)) = W0 := ⟨_, rfl⟩
  rw [hW0] at hV
  obtain ⟨Z, hZ⟩ : ∃ Z, jparse ownL Lib.validD s.data.toList = Z := ⟨_, rfl⟩
  rw [hZ]
  unfold jparse at hZ
  rw [hsz] at hZ
  have hmf : ∀ (fn : Fn) (first cap : Array Value) (w : World), (Instr.makeFunc fn first cap).run Tryz.prog w = .ok (.func fn first cap) w := fun _ _ _ _ => rfl
  replace hW0 := Lib.hid hW0
  replace hV := Lib.hid hV
  by_cases hbig : 262144 < s.size
  · rw [if_pos hbig] at hZ
    subst hZ
    have c1 : (262144 : Int) < (s.size : Int) := by omega
    have hbb := Lib.hid ((((Below.refl w.heap.size w).alloc (Nat.le_refl _) (.cells #[.int .u8 0, .string ⟨#[]⟩, .slice none 0 0, .slice none 0 0] 25)).alloc (by simp) (.cells #[.int .i64 40] 33)))
    clear hV hW0
    go_enter_defers Tryz.func13, Tryz.ntmps13
    go_wp2_with fail
    simp [bodyPostD, Leaves, results, Tryz.results13, go_sem]
    exact ⟨hbb.out, rfl⟩
  rw [if_neg hbig] at hZ
  have c1 : ¬ (262144 : Int) < (s.size : Int) := by omega
  have hlen : s.data.toList.length ≤ 1000000 := by omega
  have hj := jblk_le s.data.toList
  have hBl := Lib.hid (jrBlanks_any (w.heap.size + 2) s.data.toList 0 W0 hV.out.rj)
  generalize s.data.toList = sl at hV hZ hlen hBl hj
  go_enter_defers Tryz.func13, Tryz.ntmps13
  go_upto_region 5 with fail
  rw [hW0.out]
  clear hW0
  go_wp2_with fail
  refine hBl.out.mono ?_
  rintro e w1 ⟨rfl, hr1, hb1⟩
  replace hV := hV.out.step hb1 hr1
  clear hBl hr1 hb1
  have hVal := jrValue_any 64 (w.heap.size + 2) 1 (by omega) (by omega) (jblk sl) 0 w1 hV.envW hV.rj (by omega) (by omega)
  dsimp only at hVal
  obtain ⟨R, hR⟩ : ∃ R, jval ownL Lib.validD 64 0 (jblk sl) = R := ⟨_, rfl⟩
  rw [hR] at hVal hZ
  clear hR
  replace hVal := Lib.hid hVal
  replace hV := Lib.hid hV
  go_wp2_with fail
  refine hVal.out.mono ?_
  intro e w2 hx
  rcases R with c | ⟨j, it2, r⟩
  · obtain ⟨hB2, rfl⟩ := hx
    dsimp only at hZ
    subst hZ
    have hp := hV.out.pan hB2
    clear hVal hV hB2
    refine leaves_cons (f := 33) (args := #[.pointer (some ⟨w.heap.size, 0, none⟩), .pointer (some ⟨w.heap.size + 1, 0, none⟩)]) (by simp) (by simp [go_sem]) ?_
    refine (parseD_pan w.heap.size c 0 _ _ _ _ _ hp.2.1 hp.2.2).mono ?_
    rintro e u' w'' ⟨rfl, rfl, hw''⟩
    obtain ⟨hbb, hC, hE'⟩ := PS.thrown hp hw''
    have a0 := hC.cell 0
    have a1 := hC.cell 1
    have a2 := hC.cell 2
    have a3 := hC.cell 3
    have b0 := hE'.cell 0
    simp only [List.getElem?_toArray, List.getElem?_cons_zero, List.getElem?_cons_succ] at a0 a1 a2 a3 b0
    replace hbb := Lib.hid hbb
    clear hw'' hp hC hE'
    simp [Leaves, settle, results, Tryz.results13, go_sem, a0, a1, a2, a3, b0]
    exact ⟨hbb.out, rfl⟩
  obtain ⟨hB2, vn, vl, rfl, hR2, hO2, hit⟩ := hx
  dsimp only at hZ
  obtain ⟨Ax, nx, cx, Ay, ny, cy, rfl, rfl⟩ := hO2.forms
  have h2 := hV.out.step hB2 hR2
  have hs1 : w.heap.size + 2 < w1.heap.size := hV.out.rj.lt
  have hs12 := hB2.size
  clear hVal hV hB2 hR2
  have a0 := h2.c0.cell 0
  have a1 := h2.c0.cell 1
  have a2 := h2.c0.cell 2
  have a3 := h2.c0.cell 3
  have f0 := h2.c0.froz 0
  have f1 := h2.c0.froz 1
  have f2 := h2.c0.froz 2
  have f3 := h2.c0.froz 3
  simp only [List.getElem?_toArray, List.getElem?_cons_zero, List.getElem?_cons_succ] at a0 a1 a2 a3
  have h3 := h2.stored (.int .u8 j.kind) (.string j.text) (.slice Ax nx cx) (.slice Ay ny cy)
  have hO3 : OwnJ (lay4 w2 w.heap.size 0 (.int .u8 j.kind) (.string j.text) (.slice Ax nx cx) (.slice Ay ny cy)) 9 25 j w1.heap.size w2.heap.size (.slice Ax nx cx) (.slice Ay ny cy) := OwnJ.keep j hO2 (fun k hk _ => lay4_other w2 _ _ _ _ _ _ (by omega)) (Nat.le_refl _) (Nat.le_refl _)
  obtain ⟨W3, hW3⟩ : ∃ W3, lay4 w2 w.heap.size 0 (.int .u8 j.kind) (.string j.text) (.slice Ax nx cx) (.slice Ay ny cy) = W3 := ⟨_, rfl⟩
  have hs3 : W3.heap.size = w2.heap.size := by rw [← hW3, lay4_size]
  rw [hW3] at h3 hO3
  unfold lay4 at hW3
  have hBl := Lib.hid (jrBlanks_any (w.heap.size + 2) r it2 W3 h3.rj)
  replace hW3 := Lib.hid hW3
  replace h3 := Lib.hid h3
  replace hO3 := Lib.hid hO3
  clear h2 hO2
  go_upto_region 7 with fail
  rw [hW3.out]
  clear hW3 a0 a1 a2 a3 f0 f1 f2 f3
  go_wp2_with fail
  refine hBl.out.mono ?_
  rintro e w4 ⟨rfl, hr4, hb4⟩
  have h4 := h3.out.step hb4 hr4
  have hs4 := hb4.size
  have hO4 := OwnJ.keep (w' := w4) j hO3.out (fun k hk hk2 => hb4.block k (by omega) (by omega)) (Nat.le_refl _) (Nat.le_refl _)
  have hp0 := h4.pan (But.refl _ _ _)
  clear hBl h3 hO3 hr4 hb4
  have z0 := Cel.cell h4.rj 0
  have a0 := h4.c0.cell 0
  have a1 := h4.c0.cell 1
  have a2 := h4.c0.cell 2
  have a3 := h4.c0.cell 3
  have f0 := h4.c0.froz 0
  have f1 := h4.c0.froz 1
  have f2 := h4.c0.froz 2
  have f3 := h4.c0.froz 3
  have b0 := h4.c1.cell 0
  have g0 := h4.c1.froz 0
  simp only [List.getElem?_toArray, List.getElem?_cons_zero, List.getElem?_cons_succ] at z0 a0 a1 a2 a3 b0
  have hemb : (ofL (jblk r)).toList.isEmpty = (jblk r).isEmpty := by rw [Lib.toList_data, toList_ofL]
  obtain ⟨S, hS⟩ : ∃ S, ofL (jblk r) = S := ⟨_, rfl⟩
  rw [hS] at hemb z0
  clear hS h4
  by_cases hem : jblk r = []
  · rw [if_pos hem] at hZ
    subst hZ
    rw [hem] at hemb
    replace hemb : S.toList.isEmpty = true := hemb
    obtain ⟨W5, hW5⟩ : ∃ W5, (lay4 w4 w.heap.size 0 (.int .u8 j.kind) (.string j.text) (.slice Ax nx cx) (.slice Ay ny cy)).setCell ⟨w.heap.size + 1, 0, none⟩ (.int .i64 0) = W5 := ⟨_, rfl⟩
    have hp := Lib.hid (PS.thrown hp0 hW5.symm)
    have hO5 : OwnJ W5 9 25 j w1.heap.size w2.heap.size (.slice Ax nx cx) (.slice Ay ny cy) := by
      rw [← hW5]
      exact OwnJ.keep j hO4 (fun k hk _ => (Below.heap_setCell _ ⟨w.heap.size + 1, 0, none⟩ _ k (by show k ≠ w.heap.size + 1; omega)).trans (lay4_other w4 _ _ _ _ _ _ (by omega))) (Nat.le_refl _) (Nat.le_refl _)
    have hs5 : W5.heap.size = w4.heap.size := by rw [← hW5]; simp [lay4_size]
    have hO6 := OwnJ.keep (w' := W5) (lo' := w.heap.size) (hi' := W5.heap.size) j hO5 (fun k _ _ => rfl) (by omega) (by omega)
    clear hO4 hO5 hp0
    replace hO6 := Lib.hid hO6
    unfold lay4 at hW5
    replace hW5 := Lib.hid hW5
    go_wp2_with fail
    rw [hW5.out]
    clear hW5 a0 a1 a2 a3 b0 z0 f0 f1 f2 f3 g0
    refine leaves_cons (f := 33) (args := #[.pointer (some ⟨w.heap.size, 0, none⟩), .pointer (some ⟨w.heap.size + 1, 0, none⟩)]) (by simp) (by simp [go_sem]) ?_
    refine (parseD_idle w.heap.size _).mono ?_
    rintro e u' w'' ⟨rfl, rfl, rfl⟩
    obtain ⟨hbb, hC, hE'⟩ := hp.out
    have a0 := hC.cell 0
    have a1 := hC.cell 1
    have a2 := hC.cell 2
    have a3 := hC.cell 3
    have b0 := hE'.cell 0
    simp only [List.getElem?_toArray, List.getElem?_cons_zero, List.getElem?_cons_succ] at a0 a1 a2 a3 b0
    replace hbb := Lib.hid hbb
    clear hp hC hE'
    simp [Leaves, settle, results, Tryz.results13, go_sem, a0, a1, a2, a3, b0]
    exact ⟨hbb.out, _, _, rfl, hO6.out⟩
  · rw [if_neg hem] at hZ
    subst hZ
    replace hemb : S.toList.isEmpty = false := by rw [hemb]; simpa using hem
    have hp := hp0
    replace hp := Lib.hid hp
    clear hp0 hO4
    go_wp2_with fail
    refine (jrFail_any 4 _).mono ?_
    rintro e w5 ⟨rfl, rfl⟩
    replace hp := hp.out
    clear a0 a1 a2 a3 b0 z0 f0 f1 f2 f3 g0
    refine leaves_cons (f := 33) (args := #[.pointer (some ⟨w.heap.size, 0, none⟩), .pointer (some ⟨w.heap.size + 1, 0, none⟩)]) (by simp) (by simp [go_sem]) ?_
    refine (parseD_pan w.heap.size 4 0 _ _ _ _ _ hp.2.1 hp.2.2).mono ?_
    rintro e u' w'' ⟨rfl, rfl, hw''⟩
    obtain ⟨hbb, hC, hE'⟩ := PS.thrown hp hw''
    have a0 := hC.cell 0
    have a1 := hC.cell 1
    have a2 := hC.cell 2
    have a3 := hC.cell 3
    have b0 := hE'.cell 0
    simp only [List.getElem?_toArray, List.getElem?_cons_zero, List.getElem?_cons_succ] at a0 a1 a2 a3 b0
    replace hbb := Lib.hid hbb
    clear hw'' hp hC hE'
    simp [Leaves, settle, results, Tryz.results13, go_sem, a0, a1, a2, a3, b0]
    exact ⟨hbb.out, rfl⟩
end Go.Proofs.YtlnkjacbdolhnaaGreatDoor
