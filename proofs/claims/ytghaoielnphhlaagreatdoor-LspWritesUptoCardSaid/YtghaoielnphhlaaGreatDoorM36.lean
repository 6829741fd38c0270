/-
  The walk of the document's Range.
-/
import Derived.Test.YtghaoielnphhlaaGreatDoorLwK
import Derived.Test.YtghaoielnphhlaaGreatDoorM34
namespace Go.Proofs.YtghaoielnphhlaaGreatDoor
open Go.RowKit

def RngPhi (s : Nat) (a b y z : Int) (i : Nat) (v : Value) (w : World) : Prop := match i with
  | 0 => ∃ g, v = .slice (some ⟨g, 0, none⟩) 2 2 ∧ s + 1 < g ∧ Cel w g 9 ([lStart, lEnd].map Value.string).toArray
  | 1 => v = .pointer (some ⟨s, 0, none⟩)
  | 2 => v = .agg #[.int .i64 a, .int .i64 b]
  | 3 => ∃ vn vl, v = jvV (posJ a b) vn vl ∧ JV w (fun k => s + 1 < k) (posJ a b) vn vl
  | 4 => v = .pointer (some ⟨s, 2, none⟩)
  | 5 => v = .agg #[.int .i64 y, .int .i64 z]
  | 6 => ∃ vn vl, v = jvV (posJ y z) vn vl ∧ JV w (fun k => s + 1 < k) (posJ y z) vn vl
  | 7 => ∃ g x1 x2 y1 y2, v = .slice (some ⟨g, 0, none⟩) 2 2 ∧ s + 1 < g ∧ Cel w g 25 ([((posJ a b, x1, x2) : JE), (posJ y z, y1, y2)].flatMap encJ).toArray ∧ JV w (fun k => s + 1 < k) (posJ a b) x1 x2 ∧ JV w (fun k => s + 1 < k) (posJ y z) y1 y2
  | 8 => ∃ vn vl, v = .agg #[.int .u8 7, .string ⟨#[]⟩, vn, vl] ∧ JV w (fun k => s + 1 < k) (rangeJ a b y z) vn vl
  | 9 => ∃ vn vl, Cel w (s + 1) 25 #[.int .u8 7, .string ⟨#[]⟩, vn, vl] ∧ JV w (fun k => s + 1 < k) (rangeJ a b y z) vn vl
  | _ => True
set_option maxRecDepth 100000 in
set_option maxHeartbeats 4000000 in
theorem refRange8_any (a b y z : Int) (w : World) (hE : Env w) (ha : I64 a) (hb2 : I64 b) (hy : I64 y) (hz8 : I64 z) :
    Calls Tryz.prog 49 #[.agg #[.int .i64 a, .int .i64 b, .int .i64 y, .int .i64 z]] w (JvEnd (rangeJ a b y z) w) := by
  obtain ⟨V, hV⟩ : ∃ V, (w.alloc (.cells #[.int .i64 a, .int .i64 b, .int .i64 y, .int .i64 z] 77)).alloc (.cells #[.int .u8 0, .string ⟨#[]⟩, .slice none 0 0, .slice none 0 0] 25) = V := ⟨_, rfl⟩
  have hCp : Cel V w.heap.size 77 #[.int .i64 a, .int .i64 b, .int .i64 y, .int .i64 z] := by rw [← hV]; exact (Cel.fresh _ _ _).alloc _
  have hCr : Cel V (w.heap.size + 1) 25 #[.int .u8 0, .string ⟨#[]⟩, .slice none 0 0, .slice none 0 0] := by
    rw [← hV]
    have := Cel.fresh (w.alloc (.cells #[.int .i64 a, .int .i64 b, .int .i64 y, .int .i64 z] 77)) 25 #[.int .u8 0, .string ⟨#[]⟩, .slice none 0 0, .slice none 0 0]
    simpa using this
  have hBV : Below w.heap.size w V := by rw [← hV]; exact ((Below.refl _ _).alloc (Nat.le_refl _) _).alloc (by simp) _
  replace hV := Lib.hid hV
  go_enter Tryz.func49, Tryz.ntmps49
  go_upto_region 1 with fail
  rw [hV.out]
  clear hV
  have hnum := Lib.hid (fun (n m : Int) (hn : I64 n) (hm : I64 m) (W : World) (hb : Below w.heap.size w W) => refPos8_any n m W (hE.below hb) hn hm)
  obtain ⟨SS, hSS⟩ : ∃ SS : World → Prop, (fun W => Cel W w.heap.size 77 #[.int .i64 a, .int .i64 b, .int .i64 y, .int .i64 z] ∧ (∃ x0 x1 x2 x3, Cel W (w.heap.size + 1) 25 #[x0, x1, x2, x3]) ∧ Below w.heap.size w W) = SS := ⟨_, rfl⟩
  refine wp_region_tidy SS (fun i W W' => if i = 9 then SS W' ∧ W.heap.size ≤ W'.heap.size ∧ ∀ k, k ≠ w.heap.size + 1 → k < W.heap.size → W'.heap[k]? = W.heap[k]? else Below W.heap.size W W') (RngPhi w.heap.size a b y z) (by kernel_rfl) (by kernel_rfl) ?_ ?_ ?_ ?_ ?_
  · subst hSS; exact ⟨hCp.drew, ⟨_, _, _, _, hCr.drew⟩, bel_drew hBV⟩
  · intro i W W' hS hk
    by_cases h9 : i = 9
    · rw [if_pos h9] at hk; exact hk.1
    · rw [if_neg h9] at hk
      subst hSS
      obtain ⟨h1, ⟨x0, x1, x2, x3, h2⟩, h3⟩ := hS
      exact ⟨h1.below hk h1.lt, ⟨x0, x1, x2, x3, h2.below hk h2.lt⟩, h3.trans (hk.mono h3.size)⟩
  · intro i j v W W' hji hj hk
    have hk2 : W.heap.size ≤ W'.heap.size ∧ (∀ k, k ≠ w.heap.size + 1 → k < W.heap.size → W'.heap[k]? = W.heap[k]?) ∧ (i ≠ 9 → ∀ k, k < W.heap.size → W'.heap[k]? = W.heap[k]?) := by
      by_cases h9 : i = 9
      · rw [if_pos h9] at hk; exact ⟨hk.2.1, hk.2.2, fun h => absurd h9 h⟩
      · rw [if_neg h9] at hk; exact ⟨hk.size, fun k _ hlt => hk.block k hlt, fun _ k hlt => hk.block k hlt⟩
    obtain ⟨hsz, hkk, hk9⟩ := hk2
    have hJk : ∀ (x : Jsn) (vn vl : Value), JV W (fun k => w.heap.size + 1 < k) x vn vl → JV W' (fun k => w.heap.size + 1 < k) x vn vl := fun x vn vl hx =>
      JV.keep hsz (fun p hp hp2 => World.cell?_of_block (hkk p.block (by omega) hp2)) (fun _ h _ => h) x hx
    clear hk
    match j with
    | 0 =>
      obtain ⟨g, e, hg, hC⟩ := hj
      exact ⟨g, e, hg, (hkk g (by omega) hC.lt).trans hC⟩
    | 1 => exact hj
    | 2 => exact hj
    | 3 => obtain ⟨vn, vl, e, h⟩ := hj; exact ⟨vn, vl, e, hJk _ _ _ h⟩
    | 4 => exact hj
    | 5 => exact hj
    | 6 => obtain ⟨vn, vl, e, h⟩ := hj; exact ⟨vn, vl, e, hJk _ _ _ h⟩
    | 7 =>
      obtain ⟨g, x1, x2, y1, y2, e, hg, hC, h1, h2⟩ := hj
      exact ⟨g, x1, x2, y1, y2, e, hg, (hkk g (by omega) hC.lt).trans hC, hJk _ _ _ h1, hJk _ _ _ h2⟩
    | 8 => obtain ⟨vn, vl, e, h⟩ := hj; exact ⟨vn, vl, e, hJk _ _ _ h⟩
    | 9 =>
      obtain ⟨vn, vl, hC, h⟩ := hj
      exact ⟨vn, vl, (hk9 (fun e => hji e.symm) _ hC.lt).trans hC, hJk _ _ _ h⟩
    | m + 10 => trivial
  · intro i o ho b' W hS hd hf hdep K hK
    obtain ⟨tm, df⟩ := b'
    dsimp only at hd
    subst hd
    have hS' := hS
    rw [← hSS] at hS'
    obtain ⟨hc, ⟨x0, x1, x2, x3, hcr⟩, hbl⟩ := hS'
    have hlt := hcr.lt
    have kp : ∀ i, i ≠ 9 → ∀ W', Below W.heap.size W W' → (if i = 9 then SS W' ∧ W.heap.size ≤ W'.heap.size ∧ ∀ k, k ≠ w.heap.size + 1 → k < W.heap.size → W'.heap[k]? = W.heap[k]? else Below W.heap.size W W') := fun i hi W' h => by rw [if_neg hi]; exact h
    have t1 : tm[1]?.getD undef = .pointer (some ⟨w.heap.size, 0, none⟩) := by
      have := hf 1 (by decide)
      simpa using this
    match i with
    | 0 =>
      injection ho with ho
      subst ho
      clear hf hdep
      go_simp
      exact hK _ _ (by simp) ⟨_, rfl, by omega, Cel.fresh _ _ _⟩ (kp 0 (by decide) _ (((Below.refl _ _).alloc (Nat.le_refl _) _)))
    | 1 =>
      injection ho with ho
      subst ho
      clear hf hdep
      go_simp
      exact hK _ _ (by simp) rfl (kp 1 (by decide) _ (Below.refl _ _))
    | 2 =>
      injection ho with ho
      subst ho
      have h1 : tm[4]?.getD undef = .pointer (some ⟨w.heap.size, 0, none⟩) := by have := hdep ⟨1, .data⟩ (by simp) (by rfl) _ rfl; simpa [valD, RngPhi] using this
      have c0 : W.cell? ⟨w.heap.size, 0, none⟩ = some (.int .i64 a) := hc.cell 0
      have c1 : W.cell? ⟨w.heap.size, 1, none⟩ = some (.int .i64 b) := hc.cell 1
      clear hf hdep
      go_simp
      exact hK _ _ (by simp) rfl (kp 2 (by decide) _ (Below.refl _ _))
    | 3 =>
      injection ho with ho
      subst ho
      have h1 : tm[5]?.getD undef = .agg #[.int .i64 a, .int .i64 b] := by have := hdep ⟨2, .data⟩ (by simp) (by rfl) _ rfl; simpa [valD, RngPhi] using this
      have hcall := hnum.out a b ha hb2 W hbl
      clear hf hdep
      go_simp
      refine hcall.mono ?_
      rintro e w1 ⟨xn, xl, rfl, hO, hbb⟩
      exact hK _ _ (by simp) ⟨xn, xl, rfl, hO.more (fun k hk _ => by omega)⟩ (kp 3 (by decide) _ hbb)
    | 4 =>
      injection ho with ho
      subst ho
      clear hf hdep
      go_simp
      exact hK _ _ (by simp) rfl (kp 4 (by decide) _ (Below.refl _ _))
    | 5 =>
      injection ho with ho
      subst ho
      have h1 : tm[7]?.getD undef = .pointer (some ⟨w.heap.size, 2, none⟩) := by have := hdep ⟨4, .data⟩ (by simp) (by rfl) _ rfl; simpa [valD, RngPhi] using this
      have c2 : W.cell? ⟨w.heap.size, 2, none⟩ = some (.int .i64 y) := hc.cell 2
      have c3 : W.cell? ⟨w.heap.size, 3, none⟩ = some (.int .i64 z) := hc.cell 3
      clear hf hdep
      go_simp
      exact hK _ _ (by simp) rfl (kp 5 (by decide) _ (Below.refl _ _))
    | 6 =>
      injection ho with ho
      subst ho
      have h1 : tm[8]?.getD undef = .agg #[.int .i64 y, .int .i64 z] := by have := hdep ⟨5, .data⟩ (by simp) (by rfl) _ rfl; simpa [valD, RngPhi] using this
      have hcall := hnum.out y z hy hz8 W hbl
      clear hf hdep
      go_simp
      refine hcall.mono ?_
      rintro e w1 ⟨xn, xl, rfl, hO, hbb⟩
      exact hK _ _ (by simp) ⟨xn, xl, rfl, hO.more (fun k hk _ => by omega)⟩ (kp 6 (by decide) _ hbb)
    | 7 =>
      injection ho with ho
      subst ho
      obtain ⟨u1, u2, e1, hJ1⟩ := hdep ⟨3, .data⟩ (by simp) (by rfl) _ rfl
      obtain ⟨u3, u4, e2, hJ2⟩ := hdep ⟨6, .data⟩ (by simp) (by rfl) _ rfl
      obtain ⟨A, n, c, B, m, d, rfl, rfl⟩ := hJ1.forms
      obtain ⟨A', n', c', B', m', d', rfl, rfl⟩ := hJ2.forms
      have h1 : tm[6]?.getD undef = .agg #[.int .u8 7, .string ⟨#[]⟩, .slice A n c, .slice B m d] := by simpa [valD, jvV, posJ, mkO] using e1
      have h2 : tm[9]?.getD undef = .agg #[.int .u8 7, .string ⟨#[]⟩, .slice A' n' c', .slice B' m' d'] := by simpa [valD, jvV, posJ, mkO] using e2
      clear hf hdep e1 e2
      go_simp
      have hbb := (Below.refl W.heap.size W).alloc (Nat.le_refl _) (.cells #[.int .u8 7, .string ⟨#[]⟩, .slice A n c, .slice B m d, .int .u8 7, .string ⟨#[]⟩, .slice A' n' c', .slice B' m' d'] 25)
      exact hK _ _ (by simp) ⟨_, _, _, _, _, rfl, by omega, Cel.fresh _ _ _, hJ1.later hbb, hJ2.later hbb⟩ (kp 7 (by decide) _ hbb)
    | 8 =>
      injection ho with ho
      subst ho
      obtain ⟨g, e1, hg, hC⟩ := hdep ⟨0, .data⟩ (by simp) (by rfl) _ rfl
      obtain ⟨gl, y1, y2, y3, y4, e2, hgl, hL, hJ1, hJ2⟩ := hdep ⟨7, .data⟩ (by simp) (by rfl) _ rfl
      have h1 : tm[3]?.getD undef = .slice (some ⟨g, 0, none⟩) 2 2 := by simpa [valD] using e1
      have h2 : tm[10]?.getD undef = .slice (some ⟨gl, 0, none⟩) 2 2 := by simpa [valD] using e2
      have hcall := refObj8_any W (some ⟨g, 0, none⟩) 2 2 (some ⟨gl, 0, none⟩) 2 2
      have hJ : JV W (fun k => w.heap.size + 1 < k) (rangeJ a b y z) (.slice (some ⟨g, 0, none⟩) 2 2) (.slice (some ⟨gl, 0, none⟩) 2 2) :=
        jv_rows (zs := [(posJ a b, y1, y2), (posJ y z, y3, y4)]) (by omega) (by omega) hg hgl hC rfl (fun z hz => by
          simp at hz
          rcases hz with rfl | rfl
          · exact hJ1
          · exact hJ2) hL
      clear hf hdep e1 e2
      go_simp
      refine hcall.mono ?_
      rintro e w1 ⟨rfl, hbb⟩
      exact hK _ _ (by simp) ⟨_, _, rfl, hJ.later hbb⟩ (kp 8 (by decide) _ hbb)
    | 9 =>
      injection ho with ho
      subst ho
      obtain ⟨u1, u2, e1, hJ⟩ := hdep ⟨8, .data⟩ (by simp) (by rfl) _ rfl
      obtain ⟨A, n, c, B, m, d, rfl, rfl⟩ := hJ.forms
      have h1 : tm[11]?.getD undef = .agg #[.int .u8 7, .string ⟨#[]⟩, .slice A n c, .slice B m d] := by simpa [valD] using e1
      have t2 : tm[2]?.getD undef = .pointer (some ⟨w.heap.size + 1, 0, none⟩) := by
        have := hf 2 (by decide)
        simpa using this
      obtain ⟨p0, p1, p2, p3⟩ := hcr.c4
      have s0 := hcr.froz 0
      have s1 := hcr.froz 1
      have s2 := hcr.froz 2
      have s3 := hcr.froz 3
      obtain ⟨W5, hW5⟩ : ∃ X, (((W.setCell ⟨w.heap.size + 1, 0, none⟩ (.int .u8 7)).setCell ⟨w.heap.size + 1, 1, none⟩ (.string ⟨#[]⟩)).setCell ⟨w.heap.size + 1, 2, none⟩ (.slice A n c)).setCell ⟨w.heap.size + 1, 3, none⟩ (.slice B m d) = X := ⟨_, rfl⟩
      have hk5 : ∀ k, k ≠ w.heap.size + 1 → W5.heap[k]? = W.heap[k]? := fun k hk => by
        rw [← hW5, Below.heap_setCell _ _ _ _ hk, Below.heap_setCell _ _ _ _ hk, Below.heap_setCell _ _ _ _ hk, Below.heap_setCell _ _ _ _ hk]
      have hs5 : W5.heap.size = W.heap.size := by rw [← hW5]; simp [World.setCell]
      have hC5 : Cel W5 (w.heap.size + 1) 25 #[.int .u8 7, .string ⟨#[]⟩, .slice A n c, .slice B m d] := by
        rw [← hW5]
        have := (((hcr.set 0 (.int .u8 7)).set 1 (.string ⟨#[]⟩)).set 2 (.slice A n c)).set 3 (.slice B m d)
        simpa using this
      have hB5 : Below w.heap.size w W5 := by
        rw [← hW5]
        exact (((hbl.setCell (by simp) _).setCell (by simp) _).setCell (by simp) _).setCell (by simp) _
      have hJ5 : JV W5 (fun k => w.heap.size + 1 < k) (rangeJ a b y z) (.slice A n c) (.slice B m d) := JV.keep (by omega) (fun p hp hp2 => World.cell?_of_block (hk5 p.block (by omega))) (fun _ h _ => h) _ hJ
      have hS5 : SS W5 := by rw [← hSS]; exact ⟨(hk5 _ (by omega)).trans hc, ⟨_, _, _, _, hC5⟩, hB5⟩
      replace hW5 := Lib.hid hW5
      clear hf hdep e1
      go_simp
      rw [hW5.out]
      exact hK undef _ (fun _ => rfl) ⟨_, _, hC5, hJ5⟩ (by rw [if_pos rfl]; exact ⟨hS5, by omega, fun k hk _ => hk5 k hk⟩)
    | m + 10 => simp at ho
  · intro b' W hS hd hz hf hfact
    obtain ⟨tm, df⟩ := b'
    dsimp only at hd hz
    subst hd
    rw [← hSS] at hS
    obtain ⟨vn, vl, hC, hJ⟩ := hfact 9 _ rfl
    have t2 : tm.getD 2 undef = .pointer (some ⟨w.heap.size + 1, 0, none⟩) := hf 2 (by decide)
    obtain ⟨dj, hd1, hd2⟩ := jsnDesc
    have hBl := hS.2.2
    clear hfact hf hSS hnum hCp hCr hBV
    replace hd1 := Lib.hid hd1
    replace hd2 := Lib.hid hd2
    go_wp2
    exact bodyPost_ret (results_cel1 Tryz.results49 _ _ _ _ _ dj t2 hC hd1.out hd2.out jsnInfo) rfl ⟨_, _, rfl, hJ.more (fun k hk _ => by omega), hBl⟩
end Go.Proofs.YtghaoielnphhlaaGreatDoor


/-
  A region that draws its order, each operation shown once: facts over all slots; and what holds until an operation came up. No program.
-/
namespace Go.Proofs.YtghaoielnphhlaaGreatDoor

/-- Does operation q wait for operation i? -/
def waitB (ops : Array Oper) (q i : Nat) : Bool := match ops[q]? with
  | some o => o.after.any (fun e => decide (e.on = i) && Region.binds .any e)
  | none => false
/-- The slots. -/
def slotF (b : Act) (t : Tmp) : Value := b.tmps.getD t undef
/-- The slots, one of them written. -/
def updF (f : Tmp → Value) (d : Option Tmp) (v : Value) (t : Tmp) : Value := match d with
  | some s => if s = t then v else f t
  | none => f t
theorem slotF_put {b : Act} {d : Option Tmp} {v : Value} (h : ∀ t, d = some t → t < b.tmps.size) : slotF (b.put d v) = updF (slotF b) d v := by
  funext t
  cases d with
  | none => rfl
  | some s =>
    have hs := h s rfl
    by_cases hst : s = t
    · subst hst
      simp [slotF, updF, Act.put, Array.getD_eq_getD_getElem?, hs]
    · simp [slotF, updF, Act.put, Array.getD_eq_getD_getElem?, Array.getElem?_setIfInBounds_ne hst, hst]
/-- A fact's slots are written by no operation that may come behind it. -/
def rdB (ops : Array Oper) (rd : Nat → List Tmp) : Bool := (List.range ops.size).all fun i => match ops[i]? with
  | some o => match o.dst with
    | some t => (List.range ops.size).all fun j => decide (i = j) || waitB ops j i || !(rd j).contains t
    | none => true
  | none => true
theorem rd_at {ops : Array Oper} {rd : Nat → List Tmp} (h : rdB ops rd = true) {i j : Nat} {o : Oper} {t : Tmp} (ho : ops[i]? = some o) (ht : o.dst = some t) (hj : j < ops.size) (hij : j ≠ i) (hw : waitB ops j i = false) : t ∉ rd j := by
  have hi : i < ops.size := (Array.getElem?_eq_some_iff.1 ho).1
  unfold rdB at h
  rw [List.all_eq_true] at h
  have h1 := h i (List.mem_range.2 hi)
  rw [ho] at h1
  dsimp only at h1
  rw [ht] at h1
  dsimp only at h1
  rw [List.all_eq_true] at h1
  have h2 := h1 j (List.mem_range.2 hj)
  rw [hw] at h2
  have h3 : ¬ i = j := fun e => hij e.symm
  simpa [h3] using h2
section
variable {P : Program} {ops : Array Oper} {Q : Exit → Act → World → Prop}
structure FactP (ops : Array Oper) (a : Act) (S : World → Prop) (U : Nat → World → Prop) (Phi : Nat → (Tmp → Value) → World → Prop) (listed : Array Bool) (b : Act) (w : World) : Prop where
  s : S w
  u : ∀ q, q < ops.size → listed.getD q false = false → U q w
  closed : ∀ q i, listed.getD q false = true → waitB ops q i = true → listed.getD i false = true
  defers : b.defers = a.defers
  size : b.tmps.size = a.tmps.size
  lsize : listed.size = ops.size
  frame : ∀ t, (∀ o ∈ ops, o.dst ≠ some t) → b.tmps.getD t undef = a.tmps.getD t undef
  fact : ∀ i, i < ops.size → listed.getD i false = true → Phi i (slotF b) w
theorem wait_lt {q i : Nat} (h : waitB ops q i = true) : q < ops.size := by
  unfold waitB at h
  rcases ho : ops[q]? with _ | o
  · rw [ho] at h; cases h
  · exact (Array.getElem?_eq_some_iff.1 ho).1
theorem wait_edge {q i : Nat} {o : Oper} (ho : ops[q]? = some o) (h : waitB ops q i = true) : ∃ e ∈ o.after, e.on = i ∧ Region.binds .any e = true := by
  unfold waitB at h
  rw [ho] at h
  dsimp only at h
  rw [Array.any_eq_true] at h
  obtain ⟨k, hk, h2⟩ := h
  rw [Bool.and_eq_true] at h2
  exact ⟨_, Array.getElem_mem hk, by simpa using h2.1, h2.2⟩
theorem getD_set {l : Array Bool} {i j : Nat} (h : l.getD j false = true) : (l.setIfInBounds i true).getD j false = true := by
  rw [Array.getD_eq_getD_getElem?] at h ⊢
  by_cases hij : i = j
  · subst hij
    rcases h3 : l[i]? with _ | b
    · rw [h3] at h; cases h
    · have := (Array.getElem?_eq_some_iff.1 h3).1
      rw [Array.getElem?_setIfInBounds]; simp [this]
  · rw [Array.getElem?_setIfInBounds_ne hij]; exact h
theorem getD_set_ne {l : Array Bool} {i j : Nat} (hij : j ≠ i) : (l.setIfInBounds i true).getD j false = l.getD j false := by
  rw [Array.getD_eq_getD_getElem?, Array.getD_eq_getD_getElem?, Array.getElem?_setIfInBounds_ne (Ne.symm hij)]
set_option maxHeartbeats 1000000 in
/-- Each operation shown once. U q: what holds until operation q came up. -/
theorem wp_region_plan {id : Nat} {a : Act} {w : World} (rd : Nat → List Tmp) (S : World → Prop) (U : Nat → World → Prop) (Keep : Nat → World → World → Prop) (Phi : Nat → (Tmp → Value) → World → Prop)
    (hm : P.follows .mixedOrders = true) (htd : tidyB ops a.tmps.size = true) (hrd : rdB ops rd = true)
    (hS0 : S w.drew) (hU0 : ∀ q, U q w.drew)
    (hSk : ∀ i w w', S w → Keep i w w' → S w') (hUk : ∀ i q w w', i ≠ q → S w → U q w → Keep i w w' → U q w')
    (hPk : ∀ i j f w w', j ≠ i → waitB ops j i = false → S w → Phi j f w → Keep i w w' → Phi j f w')
    (hPf : ∀ j f f' w, (∀ t ∈ rd j, f' t = f t) → Phi j f w → Phi j f' w)
    (hstep : ∀ (i : Nat) (o : Oper), ops[i]? = some o → ∀ (b : Act) (w : World), S w → (∀ q, i = q ∨ waitB ops q i = true → U q w) → b.defers = a.defers → b.tmps.size = a.tmps.size → (∀ t, (∀ o ∈ ops, o.dst ≠ some t) → b.tmps.getD t undef = a.tmps.getD t undef) →
      (∀ j, waitB ops i j = true → Phi j (slotF b) w) → ∀ K : Act → World → Prop, (∀ v w', (o.dst = none → v = undef) → Phi i (updF (slotF b) o.dst v) w' → Keep i w w' → K (b.put o.dst v) w') → Oper.wp P o b w K Q)
    (hend : ∀ (b : Act) (w : World), S w → b.defers = a.defers → b.tmps.size = a.tmps.size → (∀ t, (∀ o ∈ ops, o.dst ≠ some t) → b.tmps.getD t undef = a.tmps.getD t undef) → (∀ i, i < ops.size → Phi i (slotF b) w) → Q .normal b w) :
    (Code.region id ops true).wp P Q a w := by
  refine wp_region_inv (FactP ops a S U Phi) hm ⟨hS0, fun q _ _ => hU0 q, fun q i hl => ?_, rfl, rfl, by simp, fun _ _ => rfl, fun i ho hl => ?_⟩ (fun listed b w i hI hi => ?_) (fun listed b w hI hr => ?_)
  · exfalso
    rw [Array.getD_eq_getD_getElem?, Array.getElem?_replicate] at hl
    split at hl <;> simp at hl
  · exfalso
    rw [Array.getD_eq_getD_getElem?, Array.getElem?_replicate] at hl
    split at hl <;> simp at hl
  · obtain ⟨hun, o, ho, hall⟩ := mem_ready.1 hi
    have hom : o ∈ ops := Array.mem_of_getElem? ho
    have hio : i < ops.size := (Array.getElem?_eq_some_iff.1 ho).1
    have hil : i < listed.size := by rw [hI.lsize]; exact hio
    have hunl : listed.getD i false = false := by
      rw [Array.getD_eq_getD_getElem?, Array.getElem?_eq_getElem hil] at hun ⊢
      exact hun
    obtain ⟨hg, hb, _, _⟩ := tidy_at htd i o ho
    have hwaits : ∀ j, waitB ops i j = true → listed.getD j false = true := fun j hj => by
      obtain ⟨e, he, h1, h2⟩ := wait_edge ho hj
      rw [← h1]; exact hall e he h2
    unfold wpOp
    rw [ho]
    dsimp only
    rw [if_pos (by unfold Region.wanted; rw [hg])]
    refine .inl (hstep i o ho b w hI.s (fun q hq => ?_) hI.defers hI.size hI.frame (fun j hj => hI.fact j ?_ (hwaits j hj)) _ fun v w' hv hP hK => ?_)
    · rcases hq with rfl | hq
      · exact hI.u _ hio hunl
      · refine hI.u _ (wait_lt hq) ?_
        rcases h : listed.getD q false with _ | _
        · rfl
        · have := hI.closed q i h hq
          rw [hunl] at this; cases this
    · obtain ⟨e, he, h1, _⟩ := wait_edge ho hj
      have := (tidy_at htd i o ho).2.2.1 e he
      omega
    have hput : slotF (b.put o.dst v) = updF (slotF b) o.dst v := slotF_put fun t ht => by rw [hI.size]; exact hb t ht
    refine ⟨hSk _ _ _ hI.s hK, fun q hq hql => ?_, fun q j hql hw => ?_, ?_, ?_, by rw [Array.size_setIfInBounds]; exact hI.lsize, fun t ht => ?_, fun j hj hlj => ?_⟩
    · have hqi : q ≠ i := fun e => by
        subst e
        rw [Array.getD_eq_getD_getElem?, Array.getElem?_setIfInBounds] at hql
        simp [hil] at hql
      rw [getD_set_ne hqi] at hql
      exact hUk i q _ _ (Ne.symm hqi) hI.s (hI.u q hq hql) hK
    · by_cases hqi : q = i
      · subst hqi
        exact getD_set (hwaits j hw)
      · rw [getD_set_ne hqi] at hql
        exact getD_set (hI.closed q j hql hw)
    · cases o.dst <;> exact hI.defers
    · cases h : o.dst with
      | none => exact hI.size
      | some t => simp [Act.put]; exact hI.size
    · have := valD_put (b := b) (d := some t) (e := o.dst) (v := v) (fun u hu he => ht o hom (by rw [he]; exact hu.symm ▸ rfl))
      exact this.trans (hI.frame t ht)
    · rw [hput]
      by_cases hji : j = i
      · subst hji
        exact hP
      · rw [getD_set_ne hji] at hlj
        have hw : waitB ops j i = false := by
          rcases h : waitB ops j i with _ | _
          · rfl
          · have := hI.closed j i hlj h
            rw [hunl] at this; cases this
        refine hPf j (slotF b) _ _ (fun t ht => ?_) (hPk i j _ _ _ hji hw hI.s (hI.fact j hj hlj) hK)
        cases hd : o.dst with
        | none => rfl
        | some s =>
          have := rd_at hrd ho hd hj hji hw
          have hst : s ≠ t := fun e => this (by rw [e]; exact ht)
          simp [updF, hst]
  · have hall : ∀ n i o, i < n → ops[i]? = some o → listed.getD i false = true := by
      intro n
      induction n with
      | zero => intro i o hi; omega
      | succ n ih =>
        intro i o hi ho
        rcases hl : listed.getD i true with _ | _
        · exfalso
          have hmem : i ∈ Region.ready .any ops listed := mem_ready.2 ⟨hl, o, ho, fun e he _ => by
            have h1 := (tidy_at htd i o ho).2.2.1 e he
            have h2 : i < ops.size := (Array.getElem?_eq_some_iff.1 ho).1
            exact ih e.on _ (by omega) (Array.getElem?_eq_getElem (by omega))⟩
          rw [hr] at hmem
          cases hmem
        · have h2 : i < listed.size := by rw [hI.lsize]; exact (Array.getElem?_eq_some_iff.1 ho).1
          rw [Array.getD_eq_getD_getElem?, Array.getElem?_eq_getElem h2] at hl ⊢
          exact hl
    exact hend b w hI.s hI.defers hI.size hI.frame fun i hi => hI.fact i hi (hall (i + 1) i _ (by omega) (Array.getElem?_eq_getElem hi))
end
/-- A frame in which the masked slots are forgotten. -/
def frameU : List Bool → Nat → List Value → (Nat → Value) → List Value
  | true :: m, k, _ :: l, u => u k :: frameU m (k + 1) l u
  | false :: m, k, x :: l, u => x :: frameU m (k + 1) l u
  | _, _, l, _ => l
theorem frameU_of (u : Nat → Value) : ∀ (m : List Bool) (k : Nat) (l l' : List Value), m.length = l.length → l'.length = l.length → (∀ j : Nat, m[j]? = some false → l'[j]? = l[j]?) → (∀ (j : Nat) (x : Value), l'[j]? = some x → u (k + j) = x) → l' = frameU m k l u
  | [], k, l, l', h1, h2, _, _ => by
    have h3 : l = [] := List.eq_nil_of_length_eq_zero h1.symm
    subst h3
    exact List.eq_nil_of_length_eq_zero h2
  | b :: m, k, [], l', h1, _, _, _ => by simp at h1
  | b :: m, k, x :: l, [], _, h2, _, _ => by simp at h2
  | b :: m, k, x :: l, y :: l', h1, h2, h3, h4 => by
    have ih := frameU_of u m (k + 1) l l' (by simpa using h1) (by simpa using h2) (fun j hj => by simpa using h3 (j + 1) (by simpa using hj)) (fun j z hz => by
      have := h4 (j + 1) z (by simpa using hz)
      rwa [show k + (j + 1) = k + 1 + j by omega] at this)
    cases b with
    | true =>
      have h5 := h4 0 y rfl
      rw [Nat.add_zero] at h5
      unfold frameU
      rw [h5, ← ih]
    | false =>
      have h5 := h3 0 rfl
      simp at h5
      unfold frameU
      rw [h5, ← ih]
def maskB (ops : Array Oper) (m : List Bool) : Bool := (List.range m.length).all fun j => m.getD j true || ops.all fun o => match o.dst with | some t => !decide (t = j) | none => true
section
variable {P : Program} {ops : Array Oper} {Q : Exit → Act → World → Prop}
set_option maxHeartbeats 1000000 in
/-- The same; at the end the frame is told, with the slots forgotten that the region writes. -/
theorem wp_region_planF {id : Nat} {tmps : Array Value} {w : World} (mask : List Bool) (rd : Nat → List Tmp) (S : World → Prop) (U : Nat → World → Prop) (Keep : Nat → World → World → Prop) (Phi : Nat → (Tmp → Value) → World → Prop)
    (hm : P.follows .mixedOrders = true) (htd : tidyB ops tmps.size = true) (hrd : rdB ops rd = true) (hml : mask.length = tmps.size) (hmk : maskB ops mask = true)
    (hS0 : S w.drew) (hU0 : ∀ q, U q w.drew)
    (hSk : ∀ i w w', S w → Keep i w w' → S w') (hUk : ∀ i q w w', i ≠ q → S w → U q w → Keep i w w' → U q w')
    (hPk : ∀ i j f w w', j ≠ i → waitB ops j i = false → S w → Phi j f w → Keep i w w' → Phi j f w')
    (hPf : ∀ j f f' w, (∀ t ∈ rd j, f' t = f t) → Phi j f w → Phi j f' w)
    (hstep : ∀ (i : Nat) (o : Oper), ops[i]? = some o → ∀ (b : Act) (w : World), S w → (∀ q, i = q ∨ waitB ops q i = true → U q w) → b.defers = [] → b.tmps.size = tmps.size → (∀ t, (∀ o ∈ ops, o.dst ≠ some t) → b.tmps.getD t undef = tmps.getD t undef) →
      (∀ j, waitB ops i j = true → Phi j (slotF b) w) → ∀ K : Act → World → Prop, (∀ v w', (o.dst = none → v = undef) → Phi i (updF (slotF b) o.dst v) w' → Keep i w w' → K (b.put o.dst v) w') → Oper.wp P o b w K Q)
    (hend : ∀ (u : Nat → Value) (w : World), S w → (∀ i, i < ops.size → Phi i (slotF ⟨(frameU mask 0 tmps.toList u).toArray, []⟩) w) → Q .normal ⟨(frameU mask 0 tmps.toList u).toArray, []⟩ w) :
    (Code.region id ops true).wp P Q ⟨tmps, []⟩ w := by
  refine wp_region_plan (a := ⟨tmps, []⟩) rd S U Keep Phi hm htd hrd hS0 hU0 hSk hUk hPk hPf hstep fun b w hS hd hz hf hfact => ?_
  obtain ⟨tm, df⟩ := b
  dsimp only at hd hz hf
  subst hd
  have key : tm.toList = frameU mask 0 tmps.toList (fun k => tm.getD k undef) := by
    refine frameU_of _ _ _ _ _ (by simpa using hml) (by simpa using hz) (fun j hj => ?_) (fun j x hx => ?_)
    · have hjl : j < mask.length := (List.getElem?_eq_some_iff.1 hj).1
      have h1 := hf j (fun o ho => by
        unfold maskB at hmk
        rw [List.all_eq_true] at hmk
        have h2 := hmk j (List.mem_range.2 hjl)
        rw [List.getD_eq_getElem?_getD, hj] at h2
        simp only [Option.getD_some, Bool.false_or] at h2
        rw [Array.all_eq_true_iff_forall_mem] at h2
        have h3 := h2 o ho
        intro e
        rw [e] at h3
        simp at h3)
      have h4 : j < tm.size := by omega
      have h5 : j < tmps.size := by omega
      rw [Array.getElem?_toList, Array.getElem?_toList, Array.getElem?_eq_getElem h4, Array.getElem?_eq_getElem h5]
      rw [Array.getD_eq_getD_getElem?, Array.getD_eq_getD_getElem?, Array.getElem?_eq_getElem h4, Array.getElem?_eq_getElem h5] at h1
      simpa using h1
    · rw [Nat.zero_add, Array.getD_eq_getD_getElem?, ← Array.getElem?_toList, hx]
      rfl
  have key2 : tm = (frameU mask 0 tmps.toList (fun k => tm.getD k undef)).toArray := by rw [← key]
  have h1 := hend (fun k => tm.getD k undef) w hS
  rw [← key2] at h1
  exact h1 hfact
end
end Go.Proofs.YtghaoielnphhlaaGreatDoor


/-
  Facts of a region that makes values which are only read; a row of such values under construction.
-/
namespace Go.Proofs.YtghaoielnphhlaaGreatDoor
open Go.RowKit

theorem PRow.atO {w wr : World} {g o : Nat} {ps : List Pt} (h : PRow w g o ps) (hB : Below w.heap.size w wr) (hg : g < w.heap.size) {q : Nat} {p : Pt} (hp : ps[q]? = some p) :
    wr.cell? ⟨g, o + q * 6, none⟩ = some (.int .i64 p.a) ∧ wr.cell? ⟨g, o + q * 6 + 1, none⟩ = some (.int .i64 p.b) ∧ wr.cell? ⟨g, o + q * 6 + 2, none⟩ = some (.int .i64 p.c) ∧ wr.cell? ⟨g, o + q * 6 + 3, none⟩ = some (.int .i64 p.d) ∧ wr.cell? ⟨g, o + q * 6 + 4, none⟩ = some (.int .i64 p.k) ∧ wr.cell? ⟨g, o + q * 6 + 5, none⟩ = some (.string p.s) := by
  have h' : ∀ (j : Nat) v, (ptCells p)[j]? = some v → wr.cell? ⟨g, o + q * 6 + j, none⟩ = some v := fun j v hv => (hB.cell (p := ⟨g, o + q * 6 + j, none⟩) hg).trans (h q p hp j v hv)
  exact ⟨h' 0 _ rfl, h' 1 _ rfl, h' 2 _ rfl, h' 3 _ rfl, h' 4 _ rfl, h' 5 _ rfl⟩
/-- A row of names in a block made for it. -/
def pN (w : World) (B : Nat) (ns : List ByteArray) (v : Value) : Prop := ∃ g, v = .slice (some ⟨g, 0, none⟩) ns.length ns.length ∧ B ≤ g ∧ Cel w g 9 (ns.map Value.string).toArray
/-- A value that is only read. -/
def pJ (w : World) (B : Nat) (j : Jsn) (v : Value) : Prop := ∃ vn vl, v = jvV j vn vl ∧ JV w (fun k => B ≤ k) j vn vl
/-- A row of such values in a block made for it. -/
def pR (w : World) (B : Nat) (l : List Jsn) (v : Value) : Prop := ∃ (g : Nat) (zs : List JE), v = .slice (some ⟨g, 0, none⟩) zs.length zs.length ∧ B ≤ g ∧ Cel w g 25 (zs.flatMap encJ).toArray ∧ zs.map (·.1) = l ∧ ∀ z ∈ zs, JV w (fun k => B ≤ k) z.1 z.2.1 z.2.2
section
variable {w w' : World} {B : Nat} {v : Value}
theorem pN.keep {ns : List ByteArray} (h : pN w B ns v) (hk : ∀ k, B ≤ k → k < w.heap.size → w'.heap[k]? = w.heap[k]?) : pN w' B ns v := by
  obtain ⟨g, e, hg, hC⟩ := h
  exact ⟨g, e, hg, (hk g hg hC.lt).trans hC⟩
theorem JV.keepB {j : Jsn} {vn vl : Value} (h : JV w (fun k => B ≤ k) j vn vl) (hs : w.heap.size ≤ w'.heap.size) (hk : ∀ k, B ≤ k → k < w.heap.size → w'.heap[k]? = w.heap[k]?) : JV w' (fun k => B ≤ k) j vn vl :=
  JV.keep hs (fun p h1 h2 => World.cell?_of_block (hk p.block h1 h2)) (fun _ h _ => h) j h
theorem pJ.keep {j : Jsn} (h : pJ w B j v) (hs : w.heap.size ≤ w'.heap.size) (hk : ∀ k, B ≤ k → k < w.heap.size → w'.heap[k]? = w.heap[k]?) : pJ w' B j v := by
  obtain ⟨vn, vl, e, hJ⟩ := h
  exact ⟨vn, vl, e, hJ.keepB hs hk⟩
theorem pR.keep {l : List Jsn} (h : pR w B l v) (hs : w.heap.size ≤ w'.heap.size) (hk : ∀ k, B ≤ k → k < w.heap.size → w'.heap[k]? = w.heap[k]?) : pR w' B l v := by
  obtain ⟨g, zs, e, hg, hC, hz, hJ⟩ := h
  exact ⟨g, zs, e, hg, (hk g hg hC.lt).trans hC, hz, fun z hz' => (hJ z hz').keepB hs hk⟩
end
/-- An object out of its two rows. -/
theorem obj_rows {w : World} {B : Nat} {ns : List ByteArray} {l : List Jsn} {u v : Value} (h1 : pN w B ns u) (h2 : pR w B l v) : ∃ gn gl, u = .slice (some ⟨gn, 0, none⟩) ns.length ns.length ∧ v = .slice (some ⟨gl, 0, none⟩) l.length l.length ∧ JV w (fun k => B ≤ k) (mkO ns l) u v := by
  obtain ⟨gn, rfl, hg, hC⟩ := h1
  obtain ⟨gl, zs, rfl, hgl, hL, hz, hJ⟩ := h2
  have hlen : zs.length = l.length := by rw [← hz, List.length_map]
  refine ⟨gn, gl, rfl, by rw [hlen], ?_⟩
  unfold mkO
  exact jv_rows (by omega) (by omega) hg hgl hC hz hJ hL
/-- A row of values under construction: each is only read, and the row's block is not among its blocks. -/
def RowV (w : World) (B : Nat) (v : Value) (l : List Jsn) : Prop := ∃ zs : List JE, zs.map (·.1) = l ∧ w.ownsRow B 25 4 v l.length (zs.flatMap encJ) ∧ ∀ z ∈ zs, JV w (fun k => B ≤ k ∧ v.ownBlock ≠ some k) z.1 z.2.1 z.2.2
theorem RowV.nil (w : World) (B : Nat) : RowV w B (.slice none 0 0) [] := ⟨[], rfl, World.ownsRow_nil _ _ _ _, fun _ h => by cases h⟩
theorem ownsRow_blk {w w' : World} {B k n : Nat} {e : TypeId} {v : Value} {xs : List Value} (h : w.ownsRow B e k v n xs) (hk : ∀ b, v.ownBlock = some b → w'.heap[b]? = w.heap[b]?) : w'.ownsRow B e k v n xs :=
  ⟨h.1, h.2.imp id (fun ⟨g, cap, cur, e1, e2, e3, r⟩ => ⟨g, cap, cur, e1, e2, (hk g (by rw [e1]; rfl)).trans e3, r⟩)⟩
theorem RowV.keep {w w' : World} {B : Nat} {v : Value} {l : List Jsn} (h : RowV w B v l) (hs : w.heap.size ≤ w'.heap.size) (hk : ∀ k, B ≤ k → k < w.heap.size → w'.heap[k]? = w.heap[k]?) : RowV w' B v l := by
  obtain ⟨zs, hz, ho, hJ⟩ := h
  refine ⟨zs, hz, ownsRow_blk ho fun b hb => hk b (ho.lt b hb).1 (ho.lt b hb).2, fun z hz' => ?_⟩
  exact JV.keep hs (fun p h1 h2 => World.cell?_of_block (hk p.block h1.1 h2)) (fun _ h _ => h) _ (hJ z hz')
theorem RowV.form {w : World} {B : Nat} {v : Value} {l : List Jsn} (h : RowV w B v l) : ∃ A c, v = .slice A l.length c := by
  obtain ⟨zs, hz, ho, hJ⟩ := h
  rcases ho.2 with ⟨rfl, h0⟩ | ⟨g, cap, cur, rfl, _⟩
  · exact ⟨none, 0, by rw [h0]⟩
  · exact ⟨_, _, rfl⟩
theorem RowV.lt {w : World} {B : Nat} {v : Value} {l : List Jsn} (h : RowV w B v l) : ∀ g, v.ownBlock = some g → B ≤ g ∧ g < w.heap.size := by
  obtain ⟨zs, hz, ho, hJ⟩ := h
  exact ho.lt
/-- One value more. -/
theorem append_rowV {W : World} {B gs : Nat} {v : Value} {l : List Jsn} {x : Jsn} {vn vl : Value} (h : RowV W B v l) (hB : B ≤ W.heap.size) (hc : Cel W gs 25 #[.int .u8 x.kind, .string x.text, vn, vl]) (hx : JV W (fun k => B ≤ k ∧ v.ownBlock ≠ some k) x vn vl) (hl : l.length ≤ 1000000) :
    ∃ v' w4, (Builtin.append_ #[23, 23] 23 #[v, .slice (some ⟨gs, 0, none⟩) 1 1]).run Tryz.prog W = .ok v' w4 ∧ RowV w4 B v' (l ++ [x]) ∧ W.grownBy w4 v.ownBlock := by
  obtain ⟨i0, hi0, hz0, hz1, hz2⟩ := info_parts infoJ
  obtain ⟨zs, hz, ho, hJ⟩ := h
  obtain ⟨A1, n1, c1, A2, n2, c2, e1, e2⟩ := hx.forms
  obtain ⟨v', w4, hrun, h2, h3, _, h5⟩ := run_append_own_at (P := Tryz.prog) W B 23 23 25 i0 _ 4 72 Tryz.underlying23 hi0 hz0 hz1 hz2 rfl (by decide) v l.length (zs.flatMap encJ) ho ⟨gs, 0, none⟩ 1 1 (encJ (x, vn, vl)) rfl
    (fun j u hu => by
      have hadd : (⟨gs, 0, none⟩ : Addr).add j = ⟨gs, j, none⟩ := by unfold Addr.add; split <;> simp_all
      rw [hadd, hc.cell]
      simpa [encJ] using hu)
    (fun u hu => by subst e1; subst e2; simp [encJ] at hu; rcases hu with rfl | rfl | rfl | rfl <;> rfl) (by unfold maxLen; omega) (by omega) hB
  have hkeep : ∀ (y : Jsn) (a b : Value), JV W (fun k => B ≤ k ∧ v.ownBlock ≠ some k) y a b → JV w4 (fun k => B ≤ k ∧ v'.ownBlock ≠ some k) y a b := fun y a b hy =>
    JV.keep h3.size (fun p h1 h2 => World.cell?_of_block (h3.block p.block h2 (fun e => h1.2 e.symm))) (fun k hk hlt => ⟨hk.1, by
      rcases h5 with e | e
      · rw [e]; exact hk.2
      · rw [e]; intro e3; injection e3 with e3; omega⟩) y hy
  refine ⟨v', w4, hrun, ⟨zs ++ [(x, vn, vl)], by simp [hz], ?_, fun z hz' => ?_⟩, h3⟩
  · rw [List.length_append, List.flatMap_append]
    simpa using h2
  · rcases List.mem_append.1 hz' with h | h
    · exact hkeep _ _ _ (hJ z h)
    · simp at h
      subst h
      exact hkeep _ _ _ hx
/-- The row, whole, as an array. -/
theorem RowV.arr {w : World} {B : Nat} {v : Value} {l : List Jsn} (h : RowV w B v l) : JV w (fun k => B ≤ k) (arrJ l) (.slice none 0 0) v := by
  obtain ⟨zs, hz, ho, hJ⟩ := h
  have hlen : zs.length = l.length := by rw [← hz, List.length_map]
  unfold arrJ
  have hn : StrL w (fun k => B ≤ k) (.slice none 0 0) [] := ⟨none, 0, rfl, fun h => by simp at h⟩
  rcases ho.2 with ⟨rfl, h0⟩ | ⟨g, cap, cur, rfl, hg, hh, _, _, _, htk⟩
  · have : l = [] := List.eq_nil_of_length_eq_zero h0
    subst this
    have hz0 : zs = [] := List.eq_nil_of_length_eq_zero (by rw [hlen]; rfl)
    subst hz0
    exact JV.of_elems (zs := []) (by omega) (by omega) hn rfl (fun _ h => by cases h) (fun h => by simp at h)
  · rw [← hlen]
    refine JV.of_elems (by omega) (by omega) hn hz (fun z hz' => (hJ z hz').more fun k hk _ => hk.1) fun _ => ⟨g, 0, rfl, hg, (Array.getElem?_eq_some_iff.1 hh).1, fun j z hj i u hu => ?_⟩
    have h1 := encRow_at zs j z hj i u hu
    rw [← htk, List.getElem?_take] at h1
    have hC : Cel w g 25 cur := hh
    rw [Nat.zero_add, hC.cell]
    split at h1
    · rwa [Array.getElem?_toList] at h1
    · cases h1
/-- append of one thing as one step of a region. -/
theorem oper_append_run {P : Program} {o : Oper} {a : Act} {w : World} {K : Act → World → Prop} {Q : Exit → Act → World → Prop} (s x : Operand) (t1 t2 : TypeId) (hop : o.op = Op.call { callee := Callee.builtin Builtin.append, args := #[s, x], argTypes := #[t1, t2] })
    (vs vx v : Value) (w' : World) (hs : a.eval s = vs) (hx : a.eval x = vx) (hrun : (Builtin.append_ #[t1, t2] o.type #[vs, vx]).run P w = .ok v w') (hK : K (a.put o.dst v) w') : Oper.wp P o a w K Q := by
  unfold Oper.wp
  simp [execOp, hop, resolve, invoke, builtin, hs, hx, hrun, Result.andThen]
  exact hK
end Go.Proofs.YtghaoielnphhlaaGreatDoor
