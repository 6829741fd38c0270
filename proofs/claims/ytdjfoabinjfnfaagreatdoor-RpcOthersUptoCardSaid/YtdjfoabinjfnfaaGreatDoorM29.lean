/-
  The walks of the document's Same over two messages that are alike, and of rostrumlaw07.of.
-/
import Derived.Test.YtdjfoabinjfnfaaGreatDoorRpE
import Derived.Test.YtdjfoabinjfnfaaGreatDoorRpL
import Derived.Test.YtdjfoabinjfnfaaGreatDoorM02
import Derived.Test.YtdjfoabinjfnfaaGreatDoorM16
import Derived.Test.YtdjfoabinjfnfaaGreatDoorM24
import Derived.Test.YtdjfoabinjfnfaaGreatDoorM03
import Derived.Test.YtdjfoabinjfnfaaGreatDoorJsQ
import Derived.Test.YtdjfoabinjfnfaaGreatDoorJsUb
namespace Go.Proofs.YtdjfoabinjfnfaaGreatDoor
open Go.RowKit
def MsgJ (w : World) (M : Msg) (x1 x2 p1 p2 r1 r2 : Value) : Prop := JV w (fun _ => True) M.id x1 x2 ∧ JV w (fun _ => True) M.params p1 p2 ∧ JV w (fun _ => True) M.result r1 r2
theorem MsgJ.later {w w' : World} {M : Msg} {x1 x2 p1 p2 r1 r2 : Value} (h : MsgJ w M x1 x2 p1 p2 r1 r2) (hb : Below w.heap.size w w') : MsgJ w' M x1 x2 p1 p2 r1 r2 := ⟨h.1.later hb, h.2.1.later hb, h.2.2.later hb⟩
def MsgBulk (M : Msg) : Prop := jbulk M.id ≤ 1000000 ∧ jbulk M.params ≤ 1000000 ∧ jbulk M.result ≤ 1000000
set_option maxRecDepth 20000 in
set_option maxHeartbeats 8000000 in
theorem refSameM_any (M : Msg) (w : World) (x1 x2 p1 p2 r1 r2 y1 y2 q1 q2 s1 s2 : Value) (hA : MsgJ w M x1 x2 p1 p2 r1 r2) (hB : MsgJ w M y1 y2 q1 q2 s1 s2) (hbk : MsgBulk M) :
    Calls Tryz.prog 45 #[msgV M x1 x2 p1 p2 r1 r2, msgV M y1 y2 q1 q2 s1 s2] w fun e w' => e = .returned (.bool true) ∧ Below w.heap.size w w' := by
  obtain ⟨ax, ap, ar⟩ := hA
  obtain ⟨by', bq, bs⟩ := hB
  obtain ⟨k1, k2, k3⟩ := hbk
  have hSi := fun (W : World) (hb : Below w.heap.size w W) => refSameJ_any M.id M.id _ _ W _ _ _ _ (ax.later hb) (by'.later hb) (by omega) (by omega)
  have hSp := fun (W : World) (hb : Below w.heap.size w W) => refSameJ_any M.params M.params _ _ W _ _ _ _ (ap.later hb) (bq.later hb) (by omega) (by omega)
  have hSr := fun (W : World) (hb : Below w.heap.size w W) => refSameJ_any M.result M.result _ _ W _ _ _ _ (ar.later hb) (bs.later hb) (by omega) (by omega)
  rw [jsame_refl] at hSi hSp hSr
  obtain ⟨xA, xa, xb, xB, xc, xd, rfl, rfl⟩ := ax.forms
  obtain ⟨pA, pa, pb, pB, pc, pd, rfl, rfl⟩ := ap.forms
  obtain ⟨rA, ra, rb, rB, rc, rd, rfl, rfl⟩ := ar.forms
  obtain ⟨yA, ya, yb, yB, yc, yd, rfl, rfl⟩ := by'.forms
  obtain ⟨qA, qa, qb, qB, qc, qd, rfl, rfl⟩ := bq.forms
  obtain ⟨sA, sa, sb, sB, sc, sd, rfl, rfl⟩ := bs.forms
  obtain ⟨W0, hW0⟩ : ∃ W0, (w.alloc (.cells #[.int .u8 M.kind, .int .u8 M.id.kind, .string M.id.text, .slice xA xa xb, .slice xB xc xd, .string M.method, .int .u8 M.params.kind, .string M.params.text, .slice pA pa pb, .slice pB pc pd, .int .u8 M.result.kind, .string M.result.text, .slice rA ra rb, .slice rB rc rd, .int .i64 M.code, .string M.text] 69)).alloc (.cells #[.int .u8 M.kind, .int .u8 M.id.kind, .string M.id.text, .slice yA ya yb, .slice yB yc yd, .string M.method, .int .u8 M.params.kind, .string M.params.text, .slice qA qa qb, .slice qB qc qd, .int .u8 M.result.kind, .string M.result.text, .slice sA sa sb, .slice sB sc sd, .int .i64 M.code, .string M.text] 69) = W0 := ⟨_, rfl⟩
  have hC1 : Cel W0 w.heap.size 69 #[.int .u8 M.kind, .int .u8 M.id.kind, .string M.id.text, .slice xA xa xb, .slice xB xc xd, .string M.method, .int .u8 M.params.kind, .string M.params.text, .slice pA pa pb, .slice pB pc pd, .int .u8 M.result.kind, .string M.result.text, .slice rA ra rb, .slice rB rc rd, .int .i64 M.code, .string M.text] := by rw [← hW0]; exact (Cel.fresh _ _ _).alloc _
  have hC2 : Cel W0 (w.heap.size + 1) 69 #[.int .u8 M.kind, .int .u8 M.id.kind, .string M.id.text, .slice yA ya yb, .slice yB yc yd, .string M.method, .int .u8 M.params.kind, .string M.params.text, .slice qA qa qb, .slice qB qc qd, .int .u8 M.result.kind, .string M.result.text, .slice sA sa sb, .slice sB sc sd, .int .i64 M.code, .string M.text] := by
    rw [← hW0]
    have := Cel.fresh (w.alloc (.cells #[.int .u8 M.kind, .int .u8 M.id.kind, .string M.id.text, .slice xA xa xb, .slice xB xc xd, .string M.method, .int .u8 M.params.kind, .string M.params.text, .slice pA pa pb, .slice pB pc pd, .int .u8 M.result.kind, .string M.result.text, .slice rA ra rb, .slice rB rc rd, .int .i64 M.code, .string M.text] 69)) 69 #[.int .u8 M.kind, .int .u8 M.id.kind, .string M.id.text, .slice yA ya yb, .slice yB yc yd, .string M.method, .int .u8 M.params.kind, .string M.params.text, .slice qA qa qb, .slice qB qc qd, .int .u8 M.result.kind, .string M.result.text, .slice sA sa sb, .slice sB sc sd, .int .i64 M.code, .string M.text]
    simpa using this
  have hb0 : Below w.heap.size w W0 := by rw [← hW0]; exact ((Below.refl _ _).alloc (Nat.le_refl _) _).alloc (by simp) _
  replace hSi := Lib.hid hSi
  replace hSp := Lib.hid hSp
  replace hSr := Lib.hid hSr
  replace hW0 := Lib.hid hW0
  replace hC1 := Lib.hid hC1
  replace hC2 := Lib.hid hC2
  replace hb0 := Lib.hid hb0
  clear ax ap ar by' bq bs k1 k2 k3
  unfold msgV
  go_enter Tryz.func45, Tryz.ntmps45
  go_upto_region 1 with fail
  rw [hW0.out]
  clear hW0
  obtain ⟨c0, c1, c2, c3, c4, c5, c6, c7, c8, c9, c10, c11, c12, c13, c14, c15⟩ := hC1.out.c16
  obtain ⟨d0, d1, d2, d3, d4, d5, d6, d7, d8, d9, d10, d11, d12, d13, d14, d15⟩ := hC2.out.c16
  go_wp2_with fail
  refine (hSi.out _ hb0.out).mono ?_
  rintro e w1 ⟨rfl, hb⟩
  replace hC1 := Lib.hid (hC1.out.below hb hC1.out.lt)
  replace hC2 := Lib.hid (hC2.out.below hb hC2.out.lt)
  replace hb0 := Lib.hid (hb0.out.trans (hb.mono hb0.out.size))
  clear c0 c1 c2 c3 c4 c5 c6 c7 c8 c9 c10 c11 c12 c13 c14 c15 d0 d1 d2 d3 d4 d5 d6 d7 d8 d9 d10 d11 d12 d13 d14 d15 hb hSi
  obtain ⟨c0, c1, c2, c3, c4, c5, c6, c7, c8, c9, c10, c11, c12, c13, c14, c15⟩ := hC1.out.c16
  obtain ⟨d0, d1, d2, d3, d4, d5, d6, d7, d8, d9, d10, d11, d12, d13, d14, d15⟩ := hC2.out.c16
  go_wp2_with fail
  refine (hSp.out _ hb0.out).mono ?_
  rintro e w2 ⟨rfl, hb⟩
  replace hC1 := Lib.hid (hC1.out.below hb hC1.out.lt)
  replace hC2 := Lib.hid (hC2.out.below hb hC2.out.lt)
  replace hb0 := Lib.hid (hb0.out.trans (hb.mono hb0.out.size))
  clear c0 c1 c2 c3 c4 c5 c6 c7 c8 c9 c10 c11 c12 c13 c14 c15 d0 d1 d2 d3 d4 d5 d6 d7 d8 d9 d10 d11 d12 d13 d14 d15 hb hSp
  obtain ⟨c0, c1, c2, c3, c4, c5, c6, c7, c8, c9, c10, c11, c12, c13, c14, c15⟩ := hC1.out.c16
  obtain ⟨d0, d1, d2, d3, d4, d5, d6, d7, d8, d9, d10, d11, d12, d13, d14, d15⟩ := hC2.out.c16
  go_wp2_with fail
  refine (hSr.out _ hb0.out).mono ?_
  rintro e w3 ⟨rfl, hb⟩
  replace hC1 := Lib.hid (hC1.out.below hb hC1.out.lt)
  replace hC2 := Lib.hid (hC2.out.below hb hC2.out.lt)
  replace hb0 := Lib.hid (hb0.out.trans (hb.mono hb0.out.size))
  clear c0 c1 c2 c3 c4 c5 c6 c7 c8 c9 c10 c11 c12 c13 c14 c15 d0 d1 d2 d3 d4 d5 d6 d7 d8 d9 d10 d11 d12 d13 d14 d15 hb hSr
  obtain ⟨c0, c1, c2, c3, c4, c5, c6, c7, c8, c9, c10, c11, c12, c13, c14, c15⟩ := hC1.out.c16
  obtain ⟨d0, d1, d2, d3, d4, d5, d6, d7, d8, d9, d10, d11, d12, d13, d14, d15⟩ := hC2.out.c16
  go_wp2_with fail
  go_ret
  exact ⟨rfl, hb0.out⟩
def OfEnd (M : Msg) (w : World) (e : Ending) (w' : World) : Prop := ∃ x1 x2 p1 p2 r1 r2, e = .returned (msgV M x1 x2 p1 p2 r1 r2) ∧ MsgJ w' M x1 x2 p1 p2 r1 r2 ∧ Below w.heap.size w w'
theorem ofMsgInfo : (Tryz.prog.info? 69).map (·.size) = some 16 := by kernel_rfl
theorem ofMsgDesc : ∃ d, Tryz.prog.underlying 69 = some d ∧ d.isRow = true := ⟨_, Tryz.underlying69, rfl⟩
theorem results_cel1 {P : Program} {fn : Func} {p : Tmp} {ty : TypeId} (h : fn.results = #[.cell p ty]) (tmps : Array Value) (w : World) (g : Nat) (t : TypeId) (cs : Array Value) (d : TypeDesc)
    (hp : tmps.getD p undef = .pointer (some ⟨g, 0, none⟩)) (hg : Cel w g t cs) (hu : P.underlying ty = some d) (hd : d.isRow = true) (hi : (P.info? ty).map (·.size) = some cs.size) :
    (results fn tmps).run P w = .ok (.agg cs) w := by
  have hp' : tmps[p]?.getD undef = .pointer (some ⟨g, 0, none⟩) := by simpa using hp
  have hl : (loadVar ty ⟨g, 0, none⟩).run P w = .ok (.agg cs) w := by
    have := run_loadVar_mid (P := P) w g 0 ty cs.toList d (fun j v hv => by rw [hg.cell]; simpa using hv) hu hd (by simpa using hi)
    simpa using this
  simp [results, h, hp', asAddr, hl]
theorem jl_step_store {P : Program} {ops : Array Oper} {op : Oper} {a : Act} {w : World} {K : Act → World → Prop} {Q : Exit → Act → World → Prop} {E : Prop} (hw : Region.wanted op (yielded ops a.tmps) = true) (ty : TypeId) (x y : Operand) (ho : op.op = .store ty x y)
    (b o : Nat) (cells cs new : Array Value) (t : TypeId) (hx : a.eval x = .pointer (some ⟨b, o, none⟩)) (hy : a.eval y = .agg cells) (hC : Cel w b t cs) (hlen : o + cells.size ≤ cs.size) (hnew : putA cs o cells.toList = new)
    (hi : (P.info? ty).map (·.size) = some cells.size) (h1 : cells.all (·.oneCell') = true)
    (h : ∀ w', Cel w' b t new → Alone b w w' → K (a.put op.dst undef) w') : if Region.wanted op (yielded ops a.tmps) = true then Oper.wp P op a w K Q else E := by
  rw [if_pos hw]
  exact wp_store_mid ty x y ho b o cells hx hy (fun j hj => ⟨by rw [hC.cell]; rw [Array.getElem?_eq_getElem (by omega)]; rfl, hC.froz _⟩) hi h1 (h _ (by have := Cel.sets cells.toList o cs w hC; rwa [hnew] at this) (sets_below cells.toList o w))
set_option maxRecDepth 100000 in
set_option maxHeartbeats 8000000 in
theorem of_any (M : Msg) (w : World) (x1 x2 p1 p2 r1 r2 : Value) (hA : MsgJ w M x1 x2 p1 p2 r1 r2) (hbk : MsgBulk M) :
    Calls Tryz.prog 46 #[msgV M x1 x2 p1 p2 r1 r2] w (OfEnd M w) := by
  obtain ⟨ax, ap, ar⟩ := hA
  obtain ⟨k1, k2, k3⟩ := hbk
  have hGi := fun (W : World) (hb : Below w.heap.size w W) => given7_any M.id _ W _ _ (ax.later hb) (by omega)
  have hGp := fun (W : World) (hb : Below w.heap.size w W) => given7_any M.params _ W _ _ (ap.later hb) (by omega)
  have hGr := fun (W : World) (hb : Below w.heap.size w W) => given7_any M.result _ W _ _ (ar.later hb) (by omega)
  obtain ⟨xA, xa, xb, xB, xc, xd, rfl, rfl⟩ := ax.forms
  obtain ⟨pA, pa, pb, pB, pc, pd, rfl, rfl⟩ := ap.forms
  obtain ⟨rA, ra, rb, rB, rc, rd, rfl, rfl⟩ := ar.forms
  obtain ⟨W0, hW0⟩ : ∃ W0, (w.alloc (.cells #[.int .u8 M.kind, .int .u8 M.id.kind, .string M.id.text, .slice xA xa xb, .slice xB xc xd, .string M.method, .int .u8 M.params.kind, .string M.params.text, .slice pA pa pb, .slice pB pc pd, .int .u8 M.result.kind, .string M.result.text, .slice rA ra rb, .slice rB rc rd, .int .i64 M.code, .string M.text] 73)).alloc (.cells #[.int .u8 0, .int .u8 0, .string ⟨#[]⟩, .slice none 0 0, .slice none 0 0, .string ⟨#[]⟩, .int .u8 0, .string ⟨#[]⟩, .slice none 0 0, .slice none 0 0, .int .u8 0, .string ⟨#[]⟩, .slice none 0 0, .slice none 0 0, .int .i64 0, .string ⟨#[]⟩] 69) = W0 := ⟨_, rfl⟩
  have hC1 : Cel W0 w.heap.size 73 #[.int .u8 M.kind, .int .u8 M.id.kind, .string M.id.text, .slice xA xa xb, .slice xB xc xd, .string M.method, .int .u8 M.params.kind, .string M.params.text, .slice pA pa pb, .slice pB pc pd, .int .u8 M.result.kind, .string M.result.text, .slice rA ra rb, .slice rB rc rd, .int .i64 M.code, .string M.text] := by rw [← hW0]; exact (Cel.fresh _ _ _).alloc _
  have hC2 : Cel W0 (w.heap.size + 1) 69 #[.int .u8 0, .int .u8 0, .string ⟨#[]⟩, .slice none 0 0, .slice none 0 0, .string ⟨#[]⟩, .int .u8 0, .string ⟨#[]⟩, .slice none 0 0, .slice none 0 0, .int .u8 0, .string ⟨#[]⟩, .slice none 0 0, .slice none 0 0, .int .i64 0, .string ⟨#[]⟩] := by
    rw [← hW0]
    have := Cel.fresh (w.alloc (.cells #[.int .u8 M.kind, .int .u8 M.id.kind, .string M.id.text, .slice xA xa xb, .slice xB xc xd, .string M.method, .int .u8 M.params.kind, .string M.params.text, .slice pA pa pb, .slice pB pc pd, .int .u8 M.result.kind, .string M.result.text, .slice rA ra rb, .slice rB rc rd, .int .i64 M.code, .string M.text] 73)) 69 #[.int .u8 0, .int .u8 0, .string ⟨#[]⟩, .slice none 0 0, .slice none 0 0, .string ⟨#[]⟩, .int .u8 0, .string ⟨#[]⟩, .slice none 0 0, .slice none 0 0, .int .u8 0, .string ⟨#[]⟩, .slice none 0 0, .slice none 0 0, .int .i64 0, .string ⟨#[]⟩]
    simpa using this
  have hb0 : Below w.heap.size w W0 := by rw [← hW0]; exact ((Below.refl _ _).alloc (Nat.le_refl _) _).alloc (by simp) _
  have hz0 : W0.heap.size = w.heap.size + 2 := by rw [← hW0]; simp
  replace hGi := Lib.hid hGi
  replace hGp := Lib.hid hGp
  replace hGr := Lib.hid hGr
  replace hW0 := Lib.hid hW0
  replace hC1 := Lib.hid (show Cel W0.drew w.heap.size 73 #[.int .u8 M.kind, .int .u8 M.id.kind, .string M.id.text, .slice xA xa xb, .slice xB xc xd, .string M.method, .int .u8 M.params.kind, .string M.params.text, .slice pA pa pb, .slice pB pc pd, .int .u8 M.result.kind, .string M.result.text, .slice rA ra rb, .slice rB rc rd, .int .i64 M.code, .string M.text] from hC1.drew)
  replace hC2 := Lib.hid (show Cel W0.drew (w.heap.size + 1) 69 #[.int .u8 0, .int .u8 0, .string ⟨#[]⟩, .slice none 0 0, .slice none 0 0, .string ⟨#[]⟩, .int .u8 0, .string ⟨#[]⟩, .slice none 0 0, .slice none 0 0, .int .u8 0, .string ⟨#[]⟩, .slice none 0 0, .slice none 0 0, .int .i64 0, .string ⟨#[]⟩] from hC2.drew)
  replace hb0 := Lib.hid (bel_drew hb0)
  have hzd : w.heap.size + 2 ≤ W0.drew.heap.size := by show _ ≤ W0.heap.size; omega
  clear ax ap ar k1 k2 k3 hz0
  obtain ⟨dm, hdm⟩ := ofMsgDesc
  replace hdm := Lib.hid hdm
  unfold msgV
  go_enter Tryz.func46, Tryz.ntmps46
  go_upto_region 1 with fail
  rw [hW0.out]
  clear hW0
  refine wp_region_Q 18 (fun W => Cel W w.heap.size 73 #[.int .u8 M.kind, .int .u8 M.id.kind, .string M.id.text, .slice xA xa xb, .slice xB xc xd, .string M.method, .int .u8 M.params.kind, .string M.params.text, .slice pA pa pb, .slice pB pc pd, .int .u8 M.result.kind, .string M.result.text, .slice rA ra rb, .slice rB rc rd, .int .i64 M.code, .string M.text]) (by kernel_rfl) ?_
  refine wpAnyQ_take (i := 0) (v := .pointer (some ⟨w.heap.size, 0, none⟩)) rfl (by kernel_rfl) (by kernel_rfl) (by kernel_rfl) (by kernel_rfl) (by rfl) (fun _ _ _ h => h) (Or.inl ⟨by rfl, by
    intro w' hSw
    try dsimp only at hSw
    skip
    go_simp⟩) hC1.out ?_
  try simp only [Act.put, List.setIfInBounds_toArray]
  refine wpAnyQ_take (i := 1) (v := .int .u8 M.kind) rfl (by kernel_rfl) (by kernel_rfl) (by kernel_rfl) (by kernel_rfl) (by rfl) (fun _ _ _ h => h) (Or.inl ⟨by rfl, by
    intro w' hSw
    try dsimp only at hSw
    have c0 := hSw.cell 0
    simp only [List.getElem?_toArray, List.getElem?_cons_zero] at c0
    go_simp⟩) hC1.out ?_
  try simp only [Act.put]
  refine wpAnyQ_take (i := 2) (v := .pointer (some ⟨w.heap.size, 1, none⟩)) rfl (by kernel_rfl) (by kernel_rfl) (by kernel_rfl) (by kernel_rfl) (by rfl) (fun _ _ _ h => h) (Or.inl ⟨by rfl, by
    intro w' hSw
    try dsimp only at hSw
    skip
    go_simp⟩) hC1.out ?_
  try simp only [Act.put]
  refine wpAnyQ_take (i := 3) (v := .agg #[.int .u8 M.id.kind, .string M.id.text, .slice xA xa xb, .slice xB xc xd]) rfl (by kernel_rfl) (by kernel_rfl) (by kernel_rfl) (by kernel_rfl) (by rfl) (fun _ _ _ h => h) (Or.inl ⟨by rfl, by
    intro w' hSw
    try dsimp only at hSw
    have c1 := hSw.cell 1
    have c2 := hSw.cell 2
    have c3 := hSw.cell 3
    have c4 := hSw.cell 4
    simp only [List.getElem?_toArray, List.getElem?_cons_zero, List.getElem?_cons_succ] at c1 c2 c3 c4
    go_simp⟩) hC1.out ?_
  try simp only [Act.put]
  refine wpAnyQ_take (i := 5) (v := .pointer (some ⟨w.heap.size, 5, none⟩)) rfl (by kernel_rfl) (by kernel_rfl) (by kernel_rfl) (by kernel_rfl) (by rfl) (fun _ _ _ h => h) (Or.inl ⟨by rfl, by
    intro w' hSw
    try dsimp only at hSw
    skip
    go_simp⟩) hC1.out ?_
  try simp only [Act.put]
  refine wpAnyQ_take (i := 6) (v := .string M.method) rfl (by kernel_rfl) (by kernel_rfl) (by kernel_rfl) (by kernel_rfl) (by rfl) (fun _ _ _ h => h) (Or.inl ⟨by rfl, by
    intro w' hSw
    try dsimp only at hSw
    have c5 := hSw.cell 5
    simp only [List.getElem?_toArray, List.getElem?_cons_zero, List.getElem?_cons_succ] at c5
    go_simp⟩) hC1.out ?_
  try simp only [Act.put]
  refine wpAnyQ_take (i := 7) (v := .pointer (some ⟨w.heap.size, 6, none⟩)) rfl (by kernel_rfl) (by kernel_rfl) (by kernel_rfl) (by kernel_rfl) (by rfl) (fun _ _ _ h => h) (Or.inl ⟨by rfl, by
    intro w' hSw
    try dsimp only at hSw
    skip
    go_simp⟩) hC1.out ?_
  try simp only [Act.put]
  refine wpAnyQ_take (i := 8) (v := .agg #[.int .u8 M.params.kind, .string M.params.text, .slice pA pa pb, .slice pB pc pd]) rfl (by kernel_rfl) (by kernel_rfl) (by kernel_rfl) (by kernel_rfl) (by rfl) (fun _ _ _ h => h) (Or.inl ⟨by rfl, by
    intro w' hSw
    try dsimp only at hSw
    have c6 := hSw.cell 6
    have c7 := hSw.cell 7
    have c8 := hSw.cell 8
    have c9 := hSw.cell 9
    simp only [List.getElem?_toArray, List.getElem?_cons_zero, List.getElem?_cons_succ] at c6 c7 c8 c9
    go_simp⟩) hC1.out ?_
  try simp only [Act.put]
  refine wpAnyQ_take (i := 10) (v := .pointer (some ⟨w.heap.size, 10, none⟩)) rfl (by kernel_rfl) (by kernel_rfl) (by kernel_rfl) (by kernel_rfl) (by rfl) (fun _ _ _ h => h) (Or.inl ⟨by rfl, by
    intro w' hSw
    try dsimp only at hSw
    skip
    go_simp⟩) hC1.out ?_
  try simp only [Act.put]
  refine wpAnyQ_take (i := 11) (v := .agg #[.int .u8 M.result.kind, .string M.result.text, .slice rA ra rb, .slice rB rc rd]) rfl (by kernel_rfl) (by kernel_rfl) (by kernel_rfl) (by kernel_rfl) (by rfl) (fun _ _ _ h => h) (Or.inl ⟨by rfl, by
    intro w' hSw
    try dsimp only at hSw
    have c10 := hSw.cell 10
    have c11 := hSw.cell 11
    have c12 := hSw.cell 12
    have c13 := hSw.cell 13
    simp only [List.getElem?_toArray, List.getElem?_cons_zero, List.getElem?_cons_succ] at c10 c11 c12 c13
    go_simp⟩) hC1.out ?_
  try simp only [Act.put]
  refine wpAnyQ_take (i := 13) (v := .pointer (some ⟨w.heap.size, 14, none⟩)) rfl (by kernel_rfl) (by kernel_rfl) (by kernel_rfl) (by kernel_rfl) (by rfl) (fun _ _ _ h => h) (Or.inl ⟨by rfl, by
    intro w' hSw
    try dsimp only at hSw
    skip
    go_simp⟩) hC1.out ?_
  try simp only [Act.put]
  refine wpAnyQ_take (i := 14) (v := .int .i64 M.code) rfl (by kernel_rfl) (by kernel_rfl) (by kernel_rfl) (by kernel_rfl) (by rfl) (fun _ _ _ h => h) (Or.inl ⟨by rfl, by
    intro w' hSw
    try dsimp only at hSw
    have c14 := hSw.cell 14
    simp only [List.getElem?_toArray, List.getElem?_cons_zero, List.getElem?_cons_succ] at c14
    go_simp⟩) hC1.out ?_
  try simp only [Act.put]
  refine wpAnyQ_take (i := 15) (v := .pointer (some ⟨w.heap.size, 15, none⟩)) rfl (by kernel_rfl) (by kernel_rfl) (by kernel_rfl) (by kernel_rfl) (by rfl) (fun _ _ _ h => h) (Or.inl ⟨by rfl, by
    intro w' hSw
    try dsimp only at hSw
    skip
    go_simp⟩) hC1.out ?_
  try simp only [Act.put]
  refine wpAnyQ_take (i := 16) (v := .string M.text) rfl (by kernel_rfl) (by kernel_rfl) (by kernel_rfl) (by kernel_rfl) (by rfl) (fun _ _ _ h => h) (Or.inl ⟨by rfl, by
    intro w' hSw
    try dsimp only at hSw
    have c15 := hSw.cell 15
    simp only [List.getElem?_toArray, List.getElem?_cons_zero, List.getElem?_cons_succ] at c15
    go_simp⟩) hC1.out ?_
  try simp only [Act.put]
  refine wpAnyQ_one (i := 4) (by kernel_rfl) rfl (fun K hK => ?_)
  go_simp
  refine (hGi.out _ hb0.out).mono ?_
  rintro e w4 ⟨un, ul, rfl, hOu, hb⟩
  obtain ⟨uA, ua, ub, uB, uc, ud, rfl, rfl⟩ := hOu.forms
  have hzu := hb.size
  replace hC1 := Lib.hid (hC1.out.below hb hC1.out.lt)
  replace hC2 := Lib.hid (hC2.out.below hb hC2.out.lt)
  replace hb0 := Lib.hid (hb0.out.trans (hb.mono (by omega)))
  replace hOu := Lib.hid hOu
  clear hb hGi
  refine hK.out _ _ (fun _ => hC1.out) ?_
  clear hK
  try simp only [Act.put, List.setIfInBounds_toArray, List.set_cons_zero, List.set_cons_succ]
  refine wpAnyQ_one (i := 9) (by kernel_rfl) rfl (fun K hK => ?_)
  go_simp
  refine (hGp.out _ hb0.out).mono ?_
  rintro e w9 ⟨tn, tl, rfl, hOt, hb⟩
  obtain ⟨tA, ta, tb, tB, tc, td, rfl, rfl⟩ := hOt.forms
  have hzt := hb.size
  replace hC1 := Lib.hid (hC1.out.below hb hC1.out.lt)
  replace hC2 := Lib.hid (hC2.out.below hb hC2.out.lt)
  replace hb0 := Lib.hid (hb0.out.trans (hb.mono (by omega)))
  replace hOu := Lib.hid (OwnJ.keep (w' := w9) _ hOu.out (fun k _ hk => hb.block k (by omega)) (Nat.le_refl _) (Nat.le_refl _))
  replace hOt := Lib.hid hOt
  clear hb hGp
  refine hK.out _ _ (fun _ => hC1.out) ?_
  clear hK
  try simp only [Act.put, List.setIfInBounds_toArray, List.set_cons_zero, List.set_cons_succ]
  refine wpAnyQ_one (i := 12) (by kernel_rfl) rfl (fun K hK => ?_)
  go_simp
  refine (hGr.out _ hb0.out).mono ?_
  rintro e w12 ⟨zn, zl, rfl, hOz, hb⟩
  obtain ⟨zA, za, zb, zB, zc, zd, rfl, rfl⟩ := hOz.forms
  have hzz := hb.size
  replace hC1 := Lib.hid (hC1.out.below hb hC1.out.lt)
  replace hC2 := Lib.hid (hC2.out.below hb hC2.out.lt)
  replace hb0 := Lib.hid (hb0.out.trans (hb.mono (by omega)))
  replace hOu := Lib.hid (OwnJ.keep (w' := w12) _ hOu.out (fun k _ hk => hb.block k (by omega)) (Nat.le_refl _) (Nat.le_refl _))
  replace hOt := Lib.hid (OwnJ.keep (w' := w12) _ hOt.out (fun k _ hk => hb.block k (by omega)) (Nat.le_refl _) (Nat.le_refl _))
  replace hOz := Lib.hid hOz
  clear hb hGr
  refine hK.out _ _ (fun _ => hC1.out) ?_
  clear hK
  try simp only [Act.put, List.setIfInBounds_toArray, List.set_cons_zero, List.set_cons_succ]
  refine wpAnyQ_one (i := 17) (by kernel_rfl) rfl (fun K hK => ?_)
  go_simp
  refine hK.out _ _ (fun _ => hC1.out) ?_
  clear hK
  try simp only [Act.put, List.setIfInBounds_toArray, List.set_cons_zero, List.set_cons_succ]
  refine wpAnyQ_one (i := 18) (by kernel_rfl) rfl (fun K hK => ?_)
  refine jl_step_store (by rfl) 69 (.tmp 2) (.tmp 20) (by rfl) (w.heap.size + 1) 0 #[.int .u8 M.kind, .int .u8 M.id.kind, .string M.id.text, .slice uA ua ub, .slice uB uc ud, .string M.method, .int .u8 M.params.kind, .string M.params.text, .slice tA ta tb, .slice tB tc td, .int .u8 M.result.kind, .string M.result.text, .slice zA za zb, .slice zB zc zd, .int .i64 M.code, .string M.text] _ #[.int .u8 M.kind, .int .u8 M.id.kind, .string M.id.text, .slice uA ua ub, .slice uB uc ud, .string M.method, .int .u8 M.params.kind, .string M.params.text, .slice tA ta tb, .slice tB tc td, .int .u8 M.result.kind, .string M.result.text, .slice zA za zb, .slice zB zc zd, .int .i64 M.code, .string M.text] 69 (by rfl) (by rfl) hC2.out (Nat.le_refl 16) (putA_whole _ _ rfl) ofMsgInfo (by first | (simp; done) | (simp [Value.oneCell']; done)) ?_
  intro w9 hF hA9
  refine hK.out _ _ (fun h => by cases h) ?_
  clear hK
  refine wpAnyQ_done (by kernel_rfl) ?_
  have hz9 := hA9.2.2
  have hfin : MsgJ w9 M (.slice uA ua ub) (.slice uB uc ud) (.slice tA ta tb) (.slice tB tc td) (.slice zA za zb) (.slice zB zc zd) :=
    ⟨(OwnJ.jv _ (OwnJ.keep (w' := w9) _ hOu.out (fun k h1 _ => hA9.2.1 k (by omega)) (Nat.le_refl _) (Nat.le_refl _))).more (fun _ _ _ => trivial), (OwnJ.jv _ (OwnJ.keep (w' := w9) _ hOt.out (fun k h1 _ => hA9.2.1 k (by omega)) (Nat.le_refl _) (Nat.le_refl _))).more (fun _ _ _ => trivial), (OwnJ.jv _ (OwnJ.keep (w' := w9) _ hOz.out (fun k h1 _ => hA9.2.1 k (by omega)) (Nat.le_refl _) (Nat.le_refl _))).more (fun _ _ _ => trivial)⟩
  have hbf := hb0.out.trans (hA9.1 w.heap.size (by omega))
  replace hF := Lib.hid hF
  replace hfin := Lib.hid hfin
  replace hbf := Lib.hid hbf
  clear hA9
  go_wp2_with fail
  exact bodyPost_ret (results_cel1 rfl _ _ _ _ _ dm rfl hF.out hdm.out.1 hdm.out.2 ofMsgInfo) rfl ⟨_, _, _, _, _, _, rfl, hfin.out, hbf.out⟩
theorem zero_jv (w : World) (X : Nat → Prop) : JV w X zeroJ (.slice none 0 0) (.slice none 0 0) := by
  unfold zeroJ
  rw [JV_eq]
  exact ⟨by omega, by omega, ⟨none, 0, rfl, fun h => by simp at h⟩, none, 0, rfl, fun h => by simp at h⟩
def RefGetEnd (r : Option Jsn) (X : Nat → Prop) (w : World) (e : Ending) (w' : World) : Prop := ∃ vn vl, e = .returned (.tuple #[.agg #[.int .u8 (r.getD zeroJ).kind, .string (r.getD zeroJ).text, vn, vl], .bool r.isSome]) ∧ JV w' X (r.getD zeroJ) vn vl ∧ Below w.heap.size w w'
def nullJ : Jsn := ⟨1, ⟨#[]⟩, [], []⟩
def jrid (Own : List UInt8 → List UInt8 × Int) (Val : List UInt8 → Bool) (j : Jsn) : Jsn :=
  if jgs j kId = false ∨ jcheck Own Val j ≠ 0 ∨ jisid (jgd j kId) = false then nullJ else jgd j kId
def IdEnd (x : Jsn) (w : World) (e : Ending) (w' : World) : Prop := ∃ vn vl, e = .returned (.agg #[.int .u8 x.kind, .string x.text, vn, vl]) ∧ OwnJ w' 9 25 x w.heap.size w'.heap.size vn vl ∧ Below w.heap.size w w'
def RIdEnd (x : Jsn) (w : World) (e : Ending) (w' : World) : Prop := ∃ vn vl, e = .returned (.agg #[.int .u8 x.kind, .string x.text, vn, vl]) ∧ JV w' (fun b => b < w.heap.size) x vn vl ∧ Below w.heap.size w w'
structure IdI (j : Jsn) (jn jl : Value) (w W : World) : Prop where
  cj : Cel W w.heap.size 25 #[.int .u8 j.kind, .string j.text, jn, jl]
  c2 : Cel W (w.heap.size + 1) 25 #[.int .u8 0, .string ⟨#[]⟩, .slice none 0 0, .slice none 0 0]
  bel : Below w.heap.size w W
  sz : w.heap.size + 2 ≤ W.heap.size
theorem IdI.step {j : Jsn} {jn jl : Value} {w W W' : World} (h : IdI j jn jl w W) (hb : Below W.heap.size W W') : IdI j jn jl w W' :=
  ⟨h.cj.below hb h.cj.lt, h.c2.below hb h.c2.lt, h.bel.trans (hb.mono h.bel.size), Nat.le_trans h.sz hb.size⟩
def laid4 (W : World) (A : Nat) (a1 a2 a3 a4 : Value) : World := (((W.setCell ⟨A, 0, none⟩ a1).setCell ⟨A, 1, none⟩ a2).setCell ⟨A, 2, none⟩ a3).setCell ⟨A, 3, none⟩ a4
end Go.Proofs.YtdjfoabinjfnfaaGreatDoor
namespace Go.Proofs.YtdjfoabinjfnfaaGreatDoor
theorem zeroJ_bulk : jbulk zeroJ = 1 := by rw [zeroJ, jbulk_eq]; rfl
end Go.Proofs.YtdjfoabinjfnfaaGreatDoor
