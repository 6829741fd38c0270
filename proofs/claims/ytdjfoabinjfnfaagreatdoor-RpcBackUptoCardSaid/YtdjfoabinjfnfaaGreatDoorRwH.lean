/-
  The walk of rostrumlaw07.RpcBack: the law answers true.
-/
import Derived.Test.YtdjfoabinjfnfaaGreatDoorRwW
import Derived.Test.YtdjfoabinjfnfaaGreatDoorM39
import Derived.Test.YtdjfoabinjfnfaaGreatDoorOrdH
namespace Go.Proofs.YtdjfoabinjfnfaaGreatDoor
open Go.RowKit

theorem refMDesc : ∃ d, Tryz.prog.underlying 69 = some d ∧ d.isRow = true := ⟨_, Tryz.underlying69, rfl⟩
theorem refMInfo : (Tryz.prog.info? 69).map (·.size) = some 16 := by kernel_rfl
set_option maxRecDepth 100000 in
set_option maxHeartbeats 32000000 in
theorem rpcBack_any (M : Msg) (j : Jsn) (X : Nat → Prop) (w : World) (x1 x2 p1 p2 r1 r2 jn jl : Value) (hE : EnvC w) (hA : MsgJ w M x1 x2 p1 p2 r1 r2) (hV : JV w X j jn jl) (hk0 : 0 ≤ M.kind) (hk1 : M.kind ≤ 255) (hco0 : -9223372036854775808 ≤ M.code) (hco1 : M.code ≤ 9223372036854775807)
    (k1 : jbulk M.id ≤ 10000000) (k2 : jbulk M.params ≤ 10000000) (k3 : jbulk M.result ≤ 10000000) (k4 : M.method.size ≤ 10000000) (k5 : M.text.size ≤ 10000000) (k6 : jbulk j ≤ 10000000) :
    Calls Tryz.prog 6 #[msgV M x1 x2 p1 p2 r1 r2, jvV j jn jl] w fun e w' => e = .returned (.bool true) ∧ Below w.heap.size w w' := by
  have hEl := Lib.hid (fun (W : World) (hB : Below w.heap.size w W) => hE.below hB)
  have hMl := Lib.hid (fun (W : World) (hB : Below w.heap.size w W) => hA.later hB)
  have hWt := Lib.hid (fun (W : World) (hB : Below w.heap.size w W) => weight7_any j X W _ _ (hV.later hB) (by omega))
  have hHu := Lib.hid (fun (W : World) (hB : Below w.heap.size w W) => huge_any M W _ _ _ _ _ _ (hA.later hB) k1 k2 k3 k4 k5)
  have hGj := Lib.hid (fun (W : World) (hB : Below w.heap.size w W) => given7_any j _ W _ _ (hV.later hB) (by omega))
  have hjb := bulk_jw j
  obtain ⟨jA, ja, jb, jB, jc, jd, rfl, rfl⟩ := hV.forms
  obtain ⟨xA, xa, xb, xB, xc, xd, rfl, rfl⟩ := hA.1.forms
  obtain ⟨pA, pa, pb, pB, pc, pd, rfl, rfl⟩ := hA.2.1.forms
  obtain ⟨rA, ra, rb, rB, rc, rd, rfl, rfl⟩ := hA.2.2.forms
  obtain ⟨dm, hdm⟩ := msgDesc
  replace hdm := Lib.hid hdm
  obtain ⟨dr, hdr⟩ := refMDesc
  replace hdr := Lib.hid hdr
  obtain ⟨dj, hdj⟩ := jsnDesc
  replace hdj := Lib.hid hdj
  obtain ⟨W0, hW0⟩ : ∃ W0, (w.alloc (.cells #[.int .u8 M.kind, .int .u8 M.id.kind, .string M.id.text, .slice xA xa xb, .slice xB xc xd, .string M.method, .int .u8 M.params.kind, .string M.params.text, .slice pA pa pb, .slice pB pc pd, .int .u8 M.result.kind, .string M.result.text, .slice rA ra rb, .slice rB rc rd, .int .i64 M.code, .string M.text] 69)).alloc (.cells #[.int .u8 j.kind, .string j.text, .slice jA ja jb, .slice jB jc jd] 25) = W0 := ⟨_, rfl⟩
  have hCm : Hid (Cel W0 w.heap.size 69 #[.int .u8 M.kind, .int .u8 M.id.kind, .string M.id.text, .slice xA xa xb, .slice xB xc xd, .string M.method, .int .u8 M.params.kind, .string M.params.text, .slice pA pa pb, .slice pB pc pd, .int .u8 M.result.kind, .string M.result.text, .slice rA ra rb, .slice rB rc rd, .int .i64 M.code, .string M.text]) := Lib.hid (by rw [← hW0]; exact (Cel.fresh _ _ _).alloc _)
  have hCj : Hid (Cel W0 (w.heap.size + 1) 25 #[.int .u8 j.kind, .string j.text, .slice jA ja jb, .slice jB jc jd]) := Lib.hid (by
    rw [← hW0]
    have := Cel.fresh (w.alloc (.cells #[.int .u8 M.kind, .int .u8 M.id.kind, .string M.id.text, .slice xA xa xb, .slice xB xc xd, .string M.method, .int .u8 M.params.kind, .string M.params.text, .slice pA pa pb, .slice pB pc pd, .int .u8 M.result.kind, .string M.result.text, .slice rA ra rb, .slice rB rc rd, .int .i64 M.code, .string M.text] 69)) 25 #[.int .u8 j.kind, .string j.text, .slice jA ja jb, .slice jB jc jd]
    simpa using this)
  have hB : Hid (Below w.heap.size w W0) := Lib.hid (by rw [← hW0]; exact ((Below.refl _ _).alloc (Nat.le_refl _) _).alloc (by simp) _)
  replace hW0 := Lib.hid hW0
  clear hE hA hV
  unfold jvV msgV
  go_enter Tryz.func6, Tryz.ntmps6
  go_upto_region 1 with fail
  rw [hW0.out]
  clear hW0
  go_wp2_with fail
  refine (works7_any _ (hEl.out _ hB.out)).mono ?_
  rintro e w1 ⟨rfl, hb⟩
  replace hCm := Lib.hid (hCm.out.below hb hCm.out.lt)
  replace hCj := Lib.hid (hCj.out.below hb hCj.out.lt)
  replace hB := Lib.hid (hB.out.trans (hb.mono hB.out.size))
  clear hb
  go_wp2_with ((with_reducible refine wpl ?_); refine wpList_load_allG (by rfl) 69 (.tmp 2) (by rfl) w.heap.size _ 69 dr (by rfl) hCm.out hdr.out.1 hdr.out.2 refMInfo ?_)
  refine (hHu.out _ hB.out).mono ?_
  rintro e w2 ⟨R, rfl, hR, hb⟩
  replace hCm := Lib.hid (hCm.out.below hb hCm.out.lt)
  replace hCj := Lib.hid (hCj.out.below hb hCj.out.lt)
  replace hB := Lib.hid (hB.out.trans (hb.mono hB.out.size))
  clear hb hHu
  cases R
  case true =>
    clear hR
    go_wp2_with fail
    refine (works7_any _ (hEl.out _ hB.out)).mono ?_
    rintro e w3 ⟨rfl, hb⟩
    replace hB := Lib.hid (hB.out.trans (hb.mono hB.out.size))
    clear hb
    go_wp2_with fail
    go_ret
    exact ⟨rfl, hB.out⟩
  obtain ⟨d1, d2, d3, d4⟩ := hR rfl
  clear hR
  obtain ⟨q0, q1, q2, q3⟩ := hCj.out.c4
  go_wp2_with fail
  refine (hWt.out _ hB.out).mono ?_
  rintro e w3 ⟨ma, rfl, hm1, hm2, hb⟩
  replace hCm := Lib.hid (hCm.out.below hb hCm.out.lt)
  replace hCj := Lib.hid (hCj.out.below hb hCj.out.lt)
  replace hB := Lib.hid (hB.out.trans (hb.mono hB.out.size))
  clear hb hWt q0 q1 q2 q3
  by_cases ca0 : 1500 ≤ (ma : Int)
  case pos =>
    clear hm1 hm2
    go_wp2_with fail
    refine (works7_any _ (hEl.out _ hB.out)).mono ?_
    rintro e w4 ⟨rfl, hb⟩
    replace hB := Lib.hid (hB.out.trans (hb.mono hB.out.size))
    clear hb
    go_wp2_with fail
    go_ret
    exact ⟨rfl, hB.out⟩
  have hja : jbulk j ≤ 96000 := by omega
  clear hm1 hm2 hjb
  have hRdj := fun (W : World) (a b : Value) (X : Nat → Prop) (hB : Below w.heap.size w W) (hJ : JV W X j a b) => rpcRead_any j X W a b (hEl.out W hB).1 hJ (by omega)
  have hNok0 := read_back (j := j) (by omega)
  obtain ⟨⟨N, c⟩, hN⟩ : ∃ N, jread ownL Lib.validD j = N := ⟨_, rfl⟩
  rw [hN] at hRdj hNok0
  dsimp only at hNok0
  replace hRdj := Lib.hid hRdj
  have hNok := Lib.hid (fun h => (hNok0 h).1)
  have nb2 := Lib.hid (fun h => (hNok0 h).2)
  clear hN hNok0
  have hTo := Lib.hid (to_any M _ _ _ _ _ _ _ (hMl.out _ hB.out) ⟨by omega, by omega, by omega⟩)
  go_upto_region 3 with fail
  clear ca0
  go_wp2_with ((with_reducible refine wpl ?_); refine wpList_load_all rfl 69 (.tmp 2) (by rfl) w.heap.size _ 69 dr (by rfl) hCm.out hdr.out.1 hdr.out.2 refMInfo ?_)
  refine hTo.out.mono ?_
  rintro e w4 ⟨u1, u2, t1, t2, o1, o2, he, hMu, hb⟩
  obtain ⟨uA, ua, ub, uB, uc, ud, rfl, rfl⟩ := hMu.1.forms
  obtain ⟨tA, ta, tb, tB, tc, td, rfl, rfl⟩ := hMu.2.1.forms
  obtain ⟨oA, oa, ob, oB, oc, od, rfl, rfl⟩ := hMu.2.2.forms
  replace hCm := Lib.hid (hCm.out.below hb hCm.out.lt)
  replace hCj := Lib.hid (hCj.out.below hb hCj.out.lt)
  replace hB := Lib.hid (hB.out.trans (hb.mono hB.out.size))
  have hWr := Lib.hid (rpcWrite_any M _ w4 _ _ _ _ _ _ (hEl.out _ hB.out).1 hMu.1 hMu.2.1 hMu.2.2 (by omega) (by omega) (by omega) (by omega) (by omega) hco0 hco1 hk0 hk1)
  unfold msgV at he
  subst he
  clear hb hMu hTo
  go_wp2_with fail
  refine hWr.out.mono ?_
  intro e w5 hz
  obtain ⟨vn, vl, he, hO, hb⟩ := hz
  obtain ⟨eA, ea, eb, eB, ec, ed, rfl, rfl⟩ := hO.forms
  have hWk := write_read M
  obtain ⟨⟨E, c5⟩, hEE⟩ : ∃ E, jwrite ownL Lib.validD M = E := ⟨_, rfl⟩
  rw [hEE] at he hO hWk
  dsimp only at he hO hWk
  unfold jvV at he
  subst he
  obtain ⟨W5, hW5⟩ : ∃ W, w5.alloc (.cells #[.int .u8 E.kind, .string E.text, .slice eA ea eb, .slice eB ec ed] 25) = W := ⟨_, rfl⟩
  have hx : Below w5.heap.size w5 W5 := by rw [← hW5]; exact (Below.refl _ _).alloc (Nat.le_refl _) _
  have hce : Cel W5 w5.heap.size 25 #[.int .u8 E.kind, .string E.text, .slice eA ea eb, .slice eB ec ed] := by rw [← hW5]; exact Cel.fresh _ _ _
  have hy := hb.trans (hx.mono hb.size)
  have hO4 := OwnJ.keep (w' := W5) E hO (fun k _ hk => hx.block k hk) (Nat.le_refl _) (Nat.le_refl _)
  replace hCm := Lib.hid (hCm.out.below hy hCm.out.lt)
  replace hCj := Lib.hid (hCj.out.below hy hCj.out.lt)
  replace hB := Lib.hid (hB.out.trans (hy.mono hB.out.size))
  have hJE := Lib.hid (OwnJ.jv E hO4)
  replace hW5 := Lib.hid hW5
  obtain ⟨q0, q1, q2, q3⟩ := hce.c4
  replace hWk := Lib.hid hWk
  clear hx hy hb hO hO4 hWr hce hEE
  go_upto_region 4 with fail
  rw [hW5.out]
  clear hW5
  by_cases hc5 : c5 = 0
  case pos =>
    subst hc5
    have hrd := hWk.out rfl d1 d2 hco0 hco1 d3 d4
    have hRd := rpcRead_any E _ W5 _ _ (hEl.out _ hB.out).1 hJE.out hrd.2
    rw [hrd.1] at hRd
    replace hRd := Lib.hid hRd
    clear hrd hWk hJE
    go_upto_region 5 with fail
    go_wp2_with fail
    refine hRd.out.mono ?_
    intro e w6 hz
    obtain ⟨x1, x2, p1, p2, r1, r2, s1, s2, he, hs0, hs1, hs2, hOx, hOp, hOr, hb⟩ := hz
    obtain ⟨fA, fa, fb, fB, fc, fd, rfl, rfl⟩ := hOx.forms
    obtain ⟨gA, ga, gb, gB, gc, gd, rfl, rfl⟩ := hOp.forms
    obtain ⟨hA', ha, hb', hB', hc, hd, rfl, rfl⟩ := hOr.forms
    have hMd : MsgJ w6 M (.slice fA fa fb) (.slice fB fc fd) (.slice gA ga gb) (.slice gB gc gd) (.slice hA' ha hb') (.slice hB' hc hd) := ⟨(OwnJ.jv _ hOx).more (fun _ _ _ => trivial), (OwnJ.jv _ hOp).more (fun _ _ _ => trivial), (OwnJ.jv _ hOr).more (fun _ _ _ => trivial)⟩
    dsimp only at he
    unfold msgV at he
    subst he
    replace hCm := Lib.hid (hCm.out.below hb hCm.out.lt)
    replace hCj := Lib.hid (hCj.out.below hb hCj.out.lt)
    replace hB := Lib.hid (hB.out.trans (hb.mono hB.out.size))
    clear hb hs0 hs1 hs2 hOx hOp hOr hRd q0 q1 q2 q3
    go_upto_region 6 with ((with_reducible refine wpl ?_); refine wpList_store_cel rfl 73 (.tmp 7) (.tmp 37) (by rfl) w6.heap.size 0 #[.int .u8 M.kind, .int .u8 M.id.kind, .string M.id.text, .slice fA fa fb, .slice fB fc fd, .string M.method, .int .u8 M.params.kind, .string M.params.text, .slice gA ga gb, .slice gB gc gd, .int .u8 M.result.kind, .string M.result.text, .slice hA' ha hb', .slice hB' hc hd, .int .i64 M.code, .string M.text] _ #[.int .u8 M.kind, .int .u8 M.id.kind, .string M.id.text, .slice fA fa fb, .slice fB fc fd, .string M.method, .int .u8 M.params.kind, .string M.params.text, .slice gA ga gb, .slice gB gc gd, .int .u8 M.result.kind, .string M.result.text, .slice hA' ha hb', .slice hB' hc hd, .int .i64 M.code, .string M.text] 73 (by rfl) (by rfl) (Cel.fresh w6 73 _) (Nat.le_refl 16) (putA_whole _ _ rfl) msgInfo (by first | (simp; done) | (simp [Value.oneCell']; done)) ?_; intro V6 hCd hA; replace hCd := Lib.hid hCd; replace hA := Lib.hid hA)
    have hx : Below w6.heap.size w6 V6 := ((Below.refl _ _).alloc (Nat.le_refl _) _).trans (hA.out.1 _ (Nat.le_refl _))
    replace hCm := Lib.hid (hCm.out.below hx hCm.out.lt)
    replace hCj := Lib.hid (hCj.out.below hx hCj.out.lt)
    replace hMd := Lib.hid (hMd.later hx)
    replace hB := Lib.hid (hB.out.trans (hx.mono hB.out.size))
    clear hA hx
    have hOf := Lib.hid (fun (W : World) (a1 a2 a3 a4 a5 a6 : Value) (hB : Below V6.heap.size V6 W) (hU : MsgJ W M a1 a2 a3 a4 a5 a6) => of_any M W _ _ _ _ _ _ hU ⟨by omega, by omega, by omega⟩)
    have hSM := Lib.hid (fun (W : World) (a1 a2 a3 a4 a5 a6 u1 u2 t1 t2 v1 v2 : Value) (hU : MsgJ W M a1 a2 a3 a4 a5 a6) (hV : MsgJ W M u1 u2 t1 t2 v1 v2) => refSameM_any M W _ _ _ _ _ _ _ _ _ _ _ _ hU hV ⟨by omega, by omega, by omega⟩)
    have hRm := Lib.hid (fun (W : World) (hB : Below V6.heap.size V6 W) => (hCm.out.below hB hCm.out.lt).rng)
    have hRd := Lib.hid (fun (W : World) (hB : Below V6.heap.size V6 W) => (hCd.out.below hB hCd.out.lt).rng)
    have hBx := Lib.hid (fun (W : World) (hS : Below V6.heap.size V6 W) => hB.out.trans (hS.mono (show w.heap.size ≤ V6.heap.size from hB.out.size)))
    have hMx := Lib.hid (fun (W : World) (hS : Below V6.heap.size V6 W) => hMl.out W (hBx.out W hS))
    refine wp_region_held_drew (S := fun W => Below V6.heap.size V6 W) (by kernel_rfl) (bel_drew (Below.refl _ _)) (fun hS => ?_)
    refine hTake (i := 0) (v := .int .i64 0) rfl (by kernel_rfl) (by kernel_rfl) (by kernel_rfl) (fun _ _ _ h => h) (Or.inl ⟨by rfl, by
      intro w' hSw
      go_simp⟩) hS ?_
    try simp only [Act.put, List.setIfInBounds_toArray, List.set_cons_zero, List.set_cons_succ]
    refine hTake (i := 1) (v := .bool false) rfl (by kernel_rfl) (by kernel_rfl) (by kernel_rfl) (fun _ _ _ h => h) (Or.inl ⟨by rfl, by
      intro w' hSw
      go_simp⟩) hS ?_
    try simp only [Act.put, List.setIfInBounds_toArray, List.set_cons_zero, List.set_cons_succ]
    refine hTake (i := 2) (v := .bool false) rfl (by kernel_rfl) (by kernel_rfl) (by kernel_rfl) (fun _ _ _ h => h) (Or.inl ⟨by rfl, by
      intro w' hSw
      go_simp⟩) hS ?_
    try simp only [Act.put, List.setIfInBounds_toArray, List.set_cons_zero, List.set_cons_succ]
    refine hTake (i := 3) (v := .agg #[.int .u8 M.kind, .int .u8 M.id.kind, .string M.id.text, .slice fA fa fb, .slice fB fc fd, .string M.method, .int .u8 M.params.kind, .string M.params.text, .slice gA ga gb, .slice gB gc gd, .int .u8 M.result.kind, .string M.result.text, .slice hA' ha hb', .slice hB' hc hd, .int .i64 M.code, .string M.text]) rfl (by kernel_rfl) (by kernel_rfl) (by kernel_rfl) (fun _ _ _ h => h) (yieldsIf_load_mid (by rfl) 73 (.tmp 7) rfl w6.heap.size 0 (by rfl) [.int .u8 M.kind, .int .u8 M.id.kind, .string M.id.text, .slice fA fa fb, .slice fB fc fd, .string M.method, .int .u8 M.params.kind, .string M.params.text, .slice gA ga gb, .slice gB gc gd, .int .u8 M.result.kind, .string M.result.text, .slice hA' ha hb', .slice hB' hc hd, .int .i64 M.code, .string M.text] dm hRd.out hdm.out.1 hdm.out.2 msgInfo) hS ?_
    try simp only [Act.put, List.setIfInBounds_toArray, List.set_cons_zero, List.set_cons_succ]
    refine hTake (i := 5) (v := .agg #[.int .u8 M.kind, .int .u8 M.id.kind, .string M.id.text, .slice xA xa xb, .slice xB xc xd, .string M.method, .int .u8 M.params.kind, .string M.params.text, .slice pA pa pb, .slice pB pc pd, .int .u8 M.result.kind, .string M.result.text, .slice rA ra rb, .slice rB rc rd, .int .i64 M.code, .string M.text]) rfl (by kernel_rfl) (by kernel_rfl) (by kernel_rfl) (fun _ _ _ h => h) (yieldsIf_load_mid (by rfl) 69 (.tmp 2) rfl w.heap.size 0 (by rfl) [.int .u8 M.kind, .int .u8 M.id.kind, .string M.id.text, .slice xA xa xb, .slice xB xc xd, .string M.method, .int .u8 M.params.kind, .string M.params.text, .slice pA pa pb, .slice pB pc pd, .int .u8 M.result.kind, .string M.result.text, .slice rA ra rb, .slice rB rc rd, .int .i64 M.code, .string M.text] dr hRm.out hdr.out.1 hdr.out.2 refMInfo) hS ?_
    try simp only [Act.put, List.setIfInBounds_toArray, List.set_cons_zero, List.set_cons_succ]
    refine hOne (i := 4) (by kernel_rfl) rfl (fun K hK => ?_)
    go_simp
    refine (hOf.out _ _ _ _ _ _ _ hS (hMd.out.later hS)).mono ?_
    rintro e v1 ⟨u1, u2, t1, t2, o1, o2, he, hMu, hb⟩
    obtain ⟨uA, ua, ub, uB, uc, ud, rfl, rfl⟩ := hMu.1.forms
    obtain ⟨tA, ta, tb, tB, tc, td, rfl, rfl⟩ := hMu.2.1.forms
    obtain ⟨oA, oa, ob, oB, oc, od, rfl, rfl⟩ := hMu.2.2.forms
    unfold msgV at he
    subst he
    replace hMu := Lib.hid hMu
    have hS1 : Below V6.heap.size V6 v1 := hS.trans (hb.mono hS.size)
    clear hb hS
    have hS := hS1
    refine hK.out _ _ hS ?_
    clear hK
    try simp only [Act.put, List.setIfInBounds_toArray, List.set_cons_zero, List.set_cons_succ]
    refine hOne (i := 6) (by kernel_rfl) rfl (fun K hK => ?_)
    go_simp
    refine (hSM.out _ _ _ _ _ _ _ _ _ _ _ _ _ hMu.out (hMx.out _ hS)).mono ?_
    rintro e v3 ⟨rfl, hb⟩
    have hS3 : Below V6.heap.size V6 v3 := hS.trans (hb.mono hS.size)
    clear hb hS hS1 hMu
    have hS := hS3
    refine hK.out _ _ hS ?_
    clear hK
    try simp only [Act.put, List.setIfInBounds_toArray, List.set_cons_zero, List.set_cons_succ]
    refine hTake (i := 7) (v := .bool false) rfl (by kernel_rfl) (by kernel_rfl) (by kernel_rfl) (fun _ _ _ h => h) (Or.inl ⟨by rfl, by
      intro w' hSw
      go_simp⟩) hS ?_
    try simp only [Act.put, List.setIfInBounds_toArray, List.set_cons_zero, List.set_cons_succ]
    refine hOne (i := 8) (by kernel_rfl) rfl (fun K hK => ?_)
    go_simp
    refine hK.out _ _ hS ?_
    clear hK
    refine wpAnyH_done (by kernel_rfl) ?_ _
    replace hCm := Lib.hid (hCm.out.below hS hCm.out.lt)
    replace hCj := Lib.hid (hCj.out.below hS hCj.out.lt)
    replace hB := Lib.hid (hBx.out _ hS)
    clear hS hS3 hOf hSM hRm hRd hBx hMx hMd hCd
    obtain ⟨q0, q1, q2, q3⟩ := hCj.out.c4
    have hGv := Lib.hid (hGj.out _ hB.out)
    go_upto_region 8 with fail
    go_wp2_with fail
    refine hGv.out.mono ?_
    rintro e w8 ⟨in', il, rfl, hOi, hb⟩
    obtain ⟨iA, ia, ib, iB, ic, id', rfl, rfl⟩ := hOi.forms
    replace hCm := Lib.hid (hCm.out.below hb hCm.out.lt)
    replace hCj := Lib.hid (hCj.out.below hb hCj.out.lt)
    replace hB := Lib.hid (hB.out.trans (hb.mono hB.out.size))
    have hRd := Lib.hid (hRdj.out w8 _ _ _ hB.out (OwnJ.jv j hOi))
    clear q0 q1 q2 q3 hb hOi hGv
    go_wp2_with fail
    refine hRd.out.mono ?_
    intro e w9 hz
    obtain ⟨x1, x2, p1, p2, r1, r2, s1, s2, he, hs0, hs1, hs2, hOx, hOp, hOr, hb⟩ := hz
    obtain ⟨bA, ba, bb, bB, bc, bd, rfl, rfl⟩ := hOx.forms
    obtain ⟨cA, ca, cb, cB, cc, cd, rfl, rfl⟩ := hOp.forms
    obtain ⟨dA, da, db, dB, dc, dd, rfl, rfl⟩ := hOr.forms
    have hMb : MsgJ w9 N (.slice bA ba bb) (.slice bB bc bd) (.slice cA ca cb) (.slice cB cc cd) (.slice dA da db) (.slice dB dc dd) := ⟨(OwnJ.jv _ hOx).more (fun _ _ _ => trivial), (OwnJ.jv _ hOp).more (fun _ _ _ => trivial), (OwnJ.jv _ hOr).more (fun _ _ _ => trivial)⟩
    dsimp only at he
    unfold msgV at he
    subst he
    replace hCm := Lib.hid (hCm.out.below hb hCm.out.lt)
    replace hCj := Lib.hid (hCj.out.below hb hCj.out.lt)
    replace hB := Lib.hid (hB.out.trans (hb.mono hB.out.size))
    clear hb hs0 hs1 hs2 hOx hOp hOr hRd
    go_upto_region 9 with ((with_reducible refine wpl ?_); refine wpList_store_cel rfl 73 (.tmp 9) (.tmp 52) (by rfl) w9.heap.size 0 #[.int .u8 N.kind, .int .u8 N.id.kind, .string N.id.text, .slice bA ba bb, .slice bB bc bd, .string N.method, .int .u8 N.params.kind, .string N.params.text, .slice cA ca cb, .slice cB cc cd, .int .u8 N.result.kind, .string N.result.text, .slice dA da db, .slice dB dc dd, .int .i64 N.code, .string N.text] _ #[.int .u8 N.kind, .int .u8 N.id.kind, .string N.id.text, .slice bA ba bb, .slice bB bc bd, .string N.method, .int .u8 N.params.kind, .string N.params.text, .slice cA ca cb, .slice cB cc cd, .int .u8 N.result.kind, .string N.result.text, .slice dA da db, .slice dB dc dd, .int .i64 N.code, .string N.text] 73 (by rfl) (by rfl) (Cel.fresh w9 73 _) (Nat.le_refl 16) (putA_whole _ _ rfl) msgInfo (by first | (simp; done) | (simp [Value.oneCell']; done)) ?_; intro V9 hCn hA; replace hCn := Lib.hid hCn; replace hA := Lib.hid hA)
    have hx : Below w9.heap.size w9 V9 := ((Below.refl _ _).alloc (Nat.le_refl _) _).trans (hA.out.1 _ (Nat.le_refl _))
    replace hCm := Lib.hid (hCm.out.below hx hCm.out.lt)
    replace hCj := Lib.hid (hCj.out.below hx hCj.out.lt)
    replace hB := Lib.hid (hB.out.trans (hx.mono hB.out.size))
    replace hMb := Lib.hid (hMb.later hx)
    clear hA hx
    by_cases hc0 : c = 0
    case neg =>
      have hc1 : (c != 0) = true := by simp [hc0]
      replace hc0 := Lib.hid hc0
      go_wp2_with fail
      go_ret
      exact ⟨rfl, hB.out⟩
    subst hc0
    obtain ⟨n1, n4, nok, nck, nc0, nc1, nb⟩ := hNok.out rfl
    have nb3 := Lib.hid (nb2.out rfl)
    clear nb2 hNok
    have hWr := Lib.hid (rpcWrite_any N _ V9 _ _ _ _ _ _ (hEl.out _ hB.out).1 hMb.out.1 hMb.out.2.1 hMb.out.2.2 nb.1.1 nb.1.2.1 nb.1.2.2 nb.2.1 nb.2.2.1 nc0 nc1 (by omega) (by omega))
    replace hWr := hWr.out
    rw [nck] at hWr
    replace hWr := Lib.hid hWr
    go_upto_region 11 with fail
    go_wp2_with ((with_reducible refine wpl ?_); refine wpList_load_all rfl 73 (.tmp 9) (by rfl) w9.heap.size _ 73 dm (by rfl) hCn.out hdm.out.1 hdm.out.2 msgInfo ?_)
    refine hWr.out.mono ?_
    intro e w11 hz
    obtain ⟨vn, vl, he, hO, hb⟩ := hz
    obtain ⟨eA, ea, eb, eB, ec, ed, rfl, rfl⟩ := hO.forms
    have hRe := Lib.hid (fun (W : World) (a b' : Value) (X : Nat → Prop) (hB' : Below w.heap.size w W) (hJ : JV W X (menv N) a b') => rpcRead_any (menv N) X W a b' (hEl.out W hB').1 hJ nb.2.2.2)
    obtain ⟨E, hEE⟩ : ∃ E, menv N = E := ⟨_, rfl⟩
    have hre := nb3.out
    rw [hEE] at he hO hRe hre
    replace hRe := hRe.out
    rw [hre] at hRe
    dsimp only at he hO
    unfold jvV at he
    subst he
    obtain ⟨W11, hW11⟩ : ∃ W, w11.alloc (.cells #[.int .u8 E.kind, .string E.text, .slice eA ea eb, .slice eB ec ed] 25) = W := ⟨_, rfl⟩
    have hx : Below w11.heap.size w11 W11 := by rw [← hW11]; exact (Below.refl _ _).alloc (Nat.le_refl _) _
    have hce : Cel W11 w11.heap.size 25 #[.int .u8 E.kind, .string E.text, .slice eA ea eb, .slice eB ec ed] := by rw [← hW11]; exact Cel.fresh _ _ _
    have hy := hb.trans (hx.mono hb.size)
    have hO4 := OwnJ.keep (w' := W11) E hO (fun k _ hk => hx.block k hk) (Nat.le_refl _) (Nat.le_refl _)
    replace hCn := Lib.hid (hCn.out.below hy hCn.out.lt)
    replace hMb := Lib.hid (hMb.out.later hy)
    replace hB := Lib.hid (hB.out.trans (hy.mono hB.out.size))
    have hRd := Lib.hid (hRe W11 _ _ _ hB.out (OwnJ.jv E hO4))
    replace hW11 := Lib.hid hW11
    obtain ⟨q0, q1, q2, q3⟩ := hce.c4
    clear hx hy hb hO hO4 hWr hRe hre hce hEE nck nok
    go_upto_region 12 with fail
    rw [hW11.out]
    clear hW11
    go_wp2_with fail
    refine hRd.out.mono ?_
    intro e w12 hz
    obtain ⟨x1, x2, p1, p2, r1, r2, s1, s2, he, hs0, hs1, hs2, hOx, hOp, hOr, hb⟩ := hz
    obtain ⟨fA, fa, fb, fB, fc, fd, rfl, rfl⟩ := hOx.forms
    obtain ⟨gA, ga, gb, gB, gc, gd, rfl, rfl⟩ := hOp.forms
    obtain ⟨hA', ha, hb', hB', hc, hd, rfl, rfl⟩ := hOr.forms
    have hMd : MsgJ w12 N (.slice fA fa fb) (.slice fB fc fd) (.slice gA ga gb) (.slice gB gc gd) (.slice hA' ha hb') (.slice hB' hc hd) := ⟨(OwnJ.jv _ hOx).more (fun _ _ _ => trivial), (OwnJ.jv _ hOp).more (fun _ _ _ => trivial), (OwnJ.jv _ hOr).more (fun _ _ _ => trivial)⟩
    dsimp only at he
    unfold msgV at he
    subst he
    replace hCn := Lib.hid (hCn.out.below hb hCn.out.lt)
    replace hMb := Lib.hid (hMb.out.later hb)
    replace hB := Lib.hid (hB.out.trans (hb.mono hB.out.size))
    clear hb hs0 hs1 hs2 hOx hOp hOr hRd q0 q1 q2 q3
    go_upto_region 13 with ((with_reducible refine wpl ?_); refine wpList_store_cel rfl 73 (.tmp 12) (.tmp 64) (by rfl) w12.heap.size 0 #[.int .u8 N.kind, .int .u8 N.id.kind, .string N.id.text, .slice fA fa fb, .slice fB fc fd, .string N.method, .int .u8 N.params.kind, .string N.params.text, .slice gA ga gb, .slice gB gc gd, .int .u8 N.result.kind, .string N.result.text, .slice hA' ha hb', .slice hB' hc hd, .int .i64 N.code, .string N.text] _ #[.int .u8 N.kind, .int .u8 N.id.kind, .string N.id.text, .slice fA fa fb, .slice fB fc fd, .string N.method, .int .u8 N.params.kind, .string N.params.text, .slice gA ga gb, .slice gB gc gd, .int .u8 N.result.kind, .string N.result.text, .slice hA' ha hb', .slice hB' hc hd, .int .i64 N.code, .string N.text] 73 (by rfl) (by rfl) (Cel.fresh w12 73 _) (Nat.le_refl 16) (putA_whole _ _ rfl) msgInfo (by first | (simp; done) | (simp [Value.oneCell']; done)) ?_; intro V12 hCd hA; replace hCd := Lib.hid hCd; replace hA := Lib.hid hA)
    have hx : Below w12.heap.size w12 V12 := ((Below.refl _ _).alloc (Nat.le_refl _) _).trans (hA.out.1 _ (Nat.le_refl _))
    replace hCn := Lib.hid (hCn.out.below hx hCn.out.lt)
    replace hMb := Lib.hid (hMb.out.later hx)
    replace hMd := Lib.hid (hMd.later hx)
    replace hB := Lib.hid (hB.out.trans (hx.mono hB.out.size))
    clear hA hx
    have hOf := Lib.hid (fun (W : World) (a1 a2 a3 a4 a5 a6 : Value) (hB : Below V12.heap.size V12 W) (hU : MsgJ W N a1 a2 a3 a4 a5 a6) => of_any N W _ _ _ _ _ _ hU ⟨by have := nb.1.1; omega, by have := nb.1.2.1; omega, by have := nb.1.2.2; omega⟩)
    have hSM := Lib.hid (fun (W : World) (a1 a2 a3 a4 a5 a6 u1 u2 t1 t2 v1 v2 : Value) (hU : MsgJ W N a1 a2 a3 a4 a5 a6) (hV : MsgJ W N u1 u2 t1 t2 v1 v2) => refSameM_any N W _ _ _ _ _ _ _ _ _ _ _ _ hU hV ⟨by have := nb.1.1; omega, by have := nb.1.2.1; omega, by have := nb.1.2.2; omega⟩)
    have hRn := Lib.hid (fun (W : World) (hB : Below V12.heap.size V12 W) => (hCn.out.below hB hCn.out.lt).rng)
    have hRd := Lib.hid (fun (W : World) (hB : Below V12.heap.size V12 W) => (hCd.out.below hB hCd.out.lt).rng)
    have hBx := Lib.hid (fun (W : World) (hS : Below V12.heap.size V12 W) => hB.out.trans (hS.mono (show w.heap.size ≤ V12.heap.size from hB.out.size)))
    refine wp_region_held_drew (S := fun W => Below V12.heap.size V12 W) (by kernel_rfl) (bel_drew (Below.refl _ _)) (fun hS => ?_)
    refine hTake (i := 0) (v := .int .i64 0) rfl (by kernel_rfl) (by kernel_rfl) (by kernel_rfl) (fun _ _ _ h => h) (Or.inl ⟨by rfl, by
      intro w' hSw
      go_simp⟩) hS ?_
    try simp only [Act.put, List.setIfInBounds_toArray, List.set_cons_zero, List.set_cons_succ]
    refine hTake (i := 1) (v := .bool true) rfl (by kernel_rfl) (by kernel_rfl) (by kernel_rfl) (fun _ _ _ h => h) (Or.inl ⟨by rfl, by
      intro w' hSw
      go_simp⟩) hS ?_
    try simp only [Act.put, List.setIfInBounds_toArray, List.set_cons_zero, List.set_cons_succ]
    refine hTake (i := 2) (v := .bool true) rfl (by kernel_rfl) (by kernel_rfl) (by kernel_rfl) (fun _ _ _ h => h) (Or.inl ⟨by rfl, by
      intro w' hSw
      go_simp⟩) hS ?_
    try simp only [Act.put, List.setIfInBounds_toArray, List.set_cons_zero, List.set_cons_succ]
    refine hTake (i := 3) (v := .int .i64 0) rfl (by kernel_rfl) (by kernel_rfl) (by kernel_rfl) (fun _ _ _ h => h) (Or.inl ⟨by rfl, by
      intro w' hSw
      go_simp⟩) hS ?_
    try simp only [Act.put, List.setIfInBounds_toArray, List.set_cons_zero, List.set_cons_succ]
    refine hTake (i := 4) (v := .bool true) rfl (by kernel_rfl) (by kernel_rfl) (by kernel_rfl) (fun _ _ _ h => h) (Or.inl ⟨by rfl, by
      intro w' hSw
      go_simp⟩) hS ?_
    try simp only [Act.put, List.setIfInBounds_toArray, List.set_cons_zero, List.set_cons_succ]
    refine hTake (i := 5) (v := .bool true) rfl (by kernel_rfl) (by kernel_rfl) (by kernel_rfl) (fun _ _ _ h => h) (Or.inl ⟨by rfl, by
      intro w' hSw
      go_simp⟩) hS ?_
    try simp only [Act.put, List.setIfInBounds_toArray, List.set_cons_zero, List.set_cons_succ]
    refine hTake (i := 6) (v := .bool true) rfl (by kernel_rfl) (by kernel_rfl) (by kernel_rfl) (fun _ _ _ h => h) (Or.inl ⟨by rfl, by
      intro w' hSw
      go_simp⟩) hS ?_
    try simp only [Act.put, List.setIfInBounds_toArray, List.set_cons_zero, List.set_cons_succ]
    refine hTake (i := 7) (v := .agg #[.int .u8 N.kind, .int .u8 N.id.kind, .string N.id.text, .slice bA ba bb, .slice bB bc bd, .string N.method, .int .u8 N.params.kind, .string N.params.text, .slice cA ca cb, .slice cB cc cd, .int .u8 N.result.kind, .string N.result.text, .slice dA da db, .slice dB dc dd, .int .i64 N.code, .string N.text]) rfl (by kernel_rfl) (by kernel_rfl) (by kernel_rfl) (fun _ _ _ h => h) (yieldsIf_load_mid (by rfl) 73 (.tmp 9) rfl w9.heap.size 0 (by rfl) [.int .u8 N.kind, .int .u8 N.id.kind, .string N.id.text, .slice bA ba bb, .slice bB bc bd, .string N.method, .int .u8 N.params.kind, .string N.params.text, .slice cA ca cb, .slice cB cc cd, .int .u8 N.result.kind, .string N.result.text, .slice dA da db, .slice dB dc dd, .int .i64 N.code, .string N.text] dm hRn.out hdm.out.1 hdm.out.2 msgInfo) hS ?_
    try simp only [Act.put, List.setIfInBounds_toArray, List.set_cons_zero, List.set_cons_succ]
    refine hTake (i := 9) (v := .agg #[.int .u8 N.kind, .int .u8 N.id.kind, .string N.id.text, .slice fA fa fb, .slice fB fc fd, .string N.method, .int .u8 N.params.kind, .string N.params.text, .slice gA ga gb, .slice gB gc gd, .int .u8 N.result.kind, .string N.result.text, .slice hA' ha hb', .slice hB' hc hd, .int .i64 N.code, .string N.text]) rfl (by kernel_rfl) (by kernel_rfl) (by kernel_rfl) (fun _ _ _ h => h) (yieldsIf_load_mid (by rfl) 73 (.tmp 12) rfl w12.heap.size 0 (by rfl) [.int .u8 N.kind, .int .u8 N.id.kind, .string N.id.text, .slice fA fa fb, .slice fB fc fd, .string N.method, .int .u8 N.params.kind, .string N.params.text, .slice gA ga gb, .slice gB gc gd, .int .u8 N.result.kind, .string N.result.text, .slice hA' ha hb', .slice hB' hc hd, .int .i64 N.code, .string N.text] dm hRd.out hdm.out.1 hdm.out.2 msgInfo) hS ?_
    try simp only [Act.put, List.setIfInBounds_toArray, List.set_cons_zero, List.set_cons_succ]
    refine hOne (i := 8) (by kernel_rfl) rfl (fun K hK => ?_)
    go_simp
    refine (hOf.out _ _ _ _ _ _ _ hS (hMb.out.later hS)).mono ?_
    rintro e v1 ⟨u1, u2, t1, t2, o1, o2, he, hMu, hb⟩
    obtain ⟨uA, ua, ub, uB, uc, ud, rfl, rfl⟩ := hMu.1.forms
    obtain ⟨tA, ta, tb, tB, tc, td, rfl, rfl⟩ := hMu.2.1.forms
    obtain ⟨oA, oa, ob, oB, oc, od, rfl, rfl⟩ := hMu.2.2.forms
    unfold msgV at he
    subst he
    replace hMu := Lib.hid hMu
    have hS1 : Below V12.heap.size V12 v1 := hS.trans (hb.mono hS.size)
    clear hb hS
    have hS := hS1
    refine hK.out _ _ hS ?_
    clear hK
    try simp only [Act.put, List.setIfInBounds_toArray, List.set_cons_zero, List.set_cons_succ]
    refine hOne (i := 10) (by kernel_rfl) rfl (fun K hK => ?_)
    go_simp
    refine (hOf.out _ _ _ _ _ _ _ hS (hMd.out.later hS)).mono ?_
    rintro e v2 ⟨u1', u2', t1', t2', o1', o2', he, hMv, hb⟩
    obtain ⟨yA, ya, yb, yB, yc, yd, rfl, rfl⟩ := hMv.1.forms
    obtain ⟨zA, za, zb, zB, zc, zd, rfl, rfl⟩ := hMv.2.1.forms
    obtain ⟨kA, ka, kb, kB, kc, kd, rfl, rfl⟩ := hMv.2.2.forms
    unfold msgV at he
    subst he
    replace hMv := Lib.hid hMv
    replace hMu := Lib.hid (hMu.out.later hb)
    have hS2 : Below V12.heap.size V12 v2 := hS.trans (hb.mono hS.size)
    clear hb hS hS1
    have hS := hS2
    refine hK.out _ _ hS ?_
    clear hK
    try simp only [Act.put, List.setIfInBounds_toArray, List.set_cons_zero, List.set_cons_succ]
    refine hOne (i := 11) (by kernel_rfl) rfl (fun K hK => ?_)
    go_simp
    refine (hSM.out _ _ _ _ _ _ _ _ _ _ _ _ _ hMu.out hMv.out).mono ?_
    rintro e v3 ⟨rfl, hb⟩
    have hS3 : Below V12.heap.size V12 v3 := hS.trans (hb.mono hS.size)
    clear hb hS hS2 hMu hMv
    have hS := hS3
    refine hK.out _ _ hS ?_
    clear hK
    try simp only [Act.put, List.setIfInBounds_toArray, List.set_cons_zero, List.set_cons_succ]
    refine hTake (i := 12) (v := .bool true) rfl (by kernel_rfl) (by kernel_rfl) (by kernel_rfl) (fun _ _ _ h => h) (Or.inl ⟨by rfl, by
      intro w' hSw
      go_simp⟩) hS ?_
    try simp only [Act.put, List.setIfInBounds_toArray, List.set_cons_zero, List.set_cons_succ]
    refine hOne (i := 13) (by kernel_rfl) rfl (fun K hK => ?_)
    go_simp
    refine hK.out _ _ hS ?_
    clear hK
    refine wpAnyH_done (by kernel_rfl) ?_ _
    have hfin := Lib.hid (hBx.out _ hS)
    clear hS hS3
    go_wp2_with fail
    go_ret
    exact ⟨rfl, hfin.out⟩
  case neg =>
    have hc5' : (c5 == 0) = false := by simp [hc5]
    replace hc5 := Lib.hid hc5
    clear q0 q1 q2 q3 hWk hJE
    obtain ⟨q0, q1, q2, q3⟩ := hCj.out.c4
    have hGv := Lib.hid (hGj.out _ hB.out)
    go_upto_region 8 with fail
    go_wp2_with fail
    refine hGv.out.mono ?_
    rintro e w8 ⟨in', il, rfl, hOi, hb⟩
    obtain ⟨iA, ia, ib, iB, ic, id', rfl, rfl⟩ := hOi.forms
    replace hCm := Lib.hid (hCm.out.below hb hCm.out.lt)
    replace hCj := Lib.hid (hCj.out.below hb hCj.out.lt)
    replace hB := Lib.hid (hB.out.trans (hb.mono hB.out.size))
    have hRd := Lib.hid (hRdj.out w8 _ _ _ hB.out (OwnJ.jv j hOi))
    clear q0 q1 q2 q3 hb hOi hGv
    go_wp2_with fail
    refine hRd.out.mono ?_
    intro e w9 hz
    obtain ⟨x1, x2, p1, p2, r1, r2, s1, s2, he, hs0, hs1, hs2, hOx, hOp, hOr, hb⟩ := hz
    obtain ⟨bA, ba, bb, bB, bc, bd, rfl, rfl⟩ := hOx.forms
    obtain ⟨cA, ca, cb, cB, cc, cd, rfl, rfl⟩ := hOp.forms
    obtain ⟨dA, da, db, dB, dc, dd, rfl, rfl⟩ := hOr.forms
    have hMb : MsgJ w9 N (.slice bA ba bb) (.slice bB bc bd) (.slice cA ca cb) (.slice cB cc cd) (.slice dA da db) (.slice dB dc dd) := ⟨(OwnJ.jv _ hOx).more (fun _ _ _ => trivial), (OwnJ.jv _ hOp).more (fun _ _ _ => trivial), (OwnJ.jv _ hOr).more (fun _ _ _ => trivial)⟩
    dsimp only at he
    unfold msgV at he
    subst he
    replace hCm := Lib.hid (hCm.out.below hb hCm.out.lt)
    replace hCj := Lib.hid (hCj.out.below hb hCj.out.lt)
    replace hB := Lib.hid (hB.out.trans (hb.mono hB.out.size))
    clear hb hs0 hs1 hs2 hOx hOp hOr hRd
    go_upto_region 9 with ((with_reducible refine wpl ?_); refine wpList_store_cel rfl 73 (.tmp 9) (.tmp 52) (by rfl) w9.heap.size 0 #[.int .u8 N.kind, .int .u8 N.id.kind, .string N.id.text, .slice bA ba bb, .slice bB bc bd, .string N.method, .int .u8 N.params.kind, .string N.params.text, .slice cA ca cb, .slice cB cc cd, .int .u8 N.result.kind, .string N.result.text, .slice dA da db, .slice dB dc dd, .int .i64 N.code, .string N.text] _ #[.int .u8 N.kind, .int .u8 N.id.kind, .string N.id.text, .slice bA ba bb, .slice bB bc bd, .string N.method, .int .u8 N.params.kind, .string N.params.text, .slice cA ca cb, .slice cB cc cd, .int .u8 N.result.kind, .string N.result.text, .slice dA da db, .slice dB dc dd, .int .i64 N.code, .string N.text] 73 (by rfl) (by rfl) (Cel.fresh w9 73 _) (Nat.le_refl 16) (putA_whole _ _ rfl) msgInfo (by first | (simp; done) | (simp [Value.oneCell']; done)) ?_; intro V9 hCn hA; replace hCn := Lib.hid hCn; replace hA := Lib.hid hA)
    have hx : Below w9.heap.size w9 V9 := ((Below.refl _ _).alloc (Nat.le_refl _) _).trans (hA.out.1 _ (Nat.le_refl _))
    replace hCm := Lib.hid (hCm.out.below hx hCm.out.lt)
    replace hCj := Lib.hid (hCj.out.below hx hCj.out.lt)
    replace hB := Lib.hid (hB.out.trans (hx.mono hB.out.size))
    replace hMb := Lib.hid (hMb.later hx)
    clear hA hx
    by_cases hc0 : c = 0
    case neg =>
      have hc1 : (c != 0) = true := by simp [hc0]
      replace hc0 := Lib.hid hc0
      go_wp2_with fail
      go_ret
      exact ⟨rfl, hB.out⟩
    subst hc0
    obtain ⟨n1, n4, nok, nck, nc0, nc1, nb⟩ := hNok.out rfl
    have nb3 := Lib.hid (nb2.out rfl)
    clear nb2 hNok
    have hWr := Lib.hid (rpcWrite_any N _ V9 _ _ _ _ _ _ (hEl.out _ hB.out).1 hMb.out.1 hMb.out.2.1 hMb.out.2.2 nb.1.1 nb.1.2.1 nb.1.2.2 nb.2.1 nb.2.2.1 nc0 nc1 (by omega) (by omega))
    replace hWr := hWr.out
    rw [nck] at hWr
    replace hWr := Lib.hid hWr
    go_upto_region 11 with fail
    go_wp2_with ((with_reducible refine wpl ?_); refine wpList_load_all rfl 73 (.tmp 9) (by rfl) w9.heap.size _ 73 dm (by rfl) hCn.out hdm.out.1 hdm.out.2 msgInfo ?_)
    refine hWr.out.mono ?_
    intro e w11 hz
    obtain ⟨vn, vl, he, hO, hb⟩ := hz
    obtain ⟨eA, ea, eb, eB, ec, ed, rfl, rfl⟩ := hO.forms
    have hRe := Lib.hid (fun (W : World) (a b' : Value) (X : Nat → Prop) (hB' : Below w.heap.size w W) (hJ : JV W X (menv N) a b') => rpcRead_any (menv N) X W a b' (hEl.out W hB').1 hJ nb.2.2.2)
    obtain ⟨E, hEE⟩ : ∃ E, menv N = E := ⟨_, rfl⟩
    have hre := nb3.out
    rw [hEE] at he hO hRe hre
    replace hRe := hRe.out
    rw [hre] at hRe
    dsimp only at he hO
    unfold jvV at he
    subst he
    obtain ⟨W11, hW11⟩ : ∃ W, w11.alloc (.cells #[.int .u8 E.kind, .string E.text, .slice eA ea eb, .slice eB ec ed] 25) = W := ⟨_, rfl⟩
    have hx : Below w11.heap.size w11 W11 := by rw [← hW11]; exact (Below.refl _ _).alloc (Nat.le_refl _) _
    have hce : Cel W11 w11.heap.size 25 #[.int .u8 E.kind, .string E.text, .slice eA ea eb, .slice eB ec ed] := by rw [← hW11]; exact Cel.fresh _ _ _
    have hy := hb.trans (hx.mono hb.size)
    have hO4 := OwnJ.keep (w' := W11) E hO (fun k _ hk => hx.block k hk) (Nat.le_refl _) (Nat.le_refl _)
    replace hCn := Lib.hid (hCn.out.below hy hCn.out.lt)
    replace hMb := Lib.hid (hMb.out.later hy)
    replace hB := Lib.hid (hB.out.trans (hy.mono hB.out.size))
    have hRd := Lib.hid (hRe W11 _ _ _ hB.out (OwnJ.jv E hO4))
    replace hW11 := Lib.hid hW11
    obtain ⟨q0, q1, q2, q3⟩ := hce.c4
    clear hx hy hb hO hO4 hWr hRe hre hce hEE nck nok
    go_upto_region 12 with fail
    rw [hW11.out]
    clear hW11
    go_wp2_with fail
    refine hRd.out.mono ?_
    intro e w12 hz
    obtain ⟨x1, x2, p1, p2, r1, r2, s1, s2, he, hs0, hs1, hs2, hOx, hOp, hOr, hb⟩ := hz
    obtain ⟨fA, fa, fb, fB, fc, fd, rfl, rfl⟩ := hOx.forms
    obtain ⟨gA, ga, gb, gB, gc, gd, rfl, rfl⟩ := hOp.forms
    obtain ⟨hA', ha, hb', hB', hc, hd, rfl, rfl⟩ := hOr.forms
    have hMd : MsgJ w12 N (.slice fA fa fb) (.slice fB fc fd) (.slice gA ga gb) (.slice gB gc gd) (.slice hA' ha hb') (.slice hB' hc hd) := ⟨(OwnJ.jv _ hOx).more (fun _ _ _ => trivial), (OwnJ.jv _ hOp).more (fun _ _ _ => trivial), (OwnJ.jv _ hOr).more (fun _ _ _ => trivial)⟩
    dsimp only at he
    unfold msgV at he
    subst he
    replace hCn := Lib.hid (hCn.out.below hb hCn.out.lt)
    replace hMb := Lib.hid (hMb.out.later hb)
    replace hB := Lib.hid (hB.out.trans (hb.mono hB.out.size))
    clear hb hs0 hs1 hs2 hOx hOp hOr hRd q0 q1 q2 q3
    go_upto_region 13 with ((with_reducible refine wpl ?_); refine wpList_store_cel rfl 73 (.tmp 12) (.tmp 64) (by rfl) w12.heap.size 0 #[.int .u8 N.kind, .int .u8 N.id.kind, .string N.id.text, .slice fA fa fb, .slice fB fc fd, .string N.method, .int .u8 N.params.kind, .string N.params.text, .slice gA ga gb, .slice gB gc gd, .int .u8 N.result.kind, .string N.result.text, .slice hA' ha hb', .slice hB' hc hd, .int .i64 N.code, .string N.text] _ #[.int .u8 N.kind, .int .u8 N.id.kind, .string N.id.text, .slice fA fa fb, .slice fB fc fd, .string N.method, .int .u8 N.params.kind, .string N.params.text, .slice gA ga gb, .slice gB gc gd, .int .u8 N.result.kind, .string N.result.text, .slice hA' ha hb', .slice hB' hc hd, .int .i64 N.code, .string N.text] 73 (by rfl) (by rfl) (Cel.fresh w12 73 _) (Nat.le_refl 16) (putA_whole _ _ rfl) msgInfo (by first | (simp; done) | (simp [Value.oneCell']; done)) ?_; intro V12 hCd hA; replace hCd := Lib.hid hCd; replace hA := Lib.hid hA)
    have hx : Below w12.heap.size w12 V12 := ((Below.refl _ _).alloc (Nat.le_refl _) _).trans (hA.out.1 _ (Nat.le_refl _))
    replace hCn := Lib.hid (hCn.out.below hx hCn.out.lt)
    replace hMb := Lib.hid (hMb.out.later hx)
    replace hMd := Lib.hid (hMd.later hx)
    replace hB := Lib.hid (hB.out.trans (hx.mono hB.out.size))
    clear hA hx
    have hOf := Lib.hid (fun (W : World) (a1 a2 a3 a4 a5 a6 : Value) (hB : Below V12.heap.size V12 W) (hU : MsgJ W N a1 a2 a3 a4 a5 a6) => of_any N W _ _ _ _ _ _ hU ⟨by have := nb.1.1; omega, by have := nb.1.2.1; omega, by have := nb.1.2.2; omega⟩)
    have hSM := Lib.hid (fun (W : World) (a1 a2 a3 a4 a5 a6 u1 u2 t1 t2 v1 v2 : Value) (hU : MsgJ W N a1 a2 a3 a4 a5 a6) (hV : MsgJ W N u1 u2 t1 t2 v1 v2) => refSameM_any N W _ _ _ _ _ _ _ _ _ _ _ _ hU hV ⟨by have := nb.1.1; omega, by have := nb.1.2.1; omega, by have := nb.1.2.2; omega⟩)
    have hRn := Lib.hid (fun (W : World) (hB : Below V12.heap.size V12 W) => (hCn.out.below hB hCn.out.lt).rng)
    have hRd := Lib.hid (fun (W : World) (hB : Below V12.heap.size V12 W) => (hCd.out.below hB hCd.out.lt).rng)
    have hBx := Lib.hid (fun (W : World) (hS : Below V12.heap.size V12 W) => hB.out.trans (hS.mono (show w.heap.size ≤ V12.heap.size from hB.out.size)))
    refine wp_region_held_drew (S := fun W => Below V12.heap.size V12 W) (by kernel_rfl) (bel_drew (Below.refl _ _)) (fun hS => ?_)
    refine hTake (i := 0) (v := .int .i64 0) rfl (by kernel_rfl) (by kernel_rfl) (by kernel_rfl) (fun _ _ _ h => h) (Or.inl ⟨by rfl, by
      intro w' hSw
      go_simp⟩) hS ?_
    try simp only [Act.put, List.setIfInBounds_toArray, List.set_cons_zero, List.set_cons_succ]
    refine hTake (i := 1) (v := .bool true) rfl (by kernel_rfl) (by kernel_rfl) (by kernel_rfl) (fun _ _ _ h => h) (Or.inl ⟨by rfl, by
      intro w' hSw
      go_simp⟩) hS ?_
    try simp only [Act.put, List.setIfInBounds_toArray, List.set_cons_zero, List.set_cons_succ]
    refine hTake (i := 2) (v := .bool true) rfl (by kernel_rfl) (by kernel_rfl) (by kernel_rfl) (fun _ _ _ h => h) (Or.inl ⟨by rfl, by
      intro w' hSw
      go_simp⟩) hS ?_
    try simp only [Act.put, List.setIfInBounds_toArray, List.set_cons_zero, List.set_cons_succ]
    refine hTake (i := 3) (v := .int .i64 0) rfl (by kernel_rfl) (by kernel_rfl) (by kernel_rfl) (fun _ _ _ h => h) (Or.inl ⟨by rfl, by
      intro w' hSw
      go_simp⟩) hS ?_
    try simp only [Act.put, List.setIfInBounds_toArray, List.set_cons_zero, List.set_cons_succ]
    refine hTake (i := 4) (v := .bool true) rfl (by kernel_rfl) (by kernel_rfl) (by kernel_rfl) (fun _ _ _ h => h) (Or.inl ⟨by rfl, by
      intro w' hSw
      go_simp⟩) hS ?_
    try simp only [Act.put, List.setIfInBounds_toArray, List.set_cons_zero, List.set_cons_succ]
    refine hTake (i := 5) (v := .bool true) rfl (by kernel_rfl) (by kernel_rfl) (by kernel_rfl) (fun _ _ _ h => h) (Or.inl ⟨by rfl, by
      intro w' hSw
      go_simp⟩) hS ?_
    try simp only [Act.put, List.setIfInBounds_toArray, List.set_cons_zero, List.set_cons_succ]
    refine hTake (i := 6) (v := .bool true) rfl (by kernel_rfl) (by kernel_rfl) (by kernel_rfl) (fun _ _ _ h => h) (Or.inl ⟨by rfl, by
      intro w' hSw
      go_simp⟩) hS ?_
    try simp only [Act.put, List.setIfInBounds_toArray, List.set_cons_zero, List.set_cons_succ]
    refine hTake (i := 7) (v := .agg #[.int .u8 N.kind, .int .u8 N.id.kind, .string N.id.text, .slice bA ba bb, .slice bB bc bd, .string N.method, .int .u8 N.params.kind, .string N.params.text, .slice cA ca cb, .slice cB cc cd, .int .u8 N.result.kind, .string N.result.text, .slice dA da db, .slice dB dc dd, .int .i64 N.code, .string N.text]) rfl (by kernel_rfl) (by kernel_rfl) (by kernel_rfl) (fun _ _ _ h => h) (yieldsIf_load_mid (by rfl) 73 (.tmp 9) rfl w9.heap.size 0 (by rfl) [.int .u8 N.kind, .int .u8 N.id.kind, .string N.id.text, .slice bA ba bb, .slice bB bc bd, .string N.method, .int .u8 N.params.kind, .string N.params.text, .slice cA ca cb, .slice cB cc cd, .int .u8 N.result.kind, .string N.result.text, .slice dA da db, .slice dB dc dd, .int .i64 N.code, .string N.text] dm hRn.out hdm.out.1 hdm.out.2 msgInfo) hS ?_
    try simp only [Act.put, List.setIfInBounds_toArray, List.set_cons_zero, List.set_cons_succ]
    refine hTake (i := 9) (v := .agg #[.int .u8 N.kind, .int .u8 N.id.kind, .string N.id.text, .slice fA fa fb, .slice fB fc fd, .string N.method, .int .u8 N.params.kind, .string N.params.text, .slice gA ga gb, .slice gB gc gd, .int .u8 N.result.kind, .string N.result.text, .slice hA' ha hb', .slice hB' hc hd, .int .i64 N.code, .string N.text]) rfl (by kernel_rfl) (by kernel_rfl) (by kernel_rfl) (fun _ _ _ h => h) (yieldsIf_load_mid (by rfl) 73 (.tmp 12) rfl w12.heap.size 0 (by rfl) [.int .u8 N.kind, .int .u8 N.id.kind, .string N.id.text, .slice fA fa fb, .slice fB fc fd, .string N.method, .int .u8 N.params.kind, .string N.params.text, .slice gA ga gb, .slice gB gc gd, .int .u8 N.result.kind, .string N.result.text, .slice hA' ha hb', .slice hB' hc hd, .int .i64 N.code, .string N.text] dm hRd.out hdm.out.1 hdm.out.2 msgInfo) hS ?_
    try simp only [Act.put, List.setIfInBounds_toArray, List.set_cons_zero, List.set_cons_succ]
    refine hOne (i := 8) (by kernel_rfl) rfl (fun K hK => ?_)
    go_simp
    refine (hOf.out _ _ _ _ _ _ _ hS (hMb.out.later hS)).mono ?_
    rintro e v1 ⟨u1, u2, t1, t2, o1, o2, he, hMu, hb⟩
    obtain ⟨uA, ua, ub, uB, uc, ud, rfl, rfl⟩ := hMu.1.forms
    obtain ⟨tA, ta, tb, tB, tc, td, rfl, rfl⟩ := hMu.2.1.forms
    obtain ⟨oA, oa, ob, oB, oc, od, rfl, rfl⟩ := hMu.2.2.forms
    unfold msgV at he
    subst he
    replace hMu := Lib.hid hMu
    have hS1 : Below V12.heap.size V12 v1 := hS.trans (hb.mono hS.size)
    clear hb hS
    have hS := hS1
    refine hK.out _ _ hS ?_
    clear hK
    try simp only [Act.put, List.setIfInBounds_toArray, List.set_cons_zero, List.set_cons_succ]
    refine hOne (i := 10) (by kernel_rfl) rfl (fun K hK => ?_)
    go_simp
    refine (hOf.out _ _ _ _ _ _ _ hS (hMd.out.later hS)).mono ?_
    rintro e v2 ⟨u1', u2', t1', t2', o1', o2', he, hMv, hb⟩
    obtain ⟨yA, ya, yb, yB, yc, yd, rfl, rfl⟩ := hMv.1.forms
    obtain ⟨zA, za, zb, zB, zc, zd, rfl, rfl⟩ := hMv.2.1.forms
    obtain ⟨kA, ka, kb, kB, kc, kd, rfl, rfl⟩ := hMv.2.2.forms
    unfold msgV at he
    subst he
    replace hMv := Lib.hid hMv
    replace hMu := Lib.hid (hMu.out.later hb)
    have hS2 : Below V12.heap.size V12 v2 := hS.trans (hb.mono hS.size)
    clear hb hS hS1
    have hS := hS2
    refine hK.out _ _ hS ?_
    clear hK
    try simp only [Act.put, List.setIfInBounds_toArray, List.set_cons_zero, List.set_cons_succ]
    refine hOne (i := 11) (by kernel_rfl) rfl (fun K hK => ?_)
    go_simp
    refine (hSM.out _ _ _ _ _ _ _ _ _ _ _ _ _ hMu.out hMv.out).mono ?_
    rintro e v3 ⟨rfl, hb⟩
    have hS3 : Below V12.heap.size V12 v3 := hS.trans (hb.mono hS.size)
    clear hb hS hS2 hMu hMv
    have hS := hS3
    refine hK.out _ _ hS ?_
    clear hK
    try simp only [Act.put, List.setIfInBounds_toArray, List.set_cons_zero, List.set_cons_succ]
    refine hTake (i := 12) (v := .bool true) rfl (by kernel_rfl) (by kernel_rfl) (by kernel_rfl) (fun _ _ _ h => h) (Or.inl ⟨by rfl, by
      intro w' hSw
      go_simp⟩) hS ?_
    try simp only [Act.put, List.setIfInBounds_toArray, List.set_cons_zero, List.set_cons_succ]
    refine hOne (i := 13) (by kernel_rfl) rfl (fun K hK => ?_)
    go_simp
    refine hK.out _ _ hS ?_
    clear hK
    refine wpAnyH_done (by kernel_rfl) ?_ _
    have hfin := Lib.hid (hBx.out _ hS)
    clear hS hS3
    go_wp2_with fail
    go_ret
    exact ⟨rfl, hfin.out⟩
end Go.Proofs.YtdjfoabinjfnfaaGreatDoor
