/-
  The walk of the document's Read of messages.
-/
import Derived.Test.YtamcbgkppgdniaaGreatDoorRpE
import Derived.Test.YtamcbgkppgdniaaGreatDoorJsJ
import Derived.Test.YtamcbgkppgdniaaGreatDoorJmo
import Derived.Test.YtamcbgkppgdniaaGreatDoorJsQ
import Derived.Test.YtamcbgkppgdniaaGreatDoorJmu
namespace Go.Proofs.YtamcbgkppgdniaaGreatDoor
open Go.RowKit

/-- The goal is a list of operations, as such: asked before an arm is tried. -/
theorem wpl {P : Program} {ops : Array Oper} {rest : List Oper} {op : Oper} {a : Act} {w : World} {Q : Exit → Act → World → Prop} (h : wpList P ops Q (op :: rest) a w) : wpList P ops Q (op :: rest) a w := h
/-- The goal is a body's end, as such. -/
theorem bpl {P : Program} {f : Func} {Q : Ending → World → Prop} {e : Exit} {a : Act} {w : World} (h : bodyPost P f Q e a w) : bodyPost P f Q e a w := h
theorem refMsgInfo : (Tryz.prog.info? 59).map (·.size) = some 16 := by kernel_rfl
theorem refMsgDesc : ∃ d, Tryz.prog.underlying 59 = some d ∧ d.isRow = true := ⟨_, Tryz.underlying59, rfl⟩
theorem refOwnR_says : OwnSaysS 161 ownL := fun s w hs => (refOwn_any s w hs).mono fun e w' ⟨g, hg, he, hB⟩ => ⟨by
  rw [he, ← hg], hB⟩
theorem refFormR_says : FormSays 107 (jform ownL Lib.validD) := refFormJ_any ownL Lib.validD refOwnR_says refValid_any
/-- What the document's Read leaves: values read out of the envelope. -/
def RReadEnd (M : Msg × Int) (w : World) (e : Ending) (w' : World) : Prop :=
  ∃ x1 x2 p1 p2 r1 r2, e = .returned (.tuple #[msgV M.1 x1 x2 p1 p2 r1 r2, .int .i64 M.2]) ∧
    JV w' (fun b => b < w.heap.size) M.1.id x1 x2 ∧ JV w' (fun b => b < w.heap.size) M.1.params p1 p2 ∧ JV w' (fun b => b < w.heap.size) M.1.result r1 r2 ∧ Below w.heap.size w w'
theorem zeroRRead {w w' : World} {c : Int} (h : Below w.heap.size w w') : RReadEnd (zeroM, c) w (.returned (.tuple #[.agg #[.int .u8 0, .int .u8 0, .string ⟨#[]⟩, .slice none 0 0, .slice none 0 0, .string ⟨#[]⟩, .int .u8 0, .string ⟨#[]⟩, .slice none 0 0, .slice none 0 0, .int .u8 0, .string ⟨#[]⟩, .slice none 0 0, .slice none 0 0, .int .i64 0, .string ⟨#[]⟩], .int .i64 c])) w' :=
  ⟨nilV, nilV, nilV, nilV, nilV, nilV, rfl, zero_jv _ _, zero_jv _ _, zero_jv _ _, h⟩
/-- On the document's Read's way. -/
structure RdR (j : Jsn) (jn jl : Value) (w W : World) : Prop where
  cj : Cel W w.heap.size 25 #[.int .u8 j.kind, .string j.text, jn, jl]
  c2 : Cel W (w.heap.size + 1) 59 #[.int .u8 0, .int .u8 0, .string ⟨#[]⟩, .slice none 0 0, .slice none 0 0, .string ⟨#[]⟩, .int .u8 0, .string ⟨#[]⟩, .slice none 0 0, .slice none 0 0, .int .u8 0, .string ⟨#[]⟩, .slice none 0 0, .slice none 0 0, .int .i64 0, .string ⟨#[]⟩]
  bel : Below w.heap.size w W
  sz : w.heap.size + 2 ≤ W.heap.size
theorem RdR.step {j : Jsn} {jn jl : Value} {w W W' : World} (h : RdR j jn jl w W) (hb : Below W.heap.size W W') : RdR j jn jl w W' :=
  ⟨h.cj.below hb h.cj.lt, h.c2.below hb h.c2.lt, h.bel.trans (hb.mono h.bel.size), Nat.le_trans h.sz hb.size⟩
/-- A box that holds a value read out of what lay ahead. -/
def BoxV (w W : World) (b : Nat) (x : Jsn) (vn vl : Value) : Prop := Cel W b 25 #[.int .u8 x.kind, .string x.text, vn, vl] ∧ JV W (fun b => b < w.heap.size) x vn vl
theorem BoxV.step {w W W' : World} {b : Nat} {x : Jsn} {vn vl : Value} (h : BoxV w W b x vn vl) (hb : Below W.heap.size W W') : BoxV w W' b x vn vl := ⟨h.1.below hb h.1.lt, h.2.later hb⟩
set_option maxRecDepth 20000 in
set_option maxHeartbeats 40000000 in
theorem refRead_any (j : Jsn) (X : Nat → Prop) (w : World) (jn jl : Value) (hV0 : JV w X j jn jl) (hbj : jbulk j ≤ 1000000) :
    Calls Tryz.prog 32 #[jvV j jn jl] w (RReadEnd (jread ownL Lib.validD j) w) := by
  have hJ : JV w (fun b => b < w.heap.size) j jn jl := hV0.more (fun _ _ h => h)
  have hCk := Lib.hid (fun (W : World) (hB : Below w.heap.size w W) => refCheck_any ownL Lib.validD refFormR_says j _ W _ _ (hJ.later hB) hbj)
  have hGet := fun (nm : ByteArray) (W : World) (hB : Below w.heap.size w W) => refGetJ_any j _ W _ _ nm (hJ.later hB) (by omega)
  have hGf := fun (x : Jsn) (xn xl : Value) (nm : ByteArray) (W : World) (hB : Below w.heap.size w W) (hx : JV W (fun b => b < w.heap.size) x xn xl) (hbx : jbulk x ≤ 1000000) => refGetJ_any x _ W _ _ nm hx (by omega)
  have hIs := fun (x : Jsn) (xn xl : Value) (W : World) (hx : JV W (fun b => b < w.heap.size) x xn xl) (hbx : jbulk x ≤ 1000000) => refIsID_any x _ W _ _ hx hbx
  have hWh := fun (x : Jsn) (xn xl : Value) (W : World) (hx : JV W (fun b => b < w.heap.size) x xn xl) (hbx : jbulk x ≤ 1000000) => refWholeJ_any x _ W _ _ hx hbx
  unfold RefGetEnd at hGet hGf
  unfold WholeEnd at hWh
  have hbid := jgd_bulk j kId
  have hbf := jgd_bulk j kErr
  obtain ⟨A1, n1, c1, A2, n2, c2, rfl, rfl⟩ := hJ.forms
  obtain ⟨W0, hW0⟩ : ∃ W0, (w.alloc (.cells #[.int .u8 j.kind, .string j.text, .slice A1 n1 c1, .slice A2 n2 c2] 25)).alloc (.cells #[.int .u8 0, .int .u8 0, .string ⟨#[]⟩, .slice none 0 0, .slice none 0 0, .string ⟨#[]⟩, .int .u8 0, .string ⟨#[]⟩, .slice none 0 0, .slice none 0 0, .int .u8 0, .string ⟨#[]⟩, .slice none 0 0, .slice none 0 0, .int .i64 0, .string ⟨#[]⟩] 59) = W0 := ⟨_, rfl⟩
  have hV : RdR j (.slice A1 n1 c1) (.slice A2 n2 c2) w W0 := by
    rw [← hW0]
    refine ⟨(Cel.fresh w 25 _).alloc _, ?_, ((Below.refl _ _).alloc (Nat.le_refl _) _).alloc (by simp) _, by simp⟩
    have := Cel.fresh (w.alloc (.cells #[.int .u8 j.kind, .string j.text, .slice A1 n1 c1, .slice A2 n2 c2] 25)) 59 #[.int .u8 0, .int .u8 0, .string ⟨#[]⟩, .slice none 0 0, .slice none 0 0, .string ⟨#[]⟩, .int .u8 0, .string ⟨#[]⟩, .slice none 0 0, .slice none 0 0, .int .u8 0, .string ⟨#[]⟩, .slice none 0 0, .slice none 0 0, .int .i64 0, .string ⟨#[]⟩]
    simpa using this
  obtain ⟨R, hR⟩ : ∃ R, jread ownL Lib.validD j = R := ⟨_, rfl⟩
  rw [hR]
  unfold jread at hR
  obtain ⟨ck, hck⟩ : ∃ ck, jcheck ownL Lib.validD j = ck := ⟨_, rfl⟩
  rw [hck] at hR hCk
  clear hck hV0 hJ
  obtain ⟨dm, hdm⟩ := refMsgDesc
  replace hdm := Lib.hid hdm
  replace hW0 := Lib.hid hW0
  replace hGet := Lib.hid hGet
  replace hGf := Lib.hid hGf
  replace hIs := Lib.hid hIs
  replace hWh := Lib.hid hWh
  replace hV := Lib.hid hV
  unfold jvV
  go_enter Tryz.func32, Tryz.ntmps32
  go_upto_region 1 with fail
  rw [hW0.out]
  clear hW0
  obtain ⟨q0, q1, q2, q3⟩ := hV.out.cj.c4
  go_wp2_with fail
  refine (hCk.out _ hV.out.bel).mono ?_
  rintro e w1 ⟨rfl, hb⟩
  replace hV := Lib.hid (hV.out.step hb)
  clear q0 q1 q2 q3 hb hCk
  by_cases hc0 : ck = 0
  · subst hc0
    rw [if_neg (by simp)] at hR
    replace hR := Lib.hid hR

    obtain ⟨q0, q1, q2, q3⟩ := hV.out.cj.c4
    go_upto_region 4 with fail
    go_wp2_with fail
    refine (hGet.out kVer _ hV.out.bel).mono ?_
    rintro e uv ⟨vn, vl, rfl, hJv, hbv⟩
    obtain ⟨v, hv⟩ : ∃ x, (jget j kVer).getD zeroJ = x := ⟨_, rfl⟩
    obtain ⟨hasv, hhv⟩ : ∃ x, (jget j kVer).isSome = x := ⟨_, rfl⟩
    rw [hv] at hJv
    rw [hv, hhv]
    have hgv := Lib.hid (show jgd j kVer = v from hv)
    have hsv := Lib.hid (show jgs j kVer = hasv from hhv)
    obtain ⟨vA, va, vb, vB, vc, vd, rfl, rfl⟩ := hJv.forms
    obtain ⟨Wv, hWv⟩ : ∃ W, uv.alloc (.cells #[.int .u8 v.kind, .string v.text, .slice vA va vb, .slice vB vc vd] 25) = W := ⟨_, rfl⟩
    have hxv : Below uv.heap.size uv Wv := by rw [← hWv]; exact (Below.refl _ _).alloc (Nat.le_refl _) _
    have hyv := hbv.trans (hxv.mono hbv.size)
    have hBv : BoxV w Wv uv.heap.size v (.slice vA va vb) (.slice vB vc vd) := ⟨by rw [← hWv]; exact Cel.fresh _ _ _, hJv.below (hxv.mono (Nat.le_trans hV.out.bel.size hbv.size)) (fun _ h _ => h)⟩
    replace hV := Lib.hid (hV.out.step hyv)
    replace hBv := Lib.hid hBv
    replace hWv := Lib.hid hWv
    clear q0 q1 q2 q3 hbv hxv hyv hJv hv hhv
    go_upto_region 5 with fail
    rw [hWv.out]
    clear hWv

    obtain ⟨q0, q1, q2, q3⟩ := hV.out.cj.c4
    go_upto_region 5 with fail
    go_wp2_with fail
    refine (hGet.out kId _ hV.out.bel).mono ?_
    rintro e uid ⟨idn, idl, rfl, hJid, hbid⟩
    obtain ⟨id, hid⟩ : ∃ x, (jget j kId).getD zeroJ = x := ⟨_, rfl⟩
    obtain ⟨hasid, hhid⟩ : ∃ x, (jget j kId).isSome = x := ⟨_, rfl⟩
    rw [hid] at hJid
    rw [hid, hhid]
    have hgid := Lib.hid (show jgd j kId = id from hid)
    have hsid := Lib.hid (show jgs j kId = hasid from hhid)
    obtain ⟨idA, ida, idb, idB, idc, idd, rfl, rfl⟩ := hJid.forms
    obtain ⟨Wid, hWid⟩ : ∃ W, uid.alloc (.cells #[.int .u8 id.kind, .string id.text, .slice idA ida idb, .slice idB idc idd] 25) = W := ⟨_, rfl⟩
    have hxid : Below uid.heap.size uid Wid := by rw [← hWid]; exact (Below.refl _ _).alloc (Nat.le_refl _) _
    have hyid := hbid.trans (hxid.mono hbid.size)
    have hBid : BoxV w Wid uid.heap.size id (.slice idA ida idb) (.slice idB idc idd) := ⟨by rw [← hWid]; exact Cel.fresh _ _ _, hJid.below (hxid.mono (Nat.le_trans hV.out.bel.size hbid.size)) (fun _ h _ => h)⟩
    replace hV := Lib.hid (hV.out.step hyid)
    replace hBv := Lib.hid (hBv.out.step hyid)
    replace hBid := Lib.hid hBid
    replace hWid := Lib.hid hWid
    clear q0 q1 q2 q3 hbid hxid hyid hJid hid hhid
    go_upto_region 6 with fail
    rw [hWid.out]
    clear hWid

    obtain ⟨q0, q1, q2, q3⟩ := hV.out.cj.c4
    go_upto_region 6 with fail
    go_wp2_with fail
    refine (hGet.out kMeth _ hV.out.bel).mono ?_
    rintro e um ⟨mn, ml, rfl, hJm, hbm⟩
    obtain ⟨m, hm⟩ : ∃ x, (jget j kMeth).getD zeroJ = x := ⟨_, rfl⟩
    obtain ⟨hasm, hhm⟩ : ∃ x, (jget j kMeth).isSome = x := ⟨_, rfl⟩
    rw [hm] at hJm
    rw [hm, hhm]
    have hgm := Lib.hid (show jgd j kMeth = m from hm)
    have hsm := Lib.hid (show jgs j kMeth = hasm from hhm)
    obtain ⟨mA, ma, mb, mB, mc, md, rfl, rfl⟩ := hJm.forms
    obtain ⟨Wm, hWm⟩ : ∃ W, um.alloc (.cells #[.int .u8 m.kind, .string m.text, .slice mA ma mb, .slice mB mc md] 25) = W := ⟨_, rfl⟩
    have hxm : Below um.heap.size um Wm := by rw [← hWm]; exact (Below.refl _ _).alloc (Nat.le_refl _) _
    have hym := hbm.trans (hxm.mono hbm.size)
    have hBm : BoxV w Wm um.heap.size m (.slice mA ma mb) (.slice mB mc md) := ⟨by rw [← hWm]; exact Cel.fresh _ _ _, hJm.below (hxm.mono (Nat.le_trans hV.out.bel.size hbm.size)) (fun _ h _ => h)⟩
    replace hV := Lib.hid (hV.out.step hym)
    replace hBv := Lib.hid (hBv.out.step hym)
    replace hBid := Lib.hid (hBid.out.step hym)
    replace hBm := Lib.hid hBm
    replace hWm := Lib.hid hWm
    clear q0 q1 q2 q3 hbm hxm hym hJm hm hhm
    go_upto_region 7 with fail
    rw [hWm.out]
    clear hWm

    obtain ⟨q0, q1, q2, q3⟩ := hV.out.cj.c4
    go_upto_region 7 with fail
    go_wp2_with fail
    refine (hGet.out kPar _ hV.out.bel).mono ?_
    rintro e up ⟨pn, pl, rfl, hJp, hbp⟩
    obtain ⟨p, hp⟩ : ∃ x, (jget j kPar).getD zeroJ = x := ⟨_, rfl⟩
    obtain ⟨hasp, hhp⟩ : ∃ x, (jget j kPar).isSome = x := ⟨_, rfl⟩
    rw [hp] at hJp
    rw [hp, hhp]
    have hgp := Lib.hid (show jgd j kPar = p from hp)
    have hsp := Lib.hid (show jgs j kPar = hasp from hhp)
    obtain ⟨pA, pa, pb, pB, pc, pd, rfl, rfl⟩ := hJp.forms
    obtain ⟨Wp, hWp⟩ : ∃ W, up.alloc (.cells #[.int .u8 p.kind, .string p.text, .slice pA pa pb, .slice pB pc pd] 25) = W := ⟨_, rfl⟩
    have hxp : Below up.heap.size up Wp := by rw [← hWp]; exact (Below.refl _ _).alloc (Nat.le_refl _) _
    have hyp := hbp.trans (hxp.mono hbp.size)
    have hBp : BoxV w Wp up.heap.size p (.slice pA pa pb) (.slice pB pc pd) := ⟨by rw [← hWp]; exact Cel.fresh _ _ _, hJp.below (hxp.mono (Nat.le_trans hV.out.bel.size hbp.size)) (fun _ h _ => h)⟩
    replace hV := Lib.hid (hV.out.step hyp)
    replace hBv := Lib.hid (hBv.out.step hyp)
    replace hBid := Lib.hid (hBid.out.step hyp)
    replace hBm := Lib.hid (hBm.out.step hyp)
    replace hBp := Lib.hid hBp
    replace hWp := Lib.hid hWp
    clear q0 q1 q2 q3 hbp hxp hyp hJp hp hhp
    go_upto_region 8 with fail
    rw [hWp.out]
    clear hWp

    obtain ⟨q0, q1, q2, q3⟩ := hV.out.cj.c4
    go_upto_region 8 with fail
    go_wp2_with fail
    refine (hGet.out kRes _ hV.out.bel).mono ?_
    rintro e ur ⟨rn, rl, rfl, hJr, hbr⟩
    obtain ⟨r, hr⟩ : ∃ x, (jget j kRes).getD zeroJ = x := ⟨_, rfl⟩
    obtain ⟨hasr, hhr⟩ : ∃ x, (jget j kRes).isSome = x := ⟨_, rfl⟩
    rw [hr] at hJr
    rw [hr, hhr]
    have hgr := Lib.hid (show jgd j kRes = r from hr)
    have hsr := Lib.hid (show jgs j kRes = hasr from hhr)
    obtain ⟨rA, ra, rb, rB, rc, rd, rfl, rfl⟩ := hJr.forms
    obtain ⟨Wr, hWr⟩ : ∃ W, ur.alloc (.cells #[.int .u8 r.kind, .string r.text, .slice rA ra rb, .slice rB rc rd] 25) = W := ⟨_, rfl⟩
    have hxr : Below ur.heap.size ur Wr := by rw [← hWr]; exact (Below.refl _ _).alloc (Nat.le_refl _) _
    have hyr := hbr.trans (hxr.mono hbr.size)
    have hBr : BoxV w Wr ur.heap.size r (.slice rA ra rb) (.slice rB rc rd) := ⟨by rw [← hWr]; exact Cel.fresh _ _ _, hJr.below (hxr.mono (Nat.le_trans hV.out.bel.size hbr.size)) (fun _ h _ => h)⟩
    replace hV := Lib.hid (hV.out.step hyr)
    replace hBv := Lib.hid (hBv.out.step hyr)
    replace hBid := Lib.hid (hBid.out.step hyr)
    replace hBm := Lib.hid (hBm.out.step hyr)
    replace hBp := Lib.hid (hBp.out.step hyr)
    replace hBr := Lib.hid hBr
    replace hWr := Lib.hid hWr
    clear q0 q1 q2 q3 hbr hxr hyr hJr hr hhr
    go_upto_region 9 with fail
    rw [hWr.out]
    clear hWr

    obtain ⟨q0, q1, q2, q3⟩ := hV.out.cj.c4
    go_upto_region 9 with fail
    go_wp2_with fail
    refine (hGet.out kErr _ hV.out.bel).mono ?_
    rintro e uf ⟨fn, fl, rfl, hJf, hbf⟩
    obtain ⟨f, hf⟩ : ∃ x, (jget j kErr).getD zeroJ = x := ⟨_, rfl⟩
    obtain ⟨hasf, hhf⟩ : ∃ x, (jget j kErr).isSome = x := ⟨_, rfl⟩
    rw [hf] at hJf
    rw [hf, hhf]
    have hgf := Lib.hid (show jgd j kErr = f from hf)
    have hsf := Lib.hid (show jgs j kErr = hasf from hhf)
    obtain ⟨fA, fa, fb, fB, fc, fd, rfl, rfl⟩ := hJf.forms
    obtain ⟨Wf, hWf⟩ : ∃ W, uf.alloc (.cells #[.int .u8 f.kind, .string f.text, .slice fA fa fb, .slice fB fc fd] 25) = W := ⟨_, rfl⟩
    have hxf : Below uf.heap.size uf Wf := by rw [← hWf]; exact (Below.refl _ _).alloc (Nat.le_refl _) _
    have hyf := hbf.trans (hxf.mono hbf.size)
    have hBf : BoxV w Wf uf.heap.size f (.slice fA fa fb) (.slice fB fc fd) := ⟨by rw [← hWf]; exact Cel.fresh _ _ _, hJf.below (hxf.mono (Nat.le_trans hV.out.bel.size hbf.size)) (fun _ h _ => h)⟩
    replace hV := Lib.hid (hV.out.step hyf)
    replace hBv := Lib.hid (hBv.out.step hyf)
    replace hBid := Lib.hid (hBid.out.step hyf)
    replace hBm := Lib.hid (hBm.out.step hyf)
    replace hBp := Lib.hid (hBp.out.step hyf)
    replace hBr := Lib.hid (hBr.out.step hyf)
    replace hBf := Lib.hid hBf
    replace hWf := Lib.hid hWf
    clear q0 q1 q2 q3 hbf hxf hyf hJf hf hhf
    go_upto_region 10 with fail
    rw [hWf.out]
    clear hWf

    rw [hgid.out] at hbid
    rw [hgf.out] at hbf
    replace hR := hR.out
    rw [hgv.out, hsv.out, hsm.out, hgid.out, hgm.out, hgp.out, hsid.out, hsp.out, hgr.out, hgf.out, hsr.out, hsf.out] at hR
    replace hR := Lib.hid hR
    have hidz : hasid = false → id = zeroJ := fun h => by
      rw [← hgid.out, jgd]
      have h2 := hsid.out
      rw [jgs] at h2
      rcases hk : jget j kId with _ | x
      · rfl
      · rw [hk, h] at h2; cases h2
    replace hidz := Lib.hid hidz
    clear hgv hsv hsm hgid hgm hgp hsp hgr hsr hsf hgf hGet hsid
    cases hasv
    · have hRe : R = (zeroM, 73) := by rw [← hR.out]; exact if_pos (Or.inl (by first | trivial | rfl))
      replace hRe := Lib.hid hRe
      go_upto_region 11 with fail
      go_wp2_with (first | ((with_reducible refine wpl ?_); refine wpList_store_cel rfl 59 (.tmp 2) (.tmp 71) (by rfl) (w.heap.size + 1) 0 #[.int .u8 0, .int .u8 0, .string ⟨#[]⟩, .slice none 0 0, .slice none 0 0, .string ⟨#[]⟩, .int .u8 0, .string ⟨#[]⟩, .slice none 0 0, .slice none 0 0, .int .u8 0, .string ⟨#[]⟩, .slice none 0 0, .slice none 0 0, .int .i64 0, .string ⟨#[]⟩] _ #[.int .u8 0, .int .u8 0, .string ⟨#[]⟩, .slice none 0 0, .slice none 0 0, .string ⟨#[]⟩, .int .u8 0, .string ⟨#[]⟩, .slice none 0 0, .slice none 0 0, .int .u8 0, .string ⟨#[]⟩, .slice none 0 0, .slice none 0 0, .int .i64 0, .string ⟨#[]⟩] 59 (by rfl) (by rfl) hV.out.c2 (Nat.le_refl 16) (putA_whole _ _ rfl) refMsgInfo (by first | (simp; done) | (simp [Value.oneCell']; done)) ?_; intro w9 hF hA9; replace hF := Lib.hid hF; replace hA9 := Lib.hid hA9) | ((with_reducible refine bpl ?_); refine bodyPost_ret (results_cel2 Tryz.results32 _ _ _ _ _ dm rfl hF.out hdm.out.1 hdm.out.2 refMsgInfo) rfl ?_; rw [hRe.out]; exact zeroRRead (hV.out.bel.trans (hA9.out.1 _ (by omega)))))
    · by_cases hk5 : v.kind = 5
      · have hk5' : (v.kind != 5) = false := by simp [hk5]
        by_cases ht : v.text = ⟨#[50, 46, 48]⟩
        · have htl : (v.text.toList == [50, 46, 48]) = true := by rw [ht, Lib.toList_data]; rfl
          replace hR := hR.out
          rw [if_neg (by rintro (h | h | h) <;> first | exact h hk5 | exact h ht | cases h)] at hR
          replace hR := Lib.hid hR
          replace ht := Lib.hid ht
          replace hk5 := Lib.hid hk5
          obtain ⟨v0, v1, v2, v3⟩ := hBv.out.1.c4
          go_upto_region 12 with fail
          clear v0 v1 v2 v3 htl hk5'
          cases hasm
          · replace hR := hR.out
            rw [if_neg (by decide)] at hR
            replace hR := Lib.hid hR
            clear hBv hBm hBp hidz
            cases hasid
            · have hRe : R = (zeroM, 73) := by rw [← hR.out]; simp [janswers]
              replace hRe := Lib.hid hRe
              go_upto_region 19 with fail
              go_wp2_with (first | ((with_reducible refine wpl ?_); refine wpList_store_cel rfl 59 (.tmp 2) (.tmp 115) (by rfl) (w.heap.size + 1) 0 #[.int .u8 0, .int .u8 0, .string ⟨#[]⟩, .slice none 0 0, .slice none 0 0, .string ⟨#[]⟩, .int .u8 0, .string ⟨#[]⟩, .slice none 0 0, .slice none 0 0, .int .u8 0, .string ⟨#[]⟩, .slice none 0 0, .slice none 0 0, .int .i64 0, .string ⟨#[]⟩] _ #[.int .u8 0, .int .u8 0, .string ⟨#[]⟩, .slice none 0 0, .slice none 0 0, .string ⟨#[]⟩, .int .u8 0, .string ⟨#[]⟩, .slice none 0 0, .slice none 0 0, .int .u8 0, .string ⟨#[]⟩, .slice none 0 0, .slice none 0 0, .int .i64 0, .string ⟨#[]⟩] 59 (by rfl) (by rfl) hV.out.c2 (Nat.le_refl 16) (putA_whole _ _ rfl) refMsgInfo (by first | (simp; done) | (simp [Value.oneCell']; done)) ?_; intro w9 hF hA9; replace hF := Lib.hid hF; replace hA9 := Lib.hid hA9) | ((with_reducible refine bpl ?_); refine bodyPost_ret (results_cel2 Tryz.results32 _ _ _ _ _ dm rfl hF.out hdm.out.1 hdm.out.2 refMsgInfo) rfl ?_; rw [hRe.out]; exact zeroRRead (hV.out.bel.trans (hA9.out.1 _ (by omega)))))
            · by_cases hrf : hasr = hasf
              · have hrf' : (hasr == hasf) = true := by simp [hrf]
                replace hrf := Lib.hid hrf

                have hRe : R = (zeroM, 73) := by rw [← hR.out]; simp [janswers, hrf.out]
                replace hRe := Lib.hid hRe
                go_upto_region 19 with fail
                go_wp2_with (first | ((with_reducible refine wpl ?_); refine wpList_store_cel rfl 59 (.tmp 2) (.tmp 115) (by rfl) (w.heap.size + 1) 0 #[.int .u8 0, .int .u8 0, .string ⟨#[]⟩, .slice none 0 0, .slice none 0 0, .string ⟨#[]⟩, .int .u8 0, .string ⟨#[]⟩, .slice none 0 0, .slice none 0 0, .int .u8 0, .string ⟨#[]⟩, .slice none 0 0, .slice none 0 0, .int .i64 0, .string ⟨#[]⟩] _ #[.int .u8 0, .int .u8 0, .string ⟨#[]⟩, .slice none 0 0, .slice none 0 0, .string ⟨#[]⟩, .int .u8 0, .string ⟨#[]⟩, .slice none 0 0, .slice none 0 0, .int .u8 0, .string ⟨#[]⟩, .slice none 0 0, .slice none 0 0, .int .i64 0, .string ⟨#[]⟩] 59 (by rfl) (by rfl) hV.out.c2 (Nat.le_refl 16) (putA_whole _ _ rfl) refMsgInfo (by first | (simp; done) | (simp [Value.oneCell']; done)) ?_; intro w9 hF hA9; replace hF := Lib.hid hF; replace hA9 := Lib.hid hA9) | ((with_reducible refine bpl ?_); refine bodyPost_ret (results_cel2 Tryz.results32 _ _ _ _ _ dm rfl hF.out hdm.out.1 hdm.out.2 refMsgInfo) rfl ?_; rw [hRe.out]; exact zeroRRead (hV.out.bel.trans (hA9.out.1 _ (by omega)))))
              · cases hasr
                · cases hasf
                  · exact absurd rfl hrf
                  · clear hrf hBr

                    obtain ⟨f0, f1, f2, f3⟩ := hBf.out.1.c4
                    go_upto_region 24 with fail
                    go_wp2_with fail
                    refine (hGf.out f _ _ kCode _ hV.out.bel hBf.out.2 (by omega)).mono ?_
                    rintro e uc ⟨cn, cl, rfl, hJc, hbc⟩
                    obtain ⟨c, hc⟩ : ∃ x, (jget f kCode).getD zeroJ = x := ⟨_, rfl⟩
                    obtain ⟨hasc, hhc⟩ : ∃ x, (jget f kCode).isSome = x := ⟨_, rfl⟩
                    rw [hc] at hJc
                    rw [hc, hhc]
                    have hgc := Lib.hid (show jgd f kCode = c from hc)
                    have hsc := Lib.hid (show jgs f kCode = hasc from hhc)
                    obtain ⟨cA, ca, cb, cB, cc, cd, rfl, rfl⟩ := hJc.forms
                    obtain ⟨Wc, hWc⟩ : ∃ W, uc.alloc (.cells #[.int .u8 c.kind, .string c.text, .slice cA ca cb, .slice cB cc cd] 25) = W := ⟨_, rfl⟩
                    have hxc : Below uc.heap.size uc Wc := by rw [← hWc]; exact (Below.refl _ _).alloc (Nat.le_refl _) _
                    have hyc := hbc.trans (hxc.mono hbc.size)
                    have hBc : BoxV w Wc uc.heap.size c (.slice cA ca cb) (.slice cB cc cd) := ⟨by rw [← hWc]; exact Cel.fresh _ _ _, hJc.below (hxc.mono (Nat.le_trans hV.out.bel.size hbc.size)) (fun _ h _ => h)⟩
                    replace hV := Lib.hid (hV.out.step hyc)
                    replace hBid := Lib.hid (hBid.out.step hyc)
                    replace hBf := Lib.hid (hBf.out.step hyc)
                    replace hBc := Lib.hid hBc
                    replace hWc := Lib.hid hWc
                    clear f0 f1 f2 f3 hbc hxc hyc hJc hc hhc
                    go_upto_region 25 with fail
                    rw [hWc.out]
                    clear hWc

                    obtain ⟨f0, f1, f2, f3⟩ := hBf.out.1.c4
                    go_upto_region 25 with fail
                    go_wp2_with fail
                    refine (hGf.out f _ _ kMsg _ hV.out.bel hBf.out.2 (by omega)).mono ?_
                    rintro e ut ⟨tn, tl, rfl, hJt, hbt⟩
                    obtain ⟨t, ht⟩ : ∃ x, (jget f kMsg).getD zeroJ = x := ⟨_, rfl⟩
                    obtain ⟨hast, hht⟩ : ∃ x, (jget f kMsg).isSome = x := ⟨_, rfl⟩
                    rw [ht] at hJt
                    rw [ht, hht]
                    have hgt := Lib.hid (show jgd f kMsg = t from ht)
                    have hst := Lib.hid (show jgs f kMsg = hast from hht)
                    obtain ⟨tA, ta, tb, tB, tc, td, rfl, rfl⟩ := hJt.forms
                    obtain ⟨Wt, hWt⟩ : ∃ W, ut.alloc (.cells #[.int .u8 t.kind, .string t.text, .slice tA ta tb, .slice tB tc td] 25) = W := ⟨_, rfl⟩
                    have hxt : Below ut.heap.size ut Wt := by rw [← hWt]; exact (Below.refl _ _).alloc (Nat.le_refl _) _
                    have hyt := hbt.trans (hxt.mono hbt.size)
                    have hBt : BoxV w Wt ut.heap.size t (.slice tA ta tb) (.slice tB tc td) := ⟨by rw [← hWt]; exact Cel.fresh _ _ _, hJt.below (hxt.mono (Nat.le_trans hV.out.bel.size hbt.size)) (fun _ h _ => h)⟩
                    replace hV := Lib.hid (hV.out.step hyt)
                    replace hBid := Lib.hid (hBid.out.step hyt)
                    replace hBf := Lib.hid (hBf.out.step hyt)
                    replace hBc := Lib.hid (hBc.out.step hyt)
                    replace hBt := Lib.hid hBt
                    replace hWt := Lib.hid hWt
                    clear f0 f1 f2 f3 hbt hxt hyt hJt ht hht
                    go_upto_region 26 with fail
                    rw [hWt.out]
                    clear hWt

                    have hbc := jgd_bulk f kCode
                    rw [hgc.out] at hbc
                    obtain ⟨n, hn⟩ : ∃ n, (jwhole c).1 = n := ⟨_, rfl⟩
                    obtain ⟨isw, hi⟩ : ∃ isw, (jwhole c).2 = isw := ⟨_, rfl⟩
                    have hcz : hasc = false → isw = false := fun h => by
                      have h1 : c = zeroJ := by
                        rw [← hgc.out, jgd]
                        have h2 := hsc.out
                        rw [jgs] at h2
                        rcases hk : jget f kCode with _ | x
                        · rfl
                        · rw [hk, h] at h2; cases h2
                      rw [← hi, h1]; rfl
                    have hMf : (if hast = false ∨ isw = false ∨ t.kind ≠ 5 ∨ (jisid id = false ∧ id.kind ≠ 1) then (zeroM, (73 : Int)) else (⟨4, id, ⟨#[]⟩, zeroJ, zeroJ, n, t.text⟩, 0)) = R := by
                      have h0 := hR.out
                      rw [hgc.out, hgt.out, hst.out] at h0
                      unfold janswers at h0
                      rw [hn, hi] at h0
                      simpa using h0
                    replace hMf := Lib.hid hMf
                    replace hcz := Lib.hid hcz
                    obtain ⟨c0, c1, c2, c3⟩ := hBc.out.1.c4
                    go_wp2_with fail
                    refine (hWh.out c _ _ _ hBc.out.2 (by omega)).mono ?_
                    rintro e ww ⟨rfl, hbw⟩
                    replace hV := Lib.hid (hV.out.step hbw)
                    replace hBid := Lib.hid (hBid.out.step hbw)
                    replace hBf := Lib.hid (hBf.out.step hbw)
                    replace hBc := Lib.hid (hBc.out.step hbw)
                    replace hBt := Lib.hid (hBt.out.step hbw)
                    rw [hn, hi]
                    clear c0 c1 c2 c3 hbw hn hi hgc hsc hgt hst hR
                    cases hasc
                    · have hRe : R = (zeroM, 73) := by rw [← hMf.out]; exact if_pos (Or.inr (Or.inl (hcz.out (by first | rfl | trivial))))
                      replace hRe := Lib.hid hRe
                      go_upto_region 28 with fail
                      go_wp2_with (first | ((with_reducible refine wpl ?_); refine wpList_store_cel rfl 59 (.tmp 2) (.tmp 164) (by rfl) (w.heap.size + 1) 0 #[.int .u8 0, .int .u8 0, .string ⟨#[]⟩, .slice none 0 0, .slice none 0 0, .string ⟨#[]⟩, .int .u8 0, .string ⟨#[]⟩, .slice none 0 0, .slice none 0 0, .int .u8 0, .string ⟨#[]⟩, .slice none 0 0, .slice none 0 0, .int .i64 0, .string ⟨#[]⟩] _ #[.int .u8 0, .int .u8 0, .string ⟨#[]⟩, .slice none 0 0, .slice none 0 0, .string ⟨#[]⟩, .int .u8 0, .string ⟨#[]⟩, .slice none 0 0, .slice none 0 0, .int .u8 0, .string ⟨#[]⟩, .slice none 0 0, .slice none 0 0, .int .i64 0, .string ⟨#[]⟩] 59 (by rfl) (by rfl) hV.out.c2 (Nat.le_refl 16) (putA_whole _ _ rfl) refMsgInfo (by first | (simp; done) | (simp [Value.oneCell']; done)) ?_; intro w9 hF hA9; replace hF := Lib.hid hF; replace hA9 := Lib.hid hA9) | ((with_reducible refine bpl ?_); refine bodyPost_ret (results_cel2 Tryz.results32 _ _ _ _ _ dm rfl hF.out hdm.out.1 hdm.out.2 refMsgInfo) rfl ?_; rw [hRe.out]; exact zeroRRead (hV.out.bel.trans (hA9.out.1 _ (by omega)))))
                    · clear hcz
                      cases hast
                      · have hRe : R = (zeroM, 73) := by rw [← hMf.out]; exact if_pos (Or.inl (by first | trivial | rfl))
                        replace hRe := Lib.hid hRe
                        go_upto_region 28 with fail
                        go_wp2_with (first | ((with_reducible refine wpl ?_); refine wpList_store_cel rfl 59 (.tmp 2) (.tmp 164) (by rfl) (w.heap.size + 1) 0 #[.int .u8 0, .int .u8 0, .string ⟨#[]⟩, .slice none 0 0, .slice none 0 0, .string ⟨#[]⟩, .int .u8 0, .string ⟨#[]⟩, .slice none 0 0, .slice none 0 0, .int .u8 0, .string ⟨#[]⟩, .slice none 0 0, .slice none 0 0, .int .i64 0, .string ⟨#[]⟩] _ #[.int .u8 0, .int .u8 0, .string ⟨#[]⟩, .slice none 0 0, .slice none 0 0, .string ⟨#[]⟩, .int .u8 0, .string ⟨#[]⟩, .slice none 0 0, .slice none 0 0, .int .u8 0, .string ⟨#[]⟩, .slice none 0 0, .slice none 0 0, .int .i64 0, .string ⟨#[]⟩] 59 (by rfl) (by rfl) hV.out.c2 (Nat.le_refl 16) (putA_whole _ _ rfl) refMsgInfo (by first | (simp; done) | (simp [Value.oneCell']; done)) ?_; intro w9 hF hA9; replace hF := Lib.hid hF; replace hA9 := Lib.hid hA9) | ((with_reducible refine bpl ?_); refine bodyPost_ret (results_cel2 Tryz.results32 _ _ _ _ _ dm rfl hF.out hdm.out.1 hdm.out.2 refMsgInfo) rfl ?_; rw [hRe.out]; exact zeroRRead (hV.out.bel.trans (hA9.out.1 _ (by omega)))))
                      · cases isw
                        · have hRe : R = (zeroM, 73) := by rw [← hMf.out]; exact if_pos (Or.inr (Or.inl (by first | trivial | rfl)))
                          replace hRe := Lib.hid hRe
                          go_upto_region 28 with fail
                          go_wp2_with (first | ((with_reducible refine wpl ?_); refine wpList_store_cel rfl 59 (.tmp 2) (.tmp 164) (by rfl) (w.heap.size + 1) 0 #[.int .u8 0, .int .u8 0, .string ⟨#[]⟩, .slice none 0 0, .slice none 0 0, .string ⟨#[]⟩, .int .u8 0, .string ⟨#[]⟩, .slice none 0 0, .slice none 0 0, .int .u8 0, .string ⟨#[]⟩, .slice none 0 0, .slice none 0 0, .int .i64 0, .string ⟨#[]⟩] _ #[.int .u8 0, .int .u8 0, .string ⟨#[]⟩, .slice none 0 0, .slice none 0 0, .string ⟨#[]⟩, .int .u8 0, .string ⟨#[]⟩, .slice none 0 0, .slice none 0 0, .int .u8 0, .string ⟨#[]⟩, .slice none 0 0, .slice none 0 0, .int .i64 0, .string ⟨#[]⟩] 59 (by rfl) (by rfl) hV.out.c2 (Nat.le_refl 16) (putA_whole _ _ rfl) refMsgInfo (by first | (simp; done) | (simp [Value.oneCell']; done)) ?_; intro w9 hF hA9; replace hF := Lib.hid hF; replace hA9 := Lib.hid hA9) | ((with_reducible refine bpl ?_); refine bodyPost_ret (results_cel2 Tryz.results32 _ _ _ _ _ dm rfl hF.out hdm.out.1 hdm.out.2 refMsgInfo) rfl ?_; rw [hRe.out]; exact zeroRRead (hV.out.bel.trans (hA9.out.1 _ (by omega)))))
                        · by_cases htk : t.kind = 5
                          · have htk' : (t.kind != 5) = false := by simp [htk]
                            replace htk := Lib.hid htk
                            obtain ⟨t0, t1, t2, t3⟩ := hBt.out.1.c4

                            obtain ⟨id0, id1, id2, id3⟩ := hBid.out.1.c4

                            go_wp2_with fail
                            refine (hIs.out id _ _ _ hBid.out.2 (by omega)).mono ?_
                            rintro e wi ⟨rfl, hbi⟩
                            replace hV := Lib.hid (hV.out.step hbi)
                            replace hBid := Lib.hid (hBid.out.step hbi)
                            replace hBf := Lib.hid (hBf.out.step hbi)
                            replace hBc := Lib.hid (hBc.out.step hbi)
                            replace hBt := Lib.hid (hBt.out.step hbi)
                            clear id0 id1 id2 id3 hbi
                            obtain ⟨ii, hii⟩ : ∃ ii, jisid id = ii := ⟨_, rfl⟩
                            rw [hii]
                            replace hii := Lib.hid hii
                            clear t0 t1 t2 t3
                            cases ii
                            · by_cases hi1 : id.kind = 1
                              · have hi1' : (id.kind != 1) = false := by simp [hi1]
                                replace hi1 := Lib.hid hi1

                                have hRe : R = (⟨4, id, ⟨#[]⟩, zeroJ, zeroJ, n, t.text⟩, 0) := by
                                  rw [← hMf.out, if_neg]
                                  rintro (h | h | h | ⟨_, h⟩)
                                  · first | exact h | cases h
                                  · first | exact h | cases h
                                  · exact h htk.out
                                  · exact h hi1.out
                                replace hRe := Lib.hid hRe
                                obtain ⟨id0, id1, id2, id3⟩ := hBid.out.1.c4
                                obtain ⟨t0, t1, t2, t3⟩ := hBt.out.1.c4
                                go_upto_region 29 with fail
                                go_wp2_with (first | ((with_reducible refine wpl ?_); refine wpList_store_cel rfl 59 (.tmp 2) (.tmp 169) (by rfl) (w.heap.size + 1) 0 #[.int .u8 4, .int .u8 id.kind, .string id.text, .slice idA ida idb, .slice idB idc idd, .string ⟨#[]⟩, .int .u8 0, .string ⟨#[]⟩, .slice none 0 0, .slice none 0 0, .int .u8 0, .string ⟨#[]⟩, .slice none 0 0, .slice none 0 0, .int .i64 n, .string t.text] _ #[.int .u8 4, .int .u8 id.kind, .string id.text, .slice idA ida idb, .slice idB idc idd, .string ⟨#[]⟩, .int .u8 0, .string ⟨#[]⟩, .slice none 0 0, .slice none 0 0, .int .u8 0, .string ⟨#[]⟩, .slice none 0 0, .slice none 0 0, .int .i64 n, .string t.text] 59 (by rfl) (by rfl) hV.out.c2 (Nat.le_refl 16) (putA_whole _ _ rfl) refMsgInfo (by first | (simp; done) | (simp [Value.oneCell']; done)) ?_; intro w9 hF hA9; replace hF := Lib.hid hF; replace hA9 := Lib.hid hA9) | ((with_reducible refine bpl ?_); refine bodyPost_ret (results_cel2 Tryz.results32 _ _ _ _ _ dm rfl hF.out hdm.out.1 hdm.out.2 refMsgInfo) rfl ?_; rw [hRe.out]; exact ⟨.slice idA ida idb, .slice idB idc idd, nilV, nilV, nilV, nilV, rfl, (hBid.out.2.below (hA9.out.1 w.heap.size (by omega)) (fun _ h _ => h)), zero_jv _ _, zero_jv _ _, hV.out.bel.trans (hA9.out.1 _ (by omega))⟩))
                              · have hi1' : (id.kind != 1) = true := by simp [hi1]
                                replace hi1 := Lib.hid hi1
                                obtain ⟨id0, id1, id2, id3⟩ := hBid.out.1.c4

                                have hRe : R = (zeroM, 73) := by rw [← hMf.out]; exact if_pos (Or.inr (Or.inr (Or.inr ⟨hii.out, hi1.out⟩)))
                                replace hRe := Lib.hid hRe
                                go_upto_region 28 with fail
                                go_wp2_with (first | ((with_reducible refine wpl ?_); refine wpList_store_cel rfl 59 (.tmp 2) (.tmp 164) (by rfl) (w.heap.size + 1) 0 #[.int .u8 0, .int .u8 0, .string ⟨#[]⟩, .slice none 0 0, .slice none 0 0, .string ⟨#[]⟩, .int .u8 0, .string ⟨#[]⟩, .slice none 0 0, .slice none 0 0, .int .u8 0, .string ⟨#[]⟩, .slice none 0 0, .slice none 0 0, .int .i64 0, .string ⟨#[]⟩] _ #[.int .u8 0, .int .u8 0, .string ⟨#[]⟩, .slice none 0 0, .slice none 0 0, .string ⟨#[]⟩, .int .u8 0, .string ⟨#[]⟩, .slice none 0 0, .slice none 0 0, .int .u8 0, .string ⟨#[]⟩, .slice none 0 0, .slice none 0 0, .int .i64 0, .string ⟨#[]⟩] 59 (by rfl) (by rfl) hV.out.c2 (Nat.le_refl 16) (putA_whole _ _ rfl) refMsgInfo (by first | (simp; done) | (simp [Value.oneCell']; done)) ?_; intro w9 hF hA9; replace hF := Lib.hid hF; replace hA9 := Lib.hid hA9) | ((with_reducible refine bpl ?_); refine bodyPost_ret (results_cel2 Tryz.results32 _ _ _ _ _ dm rfl hF.out hdm.out.1 hdm.out.2 refMsgInfo) rfl ?_; rw [hRe.out]; exact zeroRRead (hV.out.bel.trans (hA9.out.1 _ (by omega)))))
                            · have hRe : R = (⟨4, id, ⟨#[]⟩, zeroJ, zeroJ, n, t.text⟩, 0) := by
                                rw [← hMf.out, if_neg]
                                rintro (h | h | h | ⟨h, _⟩)
                                · first | exact h | cases h
                                · first | exact h | cases h
                                · exact h htk.out
                                · rw [hii.out] at h; cases h
                              replace hRe := Lib.hid hRe
                              obtain ⟨id0, id1, id2, id3⟩ := hBid.out.1.c4
                              obtain ⟨t0, t1, t2, t3⟩ := hBt.out.1.c4
                              go_upto_region 29 with fail
                              go_wp2_with (first | ((with_reducible refine wpl ?_); refine wpList_store_cel rfl 59 (.tmp 2) (.tmp 169) (by rfl) (w.heap.size + 1) 0 #[.int .u8 4, .int .u8 id.kind, .string id.text, .slice idA ida idb, .slice idB idc idd, .string ⟨#[]⟩, .int .u8 0, .string ⟨#[]⟩, .slice none 0 0, .slice none 0 0, .int .u8 0, .string ⟨#[]⟩, .slice none 0 0, .slice none 0 0, .int .i64 n, .string t.text] _ #[.int .u8 4, .int .u8 id.kind, .string id.text, .slice idA ida idb, .slice idB idc idd, .string ⟨#[]⟩, .int .u8 0, .string ⟨#[]⟩, .slice none 0 0, .slice none 0 0, .int .u8 0, .string ⟨#[]⟩, .slice none 0 0, .slice none 0 0, .int .i64 n, .string t.text] 59 (by rfl) (by rfl) hV.out.c2 (Nat.le_refl 16) (putA_whole _ _ rfl) refMsgInfo (by first | (simp; done) | (simp [Value.oneCell']; done)) ?_; intro w9 hF hA9; replace hF := Lib.hid hF; replace hA9 := Lib.hid hA9) | ((with_reducible refine bpl ?_); refine bodyPost_ret (results_cel2 Tryz.results32 _ _ _ _ _ dm rfl hF.out hdm.out.1 hdm.out.2 refMsgInfo) rfl ?_; rw [hRe.out]; exact ⟨.slice idA ida idb, .slice idB idc idd, nilV, nilV, nilV, nilV, rfl, (hBid.out.2.below (hA9.out.1 w.heap.size (by omega)) (fun _ h _ => h)), zero_jv _ _, zero_jv _ _, hV.out.bel.trans (hA9.out.1 _ (by omega))⟩))
                          · have htk' : (t.kind != 5) = true := by simp [htk]
                            replace htk := Lib.hid htk
                            obtain ⟨t0, t1, t2, t3⟩ := hBt.out.1.c4
                            have hRe : R = (zeroM, 73) := by rw [← hMf.out]; exact if_pos (Or.inr (Or.inr (Or.inl htk.out)))
                            replace hRe := Lib.hid hRe
                            go_upto_region 28 with fail
                            go_wp2_with (first | ((with_reducible refine wpl ?_); refine wpList_store_cel rfl 59 (.tmp 2) (.tmp 164) (by rfl) (w.heap.size + 1) 0 #[.int .u8 0, .int .u8 0, .string ⟨#[]⟩, .slice none 0 0, .slice none 0 0, .string ⟨#[]⟩, .int .u8 0, .string ⟨#[]⟩, .slice none 0 0, .slice none 0 0, .int .u8 0, .string ⟨#[]⟩, .slice none 0 0, .slice none 0 0, .int .i64 0, .string ⟨#[]⟩] _ #[.int .u8 0, .int .u8 0, .string ⟨#[]⟩, .slice none 0 0, .slice none 0 0, .string ⟨#[]⟩, .int .u8 0, .string ⟨#[]⟩, .slice none 0 0, .slice none 0 0, .int .u8 0, .string ⟨#[]⟩, .slice none 0 0, .slice none 0 0, .int .i64 0, .string ⟨#[]⟩] 59 (by rfl) (by rfl) hV.out.c2 (Nat.le_refl 16) (putA_whole _ _ rfl) refMsgInfo (by first | (simp; done) | (simp [Value.oneCell']; done)) ?_; intro w9 hF hA9; replace hF := Lib.hid hF; replace hA9 := Lib.hid hA9) | ((with_reducible refine bpl ?_); refine bodyPost_ret (results_cel2 Tryz.results32 _ _ _ _ _ dm rfl hF.out hdm.out.1 hdm.out.2 refMsgInfo) rfl ?_; rw [hRe.out]; exact zeroRRead (hV.out.bel.trans (hA9.out.1 _ (by omega)))))
                · cases hasf
                  · clear hrf
                    clear hBf hGf hWh

                    obtain ⟨id0, id1, id2, id3⟩ := hBid.out.1.c4
                    go_upto_region 21 with fail
                    go_wp2_with fail
                    refine (hIs.out id _ _ _ hBid.out.2 (by omega)).mono ?_
                    rintro e wi ⟨rfl, hbi⟩
                    replace hV := Lib.hid (hV.out.step hbi)
                    replace hBid := Lib.hid (hBid.out.step hbi)
                    replace hBr := Lib.hid (hBr.out.step hbi)
                    clear id0 id1 id2 id3 hbi
                    obtain ⟨ii, hii⟩ : ∃ ii, jisid id = ii := ⟨_, rfl⟩
                    rw [hii]
                    replace hii := Lib.hid hii
                    cases ii
                    · have hRe : R = (zeroM, 73) := by rw [← hR.out]; simp [janswers, hii.out]
                      replace hRe := Lib.hid hRe
                      go_upto_region 22 with fail
                      go_wp2_with (first | ((with_reducible refine wpl ?_); refine wpList_store_cel rfl 59 (.tmp 2) (.tmp 120) (by rfl) (w.heap.size + 1) 0 #[.int .u8 0, .int .u8 0, .string ⟨#[]⟩, .slice none 0 0, .slice none 0 0, .string ⟨#[]⟩, .int .u8 0, .string ⟨#[]⟩, .slice none 0 0, .slice none 0 0, .int .u8 0, .string ⟨#[]⟩, .slice none 0 0, .slice none 0 0, .int .i64 0, .string ⟨#[]⟩] _ #[.int .u8 0, .int .u8 0, .string ⟨#[]⟩, .slice none 0 0, .slice none 0 0, .string ⟨#[]⟩, .int .u8 0, .string ⟨#[]⟩, .slice none 0 0, .slice none 0 0, .int .u8 0, .string ⟨#[]⟩, .slice none 0 0, .slice none 0 0, .int .i64 0, .string ⟨#[]⟩] 59 (by rfl) (by rfl) hV.out.c2 (Nat.le_refl 16) (putA_whole _ _ rfl) refMsgInfo (by first | (simp; done) | (simp [Value.oneCell']; done)) ?_; intro w9 hF hA9; replace hF := Lib.hid hF; replace hA9 := Lib.hid hA9) | ((with_reducible refine bpl ?_); refine bodyPost_ret (results_cel2 Tryz.results32 _ _ _ _ _ dm rfl hF.out hdm.out.1 hdm.out.2 refMsgInfo) rfl ?_; rw [hRe.out]; exact zeroRRead (hV.out.bel.trans (hA9.out.1 _ (by omega)))))
                    · have hRe : R = (⟨3, id, ⟨#[]⟩, zeroJ, r, 0, ⟨#[]⟩⟩, 0) := by
                        rw [← hR.out]; simp [janswers, hii.out]
                      replace hRe := Lib.hid hRe
                      obtain ⟨id0, id1, id2, id3⟩ := hBid.out.1.c4
                      obtain ⟨r0, r1, r2, r3⟩ := hBr.out.1.c4
                      go_upto_region 23 with fail
                      go_wp2_with (first | ((with_reducible refine wpl ?_); refine wpList_store_cel rfl 59 (.tmp 2) (.tmp 123) (by rfl) (w.heap.size + 1) 0 #[.int .u8 3, .int .u8 id.kind, .string id.text, .slice idA ida idb, .slice idB idc idd, .string ⟨#[]⟩, .int .u8 0, .string ⟨#[]⟩, .slice none 0 0, .slice none 0 0, .int .u8 r.kind, .string r.text, .slice rA ra rb, .slice rB rc rd, .int .i64 0, .string ⟨#[]⟩] _ #[.int .u8 3, .int .u8 id.kind, .string id.text, .slice idA ida idb, .slice idB idc idd, .string ⟨#[]⟩, .int .u8 0, .string ⟨#[]⟩, .slice none 0 0, .slice none 0 0, .int .u8 r.kind, .string r.text, .slice rA ra rb, .slice rB rc rd, .int .i64 0, .string ⟨#[]⟩] 59 (by rfl) (by rfl) hV.out.c2 (Nat.le_refl 16) (putA_whole _ _ rfl) refMsgInfo (by first | (simp; done) | (simp [Value.oneCell']; done)) ?_; intro w9 hF hA9; replace hF := Lib.hid hF; replace hA9 := Lib.hid hA9) | ((with_reducible refine bpl ?_); refine bodyPost_ret (results_cel2 Tryz.results32 _ _ _ _ _ dm rfl hF.out hdm.out.1 hdm.out.2 refMsgInfo) rfl ?_; rw [hRe.out]; exact ⟨.slice idA ida idb, .slice idB idc idd, nilV, nilV, .slice rA ra rb, .slice rB rc rd, rfl, (hBid.out.2.below (hA9.out.1 w.heap.size (by omega)) (fun _ h _ => h)), zero_jv _ _, (hBr.out.2.below (hA9.out.1 w.heap.size (by omega)) (fun _ h _ => h)), hV.out.bel.trans (hA9.out.1 _ (by omega))⟩))
                  · exact absurd rfl hrf
          · replace hR := hR.out
            rw [if_pos rfl] at hR
            replace hR := Lib.hid hR
            clear hBv hBr hBf hGf hWh
            by_cases hmk : m.kind = 5
            · have hmk' : (m.kind != 5) = false := by simp [hmk]
              replace hmk := Lib.hid hmk
              cases hasid
              · have hz := hidz.out rfl
                subst hz
                clear hidz
                obtain ⟨m0, m1, m2, m3⟩ := hBm.out.1.c4
                obtain ⟨p0, p1, p2, p3⟩ := hBp.out.1.c4
                clear m0 m1 m2 m3 p0 p1 p2 p3
                cases hasp
                · have hRe : R = (⟨2, zeroJ, m.text, p, zeroJ, 0, ⟨#[]⟩⟩, 0) := by
                    rw [← hR.out]; simp [jasks, jispar, hmk.out]
                  replace hRe := Lib.hid hRe
                  obtain ⟨m0, m1, m2, m3⟩ := hBm.out.1.c4
                  obtain ⟨p0, p1, p2, p3⟩ := hBp.out.1.c4
                  go_upto_region 17 with fail
                  go_wp2_with (first | ((with_reducible refine wpl ?_); refine wpList_store_cel rfl 59 (.tmp 2) (.tmp 107) (by rfl) (w.heap.size + 1) 0 #[.int .u8 2, .int .u8 0, .string ⟨#[]⟩, .slice none 0 0, .slice none 0 0, .string m.text, .int .u8 p.kind, .string p.text, .slice pA pa pb, .slice pB pc pd, .int .u8 0, .string ⟨#[]⟩, .slice none 0 0, .slice none 0 0, .int .i64 0, .string ⟨#[]⟩] _ #[.int .u8 2, .int .u8 0, .string ⟨#[]⟩, .slice none 0 0, .slice none 0 0, .string m.text, .int .u8 p.kind, .string p.text, .slice pA pa pb, .slice pB pc pd, .int .u8 0, .string ⟨#[]⟩, .slice none 0 0, .slice none 0 0, .int .i64 0, .string ⟨#[]⟩] 59 (by rfl) (by rfl) hV.out.c2 (Nat.le_refl 16) (putA_whole _ _ rfl) refMsgInfo (by first | (simp; done) | (simp [Value.oneCell']; done)) ?_; intro w9 hF hA9; replace hF := Lib.hid hF; replace hA9 := Lib.hid hA9) | ((with_reducible refine bpl ?_); refine bodyPost_ret (results_cel2 Tryz.results32 _ _ _ _ _ dm rfl hF.out hdm.out.1 hdm.out.2 refMsgInfo) rfl ?_; rw [hRe.out]; exact ⟨nilV, nilV, .slice pA pa pb, .slice pB pc pd, nilV, nilV, rfl, zero_jv _ _, (hBp.out.2.below (hA9.out.1 w.heap.size (by omega)) (fun _ h _ => h)), zero_jv _ _, hV.out.bel.trans (hA9.out.1 _ (by omega))⟩))
                · by_cases hp6 : p.kind = 6
                  · have hp6' : (p.kind != 6) = false := by simp [hp6]
                    replace hp6 := Lib.hid hp6

                    have hRe : R = (⟨2, zeroJ, m.text, p, zeroJ, 0, ⟨#[]⟩⟩, 0) := by
                      rw [← hR.out]; simp [jasks, jispar, hmk.out, hp6.out]
                    replace hRe := Lib.hid hRe
                    obtain ⟨m0, m1, m2, m3⟩ := hBm.out.1.c4
                    obtain ⟨p0, p1, p2, p3⟩ := hBp.out.1.c4
                    go_upto_region 17 with fail
                    go_wp2_with (first | ((with_reducible refine wpl ?_); refine wpList_store_cel rfl 59 (.tmp 2) (.tmp 107) (by rfl) (w.heap.size + 1) 0 #[.int .u8 2, .int .u8 0, .string ⟨#[]⟩, .slice none 0 0, .slice none 0 0, .string m.text, .int .u8 p.kind, .string p.text, .slice pA pa pb, .slice pB pc pd, .int .u8 0, .string ⟨#[]⟩, .slice none 0 0, .slice none 0 0, .int .i64 0, .string ⟨#[]⟩] _ #[.int .u8 2, .int .u8 0, .string ⟨#[]⟩, .slice none 0 0, .slice none 0 0, .string m.text, .int .u8 p.kind, .string p.text, .slice pA pa pb, .slice pB pc pd, .int .u8 0, .string ⟨#[]⟩, .slice none 0 0, .slice none 0 0, .int .i64 0, .string ⟨#[]⟩] 59 (by rfl) (by rfl) hV.out.c2 (Nat.le_refl 16) (putA_whole _ _ rfl) refMsgInfo (by first | (simp; done) | (simp [Value.oneCell']; done)) ?_; intro w9 hF hA9; replace hF := Lib.hid hF; replace hA9 := Lib.hid hA9) | ((with_reducible refine bpl ?_); refine bodyPost_ret (results_cel2 Tryz.results32 _ _ _ _ _ dm rfl hF.out hdm.out.1 hdm.out.2 refMsgInfo) rfl ?_; rw [hRe.out]; exact ⟨nilV, nilV, .slice pA pa pb, .slice pB pc pd, nilV, nilV, rfl, zero_jv _ _, (hBp.out.2.below (hA9.out.1 w.heap.size (by omega)) (fun _ h _ => h)), zero_jv _ _, hV.out.bel.trans (hA9.out.1 _ (by omega))⟩))
                  · by_cases hp7 : p.kind = 7
                    · have hp6' : (p.kind != 6) = true := by simp [hp6]
                      have hp7' : (p.kind != 7) = false := by simp [hp7]
                      replace hp6 := Lib.hid hp6
                      replace hp7 := Lib.hid hp7

                      have hRe : R = (⟨2, zeroJ, m.text, p, zeroJ, 0, ⟨#[]⟩⟩, 0) := by
                        rw [← hR.out]; simp [jasks, jispar, hmk.out, hp7.out]
                      replace hRe := Lib.hid hRe
                      obtain ⟨m0, m1, m2, m3⟩ := hBm.out.1.c4
                      obtain ⟨p0, p1, p2, p3⟩ := hBp.out.1.c4
                      go_upto_region 17 with fail
                      go_wp2_with (first | ((with_reducible refine wpl ?_); refine wpList_store_cel rfl 59 (.tmp 2) (.tmp 107) (by rfl) (w.heap.size + 1) 0 #[.int .u8 2, .int .u8 0, .string ⟨#[]⟩, .slice none 0 0, .slice none 0 0, .string m.text, .int .u8 p.kind, .string p.text, .slice pA pa pb, .slice pB pc pd, .int .u8 0, .string ⟨#[]⟩, .slice none 0 0, .slice none 0 0, .int .i64 0, .string ⟨#[]⟩] _ #[.int .u8 2, .int .u8 0, .string ⟨#[]⟩, .slice none 0 0, .slice none 0 0, .string m.text, .int .u8 p.kind, .string p.text, .slice pA pa pb, .slice pB pc pd, .int .u8 0, .string ⟨#[]⟩, .slice none 0 0, .slice none 0 0, .int .i64 0, .string ⟨#[]⟩] 59 (by rfl) (by rfl) hV.out.c2 (Nat.le_refl 16) (putA_whole _ _ rfl) refMsgInfo (by first | (simp; done) | (simp [Value.oneCell']; done)) ?_; intro w9 hF hA9; replace hF := Lib.hid hF; replace hA9 := Lib.hid hA9) | ((with_reducible refine bpl ?_); refine bodyPost_ret (results_cel2 Tryz.results32 _ _ _ _ _ dm rfl hF.out hdm.out.1 hdm.out.2 refMsgInfo) rfl ?_; rw [hRe.out]; exact ⟨nilV, nilV, .slice pA pa pb, .slice pB pc pd, nilV, nilV, rfl, zero_jv _ _, (hBp.out.2.below (hA9.out.1 w.heap.size (by omega)) (fun _ h _ => h)), zero_jv _ _, hV.out.bel.trans (hA9.out.1 _ (by omega))⟩))
                    · have hp6' : (p.kind != 6) = true := by simp [hp6]
                      have hp7' : (p.kind != 7) = true := by simp [hp7]
                      replace hp6 := Lib.hid hp6
                      replace hp7 := Lib.hid hp7
                      obtain ⟨p0, p1, p2, p3⟩ := hBp.out.1.c4
                      obtain ⟨m0, m1, m2, m3⟩ := hBm.out.1.c4
                      have hRe : R = (zeroM, 73) := by rw [← hR.out]; simp [jasks, jispar, hmk.out, hp6.out, hp7.out]
                      replace hRe := Lib.hid hRe
                      go_upto_region 14 with fail
                      go_wp2_with (first | ((with_reducible refine wpl ?_); refine wpList_store_cel rfl 59 (.tmp 2) (.tmp 97) (by rfl) (w.heap.size + 1) 0 #[.int .u8 0, .int .u8 0, .string ⟨#[]⟩, .slice none 0 0, .slice none 0 0, .string ⟨#[]⟩, .int .u8 0, .string ⟨#[]⟩, .slice none 0 0, .slice none 0 0, .int .u8 0, .string ⟨#[]⟩, .slice none 0 0, .slice none 0 0, .int .i64 0, .string ⟨#[]⟩] _ #[.int .u8 0, .int .u8 0, .string ⟨#[]⟩, .slice none 0 0, .slice none 0 0, .string ⟨#[]⟩, .int .u8 0, .string ⟨#[]⟩, .slice none 0 0, .slice none 0 0, .int .u8 0, .string ⟨#[]⟩, .slice none 0 0, .slice none 0 0, .int .i64 0, .string ⟨#[]⟩] 59 (by rfl) (by rfl) hV.out.c2 (Nat.le_refl 16) (putA_whole _ _ rfl) refMsgInfo (by first | (simp; done) | (simp [Value.oneCell']; done)) ?_; intro w9 hF hA9; replace hF := Lib.hid hF; replace hA9 := Lib.hid hA9) | ((with_reducible refine bpl ?_); refine bodyPost_ret (results_cel2 Tryz.results32 _ _ _ _ _ dm rfl hF.out hdm.out.1 hdm.out.2 refMsgInfo) rfl ?_; rw [hRe.out]; exact zeroRRead (hV.out.bel.trans (hA9.out.1 _ (by omega)))))
              · clear hidz
                obtain ⟨m0, m1, m2, m3⟩ := hBm.out.1.c4

                obtain ⟨id0, id1, id2, id3⟩ := hBid.out.1.c4
                go_upto_region 13 with fail
                go_wp2_with fail
                refine (hIs.out id _ _ _ hBid.out.2 (by omega)).mono ?_
                rintro e wi ⟨rfl, hbi⟩
                replace hV := Lib.hid (hV.out.step hbi)
                replace hBid := Lib.hid (hBid.out.step hbi)
                replace hBm := Lib.hid (hBm.out.step hbi)
                replace hBp := Lib.hid (hBp.out.step hbi)
                clear id0 id1 id2 id3 hbi
                obtain ⟨ii, hii⟩ : ∃ ii, jisid id = ii := ⟨_, rfl⟩
                rw [hii]
                replace hii := Lib.hid hii
                clear m0 m1 m2 m3
                cases ii
                · obtain ⟨m0, m1, m2, m3⟩ := hBm.out.1.c4
                  have hRe : R = (zeroM, 73) := by rw [← hR.out]; simp [jasks, hmk.out, hii.out]
                  replace hRe := Lib.hid hRe
                  go_upto_region 14 with fail
                  go_wp2_with (first | ((with_reducible refine wpl ?_); refine wpList_store_cel rfl 59 (.tmp 2) (.tmp 97) (by rfl) (w.heap.size + 1) 0 #[.int .u8 0, .int .u8 0, .string ⟨#[]⟩, .slice none 0 0, .slice none 0 0, .string ⟨#[]⟩, .int .u8 0, .string ⟨#[]⟩, .slice none 0 0, .slice none 0 0, .int .u8 0, .string ⟨#[]⟩, .slice none 0 0, .slice none 0 0, .int .i64 0, .string ⟨#[]⟩] _ #[.int .u8 0, .int .u8 0, .string ⟨#[]⟩, .slice none 0 0, .slice none 0 0, .string ⟨#[]⟩, .int .u8 0, .string ⟨#[]⟩, .slice none 0 0, .slice none 0 0, .int .u8 0, .string ⟨#[]⟩, .slice none 0 0, .slice none 0 0, .int .i64 0, .string ⟨#[]⟩] 59 (by rfl) (by rfl) hV.out.c2 (Nat.le_refl 16) (putA_whole _ _ rfl) refMsgInfo (by first | (simp; done) | (simp [Value.oneCell']; done)) ?_; intro w9 hF hA9; replace hF := Lib.hid hF; replace hA9 := Lib.hid hA9) | ((with_reducible refine bpl ?_); refine bodyPost_ret (results_cel2 Tryz.results32 _ _ _ _ _ dm rfl hF.out hdm.out.1 hdm.out.2 refMsgInfo) rfl ?_; rw [hRe.out]; exact zeroRRead (hV.out.bel.trans (hA9.out.1 _ (by omega)))))
                · cases hasp
                  · have hRe : R = (⟨1, id, m.text, p, zeroJ, 0, ⟨#[]⟩⟩, 0) := by
                      rw [← hR.out]; simp [jasks, jispar, hmk.out, hii.out]
                    replace hRe := Lib.hid hRe
                    obtain ⟨id0, id1, id2, id3⟩ := hBid.out.1.c4
                    obtain ⟨m0, m1, m2, m3⟩ := hBm.out.1.c4
                    obtain ⟨p0, p1, p2, p3⟩ := hBp.out.1.c4
                    go_upto_region 16 with fail
                    go_wp2_with (first | ((with_reducible refine wpl ?_); refine wpList_store_cel rfl 59 (.tmp 2) (.tmp 103) (by rfl) (w.heap.size + 1) 0 #[.int .u8 1, .int .u8 id.kind, .string id.text, .slice idA ida idb, .slice idB idc idd, .string m.text, .int .u8 p.kind, .string p.text, .slice pA pa pb, .slice pB pc pd, .int .u8 0, .string ⟨#[]⟩, .slice none 0 0, .slice none 0 0, .int .i64 0, .string ⟨#[]⟩] _ #[.int .u8 1, .int .u8 id.kind, .string id.text, .slice idA ida idb, .slice idB idc idd, .string m.text, .int .u8 p.kind, .string p.text, .slice pA pa pb, .slice pB pc pd, .int .u8 0, .string ⟨#[]⟩, .slice none 0 0, .slice none 0 0, .int .i64 0, .string ⟨#[]⟩] 59 (by rfl) (by rfl) hV.out.c2 (Nat.le_refl 16) (putA_whole _ _ rfl) refMsgInfo (by first | (simp; done) | (simp [Value.oneCell']; done)) ?_; intro w9 hF hA9; replace hF := Lib.hid hF; replace hA9 := Lib.hid hA9) | ((with_reducible refine bpl ?_); refine bodyPost_ret (results_cel2 Tryz.results32 _ _ _ _ _ dm rfl hF.out hdm.out.1 hdm.out.2 refMsgInfo) rfl ?_; rw [hRe.out]; exact ⟨.slice idA ida idb, .slice idB idc idd, .slice pA pa pb, .slice pB pc pd, nilV, nilV, rfl, (hBid.out.2.below (hA9.out.1 w.heap.size (by omega)) (fun _ h _ => h)), (hBp.out.2.below (hA9.out.1 w.heap.size (by omega)) (fun _ h _ => h)), zero_jv _ _, hV.out.bel.trans (hA9.out.1 _ (by omega))⟩))
                  · by_cases hp6 : p.kind = 6
                    · have hp6' : (p.kind != 6) = false := by simp [hp6]
                      replace hp6 := Lib.hid hp6

                      have hRe : R = (⟨1, id, m.text, p, zeroJ, 0, ⟨#[]⟩⟩, 0) := by
                        rw [← hR.out]; simp [jasks, jispar, hmk.out, hii.out, hp6.out]
                      replace hRe := Lib.hid hRe
                      obtain ⟨id0, id1, id2, id3⟩ := hBid.out.1.c4
                      obtain ⟨m0, m1, m2, m3⟩ := hBm.out.1.c4
                      obtain ⟨p0, p1, p2, p3⟩ := hBp.out.1.c4
                      go_upto_region 16 with fail
                      go_wp2_with (first | ((with_reducible refine wpl ?_); refine wpList_store_cel rfl 59 (.tmp 2) (.tmp 103) (by rfl) (w.heap.size + 1) 0 #[.int .u8 1, .int .u8 id.kind, .string id.text, .slice idA ida idb, .slice idB idc idd, .string m.text, .int .u8 p.kind, .string p.text, .slice pA pa pb, .slice pB pc pd, .int .u8 0, .string ⟨#[]⟩, .slice none 0 0, .slice none 0 0, .int .i64 0, .string ⟨#[]⟩] _ #[.int .u8 1, .int .u8 id.kind, .string id.text, .slice idA ida idb, .slice idB idc idd, .string m.text, .int .u8 p.kind, .string p.text, .slice pA pa pb, .slice pB pc pd, .int .u8 0, .string ⟨#[]⟩, .slice none 0 0, .slice none 0 0, .int .i64 0, .string ⟨#[]⟩] 59 (by rfl) (by rfl) hV.out.c2 (Nat.le_refl 16) (putA_whole _ _ rfl) refMsgInfo (by first | (simp; done) | (simp [Value.oneCell']; done)) ?_; intro w9 hF hA9; replace hF := Lib.hid hF; replace hA9 := Lib.hid hA9) | ((with_reducible refine bpl ?_); refine bodyPost_ret (results_cel2 Tryz.results32 _ _ _ _ _ dm rfl hF.out hdm.out.1 hdm.out.2 refMsgInfo) rfl ?_; rw [hRe.out]; exact ⟨.slice idA ida idb, .slice idB idc idd, .slice pA pa pb, .slice pB pc pd, nilV, nilV, rfl, (hBid.out.2.below (hA9.out.1 w.heap.size (by omega)) (fun _ h _ => h)), (hBp.out.2.below (hA9.out.1 w.heap.size (by omega)) (fun _ h _ => h)), zero_jv _ _, hV.out.bel.trans (hA9.out.1 _ (by omega))⟩))
                    · by_cases hp7 : p.kind = 7
                      · have hp6' : (p.kind != 6) = true := by simp [hp6]
                        have hp7' : (p.kind != 7) = false := by simp [hp7]
                        replace hp6 := Lib.hid hp6
                        replace hp7 := Lib.hid hp7

                        have hRe : R = (⟨1, id, m.text, p, zeroJ, 0, ⟨#[]⟩⟩, 0) := by
                          rw [← hR.out]; simp [jasks, jispar, hmk.out, hii.out, hp7.out]
                        replace hRe := Lib.hid hRe
                        obtain ⟨id0, id1, id2, id3⟩ := hBid.out.1.c4
                        obtain ⟨m0, m1, m2, m3⟩ := hBm.out.1.c4
                        obtain ⟨p0, p1, p2, p3⟩ := hBp.out.1.c4
                        go_upto_region 16 with fail
                        go_wp2_with (first | ((with_reducible refine wpl ?_); refine wpList_store_cel rfl 59 (.tmp 2) (.tmp 103) (by rfl) (w.heap.size + 1) 0 #[.int .u8 1, .int .u8 id.kind, .string id.text, .slice idA ida idb, .slice idB idc idd, .string m.text, .int .u8 p.kind, .string p.text, .slice pA pa pb, .slice pB pc pd, .int .u8 0, .string ⟨#[]⟩, .slice none 0 0, .slice none 0 0, .int .i64 0, .string ⟨#[]⟩] _ #[.int .u8 1, .int .u8 id.kind, .string id.text, .slice idA ida idb, .slice idB idc idd, .string m.text, .int .u8 p.kind, .string p.text, .slice pA pa pb, .slice pB pc pd, .int .u8 0, .string ⟨#[]⟩, .slice none 0 0, .slice none 0 0, .int .i64 0, .string ⟨#[]⟩] 59 (by rfl) (by rfl) hV.out.c2 (Nat.le_refl 16) (putA_whole _ _ rfl) refMsgInfo (by first | (simp; done) | (simp [Value.oneCell']; done)) ?_; intro w9 hF hA9; replace hF := Lib.hid hF; replace hA9 := Lib.hid hA9) | ((with_reducible refine bpl ?_); refine bodyPost_ret (results_cel2 Tryz.results32 _ _ _ _ _ dm rfl hF.out hdm.out.1 hdm.out.2 refMsgInfo) rfl ?_; rw [hRe.out]; exact ⟨.slice idA ida idb, .slice idB idc idd, .slice pA pa pb, .slice pB pc pd, nilV, nilV, rfl, (hBid.out.2.below (hA9.out.1 w.heap.size (by omega)) (fun _ h _ => h)), (hBp.out.2.below (hA9.out.1 w.heap.size (by omega)) (fun _ h _ => h)), zero_jv _ _, hV.out.bel.trans (hA9.out.1 _ (by omega))⟩))
                      · have hp6' : (p.kind != 6) = true := by simp [hp6]
                        have hp7' : (p.kind != 7) = true := by simp [hp7]
                        replace hp6 := Lib.hid hp6
                        replace hp7 := Lib.hid hp7
                        obtain ⟨p0, p1, p2, p3⟩ := hBp.out.1.c4
                        obtain ⟨m0, m1, m2, m3⟩ := hBm.out.1.c4
                        have hRe : R = (zeroM, 73) := by rw [← hR.out]; simp [jasks, jispar, hmk.out, hii.out, hp6.out, hp7.out]
                        replace hRe := Lib.hid hRe
                        go_upto_region 14 with fail
                        go_wp2_with (first | ((with_reducible refine wpl ?_); refine wpList_store_cel rfl 59 (.tmp 2) (.tmp 97) (by rfl) (w.heap.size + 1) 0 #[.int .u8 0, .int .u8 0, .string ⟨#[]⟩, .slice none 0 0, .slice none 0 0, .string ⟨#[]⟩, .int .u8 0, .string ⟨#[]⟩, .slice none 0 0, .slice none 0 0, .int .u8 0, .string ⟨#[]⟩, .slice none 0 0, .slice none 0 0, .int .i64 0, .string ⟨#[]⟩] _ #[.int .u8 0, .int .u8 0, .string ⟨#[]⟩, .slice none 0 0, .slice none 0 0, .string ⟨#[]⟩, .int .u8 0, .string ⟨#[]⟩, .slice none 0 0, .slice none 0 0, .int .u8 0, .string ⟨#[]⟩, .slice none 0 0, .slice none 0 0, .int .i64 0, .string ⟨#[]⟩] 59 (by rfl) (by rfl) hV.out.c2 (Nat.le_refl 16) (putA_whole _ _ rfl) refMsgInfo (by first | (simp; done) | (simp [Value.oneCell']; done)) ?_; intro w9 hF hA9; replace hF := Lib.hid hF; replace hA9 := Lib.hid hA9) | ((with_reducible refine bpl ?_); refine bodyPost_ret (results_cel2 Tryz.results32 _ _ _ _ _ dm rfl hF.out hdm.out.1 hdm.out.2 refMsgInfo) rfl ?_; rw [hRe.out]; exact zeroRRead (hV.out.bel.trans (hA9.out.1 _ (by omega)))))
            · have hmk' : (m.kind != 5) = true := by simp [hmk]
              replace hmk := Lib.hid hmk
              obtain ⟨m0, m1, m2, m3⟩ := hBm.out.1.c4
              have hRe : R = (zeroM, 73) := by rw [← hR.out]; simp [jasks, hmk.out]
              replace hRe := Lib.hid hRe
              go_upto_region 14 with fail
              go_wp2_with (first | ((with_reducible refine wpl ?_); refine wpList_store_cel rfl 59 (.tmp 2) (.tmp 97) (by rfl) (w.heap.size + 1) 0 #[.int .u8 0, .int .u8 0, .string ⟨#[]⟩, .slice none 0 0, .slice none 0 0, .string ⟨#[]⟩, .int .u8 0, .string ⟨#[]⟩, .slice none 0 0, .slice none 0 0, .int .u8 0, .string ⟨#[]⟩, .slice none 0 0, .slice none 0 0, .int .i64 0, .string ⟨#[]⟩] _ #[.int .u8 0, .int .u8 0, .string ⟨#[]⟩, .slice none 0 0, .slice none 0 0, .string ⟨#[]⟩, .int .u8 0, .string ⟨#[]⟩, .slice none 0 0, .slice none 0 0, .int .u8 0, .string ⟨#[]⟩, .slice none 0 0, .slice none 0 0, .int .i64 0, .string ⟨#[]⟩] 59 (by rfl) (by rfl) hV.out.c2 (Nat.le_refl 16) (putA_whole _ _ rfl) refMsgInfo (by first | (simp; done) | (simp [Value.oneCell']; done)) ?_; intro w9 hF hA9; replace hF := Lib.hid hF; replace hA9 := Lib.hid hA9) | ((with_reducible refine bpl ?_); refine bodyPost_ret (results_cel2 Tryz.results32 _ _ _ _ _ dm rfl hF.out hdm.out.1 hdm.out.2 refMsgInfo) rfl ?_; rw [hRe.out]; exact zeroRRead (hV.out.bel.trans (hA9.out.1 _ (by omega)))))
        · have htl : (v.text.toList == [50, 46, 48]) = false := beq_eq_false_iff_ne.2 (fun e => ht (jstr_ext (by rw [← Lib.toList_data, e])))
          replace ht := Lib.hid ht
          obtain ⟨v0, v1, v2, v3⟩ := hBv.out.1.c4
          have hRe : R = (zeroM, 73) := by rw [← hR.out]; exact if_pos (Or.inr (Or.inr ht.out))
          replace hRe := Lib.hid hRe
          go_upto_region 11 with fail
          go_wp2_with (first | ((with_reducible refine wpl ?_); refine wpList_store_cel rfl 59 (.tmp 2) (.tmp 71) (by rfl) (w.heap.size + 1) 0 #[.int .u8 0, .int .u8 0, .string ⟨#[]⟩, .slice none 0 0, .slice none 0 0, .string ⟨#[]⟩, .int .u8 0, .string ⟨#[]⟩, .slice none 0 0, .slice none 0 0, .int .u8 0, .string ⟨#[]⟩, .slice none 0 0, .slice none 0 0, .int .i64 0, .string ⟨#[]⟩] _ #[.int .u8 0, .int .u8 0, .string ⟨#[]⟩, .slice none 0 0, .slice none 0 0, .string ⟨#[]⟩, .int .u8 0, .string ⟨#[]⟩, .slice none 0 0, .slice none 0 0, .int .u8 0, .string ⟨#[]⟩, .slice none 0 0, .slice none 0 0, .int .i64 0, .string ⟨#[]⟩] 59 (by rfl) (by rfl) hV.out.c2 (Nat.le_refl 16) (putA_whole _ _ rfl) refMsgInfo (by first | (simp; done) | (simp [Value.oneCell']; done)) ?_; intro w9 hF hA9; replace hF := Lib.hid hF; replace hA9 := Lib.hid hA9) | ((with_reducible refine bpl ?_); refine bodyPost_ret (results_cel2 Tryz.results32 _ _ _ _ _ dm rfl hF.out hdm.out.1 hdm.out.2 refMsgInfo) rfl ?_; rw [hRe.out]; exact zeroRRead (hV.out.bel.trans (hA9.out.1 _ (by omega)))))
      · have hk5' : (v.kind != 5) = true := by simp [hk5]
        replace hk5 := Lib.hid hk5
        obtain ⟨v0, v1, v2, v3⟩ := hBv.out.1.c4
        have hRe : R = (zeroM, 73) := by rw [← hR.out]; exact if_pos (Or.inr (Or.inl hk5.out))
        replace hRe := Lib.hid hRe
        go_upto_region 11 with fail
        go_wp2_with (first | ((with_reducible refine wpl ?_); refine wpList_store_cel rfl 59 (.tmp 2) (.tmp 71) (by rfl) (w.heap.size + 1) 0 #[.int .u8 0, .int .u8 0, .string ⟨#[]⟩, .slice none 0 0, .slice none 0 0, .string ⟨#[]⟩, .int .u8 0, .string ⟨#[]⟩, .slice none 0 0, .slice none 0 0, .int .u8 0, .string ⟨#[]⟩, .slice none 0 0, .slice none 0 0, .int .i64 0, .string ⟨#[]⟩] _ #[.int .u8 0, .int .u8 0, .string ⟨#[]⟩, .slice none 0 0, .slice none 0 0, .string ⟨#[]⟩, .int .u8 0, .string ⟨#[]⟩, .slice none 0 0, .slice none 0 0, .int .u8 0, .string ⟨#[]⟩, .slice none 0 0, .slice none 0 0, .int .i64 0, .string ⟨#[]⟩] 59 (by rfl) (by rfl) hV.out.c2 (Nat.le_refl 16) (putA_whole _ _ rfl) refMsgInfo (by first | (simp; done) | (simp [Value.oneCell']; done)) ?_; intro w9 hF hA9; replace hF := Lib.hid hF; replace hA9 := Lib.hid hA9) | ((with_reducible refine bpl ?_); refine bodyPost_ret (results_cel2 Tryz.results32 _ _ _ _ _ dm rfl hF.out hdm.out.1 hdm.out.2 refMsgInfo) rfl ?_; rw [hRe.out]; exact zeroRRead (hV.out.bel.trans (hA9.out.1 _ (by omega)))))
  · have hc0' : (ck != 0) = true := by simp [hc0]
    rw [if_pos hc0] at hR

    have hRe : R = (zeroM, ck) := by exact hR.symm
    replace hRe := Lib.hid hRe
    go_upto_region 3 with fail
    go_wp2_with (first | ((with_reducible refine wpl ?_); refine wpList_store_cel rfl 59 (.tmp 2) (.tmp 27) (by rfl) (w.heap.size + 1) 0 #[.int .u8 0, .int .u8 0, .string ⟨#[]⟩, .slice none 0 0, .slice none 0 0, .string ⟨#[]⟩, .int .u8 0, .string ⟨#[]⟩, .slice none 0 0, .slice none 0 0, .int .u8 0, .string ⟨#[]⟩, .slice none 0 0, .slice none 0 0, .int .i64 0, .string ⟨#[]⟩] _ #[.int .u8 0, .int .u8 0, .string ⟨#[]⟩, .slice none 0 0, .slice none 0 0, .string ⟨#[]⟩, .int .u8 0, .string ⟨#[]⟩, .slice none 0 0, .slice none 0 0, .int .u8 0, .string ⟨#[]⟩, .slice none 0 0, .slice none 0 0, .int .i64 0, .string ⟨#[]⟩] 59 (by rfl) (by rfl) hV.out.c2 (Nat.le_refl 16) (putA_whole _ _ rfl) refMsgInfo (by first | (simp; done) | (simp [Value.oneCell']; done)) ?_; intro w9 hF hA9; replace hF := Lib.hid hF; replace hA9 := Lib.hid hA9) | ((with_reducible refine bpl ?_); refine bodyPost_ret (results_cel2 Tryz.results32 _ _ _ _ _ dm rfl hF.out hdm.out.1 hdm.out.2 refMsgInfo) rfl ?_; rw [hRe.out]; exact zeroRRead (hV.out.bel.trans (hA9.out.1 _ (by omega)))))
end Go.Proofs.YtamcbgkppgdniaaGreatDoor
