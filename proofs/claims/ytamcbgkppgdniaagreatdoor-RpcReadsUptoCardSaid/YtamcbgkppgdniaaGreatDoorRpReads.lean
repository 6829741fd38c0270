/-
  The walk of rostrumlaw07.RpcReads: the law answers true.
-/
import Derived.Test.YtamcbgkppgdniaaGreatDoorRpF
import Derived.Test.YtamcbgkppgdniaaGreatDoorRpn
import Derived.Test.YtamcbgkppgdniaaGreatDoorRpm
import Derived.Test.YtamcbgkppgdniaaGreatDoorRpI
import Derived.OrdersHeld
import Derived.Deep.RegionHeld
namespace Go.Proofs.YtamcbgkppgdniaaGreatDoor
open Go.RowKit

/-- Kept while blocks from lo up to ahead of hi are spoilt: what lies elsewhere. -/
theorem Spoilt7.cel {lo hi b : Nat} {w w' : World} {t : TypeId} {cs : Array Value} (h : Spoilt7 lo hi w w') (hC : Cel w b t cs) (hb : b < lo ∨ hi ≤ b) : Cel w' b t cs := by
  have hlt := hC.lt
  rcases hb with hb | hb
  · exact (h.1.block b hb).trans hC
  · exact (h.2 b hb hlt).trans hC
theorem Cel.range {w : World} {b : Nat} {t : TypeId} {l : List Value} (h : Cel w b t l.toArray) : w.rangeAt b 0 l := fun j v hv => by rw [h.cell]; simpa using hv
section
variable {P : Program} {ops : Array Oper} {Q : Exit → Act → World → Prop} {md : Region.Mode} {S : World → Prop}
/-- One operation alone may come up. -/
theorem oneH {i : Nat} {o : Oper} {fuel : Nat} {listed : Array Bool} {a : Act} {w : World} (hr : Region.ready md ops listed = [i]) (ho' : ops.toList[i]? = some o)
    (h : ∀ K' : Act → World → Prop, Shut (∀ a w, S w → wpAnyH P md ops Q S fuel (listed.setIfInBounds i true) a w → K' a w) → if Region.wanted o (yielded ops a.tmps) = true then Oper.wp P o a w K' Q else K' (a.put o.dst undef) w) : wpAnyH P md ops Q S (fuel + 1) listed a w :=
  wpAnyH_ready hr (by simp) (AllReadyH.cons (by rw [← Array.getElem?_toList]; exact ho') (fun K' hK => h K' (fun a w hS hW => hK.out a w hS (fun _ => hW))) AllReadyH.nil)
/-- What yields wherever S holds is taken first. -/
theorem takeH {i : Nat} {oi : Oper} {v : Value} {fuel : Nat} {listed : Array Bool} {a : Act} {w : World} (hi : ops.toList[i]? = some oi)
    (hs : Region.noSelect ops = true) (hf : Region.free md ops listed i = true) (hr : (Region.ready md ops listed).contains i = true)
    (hQ : ∀ c a w, Q (.panic c) (a.put oi.dst v) w → Q (.panic c) a w) (hy : YieldsIf P ops S oi v a) (hS : S w)
    (h : wpAnyH P md ops Q S fuel (listed.setIfInBounds i true) (a.put oi.dst v) w) : wpAnyH P md ops Q S (fuel + 1) listed a w :=
  wpAnyH_take (by rw [← Array.getElem?_toList]; exact hi) hs hf hr hQ hy hS h
end
theorem Spoilt7.own {lo hi a b : Nat} {w w' : World} {tS tJ : TypeId} {x : Jsn} {vn vl : Value} (h : Spoilt7 lo hi w w') (hO : OwnJ w tS tJ x a b vn vl) (hb : b ≤ lo ∨ hi ≤ a) (hw : b ≤ w.heap.size) : OwnJ w' tS tJ x a b vn vl :=
  OwnJ.keep x hO (fun k h1 h2 => by
    rcases hb with hb | hb
    · exact h.1.block k (by omega)
    · exact h.2 k (by omega) (by omega)) (Nat.le_refl _) (Nat.le_refl _)
set_option maxRecDepth 100000 in
set_option maxHeartbeats 16000000 in
theorem rpcReads_any (j : Jsn) (code : Int) (X : Nat → Prop) (w : World) (jn jl : Value) (hE : EnvU w) (hV : JV w X j jn jl) (hbj : jbulk j ≤ 10000000) (hc0 : -9223372036854775808 ≤ code) (hc1 : code ≤ 9223372036854775807) :
    Calls Tryz.prog 5 #[jvV j jn jl, .int .i64 code] w fun e w' => e = .returned (.bool true) ∧ Below w.heap.size w w' := by
  have hWt := Lib.hid (fun (W : World) (hB : Below w.heap.size w W) => weight7_any j X W _ _ (hV.later hB) (by omega))
  have hjb := bulk_jw j
  have hJl := Lib.hid (fun (W : World) (hB : Below w.heap.size w W) => hV.later hB)
  have hEl := Lib.hid (fun (W : World) (hB : Below w.heap.size w W) => hE.below hB)
  obtain ⟨A1, n1, c1, A2, n2, c2, rfl, rfl⟩ := hV.forms
  obtain ⟨W0, hW0⟩ : ∃ W0, w.alloc (.cells #[.int .u8 j.kind, .string j.text, .slice A1 n1 c1, .slice A2 n2 c2] 25) = W0 := ⟨_, rfl⟩
  have hcj : Cel W0 w.heap.size 25 #[.int .u8 j.kind, .string j.text, .slice A1 n1 c1, .slice A2 n2 c2] := by rw [← hW0]; exact Cel.fresh _ _ _
  have hb0 : Below w.heap.size w W0 := by rw [← hW0]; exact (Below.refl _ _).alloc (Nat.le_refl _) _
  replace hW0 := Lib.hid hW0
  replace hcj := Lib.hid hcj
  replace hb0 := Lib.hid hb0
  have hGa := Lib.hid (fun (W : World) (hB : Below w.heap.size w W) => rpcAbout_any code W hc0 hc1)
  have hRa := Lib.hid (fun (W : World) => refAbout_any code W)
  obtain ⟨abt, habt⟩ : ∃ a, aboutS code = a := ⟨_, rfl⟩
  rw [habt] at hGa hRa
  clear hV hE habt hc0 hc1
  unfold jvV
  go_enter Tryz.func5, Tryz.ntmps5
  go_upto_region 1 with fail
  rw [hW0.out]
  clear hW0
  obtain ⟨q0, q1, q2, q3⟩ := hcj.out.c4
  go_wp2_with fail
  refine (hWt.out _ hb0.out).mono ?_
  rintro e w1 ⟨ma, rfl, hm1, hm2, hb⟩
  replace hcj := Lib.hid (hcj.out.below hb hcj.out.lt)
  have hz0 := hcj.out.lt
  replace hb0 := Lib.hid (hb0.out.trans (hb.mono (by have := hb0.out.size; omega)))
  clear q0 q1 q2 q3 hb hWt
  by_cases ca : 1500 ≤ (ma : Int)
  · clear hm1 hm2 hGa hRa hJl hEl
    go_wp2_with fail
    go_ret
    exact ⟨rfl, hb0.out⟩
  have hja : jbulk j ≤ 96000 := by omega
  clear hm1 hm2 hjb hbj
  obtain ⟨q0, q1, q2, q3⟩ := hcj.out.c4
  have hGv := Lib.hid (given7_any j _ w1 _ _ (hJl.out _ hb0.out) (by omega))
  go_upto_region 3 with fail
  clear ca
  go_wp2_with fail
  refine hGv.out.mono ?_
  rintro e w2 ⟨in', il, rfl, hOi, hb⟩
  obtain ⟨iA, ia, ib, iB, ic, id', rfl, rfl⟩ := hOi.forms
  obtain ⟨W2, hW2⟩ : ∃ W, w2.alloc (.cells #[.int .u8 j.kind, .string j.text, .slice iA ia ib, .slice iB ic id'] 25) = W := ⟨_, rfl⟩
  have hx : Below w2.heap.size w2 W2 := by rw [← hW2]; exact (Below.refl _ _).alloc (Nat.le_refl _) _
  have hci : Cel W2 w2.heap.size 25 #[.int .u8 j.kind, .string j.text, .slice iA ia ib, .slice iB ic id'] := by rw [← hW2]; exact Cel.fresh _ _ _
  have hy := hb.trans (hx.mono hb.size)
  have hz1 := hb.size
  have hz2 := hci.lt
  have hz0' := hb0.out.size
  replace hOi := Lib.hid (OwnJ.keep (w' := W2) j hOi (fun k _ hk => hx.block k hk) (Nat.le_refl _) (Nat.le_refl _))
  replace hcj := Lib.hid (hcj.out.below hy hz0)
  replace hb0 := Lib.hid (hb0.out.trans (hy.mono hz0'))
  replace hci := Lib.hid hci
  replace hW2 := Lib.hid hW2
  clear q0 q1 q2 q3 hb hx hy hGv
  go_upto_region 4 with fail
  rw [hW2.out]
  clear hW2
  have hRd := rpcRead_any j _ W2 _ _ (hEl.out _ hb0.out) (OwnJ.jv j hOi.out) (by omega)
  have hRid := Lib.hid (fun (W : World) (hB : Below w.heap.size w W) (hO : OwnJ W 9 25 j w1.heap.size w2.heap.size (.slice iA ia ib) (.slice iB ic id')) => rpcID_any j _ W _ _ (hEl.out W hB) (OwnJ.jv j hO) (by omega))
  have hRf := Lib.hid (fun (W : World) (hB : Below w.heap.size w W) => refRead_any j _ W _ _ (hJl.out W hB) (by omega))
  have hRi := Lib.hid (fun (W : World) (hB : Below w.heap.size w W) => refIDm_any j _ W _ _ (hJl.out W hB) (by omega))
  have hMb := jread_bulk (Own := ownL) (Val := Lib.validD) (show jbulk j ≤ 1000000 by omega)
  have hDb := jrid_bulk (Own := ownL) (Val := Lib.validD) (show jbulk j ≤ 1000000 by omega)
  obtain ⟨⟨M, c⟩, hM⟩ : ∃ M, jread ownL Lib.validD j = M := ⟨_, rfl⟩
  obtain ⟨D, hD⟩ : ∃ D, jrid ownL Lib.validD j = D := ⟨_, rfl⟩
  rw [hM] at hRd hRf hMb
  rw [hD] at hRid hRi hDb
  dsimp only at hMb
  replace hMb := Lib.hid hMb
  clear hM hD hEl
  replace hRd := Lib.hid hRd
  obtain ⟨q0, q1, q2, q3⟩ := hci.out.c4
  go_wp2_with fail
  refine hRd.out.mono ?_
  intro e w3 hx
  obtain ⟨x1, x2, p1, p2, r1, r2, s1, s2, he, hs0, hs1, hs2, hOx, hOp, hOr, hb⟩ := hx
  dsimp only at he hOx hOp hOr
  obtain ⟨xA, xa, xb, xB, xc, xd, rfl, rfl⟩ := hOx.forms
  obtain ⟨pA, pa, pb, pB, pc, pd, rfl, rfl⟩ := hOp.forms
  obtain ⟨rA, ra, rb, rB, rc, rd, rfl, rfl⟩ := hOr.forms
  unfold msgV at he
  subst he
  replace hcj := Lib.hid (hcj.out.below hb (by omega))
  replace hci := Lib.hid (hci.out.below hb hz2)
  replace hOi := Lib.hid (OwnJ.keep (w' := w3) j hOi.out (fun k _ hk => hb.block k (by omega)) (Nat.le_refl _) (Nat.le_refl _))
  have hz2' := hb0.out.size
  replace hb0 := Lib.hid (hb0.out.trans (hb.mono hz2'))
  have hz3 := hb.size
  have hOx' := Lib.hid hOx
  have hOp' := Lib.hid hOp
  have hOr' := Lib.hid hOr
  clear q0 q1 q2 q3 hb hRd hOx hOp hOr
  go_upto_region 5 with ((with_reducible refine wpl ?_); refine wpList_store_cel rfl 56 (.tmp 6) (.tmp 19) (by rfl) w3.heap.size 0 #[.int .u8 M.kind, .int .u8 M.id.kind, .string M.id.text, .slice xA xa xb, .slice xB xc xd, .string M.method, .int .u8 M.params.kind, .string M.params.text, .slice pA pa pb, .slice pB pc pd, .int .u8 M.result.kind, .string M.result.text, .slice rA ra rb, .slice rB rc rd, .int .i64 M.code, .string M.text] _ #[.int .u8 M.kind, .int .u8 M.id.kind, .string M.id.text, .slice xA xa xb, .slice xB xc xd, .string M.method, .int .u8 M.params.kind, .string M.params.text, .slice pA pa pb, .slice pB pc pd, .int .u8 M.result.kind, .string M.result.text, .slice rA ra rb, .slice rB rc rd, .int .i64 M.code, .string M.text] 56 (by rfl) (by rfl) (Cel.fresh w3 56 _) (Nat.le_refl 16) (putA_whole _ _ rfl) msgInfo (by first | (simp; done) | (simp [Value.oneCell']; done)) ?_; intro W3 hc6 hA3; replace hc6 := Lib.hid hc6; replace hA3 := Lib.hid hA3)

  have hx : Below w3.heap.size w3 W3 := ((Below.refl _ _).alloc (Nat.le_refl _) _).trans (hA3.out.1 _ (Nat.le_refl _))
  have hz4 := hc6.out.lt
  have hz3' := hb0.out.size
  replace hcj := Lib.hid (hcj.out.below hx (by omega))
  replace hci := Lib.hid (hci.out.below hx (by omega))
  replace hOi := Lib.hid (OwnJ.keep (w' := W3) j hOi.out (fun k _ hk => hx.block k (by omega)) (Nat.le_refl _) (Nat.le_refl _))
  have hOx := Lib.hid (OwnJ.keep (w' := W3) _ hOx'.out (fun k _ hk => hx.block k (by omega)) (Nat.le_refl _) (Nat.le_refl _))
  have hOp := Lib.hid (OwnJ.keep (w' := W3) _ hOp'.out (fun k _ hk => hx.block k (by omega)) (Nat.le_refl _) (Nat.le_refl _))
  have hOr := Lib.hid (OwnJ.keep (w' := W3) _ hOr'.out (fun k _ hk => hx.block k (by omega)) (Nat.le_refl _) (Nat.le_refl _))
  replace hb0 := Lib.hid (hb0.out.trans (hx.mono hz3'))
  clear hx hA3 hOx' hOp' hOr'
  obtain ⟨q0, q1, q2, q3⟩ := hcj.out.c4
  have hRf' := Lib.hid (hRf.out _ hb0.out)
  clear hRf
  go_wp2_with fail
  refine hRf'.out.mono ?_
  intro e w4 hx
  obtain ⟨y1, y2, e1, e2, z1, z2, he, hJy, hJq, hJz, hb⟩ := hx
  dsimp only at he hJy hJq hJz
  obtain ⟨yA, ya, yb, yB, yc, yd, rfl, rfl⟩ := hJy.forms
  obtain ⟨qA, qa, qb, qB, qc, qd, rfl, rfl⟩ := hJq.forms
  obtain ⟨zA, za, zb, zB, zc, zd, rfl, rfl⟩ := hJz.forms
  unfold msgV at he
  subst he
  have hstep : ∀ W', Below W3.heap.size W3 W' → True := fun _ _ => trivial
  clear hstep
  replace hcj := Lib.hid (hcj.out.below hb (by omega))
  replace hci := Lib.hid (hci.out.below hb (by omega))
  replace hc6 := Lib.hid (hc6.out.below hb hz4)
  replace hOi := Lib.hid (OwnJ.keep (w' := w4) j hOi.out (fun k _ hk => hb.block k (by omega)) (Nat.le_refl _) (Nat.le_refl _))
  replace hOx := Lib.hid (OwnJ.keep (w' := w4) _ hOx.out (fun k _ hk => hb.block k (by omega)) (Nat.le_refl _) (Nat.le_refl _))
  replace hOp := Lib.hid (OwnJ.keep (w' := w4) _ hOp.out (fun k _ hk => hb.block k (by omega)) (Nat.le_refl _) (Nat.le_refl _))
  replace hOr := Lib.hid (OwnJ.keep (w' := w4) _ hOr.out (fun k _ hk => hb.block k (by omega)) (Nat.le_refl _) (Nat.le_refl _))
  have hz4' := hb0.out.size
  replace hb0 := Lib.hid (hb0.out.trans (hb.mono hz4'))
  have hz5 := hb.size
  replace hJy := Lib.hid hJy
  replace hJq := Lib.hid hJq
  replace hJz := Lib.hid hJz
  clear q0 q1 q2 q3 hb hRf'
  obtain ⟨dm, hdm⟩ := refMsgDesc
  obtain ⟨dn, hdn⟩ := msgDesc
  replace hdm := Lib.hid hdm
  replace hdn := Lib.hid hdn
  go_upto_region 6 with ((with_reducible refine wpl ?_); refine wpList_store_cel rfl 59 (.tmp 8) (.tmp 24) (by rfl) w4.heap.size 0 #[.int .u8 M.kind, .int .u8 M.id.kind, .string M.id.text, .slice yA ya yb, .slice yB yc yd, .string M.method, .int .u8 M.params.kind, .string M.params.text, .slice qA qa qb, .slice qB qc qd, .int .u8 M.result.kind, .string M.result.text, .slice zA za zb, .slice zB zc zd, .int .i64 M.code, .string M.text] _ #[.int .u8 M.kind, .int .u8 M.id.kind, .string M.id.text, .slice yA ya yb, .slice yB yc yd, .string M.method, .int .u8 M.params.kind, .string M.params.text, .slice qA qa qb, .slice qB qc qd, .int .u8 M.result.kind, .string M.result.text, .slice zA za zb, .slice zB zc zd, .int .i64 M.code, .string M.text] 59 (by rfl) (by rfl) (Cel.fresh w4 59 _) (Nat.le_refl 16) (putA_whole _ _ rfl) refMsgInfo (by first | (simp; done) | (simp [Value.oneCell']; done)) ?_; intro W4 hc8 hA3; replace hc8 := Lib.hid hc8; replace hA3 := Lib.hid hA3)
  have hx : Below w4.heap.size w4 W4 := ((Below.refl _ _).alloc (Nat.le_refl _) _).trans (hA3.out.1 _ (Nat.le_refl _))
  have hz6 := hc8.out.lt
  replace hcj := Lib.hid (hcj.out.below hx (by omega))
  replace hci := Lib.hid (hci.out.below hx (by omega))
  replace hc6 := Lib.hid (hc6.out.below hx (by omega))
  replace hOi := Lib.hid (OwnJ.keep (w' := W4) j hOi.out (fun k _ hk => hx.block k (by omega)) (Nat.le_refl _) (Nat.le_refl _))
  replace hOx := Lib.hid (OwnJ.keep (w' := W4) _ hOx.out (fun k _ hk => hx.block k (by omega)) (Nat.le_refl _) (Nat.le_refl _))
  replace hOp := Lib.hid (OwnJ.keep (w' := W4) _ hOp.out (fun k _ hk => hx.block k (by omega)) (Nat.le_refl _) (Nat.le_refl _))
  replace hOr := Lib.hid (OwnJ.keep (w' := W4) _ hOr.out (fun k _ hk => hx.block k (by omega)) (Nat.le_refl _) (Nat.le_refl _))
  replace hJy := Lib.hid (hJy.out.later hx)
  replace hJq := Lib.hid (hJq.out.later hx)
  replace hJz := Lib.hid (hJz.out.later hx)
  have hz5' := hb0.out.size
  replace hb0 := Lib.hid (hb0.out.trans (hx.mono hz5'))
  clear hx hA3
  obtain ⟨q0, q1, q2, q3⟩ := hci.out.c4
  have hRd := Lib.hid (hRid.out _ hb0.out hOi.out)
  clear hRid
  go_wp2_with fail
  refine hRd.out.mono ?_
  rintro e w5 ⟨d1, d2, rfl, hOd, hb⟩
  obtain ⟨dA, da, db, dB, dc, dd, rfl, rfl⟩ := hOd.forms
  obtain ⟨W5, hW5⟩ : ∃ W, w5.alloc (.cells #[.int .u8 D.kind, .string D.text, .slice dA da db, .slice dB dc dd] 25) = W := ⟨_, rfl⟩
  have hx : Below w5.heap.size w5 W5 := by rw [← hW5]; exact (Below.refl _ _).alloc (Nat.le_refl _) _
  have hcd : Cel W5 w5.heap.size 25 #[.int .u8 D.kind, .string D.text, .slice dA da db, .slice dB dc dd] := by rw [← hW5]; exact Cel.fresh _ _ _
  have hy := hb.trans (hx.mono hb.size)
  have hz7 := hb.size
  have hz8 := hcd.lt
  replace hOd := Lib.hid (OwnJ.keep (w' := W5) _ hOd (fun k _ hk => hx.block k hk) (Nat.le_refl _) (Nat.le_refl _))
  replace hcj := Lib.hid (hcj.out.below hy (by omega))
  replace hci := Lib.hid (hci.out.below hy (by omega))
  replace hc6 := Lib.hid (hc6.out.below hy (by omega))
  replace hc8 := Lib.hid (hc8.out.below hy (by omega))
  replace hOi := Lib.hid (OwnJ.keep (w' := W5) j hOi.out (fun k _ hk => hy.block k (by omega)) (Nat.le_refl _) (Nat.le_refl _))
  replace hOx := Lib.hid (OwnJ.keep (w' := W5) _ hOx.out (fun k _ hk => hy.block k (by omega)) (Nat.le_refl _) (Nat.le_refl _))
  replace hOp := Lib.hid (OwnJ.keep (w' := W5) _ hOp.out (fun k _ hk => hy.block k (by omega)) (Nat.le_refl _) (Nat.le_refl _))
  replace hOr := Lib.hid (OwnJ.keep (w' := W5) _ hOr.out (fun k _ hk => hy.block k (by omega)) (Nat.le_refl _) (Nat.le_refl _))
  replace hJy := Lib.hid (hJy.out.later hy)
  replace hJq := Lib.hid (hJq.out.later hy)
  replace hJz := Lib.hid (hJz.out.later hy)
  have hz6' := hb0.out.size
  replace hb0 := Lib.hid (hb0.out.trans (hy.mono hz6'))
  replace hcd := Lib.hid hcd
  replace hW5 := Lib.hid hW5
  clear q0 q1 q2 q3 hb hx hy hRd
  go_upto_region 7 with fail
  rw [hW5.out]
  clear hW5
  obtain ⟨dj, hdj⟩ := jsnDesc
  replace hdj := Lib.hid hdj
  have hMo : MsgJ W5 M (.slice xA xa xb) (.slice xB xc xd) (.slice pA pa pb) (.slice pB pc pd) (.slice rA ra rb) (.slice rB rc rd) := ⟨(OwnJ.jv _ hOx.out).more (fun _ _ _ => trivial), (OwnJ.jv _ hOp.out).more (fun _ _ _ => trivial), (OwnJ.jv _ hOr.out).more (fun _ _ _ => trivial)⟩
  have hMr : MsgJ W5 M (.slice yA ya yb) (.slice yB yc yd) (.slice qA qa qb) (.slice qB qc qd) (.slice zA za zb) (.slice zB zc zd) := ⟨hJy.out.more (fun _ _ _ => trivial), hJq.out.more (fun _ _ _ => trivial), hJz.out.more (fun _ _ _ => trivial)⟩
  have hOf := Lib.hid (fun (W : World) (hB : Below W5.heap.size W5 W) => of_any M W _ _ _ _ _ _ (hMo.later hB) hMb.out)
  have hSM := Lib.hid (fun (W : World) (u1 u2 t1 t2 v1 v2 : Value) (hB : Below W5.heap.size W5 W) (hU : MsgJ W M u1 u2 t1 t2 v1 v2) => refSameM_any M W _ _ _ _ _ _ _ _ _ _ _ _ hU (hMr.later hB) hMb.out)
  have hjD := OwnJ.jv _ hOd.out
  have hSD := fun (W : World) (g1 g2 : Value) (X : Nat → Prop) (hB : Below W5.heap.size W5 W) (hG : JV W X D g1 g2) => refSameJ_any D D _ _ W _ _ _ _ (hjD.later hB) hG (by omega) (by omega)
  simp only [jsame_refl] at hSD
  replace hSD := Lib.hid hSD
  have hb5 := Lib.hid (fun (W : World) (hB : Below W5.heap.size W5 W) => hb0.out.trans (hB.mono (show w.heap.size ≤ W5.heap.size from hb0.out.size)))
  have hC6 := Lib.hid (fun (W : World) (hB : Below W5.heap.size W5 W) => (hc6.out.below hB hc6.out.lt).range)
  have hC8 := Lib.hid (fun (W : World) (hB : Below W5.heap.size W5 W) => (hc8.out.below hB hc8.out.lt).range)
  have hCd := Lib.hid (fun (W : World) (hB : Below W5.heap.size W5 W) => (hcd.out.below hB hcd.out.lt).range)
  have hCj := Lib.hid (fun (W : World) (hB : Below W5.heap.size W5 W) => (hcj.out.below hB hcj.out.lt).range)
  clear hMo hMr hjD
  refine wp_region_held_drew (S := fun W => Below W5.heap.size W5 W) (by kernel_rfl) (bel_drew (Below.refl _ _)) (fun hS0 => ?_)
  refine takeH (i := 0) (v := .int .i64 c) rfl (by kernel_rfl) (by kernel_rfl) (by kernel_rfl) (fun _ _ _ h => h) (Or.inl ⟨by rfl, by
    intro w' hSw
    go_simp⟩) hS0 ?_
  try simp only [Act.put, List.setIfInBounds_toArray, List.set_cons_zero, List.set_cons_succ]
  refine takeH (i := 1) (v := .int .i64 c) rfl (by kernel_rfl) (by kernel_rfl) (by kernel_rfl) (fun _ _ _ h => h) (Or.inl ⟨by rfl, by
    intro w' hSw
    go_simp⟩) hS0 ?_
  try simp only [Act.put, List.setIfInBounds_toArray, List.set_cons_zero, List.set_cons_succ]
  refine takeH (i := 2) (v := .bool false) rfl (by kernel_rfl) (by kernel_rfl) (by kernel_rfl) (fun _ _ _ h => h) (Or.inl ⟨by rfl, by
    intro w' hSw
    go_simp⟩) hS0 ?_
  try simp only [Act.put, List.setIfInBounds_toArray, List.set_cons_zero, List.set_cons_succ]
  refine takeH (i := 3) (v := .bool false) rfl (by kernel_rfl) (by kernel_rfl) (by kernel_rfl) (fun _ _ _ h => h) (Or.inl ⟨by rfl, by
    intro w' hSw
    go_simp⟩) hS0 ?_
  try simp only [Act.put, List.setIfInBounds_toArray, List.set_cons_zero, List.set_cons_succ]
  refine takeH (i := 4) (v := .agg #[.int .u8 M.kind, .int .u8 M.id.kind, .string M.id.text, .slice xA xa xb, .slice xB xc xd, .string M.method, .int .u8 M.params.kind, .string M.params.text, .slice pA pa pb, .slice pB pc pd, .int .u8 M.result.kind, .string M.result.text, .slice rA ra rb, .slice rB rc rd, .int .i64 M.code, .string M.text]) rfl (by kernel_rfl) (by kernel_rfl) (by kernel_rfl) (fun _ _ _ h => h) (yieldsIf_load_mid (by rfl) 56 (.tmp 6) rfl w3.heap.size 0 (by rfl) [.int .u8 M.kind, .int .u8 M.id.kind, .string M.id.text, .slice xA xa xb, .slice xB xc xd, .string M.method, .int .u8 M.params.kind, .string M.params.text, .slice pA pa pb, .slice pB pc pd, .int .u8 M.result.kind, .string M.result.text, .slice rA ra rb, .slice rB rc rd, .int .i64 M.code, .string M.text] dn hC6.out hdn.out.1 hdn.out.2 msgInfo) hS0 ?_
  try simp only [Act.put, List.setIfInBounds_toArray, List.set_cons_zero, List.set_cons_succ]
  refine takeH (i := 6) (v := .agg #[.int .u8 M.kind, .int .u8 M.id.kind, .string M.id.text, .slice yA ya yb, .slice yB yc yd, .string M.method, .int .u8 M.params.kind, .string M.params.text, .slice qA qa qb, .slice qB qc qd, .int .u8 M.result.kind, .string M.result.text, .slice zA za zb, .slice zB zc zd, .int .i64 M.code, .string M.text]) rfl (by kernel_rfl) (by kernel_rfl) (by kernel_rfl) (fun _ _ _ h => h) (yieldsIf_load_mid (by rfl) 59 (.tmp 8) rfl w4.heap.size 0 (by rfl) [.int .u8 M.kind, .int .u8 M.id.kind, .string M.id.text, .slice yA ya yb, .slice yB yc yd, .string M.method, .int .u8 M.params.kind, .string M.params.text, .slice qA qa qb, .slice qB qc qd, .int .u8 M.result.kind, .string M.result.text, .slice zA za zb, .slice zB zc zd, .int .i64 M.code, .string M.text] dm hC8.out hdm.out.1 hdm.out.2 refMsgInfo) hS0 ?_
  try simp only [Act.put, List.setIfInBounds_toArray, List.set_cons_zero, List.set_cons_succ]
  refine oneH (i := 5) (by kernel_rfl) rfl (fun K hK => ?_)
  go_simp
  refine (hOf.out _ hS0).mono ?_
  rintro e v1 ⟨u1, u2, t1, t2, o1, o2, he, hMu, hb⟩
  obtain ⟨uA, ua, ub, uB, uc, ud, rfl, rfl⟩ := hMu.1.forms
  obtain ⟨tA, ta, tb, tB, tc, td, rfl, rfl⟩ := hMu.2.1.forms
  obtain ⟨oA, oa, ob, oB, oc, od, rfl, rfl⟩ := hMu.2.2.forms
  unfold msgV at he
  subst he
  replace hMu := Lib.hid hMu
  have hS1 : Below W5.heap.size W5 v1 := hS0.trans (hb.mono hS0.size)
  clear hb
  refine hK.out _ _ hS1 ?_
  clear hK
  try simp only [Act.put, List.setIfInBounds_toArray, List.set_cons_zero, List.set_cons_succ]
  refine oneH (i := 7) (by kernel_rfl) rfl (fun K hK => ?_)
  go_simp
  refine (hSM.out _ _ _ _ _ _ _ hS1 hMu.out).mono ?_
  rintro e v2 ⟨rfl, hb⟩
  clear hMu
  have hS2 : Below W5.heap.size W5 v2 := hS1.trans (hb.mono hS1.size)
  clear hb
  refine hK.out _ _ hS2 ?_
  clear hK
  try simp only [Act.put, List.setIfInBounds_toArray, List.set_cons_zero, List.set_cons_succ]
  refine takeH (i := 8) (v := .bool false) rfl (by kernel_rfl) (by kernel_rfl) (by kernel_rfl) (fun _ _ _ h => h) (Or.inl ⟨by rfl, by
    intro w' hSw
    go_simp⟩) hS2 ?_
  try simp only [Act.put, List.setIfInBounds_toArray, List.set_cons_zero, List.set_cons_succ]
  refine takeH (i := 9) (v := .bool false) rfl (by kernel_rfl) (by kernel_rfl) (by kernel_rfl) (fun _ _ _ h => h) (Or.inl ⟨by rfl, by
    intro w' hSw
    go_simp⟩) hS2 ?_
  try simp only [Act.put, List.setIfInBounds_toArray, List.set_cons_zero, List.set_cons_succ]
  refine takeH (i := 10) (v := .bool false) rfl (by kernel_rfl) (by kernel_rfl) (by kernel_rfl) (fun _ _ _ h => h) (Or.inl ⟨by rfl, by
    intro w' hSw
    go_simp⟩) hS2 ?_
  try simp only [Act.put, List.setIfInBounds_toArray, List.set_cons_zero, List.set_cons_succ]
  refine takeH (i := 11) (v := .agg #[.int .u8 D.kind, .string D.text, .slice dA da db, .slice dB dc dd]) rfl (by kernel_rfl) (by kernel_rfl) (by kernel_rfl) (fun _ _ _ h => h) (yieldsIf_load_mid (by rfl) 25 (.tmp 10) rfl w5.heap.size 0 (by rfl) [.int .u8 D.kind, .string D.text, .slice dA da db, .slice dB dc dd] dj hCd.out hdj.out.1 hdj.out.2 jsnInfo) hS2 ?_
  try simp only [Act.put, List.setIfInBounds_toArray, List.set_cons_zero, List.set_cons_succ]
  refine takeH (i := 12) (v := .agg #[.int .u8 j.kind, .string j.text, .slice A1 n1 c1, .slice A2 n2 c2]) rfl (by kernel_rfl) (by kernel_rfl) (by kernel_rfl) (fun _ _ _ h => h) (yieldsIf_load_mid (by rfl) 25 (.tmp 2) rfl w.heap.size 0 (by rfl) [.int .u8 j.kind, .string j.text, .slice A1 n1 c1, .slice A2 n2 c2] dj hCj.out hdj.out.1 hdj.out.2 jsnInfo) hS2 ?_
  try simp only [Act.put, List.setIfInBounds_toArray, List.set_cons_zero, List.set_cons_succ]
  refine oneH (i := 13) (by kernel_rfl) rfl (fun K hK => ?_)
  go_simp
  refine (hRi.out _ (hb5.out _ hS2)).mono ?_
  rintro e v3 ⟨g1, g2, rfl, hJg, hb⟩
  obtain ⟨gA, ga, gb, gB, gc, gd, rfl, rfl⟩ := hJg.forms
  replace hJg := Lib.hid hJg
  have hS3 : Below W5.heap.size W5 v3 := hS2.trans (hb.mono hS2.size)
  clear hb
  refine hK.out _ _ hS3 ?_
  clear hK
  try simp only [Act.put, List.setIfInBounds_toArray, List.set_cons_zero, List.set_cons_succ]
  refine oneH (i := 14) (by kernel_rfl) rfl (fun K hK => ?_)
  go_simp
  refine (hSD.out _ _ _ _ hS3 hJg.out).mono ?_
  rintro e v4 ⟨rfl, hb⟩
  clear hJg
  have hS4 : Below W5.heap.size W5 v4 := hS3.trans (hb.mono hS3.size)
  clear hb
  refine hK.out _ _ hS4 ?_
  clear hK
  try simp only [Act.put, List.setIfInBounds_toArray, List.set_cons_zero, List.set_cons_succ]
  refine takeH (i := 15) (v := .bool false) rfl (by kernel_rfl) (by kernel_rfl) (by kernel_rfl) (fun _ _ _ h => h) (Or.inl ⟨by rfl, by
    intro w' hSw
    go_simp⟩) hS4 ?_
  try simp only [Act.put, List.setIfInBounds_toArray, List.set_cons_zero, List.set_cons_succ]
  refine takeH (i := 16) (v := .bool false) rfl (by kernel_rfl) (by kernel_rfl) (by kernel_rfl) (fun _ _ _ h => h) (Or.inl ⟨by rfl, by
    intro w' hSw
    go_simp⟩) hS4 ?_
  try simp only [Act.put, List.setIfInBounds_toArray, List.set_cons_zero, List.set_cons_succ]
  refine takeH (i := 17) (v := .bool false) rfl (by kernel_rfl) (by kernel_rfl) (by kernel_rfl) (fun _ _ _ h => h) (Or.inl ⟨by rfl, by
    intro w' hSw
    go_simp⟩) hS4 ?_
  try simp only [Act.put, List.setIfInBounds_toArray, List.set_cons_zero, List.set_cons_succ]
  refine takeH (i := 18) (v := .int .i64 code) rfl (by kernel_rfl) (by kernel_rfl) (by kernel_rfl) (fun _ _ _ h => h) (Or.inl ⟨by rfl, by
    intro w' hSw
    go_simp⟩) hS4 ?_
  try simp only [Act.put, List.setIfInBounds_toArray, List.set_cons_zero, List.set_cons_succ]
  refine takeH (i := 20) (v := .int .i64 code) rfl (by kernel_rfl) (by kernel_rfl) (by kernel_rfl) (fun _ _ _ h => h) (Or.inl ⟨by rfl, by
    intro w' hSw
    go_simp⟩) hS4 ?_
  try simp only [Act.put, List.setIfInBounds_toArray, List.set_cons_zero, List.set_cons_succ]
  refine oneH (i := 19) (by kernel_rfl) rfl (fun K hK => ?_)
  go_simp
  refine (hGa.out _ (hb5.out _ hS4)).mono ?_
  rintro e v5 ⟨rfl, hb⟩
  have hS5 : Below W5.heap.size W5 v5 := hS4.trans (hb.mono hS4.size)
  clear hb
  refine hK.out _ _ hS5 ?_
  clear hK
  try simp only [Act.put, List.setIfInBounds_toArray, List.set_cons_zero, List.set_cons_succ]
  refine oneH (i := 21) (by kernel_rfl) rfl (fun K hK => ?_)
  go_simp
  refine (hRa.out _).mono ?_
  rintro e v6 ⟨rfl, hb⟩
  have hS6 : Below W5.heap.size W5 v6 := hS5.trans (hb.mono hS5.size)
  clear hb
  refine hK.out _ _ hS6 ?_
  clear hK
  try simp only [Act.put, List.setIfInBounds_toArray, List.set_cons_zero, List.set_cons_succ]
  refine takeH (i := 22) (v := .bool false) rfl (by kernel_rfl) (by kernel_rfl) (by kernel_rfl) (fun _ _ _ h => h) (Or.inl ⟨by rfl, by
    intro w' hSw
    go_simp⟩) hS6 ?_
  try simp only [Act.put, List.setIfInBounds_toArray, List.set_cons_zero, List.set_cons_succ]
  refine takeH (i := 23) (v := .bool false) rfl (by kernel_rfl) (by kernel_rfl) (by kernel_rfl) (fun _ _ _ h => h) (Or.inl ⟨by rfl, by
    intro w' hSw
    go_simp⟩) hS6 ?_
  try simp only [Act.put, List.setIfInBounds_toArray, List.set_cons_zero, List.set_cons_succ]
  refine wpAnyH_done (by kernel_rfl) ?_ _
  have hcj := Lib.hid (hcj.out.below hS6 hcj.out.lt)
  have hci := Lib.hid (hci.out.below hS6 hci.out.lt)
  have hc6 := Lib.hid (hc6.out.below hS6 hc6.out.lt)
  have hcd := Lib.hid (hcd.out.below hS6 hcd.out.lt)
  have hb0 := Lib.hid (hb5.out _ hS6)
  have hz9 := hS6.size
  have hOi := Lib.hid (OwnJ.keep (w' := v6) j hOi.out (fun k _ hk => hS6.block k (by omega)) (Nat.le_refl _) (Nat.le_refl _))
  have hOx := Lib.hid (OwnJ.keep (w' := v6) _ hOx.out (fun k _ hk => hS6.block k (by omega)) (Nat.le_refl _) (Nat.le_refl _))
  have hOp := Lib.hid (OwnJ.keep (w' := v6) _ hOp.out (fun k _ hk => hS6.block k (by omega)) (Nat.le_refl _) (Nat.le_refl _))
  have hOr := Lib.hid (OwnJ.keep (w' := v6) _ hOr.out (fun k _ hk => hS6.block k (by omega)) (Nat.le_refl _) (Nat.le_refl _))
  have hOd := Lib.hid (OwnJ.keep (w' := v6) _ hOd.out (fun k _ hk => hS6.block k (by omega)) (Nat.le_refl _) (Nat.le_refl _))
  obtain ⟨bi, bp, br⟩ := hMb.out
  clear hJy hJq hJz hOf hSM hSD hb5 hC6 hC8 hCd hCj hS0 hS1 hS2 hS3 hS4 hS5 hS6 hGa hRa hRi hMb hc8 hdm hdn hdj
  have m1 : v6.cell? ⟨w3.heap.size, 1, none⟩ = some (.int .u8 M.id.kind) := by rw [hc6.out.cell]; rfl
  have m2 : v6.cell? ⟨w3.heap.size, 2, none⟩ = some (.string M.id.text) := by rw [hc6.out.cell]; rfl
  have m3 : v6.cell? ⟨w3.heap.size, 3, none⟩ = some (.slice xA xa xb) := by rw [hc6.out.cell]; rfl
  have m4 : v6.cell? ⟨w3.heap.size, 4, none⟩ = some (.slice xB xc xd) := by rw [hc6.out.cell]; rfl
  have hSp := Lib.hid (spoil7_any M.id W2.heap.size s1 v6 _ _ hOx.out (by omega) (by omega) (by omega))
  go_upto_region 9 with fail
  go_wp2_with fail
  refine hSp.out.mono ?_
  rintro e v7 ⟨rfl, hsp⟩
  clear hSp m1 m2 m3 m4
  replace hcj := Lib.hid (hsp.cel hcj.out (by omega))
  replace hci := Lib.hid (hsp.cel hci.out (by omega))
  replace hcd := Lib.hid (hsp.cel hcd.out (by omega))
  replace hc6 := Lib.hid (hsp.cel hc6.out (by omega))
  replace hOi := Lib.hid (hsp.own hOi.out (by omega) (by omega))
  replace hOp := Lib.hid (hsp.own hOp.out (by omega) (by omega))
  replace hOr := Lib.hid (hsp.own hOr.out (by omega) (by omega))
  replace hOd := Lib.hid (hsp.own hOd.out (by omega) (by omega))
  replace hb0 := Lib.hid (hb0.out.trans (hsp.1.mono (by omega)))
  have hy7 := hsp.1.size
  clear hsp
  have m6 : v7.cell? ⟨w3.heap.size, 6, none⟩ = some (.int .u8 M.params.kind) := by rw [hc6.out.cell]; rfl
  have m7 : v7.cell? ⟨w3.heap.size, 7, none⟩ = some (.string M.params.text) := by rw [hc6.out.cell]; rfl
  have m8 : v7.cell? ⟨w3.heap.size, 8, none⟩ = some (.slice pA pa pb) := by rw [hc6.out.cell]; rfl
  have m9 : v7.cell? ⟨w3.heap.size, 9, none⟩ = some (.slice pB pc pd) := by rw [hc6.out.cell]; rfl
  have hSp := Lib.hid (spoil7_any M.params s1 s2 v7 _ _ hOp.out (by omega) (by omega) (by omega))
  go_upto_region 10 with fail
  go_wp2_with fail
  refine hSp.out.mono ?_
  rintro e v8 ⟨rfl, hsp⟩
  clear hSp m6 m7 m8 m9
  replace hcj := Lib.hid (hsp.cel hcj.out (by omega))
  replace hci := Lib.hid (hsp.cel hci.out (by omega))
  replace hcd := Lib.hid (hsp.cel hcd.out (by omega))
  replace hc6 := Lib.hid (hsp.cel hc6.out (by omega))
  replace hOi := Lib.hid (hsp.own hOi.out (by omega) (by omega))
  replace hOr := Lib.hid (hsp.own hOr.out (by omega) (by omega))
  replace hOd := Lib.hid (hsp.own hOd.out (by omega) (by omega))
  replace hb0 := Lib.hid (hb0.out.trans (hsp.1.mono (by omega)))
  have hy8 := hsp.1.size
  clear hsp
  have m10 : v8.cell? ⟨w3.heap.size, 10, none⟩ = some (.int .u8 M.result.kind) := by rw [hc6.out.cell]; rfl
  have m11 : v8.cell? ⟨w3.heap.size, 11, none⟩ = some (.string M.result.text) := by rw [hc6.out.cell]; rfl
  have m12 : v8.cell? ⟨w3.heap.size, 12, none⟩ = some (.slice rA ra rb) := by rw [hc6.out.cell]; rfl
  have m13 : v8.cell? ⟨w3.heap.size, 13, none⟩ = some (.slice rB rc rd) := by rw [hc6.out.cell]; rfl
  have hSp := Lib.hid (spoil7_any M.result s2 w3.heap.size v8 _ _ hOr.out (by omega) (by omega) (by omega))
  go_upto_region 11 with fail
  go_wp2_with fail
  refine hSp.out.mono ?_
  rintro e v9 ⟨rfl, hsp⟩
  clear hSp m10 m11 m12 m13
  replace hcj := Lib.hid (hsp.cel hcj.out (by omega))
  replace hci := Lib.hid (hsp.cel hci.out (by omega))
  replace hcd := Lib.hid (hsp.cel hcd.out (by omega))
  replace hc6 := Lib.hid (hsp.cel hc6.out (by omega))
  replace hOi := Lib.hid (hsp.own hOi.out (by omega) (by omega))
  replace hOd := Lib.hid (hsp.own hOd.out (by omega) (by omega))
  replace hb0 := Lib.hid (hb0.out.trans (hsp.1.mono (by omega)))
  have hy9 := hsp.1.size
  clear hsp
  have m0 : v9.cell? ⟨w5.heap.size, 0, none⟩ = some (.int .u8 D.kind) := by rw [hcd.out.cell]; rfl
  have m1 : v9.cell? ⟨w5.heap.size, 1, none⟩ = some (.string D.text) := by rw [hcd.out.cell]; rfl
  have m2 : v9.cell? ⟨w5.heap.size, 2, none⟩ = some (.slice dA da db) := by rw [hcd.out.cell]; rfl
  have m3 : v9.cell? ⟨w5.heap.size, 3, none⟩ = some (.slice dB dc dd) := by rw [hcd.out.cell]; rfl
  have hSp := Lib.hid (spoil7_any D W4.heap.size w5.heap.size v9 _ _ hOd.out (by omega) (by omega) (by omega))
  go_upto_region 12 with fail
  go_wp2_with fail
  refine hSp.out.mono ?_
  rintro e v10 ⟨rfl, hsp⟩
  clear hSp m0 m1 m2 m3
  replace hcj := Lib.hid (hsp.cel hcj.out (by omega))
  replace hci := Lib.hid (hsp.cel hci.out (by omega))
  replace hcd := Lib.hid (hsp.cel hcd.out (by omega))
  replace hOi := Lib.hid (hsp.own hOi.out (by omega) (by omega))
  replace hb0 := Lib.hid (hb0.out.trans (hsp.1.mono (by omega)))
  have hy10 := hsp.1.size
  clear hsp
  obtain ⟨i0, i1, i2, i3⟩ := hci.out.c4
  obtain ⟨q0, q1, q2, q3⟩ := hcj.out.c4
  have hfin := refSameJ_any j j _ _ v10 _ _ _ _ (OwnJ.jv j hOi.out) (hJl.out _ hb0.out) (by omega) (by omega)
  rw [jsame_refl] at hfin
  replace hfin := Lib.hid hfin
  clear hJl
  go_upto_region 13 with fail
  go_wp2_with fail
  refine hfin.out.mono ?_
  rintro e vz ⟨rfl, hb⟩
  have hbz := hb0.out.size
  have hbe := Lib.hid (hb0.out.trans (hb.mono hbz))
  clear hb hfin i0 i1 i2 i3 q0 q1 q2 q3
  go_wp2_with fail
  go_ret
  exact ⟨rfl, hbe.out⟩
end Go.Proofs.YtamcbgkppgdniaaGreatDoor
