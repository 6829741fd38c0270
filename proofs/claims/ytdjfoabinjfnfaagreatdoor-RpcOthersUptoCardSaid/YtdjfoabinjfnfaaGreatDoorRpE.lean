/-
  The walk of rpc.Read.
-/
import Derived.Test.YtdjfoabinjfnfaaGreatDoorRpD
import Derived.Test.YtdjfoabinjfnfaaGreatDoorM13
namespace Go.Proofs.YtdjfoabinjfnfaaGreatDoor
open Go.RowKit
def ReadEnd (M : Msg × Int) (w : World) (e : Ending) (w' : World) : Prop :=
  ∃ x1 x2 p1 p2 r1 r2 s1 s2, e = .returned (.tuple #[msgV M.1 x1 x2 p1 p2 r1 r2, .int .i64 M.2]) ∧ w.heap.size ≤ s1 ∧ s1 ≤ s2 ∧ s2 ≤ w'.heap.size ∧
    OwnJ w' 9 25 M.1.id w.heap.size s1 x1 x2 ∧ OwnJ w' 9 25 M.1.params s1 s2 p1 p2 ∧ OwnJ w' 9 25 M.1.result s2 w'.heap.size r1 r2 ∧ Below w.heap.size w w'
theorem zeroRead {w w' : World} {c : Int} (h : Below w.heap.size w w') : ReadEnd (zeroM, c) w (.returned (.tuple #[.agg #[.int .u8 0, .int .u8 0, .string ⟨#[]⟩, .slice none 0 0, .slice none 0 0, .string ⟨#[]⟩, .int .u8 0, .string ⟨#[]⟩, .slice none 0 0, .slice none 0 0, .int .u8 0, .string ⟨#[]⟩, .slice none 0 0, .slice none 0 0, .int .i64 0, .string ⟨#[]⟩], .int .i64 c])) w' :=
  ⟨nilV, nilV, nilV, nilV, nilV, nilV, w.heap.size, w.heap.size, rfl, Nat.le_refl _, Nat.le_refl _, h.size, zero_own _ _ _ _ _, zero_own _ _ _ _ _, zero_own _ _ _ _ _, h⟩
structure RdI (j : Jsn) (jn jl : Value) (w W : World) : Prop where
  cj : Cel W w.heap.size 25 #[.int .u8 j.kind, .string j.text, jn, jl]
  c2 : Cel W (w.heap.size + 1) 73 #[.int .u8 0, .int .u8 0, .string ⟨#[]⟩, .slice none 0 0, .slice none 0 0, .string ⟨#[]⟩, .int .u8 0, .string ⟨#[]⟩, .slice none 0 0, .slice none 0 0, .int .u8 0, .string ⟨#[]⟩, .slice none 0 0, .slice none 0 0, .int .i64 0, .string ⟨#[]⟩]
  bel : Below w.heap.size w W
  sz : w.heap.size + 2 ≤ W.heap.size
theorem RdI.step {j : Jsn} {jn jl : Value} {w W W' : World} (h : RdI j jn jl w W) (hb : Below W.heap.size W W') : RdI j jn jl w W' :=
  ⟨h.cj.below hb h.cj.lt, h.c2.below hb h.c2.lt, h.bel.trans (hb.mono h.bel.size), Nat.le_trans h.sz hb.size⟩
theorem RdI.alone {j : Jsn} {jn jl : Value} {w W W' : World} {b : Nat} (h : RdI j jn jl w W) (hb : Alone b W W') (hlt : w.heap.size + 2 ≤ b) : RdI j jn jl w W' :=
  ⟨hb.cel h.cj (by omega), hb.cel h.c2 (by omega), h.bel.trans (hb.1 _ (by omega)), by have := hb.2.2; have := h.sz; omega⟩
set_option maxRecDepth 20000 in
set_option maxHeartbeats 16000000 in
theorem rpcRead_any (j : Jsn) (X : Nat → Prop) (w : World) (jn jl : Value) (hE : EnvU w) (hV : JV w X j jn jl) (hbj : jbulk j ≤ 1000000) :
    Calls Tryz.prog 44 #[jvV j jn jl] w (ReadEnd (jread ownL Lib.validD j) w) := by
  have hCk := Lib.hid (fun (W : World) (hB : Below w.heap.size w W) => jsnCheck_any j X W _ _ (hE.below hB) (hV.later hB) hbj)
  have hGet := fun (nm : ByteArray) (W : World) (hB : Below w.heap.size w W) => jsnGet_any j X W _ _ nm (hV.later hB) (by omega)
  unfold GetJEnd at hGet
  have hAsk := fun (id m : Jsn) (Y Z : Nat → Prop) (W : World) (hB : Below w.heap.size w W) (i1 i2 m1 m2 : Value) (has : Bool) (hI : JV W Y id i1 i2) (hM : JV W Z m m1 m2) (hbi : jbulk id ≤ 1000000) => rpcAsks_any j id m X Y Z W jn jl i1 i2 m1 m2 has (hV.later hB) hI hM hbj hbi
  have hAns := fun (id : Jsn) (Y : Nat → Prop) (W : World) (hB : Below w.heap.size w W) (i1 i2 : Value) (has : Bool) (hI : JV W Y id i1 i2) (hbi : jbulk id ≤ 1000000) => rpcAnswers_any j id X Y W jn jl i1 i2 has (hV.later hB) hI hbj hbi
  have hbid := jgd_bulk j kId
  obtain ⟨A1, n1, c1, A2, n2, c2, rfl, rfl⟩ := hV.forms
  obtain ⟨W0, hW0⟩ : ∃ W0, (w.alloc (.cells #[.int .u8 j.kind, .string j.text, .slice A1 n1 c1, .slice A2 n2 c2] 25)).alloc (.cells #[.int .u8 0, .int .u8 0, .string ⟨#[]⟩, .slice none 0 0, .slice none 0 0, .string ⟨#[]⟩, .int .u8 0, .string ⟨#[]⟩, .slice none 0 0, .slice none 0 0, .int .u8 0, .string ⟨#[]⟩, .slice none 0 0, .slice none 0 0, .int .i64 0, .string ⟨#[]⟩] 73) = W0 := ⟨_, rfl⟩
  have hV0 : RdI j (.slice A1 n1 c1) (.slice A2 n2 c2) w W0 := by
    rw [← hW0]
    refine ⟨(Cel.fresh w 25 _).alloc _, ?_, ((Below.refl _ _).alloc (Nat.le_refl _) _).alloc (by simp) _, by simp⟩
    have := Cel.fresh (w.alloc (.cells #[.int .u8 j.kind, .string j.text, .slice A1 n1 c1, .slice A2 n2 c2] 25)) 73 #[.int .u8 0, .int .u8 0, .string ⟨#[]⟩, .slice none 0 0, .slice none 0 0, .string ⟨#[]⟩, .int .u8 0, .string ⟨#[]⟩, .slice none 0 0, .slice none 0 0, .int .u8 0, .string ⟨#[]⟩, .slice none 0 0, .slice none 0 0, .int .i64 0, .string ⟨#[]⟩]
    simpa using this
  obtain ⟨R, hR⟩ : ∃ R, jread ownL Lib.validD j = R := ⟨_, rfl⟩
  rw [hR]
  unfold jread at hR
  obtain ⟨ck, hck⟩ : ∃ ck, jcheck ownL Lib.validD j = ck := ⟨_, rfl⟩
  rw [hck] at hR hCk
  clear hck hV hE
  obtain ⟨dm, hdm⟩ := msgDesc
  replace hdm := Lib.hid hdm
  replace hW0 := Lib.hid hW0
  replace hGet := Lib.hid hGet
  replace hAsk := Lib.hid hAsk
  replace hAns := Lib.hid hAns
  replace hV0 := Lib.hid hV0
  unfold jvV
  go_enter Tryz.func44, Tryz.ntmps44
  go_upto_region 1 with fail
  rw [hW0.out]
  clear hW0
  obtain ⟨q0, q1, q2, q3⟩ := hV0.out.cj.c4
  go_wp2_with fail
  refine (hCk.out _ hV0.out.bel).mono ?_
  rintro e w1 ⟨rfl, hb⟩
  have hV1 := Lib.hid (hV0.out.step hb)
  clear q0 q1 q2 q3 hV0 hb hCk
  by_cases hc0 : ck = 0
  · subst hc0
    rw [if_neg (by simp)] at hR
    replace hR := Lib.hid hR
    obtain ⟨q0, q1, q2, q3⟩ := hV1.out.cj.c4
    go_upto_region 4 with fail
    go_wp2_with fail
    refine (hGet.out kVer _ hV1.out.bel).mono ?_
    rintro e w2 ⟨vn, vl, rfl, hOv, hbv⟩
    obtain ⟨v, hv⟩ : ∃ x, (jget j kVer).getD zeroJ = x := ⟨_, rfl⟩
    obtain ⟨hasv, hhv⟩ : ∃ x, (jget j kVer).isSome = x := ⟨_, rfl⟩
    rw [hv] at hOv
    rw [hv, hhv]
    have hgv : jgd j kVer = v := hv
    have hsv : jgs j kVer = hasv := hhv
    obtain ⟨vA, va, vb, vB, vc, vd, rfl, rfl⟩ := hOv.forms
    obtain ⟨W2, hW2⟩ : ∃ W, w2.alloc (.cells #[.int .u8 v.kind, .string v.text, .slice vA va vb, .slice vB vc vd] 25) = W := ⟨_, rfl⟩
    have hxv : Below w2.heap.size w2 W2 := by rw [← hW2]; exact (Below.refl _ _).alloc (Nat.le_refl _) _
    have hCv : Cel W2 w2.heap.size 25 #[.int .u8 v.kind, .string v.text, .slice vA va vb, .slice vB vc vd] := by rw [← hW2]; exact Cel.fresh _ _ _
    have hlv := hCv.lt
    have hyv := hbv.trans (hxv.mono hbv.size)
    have hszv := hbv.size
    replace hOv := Lib.hid (OwnJ.keep (w' := W2) v hOv (fun k _ hk => hxv.block k hk) (Nat.le_refl _) (Nat.le_refl _))
    replace hW2 := Lib.hid hW2
    replace hCv := Lib.hid hCv
    clear hxv hbv hv hhv q0 q1 q2 q3
    rw [hgv, hsv] at hR
    have hV2 := Lib.hid (hV1.out.step hyv)
    clear hgv hsv hyv hV1 hOv
    obtain ⟨v0, v1, v2, v3⟩ := hCv.out.c4
    go_upto_region 5 with fail
    rw [hW2.out]
    clear hW2
    cases hasv
    · clear v0 v1 v2 v3
      go_upto_region 6 with fail
      go_wp2_with (refine wpList_store_cel rfl 73 (.tmp 2) (.tmp 35) (by rfl) (w.heap.size + 1) 0 #[.int .u8 0, .int .u8 0, .string ⟨#[]⟩, .slice none 0 0, .slice none 0 0, .string ⟨#[]⟩, .int .u8 0, .string ⟨#[]⟩, .slice none 0 0, .slice none 0 0, .int .u8 0, .string ⟨#[]⟩, .slice none 0 0, .slice none 0 0, .int .i64 0, .string ⟨#[]⟩] _ #[.int .u8 0, .int .u8 0, .string ⟨#[]⟩, .slice none 0 0, .slice none 0 0, .string ⟨#[]⟩, .int .u8 0, .string ⟨#[]⟩, .slice none 0 0, .slice none 0 0, .int .u8 0, .string ⟨#[]⟩, .slice none 0 0, .slice none 0 0, .int .i64 0, .string ⟨#[]⟩] 73 (by rfl) (by rfl) hV2.out.c2 (Nat.le_refl 16) (putA_whole _ _ rfl) msgInfo (by first | (simp; done) | (simp [Value.oneCell']; done)) ?_; intro w9 hF hA9; replace hF := Lib.hid hF; replace hA9 := Lib.hid hA9)
      refine bodyPost_ret (results_cel2 rfl _ _ _ _ _ dm rfl hF.out hdm.out.1 hdm.out.2 msgInfo) rfl ?_
      have hRe : R = (zeroM, 73) := by rw [← hR.out]; exact if_pos (Or.inl (by first | trivial | rfl))
      subst hRe
      exact zeroRead (hV2.out.bel.trans (hA9.out.1 _ (by omega)))
    by_cases hk5 : v.kind = 5
    · have hk5' : (v.kind != 5) = false := by simp [hk5]
      by_cases ht : v.text = ⟨#[50, 46, 48]⟩
      · have htl : (v.text.toList == [50, 46, 48]) = true := by rw [ht, Lib.toList_data]; rfl
        have hR2 := hR.out
        rw [if_neg (by rintro (h | h | h) <;> first | exact h hk5 | exact h ht | cases h)] at hR2
        clear hR hk5
        replace ht := Lib.hid ht
        replace hR2 := Lib.hid hR2
        go_upto_region 7 with fail
        clear v0 v1 v2 v3 hk5' htl
        have hV7 := Lib.hid (hV2.out.step (W' := W2.alloc (.cells #[.int .u8 0, .int .u8 0, .string ⟨#[]⟩, .slice none 0 0, .slice none 0 0, .string ⟨#[]⟩, .int .u8 0, .string ⟨#[]⟩, .slice none 0 0, .slice none 0 0, .int .u8 0, .string ⟨#[]⟩, .slice none 0 0, .slice none 0 0, .int .i64 0, .string ⟨#[]⟩] 73)) ((Below.refl _ _).alloc (Nat.le_refl _) _))
        have hs2 := hV2.out.sz
        clear hV2
        go_upto_region 8 with (refine wpList_store_cel rfl 73 (.tmp 7) (.tmp 36) (by rfl) W2.heap.size 0 #[.int .u8 0, .int .u8 0, .string ⟨#[]⟩, .slice none 0 0, .slice none 0 0, .string ⟨#[]⟩, .int .u8 0, .string ⟨#[]⟩, .slice none 0 0, .slice none 0 0, .int .u8 0, .string ⟨#[]⟩, .slice none 0 0, .slice none 0 0, .int .i64 0, .string ⟨#[]⟩] _ #[.int .u8 0, .int .u8 0, .string ⟨#[]⟩, .slice none 0 0, .slice none 0 0, .string ⟨#[]⟩, .int .u8 0, .string ⟨#[]⟩, .slice none 0 0, .slice none 0 0, .int .u8 0, .string ⟨#[]⟩, .slice none 0 0, .slice none 0 0, .int .i64 0, .string ⟨#[]⟩] 73 (by rfl) (by rfl) (Cel.fresh W2 73 _) (Nat.le_refl 16) (putA_whole _ _ rfl) msgInfo (by first | (simp; done) | (simp [Value.oneCell']; done)) ?_; intro w8 hD hA8; replace hD := Lib.hid hD; replace hA8 := Lib.hid hA8)
        have hV8 := Lib.hid (hV7.out.alone hA8.out (by omega))
        have hz8 : w.heap.size + 2 ≤ W2.heap.size ∧ W2.heap.size < w8.heap.size := ⟨hs2, hD.out.lt⟩
        have h67 : Below w.heap.size w w8 := hV8.out.bel
        replace h67 := Lib.hid h67
        clear hV7 hA8
        obtain ⟨q0, q1, q2, q3⟩ := hV8.out.cj.c4
        go_upto_region 8 with fail
        go_wp2_with fail
        refine (hGet.out kId _ hV8.out.bel).mono ?_
        rintro e w9 ⟨idn, idl, rfl, hOid, hbid⟩
        obtain ⟨id, hid⟩ : ∃ x, (jget j kId).getD zeroJ = x := ⟨_, rfl⟩
        obtain ⟨hasid, hhid⟩ : ∃ x, (jget j kId).isSome = x := ⟨_, rfl⟩
        rw [hid] at hOid
        rw [hid, hhid]
        have hgid : jgd j kId = id := hid
        have hsid : jgs j kId = hasid := hhid
        obtain ⟨idA, ida, idb, idB, idc, idd, rfl, rfl⟩ := hOid.forms
        obtain ⟨W9, hW9⟩ : ∃ W, w9.alloc (.cells #[.int .u8 id.kind, .string id.text, .slice idA ida idb, .slice idB idc idd] 25) = W := ⟨_, rfl⟩
        have hxid : Below w9.heap.size w9 W9 := by rw [← hW9]; exact (Below.refl _ _).alloc (Nat.le_refl _) _
        have hCid : Cel W9 w9.heap.size 25 #[.int .u8 id.kind, .string id.text, .slice idA ida idb, .slice idB idc idd] := by rw [← hW9]; exact Cel.fresh _ _ _
        have hlid := hCid.lt
        have hyid := hbid.trans (hxid.mono hbid.size)
        have hszid := hbid.size
        replace hOid := Lib.hid (OwnJ.keep (w' := W9) id hOid (fun k _ hk => hxid.block k hk) (Nat.le_refl _) (Nat.le_refl _))
        replace hW9 := Lib.hid hW9
        replace hCid := Lib.hid hCid
        clear hxid hbid hid hhid q0 q1 q2 q3
        have hV9 := Lib.hid (hV8.out.step hyid)
        have hD9 := Lib.hid (hD.out.below hyid hz8.2)
        rw [hgid, hsid] at hR2
        rw [hgid] at hbid
        have hidz : hasid = false → id = zeroJ := fun h => by
          rw [← hgid, jgd]
          rw [jgs] at hsid
          rcases hk : jget j kId with _ | x
          · rfl
          · rw [hk, h] at hsid; cases hsid
        replace hidz := Lib.hid hidz
        clear hyid hV8 hD hgid hsid
        go_upto_region 9 with fail
        rw [hW9.out]
        clear hW9
        cases hasid
        · have hz := hidz.out rfl
          subst hz
          clear hidz
          have hIz : OwnJ W9 9 25 zeroJ (w.heap.size + 2) (w.heap.size + 2) nilV nilV := zero_own _ _ _ _ _
          replace hIz := Lib.hid hIz
          have hl9 : W2.heap.size < W9.heap.size := by omega
          have hbid : jbulk zeroJ ≤ 1000000 := by omega
          clear hOid
          obtain ⟨q0, q1, q2, q3⟩ := hV9.out.cj.c4
          go_upto_region 11 with fail
          go_wp2_with fail
          refine (hGet.out kMeth _ hV9.out.bel).mono ?_
          rintro e wb ⟨mn, ml, rfl, hOm, hbm⟩
          obtain ⟨m, hm⟩ : ∃ x, (jget j kMeth).getD zeroJ = x := ⟨_, rfl⟩
          obtain ⟨hasm, hhm⟩ : ∃ x, (jget j kMeth).isSome = x := ⟨_, rfl⟩
          rw [hm] at hOm
          rw [hm, hhm]
          have hgm : jgd j kMeth = m := hm
          have hsm : jgs j kMeth = hasm := hhm
          obtain ⟨mA, ma, mb, mB, mc, md, rfl, rfl⟩ := hOm.forms
          obtain ⟨Wb, hWb⟩ : ∃ W, wb.alloc (.cells #[.int .u8 m.kind, .string m.text, .slice mA ma mb, .slice mB mc md] 25) = W := ⟨_, rfl⟩
          have hxm : Below wb.heap.size wb Wb := by rw [← hWb]; exact (Below.refl _ _).alloc (Nat.le_refl _) _
          have hCm : Cel Wb wb.heap.size 25 #[.int .u8 m.kind, .string m.text, .slice mA ma mb, .slice mB mc md] := by rw [← hWb]; exact Cel.fresh _ _ _
          have hlm := hCm.lt
          have hym := hbm.trans (hxm.mono hbm.size)
          have hszm := hbm.size
          replace hOm := Lib.hid (OwnJ.keep (w' := Wb) m hOm (fun k _ hk => hxm.block k hk) (Nat.le_refl _) (Nat.le_refl _))
          replace hWb := Lib.hid hWb
          replace hCm := Lib.hid hCm
          clear hxm hbm hm hhm q0 q1 q2 q3
          have hVb := Lib.hid (hV9.out.step hym)
          have hDb := Lib.hid (hD9.out.below hym (by omega))
          have hzb := hym.size
          have hIb := Lib.hid (OwnJ.keep (w' := Wb) _ hIz.out (fun b h1 h2 => hym.block b (by omega)) (Nat.le_refl _) (Nat.le_refl _))
          rw [hgm, hsm] at hR2
          clear hym hV9 hD9 hIz hgm hsm
          go_upto_region 12 with fail
          rw [hWb.out]
          clear hWb
          cases hasm
          · have hc : Calls Tryz.prog 88 #[.agg #[.int .u8 0, .int .u8 0, .string ⟨#[]⟩, .slice none 0 0, .slice none 0 0, .string ⟨#[]⟩, .int .u8 0, .string ⟨#[]⟩, .slice none 0 0, .slice none 0 0, .int .u8 0, .string ⟨#[]⟩, .slice none 0 0, .slice none 0 0, .int .i64 0, .string ⟨#[]⟩], .agg #[.int .u8 j.kind, .string j.text, .slice A1 n1 c1, .slice A2 n2 c2], .bool false] Wb (AnswersEnd (janswers zeroJ (jgd j kRes) (jgd (jgd j kErr) kCode) (jgd (jgd j kErr) kMsg) false (jgs j kRes) (jgs j kErr) (jgs (jgd j kErr) kMsg)) zeroJ nilV nilV Wb) := hAns.out zeroJ _ Wb hVb.out.bel _ _ false (OwnJ.jv _ hIb.out) hbid
            have hMR : janswers zeroJ (jgd j kRes) (jgd (jgd j kErr) kCode) (jgd (jgd j kErr) kMsg) false (jgs j kRes) (jgs j kErr) (jgs (jgd j kErr) kMsg) = R := by simpa using hR2.out
            obtain ⟨q0, q1, q2, q3⟩ := hVb.out.cj.c4
            obtain ⟨m0, m1, m2, m3⟩ := hCm.out.c4
            replace hc := Lib.hid hc
            replace hMR := Lib.hid hMR
            go_wp2_with (refine wpList_load_all rfl 73 (.tmp 7) (by rfl) W2.heap.size _ 73 dm (by rfl) hDb.out hdm.out.1 hdm.out.2 msgInfo ?_)
            refine hc.out.mono ?_
            intro e wc hx
            unfold AnswersEnd at hx
            obtain ⟨M, hM⟩ : ∃ M, janswers zeroJ (jgd j kRes) (jgd (jgd j kErr) kCode) (jgd (jgd j kErr) kMsg) false (jgs j kRes) (jgs j kErr) (jgs (jgd j kErr) kMsg) = M := ⟨_, rfl⟩
            rw [hM] at hx
            obtain ⟨x1, x2, p1, p2, he, hid3, hOp, hrz, hbc⟩ := hx
            have hMR2 := Lib.hid (show M = R by rw [← hM]; exact hMR.out)
            have hxf : ∃ xA xa xb xB xc xd, x1 = .slice xA xa xb ∧ x2 = .slice xB xc xd := by
              rcases hid3 with ⟨_, h1, h2⟩ | ⟨_, h1, h2⟩
              · exact ⟨_, _, _, _, _, _, h1, h2⟩
              · exact ⟨_, _, _, _, _, _, h1, h2⟩
            obtain ⟨xA, xa, xb, xB, xc, xd, rfl, rfl⟩ := hxf
            obtain ⟨pA, pa, pb, pB, pc, pd, rfl, rfl⟩ := hOp.forms
            have hVc := Lib.hid (hVb.out.step hbc)
            have hzc := hbc.size
            have hIc : OwnJ wc 9 25 M.1.id (w.heap.size + 2) Wb.heap.size (.slice xA xa xb) (.slice xB xc xd) := by
              rcases hid3 with ⟨h0, h1, h2⟩ | ⟨h0, h1, h2⟩
              · rw [h0, h1, h2]
                exact OwnJ.keep (w' := wc) _ hIb.out (fun b h1 h2 => hbc.block b (by omega)) (by omega) (by omega)
              · rw [h0, h1, h2]
                exact zero_own _ _ _ _ _
            unfold msgV nilV at he
            subst he
            replace hIc := Lib.hid hIc
            replace hOp := Lib.hid hOp
            replace hrz := Lib.hid hrz
            replace hbc := Lib.hid hbc
            clear hc hMR q0 q1 q2 q3 m0 m1 m2 m3 hVb hDb hIb hOm hCm hid3 hM hR2
            go_wp2_with (refine wpList_store_cel rfl 73 (.tmp 2) (.tmp 62) (by rfl) (w.heap.size + 1) 0 #[.int .u8 M.1.kind, .int .u8 M.1.id.kind, .string M.1.id.text, .slice xA xa xb, .slice xB xc xd, .string M.1.method, .int .u8 M.1.params.kind, .string M.1.params.text, .slice none 0 0, .slice none 0 0, .int .u8 M.1.result.kind, .string M.1.result.text, .slice pA pa pb, .slice pB pc pd, .int .i64 M.1.code, .string M.1.text] _ #[.int .u8 M.1.kind, .int .u8 M.1.id.kind, .string M.1.id.text, .slice xA xa xb, .slice xB xc xd, .string M.1.method, .int .u8 M.1.params.kind, .string M.1.params.text, .slice none 0 0, .slice none 0 0, .int .u8 M.1.result.kind, .string M.1.result.text, .slice pA pa pb, .slice pB pc pd, .int .i64 M.1.code, .string M.1.text] 73 (by rfl) (by rfl) hVc.out.c2 (Nat.le_refl 16) (putA_whole _ _ rfl) msgInfo (by first | (simp; done) | (simp [Value.oneCell']; done)) ?_; intro wd hF hA9; replace hF := Lib.hid hF; replace hA9 := Lib.hid hA9)
            refine bodyPost_ret (results_cel2 rfl _ _ _ _ _ dm rfl hF.out hdm.out.1 hdm.out.2 msgInfo) rfl ?_
            have a9 := hA9.out
            have hOp := hOp.out
            have hrz := hrz.out
            have hz9 := a9.2.2
            have hsv := hVc.out.sz
            have hMR3 := hMR2.out
            subst hMR3
            exact ⟨.slice xA xa xb, .slice xB xc xd, nilV, nilV, .slice pA pa pb, .slice pB pc pd, Wb.heap.size, Wb.heap.size, rfl, by omega, by omega, by omega, OwnJ.keep (w' := wd) _ hIc.out (fun b h1 h2 => a9.2.1 b (by omega)) (by omega) (Nat.le_refl _), by rw [hrz]; exact zero_own _ _ _ _ _, OwnJ.keep (w' := wd) _ hOp (fun b h1 h2 => a9.2.1 b (by omega)) (Nat.le_refl _) (by have := a9.2.2; omega), hVc.out.bel.trans (a9.1 _ (by omega))⟩
          · have hc : Calls Tryz.prog 87 #[.agg #[.int .u8 0, .int .u8 0, .string ⟨#[]⟩, .slice none 0 0, .slice none 0 0, .string ⟨#[]⟩, .int .u8 0, .string ⟨#[]⟩, .slice none 0 0, .slice none 0 0, .int .u8 0, .string ⟨#[]⟩, .slice none 0 0, .slice none 0 0, .int .i64 0, .string ⟨#[]⟩], .agg #[.int .u8 j.kind, .string j.text, .slice A1 n1 c1, .slice A2 n2 c2], .agg #[.int .u8 m.kind, .string m.text, .slice mA ma mb, .slice mB mc md], .bool false] Wb (AsksEnd zeroJ m (jgd j kPar) nilV nilV false (jgs j kPar) Wb) := hAsk.out zeroJ m _ _ Wb hVb.out.bel _ _ _ _ false (OwnJ.jv _ hIb.out) (OwnJ.jv _ hOm.out) hbid
            have hMR : jasks zeroJ m (jgd j kPar) false (jgs j kPar) = R := by simpa using hR2.out
            obtain ⟨q0, q1, q2, q3⟩ := hVb.out.cj.c4
            obtain ⟨m0, m1, m2, m3⟩ := hCm.out.c4
            replace hc := Lib.hid hc
            replace hMR := Lib.hid hMR
            go_wp2_with (refine wpList_load_all rfl 73 (.tmp 7) (by rfl) W2.heap.size _ 73 dm (by rfl) hDb.out hdm.out.1 hdm.out.2 msgInfo ?_)
            refine hc.out.mono ?_
            intro e wc hx
            unfold AsksEnd at hx
            obtain ⟨M, hM⟩ : ∃ M, jasks zeroJ m (jgd j kPar) false (jgs j kPar) = M := ⟨_, rfl⟩
            rw [hM] at hx
            obtain ⟨x1, x2, p1, p2, he, hid3, hOp, hrz, hbc⟩ := hx
            have hMR2 := Lib.hid (show M = R by rw [← hM]; exact hMR.out)
            have hxf : ∃ xA xa xb xB xc xd, x1 = .slice xA xa xb ∧ x2 = .slice xB xc xd := by
              rcases hid3 with ⟨_, h1, h2⟩ | ⟨_, h1, h2⟩
              · exact ⟨_, _, _, _, _, _, h1, h2⟩
              · exact ⟨_, _, _, _, _, _, h1, h2⟩
            obtain ⟨xA, xa, xb, xB, xc, xd, rfl, rfl⟩ := hxf
            obtain ⟨pA, pa, pb, pB, pc, pd, rfl, rfl⟩ := hOp.forms
            have hVc := Lib.hid (hVb.out.step hbc)
            have hzc := hbc.size
            have hIc : OwnJ wc 9 25 M.1.id (w.heap.size + 2) Wb.heap.size (.slice xA xa xb) (.slice xB xc xd) := by
              rcases hid3 with ⟨h0, h1, h2⟩ | ⟨h0, h1, h2⟩
              · rw [h0, h1, h2]
                exact OwnJ.keep (w' := wc) _ hIb.out (fun b h1 h2 => hbc.block b (by omega)) (by omega) (by omega)
              · rw [h0, h1, h2]
                exact zero_own _ _ _ _ _
            unfold msgV nilV at he
            subst he
            replace hIc := Lib.hid hIc
            replace hOp := Lib.hid hOp
            replace hrz := Lib.hid hrz
            replace hbc := Lib.hid hbc
            clear hc hMR q0 q1 q2 q3 m0 m1 m2 m3 hVb hDb hIb hOm hCm hid3 hM hR2
            go_wp2_with (refine wpList_store_cel rfl 73 (.tmp 2) (.tmp 56) (by rfl) (w.heap.size + 1) 0 #[.int .u8 M.1.kind, .int .u8 M.1.id.kind, .string M.1.id.text, .slice xA xa xb, .slice xB xc xd, .string M.1.method, .int .u8 M.1.params.kind, .string M.1.params.text, .slice pA pa pb, .slice pB pc pd, .int .u8 M.1.result.kind, .string M.1.result.text, .slice none 0 0, .slice none 0 0, .int .i64 M.1.code, .string M.1.text] _ #[.int .u8 M.1.kind, .int .u8 M.1.id.kind, .string M.1.id.text, .slice xA xa xb, .slice xB xc xd, .string M.1.method, .int .u8 M.1.params.kind, .string M.1.params.text, .slice pA pa pb, .slice pB pc pd, .int .u8 M.1.result.kind, .string M.1.result.text, .slice none 0 0, .slice none 0 0, .int .i64 M.1.code, .string M.1.text] 73 (by rfl) (by rfl) hVc.out.c2 (Nat.le_refl 16) (putA_whole _ _ rfl) msgInfo (by first | (simp; done) | (simp [Value.oneCell']; done)) ?_; intro wd hF hA9; replace hF := Lib.hid hF; replace hA9 := Lib.hid hA9)
            refine bodyPost_ret (results_cel2 rfl _ _ _ _ _ dm rfl hF.out hdm.out.1 hdm.out.2 msgInfo) rfl ?_
            have a9 := hA9.out
            have hOp := hOp.out
            have hrz := hrz.out
            have hz9 := a9.2.2
            have hsv := hVc.out.sz
            have hMR3 := hMR2.out
            subst hMR3
            exact ⟨.slice xA xa xb, .slice xB xc xd, .slice pA pa pb, .slice pB pc pd, nilV, nilV, Wb.heap.size, wc.heap.size, rfl, by omega, by omega, by omega, OwnJ.keep (w' := wd) _ hIc.out (fun b h1 h2 => a9.2.1 b (by omega)) (by omega) (Nat.le_refl _), OwnJ.keep (w' := wd) _ hOp (fun b h1 h2 => a9.2.1 b (by omega)) (Nat.le_refl _) (Nat.le_refl _), by rw [hrz]; exact zero_own _ _ _ _ _, hVc.out.bel.trans (a9.1 _ (by omega))⟩
        · clear hidz
          obtain ⟨q0, q1, q2, q3⟩ := hCid.out.c4
          have hneb : W2.heap.size ≠ w9.heap.size := by omega
          go_upto_region 11 with (refine wpList_store_cel rfl 25 (.tmp 44) (.tmp 43) (by rfl) W2.heap.size 1 #[.int .u8 id.kind, .string id.text, .slice idA ida idb, .slice idB idc idd] #[.int .u8 0, .int .u8 0, .string ⟨#[]⟩, .slice none 0 0, .slice none 0 0, .string ⟨#[]⟩, .int .u8 0, .string ⟨#[]⟩, .slice none 0 0, .slice none 0 0, .int .u8 0, .string ⟨#[]⟩, .slice none 0 0, .slice none 0 0, .int .i64 0, .string ⟨#[]⟩] #[.int .u8 0, .int .u8 id.kind, .string id.text, .slice idA ida idb, .slice idB idc idd, .string ⟨#[]⟩, .int .u8 0, .string ⟨#[]⟩, .slice none 0 0, .slice none 0 0, .int .u8 0, .string ⟨#[]⟩, .slice none 0 0, .slice none 0 0, .int .i64 0, .string ⟨#[]⟩] 73 (by rfl) (by rfl) hD9.out (Nat.le_of_ble_eq_true rfl) rfl jsnInfo (by first | (simp; done) | (simp [Value.oneCell']; done)) ?_; intro wa hDa hAa; replace hDa := Lib.hid hDa; replace hAa := Lib.hid hAa)
          have hVa := Lib.hid (hV9.out.alone hAa.out (by omega))
          have hIa := OwnJ.keep (w' := wa) id hOid.out (fun b h1 h2 => hAa.out.2.1 b (by omega)) (Nat.le_refl _) (Nat.le_refl _)
          have hza := hAa.out.2.2
          have hla := hDa.out.lt
          replace hIa := Lib.hid hIa
          have hbid : jbulk id ≤ 1000000 := by omega
          clear hOid hAa hV9 hD9 hneb q0 q1 q2 q3
          obtain ⟨q0, q1, q2, q3⟩ := hVa.out.cj.c4
          go_upto_region 11 with fail
          go_wp2_with fail
          refine (hGet.out kMeth _ hVa.out.bel).mono ?_
          rintro e wb ⟨mn, ml, rfl, hOm, hbm⟩
          obtain ⟨m, hm⟩ : ∃ x, (jget j kMeth).getD zeroJ = x := ⟨_, rfl⟩
          obtain ⟨hasm, hhm⟩ : ∃ x, (jget j kMeth).isSome = x := ⟨_, rfl⟩
          rw [hm] at hOm
          rw [hm, hhm]
          have hgm : jgd j kMeth = m := hm
          have hsm : jgs j kMeth = hasm := hhm
          obtain ⟨mA, ma, mb, mB, mc, md, rfl, rfl⟩ := hOm.forms
          obtain ⟨Wb, hWb⟩ : ∃ W, wb.alloc (.cells #[.int .u8 m.kind, .string m.text, .slice mA ma mb, .slice mB mc md] 25) = W := ⟨_, rfl⟩
          have hxm : Below wb.heap.size wb Wb := by rw [← hWb]; exact (Below.refl _ _).alloc (Nat.le_refl _) _
          have hCm : Cel Wb wb.heap.size 25 #[.int .u8 m.kind, .string m.text, .slice mA ma mb, .slice mB mc md] := by rw [← hWb]; exact Cel.fresh _ _ _
          have hlm := hCm.lt
          have hym := hbm.trans (hxm.mono hbm.size)
          have hszm := hbm.size
          replace hOm := Lib.hid (OwnJ.keep (w' := Wb) m hOm (fun k _ hk => hxm.block k hk) (Nat.le_refl _) (Nat.le_refl _))
          replace hWb := Lib.hid hWb
          replace hCm := Lib.hid hCm
          clear hxm hbm hm hhm q0 q1 q2 q3
          have hVb := Lib.hid (hVa.out.step hym)
          have hDb := Lib.hid (hDa.out.below hym (by omega))
          have hzb := hym.size
          have hIb := Lib.hid (OwnJ.keep (w' := Wb) _ hIa.out (fun b h1 h2 => hym.block b (by omega)) (Nat.le_refl _) (Nat.le_refl _))
          rw [hgm, hsm] at hR2
          clear hym hVa hDa hIa hgm hsm
          go_upto_region 12 with fail
          rw [hWb.out]
          clear hWb
          cases hasm
          · have hc : Calls Tryz.prog 88 #[.agg #[.int .u8 0, .int .u8 id.kind, .string id.text, .slice idA ida idb, .slice idB idc idd, .string ⟨#[]⟩, .int .u8 0, .string ⟨#[]⟩, .slice none 0 0, .slice none 0 0, .int .u8 0, .string ⟨#[]⟩, .slice none 0 0, .slice none 0 0, .int .i64 0, .string ⟨#[]⟩], .agg #[.int .u8 j.kind, .string j.text, .slice A1 n1 c1, .slice A2 n2 c2], .bool true] Wb (AnswersEnd (janswers id (jgd j kRes) (jgd (jgd j kErr) kCode) (jgd (jgd j kErr) kMsg) true (jgs j kRes) (jgs j kErr) (jgs (jgd j kErr) kMsg)) id (.slice idA ida idb) (.slice idB idc idd) Wb) := hAns.out id _ Wb hVb.out.bel _ _ true (OwnJ.jv _ hIb.out) hbid
            have hMR : janswers id (jgd j kRes) (jgd (jgd j kErr) kCode) (jgd (jgd j kErr) kMsg) true (jgs j kRes) (jgs j kErr) (jgs (jgd j kErr) kMsg) = R := by simpa using hR2.out
            obtain ⟨q0, q1, q2, q3⟩ := hVb.out.cj.c4
            obtain ⟨m0, m1, m2, m3⟩ := hCm.out.c4
            replace hc := Lib.hid hc
            replace hMR := Lib.hid hMR
            go_wp2_with (refine wpList_load_all rfl 73 (.tmp 7) (by rfl) W2.heap.size _ 73 dm (by rfl) hDb.out hdm.out.1 hdm.out.2 msgInfo ?_)
            refine hc.out.mono ?_
            intro e wc hx
            unfold AnswersEnd at hx
            obtain ⟨M, hM⟩ : ∃ M, janswers id (jgd j kRes) (jgd (jgd j kErr) kCode) (jgd (jgd j kErr) kMsg) true (jgs j kRes) (jgs j kErr) (jgs (jgd j kErr) kMsg) = M := ⟨_, rfl⟩
            rw [hM] at hx
            obtain ⟨x1, x2, p1, p2, he, hid3, hOp, hrz, hbc⟩ := hx
            have hMR2 := Lib.hid (show M = R by rw [← hM]; exact hMR.out)
            have hxf : ∃ xA xa xb xB xc xd, x1 = .slice xA xa xb ∧ x2 = .slice xB xc xd := by
              rcases hid3 with ⟨_, h1, h2⟩ | ⟨_, h1, h2⟩
              · exact ⟨_, _, _, _, _, _, h1, h2⟩
              · exact ⟨_, _, _, _, _, _, h1, h2⟩
            obtain ⟨xA, xa, xb, xB, xc, xd, rfl, rfl⟩ := hxf
            obtain ⟨pA, pa, pb, pB, pc, pd, rfl, rfl⟩ := hOp.forms
            have hVc := Lib.hid (hVb.out.step hbc)
            have hzc := hbc.size
            have hIc : OwnJ wc 9 25 M.1.id (w.heap.size + 2) Wb.heap.size (.slice xA xa xb) (.slice xB xc xd) := by
              rcases hid3 with ⟨h0, h1, h2⟩ | ⟨h0, h1, h2⟩
              · rw [h0, h1, h2]
                exact OwnJ.keep (w' := wc) _ hIb.out (fun b h1 h2 => hbc.block b (by omega)) (by omega) (by omega)
              · rw [h0, h1, h2]
                exact zero_own _ _ _ _ _
            unfold msgV nilV at he
            subst he
            replace hIc := Lib.hid hIc
            replace hOp := Lib.hid hOp
            replace hrz := Lib.hid hrz
            replace hbc := Lib.hid hbc
            clear hc hMR q0 q1 q2 q3 m0 m1 m2 m3 hVb hDb hIb hOm hCm hid3 hM hR2
            go_wp2_with (refine wpList_store_cel rfl 73 (.tmp 2) (.tmp 62) (by rfl) (w.heap.size + 1) 0 #[.int .u8 M.1.kind, .int .u8 M.1.id.kind, .string M.1.id.text, .slice xA xa xb, .slice xB xc xd, .string M.1.method, .int .u8 M.1.params.kind, .string M.1.params.text, .slice none 0 0, .slice none 0 0, .int .u8 M.1.result.kind, .string M.1.result.text, .slice pA pa pb, .slice pB pc pd, .int .i64 M.1.code, .string M.1.text] _ #[.int .u8 M.1.kind, .int .u8 M.1.id.kind, .string M.1.id.text, .slice xA xa xb, .slice xB xc xd, .string M.1.method, .int .u8 M.1.params.kind, .string M.1.params.text, .slice none 0 0, .slice none 0 0, .int .u8 M.1.result.kind, .string M.1.result.text, .slice pA pa pb, .slice pB pc pd, .int .i64 M.1.code, .string M.1.text] 73 (by rfl) (by rfl) hVc.out.c2 (Nat.le_refl 16) (putA_whole _ _ rfl) msgInfo (by first | (simp; done) | (simp [Value.oneCell']; done)) ?_; intro wd hF hA9; replace hF := Lib.hid hF; replace hA9 := Lib.hid hA9)
            refine bodyPost_ret (results_cel2 rfl _ _ _ _ _ dm rfl hF.out hdm.out.1 hdm.out.2 msgInfo) rfl ?_
            have a9 := hA9.out
            have hOp := hOp.out
            have hrz := hrz.out
            have hz9 := a9.2.2
            have hsv := hVc.out.sz
            have hMR3 := hMR2.out
            subst hMR3
            exact ⟨.slice xA xa xb, .slice xB xc xd, nilV, nilV, .slice pA pa pb, .slice pB pc pd, Wb.heap.size, Wb.heap.size, rfl, by omega, by omega, by omega, OwnJ.keep (w' := wd) _ hIc.out (fun b h1 h2 => a9.2.1 b (by omega)) (by omega) (Nat.le_refl _), by rw [hrz]; exact zero_own _ _ _ _ _, OwnJ.keep (w' := wd) _ hOp (fun b h1 h2 => a9.2.1 b (by omega)) (Nat.le_refl _) (by have := a9.2.2; omega), hVc.out.bel.trans (a9.1 _ (by omega))⟩
          · have hc : Calls Tryz.prog 87 #[.agg #[.int .u8 0, .int .u8 id.kind, .string id.text, .slice idA ida idb, .slice idB idc idd, .string ⟨#[]⟩, .int .u8 0, .string ⟨#[]⟩, .slice none 0 0, .slice none 0 0, .int .u8 0, .string ⟨#[]⟩, .slice none 0 0, .slice none 0 0, .int .i64 0, .string ⟨#[]⟩], .agg #[.int .u8 j.kind, .string j.text, .slice A1 n1 c1, .slice A2 n2 c2], .agg #[.int .u8 m.kind, .string m.text, .slice mA ma mb, .slice mB mc md], .bool true] Wb (AsksEnd id m (jgd j kPar) (.slice idA ida idb) (.slice idB idc idd) true (jgs j kPar) Wb) := hAsk.out id m _ _ Wb hVb.out.bel _ _ _ _ true (OwnJ.jv _ hIb.out) (OwnJ.jv _ hOm.out) hbid
            have hMR : jasks id m (jgd j kPar) true (jgs j kPar) = R := by simpa using hR2.out
            obtain ⟨q0, q1, q2, q3⟩ := hVb.out.cj.c4
            obtain ⟨m0, m1, m2, m3⟩ := hCm.out.c4
            replace hc := Lib.hid hc
            replace hMR := Lib.hid hMR
            go_wp2_with (refine wpList_load_all rfl 73 (.tmp 7) (by rfl) W2.heap.size _ 73 dm (by rfl) hDb.out hdm.out.1 hdm.out.2 msgInfo ?_)
            refine hc.out.mono ?_
            intro e wc hx
            unfold AsksEnd at hx
            obtain ⟨M, hM⟩ : ∃ M, jasks id m (jgd j kPar) true (jgs j kPar) = M := ⟨_, rfl⟩
            rw [hM] at hx
            obtain ⟨x1, x2, p1, p2, he, hid3, hOp, hrz, hbc⟩ := hx
            have hMR2 := Lib.hid (show M = R by rw [← hM]; exact hMR.out)
            have hxf : ∃ xA xa xb xB xc xd, x1 = .slice xA xa xb ∧ x2 = .slice xB xc xd := by
              rcases hid3 with ⟨_, h1, h2⟩ | ⟨_, h1, h2⟩
              · exact ⟨_, _, _, _, _, _, h1, h2⟩
              · exact ⟨_, _, _, _, _, _, h1, h2⟩
            obtain ⟨xA, xa, xb, xB, xc, xd, rfl, rfl⟩ := hxf
            obtain ⟨pA, pa, pb, pB, pc, pd, rfl, rfl⟩ := hOp.forms
            have hVc := Lib.hid (hVb.out.step hbc)
            have hzc := hbc.size
            have hIc : OwnJ wc 9 25 M.1.id (w.heap.size + 2) Wb.heap.size (.slice xA xa xb) (.slice xB xc xd) := by
              rcases hid3 with ⟨h0, h1, h2⟩ | ⟨h0, h1, h2⟩
              · rw [h0, h1, h2]
                exact OwnJ.keep (w' := wc) _ hIb.out (fun b h1 h2 => hbc.block b (by omega)) (by omega) (by omega)
              · rw [h0, h1, h2]
                exact zero_own _ _ _ _ _
            unfold msgV nilV at he
            subst he
            replace hIc := Lib.hid hIc
            replace hOp := Lib.hid hOp
            replace hrz := Lib.hid hrz
            replace hbc := Lib.hid hbc
            clear hc hMR q0 q1 q2 q3 m0 m1 m2 m3 hVb hDb hIb hOm hCm hid3 hM hR2
            go_wp2_with (refine wpList_store_cel rfl 73 (.tmp 2) (.tmp 56) (by rfl) (w.heap.size + 1) 0 #[.int .u8 M.1.kind, .int .u8 M.1.id.kind, .string M.1.id.text, .slice xA xa xb, .slice xB xc xd, .string M.1.method, .int .u8 M.1.params.kind, .string M.1.params.text, .slice pA pa pb, .slice pB pc pd, .int .u8 M.1.result.kind, .string M.1.result.text, .slice none 0 0, .slice none 0 0, .int .i64 M.1.code, .string M.1.text] _ #[.int .u8 M.1.kind, .int .u8 M.1.id.kind, .string M.1.id.text, .slice xA xa xb, .slice xB xc xd, .string M.1.method, .int .u8 M.1.params.kind, .string M.1.params.text, .slice pA pa pb, .slice pB pc pd, .int .u8 M.1.result.kind, .string M.1.result.text, .slice none 0 0, .slice none 0 0, .int .i64 M.1.code, .string M.1.text] 73 (by rfl) (by rfl) hVc.out.c2 (Nat.le_refl 16) (putA_whole _ _ rfl) msgInfo (by first | (simp; done) | (simp [Value.oneCell']; done)) ?_; intro wd hF hA9; replace hF := Lib.hid hF; replace hA9 := Lib.hid hA9)
            refine bodyPost_ret (results_cel2 rfl _ _ _ _ _ dm rfl hF.out hdm.out.1 hdm.out.2 msgInfo) rfl ?_
            have a9 := hA9.out
            have hOp := hOp.out
            have hrz := hrz.out
            have hz9 := a9.2.2
            have hsv := hVc.out.sz
            have hMR3 := hMR2.out
            subst hMR3
            exact ⟨.slice xA xa xb, .slice xB xc xd, .slice pA pa pb, .slice pB pc pd, nilV, nilV, Wb.heap.size, wc.heap.size, rfl, by omega, by omega, by omega, OwnJ.keep (w' := wd) _ hIc.out (fun b h1 h2 => a9.2.1 b (by omega)) (by omega) (Nat.le_refl _), OwnJ.keep (w' := wd) _ hOp (fun b h1 h2 => a9.2.1 b (by omega)) (Nat.le_refl _) (Nat.le_refl _), by rw [hrz]; exact zero_own _ _ _ _ _, hVc.out.bel.trans (a9.1 _ (by omega))⟩
      · have htl : (v.text.toList == [50, 46, 48]) = false := beq_eq_false_iff_ne.2 (fun e => ht (jstr_ext (by rw [← Lib.toList_data, e])))
        replace ht := Lib.hid ht
        go_upto_region 6 with fail
        go_wp2_with (refine wpList_store_cel rfl 73 (.tmp 2) (.tmp 35) (by rfl) (w.heap.size + 1) 0 #[.int .u8 0, .int .u8 0, .string ⟨#[]⟩, .slice none 0 0, .slice none 0 0, .string ⟨#[]⟩, .int .u8 0, .string ⟨#[]⟩, .slice none 0 0, .slice none 0 0, .int .u8 0, .string ⟨#[]⟩, .slice none 0 0, .slice none 0 0, .int .i64 0, .string ⟨#[]⟩] _ #[.int .u8 0, .int .u8 0, .string ⟨#[]⟩, .slice none 0 0, .slice none 0 0, .string ⟨#[]⟩, .int .u8 0, .string ⟨#[]⟩, .slice none 0 0, .slice none 0 0, .int .u8 0, .string ⟨#[]⟩, .slice none 0 0, .slice none 0 0, .int .i64 0, .string ⟨#[]⟩] 73 (by rfl) (by rfl) hV2.out.c2 (Nat.le_refl 16) (putA_whole _ _ rfl) msgInfo (by first | (simp; done) | (simp [Value.oneCell']; done)) ?_; intro w9 hF hA9; replace hF := Lib.hid hF; replace hA9 := Lib.hid hA9)
        refine bodyPost_ret (results_cel2 rfl _ _ _ _ _ dm rfl hF.out hdm.out.1 hdm.out.2 msgInfo) rfl ?_
        have hRe : R = (zeroM, 73) := by rw [← hR.out]; exact if_pos (Or.inr (Or.inr ht.out))
        subst hRe
        exact zeroRead (hV2.out.bel.trans (hA9.out.1 _ (by omega)))
    · have hk5' : (v.kind != 5) = true := by simp [hk5]
      replace hk5 := Lib.hid hk5
      go_upto_region 6 with fail
      go_wp2_with (refine wpList_store_cel rfl 73 (.tmp 2) (.tmp 35) (by rfl) (w.heap.size + 1) 0 #[.int .u8 0, .int .u8 0, .string ⟨#[]⟩, .slice none 0 0, .slice none 0 0, .string ⟨#[]⟩, .int .u8 0, .string ⟨#[]⟩, .slice none 0 0, .slice none 0 0, .int .u8 0, .string ⟨#[]⟩, .slice none 0 0, .slice none 0 0, .int .i64 0, .string ⟨#[]⟩] _ #[.int .u8 0, .int .u8 0, .string ⟨#[]⟩, .slice none 0 0, .slice none 0 0, .string ⟨#[]⟩, .int .u8 0, .string ⟨#[]⟩, .slice none 0 0, .slice none 0 0, .int .u8 0, .string ⟨#[]⟩, .slice none 0 0, .slice none 0 0, .int .i64 0, .string ⟨#[]⟩] 73 (by rfl) (by rfl) hV2.out.c2 (Nat.le_refl 16) (putA_whole _ _ rfl) msgInfo (by first | (simp; done) | (simp [Value.oneCell']; done)) ?_; intro w9 hF hA9; replace hF := Lib.hid hF; replace hA9 := Lib.hid hA9)
      refine bodyPost_ret (results_cel2 rfl _ _ _ _ _ dm rfl hF.out hdm.out.1 hdm.out.2 msgInfo) rfl ?_
      have hRe : R = (zeroM, 73) := by rw [← hR.out]; exact if_pos (Or.inr (Or.inl hk5.out))
      subst hRe
      exact zeroRead (hV2.out.bel.trans (hA9.out.1 _ (by omega)))
  · have hc0' : (ck != 0) = true := by simp [hc0]
    rw [if_pos hc0] at hR
    go_upto_region 3 with fail
    go_wp2_with (refine wpList_store_cel rfl 73 (.tmp 2) (.tmp 16) (by rfl) (w.heap.size + 1) 0 #[.int .u8 0, .int .u8 0, .string ⟨#[]⟩, .slice none 0 0, .slice none 0 0, .string ⟨#[]⟩, .int .u8 0, .string ⟨#[]⟩, .slice none 0 0, .slice none 0 0, .int .u8 0, .string ⟨#[]⟩, .slice none 0 0, .slice none 0 0, .int .i64 0, .string ⟨#[]⟩] _ #[.int .u8 0, .int .u8 0, .string ⟨#[]⟩, .slice none 0 0, .slice none 0 0, .string ⟨#[]⟩, .int .u8 0, .string ⟨#[]⟩, .slice none 0 0, .slice none 0 0, .int .u8 0, .string ⟨#[]⟩, .slice none 0 0, .slice none 0 0, .int .i64 0, .string ⟨#[]⟩] 73 (by rfl) (by rfl) hV1.out.c2 (Nat.le_refl 16) (putA_whole _ _ rfl) msgInfo (by first | (simp; done) | (simp [Value.oneCell']; done)) ?_; intro w9 hF hA9; replace hF := Lib.hid hF; replace hA9 := Lib.hid hA9)
    refine bodyPost_ret (results_cel2 rfl _ _ _ _ _ dm rfl hF.out hdm.out.1 hdm.out.2 msgInfo) rfl ?_
    have hRe : R = (zeroM, ck) := by exact hR.symm
    subst hRe
    exact zeroRead (hV1.out.bel.trans (hA9.out.1 _ (by omega)))
end Go.Proofs.YtdjfoabinjfnfaaGreatDoor
