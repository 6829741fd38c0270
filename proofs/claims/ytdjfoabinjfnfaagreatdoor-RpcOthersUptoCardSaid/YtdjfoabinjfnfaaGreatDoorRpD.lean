/-
  The walk of rpc.answers.
-/
import Derived.Test.YtdjfoabinjfnfaaGreatDoorRpC
namespace Go.Proofs.YtdjfoabinjfnfaaGreatDoor
open Go.RowKit
def AnswersEnd (M : Msg × Int) (id : Jsn) (i1 i2 : Value) (w : World) (e : Ending) (w' : World) : Prop :=
  ∃ x1 x2 r1 r2, e = .returned (.tuple #[msgV M.1 x1 x2 nilV nilV r1 r2, .int .i64 M.2]) ∧
    ((M.1.id = id ∧ x1 = i1 ∧ x2 = i2) ∨ (M.1.id = zeroJ ∧ x1 = nilV ∧ x2 = nilV)) ∧
    OwnJ w' 9 25 M.1.result w.heap.size w'.heap.size r1 r2 ∧ M.1.params = zeroJ ∧ Below w.heap.size w w'
set_option maxRecDepth 20000 in
set_option maxHeartbeats 8000000 in
theorem rpcAnswers_any (j id : Jsn) (X Y : Nat → Prop) (w : World) (jn jl i1 i2 : Value) (hasid : Bool) (hV : JV w X j jn jl) (hI : JV w Y id i1 i2) (hbj : jbulk j ≤ 1000000) (hbi : jbulk id ≤ 1000000) :
    Calls Tryz.prog 88 #[msgV ⟨0, id, ⟨#[]⟩, zeroJ, zeroJ, 0, ⟨#[]⟩⟩ i1 i2 nilV nilV nilV nilV, jvV j jn jl, .bool hasid] w
      (AnswersEnd (janswers id (jgd j kRes) (jgd (jgd j kErr) kCode) (jgd (jgd j kErr) kMsg) hasid (jgs j kRes) (jgs j kErr) (jgs (jgd j kErr) kMsg)) id i1 i2 w) := by
  have hR := Lib.hid (fun (W : World) (hB : Below w.heap.size w W) => jsnGet_any j X W _ _ kRes (hV.later hB) (by omega))
  have hE := Lib.hid (fun (W : World) (hB : Below w.heap.size w W) => jsnGet_any j X W _ _ kErr (hV.later hB) (by omega))
  have hid := Lib.hid (fun (W : World) (hB : Below w.heap.size w W) => rpcId_any id Y W _ _ (hI.later hB) hbi)
  have hbr := jgd_bulk j kRes
  have hbe := jgd_bulk j kErr
  unfold GetJEnd at hR hE
  obtain ⟨r, hr⟩ : ∃ r, jgd j kRes = r := ⟨_, rfl⟩
  obtain ⟨x, hx⟩ : ∃ x, jgd j kErr = x := ⟨_, rfl⟩
  obtain ⟨good, hg⟩ : ∃ b, jgs j kRes = b := ⟨_, rfl⟩
  obtain ⟨bad, hb⟩ : ∃ b, jgs j kErr = b := ⟨_, rfl⟩
  rw [hr, hx, hg, hb]
  rw [hr] at hbr
  rw [hx] at hbe
  unfold jgd at hr hx
  unfold jgs at hg hb
  rw [hr, hg] at hR
  rw [hx, hb] at hE
  clear hr hx hg hb
  obtain ⟨A1, n1, c1, A2, n2, c2, rfl, rfl⟩ := hV.forms
  obtain ⟨B1, d1, e1, B2, d2, e2, rfl, rfl⟩ := hI.forms
  clear hV hI
  obtain ⟨M, hM⟩ : ∃ M, janswers id r (jgd x kCode) (jgd x kMsg) hasid good bad (jgs x kMsg) = M := ⟨_, rfl⟩
  rw [hM]
  unfold janswers at hM
  replace hM := Lib.hid hM
  unfold AnswersEnd msgV jvV nilV zeroJ
  go_enter Tryz.func88, Tryz.ntmps88
  go_wp2_with fail
  refine (hR.out _ (by (repeat (first | exact Below.refl _ _ | assumption | refine bel_drew ?_ | (refine Below.alloc ?_ (by first | omega | (simp; omega) | (simp; done)) _) | (refine Below.setCell ?_ (by first | omega | (simp; omega) | (simp; done)) _))))).mono ?_
  rintro e w1 ⟨rn, rl, rfl, hOr, hB1⟩
  obtain ⟨R1, h1, k1, R2, h2, k2, rfl, rfl⟩ := hOr.forms
  have hCm := ((((Cel.fresh w _ _).alloc _).alloc _)).below hB1 (by simp; omega)
  have hCj := (((Cel.fresh _ _ _).alloc _)).below hB1 (by simp)
  have hC6 := ((Cel.fresh _ _ _)).below hB1 (by simp)
  simp only [World.size_alloc] at hCj hC6
  have hz1 := hB1.size
  simp at hz1
  have hB1' : Below w.heap.size w w1 := Below.trans (by (repeat (first | exact Below.refl _ _ | assumption | refine bel_drew ?_ | (refine Below.alloc ?_ (by first | omega | (simp; omega) | (simp; done)) _) | (refine Below.setCell ?_ (by first | omega | (simp; omega) | (simp; done)) _)))) (hB1.mono (by simp; omega))
  have hOr2 := OwnJ.keep (w' := w1) r hOr (lo' := w.heap.size + 1 + 1 + 1) (hi' := w1.heap.size) (fun _ _ _ => rfl) (by simp) (Nat.le_refl _)
  clear hR hOr hB1
  have l0 : w.heap.size < w1.heap.size := by omega
  have l1 : w.heap.size + 1 < w1.heap.size := by omega
  have ne0 : w.heap.size ≠ w1.heap.size := by omega
  have ne1 : w.heap.size + 1 ≠ w1.heap.size := by omega
  obtain ⟨q0, q1, q2, q3⟩ := hCj.c4
  replace hOr2 := Lib.hid hOr2
  replace hB1' := Lib.hid hB1'
  replace hCm := Lib.hid hCm
  replace hCj := Lib.hid hCj
  replace hC6 := Lib.hid hC6
  go_wp2_with fail
  refine (hE.out _ (hB1'.out.alloc (by omega) _)).mono ?_
  rintro e w2 ⟨xn, xl, rfl, hOx, hB2⟩
  obtain ⟨X1, f1, g1, X2, f2, g2, rfl, rfl⟩ := hOx.forms
  have hCm2 := (hCm.out.alloc _).below hB2 (by simp; omega)
  have hC62 := (hC6.out.alloc _).below hB2 (by simp; omega)
  have hRb := (Cel.fresh w1 _ _).below hB2 (by simp)
  have hB2' := (hB1'.out.alloc (by omega) (.cells #[.int .u8 r.kind, .string r.text, .slice R1 h1 k1, .slice R2 h2 k2] 25)).trans (hB2.mono (by simp; omega))
  have hOr3 := OwnJ.keep (w' := w2) r hOr2.out (fun b h1 h2 => (hB2.block b (by simp; omega)).trans (Below.heap_alloc _ _ _ h2)) (Nat.le_refl _) (Nat.le_refl _)
  have hOx2 := OwnJ.keep (w' := w2) x hOx (lo' := w1.heap.size + 1) (hi' := w2.heap.size) (fun _ _ _ => rfl) (by simp) (Nat.le_refl _)
  have z2 := hB2.size
  simp only [World.size_alloc] at z2
  clear hB2 hB1' hCm hC6 hOr2 hOx hCj q0 q1 q2 q3 l1 ne1 ne0 l0 hE
  obtain ⟨dm, hdm⟩ := msgDesc
  replace hdm := Lib.hid hdm
  replace hCm2 := Lib.hid hCm2
  replace hC62 := Lib.hid hC62
  replace hRb := Lib.hid hRb
  replace hB2' := Lib.hid hB2'
  replace hOr3 := Lib.hid hOr3
  replace hOx2 := Lib.hid hOx2
  cases hasid
  · go_wp2_with (refine wpList_store_cel rfl 73 (.tmp 6) (.tmp 35) (by rfl) (w.heap.size + 1 + 1) 0 #[.int .u8 0, .int .u8 0, .string ⟨#[]⟩, .slice none 0 0, .slice none 0 0, .string ⟨#[]⟩, .int .u8 0, .string ⟨#[]⟩, .slice none 0 0, .slice none 0 0, .int .u8 0, .string ⟨#[]⟩, .slice none 0 0, .slice none 0 0, .int .i64 0, .string ⟨#[]⟩] _ #[.int .u8 0, .int .u8 0, .string ⟨#[]⟩, .slice none 0 0, .slice none 0 0, .string ⟨#[]⟩, .int .u8 0, .string ⟨#[]⟩, .slice none 0 0, .slice none 0 0, .int .u8 0, .string ⟨#[]⟩, .slice none 0 0, .slice none 0 0, .int .i64 0, .string ⟨#[]⟩] 73 (by rfl) (by rfl) (hC62.out.alloc _) (Nat.le_refl 16) (putA_whole _ _ rfl) msgInfo (by first | (simp; done) | (simp [Value.oneCell']; done)) ?_; intro w9 hF hA9; replace hF := Lib.hid hF; replace hA9 := Lib.hid hA9)
    refine bodyPost_ret (results_cel2 rfl _ _ _ _ _ dm rfl hF.out hdm.out.1 hdm.out.2 msgInfo) rfl ?_
    have hRe : M = (zeroM, 73) := by rw [← hM.out]; exact if_pos (Or.inl (by first | trivial | rfl))
    have a9 := hA9.out
    subst hRe
    exact ⟨nilV, nilV, nilV, nilV, rfl, Or.inr ⟨rfl, rfl, rfl⟩, zero_own _ _ _ _ _, rfl, (hB2'.out.alloc (by omega) _).trans (a9.1 _ (by omega))⟩
  · by_cases hgb : good = bad
    · have hgb2 : (good == bad) = true := by simp [hgb]
      replace hgb := Lib.hid hgb
      go_wp2_with (refine wpList_store_cel rfl 73 (.tmp 6) (.tmp 35) (by rfl) (w.heap.size + 1 + 1) 0 #[.int .u8 0, .int .u8 0, .string ⟨#[]⟩, .slice none 0 0, .slice none 0 0, .string ⟨#[]⟩, .int .u8 0, .string ⟨#[]⟩, .slice none 0 0, .slice none 0 0, .int .u8 0, .string ⟨#[]⟩, .slice none 0 0, .slice none 0 0, .int .i64 0, .string ⟨#[]⟩] _ #[.int .u8 0, .int .u8 0, .string ⟨#[]⟩, .slice none 0 0, .slice none 0 0, .string ⟨#[]⟩, .int .u8 0, .string ⟨#[]⟩, .slice none 0 0, .slice none 0 0, .int .u8 0, .string ⟨#[]⟩, .slice none 0 0, .slice none 0 0, .int .i64 0, .string ⟨#[]⟩] 73 (by rfl) (by rfl) (hC62.out.alloc _) (Nat.le_refl 16) (putA_whole _ _ rfl) msgInfo (by first | (simp; done) | (simp [Value.oneCell']; done)) ?_; intro w9 hF hA9; replace hF := Lib.hid hF; replace hA9 := Lib.hid hA9)
      refine bodyPost_ret (results_cel2 rfl _ _ _ _ _ dm rfl hF.out hdm.out.1 hdm.out.2 msgInfo) rfl ?_
      have hRe : M = (zeroM, 73) := by rw [← hM.out]; exact if_pos (Or.inr hgb.out)
      have a9 := hA9.out
      subst hRe
      exact ⟨nilV, nilV, nilV, nilV, rfl, Or.inr ⟨rfl, rfl, rfl⟩, zero_own _ _ _ _ _, rfl, (hB2'.out.alloc (by omega) _).trans (a9.1 _ (by omega))⟩
    · have hl6 : w.heap.size + 1 + 1 < w2.heap.size := by omega
      cases good
      · cases bad
        · exact absurd rfl hgb
        · clear hgb hOr3 hRb
          -- a fault
          have hJx := OwnJ.jv x hOx2.out
          have hbc := jgd_bulk x kCode
          have hbm := jgd_bulk x kMsg
          obtain ⟨W2, hW2⟩ : ∃ W2, w2.alloc (.cells #[.int .u8 x.kind, .string x.text, .slice X1 f1 g1, .slice X2 f2 g2] 25) = W2 := ⟨_, rfl⟩
          have hb22 : Below w2.heap.size w2 W2 := by rw [← hW2]; exact (Below.refl _ _).alloc (Nat.le_refl _) _
          have hCx : Cel W2 w2.heap.size 25 #[.int .u8 x.kind, .string x.text, .slice X1 f1 g1, .slice X2 f2 g2] := by rw [← hW2]; exact Cel.fresh _ _ _
          have hz2 : W2.heap.size = w2.heap.size + 1 := by rw [← hW2]; simp
          have hGc := Lib.hid (jsnGet_any x _ W2 _ _ kCode (hJx.later hb22) (by omega))
          have hGm := Lib.hid (fun (W : World) (hB : Below w2.heap.size w2 W) => jsnGet_any x _ W _ _ kMsg (hJx.later hB) (by omega))
          have hCmV := Lib.hid (hCm2.out.below hb22 (by omega))
          have hC6V := Lib.hid (hC62.out.below hb22 hl6)
          have hBV := Lib.hid (hB2'.out.trans (hb22.mono (by omega)))
          obtain ⟨q0, q1, q2, q3⟩ := hCx.c4
          replace hW2 := Lib.hid hW2
          replace hCx := Lib.hid hCx
          replace hb22 := Lib.hid hb22
          clear hJx hOx2 hCm2 hC62 hB2'
          go_upto_region 5 with fail
          rw [hW2.out]
          clear hW2
          go_wp2_with fail
          unfold GetJEnd at hGc
          refine hGc.out.mono ?_
          rintro e w3 ⟨cn, cl, rfl, hOc, hb3⟩
          obtain ⟨c, hc⟩ : ∃ c, (jget x kCode).getD zeroJ = c := ⟨_, rfl⟩
          have hc2 : jgd x kCode = c := hc
          rw [hc] at hOc
          rw [hc2] at hbc
          rw [hc]
          obtain ⟨hasc, hhc⟩ : ∃ hasc, (jget x kCode).isSome = hasc := ⟨_, rfl⟩
          rw [hhc]
          obtain ⟨C1, cf1, cg1, C2, cf2, cg2, rfl, rfl⟩ := hOc.forms
          obtain ⟨W3, hW3⟩ : ∃ W3, w3.alloc (.cells #[.int .u8 c.kind, .string c.text, .slice C1 cf1 cg1, .slice C2 cf2 cg2] 25) = W3 := ⟨_, rfl⟩
          have hb33 : Below w3.heap.size w3 W3 := by rw [← hW3]; exact (Below.refl _ _).alloc (Nat.le_refl _) _
          have hb23 : Below W2.heap.size W2 W3 := hb3.trans (hb33.mono hb3.size)
          have hCc : Cel W3 w3.heap.size 25 #[.int .u8 c.kind, .string c.text, .slice C1 cf1 cg1, .slice C2 cf2 cg2] := by rw [← hW3]; exact Cel.fresh _ _ _
          have hJc := OwnJ.jv c (OwnJ.keep (w' := W3) c hOc (fun k _ hk => hb33.block k hk) (Nat.le_refl _) (Nat.le_refl _))
          have hCx3 := hCx.out.below hb23 hCx.out.lt
          have hGm3 := Lib.hid (hGm.out W3 (hb22.out.trans (hb23.mono (by omega))))
          have hz3 := hb23.size
          have hz33 := hb3.size
          have hz34 := hCc.lt
          have hCmV3 := Lib.hid (hCmV.out.below hb23 (by omega))
          have hC6V3 := Lib.hid (hC6V.out.below hb23 (by omega))
          have hBV3 := Lib.hid (hBV.out.trans (hb23.mono (by omega)))
          replace hW3 := Lib.hid hW3
          replace hCc := Lib.hid hCc
          replace hJc := Lib.hid hJc
          clear q0 q1 q2 q3 hGc hGm hOc hb3 hb33 hb23 hCmV hC6V hBV hCx hb22 hc hhc
          obtain ⟨q0, q1, q2, q3⟩ := hCx3.c4
          clear hCx3
          go_upto_region 11 with fail
          rw [hW3.out]
          clear hW3
          go_wp2_with fail
          unfold GetJEnd at hGm3
          refine hGm3.out.mono ?_
          rintro e w4 ⟨mn, ml, rfl, hOm, hb4⟩
          obtain ⟨m, hm⟩ : ∃ m, (jget x kMsg).getD zeroJ = m := ⟨_, rfl⟩
          have hm2 : jgd x kMsg = m := hm
          rw [hm] at hOm
          rw [hm2] at hbm
          rw [hm]
          obtain ⟨hast, hhm⟩ : ∃ hast, (jget x kMsg).isSome = hast := ⟨_, rfl⟩
          have hhm2 : jgs x kMsg = hast := hhm
          rw [hhm]
          obtain ⟨N1, mf1, mg1, N2, mf2, mg2, rfl, rfl⟩ := hOm.forms
          obtain ⟨W4, hW4⟩ : ∃ W4, w4.alloc (.cells #[.int .u8 m.kind, .string m.text, .slice N1 mf1 mg1, .slice N2 mf2 mg2] 25) = W4 := ⟨_, rfl⟩
          have hb44 : Below w4.heap.size w4 W4 := by rw [← hW4]; exact (Below.refl _ _).alloc (Nat.le_refl _) _
          have hb34 : Below W3.heap.size W3 W4 := hb4.trans (hb44.mono hb4.size)
          have hCt : Cel W4 w4.heap.size 25 #[.int .u8 m.kind, .string m.text, .slice N1 mf1 mg1, .slice N2 mf2 mg2] := by rw [← hW4]; exact Cel.fresh _ _ _
          have hCc4 := hCc.out.below hb34 hz34
          have hz4 := hb34.size
          have hz43 := hb4.size
          have hz44 := hCt.lt
          have hWh := rpcWhole_any c _ W4 _ _ (hJc.out.later hb34) (by omega)
          unfold WholeEnd at hWh
          obtain ⟨n, hn⟩ : ∃ n, (jwhole c).1 = n := ⟨_, rfl⟩
          obtain ⟨is, hi⟩ : ∃ is, (jwhole c).2 = is := ⟨_, rfl⟩
          rw [hn, hi] at hWh
          have hCmV4 := Lib.hid (hCmV3.out.below hb34 (by omega))
          have hC6V4 := Lib.hid (hC6V3.out.below hb34 (by omega))
          have hBV4 := Lib.hid (hBV3.out.trans (hb34.mono (by omega)))
          have hMf : (if hast = false ∨ is = false ∨ m.kind ≠ 5 ∨ (jisid id = false ∧ id.kind ≠ 1) then (zeroM, (73 : Int)) else (⟨4, id, ⟨#[]⟩, zeroJ, zeroJ, n, m.text⟩, 0)) = M := by
            have h0 := hM.out
            rw [hc2, hm2, hhm2, hn, hi] at h0
            first | exact h0 | simpa using h0
          replace hWh := Lib.hid hWh
          replace hW4 := Lib.hid hW4
          replace hCt := Lib.hid hCt
          replace hMf := Lib.hid hMf
          clear q0 q1 q2 q3 hGm3 hOm hb4 hb44 hb34 hCmV3 hC6V3 hBV3 hCc hJc hm hhm hm2 hhm2 hc2 hn hi hM
          obtain ⟨q0, q1, q2, q3⟩ := hCc4.c4
          clear hCc4
          go_upto_region 12 with fail
          rw [hW4.out]
          clear hW4
          go_wp2_with fail
          refine hWh.out.mono ?_
          rintro e w5 ⟨rfl, hb5⟩
          have hz5 := hb5.size
          have hCt5 := hCt.out.below hb5 hz44
          have hCm5 := hCmV4.out.below hb5 (by omega)
          have hC65 := hC6V4.out.below hb5 (by omega)
          have hB5 := hBV4.out.trans (hb5.mono (by omega))
          have hid5 := Lib.hid (hid.out w5 hB5)
          obtain ⟨q0', q1', q2', q3'⟩ := hCt5.c4
          obtain ⟨v0, v1, v2, v3, v4, _⟩ := hCm5.c16
          replace hCt5 := Lib.hid hCt5
          replace hCm5 := Lib.hid hCm5
          replace hC65 := Lib.hid hC65
          replace hB5 := Lib.hid hB5
          clear q0 q1 q2 q3 hWh hb5 hCmV4 hC6V4 hBV4 hCt hid
          cases hast
          · go_upto_region 14 with fail
            go_wp2_with (refine wpList_store_cel rfl 73 (.tmp 6) (.tmp 84) (by rfl) (w.heap.size + 1 + 1) 0 #[.int .u8 0, .int .u8 0, .string ⟨#[]⟩, .slice none 0 0, .slice none 0 0, .string ⟨#[]⟩, .int .u8 0, .string ⟨#[]⟩, .slice none 0 0, .slice none 0 0, .int .u8 0, .string ⟨#[]⟩, .slice none 0 0, .slice none 0 0, .int .i64 0, .string ⟨#[]⟩] _ #[.int .u8 0, .int .u8 0, .string ⟨#[]⟩, .slice none 0 0, .slice none 0 0, .string ⟨#[]⟩, .int .u8 0, .string ⟨#[]⟩, .slice none 0 0, .slice none 0 0, .int .u8 0, .string ⟨#[]⟩, .slice none 0 0, .slice none 0 0, .int .i64 0, .string ⟨#[]⟩] 73 (by rfl) (by rfl) hC65.out (Nat.le_refl 16) (putA_whole _ _ rfl) msgInfo (by first | (simp; done) | (simp [Value.oneCell']; done)) ?_; intro w9 hF hA9; replace hF := Lib.hid hF; replace hA9 := Lib.hid hA9)
            refine bodyPost_ret (results_cel2 rfl _ _ _ _ _ dm rfl hF.out hdm.out.1 hdm.out.2 msgInfo) rfl ?_
            have hRe : M = (zeroM, 73) := by rw [← hMf.out]; exact if_pos (Or.inl (by first | trivial | rfl))
            have a9 := hA9.out
            subst hRe
            exact ⟨nilV, nilV, nilV, nilV, rfl, Or.inr ⟨rfl, rfl, rfl⟩, zero_own _ _ _ _ _, rfl, hB5.out.trans (a9.1 _ (by omega))⟩
          cases is
          · go_upto_region 14 with fail
            go_wp2_with (refine wpList_store_cel rfl 73 (.tmp 6) (.tmp 84) (by rfl) (w.heap.size + 1 + 1) 0 #[.int .u8 0, .int .u8 0, .string ⟨#[]⟩, .slice none 0 0, .slice none 0 0, .string ⟨#[]⟩, .int .u8 0, .string ⟨#[]⟩, .slice none 0 0, .slice none 0 0, .int .u8 0, .string ⟨#[]⟩, .slice none 0 0, .slice none 0 0, .int .i64 0, .string ⟨#[]⟩] _ #[.int .u8 0, .int .u8 0, .string ⟨#[]⟩, .slice none 0 0, .slice none 0 0, .string ⟨#[]⟩, .int .u8 0, .string ⟨#[]⟩, .slice none 0 0, .slice none 0 0, .int .u8 0, .string ⟨#[]⟩, .slice none 0 0, .slice none 0 0, .int .i64 0, .string ⟨#[]⟩] 73 (by rfl) (by rfl) hC65.out (Nat.le_refl 16) (putA_whole _ _ rfl) msgInfo (by first | (simp; done) | (simp [Value.oneCell']; done)) ?_; intro w9 hF hA9; replace hF := Lib.hid hF; replace hA9 := Lib.hid hA9)
            refine bodyPost_ret (results_cel2 rfl _ _ _ _ _ dm rfl hF.out hdm.out.1 hdm.out.2 msgInfo) rfl ?_
            have hRe : M = (zeroM, 73) := by rw [← hMf.out]; exact if_pos (Or.inr (Or.inl (by first | trivial | rfl)))
            have a9 := hA9.out
            subst hRe
            exact ⟨nilV, nilV, nilV, nilV, rfl, Or.inr ⟨rfl, rfl, rfl⟩, zero_own _ _ _ _ _, rfl, hB5.out.trans (a9.1 _ (by omega))⟩
          by_cases hk5 : m.kind = 5
          · have hk5' : (m.kind != 5) = false := by simp [hk5]
            replace hk5 := Lib.hid hk5
            obtain ⟨ii, hii⟩ : ∃ ii, jisid id = ii := ⟨_, rfl⟩
            rw [hii] at hid5 hMf
            clear hii
            go_wp2_with fail
            refine hid5.out.mono ?_
            rintro e w6 ⟨rfl, hb6⟩
            have hz6 := hb6.size
            have hCt6 := hCt5.out.below hb6 (by omega)
            have hCm6 := hCm5.out.below hb6 (by omega)
            have hC66 := hC65.out.below hb6 (by omega)
            have hB6 := Lib.hid (hB5.out.trans (hb6.mono (by omega)))
            clear q0' q1' q2' q3' v0 v1 v2 v3 v4 hid5 hb6 hCt5 hCm5 hC65 hB5
            obtain ⟨q0, q1, q2, q3⟩ := hCt6.c4
            obtain ⟨v0, v1, v2, v3, v4, v5, v6, v7, v8, v9, v10, v11, v12, v13, v14, v15⟩ := hCm6.c16
            obtain ⟨f0, _, _, _, _, _, _, _, _, _, _, _, _, _, f14, f15⟩ := hCm6.f16
            replace hCt6 := Lib.hid hCt6
            replace hCm6 := Lib.hid hCm6
            replace hC66 := Lib.hid hC66
            have hgo : (ii = true ∨ id.kind = 1) ∨ (ii = false ∧ (id.kind != 1) = true) := by
              cases ii
              · by_cases h1 : id.kind = 1
                · exact .inl (.inr h1)
                · exact .inr ⟨rfl, by simp [h1]⟩
              · exact .inl (.inl rfl)
            rcases hgo with hgo | ⟨rfl, hk1⟩
            · have hMt : ((⟨4, id, ⟨#[]⟩, zeroJ, zeroJ, n, m.text⟩ : Msg), (0 : Int)) = M := by
                rw [← hMf.out, if_neg]
                rintro (h | h | h | ⟨h1, h2⟩)
                · first | exact h | cases h
                · first | exact h | cases h
                · exact h hk5.out
                · rcases hgo with h3 | h3
                  · rw [h3] at h1; cases h1
                  · exact h2 h3
              replace hMt := Lib.hid hMt
              clear hMf
              have hpick : ∀ K : Prop, (∀ (hh : ii = true), K) → (∀ (hh : ii = false) (h1 : (id.kind != 1) = false), K) → K := fun K h1 h2 => by
                cases ii
                · rcases hgo with h | h
                  · cases h
                  · exact h2 rfl (by simp [h])
                · exact h1 rfl
              have hne4 : ¬ w.heap.size = w4.heap.size := by omega
              have hne4' : ¬ w4.heap.size = w.heap.size := by omega
              clear hgo v1 v2 v3 v4 v5 v6 v7 v8 v9 v10 v11 v12 v13 v14 v15
              obtain ⟨_, v1, _⟩ := hCm6.out.c16
              refine hpick _ (fun hh => ?_) (fun hh h1 => ?_)
              all_goals
                subst hh
                clear hpick
                go_wp2_with fail
                go_region
                obtain ⟨V, hVe⟩ : ∃ V, (((w6.drew.setCell ⟨w.heap.size, 0, none⟩ (.int .u8 4)).setCell ⟨w.heap.size, 14, none⟩ (.int .i64 n)).setCell ⟨w.heap.size, 15, none⟩ (.string m.text)) = V := ⟨_, rfl⟩
                have hVe2 : (((w6.setCell ⟨w.heap.size, 0, none⟩ (.int .u8 4)).setCell ⟨w.heap.size, 14, none⟩ (.int .i64 n)).setCell ⟨w.heap.size, 15, none⟩ (.string m.text)).drew = V := hVe
                have hCmV : Cel V w.heap.size 73 #[.int .u8 4, .int .u8 id.kind, .string id.text, .slice B1 d1 e1, .slice B2 d2 e2, .string ⟨#[]⟩, .int .u8 0, .string ⟨#[]⟩, .slice none 0 0, .slice none 0 0, .int .u8 0, .string ⟨#[]⟩, .slice none 0 0, .slice none 0 0, .int .i64 n, .string m.text] := by
                  rw [← hVe]
                  exact (((hCm6.out.drew).set 0 _).set 14 _).set 15 _
                have hC6V : Cel V (w.heap.size + 1 + 1) 73 #[.int .u8 0, .int .u8 0, .string ⟨#[]⟩, .slice none 0 0, .slice none 0 0, .string ⟨#[]⟩, .int .u8 0, .string ⟨#[]⟩, .slice none 0 0, .slice none 0 0, .int .u8 0, .string ⟨#[]⟩, .slice none 0 0, .slice none 0 0, .int .i64 0, .string ⟨#[]⟩] := by
                  rw [← hVe]
                  exact (((hC66.out.drew).away (p := ⟨w.heap.size, 0, none⟩) (by show w.heap.size + 1 + 1 ≠ w.heap.size; omega) _).away (p := ⟨w.heap.size, 14, none⟩) (by show w.heap.size + 1 + 1 ≠ w.heap.size; omega) _).away (p := ⟨w.heap.size, 15, none⟩) (by show w.heap.size + 1 + 1 ≠ w.heap.size; omega) _
                have hBV : Below w.heap.size w V := by
                  rw [← hVe]
                  exact (((bel_drew hB6.out).setCell (p := ⟨w.heap.size, 0, none⟩) (Nat.le_refl _) _).setCell (p := ⟨w.heap.size, 14, none⟩) (Nat.le_refl _) _).setCell (p := ⟨w.heap.size, 15, none⟩) (Nat.le_refl _) _
                first | rw [hVe2] | rw [hVe]
                replace hCmV := Lib.hid hCmV
                replace hC6V := Lib.hid hC6V
                replace hBV := Lib.hid hBV
                clear hVe hVe2 q0 q1 q2 q3 v0 v1 f0 f14 f15 hCt6 hCm6 hC66 hB6
                go_upto_region 16 with fail
                go_wp2_with (first
                  | (refine wpList_load_all rfl 73 (.tmp 3) (by rfl) w.heap.size _ 73 dm (by rfl) hCmV.out hdm.out.1 hdm.out.2 msgInfo ?_)
                  | (refine wpList_store_cel rfl 73 (.tmp 6) (.tmp 91) (by rfl) (w.heap.size + 1 + 1) 0 #[.int .u8 4, .int .u8 id.kind, .string id.text, .slice B1 d1 e1, .slice B2 d2 e2, .string ⟨#[]⟩, .int .u8 0, .string ⟨#[]⟩, .slice none 0 0, .slice none 0 0, .int .u8 0, .string ⟨#[]⟩, .slice none 0 0, .slice none 0 0, .int .i64 n, .string m.text] _ #[.int .u8 4, .int .u8 id.kind, .string id.text, .slice B1 d1 e1, .slice B2 d2 e2, .string ⟨#[]⟩, .int .u8 0, .string ⟨#[]⟩, .slice none 0 0, .slice none 0 0, .int .u8 0, .string ⟨#[]⟩, .slice none 0 0, .slice none 0 0, .int .i64 n, .string m.text] 73 (by rfl) (by rfl) hC6V.out (Nat.le_refl 16) (putA_whole _ _ rfl) msgInfo (by first | (simp; done) | (simp [Value.oneCell']; done)) ?_; intro w9 hF hA9; replace hF := Lib.hid hF; replace hA9 := Lib.hid hA9))
                refine bodyPost_ret (results_cel2 rfl _ _ _ _ _ dm rfl hF.out hdm.out.1 hdm.out.2 msgInfo) rfl ?_
                have hRe : M = (⟨4, id, ⟨#[]⟩, zeroJ, zeroJ, n, m.text⟩, 0) := by exact hMt.out.symm
                have a9 := hA9.out
                subst hRe
                refine ⟨.slice B1 d1 e1, .slice B2 d2 e2, nilV, nilV, rfl, Or.inl ⟨rfl, rfl, rfl⟩, ?_, rfl, hBV.out.trans (a9.1 _ (by omega))⟩
                exact zero_own _ _ _ _ _
            · clear v2 v3 v4 v5 v6 v7 v8 v9 v10 v11 v12 v13 v14 v15
              go_upto_region 14 with fail
              go_wp2_with (refine wpList_store_cel rfl 73 (.tmp 6) (.tmp 84) (by rfl) (w.heap.size + 1 + 1) 0 #[.int .u8 0, .int .u8 0, .string ⟨#[]⟩, .slice none 0 0, .slice none 0 0, .string ⟨#[]⟩, .int .u8 0, .string ⟨#[]⟩, .slice none 0 0, .slice none 0 0, .int .u8 0, .string ⟨#[]⟩, .slice none 0 0, .slice none 0 0, .int .i64 0, .string ⟨#[]⟩] _ #[.int .u8 0, .int .u8 0, .string ⟨#[]⟩, .slice none 0 0, .slice none 0 0, .string ⟨#[]⟩, .int .u8 0, .string ⟨#[]⟩, .slice none 0 0, .slice none 0 0, .int .u8 0, .string ⟨#[]⟩, .slice none 0 0, .slice none 0 0, .int .i64 0, .string ⟨#[]⟩] 73 (by rfl) (by rfl) hC66.out (Nat.le_refl 16) (putA_whole _ _ rfl) msgInfo (by first | (simp; done) | (simp [Value.oneCell']; done)) ?_; intro w9 hF hA9; replace hF := Lib.hid hF; replace hA9 := Lib.hid hA9)
              refine bodyPost_ret (results_cel2 rfl _ _ _ _ _ dm rfl hF.out hdm.out.1 hdm.out.2 msgInfo) rfl ?_
              have hRe : M = (zeroM, 73) := by rw [← hMf.out]; exact if_pos (Or.inr (Or.inr (Or.inr ⟨by first | rfl | trivial, by have := hk1; simpa using this⟩)))
              have a9 := hA9.out
              subst hRe
              exact ⟨nilV, nilV, nilV, nilV, rfl, Or.inr ⟨rfl, rfl, rfl⟩, zero_own _ _ _ _ _, rfl, hB6.out.trans (a9.1 _ (by omega))⟩
          · have hk5' : (m.kind != 5) = true := by simp [hk5]
            replace hk5 := Lib.hid hk5
            go_upto_region 14 with fail
            go_wp2_with (refine wpList_store_cel rfl 73 (.tmp 6) (.tmp 84) (by rfl) (w.heap.size + 1 + 1) 0 #[.int .u8 0, .int .u8 0, .string ⟨#[]⟩, .slice none 0 0, .slice none 0 0, .string ⟨#[]⟩, .int .u8 0, .string ⟨#[]⟩, .slice none 0 0, .slice none 0 0, .int .u8 0, .string ⟨#[]⟩, .slice none 0 0, .slice none 0 0, .int .i64 0, .string ⟨#[]⟩] _ #[.int .u8 0, .int .u8 0, .string ⟨#[]⟩, .slice none 0 0, .slice none 0 0, .string ⟨#[]⟩, .int .u8 0, .string ⟨#[]⟩, .slice none 0 0, .slice none 0 0, .int .u8 0, .string ⟨#[]⟩, .slice none 0 0, .slice none 0 0, .int .i64 0, .string ⟨#[]⟩] 73 (by rfl) (by rfl) hC65.out (Nat.le_refl 16) (putA_whole _ _ rfl) msgInfo (by first | (simp; done) | (simp [Value.oneCell']; done)) ?_; intro w9 hF hA9; replace hF := Lib.hid hF; replace hA9 := Lib.hid hA9)
            refine bodyPost_ret (results_cel2 rfl _ _ _ _ _ dm rfl hF.out hdm.out.1 hdm.out.2 msgInfo) rfl ?_
            have hRe : M = (zeroM, 73) := by rw [← hMf.out]; exact if_pos (Or.inr (Or.inr (Or.inl hk5.out)))
            have a9 := hA9.out
            subst hRe
            exact ⟨nilV, nilV, nilV, nilV, rfl, Or.inr ⟨rfl, rfl, rfl⟩, zero_own _ _ _ _ _, rfl, hB5.out.trans (a9.1 _ (by omega))⟩
      · cases bad
        · clear hgb hOx2
          have l0 : w.heap.size < w2.heap.size := by omega
          have ne0 : w.heap.size ≠ w2.heap.size := by omega
          have l1 : w1.heap.size < w2.heap.size := by omega
          have ne1 : w1.heap.size ≠ w2.heap.size := by omega
          have ne2 : w.heap.size ≠ w1.heap.size := by omega
          obtain ⟨q0, q1, q2, q3⟩ := hRb.out.c4
          obtain ⟨c0, m1, m2, m3, m4, _, _, _, _, _, c10, c11, c12, c13, _⟩ := hCm2.out.c16
          obtain ⟨y0, y1, y2, y3, y4, _, _, _, _, _, y10, y11, y12, y13, _⟩ := hCm2.out.f16
          obtain ⟨V, hVe⟩ : ∃ V, ((((((w2.setCell ⟨w.heap.size, 0, none⟩ (.int .u8 3)).setCell ⟨w.heap.size, 10, none⟩ (.int .u8 r.kind)).setCell ⟨w.heap.size, 11, none⟩ (.string r.text)).setCell ⟨w.heap.size, 12, none⟩ (.slice R1 h1 k1)).setCell ⟨w.heap.size, 13, none⟩ (.slice R2 h2 k2)).alloc (.cells #[.int .u8 x.kind, .string x.text, .slice X1 f1 g1, .slice X2 f2 g2] 25)).drew = V := ⟨_, rfl⟩
          have hCmV : Cel V w.heap.size 73 #[.int .u8 3, .int .u8 id.kind, .string id.text, .slice B1 d1 e1, .slice B2 d2 e2, .string ⟨#[]⟩, .int .u8 0, .string ⟨#[]⟩, .slice none 0 0, .slice none 0 0, .int .u8 r.kind, .string r.text, .slice R1 h1 k1, .slice R2 h2 k2, .int .i64 0, .string ⟨#[]⟩] := by
            rw [← hVe]
            exact ((((((hCm2.out.set 0 _).set 10 _).set 11 _).set 12 _).set 13 _).alloc _).drew
          have hab : ∀ (o : Nat), (⟨w.heap.size, o, none⟩ : Addr).block = w.heap.size := fun _ => rfl
          have hC6V : Cel V (w.heap.size + 1 + 1) 73 #[.int .u8 0, .int .u8 0, .string ⟨#[]⟩, .slice none 0 0, .slice none 0 0, .string ⟨#[]⟩, .int .u8 0, .string ⟨#[]⟩, .slice none 0 0, .slice none 0 0, .int .u8 0, .string ⟨#[]⟩, .slice none 0 0, .slice none 0 0, .int .i64 0, .string ⟨#[]⟩] := by
            rw [← hVe]
            exact ((((((hC62.out.away (p := ⟨w.heap.size, 0, none⟩) (by show w.heap.size + 1 + 1 ≠ w.heap.size; omega) _).away (p := ⟨w.heap.size, 10, none⟩) (by show w.heap.size + 1 + 1 ≠ w.heap.size; omega) _).away (p := ⟨w.heap.size, 11, none⟩) (by show w.heap.size + 1 + 1 ≠ w.heap.size; omega) _).away (p := ⟨w.heap.size, 12, none⟩) (by show w.heap.size + 1 + 1 ≠ w.heap.size; omega) _).away (p := ⟨w.heap.size, 13, none⟩) (by show w.heap.size + 1 + 1 ≠ w.heap.size; omega) _).alloc _).drew
          have hBV : Below w.heap.size w V := by
            rw [← hVe]
            exact bel_drew ((((((hB2'.out.setCell (p := ⟨w.heap.size, 0, none⟩) (Nat.le_refl _) _).setCell (p := ⟨w.heap.size, 10, none⟩) (Nat.le_refl _) _).setCell (p := ⟨w.heap.size, 11, none⟩) (Nat.le_refl _) _).setCell (p := ⟨w.heap.size, 12, none⟩) (Nat.le_refl _) _).setCell (p := ⟨w.heap.size, 13, none⟩) (Nat.le_refl _) _).alloc (by simp; omega) _)
          have hzV : V.heap.size = w2.heap.size + 1 := by rw [← hVe]; show (World.alloc _ _).heap.size = _; simp
          have hOV := OwnJ.keep (w' := V) r hOr3.out (fun b hb1 hb2 => by
            rw [← hVe]
            refine (Below.heap_alloc _ _ b (by simp; omega)).trans ?_
            rw [Below.heap_setCell _ _ _ _ (by show b ≠ w.heap.size; omega), Below.heap_setCell _ _ _ _ (by show b ≠ w.heap.size; omega), Below.heap_setCell _ _ _ _ (by show b ≠ w.heap.size; omega), Below.heap_setCell _ _ _ _ (by show b ≠ w.heap.size; omega), Below.heap_setCell _ _ _ _ (by show b ≠ w.heap.size; omega)]) (Nat.le_refl _) (Nat.le_refl _)
          have hidV := Lib.hid (hid.out V hBV)
          obtain ⟨ii, hii⟩ : ∃ ii, jisid id = ii := ⟨_, rfl⟩
          rw [hii] at hidV hM
          replace hVe := Lib.hid hVe
          replace hCmV := Lib.hid hCmV
          replace hC6V := Lib.hid hC6V
          replace hBV := Lib.hid hBV
          replace hOV := Lib.hid hOV
          clear hii hid hCm2 hC62 hB2' hOr3 hRb hab
          go_wp2_with fail
          go_region
          rw [hVe.out]
          clear hVe q0 q1 q2 q3 c0 m1 m2 m3 m4 c10 c11 c12 c13 y0 y1 y2 y3 y4 y10 y11 y12 y13
          obtain ⟨_, m1, m2, m3, m4, _⟩ := hCmV.out.c16
          go_wp2_with fail
          refine hidV.out.mono ?_
          rintro e v4 ⟨rfl, hb4⟩
          have hCm4 := Lib.hid (hCmV.out.below hb4 (by omega))
          have hC64 := Lib.hid (hC6V.out.below hb4 (by omega))
          have hz4 := hb4.size
          have hB4 := Lib.hid (hBV.out.trans (hb4.mono (by omega)))
          have hO4 := Lib.hid (OwnJ.keep (w' := v4) r hOV.out (fun b h1 h2 => hb4.block b (by omega)) (Nat.le_refl _) (Nat.le_refl _))
          clear hidV hb4 hCmV hC6V hBV hOV m1 m2 m3 m4
          cases ii
          · go_upto_region 8 with fail
            go_wp2_with (refine wpList_store_cel rfl 73 (.tmp 6) (.tmp 44) (by rfl) (w.heap.size + 1 + 1) 0 #[.int .u8 0, .int .u8 0, .string ⟨#[]⟩, .slice none 0 0, .slice none 0 0, .string ⟨#[]⟩, .int .u8 0, .string ⟨#[]⟩, .slice none 0 0, .slice none 0 0, .int .u8 0, .string ⟨#[]⟩, .slice none 0 0, .slice none 0 0, .int .i64 0, .string ⟨#[]⟩] _ #[.int .u8 0, .int .u8 0, .string ⟨#[]⟩, .slice none 0 0, .slice none 0 0, .string ⟨#[]⟩, .int .u8 0, .string ⟨#[]⟩, .slice none 0 0, .slice none 0 0, .int .u8 0, .string ⟨#[]⟩, .slice none 0 0, .slice none 0 0, .int .i64 0, .string ⟨#[]⟩] 73 (by rfl) (by rfl) hC64.out (Nat.le_refl 16) (putA_whole _ _ rfl) msgInfo (by first | (simp; done) | (simp [Value.oneCell']; done)) ?_; intro w9 hF hA9; replace hF := Lib.hid hF; replace hA9 := Lib.hid hA9)
            refine bodyPost_ret (results_cel2 rfl _ _ _ _ _ dm rfl hF.out hdm.out.1 hdm.out.2 msgInfo) rfl ?_
            have hRe : M = (zeroM, 73) := by rw [← hM.out]; simp
            have a9 := hA9.out
            subst hRe
            exact ⟨nilV, nilV, nilV, nilV, rfl, Or.inr ⟨rfl, rfl, rfl⟩, zero_own _ _ _ _ _, rfl, hB4.out.trans (a9.1 _ (by omega))⟩
          · go_upto_region 9 with fail
            go_wp2_with (first
              | (refine wpList_load_all rfl 73 (.tmp 3) (by rfl) w.heap.size _ 73 dm (by rfl) hCm4.out hdm.out.1 hdm.out.2 msgInfo ?_)
              | (refine wpList_store_cel rfl 73 (.tmp 6) (.tmp 45) (by rfl) (w.heap.size + 1 + 1) 0 #[.int .u8 3, .int .u8 id.kind, .string id.text, .slice B1 d1 e1, .slice B2 d2 e2, .string ⟨#[]⟩, .int .u8 0, .string ⟨#[]⟩, .slice none 0 0, .slice none 0 0, .int .u8 r.kind, .string r.text, .slice R1 h1 k1, .slice R2 h2 k2, .int .i64 0, .string ⟨#[]⟩] _ #[.int .u8 3, .int .u8 id.kind, .string id.text, .slice B1 d1 e1, .slice B2 d2 e2, .string ⟨#[]⟩, .int .u8 0, .string ⟨#[]⟩, .slice none 0 0, .slice none 0 0, .int .u8 r.kind, .string r.text, .slice R1 h1 k1, .slice R2 h2 k2, .int .i64 0, .string ⟨#[]⟩] 73 (by rfl) (by rfl) hC64.out (Nat.le_refl 16) (putA_whole _ _ rfl) msgInfo (by first | (simp; done) | (simp [Value.oneCell']; done)) ?_; intro w9 hF hA9; replace hF := Lib.hid hF; replace hA9 := Lib.hid hA9))
            refine bodyPost_ret (results_cel2 rfl _ _ _ _ _ dm rfl hF.out hdm.out.1 hdm.out.2 msgInfo) rfl ?_
            have hRe : M = (⟨3, id, ⟨#[]⟩, zeroJ, r, 0, ⟨#[]⟩⟩, 0) := by rw [← hM.out]; simp
            have a9 := hA9.out
            subst hRe
            refine ⟨.slice B1 d1 e1, .slice B2 d2 e2, .slice R1 h1 k1, .slice R2 h2 k2, rfl, Or.inl ⟨rfl, rfl, rfl⟩, ?_, rfl, hB4.out.trans (a9.1 _ (by omega))⟩
            exact OwnJ.keep (w' := w9) r hO4.out (fun b h1 h2 => a9.2.1 b (by omega)) (by omega) (by have := a9.2.2; omega)
        · exact absurd rfl hgb
end Go.Proofs.YtdjfoabinjfnfaaGreatDoor
