/-
  The walk of rpc.Write: messages of kind 3.
-/
import Derived.Test.YtdjfoabinjfnfaaGreatDoorM32
namespace Go.Proofs.YtdjfoabinjfnfaaGreatDoor
open Go.RowKit
set_option maxRecDepth 100000 in
set_option maxHeartbeats 16000000 in
theorem rpcWrite3_any (I P R : Jsn) (me tx : ByteArray) (co : Int) (X : Nat → Prop) (w : World) (i1 i2 p1 p2 r1 r2 : Value) (hE : EnvU w) (hI : JV w X I i1 i2) (hP : JV w X P p1 p2) (hR : JV w X R r1 r2)
    (hbi : jbulk I ≤ 200000) (hbp : jbulk P ≤ 200000) (hbr : jbulk R ≤ 200000) (hsm : me.size ≤ 150000) (hst : tx.size ≤ 150000) (hco0 : -9223372036854775808 ≤ co) (hco1 : co ≤ 9223372036854775807) :
    Calls Tryz.prog 42 #[msgV ⟨3, I, me, P, R, co, tx⟩ i1 i2 p1 p2 r1 r2] w (WriteEnd (jwrite ownL Lib.validD ⟨3, I, me, P, R, co, tx⟩) w) := by
  have hXX : ∀ j a b, JV w X j a b → JV w (fun k => k < w.heap.size) j a b := fun j a b h => JV.keep (Nat.le_refl _) (fun _ _ _ => rfl) (fun _ _ h2 => h2) j h
  have hJi := Lib.hid (hXX I _ _ hI)
  have hJp := Lib.hid (hXX P _ _ hP)
  have hJr := Lib.hid (hXX R _ _ hR)
  have hof : (ofNL co).length ≤ 207 := by
    have h1 := own_itoa co hco0 hco1
    have h2 := ownL_len2 (Lib.itoa co)
    rw [h1] at h2
    exact h2
  have hEb : jbulk (menv (⟨3, I, me, P, R, co, tx⟩ : Msg)) ≤ 1000000 := by
    have := env_bulk (⟨3, I, me, P, R, co, tx⟩ : Msg)
    dsimp only at this
    omega
  obtain ⟨xA, xa, xb, xB, xc, xd, rfl, rfl⟩ := hI.forms
  obtain ⟨pA, pa, pb, pB, pc, pd, rfl, rfl⟩ := hP.forms
  obtain ⟨rA, ra, rb, rB, rc, rd, rfl, rfl⟩ := hR.forms
  obtain ⟨RR, hRR⟩ : ∃ Q0, jwrite ownL Lib.validD (⟨3, I, me, P, R, co, tx⟩ : Msg) = Q0 := ⟨_, rfl⟩
  rw [hRR]
  have hk14 : ¬ ((3 : Int) < 1 ∨ 4 < (3 : Int)) := by decide
  have hFf : mform 3 I me P R co tx = false → RR = (zeroJ, 4) := fun h => by
    rw [← hRR]; unfold jwrite; rw [if_neg hk14, if_pos (show mok (⟨3, I, me, P, R, co, tx⟩ : Msg) = false from h)]
  have hCk : mform 3 I me P R co tx = true → jcheck ownL Lib.validD (menv (⟨3, I, me, P, R, co, tx⟩ : Msg)) = 0 → RR = (menv (⟨3, I, me, P, R, co, tx⟩ : Msg), 0) := fun h h2 => by
    rw [← hRR]; unfold jwrite; rw [if_neg hk14, if_neg (by rw [show mok (⟨3, I, me, P, R, co, tx⟩ : Msg) = true from h]; simp), if_neg (by simp [h2])]
  have hCn : mform 3 I me P R co tx = true → jcheck ownL Lib.validD (menv (⟨3, I, me, P, R, co, tx⟩ : Msg)) ≠ 0 → RR = (zeroJ, jcheck ownL Lib.validD (menv (⟨3, I, me, P, R, co, tx⟩ : Msg))) := fun h h2 => by
    rw [← hRR]; unfold jwrite; rw [if_neg hk14, if_neg (by rw [show mok (⟨3, I, me, P, R, co, tx⟩ : Msg) = true from h]; simp), if_pos h2]
  clear hRR hXX hk14
  have hbi' : jbulk I ≤ 1000000 := by omega
  have hFo := Lib.hid (fun (W : World) (hB : Below w.heap.size w W) => rpcForm3_any I P R me tx co _ W _ _ _ _ _ _ (hE.below hB) (hJi.out.later hB) (hJp.out.later hB) (hJr.out.later hB) (by omega) (by omega) (by omega) (by omega) (by omega))
  replace hE := Lib.hid hE
  clear hI hP hR hbi'
  obtain ⟨fb, hfb⟩ : ∃ b, mform 3 I me P R co tx = b := ⟨_, rfl⟩
  rw [hfb] at hFo hFf hCk hCn
  replace hFo := Lib.hid hFo.out
  replace hFf := Lib.hid hFf
  clear hfb
  obtain ⟨dj, hdj⟩ := jsnDesc
  obtain ⟨dm, hdm⟩ := msgDesc
  replace hdj := Lib.hid hdj
  replace hdm := Lib.hid hdm
  obtain ⟨W0, hW0⟩ : ∃ W, (w.alloc (.cells #[.int .u8 3, .int .u8 I.kind, .string I.text, .slice xA xa xb, .slice xB xc xd, .string me, .int .u8 P.kind, .string P.text, .slice pA pa pb, .slice pB pc pd, .int .u8 R.kind, .string R.text, .slice rA ra rb, .slice rB rc rd, .int .i64 co, .string tx] 73)).alloc (.cells #[.int .u8 0, .string ⟨#[]⟩, .slice none 0 0, .slice none 0 0] 25) = W := ⟨_, rfl⟩
  have hB0 : Below w.heap.size w W0 := by rw [← hW0]; exact ((Below.refl _ _).alloc (Nat.le_refl _) _).alloc (by simp) _
  have hM0 : Cel W0 w.heap.size 73 #[.int .u8 3, .int .u8 I.kind, .string I.text, .slice xA xa xb, .slice xB xc xd, .string me, .int .u8 P.kind, .string P.text, .slice pA pa pb, .slice pB pc pd, .int .u8 R.kind, .string R.text, .slice rA ra rb, .slice rB rc rd, .int .i64 co, .string tx] := by rw [← hW0]; exact (Cel.fresh _ _ _).alloc _
  have hO0 : Cel W0 (w.heap.size + 1) 25 #[.int .u8 0, .string ⟨#[]⟩, .slice none 0 0, .slice none 0 0] := by
    rw [← hW0]
    have := Cel.fresh (w.alloc (.cells #[.int .u8 3, .int .u8 I.kind, .string I.text, .slice xA xa xb, .slice xB xc xd, .string me, .int .u8 P.kind, .string P.text, .slice pA pa pb, .slice pB pc pd, .int .u8 R.kind, .string R.text, .slice rA ra rb, .slice rB rc rd, .int .i64 co, .string tx] 73)) 25 #[.int .u8 0, .string ⟨#[]⟩, .slice none 0 0, .slice none 0 0]
    simpa using this
  have hs0 : W0.heap.size = w.heap.size + 2 := by rw [← hW0]; simp
  replace hW0 := Lib.hid hW0
  replace hB0 := Lib.hid hB0
  replace hM0 := Lib.hid hM0
  replace hO0 := Lib.hid hO0
  replace hs0 := Lib.hid hs0
  unfold msgV
  go_enter Tryz.func42, Tryz.ntmps42
  go_upto_region 1 with fail
  rw [hW0.out]
  clear hW0
  obtain ⟨c0, c1, c2, c3, c4, c5, c6, c7, c8, c9, c10, c11, c12, c13, c14, c15⟩ := cel16 hM0.out
  go_upto_region 3 with fail
  have hFo' := Lib.hid (hFo.out W0 hB0.out)
  clear hFo
  go_wp2_with ((with_reducible refine wpl ?_); refine wpList_load_all rfl 73 (.tmp 1) (by rfl) w.heap.size _ 73 dm (by rfl) hM0.out hdm.out.1 hdm.out.2 msgInfo ?_)
  refine hFo'.out.mono ?_
  rintro e w1 ⟨rfl, hb⟩
  clear c0 c1 c2 c3 c4 c5 c6 c7 c8 c9 c10 c11 c12 c13 c14 c15 hFo'
  have hz1 := hb.size
  have hB1 := hB0.out.trans (hb.mono (by rw [hs0.out]; omega))
  have hM1 := hM0.out.below hb hM0.out.lt
  have hO1 := hO0.out.below hb hO0.out.lt
  clear hb hB0 hM0 hO0
  cases fb
  · replace hFf := Lib.hid (hFf.out rfl)
    replace hO0 := Lib.hid hO1
    replace hB0 := Lib.hid hB1
    clear hCk hCn hM1 hO1 hB1
    go_wp2_with ((with_reducible refine wpl ?_); refine wpList_store_cel rfl 25 (.tmp 2) (.tmp 22) (by rfl) (w.heap.size + 1) 0 #[.int .u8 0, .string ⟨#[]⟩, .slice none 0 0, .slice none 0 0] _ #[.int .u8 0, .string ⟨#[]⟩, .slice none 0 0, .slice none 0 0] 25 (by rfl) (by rfl) hO0.out (Nat.le_refl 4) (putA_whole _ _ rfl) jsnInfo (by first | (simp; done) | (simp [Value.oneCell']; done)) ?_; intro W9 hc9 hA9; replace hc9 := Lib.hid hc9; replace hA9 := Lib.hid hA9)
    exact bodyPost_ret (results_cel2 Tryz.results42 _ _ _ _ _ dj rfl hc9.out hdj.out.1 hdj.out.2 jsnInfo) rfl (by rw [hFf.out]; exact zeroWrite (hB0.out.trans (hA9.out.1 _ (by omega))))
  replace hCk := hCk rfl
  replace hCn := hCn rfl
  replace hCk := Lib.hid hCk
  replace hCn := Lib.hid hCn
  clear hFf
  obtain ⟨W1, hW1⟩ : ∃ W, w1.alloc (.cells #[.int .u8 7, .string ⟨#[]⟩, .slice none 0 0, .slice none 0 0] 25) = W := ⟨_, rfl⟩
  have hx : Below w1.heap.size w1 W1 := by rw [← hW1]; exact (Below.refl _ _).alloc (Nat.le_refl _) _
  obtain ⟨d, hd⟩ : ∃ s, w1.heap.size = s := ⟨_, rfl⟩
  have hI := Lib.hid (show WrI w d #[.int .u8 3, .int .u8 I.kind, .string I.text, .slice xA xa xb, .slice xB xc xd, .string me, .int .u8 P.kind, .string P.text, .slice pA pa pb, .slice pB pc pd, .int .u8 R.kind, .string R.text, .slice rA ra rb, .slice rB rc rd, .int .i64 co, .string tx] objJ (.slice none 0 0) (.slice none 0 0) [] W1 from
    ⟨hM1.below hx hM1.lt, hO1.below hx hO1.lt, by rw [← hW1, ← hd]; exact Cel.fresh _ _ _, ObjR.nil _ _ _ _, hB1.trans (hx.mono (by have := hM1.lt; omega)), by have := hO1.lt; omega⟩)
  have hS := Lib.hid (show Sm 0 objJ from ⟨Nat.le_refl _, Nat.le_refl _⟩)
  have hok0 := Lib.hid objJ_ok
  replace hW1 := Lib.hid hW1
  clear hx hM1 hO1 hB1 hz1 hs0
  go_upto_region 7 with fail
  rw [hW1.out]
  try rw [hd]
  clear hW1
  replace hd := Lib.hid hd
  obtain ⟨c0, c1, c2, c3, c4, c5, c6, c7, c8, c9, c10, c11, c12, c13, c14, c15⟩ := cel16 hI.out.msg
  have hlt := hI.out.lt
  go_upto_region 7 with fail
  go_wp2_with fail
  refine (rpcStr_any _ _).mono ?_
  rintro e y2 ⟨rfl, hb⟩
  replace hI := Lib.hid (hI.out.step hb)
  clear hb hlt
  have hlt := hI.out.lt
  go_wp2_with fail
  refine (rpcPut_any d (d + 1) objJ verJ _ _ _ _ _ _ _ kVer hI.out.box hI.out.row (by omega) hlt.1 (leaf_jv _ (fun k => k < w.heap.size) 5 _ (by omega) (by omega)) (fun k hk e => by have := hI.out.row.1.lt k e; omega) (Nat.le_trans hS.out.1 (by decide)) (Nat.le_trans hS.out.2 (by decide)) (by have : jbulk verJ = 4 := (by unfold verJ strJ; rw [jbulk_eq]; rfl); omega)).mono ?_
  intro e z2 hp
  obtain ⟨rfl, vN2, vL2, ws2, hI2⟩ := hI.out.put hp
  replace hS := Lib.hid (hS.out.put kVer verJ)
  have hok2 := Lib.hid (putJ_ok hok0.out kVer verJ)
  obtain ⟨o2, ho2⟩ : ∃ o, putJ objJ kVer verJ = o := ⟨_, rfl⟩
  rw [ho2] at hI2 hS hok2
  replace hI := Lib.hid hI2
  replace ho2 := Lib.hid ho2
  clear hp hlt hI2 c0 c1 c2 c3 c4 c5 c6 c7 c8 c9 c10 c11 c12 c13 c14 c15
  obtain ⟨c0, c1, c2, c3, c4, c5, c6, c7, c8, c9, c10, c11, c12, c13, c14, c15⟩ := cel16 hI.out.msg
  have hlt := hI.out.lt
  go_upto_region 8 with fail
  go_wp2_with fail
  refine (rpcPut_any d (d + 1) o2 I _ _ _ _ _ _ _ kId hI.out.box hI.out.row (by omega) hlt.1 (hJi.out.later hI.out.bel) (fun k hk e => by have := hI.out.row.1.lt k e; omega) (Nat.le_trans hS.out.1 (by decide)) (Nat.le_trans hS.out.2 (by decide)) (by omega)).mono ?_
  intro e z3 hp
  obtain ⟨rfl, vN3, vL3, ws3, hI2⟩ := hI.out.put hp
  replace hS := Lib.hid (hS.out.put kId I)
  have hok3 := Lib.hid (putJ_ok hok2.out kId I)
  obtain ⟨o3, ho3⟩ : ∃ o, putJ o2 kId I = o := ⟨_, rfl⟩
  rw [ho3] at hI2 hS hok3
  replace hI := Lib.hid hI2
  replace ho3 := Lib.hid ho3
  clear hp hlt hI2 c0 c1 c2 c3 c4 c5 c6 c7 c8 c9 c10 c11 c12 c13 c14 c15
  obtain ⟨c0, c1, c2, c3, c4, c5, c6, c7, c8, c9, c10, c11, c12, c13, c14, c15⟩ := cel16 hI.out.msg
  have hlt := hI.out.lt
  go_upto_region 12 with fail
  go_wp2_with fail
  refine (rpcPut_any d (d + 1) o3 R _ _ _ _ _ _ _ kRes hI.out.box hI.out.row (by omega) hlt.1 (hJr.out.later hI.out.bel) (fun k hk e => by have := hI.out.row.1.lt k e; omega) (Nat.le_trans hS.out.1 (by decide)) (Nat.le_trans hS.out.2 (by decide)) (by omega)).mono ?_
  intro e z4 hp
  obtain ⟨rfl, vN4, vL4, ws4, hI2⟩ := hI.out.put hp
  replace hS := Lib.hid (hS.out.put kRes R)
  have hok4 := Lib.hid (putJ_ok hok3.out kRes R)
  obtain ⟨o4, ho4⟩ : ∃ o, putJ o3 kRes R = o := ⟨_, rfl⟩
  rw [ho4] at hI2 hS hok4
  replace hI := Lib.hid hI2
  replace ho4 := Lib.hid ho4
  clear hp hlt hI2 c0 c1 c2 c3 c4 c5 c6 c7 c8 c9 c10 c11 c12 c13 c14 c15
  have hEv : menv (⟨3, I, me, P, R, co, tx⟩ : Msg) = o4 := by
    rw [← ho4.out, ← ho3.out, ← ho2.out]
    rfl
  rw [hEv] at hEb hCk
  replace hEv := Lib.hid hEv
  have hCc := Lib.hid (jsnCheck_any o4 _ _ _ _ (hE.out.below hI.out.bel) (OwnJ.jv o4 (hI.out.own hok4.out.1)) hEb)
  obtain ⟨d0, d1, d2, d3⟩ := hI.out.box.c4
  have c0 := (cel16 hI.out.msg).1
  go_upto_region 18 with fail
  clear c0
  go_wp2_with fail
  refine hCc.out.mono ?_
  rintro e z30 ⟨rfl, hb⟩
  replace hI := Lib.hid (hI.out.step hb)
  clear hb hCc d0 d1 d2 d3
  obtain ⟨c, hc⟩ : ∃ c, jcheck ownL Lib.validD o4 = c := ⟨_, rfl⟩
  rw [hc]
  by_cases hc0 : c = 0
  · subst hc0
    have hOJ := hI.out.own hok4.out.1
    obtain ⟨d0, d1, d2, d3⟩ := hI.out.box.c4
    obtain ⟨qA, qa, qb, qB, qc, qd, rfl, rfl⟩ := hOJ.forms
    have hRR2 : RR = (o4, 0) := by
      rw [← hCk.out hc]
    replace hOJ := Lib.hid hOJ
    replace hc := Lib.hid hc
    have htop := hI.out.top
    go_wp2_with ((with_reducible refine wpl ?_); refine wpList_store_cel rfl 25 (.tmp 2) (.tmp 71) (by rfl) (w.heap.size + 1) 0 #[.int .u8 o4.kind, .string o4.text, .slice qA qa qb, .slice qB qc qd] _ #[.int .u8 o4.kind, .string o4.text, .slice qA qa qb, .slice qB qc qd] 25 (by rfl) (by rfl) hI.out.out (Nat.le_refl 4) (putA_whole _ _ rfl) jsnInfo (by first | (simp; done) | (simp [Value.oneCell']; done)) ?_; intro W9 hc9 hA9; replace hc9 := Lib.hid hc9; replace hA9 := Lib.hid hA9)
    refine bodyPost_ret (results_cel2 Tryz.results42 _ _ _ _ _ dj rfl hc9.out hdj.out.1 hdj.out.2 jsnInfo) rfl ?_
    rw [hRR2]
    exact ⟨_, _, rfl, OwnJ.keep _ hOJ.out (fun k h1 h2 => hA9.out.2.1 k (by omega)) (by omega) (by rw [hA9.out.2.2]; exact Nat.le_refl _), hI.out.bel.trans (hA9.out.1 _ (by omega))⟩
  · have hc0' : (c != 0) = true := by simp [hc0]
    have hRR2 : RR = (zeroJ, c) := by
      rw [← hc]; exact hCn.out (by rw [hEv.out, hc]; exact hc0) |>.trans (by rw [hEv.out])
    replace hc := Lib.hid hc
    replace hc0 := Lib.hid hc0
    go_wp2_with ((with_reducible refine wpl ?_); refine wpList_store_cel rfl 25 (.tmp 2) (.tmp 69) (by rfl) (w.heap.size + 1) 0 #[.int .u8 0, .string ⟨#[]⟩, .slice none 0 0, .slice none 0 0] _ #[.int .u8 0, .string ⟨#[]⟩, .slice none 0 0, .slice none 0 0] 25 (by rfl) (by rfl) hI.out.out (Nat.le_refl 4) (putA_whole _ _ rfl) jsnInfo (by first | (simp; done) | (simp [Value.oneCell']; done)) ?_; intro W9 hc9 hA9; replace hc9 := Lib.hid hc9; replace hA9 := Lib.hid hA9)
    exact bodyPost_ret (results_cel2 Tryz.results42 _ _ _ _ _ dj rfl hc9.out hdj.out.1 hdj.out.2 jsnInfo) rfl (by rw [show RR = (zeroJ, c) from hRR2]; exact zeroWrite (hI.out.bel.trans (hA9.out.1 _ (by omega))))
end Go.Proofs.YtdjfoabinjfnfaaGreatDoor
