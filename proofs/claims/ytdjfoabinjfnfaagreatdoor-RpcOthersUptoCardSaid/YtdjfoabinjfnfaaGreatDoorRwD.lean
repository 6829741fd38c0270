/-
  The walk of rpc.Message.form: messages of the four kinds.
-/
import Derived.Test.YtdjfoabinjfnfaaGreatDoorM30
import Derived.BigQuiet
namespace Go.Proofs.YtdjfoabinjfnfaaGreatDoor
open Go.RowKit
def mform (k : Int) (I : Jsn) (me : ByteArray) (P R : Jsn) (co : Int) (tx : ByteArray) : Bool :=
  !((k == 2 && !jsame I zeroJ) || (k != 2 && !jisid I && !(k == 4 && I.kind == 1))) &&
  !((decide (2 < k) && (me.data.toList != [] || !jsame P zeroJ)) || (decide (k ≤ 2) && !jsame P zeroJ && !jispar P)) &&
  !((k == 3) == jsame R zeroJ) && !(k != 4 && (co != 0 || tx.data.toList != [])) && Lib.validD me.data.toList && Lib.validD tx.data.toList
theorem cel16 {w : World} {b : Nat} {t : TypeId} {v0 v1 v2 v3 v4 v5 v6 v7 v8 v9 v10 v11 v12 v13 v14 v15 : Value} (h : Cel w b t #[v0, v1, v2, v3, v4, v5, v6, v7, v8, v9, v10, v11, v12, v13, v14, v15]) :
    w.cell? ⟨b, 0, none⟩ = some v0 ∧ w.cell? ⟨b, 1, none⟩ = some v1 ∧ w.cell? ⟨b, 2, none⟩ = some v2 ∧ w.cell? ⟨b, 3, none⟩ = some v3 ∧ w.cell? ⟨b, 4, none⟩ = some v4 ∧ w.cell? ⟨b, 5, none⟩ = some v5 ∧ w.cell? ⟨b, 6, none⟩ = some v6 ∧ w.cell? ⟨b, 7, none⟩ = some v7 ∧
    w.cell? ⟨b, 8, none⟩ = some v8 ∧ w.cell? ⟨b, 9, none⟩ = some v9 ∧ w.cell? ⟨b, 10, none⟩ = some v10 ∧ w.cell? ⟨b, 11, none⟩ = some v11 ∧ w.cell? ⟨b, 12, none⟩ = some v12 ∧ w.cell? ⟨b, 13, none⟩ = some v13 ∧ w.cell? ⟨b, 14, none⟩ = some v14 ∧ w.cell? ⟨b, 15, none⟩ = some v15 :=
  ⟨h.cell 0, h.cell 1, h.cell 2, h.cell 3, h.cell 4, h.cell 5, h.cell 6, h.cell 7, h.cell 8, h.cell 9, h.cell 10, h.cell 11, h.cell 12, h.cell 13, h.cell 14, h.cell 15⟩
structure FmI (w : World) (cs : Array Value) (W : World) : Prop where
  cel : Cel W w.heap.size 73 cs
  bel : Below w.heap.size w W
theorem FmI.step {w W W' : World} {cs : Array Value} (h : FmI w cs W) (hb : Below W.heap.size W W') : FmI w cs W' := ⟨h.1.below hb h.1.lt, h.2.trans (hb.mono h.2.size)⟩
theorem FmI.drewN {w W : World} {cs : Array Value} (h : FmI w cs W) (n : Nat) : FmI w cs (W.drewN n) := ⟨h.1, bel_drewN h.2 n⟩
set_option maxRecDepth 100000 in
set_option maxHeartbeats 8000000 in
theorem rpcForm1_any (I P R : Jsn) (me tx : ByteArray) (co : Int) (X : Nat → Prop) (w : World) (i1 i2 p1 p2 r1 r2 : Value) (hE : EnvU w) (hI : JV w X I i1 i2) (hP : JV w X P p1 p2) (hR : JV w X R r1 r2)
    (hbi : jbulk I ≤ 1000000) (hbp : jbulk P ≤ 1000000) (hbr : jbulk R ≤ 1000000) (hsm : me.size ≤ 1000000) (hst : tx.size ≤ 1000000) :
    Calls Tryz.prog 81 #[msgV ⟨1, I, me, P, R, co, tx⟩ i1 i2 p1 p2 r1 r2] w (ValEnd (mform 1 I me P R co tx) w) := by
  obtain ⟨xA, xa, xb, xB, xc, xd, rfl, rfl⟩ := hI.forms
  obtain ⟨pA, pa, pb, pB, pc, pd, rfl, rfl⟩ := hP.forms
  obtain ⟨rA, ra, rb, rB, rc, rd, rfl, rfl⟩ := hR.forms
  have hId := Lib.hid (fun (W : World) (hB : Below w.heap.size w W) => rpcId_any I X W _ _ (hI.later hB) hbi)
  have hPa := Lib.hid (fun (W : World) (hB : Below w.heap.size w W) => rpcParams_any P X W _ _ (hP.later hB))
  have hNo := Lib.hid (fun (j : Jsn) (W : World) (a b : Value) (hB : Below w.heap.size w W) (hJ : JV w X j a b) (hk : jbulk j ≤ 1000000) => rpcNone_any j X W a b (hJ.later hB) (by omega))
  have hVal := Lib.hid (fun (s : ByteArray) (W : World) (hB : Below w.heap.size w W) (hs : s.size ≤ 1000000) => utfValid_any s W (hE.below hB) (by omega))
  have hJi := Lib.hid hI
  have hJp := Lib.hid hP
  have hJr := Lib.hid hR
  obtain ⟨W0, hW0⟩ : ∃ W0, w.alloc (.cells #[.int .u8 1, .int .u8 I.kind, .string I.text, .slice xA xa xb, .slice xB xc xd, .string me, .int .u8 P.kind, .string P.text, .slice pA pa pb, .slice pB pc pd, .int .u8 R.kind, .string R.text, .slice rA ra rb, .slice rB rc rd, .int .i64 co, .string tx] 73) = W0 := ⟨_, rfl⟩
  have hV : Hid (FmI w #[.int .u8 1, .int .u8 I.kind, .string I.text, .slice xA xa xb, .slice xB xc xd, .string me, .int .u8 P.kind, .string P.text, .slice pA pa pb, .slice pB pc pd, .int .u8 R.kind, .string R.text, .slice rA ra rb, .slice rB rc rd, .int .i64 co, .string tx] W0) := Lib.hid ⟨by rw [← hW0]; exact Cel.fresh _ _ _, by rw [← hW0]; exact (Below.refl _ _).alloc (Nat.le_refl _) _⟩
  replace hW0 := Lib.hid hW0
  clear hE hI hP hR
  unfold msgV
  go_enter Tryz.func81, Tryz.ntmps81
  go_upto_region 1 with fail
  rw [hW0.out]
  clear hW0
  obtain ⟨c0, c1, c2, c3, c4, c5, c6, c7, c8, c9, c10, c11, c12, c13, c14, c15⟩ := cel16 hV.out.1
  go_wp2_with fail
  go_quiet (fail)
  have hbd := hV.out.2
  replace hV := Lib.hid (FmI.drewN hV.out nq)
  clear c0 c1 c2 c3 c4 c5 c6 c7 c8 c9 c10 c11 c12 c13 c14 c15 hbd
  obtain ⟨c0, c1, c2, c3, c4, c5, c6, c7, c8, c9, c10, c11, c12, c13, c14, c15⟩ := cel16 hV.out.1
  go_wp2_with fail
  refine (hId.out _ hV.out.2).mono ?_
  rintro e w1 ⟨rfl, hb⟩
  replace hV := Lib.hid (hV.out.step hb)
  clear c0 c1 c2 c3 c4 c5 c6 c7 c8 c9 c10 c11 c12 c13 c14 c15 hb
  obtain ⟨ii, hii⟩ : ∃ b, jisid I = b := ⟨_, rfl⟩
  rw [hii]
  replace hii := Lib.hid hii
  cases ii
  · obtain ⟨c0, c1, c2, c3, c4, c5, c6, c7, c8, c9, c10, c11, c12, c13, c14, c15⟩ := cel16 hV.out.1
    go_wp2_with fail
    go_ret
    exact ⟨by rw [show mform 1 I me P R co tx = false from by unfold mform; simp only [hii.out] <;> simp]; rfl, hV.out.2⟩
  · obtain ⟨c0, c1, c2, c3, c4, c5, c6, c7, c8, c9, c10, c11, c12, c13, c14, c15⟩ := cel16 hV.out.1
    go_wp2_with fail
    refine (hNo.out P _ _ _ hV.out.2 hJp.out (by omega)).mono ?_
    rintro e w2 ⟨rfl, hb⟩
    replace hV := Lib.hid (hV.out.step hb)
    clear c0 c1 c2 c3 c4 c5 c6 c7 c8 c9 c10 c11 c12 c13 c14 c15 hb
    obtain ⟨np, hnp⟩ : ∃ b, jsame P zeroJ = b := ⟨_, rfl⟩
    rw [hnp]
    replace hnp := Lib.hid hnp
    cases np
    · obtain ⟨c0, c1, c2, c3, c4, c5, c6, c7, c8, c9, c10, c11, c12, c13, c14, c15⟩ := cel16 hV.out.1
      go_wp2_with fail
      refine (hPa.out _ hV.out.2).mono ?_
      rintro e w3 ⟨rfl, hb⟩
      replace hV := Lib.hid (hV.out.step hb)
      clear c0 c1 c2 c3 c4 c5 c6 c7 c8 c9 c10 c11 c12 c13 c14 c15 hb
      obtain ⟨jp, hjp⟩ : ∃ b, jispar P = b := ⟨_, rfl⟩
      rw [hjp]
      replace hjp := Lib.hid hjp
      cases jp
      · obtain ⟨c0, c1, c2, c3, c4, c5, c6, c7, c8, c9, c10, c11, c12, c13, c14, c15⟩ := cel16 hV.out.1
        go_wp2_with fail
        go_ret
        exact ⟨by rw [show mform 1 I me P R co tx = false from by unfold mform; simp only [hii.out, hnp.out, hjp.out] <;> simp]; rfl, hV.out.2⟩
      · obtain ⟨c0, c1, c2, c3, c4, c5, c6, c7, c8, c9, c10, c11, c12, c13, c14, c15⟩ := cel16 hV.out.1
        go_wp2_with fail
        refine (hNo.out R _ _ _ hV.out.2 hJr.out (by omega)).mono ?_
        rintro e w4 ⟨rfl, hb⟩
        replace hV := Lib.hid (hV.out.step hb)
        clear c0 c1 c2 c3 c4 c5 c6 c7 c8 c9 c10 c11 c12 c13 c14 c15 hb
        obtain ⟨nr, hnr⟩ : ∃ b, jsame R zeroJ = b := ⟨_, rfl⟩
        rw [hnr]
        replace hnr := Lib.hid hnr
        cases nr
        · obtain ⟨c0, c1, c2, c3, c4, c5, c6, c7, c8, c9, c10, c11, c12, c13, c14, c15⟩ := cel16 hV.out.1
          go_wp2_with fail
          go_ret
          exact ⟨by rw [show mform 1 I me P R co tx = false from by unfold mform; simp only [hii.out, hnp.out, hjp.out, hnr.out] <;> simp]; rfl, hV.out.2⟩
        · by_cases hco : co = 0
          · have hcoq := Lib.hid (show (co != 0) = false by simp [hco])
            have hcop : (co != 0) = false := by simp [hco]
            by_cases htx : tx.data.toList = []
            · have htxq := Lib.hid (show (tx.data.toList != []) = false by simp [htx])
              have htxp : tx.toList.isEmpty = true := by simp [ByteArray.toList_eq, htx]
              replace htx := Lib.hid htx
              obtain ⟨c0, c1, c2, c3, c4, c5, c6, c7, c8, c9, c10, c11, c12, c13, c14, c15⟩ := cel16 hV.out.1
              go_wp2_with fail
              refine (hVal.out me _ hV.out.2 (by omega)).mono ?_
              rintro e w5 ⟨rfl, hb⟩
              replace hV := Lib.hid (hV.out.step hb)
              clear c0 c1 c2 c3 c4 c5 c6 c7 c8 c9 c10 c11 c12 c13 c14 c15 hb
              obtain ⟨v1, hv1⟩ : ∃ b, Lib.validD me.data.toList = b := ⟨_, rfl⟩
              rw [hv1]
              replace hv1 := Lib.hid hv1
              cases v1
              · obtain ⟨c0, c1, c2, c3, c4, c5, c6, c7, c8, c9, c10, c11, c12, c13, c14, c15⟩ := cel16 hV.out.1
                go_wp2_with fail
                go_ret
                exact ⟨by rw [show mform 1 I me P R co tx = false from by unfold mform; simp only [hii.out, hnp.out, hjp.out, hnr.out, hcoq.out, htxq.out, hv1.out] <;> simp]; rfl, hV.out.2⟩
              · obtain ⟨c0, c1, c2, c3, c4, c5, c6, c7, c8, c9, c10, c11, c12, c13, c14, c15⟩ := cel16 hV.out.1
                go_wp2_with fail
                refine (hVal.out tx _ hV.out.2 (by omega)).mono ?_
                rintro e w6 ⟨rfl, hb⟩
                replace hV := Lib.hid (hV.out.step hb)
                clear c0 c1 c2 c3 c4 c5 c6 c7 c8 c9 c10 c11 c12 c13 c14 c15 hb
                obtain ⟨v2, hv2⟩ : ∃ b, Lib.validD tx.data.toList = b := ⟨_, rfl⟩
                rw [hv2]
                replace hv2 := Lib.hid hv2
                cases v2
                · obtain ⟨c0, c1, c2, c3, c4, c5, c6, c7, c8, c9, c10, c11, c12, c13, c14, c15⟩ := cel16 hV.out.1
                  go_wp2_with fail
                  go_ret
                  exact ⟨by rw [show mform 1 I me P R co tx = false from by unfold mform; simp only [hii.out, hnp.out, hjp.out, hnr.out, hcoq.out, htxq.out, hv1.out, hv2.out] <;> simp]; rfl, hV.out.2⟩
                · obtain ⟨c0, c1, c2, c3, c4, c5, c6, c7, c8, c9, c10, c11, c12, c13, c14, c15⟩ := cel16 hV.out.1
                  go_wp2_with fail
                  go_ret
                  exact ⟨by rw [show mform 1 I me P R co tx = true from by unfold mform; simp only [hii.out, hnp.out, hjp.out, hnr.out, hcoq.out, htxq.out, hv1.out, hv2.out] <;> simp]; rfl, hV.out.2⟩
            · have htxq := Lib.hid (show (tx.data.toList != []) = true from by first | (simp [htx]; done) | (rw [bne_iff_ne]; exact htx))
              have htxp : tx.toList.isEmpty = false := by
                rw [ByteArray.toList_eq]
                cases hl : tx.data.toList with
                | nil => exact absurd hl htx
                | cons _ _ => rfl
              replace htx := Lib.hid htx
              obtain ⟨c0, c1, c2, c3, c4, c5, c6, c7, c8, c9, c10, c11, c12, c13, c14, c15⟩ := cel16 hV.out.1
              go_wp2_with fail
              go_ret
              exact ⟨by rw [show mform 1 I me P R co tx = false from by unfold mform; simp only [hii.out, hnp.out, hjp.out, hnr.out, hcoq.out, htxq.out] <;> simp]; rfl, hV.out.2⟩
          · have hcoq := Lib.hid (show (co != 0) = true from by first | (simp [hco]; done) | (rw [bne_iff_ne]; exact hco))
            have hcop : (co != 0) = true := by simp [hco]
            obtain ⟨c0, c1, c2, c3, c4, c5, c6, c7, c8, c9, c10, c11, c12, c13, c14, c15⟩ := cel16 hV.out.1
            go_wp2_with fail
            go_ret
            exact ⟨by rw [show mform 1 I me P R co tx = false from by unfold mform; simp only [hii.out, hnp.out, hjp.out, hnr.out, hcoq.out] <;> simp]; rfl, hV.out.2⟩
    · obtain ⟨c0, c1, c2, c3, c4, c5, c6, c7, c8, c9, c10, c11, c12, c13, c14, c15⟩ := cel16 hV.out.1
      go_wp2_with fail
      refine (hNo.out R _ _ _ hV.out.2 hJr.out (by omega)).mono ?_
      rintro e w7 ⟨rfl, hb⟩
      replace hV := Lib.hid (hV.out.step hb)
      clear c0 c1 c2 c3 c4 c5 c6 c7 c8 c9 c10 c11 c12 c13 c14 c15 hb
      obtain ⟨nr, hnr⟩ : ∃ b, jsame R zeroJ = b := ⟨_, rfl⟩
      rw [hnr]
      replace hnr := Lib.hid hnr
      cases nr
      · obtain ⟨c0, c1, c2, c3, c4, c5, c6, c7, c8, c9, c10, c11, c12, c13, c14, c15⟩ := cel16 hV.out.1
        go_wp2_with fail
        go_ret
        exact ⟨by rw [show mform 1 I me P R co tx = false from by unfold mform; simp only [hii.out, hnp.out, hnr.out] <;> simp]; rfl, hV.out.2⟩
      · by_cases hco : co = 0
        · have hcoq := Lib.hid (show (co != 0) = false by simp [hco])
          have hcop : (co != 0) = false := by simp [hco]
          by_cases htx : tx.data.toList = []
          · have htxq := Lib.hid (show (tx.data.toList != []) = false by simp [htx])
            have htxp : tx.toList.isEmpty = true := by simp [ByteArray.toList_eq, htx]
            replace htx := Lib.hid htx
            obtain ⟨c0, c1, c2, c3, c4, c5, c6, c7, c8, c9, c10, c11, c12, c13, c14, c15⟩ := cel16 hV.out.1
            go_wp2_with fail
            refine (hVal.out me _ hV.out.2 (by omega)).mono ?_
            rintro e w8 ⟨rfl, hb⟩
            replace hV := Lib.hid (hV.out.step hb)
            clear c0 c1 c2 c3 c4 c5 c6 c7 c8 c9 c10 c11 c12 c13 c14 c15 hb
            obtain ⟨v1, hv1⟩ : ∃ b, Lib.validD me.data.toList = b := ⟨_, rfl⟩
            rw [hv1]
            replace hv1 := Lib.hid hv1
            cases v1
            · obtain ⟨c0, c1, c2, c3, c4, c5, c6, c7, c8, c9, c10, c11, c12, c13, c14, c15⟩ := cel16 hV.out.1
              go_wp2_with fail
              go_ret
              exact ⟨by rw [show mform 1 I me P R co tx = false from by unfold mform; simp only [hii.out, hnp.out, hnr.out, hcoq.out, htxq.out, hv1.out] <;> simp]; rfl, hV.out.2⟩
            · obtain ⟨c0, c1, c2, c3, c4, c5, c6, c7, c8, c9, c10, c11, c12, c13, c14, c15⟩ := cel16 hV.out.1
              go_wp2_with fail
              refine (hVal.out tx _ hV.out.2 (by omega)).mono ?_
              rintro e w9 ⟨rfl, hb⟩
              replace hV := Lib.hid (hV.out.step hb)
              clear c0 c1 c2 c3 c4 c5 c6 c7 c8 c9 c10 c11 c12 c13 c14 c15 hb
              obtain ⟨v2, hv2⟩ : ∃ b, Lib.validD tx.data.toList = b := ⟨_, rfl⟩
              rw [hv2]
              replace hv2 := Lib.hid hv2
              cases v2
              · obtain ⟨c0, c1, c2, c3, c4, c5, c6, c7, c8, c9, c10, c11, c12, c13, c14, c15⟩ := cel16 hV.out.1
                go_wp2_with fail
                go_ret
                exact ⟨by rw [show mform 1 I me P R co tx = false from by unfold mform; simp only [hii.out, hnp.out, hnr.out, hcoq.out, htxq.out, hv1.out, hv2.out] <;> simp]; rfl, hV.out.2⟩
              · obtain ⟨c0, c1, c2, c3, c4, c5, c6, c7, c8, c9, c10, c11, c12, c13, c14, c15⟩ := cel16 hV.out.1
                go_wp2_with fail
                go_ret
                exact ⟨by rw [show mform 1 I me P R co tx = true from by unfold mform; simp only [hii.out, hnp.out, hnr.out, hcoq.out, htxq.out, hv1.out, hv2.out] <;> simp]; rfl, hV.out.2⟩
          · have htxq := Lib.hid (show (tx.data.toList != []) = true from by first | (simp [htx]; done) | (rw [bne_iff_ne]; exact htx))
            have htxp : tx.toList.isEmpty = false := by
              rw [ByteArray.toList_eq]
              cases hl : tx.data.toList with
              | nil => exact absurd hl htx
              | cons _ _ => rfl
            replace htx := Lib.hid htx
            obtain ⟨c0, c1, c2, c3, c4, c5, c6, c7, c8, c9, c10, c11, c12, c13, c14, c15⟩ := cel16 hV.out.1
            go_wp2_with fail
            go_ret
            exact ⟨by rw [show mform 1 I me P R co tx = false from by unfold mform; simp only [hii.out, hnp.out, hnr.out, hcoq.out, htxq.out] <;> simp]; rfl, hV.out.2⟩
        · have hcoq := Lib.hid (show (co != 0) = true from by first | (simp [hco]; done) | (rw [bne_iff_ne]; exact hco))
          have hcop : (co != 0) = true := by simp [hco]
          obtain ⟨c0, c1, c2, c3, c4, c5, c6, c7, c8, c9, c10, c11, c12, c13, c14, c15⟩ := cel16 hV.out.1
          go_wp2_with fail
          go_ret
          exact ⟨by rw [show mform 1 I me P R co tx = false from by unfold mform; simp only [hii.out, hnp.out, hnr.out, hcoq.out] <;> simp]; rfl, hV.out.2⟩
set_option maxRecDepth 100000 in
set_option maxHeartbeats 8000000 in
theorem rpcForm2_any (I P R : Jsn) (me tx : ByteArray) (co : Int) (X : Nat → Prop) (w : World) (i1 i2 p1 p2 r1 r2 : Value) (hE : EnvU w) (hI : JV w X I i1 i2) (hP : JV w X P p1 p2) (hR : JV w X R r1 r2)
    (hbi : jbulk I ≤ 1000000) (hbp : jbulk P ≤ 1000000) (hbr : jbulk R ≤ 1000000) (hsm : me.size ≤ 1000000) (hst : tx.size ≤ 1000000) :
    Calls Tryz.prog 81 #[msgV ⟨2, I, me, P, R, co, tx⟩ i1 i2 p1 p2 r1 r2] w (ValEnd (mform 2 I me P R co tx) w) := by
  obtain ⟨xA, xa, xb, xB, xc, xd, rfl, rfl⟩ := hI.forms
  obtain ⟨pA, pa, pb, pB, pc, pd, rfl, rfl⟩ := hP.forms
  obtain ⟨rA, ra, rb, rB, rc, rd, rfl, rfl⟩ := hR.forms
  have hId := Lib.hid (fun (W : World) (hB : Below w.heap.size w W) => rpcId_any I X W _ _ (hI.later hB) hbi)
  have hPa := Lib.hid (fun (W : World) (hB : Below w.heap.size w W) => rpcParams_any P X W _ _ (hP.later hB))
  have hNo := Lib.hid (fun (j : Jsn) (W : World) (a b : Value) (hB : Below w.heap.size w W) (hJ : JV w X j a b) (hk : jbulk j ≤ 1000000) => rpcNone_any j X W a b (hJ.later hB) (by omega))
  have hVal := Lib.hid (fun (s : ByteArray) (W : World) (hB : Below w.heap.size w W) (hs : s.size ≤ 1000000) => utfValid_any s W (hE.below hB) (by omega))
  have hJi := Lib.hid hI
  have hJp := Lib.hid hP
  have hJr := Lib.hid hR
  obtain ⟨W0, hW0⟩ : ∃ W0, w.alloc (.cells #[.int .u8 2, .int .u8 I.kind, .string I.text, .slice xA xa xb, .slice xB xc xd, .string me, .int .u8 P.kind, .string P.text, .slice pA pa pb, .slice pB pc pd, .int .u8 R.kind, .string R.text, .slice rA ra rb, .slice rB rc rd, .int .i64 co, .string tx] 73) = W0 := ⟨_, rfl⟩
  have hV : Hid (FmI w #[.int .u8 2, .int .u8 I.kind, .string I.text, .slice xA xa xb, .slice xB xc xd, .string me, .int .u8 P.kind, .string P.text, .slice pA pa pb, .slice pB pc pd, .int .u8 R.kind, .string R.text, .slice rA ra rb, .slice rB rc rd, .int .i64 co, .string tx] W0) := Lib.hid ⟨by rw [← hW0]; exact Cel.fresh _ _ _, by rw [← hW0]; exact (Below.refl _ _).alloc (Nat.le_refl _) _⟩
  replace hW0 := Lib.hid hW0
  clear hE hI hP hR
  unfold msgV
  go_enter Tryz.func81, Tryz.ntmps81
  go_upto_region 1 with fail
  rw [hW0.out]
  clear hW0
  obtain ⟨c0, c1, c2, c3, c4, c5, c6, c7, c8, c9, c10, c11, c12, c13, c14, c15⟩ := cel16 hV.out.1
  go_wp2_with fail
  go_quiet (fail)
  have hbd := hV.out.2
  replace hV := Lib.hid (FmI.drewN hV.out nq)
  clear c0 c1 c2 c3 c4 c5 c6 c7 c8 c9 c10 c11 c12 c13 c14 c15 hbd
  obtain ⟨c0, c1, c2, c3, c4, c5, c6, c7, c8, c9, c10, c11, c12, c13, c14, c15⟩ := cel16 hV.out.1
  go_wp2_with fail
  refine (hNo.out I _ _ _ hV.out.2 hJi.out (by omega)).mono ?_
  rintro e w10 ⟨rfl, hb⟩
  replace hV := Lib.hid (hV.out.step hb)
  clear c0 c1 c2 c3 c4 c5 c6 c7 c8 c9 c10 c11 c12 c13 c14 c15 hb
  obtain ⟨ni, hni⟩ : ∃ b, jsame I zeroJ = b := ⟨_, rfl⟩
  rw [hni]
  replace hni := Lib.hid hni
  cases ni
  · obtain ⟨c0, c1, c2, c3, c4, c5, c6, c7, c8, c9, c10, c11, c12, c13, c14, c15⟩ := cel16 hV.out.1
    go_wp2_with fail
    go_ret
    exact ⟨by rw [show mform 2 I me P R co tx = false from by unfold mform; simp only [hni.out] <;> simp]; rfl, hV.out.2⟩
  · obtain ⟨c0, c1, c2, c3, c4, c5, c6, c7, c8, c9, c10, c11, c12, c13, c14, c15⟩ := cel16 hV.out.1
    go_wp2_with fail
    refine (hNo.out P _ _ _ hV.out.2 hJp.out (by omega)).mono ?_
    rintro e w11 ⟨rfl, hb⟩
    replace hV := Lib.hid (hV.out.step hb)
    clear c0 c1 c2 c3 c4 c5 c6 c7 c8 c9 c10 c11 c12 c13 c14 c15 hb
    obtain ⟨np, hnp⟩ : ∃ b, jsame P zeroJ = b := ⟨_, rfl⟩
    rw [hnp]
    replace hnp := Lib.hid hnp
    cases np
    · obtain ⟨c0, c1, c2, c3, c4, c5, c6, c7, c8, c9, c10, c11, c12, c13, c14, c15⟩ := cel16 hV.out.1
      go_wp2_with fail
      refine (hPa.out _ hV.out.2).mono ?_
      rintro e w12 ⟨rfl, hb⟩
      replace hV := Lib.hid (hV.out.step hb)
      clear c0 c1 c2 c3 c4 c5 c6 c7 c8 c9 c10 c11 c12 c13 c14 c15 hb
      obtain ⟨jp, hjp⟩ : ∃ b, jispar P = b := ⟨_, rfl⟩
      rw [hjp]
      replace hjp := Lib.hid hjp
      cases jp
      · obtain ⟨c0, c1, c2, c3, c4, c5, c6, c7, c8, c9, c10, c11, c12, c13, c14, c15⟩ := cel16 hV.out.1
        go_wp2_with fail
        go_ret
        exact ⟨by rw [show mform 2 I me P R co tx = false from by unfold mform; simp only [hni.out, hnp.out, hjp.out] <;> simp]; rfl, hV.out.2⟩
      · obtain ⟨c0, c1, c2, c3, c4, c5, c6, c7, c8, c9, c10, c11, c12, c13, c14, c15⟩ := cel16 hV.out.1
        go_wp2_with fail
        refine (hNo.out R _ _ _ hV.out.2 hJr.out (by omega)).mono ?_
        rintro e w13 ⟨rfl, hb⟩
        replace hV := Lib.hid (hV.out.step hb)
        clear c0 c1 c2 c3 c4 c5 c6 c7 c8 c9 c10 c11 c12 c13 c14 c15 hb
        obtain ⟨nr, hnr⟩ : ∃ b, jsame R zeroJ = b := ⟨_, rfl⟩
        rw [hnr]
        replace hnr := Lib.hid hnr
        cases nr
        · obtain ⟨c0, c1, c2, c3, c4, c5, c6, c7, c8, c9, c10, c11, c12, c13, c14, c15⟩ := cel16 hV.out.1
          go_wp2_with fail
          go_ret
          exact ⟨by rw [show mform 2 I me P R co tx = false from by unfold mform; simp only [hni.out, hnp.out, hjp.out, hnr.out] <;> simp]; rfl, hV.out.2⟩
        · by_cases hco : co = 0
          · have hcoq := Lib.hid (show (co != 0) = false by simp [hco])
            have hcop : (co != 0) = false := by simp [hco]
            by_cases htx : tx.data.toList = []
            · have htxq := Lib.hid (show (tx.data.toList != []) = false by simp [htx])
              have htxp : tx.toList.isEmpty = true := by simp [ByteArray.toList_eq, htx]
              replace htx := Lib.hid htx
              obtain ⟨c0, c1, c2, c3, c4, c5, c6, c7, c8, c9, c10, c11, c12, c13, c14, c15⟩ := cel16 hV.out.1
              go_wp2_with fail
              refine (hVal.out me _ hV.out.2 (by omega)).mono ?_
              rintro e w14 ⟨rfl, hb⟩
              replace hV := Lib.hid (hV.out.step hb)
              clear c0 c1 c2 c3 c4 c5 c6 c7 c8 c9 c10 c11 c12 c13 c14 c15 hb
              obtain ⟨v1, hv1⟩ : ∃ b, Lib.validD me.data.toList = b := ⟨_, rfl⟩
              rw [hv1]
              replace hv1 := Lib.hid hv1
              cases v1
              · obtain ⟨c0, c1, c2, c3, c4, c5, c6, c7, c8, c9, c10, c11, c12, c13, c14, c15⟩ := cel16 hV.out.1
                go_wp2_with fail
                go_ret
                exact ⟨by rw [show mform 2 I me P R co tx = false from by unfold mform; simp only [hni.out, hnp.out, hjp.out, hnr.out, hcoq.out, htxq.out, hv1.out] <;> simp]; rfl, hV.out.2⟩
              · obtain ⟨c0, c1, c2, c3, c4, c5, c6, c7, c8, c9, c10, c11, c12, c13, c14, c15⟩ := cel16 hV.out.1
                go_wp2_with fail
                refine (hVal.out tx _ hV.out.2 (by omega)).mono ?_
                rintro e w15 ⟨rfl, hb⟩
                replace hV := Lib.hid (hV.out.step hb)
                clear c0 c1 c2 c3 c4 c5 c6 c7 c8 c9 c10 c11 c12 c13 c14 c15 hb
                obtain ⟨v2, hv2⟩ : ∃ b, Lib.validD tx.data.toList = b := ⟨_, rfl⟩
                rw [hv2]
                replace hv2 := Lib.hid hv2
                cases v2
                · obtain ⟨c0, c1, c2, c3, c4, c5, c6, c7, c8, c9, c10, c11, c12, c13, c14, c15⟩ := cel16 hV.out.1
                  go_wp2_with fail
                  go_ret
                  exact ⟨by rw [show mform 2 I me P R co tx = false from by unfold mform; simp only [hni.out, hnp.out, hjp.out, hnr.out, hcoq.out, htxq.out, hv1.out, hv2.out] <;> simp]; rfl, hV.out.2⟩
                · obtain ⟨c0, c1, c2, c3, c4, c5, c6, c7, c8, c9, c10, c11, c12, c13, c14, c15⟩ := cel16 hV.out.1
                  go_wp2_with fail
                  go_ret
                  exact ⟨by rw [show mform 2 I me P R co tx = true from by unfold mform; simp only [hni.out, hnp.out, hjp.out, hnr.out, hcoq.out, htxq.out, hv1.out, hv2.out] <;> simp]; rfl, hV.out.2⟩
            · have htxq := Lib.hid (show (tx.data.toList != []) = true from by first | (simp [htx]; done) | (rw [bne_iff_ne]; exact htx))
              have htxp : tx.toList.isEmpty = false := by
                rw [ByteArray.toList_eq]
                cases hl : tx.data.toList with
                | nil => exact absurd hl htx
                | cons _ _ => rfl
              replace htx := Lib.hid htx
              obtain ⟨c0, c1, c2, c3, c4, c5, c6, c7, c8, c9, c10, c11, c12, c13, c14, c15⟩ := cel16 hV.out.1
              go_wp2_with fail
              go_ret
              exact ⟨by rw [show mform 2 I me P R co tx = false from by unfold mform; simp only [hni.out, hnp.out, hjp.out, hnr.out, hcoq.out, htxq.out] <;> simp]; rfl, hV.out.2⟩
          · have hcoq := Lib.hid (show (co != 0) = true from by first | (simp [hco]; done) | (rw [bne_iff_ne]; exact hco))
            have hcop : (co != 0) = true := by simp [hco]
            obtain ⟨c0, c1, c2, c3, c4, c5, c6, c7, c8, c9, c10, c11, c12, c13, c14, c15⟩ := cel16 hV.out.1
            go_wp2_with fail
            go_ret
            exact ⟨by rw [show mform 2 I me P R co tx = false from by unfold mform; simp only [hni.out, hnp.out, hjp.out, hnr.out, hcoq.out] <;> simp]; rfl, hV.out.2⟩
    · obtain ⟨c0, c1, c2, c3, c4, c5, c6, c7, c8, c9, c10, c11, c12, c13, c14, c15⟩ := cel16 hV.out.1
      go_wp2_with fail
      refine (hNo.out R _ _ _ hV.out.2 hJr.out (by omega)).mono ?_
      rintro e w16 ⟨rfl, hb⟩
      replace hV := Lib.hid (hV.out.step hb)
      clear c0 c1 c2 c3 c4 c5 c6 c7 c8 c9 c10 c11 c12 c13 c14 c15 hb
      obtain ⟨nr, hnr⟩ : ∃ b, jsame R zeroJ = b := ⟨_, rfl⟩
      rw [hnr]
      replace hnr := Lib.hid hnr
      cases nr
      · obtain ⟨c0, c1, c2, c3, c4, c5, c6, c7, c8, c9, c10, c11, c12, c13, c14, c15⟩ := cel16 hV.out.1
        go_wp2_with fail
        go_ret
        exact ⟨by rw [show mform 2 I me P R co tx = false from by unfold mform; simp only [hni.out, hnp.out, hnr.out] <;> simp]; rfl, hV.out.2⟩
      · by_cases hco : co = 0
        · have hcoq := Lib.hid (show (co != 0) = false by simp [hco])
          have hcop : (co != 0) = false := by simp [hco]
          by_cases htx : tx.data.toList = []
          · have htxq := Lib.hid (show (tx.data.toList != []) = false by simp [htx])
            have htxp : tx.toList.isEmpty = true := by simp [ByteArray.toList_eq, htx]
            replace htx := Lib.hid htx
            obtain ⟨c0, c1, c2, c3, c4, c5, c6, c7, c8, c9, c10, c11, c12, c13, c14, c15⟩ := cel16 hV.out.1
            go_wp2_with fail
            refine (hVal.out me _ hV.out.2 (by omega)).mono ?_
            rintro e w17 ⟨rfl, hb⟩
            replace hV := Lib.hid (hV.out.step hb)
            clear c0 c1 c2 c3 c4 c5 c6 c7 c8 c9 c10 c11 c12 c13 c14 c15 hb
            obtain ⟨v1, hv1⟩ : ∃ b, Lib.validD me.data.toList = b := ⟨_, rfl⟩
            rw [hv1]
            replace hv1 := Lib.hid hv1
            cases v1
            · obtain ⟨c0, c1, c2, c3, c4, c5, c6, c7, c8, c9, c10, c11, c12, c13, c14, c15⟩ := cel16 hV.out.1
              go_wp2_with fail
              go_ret
              exact ⟨by rw [show mform 2 I me P R co tx = false from by unfold mform; simp only [hni.out, hnp.out, hnr.out, hcoq.out, htxq.out, hv1.out] <;> simp]; rfl, hV.out.2⟩
            · obtain ⟨c0, c1, c2, c3, c4, c5, c6, c7, c8, c9, c10, c11, c12, c13, c14, c15⟩ := cel16 hV.out.1
              go_wp2_with fail
              refine (hVal.out tx _ hV.out.2 (by omega)).mono ?_
              rintro e w18 ⟨rfl, hb⟩
              replace hV := Lib.hid (hV.out.step hb)
              clear c0 c1 c2 c3 c4 c5 c6 c7 c8 c9 c10 c11 c12 c13 c14 c15 hb
              obtain ⟨v2, hv2⟩ : ∃ b, Lib.validD tx.data.toList = b := ⟨_, rfl⟩
              rw [hv2]
              replace hv2 := Lib.hid hv2
              cases v2
              · obtain ⟨c0, c1, c2, c3, c4, c5, c6, c7, c8, c9, c10, c11, c12, c13, c14, c15⟩ := cel16 hV.out.1
                go_wp2_with fail
                go_ret
                exact ⟨by rw [show mform 2 I me P R co tx = false from by unfold mform; simp only [hni.out, hnp.out, hnr.out, hcoq.out, htxq.out, hv1.out, hv2.out] <;> simp]; rfl, hV.out.2⟩
              · obtain ⟨c0, c1, c2, c3, c4, c5, c6, c7, c8, c9, c10, c11, c12, c13, c14, c15⟩ := cel16 hV.out.1
                go_wp2_with fail
                go_ret
                exact ⟨by rw [show mform 2 I me P R co tx = true from by unfold mform; simp only [hni.out, hnp.out, hnr.out, hcoq.out, htxq.out, hv1.out, hv2.out] <;> simp]; rfl, hV.out.2⟩
          · have htxq := Lib.hid (show (tx.data.toList != []) = true from by first | (simp [htx]; done) | (rw [bne_iff_ne]; exact htx))
            have htxp : tx.toList.isEmpty = false := by
              rw [ByteArray.toList_eq]
              cases hl : tx.data.toList with
              | nil => exact absurd hl htx
              | cons _ _ => rfl
            replace htx := Lib.hid htx
            obtain ⟨c0, c1, c2, c3, c4, c5, c6, c7, c8, c9, c10, c11, c12, c13, c14, c15⟩ := cel16 hV.out.1
            go_wp2_with fail
            go_ret
            exact ⟨by rw [show mform 2 I me P R co tx = false from by unfold mform; simp only [hni.out, hnp.out, hnr.out, hcoq.out, htxq.out] <;> simp]; rfl, hV.out.2⟩
        · have hcoq := Lib.hid (show (co != 0) = true from by first | (simp [hco]; done) | (rw [bne_iff_ne]; exact hco))
          have hcop : (co != 0) = true := by simp [hco]
          obtain ⟨c0, c1, c2, c3, c4, c5, c6, c7, c8, c9, c10, c11, c12, c13, c14, c15⟩ := cel16 hV.out.1
          go_wp2_with fail
          go_ret
          exact ⟨by rw [show mform 2 I me P R co tx = false from by unfold mform; simp only [hni.out, hnp.out, hnr.out, hcoq.out] <;> simp]; rfl, hV.out.2⟩
set_option maxRecDepth 100000 in
set_option maxHeartbeats 8000000 in
theorem rpcForm3_any (I P R : Jsn) (me tx : ByteArray) (co : Int) (X : Nat → Prop) (w : World) (i1 i2 p1 p2 r1 r2 : Value) (hE : EnvU w) (hI : JV w X I i1 i2) (hP : JV w X P p1 p2) (hR : JV w X R r1 r2)
    (hbi : jbulk I ≤ 1000000) (hbp : jbulk P ≤ 1000000) (hbr : jbulk R ≤ 1000000) (hsm : me.size ≤ 1000000) (hst : tx.size ≤ 1000000) :
    Calls Tryz.prog 81 #[msgV ⟨3, I, me, P, R, co, tx⟩ i1 i2 p1 p2 r1 r2] w (ValEnd (mform 3 I me P R co tx) w) := by
  obtain ⟨xA, xa, xb, xB, xc, xd, rfl, rfl⟩ := hI.forms
  obtain ⟨pA, pa, pb, pB, pc, pd, rfl, rfl⟩ := hP.forms
  obtain ⟨rA, ra, rb, rB, rc, rd, rfl, rfl⟩ := hR.forms
  have hId := Lib.hid (fun (W : World) (hB : Below w.heap.size w W) => rpcId_any I X W _ _ (hI.later hB) hbi)
  have hPa := Lib.hid (fun (W : World) (hB : Below w.heap.size w W) => rpcParams_any P X W _ _ (hP.later hB))
  have hNo := Lib.hid (fun (j : Jsn) (W : World) (a b : Value) (hB : Below w.heap.size w W) (hJ : JV w X j a b) (hk : jbulk j ≤ 1000000) => rpcNone_any j X W a b (hJ.later hB) (by omega))
  have hVal := Lib.hid (fun (s : ByteArray) (W : World) (hB : Below w.heap.size w W) (hs : s.size ≤ 1000000) => utfValid_any s W (hE.below hB) (by omega))
  have hJi := Lib.hid hI
  have hJp := Lib.hid hP
  have hJr := Lib.hid hR
  obtain ⟨W0, hW0⟩ : ∃ W0, w.alloc (.cells #[.int .u8 3, .int .u8 I.kind, .string I.text, .slice xA xa xb, .slice xB xc xd, .string me, .int .u8 P.kind, .string P.text, .slice pA pa pb, .slice pB pc pd, .int .u8 R.kind, .string R.text, .slice rA ra rb, .slice rB rc rd, .int .i64 co, .string tx] 73) = W0 := ⟨_, rfl⟩
  have hV : Hid (FmI w #[.int .u8 3, .int .u8 I.kind, .string I.text, .slice xA xa xb, .slice xB xc xd, .string me, .int .u8 P.kind, .string P.text, .slice pA pa pb, .slice pB pc pd, .int .u8 R.kind, .string R.text, .slice rA ra rb, .slice rB rc rd, .int .i64 co, .string tx] W0) := Lib.hid ⟨by rw [← hW0]; exact Cel.fresh _ _ _, by rw [← hW0]; exact (Below.refl _ _).alloc (Nat.le_refl _) _⟩
  replace hW0 := Lib.hid hW0
  clear hE hI hP hR
  unfold msgV
  go_enter Tryz.func81, Tryz.ntmps81
  go_upto_region 1 with fail
  rw [hW0.out]
  clear hW0
  obtain ⟨c0, c1, c2, c3, c4, c5, c6, c7, c8, c9, c10, c11, c12, c13, c14, c15⟩ := cel16 hV.out.1
  go_wp2_with fail
  go_quiet (fail)
  have hbd := hV.out.2
  replace hV := Lib.hid (FmI.drewN hV.out nq)
  clear c0 c1 c2 c3 c4 c5 c6 c7 c8 c9 c10 c11 c12 c13 c14 c15 hbd
  obtain ⟨c0, c1, c2, c3, c4, c5, c6, c7, c8, c9, c10, c11, c12, c13, c14, c15⟩ := cel16 hV.out.1
  go_wp2_with fail
  refine (hId.out _ hV.out.2).mono ?_
  rintro e w19 ⟨rfl, hb⟩
  replace hV := Lib.hid (hV.out.step hb)
  clear c0 c1 c2 c3 c4 c5 c6 c7 c8 c9 c10 c11 c12 c13 c14 c15 hb
  obtain ⟨ii, hii⟩ : ∃ b, jisid I = b := ⟨_, rfl⟩
  rw [hii]
  replace hii := Lib.hid hii
  cases ii
  · obtain ⟨c0, c1, c2, c3, c4, c5, c6, c7, c8, c9, c10, c11, c12, c13, c14, c15⟩ := cel16 hV.out.1
    go_wp2_with fail
    go_ret
    exact ⟨by rw [show mform 3 I me P R co tx = false from by unfold mform; simp only [hii.out] <;> simp]; rfl, hV.out.2⟩
  · by_cases hme : me.data.toList = []
    · have hmeq := Lib.hid (show (me.data.toList != []) = false by simp [hme])
      have hmep : me.toList.isEmpty = true := by simp [ByteArray.toList_eq, hme]
      replace hme := Lib.hid hme
      obtain ⟨c0, c1, c2, c3, c4, c5, c6, c7, c8, c9, c10, c11, c12, c13, c14, c15⟩ := cel16 hV.out.1
      go_wp2_with fail
      refine (hNo.out P _ _ _ hV.out.2 hJp.out (by omega)).mono ?_
      rintro e w20 ⟨rfl, hb⟩
      replace hV := Lib.hid (hV.out.step hb)
      clear c0 c1 c2 c3 c4 c5 c6 c7 c8 c9 c10 c11 c12 c13 c14 c15 hb
      obtain ⟨np, hnp⟩ : ∃ b, jsame P zeroJ = b := ⟨_, rfl⟩
      rw [hnp]
      replace hnp := Lib.hid hnp
      cases np
      · obtain ⟨c0, c1, c2, c3, c4, c5, c6, c7, c8, c9, c10, c11, c12, c13, c14, c15⟩ := cel16 hV.out.1
        go_wp2_with fail
        go_ret
        exact ⟨by rw [show mform 3 I me P R co tx = false from by unfold mform; simp only [hii.out, hmeq.out, hnp.out] <;> simp]; rfl, hV.out.2⟩
      · obtain ⟨c0, c1, c2, c3, c4, c5, c6, c7, c8, c9, c10, c11, c12, c13, c14, c15⟩ := cel16 hV.out.1
        go_wp2_with fail
        refine (hNo.out R _ _ _ hV.out.2 hJr.out (by omega)).mono ?_
        rintro e w21 ⟨rfl, hb⟩
        replace hV := Lib.hid (hV.out.step hb)
        clear c0 c1 c2 c3 c4 c5 c6 c7 c8 c9 c10 c11 c12 c13 c14 c15 hb
        obtain ⟨nr, hnr⟩ : ∃ b, jsame R zeroJ = b := ⟨_, rfl⟩
        rw [hnr]
        replace hnr := Lib.hid hnr
        cases nr
        · by_cases hco : co = 0
          · have hcoq := Lib.hid (show (co != 0) = false by simp [hco])
            have hcop : (co != 0) = false := by simp [hco]
            by_cases htx : tx.data.toList = []
            · have htxq := Lib.hid (show (tx.data.toList != []) = false by simp [htx])
              have htxp : tx.toList.isEmpty = true := by simp [ByteArray.toList_eq, htx]
              replace htx := Lib.hid htx
              obtain ⟨c0, c1, c2, c3, c4, c5, c6, c7, c8, c9, c10, c11, c12, c13, c14, c15⟩ := cel16 hV.out.1
              go_wp2_with fail
              refine (hVal.out me _ hV.out.2 (by omega)).mono ?_
              rintro e w22 ⟨rfl, hb⟩
              replace hV := Lib.hid (hV.out.step hb)
              clear c0 c1 c2 c3 c4 c5 c6 c7 c8 c9 c10 c11 c12 c13 c14 c15 hb
              obtain ⟨v1, hv1⟩ : ∃ b, Lib.validD me.data.toList = b := ⟨_, rfl⟩
              rw [hv1]
              replace hv1 := Lib.hid hv1
              cases v1
              · obtain ⟨c0, c1, c2, c3, c4, c5, c6, c7, c8, c9, c10, c11, c12, c13, c14, c15⟩ := cel16 hV.out.1
                go_wp2_with fail
                go_ret
                exact ⟨by rw [show mform 3 I me P R co tx = false from by unfold mform; simp only [hii.out, hmeq.out, hnp.out, hnr.out, hcoq.out, htxq.out, hv1.out] <;> simp]; rfl, hV.out.2⟩
              · obtain ⟨c0, c1, c2, c3, c4, c5, c6, c7, c8, c9, c10, c11, c12, c13, c14, c15⟩ := cel16 hV.out.1
                go_wp2_with fail
                refine (hVal.out tx _ hV.out.2 (by omega)).mono ?_
                rintro e w23 ⟨rfl, hb⟩
                replace hV := Lib.hid (hV.out.step hb)
                clear c0 c1 c2 c3 c4 c5 c6 c7 c8 c9 c10 c11 c12 c13 c14 c15 hb
                obtain ⟨v2, hv2⟩ : ∃ b, Lib.validD tx.data.toList = b := ⟨_, rfl⟩
                rw [hv2]
                replace hv2 := Lib.hid hv2
                cases v2
                · obtain ⟨c0, c1, c2, c3, c4, c5, c6, c7, c8, c9, c10, c11, c12, c13, c14, c15⟩ := cel16 hV.out.1
                  go_wp2_with fail
                  go_ret
                  exact ⟨by rw [show mform 3 I me P R co tx = false from by unfold mform; simp only [hii.out, hmeq.out, hnp.out, hnr.out, hcoq.out, htxq.out, hv1.out, hv2.out] <;> simp]; rfl, hV.out.2⟩
                · obtain ⟨c0, c1, c2, c3, c4, c5, c6, c7, c8, c9, c10, c11, c12, c13, c14, c15⟩ := cel16 hV.out.1
                  go_wp2_with fail
                  go_ret
                  exact ⟨by rw [show mform 3 I me P R co tx = true from by unfold mform; simp only [hii.out, hmeq.out, hnp.out, hnr.out, hcoq.out, htxq.out, hv1.out, hv2.out] <;> simp]; rfl, hV.out.2⟩
            · have htxq := Lib.hid (show (tx.data.toList != []) = true from by first | (simp [htx]; done) | (rw [bne_iff_ne]; exact htx))
              have htxp : tx.toList.isEmpty = false := by
                rw [ByteArray.toList_eq]
                cases hl : tx.data.toList with
                | nil => exact absurd hl htx
                | cons _ _ => rfl
              replace htx := Lib.hid htx
              obtain ⟨c0, c1, c2, c3, c4, c5, c6, c7, c8, c9, c10, c11, c12, c13, c14, c15⟩ := cel16 hV.out.1
              go_wp2_with fail
              go_ret
              exact ⟨by rw [show mform 3 I me P R co tx = false from by unfold mform; simp only [hii.out, hmeq.out, hnp.out, hnr.out, hcoq.out, htxq.out] <;> simp]; rfl, hV.out.2⟩
          · have hcoq := Lib.hid (show (co != 0) = true from by first | (simp [hco]; done) | (rw [bne_iff_ne]; exact hco))
            have hcop : (co != 0) = true := by simp [hco]
            obtain ⟨c0, c1, c2, c3, c4, c5, c6, c7, c8, c9, c10, c11, c12, c13, c14, c15⟩ := cel16 hV.out.1
            go_wp2_with fail
            go_ret
            exact ⟨by rw [show mform 3 I me P R co tx = false from by unfold mform; simp only [hii.out, hmeq.out, hnp.out, hnr.out, hcoq.out] <;> simp]; rfl, hV.out.2⟩
        · obtain ⟨c0, c1, c2, c3, c4, c5, c6, c7, c8, c9, c10, c11, c12, c13, c14, c15⟩ := cel16 hV.out.1
          go_wp2_with fail
          go_ret
          exact ⟨by rw [show mform 3 I me P R co tx = false from by unfold mform; simp only [hii.out, hmeq.out, hnp.out, hnr.out] <;> simp]; rfl, hV.out.2⟩
    · have hmeq := Lib.hid (show (me.data.toList != []) = true from by first | (simp [hme]; done) | (rw [bne_iff_ne]; exact hme))
      have hmep : me.toList.isEmpty = false := by
        rw [ByteArray.toList_eq]
        cases hl : me.data.toList with
        | nil => exact absurd hl hme
        | cons _ _ => rfl
      replace hme := Lib.hid hme
      obtain ⟨c0, c1, c2, c3, c4, c5, c6, c7, c8, c9, c10, c11, c12, c13, c14, c15⟩ := cel16 hV.out.1
      go_wp2_with fail
      go_ret
      exact ⟨by rw [show mform 3 I me P R co tx = false from by unfold mform; simp only [hii.out, hmeq.out] <;> simp]; rfl, hV.out.2⟩
set_option maxRecDepth 100000 in
set_option maxHeartbeats 8000000 in
theorem rpcForm4_any (I P R : Jsn) (me tx : ByteArray) (co : Int) (X : Nat → Prop) (w : World) (i1 i2 p1 p2 r1 r2 : Value) (hE : EnvU w) (hI : JV w X I i1 i2) (hP : JV w X P p1 p2) (hR : JV w X R r1 r2)
    (hbi : jbulk I ≤ 1000000) (hbp : jbulk P ≤ 1000000) (hbr : jbulk R ≤ 1000000) (hsm : me.size ≤ 1000000) (hst : tx.size ≤ 1000000) :
    Calls Tryz.prog 81 #[msgV ⟨4, I, me, P, R, co, tx⟩ i1 i2 p1 p2 r1 r2] w (ValEnd (mform 4 I me P R co tx) w) := by
  obtain ⟨xA, xa, xb, xB, xc, xd, rfl, rfl⟩ := hI.forms
  obtain ⟨pA, pa, pb, pB, pc, pd, rfl, rfl⟩ := hP.forms
  obtain ⟨rA, ra, rb, rB, rc, rd, rfl, rfl⟩ := hR.forms
  have hId := Lib.hid (fun (W : World) (hB : Below w.heap.size w W) => rpcId_any I X W _ _ (hI.later hB) hbi)
  have hPa := Lib.hid (fun (W : World) (hB : Below w.heap.size w W) => rpcParams_any P X W _ _ (hP.later hB))
  have hNo := Lib.hid (fun (j : Jsn) (W : World) (a b : Value) (hB : Below w.heap.size w W) (hJ : JV w X j a b) (hk : jbulk j ≤ 1000000) => rpcNone_any j X W a b (hJ.later hB) (by omega))
  have hVal := Lib.hid (fun (s : ByteArray) (W : World) (hB : Below w.heap.size w W) (hs : s.size ≤ 1000000) => utfValid_any s W (hE.below hB) (by omega))
  have hJi := Lib.hid hI
  have hJp := Lib.hid hP
  have hJr := Lib.hid hR
  obtain ⟨W0, hW0⟩ : ∃ W0, w.alloc (.cells #[.int .u8 4, .int .u8 I.kind, .string I.text, .slice xA xa xb, .slice xB xc xd, .string me, .int .u8 P.kind, .string P.text, .slice pA pa pb, .slice pB pc pd, .int .u8 R.kind, .string R.text, .slice rA ra rb, .slice rB rc rd, .int .i64 co, .string tx] 73) = W0 := ⟨_, rfl⟩
  have hV : Hid (FmI w #[.int .u8 4, .int .u8 I.kind, .string I.text, .slice xA xa xb, .slice xB xc xd, .string me, .int .u8 P.kind, .string P.text, .slice pA pa pb, .slice pB pc pd, .int .u8 R.kind, .string R.text, .slice rA ra rb, .slice rB rc rd, .int .i64 co, .string tx] W0) := Lib.hid ⟨by rw [← hW0]; exact Cel.fresh _ _ _, by rw [← hW0]; exact (Below.refl _ _).alloc (Nat.le_refl _) _⟩
  replace hW0 := Lib.hid hW0
  clear hE hI hP hR
  unfold msgV
  go_enter Tryz.func81, Tryz.ntmps81
  go_upto_region 1 with fail
  rw [hW0.out]
  clear hW0
  obtain ⟨c0, c1, c2, c3, c4, c5, c6, c7, c8, c9, c10, c11, c12, c13, c14, c15⟩ := cel16 hV.out.1
  go_wp2_with fail
  go_quiet (fail)
  have hbd := hV.out.2
  replace hV := Lib.hid (FmI.drewN hV.out nq)
  clear c0 c1 c2 c3 c4 c5 c6 c7 c8 c9 c10 c11 c12 c13 c14 c15 hbd
  obtain ⟨c0, c1, c2, c3, c4, c5, c6, c7, c8, c9, c10, c11, c12, c13, c14, c15⟩ := cel16 hV.out.1
  go_wp2_with fail
  refine (hId.out _ hV.out.2).mono ?_
  rintro e w24 ⟨rfl, hb⟩
  replace hV := Lib.hid (hV.out.step hb)
  clear c0 c1 c2 c3 c4 c5 c6 c7 c8 c9 c10 c11 c12 c13 c14 c15 hb
  obtain ⟨ii, hii⟩ : ∃ b, jisid I = b := ⟨_, rfl⟩
  rw [hii]
  replace hii := Lib.hid hii
  cases ii
  · by_cases hik : I.kind = 1
    · have hikq := Lib.hid (show (I.kind == 1) = true by simp [hik])
      have hikp : (I.kind == 1) = true := by simp [hik]
      by_cases hme : me.data.toList = []
      · have hmeq := Lib.hid (show (me.data.toList != []) = false by simp [hme])
        have hmep : me.toList.isEmpty = true := by simp [ByteArray.toList_eq, hme]
        replace hme := Lib.hid hme
        obtain ⟨c0, c1, c2, c3, c4, c5, c6, c7, c8, c9, c10, c11, c12, c13, c14, c15⟩ := cel16 hV.out.1
        go_wp2_with fail
        refine (hNo.out P _ _ _ hV.out.2 hJp.out (by omega)).mono ?_
        rintro e w25 ⟨rfl, hb⟩
        replace hV := Lib.hid (hV.out.step hb)
        clear c0 c1 c2 c3 c4 c5 c6 c7 c8 c9 c10 c11 c12 c13 c14 c15 hb
        obtain ⟨np, hnp⟩ : ∃ b, jsame P zeroJ = b := ⟨_, rfl⟩
        rw [hnp]
        replace hnp := Lib.hid hnp
        cases np
        · obtain ⟨c0, c1, c2, c3, c4, c5, c6, c7, c8, c9, c10, c11, c12, c13, c14, c15⟩ := cel16 hV.out.1
          go_wp2_with fail
          go_ret
          exact ⟨by rw [show mform 4 I me P R co tx = false from by unfold mform; simp only [hii.out, hikq.out, hmeq.out, hnp.out] <;> simp]; rfl, hV.out.2⟩
        · obtain ⟨c0, c1, c2, c3, c4, c5, c6, c7, c8, c9, c10, c11, c12, c13, c14, c15⟩ := cel16 hV.out.1
          go_wp2_with fail
          refine (hNo.out R _ _ _ hV.out.2 hJr.out (by omega)).mono ?_
          rintro e w26 ⟨rfl, hb⟩
          replace hV := Lib.hid (hV.out.step hb)
          clear c0 c1 c2 c3 c4 c5 c6 c7 c8 c9 c10 c11 c12 c13 c14 c15 hb
          obtain ⟨nr, hnr⟩ : ∃ b, jsame R zeroJ = b := ⟨_, rfl⟩
          rw [hnr]
          replace hnr := Lib.hid hnr
          cases nr
          · obtain ⟨c0, c1, c2, c3, c4, c5, c6, c7, c8, c9, c10, c11, c12, c13, c14, c15⟩ := cel16 hV.out.1
            go_wp2_with fail
            go_ret
            exact ⟨by rw [show mform 4 I me P R co tx = false from by unfold mform; simp only [hii.out, hikq.out, hmeq.out, hnp.out, hnr.out] <;> simp]; rfl, hV.out.2⟩
          · obtain ⟨c0, c1, c2, c3, c4, c5, c6, c7, c8, c9, c10, c11, c12, c13, c14, c15⟩ := cel16 hV.out.1
            go_wp2_with fail
            refine (hVal.out me _ hV.out.2 (by omega)).mono ?_
            rintro e w27 ⟨rfl, hb⟩
            replace hV := Lib.hid (hV.out.step hb)
            clear c0 c1 c2 c3 c4 c5 c6 c7 c8 c9 c10 c11 c12 c13 c14 c15 hb
            obtain ⟨v1, hv1⟩ : ∃ b, Lib.validD me.data.toList = b := ⟨_, rfl⟩
            rw [hv1]
            replace hv1 := Lib.hid hv1
            cases v1
            · obtain ⟨c0, c1, c2, c3, c4, c5, c6, c7, c8, c9, c10, c11, c12, c13, c14, c15⟩ := cel16 hV.out.1
              go_wp2_with fail
              go_ret
              exact ⟨by rw [show mform 4 I me P R co tx = false from by unfold mform; simp only [hii.out, hikq.out, hmeq.out, hnp.out, hnr.out, hv1.out] <;> simp]; rfl, hV.out.2⟩
            · obtain ⟨c0, c1, c2, c3, c4, c5, c6, c7, c8, c9, c10, c11, c12, c13, c14, c15⟩ := cel16 hV.out.1
              go_wp2_with fail
              refine (hVal.out tx _ hV.out.2 (by omega)).mono ?_
              rintro e w28 ⟨rfl, hb⟩
              replace hV := Lib.hid (hV.out.step hb)
              clear c0 c1 c2 c3 c4 c5 c6 c7 c8 c9 c10 c11 c12 c13 c14 c15 hb
              obtain ⟨v2, hv2⟩ : ∃ b, Lib.validD tx.data.toList = b := ⟨_, rfl⟩
              rw [hv2]
              replace hv2 := Lib.hid hv2
              cases v2
              · obtain ⟨c0, c1, c2, c3, c4, c5, c6, c7, c8, c9, c10, c11, c12, c13, c14, c15⟩ := cel16 hV.out.1
                go_wp2_with fail
                go_ret
                exact ⟨by rw [show mform 4 I me P R co tx = false from by unfold mform; simp only [hii.out, hikq.out, hmeq.out, hnp.out, hnr.out, hv1.out, hv2.out] <;> simp]; rfl, hV.out.2⟩
              · obtain ⟨c0, c1, c2, c3, c4, c5, c6, c7, c8, c9, c10, c11, c12, c13, c14, c15⟩ := cel16 hV.out.1
                go_wp2_with fail
                go_ret
                exact ⟨by rw [show mform 4 I me P R co tx = true from by unfold mform; simp only [hii.out, hikq.out, hmeq.out, hnp.out, hnr.out, hv1.out, hv2.out] <;> simp]; rfl, hV.out.2⟩
      · have hmeq := Lib.hid (show (me.data.toList != []) = true from by first | (simp [hme]; done) | (rw [bne_iff_ne]; exact hme))
        have hmep : me.toList.isEmpty = false := by
          rw [ByteArray.toList_eq]
          cases hl : me.data.toList with
          | nil => exact absurd hl hme
          | cons _ _ => rfl
        replace hme := Lib.hid hme
        obtain ⟨c0, c1, c2, c3, c4, c5, c6, c7, c8, c9, c10, c11, c12, c13, c14, c15⟩ := cel16 hV.out.1
        go_wp2_with fail
        go_ret
        exact ⟨by rw [show mform 4 I me P R co tx = false from by unfold mform; simp only [hii.out, hikq.out, hmeq.out] <;> simp]; rfl, hV.out.2⟩
    · have hikq := Lib.hid (show (I.kind == 1) = false from by first | (simp [hik]; done) | (rw [bne_iff_ne]; exact hik))
      have hikp : (I.kind == 1) = false := by simp [hik]
      obtain ⟨c0, c1, c2, c3, c4, c5, c6, c7, c8, c9, c10, c11, c12, c13, c14, c15⟩ := cel16 hV.out.1
      go_wp2_with fail
      go_ret
      exact ⟨by rw [show mform 4 I me P R co tx = false from by unfold mform; simp only [hii.out, hikq.out] <;> simp]; rfl, hV.out.2⟩
  · by_cases hme : me.data.toList = []
    · have hmeq := Lib.hid (show (me.data.toList != []) = false by simp [hme])
      have hmep : me.toList.isEmpty = true := by simp [ByteArray.toList_eq, hme]
      replace hme := Lib.hid hme
      obtain ⟨c0, c1, c2, c3, c4, c5, c6, c7, c8, c9, c10, c11, c12, c13, c14, c15⟩ := cel16 hV.out.1
      go_wp2_with fail
      refine (hNo.out P _ _ _ hV.out.2 hJp.out (by omega)).mono ?_
      rintro e w29 ⟨rfl, hb⟩
      replace hV := Lib.hid (hV.out.step hb)
      clear c0 c1 c2 c3 c4 c5 c6 c7 c8 c9 c10 c11 c12 c13 c14 c15 hb
      obtain ⟨np, hnp⟩ : ∃ b, jsame P zeroJ = b := ⟨_, rfl⟩
      rw [hnp]
      replace hnp := Lib.hid hnp
      cases np
      · obtain ⟨c0, c1, c2, c3, c4, c5, c6, c7, c8, c9, c10, c11, c12, c13, c14, c15⟩ := cel16 hV.out.1
        go_wp2_with fail
        go_ret
        exact ⟨by rw [show mform 4 I me P R co tx = false from by unfold mform; simp only [hii.out, hmeq.out, hnp.out] <;> simp]; rfl, hV.out.2⟩
      · obtain ⟨c0, c1, c2, c3, c4, c5, c6, c7, c8, c9, c10, c11, c12, c13, c14, c15⟩ := cel16 hV.out.1
        go_wp2_with fail
        refine (hNo.out R _ _ _ hV.out.2 hJr.out (by omega)).mono ?_
        rintro e w30 ⟨rfl, hb⟩
        replace hV := Lib.hid (hV.out.step hb)
        clear c0 c1 c2 c3 c4 c5 c6 c7 c8 c9 c10 c11 c12 c13 c14 c15 hb
        obtain ⟨nr, hnr⟩ : ∃ b, jsame R zeroJ = b := ⟨_, rfl⟩
        rw [hnr]
        replace hnr := Lib.hid hnr
        cases nr
        · obtain ⟨c0, c1, c2, c3, c4, c5, c6, c7, c8, c9, c10, c11, c12, c13, c14, c15⟩ := cel16 hV.out.1
          go_wp2_with fail
          go_ret
          exact ⟨by rw [show mform 4 I me P R co tx = false from by unfold mform; simp only [hii.out, hmeq.out, hnp.out, hnr.out] <;> simp]; rfl, hV.out.2⟩
        · obtain ⟨c0, c1, c2, c3, c4, c5, c6, c7, c8, c9, c10, c11, c12, c13, c14, c15⟩ := cel16 hV.out.1
          go_wp2_with fail
          refine (hVal.out me _ hV.out.2 (by omega)).mono ?_
          rintro e w31 ⟨rfl, hb⟩
          replace hV := Lib.hid (hV.out.step hb)
          clear c0 c1 c2 c3 c4 c5 c6 c7 c8 c9 c10 c11 c12 c13 c14 c15 hb
          obtain ⟨v1, hv1⟩ : ∃ b, Lib.validD me.data.toList = b := ⟨_, rfl⟩
          rw [hv1]
          replace hv1 := Lib.hid hv1
          cases v1
          · obtain ⟨c0, c1, c2, c3, c4, c5, c6, c7, c8, c9, c10, c11, c12, c13, c14, c15⟩ := cel16 hV.out.1
            go_wp2_with fail
            go_ret
            exact ⟨by rw [show mform 4 I me P R co tx = false from by unfold mform; simp only [hii.out, hmeq.out, hnp.out, hnr.out, hv1.out] <;> simp]; rfl, hV.out.2⟩
          · obtain ⟨c0, c1, c2, c3, c4, c5, c6, c7, c8, c9, c10, c11, c12, c13, c14, c15⟩ := cel16 hV.out.1
            go_wp2_with fail
            refine (hVal.out tx _ hV.out.2 (by omega)).mono ?_
            rintro e w32 ⟨rfl, hb⟩
            replace hV := Lib.hid (hV.out.step hb)
            clear c0 c1 c2 c3 c4 c5 c6 c7 c8 c9 c10 c11 c12 c13 c14 c15 hb
            obtain ⟨v2, hv2⟩ : ∃ b, Lib.validD tx.data.toList = b := ⟨_, rfl⟩
            rw [hv2]
            replace hv2 := Lib.hid hv2
            cases v2
            · obtain ⟨c0, c1, c2, c3, c4, c5, c6, c7, c8, c9, c10, c11, c12, c13, c14, c15⟩ := cel16 hV.out.1
              go_wp2_with fail
              go_ret
              exact ⟨by rw [show mform 4 I me P R co tx = false from by unfold mform; simp only [hii.out, hmeq.out, hnp.out, hnr.out, hv1.out, hv2.out] <;> simp]; rfl, hV.out.2⟩
            · obtain ⟨c0, c1, c2, c3, c4, c5, c6, c7, c8, c9, c10, c11, c12, c13, c14, c15⟩ := cel16 hV.out.1
              go_wp2_with fail
              go_ret
              exact ⟨by rw [show mform 4 I me P R co tx = true from by unfold mform; simp only [hii.out, hmeq.out, hnp.out, hnr.out, hv1.out, hv2.out] <;> simp]; rfl, hV.out.2⟩
    · have hmeq := Lib.hid (show (me.data.toList != []) = true from by first | (simp [hme]; done) | (rw [bne_iff_ne]; exact hme))
      have hmep : me.toList.isEmpty = false := by
        rw [ByteArray.toList_eq]
        cases hl : me.data.toList with
        | nil => exact absurd hl hme
        | cons _ _ => rfl
      replace hme := Lib.hid hme
      obtain ⟨c0, c1, c2, c3, c4, c5, c6, c7, c8, c9, c10, c11, c12, c13, c14, c15⟩ := cel16 hV.out.1
      go_wp2_with fail
      go_ret
      exact ⟨by rw [show mform 4 I me P R co tx = false from by unfold mform; simp only [hii.out, hmeq.out] <;> simp]; rfl, hV.out.2⟩
end Go.Proofs.YtdjfoabinjfnfaaGreatDoor
