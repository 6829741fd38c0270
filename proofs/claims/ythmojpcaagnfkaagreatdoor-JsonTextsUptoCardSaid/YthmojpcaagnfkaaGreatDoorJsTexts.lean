/-
  The walk of rostrumlaw05.JsonTexts: the law answers true.
-/
import Derived.Test.YthmojpcaagnfkaaGreatDoorJsBd
import Derived.Test.YthmojpcaagnfkaaGreatDoorJsD
import Derived.Test.YthmojpcaagnfkaaGreatDoorJsK
import Derived.Test.YthmojpcaagnfkaaGreatDoorJsL
import Derived.Test.YthmojpcaagnfkaaGreatDoorJsInj
import Derived.Lib.ItoaNum
import Derived.Deep.RegionHeld3
namespace Go.Proofs.YthmojpcaagnfkaaGreatDoor
open Go.RowKit

set_option maxRecDepth 100000 in
theorem numC_dig {c : UInt8} (h : isDig c = true) : numC c = true := by
  have hall : ∀ n : Fin 256, isDig (UInt8.ofNat n.val) = true → numC (UInt8.ofNat n.val) = true := by decide
  have := hall ⟨c.toNat, c.toNat_lt⟩
  simp only [UInt8.ofNat_toNat] at this
  exact this h
theorem decDigits_dig5 : ∀ (u : Nat) (c : UInt8), c ∈ Lib.decDigits u → isDig c = true := by
  intro u
  induction u using Nat.strongRecOn with
  | ind u ih =>
    intro c hc
    rw [Lib.decDigits] at hc
    have hd : ∀ v, v < 10 → isDig (UInt8.ofNat (48 + v)) = true := by
      intro v hv
      have h : ∀ x : Fin 10, isDig (UInt8.ofNat (48 + x.val)) = true := by decide
      exact h ⟨v, hv⟩
    split at hc
    · rename_i h
      rw [List.mem_singleton] at hc
      rw [hc]; exact hd u h
    · rename_i h
      rw [List.mem_append, List.mem_singleton] at hc
      rcases hc with hc | hc
      · exact ih (u / 10) (by omega) c hc
      · rw [hc]; exact hd _ (by omega)
theorem itoa_num {n : Int} {c : UInt8} (h : c ∈ Lib.itoa n) : numC c = true := by
  unfold Lib.itoa at h
  split at h
  · rcases List.mem_cons.1 h with rfl | h
    · decide
    · exact numC_dig (decDigits_dig5 _ _ h)
  · exact numC_dig (decDigits_dig5 _ _ h)
theorem own_num : OwnNum ownL := by
  intro l h
  unfold ownL at h
  split at h
  · injection h with h _
    rw [← h]
    have hdg := decGetL_dig l
    unfold formL
    split
    · exact ⟨by simp, fun c hc => by rw [List.mem_singleton] at hc; subst hc; decide⟩
    · rename_i hne
      refine ⟨fun e => ?_, fun c hc => ?_⟩
      · have := (List.append_eq_nil_iff.1 e).1
        split at this
        · cases this
        · exact hne this
      · rcases List.mem_append.1 hc with hc | hc
        · split at hc
          · rcases List.mem_cons.1 hc with rfl | hc
            · decide
            · exact numC_dig (hdg c hc)
          · exact numC_dig (hdg c hc)
        · split at hc
          · cases hc
          · rcases List.mem_cons.1 hc with rfl | hc
            · decide
            · exact itoa_num hc
  · rename_i hne
    injection h with _ h
    exact absurd h hne
theorem cel4t {W : World} {b : Nat} {x0 x1 x2 x3 : Value} (h : Cel W b 27 #[x0, x1, x2, x3]) : W.cell? ⟨b, 0, none⟩ = some x0 ∧ W.cell? ⟨b, 1, none⟩ = some x1 ∧ W.cell? ⟨b, 2, none⟩ = some x2 ∧ W.cell? ⟨b, 3, none⟩ = some x3 :=
  ⟨h.cell 0, h.cell 1, h.cell 2, h.cell 3⟩
theorem jtl_toList (l : List UInt8) : (⟨l.toArray⟩ : ByteArray).toList = l := by rw [ByteArray.toList_eq]
def WorksSays (f : Nat) : Prop := ∀ w : World, EnvU w → Calls Tryz.prog f #[] w fun e w' => e = .returned (.bool true) ∧ Below w.heap.size w w'

set_option maxRecDepth 20000 in
set_option maxHeartbeats 8000000 in
theorem jsonTexts_any (hwk : WorksSays 62) (a b : Jsn) (X : Nat → Prop) (w : World) (va1 va2 vb1 vb2 : Value) (hE : EnvU w) (hVa : JV w X a va1 va2) (hVb : JV w X b vb1 vb2) (hba : jbulk a ≤ 10000000) (hbb : jbulk b ≤ 10000000) :
    Calls Tryz.prog 14 #[.agg #[.int .u8 a.kind, .string a.text, va1, va2], .agg #[.int .u8 b.kind, .string b.text, vb1, vb2]] w fun e w' => e = .returned (.bool true) ∧ Below w.heap.size w w' := by
  obtain ⟨W0, hW0⟩ : ∃ W0, (w.alloc (.cells #[.int .u8 a.kind, .string a.text, va1, va2] 27)).alloc (.cells #[.int .u8 b.kind, .string b.text, vb1, vb2] 27) = W0 := ⟨_, rfl⟩
  have hB0 : Below w.heap.size w W0 := by rw [← hW0]; exact ((Below.refl _ _).alloc (Nat.le_refl _) _).alloc (by simp) _
  have hA0 : Cel W0 w.heap.size 27 #[.int .u8 a.kind, .string a.text, va1, va2] := by rw [← hW0]; exact (Cel.fresh _ _ _).alloc _
  have hC0 : Cel W0 (w.heap.size + 1) 27 #[.int .u8 b.kind, .string b.text, vb1, vb2] := by
    rw [← hW0]
    have := Cel.fresh (w.alloc (.cells #[.int .u8 a.kind, .string a.text, va1, va2] 27)) 27 #[.int .u8 b.kind, .string b.text, vb1, vb2]
    simpa using this
  have hwa := Lib.hid (fun (W : World) (hB : Below w.heap.size w W) => weight_any a X W _ _ (hVa.later hB) (by omega))
  have hwb := Lib.hid (fun (W : World) (hB : Below w.heap.size w W) => weight_any b X W _ _ (hVb.later hB) (by omega))
  have hjb := bulk_jw a
  have hjb2 := bulk_jw b
  obtain ⟨A1, n1, c1, A2, n2, c2, rfl, rfl⟩ := hVa.forms
  obtain ⟨B1, m1, d1, B2, m2, d2, rfl, rfl⟩ := hVb.forms
  have hZ0 := Lib.hid (And.intro hA0 (And.intro hC0 hB0))
  have hcl := Lib.hid (fun (W : World) (hB : Below W0.heap.size W0 W) => And.intro (cel4t (hA0.below hB hA0.lt)) (cel4t (hC0.below hB hC0.lt)))
  have hbw := Lib.hid (fun (W : World) (hB : Below W0.heap.size W0 W) => hB0.trans (hB.mono hB0.size))
  obtain ⟨p0, p1, p2, p3⟩ := cel4t hA0
  obtain ⟨q0, q1, q2, q3⟩ := cel4t hC0
  replace hW0 := Lib.hid hW0
  replace hVa := Lib.hid hVa
  replace hVb := Lib.hid hVb
  replace hE := Lib.hid hE
  replace hwk := Lib.hid hwk
  clear hA0 hC0 hB0
  go_enter Tryz.func14, Tryz.ntmps14
  go_wp2_with fail
  rw [hW0.out]
  clear hW0 p0 p1 p2 p3 q0 q1 q2 q3
  refine (hwk.out W0 (hE.out.below (hbw.out W0 (Below.refl _ _)))).mono ?_
  rintro e u1 ⟨rfl, hb1⟩
  obtain ⟨⟨p0, p1, p2, p3⟩, q0, q1, q2, q3⟩ := hcl.out u1 hb1
  go_wp2_with fail
  refine (hwa.out u1 (hbw.out u1 hb1)).mono ?_
  rintro e u2 ⟨ma, rfl, hm1, hm2, hb2'⟩
  have hb2 : Below W0.heap.size W0 u2 := hb1.trans (hb2'.mono hb1.size)
  clear p0 p1 p2 p3 q0 q1 q2 q3 hb2' hb1 hwa
  obtain ⟨⟨p0, p1, p2, p3⟩, q0, q1, q2, q3⟩ := hcl.out u2 hb2
  by_cases ca : 1500 ≤ (ma : Int)
  · have hw9 := Lib.hid (hwk.out u2 (hE.out.below (hbw.out u2 hb2)))
    clear hm1 hm2 hwb hVa hVb hE
    go_wp2_with fail
    refine hw9.out.mono ?_
    rintro e u3 ⟨rfl, hb3'⟩
    have hb3 := Lib.hid (hbw.out u3 (hb2.trans (hb3'.mono hb2.size)))
    clear hb3' hb2
    go_wp2_with fail
    go_ret
    exact ⟨rfl, hb3.out⟩
  have hja : jbulk a ≤ 96000 := by omega
  clear hm1 hm2 hjb
  go_wp2_with fail
  refine (hwb.out u2 (hbw.out u2 hb2)).mono ?_
  rintro e u3 ⟨mb, rfl, hm1, hm2, hb3'⟩
  have hb3 : Below W0.heap.size W0 u3 := hb2.trans (hb3'.mono hb2.size)
  clear p0 p1 p2 p3 q0 q1 q2 q3 hb3' hb2 hwb
  obtain ⟨⟨p0, p1, p2, p3⟩, q0, q1, q2, q3⟩ := hcl.out u3 hb3
  by_cases cb : 1500 ≤ (mb : Int)
  · have hw9 := Lib.hid (hwk.out u3 (hE.out.below (hbw.out u3 hb3)))
    clear hm1 hm2 hVa hVb hE
    go_wp2_with fail
    refine hw9.out.mono ?_
    rintro e u4 ⟨rfl, hb4'⟩
    have hb4 := Lib.hid (hbw.out u4 (hb3.trans (hb4'.mono hb3.size)))
    clear hb4' hb3
    go_wp2_with fail
    go_ret
    exact ⟨rfl, hb4.out⟩
  have hjb3 : jbulk b ≤ 96000 := by omega
  clear hm1 hm2 hjb2 hwk
  have hga := Lib.hid (given_any a X u3 _ _ (hVa.out.later (hbw.out u3 hb3)) (by omega))
  go_wp2_with fail
  clear ca cb
  refine hga.out.mono ?_
  rintro e u4 ⟨vn, vl, rfl, hO, hb4'⟩
  have hb4 : Below W0.heap.size W0 u4 := hb3.trans (hb4'.mono hb3.size)
  obtain ⟨I1, i1, j1, I2, i2, j2, rfl, rfl⟩ := hO.forms
  clear p0 p1 p2 p3 q0 q1 q2 q3 hb4' hb3 hga
  obtain ⟨⟨p0, p1, p2, p3⟩, q0, q1, q2, q3⟩ := hcl.out u4 hb4
  obtain ⟨ps, hps⟩ : ∃ ps, jprint ownL Lib.validD a = ps := ⟨_, rfl⟩
  obtain ⟨pt, hpt⟩ : ∃ pt, jprint ownL Lib.validD b = pt := ⟨_, rfl⟩
  have hpr : ps.2 = 0 → pt.2 = 0 → (ps.1 = pt.1 ↔ jsame a b = true) := by
    rw [← hps, ← hpt]
    exact fun h1 h2 => print_same own_num h1 h2
  have hP := Lib.hid (jsnPrint_any a _ u4 _ _ (hE.out.below (hbw.out u4 hb4)) (OwnJ.jv a hO) (by omega))
  rw [hps] at hP
  go_wp2_with fail
  refine hP.out.mono ?_
  rintro e u5 ⟨rfl, hb5'⟩
  have hb5 : Below W0.heap.size W0 u5 := hb4.trans (hb5'.mono hb4.size)
  clear p0 p1 p2 p3 q0 q1 q2 q3 hb5' hb4 hO hP
  obtain ⟨⟨p0, p1, p2, p3⟩, q0, q1, q2, q3⟩ := hcl.out u5 hb5
  have hgb := Lib.hid (given_any b X u5 _ _ (hVb.out.later (hbw.out u5 hb5)) (by omega))
  go_wp2_with fail
  refine hgb.out.mono ?_
  rintro e u6 ⟨vn, vl, rfl, hO, hb6'⟩
  have hb6 : Below W0.heap.size W0 u6 := hb5.trans (hb6'.mono hb5.size)
  obtain ⟨K1, k1, l1, K2, k2, l2, rfl, rfl⟩ := hO.forms
  clear p0 p1 p2 p3 q0 q1 q2 q3 hb6' hb5 hgb
  obtain ⟨⟨p0, p1, p2, p3⟩, q0, q1, q2, q3⟩ := hcl.out u6 hb6
  have hP := Lib.hid (jsnPrint_any b _ u6 _ _ (hE.out.below (hbw.out u6 hb6)) (OwnJ.jv b hO) (by omega))
  rw [hpt] at hP
  go_wp2_with fail
  refine hP.out.mono ?_
  rintro e u7 ⟨rfl, hb7'⟩
  have hb7 : Below W0.heap.size W0 u7 := hb6.trans (hb7'.mono hb6.size)
  clear p0 p1 p2 p3 q0 q1 q2 q3 hb7' hb6 hO hP hps hpt
  have hS := Lib.hid (fun (W : World) (hB : Below u7.heap.size u7 W) => And.intro (hcl.out W (hb7.trans (hB.mono hb7.size))) hB)
  have hab := Lib.hid (fun (W : World) (hB : Below u7.heap.size u7 W) => jsnSame_any a b X X W _ _ _ _ (hVa.out.later (hbw.out W (hb7.trans (hB.mono hb7.size)))) (hVb.out.later (hbw.out W (hb7.trans (hB.mono hb7.size)))) (by omega) (by omega))
  have hba := Lib.hid (fun (W : World) (hB : Below u7.heap.size u7 W) => jsnSame_any b a X X W _ _ _ _ (hVb.out.later (hbw.out W (hb7.trans (hB.mono hb7.size)))) (hVa.out.later (hbw.out W (hb7.trans (hB.mono hb7.size)))) (by omega) (by omega))
  have hfin := Lib.hid (fun (W : World) (hB : Below u7.heap.size u7 W) => hbw.out W (hb7.trans (hB.mono hb7.size)))
  rw [jsame_comm b a] at hba
  obtain ⟨Q, hQ⟩ : ∃ Q, jsame a b = Q := ⟨_, rfl⟩
  rw [hQ] at hab hba hpr
  obtain ⟨s1, e1⟩ := ps
  obtain ⟨t1, e2⟩ := pt
  dsimp only at hpr ⊢
  obtain ⟨PS, hPS⟩ : ∃ PS : ByteArray, ⟨s1.toArray⟩ = PS := ⟨_, rfl⟩
  obtain ⟨PT, hPT⟩ : ∃ PT : ByteArray, ⟨t1.toArray⟩ = PT := ⟨_, rfl⟩
  have hst : e1 = 0 → e2 = 0 → (PS.toList == PT.toList) = Q := by
    intro h1 h2
    have := hpr h1 h2
    rw [← hPS, ← hPT, jtl_toList, jtl_toList, Bool.eq_iff_iff, beq_iff_eq]
    exact this
  rw [hPS, hPT]
  clear hPS hPT hpr hQ hbw hcl hVa hVb hE
  by_cases h1 : e1 = 0
  · by_cases h2 : e2 = 0
    · replace hst := hst h1 h2
      subst h1
      subst h2
      obtain ⟨⟨⟨p0, p1, p2, p3⟩, q0, q1, q2, q3⟩, _⟩ := hS.out u7 (Below.refl _ _)
      go_upto_region 5 with (fail)
      clear p0 p1 p2 p3 q0 q1 q2 q3
      go_region_held3 (fun W => ((W.cell? ⟨w.heap.size, 0, none⟩ = some (.int .u8 a.kind) ∧ W.cell? ⟨w.heap.size, 1, none⟩ = some (.string a.text) ∧ W.cell? ⟨w.heap.size, 2, none⟩ = some (.slice A1 n1 c1) ∧ W.cell? ⟨w.heap.size, 3, none⟩ = some (.slice A2 n2 c2)) ∧ (W.cell? ⟨w.heap.size + 1, 0, none⟩ = some (.int .u8 b.kind) ∧ W.cell? ⟨w.heap.size + 1, 1, none⟩ = some (.string b.text) ∧ W.cell? ⟨w.heap.size + 1, 2, none⟩ = some (.slice B1 m1 d1) ∧ W.cell? ⟨w.heap.size + 1, 3, none⟩ = some (.slice B2 m2 d2))) ∧ Below u7.heap.size u7 W)
        (first | exact hS.out _ (bel_drewN (Below.refl _ _) 1) | exact hS.out _ hZ1 | exact hS.out _ hZ2 | exact hS.out _ hZ3)
        (first
          | (go_at_call 67; (with_reducible refine (hab.out _ ?_).mono ?_); exact bel_drewN (Below.refl _ _) 1; rintro e v1 ⟨rfl, hu⟩; have hZ1 : Below u7.heap.size u7 v1 := (bel_drewN (Below.refl _ _) 1).trans hu; clear hu)
          | (go_at_call 67; (with_reducible refine (hab.out _ ?_).mono ?_); exact hZ1; rintro e v2 ⟨rfl, hu⟩; have hZ2 : Below u7.heap.size u7 v2 := hZ1.trans (hu.mono hZ1.size); clear hu)
          | (go_at_call 67; (with_reducible refine (hba.out _ ?_).mono ?_); exact hZ2; rintro e v3 ⟨rfl, hu⟩; have hZ3 : Below u7.heap.size u7 v3 := hZ2.trans (hu.mono hZ2.size); clear hu))
      all_goals
        have hbz := Lib.hid (hfin.out _ hZ3)
        clear hab hba hS hfin hst
        go_wp2_with fail
        go_ret
        exact ⟨rfl, hbz.out⟩
    · have hne : (e2 != 0) = true := by simpa using h2
      have hbz := Lib.hid (hfin.out _ (bel_drewN (Below.refl u7.heap.size u7) 1))
      subst h1
      clear hab hba hS hfin hst
      go_upto_region 5 with (fail)
      go_region
      all_goals
        go_wp2_with fail
        go_ret
        exact ⟨rfl, hbz.out⟩
  · have hne : (e1 != 0) = true := by simpa using h1
    have hbz := Lib.hid (hfin.out _ (bel_drewN (Below.refl u7.heap.size u7) 1))
    clear hab hba hS hfin hst
    go_upto_region 5 with (fail)
    go_region
    all_goals
      go_wp2_with fail
      go_ret
      exact ⟨rfl, hbz.out⟩
end Go.Proofs.YthmojpcaagnfkaaGreatDoor
