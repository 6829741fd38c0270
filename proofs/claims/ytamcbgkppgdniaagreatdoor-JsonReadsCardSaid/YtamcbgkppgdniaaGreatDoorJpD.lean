/-
  The walk of the JSON reader's escape.
-/
import Derived.Test.YtamcbgkppgdniaaGreatDoorJpC
namespace Go.Proofs.YtamcbgkppgdniaaGreatDoor
open Go.RowKit

/-- The tables, laid ahead of the reader's block. -/
def EnvB (b : Nat) (w : World) : Prop := ∃ W0, EnvC W0 ∧ W0.heap.size ≤ b ∧ Below W0.heap.size W0 w
theorem EnvB.env {b : Nat} {w : World} (h : EnvB b w) : EnvC w := by
  obtain ⟨W0, h1, _, h3⟩ := h
  exact h1.below h3
theorem EnvB.but {b : Nat} {w w' : World} (h : EnvB b w) (hb : But w.heap.size b w w') : EnvB b w' := by
  obtain ⟨W0, h1, h2, h3⟩ := h
  exact ⟨W0, h1, h2, h3.trans (hb.below h2 h3.size)⟩
theorem EnvB.below {b : Nat} {w w' : World} (h : EnvB b w) (hb : Below w.heap.size w w') : EnvB b w' := h.but (But.of hb)
def EscEnd (b it : Nat) (w : World) (R : Option (List UInt8 × List UInt8)) (e : Ending) (w' : World) : Prop := But w.heap.size b w w' ∧ (match R with | none => e = Pan 4 | some (t, r) => e = .returned (.string (ofL t)) ∧ RJ w' b r it)
def mkOK (c : UInt8) : Bool := match jmark c with
  | some m => decide (0 ≤ Lib.indexByte [34, 92, 98, 102, 110, 114, 116] c) && decide (Lib.indexByte [34, 92, 98, 102, 110, 114, 116] c < 7) && decide (([34, 92, 8, 12, 10, 13, 9] : List UInt8).getD (Lib.indexByte [34, 92, 98, 102, 110, 114, 116] c).toNat 0 = m)
  | none => decide (Lib.indexByte [34, 92, 98, 102, 110, 114, 116] c = -1)
theorem mk_all : ∀ n : Fin 256, n.val ≠ 47 → mkOK (UInt8.ofNat n.val) = true := by decide +kernel
theorem mk_ext : ∀ k : Fin 7, (⟨#[34, 92, 8, 12, 10, 13, 9]⟩ : ByteArray).extract k.val (k.val + 1) = ofL [([34, 92, 8, 12, 10, 13, 9] : List UInt8).getD k.val 0] := by decide +kernel
/-- A text's first byte, and the rest. -/
theorem head_facts (c : UInt8) (r : List UInt8) : 0 < (ofL (c :: r)).size ∧ (∀ h : 0 < (ofL (c :: r)).size, (ofL (c :: r))[0] = c) ∧ (ofL (c :: r)).extract 1 (ofL (c :: r)).size = ofL r ∧ (ofL (c :: r)).toList.isEmpty = false :=
  ⟨by rw [size_ofL]; simp, fun _ => rfl, jxt_drop (c :: r) 1, by rw [Lib.toList_data, toList_ofL]; rfl⟩
set_option maxRecDepth 100000 in
set_option maxHeartbeats 4000000 in
theorem jrEscape_any (b : Nat) (s : List UInt8) (it : Nat) (w : World) (hE : EnvB b w) (h : RJ w b s it) :
    Calls Tryz.prog 172 #[.pointer (some ⟨b, 0, none⟩)] w (EscEnd b it w (jescape s)) := by
  have p0 := Cel.cell h 0
  simp only [List.getElem?_toArray, List.getElem?_cons_zero] at p0
  have f0 := Cel.froz h 0
  rcases s with _ | ⟨c, r⟩
  · have e1 : jescape [] = none := rfl
    rw [e1]
    have e2 : ofL [] = ByteArray.empty := rfl
    rw [e2] at p0
    clear hE h
    go_enter Tryz.func172, Tryz.ntmps172
    go_wp2_with fail
    refine (jrFail_any 4 _).mono ?_
    rintro e w1 ⟨rfl, rfl⟩
    exact ⟨rfl, But.refl _ _ _, rfl⟩
  · obtain ⟨g1, g2, g3, g4⟩ := head_facts c r
    rw [jescape_cons]
    obtain ⟨S, hS⟩ : ∃ S, ofL (c :: r) = S := ⟨_, rfl⟩
    obtain ⟨S1, hS1⟩ : ∃ S1, ofL r = S1 := ⟨_, rfl⟩
    rw [hS] at p0 g1 g2 g3 g4
    rw [hS1] at g3
    have g5 := g2 g1
    have hbd := c.toNat_lt
    obtain ⟨ci, hci⟩ : ∃ ci : Int, (c.toNat : Int) = ci := ⟨_, rfl⟩
    have g6 : (S[0].toNat : Int) = ci := by rw [g5]; exact hci
    have hw1 : RJ (w.setCell ⟨b, 0, none⟩ (.string S1)) b r it := by rw [← hS1]; exact h.set
    have hE1 : EnvB b (w.setCell ⟨b, 0, none⟩ (.string S1)) := hE.but (But.set0 _)
    have hsz : (1 : Int) ≤ (S.size : Int) := by omega
    clear g2 hE hS
    replace hS1 := Lib.hid hS1
    replace hw1 := Lib.hid hw1
    replace hE1 := Lib.hid hE1
    by_cases c47 : c = 47
    · have e1 : jmark c = some 47 := by rw [c47]; rfl
      rw [e1]
      have e2 : ci = 47 := by rw [← hci, c47]; rfl
      subst e2
      clear hci g5 c47 h hE1
      go_enter Tryz.func172, Tryz.ntmps172
      go_wp2_with fail
      go_ret
      exact ⟨But.set0 _, rfl, hw1.out⟩
    · have e2 : ¬ ci = 47 := by
        intro e
        apply c47
        rw [← hci] at e
        exact UInt8.toNat_inj.1 (by show c.toNat = 47; omega)
      have hm := mk_all ⟨c.toNat, hbd⟩ (fun e => c47 (UInt8.toNat_inj.1 e))
      rw [UInt8.ofNat_toNat] at hm
      have hI := Lib.hid (fun (W : World) => Tryz.strings_IndexByte ⟨#[34, 92, 98, 102, 110, 114, 116]⟩ ci W)
      have he : ci.toNat.toUInt8 = c := by rw [← hci]; simp
      have hx : (⟨#[34, 92, 98, 102, 110, 114, 116]⟩ : ByteArray).data.toList = [34, 92, 98, 102, 110, 114, 116] := rfl
      rw [hx, he] at hI
      unfold mkOK at hm
      rcases hj : jmark c with _ | m
      · rw [hj] at hm
        rw [of_decide_eq_true hm] at hI
        clear hm hj he hx g5 c47 h
        by_cases c117 : c = 117
        · rw [if_pos c117]
          have e3 : ci = 117 := by rw [← hci, c117]; rfl
          subst e3
          have hU := Lib.hid (jrUnit_any b r it _ hE1.out.env hw1.out)
          have hul := @junit_lt r
          obtain ⟨U, hUe⟩ : ∃ U, junit r = U := ⟨_, rfl⟩
          obtain ⟨R, hR⟩ : ∃ R, jescU r = R := ⟨_, rfl⟩
          rw [hR]
          unfold jescU at hR
          rw [hUe] at hU hul hR
          clear hci c117
          replace hR := Lib.hid hR
          go_enter Tryz.func172, Tryz.ntmps172
          go_wp2_with fail
          refine (hI.out _).mono ?_
          rintro e w1 ⟨rfl, rfl⟩
          clear hI
          go_wp2_with fail
          refine hU.out.mono ?_
          rintro e w2 ⟨hB2, hx⟩
          clear hU
          rcases U with _ | ⟨a, r1⟩
          · dsimp only at hx
            subst hx
            have e4 : R = none := hR.out.symm
            subst e4
            exact ⟨rfl, (But.set0 _).trans (hB2.mono (by simp)), rfl⟩
          · dsimp only at hx
            obtain ⟨rfl, hR2⟩ := hx
            have ha := (hul rfl).2
            replace hR := Lib.hid (show (if rput (a : Int) ≠ [] then some (rput (a : Int), r1) else _) = R from hR.out)
            have hE2 := Lib.hid (hE1.out.but hB2)
            have hB2' := Lib.hid (show But w.heap.size b w w2 from (But.set0 _).trans (hB2.mono (by simp)))
            clear hB2 hE1 hw1 hul p0 f0 g3 g4 g6 hS1
            replace hR2 := Lib.hid hR2
            go_wp2_with fail
            refine (utfPut_any a (by omega) (by omega) w2).mono ?_
            rintro e w3 ⟨rfl, rfl⟩
            obtain ⟨P, hP⟩ : ∃ P, rput (a : Int) = P := ⟨_, rfl⟩
            rw [hP] at hR ⊢
            by_cases hP0 : P = []
            · subst hP0
              have hR' := hR.out
              rw [if_neg (by simp)] at hR'
              have hM := jrMust_any b r1 it ⟨#[92, 117]⟩ w3 hR2.out
              have hx2 : (⟨#[92, 117]⟩ : ByteArray).data.toList = [92, 117] := rfl
              rw [hx2] at hM
              have hem : (ofL []).toList.isEmpty = true := by rw [Lib.toList_data, toList_ofL]; rfl
              by_cases hpre : ([92, 117] : List UInt8).isPrefixOf r1 = true
              · obtain ⟨r2, rfl⟩ : ∃ r2, r1 = 92 :: 117 :: r2 := by
                  obtain ⟨t, ht⟩ := List.isPrefixOf_iff_prefix.1 hpre
                  exact ⟨t, ht.symm⟩
                have hR'' : (match junit r2 with | none => none | some (b, r3) => match jpair a b with | none => none | some p => some (rput (p : Int), r3)) = R := hR'
                simp only [hpre, if_true, List.length_cons, List.length_nil, List.drop_succ_cons, List.drop_zero] at hM
                have hul2 := @junit_lt r2
                obtain ⟨V, hVe⟩ : ∃ V, junit r2 = V := ⟨_, rfl⟩
                have hU2 := fun (W : World) (hE : EnvB b W) (hW : RJ W b r2 it) => jrUnit_any b r2 it W hE.env hW
                rw [hVe] at hR'' hul2
                rw [hVe] at hU2
                replace hM := Lib.hid hM
                replace hU2 := Lib.hid hU2
                replace hR := Lib.hid hR''
                clear hP hR' hR'' hpre hVe hx2
                go_wp2_with fail
                refine hM.out.mono ?_
                rintro e w4 ⟨hB4, rfl, hR4⟩
                have hE4 := hE2.out.but hB4
                have hB4' := Lib.hid (hB2'.out.trans (hB4.mono hB2'.out.size))
                have hu2 := Lib.hid (hU2.out w4 hE4 hR4)
                clear hM hB4 hR4 hU2 hE2 hB2' hR2
                go_wp2_with fail
                refine hu2.out.mono ?_
                rintro e w5 ⟨hB5, hx⟩
                have hB5' := Lib.hid (hB4'.out.trans (hB5.mono hB4'.out.size))
                clear hu2 hB5 hB4' hE4
                rcases V with _ | ⟨d, r3⟩
                · dsimp only at hx
                  subst hx
                  have e4 : R = none := hR.out.symm
                  subst e4
                  exact ⟨rfl, hB5'.out, rfl⟩
                · dsimp only at hx
                  obtain ⟨rfl, hR5⟩ := hx
                  have hd := (hul2 rfl).2
                  replace hR5 := Lib.hid hR5
                  have hpr := utfPair_any a d ha hd w5
                  have hR6 : (match jpair a d with | none => none | some p => some (rput p, r3)) = R := hR.out
                  unfold pairV at hpr
                  rcases hjp : jpair a d with _ | p
                  · rw [hjp] at hpr hR6
                    dsimp only at hpr hR6
                    subst hR6
                    replace hpr := Lib.hid hpr
                    clear hR hul2 hjp
                    go_wp2_with fail
                    refine hpr.out.mono ?_
                    rintro e w6 ⟨rfl, rfl⟩
                    clear hpr
                    go_wp2_with fail
                    refine (jrFail_any 4 _).mono ?_
                    rintro e w7 ⟨rfl, rfl⟩
                    exact ⟨rfl, hB5'.out, rfl⟩
                  · rw [hjp] at hpr hR6
                    dsimp only at hpr hR6
                    subst hR6
                    have hpl : p < 2000000 := by
                      unfold jpair at hjp
                      split at hjp
                      · injection hjp with hjp; omega
                      · cases hjp
                    replace hpr := Lib.hid hpr
                    have hput := Lib.hid (utfPut_any p (by omega) (by omega) w5)
                    clear hR hul2 hjp
                    go_wp2_with fail
                    refine hpr.out.mono ?_
                    rintro e w6 ⟨rfl, rfl⟩
                    clear hpr
                    go_wp2_with fail
                    refine hput.out.mono ?_
                    rintro e w7 ⟨rfl, rfl⟩
                    clear hput
                    go_wp2_with fail
                    go_ret
                    exact ⟨hB5'.out, rfl, hR5.out⟩
              · simp only [if_neg hpre] at hM
                have e4 : R = none := by
                  rw [← hR']
                  split
                  · exact absurd rfl hpre
                  · rfl
                subst e4
                replace hM := Lib.hid hM
                clear hP hR' hpre hx2 hR
                go_wp2_with fail
                refine hM.out.mono ?_
                rintro e w4 ⟨hB4, rfl⟩
                exact ⟨rfl, hB2'.out.trans (hB4.mono hB2'.out.size), rfl⟩
            · have hR' := hR.out
              rw [if_pos hP0] at hR'
              subst hR'
              have hem : (ofL P).toList.isEmpty = false := by
                rw [Lib.toList_data, toList_ofL]
                cases P with
                | nil => exact absurd rfl hP0
                | cons _ _ => rfl
              clear hP hP0 hR
              go_wp2_with fail
              go_ret
              exact ⟨hB2'.out, rfl, hR2.out⟩
        · rw [if_neg c117]
          have e3 : (ci != 117) = true := by
            rw [← hci]
            have : c.toNat ≠ 117 := fun e => c117 (UInt8.toNat_inj.1 e)
            simpa using (by omega : (c.toNat : Int) ≠ 117)
          clear hE1 hci
          go_enter Tryz.func172, Tryz.ntmps172
          go_wp2_with fail
          refine (hI.out _).mono ?_
          rintro e w1 ⟨rfl, rfl⟩
          clear hI
          go_wp2_with fail
          refine (jrFail_any 4 _).mono ?_
          rintro e w1 ⟨rfl, rfl⟩
          exact ⟨rfl, But.set0 _, rfl⟩
      · rw [hj] at hm
        simp only [Bool.and_eq_true, decide_eq_true_eq] at hm
        obtain ⟨⟨m0, m1⟩, m2⟩ := hm
        obtain ⟨k, hk⟩ := Int.eq_ofNat_of_zero_le m0
        rw [hk] at hI m1 m2
        have hk7 : k < 7 := by omega
        have hext := mk_ext ⟨k, hk7⟩
        simp only [Int.toNat_natCast] at m2
        dsimp only at hext
        rw [m2] at hext
        have k0 : (0 : Int) ≤ (k : Int) := by omega
        have k1 : (k : Int) < 7 := m1
        clear m0 m1 m2 hk hj he hx hci g5 c47 h hE1 hk7
        go_enter Tryz.func172, Tryz.ntmps172
        go_wp2_with fail
        refine (hI.out _).mono ?_
        rintro e w1 ⟨rfl, rfl⟩
        clear hI
        go_wp2_with fail
        go_ret
        exact ⟨But.set0 _, rfl, hw1.out⟩
end Go.Proofs.YtamcbgkppgdniaaGreatDoor
