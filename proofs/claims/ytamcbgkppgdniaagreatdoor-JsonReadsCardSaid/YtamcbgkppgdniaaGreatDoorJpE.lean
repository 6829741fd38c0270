/-
  The walk of the JSON reader's text.
-/
import Derived.Test.YtamcbgkppgdniaaGreatDoorJpD
namespace Go.Proofs.YtamcbgkppgdniaaGreatDoor
open Go.RowKit

theorem pair_ge {a b p : Nat} (h : jpair a b = some p) : 65536 ≤ p ∧ p ≤ 1114111 := by
  unfold jpair at h
  split at h
  · injection h with h; omega
  · cases h
theorem rput_four {p : Nat} (h : 65536 ≤ p) (h1 : p ≤ 1114111) : rput (p : Int) ≠ [] := by
  rw [rput_pos (by omega)]
  rcases rputN_cases ((p : Int).toNat) with ⟨e, q⟩ | ⟨e, q⟩ | ⟨e, q⟩ | ⟨e, q⟩ | ⟨e, q⟩
  · omega
  all_goals (rw [e]; simp)
theorem jescape_ne {s t r : List UInt8} (h : jescape s = some (t, r)) : t ≠ [] := by
  unfold jescape at h
  split at h
  · cases h
  · split at h
    · injection h with h; injection h with h1 h2; subst h1; simp
    · split at h
      · unfold jescU at h
        split at h
        · cases h
        · split at h
          · rename_i hp
            injection h with h; injection h with h1 h2; subst h1; exact hp
          · split at h
            · split at h
              · cases h
              · split at h
                · cases h
                · rename_i p hp
                  injection h with h; injection h with h1 h2; subst h1
                  exact rput_four (pair_ge hp).1 (pair_ge hp).2
            · cases h
      · cases h
/-- How much is left. -/
def lenAt (w : World) (b : Nat) : Nat := match w.cell? ⟨b, 0, none⟩ with
  | some (.string S) => S.size
  | _ => 0
theorem lenAt_of {w : World} {b it : Nat} {s : List UInt8} (h : RJ w b s it) : lenAt w b = s.length := by
  have : w.cell? ⟨b, 0, none⟩ = some (.string (ofL s)) := Cel.cell h 0
  unfold lenAt
  rw [this]
  exact size_ofL s
/-- A String, from its first quote on. -/
def jtxt (s : List UInt8) : Option (List UInt8 × List UInt8) := match s with
  | 34 :: r => jStr Lib.validD [] r
  | _ => none
theorem jtxt_no {s : List UInt8} (h : ¬ ([34] : List UInt8).isPrefixOf s = true) : jtxt s = none := by
  unfold jtxt
  split
  · exact absurd rfl h
  · rfl
theorem pre_cons {c : UInt8} {s : List UInt8} (h : ([c] : List UInt8).isPrefixOf s = true) : ∃ r, s = c :: r := by
  obtain ⟨t, ht⟩ := List.isPrefixOf_iff_prefix.1 h
  exact ⟨t, ht.symm⟩
theorem EnvB.bel {b B : Nat} {w w' : World} (h : EnvB b w) (hb : Below B w w') (hlt : b < B) : EnvB b w' := by
  obtain ⟨W0, h1, h2, h3⟩ := h
  exact ⟨W0, h1, h2, h3.trans (hb.mono (by omega))⟩
/-- What a round of text knows. -/
def TxtI (b it B bb : Nat) (w : World) (R : Option (List UInt8 × List UInt8)) (wr : World) : Prop :=
  ∃ acc s' : List UInt8, OB B wr bb acc ∧ RJ wr b s' it ∧ But B b w wr ∧ EnvB b wr ∧ jStr Lib.validD acc s' = R ∧ acc.length + s'.length ≤ 1000000
set_option maxRecDepth 100000 in
set_option maxHeartbeats 4000000 in
theorem jrText_any (b : Nat) (s : List UInt8) (it : Nat) (w : World) (hE : EnvB b w) (h : RJ w b s it) (hs : s.length ≤ 1000000) :
    Calls Tryz.prog 134 #[.pointer (some ⟨b, 0, none⟩)] w (EscEnd b it w (jtxt s)) := by
  have hM := jrMust_any b s it ⟨#[34]⟩ w h
  have hx2 : (⟨#[34]⟩ : ByteArray).data.toList = [34] := rfl
  rw [hx2] at hM
  have hlt := h.lt
  by_cases hpre : ([34] : List UInt8).isPrefixOf s = true
  · obtain ⟨r, rfl⟩ := pre_cons hpre
    have e1 : jtxt (34 :: r) = jStr Lib.validD [] r := rfl
    rw [e1]
    obtain ⟨R, hR⟩ : ∃ R, jStr Lib.validD [] r = R := ⟨_, rfl⟩
    rw [hR]
    simp only [hpre, if_true, List.length_cons, List.length_nil, List.drop_succ_cons, List.drop_zero] at hM
    replace hM := Lib.hid hM
    replace hR := Lib.hid hR
    clear h hpre hx2 e1
    go_enter Tryz.func134, Tryz.ntmps134
    go_wp2_with fail
    refine hM.out.mono ?_
    rintro e w1 ⟨hB1, rfl, hR1⟩
    have hE1 := hE.but hB1
    have hsz := hB1.size
    have hlen : r.length ≤ 1000000 := by simp at hs; omega
    have hI0 : TxtI b it w.heap.size w1.heap.size w R (w1.alloc (.cells #[.pointer none, .slice none 0 0] 130)) :=
      ⟨[], r, OB.made hsz, hR1.below ((Below.refl _ _).alloc (Nat.le_refl _) _), hB1.trans (But.of (((Below.refl w1.heap.size w1).alloc (Nat.le_refl _) _).mono hsz)), hE1.below ((Below.refl _ _).alloc (Nat.le_refl _) _), hR.out, by simpa using hlen⟩
    obtain ⟨bb, hbb⟩ : ∃ bb, w1.heap.size = bb := ⟨_, rfl⟩
    clear hM hE hB1 hR1 hE1 hR hlen hs
    rw [hbb] at hI0 hsz
    replace hI0 := Lib.hid hI0
    go_wp2_with fail
    clear hbb
    go_loopw [4] (fun i wr => TxtI b it w.heap.size bb w R wr) (fun _ wr => lenAt wr b)
    case atStart => exact hI0.out
    case round =>
      obtain ⟨acc, s', hO, hRj, hB, hE, hS, hln⟩ := hrel
      have p0 : wr.cell? ⟨b, 0, none⟩ = some (.string (ofL s')) := Cel.cell hRj 0
      have f0 := Cel.froz hRj 0
      have hm := lenAt_of hRj
      clear hI0
      rcases s' with _ | ⟨c, r'⟩
      · rw [jStr_nil] at hS
        subst hS
        have e2 : ofL [] = ByteArray.empty := rfl
        rw [e2] at p0
        replace hB := Lib.hid hB
        clear hO hRj hE hm
        go_wp2_with fail
        refine (jrFail_any 4 _).mono ?_
        rintro e w2 ⟨rfl, rfl⟩
        exact ⟨rfl, hB.out, rfl⟩
      · obtain ⟨g1, g2, g3, g4⟩ := head_facts c r'
        obtain ⟨S, hSS⟩ : ∃ S, ofL (c :: r') = S := ⟨_, rfl⟩
        obtain ⟨S1, hS1⟩ : ∃ S1, ofL r' = S1 := ⟨_, rfl⟩
        rw [hSS] at p0 g1 g2 g3 g4
        rw [hS1] at g3
        have g5 := g2 g1
        have hbd := c.toNat_lt
        obtain ⟨ci, hci⟩ : ∃ ci : Int, (c.toNat : Int) = ci := ⟨_, rfl⟩
        have g6 : (S[0].toNat : Int) = ci := by rw [g5]; exact hci
        have hzz : (1 : Int) ≤ (S.size : Int) := by omega
        have hw2 : RJ (wr.setCell ⟨b, 0, none⟩ (.string S1)) b r' it := by rw [← hS1]; exact hRj.set
        have hE2 : EnvB b (wr.setCell ⟨b, 0, none⟩ (.string S1)) := hE.but (But.set0 _)
        have hO2 : OB w.heap.size (wr.setCell ⟨b, 0, none⟩ (.string S1)) bb acc := hO.but (But.set0 _) hlt
        have hB2 : But w.heap.size b w (wr.setCell ⟨b, 0, none⟩ (.string S1)) := hB.set 0 _
        by_cases c32 : c.toNat < 32
        · rw [jStr_low _ _ _ c32] at hS
          subst hS
          have e3 : ci < 32 := by omega
          replace hB := Lib.hid hB
          clear hO hRj hE hm hw2 hE2 hO2 hB2 hci g5 hS1 g2 hSS c32
          go_wp2_with fail
          refine (jrFail_any 4 _).mono ?_
          rintro e w2 ⟨rfl, rfl⟩
          exact ⟨rfl, hB.out, rfl⟩
        have e32 : ¬ ci < 32 := by omega
        have hw2z : (wr.setCell ⟨b, 0, none⟩ (.string S1)).heap.size = wr.heap.size := by simp
        clear hO hRj hE hB g2 hSS hS1 g5
        replace hw2 := Lib.hid hw2
        replace hE2 := Lib.hid hE2
        replace hO2 := Lib.hid hO2
        replace hB2 := Lib.hid hB2
        by_cases c34 : c = 34
        · subst c34
          have e2 : ci = 34 := hci.symm
          subst e2
          rw [jStr_quote] at hS
          have hst := Lib.hid (bsString_any w.heap.size bb acc _ hO2.out.bs (by omega))
          obtain ⟨V, hV⟩ : ∃ V, Lib.validD acc = V := ⟨_, rfl⟩
          rw [hV] at hS
          replace hV := Lib.hid hV
          replace hS := Lib.hid hS
          clear hm hci
          go_wp2_with fail
          refine hst.out.mono ?_
          rintro e w3 ⟨rfl, hbs3, hb3⟩
          have hR3 := hw2.out.bel hb3 hlt
          have hB3 := hB2.out.trans (But.of hb3)
          have hE3 := hE2.out.bel hb3 hlt
          have hv := utfValid_any (ofL acc) w3 hE3.env.1 (by rw [size_ofL]; omega)
          rw [toList_ofL, hV.out] at hv
          have hsz3 := hB3.size
          clear hst hw2 hB2 hE2 hO2 hb3 hE3 hV
          replace hv := Lib.hid hv
          replace hR3 := Lib.hid hR3
          replace hB3 := Lib.hid hB3
          replace hbs3 := Lib.hid hbs3
          go_wp2_with fail
          refine hv.out.mono ?_
          rintro e w4 ⟨rfl, hb4⟩
          have hR4 := Lib.hid (hR3.out.below hb4)
          have hB4 := Lib.hid (hB3.out.trans (But.of (hb4.mono hsz3)))
          have hbs4 := Lib.hid (hbs3.out.bel hb4)
          clear hv hR3 hB3 hbs3 hb4
          cases V
          · have hS' := hS.out
            rw [if_neg (by decide)] at hS'
            subst hS'
            go_wp2_with fail
            refine (jrFail_any 4 _).mono ?_
            rintro e w5 ⟨rfl, rfl⟩
            exact ⟨rfl, hB4.out, rfl⟩
          · have hS' := hS.out
            rw [if_pos rfl] at hS'
            subst hS'
            have hst2 := Lib.hid (bsString_any w.heap.size bb acc _ hbs4.out (by omega))
            go_wp2_with fail
            refine hst2.out.mono ?_
            rintro e w5 ⟨rfl, _, hb5⟩
            have hR5 := Lib.hid (hR4.out.bel hb5 hlt)
            have hB5 := Lib.hid (hB4.out.trans (But.of hb5))
            clear hst2 hR4 hB4 hbs4 hb5
            go_wp2_with fail
            go_ret
            exact ⟨hB5.out, rfl, hR5.out⟩
        have n34 : (ci == 34) = false := by
          rw [← hci]
          have : c.toNat ≠ 34 := fun e => c34 (UInt8.toNat_inj.1 e)
          simpa using (by omega : (c.toNat : Int) ≠ 34)
        by_cases c92 : c = 92
        · subst c92
          have e2 : ci = 92 := hci.symm
          subst e2
          rw [jStr_esc] at hS
          have hEsc := jrEscape_any b r' it _ hE2.out hw2.out
          have hel := @jescape_lt r'
          have hen := @jescape_ne r'
          obtain ⟨X, hX⟩ : ∃ X, jescape r' = X := ⟨_, rfl⟩
          rw [hX] at hEsc hel hen hS
          replace hEsc := Lib.hid hEsc
          clear hX hci
          go_wp2_with fail
          refine hEsc.out.mono ?_
          rintro e w3 ⟨hB3, hx⟩
          have hB3' := hB2.out.trans (hB3.mono hB2.out.size)
          have hO3 := hO2.out.but hB3 hlt
          have hE3 := hE2.out.but hB3
          clear hEsc hO2 hE2 hw2 hB2
          rcases X with _ | ⟨t, r2⟩
          · dsimp only at hx hS
            subst hx
            subst hS
            exact ⟨rfl, hB3', rfl⟩
          · dsimp only at hx hS
            obtain ⟨rfl, hR3⟩ := hx
            obtain ⟨hl1, hl2⟩ := hel rfl
            have hne := hen rfl
            have hws := wStr_any bb acc (ofL t) w3 hO3.1 (by rw [size_ofL]; simp at hln; omega)
            rw [toList_ofL] at hws
            replace hws := Lib.hid hws
            clear hB3 hel hen
            replace hB3' := Lib.hid hB3'
            replace hO3 := Lib.hid hO3
            replace hE3 := Lib.hid hE3
            replace hR3 := Lib.hid hR3
            go_wp2_with fail
            refine hws.out.mono ?_
            rintro e w4 ⟨rfl, hW4⟩
            obtain ⟨hO4, hb4⟩ := hO3.out.wr hW4 (by simp [hne])
            have hI4 : TxtI b it w.heap.size bb w R w4 := ⟨acc ++ t, r2, hO4, hR3.out.bel hb4 hlt, hB3'.out.trans (But.of hb4), hE3.out.bel hb4 hlt, hS, by rw [List.length_append]; simp at hln; omega⟩
            have hm4 : lenAt w4 b < lenAt wr b := by rw [lenAt_of (hR3.out.bel hb4 hlt), hm]; simp; omega
            clear hws hB3' hO3 hE3 hR3 hW4 hO4 hb4 hS hm
            replace hI4 := Lib.hid hI4
            replace hm4 := Lib.hid hm4
            go_wp2_with fail
            go_roundw
            case rel => exact hI4.out
            case measure => exact hm4.out
        · have n92 : (ci == 92) = false := by
            rw [← hci]
            have : c.toNat ≠ 92 := fun e => c92 (UInt8.toNat_inj.1 e)
            simpa using (by omega : (c.toNat : Int) ≠ 92)
          rw [jStr_else _ _ _ c34 c92 c32] at hS
          have hws := Lib.hid (wByte_any bb acc c ci hci.symm _ hO2.out.1 (by simp at hln; omega))
          clear hci
          go_wp2_with fail
          refine hws.out.mono ?_
          rintro e w4 ⟨rfl, hW4⟩
          obtain ⟨hO4, hb4⟩ := hO2.out.wr hW4 (by simp)
          have hI4 : TxtI b it w.heap.size bb w R w4 := ⟨acc ++ [c], r', hO4, hw2.out.bel hb4 hlt, hB2.out.trans (But.of hb4), hE2.out.bel hb4 hlt, hS, by rw [List.length_append]; simp at hln ⊢; omega⟩
          have hm4 : lenAt w4 b < lenAt wr b := by rw [lenAt_of (hw2.out.bel hb4 hlt), hm]; simp
          clear hws hB2 hO2 hE2 hw2 hW4 hO4 hb4 hS hm
          replace hI4 := Lib.hid hI4
          replace hm4 := Lib.hid hm4
          go_wp2_with fail
          go_roundw
          case rel => exact hI4.out
          case measure => exact hm4.out
  · rw [jtxt_no hpre]
    simp only [if_neg hpre] at hM
    replace hM := Lib.hid hM
    clear h hpre hx2 hE
    go_enter Tryz.func134, Tryz.ntmps134
    go_wp2_with fail
    refine hM.out.mono ?_
    rintro e w4 ⟨hB4, rfl⟩
    exact ⟨rfl, hB4, rfl⟩
end Go.Proofs.YtamcbgkppgdniaaGreatDoor
