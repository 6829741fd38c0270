/-
  The walk of the document's JSON reader: a String.
-/
import Derived.Test.YtamcbgkppgdniaaGreatDoorRjb
import Derived.Deep.RegionLaw
import Derived.Test.YtamcbgkppgdniaaGreatDoorJms
import Derived.Test.YtamcbgkppgdniaaGreatDoorJsLa
import Derived.Deep.RegionHeld3
import Derived.Test.YtamcbgkppgdniaaGreatDoorRfa
import Derived.Test.YtamcbgkppgdniaaGreatDoorJna
import Derived.Test.YtamcbgkppgdniaaGreatDoorJnb
namespace Go.Proofs.YtamcbgkppgdniaaGreatDoor
open Go.RowKit

theorem RowB.nil (w : World) (B : Nat) : RowB w B (.slice none 0 0) [] := World.ownsRow_nil _ _ _ _
theorem convert_nil (w : World) : (convert 127 9 (.slice none 0 0)).run Tryz.prog w = .ok (.string ⟨#[]⟩) w := by kernel_rfl
/-- A row of bytes as a text. -/
theorem row_convert0 {w : World} {B : Nat} {v : Value} {l : List UInt8} (h : RowB w B v l) : (convert 127 9 v).run Tryz.prog w = .ok (.string (ofL l)) w := by
  by_cases hne : l = []
  · subst hne
    obtain ⟨_, ⟨rfl, _⟩ | ⟨g, cap, cur, rfl, hg, hh, hnc, hcm, hcs, htk⟩⟩ := h
    · exact convert_nil w
    · exact Lib.run_convert_whole (P := Tryz.prog) w 127 5 9 Tryz.underlying127 Tryz.underlying5 Tryz.underlying9 g 0 ⟨#[]⟩ (fun i hi => absurd hi (Nat.not_lt_zero _)) cap
  · exact row_convert h hne
theorem RowB.but {w w' : World} {B b : Nat} {v : Value} {l : List UInt8} (h : RowB w B v l) (hb : But w.heap.size b w w') (hlt : b < B) : RowB w' B v l :=
  ownRow_keep h fun g hg => by
    have := World.ownsRow.lt h g hg
    exact hb.block g this.2 (by omega)
def RStrEnd (b at' it : Nat) (S : ByteArray) (w : World) (R : Option (List UInt8 × List UInt8)) (en : Ending) (w' : World) : Prop :=
  But w.heap.size b w w' ∧ ∃ (t : ByteArray) (k : Nat), en = .returned (.string t) ∧ at' ≤ k ∧ k ≤ S.size ∧ t.size ≤ 4 * S.size ∧ (match R with
    | some (t', r) => RK w' b S k it 0 ∧ t = ofL t' ∧ rest S k = r
    | none => RK w' b S k it 4)
/-- What a round knows. -/
def StrI (b at' it : Nat) (S : ByteArray) (w : World) (R : Option (List UInt8 × List UInt8)) (v : Value) (wr : World) : Prop :=
  But w.heap.size b w wr ∧ ∃ (acc : List UInt8) (k : Nat) (e : Int), RK wr b S k it e ∧ at' ≤ k ∧ k ≤ S.size ∧ RowB wr w.heap.size v acc ∧ acc.length ≤ 4 * k ∧ ((e = 0 ∧ jStr Lib.validD acc (rest S k) = R) ∨ (e = 4 ∧ R = none))
set_option maxRecDepth 100000 in
set_option maxHeartbeats 8000000 in
theorem rrStr_any (b at' it : Nat) (S : ByteArray) (w : World) (h : RK w b S at' it 0) (ha : at' ≤ S.size) (hS : S.size ≤ 200000) :
    Calls Tryz.prog 143 #[.pointer (some ⟨b, 0, none⟩)] w (RStrEnd b at' it S w (jtxt (rest S at'))) := by
  obtain ⟨i0, hi0, hz0, hz1, hz2⟩ := info_parts infoB
  have hlt0 := h.lt
  have hTk := rrTake_any b at' it S ⟨#[34]⟩ 0 w h ha (by omega) (by decide)
  have hpl : (⟨#[34]⟩ : ByteArray).data.toList = [34] := rfl
  have hps : (⟨#[34]⟩ : ByteArray).size = 1 := rfl
  rw [hpl, hps] at hTk
  by_cases hpre : ([34] : List UInt8).isPrefixOf (rest S at') = true
  · rw [show (decide ((0 : Int) = 0) && ([34] : List UInt8).isPrefixOf (rest S at')) = true by simp [hpre], if_pos rfl] at hTk
    obtain ⟨r, hr⟩ := pre_cons hpre
    have hat : at' < S.size := by
      rcases Nat.lt_or_ge at' S.size with h | h
      · exact h
      · rw [rest_nil (by omega)] at hr; cases hr
    have hr1 : rest S (at' + 1) = r := by
      rw [rest_cons hat] at hr
      injection hr
    rw [hr]
    have e1 : jtxt (34 :: r) = jStr Lib.validD [] r := rfl
    rw [e1]
    obtain ⟨R, hR⟩ : ∃ R, jStr Lib.validD [] r = R := ⟨_, rfl⟩
    rw [hR]
    rw [← hr1] at hR
    replace hTk := Lib.hid hTk
    clear h hpre hpl hps e1 hr hr1
    go_enter Tryz.func143, Tryz.ntmps143
    go_wp2_with fail
    refine hTk.out.mono ?_
    rintro en v1 ⟨rfl, hb1, hk1⟩
    have hI0 : StrI b (at' + 1) it S w R (.slice none 0 0) v1 := ⟨hb1, [], at' + 1, 0, hk1, Nat.le_refl _, by omega, RowB.nil _ _, by simp, .inl ⟨rfl, hR⟩⟩
    replace hI0 := Lib.hid hI0
    clear hTk hb1 hk1 hR
    go_wp2_with fail
    go_loopw [3] (fun v wr => StrI b (at' + 1) it S w R v wr) (fun _ wr => lenR wr b)
    case atStart => exact hI0.out
    case round =>
      obtain ⟨v, hvu⟩ : ∃ v, v = u3 := ⟨_, rfl⟩
      subst hvu
      obtain ⟨hB, acc, k, e, hk, hka, hkb, hrow, hal, he⟩ := hrel
      clear hI0
      have hlt := hk.lt
      have hBw := hB.size
      have hmm := lenR_of hk
      rcases he with ⟨rfl, hj⟩ | ⟨rfl, rfl⟩
      · have hT1 := fun (W : World) (hb : But wr.heap.size b wr W) (hk : RK W b S k it 0) => rrTake_any b k it S ⟨#[34]⟩ 0 W hk hkb (by omega) (by decide)
        have hT2 := fun (W : World) (hk : RK W b S k it 0) => rrTake_any b k it S ⟨#[92]⟩ 0 W hk hkb (by omega) (by decide)
        have hpl : (⟨#[34]⟩ : ByteArray).data.toList = [34] := rfl
        have hps : (⟨#[34]⟩ : ByteArray).size = 1 := rfl
        have hpl2 : (⟨#[92]⟩ : ByteArray).data.toList = [92] := rfl
        have hps2 : (⟨#[92]⟩ : ByteArray).size = 1 := rfl
        rw [hpl, hps] at hT1
        rw [hpl2, hps2] at hT2
        rw [if_pos rfl] at hmm
        obtain ⟨p0, p1, p2, p3⟩ := hk.cells
        have hkz := hk
        by_cases hks : k < S.size
        · have hrc := rest_cons hks
          obtain ⟨c, hc⟩ : ∃ c, S[k] = c := ⟨_, rfl⟩
          rw [hc] at hrc
          rw [hrc] at hj hT1 hT2
          have hp34 := pre_eq 34 c (rest S (k + 1))
          have hp92 := pre_eq 92 c (rest S (k + 1))
          replace hkz := Lib.hid hkz
          replace hB := Lib.hid hB
          replace hrow := Lib.hid hrow
          replace hmm := Lib.hid hmm
          clear hk hpl hps hpl2 hps2
          by_cases c34 : c = 34
          · subst c34
            rw [jStr_quote] at hj
            have ht := hT1 wr (But.refl _ _ _) hkz.out
            rw [show (decide ((0 : Int) = 0) && ([34] : List UInt8).isPrefixOf (34 :: rest S (k + 1))) = true by simp [hp34.2 rfl], if_pos rfl] at ht
            have hcv := fun (W : World) (hb : But wr.heap.size b wr W) => row_convert0 (hrow.out.but hb hlt0)
            have hv := fun (W : World) => refValid_any (ofL acc) W (by rw [size_ofL]; omega)
            rw [toList_ofL] at hv
            obtain ⟨V, hV⟩ : ∃ V, Lib.validD acc = V := ⟨_, rfl⟩
            rw [hV] at hv hj
            have hsz := size_ofL acc
            obtain ⟨T, hTT⟩ : ∃ T, ofL acc = T := ⟨_, rfl⟩
            rw [hTT] at hv hsz
            have hcv2 : ∀ (W : World), But wr.heap.size b wr W → (convert 127 9 v).run Tryz.prog W = .ok (.string T) W := fun W hb => by rw [← hTT]; exact hcv W hb
            replace hcv2 := Lib.hid hcv2
            replace ht := Lib.hid ht
            replace hv := Lib.hid hv
            replace hTT := Lib.hid hTT
            clear hT1 hT2 hp34 hp92 hcv hV
            go_wp2_with fail
            refine ht.out.mono ?_
            rintro en v2 ⟨rfl, hb2, hk2⟩
            have hc2 := hcv2.out _ hb2
            have hB2 := Lib.hid (hB.out.trans (hb2.mono hBw))
            replace hb2 := Lib.hid hb2
            clear ht p0 p1 p2 p3 hB
            cases V
            · rw [if_neg (by decide)] at hj
              subst hj
              replace hk2 := Lib.hid hk2
              go_wp2_with fail
              refine (hv.out _).mono ?_
              rintro en v3 ⟨rfl, hb3⟩
              have hk3 := hk2.out.below hb3
              have hfa := Lib.hid (rrFail0_any b (k + 1) it S 4 v3 hk3)
              have hB3 := Lib.hid (hB2.out.trans (But.of (hb3.mono hB2.out.size)))
              have hbb3 := Lib.hid (hb2.out.trans (But.of (hb3.mono hb2.out.size)))
              clear hc2 hv hk2 hb3 hk3 hB2 hb2
              go_wp2_with fail
              refine hfa.out.mono ?_
              rintro en v4 ⟨rfl, hb4, hk4⟩
              have hc4 := hcv2.out _ (hbb3.out.trans (hb4.mono hbb3.out.size))
              have hB4 := Lib.hid (hB3.out.trans (hb4.mono hB3.out.size))
              replace hk4 := Lib.hid hk4
              clear hfa hb4 hB3 hbb3 hcv2
              go_wp2_with fail
              go_ret
              exact ⟨hB4.out, T, k + 1, rfl, by omega, by omega, by omega, hk4.out⟩
            · rw [if_pos rfl] at hj
              subst hj
              replace hk2 := Lib.hid hk2
              go_wp2_with fail
              refine (hv.out _).mono ?_
              rintro en v3 ⟨rfl, hb3⟩
              have hk3 := Lib.hid (hk2.out.below hb3)
              have hB3 := Lib.hid (hB2.out.trans (But.of (hb3.mono hB2.out.size)))
              have hc3 := hcv2.out _ (hb2.out.trans (But.of (hb3.mono hb2.out.size)))
              clear hc2 hv hk2 hb3 hB2 hb2 hcv2
              go_wp2_with fail
              go_ret
              exact ⟨hB3.out, T, k + 1, rfl, by omega, by omega, by omega, hk3.out, hTT.out.symm, rfl⟩
          · have hn34 : ¬ ([34] : List UInt8).isPrefixOf (c :: rest S (k + 1)) = true := fun h => c34 (hp34.1 h)
            have ht := hT1 wr (But.refl _ _ _) hkz.out
            rw [show (decide ((0 : Int) = 0) && ([34] : List UInt8).isPrefixOf (c :: rest S (k + 1))) = false by simp [hn34], if_neg (by decide)] at ht
            replace ht := Lib.hid ht
            clear hT1 hp34 hn34
            by_cases c92 : c = 92
            · subst c92
              rw [jStr_esc] at hj
              rw [show (decide ((0 : Int) = 0) && ([92] : List UInt8).isPrefixOf (92 :: rest S (k + 1))) = true by simp [hp92.2 rfl], if_pos rfl] at hT2
              have hEs := fun (W : World) (hk : RK W b S (k + 1) it 0) => rrEscape_any b (k + 1) it S W hk (by omega) (by omega)
              obtain ⟨X, hX⟩ : ∃ X, jescape (rest S (k + 1)) = X := ⟨_, rfl⟩
              rw [hX] at hEs hj
              replace hT2 := Lib.hid hT2
              replace hEs := Lib.hid hEs
              clear hp92 hX p0 p1 p2
              go_wp2_with fail
              refine ht.out.mono ?_
              rintro en v2 ⟨rfl, hb2, hk2⟩
              have ht3 := Lib.hid (hT2.out _ hk2)
              have hB2 := Lib.hid (hB.out.trans (hb2.mono hBw))
              have hr2 := Lib.hid (hrow.out.but hb2 hlt0)
              clear ht hT2 hk2 hb2 hB hrow p3
              go_wp2_with fail
              refine ht3.out.mono ?_
              rintro en v3 ⟨rfl, hb3, hk3⟩
              have hE3 := Lib.hid (hEs.out _ hk3)
              have hB3 := Lib.hid (hB2.out.trans (hb3.mono hB2.out.size))
              have hr3 := Lib.hid (hr2.out.but hb3 hlt0)
              clear ht3 hEs hk3 hb3 hB2 hr2
              go_wp2_with fail
              refine hE3.out.mono ?_
              rintro en v4 ⟨hb4, t, k4, rfl, hk4a, hk4b, htl, hk4⟩
              have hB4 := hB3.out.trans (hb4.mono hB3.out.size)
              have hr4 := hr3.out.but hb4 hlt0
              have hsz4 := hB4.size
              have htz := size_ofL t
              obtain ⟨T, hTT⟩ : ∃ T, ofL t = T := ⟨_, rfl⟩
              have hTl : T.data.toList = t := by rw [← hTT]; exact toList_ofL t
              rw [hTT] at htz
              replace hk4 := Lib.hid hk4
              replace hj := Lib.hid hj
              replace hB4 := Lib.hid hB4
              rw [hTT]
              clear hE3 hB3 hr3 hb4 hTT
              go_wp2_with (at_builtin; refine Lib.wpList_append_own_string _ rfl _ _ 127 9 rfl w.heap.size 5 i0 Tryz.underlying127 Tryz.underlying9 hi0 hz0 hz1 hz2 _ _ _ rfl hr4 T rfl (by unfold maxLen; omega) (by omega) hsz4 ?_; intro v' w5 hown hgr _)
              have hR5 := RowB.snoc hown
              rw [hTl] at hR5
              have hvb : ∀ k, v.ownBlock = some k → w.heap.size ≤ k := fun k hk => (World.ownsRow.lt hr4 k hk).1
              have hB5 := hB4.out.grown hgr hsz4 hvb
              have hkr : ∀ e, RK v4 b S k4 it e → RK w5 b S k4 it e := fun e hk => (hgr.block b hk.lt (fun h' => by have := hvb b h'.symm; omega)).trans hk
              have hal5 : (acc ++ t).length ≤ 4 * k4 := by rw [List.length_append]; omega
              have hfin : StrI b (at' + 1) it S w R v' w5 ∧ lenR w5 b < lenR wr b := by
                rw [hmm.out]
                rcases X with _ | ⟨t', r'⟩
                · have hj' := hj.out
                  dsimp only at hj'
                  have hk5 := hkr 4 hk4.out
                  refine ⟨⟨hB5, acc ++ t, k4, 4, hk5, by omega, hk4b, hR5, hal5, .inr ⟨rfl, hj'.symm⟩⟩, ?_⟩
                  rw [lenR_of hk5, if_neg (by decide)]; omega
                · have hj' := hj.out
                  dsimp only at hj'
                  obtain ⟨hk4', rfl, hr'⟩ := hk4.out
                  have hk5 := hkr 0 hk4'
                  refine ⟨⟨hB5, acc ++ t, k4, 0, hk5, by omega, hk4b, hR5, hal5, .inl ⟨rfl, by rw [hr']; exact hj'⟩⟩, ?_⟩
                  rw [lenR_of hk5, if_pos rfl]; omega
              replace hfin := Lib.hid hfin
              clear hown hgr hR5 hvb hB5 hkr hr4 hk4 hj hB4 hmm
              go_wp2_with fail
              go_roundw
              case rel => exact hfin.out.1
              case measure => exact hfin.out.2
            · have hn92 : ¬ ([92] : List UInt8).isPrefixOf (c :: rest S (k + 1)) = true := fun h => c92 (hp92.1 h)
              rw [show (decide ((0 : Int) = 0) && ([92] : List UInt8).isPrefixOf (c :: rest S (k + 1))) = false by simp [hn92], if_neg (by decide)] at hT2
              have hM := fun (W : World) (hk : RK W b S k it 0) => rrMore_any b k it S 0 W hk
              rw [show (decide ((0 : Int) = 0) && decide (k < S.size)) = true by simp [hks]] at hM
              have hN := fun (W : World) (hk : RK W b S k it 0) => rrNext_any b k it S 0 W hk
              rw [nextI_cons hks, hc] at hN
              have hbd := c.toNat_lt
              obtain ⟨ci, hci⟩ : ∃ ci : Int, (c.toNat : Int) = ci := ⟨_, rfl⟩
              rw [hci] at hN
              have hci0 : (0 : Int) ≤ ci := by omega
              have hci1 : ci < 256 := by omega
              have hcS : (S[k].toNat : Int) = ci := by rw [hc]; exact hci
              replace hT2 := Lib.hid hT2
              replace hM := Lib.hid hM
              replace hN := Lib.hid hN
              clear hp92 hn92 p0 p1 p2
              by_cases c32 : c.toNat < 32
              · rw [jStr_low _ _ _ c32] at hj
                subst hj
                have d32 : ci < 32 := by omega
                clear hci hcS hbd c32 hc
                go_wp2_with fail
                refine ht.out.mono ?_
                rintro en v2 ⟨rfl, hb2, hk2⟩
                have ht3 := Lib.hid (hT2.out _ hk2)
                have hB2 := Lib.hid (hB.out.trans (hb2.mono hBw))
                clear ht hT2 hk2 hb2 hB hrow p3
                go_wp2_with fail
                refine ht3.out.mono ?_
                rintro en v3 ⟨rfl, hb3, hk3⟩
                have hM3 := Lib.hid (hM.out _ hk3)
                have hB3 := Lib.hid (hB2.out.trans (hb3.mono hB2.out.size))
                replace hk3 := Lib.hid hk3
                clear ht3 hM hb3 hB2
                go_wp2_with fail
                refine hM3.out.mono ?_
                rintro en v4 ⟨rfl, hb4⟩
                have hk4 := hk3.out.below hb4
                have hN4 := Lib.hid (hN.out _ hk4)
                have hB4 := Lib.hid (hB3.out.trans (But.of (hb4.mono hB3.out.size)))
                replace hk4 := Lib.hid hk4
                clear hM3 hN hk3 hb4 hB3
                go_wp2_with fail
                refine hN4.out.mono ?_
                rintro en v5 ⟨rfl, hb5⟩
                have hk5 := hk4.out.below hb5
                have hfa := Lib.hid (rrFail0_any b k it S 4 v5 hk5)
                have hB5 := Lib.hid (hB4.out.trans (But.of (hb5.mono hB4.out.size)))
                clear hN4 hk4 hb5 hB4 hk5
                go_wp2_with fail
                refine hfa.out.mono ?_
                rintro en v6 ⟨rfl, hb6, hk6⟩
                replace hk6 := Lib.hid hk6
                have hB6 := Lib.hid (hB5.out.trans (hb6.mono hB5.out.size))
                clear hfa hb6 hB5
                go_wp2_with fail
                go_ret
                exact ⟨hB6.out, ⟨#[]⟩, k, rfl, by omega, hkb, Nat.zero_le _, hk6.out⟩
              · rw [jStr_else _ _ _ c34 c92 c32] at hj
                have d32 : ¬ ci < 32 := by omega
                have hki : (k : Int) < (S.size : Int) := by omega
                have hk0 : (0 : Int) ≤ (k : Int) := by omega
                have hkb2 : (k : Int) ≤ 1000000 := by omega
                clear hbd c32 hc
                replace hj := Lib.hid hj
                replace hci := Lib.hid hci
                go_wp2_with fail
                refine ht.out.mono ?_
                rintro en v2 ⟨rfl, hb2, hk2⟩
                have ht3 := Lib.hid (hT2.out _ hk2)
                have hB2 := Lib.hid (hB.out.trans (hb2.mono hBw))
                have hr2 := Lib.hid (hrow.out.but hb2 hlt0)
                clear ht hT2 hk2 hb2 hB hrow p3
                go_wp2_with fail
                refine ht3.out.mono ?_
                rintro en v3 ⟨rfl, hb3, hk3⟩
                have hM3 := Lib.hid (hM.out _ hk3)
                have hB3 := Lib.hid (hB2.out.trans (hb3.mono hB2.out.size))
                have hr3 := Lib.hid (hr2.out.but hb3 hlt0)
                replace hk3 := Lib.hid hk3
                clear ht3 hM hb3 hB2 hr2
                go_wp2_with fail
                refine hM3.out.mono ?_
                rintro en v4 ⟨rfl, hb4⟩
                have hk4 := hk3.out.below hb4
                have hN4 := Lib.hid (hN.out _ hk4)
                have hB4 := Lib.hid (hB3.out.trans (But.of (hb4.mono hB3.out.size)))
                have hr4 := Lib.hid (hr3.out.below hb4)
                replace hk4 := Lib.hid hk4
                clear hM3 hN hk3 hb4 hB3 hr3
                go_wp2_with fail
                refine hN4.out.mono ?_
                rintro en v5 ⟨rfl, hb5⟩
                have hk5 := hk4.out.below hb5
                have hB5 := hB4.out.trans (But.of (hb5.mono hB4.out.size))
                have hr5 := hr4.out.below hb5
                have hsz5 := hB5.size
                obtain ⟨p0, p1, p2, p3⟩ := hk5.cells
                have hdr : Below v5.heap.size v5 v5.drew := ⟨rfl, rfl, rfl, Nat.le_refl _, fun _ _ => rfl⟩
                have hr5d := hr5.below hdr
                obtain ⟨v', w6, hrun, hown, hgr, _⟩ := run_append_own_at (P := Tryz.prog) (v5.drew.alloc (.cells #[.int .u8 ci] 5)) w.heap.size 127 127 5 i0 _ 1 1 Tryz.underlying127 hi0 hz0 hz1 hz2 rfl (by decide) v acc.length _ (World.ownsRow.alloc hr5d _) ⟨v5.heap.size, 0, none⟩ 1 1 [.int .u8 ci] rfl (cell_one _ _ _) (fun x hx => by simp at hx; subst hx; rfl) (by unfold maxLen; omega) (by omega) (by simp; omega)
                have hR6 := RowB.snoc1 (u := c) hci.out.symm hown
                have hvb : ∀ k, v.ownBlock = some k → w.heap.size ≤ k := fun k hk => (World.ownsRow.lt hr5 k hk).1
                have hB6 := (((hB5.trans (But.of (hdr.mono hsz5))).alloc hsz5 (.cells #[.int .u8 ci] 5))).grown hgr (by simp; omega) hvb
                have hk6 : RK w6 b S k it 0 := by
                  have h1 : RK (v5.drew.alloc (.cells #[.int .u8 ci] 5)) b S k it 0 := hk5.below (hdr.trans ((Below.refl v5.heap.size v5.drew).alloc (show v5.heap.size ≤ v5.drew.heap.size from Nat.le_refl _) _))
                  exact (hgr.block b h1.lt (fun h' => by have := hvb b h'.symm; omega)).trans h1
                have hk7 := hk6.adv
                have hfin : StrI b (at' + 1) it S w R v' (w6.setCell ⟨b, 1, none⟩ (.int .i64 ((k : Int) + 1))) := ⟨hB6.set 1 _, acc ++ [c], k + 1, 0, hk7, by omega, by omega, by
                    refine ownRow_keep hR6 fun g hg => Below.heap_setCell w6 ⟨b, 1, none⟩ _ g ?_
                    have := World.ownsRow.lt hR6 g hg
                    show g ≠ b
                    omega, by rw [List.length_append]; simp; omega, .inl ⟨rfl, hj.out⟩⟩
                have hm7 : lenR (w6.setCell ⟨b, 1, none⟩ (.int .i64 ((k : Int) + 1))) b < lenR wr b := by
                  rw [lenR_of hk7, if_pos rfl, hmm.out]; omega
                have p61 : w6.cell? ⟨b, 1, none⟩ = some (.int .i64 (k : Int)) := hk6.cells.2.1
                have f61 : w6.frozen? ⟨b, 1, none⟩ = false := Cel.froz hk6 1
                replace hfin := Lib.hid hfin
                replace hm7 := Lib.hid hm7
                replace hrun := Lib.hid hrun
                replace p61 := Lib.hid p61
                clear hN4 hk4 hb5 hB4 hr4 hown hgr hR6 hvb hB6 hk6 hk7 hr5d hr5 hB5 hk5 hj hmm hci hdr
                go_wp2_with fail
                go_region_law (refine jl_step_run (by rfl) (.tmp 40) (.tmp 50) 127 127 (by rfl) v (.slice (some ⟨v5.heap.size, 0, none⟩) 1 1) _ w6 (by rfl) (by rfl) hrun.out ?_)
                all_goals
                  clear p0 p1 p2 p3
                  have q1 := p61.out
                  go_wp2_with fail
                  go_roundw
                  case rel => exact hfin.out
                  case measure => exact hm7.out
        · have hrn := rest_nil hks
          rw [hrn] at hj hT1 hT2
          rw [jStr_nil] at hj
          subst hj
          have ht := hT1 wr (But.refl _ _ _) hk
          have hM := fun (W : World) (hk : RK W b S k it 0) => rrMore_any b k it S 0 W hk
          rw [show (decide ((0 : Int) = 0) && decide (k < S.size)) = false by simp [hks]] at hM
          rw [show (decide ((0 : Int) = 0) && ([34] : List UInt8).isPrefixOf []) = false by rfl, if_neg (by decide)] at ht
          rw [show (decide ((0 : Int) = 0) && ([92] : List UInt8).isPrefixOf []) = false by rfl, if_neg (by decide)] at hT2
          replace hB := Lib.hid hB
          replace ht := Lib.hid ht
          replace hT2 := Lib.hid hT2
          replace hM := Lib.hid hM
          clear hk hkz hrow hpl hps hpl2 hps2 hrn hT1 hmm p0 p1 p2
          go_wp2_with fail
          refine ht.out.mono ?_
          rintro en v2 ⟨rfl, hb2, hk2⟩
          have ht3 := Lib.hid (hT2.out _ hk2)
          have hB2 := Lib.hid (hB.out.trans (hb2.mono hBw))
          clear ht hT2 hk2 hb2 hB p3
          go_wp2_with fail
          refine ht3.out.mono ?_
          rintro en v3 ⟨rfl, hb3, hk3⟩
          have hM3 := Lib.hid (hM.out _ hk3)
          have hB3 := Lib.hid (hB2.out.trans (hb3.mono hB2.out.size))
          replace hk3 := Lib.hid hk3
          clear ht3 hM hb3 hB2
          go_wp2_with fail
          refine hM3.out.mono ?_
          rintro en v4 ⟨rfl, hb4⟩
          have hk4 := hk3.out.below hb4
          have hfa := Lib.hid (rrFail0_any b k it S 4 v4 hk4)
          have hB4 := Lib.hid (hB3.out.trans (But.of (hb4.mono hB3.out.size)))
          clear hM3 hk3 hb4 hB3 hk4
          go_wp2_with fail
          refine hfa.out.mono ?_
          rintro en v6 ⟨rfl, hb6, hk6⟩
          replace hk6 := Lib.hid hk6
          have hB6 := Lib.hid (hB4.out.trans (hb6.mono hB4.out.size))
          clear hfa hb6 hB4
          go_wp2_with fail
          go_ret
          exact ⟨hB6.out, ⟨#[]⟩, k, rfl, by omega, hkb, Nat.zero_le _, hk6.out⟩
      · obtain ⟨p0, p1, p2, p3⟩ := hk.cells
        replace hk := Lib.hid hk
        replace hB := Lib.hid hB
        clear hrow hmm p0 p1 p2
        go_wp2_with fail
        go_ret
        exact ⟨hB.out, ⟨#[]⟩, k, rfl, by omega, hkb, Nat.zero_le _, hk.out⟩
  · rw [show (decide ((0 : Int) = 0) && ([34] : List UInt8).isPrefixOf (rest S at')) = false by simp [hpre], if_neg (by decide)] at hTk
    rw [jtxt_no hpre]
    replace hTk := Lib.hid hTk
    clear h hpre hpl hps
    go_enter Tryz.func143, Tryz.ntmps143
    go_wp2_with fail
    refine hTk.out.mono ?_
    rintro en v1 ⟨rfl, hb1, hk1⟩
    have hfa := Lib.hid (rrFail0_any b at' it S 4 v1 hk1)
    replace hb1 := Lib.hid hb1
    clear hTk hk1
    go_wp2_with fail
    refine hfa.out.mono ?_
    rintro en v2 ⟨rfl, hb2, hk2⟩
    have hB2 := Lib.hid (hb1.out.trans (hb2.mono hb1.out.size))
    obtain ⟨p0, p1, p2, p3⟩ := hk2.cells
    replace hk2 := Lib.hid hk2
    clear hfa hb1 hb2 p0 p1 p2
    go_wp2_with fail
    refine wp_loop_rounds 1 ?_
    rw [rounds_succ]
    go_wp2_with fail
    go_ret
    exact ⟨hB2.out, ⟨#[]⟩, at', rfl, Nat.le_refl _, ha, Nat.zero_le _, hk2.out⟩
end Go.Proofs.YtamcbgkppgdniaaGreatDoor


/-
  The walk of the document's JSON reader: a number.
-/
namespace Go.Proofs.YtamcbgkppgdniaaGreatDoor
open Go.RowKit

theorem refOwnS_any : OwnSaysS 161 ownL := fun s w hs => (refOwn_any s w hs).mono fun e w' h => by
  obtain ⟨g, hg, h1, h2⟩ := h
  refine ⟨?_, h2⟩
  rw [h1, ← hg]
def RNumEnd (b at' it : Nat) (S : ByteArray) (w : World) (s : List UInt8) (r : List UInt8 × Int) (en : Ending) (w' : World) : Prop :=
  But w.heap.size b w w' ∧ ∃ k : Nat, en = .returned (.agg #[.int .u8 4, .string (ofL r.1), .slice none 0 0, .slice none 0 0]) ∧ at' ≤ k ∧ k ≤ S.size ∧ rest S k = s ∧ RK w' b S k it r.2
theorem jnumc_cases (c : UInt8) (ci : Int) (h : (c.toNat : Int) = ci) : (ci = 43 ∧ jnumc c = true) ∨ (ci = 45 ∧ jnumc c = true) ∨ (ci = 46 ∧ jnumc c = true) ∨ (48 ≤ ci ∧ ci ≤ 57 ∧ jnumc c = true) ∨ (ci = 69 ∧ jnumc c = true) ∨ (ci = 101 ∧ jnumc c = true) ∨
    (ci < 48 ∧ ci ≠ 43 ∧ ci ≠ 45 ∧ ci ≠ 46 ∧ jnumc c = false) ∨ (57 < ci ∧ ci ≠ 69 ∧ ci ≠ 101 ∧ jnumc c = false) := by
  subst h
  have key : ∀ n : Fin 256, ((n.val : Int) = 43 ∧ jnumc (UInt8.ofNat n.val) = true) ∨ ((n.val : Int) = 45 ∧ jnumc (UInt8.ofNat n.val) = true) ∨ ((n.val : Int) = 46 ∧ jnumc (UInt8.ofNat n.val) = true) ∨ (48 ≤ (n.val : Int) ∧ (n.val : Int) ≤ 57 ∧ jnumc (UInt8.ofNat n.val) = true) ∨ ((n.val : Int) = 69 ∧ jnumc (UInt8.ofNat n.val) = true) ∨ ((n.val : Int) = 101 ∧ jnumc (UInt8.ofNat n.val) = true) ∨
    ((n.val : Int) < 48 ∧ (n.val : Int) ≠ 43 ∧ (n.val : Int) ≠ 45 ∧ (n.val : Int) ≠ 46 ∧ jnumc (UInt8.ofNat n.val) = false) ∨ (57 < (n.val : Int) ∧ (n.val : Int) ≠ 69 ∧ (n.val : Int) ≠ 101 ∧ jnumc (UInt8.ofNat n.val) = false) := by decide +kernel
  have := key ⟨c.toNat, c.toNat_lt⟩
  rw [UInt8.ofNat_toNat] at this
  exact this
/-- On the way through a number: k is where the reader stands. -/
def NumI (b at' it : Nat) (S : ByteArray) (w : World) (D : List UInt8) (n : Nat) (k : Nat) (wr : World) : Prop :=
  But w.heap.size b w wr ∧ RK wr b S k it 0 ∧ Cel wr w.heap.size 25 #[.int .u8 0, .string ⟨#[]⟩, .slice none 0 0, .slice none 0 0] ∧ at' ≤ k ∧ k ≤ S.size ∧ (rest S k).dropWhile jnumc = D ∧ k + ((rest S k).takeWhile jnumc).length = n
theorem rest_take {S : ByteArray} {a k : Nat} (h : a ≤ k) (hk : k ≤ S.size) : (S.extract a k).data.toList = (rest S a).take (k - a) := by
  rw [Lib.extract_data]
  unfold rest
  simp
theorem take_to {S : ByteArray} {a k : Nat} {s : List UInt8} {p : UInt8 → Bool} (ha : a ≤ k) (hk : k ≤ S.size) (hs : rest S a = s) (hl : k = a + (s.takeWhile p).length) : S.extract a k = ofL (s.takeWhile p) := by
  refine jstr_ext ?_
  rw [toList_ofL, rest_take ha hk, hs, hl, Nat.add_sub_cancel_left]
  have h := List.takeWhile_append_dropWhile (p := p) (l := s)
  conv => lhs; arg 2; rw [← h]
  rw [List.take_append_of_le_length (Nat.le_refl _), List.take_length]
set_option maxRecDepth 100000 in
set_option maxHeartbeats 8000000 in
theorem rrNumber_any (b at' it : Nat) (S : ByteArray) (w : World) (h : RK w b S at' it 0) (ha : at' ≤ S.size) (hS : S.size ≤ 200000) :
    Calls Tryz.prog 145 #[.pointer (some ⟨b, 0, none⟩)] w (RNumEnd b at' it S w ((rest S at').dropWhile jnumc) (ownL ((rest S at').takeWhile jnumc))) := by
  have hlt0 := h.lt
  obtain ⟨D, hD⟩ : ∃ D, (rest S at').dropWhile jnumc = D := ⟨_, rfl⟩
  obtain ⟨n, hn⟩ : ∃ n, at' + ((rest S at').takeWhile jnumc).length = n := ⟨_, rfl⟩
  obtain ⟨Ro, hRo⟩ : ∃ Ro, ownL ((rest S at').takeWhile jnumc) = Ro := ⟨_, rfl⟩
  rw [hD, hRo]
  obtain ⟨p0, p1, p2, p3⟩ := h.cells
  obtain ⟨W0, hW0⟩ : ∃ W0, w.alloc (.cells #[.int .u8 0, .string ⟨#[]⟩, .slice none 0 0, .slice none 0 0] 25) = W0 := ⟨_, rfl⟩
  have hb0 : Below w.heap.size w W0 := by rw [← hW0]; exact (Below.refl _ _).alloc (Nat.le_refl _) _
  have hI0 : NumI b at' it S w D n at' W0 := ⟨But.of hb0, h.below hb0, by rw [← hW0]; exact Cel.fresh _ _ _, Nat.le_refl _, ha, hD, hn⟩
  have hext : ∀ k, at' ≤ k → k ≤ S.size → k = n → S.extract at' k = ofL ((rest S at').takeWhile jnumc) := fun k h1 h2 h3 => take_to h1 h2 rfl (by omega)
  have hTl : ((rest S at').takeWhile jnumc).length ≤ S.size := by
    have h1 := rest_len S at'
    have h2 := (List.takeWhile_sublist jnumc (l := rest S at')).length_le
    omega
  have hOw := fun (W : World) => refOwnS_any (ofL ((rest S at').takeWhile jnumc)) W (by rw [size_ofL]; omega)
  rw [toList_ofL, hRo] at hOw
  obtain ⟨ST, hST⟩ : ∃ ST, ofL ((rest S at').takeWhile jnumc) = ST := ⟨_, rfl⟩
  rw [hST] at hOw hext
  replace hW0 := Lib.hid hW0
  replace hI0 := Lib.hid hI0
  replace hext := Lib.hid hext
  replace hOw := Lib.hid hOw
  clear h hb0 hD hn hRo hST hTl p0 p2 p3
  go_enter Tryz.func145, Tryz.ntmps145
  go_upto_block 0 with (fail)
  rw [hW0.out]
  clear hW0 p1
  refine wp_cut (fun a' wc => ∃ (k : Nat) (u : Nat → Value), a' = ⟨#[.pointer (some ⟨b, 0, none⟩), u 1, .pointer (some ⟨w.heap.size, 0, none⟩), .int .i64 (at' : Int), u 4, u 5, u 6, u 7, u 8, u 9, u 10, u 11, u 12, u 13, u 14, u 15, u 16, u 17, u 18, u 19, u 20, u 21, u 22, u 23, u 24, u 25, u 26, u 27, u 28, u 29, u 30, u 31, u 32, u 33, u 34, u 35, u 36, u 37, u 38, u 39, u 40, u 41, u 42, u 43, u 44, u 45, u 46, u 47, u 48, u 49, u 50, u 51, u 52, u 53, u 54, u 55, u 56, u 57, u 58, u 59, u 60, u 61, u 62, u 63, u 64, u 65, u 66, u 67, u 68, u 69, u 70, u 71, u 72, u 73, u 74, u 75], []⟩ ∧ (NumI b at' it S w D n k wc ∧ rest S k = D ∧ k = n)) ?rest ?first
  case first =>
    intro J K' hJ hK'
    clear hext hOw
    go_wp2
    go_loopw [4] (fun _ wr => ∃ k, NumI b at' it S w D n k wr) (fun _ wr => lenR wr b)
    case atStart => exact ⟨at', hI0.out⟩
    case round =>
      obtain ⟨k, hI⟩ := hrel
      clear hI0
      have hk := hI.2.1
      have hmm := lenR_of hk
      rw [if_pos rfl] at hmm
      have hkb : (k : Int) ≤ 1000000 := by have := hI.2.2.2.2.1; omega
      have hk0 : (0 : Int) ≤ (k : Int) := by omega
      have hM := rrMore_any b k it S 0 wr hk
      have hstep : ∀ W, Below wr.heap.size wr W → NumI b at' it S w D n k W := fun W hb => by
        obtain ⟨h1, h2, h3, h4⟩ := hI
        exact ⟨h1.trans (But.of (hb.mono h1.size)), h2.below hb, h3.below hb h3.lt, h4⟩
      by_cases hks : k < S.size
      · rw [show (decide ((0 : Int) = 0) && decide (k < S.size)) = true by simp [hks]] at hM
        have hN := fun (W : World) (hb : Below wr.heap.size wr W) => (rrNext_any b k it S 0 W (hk.below hb)).mono (R' := fun en w' => en = .returned (.int .u8 (nextI 0 (rest S k))) ∧ Below wr.heap.size wr w') (fun en w' hx => ⟨hx.1, hb.trans (hx.2.mono hb.size)⟩)
        rw [nextI_cons hks] at hN
        have hrc := rest_cons hks
        obtain ⟨c, hc⟩ : ∃ c, S[k] = c := ⟨_, rfl⟩
        rw [hc] at hN hrc
        obtain ⟨ci, hci⟩ : ∃ ci : Int, (c.toNat : Int) = ci := ⟨_, rfl⟩
        have hcs := jnumc_cases c ci hci
        have hbd := c.toNat_lt
        have hci0 : (0 : Int) ≤ ci := by omega
        have hci1 : ci < 256 := by omega
        rw [hci] at hN
        have hgo : jnumc c = true → ∀ W, Below wr.heap.size wr W → NumI b at' it S w D n (k + 1) (W.setCell ⟨b, 1, none⟩ (.int .i64 ((k : Int) + 1))) ∧ lenR (W.setCell ⟨b, 1, none⟩ (.int .i64 ((k : Int) + 1))) b < lenR wr b := fun hj W hb => by
          obtain ⟨h1, h2, h3, h4, h5, h6, h7⟩ := hstep W hb
          rw [hrc, List.dropWhile_cons_of_pos hj] at h6
          rw [hrc, List.takeWhile_cons_of_pos hj, List.length_cons] at h7
          have h8 := h2.adv
          refine ⟨⟨h1.set 1 _, h8, ?_, by omega, by omega, h6, by omega⟩, ?_⟩
          · exact (Below.heap_setCell W ⟨b, 1, none⟩ _ _ (by show w.heap.size ≠ b; omega)).trans h3
          · rw [lenR_of h8, if_pos rfl, hmm]; omega
        have hno : jnumc c = false → ∀ W, Below wr.heap.size wr W → NumI b at' it S w D n k W ∧ rest S k = D ∧ k = n := fun hj W hb => by
          have h := hstep W hb
          obtain ⟨h1, h2, h3, h4, h5, h6, h7⟩ := id h
          rw [hrc, List.dropWhile_cons_of_neg (by rw [hj]; decide)] at h6
          rw [hrc, List.takeWhile_cons_of_neg (by rw [hj]; decide)] at h7
          exact ⟨h, by rw [hrc]; exact h6, by simpa using h7⟩
        replace hM := Lib.hid hM
        replace hN := Lib.hid hN
        replace hgo := Lib.hid hgo
        replace hno := Lib.hid hno
        have hcell : ∀ W, Below wr.heap.size wr W → W.cell? ⟨b, 1, none⟩ = some (.int .i64 (k : Int)) ∧ W.frozen? ⟨b, 1, none⟩ = false := fun W hb => ⟨(hk.below hb).cells.2.1, Cel.froz (hk.below hb) 1⟩
        replace hcell := Lib.hid hcell
        clear hstep hI hk hrc hmm hc hci hbd
        rcases hcs with ⟨rfl, hj⟩ | ⟨rfl, hj⟩ | ⟨rfl, hj⟩ | ⟨k1, k2, hj⟩ | ⟨rfl, hj⟩ | ⟨rfl, hj⟩ | ⟨k1, n1, n2, n3, hj⟩ | ⟨k1, n1, n2, hj⟩
        iterate 6
          · have hg := hgo.out hj
            replace hg := Lib.hid hg
            clear hgo hno hj
            go_wp2_with fail
            refine hM.out.mono ?_
            rintro en v1 ⟨rfl, hb1⟩
            have hN1 := Lib.hid (hN.out _ hb1)
            clear hM hN hb1
            go_wp2_with fail
            refine hN1.out.mono ?_
            rintro en v2 ⟨rfl, hb2⟩
            obtain ⟨q1, f1⟩ := hcell.out _ hb2
            have hfin := Lib.hid (hg.out _ hb2)
            clear hN1 hb2 hg hcell
            go_wp2_with fail
            go_roundw
            case rel => exact ⟨k + 1, hfin.out.1⟩
            case measure => exact hfin.out.2
        · have hg := hno.out hj
          have m0 : decide (48 ≤ ci) = false := decide_eq_false (by omega)
          have m1 : (ci != 43) = true := by simp [n1]
          have m2 : (ci != 45) = true := by simp [n2]
          have m3 : (ci != 46) = true := by simp [n3]
          have m4 : (ci != 101) = true := by simp; omega
          have m5 : (ci != 69) = true := by simp; omega
          replace hg := Lib.hid hg
          clear hgo hno hj n1 n2 n3 hcell
          go_wp2_with fail
          refine hM.out.mono ?_
          rintro en v1 ⟨rfl, hb1⟩
          have hN1 := Lib.hid (hN.out _ hb1)
          clear hM hN hb1
          go_wp2_with fail
          refine hN1.out.mono ?_
          rintro en v2 ⟨rfl, hb2⟩
          have hfin := Lib.hid (hg.out _ hb2)
          clear hN1 hb2 hg
          go_wp2_with fail
          refine Met.intro (hJ _ _ ?_)
          exact ⟨k, meetF (by kernel_rfl) hfin.out⟩
        · have hg := hno.out hj
          have k3 : 48 ≤ ci := by omega
          have m0 : decide (ci ≤ 57) = false := decide_eq_false (by omega)
          have m1 : (ci != 43) = true := by simp; omega
          have m2 : (ci != 45) = true := by simp; omega
          have m3 : (ci != 46) = true := by simp; omega
          have m4 : (ci != 101) = true := by simp [n2]
          have m5 : (ci != 69) = true := by simp [n1]
          replace hg := Lib.hid hg
          clear hgo hno hj n1 n2 hcell
          go_wp2_with fail
          refine hM.out.mono ?_
          rintro en v1 ⟨rfl, hb1⟩
          have hN1 := Lib.hid (hN.out _ hb1)
          clear hM hN hb1
          go_wp2_with fail
          refine hN1.out.mono ?_
          rintro en v2 ⟨rfl, hb2⟩
          have hfin := Lib.hid (hg.out _ hb2)
          clear hN1 hb2 hg
          go_wp2_with fail
          refine Met.intro (hJ _ _ ?_)
          exact ⟨k, meetF (by kernel_rfl) hfin.out⟩
      · rw [show (decide ((0 : Int) = 0) && decide (k < S.size)) = false by simp [hks]] at hM
        have hno : ∀ W, Below wr.heap.size wr W → NumI b at' it S w D n k W ∧ rest S k = D ∧ k = n := fun W hb => by
          have h := hstep W hb
          obtain ⟨h1, h2, h3, h4, h5, h6, h7⟩ := id h
          rw [rest_nil hks] at h6 h7 ⊢
          exact ⟨h, h6, by simpa using h7⟩
        replace hno := Lib.hid hno
        replace hM := Lib.hid hM
        clear hstep hI hk hmm
        go_wp2_with fail
        refine hM.out.mono ?_
        rintro en v1 ⟨rfl, hb1⟩
        have hfin := Lib.hid (hno.out _ hb1)
        clear hM hb1 hno
        go_wp2_with fail
        refine Met.intro (hJ _ _ ?_)
        exact ⟨k, meetF (by kernel_rfl) hfin.out⟩
  case rest =>
    clear hI0
    rintro a' w0 ⟨k, u, rfl, ⟨hB, hk, hC, hk1, hk2, hx, hy⟩, hD, hkn⟩
    clear hx hy
    have hx := hext.out k hk1 hk2 hkn
    clear hext
    obtain ⟨p0, p1, p2, p3⟩ := hk.cells
    have hlt := hk.lt
    have hkb : (k : Int) ≤ (S.size : Int) := by omega
    have hak : (at' : Int) ≤ (k : Int) := by omega
    have ha0 : (0 : Int) ≤ (at' : Int) := by omega
    have hSt : ∀ W, Below w0.heap.size w0 W → W.cell? ⟨b, 0, none⟩ = some (.string S) ∧ W.cell? ⟨b, 1, none⟩ = some (.int .i64 (k : Int)) ∧ Below w0.heap.size w0 W := fun W hb => ⟨(hk.below hb).cells.1, (hk.below hb).cells.2.1, hb⟩
    have hBw := hB.size
    replace hSt := Lib.hid hSt
    replace hB := Lib.hid hB
    replace hC := Lib.hid hC
    replace hk := Lib.hid hk
    replace hD := Lib.hid hD
    clear hkn p2
    go_wp2_with fail
    go_region_held3 (fun W => W.cell? ⟨b, 0, none⟩ = some (.string S) ∧ W.cell? ⟨b, 1, none⟩ = some (.int .i64 (k : Int)) ∧ Below w0.heap.size w0 W)
      (first | exact hSt.out _ (bel_drewN (Below.refl _ _) 1) | exact hSt.out _ hZ1)
      (first
        | (go_at_call 161; (with_reducible refine (hOw.out _).mono ?_); rintro e w1 ⟨rfl, hB1⟩; have hZ1 : Below w0.heap.size w0 w1 := (bel_drewN (Below.refl _ _) 1).trans hB1; clear hB1))
    all_goals
      have hk1 := hk.out.below hZ1
      have hC1 := hC.out.below hZ1 hC.out.lt
      have hB1 := hB.out.trans (But.of (hZ1.mono hBw))
      clear hSt p0 p1 p3 hB hC hk hZ1 hx hOw
      obtain ⟨r1, r2⟩ := Ro
      dsimp only
      by_cases hr : r2 = 0
      · subst hr
        have x0 := hC1.cell 0
        have x1 := hC1.cell 1
        have x2 := hC1.cell 2
        have x3 := hC1.cell 3
        have y0 := hC1.froz 0
        have y1 := hC1.froz 1
        have y2 := hC1.froz 2
        have y3 := hC1.froz 3
        simp only [List.getElem?_toArray, List.getElem?_cons_zero, List.getElem?_cons_succ] at x0 x1 x2 x3
        have hkz : RK (lay4 w1 w.heap.size 0 (.int .u8 4) (.string ⟨r1.toArray⟩) (.slice none 0 0) (.slice none 0 0)) b S k it 0 := (lay4_other w1 w.heap.size 0 _ _ _ _ (by omega)).trans hk1
        have hBz := lay_but hB1 (Nat.le_refl w.heap.size) (.int .u8 4) (.string ⟨r1.toArray⟩) (.slice none 0 0) (.slice none 0 0)
        replace hkz := Lib.hid hkz
        replace hBz := Lib.hid hBz
        clear hk1 hC1 hB1
        go_wp2_with fail
        refine bodyPost_ret (v := .agg #[.int .u8 4, .string ⟨r1.toArray⟩, .slice none 0 0, .slice none 0 0]) (by simp [results, Tryz.results145, go_sem, x0, x1, x2, x3]) rfl ⟨hBz.out, k, rfl, by omega, by omega, hD.out, hkz.out⟩
      · have hr2 : (r2 != 0) = true := by simp [hr]
        have hfa := rrFail0_any b k it S r2 w1 hk1
        have hne : w.heap.size ≠ b := by omega
        have hlt1 := hC1.lt
        replace hfa := Lib.hid hfa
        replace hC1 := Lib.hid hC1
        replace hB1 := Lib.hid hB1
        clear hk1
        go_wp2_with fail
        refine hfa.out.mono ?_
        rintro en w2 ⟨rfl, hb2, hk2'⟩
        have hC2 := hC1.out.but hb2 hlt1 hne
        have hB2 := hB1.out.trans (hb2.mono hB1.out.size)
        have x0 := hC2.cell 0
        have x1 := hC2.cell 1
        have x2 := hC2.cell 2
        have x3 := hC2.cell 3
        have y0 := hC2.froz 0
        have y1 := hC2.froz 1
        have y2 := hC2.froz 2
        have y3 := hC2.froz 3
        simp only [List.getElem?_toArray, List.getElem?_cons_zero, List.getElem?_cons_succ] at x0 x1 x2 x3
        have hkz : RK (lay4 w2 w.heap.size 0 (.int .u8 4) (.string ⟨r1.toArray⟩) (.slice none 0 0) (.slice none 0 0)) b S k it r2 := (lay4_other w2 w.heap.size 0 _ _ _ _ (by omega)).trans hk2'
        have hBz := lay_but hB2 (Nat.le_refl w.heap.size) (.int .u8 4) (.string ⟨r1.toArray⟩) (.slice none 0 0) (.slice none 0 0)
        replace hkz := Lib.hid hkz
        replace hBz := Lib.hid hBz
        clear hC1 hfa hb2 hk2' hC2 hB2 hB1
        go_wp2_with fail
        refine bodyPost_ret (v := .agg #[.int .u8 4, .string ⟨r1.toArray⟩, .slice none 0 0, .slice none 0 0]) (by simp [results, Tryz.results145, go_sem, x0, x1, x2, x3]) rfl ⟨hBz.out, k, rfl, by omega, by omega, hD.out, hkz.out⟩
end Go.Proofs.YtamcbgkppgdniaaGreatDoor


/-
  What stands in an Array, or in an Object, by one function: plain.
-/
namespace Go.Proofs.YtamcbgkppgdniaaGreatDoor

/-- What stands ahead of a value: nothing, or a name and a colon. -/
def preO (nm : Bool) (ns : List ByteArray) (s : List UInt8) : Except Int (List ByteArray × List UInt8) :=
  if nm = true then match jtxt s with
    | none => .error 4
    | some (n, s2) => if hasB ns (ofL n) = true then .error 6 else if ([58] : List UInt8).isPrefixOf (jblk s2) = true then .ok (ns ++ [ofL n], jblk ((jblk s2).drop 1)) else .error 4
  else .ok (ns, s)
/-- One thing of a list. -/
def oneG (nm : Bool) (val : Nat → List UInt8 → JR) (st : SO) (s : List UInt8) : Except Int (SO × List UInt8) := match preO nm st.2.1 s with
  | .error e => .error e
  | .ok (ns, s') => match val st.1 s' with
    | .error e => .error e
    | .ok (j, it, r) => .ok ((it, ns, st.2.2 ++ [j]), r)
theorem oneG_obj (val : Nat → List UInt8 → JR) : oneG true val = jitO Lib.validD val := by
  funext st s
  rw [jitO_eq _ _ _ _ rfl]
  unfold oneG preO
  rw [if_pos rfl]
  rcases jtxt s with _ | ⟨n, s2⟩
  · rfl
  dsimp only
  by_cases h1 : hasB st.2.1 (ofL n) = true
  · rw [if_pos h1, if_pos h1]
  · rw [if_neg h1, if_neg h1]
    by_cases h2 : ([58] : List UInt8).isPrefixOf (jblk s2) = true
    · rw [if_pos h2, if_pos h2]; rfl
    · rw [if_neg h2, if_neg h2]
/-- An Array's things, told as those of an Object without names. -/
def upG (R : Except Int (SA × List UInt8)) : Except Int (SO × List UInt8) := match R with
  | .error e => .error e
  | .ok ((it, l), r) => .ok ((it, [], l), r)
theorem oneG_arr (val : Nat → List UInt8 → JR) (it : Nat) (l : List Jsn) (s : List UInt8) : oneG false val (it, [], l) s = upG (jitA val (it, l) s) := by
  unfold oneG preO jitA upG
  rw [if_neg (by decide)]
  dsimp only
  rcases val it s with e | ⟨j, it', r⟩ <;> rfl
theorem jloopF_up (val : Nat → List UInt8 → JR) (b : UInt8) : ∀ (k : Nat) (it : Nat) (l : List Jsn) (s : List UInt8), jloopF (oneG false val) b k (it, [], l) s = upG (jloopF (jitA val) b k (it, l) s)
  | 0, _, _, _ => rfl
  | k + 1, it, l, s => by
    unfold jloopF
    rw [oneG_arr]
    rcases jitA val (it, l) (jblk s) with e | ⟨⟨it', l'⟩, s'⟩
    · rfl
    · show (match jblk s' with
        | [] => .error 4
        | c :: r => if c = 44 then jloopF (oneG false val) b k (it', [], l') r else if c = b then .ok ((it', [], l'), r) else .error 4) = upG (match jblk s' with
        | [] => .error 4
        | c :: r => if c = 44 then jloopF (jitA val) b k (it', l') r else if c = b then .ok ((it', l'), r) else .error 4)
      rcases jblk s' with _ | ⟨c, r⟩
      · rfl
      dsimp only
      by_cases h1 : c = 44
      · rw [if_pos h1, if_pos h1]; exact jloopF_up val b k it' l' r
      · rw [if_neg h1, if_neg h1]
        by_cases h2 : c = b
        · rw [if_pos h2, if_pos h2]; rfl
        · rw [if_neg h2, if_neg h2]; rfl
theorem jList_up (val : Nat → List UInt8 → JR) (b : UInt8) (it : Nat) (l : List Jsn) (s : List UInt8) : jList (oneG false val) b (it, [], l) s = upG (jList (jitA val) b (it, l) s) := by
  unfold jList jLoop
  rcases jblk s with _ | ⟨c, r⟩
  · exact jloopF_up val b _ it l []
  dsimp only
  by_cases h2 : c = b
  · rw [if_pos h2, if_pos h2]; rfl
  · rw [if_neg h2, if_neg h2]; exact jloopF_up val b _ it l (c :: r)
theorem preO_len {nm : Bool} {ns ns' : List ByteArray} {s s' : List UInt8} (h : preO nm ns s = .ok (ns', s')) : s'.length ≤ s.length := by
  unfold preO at h
  split at h
  · split at h
    · cases h
    · rename_i n s2 ht
      split at h
      · cases h
      · split at h
        · injection h with h
          injection h with h1 h2
          subst h2
          have h3 := jblk_le ((jblk s2).drop 1)
          have h4 := jblk_le s2
          have h5 : ((jblk s2).drop 1).length ≤ (jblk s2).length := by simp
          unfold jtxt at ht
          split at ht
          · have := (jStr_lt _ ht).1
            rw [List.length_cons]
            omega
          · cases ht
        · cases h
  · injection h with h
    injection h with h1 h2
    subst h2
    omega
theorem oneG_shorter {nm : Bool} {val : Nat → List UInt8 → JR} (hv : ∀ it s j it' r, val it s = .ok (j, it', r) → r.length ≤ s.length) : Shorter (oneG nm val) := by
  intro st s st' s' h
  unfold oneG at h
  split at h
  · cases h
  · rename_i ns s1 hp
    have h1 := preO_len hp
    split at h
    · cases h
    · rename_i hv'
      have h2 := hv _ _ _ _ _ hv'
      injection h with h
      injection h with h3 h4
      subst h4
      omega
theorem preO_err {nm : Bool} {ns : List ByteArray} {s : List UInt8} {c : Int} (h : preO nm ns s = .error c) : c ≠ 0 := by
  unfold preO at h
  split at h
  · split at h
    · injection h with h; subst h; decide
    · split at h
      · injection h with h; subst h; decide
      · split at h
        · cases h
        · injection h with h; subst h; decide
  · cases h
end Go.Proofs.YtamcbgkppgdniaaGreatDoor


/-
  The walk of the document's JSON reader: a list.
-/
namespace Go.Proofs.YtamcbgkppgdniaaGreatDoor
open Go.RowKit

/-- Two rows of the call's own: names and values, apart. -/
def ORow (W : World) (B : Nat) (vN vL : Value) (ns : List ByteArray) (l : List Jsn) (ws : List OE) : Prop :=
  W.ownsRow B 9 1 vN ns.length (ns.map Value.string) ∧ RowW W B 9 25 vL l ws ∧ ApartN vN vL ws
theorem ORow.nil (W : World) (B : Nat) : ORow W B (.slice none 0 0) (.slice none 0 0) [] [] [] :=
  ⟨World.ownsRow_nil _ _ _ _, ⟨rfl, World.ownsRow_nil _ _ _ _, (fun i x u h => by simp at h), (fun i j u z _ h => by simp at h)⟩, fun gn h => by cases h⟩
theorem ORow.but {W W' : World} {B b : Nat} {vN vL : Value} {ns : List ByteArray} {l : List Jsn} {ws : List OE} (h : ORow W B vN vL ns l ws) (hb : But W.heap.size b W W') (hlt : b < B) : ORow W' B vN vL ns l ws := by
  obtain ⟨h1, h2, h3⟩ := h
  refine ⟨ownRow_keep h1 fun g hg => ?_, h2.keep (fun k hk hk2 => hb.block k hk2 (by omega)) hb.size, h3⟩
  have := World.ownsRow.lt h1 g hg
  exact hb.block g this.2 (by omega)
theorem ORow.form {W : World} {B : Nat} {vN vL : Value} {ns : List ByteArray} {l : List Jsn} {ws : List OE} (h : ORow W B vN vL ns l ws) : (∃ A c, vN = .slice A ns.length c) ∧ (∃ A c, vL = .slice A l.length c) := by
  obtain ⟨h1, ⟨_, h2, _⟩, _⟩ := h
  constructor
  · rcases h1.2 with ⟨e, h0⟩ | ⟨gn, cap, cur, e, _⟩
    · exact ⟨none, 0, by rw [e, h0]⟩
    · exact ⟨_, cap, e⟩
  · rcases h2.2 with ⟨e, h0⟩ | ⟨gn, cap, cur, e, _⟩
    · exact ⟨none, 0, by rw [e, h0]⟩
    · exact ⟨_, cap, e⟩
theorem ORow.cell {W : World} {B : Nat} {vN vL : Value} {ns : List ByteArray} {l : List Jsn} {ws : List OE} (h : ORow W B vN vL ns l ws) {q : Nat} (hq : q < ns.length) : ∃ g c, vN = .slice (some ⟨g, 0, none⟩) ns.length c ∧ B ≤ g ∧ g < W.heap.size ∧ W.cell? ⟨g, q, none⟩ = some (.string ns[q]) := by
  rcases h.1.2 with ⟨e, h0⟩ | ⟨gn, cap, cur, e, hg, hh, hnc, hcm, hcs, htk⟩
  · omega
  · refine ⟨gn, cap, e, hg, (Array.getElem?_eq_some_iff.1 hh).1, ?_⟩
    have h5 : (ns.map Value.string)[q]? = some (.string ns[q]) := by rw [List.getElem?_map, List.getElem?_eq_getElem hq]; rfl
    rw [← htk, List.getElem?_take] at h5
    split at h5
    · rw [Array.getElem?_toList] at h5
      have hC : Cel W gn 9 cur := hh
      rw [hC.cell]
      exact h5
    · cases h5
set_option maxRecDepth 100000 in
/-- A name more. -/
theorem ORow.name {W : World} {B : Nat} {vN vL : Value} {ns : List ByteArray} {l : List Jsn} {ws : List OE} (h : ORow W B vN vL ns l ws) (S : ByteArray) (hn : ns.length ≤ 1000000) (hB : B ≤ W.heap.size) :
    ∃ v' w4, (Builtin.append_ #[22, 22] 22 #[vN, .slice (some ⟨W.heap.size, 0, none⟩) 1 1]).run Tryz.prog (W.alloc (.cells #[.string S] 9)) = .ok v' w4 ∧
      ORow w4 B v' vL (ns ++ [S]) l ws ∧ (∀ k, k < W.heap.size → k < B → w4.heap[k]? = W.heap[k]?) ∧ Below B W w4 := by
  obtain ⟨q2, q3, q4⟩ := h
  obtain ⟨i0, hi0, hz0, hz1, hz2⟩ := info_parts infoS
  obtain ⟨v', w4, hrun, r2, r3, _, r5⟩ := run_append_own_at (P := Tryz.prog) (W.alloc (.cells #[.string S] 9)) B 22 22 9 i0 _ 1 16 Tryz.underlying22 hi0 hz0 hz1 hz2 rfl (by decide) vN ns.length (ns.map Value.string) (q2.alloc _) ⟨W.heap.size, 0, none⟩ 1 1 [.string S] rfl
    (fun j u hu => by
      have hadd : (⟨W.heap.size, 0, none⟩ : Addr).add j = ⟨W.heap.size, j, none⟩ := by unfold Addr.add; split <;> simp_all
      rw [hadd, (Cel.fresh W 9 #[.string S]).cell]
      simpa using hu)
    (fun u hu => by simp at hu; rw [hu]; rfl) (by unfold maxLen; omega) (by omega) (by simp; omega)
  have hvn := q2.lt
  have hvb : ∀ g', Value.ownBlock v' = some g' → Value.ownBlock vN = some g' ∨ W.heap.size + 1 = g' := fun g' hg => by
    rcases r5 with e | e
    · exact .inl (e ▸ hg)
    · right; rw [e] at hg; injection hg with hg; simpa using hg
  have hblk : ∀ k, k < W.heap.size → Value.ownBlock vN ≠ some k → w4.heap[k]? = W.heap[k]? := fun k hk hne =>
    (r3.block k (by simp; omega) (fun e => hne e.symm)).trans (Below.heap_alloc W _ k hk)
  have hbl : ∀ k, k < W.heap.size → k < B → w4.heap[k]? = W.heap[k]? := fun k hk hkB => hblk k hk (fun e => by have := (hvn k e).1; omega)
  have hsz : W.heap.size ≤ w4.heap.size := by have := r3.size; simp at this; omega
  refine ⟨v', w4, hrun, ⟨?_, ?_, ?_⟩, hbl, ⟨r3.os, r3.tape, r3.output, hsz, fun k hk => hbl k (by omega) hk⟩⟩
  · have : (ns ++ [S]).map Value.string = ns.map Value.string ++ [.string S] := by simp
    rw [this, List.length_append]
    exact r2
  · refine ⟨q3.1, ownRow_keep q3.2.1 (fun k hk => ?_), fun i x u hx hu => ?_, q3.2.2.2⟩
    · have := q3.2.1.lt k hk
      exact hblk k this.2 (fun e => (q4 k e).1 hk)
    · obtain ⟨p1, p2, p3, p4, p5⟩ := q3.2.2.1 i x u hx hu
      exact ⟨p1, p2, by omega, p4, OwnJ.keep x p5 (fun c hc1 hc2 => hblk c (by omega) (fun e => (q4 c e).2 u (List.mem_of_getElem? hu) ⟨hc1, hc2⟩)) (Nat.le_refl _) (Nat.le_refl _)⟩
  · intro gn hgn
    rcases hvb gn hgn with e | e
    · exact q4 gn e
    · refine ⟨fun e2 => ?_, fun u hu => ?_⟩
      · have := q3.2.1.lt gn e2; omega
      · have := q3.ends u hu; omega
set_option maxRecDepth 100000 in
/-- A value more: it was made behind W (to w2), laid into a block, appended. -/
theorem ORow.value {W w2 : World} {B b : Nat} {vN vL vn vl : Value} {ns : List ByteArray} {l : List Jsn} {ws : List OE} {x : Jsn} (h : ORow W B vN vL ns l ws) (hb : But W.heap.size b W w2) (hlt : b < B) (hB : B ≤ W.heap.size)
    (hx : OwnJ w2 9 25 x W.heap.size w2.heap.size vn vl) (hl : l.length ≤ 1000000) :
    ∃ v' w4 ws', (Builtin.append_ #[23, 23] 23 #[vL, .slice (some ⟨w2.heap.size, 0, none⟩) 1 1]).run Tryz.prog (w2.alloc (.cells #[.int .u8 x.kind, .string x.text, vn, vl] 25)) = .ok v' w4 ∧
      ORow w4 B vN v' ns (l ++ [x]) ws' ∧ Below B w2 w4 := by
  obtain ⟨q1, q3, q4⟩ := h
  obtain ⟨i0, hi0, hz0, hz1, hz2⟩ := info_parts infoJ
  obtain ⟨Ax, nx, cx, Ay, ny, cy, rfl, rfl⟩ := hx.forms
  have hbs := hb.size
  have hend := q3.ends
  have hvl := q3.2.1.lt
  have hvn := q1.lt
  obtain ⟨W3, hW3⟩ : ∃ W3, w2.alloc (.cells #[.int .u8 x.kind, .string x.text, .slice Ax nx cx, .slice Ay ny cy] 25) = W3 := ⟨_, rfl⟩
  have hC3 : Cel W3 w2.heap.size 25 #[.int .u8 x.kind, .string x.text, .slice Ax nx cx, .slice Ay ny cy] := by rw [← hW3]; exact Cel.fresh _ _ _
  have hb3 : ∀ k, k < w2.heap.size → W3.heap[k]? = w2.heap[k]? := fun k hk => by rw [← hW3]; exact Below.heap_alloc w2 _ k hk
  have hs3 : W3.heap.size = w2.heap.size + 1 := by rw [← hW3]; simp
  have hlow : Below B w2 W3 := by rw [← hW3]; exact (Below.refl _ _).alloc (by omega) _
  rw [hW3]
  clear hW3
  have hk3 : ∀ k, B ≤ k → k < W.heap.size → W3.heap[k]? = W.heap[k]? := fun k h1 h2 => (hb3 k (by omega)).trans (hb.block k h2 (by omega))
  have hw3 : RowW W3 B 9 25 vL l ws := q3.keep hk3 (by omega)
  have hN3 : W3.ownsRow B 9 1 vN ns.length (ns.map Value.string) := ownRow_keep q1 fun g hg => by have := hvn g hg; exact hk3 g this.1 this.2
  have hx3 := OwnJ.keep (w' := W3) x hx (fun k _ hk => hb3 k hk) (Nat.le_refl _) (Nat.le_refl _)
  obtain ⟨v', w4, hrun, h2, h3, _, h5⟩ := run_append_own_at (P := Tryz.prog) W3 B 23 23 25 i0 _ 4 72 Tryz.underlying23 hi0 hz0 hz1 hz2 rfl (by decide) vL l.length (rowCells l ws) hw3.2.1 ⟨w2.heap.size, 0, none⟩ 1 1 (encJ (x, .slice Ax nx cx, .slice Ay ny cy)) rfl
    (fun j u hu => by
      have hadd : (⟨w2.heap.size, 0, none⟩ : Addr).add j = ⟨w2.heap.size, j, none⟩ := by unfold Addr.add; split <;> simp_all
      rw [hadd, hC3.cell]
      simpa [encJ] using hu)
    (fun u hu => by simp [encJ] at hu; rcases hu with rfl | rfl | rfl | rfl <;> rfl) (by unfold maxLen; omega) (by omega) (by omega)
  have hbl : v'.ownBlock = vL.ownBlock ∨ ∃ k, v'.ownBlock = some k ∧ W3.heap.size ≤ k := by
    rcases h5 with e | e
    · exact .inl e
    · exact .inr ⟨_, e, Nat.le_refl _⟩
  have hs4 := h3.size
  refine ⟨v', w4, _, hrun, ⟨ownRow_keep hN3 fun g hg => h3.block g (by have := hvn g hg; omega) (fun e => (q4 g hg).1 e.symm), hw3.snoc2 (lo := W.heap.size) (hi := w2.heap.size) hend hB hbs (by omega) hx3 (fun g hg => by have := hvl g hg; omega) h2 h3 hbl, fun gn hgn => ?_⟩, hlow.trans ⟨h3.os, h3.tape, h3.output, h3.size, fun k hk => h3.block k (by omega) (fun e => by have := (hvl k e.symm).1; omega)⟩⟩
  obtain ⟨a1, a2⟩ := q4 gn hgn
  have hgs := hvn gn hgn
  constructor
  · rcases hbl with e | ⟨k, e, hk⟩
    · rw [e]; exact a1
    · rw [e]; intro e2; injection e2 with e2; omega
  · intro u hu
    rcases List.mem_append.1 hu with h | h
    · exact a2 u h
    · simp at h; subst h; dsimp only; omega
/-- What a list's rest comes to, behind a value. -/
def contR (one : SO → List UInt8 → Except Int (SO × List UInt8)) (endb : UInt8) (ns : List ByteArray) (l : List Jsn) (X : JR) : Except Int (SO × List UInt8) := match X with
  | .error c => .error c
  | .ok (j, it, r) => match jblk r with
    | [] => .error 4
    | c :: r' => if c = 44 then jLoop one endb (it, ns, l ++ [j]) r' else if c = endb then .ok ((it, ns, l ++ [j]), r') else .error 4
theorem jLoop_G {nm : Bool} {val : Nat → List UInt8 → JR} (hSh : Shorter (oneG nm val)) (endb : UInt8) (it : Nat) (ns : List ByteArray) (l : List Jsn) (s : List UInt8) : jLoop (oneG nm val) endb (it, ns, l) s = match preO nm ns (jblk s) with
    | .error e => .error e
    | .ok (ns', s') => contR (oneG nm val) endb ns' l (val it s') := by
  rw [jLoop_eq hSh]
  have e1 : oneG nm val (it, ns, l) (jblk s) = match preO nm ns (jblk s) with
    | .error e => .error e
    | .ok (ns', s') => match val it s' with
      | .error e => .error e
      | .ok (j, it', r) => .ok ((it', ns', l ++ [j]), r) := rfl
  rw [e1]
  rcases preO nm ns (jblk s) with e | ⟨ns', s'⟩
  · rfl
  dsimp only
  rcases val it s' with e | ⟨j, it', r⟩ <;> rfl
theorem cont_end {one : SO → List UInt8 → Except Int (SO × List UInt8)} {endb : UInt8} {ns : List ByteArray} {l : List Jsn} {j : Jsn} {it : Nat} {r r' : List UInt8} (hne : endb ≠ 44) (h : jblk r = endb :: r') : contR one endb ns l (.ok (j, it, r)) = .ok ((it, ns, l ++ [j]), r') := by
  unfold contR; dsimp only; rw [h]; dsimp only; rw [if_neg hne, if_pos rfl]
theorem cont_more {one : SO → List UInt8 → Except Int (SO × List UInt8)} {endb : UInt8} {ns : List ByteArray} {l : List Jsn} {j : Jsn} {it : Nat} {r r' : List UInt8} (h : jblk r = 44 :: r') : contR one endb ns l (.ok (j, it, r)) = jLoop one endb (it, ns, l ++ [j]) r' := by
  unfold contR; dsimp only; rw [h]; dsimp only; rw [if_pos rfl]
theorem cont_no {one : SO → List UInt8 → Except Int (SO × List UInt8)} {endb : UInt8} {ns : List ByteArray} {l : List Jsn} {j : Jsn} {it : Nat} {r : List UInt8} (h1 : ¬ ([endb] : List UInt8).isPrefixOf (jblk r) = true) (h2 : ¬ ([44] : List UInt8).isPrefixOf (jblk r) = true) : contR one endb ns l (.ok (j, it, r)) = .error 4 := by
  unfold contR; dsimp only
  rcases hb : jblk r with _ | ⟨c, r'⟩
  · rfl
  · rw [hb] at h1 h2
    dsimp only
    rw [if_neg (fun e => h2 ((pre_eq 44 c r').2 e)), if_neg (fun e => h1 ((pre_eq endb c r').2 e))]
theorem rest_next {S : ByteArray} {k : Nat} {c : UInt8} {r : List UInt8} (h : rest S k = c :: r) : k < S.size ∧ rest S (k + 1) = r := by
  have hk : k < S.size := by
    rcases Nat.lt_or_ge k S.size with h' | h'
    · exact h'
    · rw [rest_nil (by omega)] at h; cases h
  refine ⟨hk, ?_⟩
  rw [rest_cons hk] at h
  injection h
/-- How a value ends: X is what its text says. -/
def RValEnd (b k it : Nat) (S : ByteArray) (X : JR) (w : World) (en : Ending) (w' : World) : Prop :=
  But w.heap.size b w w' ∧ ∃ (k' it' : Nat) (e' : Int) (vn vl : Value) (j : Jsn), en = .returned (.agg #[.int .u8 j.kind, .string j.text, vn, vl]) ∧ RK w' b S k' it' e' ∧ k ≤ k' ∧ k' ≤ S.size ∧ it' ≤ 65537 ∧ OwnJ w' 9 25 j w.heap.size w'.heap.size vn vl ∧
    ((e' = 0 ∧ X = .ok (j, it', rest S k') ∧ it' ≤ 65536 ∧ it < it') ∨ (e' ≠ 0 ∧ X = .error e'))
def RLsEnd (b k it : Nat) (S : ByteArray) (X : Except Int (SO × List UInt8)) (w : World) (en : Ending) (w' : World) : Prop :=
  But w.heap.size b w w' ∧ ∃ (k' it' : Nat) (e' : Int) (vN vL : Value) (ns : List ByteArray) (l : List Jsn) (ws : List OE), en = .returned (.tuple #[vN, vL]) ∧ RK w' b S k' it' e' ∧ k ≤ k' ∧ k' ≤ S.size ∧ it' ≤ 65537 ∧ ORow w' w.heap.size vN vL ns l ws ∧
    ((e' = 0 ∧ X = .ok ((it', ns, l), rest S k') ∧ it' ≤ 65536 ∧ it ≤ it') ∨ (e' ≠ 0 ∧ X = .error e' ∧ ns = [] ∧ l = []))
/-- What a round knows. -/
def LsI (b k0 i0 : Nat) (S : ByteArray) (w : World) (one : SO → List UInt8 → Except Int (SO × List UInt8)) (endb : UInt8) (R : Except Int (SO × List UInt8)) (vN vL : Value) (wr : World) : Prop :=
  But w.heap.size b w wr ∧ ∃ (k it : Nat) (e : Int) (ns : List ByteArray) (l : List Jsn) (ws : List OE), RK wr b S k it e ∧ k0 ≤ k ∧ k ≤ S.size ∧ it ≤ 65537 ∧ ORow wr w.heap.size vN vL ns l ws ∧
    ((e = 0 ∧ it ≤ 65536 ∧ i0 ≤ it ∧ l.length ≤ it ∧ ns.length ≤ l.length ∧ jLoop one endb (it, ns, l) (rest S k) = R) ∨ (e ≠ 0 ∧ R = .error e))
/-- What is known ahead of a value. -/
def MdI (b k0 i0 : Nat) (S : ByteArray) (w : World) (one : SO → List UInt8 → Except Int (SO × List UInt8)) (endb : UInt8) (val : Nat → List UInt8 → JR) (R : Except Int (SO × List UInt8)) (vN vL : Value) (wr : World) : Prop :=
  But w.heap.size b w wr ∧ ∃ (k it : Nat) (e : Int) (ns : List ByteArray) (l : List Jsn) (ws : List OE), RK wr b S k it e ∧ k0 ≤ k ∧ k ≤ S.size ∧ it ≤ 65536 ∧ i0 ≤ it ∧ ORow wr w.heap.size vN vL ns l ws ∧ l.length ≤ it ∧ ns.length ≤ l.length + 1 ∧
    ((e = 0 ∧ contR one endb ns l (val it (rest S k)) = R) ∨ (e ≠ 0 ∧ R = .error e))
theorem md_after {one : SO → List UInt8 → Except Int (SO × List UInt8)} {endb : UInt8} {ns : List ByteArray} {l : List Jsn} {v X : JR} {R : Except Int (SO × List UInt8)} {e e' : Int} {j : Jsn} {it' : Nat} {r : List UInt8} {p : Prop} (hX : X = if e = 0 then v else .error e) (h : (e = 0 ∧ contR one endb ns l v = R) ∨ (e ≠ 0 ∧ R = .error e))
    (h2 : (e' = 0 ∧ X = .ok (j, it', r) ∧ p) ∨ (e' ≠ 0 ∧ X = .error e')) : (e' = 0 ∧ contR one endb ns l (.ok (j, it', r)) = R ∧ p) ∨ (e' ≠ 0 ∧ R = .error e') := by
  subst hX
  rcases h with ⟨rfl, h⟩ | ⟨he, h⟩
  · rw [if_pos rfl] at h2
    rcases h2 with ⟨h3, h4, h5⟩ | ⟨h3, h4⟩
    · rw [h4] at h; exact .inl ⟨h3, h, h5⟩
    · rw [h4] at h; exact .inr ⟨h3, h.symm⟩
  · rw [if_neg he] at h2
    rcases h2 with ⟨_, h4, _⟩ | ⟨h3, h4⟩
    · cases h4
    · injection h4 with h4; subst h4; exact .inr ⟨h3, h⟩
theorem preO_true {ns : List ByteArray} {s : List UInt8} : preO true ns s = match jtxt s with
    | none => .error 4
    | some (n, s2) => if hasB ns (ofL n) = true then .error 6 else if ([58] : List UInt8).isPrefixOf (jblk s2) = true then .ok (ns ++ [ofL n], jblk ((jblk s2).drop 1)) else .error 4 := rfl
theorem preO_false {ns : List ByteArray} {s : List UInt8} : preO false ns s = .ok (ns, s) := rfl
theorem hasB_take {ns : List ByteArray} {t : ByteArray} {q : Nat} (hq : q < ns.length) : hasB (ns.take (q + 1)) t = (hasB (ns.take q) t || decide (ns[q] = t)) := by
  unfold hasB
  rw [List.take_add_one, List.getElem?_eq_getElem hq, List.any_append]
  simp only [Option.toList, List.any_cons, List.any_nil, Bool.or_false]
/-- What has gone wrong behind q names that were held against t. -/
def eAt (e : Int) (ns : List ByteArray) (t : ByteArray) (q : Nat) : Int := if e = 0 then (if hasB (ns.take q) t = true then 6 else 0) else e
set_option maxRecDepth 100000 in
set_option maxHeartbeats 16000000 in
theorem rrList_any (nm : Bool) (val : Nat → List UInt8 → JR) (hSh : Shorter (oneG nm val)) (endb : UInt8) (hne : endb ≠ 44) (b k0 it : Nat) (S : ByteArray) (d : Int) (hd0 : 0 ≤ d) (hd1 : d ≤ 1000) (hS : S.size ≤ 200000)
    (hV : ∀ (k it : Nat) (e : Int) (W : World), RK W b S k it e → k ≤ S.size → it ≤ 65536 → Calls Tryz.prog 87 #[.pointer (some ⟨b, 0, none⟩), .int .i64 (d + 1)] W (RValEnd b k it S (if e = 0 then val it (rest S k) else .error e) W))
    (w : World) (h : RK w b S k0 it 0) (hk0 : k0 ≤ S.size) (hit : it ≤ 65536) :
    Calls Tryz.prog 144 #[.pointer (some ⟨b, 0, none⟩), .int .i64 d, .string (ofL [endb]), .bool nm] w (RLsEnd b k0 it S (jList (oneG nm val) endb (it, [], []) (rest S k0)) w) := by
  have hlt0 := h.lt
  have heb : (ofL [endb]).data.toList = [endb] := ofL_one _
  have hes : (ofL [endb]).size = 1 := ofL_size1 _
  have hBl := fun (k it : Nat) (e : Int) (W : World) (h : RK W b S k it e) (hk : k ≤ S.size) => rrBlanks_any b k it S e W h hk (by omega)
  have hTe := fun (k it : Nat) (e : Int) (W : World) (h : RK W b S k it e) (hk : k ≤ S.size) => rrTake_any b k it S (ofL [endb]) e W h hk (by omega) (by omega)
  rw [heb, hes] at hTe
  have hTc := fun (k it : Nat) (e : Int) (W : World) (h : RK W b S k it e) (hk : k ≤ S.size) => rrTake_any b k it S ⟨#[44]⟩ e W h hk (by omega) (by decide)
  have hTd := fun (k it : Nat) (e : Int) (W : World) (h : RK W b S k it e) (hk : k ≤ S.size) => rrTake_any b k it S ⟨#[58]⟩ e W h hk (by omega) (by decide)
  rw [show (⟨#[44]⟩ : ByteArray).data.toList = [44] from rfl, show (⟨#[44]⟩ : ByteArray).size = 1 from rfl] at hTc
  rw [show (⟨#[58]⟩ : ByteArray).data.toList = [58] from rfl, show (⟨#[58]⟩ : ByteArray).size = 1 from rfl] at hTd
  obtain ⟨EB, hEB⟩ : ∃ EB, ofL [endb] = EB := ⟨_, rfl⟩
  rw [hEB] at hTe ⊢
  obtain ⟨R, hR⟩ : ∃ R, jList (oneG nm val) endb (it, [], []) (rest S k0) = R := ⟨_, rfl⟩
  rw [hR]
  have hb1 := Lib.hid (hBl k0 it 0 w h hk0)
  replace hBl := Lib.hid hBl
  replace hTe := Lib.hid hTe
  replace hTc := Lib.hid hTc
  replace hTd := Lib.hid hTd
  replace hV := Lib.hid hV
  clear h heb hes hEB
  go_enter Tryz.func144, Tryz.ntmps144
  go_wp2_with fail
  refine hb1.out.mono ?_
  rintro en w1 ⟨rfl, hB1, k1, hk1, ha1, hs1, hj1, _⟩
  replace hj1 := hj1 rfl
  have ht1 := hTe.out k1 it 0 w1 hk1 hs1
  clear hb1
  by_cases hpre : ([endb] : List UInt8).isPrefixOf (rest S k1) = true
  · rw [show (decide ((0 : Int) = 0) && ([endb] : List UInt8).isPrefixOf (rest S k1)) = true by simp [hpre], if_pos rfl] at ht1
    obtain ⟨r, hr⟩ := pre_cons hpre
    obtain ⟨hk1s, hr1⟩ := rest_next hr
    rw [jList_yes (hj1.symm.trans hr)] at hR
    subst hR
    replace ht1 := Lib.hid ht1
    replace hB1 := Lib.hid hB1
    clear hpre hr hj1 hk1
    go_wp2_with fail
    refine ht1.out.mono ?_
    rintro en w2 ⟨rfl, hb2, hk2⟩
    have hB2 := Lib.hid (hB1.out.trans (hb2.mono hB1.out.size))
    replace hk2 := Lib.hid hk2
    clear ht1 hB1 hb2
    go_wp2_with fail
    go_ret2
    exact ⟨hB2.out, k1 + 1, it, 0, _, _, [], [], [], rfl, hk2.out, by omega, by omega, by omega, ORow.nil _ _, .inl ⟨rfl, by rw [hr1], hit, Nat.le_refl _⟩⟩
  · rw [show (decide ((0 : Int) = 0) && ([endb] : List UInt8).isPrefixOf (rest S k1)) = false by simp [hpre], if_neg (by decide)] at ht1
    rw [hj1] at hpre
    rw [jList_no hpre, ← hj1] at hR
    replace ht1 := Lib.hid ht1
    replace hB1 := Lib.hid hB1
    clear hpre hj1 hk1
    go_wp2_with fail
    refine ht1.out.mono ?_
    rintro en w2 ⟨rfl, hb2, hk2⟩
    have hI0 : LsI b k0 it S w (oneG nm val) endb R (.slice none 0 0) (.slice none 0 0) w2 := ⟨hB1.out.trans (hb2.mono hB1.out.size), k1, it, 0, [], [], [], hk2, ha1, hs1, by omega, ORow.nil _ _, .inl ⟨rfl, hit, Nat.le_refl _, by simp, by simp, hR⟩⟩
    replace hI0 := Lib.hid hI0
    clear ht1 hB1 hb2 hk2 hR
    go_wp2_with fail
    go_loopw [10, 11] (fun vN vL wr => LsI b k0 it S w (oneG nm val) endb R vN vL wr) (fun _ _ wr => lenR wr b)
    case atStart => exact hI0.out
    case round =>
      obtain ⟨wo, hwo⟩ : ∃ wo, wo = wr := ⟨_, rfl⟩
      subst hwo
      obtain ⟨hB, k, i1, e, ns, l, ws, hk, hka, hkb, hi1, hO, he⟩ := hrel
      clear hI0
      have hBw := hB.size
      obtain ⟨p0, p1, p2, p3⟩ := hk.cells
      rcases he with ⟨rfl, hi2, hi3, hll, hnl, hj⟩ | ⟨he, rfl⟩
      · have hmm := lenR_of hk
        rw [if_pos rfl] at hmm
        rw [jLoop_G hSh] at hj
        have hb1 := Lib.hid (hBl.out k i1 0 wo hk hkb)
        obtain ⟨⟨A, cn, rfl⟩, ⟨A', cl, rfl⟩⟩ := hO.form
        replace hmm := Lib.hid hmm
        replace hB := Lib.hid hB
        replace hO := Lib.hid hO
        clear p0 p1 p2 hk
        cases nm
        · rw [preO_false] at hj
          dsimp only at hj
          go_wp2_with fail
          refine hb1.out.mono ?_
          rintro en w3 ⟨rfl, hb3, k3, hk3, ha3, hs3, hj3, _⟩
          rw [← hj3 rfl] at hj
          have hMd : MdI b k3 it S w (oneG false val) endb val R (.slice A ns.length cn) (.slice A' l.length cl) w3 := ⟨hB.out.trans (hb3.mono hBw), k3, i1, 0, ns, l, ws, hk3, by omega, hs3, hi2, hi3, hO.out.but hb3 hlt0, hll, by omega, .inl ⟨rfl, hj⟩⟩
          have hmd : lenR wo b = S.size + 1 - k ∧ k ≤ k3 := ⟨hmm.out, ha3⟩
          clear hb1 hb3 hk3 hj3 hj hB hO hmm p3
          obtain ⟨hBm, km, im, em, nsm, lm, wsm, hkm, hma, hmb, him, him2, hOm, hlm, hnm, hRm⟩ := hMd
          have hVm := hV.out km im em _ hkm hmb him
          obtain ⟨X, hX⟩ : ∃ X, (if em = 0 then val im (rest S km) else .error em : JR) = X := ⟨_, rfl⟩
          rw [hX] at hVm
          obtain ⟨⟨Bn, bn, hBn⟩, ⟨Bl, bl, hBl2⟩⟩ := hOm.form
          replace hX := Lib.hid hX
          replace hVm := Lib.hid hVm
          replace hBm := Lib.hid hBm
          replace hOm := Lib.hid hOm
          replace hRm := Lib.hid hRm
          replace hBn := Lib.hid hBn
          replace hBl2 := Lib.hid hBl2
          clear hkm
          go_wp2_with fail
          refine hVm.out.mono ?_
          rintro en u1 ⟨hbu, ku, iu, eu, vn, vl, x, rfl, hku, hua, hub, hiu, hOu, hXu⟩
          have hRu := md_after (p := iu ≤ 65536 ∧ im < iu) hX.out.symm hRm.out hXu
          have hBu := hBm.out.trans (hbu.mono hBm.out.size)
          obtain ⟨v', u2, ws', hrun, hO2, hb2⟩ := hOm.out.value hbu hlt0 hBm.out.size hOu (by omega)
          obtain ⟨Ax, nx, cx, Ay, ny, cy, rfl, rfl⟩ := hOu.forms
          have hk2 : RK u2 b S ku iu eu := (hb2.block b hlt0).trans hku
          have hB2 := hBu.trans (But.of hb2)
          have hb3 := Lib.hid (hBl.out ku iu eu u2 hk2 hub)
          replace hrun := Lib.hid hrun
          replace hO2 := Lib.hid hO2
          replace hB2 := Lib.hid hB2
          replace hRu := Lib.hid hRu
          clear hVm hX hRm hbu hku hOu hXu hBu hb2 hk2 hOm hBm
          go_wp2_with (at_builtin; refine jl_append_run (by rfl) _ _ 23 23 rfl (.slice A' l.length cl) (.slice (some ⟨u1.heap.size, 0, none⟩) 1 1) _ rfl rfl hrun.out ?_)
          refine hb3.out.mono ?_
          rintro en u3 ⟨rfl, hb4, k3', hk3', ha3', hs3', hj3', hz3'⟩
          have hB3' := Lib.hid (hB2.out.trans (hb4.mono hB2.out.size))
          have hO3' := Lib.hid (hO2.out.but hb4 hlt0)
          have hte := hTe.out k3' iu eu u3 hk3' hs3'
          obtain ⟨T1, hT1⟩ : ∃ T1, (decide (eu = 0) && ([endb] : List UInt8).isPrefixOf (rest S k3')) = T1 := ⟨_, rfl⟩
          rw [hT1] at hte
          replace hte := Lib.hid hte
          replace hT1 := Lib.hid hT1
          replace hj3' := Lib.hid hj3'
          clear hb3 hb4 hk3' hB2 hO2 hrun hz3'
          go_wp2_with fail
          refine hte.out.mono ?_
          rintro en u4 ⟨rfl, hb5, hk5'⟩
          have hB5' := Lib.hid (hB3'.out.trans (hb5.mono hB3'.out.size))
          have hO5' := Lib.hid (hO3'.out.but hb5 hlt0)
          clear hte hb5 hB3' hO3'
          cases T1
          · rw [if_neg (by decide)] at hk5'
            have htc := hTc.out k3' iu eu u4 hk5' hs3'
            obtain ⟨T2, hT2⟩ : ∃ T2, (decide (eu = 0) && ([44] : List UInt8).isPrefixOf (rest S k3')) = T2 := ⟨_, rfl⟩
            rw [hT2] at htc
            replace htc := Lib.hid htc
            replace hT2 := Lib.hid hT2
            clear hk5'
            go_wp2_with fail
            refine htc.out.mono ?_
            rintro en u5 ⟨rfl, hb6, hk6'⟩
            have hB6' := Lib.hid (hB5'.out.trans (hb6.mono hB5'.out.size))
            have hO6' := Lib.hid (hO5'.out.but hb6 hlt0)
            clear htc hb6 hB5' hO5'
            cases T2
            · rw [if_neg (by decide)] at hk6'
              have hfa := Lib.hid (rrFail_any b k3' iu S eu 4 u5 hk6')
              clear hk6'
              go_wp2_with fail
              refine hfa.out.mono ?_
              rintro en u6 ⟨rfl, hb7, hk7'⟩
              have hfin : LsI b k0 it S w (oneG false val) endb R (.slice A ns.length cn) v' u6 ∧ lenR u6 b < lenR wo b := by
                rcases hRu.out with ⟨h1, h2, h3, h4⟩ | ⟨h1, h2⟩
                · rw [if_pos h1] at hk7'
                  have hp1 := hT1.out
                  have hp2 := hT2.out
                  rw [h1, decide_eq_true rfl, Bool.true_and, hj3'.out h1] at hp1 hp2
                  rw [cont_no (by rw [hp1]; decide) (by rw [hp2]; decide)] at h2
                  refine ⟨⟨hB6'.out.trans (hb7.mono hB6'.out.size), k3', iu, 4, _, _, _, hk7', by omega, hs3', by omega, hO6'.out.but hb7 hlt0, .inr ⟨by decide, h2.symm⟩⟩, ?_⟩
                  rw [lenR_of hk7', if_neg (by decide), hmd.1]; omega
                · rw [if_neg h1] at hk7'
                  refine ⟨⟨hB6'.out.trans (hb7.mono hB6'.out.size), k3', iu, eu, _, _, _, hk7', by omega, hs3', by omega, hO6'.out.but hb7 hlt0, .inr ⟨h1, h2⟩⟩, ?_⟩
                  rw [lenR_of hk7', if_neg h1, hmd.1]; omega
              replace hfin := Lib.hid hfin
              clear hfa hb7 hk7' hB6' hO6' hT1 hT2 hj3' hRu
              go_wp2_with fail
              go_roundw
              case rel => exact hfin.out.1
              case measure => exact hfin.out.2
            · rw [if_pos rfl] at hk6'
              have hT2t := hT2.out
              rw [Bool.and_eq_true, decide_eq_true_eq] at hT2t
              obtain ⟨rfl, hp44⟩ := hT2t
              obtain ⟨r44, hr44⟩ := pre_cons hp44
              obtain ⟨hk44, hr45⟩ := rest_next hr44
              have hfin : LsI b k0 it S w (oneG false val) endb R (.slice A ns.length cn) v' u5 ∧ lenR u5 b < lenR wo b := by
                rcases hRu.out with ⟨_, h2, h3, h4⟩ | ⟨h1, _⟩
                · rw [hj3'.out rfl] at hr44
                  rw [cont_more hr44, ← hr45] at h2
                  refine ⟨⟨hB6'.out, k3' + 1, iu, 0, _, _, _, hk6', by omega, by omega, by omega, hO6'.out, .inl ⟨rfl, h3, by omega, by simp; omega, by simp; omega, h2⟩⟩, ?_⟩
                  rw [lenR_of hk6', if_pos rfl, hmd.1]; omega
                · exact absurd rfl h1
              replace hfin := Lib.hid hfin
              clear hk6' hB6' hO6' hT1 hT2 hj3' hRu hp44 hr44 hr45
              go_wp2_with fail
              go_roundw
              case rel => exact hfin.out.1
              case measure => exact hfin.out.2
          · rw [if_pos rfl] at hk5'
            have hT1t := hT1.out
            rw [Bool.and_eq_true, decide_eq_true_eq] at hT1t
            obtain ⟨rfl, hpe⟩ := hT1t
            obtain ⟨re, hre⟩ := pre_cons hpe
            obtain ⟨hke, hre2⟩ := rest_next hre
            have hfin : RLsEnd b k0 it S R w (.returned (.tuple #[.slice A ns.length cn, v'])) u4 := by
              rcases hRu.out with ⟨_, h2, h3, h4⟩ | ⟨h1, _⟩
              · rw [hj3'.out rfl] at hre
                rw [cont_end hne hre, ← hre2] at h2
                exact ⟨hB5'.out, k3' + 1, iu, 0, _, _, _, _, _, rfl, hk5', by omega, by omega, by omega, hO5'.out, .inl ⟨rfl, h2.symm, h3, by omega⟩⟩
              · exact absurd rfl h1
            replace hfin := Lib.hid hfin
            clear hk5' hB5' hO5' hT1 hj3' hRu hpe hre hre2
            go_wp2_with fail
            go_ret2
            exact hfin.out
        · rw [preO_true] at hj
          go_wp2_with fail
          refine hb1.out.mono ?_
          rintro en w3 ⟨rfl, hb3, k3, hk3, ha3, hs3, hj3, _⟩
          rw [← hj3 rfl] at hj
          have hSt := Lib.hid (rrStr_any b k3 i1 S w3 hk3 hs3 hS)
          have hB3 := Lib.hid (hB.out.trans (hb3.mono hBw))
          have hO3 := Lib.hid (hO.out.but hb3 hlt0)
          replace hj := Lib.hid hj
          clear hb1 hb3 hk3 hj3 hB hO p3
          go_wp2_with fail
          refine hSt.out.mono ?_
          rintro en w4 ⟨hb4, t, k4, rfl, ha4, hs4, htz, hX4⟩
          obtain ⟨e4, hk4, he4⟩ : ∃ e4, RK w4 b S k4 i1 e4 ∧ ((e4 = 0 ∧ ∃ t', jtxt (rest S k3) = some (t', rest S k4) ∧ t = ofL t') ∨ (e4 ≠ 0 ∧ R = .error e4)) := by
            have hj' := hj.out
            rcases hJ : jtxt (rest S k3) with _ | ⟨t', r⟩
            · rw [hJ] at hX4 hj'
              exact ⟨4, hX4, .inr ⟨by decide, hj'.symm⟩⟩
            · rw [hJ] at hX4
              obtain ⟨h1, h2, h3⟩ := hX4
              exact ⟨0, h1, .inl ⟨rfl, t', by rw [h3], h2⟩⟩
          have hB4 := Lib.hid (hB3.out.trans (hb4.mono hB3.out.size))
          have hO4 := hO3.out.but hb4 hlt0
          clear hSt hB3 hO3 hb4 hX4
          have hB4s := hB4.out.size
          have hk4lt := hk4.lt
          have hns : (ns.length : Int) ≤ 1000000 := by omega
          replace hO4 := Lib.hid hO4
          replace hk4 := Lib.hid hk4
          replace he4 := Lib.hid he4
          go_wp2_with fail
          go_loopw [13] (fun i wr => ∃ q : Nat, q ≤ ns.length ∧ i = .int .i64 (q : Int) ∧ But w4.heap.size b w4 wr ∧ RK wr b S k4 i1 (eAt e4 ns t q)) (fun i _ => ns.length - (intOf i).toNat)
          case atStart =>
            refine ⟨0, Nat.zero_le _, rfl, But.refl _ _ _, ?_⟩
            have : eAt e4 ns t 0 = e4 := by unfold eAt; split <;> simp_all [hasB]
            rw [this]
            exact hk4.out
          case round =>
            obtain ⟨q, hq, rfl, hbx, hkx⟩ := hrel
            clear hk4
            have hOx := hO4.out.but hbx hlt0
            have hbxs := hbx.size
            have hq0 : (0 : Int) ≤ (q : Int) := by omega
            by_cases hqn : q < ns.length
            · have hqi : (q : Int) < (ns.length : Int) := by omega
              obtain ⟨g, c', hgA, hg1, hg2, hcell⟩ := hOx.cell hqn
              injection hgA with hgA hgn hgc
              subst hgA
              have hfa := rrFail_any b k4 i1 S (eAt e4 ns t q) 6 wr hkx
              obtain ⟨y, hy⟩ : ∃ y, ns[q] = y := ⟨_, rfl⟩
              have hst : eAt e4 ns t (q + 1) = if e4 = 0 ∧ y = t then 6 else eAt e4 ns t q := by
                unfold eAt
                rw [hasB_take hqn, hy]
                by_cases h1 : e4 = 0
                · by_cases h2 : y = t <;> simp [h1, h2]
                · simp [h1]
              rw [hy] at hcell
              have hbx' := hbx
              replace hbx := Lib.hid hbx
              replace hkx := Lib.hid hkx
              replace hfa := Lib.hid hfa
              replace hst := Lib.hid hst
              clear hOx hg1 hg2 hgc hy
              by_cases hyt : y = t
              · have hyy : (y.toList == t.toList) = true := by rw [hyt]; simp
                go_wp2_with fail
                refine hfa.out.mono ?_
                rintro en w5 ⟨rfl, hb5, hk5⟩
                have hb5' := Lib.hid (hbx.out.trans (hb5.mono hbxs))
                have hk5' : RK w5 b S k4 i1 (eAt e4 ns t (q + 1)) := by
                  rw [hst.out]
                  by_cases h1 : e4 = 0
                  · rw [if_pos ⟨h1, hyt⟩]
                    unfold eAt at hk5
                    rw [if_pos h1] at hk5
                    by_cases h2 : hasB (ns.take q) t = true
                    · rw [if_pos h2] at hk5; exact hk5
                    · rw [if_neg h2] at hk5; exact hk5
                  · rw [if_neg (fun h => h1 h.1)]
                    unfold eAt at hk5 ⊢
                    rw [if_neg h1] at hk5 ⊢
                    rw [if_neg h1] at hk5
                    exact hk5
                replace hk5' := Lib.hid hk5'
                clear hfa hb5 hk5 hbx hbx' hkx hst hcell hyy hyt
                go_wp2_with fail
                go_roundw
                case rel => exact ⟨q + 1, by omega, by go_num, hb5'.out, hk5'.out⟩
                case measure => simp [intOf]; omega
              · have hyy : (y.toList == t.toList) = false := jeq_f hyt
                have hk5' : RK wr b S k4 i1 (eAt e4 ns t (q + 1)) := by
                  rw [hst.out, if_neg (fun h => hyt h.2)]
                  exact hkx.out
                replace hk5' := Lib.hid hk5'
                clear hfa hkx hst hyt hbx'
                go_wp2_with fail
                go_roundw
                case rel => exact ⟨q + 1, by omega, by go_num, hbx.out, hk5'.out⟩
                case measure => simp [intOf]; omega
            · have hqe : q = ns.length := by omega
              subst hqe
              have hEr : eAt e4 ns t ns.length = if e4 = 0 then (if hasB ns t = true then 6 else 0) else e4 := by unfold eAt; rw [List.take_length]
              rw [hEr] at hkx
              obtain ⟨e5, hk5, he5⟩ : ∃ e5, RK wr b S k4 i1 e5 ∧ ((e5 = 0 ∧ ∃ t', jtxt (rest S k3) = some (t', rest S k4) ∧ t = ofL t' ∧ ¬ hasB ns t = true) ∨ (e5 ≠ 0 ∧ R = .error e5)) := by
                rcases he4.out with ⟨h1, t', h2, h3⟩ | ⟨h1, h2⟩
                · rw [if_pos h1] at hkx
                  by_cases h4 : hasB ns t = true
                  · rw [if_pos h4] at hkx
                    have hj' := hj.out
                    rw [h2] at hj'
                    dsimp only at hj'
                    rw [← h3, if_pos h4] at hj'
                    exact ⟨6, hkx, .inr ⟨by decide, hj'.symm⟩⟩
                  · rw [if_neg h4] at hkx
                    exact ⟨0, hkx, .inl ⟨rfl, t', h2, h3, h4⟩⟩
                · rw [if_neg h1] at hkx
                  exact ⟨e4, hkx, .inr ⟨h1, h2⟩⟩
              have hBx := hB4.out.trans (hbx.mono hB4s)
              have hsx := hBx.size
              obtain ⟨v', w6, hrun, hO6, hlow6, hb6⟩ := hOx.name t (by omega) hsx
              obtain ⟨⟨A2, cn2, hv2⟩, _⟩ := hO6.form
              rw [show (ns ++ [t]).length = ns.length + 1 by simp] at hv2
              subst hv2
              have hk6 : RK w6 b S k4 i1 e5 := (hlow6 b hk5.lt hlt0).trans hk5
              have hB6 := hBx.trans (But.of hb6)
              have hb1 := Lib.hid (hBl.out k4 i1 e5 w6 hk6 hs4)
              replace hrun := Lib.hid hrun
              replace hO6 := Lib.hid hO6
              replace hB6 := Lib.hid hB6
              replace he5 := Lib.hid he5
              clear hkx hEr hk5 hOx hbx hbxs hBx hsx hlow6 hb6 hk6 he4 hO4 hB4 hq0
              go_wp2_with (at_builtin; refine jl_append_run (by rfl) _ _ 22 22 rfl (.slice A ns.length cn) (.slice (some ⟨wr.heap.size, 0, none⟩) 1 1) _ rfl rfl hrun.out ?_)
              refine hb1.out.mono ?_
              rintro en w7 ⟨rfl, hb7, k7, hk7, ha7, hs7, hj7, hz7⟩
              have hB7 := Lib.hid (hB6.out.trans (hb7.mono hB6.out.size))
              have hO7 := Lib.hid (hO6.out.but hb7 hlt0)
              have htd := hTd.out k7 i1 e5 w7 hk7 hs7
              obtain ⟨T, hT⟩ : ∃ T, (decide (e5 = 0) && ([58] : List UInt8).isPrefixOf (rest S k7)) = T := ⟨_, rfl⟩
              rw [hT] at htd
              replace htd := Lib.hid htd
              replace hj7 := Lib.hid hj7
              replace hT := Lib.hid hT
              clear hb1 hb7 hk7 hB6 hO6 hrun
              go_wp2_with fail
              refine htd.out.mono ?_
              rintro en w8 ⟨rfl, hb8, hk8⟩
              have hB8 := Lib.hid (hB7.out.trans (hb8.mono hB7.out.size))
              have hO8 := Lib.hid (hO7.out.but hb8 hlt0)
              clear htd hb8 hB7 hO7
              cases T
              · rw [if_neg (by decide)] at hk8
                have hfa := Lib.hid (rrFail_any b k7 i1 S e5 4 w8 hk8)
                clear hk8
                go_wp2_with fail
                refine hfa.out.mono ?_
                rintro en w9 ⟨rfl, hb9, hk9⟩
                have hB9 := Lib.hid (hB8.out.trans (hb9.mono hB8.out.size))
                have hO9 := Lib.hid (hO8.out.but hb9 hlt0)
                obtain ⟨e9, hk9', he9⟩ : ∃ e9, RK w9 b S k7 i1 e9 ∧ e9 ≠ 0 ∧ R = .error e9 := by
                  rcases he5.out with ⟨h1, t', h2, h3, h4⟩ | ⟨h1, h2⟩
                  · rw [if_pos h1] at hk9
                    have hj' := hj.out
                    rw [h2] at hj'
                    dsimp only at hj'
                    rw [← h3, if_neg h4] at hj'
                    have h5 := hT.out
                    rw [h1, decide_eq_true rfl, Bool.true_and, hj7.out h1] at h5
                    rw [h5, if_neg (by decide)] at hj'
                    exact ⟨4, hk9, by decide, hj'.symm⟩
                  · rw [if_neg h1] at hk9
                    exact ⟨e5, hk9, h1, h2⟩
                have hb1 := Lib.hid (hBl.out k7 i1 e9 w9 hk9' hs7)
                replace he9 := Lib.hid he9
                clear hfa hb9 hk9 hk9' hB8 hO8 he5 hT hj7
                go_wp2_with fail
                refine hb1.out.mono ?_
                rintro en w10 ⟨rfl, hb10, k10, hk10, ha10, hs10, _, _⟩
                have hMd : MdI b k10 it S w (oneG true val) endb val R (.slice A2 (ns.length + 1) cn2) (.slice A' l.length cl) w10 := ⟨hB9.out.trans (hb10.mono hB9.out.size), k10, i1, e9, ns ++ [t], l, ws, hk10, by omega, hs10, hi2, hi3, hO9.out.but hb10 hlt0, hll, by simp; omega, .inr he9.out⟩
                have hmd : lenR wo b = S.size + 1 - k ∧ k ≤ k10 := ⟨hmm.out, by omega⟩
                clear hb1 hb10 hk10 hB9 hO9 he9 hmm hj
                obtain ⟨hBm, km, im, em, nsm, lm, wsm, hkm, hma, hmb, him, him2, hOm, hlm, hnm, hRm⟩ := hMd
                have hVm := hV.out km im em _ hkm hmb him
                obtain ⟨X, hX⟩ : ∃ X, (if em = 0 then val im (rest S km) else .error em : JR) = X := ⟨_, rfl⟩
                rw [hX] at hVm
                obtain ⟨⟨Bn, bn, hBn⟩, ⟨Bl, bl, hBl2⟩⟩ := hOm.form
                replace hX := Lib.hid hX
                replace hVm := Lib.hid hVm
                replace hBm := Lib.hid hBm
                replace hOm := Lib.hid hOm
                replace hRm := Lib.hid hRm
                replace hBn := Lib.hid hBn
                replace hBl2 := Lib.hid hBl2
                clear hkm
                go_wp2_with fail
                refine hVm.out.mono ?_
                rintro en u1 ⟨hbu, ku, iu, eu, vn, vl, x, rfl, hku, hua, hub, hiu, hOu, hXu⟩
                have hRu := md_after (p := iu ≤ 65536 ∧ im < iu) hX.out.symm hRm.out hXu
                have hBu := hBm.out.trans (hbu.mono hBm.out.size)
                obtain ⟨v', u2, ws', hrun, hO2, hb2⟩ := hOm.out.value hbu hlt0 hBm.out.size hOu (by omega)
                obtain ⟨Ax, nx, cx, Ay, ny, cy, rfl, rfl⟩ := hOu.forms
                have hk2 : RK u2 b S ku iu eu := (hb2.block b hlt0).trans hku
                have hB2 := hBu.trans (But.of hb2)
                have hb3 := Lib.hid (hBl.out ku iu eu u2 hk2 hub)
                replace hrun := Lib.hid hrun
                replace hO2 := Lib.hid hO2
                replace hB2 := Lib.hid hB2
                replace hRu := Lib.hid hRu
                clear hVm hX hRm hbu hku hOu hXu hBu hb2 hk2 hOm hBm
                go_wp2_with (at_builtin; refine jl_append_run (by rfl) _ _ 23 23 rfl (.slice A' l.length cl) (.slice (some ⟨u1.heap.size, 0, none⟩) 1 1) _ rfl rfl hrun.out ?_)
                refine hb3.out.mono ?_
                rintro en u3 ⟨rfl, hb4, k3', hk3', ha3', hs3', hj3', hz3'⟩
                have hB3' := Lib.hid (hB2.out.trans (hb4.mono hB2.out.size))
                have hO3' := Lib.hid (hO2.out.but hb4 hlt0)
                have hte := hTe.out k3' iu eu u3 hk3' hs3'
                obtain ⟨T1, hT1⟩ : ∃ T1, (decide (eu = 0) && ([endb] : List UInt8).isPrefixOf (rest S k3')) = T1 := ⟨_, rfl⟩
                rw [hT1] at hte
                replace hte := Lib.hid hte
                replace hT1 := Lib.hid hT1
                replace hj3' := Lib.hid hj3'
                clear hb3 hb4 hk3' hB2 hO2 hrun hz3'
                go_wp2_with fail
                refine hte.out.mono ?_
                rintro en u4 ⟨rfl, hb5, hk5'⟩
                have hB5' := Lib.hid (hB3'.out.trans (hb5.mono hB3'.out.size))
                have hO5' := Lib.hid (hO3'.out.but hb5 hlt0)
                clear hte hb5 hB3' hO3'
                cases T1
                · rw [if_neg (by decide)] at hk5'
                  have htc := hTc.out k3' iu eu u4 hk5' hs3'
                  obtain ⟨T2, hT2⟩ : ∃ T2, (decide (eu = 0) && ([44] : List UInt8).isPrefixOf (rest S k3')) = T2 := ⟨_, rfl⟩
                  rw [hT2] at htc
                  replace htc := Lib.hid htc
                  replace hT2 := Lib.hid hT2
                  clear hk5'
                  go_wp2_with fail
                  refine htc.out.mono ?_
                  rintro en u5 ⟨rfl, hb6, hk6'⟩
                  have hB6' := Lib.hid (hB5'.out.trans (hb6.mono hB5'.out.size))
                  have hO6' := Lib.hid (hO5'.out.but hb6 hlt0)
                  clear htc hb6 hB5' hO5'
                  cases T2
                  · rw [if_neg (by decide)] at hk6'
                    have hfa := Lib.hid (rrFail_any b k3' iu S eu 4 u5 hk6')
                    clear hk6'
                    go_wp2_with fail
                    refine hfa.out.mono ?_
                    rintro en u6 ⟨rfl, hb7, hk7'⟩
                    have hfin : LsI b k0 it S w (oneG true val) endb R (.slice A2 (ns.length + 1) cn2) v' u6 ∧ lenR u6 b < lenR wo b := by
                      rcases hRu.out with ⟨h1, h2, h3, h4⟩ | ⟨h1, h2⟩
                      · rw [if_pos h1] at hk7'
                        have hp1 := hT1.out
                        have hp2 := hT2.out
                        rw [h1, decide_eq_true rfl, Bool.true_and, hj3'.out h1] at hp1 hp2
                        rw [cont_no (by rw [hp1]; decide) (by rw [hp2]; decide)] at h2
                        refine ⟨⟨hB6'.out.trans (hb7.mono hB6'.out.size), k3', iu, 4, _, _, _, hk7', by omega, hs3', by omega, hO6'.out.but hb7 hlt0, .inr ⟨by decide, h2.symm⟩⟩, ?_⟩
                        rw [lenR_of hk7', if_neg (by decide), hmd.1]; omega
                      · rw [if_neg h1] at hk7'
                        refine ⟨⟨hB6'.out.trans (hb7.mono hB6'.out.size), k3', iu, eu, _, _, _, hk7', by omega, hs3', by omega, hO6'.out.but hb7 hlt0, .inr ⟨h1, h2⟩⟩, ?_⟩
                        rw [lenR_of hk7', if_neg h1, hmd.1]; omega
                    replace hfin := Lib.hid hfin
                    clear hfa hb7 hk7' hB6' hO6' hT1 hT2 hj3' hRu
                    go_wp2_with fail
                    go_roundw
                    case rel => exact hfin.out.1
                    case measure => exact hfin.out.2
                  · rw [if_pos rfl] at hk6'
                    have hT2t := hT2.out
                    rw [Bool.and_eq_true, decide_eq_true_eq] at hT2t
                    obtain ⟨rfl, hp44⟩ := hT2t
                    obtain ⟨r44, hr44⟩ := pre_cons hp44
                    obtain ⟨hk44, hr45⟩ := rest_next hr44
                    have hfin : LsI b k0 it S w (oneG true val) endb R (.slice A2 (ns.length + 1) cn2) v' u5 ∧ lenR u5 b < lenR wo b := by
                      rcases hRu.out with ⟨_, h2, h3, h4⟩ | ⟨h1, _⟩
                      · rw [hj3'.out rfl] at hr44
                        rw [cont_more hr44, ← hr45] at h2
                        refine ⟨⟨hB6'.out, k3' + 1, iu, 0, _, _, _, hk6', by omega, by omega, by omega, hO6'.out, .inl ⟨rfl, h3, by omega, by simp; omega, by simp; omega, h2⟩⟩, ?_⟩
                        rw [lenR_of hk6', if_pos rfl, hmd.1]; omega
                      · exact absurd rfl h1
                    replace hfin := Lib.hid hfin
                    clear hk6' hB6' hO6' hT1 hT2 hj3' hRu hp44 hr44 hr45
                    go_wp2_with fail
                    go_roundw
                    case rel => exact hfin.out.1
                    case measure => exact hfin.out.2
                · rw [if_pos rfl] at hk5'
                  have hT1t := hT1.out
                  rw [Bool.and_eq_true, decide_eq_true_eq] at hT1t
                  obtain ⟨rfl, hpe⟩ := hT1t
                  obtain ⟨re, hre⟩ := pre_cons hpe
                  obtain ⟨hke, hre2⟩ := rest_next hre
                  have hfin : RLsEnd b k0 it S R w (.returned (.tuple #[.slice A2 (ns.length + 1) cn2, v'])) u4 := by
                    rcases hRu.out with ⟨_, h2, h3, h4⟩ | ⟨h1, _⟩
                    · rw [hj3'.out rfl] at hre
                      rw [cont_end hne hre, ← hre2] at h2
                      exact ⟨hB5'.out, k3' + 1, iu, 0, _, _, _, _, _, rfl, hk5', by omega, by omega, by omega, hO5'.out, .inl ⟨rfl, h2.symm, h3, by omega⟩⟩
                    · exact absurd rfl h1
                  replace hfin := Lib.hid hfin
                  clear hk5' hB5' hO5' hT1 hj3' hRu hpe hre hre2
                  go_wp2_with fail
                  go_ret2
                  exact hfin.out
              · rw [if_pos rfl] at hk8
                have hTt := hT.out
                rw [Bool.and_eq_true, decide_eq_true_eq] at hTt
                obtain ⟨rfl, hp58⟩ := hTt
                obtain ⟨r58, hr58⟩ := pre_cons hp58
                obtain ⟨hk7s, hr59⟩ := rest_next hr58
                have hb1 := Lib.hid (hBl.out (k7 + 1) i1 0 w8 hk8 (by omega))
                clear hk8 hT
                go_wp2_with fail
                refine hb1.out.mono ?_
                rintro en w10 ⟨rfl, hb10, k10, hk10, ha10, hs10, hj10, _⟩
                have hjf : contR (oneG true val) endb (ns ++ [t]) l (val i1 (rest S k10)) = R := by
                  rcases he5.out with ⟨_, t', h2, h3, h4⟩ | ⟨h1, _⟩
                  · have hj' := hj.out
                    rw [h2] at hj'
                    dsimp only at hj'
                    rw [← h3, if_neg h4, ← hj7.out (by first | rfl | trivial), if_pos hp58] at hj'
                    dsimp only at hj'
                    rw [hr58, List.drop_succ_cons, List.drop_zero, ← hr59, ← hj10 rfl] at hj'
                    exact hj'
                  · exact absurd rfl h1
                have hMd : MdI b k10 it S w (oneG true val) endb val R (.slice A2 (ns.length + 1) cn2) (.slice A' l.length cl) w10 := ⟨hB8.out.trans (hb10.mono hB8.out.size), k10, i1, 0, ns ++ [t], l, ws, hk10, by omega, hs10, hi2, hi3, hO8.out.but hb10 hlt0, hll, by simp; omega, .inl ⟨rfl, hjf⟩⟩
                have hmd : lenR wo b = S.size + 1 - k ∧ k ≤ k10 := ⟨hmm.out, by omega⟩
                clear hb1 hb10 hk10 hj10 hB8 hO8 he5 hmm hj hj7 hjf hp58 hr58 hr59 hz7
                obtain ⟨hBm, km, im, em, nsm, lm, wsm, hkm, hma, hmb, him, him2, hOm, hlm, hnm, hRm⟩ := hMd
                have hVm := hV.out km im em _ hkm hmb him
                obtain ⟨X, hX⟩ : ∃ X, (if em = 0 then val im (rest S km) else .error em : JR) = X := ⟨_, rfl⟩
                rw [hX] at hVm
                obtain ⟨⟨Bn, bn, hBn⟩, ⟨Bl, bl, hBl2⟩⟩ := hOm.form
                replace hX := Lib.hid hX
                replace hVm := Lib.hid hVm
                replace hBm := Lib.hid hBm
                replace hOm := Lib.hid hOm
                replace hRm := Lib.hid hRm
                replace hBn := Lib.hid hBn
                replace hBl2 := Lib.hid hBl2
                clear hkm
                go_wp2_with fail
                refine hVm.out.mono ?_
                rintro en u1 ⟨hbu, ku, iu, eu, vn, vl, x, rfl, hku, hua, hub, hiu, hOu, hXu⟩
                have hRu := md_after (p := iu ≤ 65536 ∧ im < iu) hX.out.symm hRm.out hXu
                have hBu := hBm.out.trans (hbu.mono hBm.out.size)
                obtain ⟨v', u2, ws', hrun, hO2, hb2⟩ := hOm.out.value hbu hlt0 hBm.out.size hOu (by omega)
                obtain ⟨Ax, nx, cx, Ay, ny, cy, rfl, rfl⟩ := hOu.forms
                have hk2 : RK u2 b S ku iu eu := (hb2.block b hlt0).trans hku
                have hB2 := hBu.trans (But.of hb2)
                have hb3 := Lib.hid (hBl.out ku iu eu u2 hk2 hub)
                replace hrun := Lib.hid hrun
                replace hO2 := Lib.hid hO2
                replace hB2 := Lib.hid hB2
                replace hRu := Lib.hid hRu
                clear hVm hX hRm hbu hku hOu hXu hBu hb2 hk2 hOm hBm
                go_wp2_with (at_builtin; refine jl_append_run (by rfl) _ _ 23 23 rfl (.slice A' l.length cl) (.slice (some ⟨u1.heap.size, 0, none⟩) 1 1) _ rfl rfl hrun.out ?_)
                refine hb3.out.mono ?_
                rintro en u3 ⟨rfl, hb4, k3', hk3', ha3', hs3', hj3', hz3'⟩
                have hB3' := Lib.hid (hB2.out.trans (hb4.mono hB2.out.size))
                have hO3' := Lib.hid (hO2.out.but hb4 hlt0)
                have hte := hTe.out k3' iu eu u3 hk3' hs3'
                obtain ⟨T1, hT1⟩ : ∃ T1, (decide (eu = 0) && ([endb] : List UInt8).isPrefixOf (rest S k3')) = T1 := ⟨_, rfl⟩
                rw [hT1] at hte
                replace hte := Lib.hid hte
                replace hT1 := Lib.hid hT1
                replace hj3' := Lib.hid hj3'
                clear hb3 hb4 hk3' hB2 hO2 hrun hz3'
                go_wp2_with fail
                refine hte.out.mono ?_
                rintro en u4 ⟨rfl, hb5, hk5'⟩
                have hB5' := Lib.hid (hB3'.out.trans (hb5.mono hB3'.out.size))
                have hO5' := Lib.hid (hO3'.out.but hb5 hlt0)
                clear hte hb5 hB3' hO3'
                cases T1
                · rw [if_neg (by decide)] at hk5'
                  have htc := hTc.out k3' iu eu u4 hk5' hs3'
                  obtain ⟨T2, hT2⟩ : ∃ T2, (decide (eu = 0) && ([44] : List UInt8).isPrefixOf (rest S k3')) = T2 := ⟨_, rfl⟩
                  rw [hT2] at htc
                  replace htc := Lib.hid htc
                  replace hT2 := Lib.hid hT2
                  clear hk5'
                  go_wp2_with fail
                  refine htc.out.mono ?_
                  rintro en u5 ⟨rfl, hb6, hk6'⟩
                  have hB6' := Lib.hid (hB5'.out.trans (hb6.mono hB5'.out.size))
                  have hO6' := Lib.hid (hO5'.out.but hb6 hlt0)
                  clear htc hb6 hB5' hO5'
                  cases T2
                  · rw [if_neg (by decide)] at hk6'
                    have hfa := Lib.hid (rrFail_any b k3' iu S eu 4 u5 hk6')
                    clear hk6'
                    go_wp2_with fail
                    refine hfa.out.mono ?_
                    rintro en u6 ⟨rfl, hb7, hk7'⟩
                    have hfin : LsI b k0 it S w (oneG true val) endb R (.slice A2 (ns.length + 1) cn2) v' u6 ∧ lenR u6 b < lenR wo b := by
                      rcases hRu.out with ⟨h1, h2, h3, h4⟩ | ⟨h1, h2⟩
                      · rw [if_pos h1] at hk7'
                        have hp1 := hT1.out
                        have hp2 := hT2.out
                        rw [h1, decide_eq_true rfl, Bool.true_and, hj3'.out h1] at hp1 hp2
                        rw [cont_no (by rw [hp1]; decide) (by rw [hp2]; decide)] at h2
                        refine ⟨⟨hB6'.out.trans (hb7.mono hB6'.out.size), k3', iu, 4, _, _, _, hk7', by omega, hs3', by omega, hO6'.out.but hb7 hlt0, .inr ⟨by decide, h2.symm⟩⟩, ?_⟩
                        rw [lenR_of hk7', if_neg (by decide), hmd.1]; omega
                      · rw [if_neg h1] at hk7'
                        refine ⟨⟨hB6'.out.trans (hb7.mono hB6'.out.size), k3', iu, eu, _, _, _, hk7', by omega, hs3', by omega, hO6'.out.but hb7 hlt0, .inr ⟨h1, h2⟩⟩, ?_⟩
                        rw [lenR_of hk7', if_neg h1, hmd.1]; omega
                    replace hfin := Lib.hid hfin
                    clear hfa hb7 hk7' hB6' hO6' hT1 hT2 hj3' hRu
                    go_wp2_with fail
                    go_roundw
                    case rel => exact hfin.out.1
                    case measure => exact hfin.out.2
                  · rw [if_pos rfl] at hk6'
                    have hT2t := hT2.out
                    rw [Bool.and_eq_true, decide_eq_true_eq] at hT2t
                    obtain ⟨rfl, hp44⟩ := hT2t
                    obtain ⟨r44, hr44⟩ := pre_cons hp44
                    obtain ⟨hk44, hr45⟩ := rest_next hr44
                    have hfin : LsI b k0 it S w (oneG true val) endb R (.slice A2 (ns.length + 1) cn2) v' u5 ∧ lenR u5 b < lenR wo b := by
                      rcases hRu.out with ⟨_, h2, h3, h4⟩ | ⟨h1, _⟩
                      · rw [hj3'.out rfl] at hr44
                        rw [cont_more hr44, ← hr45] at h2
                        refine ⟨⟨hB6'.out, k3' + 1, iu, 0, _, _, _, hk6', by omega, by omega, by omega, hO6'.out, .inl ⟨rfl, h3, by omega, by simp; omega, by simp; omega, h2⟩⟩, ?_⟩
                        rw [lenR_of hk6', if_pos rfl, hmd.1]; omega
                      · exact absurd rfl h1
                    replace hfin := Lib.hid hfin
                    clear hk6' hB6' hO6' hT1 hT2 hj3' hRu hp44 hr44 hr45
                    go_wp2_with fail
                    go_roundw
                    case rel => exact hfin.out.1
                    case measure => exact hfin.out.2
                · rw [if_pos rfl] at hk5'
                  have hT1t := hT1.out
                  rw [Bool.and_eq_true, decide_eq_true_eq] at hT1t
                  obtain ⟨rfl, hpe⟩ := hT1t
                  obtain ⟨re, hre⟩ := pre_cons hpe
                  obtain ⟨hke, hre2⟩ := rest_next hre
                  have hfin : RLsEnd b k0 it S R w (.returned (.tuple #[.slice A2 (ns.length + 1) cn2, v'])) u4 := by
                    rcases hRu.out with ⟨_, h2, h3, h4⟩ | ⟨h1, _⟩
                    · rw [hj3'.out rfl] at hre
                      rw [cont_end hne hre, ← hre2] at h2
                      exact ⟨hB5'.out, k3' + 1, iu, 0, _, _, _, _, _, rfl, hk5', by omega, by omega, by omega, hO5'.out, .inl ⟨rfl, h2.symm, h3, by omega⟩⟩
                    · exact absurd rfl h1
                  replace hfin := Lib.hid hfin
                  clear hk5' hB5' hO5' hT1 hj3' hRu hpe hre hre2
                  go_wp2_with fail
                  go_ret2
                  exact hfin.out
      · have he2 : (e == 0) = false := by simp [he]
        replace hB := Lib.hid hB
        replace hk := Lib.hid hk
        clear hO p0 p1 p2
        go_wp2_with fail
        go_ret2
        exact ⟨hB.out, k, i1, e, _, _, [], [], [], rfl, hk.out, hka, hkb, hi1, ORow.nil _ _, .inr ⟨he, rfl, rfl, rfl⟩⟩
end Go.Proofs.YtamcbgkppgdniaaGreatDoor
