/-
  The walk of rostrumref06.Length: what it computes.
-/
import Derived.Test.YtccfdecpiekeoaaGreatDoorFraB
namespace Go.Proofs.YtccfdecpiekeoaaGreatDoor
open Go.RowKit

/-- A number found so far; -1: none. -/
def EncN (m : Int) (cur : Option Nat) : Prop := (cur = none ∧ m = -1) ∨ ∃ k, cur = some k ∧ 0 ≤ m ∧ m ≤ 2000000000 ∧ min m.toNat 262145 = k
def LenREnd (R : Option Nat) (e : Ending) : Prop := ∃ r : Int, e = .returned (.int .i64 r) ∧ EncN r R
theorem lenREnd_none {R : Option Nat} (h : R = none) : LenREnd R (.returned (.int .i64 (-1))) := ⟨-1, rfl, Or.inl ⟨h, rfl⟩⟩
theorem encN_bd {m : Int} {cur : Option Nat} (h : EncN m cur) : -1 ≤ m ∧ m ≤ 2000000000 := by
  rcases h with ⟨_, h⟩ | ⟨_, _, h1, h2, _⟩ <;> omega

set_option maxHeartbeats 2000000 in
theorem refLength_any (s : ByteArray) (l : List UInt8) (w : World) (hl : s.data.toList = l ++ fCr) (hs : s.size ≤ 1099511627776) :
    Calls Tryz.prog 29 #[.string s] w fun e w' => LenREnd (headL l) e ∧ w = w' := by
  obtain ⟨R, hR⟩ : ∃ R, headL l = R := ⟨_, rfl⟩
  rw [hR]
  have h0 : Left s.data.toList (linesL l) := Or.inr ⟨l, hl, rfl⟩
  have hg : goH (linesL l) none = R := hR
  clear hl hR
  replace hg := Lib.hid hg
  go_enter Tryz.func29, Tryz.ntmps29
  go_wp2_with fail
  go_loop [0, 3] (fun h n => ∃ (H : ByteArray) (m : Int) (cur : Option Nat) (r : List (List UInt8)), h = .string H ∧ n = .int .i64 m ∧ H.size ≤ 1099511627776 ∧ EncN m cur ∧ Left H.data.toList r ∧ goH r cur = R) (fun h _ => match h with | .string H => H.size | _ => 0)
  case atStart => exact ⟨s, -1, none, linesL l, rfl, rfl, hs, Or.inl ⟨rfl, rfl⟩, h0, hg.out⟩
  case round =>
    obtain ⟨H, m, cur, r, rfl, rfl, hH, henc, hleft, hgo⟩ := hrel
    clear h0 hg
    have hHl := bytes_len H
    obtain ⟨hm1, hm2⟩ := encN_bd henc
    replace henc := Lib.hid henc
    by_cases hne : H.data.toList = []
    · have he := empty_t hne
      rw [hne] at hleft
      have hr := left_nil hleft
      subst hr
      have hR : R = cur := hgo.symm
      clear hne hleft hgo hHl
      replace hR := Lib.hid hR
      go_wp2_with fail
      go_ret
      exact ⟨⟨m, rfl, by rw [hR.out]; exact henc.out⟩, rfl⟩
    · have he := empty_f hne
      obtain ⟨i, r', hr, hidx, hi2, hleft'⟩ := left_step hleft hne
      subst hr
      rw [hHl] at hi2
      have hfind : ∀ W, Calls Tryz.prog 28 #[.string H, .string ⟨#[13, 10]⟩, .int .i64 0] W fun e w' => e = .returned (.int .i64 i) ∧ W = w' := fun W => by
        have := refFind_any H ⟨#[13, 10]⟩ W (by decide) hH (by decide)
        rw [show (⟨#[13, 10]⟩ : ByteArray).data.toList = fCr from rfl, hidx] at this
        exact this
      obtain ⟨L, hL⟩ : ∃ L : ByteArray, H.extract 0 i = L := ⟨_, rfl⟩
      have hLd : H.data.toList.take i = L.data.toList := by rw [← hL, Lib.extract_from_zero]
      have hLs : L.size = i := by rw [← bytes_len, ← hLd, List.length_take, hHl]; omega
      have hrest : (H.extract (i + 2) H.size).data.toList = H.data.toList.drop (i + 2) := Lib.extract_to_end _ _
      have hrs : (H.extract (i + 2) H.size).size = H.size - (i + 2) := by rw [← bytes_len, hrest, List.length_drop, hHl]
      rw [hLd] at hgo
      rw [← hrest] at hleft'
      clear hne hleft hidx hHl hLd hrest
      replace hfind := Lib.hid hfind
      replace hleft' := Lib.hid hleft'
      replace hrs := Lib.hid hrs
      have hL' := Lib.hid hL
      clear hL
      have hcol := fun W => refFind_any L ⟨#[58]⟩ W (by decide) (by omega) (by decide)
      rw [show (⟨#[58]⟩ : ByteArray).data.toList = fColon from rfl] at hcol
      have hLs2 : L.size ≤ 1099511627776 := by omega
      clear hLs
      go_wp2_with fail
      refine (hfind.out _).mono ?_
      rintro e w1 ⟨rfl, rfl⟩
      rcases hcj : idx L.data.toList fColon with _ | j
      · rw [idx_int_none hcj] at hcol
        have hR := goH_none r' cur (lineL_none hcj)
        rw [hgo] at hR
        clear hcj hgo
        replace hcol := Lib.hid hcol
        replace hR := Lib.hid hR
        go_wp2_with fail
        rw [hL'.out]
        refine (hcol.out _).mono ?_
        rintro e w1 ⟨rfl, rfl⟩
        go_wp2_with fail
        go_ret
        exact ⟨lenREnd_none hR.out, rfl⟩
      · rw [idx_int hcj] at hcol
        have hjl := idx_lt fColon_ne hcj
        rw [bytes_len] at hjl
        have hj1 : j + 1 ≤ L.size := hjl
        obtain ⟨Nm, hNm⟩ : ∃ Nm : ByteArray, L.extract 0 j = Nm := ⟨_, rfl⟩
        have hNd : Nm.data.toList = L.data.toList.take j := by rw [← hNm, Lib.extract_from_zero]
        have hNs : Nm.size ≤ 1099511627776 := by rw [← bytes_len, hNd, List.length_take]; omega
        have hnam : ∀ W, Calls Tryz.prog 34 #[.string Nm] W fun e w' => NamedEnd (L.data.toList.take j) e ∧ W = w' := fun W => by
          have := refNamed_any Nm W hNs
          rw [hNd] at this
          exact this
        replace hNm := Lib.hid hNm
        clear hNd hNs hjl
        replace hcol := Lib.hid hcol
        replace hnam := Lib.hid hnam
        go_wp2_with fail
        rw [hL'.out]
        refine (hcol.out _).mono ?_
        rintro e w1 ⟨rfl, rfl⟩
        by_cases hbad : L.data.toList.take j = [] ∨ (L.data.toList.take j).all isNm = false
        · have hR := goH_none r' cur (lineL_bad hcj hbad)
          rw [hgo] at hR
          have hna : (namedL (L.data.toList.take j)).2 = false := by
            unfold namedL
            rcases hbad with h | h
            · rw [h]; rfl
            · rw [h]; rfl
          obtain ⟨a, b, hab⟩ : ∃ a b, namedL (L.data.toList.take j) = (a, b) := ⟨_, _, rfl⟩
          have hb : b = false := by rw [hab] at hna; exact hna
          subst hb
          clear hcj hgo hbad hna
          replace hR := Lib.hid hR
          go_wp2_with fail
          rw [hNm.out]
          refine (hnam.out _).mono ?_
          unfold NamedEnd
          rw [hab]
          clear hab
          rintro e w1 ⟨rfl, rfl⟩
          go_wp2_with fail
          go_ret
          exact ⟨lenREnd_none hR.out, rfl⟩
        · have hna : namedL (L.data.toList.take j) = (decide ((L.data.toList.take j).map lowB = clName), true) := by
            unfold namedL
            have h2 : (L.data.toList.take j).all isNm = true := by
              cases hh : (L.data.toList.take j).all isNm
              · exact absurd (Or.inr hh) hbad
              · rfl
            rw [h2, if_pos rfl, decide_eq_true (p := L.data.toList.take j ≠ []) (fun h => hbad (Or.inl h))]
          by_cases hcl : (L.data.toList.take j).map lowB = clName
          · rw [decide_eq_true hcl] at hna
            have hlen := lineL_len hcj hbad hcl
            obtain ⟨V, hV⟩ : ∃ V : ByteArray, L.extract (j + 1) L.size = V := ⟨_, rfl⟩
            have hVd : V.data.toList = L.data.toList.drop (j + 1) := by rw [← hV, Lib.extract_to_end]
            have hVs : V.size ≤ 1099511627776 := by rw [← bytes_len, hVd, List.length_drop, bytes_len]; omega
            rw [← hVd] at hlen
            clear hcj hbad hcl hVd
            replace hV := Lib.hid hV
            have htr := Lib.hid (fun W => refTrim_any V W hVs)
            by_cases hm : 0 ≤ m
            · have hR : R = none := by
                rcases henc.out with ⟨_, h⟩ | ⟨k, h, _⟩
                · omega
                · rw [← hgo, h]
                  apply goH_twice
                  rw [hlen]
                  cases numL (trimB V.data.toList)
                  · exact Or.inl rfl
                  · exact Or.inr ⟨_, rfl⟩
              clear hgo hlen htr
              replace hR := Lib.hid hR
              go_wp2_with fail
              rw [hNm.out]
              refine (hnam.out _).mono ?_
              unfold NamedEnd
              rw [hna]
              clear hna
              rintro e w1 ⟨rfl, rfl⟩
              go_wp2_with fail
              go_ret
              exact ⟨lenREnd_none hR.out, rfl⟩
            · have hcur : cur = none := by
                rcases henc.out with ⟨h, _⟩ | ⟨k, _, h, _⟩
                · exact h
                · omega
              subst hcur
              replace hgo := Lib.hid hgo
              replace hlen := Lib.hid hlen
              go_wp2_with fail
              rw [hNm.out]
              refine (hnam.out _).mono ?_
              unfold NamedEnd
              rw [hna]
              clear hna
              rintro e w1 ⟨rfl, rfl⟩
              go_wp2_with fail
              rw [hV.out]
              refine (htr.out _).mono ?_
              rintro e w1 ⟨⟨T, rfl, hT, hTs⟩, rfl⟩
              rw [← hT] at hlen
              clear hT htr
              go_wp2_with fail
              refine (refNumber_any T _ (by omega)).mono ?_
              rintro e w1 ⟨⟨q, rfl, hq, hqn, hqs⟩, rfl⟩
              rcases hnl : numL T.data.toList with _ | k
              · have hq1 := hqn hnl
                have hR : R = none := by
                  rw [← hgo.out]
                  apply goH_none
                  rw [hlen.out, hnl]
                subst hq1
                clear hqs hqn hnl hlen hgo
                replace hR := Lib.hid hR
                go_wp2_with fail
                go_ret
                exact ⟨lenREnd_none hR.out, rfl⟩
              · obtain ⟨hq0, hqk⟩ := hqs k hnl
                have hR : goH r' (some k) = R := by
                  rw [← hgo.out]
                  symm
                  apply goH_len
                  rw [hlen.out, hnl]
                have hen2 : EncN q (some k) := Or.inr ⟨k, rfl, hq0, hq, hqk⟩
                clear hqs hqn hnl hlen hgo hqk
                replace hR := Lib.hid hR
                replace hen2 := Lib.hid hen2
                go_wp2_with fail
                go_round
                case rel => exact ⟨_, q, some k, r', rfl, rfl, by rw [hrs.out]; omega, hen2.out, hleft'.out, hR.out⟩
                case measure => simp only [hrs.out]; omega
          · rw [decide_eq_false hcl] at hna
            have hR : goH r' cur = R := by rw [← hgo, goH_other r' cur (lineL_other hcj hbad hcl)]
            clear hcj hgo hbad hcl
            replace hR := Lib.hid hR
            go_wp2_with fail
            rw [hNm.out]
            refine (hnam.out _).mono ?_
            unfold NamedEnd
            rw [hna]
            clear hna
            rintro e w1 ⟨rfl, rfl⟩
            go_wp2_with fail
            go_round
            case rel => exact ⟨_, m, cur, r', rfl, rfl, by rw [hrs.out]; omega, henc.out, hleft'.out, hR.out⟩
            case measure => simp only [hrs.out]; omega
end Go.Proofs.YtccfdecpiekeoaaGreatDoor
