/-
  The walk of rostrumref06.Cut: the events of the machine.
-/
import Derived.Test.YtccfdecpiekeoaaGreatDoorFraC
import Derived.Test.YtccfdecpiekeoaaGreatDoorFraT
import Derived.OwnWalk
import Derived.Laws.AppendOwnNone
import Derived.Deep.Cut
import Derived.Deep.CutRange
import Derived.BigQuiet
import Derived.Deep.QuietTactic
import Derived.Deep.RegionWith
namespace Go.Proofs.YtccfdecpiekeoaaGreatDoor
open Go.RowKit

theorem infoEvR : (Tryz.prog.info? 51).map (fun i => (i.zero, i.size, i.bytes)) = some (some (.agg #[.string ByteArray.empty, .int .i64 0]), 2, 24) := by kernel_rfl

set_option maxRecDepth 100000 in
set_option maxHeartbeats 4000000 in
theorem refCut_any (s : ByteArray) (w : World) (hs : s.size ≤ 1099511627776) :
    Calls Tryz.prog 24 #[.string s] w (EvEnd 51 w (runF s.data.toList false).evs) := by
  obtain ⟨i0, hi0, hz0, hz1, hz2⟩ := info_parts infoEvR
  obtain ⟨E, hE⟩ : ∃ E, (runF s.data.toList false).evs = E := ⟨_, rfl⟩
  rw [hE]
  replace hE := Lib.hid hE
  go_enter Tryz.func24, Tryz.ntmps24
  go_wp2_with fail
  go_loopw [0, 3, 4] (fun c v q wr => ∃ (S : ByteArray) (k : Bool) (evs : List Evt), c = .string S ∧ q = .bool k ∧ S.size ≤ 1099511627776 ∧ evs.length + S.size ≤ 1099511627776 ∧ wr.ownsRow w.heap.size 51 2 v evs.length (evCells evs) ∧ Below w.heap.size w wr ∧ evs ++ (runF S.data.toList k).evs = E) (fun c _ q _ => 2 * szOf c + blOf q)
  case atStart => exact ⟨s, false, [], rfl, rfl, hs, by simpa using hs, World.ownsRow_nil _ _ _ _, Below.refl _ _, hE.out⟩
  case round =>
    obtain ⟨S, k, evs, rfl, rfl, hS, hlen, hown, hB, hrun⟩ := hrel
    clear hE
    have hSl := Lib.hid (bytes_len S)
    replace hown := Lib.hid hown
    replace hB := Lib.hid hB
    have hfin : ∀ X : List Evt, X = E → evs = X → EvEnd 51 w E (.returned u3) wr := fun X h1 h2 => by
      subst h1 h2
      exact ⟨u3, rfl, hown.out, hB.out⟩
    replace hfin := Lib.hid hfin
    cases k
    case' false =>
      obtain ⟨U, rfl⟩ : ∃ U : ByteArray, U = S := ⟨_, rfl⟩
      have hrunU := hrun
      have hU40 := hS
      have hlenU := hlen
      have hms : 2 * U.size ≤ 2 * U.size + 0 := by omega
      clear hrun hS hlen
      go_upto_region 9 with (fail)
    case' true =>
      have hfind := refFind_any S ⟨#[67, 111, 110, 116, 101, 110, 116, 45, 76, 101, 110, 103, 116, 104, 58]⟩ wr (by decide) hS (by decide)
      rw [show (⟨#[67, 111, 110, 116, 101, 110, 116, 45, 76, 101, 110, 103, 116, 104, 58]⟩ : ByteArray).data.toList = fMark from rfl] at hfind
      rcases hmi : idx S.data.toList fMark with _ | i
      · rw [idx_int_none hmi] at hfind
        have hst := st_none hmi
        rw [runF_off (by rw [hst]), hst] at hrun
        replace hrun := Lib.hid hrun
        clear hst
        replace hfind := Lib.hid hfind
        go_wp2_with fail
        refine hfind.out.mono ?_
        rintro e w1 ⟨rfl, rfl⟩
        go_wp2_with fail
        go_ret
        exact hfin.out _ (by simpa using hrun.out) rfl
      rw [idx_int hmi] at hfind
      have hil := idx_lt fMark_ne hmi
      have hst := st_pass hmi
      rw [runF_on (by rw [hst]), hst] at hrun
      simp only [List.nil_append] at hrun
      obtain ⟨U, hU⟩ : ∃ U : ByteArray, S.extract i S.size = U := ⟨_, rfl⟩
      have hUd : U.data.toList = S.data.toList.drop i := by rw [← hU, Lib.extract_to_end]
      have hUs : U.size ≤ S.size := by rw [← bytes_len U, hUd, List.length_drop, hSl.out]; omega
      rw [hSl.out] at hil
      have hi15 : i + 15 ≤ S.size := hil
      have hrunU : evs ++ (runF U.data.toList false).evs = E := by rw [hUd]; exact hrun
      have hms : 2 * U.size ≤ 2 * S.size + 0 := by omega
      have hU40 : U.size ≤ 1099511627776 := by omega
      have hlenU : evs.length + U.size ≤ 1099511627776 := by omega
      clear hrun hst hUd hil hmi
      replace hfind := Lib.hid hfind
      replace hU := Lib.hid hU
      go_wp2_with fail
      refine hfind.out.mono ?_
      rintro e w1 ⟨rfl, rfl⟩
      go_upto_region 9 with (fail)
      rw [hU.out]
      clear hfind hU
    all_goals
      have hfe := refFind_any U ⟨#[13, 10, 13, 10]⟩ wr (by decide) hU40 (by decide)
      rw [show (⟨#[13, 10, 13, 10]⟩ : ByteArray).data.toList = fEnd from rfl] at hfe
      have hUl := Lib.hid (bytes_len U)
      rcases hci : idx U.data.toList fEnd with _ | i
      · rw [idx_int_none hci] at hfe
        replace hfe := Lib.hid hfe
        by_cases hlt : U.size < 1028
        · have hst := st_wait hci (by rw [hUl.out]; exact hlt)
          have hev : evs = E := by rw [← hrunU, runF_off (by rw [hst]), hst, List.append_nil]
          clear hst hrunU hci
          replace hev := Lib.hid hev
          go_wp2_with fail
          refine hfe.out.mono ?_
          rintro e w1 ⟨rfl, rfl⟩
          go_wp2_with fail
          go_ret
          exact hfin.out _ hev.out rfl
        · have hst := st_long (Or.inl hci) (by rw [hUl.out]; exact hlt)
          obtain ⟨V, hV⟩ : ∃ V : ByteArray, U.extract 1 U.size = V := ⟨_, rfl⟩
          have hVd : V.data.toList = U.data.toList.drop 1 := by rw [← hV, Lib.extract_to_end]
          have hVs : V.size = U.size - 1 := by rw [← bytes_len, hVd, List.length_drop, hUl.out]
          have hrun2 : (evs ++ [([], 72)]) ++ (runF V.data.toList true).evs = E := by
            rw [← hrunU, runF_on (h := U.data.toList) (k := false) (by rw [hst]), hst, hVd, List.append_assoc]
          clear hst hVd hrunU hci
          replace hV := Lib.hid hV
          replace hVs := Lib.hid hVs
          replace hrun2 := Lib.hid hrun2
          go_wp2_with fail
          refine hfe.out.mono ?_
          rintro e w1 ⟨rfl, rfl⟩
          go_wp2_with (at_builtin; refine wpList_append_own _ rfl _ _ 34 rfl w.heap.size 51 i0 _ 2 24 Tryz.underlying34 hi0 hz0 hz1 hz2 rfl (by decide) _ _ _ rfl (hown.out.alloc _) ⟨wr.heap.size, 0, none⟩ 1 1 [.string ⟨#[]⟩, .int .i64 72] rfl rfl (cell_two _ _ _ _) (fun x hx => by simp at hx; rcases hx with rfl | rfl <;> rfl) (by unfold maxLen; omega) (by omega) (by have := hB.out.size; simp; omega) ?_; intro v' w3 hown' hgrow3 _)
          have hB3 := Below.grown (hB.out.alloc hB.out.size _) hgrow3 (by have := hB.out.size; simp; omega) (fun j hj => (hown.out.lt j hj).1)
          have hown3 := own_snoc hown' (m := (evs ++ [([], 72)]).length) (zs := evCells (evs ++ [([], 72)])) (by rw [List.length_append]; rfl) (by rw [evCells_app]; rfl)
          clear hgrow3 hown'
          replace hB3 := Lib.hid hB3
          replace hown3 := Lib.hid hown3
          go_wp2_with fail
          rw [hV.out]
          go_roundw
          case rel => exact ⟨V, true, evs ++ [([], 72)], rfl, rfl, by rw [hVs.out]; omega, by rw [hVs.out, List.length_append]; show evs.length + 1 + _ ≤ _; omega, hown3.out, hB3.out, hrun2.out⟩
          case measure => simp only [szOf, blOf] at *; rw [hVs.out]; omega
      · rw [idx_int hci] at hfe
        replace hfe := Lib.hid hfe
        have hil := idx_lt fEnd_ne hci
        rw [hUl.out] at hil
        have hi4 : i + 4 ≤ U.size := hil
        clear hil
        by_cases h1024 : i ≤ 1024
        · obtain ⟨R, hR⟩ : ∃ R, headL (U.data.toList.take i) = R := ⟨_, rfl⟩
          have hlenC : ∀ W, Calls Tryz.prog 29 #[.string (U.extract 0 (i + 2))] W fun e w' => LenREnd R e ∧ W = w' := fun W => by
            rw [← hR]
            refine refLength_any (U.extract 0 (i + 2)) _ W ?_ ?_
            · rw [Lib.extract_from_zero]; exact end_take hci
            · rw [← bytes_len, Lib.extract_from_zero, List.length_take]; omega
          replace hlenC := Lib.hid hlenC
          go_wp2_with fail
          refine hfe.out.mono ?_
          rintro e w1 ⟨rfl, rfl⟩
          go_wp2_with fail
          refine (hlenC.out _).mono ?_
          rintro e w1 ⟨⟨r, rfl, henc⟩, rfl⟩
          rcases R with _ | n
          · have hr1 : r = -1 := by
              rcases henc with ⟨_, h⟩ | ⟨_, h, _⟩
              · exact h
              · cases h
            subst hr1
            have hst := st_head hci h1024 hR
            clear hR henc
            obtain ⟨V, hV⟩ : ∃ V : ByteArray, U.extract 1 U.size = V := ⟨_, rfl⟩
            have hVd : V.data.toList = U.data.toList.drop 1 := by rw [← hV, Lib.extract_to_end]
            have hVs : V.size = U.size - 1 := by rw [← bytes_len, hVd, List.length_drop, hUl.out]
            have hrun2 : (evs ++ [([], 72)]) ++ (runF V.data.toList true).evs = E := by
              rw [← hrunU, runF_on (h := U.data.toList) (k := false) (by rw [hst]), hst, hVd, List.append_assoc]
            clear hst hVd hrunU hci
            replace hV := Lib.hid hV
            replace hVs := Lib.hid hVs
            replace hrun2 := Lib.hid hrun2

            go_wp2_with (at_builtin; refine wpList_append_own _ rfl _ _ 34 rfl w.heap.size 51 i0 _ 2 24 Tryz.underlying34 hi0 hz0 hz1 hz2 rfl (by decide) _ _ _ rfl (hown.out.alloc _) ⟨wr.heap.size, 0, none⟩ 1 1 [.string ⟨#[]⟩, .int .i64 72] rfl rfl (cell_two _ _ _ _) (fun x hx => by simp at hx; rcases hx with rfl | rfl <;> rfl) (by unfold maxLen; omega) (by omega) (by have := hB.out.size; simp; omega) ?_; intro v' w3 hown' hgrow3 _)
            have hB3 := Below.grown (hB.out.alloc hB.out.size _) hgrow3 (by have := hB.out.size; simp; omega) (fun j hj => (hown.out.lt j hj).1)
            have hown3 := own_snoc hown' (m := (evs ++ [([], 72)]).length) (zs := evCells (evs ++ [([], 72)])) (by rw [List.length_append]; rfl) (by rw [evCells_app]; rfl)
            clear hgrow3 hown'
            replace hB3 := Lib.hid hB3
            replace hown3 := Lib.hid hown3
            go_wp2_with fail
            rw [hV.out]
            go_roundw
            case rel => exact ⟨V, true, evs ++ [([], 72)], rfl, rfl, by rw [hVs.out]; omega, by rw [hVs.out, List.length_append]; show evs.length + 1 + _ ≤ _; omega, hown3.out, hB3.out, hrun2.out⟩
            case measure => simp only [szOf, blOf] at *; rw [hVs.out]; omega
          · have henc2 : 0 ≤ r ∧ r ≤ 2000000000 ∧ min r.toNat 262145 = n := by
              rcases henc with ⟨h, _⟩ | ⟨k, h, h2⟩
              · cases h
              · injection h with h; subst h; exact h2
            obtain ⟨hr0, hr1, hr2⟩ := henc2
            clear henc
            by_cases hbig : 262144 < r
            · have hst := st_large hci h1024 hR (by omega)
              clear hR hr2
              obtain ⟨V, hV⟩ : ∃ V : ByteArray, U.extract 1 U.size = V := ⟨_, rfl⟩
              have hVd : V.data.toList = U.data.toList.drop 1 := by rw [← hV, Lib.extract_to_end]
              have hVs : V.size = U.size - 1 := by rw [← bytes_len, hVd, List.length_drop, hUl.out]
              have hrun2 : (evs ++ [([], 40)]) ++ (runF V.data.toList true).evs = E := by
                rw [← hrunU, runF_on (h := U.data.toList) (k := false) (by rw [hst]), hst, hVd, List.append_assoc]
              clear hst hVd hrunU hci
              replace hV := Lib.hid hV
              replace hVs := Lib.hid hVs
              replace hrun2 := Lib.hid hrun2

              go_wp2_with (at_builtin; refine wpList_append_own _ rfl _ _ 34 rfl w.heap.size 51 i0 _ 2 24 Tryz.underlying34 hi0 hz0 hz1 hz2 rfl (by decide) _ _ _ rfl (hown.out.alloc _) ⟨wr.heap.size, 0, none⟩ 1 1 [.string ⟨#[]⟩, .int .i64 40] rfl rfl (cell_two _ _ _ _) (fun x hx => by simp at hx; rcases hx with rfl | rfl <;> rfl) (by unfold maxLen; omega) (by omega) (by have := hB.out.size; simp; omega) ?_; intro v' w3 hown' hgrow3 _)
              have hB3 := Below.grown (hB.out.alloc hB.out.size _) hgrow3 (by have := hB.out.size; simp; omega) (fun j hj => (hown.out.lt j hj).1)
              have hown3 := own_snoc hown' (m := (evs ++ [([], 40)]).length) (zs := evCells (evs ++ [([], 40)])) (by rw [List.length_append]; rfl) (by rw [evCells_app]; rfl)
              clear hgrow3 hown'
              replace hB3 := Lib.hid hB3
              replace hown3 := Lib.hid hown3
              go_wp2_with fail
              rw [hV.out]
              go_roundw
              case rel => exact ⟨V, true, evs ++ [([], 40)], rfl, rfl, by rw [hVs.out]; omega, by rw [hVs.out, List.length_append]; show evs.length + 1 + _ ≤ _; omega, hown3.out, hB3.out, hrun2.out⟩
              case measure => simp only [szOf, blOf] at *; rw [hVs.out]; omega
            · obtain ⟨m, rfl⟩ := Int.eq_ofNat_of_zero_le hr0
              have hnm : n = m := by omega
              subst hnm
              clear hr2
              by_cases hw : U.size < i + 4 + n
              · have hst := st_body_wait hci h1024 hR (by omega) (by rw [hUl.out]; exact hw)
                have hev : evs = E := by rw [← hrunU, runF_off (by rw [hst]), hst, List.append_nil]
                clear hst hrunU hci hR
                replace hev := Lib.hid hev
                go_wp2_with fail
                go_ret
                exact hfin.out _ hev.out rfl
              · have hst := st_body hci h1024 hR (by omega) (by rw [hUl.out]; exact hw)
                obtain ⟨Bd, hBd⟩ : ∃ Bd : ByteArray, U.extract (i + 4) (i + 4 + n) = Bd := ⟨_, rfl⟩
                have hBdd : Bd.data.toList = (U.data.toList.drop (i + 4)).take n := by rw [← hBd, extract_take]
                obtain ⟨V, hV⟩ : ∃ V : ByteArray, U.extract (i + 4 + n) U.size = V := ⟨_, rfl⟩
                have hVd : V.data.toList = U.data.toList.drop (i + 4 + n) := by rw [← hV, Lib.extract_to_end]
                have hVs : V.size = U.size - (i + 4 + n) := by rw [← bytes_len, hVd, List.length_drop, hUl.out]
                have hrun2 : (evs ++ [(Bd.data.toList, 0)]) ++ (runF V.data.toList false).evs = E := by
                  rw [← hrunU, runF_on (h := U.data.toList) (k := false) (by rw [hst]), hst, hVd, hBdd, List.append_assoc]
                clear hst hVd hrunU hci hR hBdd
                replace hV := Lib.hid hV
                replace hBd := Lib.hid hBd
                replace hVs := Lib.hid hVs
                replace hrun2 := Lib.hid hrun2
                go_upto_region 24 with (fail)
                go_wp2_with (rw [hBd.out]; (at_builtin; refine wpList_append_own _ rfl _ _ 34 rfl w.heap.size 51 i0 _ 2 24 Tryz.underlying34 hi0 hz0 hz1 hz2 rfl (by decide) _ _ _ rfl (hown.out.alloc _) ⟨wr.heap.size, 0, none⟩ 1 1 [.string Bd, .int .i64 0] rfl rfl (cell_two _ _ _ _) (fun x hx => by simp at hx; rcases hx with rfl | rfl <;> rfl) (by unfold maxLen; omega) (by omega) (by have := hB.out.size; simp; omega) ?_; intro v' w3 hown' hgrow3 _))
                have hB3 := Below.grown (hB.out.alloc hB.out.size _) hgrow3 (by have := hB.out.size; simp; omega) (fun j hj => (hown.out.lt j hj).1)
                have hown3 := own_snoc hown' (m := (evs ++ [(Bd.data.toList, 0)]).length) (zs := evCells (evs ++ [(Bd.data.toList, 0)])) (by rw [List.length_append]; rfl) (by rw [evCells_app, evCells_one, fbytes])
                clear hgrow3 hown'
                replace hB3 := Lib.hid hB3
                replace hown3 := Lib.hid hown3
                go_wp2_with fail
                rw [hV.out]
                go_roundw
                case rel => exact ⟨V, false, evs ++ [(Bd.data.toList, 0)], rfl, rfl, by rw [hVs.out]; omega, by rw [hVs.out, List.length_append]; show evs.length + 1 + _ ≤ _; omega, hown3.out, hB3.out, hrun2.out⟩
                case measure => simp only [szOf, blOf] at *; rw [hVs.out]; omega
        · have hst := st_long (Or.inr ⟨i, hci, by omega⟩) (by rw [hUl.out]; omega)
          obtain ⟨V, hV⟩ : ∃ V : ByteArray, U.extract 1 U.size = V := ⟨_, rfl⟩
          have hVd : V.data.toList = U.data.toList.drop 1 := by rw [← hV, Lib.extract_to_end]
          have hVs : V.size = U.size - 1 := by rw [← bytes_len, hVd, List.length_drop, hUl.out]
          have hrun2 : (evs ++ [([], 72)]) ++ (runF V.data.toList true).evs = E := by
            rw [← hrunU, runF_on (h := U.data.toList) (k := false) (by rw [hst]), hst, hVd, List.append_assoc]
          clear hst hVd hrunU hci
          replace hV := Lib.hid hV
          replace hVs := Lib.hid hVs
          replace hrun2 := Lib.hid hrun2
          go_wp2_with fail
          refine hfe.out.mono ?_
          rintro e w1 ⟨rfl, rfl⟩
          go_wp2_with (at_builtin; refine wpList_append_own _ rfl _ _ 34 rfl w.heap.size 51 i0 _ 2 24 Tryz.underlying34 hi0 hz0 hz1 hz2 rfl (by decide) _ _ _ rfl (hown.out.alloc _) ⟨wr.heap.size, 0, none⟩ 1 1 [.string ⟨#[]⟩, .int .i64 72] rfl rfl (cell_two _ _ _ _) (fun x hx => by simp at hx; rcases hx with rfl | rfl <;> rfl) (by unfold maxLen; omega) (by omega) (by have := hB.out.size; simp; omega) ?_; intro v' w3 hown' hgrow3 _)
          have hB3 := Below.grown (hB.out.alloc hB.out.size _) hgrow3 (by have := hB.out.size; simp; omega) (fun j hj => (hown.out.lt j hj).1)
          have hown3 := own_snoc hown' (m := (evs ++ [([], 72)]).length) (zs := evCells (evs ++ [([], 72)])) (by rw [List.length_append]; rfl) (by rw [evCells_app]; rfl)
          clear hgrow3 hown'
          replace hB3 := Lib.hid hB3
          replace hown3 := Lib.hid hown3
          go_wp2_with fail
          rw [hV.out]
          go_roundw
          case rel => exact ⟨V, true, evs ++ [([], 72)], rfl, rfl, by rw [hVs.out]; omega, by rw [hVs.out, List.length_append]; show evs.length + 1 + _ ≤ _; omega, hown3.out, hB3.out, hrun2.out⟩
          case measure => simp only [szOf, blOf] at *; rw [hVs.out]; omega
end Go.Proofs.YtccfdecpiekeoaaGreatDoor
