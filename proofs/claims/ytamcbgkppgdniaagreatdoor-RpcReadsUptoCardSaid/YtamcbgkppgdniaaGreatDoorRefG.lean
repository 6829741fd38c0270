/-
  The walk of rostrumref04.Int: what it answers is what dec's answers.
-/
import Derived.Test.YtamcbgkppgdniaaGreatDoorRfa
import Derived.Test.YtamcbgkppgdniaaGreatDoorDecF
import Derived.Test.YtamcbgkppgdniaaGreatDoorJmq
namespace Go.Proofs.YtamcbgkppgdniaaGreatDoor
open Go.RowKit

set_option maxRecDepth 1000000 in
set_option maxHeartbeats 4000000 in
theorem refInt_any (s : ByteArray) (w : World) (hs : s.size ≤ 1000000) :
    Calls Tryz.prog 130 #[.string s] w fun en w' => en = .returned (.tuple #[.int .i64 (intL s.data.toList).1, .int .i64 (intL s.data.toList).2]) ∧ Below w.heap.size w w' := by
  have hbd := decGetL_bd s.data.toList
  have hnx := get_nrm s.data.toList
  have hget := Lib.hid (refGet_any s w hs)
  go_enter Tryz.func130, Tryz.ntmps130
  go_wp2_with fail
  refine hget.out.mono ?_
  rintro en w1 ⟨⟨d, hd, rfl⟩, hB⟩
  clear hget
  obtain ⟨r, hgen⟩ : ∃ r, decGetL s.data.toList = r := ⟨_, rfl⟩
  rw [hgen] at hbd hd hnx ⊢
  obtain ⟨⟨m, dd, e⟩, err⟩ := r
  simp only at hbd hd hnx ⊢
  replace hgen := Lib.hid hgen
  have hdl : d.size ≤ 200 := by rw [← bytes_len, hd]; exact hbd.1
  subst hd
  have hdig := hnx.dig
  have hzero := hnx.zero
  simp only at hdig hzero
  clear hnx
  replace hdig := Lib.hid hdig
  replace hzero := Lib.hid hzero
  obtain ⟨_, b1, b2, b3⟩ := hbd
  have hBx := hB.alloc hB.size (.cells #[.bool m, .string d, .int .i64 e] 176)
  replace hBx := Lib.hid hBx
  clear hB
  simp only [numV]
  by_cases h0 : err = 0
  · subst h0
    clear b3
    by_cases he : e < 0
    · have hint : intL s.data.toList = (0, 1) := by
        unfold intL
        rw [hgen.out]
        simp only [ne_eq, not_true_eq_false, if_false]
        rw [if_pos he]
      replace hint := Lib.hid hint
      go_wp2
      go_ret2
      exact ⟨by rw [hint.out]; rfl, hBx.out⟩
    · by_cases hsum : 19 < (d.size : Int) + e
      · have hint : intL s.data.toList = (0, 64) := by
          unfold intL
          rw [hgen.out]
          simp only [ne_eq, not_true_eq_false, if_false]
          rw [if_neg he, if_pos (by rw [bytes_len]; exact hsum)]
        replace hint := Lib.hid hint
        go_wp2
        go_ret2
        exact ⟨by rw [hint.out]; rfl, hBx.out⟩
      · obtain ⟨k, rfl⟩ := Int.eq_ofNat_of_zero_le (Int.not_lt.1 he)
        have hX := Cel.fresh w1 176 #[.bool m, .string d, .int .i64 k]
        obtain ⟨L, hL⟩ : ∃ L, d.data.toList ++ List.replicate k 48 = L := ⟨_, rfl⟩
        have hLl : L.length = d.size + k := by rw [← hL, List.length_append, List.length_replicate, bytes_len]
        have hLd : ∀ c, c ∈ L → isDig c = true := by
          intro c hc
          rw [← hL, List.mem_append] at hc
          rcases hc with hc | hc
          · exact hdig.out c hc
          · rw [List.eq_of_mem_replicate hc]; rfl
        have hLa : ∀ j (h : j < d.size), L[j]? = some d[j] := by
          intro j h
          rw [← hL, List.getElem?_append_left (by rw [bytes_len]; exact h)]
          exact bytes_at d j h
        have hLb : ∀ j, d.size ≤ j → j < d.size + k → L[j]? = some 48 := by
          intro j h h2
          rw [← hL, List.getElem?_append_right (by rw [bytes_len]; exact h), bytes_len, List.getElem?_replicate, if_pos (by omega)]
        have hint := intL_of hgen.out (by rw [bytes_len]; omega) (show decV (d.data.toList ++ List.replicate k 48) = decV L by rw [hL])
        have hemp : d.data.toList = [] → k = 0 ∧ m = false := by
          intro h
          have := hzero.out h
          rw [h] at this
          injection this with t1 _ t3
          exact ⟨by omega, t1⟩
        replace hemp := Lib.hid hemp
        replace hLd := Lib.hid hLd
        replace hLa := Lib.hid hLa
        replace hLb := Lib.hid hLb
        replace hint := Lib.hid hint
        have hLL := Lib.hid hL
        clear hL hdig hzero he
        go_upto_region 8 with (fail)
        generalize w1.alloc (.cells #[.bool m, .string d, .int .i64 k] 176) = wx at *
        obtain ⟨x0, x1, x2, f0, f1, f2⟩ := hX.three
        clear hX
        go_wp2
        go_loop [6, 7] (fun v i => ∃ j : Nat, j ≤ d.size + k ∧ v = .int .u64 (decV (L.take j) : Nat) ∧ i = .int .i64 j) (fun _ i => d.size + k - (intOf i).toNat)
        case atStart => exact ⟨0, Nat.zero_le _, rfl, rfl⟩
        case round =>
          obtain ⟨j, hj, rfl, rfl⟩ := hrel
          have hsz : L.length ≤ 19 := by omega
          by_cases hlt : j < d.size + k
          · have hv := decV_lt (L.take j) (fun c hc => hLd.out c (List.mem_of_mem_take hc))
            have hv2 : decV (L.take j) ≤ 999999999999999999 := by
              have h1 : (L.take j).length ≤ 18 := by rw [List.length_take]; omega
              have h2 : 10 ^ (L.take j).length ≤ 10 ^ 18 := Nat.pow_le_pow_right (by omega) h1
              have h3 : (10 : Nat) ^ 18 = 1000000000000000000 := by decide
              omega
            by_cases hjd : j < d.size
            · have hb := hLa.out j hjd
              have hd1 := isDig_t (hLd.out d[j] (List.mem_of_getElem? hb))
              have hstep := decV_step hb
              obtain ⟨v, hve⟩ : ∃ v, decV (L.take j) = v := ⟨_, rfl⟩
              rw [hve] at hv2 hstep
              simp only [hve]
              clear hve hv hb
              have e1 : IntKind.u64.wrap ((v : Int) * 10) = (v * 10 : Nat) := by rw [IntKind.wrap_u64]; omega
              have e2 : IntKind.u64.wrap (((v * 10 : Nat) : Int) + (d[j].toNat : Int)) = ((v * 10 + d[j].toNat : Nat) : Int) := by rw [IntKind.wrap_u64]; omega
              have e3 : IntKind.u64.wrap (((v * 10 + d[j].toNat : Nat) : Int) - 48) = ((v * 10 + (d[j].toNat - 48) : Nat) : Int) := by rw [IntKind.wrap_u64]; omega
              obtain ⟨q, hq⟩ : ∃ q, d[j].toNat = q := ⟨_, rfl⟩
              replace hstep := Lib.hid hstep
              obtain ⟨d1, d2⟩ := hd1
              clear e1 e2 e3 hq
              go_wp2
              go_round
              case rel => exact ⟨j + 1, by omega, by rw [hstep.out]; congr 1; omega, by go_num⟩
              case measure => simp [intOf]; omega
            · have hb := hLb.out j (by omega) hlt
              have hstep := decV_step hb
              have h48 : (48 : UInt8).toNat - 48 = 0 := rfl
              rw [h48] at hstep
              obtain ⟨v, hve⟩ : ∃ v, decV (L.take j) = v := ⟨_, rfl⟩
              rw [hve] at hv2 hstep
              simp only [hve]
              clear hve hv hb
              replace hstep := Lib.hid hstep
              go_wp2
              go_round
              case rel => exact ⟨j + 1, by omega, by rw [hstep.out]; rfl, by go_num⟩
              case measure => simp [intOf]; omega
          · have hfull : decV (L.take j) = decV L := by rw [List.take_of_length_le (by omega)]
            have hU := decV_lt L hLd.out
            have hU2 : decV L ≤ 9999999999999999999 := by
              have h2 : 10 ^ L.length ≤ 10 ^ 19 := Nat.pow_le_pow_right (by omega) hsz
              have h3 : (10 : Nat) ^ 19 = 10000000000000000000 := by decide
              omega
            have hze : d.data.toList = [] → decV L = 0 := by
              intro h
              have := (hemp.out h).1
              rw [← hLL.out, h, this]; rfl
            have hi := hint.out
            obtain ⟨U, hUe⟩ : ∃ U, decV L = U := ⟨_, rfl⟩
            rw [hUe] at hU2 hi hze hfull
            rw [hfull]
            clear hUe hU hfull hLa hLb hLd hLL hint hLl hsz
            replace hi := Lib.hid hi
            rcases hl : d.data.toList with _ | ⟨c, t⟩
            · have hem := isEmpty_t d hl
              have hU0 := hze hl
              obtain ⟨_, hm⟩ := hemp.out hl
              subst hm hU0
              have he2 := Lib.hid (hi.out.2.2.1 rfl (lt63 (by decide)))
              clear hl hi hze hemp
              go_wp2
              go_ret2
              exact ⟨by rw [he2.out]; rfl, hBx.out⟩
            · have hem := isEmpty_f d c t hl
              clear hl hze hemp
              cases m
              · by_cases hlt6 : (U : Int) < 9223372036854775808
                · have he2 := hi.out.2.2.1 rfl (lt63 hlt6)
                  clear hi
                  obtain ⟨u, hu⟩ : ∃ u : Int, (U : Int) = u := ⟨_, rfl⟩
                  have hu0 : 0 ≤ u := by omega
                  have hdc : u ≤ 9223372036854775807 := by omega
                  rw [hu] at he2 ⊢
                  replace he2 := Lib.hid he2
                  clear hU2 hlt6 hu
                  go_wp2
                  go_ret2
                  exact ⟨by rw [he2.out]; rfl, hBx.out⟩
                · have he2 := Lib.hid (hi.out.2.2.2 rfl (ge63 hlt6))
                  clear hi
                  obtain ⟨u, hu⟩ : ∃ u : Int, (U : Int) = u := ⟨_, rfl⟩
                  have hu0 : 9223372036854775808 ≤ u := by omega
                  have hu1 : u ≤ 9999999999999999999 := by omega
                  rw [hu]
                  clear hU2 hlt6 hu
                  go_wp2
                  go_ret2
                  exact ⟨by rw [he2.out]; rfl, hBx.out⟩
              · by_cases hle : (U : Int) ≤ 9223372036854775808
                · have he2 := Lib.hid (hi.out.1 rfl (le63 hle))
                  have hw := Lib.hid (neg_wrap U hle)
                  clear hi
                  go_wp2
                  go_ret2
                  exact ⟨by rw [he2.out]; exact ret2_i64 hw.out rfl, hBx.out⟩
                · have he2 := Lib.hid (hi.out.2.1 rfl (gt63 hle))
                  clear hi
                  go_wp2
                  go_ret2
                  exact ⟨by rw [he2.out]; rfl, hBx.out⟩
  · have hne : ((err : Int) != 0) = true := by simpa using h0
    have hint : intL s.data.toList = (0, err) := by
      unfold intL
      rw [hgen.out]
      simp only [ne_eq]
      rw [if_pos h0]
    replace hint := Lib.hid hint
    clear h0 b3
    go_wp2
    go_ret2
    exact ⟨by rw [hint.out]; rfl, hBx.out⟩
end Go.Proofs.YtamcbgkppgdniaaGreatDoor
