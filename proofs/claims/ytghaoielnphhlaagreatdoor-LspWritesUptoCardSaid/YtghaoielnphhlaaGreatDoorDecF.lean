/-
  The walks of dec.Int and Of.
-/
import Derived.Test.YtghaoielnphhlaaGreatDoorDecE
import Derived.Deep.RegionHeld3
namespace Go.Proofs.YtghaoielnphhlaaGreatDoor
open Go.RowKit

theorem repeatL_one (c : Nat) : Lib.repeatL [48] c = List.replicate c 48 := by
  induction c with
  | zero => rfl
  | succ c ih => rw [Lib.repeatL, ih, List.replicate_succ]; rfl

/-- A row of bytes made of a string. -/
def IsBytes (bb : Nat) (T : ByteArray) (w : World) : Prop := ∀ j, j < T.size → w.cell? ⟨bb, j, none⟩ = some (.int .u8 (T.data.toList.getD j 0).toNat)

/-- strings.Repeat of noughts, beside what the region that holds the call asks. -/
theorem repeat_call (c : Nat) (hc : c ≤ 1099511627776) (d : ByteArray) (hd : d.size ≤ 1099511627776) (b : Nat) (e : Int) (W : World) (h1 : W.cell? ⟨b, 1, none⟩ = some (.string d)) (h2 : W.cell? ⟨b, 2, none⟩ = some (.int .i64 e)) :
    Calls Tryz.prog 126 #[.string ⟨#[48]⟩, .int .i64 c] W fun en w' => ∃ t : ByteArray, en = .returned (.string t) ∧ t.data.toList = List.replicate c 48 ∧ Below W.heap.size W w' ∧ w'.cell? ⟨b, 1, none⟩ = some (.string d) ∧ w'.cell? ⟨b, 2, none⟩ = some (.int .i64 e) ∧
      (∀ V, (Op.stringOp .add d t).run Tryz.prog V = .ok (.string (d ++ t)) V) ∧
      (∀ V, (convert 9 93 (.string (d ++ t))).run Tryz.prog V = .ok (.slice (some ⟨V.heap.size, 0, none⟩) (d ++ t).size (grownCap V (d ++ t).size 0 5)) (Lib.bytesWorld V 5 (d ++ t))) := by
  have hz : (⟨#[48]⟩ : ByteArray).size * c ≤ 140737488355328 := by
    have h1 : (⟨#[48]⟩ : ByteArray).size = 1 := rfl
    rw [h1]; omega
  refine (Tryz.strings_Repeat ⟨#[48]⟩ c W (by omega) hz).mono fun en w' hh => ?_
  have hl : (⟨(Lib.repeatL (⟨#[48]⟩ : ByteArray).data.toList c).toArray⟩ : ByteArray).data.toList = List.replicate c 48 := repeatL_one c
  refine ⟨_, hh.1, hl, hh.2, ?_, ?_, add_ok d _ ?_, fun V => Lib.run_convert_string_bytes V _ _ _ _ Tryz.underlying9 Tryz.underlying93 Tryz.underlying5⟩
  · exact (hh.2.cell (p := ⟨b, 1, none⟩) (World.block_lt_of_cell? W _ h1)).trans h1
  · exact (hh.2.cell (p := ⟨b, 2, none⟩) (World.block_lt_of_cell? W _ h2)).trans h2
  · rw [← bytes_len ⟨(Lib.repeatL (⟨#[48]⟩ : ByteArray).data.toList c).toArray⟩, hl, List.length_replicate]; omega

theorem mul10 (v : Nat) (h : v ≤ 999999999999999999) (W : World) :
    Calls Tryz.prog 127 #[.int .u64 v, .int .u64 10] W fun e w' => e = .returned (.tuple #[.int .u64 0, .int .u64 (v * 10 : Nat)]) ∧ W = w' := by
  refine (Tryz.bits_Mul64 v 10 (by omega) (by omega) W).mono ?_
  rintro e w' ⟨rfl, rfl⟩
  refine ⟨?_, rfl⟩
  have h1 : v * 10 / 18446744073709551616 = 0 := by omega
  have h2 : v * 10 % 18446744073709551616 = v * 10 := by omega
  rw [h1, h2]; rfl

theorem neg_wrap (U : Nat) (h : (U : Int) ≤ 9223372036854775808) : wrap64 (IntKind.u64.wrap (-(U : Int))) = -(U : Int) := by
  rw [IntKind.wrap_u64]
  unfold wrap64
  omega
theorem ret2_i64 {a b c d : Int} (h : a = b) (h2 : c = d) : Ending.returned (.tuple #[.int .i64 a, .int .i64 c]) = .returned (.tuple #[.int .i64 b, .int .i64 d]) := by rw [h, h2]

set_option maxHeartbeats 1000000 in
theorem decInt_any (s : ByteArray) (w : World) (hs : s.size ≤ 1099511627776) :
    Calls Tryz.prog 108 #[.string s] w fun en w' => en = .returned (.tuple #[.int .i64 (intL s.data.toList).1, .int .i64 (intL s.data.toList).2]) ∧ Below w.heap.size w w' := by
  have hbd := decGetL_bd s.data.toList
  have hget := Lib.hid (decGet_any s w hs)
  go_enter Tryz.func108, Tryz.ntmps108
  go_wp2_with fail
  refine hget.out.mono ?_
  rintro en w1 ⟨⟨d, hd, rfl⟩, hB⟩
  clear hget
  obtain ⟨r, hgen⟩ : ∃ r, decGetL s.data.toList = r := ⟨_, rfl⟩
  rw [hgen] at hbd hd ⊢
  obtain ⟨⟨m, dd, e⟩, err⟩ := r
  simp only at hbd hd ⊢
  replace hgen := Lib.hid hgen
  replace hB := Lib.hid hB
  have hdl : d.size ≤ 200 := by rw [← bytes_len, hd]; exact hbd.1
  obtain ⟨_, b1, b2, b3⟩ := hbd
  simp only [numV]
  by_cases h0 : err = 0
  · subst h0
    clear b3
    replace hd := Lib.hid hd
    by_cases he : e < 0
    · have hint : intL s.data.toList = (0, 1) := by
        unfold intL
        rw [hgen.out]
        simp only [ne_eq, not_true_eq_false, if_false]
        rw [if_pos he]
      replace hint := Lib.hid hint
      go_wp2
      go_ret2
      exact ⟨by rw [hint.out]; rfl, hB.out.alloc hB.out.size _⟩
    · by_cases hsum : 19 < (d.size : Int) + e
      · have hint : intL s.data.toList = (0, 64) := by
          unfold intL
          rw [hgen.out]
          simp only [ne_eq, not_true_eq_false, if_false]
          rw [if_neg he, if_pos (by rw [← hd.out, bytes_len]; exact hsum)]
        replace hint := Lib.hid hint
        go_wp2
        go_ret2
        exact ⟨by rw [hint.out]; rfl, hB.out.alloc hB.out.size _⟩
      · obtain ⟨k, rfl⟩ := Int.eq_ofNat_of_zero_le (Int.not_lt.1 he)
        go_upto_region 9 with (fail)
        have hX := Cel.fresh w1 141 #[.bool m, .string d, .int .i64 k]
        have hBx := hB.out.alloc hB.out.size (.cells #[.bool m, .string d, .int .i64 k] 141)
        generalize w1.alloc (.cells #[.bool m, .string d, .int .i64 k] 141) = wx at *
        obtain ⟨x0, x1, x2, f0, f1, f2⟩ := hX.three
        have hXl := hX.lt
        replace hX := Lib.hid hX
        replace hBx := Lib.hid hBx
        refine wp_cut (fun a' wc => ∃ (T : ByteArray) (bb cap n : Nat) (u : Nat → Value), a' = ⟨#[.string s, u 1, u 2, u 3, .pointer (some ⟨w1.heap.size, 0, none⟩), u 5, .int .u64 0, u 7, u 8, u 9, u 10, u 11, u 12, u 13, u 14, u 15, u 16, u 17, u 18, u 19, u 20, u 21, u 22, u 23, u 24, u 25, u 26, u 27, u 28, u 29, u 30, u 31, u 32, u 33, u 34, u 35, u 36, u 37, .slice (some ⟨bb, 0, none⟩) n cap, .int .i64 n, .int .i64 0, u 41, u 42, u 43, u 44, u 45, u 46, u 47, u 48, u 49, u 50, u 51, u 52, u 53, u 54, u 55, u 56, u 57, u 58, u 59, u 60, u 61, u 62, u 63, u 64, u 65, u 66, u 67, u 68, u 69, u 70, u 71, u 72, u 73, u 74, u 75, u 76], []⟩ ∧ (n = T.size ∧ T.data.toList = d.data.toList ++ List.replicate k 48 ∧ IsBytes bb T wc ∧ wc.cell? ⟨w1.heap.size, 0, none⟩ = some (.bool m) ∧ Below w.heap.size w wc)) ?rest ?first
        case first =>
          intro J K' hJ hK'
          go_region_with (go_at_call 126; refine (repeat_call k (by omega) d (by omega) w1.heap.size k wx.drew x1 x2).mono ?_; rintro en w2 ⟨t, rfl, ht, hB2, y1, y2, hadd, hconv⟩)
          all_goals
            have hcat : (d ++ t).data.toList = d.data.toList ++ List.replicate k 48 := by rw [ByteArray.data_append, Array.toList_append, ht]
            have hlt2 : w1.heap.size < w2.heap.size := World.block_lt_of_cell? w2 _ y1
            have hy0 : w2.cell? ⟨w1.heap.size, 0, none⟩ = some (.bool m) := (hB2.cell (p := ⟨w1.heap.size, 0, none⟩) hXl).trans x0
            have hB3 : Below w.heap.size w w2 := hBx.out.drew.trans (hB2.mono (by have := hBx.out.size; exact this))
            have hsz : d.size + t.size = (d ++ t).size := by rw [ByteArray.size_append]
            replace hcat := Lib.hid hcat
            replace hsz := Lib.hid hsz
            clear hadd hconv
            go_wp2
            refine Met.intro (hJ _ _ ?_)
            exact ⟨d ++ t, w2.heap.size, grownCap w2 (d.size + t.size) 0 5, d.size + t.size, meetF (by kernel_rfl) ⟨hsz.out, hcat.out, fun j hj => Lib.bytesWorld_cell _ _ _ j hj, (Lib.bytesWorld_old _ _ _ _ hlt2).trans hy0, hB3.trans ((Lib.bytesWorld_below _ _ _).mono hB3.size)⟩⟩
        case rest =>
          clear x0 x1 x2 f0 f1 f2 hX hBx
          rintro a' wd ⟨T, bb, cap, n, u, rfl, hn, hT, hcell, hm0, hBc⟩
          subst hn
          have hTd : ∀ c, c ∈ T.data.toList → isDig c = true := by
            intro c hc
            rw [hT, List.mem_append] at hc
            rcases hc with hc | hc
            · rw [hd.out] at hc
              have := decGetL_dig s.data.toList c
              rw [hgen.out] at this
              exact this hc
            · rw [List.eq_of_mem_replicate hc]; rfl
          have hTl : T.size ≤ 19 := by
            rw [← bytes_len, hT, List.length_append, List.length_replicate, bytes_len]; omega
          replace hTd := Lib.hid hTd
          replace hT := Lib.hid hT
          replace hcell := Lib.hid hcell
          go_upto_block 1 with (fail)
          refine wp_cut (fun a' wc => ∃ (u : Nat → Value), a' = ⟨#[.string s, u 1, u 2, u 3, .pointer (some ⟨w1.heap.size, 0, none⟩), u 5, .int .u64 (decV T.data.toList : Nat), u 7, u 8, u 9, u 10, u 11, u 12, u 13, u 14, u 15, u 16, u 17, u 18, u 19, u 20, u 21, u 22, u 23, u 24, u 25, u 26, u 27, u 28, u 29, u 30, u 31, u 32, u 33, u 34, u 35, u 36, u 37, u 38, u 39, u 40, u 41, u 42, u 43, u 44, u 45, u 46, u 47, u 48, u 49, u 50, u 51, u 52, u 53, u 54, u 55, u 56, u 57, u 58, u 59, u 60, u 61, u 62, u 63, u 64, u 65, u 66, u 67, u 68, u 69, u 70, u 71, u 72, u 73, u 74, u 75, u 76], []⟩ ∧ (wc = wd)) ?rest2 ?first2
          case first2 =>
            intro J K' hJ hK'
            go_wp2
            go_loop [6, 40] (fun v i => ∃ j : Nat, j ≤ T.size ∧ v = .int .u64 (decV (T.data.toList.take j) : Nat) ∧ i = .int .i64 j) (fun _ i => T.size - (intOf i).toNat)
            case atStart => exact ⟨0, Nat.zero_le _, rfl, rfl⟩
            case round =>
              obtain ⟨j, hj, rfl, rfl⟩ := hrel
              by_cases hlt : j < T.size
              · have hb := bytes_at T j hlt
                have hc := hcell.out j hlt
                have hg : T.data.toList.getD j 0 = T[j] := by rw [List.getD, hb]; rfl
                rw [hg] at hc
                have hd1 := isDig_t (hTd.out T[j] (List.mem_of_getElem? hb))
                have hv := decV_lt (T.data.toList.take j) (fun c hc => hTd.out c (List.mem_of_mem_take hc))
                have hv2 : decV (T.data.toList.take j) ≤ 999999999999999999 := by
                  have h1 : (T.data.toList.take j).length ≤ 18 := by rw [List.length_take]; omega
                  have h2 : 10 ^ (T.data.toList.take j).length ≤ 10 ^ 18 := Nat.pow_le_pow_right (by omega) h1
                  have h3 : (10 : Nat) ^ 18 = 1000000000000000000 := by decide
                  omega
                have hstep := decV_step hb
                obtain ⟨v, hve⟩ : ∃ v, decV (T.data.toList.take j) = v := ⟨_, rfl⟩
                rw [hve] at hv2 hstep
                simp only [hve]
                obtain ⟨q, hq⟩ : ∃ q, T[j].toNat = q := ⟨_, rfl⟩
                rw [hq] at hd1 hstep hc
                clear hve hv hg hb hq
                replace hstep := Lib.hid hstep
                obtain ⟨d1, d2⟩ := hd1
                go_wp2_with (go_at_call 127; refine (mul10 v hv2 _).mono ?_; rintro en w' ⟨rfl, rfl⟩)
                exact ⟨⟨j + 1, by omega, by rw [hstep.out]; congr 1; omega, by go_num⟩, by simp [intOf]; omega⟩
              · have hjT : j = T.size := by omega
                have hfin : decV (T.data.toList.take j) = decV T.data.toList := by rw [List.take_of_length_le (by rw [bytes_len]; omega)]
                rw [hfin]
                clear hjT hfin
                go_wp2
                refine Met.intro (hJ _ _ ?_)
                exact meetF (by kernel_rfl) rfl
          case rest2 =>
            clear u
            rintro a' wc ⟨u, rfl, rfl⟩
            have hU := decV_lt T.data.toList hTd.out
            have hU2 : decV T.data.toList ≤ 9999999999999999999 := by
              have h2 : 10 ^ T.data.toList.length ≤ 10 ^ 19 := Nat.pow_le_pow_right (by omega) (by rw [bytes_len]; exact hTl)
              have h3 : (10 : Nat) ^ 19 = 10000000000000000000 := by decide
              omega
            have hint := intL_of hgen.out (by rw [← hd.out, bytes_len]; omega) (show decV (dd ++ List.replicate k 48) = decV T.data.toList by rw [hT.out, hd.out])
            obtain ⟨U, hUe⟩ : ∃ U, decV T.data.toList = U := ⟨_, rfl⟩
            rw [hUe] at hU2 hint
            simp only [hUe]
            clear hUe hU
            replace hint := Lib.hid hint
            cases m
            · by_cases hlt : (U : Int) < 9223372036854775808
              · have he2 := Lib.hid (hint.out.2.2.1 rfl (lt63 hlt))
                clear hint
                go_wp2
                go_ret2
                exact ⟨by rw [he2.out]; rfl, hBc⟩
              · have he2 := Lib.hid (hint.out.2.2.2 rfl (ge63 hlt))
                clear hint
                go_wp2
                go_ret2
                exact ⟨by rw [he2.out]; rfl, hBc⟩
            · by_cases hle : (U : Int) ≤ 9223372036854775808
              · have he2 := Lib.hid (hint.out.1 rfl (le63 hle))
                have hw := Lib.hid (neg_wrap U hle)
                clear hint
                go_wp2
                go_ret2
                exact ⟨by rw [he2.out]; exact ret2_i64 hw.out rfl, hBc⟩
              · have he2 := Lib.hid (hint.out.2.1 rfl (gt63 hle))
                clear hint
                go_wp2
                go_ret2
                exact ⟨by rw [he2.out]; rfl, hBc⟩
  · have hne : ((err : Int) != 0) = true := by simpa using h0
    have hint : intL s.data.toList = (0, err) := by
      unfold intL
      rw [hgen.out]
      simp only [ne_eq]
      rw [if_pos h0]
    replace hint := Lib.hid hint
    clear h0 b3
    go_wp2
    go_ret2
    exact ⟨by rw [hint.out]; rfl, hB.out.alloc hB.out.size _⟩
end Go.Proofs.YtghaoielnphhlaaGreatDoor
