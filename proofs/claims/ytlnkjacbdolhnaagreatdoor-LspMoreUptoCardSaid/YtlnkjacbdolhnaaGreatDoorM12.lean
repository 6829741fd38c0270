/-
  The walks of dec.Int and Of.
-/
import Derived.Test.YtlnkjacbdolhnaaGreatDoorM09
import Derived.Deep.RegionHeld3
import Derived.Test.YtlnkjacbdolhnaaGreatDoorM10
import Derived.Test.YtlnkjacbdolhnaaGreatDoorRefB
import Derived.Lib.SlBytesRow
namespace Go.Proofs.YtlnkjacbdolhnaaGreatDoor
open Go.RowKit

theorem repeatL_one (c : Nat) : Lib.repeatL [48] c = List.replicate c 48 := by
  induction c with
  | zero => rfl
  | succ c ih => rw [Lib.repeatL, ih, List.replicate_succ]; rfl

/-- A row of bytes made of a string. -/
def IsBytes (bb : Nat) (T : ByteArray) (w : World) : Prop := ∀ j, j < T.size → w.cell? ⟨bb, j, none⟩ = some (.int .u8 (T.data.toList.getD j 0).toNat)

/-- strings.Repeat of noughts, beside what the region that holds the call asks. -/
theorem repeat_call (c : Nat) (hc : c ≤ 1099511627776) (d : ByteArray) (hd : d.size ≤ 1099511627776) (b : Nat) (e : Int) (W : World) (h1 : W.cell? ⟨b, 1, none⟩ = some (.string d)) (h2 : W.cell? ⟨b, 2, none⟩ = some (.int .i64 e)) :
    Calls Tryz.prog 168 #[.string ⟨#[48]⟩, .int .i64 c] W fun en w' => ∃ t : ByteArray, en = .returned (.string t) ∧ t.data.toList = List.replicate c 48 ∧ Below W.heap.size W w' ∧ w'.cell? ⟨b, 1, none⟩ = some (.string d) ∧ w'.cell? ⟨b, 2, none⟩ = some (.int .i64 e) ∧
      (∀ V, (Op.stringOp .add d t).run Tryz.prog V = .ok (.string (d ++ t)) V) ∧
      (∀ V, (convert 9 84 (.string (d ++ t))).run Tryz.prog V = .ok (.slice (some ⟨V.heap.size, 0, none⟩) (d ++ t).size (grownCap V (d ++ t).size 0 5)) (Lib.bytesWorld V 5 (d ++ t))) := by
  have hz : (⟨#[48]⟩ : ByteArray).size * c ≤ 140737488355328 := by
    have h1 : (⟨#[48]⟩ : ByteArray).size = 1 := rfl
    rw [h1]; omega
  refine (Tryz.strings_Repeat ⟨#[48]⟩ c W (by omega) hz).mono fun en w' hh => ?_
  have hl : (⟨(Lib.repeatL (⟨#[48]⟩ : ByteArray).data.toList c).toArray⟩ : ByteArray).data.toList = List.replicate c 48 := repeatL_one c
  refine ⟨_, hh.1, hl, hh.2, ?_, ?_, add_ok d _ ?_, fun V => Lib.run_convert_string_bytes V _ _ _ _ Tryz.underlying9 Tryz.underlying84 Tryz.underlying5⟩
  · exact (hh.2.cell (p := ⟨b, 1, none⟩) (World.block_lt_of_cell? W _ h1)).trans h1
  · exact (hh.2.cell (p := ⟨b, 2, none⟩) (World.block_lt_of_cell? W _ h2)).trans h2
  · rw [← bytes_len ⟨(Lib.repeatL (⟨#[48]⟩ : ByteArray).data.toList c).toArray⟩, hl, List.length_replicate]; omega

theorem mul10 (v : Nat) (h : v ≤ 999999999999999999) (W : World) :
    Calls Tryz.prog 169 #[.int .u64 v, .int .u64 10] W fun e w' => e = .returned (.tuple #[.int .u64 0, .int .u64 (v * 10 : Nat)]) ∧ W = w' := by
  refine (Tryz.bits_Mul64 v 10 (by omega) (by omega) W).mono ?_
  rintro e w' ⟨rfl, rfl⟩
  refine ⟨?_, rfl⟩
  have h1 : v * 10 / 18446744073709551616 = 0 := by omega
  have h2 : v * 10 % 18446744073709551616 = v * 10 := by omega
  rw [h1, h2]; rfl

theorem neg_wrap (U : Nat) (h : (U : Int) ≤ 9223372036854775808) : wrap64 (IntKind.u64.wrap (-(U : Int))) = -(U : Int) := by
  rw [IntKind.wrap_u64]
  unfold wrap64
  omega
theorem ret2_i64 {a b c d : Int} (h : a = b) (h2 : c = d) : Ending.returned (.tuple #[.int .i64 a, .int .i64 c]) = .returned (.tuple #[.int .i64 b, .int .i64 d]) := by rw [h, h2]

set_option maxHeartbeats 1000000 in
theorem decInt_any (s : ByteArray) (w : World) (hs : s.size ≤ 1099511627776) :
    Calls Tryz.prog 126 #[.string s] w fun en w' => en = .returned (.tuple #[.int .i64 (intL s.data.toList).1, .int .i64 (intL s.data.toList).2]) ∧ Below w.heap.size w w' := by
  have hbd := decGetL_bd s.data.toList
  have hget := Lib.hid (decGet_any s w hs)
  go_enter Tryz.func126, Tryz.ntmps126
  go_wp2_with fail
  refine hget.out.mono ?_
  rintro en w1 ⟨⟨d, hd, rfl⟩, hB⟩
  clear hget
  obtain ⟨r, hgen⟩ : ∃ r, decGetL s.data.toList = r := ⟨_, rfl⟩
  rw [hgen] at hbd hd ⊢
  obtain ⟨⟨m, dd, e⟩, err⟩ := r
  simp only at hbd hd ⊢
  replace hgen := Lib.hid hgen
  replace hB := Lib.hid hB
  have hdl : d.size ≤ 200 := by rw [← bytes_len, hd]; exact hbd.1
  obtain ⟨_, b1, b2, b3⟩ := hbd
  simp only [numV]
  by_cases h0 : err = 0
  · subst h0
    clear b3
    replace hd := Lib.hid hd
    by_cases he : e < 0
    · have hint : intL s.data.toList = (0, 1) := by
        unfold intL
        rw [hgen.out]
        simp only [ne_eq, not_true_eq_false, if_false]
        rw [if_pos he]
      replace hint := Lib.hid hint
      go_wp2
      go_ret2
      exact ⟨by rw [hint.out]; rfl, hB.out.alloc hB.out.size _⟩
    · by_cases hsum : 19 < (d.size : Int) + e
      · have hint : intL s.data.toList = (0, 64) := by
          unfold intL
          rw [hgen.out]
          simp only [ne_eq, not_true_eq_false, if_false]
          rw [if_neg he, if_pos (by rw [← hd.out, bytes_len]; exact hsum)]
        replace hint := Lib.hid hint
        go_wp2
        go_ret2
        exact ⟨by rw [hint.out]; rfl, hB.out.alloc hB.out.size _⟩
      · obtain ⟨k, rfl⟩ := Int.eq_ofNat_of_zero_le (Int.not_lt.1 he)
        go_upto_region 9 with (fail)
        have hX := Cel.fresh w1 187 #[.bool m, .string d, .int .i64 k]
        have hBx := hB.out.alloc hB.out.size (.cells #[.bool m, .string d, .int .i64 k] 187)
        generalize w1.alloc (.cells #[.bool m, .string d, .int .i64 k] 187) = wx at *
        obtain ⟨x0, x1, x2, f0, f1, f2⟩ := hX.three
        have hXl := hX.lt
        replace hX := Lib.hid hX
        replace hBx := Lib.hid hBx
        refine wp_cut (fun a' wc => ∃ (T : ByteArray) (bb cap n : Nat) (u : Nat → Value), a' = ⟨#[.string s, u 1, u 2, u 3, .pointer (some ⟨w1.heap.size, 0, none⟩), u 5, .int .u64 0, u 7, u 8, u 9, u 10, u 11, u 12, u 13, u 14, u 15, u 16, u 17, u 18, u 19, u 20, u 21, u 22, u 23, u 24, u 25, u 26, u 27, u 28, u 29, u 30, u 31, u 32, u 33, u 34, u 35, u 36, u 37, .slice (some ⟨bb, 0, none⟩) n cap, .int .i64 n, .int .i64 0, u 41, u 42, u 43, u 44, u 45, u 46, u 47, u 48, u 49, u 50, u 51, u 52, u 53, u 54, u 55, u 56, u 57, u 58, u 59, u 60, u 61, u 62, u 63, u 64, u 65, u 66, u 67, u 68, u 69, u 70, u 71, u 72, u 73, u 74, u 75, u 76], []⟩ ∧ (n = T.size ∧ T.data.toList = d.data.toList ++ List.replicate k 48 ∧ IsBytes bb T wc ∧ wc.cell? ⟨w1.heap.size, 0, none⟩ = some (.bool m) ∧ Below w.heap.size w wc)) ?rest ?first
        case first =>
          intro J K' hJ hK'
          go_region_with (go_at_call 168; refine (repeat_call k (by omega) d (by omega) w1.heap.size k wx.drew x1 x2).mono ?_; rintro en w2 ⟨t, rfl, ht, hB2, y1, y2, hadd, hconv⟩)
          all_goals
            have hcat : (d ++ t).data.toList = d.data.toList ++ List.replicate k 48 := by rw [ByteArray.data_append, Array.toList_append, ht]
            have hlt2 : w1.heap.size < w2.heap.size := World.block_lt_of_cell? w2 _ y1
            have hy0 : w2.cell? ⟨w1.heap.size, 0, none⟩ = some (.bool m) := (hB2.cell (p := ⟨w1.heap.size, 0, none⟩) hXl).trans x0
            have hB3 : Below w.heap.size w w2 := hBx.out.drew.trans (hB2.mono (by have := hBx.out.size; exact this))
            have hsz : d.size + t.size = (d ++ t).size := by rw [ByteArray.size_append]
            replace hcat := Lib.hid hcat
            replace hsz := Lib.hid hsz
            clear hadd hconv
            go_wp2
            refine Met.intro (hJ _ _ ?_)
            exact ⟨d ++ t, w2.heap.size, grownCap w2 (d.size + t.size) 0 5, d.size + t.size, meetF (by kernel_rfl) ⟨hsz.out, hcat.out, fun j hj => Lib.bytesWorld_cell _ _ _ j hj, (Lib.bytesWorld_old _ _ _ _ hlt2).trans hy0, hB3.trans ((Lib.bytesWorld_below _ _ _).mono hB3.size)⟩⟩
        case rest =>
          clear x0 x1 x2 f0 f1 f2 hX hBx
          rintro a' wd ⟨T, bb, cap, n, u, rfl, hn, hT, hcell, hm0, hBc⟩
          subst hn
          have hTd : ∀ c, c ∈ T.data.toList → isDig c = true := by
            intro c hc
            rw [hT, List.mem_append] at hc
            rcases hc with hc | hc
            · rw [hd.out] at hc
              have := decGetL_dig s.data.toList c
              rw [hgen.out] at this
              exact this hc
            · rw [List.eq_of_mem_replicate hc]; rfl
          have hTl : T.size ≤ 19 := by
            rw [← bytes_len, hT, List.length_append, List.length_replicate, bytes_len]; omega
          replace hTd := Lib.hid hTd
          replace hT := Lib.hid hT
          replace hcell := Lib.hid hcell
          go_upto_block 1 with (fail)
          refine wp_cut (fun a' wc => ∃ (u : Nat → Value), a' = ⟨#[.string s, u 1, u 2, u 3, .pointer (some ⟨w1.heap.size, 0, none⟩), u 5, .int .u64 (decV T.data.toList : Nat), u 7, u 8, u 9, u 10, u 11, u 12, u 13, u 14, u 15, u 16, u 17, u 18, u 19, u 20, u 21, u 22, u 23, u 24, u 25, u 26, u 27, u 28, u 29, u 30, u 31, u 32, u 33, u 34, u 35, u 36, u 37, u 38, u 39, u 40, u 41, u 42, u 43, u 44, u 45, u 46, u 47, u 48, u 49, u 50, u 51, u 52, u 53, u 54, u 55, u 56, u 57, u 58, u 59, u 60, u 61, u 62, u 63, u 64, u 65, u 66, u 67, u 68, u 69, u 70, u 71, u 72, u 73, u 74, u 75, u 76], []⟩ ∧ (wc = wd)) ?rest2 ?first2
          case first2 =>
            intro J K' hJ hK'
            go_wp2
            go_loop [6, 40] (fun v i => ∃ j : Nat, j ≤ T.size ∧ v = .int .u64 (decV (T.data.toList.take j) : Nat) ∧ i = .int .i64 j) (fun _ i => T.size - (intOf i).toNat)
            case atStart => exact ⟨0, Nat.zero_le _, rfl, rfl⟩
            case round =>
              obtain ⟨j, hj, rfl, rfl⟩ := hrel
              by_cases hlt : j < T.size
              · have hb := bytes_at T j hlt
                have hc := hcell.out j hlt
                have hg : T.data.toList.getD j 0 = T[j] := by rw [List.getD, hb]; rfl
                rw [hg] at hc
                have hd1 := isDig_t (hTd.out T[j] (List.mem_of_getElem? hb))
                have hv := decV_lt (T.data.toList.take j) (fun c hc => hTd.out c (List.mem_of_mem_take hc))
                have hv2 : decV (T.data.toList.take j) ≤ 999999999999999999 := by
                  have h1 : (T.data.toList.take j).length ≤ 18 := by rw [List.length_take]; omega
                  have h2 : 10 ^ (T.data.toList.take j).length ≤ 10 ^ 18 := Nat.pow_le_pow_right (by omega) h1
                  have h3 : (10 : Nat) ^ 18 = 1000000000000000000 := by decide
                  omega
                have hstep := decV_step hb
                obtain ⟨v, hve⟩ : ∃ v, decV (T.data.toList.take j) = v := ⟨_, rfl⟩
                rw [hve] at hv2 hstep
                simp only [hve]
                obtain ⟨q, hq⟩ : ∃ q, T[j].toNat = q := ⟨_, rfl⟩
                rw [hq] at hd1 hstep hc
                clear hve hv hg hb hq
                replace hstep := Lib.hid hstep
                obtain ⟨d1, d2⟩ := hd1
                go_wp2_with (go_at_call 169; refine (mul10 v hv2 _).mono ?_; rintro en w' ⟨rfl, rfl⟩)
                exact ⟨⟨j + 1, by omega, by rw [hstep.out]; congr 1; omega, by go_num⟩, by simp [intOf]; omega⟩
              · have hjT : j = T.size := by omega
                have hfin : decV (T.data.toList.take j) = decV T.data.toList := by rw [List.take_of_length_le (by rw [bytes_len]; omega)]
                rw [hfin]
                clear hjT hfin
                go_wp2
                refine Met.intro (hJ _ _ ?_)
                exact meetF (by kernel_rfl) rfl
          case rest2 =>
            clear u
            rintro a' wc ⟨u, rfl, rfl⟩
            have hU := decV_lt T.data.toList hTd.out
            have hU2 : decV T.data.toList ≤ 9999999999999999999 := by
              have h2 : 10 ^ T.data.toList.length ≤ 10 ^ 19 := Nat.pow_le_pow_right (by omega) (by rw [bytes_len]; exact hTl)
              have h3 : (10 : Nat) ^ 19 = 10000000000000000000 := by decide
              omega
            have hint := intL_of hgen.out (by rw [← hd.out, bytes_len]; omega) (show decV (dd ++ List.replicate k 48) = decV T.data.toList by rw [hT.out, hd.out])
            obtain ⟨U, hUe⟩ : ∃ U, decV T.data.toList = U := ⟨_, rfl⟩
            rw [hUe] at hU2 hint
            simp only [hUe]
            clear hUe hU
            replace hint := Lib.hid hint
            cases m
            · by_cases hlt : (U : Int) < 9223372036854775808
              · have he2 := Lib.hid (hint.out.2.2.1 rfl (lt63 hlt))
                clear hint
                go_wp2
                go_ret2
                exact ⟨by rw [he2.out]; rfl, hBc⟩
              · have he2 := Lib.hid (hint.out.2.2.2 rfl (ge63 hlt))
                clear hint
                go_wp2
                go_ret2
                exact ⟨by rw [he2.out]; rfl, hBc⟩
            · by_cases hle : (U : Int) ≤ 9223372036854775808
              · have he2 := Lib.hid (hint.out.1 rfl (le63 hle))
                have hw := Lib.hid (neg_wrap U hle)
                clear hint
                go_wp2
                go_ret2
                exact ⟨by rw [he2.out]; exact ret2_i64 hw.out rfl, hBc⟩
              · have he2 := Lib.hid (hint.out.2.1 rfl (gt63 hle))
                clear hint
                go_wp2
                go_ret2
                exact ⟨by rw [he2.out]; rfl, hBc⟩
  · have hne : ((err : Int) != 0) = true := by simpa using h0
    have hint : intL s.data.toList = (0, err) := by
      unfold intL
      rw [hgen.out]
      simp only [ne_eq]
      rw [if_pos h0]
    replace hint := Lib.hid hint
    clear h0 b3
    go_wp2
    go_ret2
    exact ⟨by rw [hint.out]; rfl, hB.out.alloc hB.out.size _⟩
end Go.Proofs.YtlnkjacbdolhnaaGreatDoor


/-
  The walks of dec.Cmp and Of.
-/
namespace Go.Proofs.YtlnkjacbdolhnaaGreatDoor
open Go.RowKit

/-- How two worths of one sign are held against each other. -/
def cmpW (x y : Wth) : Int :=
  if cmp3 (x.digits.length + x.exp) (y.digits.length + y.exp) = 0 then Lib.compareBytes x.digits y.digits
  else cmp3 (x.digits.length + x.exp) (y.digits.length + y.exp)

/-- dec.Cmp. -/
def cmpL (a b : List UInt8) : Int × Int :=
  if (decGetL a).2 ≠ 0 then (0, (decGetL a).2)
  else if (decGetL b).2 ≠ 0 then (0, (decGetL b).2)
  else if signW (decGetL a).1 ≠ signW (decGetL b).1 then (cmp3 (signW (decGetL a).1) (signW (decGetL b).1), 0)
  else (cmpW (decGetL a).1 (decGetL b).1 * signW (decGetL a).1, 0)

def PairEnd (w : World) (r : Int × Int) (en : Ending) (w' : World) : Prop := en = .returned (.tuple #[.int .i64 r.1, .int .i64 r.2]) ∧ Below w.heap.size w w'
end Go.Proofs.YtlnkjacbdolhnaaGreatDoor


/-
  The walk of rostrumref04.Get: what they answer is what dec's answer.
-/
namespace Go.Proofs.YtlnkjacbdolhnaaGreatDoor
open Go.RowKit

theorem getEnd_of {l : List UInt8} (hl : l.length ≤ 1000000) {x : Wth} {e : Int} (h : getL l = (x, e)) (d : ByteArray) (hd : d.data.toList = x.digits) : GetEnd l (.returned (.tuple #[numV x.minus d x.exp, .int .i64 e])) := by
  unfold GetEnd; rw [get_same l hl, h]; exact ⟨d, hd, rfl⟩

set_option maxHeartbeats 2000000 in
theorem refGet_any (s : ByteArray) (w : World) (hs : s.size ≤ 1000000) :
    Calls Tryz.prog 193 #[.string s] w fun en w' => GetEnd s.data.toList en ∧ Below w.heap.size w w' := by
  have hl : s.data.toList.length ≤ 1000000 := by rw [bytes_len]; exact hs
  have hcon := Lib.hid (fun W => refParse_any s W (by omega))
  have hC0 := Cel.fresh w 247 #[.bool false, .string ⟨#[]⟩, .int .i64 0]
  have hB0 := (Below.refl w.heap.size w).alloc (Nat.le_refl _) (.cells #[.bool false, .string ⟨#[]⟩, .int .i64 0] 247)
  replace hC0 := Lib.hid hC0
  replace hB0 := Lib.hid hB0
  cases hP : parseL s.data.toList with
  | none =>
    have hfin : GetEnd s.data.toList (.returned (.tuple #[numV false ⟨#[]⟩ 0, .int .i64 4])) := getEnd_of hl (x := ⟨false, [], 0⟩) (by unfold getL; rw [hP]) ⟨#[]⟩ rfl
    replace hfin := Lib.hid hfin
    replace hP := Lib.hid hP
    go_enter Tryz.func193, Tryz.ntmps193
    go_wp2_with fail
    refine (hcon.out _).mono ?_
    rintro en w1 ⟨hpe, hB⟩
    unfold ParseEnd at hpe
    rw [hP.out] at hpe
    obtain ⟨x, y, z, rfl⟩ := hpe
    have hC := (hC0.out.below hB (by simp)).alloc (.cells #[.bool x, .string y, .int .i64 z] 247)
    obtain ⟨x0, x1, x2, f0, f1, f2⟩ := hC.three
    have q := Lib.hid (hC.over3 (x' := .bool false) (y' := .string ⟨#[]⟩) (z' := .int .i64 0)).three
    have hBf := (hB0.out.trans (hB.mono (by simp)))
    replace hBf := Lib.hid (hBf.alloc hBf.size (.cells #[.bool x, .string y, .int .i64 z] 247))
    clear hcon hB hC0 hB0
    go_wp2
    replace q := q.out
    refine bodyPost_ret (v := .tuple #[numV false ⟨#[]⟩ 0, .int .i64 4]) (by simp [numV, results, Tryz.results193, go_sem, q.1, q.2.1, q.2.2.1]) rfl ⟨hfin.out, ?_⟩
    exact ((hBf.out.setCell (by simp) _).setCell (by simp) _).setCell (by simp) _
  | some x =>
    obtain ⟨m, dd, e⟩ := x
    obtain ⟨d, hd⟩ : ∃ d : ByteArray, d = ⟨dd.toArray⟩ := ⟨_, rfl⟩
    have hdd : d.data.toList = dd := by rw [hd]
    have hdl : d.size = dd.length := by rw [← bytes_len, hdd]
    have hpe : ∀ en, ParseEnd s.data.toList en → en = .returned (.tuple #[numV m d e, .bool true]) := by
      intro en h
      unfold ParseEnd at h
      rw [hP] at h
      rw [h, hd]; rfl
    have hg : getL s.data.toList = if 200 < dd.length ∨ e < -9999 ∨ 9999 < e then (⟨false, [], 0⟩, 40) else (⟨m, dd, e⟩, 0) := by unfold getL; rw [hP]
    replace hpe := Lib.hid hpe
    clear hd hP
    by_cases hbig : 200 < dd.length ∨ e < -9999 ∨ 9999 < e
    · rw [if_pos hbig] at hg
      have hfin : GetEnd s.data.toList (.returned (.tuple #[numV false ⟨#[]⟩ 0, .int .i64 40])) := getEnd_of hl (x := ⟨false, [], 0⟩) hg ⟨#[]⟩ rfl
      replace hfin := Lib.hid hfin
      clear hg hdd
      have hthree : (200 < (d.size : Int)) ∨ (¬ (200 < (d.size : Int)) ∧ e < -9999) ∨ (¬ (200 < (d.size : Int)) ∧ ¬ e < -9999 ∧ 9999 < e) := by omega
      clear hdl hbig
      rcases hthree with h1 | ⟨h1, h2⟩ | ⟨h1, h2, h3⟩
      all_goals
        go_enter Tryz.func193, Tryz.ntmps193
        go_wp2_with fail
        refine (hcon.out _).mono ?_
        rintro en w1 ⟨hen, hB⟩
        have hen := hpe.out _ hen
        subst hen
        have hC := (hC0.out.below hB (by simp)).alloc (.cells #[.bool m, .string d, .int .i64 e] 247)
        have hD := Cel.fresh w1 247 #[.bool m, .string d, .int .i64 e]
        obtain ⟨x0, x1, x2, f0, f1, f2⟩ := hC.three
        obtain ⟨y0, y1, y2, g0, g1, g2⟩ := hD.three
        have q := Lib.hid (hC.over3 (x' := .bool false) (y' := .string ⟨#[]⟩) (z' := .int .i64 0)).three
        have hBf := (hB0.out.trans (hB.mono (by simp)))
        replace hBf := Lib.hid (hBf.alloc hBf.size (.cells #[.bool m, .string d, .int .i64 e] 247))
        clear hcon hB hC0 hB0
        simp only [numV]
        go_wp2
        replace q := q.out
        refine bodyPost_ret (v := .tuple #[numV false ⟨#[]⟩ 0, .int .i64 40]) (by simp [numV, results, Tryz.results193, go_sem, q.1, q.2.1, q.2.2.1]) rfl ⟨hfin.out, ?_⟩
        exact ((hBf.out.setCell (by simp) _).setCell (by simp) _).setCell (by simp) _
    · rw [if_neg hbig] at hg
      have hfin : GetEnd s.data.toList (.returned (.tuple #[numV m d e, .int .i64 0])) := getEnd_of hl hg d hdd
      replace hfin := Lib.hid hfin
      have h1 : ¬ (200 < (d.size : Int)) := by omega
      have h2 : ¬ e < -9999 := by omega
      have h3 : ¬ 9999 < e := by omega
      clear hg hdd hdl hbig
      go_enter Tryz.func193, Tryz.ntmps193
      go_wp2_with fail
      refine (hcon.out _).mono ?_
      rintro en w1 ⟨hen, hB⟩
      have hen := hpe.out _ hen
      subst hen
      have hC := (hC0.out.below hB (by simp)).alloc (.cells #[.bool m, .string d, .int .i64 e] 247)
      have hD := Cel.fresh w1 247 #[.bool m, .string d, .int .i64 e]
      obtain ⟨x0, x1, x2, f0, f1, f2⟩ := hC.three
      obtain ⟨y0, y1, y2, g0, g1, g2⟩ := hD.three
      have q := Lib.hid (hC.over3 (x' := .bool m) (y' := .string d) (z' := .int .i64 e)).three
      have hBf := (hB0.out.trans (hB.mono (by simp)))
      replace hBf := Lib.hid (hBf.alloc hBf.size (.cells #[.bool m, .string d, .int .i64 e] 247))
      clear hcon hB hC0 hB0
      simp only [numV]
      go_wp2
      replace q := q.out
      refine bodyPost_ret (v := .tuple #[numV m d e, .int .i64 0]) (by simp [numV, results, Tryz.results193, go_sem, q.1, q.2.1, q.2.2.1]) rfl ⟨hfin.out, ?_⟩
      exact ((hBf.out.setCell (by simp) _).setCell (by simp) _).setCell (by simp) _
end Go.Proofs.YtlnkjacbdolhnaaGreatDoor


/-
  The walks of rostrumref04.whole, Form, Own and Of: what they answer is what dec's answer.
-/
namespace Go.Proofs.YtlnkjacbdolhnaaGreatDoor
open Go.RowKit

/-- A row of one byte, handed to string(..), its cell told. -/
theorem one_byte_r (V : World) (g : Nat) (c : Int) (h0 : 0 ≤ c) (h1 : c < 256) (hc : V.cell? ⟨g, 0, none⟩ = some (.int .u8 c)) :
    (convert 84 9 (.slice (some ⟨g, 0, none⟩) 1 1)).run Tryz.prog V = .ok (.string ⟨#[UInt8.ofNat c.toNat]⟩) V := by
  have hb : Lib.Bytes V g 0 ⟨#[UInt8.ofNat c.toNat]⟩ := by
    intro i hi
    have hi0 : i = 0 := by have : (⟨#[UInt8.ofNat c.toNat]⟩ : ByteArray).size = 1 := rfl; omega
    subst hi0
    have e : (⟨#[UInt8.ofNat c.toNat]⟩ : ByteArray)[0] = UInt8.ofNat c.toNat := rfl
    rw [e]
    have : ((UInt8.ofNat c.toNat).toNat : Int) = c := by
      rw [UInt8.toNat_ofNat']; omega
    rw [this]; exact hc
  exact Lib.run_convert_whole (P := Tryz.prog) V 84 5 9 Tryz.underlying84 Tryz.underlying5 Tryz.underlying9 g 0 ⟨#[UInt8.ofNat c.toNat]⟩ hb 1

/-- A number's digits; of 0 none. -/
def digZ (v : Nat) : List UInt8 := if v = 0 then [] else Lib.decDigits v
theorem digZ_step (v : Nat) (h : 0 < v) : digZ v = digZ (v / 10) ++ [UInt8.ofNat (48 + v % 10)] := by
  unfold digZ
  rw [if_neg (by omega)]
  conv => lhs; unfold Lib.decDigits
  by_cases h10 : v < 10
  · rw [dif_pos h10, if_pos (by omega), show v % 10 = v by omega]; rfl
  · rw [dif_neg h10, if_neg (by omega)]
theorem digZ_len (v : Nat) (h : v < 100000000000000000000) : (digZ v).length ≤ 20 := by
  have key : ∀ (k v : Nat), v < 10 ^ k → (digZ v).length ≤ k := by
    intro k
    induction k with
    | zero => intro v hv; rw [Nat.pow_zero] at hv; have : v = 0 := by omega
              subst this; exact Nat.le_refl 0
    | succ k ih =>
      intro v hv
      by_cases h0 : v = 0
      · subst h0; exact Nat.zero_le _
      · rw [digZ_step v (by omega), List.length_append]
        have := ih (v / 10) (by rw [Nat.pow_succ] at hv; omega)
        simp only [List.length_singleton]; omega
  exact key 20 v (by have : (10 : Nat) ^ 20 = 100000000000000000000 := by decide
                     omega)

theorem itoa_pos {n : Int} (h : 0 < n) : Lib.itoa n = digZ n.toNat := by
  unfold Lib.itoa digZ
  rw [if_neg (by omega), if_neg (by omega)]
theorem itoa_neg {n : Int} (h : n < 0) : Lib.itoa n = 45 :: digZ n.natAbs := by
  unfold Lib.itoa digZ
  rw [if_pos h, if_neg (by omega)]

set_option maxHeartbeats 2000000 in
theorem refWhole_any (n : Int) (w : World) (h0 : -9223372036854775808 ≤ n) (h1 : n ≤ 9223372036854775807) :
    Calls Tryz.prog 194 #[.int .i64 n] w (StrEnd w (Lib.itoa n)) := by
  by_cases hz : n = 0
  · subst hz
    go_enter Tryz.func194, Tryz.ntmps194
    go_wp2
    go_ret
    exact ⟨⟨#[48]⟩, by decide +kernel, rfl, Below.refl _ _⟩
  · have hz1 : ((n : Int) == 0) = false := by simpa using hz
    obtain ⟨U0, hU0⟩ : ∃ U0, IntKind.u64.wrap n = U0 := ⟨_, rfl⟩
    obtain ⟨N, hN⟩ : ∃ N : Nat, n.natAbs = N := ⟨_, rfl⟩
    have hN1 : N ≤ 9223372036854775808 := by omega
    have hneg : n < 0 → IntKind.u64.wrap (-U0) = N := by intro h; rw [← hU0, IntKind.wrap_u64, IntKind.wrap_u64]; omega
    have hpos : 0 < n → U0 = N := by intro h; rw [← hU0, IntKind.wrap_u64]; omega
    have hit1 : n < 0 → Lib.itoa n = 45 :: digZ N := by intro h; rw [itoa_neg h, hN]
    have hit2 : 0 < n → Lib.itoa n = digZ N := by intro h; rw [itoa_pos h]; congr 1; omega
    obtain ⟨I, hI⟩ : ∃ I, Lib.itoa n = I := ⟨_, rfl⟩
    rw [hI] at hit1 hit2 ⊢
    have hlen := digZ_len N (by omega)
    clear hI hN
    by_cases hm : n < 0
    · have e1 := hneg hm
      have e2 := Lib.hid (hit1 hm)
      clear hneg hpos hit1 hit2 h0 h1 hz
      go_enter Tryz.func194, Tryz.ntmps194
      go_wp2
      go_loopw [3, 4] (fun s u wr => ∃ (v : Nat) (S : ByteArray), s = .string S ∧ u = .int .u64 v ∧ v ≤ N ∧ digZ v ++ S.data.toList = digZ N ∧ Below w.heap.size w wr) (fun _ u _ => (intOf u).toNat)
      case atStart => exact ⟨N, ⟨#[]⟩, rfl, rfl, Nat.le_refl _, List.append_nil _, Below.refl _ _⟩
      case round =>
        obtain ⟨v, S, rfl, rfl, hv, hS, hBk⟩ := hrel
        have hSl : S.size ≤ 20 := by
          have := congrArg List.length hS
          rw [List.length_append, bytes_len] at this
          omega
        by_cases hlt : 0 < v
        · have hst := digZ_step v hlt
          obtain ⟨r, hr⟩ : ∃ r : Nat, v % 10 = r := ⟨_, rfl⟩
          obtain ⟨q, hq⟩ : ∃ q : Nat, v / 10 = q := ⟨_, rfl⟩
          rw [hr, hq] at hst
          have hr10 : r < 10 := by omega
          have hqv : q < v := by omega
          have hrm : (v : Int).tmod 10 = r := by rw [← hr]; exact (Int.ofNat_tmod v 10).symm
          have hqm : (v : Int).tdiv 10 = q := by rw [← hq]; exact (Int.ofNat_tdiv v 10).symm
          have w1 : IntKind.u64.wrap (r : Int) = r := by rw [IntKind.wrap_u64]; omega
          have w2 : IntKind.u64.wrap (48 + (r : Int)) = 48 + r := by rw [IntKind.wrap_u64]; omega
          have w3 : IntKind.u8.wrap (48 + (r : Int)) = 48 + r := by rw [IntKind.wrap_u8]; omega
          have w4 : IntKind.u64.wrap (q : Int) = q := by rw [IntKind.wrap_u64]; omega
          obtain ⟨one, hone⟩ : ∃ one : ByteArray, one = ⟨#[UInt8.ofNat (48 + r)]⟩ := ⟨_, rfl⟩
          have hcv : ∀ (V : World) (g : Nat), V.cell? ⟨g, 0, none⟩ = some (.int .u8 (48 + r)) → (convert 84 9 (.slice (some ⟨g, 0, none⟩) 1 1)).run Tryz.prog V = .ok (.string one) V := fun V g hg => by
            have := one_byte_r V g (48 + r) (by omega) (by omega) hg
            rw [this, hone]; congr 2
          have hadd := add_ok one S (by rw [hone]; show 1 + S.size ≤ _; omega)
          have hS2 : digZ q ++ (one ++ S).data.toList = digZ N := by
            rw [ByteArray.data_append, Array.toList_append, hone, ← hS, hst]; simp
          clear hS hst hr hq hone
          replace hS2 := Lib.hid hS2
          replace hBk := Lib.hid hBk
          go_wp2
          go_roundw
          case rel => exact ⟨q, one ++ S, rfl, by go_num, by omega, hS2.out, hBk.out.alloc hBk.out.size _⟩
          case measure => simp [intOf]; omega
        · have hv0 : v = 0 := by omega
          subst hv0
          have hS2 : S.data.toList = digZ N := by rw [← hS]; rfl
          clear hS
          replace hS2 := Lib.hid hS2
          replace hBk := Lib.hid hBk
          have hadd := add_ok ⟨#[45]⟩ S (by show 1 + S.size ≤ _; omega)
          go_wp2
          go_ret
          exact ⟨⟨#[45]⟩ ++ S, by rw [cat_one, hS2.out, e2.out], rfl, hBk.out⟩
    · have e1 := hpos (by omega)
      have e2 := Lib.hid (hit2 (by omega))
      clear hneg hpos hit1 hit2 h0 h1
      go_enter Tryz.func194, Tryz.ntmps194
      go_wp2
      go_loopw [3, 4] (fun s u wr => ∃ (v : Nat) (S : ByteArray), s = .string S ∧ u = .int .u64 v ∧ v ≤ N ∧ digZ v ++ S.data.toList = digZ N ∧ Below w.heap.size w wr) (fun _ u _ => (intOf u).toNat)
      case atStart => exact ⟨N, ⟨#[]⟩, rfl, rfl, Nat.le_refl _, List.append_nil _, Below.refl _ _⟩
      case round =>
        obtain ⟨v, S, rfl, rfl, hv, hS, hBk⟩ := hrel
        have hSl : S.size ≤ 20 := by
          have := congrArg List.length hS
          rw [List.length_append, bytes_len] at this
          omega
        by_cases hlt : 0 < v
        · have hst := digZ_step v hlt
          obtain ⟨r, hr⟩ : ∃ r : Nat, v % 10 = r := ⟨_, rfl⟩
          obtain ⟨q, hq⟩ : ∃ q : Nat, v / 10 = q := ⟨_, rfl⟩
          rw [hr, hq] at hst
          have hr10 : r < 10 := by omega
          have hqv : q < v := by omega
          have hrm : (v : Int).tmod 10 = r := by rw [← hr]; exact (Int.ofNat_tmod v 10).symm
          have hqm : (v : Int).tdiv 10 = q := by rw [← hq]; exact (Int.ofNat_tdiv v 10).symm
          have w1 : IntKind.u64.wrap (r : Int) = r := by rw [IntKind.wrap_u64]; omega
          have w2 : IntKind.u64.wrap (48 + (r : Int)) = 48 + r := by rw [IntKind.wrap_u64]; omega
          have w3 : IntKind.u8.wrap (48 + (r : Int)) = 48 + r := by rw [IntKind.wrap_u8]; omega
          have w4 : IntKind.u64.wrap (q : Int) = q := by rw [IntKind.wrap_u64]; omega
          obtain ⟨one, hone⟩ : ∃ one : ByteArray, one = ⟨#[UInt8.ofNat (48 + r)]⟩ := ⟨_, rfl⟩
          have hcv : ∀ (V : World) (g : Nat), V.cell? ⟨g, 0, none⟩ = some (.int .u8 (48 + r)) → (convert 84 9 (.slice (some ⟨g, 0, none⟩) 1 1)).run Tryz.prog V = .ok (.string one) V := fun V g hg => by
            have := one_byte_r V g (48 + r) (by omega) (by omega) hg
            rw [this, hone]; congr 2
          have hadd := add_ok one S (by rw [hone]; show 1 + S.size ≤ _; omega)
          have hS2 : digZ q ++ (one ++ S).data.toList = digZ N := by
            rw [ByteArray.data_append, Array.toList_append, hone, ← hS, hst]; simp
          clear hS hst hr hq hone
          replace hS2 := Lib.hid hS2
          replace hBk := Lib.hid hBk
          go_wp2
          go_roundw
          case rel => exact ⟨q, one ++ S, rfl, by go_num, by omega, hS2.out, hBk.out.alloc hBk.out.size _⟩
          case measure => simp [intOf]; omega
        · have hv0 : v = 0 := by omega
          subst hv0
          have hS2 : S.data.toList = digZ N := by rw [← hS]; rfl
          clear hS
          replace hS2 := Lib.hid hS2
          replace hBk := Lib.hid hBk
          go_wp2
          go_ret
          exact ⟨S, by rw [hS2.out, e2.out], rfl, hBk.out⟩

set_option maxHeartbeats 2000000 in
theorem refForm_any (m : Bool) (d : ByteArray) (e : Int) (w : World) (hd : d.size ≤ 1099511627776) (h0 : -1099511627776 ≤ e) (h1 : e ≤ 1099511627776) :
    Calls Tryz.prog 218 #[.agg #[.bool m, .string d, .int .i64 e]] w (StrEnd w (formL ⟨m, d.data.toList, e⟩)) := by
  have hB0 : Below w.heap.size w (w.alloc (.cells #[.bool m, .string d, .int .i64 e] 247)) := (Below.refl _ _).alloc (Nat.le_refl _) _
  replace hB0 := Lib.hid hB0
  rcases hl : d.data.toList with _ | ⟨c, t⟩
  · have hem := isEmpty_t d hl
    clear hl
    go_enter Tryz.func218, Tryz.ntmps218
    go_wp2
    go_ret
    exact ⟨⟨#[48]⟩, rfl, rfl, hB0.out⟩
  · have hem := isEmpty_f d c t hl
    have hwh := Lib.hid (fun W => refWhole_any e W (by omega) (by omega))
    have hil := Lib.itoa_length_le e (by omega) (by omega)
    replace hl := Lib.hid hl
    by_cases he : e = 0
    · subst he
      have hadd := add_ok ⟨#[45]⟩ d (by show 1 + d.size ≤ _; omega)
      cases m
      all_goals
        go_enter Tryz.func218, Tryz.ntmps218
        go_wp2
        go_ret
      · exact ⟨d, by rw [hl.out]; simp [formL], rfl, hB0.out⟩
      · exact ⟨⟨#[45]⟩ ++ d, by rw [cat_one, hl.out]; simp [formL], rfl, hB0.out⟩
    · have he1 : ((e : Int) != 0) = true := by simpa using he
      have hadd := add_ok ⟨#[45]⟩ d (by show 1 + d.size ≤ _; omega)
      have hf : ∀ m, formL ⟨m, c :: t, e⟩ = (if m then 45 :: (c :: t) else c :: t) ++ 101 :: Lib.itoa e := by
        intro m; unfold formL; rw [if_neg (by simp), if_neg he]
      cases m
      · have hadd2 := add_ok d ⟨#[101]⟩ (by show d.size + 1 ≤ _; omega)
        go_enter Tryz.func218, Tryz.ntmps218
        go_wp2_with fail
        refine (hwh.out _).mono ?_
        rintro en w1 ⟨g, hg, rfl, hB⟩
        have hgl : g.size ≤ 21 := by rw [← bytes_len, hg]; exact hil
        have hadd3 := add_ok (d ++ ⟨#[101]⟩) g (by rw [ByteArray.size_append]; show d.size + 1 + g.size ≤ _; omega)
        replace hg := Lib.hid hg
        have hB1 := Lib.hid (hB0.out.trans (hB.mono hB0.out.size))
        clear hB
        go_wp2
        go_ret
        exact ⟨d ++ ⟨#[101]⟩ ++ g, by rw [hf, ByteArray.data_append, Array.toList_append, ByteArray.data_append, Array.toList_append, hl.out, hg.out]; simp, rfl, hB1.out⟩
      · have hadd2 := add_ok (⟨#[45]⟩ ++ d) ⟨#[101]⟩ (by rw [ByteArray.size_append]; show 1 + d.size + 1 ≤ _; omega)
        go_enter Tryz.func218, Tryz.ntmps218
        go_wp2_with fail
        refine (hwh.out _).mono ?_
        rintro en w1 ⟨g, hg, rfl, hB⟩
        have hgl : g.size ≤ 21 := by rw [← bytes_len, hg]; exact hil
        have hadd3 := add_ok (⟨#[45]⟩ ++ d ++ ⟨#[101]⟩) g (by rw [ByteArray.size_append, ByteArray.size_append]; show 1 + d.size + 1 + g.size ≤ _; omega)
        replace hg := Lib.hid hg
        have hB1 := Lib.hid (hB0.out.trans (hB.mono hB0.out.size))
        clear hB
        go_wp2
        go_ret
        exact ⟨⟨#[45]⟩ ++ d ++ ⟨#[101]⟩ ++ g, by rw [hf, ByteArray.data_append, Array.toList_append, ByteArray.data_append, Array.toList_append, cat_one, hl.out, hg.out]; simp, rfl, hB1.out⟩

set_option maxHeartbeats 1000000 in
theorem refOwn_any (s : ByteArray) (w : World) (hs : s.size ≤ 1000000) :
    Calls Tryz.prog 192 #[.string s] w (OwnEnd w (ownL s.data.toList)) := by
  have hbd := decGetL_bd s.data.toList
  have hget := Lib.hid (refGet_any s w hs)
  go_enter Tryz.func192, Tryz.ntmps192
  go_wp2_with fail
  refine hget.out.mono ?_
  rintro en w1 ⟨⟨d, hd, rfl⟩, hB⟩
  clear hget
  obtain ⟨r, hgen⟩ : ∃ r, decGetL s.data.toList = r := ⟨_, rfl⟩
  rw [hgen] at hbd hd ⊢
  obtain ⟨⟨m, dd, e⟩, err⟩ := r
  simp only at hbd hd ⊢
  have hdl : d.size ≤ 200 := by rw [← bytes_len, hd]; exact hbd.1
  subst hd
  obtain ⟨_, b1, b2, b3⟩ := hbd
  have hBx := hB.alloc hB.size (.cells #[.bool m, .string d, .int .i64 e] 247)
  replace hBx := Lib.hid hBx
  clear hB
  simp only [numV]
  by_cases h0 : err = 0
  · subst h0
    have hfin : ownL s.data.toList = (formL ⟨m, d.data.toList, e⟩, 0) := by unfold ownL; rw [hgen]; rfl
    have hform := Lib.hid (fun W => refForm_any m d e W (by omega) (by omega) (by omega))
    replace hfin := Lib.hid hfin
    clear hgen b3
    go_wp2_with fail
    refine (hform.out _).mono ?_
    rintro en w2 ⟨g, hg, rfl, hB2⟩
    have hB3 := Lib.hid (hBx.out.trans (hB2.mono hBx.out.size))
    replace hg := Lib.hid hg
    clear hB2
    go_wp2
    go_ret2
    exact own_end hfin.out hg.out hB3.out
  · have hne : ((err : Int) != 0) = true := by simpa using h0
    have hfin : ownL s.data.toList = ([], err) := by unfold ownL; rw [hgen]; simp [h0]
    replace hfin := Lib.hid hfin
    clear hgen h0 b3
    go_wp2
    go_ret2
    exact own_end (g := ⟨#[]⟩) hfin.out rfl hBx.out

theorem own_itoa (n : Int) (h0 : -9223372036854775808 ≤ n) (h1 : n ≤ 9223372036854775807) : ownL (Lib.itoa n) = (ofNL n, 0) := by
  obtain ⟨D, k, hg, _, _⟩ := get_itoa n h0 h1
  unfold ownL ofNL
  rw [hg]
  simp

set_option maxHeartbeats 1000000 in
theorem refOf_any (n : Int) (w : World) (h0 : -9223372036854775808 ≤ n) (h1 : n ≤ 9223372036854775807) :
    Calls Tryz.prog 166 #[.int .i64 n] w (StrEnd w (ofNL n)) := by
  have hwh := Lib.hid (refWhole_any n w h0 h1)
  have hil := Lib.itoa_length_le n h0 h1
  have hoi := Lib.hid (own_itoa n h0 h1)
  have hown := Lib.hid (fun s W hs => refOwn_any s W hs)
  clear h0 h1
  go_enter Tryz.func166, Tryz.ntmps166
  go_wp2_with fail
  refine hwh.out.mono ?_
  rintro en w1 ⟨g, hg, rfl, hB⟩
  have hgl : g.size ≤ 21 := by rw [← bytes_len, hg]; exact hil
  replace hB := Lib.hid hB
  replace hg := Lib.hid hg
  clear hwh hil
  go_wp2_with fail
  refine (hown.out g _ (by omega)).mono ?_
  rintro en w2 ⟨g2, hg2, rfl, hB2⟩
  rw [hg.out, hoi.out] at hg2 ⊢
  have hB3 := Lib.hid (hB.out.trans (hB2.mono hB.out.size))
  replace hg2 := Lib.hid hg2
  clear hB2 hown
  simp only
  go_wp2
  go_ret
  exact ⟨g2, hg2.out, rfl, hB3.out⟩
end Go.Proofs.YtlnkjacbdolhnaaGreatDoor


/-
  The walk of rostrumref04.Int: what it answers is what dec's answers.
-/
namespace Go.Proofs.YtlnkjacbdolhnaaGreatDoor
open Go.RowKit

end Go.Proofs.YtlnkjacbdolhnaaGreatDoor


/-
  The walks of rpc's whole, id and params, and of the document's Whole and IsID.
-/
namespace Go.Proofs.YtlnkjacbdolhnaaGreatDoor
open Go.RowKit

/-- The worth of a whole number; is a value an id; is it parameters? -/
def jwhole (j : Jsn) : Int × Bool := if j.kind = 4 then ((intL j.text.data.toList).1, decide ((intL j.text.data.toList).2 = 0)) else (0, false)
def jisid (j : Jsn) : Bool := (jwhole j).2 || decide (j.kind = 5)
def jispar (j : Jsn) : Bool := decide (j.kind = 6) || decide (j.kind = 7)
def IntSays (f : Nat) : Prop := ∀ (s : ByteArray) (w : World), s.size ≤ 1000000 →
    Calls Tryz.prog f #[.string s] w fun en w' => en = .returned (.tuple #[.int .i64 (intL s.data.toList).1, .int .i64 (intL s.data.toList).2]) ∧ Below w.heap.size w w'
def WholeEnd (j : Jsn) (w : World) (e : Ending) (w' : World) : Prop := e = .returned (.tuple #[.int .i64 (jwhole j).1, .bool (jwhole j).2]) ∧ Below w.heap.size w w'
end Go.Proofs.YtlnkjacbdolhnaaGreatDoor
