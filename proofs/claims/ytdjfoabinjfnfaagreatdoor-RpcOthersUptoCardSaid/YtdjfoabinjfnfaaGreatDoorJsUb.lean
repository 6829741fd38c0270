/-
  The walks of the document's Rune and Valid: a text is valid just if the library says so.
-/
import Derived.Test.YtdjfoabinjfnfaaGreatDoorM03
import Derived.Test.YtdjfoabinjfnfaaGreatDoorJsQ
namespace Go.Proofs.YtdjfoabinjfnfaaGreatDoor
open Go.RowKit
theorem ext_take (s : ByteArray) (q : Nat) : (s.extract 0 q).data.toList = s.data.toList.take q := by
  rw [ByteArray.data_extract]; simp
theorem ext_drop (s : ByteArray) (q : Nat) : (s.extract q s.size).data.toList = s.data.toList.drop q := by
  rw [ByteArray.data_extract]
  simp only [Array.toList_extract, List.extract_eq_take_drop]
  rw [List.take_of_length_le]
  rw [List.length_drop, bytes_len]; omega
theorem nonempty_f {s : ByteArray} (h : s ≠ ⟨#[]⟩) : s.toList.isEmpty = false := by
  rw [jtl_eq, empty_iff]; exact decide_eq_false h
def RuneEnd (l : List UInt8) (w : World) (e : Ending) (w' : World) : Prop := e = .returned (.tuple #[.int .i64 (rrune l).1, .int .i64 (rrune l).2]) ∧ Below w.heap.size w w'
theorem runeEnd_of {l : List UInt8} {w w' : World} {a b : Int} {k : Nat} (h : rrune l = (a, k)) (hk : (k : Int) = b) (hB : Below w.heap.size w w') : RuneEnd l w (.returned (.tuple #[.int .i64 a, .int .i64 b])) w' := by
  unfold RuneEnd; rw [h]; exact ⟨by rw [← hk], hB⟩
theorem bel_drew1 {B : Nat} {a w : World} (h : Below B a w) : Below B a w.drew := ⟨h.os, h.tape, h.output, h.size, h.block⟩
def NoR (l : List UInt8) (q : Nat) : Prop := ∀ k, 1 ≤ k → k < q → k ≤ l.length → rok l k = false
theorem NoR.step {l : List UInt8} {q : Nat} (h : NoR l q) (hq : rok l q = false) : NoR l (q + 1) := fun k h1 h2 h3 => by
  by_cases e : k = q
  · subst e; exact hq
  · exact h k h1 (by omega) h3
theorem rrune_hit {l : List UInt8} {q : Nat} (h : NoR l q) (h1 : 1 ≤ q) (h4 : q ≤ 4) (hl : q ≤ l.length) (hq : rok l q = true) : rrune l = (rbits (l.take q), q) := by
  have hne : l ≠ [] := fun e => by subst e; simp at hl; omega
  have g : ∀ k, 1 ≤ k → k < q → ¬ (k ≤ l.length ∧ rok l k = true) := fun k a b c => by rw [h k a b c.1] at c; simp at c
  unfold rrune
  rw [if_neg hne]
  rcases (by omega : q = 1 ∨ q = 2 ∨ q = 3 ∨ q = 4) with rfl | rfl | rfl | rfl
  · rw [if_pos hq]
  · rw [if_neg (fun c => g 1 (by omega) (by omega) ⟨by omega, c⟩), if_pos ⟨hl, hq⟩]
  · rw [if_neg (fun c => g 1 (by omega) (by omega) ⟨by omega, c⟩), if_neg (g 2 (by omega) (by omega)), if_pos ⟨hl, hq⟩]
  · rw [if_neg (fun c => g 1 (by omega) (by omega) ⟨by omega, c⟩), if_neg (g 2 (by omega) (by omega)), if_neg (g 3 (by omega) (by omega)), if_pos ⟨hl, hq⟩]
theorem rrune_miss {l : List UInt8} {q : Nat} (h : NoR l q) (hne : l ≠ []) (hq : ¬ (q ≤ 4 ∧ q ≤ l.length)) : rrune l = (-1, 1) := by
  have hl : 1 ≤ l.length := List.length_pos_iff.2 hne
  have g : ∀ k, 1 ≤ k → k ≤ 4 → ¬ (k ≤ l.length ∧ rok l k = true) := fun k a b c => by rw [h k a (by omega) c.1] at c; simp at c
  unfold rrune
  rw [if_neg hne, if_neg (fun c => g 1 (by omega) (by omega) ⟨by omega, c⟩), if_neg (g 2 (by omega) (by omega)), if_neg (g 3 (by omega) (by omega)), if_neg (g 4 (by omega) (by omega))]
theorem rbits_bd (l : List UInt8) (h1 : 1 ≤ l.length) (h4 : l.length ≤ 4) : -100000000 ≤ rbits l ∧ rbits l ≤ 100000000 := by
  obtain ⟨a, b⟩ := rhead_bd l.length
  rw [rbp_bits l h1 h4]; exact rbp_bd l _ a b _ h4
set_option maxHeartbeats 4000000 in
theorem refRune_any (s : ByteArray) (w : World) (hs : s.size ≤ 1000000000000) :
    Calls Tryz.prog 163 #[.string s] w (RuneEnd s.data.toList w) := by
  by_cases h0 : s = ⟨#[]⟩
  · subst h0
    have hr : rrune (⟨#[]⟩ : ByteArray).data.toList = (-1, 0) := rfl
    replace hr := Lib.hid hr
    go_enter Tryz.func163, Tryz.ntmps163
    go_wp2_with fail
    refine bodyPost_ret (v := .tuple #[.int .i64 (-1), .int .i64 0]) (by simp [results, Tryz.results163, go_sem]) rfl (runeEnd_of hr.out rfl (Below.refl _ _))
  · have hne := nonempty_f h0
    have hnl : s.data.toList ≠ [] := fun e => h0 (jstr_ext e)
    have hlen := bytes_len s
    replace hnl := Lib.hid hnl
    replace hlen := Lib.hid hlen
    clear h0
    go_enter Tryz.func163, Tryz.ntmps163
    go_wp2_with fail
    go_loopw [4] (fun i wr => ∃ q : Nat, 1 ≤ q ∧ q ≤ 5 ∧ i = .int .i64 q ∧ NoR s.data.toList q ∧ Below w.heap.size w wr) (fun i _ => 5 - (intOf i).toNat)
    case atStart => exact ⟨1, Nat.le_refl _, by omega, rfl, fun k a b _ => by omega, Below.refl _ _⟩
    case round =>
      obtain ⟨q, hq1, hq5, rfl, hno, hB⟩ := hrel
      by_cases hc : q ≤ 4 ∧ q ≤ s.size
      · obtain ⟨hq4, hqs⟩ := hc
        have htk := ext_take s q
        have htl : (s.data.toList.take q).length = q := by rw [List.length_take, hlen.out]; omega
        obtain ⟨t, ht⟩ : ∃ t, s.extract 0 q = t := ⟨_, rfl⟩
        rw [ht] at htk
        have hts : t.size = q := by rw [← bytes_len, htk, htl]
        have hcall := refBits_any t wr (by omega) (by omega)
        have hpb := rbits_bd (s.data.toList.take q) (by omega) (by omega)
        rw [htk] at hcall
        have hit := rrune_hit hno hq1 hq4 (by rw [hlen.out]; exact hqs)
        have hok : rok s.data.toList q = (decide (0 ≤ rbits (s.data.toList.take q)) && decide (rput (rbits (s.data.toList.take q)) = s.data.toList.take q)) := rfl
        obtain ⟨p, hp⟩ : ∃ p, rbits (s.data.toList.take q) = p := ⟨_, rfl⟩
        rw [hp] at hcall hpb hit hok
        obtain ⟨hp0, hp1⟩ := hpb
        have hqi0 : (0 : Int) ≤ (q : Int) := by omega
        have hqi4 : (q : Int) ≤ 4 := by omega
        have hqis : (q : Int) ≤ (s.size : Int) := by omega
        replace hcall := Lib.hid hcall
        replace hit := Lib.hid hit
        replace hok := Lib.hid hok
        replace htk := Lib.hid htk
        replace hno := Lib.hid hno
        clear hp htl hts
        by_cases hneg : p < 0
        · have hng : ¬ 0 ≤ p := by omega
          have hst : NoR s.data.toList (q + 1) := hno.out.step (by rw [hok.out, decide_eq_false hng]; rfl)
          replace hst := Lib.hid hst
          have cb : decide (0 ≤ p) = false := decide_eq_false hng
          clear hit hok htk hno
          go_wp2_with fail
          refine hcall.out.mono ?_
          rintro e w1 ⟨rfl, hb⟩
          have hB1 := Lib.hid (hB.trans (hb.mono hB.size))
          clear hcall hB hb
          go_wp2_with fail
          go_quiet (fail)
          go_wp2_with fail
          go_roundw
          case rel => exact ⟨q + 1, by omega, by omega, by go_num, hst.out, by first | exact hB1.out | exact bel_drewN hB1.out _⟩
          case measure => simp [intOf]; omega
        · have hnn : 0 ≤ p := by omega
          rw [decide_eq_true hnn, Bool.true_and] at hok
          have hput := Lib.hid (fun W => refPut_any p W)
          by_cases heq : rput p = s.data.toList.take q
          · have hy : rok s.data.toList q = true := by rw [hok.out]; exact decide_eq_true heq
            have hR : (⟨(rput p).toArray⟩ : ByteArray) = t := jstr_ext (by rw [htk.out, ← heq])
            have hj := jeq_t t
            have hfin := Lib.hid (hit.out hy)
            clear hit hok htk hno heq hy
            replace hR := Lib.hid hR
            have cb : decide (0 ≤ p) = true := decide_eq_true hnn
            go_wp2_with fail
            refine hcall.out.mono ?_
            rintro e w1 ⟨rfl, hb⟩
            have hB1 := Lib.hid (hB.trans (hb.mono hB.size))
            clear hcall hB hb
            go_wp2_with fail
            go_region_with (go_at_call 189; refine (hput.out _).mono ?_; rintro en w2 ⟨rfl, hB2⟩; rw [hR.out])
            all_goals
              have hB3 := Lib.hid ((bel_drew1 hB1.out).trans (hB2.mono (show w.heap.size ≤ w1.drew.heap.size from hB1.out.size)))
              go_wp2_with fail
              refine bodyPost_ret (v := .tuple #[.int .i64 p, .int .i64 q]) (by simp [results, Tryz.results163, go_sem]) rfl (runeEnd_of hfin.out rfl hB3.out)
          · have hy : rok s.data.toList q = false := by rw [hok.out]; exact decide_eq_false heq
            obtain ⟨T, hT⟩ : ∃ T : ByteArray, ⟨(rput p).toArray⟩ = T := ⟨_, rfl⟩
            have hne2 : T ≠ t := fun e => heq (by rw [← htk.out, ← e, ← hT])
            have hj := jeq_f hne2
            have hst := Lib.hid (hno.out.step hy)
            clear hit hok htk hno heq hy hne2
            replace hT := Lib.hid hT
            have cb : decide (0 ≤ p) = true := decide_eq_true hnn
            go_wp2_with fail
            refine hcall.out.mono ?_
            rintro e w1 ⟨rfl, hb⟩
            have hB1 := Lib.hid (hB.trans (hb.mono hB.size))
            clear hcall hB hb
            go_wp2_with fail
            go_region_with (go_at_call 189; refine (hput.out _).mono ?_; rintro en w2 ⟨rfl, hB2⟩; rw [hT.out])
            all_goals
              have hB3 := Lib.hid ((bel_drew1 hB1.out).trans (hB2.mono (show w.heap.size ≤ w1.drew.heap.size from hB1.out.size)))
              go_wp2_with fail
              go_roundw
              case rel => exact ⟨q + 1, by omega, by omega, by go_num, hst.out, hB3.out⟩
              case measure => simp [intOf]; omega
      · have hfin := Lib.hid (rrune_miss hno hnl.out (by rw [hlen.out]; exact hc))
        replace hB := Lib.hid hB
        by_cases h4 : (q : Int) ≤ 4
        · have hqs : ¬ (q : Int) ≤ (s.size : Int) := by omega
          clear hno
          go_wp2_with fail
          refine bodyPost_ret (v := .tuple #[.int .i64 (-1), .int .i64 1]) (by simp [results, Tryz.results163, go_sem]) rfl (runeEnd_of hfin.out rfl hB.out)
        · clear hno
          go_wp2_with fail
          refine bodyPost_ret (v := .tuple #[.int .i64 (-1), .int .i64 1]) (by simp [results, Tryz.results163, go_sem]) rfl (runeEnd_of hfin.out rfl hB.out)
set_option maxHeartbeats 2000000 in
theorem refValid_any : ValSays 140 Lib.validD := by
  intro s w hs
  obtain ⟨R, hR⟩ : ∃ R, Lib.validD s.data.toList = R := ⟨_, rfl⟩
  rw [hR]
  go_enter Tryz.func140, Tryz.ntmps140
  go_wp2_with fail
  go_loopw [0] (fun v wr => ∃ t : ByteArray, t.size ≤ 1000000 ∧ v = .string t ∧ Lib.validD t.data.toList = R ∧ Below w.heap.size w wr) (fun v _ => match v with | .string t => t.size | _ => 0)
  case atStart => exact ⟨s, hs, rfl, hR, Below.refl _ _⟩
  case round =>
    obtain ⟨t, ht, rfl, hv, hB⟩ := hrel
    by_cases h0 : t = ⟨#[]⟩
    · subst h0
      have hR1 : R = true := by rw [← hv]; rfl
      subst hR1
      replace hB := Lib.hid hB
      clear hv
      go_wp2_with fail
      go_ret
      exact ⟨rfl, hB.out⟩
    · have hne := nonempty_f h0
      have hnl : t.data.toList ≠ [] := fun e => h0 (jstr_ext e)
      have hvr := valid_rune t.data.toList hnl
      obtain ⟨hw1, hw2⟩ := rrune_width t.data.toList hnl
      have hcall := refRune_any t wr (by omega)
      have hdr := ext_drop t (rrune t.data.toList).2
      rw [bytes_len] at hw2
      unfold RuneEnd at hcall
      obtain ⟨p, hp⟩ : ∃ p, (rrune t.data.toList).1 = p := ⟨_, rfl⟩
      obtain ⟨k, hk⟩ : ∃ k, (rrune t.data.toList).2 = k := ⟨_, rfl⟩
      rw [hp, hk] at hcall hvr
      rw [hk] at hw1 hw2 hdr
      rw [hv] at hvr
      replace hcall := Lib.hid hcall
      clear hp hk hnl h0 hv
      have hk0 : (0 : Int) ≤ (k : Int) := by omega
      have hk1 : (k : Int) ≤ (t.size : Int) := by omega
      by_cases hn : p < 0
      · have hR1 : R = false := by rw [hvr, if_pos hn]
        subst hR1
        clear hvr hdr
        go_wp2_with fail
        refine hcall.out.mono ?_
        rintro e w1 ⟨rfl, hb⟩
        have hB1 := Lib.hid (hB.trans (hb.mono hB.size))
        clear hcall hB hb
        go_wp2_with fail
        go_ret
        exact ⟨rfl, hB1.out⟩
      · rw [if_neg hn] at hvr
        have hes : (t.extract k t.size).size = t.size - k := by rw [← bytes_len, hdr, List.length_drop, bytes_len]
        obtain ⟨T, hT⟩ : ∃ T, t.extract k t.size = T := ⟨_, rfl⟩
        rw [hT] at hdr hes
        rw [← hdr] at hvr
        replace hvr := Lib.hid hvr
        clear hdr
        replace hes := Lib.hid hes
        go_wp2_with fail
        refine hcall.out.mono ?_
        rintro e w1 ⟨rfl, hb⟩
        have hB1 := Lib.hid (hB.trans (hb.mono hB.size))
        clear hcall hB hb
        go_wp2_with fail
        go_roundw
        case rel => exact ⟨T, by rw [hes.out]; omega, rfl, hvr.out.symm, hB1.out⟩
        case measure => simp [hes.out]; omega
end Go.Proofs.YtdjfoabinjfnfaaGreatDoor
