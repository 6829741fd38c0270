/-
  The walks of rostrumref06's find, low, named, trim, number: what each computes.
-/
import Derived.Test.YtccfdecpiekeoaaGreatDoorProg
import Derived.Test.YtccfdecpiekeoaaGreatDoorPl
import Derived.Test.YtccfdecpiekeoaaGreatDoorFraS
import Derived.Test.YtccfdecpiekeoaaGreatDoorU
import Derived.WalkKit
import Derived.WalkSpells
import Derived.WalkLawsBesides
import Derived.Lib.Hide
import Derived.Lib.Strings
import Derived.Lib.IndexBytes
import Derived.IntWalk
namespace Go.Proofs.YtccfdecpiekeoaaGreatDoor
open Go.RowKit

theorem ret_i64' {a b : Int} (h : a = b) : Ending.returned (.int .i64 a) = .returned (.int .i64 b) := by rw [h]
theorem extract_take (s : ByteArray) (k n : Nat) : (s.extract k (k + n)).data.toList = (s.data.toList.drop k).take n := by
  rw [Lib.extract_data]
  congr 1; omega
theorem fbytes (a : ByteArray) : (⟨a.data.toList.toArray⟩ : ByteArray) = a := by cases a; rfl
theorem str_eq {a b : ByteArray} (h : a.data.toList = b.data.toList) : a = b := by rw [← fbytes a, ← fbytes b, h]
theorem eq_t {a b : ByteArray} (h : a.data.toList = b.data.toList) : (a.toList == b.toList) = true := by
  rw [Lib.toList_data, Lib.toList_data, beq_iff_eq]; exact h
theorem eq_f {a b : ByteArray} (h : ¬ a.data.toList = b.data.toList) : (a.toList == b.toList) = false := by
  rw [Lib.toList_data, Lib.toList_data, beq_eq_false_iff_ne]; exact h
theorem empty_t {a : ByteArray} (h : a.data.toList = []) : a.toList.isEmpty = true := by rw [Lib.toList_data, h]; rfl
theorem empty_f {a : ByteArray} (h : a.data.toList ≠ []) : a.toList.isEmpty = false := by
  rw [Lib.toList_data]
  cases hh : a.data.toList
  · exact absurd hh h
  · rfl

set_option maxHeartbeats 400000 in
theorem refFind_any (s p : ByteArray) (w : World) (hp : p.data.toList ≠ []) (hs : s.size ≤ 1099511627776) (hps : p.size ≤ 1099511627776) :
    Calls Tryz.prog 28 #[.string s, .string p, .int .i64 0] w fun e w' => e = .returned (.int .i64 (Lib.index s.data.toList p.data.toList)) ∧ w = w' := by
  replace hp := Lib.hid hp
  have hsl := Lib.hid (bytes_len s)
  have hpl := Lib.hid (bytes_len p)
  go_enter Tryz.func28, Tryz.ntmps28
  go_wp2
  go_loop [7] (fun i => ∃ k : Nat, k ≤ s.size + 1 ∧ Lib.NoOcc s.data.toList p.data.toList k ∧ i = .int .i64 k) (fun i => s.size + 1 - (intOf i).toNat)
  case atStart => exact ⟨0, by omega, Lib.NoOcc.zero _ _, rfl⟩
  case round =>
    obtain ⟨k, hk, hno, rfl⟩ := hrel
    replace hno := Lib.hid hno
    by_cases hlt : k + p.size ≤ s.size
    · by_cases heq : occ s.data.toList p.data.toList k
      · have hb : ((s.extract k (k + p.size)).toList == p.toList) = true := eq_t (by rw [extract_take, ← bytes_len p]; exact heq)
        have H := Lib.hid (Lib.index_hit hno.out (by rw [hsl.out]; omega) ((occ_iff _ _ _).2 heq))
        clear heq
        go_wp2
        go_ret
        exact ⟨ret_i64' (by rw [H.out]), rfl⟩
      · have hb : ((s.extract k (k + p.size)).toList == p.toList) = false := eq_f (by rw [extract_take, ← bytes_len p]; exact heq)
        have H := Lib.hid (hno.out.succ (by
          cases hh : Lib.occAt s.data.toList p.data.toList k
          · rfl
          · exact absurd ((occ_iff _ _ _).1 hh) heq))
        clear heq
        go_wp2
        go_round
        case rel => exact ⟨k + 1, by omega, H.out, by go_num⟩
        case measure => simp [intOf]; omega
    · have H := Lib.hid (Lib.index_past hp.out hno.out (by rw [hsl.out, hpl.out]; omega))
      go_wp2
      go_ret
      exact ⟨ret_i64' (by rw [H.out]), rfl⟩

theorem lowB_int (c : UInt8) (h : 65 ≤ (c.toNat : Int) ∧ (c.toNat : Int) ≤ 90) : ((lowB c).toNat : Int) = c.toNat + 32 := by
  rw [lowB_toNat, if_pos (by omega)]; omega
theorem lowB_same (c : UInt8) (h : ¬ (65 ≤ (c.toNat : Int) ∧ (c.toNat : Int) ≤ 90)) : ((lowB c).toNat : Int) = c.toNat := by
  rw [lowB_toNat, if_neg (by omega)]
theorem ret_u8 {a b : Int} (h : a = b) : Ending.returned (.int .u8 a) = .returned (.int .u8 b) := by rw [h]

set_option maxHeartbeats 400000 in
theorem refLow_any (c : UInt8) (w : World) :
    Calls Tryz.prog 48 #[.int .u8 c.toNat] w fun e w' => e = .returned (.int .u8 (lowB c).toNat) ∧ w = w' := by
  by_cases h : 65 ≤ (c.toNat : Int) ∧ (c.toNat : Int) ≤ 90
  · have H := Lib.hid (lowB_int c h)
    obtain ⟨h1, h2⟩ := h
    go_enter Tryz.func48, Tryz.ntmps48
    go_wp2
    go_ret
    exact ⟨ret_u8 (by rw [H.out]), rfl⟩
  · have H := Lib.hid (lowB_same c h)
    by_cases h1 : 65 ≤ (c.toNat : Int)
    · have h2 : ¬ (c.toNat : Int) ≤ 90 := by omega
      clear h
      go_enter Tryz.func48, Tryz.ntmps48
      go_wp2
      go_ret
      exact ⟨ret_u8 (by rw [H.out]), rfl⟩
    · clear h
      go_enter Tryz.func48, Tryz.ntmps48
      go_wp2
      go_ret
      exact ⟨ret_u8 (by rw [H.out]), rfl⟩

/-- trim: the blanks at both ends. -/
theorem trim_step {S : ByteArray} {c : UInt8} {t l R : List UInt8} (h : S.data.toList = c :: t) (hb : isBl c = true) (hR : S.data.toList.dropWhile isBl = R) : (S.extract 1 S.size).data.toList.dropWhile isBl = R := by
  rw [Lib.extract_to_end, h, List.drop_succ_cons, List.drop_zero, ← hR, h, List.dropWhile_cons, if_pos hb]
theorem bl_of {c : UInt8} (h : ((c.toNat : Int) == 32) = true ∨ ((c.toNat : Int) == 9) = true) : isBl c = true := by
  rcases h with h | h
  · have : c = 32 := UInt8.toNat_inj.1 (by have := eq_of_beq h; show c.toNat = 32; omega)
    subst this; rfl
  · have : c = 9 := UInt8.toNat_inj.1 (by have := eq_of_beq h; show c.toNat = 9; omega)
    subst this; rfl
theorem bl_int {c : UInt8} (h : isBl c = true) : (c.toNat : Int) = 32 ∨ (c.toNat : Int) = 9 := by
  simp only [isBl, Bool.or_eq_true, beq_iff_eq] at h
  rcases h with h | h <;> subst h
  · exact Or.inl rfl
  · exact Or.inr rfl
theorem bl_not {c : UInt8} (h : isBl c = false) : ((c.toNat : Int) == 32) = false ∧ ((c.toNat : Int) == 9) = false := by
  constructor
  · cases hh : ((c.toNat : Int) == 32)
    · rfl
    · rw [bl_of (Or.inl hh)] at h; cases h
  · cases hh : ((c.toNat : Int) == 9)
    · rfl
    · rw [bl_of (Or.inr hh)] at h; cases h
theorem at0 {S : ByteArray} (h0 : 0 < S.size) : ∃ t, S.data.toList = S[0] :: t := by
  have h1 := bytes_at S 0 h0
  cases hl : S.data.toList with
  | nil => rw [hl] at h1; cases h1
  | cons a t => rw [hl] at h1; injection h1 with h1; exact ⟨t, by rw [h1]⟩
theorem atLast {S : ByteArray} (h0 : 0 < S.size) : S.data.toList = S.data.toList.take (S.size - 1) ++ [S[S.size - 1]] := by
  have h1 := bytes_at S (S.size - 1) (by omega)
  have h2 := List.take_add_one (l := S.data.toList) (i := S.size - 1)
  rw [h1] at h2
  rw [show S.size - 1 + 1 = S.size by omega, List.take_of_length_le (by rw [bytes_len]; omega)] at h2
  exact h2
theorem rtrim_snoc {α : Type} (p : α → Bool) (l : List α) (a : α) : rtrim p (l ++ [a]) = if p a then rtrim p l else l ++ [a] := by
  unfold rtrim
  rw [List.reverse_append]
  show ((a :: l.reverse).dropWhile p).reverse = _
  rw [List.dropWhile_cons]
  split
  · rfl
  · simp

set_option maxHeartbeats 1000000 in
theorem refTrim_any (s : ByteArray) (w : World) (hs : s.size ≤ 1099511627776) :
    Calls Tryz.prog 36 #[.string s] w fun e w' => (∃ g : ByteArray, e = .returned (.string g) ∧ g.data.toList = trimB s.data.toList ∧ g.size ≤ s.size) ∧ w = w' := by
  obtain ⟨R, hR⟩ : ∃ R, s.data.toList.dropWhile isBl = R := ⟨_, rfl⟩
  have hT : trimB s.data.toList = rtrim isBl R := by unfold trimB rtrim; rw [hR]
  rw [hT]
  clear hT
  replace hR := Lib.hid hR
  go_enter Tryz.func36, Tryz.ntmps36
  go_wp2
  go_loop [0] (fun v => ∃ S : ByteArray, v = .string S ∧ S.size ≤ s.size ∧ S.data.toList.dropWhile isBl = R) (fun v => match v with | .string S => S.size | _ => 0)
  case atStart => exact ⟨s, rfl, Nat.le_refl _, hR.out⟩
  case round =>
    obtain ⟨S, rfl, hS, hSR⟩ := hrel
    clear hR
    replace hSR := Lib.hid hSR
    by_cases h0 : 0 < S.size
    · obtain ⟨t, ht⟩ := at0 h0
      cases hb : isBl S[0]
      · obtain ⟨e1, e2⟩ := bl_not hb
        have hSR2 : S.data.toList = R := by rw [← hSR.out, ht, List.dropWhile_cons, hb]; rfl
        clear ht hb hSR
        replace hSR2 := Lib.hid hSR2
        go_wp2
        go_loop [0] (fun v => ∃ U : ByteArray, v = .string U ∧ U.size ≤ s.size ∧ rtrim isBl U.data.toList = rtrim isBl R) (fun v => match v with | .string U => U.size | _ => 0)
        case atStart => exact ⟨S, rfl, hS, by rw [hSR2.out]⟩
        case round =>
          obtain ⟨U, rfl, hU, hUR⟩ := hrel
          clear hSR2
          by_cases h1 : 0 < U.size
          · have hl := atLast h1
            have hr := hUR
            rw [hl, rtrim_snoc] at hr
            have hsz : (U.extract 0 (U.size - 1)).size = U.size - 1 := by rw [← bytes_len, Lib.extract_from_zero, List.length_take, bytes_len]; omega
            replace hsz := Lib.hid hsz
            cases hb : isBl U[U.size - 1]
            · obtain ⟨e1, e2⟩ := bl_not hb
              have H : U.data.toList = rtrim isBl R := by rw [← hr, hb, if_neg (by simp)]; exact hl
              clear hl hr hUR hb
              replace H := Lib.hid H
              go_wp2
              go_ret
              exact ⟨⟨U, rfl, H.out, hU⟩, rfl⟩
            · have := bl_int hb
              have H : rtrim isBl (U.extract 0 (U.size - 1)).data.toList = rtrim isBl R := by rw [Lib.extract_from_zero, ← hr, hb, if_pos rfl]
              clear hl hr hUR hb
              replace H := Lib.hid H
              rcases this with h | h
              · have e1 : ((U[U.size - 1].toNat : Int) == 32) = true := by rw [h]; rfl
                clear h
                go_wp2
                go_round
                case rel => exact ⟨_, rfl, by rw [hsz.out]; omega, H.out⟩
                case measure => simp only [hsz.out]; omega
              · have e1 : ((U[U.size - 1].toNat : Int) == 32) = false := by rw [h]; rfl
                have e2 : ((U[U.size - 1].toNat : Int) == 9) = true := by rw [h]; rfl
                clear h
                go_wp2
                go_round
                case rel => exact ⟨_, rfl, by rw [hsz.out]; omega, H.out⟩
                case measure => simp only [hsz.out]; omega
          · have hU0 : U.data.toList = [] := List.length_eq_zero_iff.1 (by rw [bytes_len]; omega)
            have H : U.data.toList = rtrim isBl R := by rw [← hUR, hU0]; rfl
            clear hUR hU0
            replace H := Lib.hid H
            go_wp2
            go_ret
            exact ⟨⟨U, rfl, H.out, hU⟩, rfl⟩
      · have := bl_int hb
        have H := Lib.hid (trim_step (l := []) ht hb hSR.out)
        have hsz : (S.extract 1 S.size).size = S.size - 1 := by rw [← bytes_len, Lib.extract_to_end, List.length_drop, bytes_len]
        replace hsz := Lib.hid hsz
        clear ht hb
        rcases this with h | h
        · have e1 : ((S[0].toNat : Int) == 32) = true := by rw [h]; rfl
          clear h
          go_wp2
          go_round
          case rel => exact ⟨_, rfl, by rw [hsz.out]; omega, H.out⟩
          case measure => simp only [hsz.out]; omega
        · have e1 : ((S[0].toNat : Int) == 32) = false := by rw [h]; rfl
          have e2 : ((S[0].toNat : Int) == 9) = true := by rw [h]; rfl
          clear h
          go_wp2
          go_round
          case rel => exact ⟨_, rfl, by rw [hsz.out]; omega, H.out⟩
          case measure => simp only [hsz.out]; omega
    · have hU0 : S.data.toList = [] := List.length_eq_zero_iff.1 (by rw [bytes_len]; omega)
      have hR0 : R = [] := by rw [← hSR.out, hU0]; rfl
      have H : S.data.toList = rtrim isBl R := by rw [hU0, hR0]; rfl
      replace H := Lib.hid H
      clear hU0 hR0 hSR
      go_wp2
      go_loop [0] (fun v => v = .string S) (fun _ => 0)
      case atStart => rfl
      case round =>
        subst hrel
        go_wp2
        go_ret
        exact ⟨⟨S, rfl, H.out, hS⟩, rfl⟩

/-- number: a number's worth, as far as that matters. -/
def satD (m : Nat) : List UInt8 → Nat
  | [] => m
  | c :: t => if m < 100000000 then satD (m * 10 + (c.toNat - 48)) t else satD m t
theorem satD_big : ∀ (l : List UInt8) (m : Nat), 100000000 ≤ m → satD m l = m
  | [], _, _ => rfl
  | c :: t, m, h => by
    have e : satD m (c :: t) = if m < 100000000 then satD (m * 10 + (c.toNat - 48)) t else satD m t := by conv => lhs; unfold satD
    rw [e, if_neg (by omega), satD_big t m h]
theorem satD_dec : ∀ (l : List UInt8) (m : Nat), min (satD m l) 262145 = min (decD m l) 262145
  | [], _ => rfl
  | c :: t, m => by
    have e : satD m (c :: t) = if m < 100000000 then satD (m * 10 + (c.toNat - 48)) t else satD m t := by conv => lhs; unfold satD
    rw [e, decD_cons]
    by_cases h : m < 100000000
    · rw [if_pos h, satD_dec t]
    · rw [if_neg h, satD_big t m (by omega)]
      have h1 := decD_mono t (m * 10 + (c.toNat - 48))
      have h2 : 1 ≤ 10 ^ t.length := Nat.one_le_pow _ _ (by omega)
      have h3 : (m * 10 + (c.toNat - 48)) * 1 ≤ (m * 10 + (c.toNat - 48)) * 10 ^ t.length := Nat.mul_le_mul_left _ h2
      omega
theorem satD_step {l : List UInt8} {k : Nat} {c : UInt8} (m : Nat) (hc : l[k]? = some c) : satD m (l.drop k) = if m < 100000000 then satD (m * 10 + (c.toNat - 48)) (l.drop (k + 1)) else satD m (l.drop (k + 1)) := by
  have h : l.drop k = c :: l.drop (k + 1) := by
    obtain ⟨hk, he⟩ := List.getElem?_eq_some_iff.1 hc
    rw [List.drop_eq_getElem_cons hk, he]
  rw [h]
  conv => lhs; unfold satD

/-- What number answers. -/
def NumEnd (v : List UInt8) (e : Ending) : Prop :=
  ∃ r : Int, e = .returned (.int .i64 r) ∧ r ≤ 2000000000 ∧ (numL v = none → r = -1) ∧ (∀ n, numL v = some n → 0 ≤ r ∧ min r.toNat 262145 = n)

set_option maxHeartbeats 1000000 in
theorem refNumber_any (s : ByteArray) (w : World) (hs : s.size ≤ 1099511627776) :
    Calls Tryz.prog 35 #[.string s] w fun e w' => NumEnd s.data.toList e ∧ w = w' := by
  have hsl := bytes_len s
  by_cases h0 : s.size = 0
  · have hl : s.data.toList = [] := List.length_eq_zero_iff.1 (by omega)
    have he := empty_t hl
    have hn : numL s.data.toList = none := by unfold numL; rw [if_pos (Or.inl hl)]
    clear hl hsl h0
    replace hn := Lib.hid hn
    go_enter Tryz.func35, Tryz.ntmps35
    go_wp2
    go_ret
    exact ⟨⟨-1, rfl, by omega, fun _ => rfl, fun n h => by rw [hn.out] at h; cases h⟩, rfl⟩
  · obtain ⟨t, ht⟩ := at0 (S := s) (by omega)
    have he := empty_f (a := s) (by rw [ht]; simp)
    have h0' : 0 < s.size := by omega
    by_cases hz : 1 < s.size ∧ ((s[0].toNat : Int) == 48) = true
    · obtain ⟨h1, h2⟩ := hz
      have hn : numL s.data.toList = none := by
        unfold numL
        rw [if_pos]
        refine Or.inr (Or.inr ⟨by omega, ?_⟩)
        rw [ht]
        have : s[0] = 48 := UInt8.toNat_inj.1 (by have := eq_of_beq h2; show s[0].toNat = 48; omega)
        rw [this]; rfl
      clear hsl h0 ht
      replace hn := Lib.hid hn
      go_enter Tryz.func35, Tryz.ntmps35
      go_wp2
      go_ret
      exact ⟨⟨-1, rfl, by omega, fun _ => rfl, fun n h => by rw [hn.out] at h; cases h⟩, rfl⟩
    · have hn1 : s.data.toList.all isDg = false → numL s.data.toList = none := fun h => by unfold numL; rw [if_pos (Or.inr (Or.inl h))]
      have hn2 : s.data.toList.all isDg = true → numL s.data.toList = some (min (decD 0 s.data.toList) 262145) := fun h => by
        unfold numL
        rw [if_neg]
        rintro (e | e | ⟨e1, e2⟩)
        · rw [ht] at e; cases e
        · rw [h] at e; cases e
        · apply hz
          refine ⟨by omega, ?_⟩
          rw [ht] at e2
          injection e2 with e2
          rw [e2]; rfl
      have hfst : 1 < s.size → ((s[0].toNat : Int) == 48) = false := fun h => by
        cases hh : ((s[0].toNat : Int) == 48)
        · rfl
        · exact absurd ⟨h, hh⟩ hz
      replace hsl := Lib.hid hsl
      replace hn1 := Lib.hid hn1
      replace hn2 := Lib.hid hn2
      clear ht hz h0
      have main : (∀ k, k ≤ s.size → True) → Calls Tryz.prog 35 #[.string s] w fun e w' => NumEnd s.data.toList e ∧ w = w' := fun _ => by
        by_cases h1 : 1 < s.size
        all_goals
          first
            | (have hf := hfst h1; clear hfst)
            | clear hfst
          go_enter Tryz.func35, Tryz.ntmps35
          go_wp2
          go_loop [3, 4] (fun n i => ∃ (k : Nat) (m : Int), k ≤ s.size ∧ 0 ≤ m ∧ m ≤ 2000000000 ∧ n = .int .i64 m ∧ i = .int .i64 k ∧ (s.data.toList.take k).all isDg = true ∧ satD m.toNat (s.data.toList.drop k) = satD 0 s.data.toList) (fun _ i => s.size - (intOf i).toNat)
          case atStart => exact ⟨0, 0, by omega, by omega, by omega, rfl, rfl, rfl, rfl⟩
          case round =>
            obtain ⟨k, m, hk, hm0, hm, rfl, rfl, hall, hsat⟩ := hrel
            replace hall := Lib.hid hall
            replace hsat := Lib.hid hsat
            by_cases hlt : k < s.size
            · have hc := bytes_at s k hlt
              have hst := satD_step m.toNat hc
              have htk : s.data.toList.take (k + 1) = s.data.toList.take k ++ [s[k]] := by rw [List.take_add_one, hc]; rfl
              cases hd : isDg s[k]
              · have hbad : s.data.toList.all isDg = false := by
                  cases hh : s.data.toList.all isDg
                  · rfl
                  · rw [List.all_eq_true.1 hh _ (List.mem_of_getElem? hc)] at hd; cases hd
                have hnn := Lib.hid (hn1.out hbad)
                have hd2 : ¬ (48 ≤ (s[k].toNat : Int) ∧ (s[k].toNat : Int) ≤ 57) := by
                  intro ⟨q1, q2⟩
                  have : isDg s[k] = true := by simp only [isDg, Bool.and_eq_true, decide_eq_true_eq]; omega
                  rw [this] at hd; cases hd
                clear hc hst htk hd hbad
                replace hd2 := Lib.hid hd2
                by_cases h48 : (s[k].toNat : Int) < 48
                · go_wp2
                  go_ret
                  exact ⟨⟨-1, rfl, by omega, fun _ => rfl, fun n h => by rw [hnn.out] at h; cases h⟩, rfl⟩
                · have h57 : 57 < (s[k].toNat : Int) := by have := hd2.out; omega
                  go_wp2
                  go_ret
                  exact ⟨⟨-1, rfl, by omega, fun _ => rfl, fun n h => by rw [hnn.out] at h; cases h⟩, rfl⟩
              · have hall2 : (s.data.toList.take (k + 1)).all isDg = true := by rw [htk, List.all_append, hall.out]; simp [hd]
                simp only [isDg, Bool.and_eq_true, decide_eq_true_eq] at hd
                obtain ⟨d1, d2⟩ := hd
                have d1' : 48 ≤ (s[k].toNat : Int) := by omega
                have d2' : (s[k].toNat : Int) ≤ 57 := by omega
                clear hc htk d1 d2
                replace hall2 := Lib.hid hall2
                by_cases hm8 : m < 100000000
                · rw [if_pos (by omega)] at hst
                  have hnum : (m * 10 + s[k].toNat - 48).toNat = m.toNat * 10 + (s[k].toNat - 48) := by omega
                  replace hst := Lib.hid hst
                  replace hnum := Lib.hid hnum
                  go_wp2
                  go_round
                  case rel => exact ⟨k + 1, m * 10 + s[k].toNat - 48, by omega, by omega, by omega, rfl, by go_num, hall2.out, by rw [hnum.out, ← hst.out]; exact hsat.out⟩
                  case measure => simp [intOf]; omega
                · rw [if_neg (by omega)] at hst
                  replace hst := Lib.hid hst
                  go_wp2
                  go_round
                  case rel => exact ⟨k + 1, m, by omega, hm0, hm, rfl, by go_num, hall2.out, by rw [← hst.out]; exact hsat.out⟩
                  case measure => simp [intOf]; omega
            · have hk2 : k = s.size := by omega
              have hm2 : m.toNat = satD 0 s.data.toList := by rw [← hsat.out, List.drop_of_length_le (by rw [hsl.out]; omega)]; rfl
              have hall2 : s.data.toList.all isDg = true := by rw [← hall.out, List.take_of_length_le (by rw [hsl.out]; omega)]
              have hnn := hn2.out hall2
              rw [← satD_dec, ← hm2] at hnn
              replace hnn := Lib.hid hnn
              clear hm2 hall2 hk2
              go_wp2
              go_ret
              exact ⟨⟨m, rfl, by omega, (fun h => by rw [hnn.out] at h; cases h), (fun n h => by rw [hnn.out] at h; injection h with h; exact ⟨hm0, h⟩)⟩, rfl⟩
      exact main (fun _ _ => trivial)
end Go.Proofs.YtccfdecpiekeoaaGreatDoor
