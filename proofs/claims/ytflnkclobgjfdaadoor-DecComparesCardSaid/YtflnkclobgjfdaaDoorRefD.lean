/-
  The walks of rostrumref04.above and Cmp: what they answer is what dec's answer.
-/
import Derived.Test.YtflnkclobgjfdaaDoorRefC
namespace Go.Proofs.YtflnkclobgjfdaaDoor
open Go.RowKit

/-- Digits held against each other, noughts behind the shorter ones. -/
def padL : List UInt8 → List UInt8 → Int
  | [], [] => 0
  | [], b :: ys => if 48 < b.toNat then -1 else if b.toNat < 48 then 1 else padL [] ys
  | a :: xs, [] => if a.toNat < 48 then -1 else if 48 < a.toNat then 1 else padL xs []
  | a :: xs, b :: ys => if a.toNat < b.toNat then -1 else if b.toNat < a.toNat then 1 else padL xs ys

def hdN (l : List UInt8) (k : Nat) : Nat := (l[k]?.map UInt8.toNat).getD 48

theorem pad_step (x y : List UInt8) (k : Nat) (h : k < x.length ∨ k < y.length) :
    padL (x.drop k) (y.drop k) = if hdN x k < hdN y k then -1 else if hdN y k < hdN x k then 1 else padL (x.drop (k + 1)) (y.drop (k + 1)) := by
  by_cases hx : k < x.length
  · have ex : hdN x k = x[k].toNat := by unfold hdN; rw [List.getElem?_eq_getElem hx]; rfl
    rw [List.drop_eq_getElem_cons hx, ex]
    by_cases hy : k < y.length
    · have ey : hdN y k = y[k].toNat := by unfold hdN; rw [List.getElem?_eq_getElem hy]; rfl
      rw [List.drop_eq_getElem_cons hy, ey, padL]
    · have ey : hdN y k = 48 := by unfold hdN; rw [List.getElem?_eq_none (by omega)]; rfl
      rw [List.drop_eq_nil_of_le (show y.length ≤ k by omega), List.drop_eq_nil_of_le (show y.length ≤ k + 1 by omega), ey, padL]
  · have ex : hdN x k = 48 := by unfold hdN; rw [List.getElem?_eq_none (by omega)]; rfl
    have hy : k < y.length := by omega
    have ey : hdN y k = y[k].toNat := by unfold hdN; rw [List.getElem?_eq_getElem hy]; rfl
    rw [List.drop_eq_nil_of_le (show x.length ≤ k by omega), List.drop_eq_nil_of_le (show x.length ≤ k + 1 by omega), ex, List.drop_eq_getElem_cons hy, ey, padL]
theorem pad_end (x y : List UInt8) (k : Nat) (hx : x.length ≤ k) (hy : y.length ≤ k) : padL (x.drop k) (y.drop k) = 0 := by
  rw [List.drop_eq_nil_of_le hx, List.drop_eq_nil_of_le hy, padL]

/-- Digits that end in no nought. -/
theorem pad_nil : ∀ ys : List UInt8, (∀ c, c ∈ ys → isDig c = true) → ¬ ys = [] → (∀ c, ys.getLast? = some c → isZ c = false) → padL [] ys = -1 ∧ padL ys [] = 1
  | [], _, h, _ => absurd rfl h
  | b :: ys, hd, _, hz => by
    have hb := isDig_t (hd b (by simp))
    unfold padL
    by_cases h : 48 < b.toNat
    · rw [if_pos h, if_neg (show ¬ b.toNat < 48 by omega), if_pos h]; exact ⟨rfl, rfl⟩
    · have hb48 : b.toNat = 48 := by omega
      rw [if_neg h, if_neg (show ¬ b.toNat < 48 by omega), if_neg h, if_neg (show ¬ b.toNat < 48 by omega)]
      cases ys with
      | nil =>
        have := hz b rfl
        unfold isZ at this
        simp [hb48] at this
      | cons c zs =>
        exact pad_nil (c :: zs) (fun x hx => hd x (List.mem_cons_of_mem _ hx)) (by simp) (fun x hx => hz x (by rw [List.getLast?_cons_cons]; exact hx))

theorem pad_law : ∀ x y : List UInt8, (∀ c, c ∈ x → isDig c = true) → (∀ c, c ∈ y → isDig c = true) → (∀ c, x.getLast? = some c → isZ c = false) → (∀ c, y.getLast? = some c → isZ c = false) → padL x y = Lib.compareBytes x y
  | [], [], _, _, _, _ => by rw [padL]; rfl
  | [], b :: ys, _, hy, _, zy => by rw [(pad_nil (b :: ys) hy (by simp) zy).1]; rfl
  | a :: xs, [], hx, _, zx, _ => by rw [(pad_nil (a :: xs) hx (by simp) zx).2]; rfl
  | a :: xs, b :: ys, hx, hy, zx, zy => by
    have ih := pad_law xs ys (fun c hc => hx c (List.mem_cons_of_mem _ hc)) (fun c hc => hy c (List.mem_cons_of_mem _ hc))
      (fun c hc => zx c (by cases xs with | nil => cases hc | cons d zs => rw [List.getLast?_cons_cons]; exact hc))
      (fun c hc => zy c (by cases ys with | nil => cases hc | cons d zs => rw [List.getLast?_cons_cons]; exact hc))
    unfold padL Lib.compareBytes
    simp only [UInt8.lt_iff_toNat_lt]
    rw [ih]

theorem nrm_last {x : Wth} (h : Nrm x) (c : UInt8) (hc : x.digits.getLast? = some c) : isZ c = false := by
  cases hz : isZ c
  · rfl
  · have hr := h.right
    unfold trimR at hr
    have e : x.digits.reverse = c :: x.digits.reverse.tail := by
      rw [List.getLast?_eq_head?_reverse] at hc
      cases hh : x.digits.reverse with
      | nil => rw [hh] at hc; cases hc
      | cons a t => rw [hh] at hc; injection hc with hc; subst hc; rfl
    have h1 : x.digits.length = ((x.digits.reverse.dropWhile isZ).reverse).length := by rw [hr]
    rw [e, List.dropWhile_cons_of_pos hz, List.length_reverse] at h1
    have h2 := dropWhile_length_le (p := isZ) x.digits.reverse.tail
    have h3 : x.digits.reverse.tail.length + 1 = x.digits.length := by
      have := congrArg List.length e
      rw [List.length_cons, List.length_reverse] at this
      omega
    omega

/-- above. -/
def abvL (d : List UInt8) (e : Int) (d2 : List UInt8) (e2 : Int) : Int :=
  if cmp3 (d.length + e) (d2.length + e2) = 0 then padL d d2 else cmp3 (d.length + e) (d2.length + e2)

theorem abv_cmpW {x y : Wth} (hx : Nrm x) (hy : Nrm y) : abvL x.digits x.exp y.digits y.exp = cmpW x y := by
  unfold abvL cmpW
  rw [pad_law x.digits y.digits hx.dig hy.dig (nrm_last hx) (nrm_last hy)]

set_option maxHeartbeats 2000000 in
theorem refAbove_any (m : Bool) (d : ByteArray) (e : Int) (m2 : Bool) (d2 : ByteArray) (e2 : Int) (w : World) (hd : d.size ≤ 200) (hd2 : d2.size ≤ 200) (h1 : -9999 ≤ e) (h2 : e ≤ 9999) (h3 : -9999 ≤ e2) (h4 : e2 ≤ 9999) :
    Calls Tryd.prog 21 #[.agg #[.bool m, .string d, .int .i64 e], .agg #[.bool m2, .string d2, .int .i64 e2]] w fun en w' => en = .returned (.int .i64 (abvL d.data.toList e d2.data.toList e2)) ∧ Below w.heap.size w w' := by
  have hX := (Cel.fresh w 48 #[.bool m, .string d, .int .i64 e]).alloc (.cells #[.bool m2, .string d2, .int .i64 e2] 48)
  have hY := Cel.fresh (w.alloc (.cells #[.bool m, .string d, .int .i64 e] 48)) 48 #[.bool m2, .string d2, .int .i64 e2]
  have hB := ((Below.refl w.heap.size w).alloc (Nat.le_refl _) (.cells #[.bool m, .string d, .int .i64 e] 48)).alloc (by simp) (.cells #[.bool m2, .string d2, .int .i64 e2] 48)
  have hsz : (w.alloc (.cells #[.bool m, .string d, .int .i64 e] 48)).heap.size = w.heap.size + 1 := by simp
  rw [hsz] at hY
  have hv : abvL d.data.toList e d2.data.toList e2 = if cmp3 (d.size + e) (d2.size + e2) = 0 then padL d.data.toList d2.data.toList else cmp3 (d.size + e) (d2.size + e2) := by
    unfold abvL; rw [bytes_len, bytes_len]
  obtain ⟨v, hve⟩ : ∃ v, abvL d.data.toList e d2.data.toList e2 = v := ⟨_, rfl⟩
  rw [hve] at hv ⊢
  clear hve hsz
  replace hv := Lib.hid hv
  go_enter Tryd.func21, Tryd.ntmps21
  go_upto_region 1 with (fail)
  generalize (w.alloc (.cells #[.bool m, .string d, .int .i64 e] 48)).alloc (.cells #[.bool m2, .string d2, .int .i64 e2] 48) = wx at *
  obtain ⟨x0, x1, x2, _, _, _⟩ := hX.three
  obtain ⟨y0, y1, y2, _, _, _⟩ := hY.three
  replace hX := Lib.hid hX
  replace hY := Lib.hid hY
  replace hB := Lib.hid hB
  go_quiet (fail)
  have hBq := bel_drewN hB.out nq
  replace hBq := Lib.hid hBq
  clear hB
  by_cases k1 : (d.size : Int) + e < d2.size + e2
  · have e1 : v = -1 := by
      have := hv.out
      rw [show cmp3 ((d.size : Int) + e) (d2.size + e2) = -1 by unfold cmp3; rw [if_pos k1]] at this
      exact this
    subst e1
    have k0 : (((d.size : Int) + e) != (d2.size + e2)) = true := by simp; omega
    go_wp2
    go_ret
    exact ⟨rfl, hBq.out⟩
  · by_cases k2 : (d2.size : Int) + e2 < d.size + e
    · have e1 : v = 1 := by
        have := hv.out
        rw [show cmp3 ((d.size : Int) + e) (d2.size + e2) = 1 by unfold cmp3; rw [if_neg k1, if_pos k2]] at this
        exact this
      subst e1
      have k0 : (((d.size : Int) + e) != (d2.size + e2)) = true := by simp; omega
      go_wp2
      go_ret
      exact ⟨rfl, hBq.out⟩
    · have e1 : v = padL d.data.toList d2.data.toList := by
        have := hv.out
        rw [show cmp3 ((d.size : Int) + e) (d2.size + e2) = 0 by unfold cmp3; rw [if_neg k1, if_neg k2]] at this
        exact this
      have k0 : (((d.size : Int) + e) != (d2.size + e2)) = false := by simp; omega
      clear hv
      replace e1 := Lib.hid e1
      clear k1 k2
      go_wp2
      go_loop [7] (fun i => ∃ k : Nat, i = .int .i64 k ∧ (k ≤ d.size ∨ k ≤ d2.size) ∧ v = padL (d.data.toList.drop k) (d2.data.toList.drop k)) (fun i => 400 - (intOf i).toNat)
      case atStart => exact ⟨0, rfl, Or.inl (Nat.zero_le _), e1.out⟩
      case round =>
        obtain ⟨k, rfl, hk, hvk⟩ := hrel
        clear e1 k0
        by_cases c1 : k < d.size
        · have hh1 : hdN d.data.toList k = d[k].toNat := by unfold hdN; rw [bytes_at d k c1]; rfl
          have hst := pad_step d.data.toList d2.data.toList k (Or.inl (by rw [bytes_len]; exact c1))
          rw [← hvk, hh1] at hst
          by_cases c2 : k < d2.size
          · have hh2 : hdN d2.data.toList k = d2[k].toNat := by unfold hdN; rw [bytes_at d2 k c2]; rfl
            rw [hh2] at hst
            by_cases g1 : d[k].toNat < d2[k].toNat
            · rw [if_pos g1] at hst
              subst hst
              clear hvk hh1 hh2 hk
              go_wp2
              go_ret
              exact ⟨rfl, hBq.out⟩
            · rw [if_neg g1] at hst
              by_cases g2 : d2[k].toNat < d[k].toNat
              · rw [if_pos g2] at hst
                subst hst
                clear hvk hh1 hh2 hk
                go_wp2
                go_ret
                exact ⟨rfl, hBq.out⟩
              · rw [if_neg g2] at hst
                clear hvk hh1 hh2 hk
                replace hst := Lib.hid hst
                go_wp2
                go_round
                case rel => exact ⟨k + 1, by go_num, Or.inl (by omega), hst.out⟩
                case measure => simp [intOf]; omega
          · have hh2 : hdN d2.data.toList k = 48 := by unfold hdN; rw [List.getElem?_eq_none (by rw [bytes_len]; omega)]; rfl
            rw [hh2] at hst
            by_cases g1 : d[k].toNat < 48
            · rw [if_pos g1] at hst
              subst hst
              clear hvk hh1 hh2 hk
              go_wp2
              go_ret
              exact ⟨rfl, hBq.out⟩
            · rw [if_neg g1] at hst
              by_cases g2 : 48 < d[k].toNat
              · rw [if_pos g2] at hst
                subst hst
                clear hvk hh1 hh2 hk
                go_wp2
                go_ret
                exact ⟨rfl, hBq.out⟩
              · rw [if_neg g2] at hst
                clear hvk hh1 hh2 hk
                replace hst := Lib.hid hst
                go_wp2
                go_round
                case rel => exact ⟨k + 1, by go_num, Or.inl (by omega), hst.out⟩
                case measure => simp [intOf]; omega
        · have hh1 : hdN d.data.toList k = 48 := by unfold hdN; rw [List.getElem?_eq_none (by rw [bytes_len]; omega)]; rfl
          by_cases c2 : k < d2.size
          · have hst := pad_step d.data.toList d2.data.toList k (Or.inr (by rw [bytes_len]; exact c2))
            have hh2 : hdN d2.data.toList k = d2[k].toNat := by unfold hdN; rw [bytes_at d2 k c2]; rfl
            rw [← hvk, hh1, hh2] at hst
            by_cases g1 : 48 < d2[k].toNat
            · rw [if_pos g1] at hst
              subst hst
              clear hvk hh1 hh2 hk
              go_wp2
              go_ret
              exact ⟨rfl, hBq.out⟩
            · rw [if_neg g1] at hst
              by_cases g2 : d2[k].toNat < 48
              · rw [if_pos g2] at hst
                subst hst
                clear hvk hh1 hh2 hk
                go_wp2
                go_ret
                exact ⟨rfl, hBq.out⟩
              · rw [if_neg g2] at hst
                clear hvk hh1 hh2 hk
                replace hst := Lib.hid hst
                go_wp2
                go_round
                case rel => exact ⟨k + 1, by go_num, Or.inr (by omega), hst.out⟩
                case measure => simp [intOf]; omega
          · have h0 := pad_end d.data.toList d2.data.toList k (by rw [bytes_len]; omega) (by rw [bytes_len]; omega)
            rw [← hvk] at h0
            subst h0
            clear hvk hh1 hk
            go_wp2
            go_ret
            exact ⟨rfl, hBq.out⟩

/-- above, of two worths. -/
theorem refAbove_agg {m : Bool} {d : ByteArray} {e : Int} {m2 : Bool} {d2 : ByteArray} {e2 : Int} (hx : Nrm ⟨m, d.data.toList, e⟩) (hy : Nrm ⟨m2, d2.data.toList, e2⟩) (w : World) :
    Calls Tryd.prog 21 #[.agg #[.bool m, .string d, .int .i64 e], .agg #[.bool m2, .string d2, .int .i64 e2]] w fun en w' => en = .returned (.int .i64 (cmpW ⟨m, d.data.toList, e⟩ ⟨m2, d2.data.toList, e2⟩)) ∧ Below w.heap.size w w' := by
  have h1 := hx.len
  have h2 := hy.len
  simp only [bytes_len] at h1 h2
  rw [← abv_cmpW hx hy]
  exact refAbove_any m d e m2 d2 e2 w h1 h2 hx.lo hx.hi hy.lo hy.hi
end Go.Proofs.YtflnkclobgjfdaaDoor
