/-
  Plain laws of the program's decimals: what is in its own form is read as it was; the whole number of a number's own form. No program.
-/
import Derived.Test.YthmojpcaagnfkaaGreatDoorDecP
import Derived.Lib.ItoaNum
import Derived.Test.YthmojpcaagnfkaaGreatDoorDecO
namespace Go.Proofs.YthmojpcaagnfkaaGreatDoor

theorem decDigits_dig : ∀ (u : Nat) (c : UInt8), c ∈ Lib.decDigits u → isDig c = true := by
  intro u
  induction u using Nat.strongRecOn with
  | ind u ih =>
    intro c hc
    rw [Lib.decDigits] at hc
    have hd : ∀ v, v < 10 → isDig (UInt8.ofNat (48 + v)) = true := by
      intro v hv
      have h : ∀ x : Fin 10, isDig (UInt8.ofNat (48 + x.val)) = true := by decide
      exact h ⟨v, hv⟩
    split at hc
    · rename_i h
      rw [List.mem_singleton] at hc
      rw [hc]; exact hd u h
    · rename_i h
      rw [List.mem_append, List.mem_singleton] at hc
      rcases hc with hc | hc
      · exact ih (u / 10) (by omega) c hc
      · rw [hc]; exact hd _ (by omega)
theorem decDigits_ne (u : Nat) : ¬ Lib.decDigits u = [] := by
  rw [Lib.decDigits]; split <;> simp
theorem numL_snoc : ∀ (l : List UInt8) (n : Int) (c : UInt8), numL n (l ++ [c]) = numL n l * 10 + c.toNat - 48
  | [], n, c => rfl
  | x :: l, n, c => by simp only [List.cons_append, numL]; exact numL_snoc l _ c
theorem dig_toNat (v : Nat) (h : v < 10) : (UInt8.ofNat (48 + v)).toNat = 48 + v := by
  rw [UInt8.toNat_ofNat']; omega
theorem numL_decDigits (u : Nat) : numL 0 (Lib.decDigits u) = u := by
  induction u using Nat.strongRecOn with
  | ind u ih =>
    rw [Lib.decDigits]
    split
    · rename_i h
      simp only [numL]
      rw [dig_toNat u h]; omega
    · rename_i h
      rw [numL_snoc, ih (u / 10) (by omega), dig_toNat _ (by omega)]; omega
theorem decV_decDigits (u : Nat) : decV (Lib.decDigits u) = u := by
  induction u using Nat.strongRecOn with
  | ind u ih =>
    rw [Lib.decDigits]
    split
    · rename_i h
      show 0 * 10 + ((UInt8.ofNat (48 + u)).toNat - 48) = u
      rw [dig_toNat u h]; omega
    · rename_i h
      rw [decV_snoc, ih (u / 10) (by omega), dig_toNat _ (by omega)]; omega
theorem decDigits_len : ∀ (k u : Nat), u < 10 ^ (k + 1) → (Lib.decDigits u).length ≤ k + 1
  | 0, u, h => by rw [Lib.decDigits, dif_pos (by simpa using h)]; simp
  | k + 1, u, h => by
    rw [Lib.decDigits]
    split
    · simp
    · rw [List.length_append, List.length_singleton]
      have := decDigits_len k (u / 10) (by rw [Nat.pow_succ] at h; omega)
      omega
theorem decDigits_head : ∀ (u : Nat), 0 < u → ∃ c t, Lib.decDigits u = c :: t ∧ isZ c = false := by
  intro u
  induction u using Nat.strongRecOn with
  | ind u ih =>
    intro h0
    rw [Lib.decDigits]
    split
    · rename_i h
      refine ⟨_, [], rfl, ?_⟩
      unfold isZ
      rw [dig_toNat u h]; simp; omega
    · rename_i h
      obtain ⟨c, t, h1, h2⟩ := ih (u / 10) (by omega) (by omega)
      exact ⟨c, t ++ [_], by rw [h1]; rfl, h2⟩
theorem numL_zeros (l : List UInt8) : numL 0 (l.dropWhile isZ) = numL 0 l := by
  induction l with
  | nil => rfl
  | cons c l ih =>
    cases hz : isZ c
    · simp [hz]
    · rw [List.dropWhile_cons_of_pos hz, ih]
      have hc : c.toNat = 48 := by simpa [isZ] using hz
      show _ = numL (0 * 10 + c.toNat - 48) l
      rw [hc]; rfl
theorem powL_decDigits (u : Nat) (h : u < 100000000) : powL (Lib.decDigits u) = u := by
  unfold powL
  simp only
  rw [if_pos, numL_zeros, numL_decDigits]
  have h1 := decDigits_len 7 u (by omega)
  have h2 := dropWhile_length_le (p := isZ) (Lib.decDigits u)
  omega

theorem takeWhile_all {p : UInt8 → Bool} {l : List UInt8} (h : ∀ c, c ∈ l → p c = true) : l.takeWhile p = l ∧ l.dropWhile p = [] := by
  induction l with
  | nil => exact ⟨rfl, rfl⟩
  | cons c l ih =>
    have hc := h c (by simp)
    have := ih (fun x hx => h x (by simp [hx]))
    exact ⟨by rw [List.takeWhile_cons_of_pos hc, this.1], by rw [List.dropWhile_cons_of_pos hc, this.2]⟩
theorem takeWhile_app {p : UInt8 → Bool} {l r : List UInt8} (h : ∀ c, c ∈ l → p c = true) (hr : ∀ c t, r = c :: t → p c = false) : (l ++ r).takeWhile p = l ∧ (l ++ r).dropWhile p = r := by
  induction l with
  | nil =>
    rcases r with _ | ⟨c, t⟩
    · exact ⟨rfl, rfl⟩
    · have := hr c t rfl
      simp [this]
  | cons c l ih =>
    have hc := h c (by simp)
    have := ih (fun x hx => h x (by simp [hx]))
    exact ⟨by rw [List.cons_append, List.takeWhile_cons_of_pos hc, this.1], by rw [List.cons_append, List.dropWhile_cons_of_pos hc, this.2]⟩

/-- A worth as get makes it. -/
structure Nrm (x : Wth) : Prop where
  zero : x.digits = [] → x = ⟨false, [], 0⟩
  dig : ∀ c, c ∈ x.digits → isDig c = true
  left : x.digits.dropWhile isZ = x.digits
  right : trimR x.digits = x.digits
  len : x.digits.length ≤ 200
  lo : -9999 ≤ x.exp
  hi : x.exp ≤ 9999

theorem dropWhile_idem (p : UInt8 → Bool) (l : List UInt8) : (l.dropWhile p).dropWhile p = l.dropWhile p := by
  induction l with
  | nil => rfl
  | cons c l ih =>
    cases hp : p c
    · simp [hp]
    · rw [List.dropWhile_cons_of_pos hp, ih]
theorem trimR_idem (l : List UInt8) : trimR (trimR l) = trimR l := by
  unfold trimR
  rw [List.reverse_reverse, dropWhile_idem]
theorem get_nrm (l : List UInt8) : Nrm (decGetL l).1 := by
  have hz : Nrm ⟨false, [], 0⟩ := ⟨fun _ => rfl, fun c hc => absurd hc List.not_mem_nil, rfl, rfl, Nat.zero_le _, by decide, by decide⟩
  have hd := decGetL_dig l
  unfold decGetL at hd ⊢
  split
  · exact hz
  · rename_i r hr
    simp only at hd ⊢
    split
    · exact hz
    · split
      · exact hz
      · rename_i h1 h2 h3
        rw [hr] at hd
        simp only [h2, h3, if_false] at hd
        refine ⟨fun h => absurd h h2, hd, dropWhile_idem _ _, ?_, ?_, ?_, ?_⟩
        · show trimR ((trimR r.d).dropWhile isZ) = _
          rw [← trimR_drop, trimR_idem]
        · show ((trimR r.d).dropWhile isZ).length ≤ 200; omega
        · show -9999 ≤ _ + _; omega
        · show _ + _ ≤ (9999 : Int); omega

theorem first_dig {x : Wth} (h : Nrm x) (hne : ¬ x.digits = []) : ∃ c t, x.digits = c :: t ∧ isZ c = false ∧ isDig c = true := by
  rcases hd : x.digits with _ | ⟨c, t⟩
  · exact absurd hd hne
  · refine ⟨c, t, rfl, ?_, h.dig c (by rw [hd]; simp)⟩
    have := h.left
    rw [hd] at this
    cases hz : isZ c
    · rfl
    · rw [List.dropWhile_cons_of_pos hz] at this
      have h2 := congrArg List.length this
      have h3 := dropWhile_length_le (p := isZ) t
      simp at h2; omega

/-- Own form read again. -/
theorem get_form (x : Wth) (h : Nrm x) : decGetL (formL x) = (x, 0) := by
  by_cases hne : x.digits = []
  · rw [h.zero hne]
    decide +kernel
  · obtain ⟨c, t, hct, hz, hdc⟩ := first_dig h hne
    have hcd := isDig_t hdc
    have hcz : ¬ c.toNat = 48 := by simpa [isZ] using hz
    -- what stands behind the digits
    obtain ⟨tail, htail⟩ : ∃ tail, (if x.exp = 0 then [] else 101 :: Lib.itoa x.exp) = tail := ⟨_, rfl⟩
    have hform : formL x = (if x.minus then 45 :: x.digits else x.digits) ++ tail := by
      unfold formL; rw [if_neg hne, htail]
    have hsg : signL (formL x) = (x.minus, x.digits ++ tail) := by
      rw [hform]
      cases hm : x.minus
      · simp only [Bool.false_eq_true, if_false]
        rw [hct]
        unfold signL
        simp only [List.cons_append]
        rw [if_neg (by omega)]
      · simp only [if_true]
        rfl
    have htd : ∀ a b, tail = a :: b → isDig a = false := by
      intro a b hab
      rw [← htail] at hab
      split at hab
      · cases hab
      · injection hab with h1 h2
        rw [← h1]; rfl
    have htw := takeWhile_app h.dig htd
    have hok : wholeOk x.digits = true := by rw [hct]; simp [wholeOk, hcz]
    have hw : wholeL (formL x) = some ⟨tail, x.minus, x.digits, 0⟩ := by
      unfold wholeL
      rw [hsg]
      simp only [htw.1, htw.2, hok, if_true]
    have hp : partL ⟨tail, x.minus, x.digits, 0⟩ = some ⟨tail, x.minus, x.digits, 0⟩ := by
      unfold partL
      rw [← htail]
      split
      · rfl
      · rename_i a b hab
        split at hab
        · cases hab
        · injection hab with h1 h2
          rw [if_neg (by rw [← h1]; decide)]
    have hpw : ∃ s, powerL ⟨tail, x.minus, x.digits, 0⟩ = some ⟨s, x.minus, x.digits, x.exp⟩ := by
      by_cases he : x.exp = 0
      · rw [if_pos he] at htail
        rw [← htail, he]
        exact ⟨[], rfl⟩
      · rw [if_neg he] at htail
        rw [← htail]
        have h101 : (101 : UInt8).toNat = 101 ∨ (101 : UInt8).toNat = 69 := Or.inl rfl
        unfold powerL
        simp only [h101, if_true]
        unfold Lib.itoa
        by_cases hneg : x.exp < 0
        · rw [if_pos hneg]
          have hsp : signP (45 :: Lib.decDigits x.exp.natAbs) = (true, Lib.decDigits x.exp.natAbs) := rfl
          rw [hsp]
          have hall := takeWhile_all (fun c hc => decDigits_dig x.exp.natAbs c hc)
          simp only [hall.1, hall.2]
          have hl := h.lo
          rw [if_neg (by simp [decDigits_ne]), powL_decDigits _ (by omega)]
          refine ⟨[], ?_⟩
          congr 2
          simp
          omega
        · rw [if_neg hneg]
          obtain ⟨a, b, hab, haz⟩ := decDigits_head x.exp.toNat (by omega)
          have had := isDig_t (decDigits_dig x.exp.toNat a (by rw [hab]; simp))
          have hsp : signP (Lib.decDigits x.exp.toNat) = (false, Lib.decDigits x.exp.toNat) := by
            rw [hab]
            unfold signP
            simp only
            rw [if_neg (by omega), if_neg (by omega)]
          rw [hsp]
          have hall := takeWhile_all (fun c hc => decDigits_dig x.exp.toNat c hc)
          simp only [hall.1, hall.2]
          have hl := h.hi
          rw [if_neg (by simp [decDigits_ne]), powL_decDigits _ (by omega)]
          refine ⟨[], ?_⟩
          congr 2
          simp
          omega
    obtain ⟨s, hpw⟩ := hpw
    have hdec : decL (formL x) = some ⟨s, x.minus, x.digits, x.exp⟩ := by
      unfold decL
      rw [hw, Option.bind_some, hp, Option.bind_some, hpw]
    rw [decGetL_fin, hdec]
    unfold fin
    simp only
    rw [h.right, h.left, if_neg hne, if_neg, Nat.sub_self]
    · obtain ⟨m, d, e⟩ := x
      simp
    · rw [Nat.sub_self]
      have h1 := h.len
      have h2 := h.lo
      have h3 := h.hi
      omega

/-! ### The whole number of a number's own form -/

theorem trimR_fill (d : List UInt8) : d = trimR d ++ List.replicate (d.length - (trimR d).length) 48 := by
  have h := take_tz d
  have h2 : d = d.take (d.length - tz d) ++ d.drop (d.length - tz d) := (List.take_append_drop _ _).symm
  rw [h.1] at h2
  have h3 : d.drop (d.length - tz d) = List.replicate (d.length - (trimR d).length) 48 := by
    rw [h.2]
    have hlen : (d.drop (d.length - tz d)).length = tz d := by
      rw [List.length_drop]
      have := tz_le d
      omega
    refine List.eq_replicate_iff.2 ⟨hlen, ?_⟩
    intro c hc
    have hrev : d.drop (d.length - tz d) = (d.reverse.take (tz d)).reverse := by
      rw [List.take_reverse, List.reverse_reverse]
    rw [hrev, List.mem_reverse] at hc
    unfold tz twl at hc
    rw [← List.prefix_iff_eq_take.1 (List.takeWhile_prefix isZ)] at hc
    have := List.all_takeWhile (p := isZ) (l := d.reverse)
    rw [List.all_eq_true] at this
    have hz := this c hc
    exact UInt8.toNat_inj.1 (by simpa [isZ] using hz)
  rw [← h3]
  exact h2

theorem dec_itoa (n : Int) : decL (Lib.itoa n) = some ⟨[], decide (n < 0), Lib.decDigits n.natAbs, 0⟩ := by
  have hall := takeWhile_all (fun c hc => decDigits_dig n.natAbs c hc)
  have hs : signL (Lib.itoa n) = (decide (n < 0), Lib.decDigits n.natAbs) := by
    unfold Lib.itoa
    by_cases hn : n < 0
    · rw [if_pos hn]
      unfold signL
      simp [hn]
    · rw [if_neg hn]
      have he : n.toNat = n.natAbs := by omega
      rw [he]
      rcases hd : Lib.decDigits n.natAbs with _ | ⟨c, t⟩
      · exact absurd hd (decDigits_ne _)
      · have hc := isDig_t (decDigits_dig n.natAbs c (by rw [hd]; simp))
        unfold signL
        simp only
        rw [if_neg (by omega)]
        simp [hn]
  have hok : wholeOk (Lib.decDigits n.natAbs) = true := by
    by_cases h0 : n.natAbs = 0
    · rw [h0, Lib.decDigits, dif_pos (by omega)]; rfl
    · obtain ⟨c, t, h1, h2⟩ := decDigits_head n.natAbs (by omega)
      rw [h1]
      have : ¬ c.toNat = 48 := by simpa [isZ] using h2
      simp [wholeOk, this]
  have hw : wholeL (Lib.itoa n) = some ⟨[], decide (n < 0), Lib.decDigits n.natAbs, 0⟩ := by
    unfold wholeL
    rw [hs]
    simp only [hall.1, hall.2, hok, if_true]
  unfold decL
  rw [hw]
  rfl

theorem get_itoa (n : Int) (h0 : -9223372036854775808 ≤ n) (h1 : n ≤ 9223372036854775807) :
    ∃ (D : List UInt8) (k : Nat), decGetL (Lib.itoa n) = (⟨decide (n < 0), D, (k : Int)⟩, 0) ∧ D.length + k ≤ 19 ∧ decV (D ++ List.replicate k 48) = n.natAbs := by
  have hl : (Lib.decDigits n.natAbs).length ≤ 19 := decDigits_len 18 n.natAbs (by
    have : (10 : Nat) ^ 19 = 10000000000000000000 := by decide
    rw [this]; omega)
  by_cases hz : n = 0
  · subst hz
    refine ⟨[], 0, ?_, by simp, rfl⟩
    have : Lib.itoa 0 = [48] := by
      unfold Lib.itoa
      rw [if_neg (by omega), show (0 : Int).toNat = 0 from rfl, Lib.decDigits, dif_pos (by omega)]; rfl
    rw [this]
    decide +kernel
  · obtain ⟨c, t, hct, hcz⟩ := decDigits_head n.natAbs (by omega)
    obtain ⟨dd, hdd⟩ : ∃ dd, Lib.decDigits n.natAbs = dd := ⟨_, rfl⟩
    have hv := decV_decDigits n.natAbs
    have hfill := trimR_fill dd
    have hdec := dec_itoa n
    rw [hdd] at hct hl hv hdec
    have hleft : (trimR dd).dropWhile isZ = trimR dd := by
      rw [trimR_drop, hct]
      simp [hcz]
    have hne : ¬ trimR dd = [] := by
      rw [hct, trimR_cons]
      simp [hcz]
    have hlt := dropWhile_length_le (p := isZ) dd.reverse
    have hlt2 : (trimR dd).length ≤ dd.length := by
      unfold trimR
      rw [List.length_reverse]
      simpa using hlt
    refine ⟨trimR dd, dd.length - (trimR dd).length, ?_, by omega, ?_⟩
    · rw [decGetL_fin, hdec]
      unfold fin
      simp only
      rw [hleft, if_neg hne, if_neg (by omega)]
      simp
    · rw [← hfill]; exact hv

theorem back_int (n : Int) (h0 : -9223372036854775808 ≤ n) (h1 : n ≤ 9223372036854775807) : intL (ofL n) = (n, 0) := by
  obtain ⟨D, k, hg, hl, hv⟩ := get_itoa n h0 h1
  have hn := get_nrm (Lib.itoa n)
  have hgf : decGetL (ofL n) = (⟨decide (n < 0), D, (k : Int)⟩, 0) := by
    unfold ofL
    rw [hg] at hn ⊢
    exact get_form _ hn
  have hi := intL_of hgf hl hv
  by_cases hneg : n < 0
  · rw [hi.1 (by simpa using hneg) (by unfold two63; omega)]
    congr 1
    omega
  · rw [hi.2.2.1 (by simpa using hneg) (by unfold two63; omega)]
    congr 1
    omega

theorem back_own (l : List UInt8) (h : (ownL l).2 = 0) : ownL (ownL l).1 = ((ownL l).1, 0) := by
  unfold ownL at h ⊢
  by_cases he : (decGetL l).2 = 0
  · rw [if_pos he]
    simp only
    rw [get_form _ (get_nrm l), if_pos rfl]
  · rw [if_neg he] at h
    exact absurd h he
end Go.Proofs.YthmojpcaagnfkaaGreatDoor
