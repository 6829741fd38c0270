/-
  Plain law: noughts behind a point, a point that is moved, and an exponent that makes up for it change nothing. No program.
-/
import Derived.Test.YtflnkclobgjfdaaDoorDecQ
namespace Go.Proofs.YtflnkclobgjfdaaDoor

theorem trimR_zeros (d : List UInt8) (k : Nat) : trimR (d ++ List.replicate k 48) = trimR d := by
  unfold trimR
  rw [List.reverse_append, List.reverse_replicate]
  congr 1
  induction k with
  | zero => rfl
  | succ k ih =>
    rw [List.replicate_succ, List.cons_append, List.dropWhile_cons_of_pos (by rfl)]
    exact ih
theorem trimR_le (d : List UInt8) : (trimR d).length ≤ d.length := by
  have := dropWhile_length_le (p := isZ) d.reverse
  unfold trimR
  rw [List.length_reverse]
  simpa using this
theorem fin_zeros (m : Bool) (d : List UInt8) (k : Nat) (e : Int) : fin m (d ++ List.replicate k 48) e = fin m d (e + k) := by
  have h := trimR_le d
  have he : e + ((d ++ List.replicate k 48).length - (trimR d).length : Nat) = e + k + (d.length - (trimR d).length : Nat) := by
    rw [List.length_append, List.length_replicate]; omega
  unfold fin
  rw [trimR_zeros, he]

theorem powL_zeros (l : List UInt8) : powL (48 :: 48 :: l) = powL l := by
  unfold powL
  rw [List.dropWhile_cons_of_pos (by rfl), List.dropWhile_cons_of_pos (by rfl)]

/-- A text of digits, the first one not 0, and e and a power. -/
theorem dec_plain (c : UInt8) (S : List UInt8) (hc : isDig c = true) (hz : isZ c = false) (hS : ∀ x, x ∈ S → isDig x = true) (X : Nat) (hX : X < 100000000) :
    decL (c :: S ++ 101 :: Lib.decDigits X) = some ⟨[], false, c :: S, X⟩ := by
  have hcd := isDig_t hc
  have hcz : ¬ c.toNat = 48 := by simpa [isZ] using hz
  have hall : ∀ x, x ∈ c :: S → isDig x = true := by
    intro x hx
    rcases List.mem_cons.1 hx with h | h
    · rw [h]; exact hc
    · exact hS x h
  have htw := takeWhile_app (r := 101 :: Lib.decDigits X) hall (fun a b h => by injection h with h _; rw [← h]; rfl)
  have hs : signL (c :: S ++ 101 :: Lib.decDigits X) = (false, c :: S ++ 101 :: Lib.decDigits X) := by
    unfold signL
    simp only [List.cons_append]
    rw [if_neg (by omega)]
  have hok : wholeOk (c :: S) = true := by simp [wholeOk, hcz]
  have hw : wholeL (c :: S ++ 101 :: Lib.decDigits X) = some ⟨101 :: Lib.decDigits X, false, c :: S, 0⟩ := by
    unfold wholeL
    rw [hs]
    simp only [htw.1, htw.2, hok, if_true]
  have hp : partL ⟨101 :: Lib.decDigits X, false, c :: S, 0⟩ = some ⟨101 :: Lib.decDigits X, false, c :: S, 0⟩ := rfl
  unfold decL
  rw [hw, Option.bind_some, hp, Option.bind_some]
  have h101 : (101 : UInt8).toNat = 101 ∨ (101 : UInt8).toNat = 69 := Or.inl rfl
  unfold powerL
  simp only [h101, if_true]
  have hsp : signP (Lib.decDigits X) = (false, Lib.decDigits X) := by
    rcases hd : Lib.decDigits X with _ | ⟨a, b⟩
    · rfl
    · have had := isDig_t (decDigits_dig X a (by rw [hd]; simp))
      unfold signP
      simp only
      rw [if_neg (by omega), if_neg (by omega)]
  have hal := takeWhile_all (fun x hx => decDigits_dig X x hx)
  rw [hsp]
  simp only [hal.1, hal.2]
  rw [if_neg (by simp [decDigits_ne]), powL_decDigits X hX]
  simp

/-- .. with a point, a nought and noughts behind it. -/
theorem dec_point (c : UInt8) (S : List UInt8) (hc : isDig c = true) (hz : isZ c = false) (hS : ∀ x, x ∈ S → isDig x = true) (n X : Nat) (hX : X < 100000000) :
    decL (c :: S ++ 46 :: (List.replicate (n + 1) 48 ++ 101 :: Lib.decDigits X)) = some ⟨[], false, c :: S ++ List.replicate (n + 1) 48, -((n + 1 : Nat) : Int) + X⟩ := by
  have hcd := isDig_t hc
  have hcz : ¬ c.toNat = 48 := by simpa [isZ] using hz
  have hall : ∀ x, x ∈ c :: S → isDig x = true := by
    intro x hx
    rcases List.mem_cons.1 hx with h | h
    · rw [h]; exact hc
    · exact hS x h
  have htw := takeWhile_app (r := 46 :: (List.replicate (n + 1) 48 ++ 101 :: Lib.decDigits X)) hall (fun a b h => by injection h with h _; rw [← h]; rfl)
  have hs : signL (c :: S ++ 46 :: (List.replicate (n + 1) 48 ++ 101 :: Lib.decDigits X)) = (false, c :: S ++ 46 :: (List.replicate (n + 1) 48 ++ 101 :: Lib.decDigits X)) := by
    unfold signL
    simp only [List.cons_append]
    rw [if_neg (by omega)]
  have hok : wholeOk (c :: S) = true := by simp [wholeOk, hcz]
  have hw : wholeL (c :: S ++ 46 :: (List.replicate (n + 1) 48 ++ 101 :: Lib.decDigits X)) = some ⟨46 :: (List.replicate (n + 1) 48 ++ 101 :: Lib.decDigits X), false, c :: S, 0⟩ := by
    unfold wholeL
    rw [hs]
    simp only [htw.1, htw.2, hok, if_true]
  have hz2 := takeWhile_app (l := List.replicate (n + 1) 48) (r := 101 :: Lib.decDigits X) (p := isDig) (fun x hx => by rw [List.eq_of_mem_replicate hx]; rfl) (fun a b h => by injection h with h _; rw [← h]; rfl)
  have hp : partL ⟨46 :: (List.replicate (n + 1) 48 ++ 101 :: Lib.decDigits X), false, c :: S, 0⟩ = some ⟨101 :: Lib.decDigits X, false, c :: S ++ List.replicate (n + 1) 48, -((n + 1 : Nat) : Int)⟩ := by
    unfold partL
    simp only [show (46 : UInt8).toNat = 46 from rfl, if_true, hz2.1, hz2.2]
    rw [if_neg (by simp [List.replicate_succ]), List.length_replicate]
    simp
  unfold decL
  rw [hw, Option.bind_some, hp, Option.bind_some]
  have h101 : (101 : UInt8).toNat = 101 ∨ (101 : UInt8).toNat = 69 := Or.inl rfl
  unfold powerL
  simp only [h101, if_true]
  have hsp : signP (Lib.decDigits X) = (false, Lib.decDigits X) := by
    rcases hd : Lib.decDigits X with _ | ⟨a, b⟩
    · rfl
    · have had := isDig_t (decDigits_dig X a (by rw [hd]; simp))
      unfold signP
      simp only
      rw [if_neg (by omega), if_neg (by omega)]
  have hal := takeWhile_all (fun x hx => decDigits_dig X x hx)
  rw [hsp]
  simp only [hal.1, hal.2]
  rw [if_neg (by simp [decDigits_ne]), powL_decDigits X hX]
  simp

/-- .. with E, a sign and two noughts. -/
theorem dec_great (c : UInt8) (S : List UInt8) (hc : isDig c = true) (hz : isZ c = false) (hS : ∀ x, x ∈ S → isDig x = true) (X : Nat) (hX : X < 100000000) :
    decL (c :: S ++ 69 :: 43 :: 48 :: 48 :: Lib.decDigits X) = some ⟨[], false, c :: S, X⟩ := by
  have hcd := isDig_t hc
  have hcz : ¬ c.toNat = 48 := by simpa [isZ] using hz
  have hall : ∀ x, x ∈ c :: S → isDig x = true := by
    intro x hx
    rcases List.mem_cons.1 hx with h | h
    · rw [h]; exact hc
    · exact hS x h
  have htw := takeWhile_app (r := 69 :: 43 :: 48 :: 48 :: Lib.decDigits X) hall (fun a b h => by injection h with h _; rw [← h]; rfl)
  have hs : signL (c :: S ++ 69 :: 43 :: 48 :: 48 :: Lib.decDigits X) = (false, c :: S ++ 69 :: 43 :: 48 :: 48 :: Lib.decDigits X) := by
    unfold signL
    simp only [List.cons_append]
    rw [if_neg (by omega)]
  have hok : wholeOk (c :: S) = true := by simp [wholeOk, hcz]
  have hw : wholeL (c :: S ++ 69 :: 43 :: 48 :: 48 :: Lib.decDigits X) = some ⟨69 :: 43 :: 48 :: 48 :: Lib.decDigits X, false, c :: S, 0⟩ := by
    unfold wholeL
    rw [hs]
    simp only [htw.1, htw.2, hok, if_true]
  have hp : partL ⟨69 :: 43 :: 48 :: 48 :: Lib.decDigits X, false, c :: S, 0⟩ = some ⟨69 :: 43 :: 48 :: 48 :: Lib.decDigits X, false, c :: S, 0⟩ := rfl
  unfold decL
  rw [hw, Option.bind_some, hp, Option.bind_some]
  have h101 : (69 : UInt8).toNat = 101 ∨ (69 : UInt8).toNat = 69 := Or.inr rfl
  unfold powerL
  simp only [h101, if_true]
  have hsp : signP (43 :: 48 :: 48 :: Lib.decDigits X) = (false, 48 :: 48 :: Lib.decDigits X) := rfl
  have hal := takeWhile_all (p := isDig) (l := 48 :: 48 :: Lib.decDigits X) (fun x hx => by
    rcases List.mem_cons.1 hx with h | h
    · rw [h]; rfl
    · rcases List.mem_cons.1 h with h | h
      · rw [h]; rfl
      · exact decDigits_dig X x h)
  rw [hsp]
  simp only [hal.1, hal.2]
  rw [if_neg (by simp), powL_zeros, powL_decDigits X hX]
  simp

theorem own_of_fin {l : List UInt8} {m : Bool} {d : List UInt8} {e : Int} (h : decL l = some ⟨[], m, d, e⟩) : ownL l = if (fin m d e).2 = 0 then (formL (fin m d e).1, 0) else ([], (fin m d e).2) := by
  unfold ownL
  rw [decGetL_fin, h]

/-- THE LAW. -/
theorem moved_law (c : UInt8) (S : List UInt8) (hc : isDig c = true) (hz : isZ c = false) (hS : ∀ x, x ∈ S → isDig x = true) (hl : S.length ≤ 150) (n X : Nat) (hn : n < 40) (hX : X < 5000) :
    ∃ l : List UInt8, ownL (c :: S ++ 46 :: (List.replicate (n + 1) 48 ++ 101 :: Lib.decDigits (X + n))) = (l, 0) ∧
      ownL (c :: (S ++ List.replicate n 48) ++ 69 :: 43 :: 48 :: 48 :: Lib.decDigits X) = (l, 0) ∧ ownL (c :: S ++ 101 :: Lib.decDigits (X + n)) = (l, 0) := by
  have hS2 : ∀ x, x ∈ S ++ List.replicate n 48 → isDig x = true := by
    intro x hx
    rcases List.mem_append.1 hx with h | h
    · exact hS x h
    · rw [List.eq_of_mem_replicate h]; rfl
  have a := own_of_fin (dec_point c S hc hz hS n (X + n) (by omega))
  have b := own_of_fin (dec_great c (S ++ List.replicate n 48) hc hz hS2 X (by omega))
  have d := own_of_fin (dec_plain c S hc hz hS (X + n) (by omega))
  rw [fin_zeros, show -((n + 1 : Nat) : Int) + ((X + n : Nat) : Int) + ((n + 1 : Nat) : Int) = ((X + n : Nat) : Int) by omega] at a
  rw [← List.cons_append, fin_zeros, show ((X : Nat) : Int) + (n : Int) = ((X + n : Nat) : Int) by omega] at b
  have hne : ¬ (trimR (c :: S)).dropWhile isZ = [] := by
    rw [trimR_cons, if_neg (by simp [hz])]
    rw [List.dropWhile_cons_of_neg (by simp [hz])]
    simp
  have h1 := trimR_le (c :: S)
  have h2 := dropWhile_length_le (p := isZ) (trimR (c :: S))
  have hlen : (c :: S).length ≤ 151 := by simp; omega
  have hok : (fin false (c :: S) ((X + n : Nat) : Int)).2 = 0 := by
    unfold fin
    rw [if_neg hne, if_neg (by omega)]
  rw [if_pos hok] at a b d
  exact ⟨_, a, by rw [List.cons_append] at b ⊢; exact b, d⟩
end Go.Proofs.YtflnkclobgjfdaaDoor
