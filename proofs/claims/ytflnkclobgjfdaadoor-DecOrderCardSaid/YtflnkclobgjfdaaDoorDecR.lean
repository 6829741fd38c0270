/-
  Plain laws of the order of decimals: the other way about, alike just if the own forms are, handed on. No program.
-/
import Derived.Test.YtflnkclobgjfdaaDoorDecQ
import Derived.Test.YtflnkclobgjfdaaDoorDecH
namespace Go.Proofs.YtflnkclobgjfdaaDoor

theorem cmp3_neg (a b : Int) : cmp3 a b = -cmp3 b a := by
  unfold cmp3
  by_cases h1 : a < b
  · rw [if_pos h1, if_neg (by omega), if_pos h1]
  · by_cases h2 : b < a
    · rw [if_neg h1, if_pos h2, if_pos h2]; rfl
    · rw [if_neg h1, if_neg h2, if_neg h2, if_neg h1]; rfl
theorem cmp3_zero (a b : Int) : cmp3 a b = 0 ↔ a = b := by
  unfold cmp3
  split
  · constructor <;> omega
  · split <;> constructor <;> omega
theorem cmp3_le (a b : Int) : cmp3 a b ≤ 0 ↔ a ≤ b := by
  unfold cmp3
  split
  · constructor <;> omega
  · split <;> constructor <;> omega

theorem cb_neg : ∀ a b : List UInt8, Lib.compareBytes a b = -Lib.compareBytes b a
  | [], [] => rfl
  | [], _ :: _ => rfl
  | _ :: _, [] => rfl
  | a :: xs, b :: ys => by
    unfold Lib.compareBytes
    by_cases h1 : a < b
    · have h2 : ¬ b < a := fun h => by have := UInt8.lt_iff_toNat_lt.1 h; have := UInt8.lt_iff_toNat_lt.1 h1; omega
      rw [if_pos h1, if_neg h2, if_pos h1]
    · by_cases h2 : b < a
      · rw [if_neg h1, if_pos h2, if_pos h2]; rfl
      · rw [if_neg h1, if_neg h2, if_neg h2, if_neg h1]
        exact cb_neg xs ys
theorem cb_zero : ∀ a b : List UInt8, Lib.compareBytes a b = 0 ↔ a = b
  | [], [] => by simp [Lib.compareBytes]
  | [], _ :: _ => by simp [Lib.compareBytes]
  | _ :: _, [] => by simp [Lib.compareBytes]
  | a :: xs, b :: ys => by
    unfold Lib.compareBytes
    by_cases h1 : a < b
    · rw [if_pos h1]
      constructor
      · intro h; omega
      · intro h; injection h with h h'; subst h; exact absurd h1 (UInt8.lt_irrefl _)
    · by_cases h2 : b < a
      · rw [if_neg h1, if_pos h2]
        constructor
        · intro h; omega
        · intro h; injection h with h h'; subst h; exact absurd h2 (UInt8.lt_irrefl _)
      · rw [if_neg h1, if_neg h2, cb_zero xs ys]
        have : a = b := UInt8.toNat_inj.1 (by
          have h3 : ¬ a.toNat < b.toNat := fun h => h1 (UInt8.lt_iff_toNat_lt.2 h)
          have h4 : ¬ b.toNat < a.toNat := fun h => h2 (UInt8.lt_iff_toNat_lt.2 h)
          omega)
        subst this
        simp
theorem cb_trans : ∀ a b c : List UInt8, Lib.compareBytes a b ≤ 0 → Lib.compareBytes b c ≤ 0 → Lib.compareBytes a c ≤ 0
  | [], _, [], _, _ => by simp [Lib.compareBytes]
  | [], _, _ :: _, _, _ => by simp [Lib.compareBytes]
  | _ :: _, [], _, h, _ => by simp [Lib.compareBytes] at h
  | _ :: _, _ :: _, [], _, h => by simp [Lib.compareBytes] at h
  | a :: xs, b :: ys, c :: zs, h1, h2 => by
    unfold Lib.compareBytes at h1 h2 ⊢
    simp only [UInt8.lt_iff_toNat_lt] at h1 h2 ⊢
    by_cases hab : a.toNat < b.toNat
    · by_cases hbc : b.toNat < c.toNat
      · rw [if_pos (by omega)]; omega
      · rw [if_neg hbc] at h2
        by_cases hcb : c.toNat < b.toNat
        · rw [if_pos hcb] at h2; omega
        · rw [if_pos (by omega)]; omega
    · rw [if_neg hab] at h1
      by_cases hba : b.toNat < a.toNat
      · rw [if_pos hba] at h1; omega
      · rw [if_neg hba] at h1
        by_cases hbc : b.toNat < c.toNat
        · rw [if_pos (by omega)]; omega
        · rw [if_neg hbc] at h2
          by_cases hcb : c.toNat < b.toNat
          · rw [if_pos hcb] at h2; omega
          · rw [if_neg hcb] at h2
            rw [if_neg (by omega), if_neg (by omega)]
            exact cb_trans xs ys zs h1 h2

theorem cmpW_neg (x y : Wth) : cmpW x y = -cmpW y x := by
  unfold cmpW
  rw [cmp3_neg]
  by_cases h : cmp3 (y.digits.length + y.exp) (x.digits.length + x.exp) = 0
  · rw [if_pos (by omega), if_pos h, cb_neg]
  · rw [if_neg (by omega), if_neg h]
theorem cmpW_zero (x y : Wth) : cmpW x y = 0 ↔ x.digits = y.digits ∧ x.exp = y.exp := by
  unfold cmpW
  by_cases h : cmp3 (x.digits.length + x.exp) (y.digits.length + y.exp) = 0
  · rw [if_pos h, cb_zero]
    have h2 := (cmp3_zero _ _).1 h
    constructor
    · intro hd
      refine ⟨hd, ?_⟩
      rw [hd] at h2; omega
    · exact fun hh => hh.1
  · rw [if_neg h]
    constructor
    · exact fun hh => absurd hh h
    · rintro ⟨h1, h2⟩
      exact absurd ((cmp3_zero _ _).2 (by rw [h1, h2])) h
theorem cmpW_trans (x y z : Wth) (h1 : cmpW x y ≤ 0) (h2 : cmpW y z ≤ 0) : cmpW x z ≤ 0 := by
  unfold cmpW at *
  have e1 : ∀ a b c : Int, (if cmp3 a b = 0 then c else cmp3 a b) ≤ 0 ↔ a < b ∨ (a = b ∧ c ≤ 0) := by
    intro a b c
    by_cases h : cmp3 a b = 0
    · have := (cmp3_zero a b).1 h
      rw [if_pos h]
      constructor
      · intro hc; exact Or.inr ⟨this, hc⟩
      · rintro (hh | hh)
        · omega
        · exact hh.2
    · have hne : ¬ a = b := fun hh => h ((cmp3_zero a b).2 hh)
      rw [if_neg h, cmp3_le]
      constructor
      · intro hc; exact Or.inl (by omega)
      · rintro (hh | hh)
        · omega
        · exact absurd hh.1 hne
  rw [e1] at *
  rcases h1 with h1 | ⟨h1, h1'⟩
  · rcases h2 with h2 | ⟨h2, h2'⟩
    · exact Or.inl (by omega)
    · exact Or.inl (by omega)
  · rcases h2 with h2 | ⟨h2, h2'⟩
    · exact Or.inl (by omega)
    · exact Or.inr ⟨by omega, cb_trans _ _ _ h1' h2'⟩

/-- Cmp of two worths. -/
def cmpN (x y : Wth) : Int := if signW x ≠ signW y then cmp3 (signW x) (signW y) else cmpW x y * signW x

theorem signW_cases (x : Wth) (h : Nrm x) : (signW x = 0 ∧ x = ⟨false, [], 0⟩) ∨ (signW x = -1 ∧ x.minus = true ∧ ¬ x.digits = []) ∨ (signW x = 1 ∧ x.minus = false ∧ ¬ x.digits = []) := by
  unfold signW
  by_cases hd : x.digits = []
  · rw [if_pos hd]; exact Or.inl ⟨rfl, h.zero hd⟩
  · rw [if_neg hd]
    cases hm : x.minus
    · exact Or.inr (Or.inr ⟨rfl, rfl, hd⟩)
    · exact Or.inr (Or.inl ⟨rfl, rfl, hd⟩)
theorem cmpN_neg (x y : Wth) : cmpN x y = -cmpN y x := by
  unfold cmpN
  by_cases h : signW x = signW y
  · rw [if_neg (by simpa using h), if_neg (by simpa using h.symm), cmpW_neg, h, Int.neg_mul]
  · rw [if_pos h, if_pos (fun hh => h hh.symm), cmp3_neg]
theorem cmpN_zero (x y : Wth) (hx : Nrm x) (hy : Nrm y) : cmpN x y = 0 ↔ x = y := by
  unfold cmpN
  by_cases h : signW x = signW y
  · rw [if_neg (by simpa using h)]
    rcases signW_cases x hx with ⟨s1, e1⟩ | ⟨s1, m1, d1⟩ | ⟨s1, m1, d1⟩
    · rcases signW_cases y hy with ⟨s2, e2⟩ | ⟨s2, m2, d2⟩ | ⟨s2, m2, d2⟩
      · rw [s1, e1, e2]; simp
      · omega
      · omega
    · rcases signW_cases y hy with ⟨s2, e2⟩ | ⟨s2, m2, d2⟩ | ⟨s2, m2, d2⟩
      · omega
      · rw [s1]
        have : cmpW x y * -1 = 0 ↔ cmpW x y = 0 := by omega
        rw [this, cmpW_zero]
        obtain ⟨a, b, c⟩ := x
        obtain ⟨a', b', c'⟩ := y
        simp only at m1 m2
        subst m1 m2
        simp
      · omega
    · rcases signW_cases y hy with ⟨s2, e2⟩ | ⟨s2, m2, d2⟩ | ⟨s2, m2, d2⟩
      · omega
      · omega
      · rw [s1]
        have : cmpW x y * 1 = 0 ↔ cmpW x y = 0 := by omega
        rw [this, cmpW_zero]
        obtain ⟨a, b, c⟩ := x
        obtain ⟨a', b', c'⟩ := y
        simp only at m1 m2
        subst m1 m2
        simp
  · rw [if_pos h]
    constructor
    · intro hh; exact absurd ((cmp3_zero _ _).1 hh) h
    · intro hh; rw [hh] at h; exact absurd rfl h
theorem cmpN_trans (x y z : Wth) (hx : Nrm x) (h1 : cmpN x y ≤ 0) (h2 : cmpN y z ≤ 0) : cmpN x z ≤ 0 := by
  unfold cmpN at *
  by_cases a : signW x = signW y
  · rw [if_neg (by simpa using a)] at h1
    by_cases b : signW y = signW z
    · rw [if_neg (by simpa using b)] at h2
      rw [if_neg (by simpa using a.trans b)]
      rcases signW_cases x hx with ⟨s1, _⟩ | ⟨s1, _, _⟩ | ⟨s1, _, _⟩
      · rw [s1]; simp
      · rw [← a, s1] at h2
        rw [s1] at h1 ⊢
        have h3 := cmpW_neg x y
        have h4 := cmpW_neg y z
        have h5 := cmpW_neg x z
        have := cmpW_trans z y x (by omega) (by omega)
        omega
      · rw [← a, s1] at h2
        rw [s1] at h1 ⊢
        have := cmpW_trans x y z (by omega) (by omega)
        omega
    · rw [if_pos b] at h2
      rw [if_pos (by rw [a]; exact b), a]
      exact h2
  · rw [if_pos a] at h1
    have h1' := (cmp3_le _ _).1 h1
    by_cases b : signW y = signW z
    · rw [if_pos (by rw [← b]; exact a), ← b]
      exact h1
    · rw [if_pos b] at h2
      have h2' := (cmp3_le _ _).1 h2
      rw [if_pos (by omega), cmp3_le]
      omega

theorem cmpL_ok {a b : List UInt8} (ha : (ownL a).2 = 0) (hb : (ownL b).2 = 0) : cmpL a b = (cmpN (decGetL a).1 (decGetL b).1, 0) := by
  have e : ∀ l : List UInt8, (ownL l).2 = 0 → (decGetL l).2 = 0 := by
    intro l h
    unfold ownL at h
    by_cases he : (decGetL l).2 = 0
    · exact he
    · rw [if_neg he] at h; exact h
  unfold cmpL cmpN
  rw [if_neg (by simpa using e a ha), if_neg (by simpa using e b hb)]
  by_cases h : signW (decGetL a).1 = signW (decGetL b).1
  · rw [if_neg (by simpa using h), if_neg (by simpa using h)]
  · rw [if_pos h, if_pos h]
theorem own_same {a b : List UInt8} (ha : (ownL a).2 = 0) (hb : (ownL b).2 = 0) : (ownL a).1 = (ownL b).1 ↔ (decGetL a).1 = (decGetL b).1 := by
  have e : ∀ l : List UInt8, (ownL l).2 = 0 → (ownL l).1 = formL (decGetL l).1 := by
    intro l h
    unfold ownL at h ⊢
    by_cases he : (decGetL l).2 = 0
    · rw [if_pos he]
    · rw [if_neg he] at h; exact absurd h he
  rw [e a ha, e b hb]
  constructor
  · intro h
    have h1 := get_form _ (get_nrm a)
    have h2 := get_form _ (get_nrm b)
    rw [h, h2] at h1
    injection h1 with h1 _
    exact h1.symm
  · intro h; rw [h]

/-- What the law of the order says of three texts. -/
theorem order_law (a b c : List UInt8) (ha : (ownL a).2 = 0) (hb : (ownL b).2 = 0) (hc : (ownL c).2 = 0) :
    ∃ x z w : Int, cmpL a b = (x, 0) ∧ cmpL b a = (-x, 0) ∧ cmpL b c = (z, 0) ∧ cmpL a c = (w, 0) ∧ -1 ≤ x ∧ x ≤ 1 ∧
      (x = 0 ↔ (ownL a).1 = (ownL b).1) ∧ (x ≤ 0 → z ≤ 0 → w ≤ 0 ∧ (w < 0 ∨ (x = 0 ∧ z = 0))) := by
  refine ⟨_, _, _, cmpL_ok ha hb, ?_, cmpL_ok hb hc, cmpL_ok ha hc, ?_, ?_, ?_, ?_⟩
  · rw [cmpL_ok hb ha, cmpN_neg]
  · unfold cmpN
    split
    · exact (cmp3_bd _ _).1
    · have h1 := signW_bd (decGetL a).1
      have h2 : -1 ≤ cmpW (decGetL a).1 (decGetL b).1 ∧ cmpW (decGetL a).1 (decGetL b).1 ≤ 1 := by
        unfold cmpW; split
        · exact compareBytes_bd _ _
        · exact cmp3_bd _ _
      exact (mul_bd h2.1 h2.2 h1.1 h1.2).1
  · unfold cmpN
    split
    · exact (cmp3_bd _ _).2
    · have h1 := signW_bd (decGetL a).1
      have h2 : -1 ≤ cmpW (decGetL a).1 (decGetL b).1 ∧ cmpW (decGetL a).1 (decGetL b).1 ≤ 1 := by
        unfold cmpW; split
        · exact compareBytes_bd _ _
        · exact cmp3_bd _ _
      exact (mul_bd h2.1 h2.2 h1.1 h1.2).2
  · rw [own_same ha hb]; exact cmpN_zero _ _ (get_nrm a) (get_nrm b)
  · intro h1 h2
    have h3 := cmpN_trans _ _ _ (get_nrm a) h1 h2
    refine ⟨h3, ?_⟩
    by_cases hw : cmpN (decGetL a).1 (decGetL c).1 = 0
    · right
      have he := (cmpN_zero _ _ (get_nrm a) (get_nrm c)).1 hw
      rw [← he] at h2
      have h4 := cmpN_neg (decGetL b).1 (decGetL a).1
      constructor
      · omega
      · rw [← he]; omega
    · left; omega
end Go.Proofs.YtflnkclobgjfdaaDoor
