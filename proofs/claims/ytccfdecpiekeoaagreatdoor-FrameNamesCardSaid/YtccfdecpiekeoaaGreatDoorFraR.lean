/-
  The plain law of frames, third part: what was written is told as it was; behind a head that is wrong the frames that follow are told. No program.
-/
import Derived.Test.YtccfdecpiekeoaaGreatDoorFraQ
import Derived.Lib.ItoaNum
namespace Go.Proofs.YtccfdecpiekeoaaGreatDoor

theorem decD_snoc : ∀ (l : List UInt8) (n : Nat) (c : UInt8), decD n (l ++ [c]) = decD n l * 10 + (c.toNat - 48)
  | [], _, _ => rfl
  | a :: l, n, c => by
    show decD (n * 10 + (a.toNat - 48)) (l ++ [c]) = _
    rw [decD_snoc l]; rfl
theorem digit_byte (r : Nat) (h : r < 10) : (UInt8.ofNat (48 + r)).toNat = 48 + r := by
  rw [UInt8.toNat_ofNat']; omega
theorem decDigits_small {v : Nat} (h : v < 10) : Lib.decDigits v = [UInt8.ofNat (48 + v)] := by
  conv => lhs; unfold Lib.decDigits
  rw [dif_pos h]
theorem decDigits_big {v : Nat} (h : ¬ v < 10) : Lib.decDigits v = Lib.decDigits (v / 10) ++ [UInt8.ofNat (48 + v % 10)] := by
  conv => lhs; unfold Lib.decDigits
  rw [dif_neg h]
theorem decDigits_facts : ∀ (k v : Nat), v < k → (∀ c ∈ Lib.decDigits v, isDg c = true) ∧ decD 0 (Lib.decDigits v) = v ∧ Lib.decDigits v ≠ [] ∧ (0 < v → (Lib.decDigits v).head? ≠ some 48)
  | 0, _, h => absurd h (Nat.not_lt_zero _)
  | k + 1, v, h => by
    by_cases h10 : v < 10
    · rw [decDigits_small h10]
      have hb := digit_byte v h10
      refine ⟨?_, ?_, by simp, ?_⟩
      · intro c hc
        rw [List.mem_singleton] at hc
        subst hc
        simp only [isDg, hb]; simp; omega
      · show 0 * 10 + ((UInt8.ofNat (48 + v)).toNat - 48) = v
        rw [hb]; omega
      · intro h0 he
        injection he with he
        have := congrArg UInt8.toNat he
        rw [hb] at this
        have h48 : (48 : UInt8).toNat = 48 := rfl
        omega
    · obtain ⟨i1, i2, i3, i4⟩ := decDigits_facts k (v / 10) (by omega)
      rw [decDigits_big h10]
      have hb := digit_byte (v % 10) (by omega)
      refine ⟨?_, ?_, by simp, ?_⟩
      · intro c hc
        rw [List.mem_append, List.mem_singleton] at hc
        rcases hc with hc | hc
        · exact i1 c hc
        · subst hc
          simp only [isDg, hb]; simp; omega
      · rw [decD_snoc, i2, hb]; omega
      · intro _ he
        refine i4 (by omega) ?_
        rcases hl : Lib.decDigits (v / 10) with _ | ⟨a, t⟩
        · exact absurd hl i3
        · rw [hl] at he; exact he
theorem decDigits_dig (v : Nat) : ∀ c ∈ Lib.decDigits v, isDg c = true := (decDigits_facts (v + 1) v (Nat.lt_succ_self _)).1
theorem decDigits_ne (v : Nat) : Lib.decDigits v ≠ [] := (decDigits_facts (v + 1) v (Nat.lt_succ_self _)).2.2.1
theorem decDigits_len : ∀ (k v : Nat), 0 < k → v < 10 ^ k → (Lib.decDigits v).length ≤ k
  | 0, _, h, _ => absurd h (Nat.lt_irrefl _)
  | k + 1, v, _, h => by
    by_cases h10 : v < 10
    · rw [decDigits_small h10]; simp
    · rw [decDigits_big h10, List.length_append, List.length_singleton]
      have h2 : v / 10 < 10 ^ k := by rw [Nat.pow_succ] at h; omega
      have hk : 0 < k := by
        rcases Nat.eq_zero_or_pos k with h0 | h0
        · subst h0
          have : (10 : Nat) ^ 0 = 1 := rfl
          omega
        · exact h0
      have := decDigits_len k (v / 10) hk h2
      omega

theorem numL_dec (n : Nat) (h : n ≤ 262144) : numL (Lib.decDigits n) = some n := by
  obtain ⟨h1, h2, h3, h4⟩ := decDigits_facts (n + 1) n (Nat.lt_succ_self _)
  unfold numL
  rw [if_neg, h2, Nat.min_eq_left (by omega)]
  rintro (he | he | ⟨h5, h6⟩)
  · exact h3 he
  · have : (Lib.decDigits n).all isDg = true := List.all_eq_true.2 h1
    rw [this] at he; cases he
  · by_cases h10 : n < 10
    · rw [decDigits_small h10] at h5; simp at h5
    · exact h4 (by omega) h6

theorem dg_facts {c : UInt8} (h : isDg c = true) : c ≠ 13 ∧ c ≠ 58 ∧ isBl c = false := by
  simp only [isDg, Bool.and_eq_true, decide_eq_true_eq] at h
  have h13 : (13 : UInt8).toNat = 13 := rfl
  have h58 : (58 : UInt8).toNat = 58 := rfl
  have h32 : (32 : UInt8).toNat = 32 := rfl
  have h9 : (9 : UInt8).toNat = 9 := rfl
  refine ⟨fun e => by rw [e] at h; omega, fun e => by rw [e] at h; omega, ?_⟩
  simp only [isBl, Bool.or_eq_false_iff, beq_eq_false_iff_ne]
  exact ⟨fun e => by rw [e] at h; omega, fun e => by rw [e] at h; omega⟩

theorem dropWhile_none {α : Type} (p : α → Bool) : ∀ (l : List α), (∀ c ∈ l, p c = false) → l.dropWhile p = l
  | [], _ => rfl
  | a :: l, h => by rw [List.dropWhile_cons, h a (List.mem_cons_self ..)]; rfl
theorem trimB_dg (v : List UInt8) (h : ∀ c ∈ v, isDg c = true) : trimB (32 :: v) = v := by
  have e1 : (32 :: v).dropWhile isBl = v := by
    rw [List.dropWhile_cons, show isBl 32 = true from by decide, if_pos rfl]
    exact dropWhile_none _ _ (fun c hc => (dg_facts (h c hc)).2.2)
  unfold trimB
  rw [e1, dropWhile_none _ _ (fun c hc => (dg_facts (h c (List.mem_reverse.1 hc))).2.2), List.reverse_reverse]

/-- A text's frame. -/
def frameT (b : List UInt8) : List UInt8 := fMark ++ 32 :: Lib.decDigits b.length ++ fEnd ++ b

theorem occ_head {s p : List UInt8} {i : Nat} {c : UInt8} {t : List UInt8} (hp : p = c :: t) (h : occ s p i) : s[i]? = some c :=
  Lib.occAt_head hp ((occ_iff _ _ _).2 h)

theorem line_len (n : Nat) (h : n ≤ 262144) : lineL (fMark ++ 32 :: Lib.decDigits n) = some (some n) := by
  have hi : idx (fMark ++ 32 :: Lib.decDigits n) fColon = some 14 := by
    refine idx_eq fColon_ne rfl (fun j hj ho => ?_)
    have := occ_head (c := 58) (t := []) rfl ho
    rw [List.getElem?_append_left (by show j < 15; omega)] at this
    have hall : ∀ k : Fin 14, fMark[k.val]? ≠ some 58 := by decide
    exact hall ⟨j, hj⟩ this
  unfold lineL
  rw [hi]
  simp only
  have e1 : (fMark ++ 32 :: Lib.decDigits n).take 14 = fMark.take 14 := by rw [List.take_append_of_le_length (by decide)]
  have e2 : (fMark ++ 32 :: Lib.decDigits n).drop (14 + 1) = 32 :: Lib.decDigits n := by
    rw [List.drop_append_of_le_length (by decide)]; rfl
  rw [e1, e2, if_neg (by decide), if_pos (by decide), trimB_dg _ (decDigits_dig n), numL_dec n h]

theorem head_len (n : Nat) (h : n ≤ 262144) : headL (fMark ++ 32 :: Lib.decDigits n) = some n := by
  have hn : idx (fMark ++ 32 :: Lib.decDigits n) fCr = none := by
    refine idx_eq_none fCr_ne (fun j ho => ?_)
    have := occ_head (c := 13) (t := [10]) rfl ho
    have hm := List.mem_of_getElem? this
    rw [List.mem_append, List.mem_cons] at hm
    rcases hm with hm | hm | hm
    · exact absurd hm (by decide)
    · exact absurd hm (by decide)
    · exact (dg_facts (decDigits_dig n _ hm)).1 rfl
  unfold headL
  rw [linesL_none hn]
  unfold goH
  rw [line_len n h]
  rfl

theorem run_frame (b rest : List UInt8) (h : b.length ≤ 262144) :
    runF (frameT b ++ rest) false = ⟨(b, 0) :: (runF rest false).evs, (runF rest false).h, (runF rest false).k⟩ := by
  obtain ⟨H, hH⟩ : ∃ H, fMark ++ 32 :: Lib.decDigits b.length = H := ⟨_, rfl⟩
  have hl : H.length ≤ 22 := by
    rw [← hH, List.length_append, List.length_cons]
    have := decDigits_len 6 b.length (by omega) (by have : (10 : Nat) ^ 6 = 1000000 := by decide
                                                    omega)
    have h15 : fMark.length = 15 := rfl
    omega
  have h4 : fEnd.length = 4 := rfl
  have hno : ∀ c ∈ H, c ≠ 13 := by
    intro c hc
    rw [← hH, List.mem_append, List.mem_cons] at hc
    rcases hc with hc | hc | hc
    · intro e; subst e; exact absurd hc (by decide)
    · intro e; subst e; exact absurd hc (by decide)
    · exact (dg_facts (decDigits_dig _ _ hc)).1
  have hf : frameT b ++ rest = H ++ (fEnd ++ (b ++ rest)) := by unfold frameT; rw [hH]; simp
  have hi : idx (H ++ (fEnd ++ (b ++ rest))) fEnd = some H.length := by
    refine idx_eq fEnd_ne (by unfold occ; rw [List.drop_left, List.take_left]) (fun j hj ho => ?_)
    have := occ_head (c := 13) (t := [10, 13, 10]) rfl ho
    rw [List.getElem?_append_left hj] at this
    exact hno _ (List.mem_of_getElem? this) rfl
  have hi2 : idx ((H ++ (fEnd ++ (b ++ rest))).take 1028) fEnd = some H.length := (idx_take fEnd_ne).2 ⟨hi, by omega⟩
  have hst : stepF (H ++ (fEnd ++ (b ++ rest))) false = ⟨[(b, 0)], true, rest, false⟩ := by
    unfold stepF
    rw [hi2]
    simp only
    rw [List.take_left, ← hH, head_len _ h, hH]
    simp only
    rw [if_neg (by omega), if_neg (by simp only [List.length_append]; omega)]
    have e1 : (H ++ (fEnd ++ (b ++ rest))).drop (H.length + 4) = b ++ rest := by
      rw [← List.drop_drop, List.drop_left]; rfl
    rw [e1, List.take_left, ← List.drop_drop, e1, List.drop_left]
  rw [hf, runF_on (by rw [hst]), hst]
  rfl

/-- Frames one behind the other. -/
def framesT : List (List UInt8) → List UInt8
  | [] => []
  | b :: l => frameT b ++ framesT l
theorem runF_nil : runF [] false = ⟨[], [], false⟩ := by
  have hs : stepF [] false = ⟨[], false, [], false⟩ := by
    unfold stepF
    rw [show idx (([] : List UInt8).take 1028) fEnd = none from by decide +kernel]
    rfl
  rw [runF_off (by rw [hs]), hs]
theorem run_frames : ∀ (l : List (List UInt8)), (∀ b ∈ l, b.length ≤ 262144) → (runF (framesT l) false).evs = l.map (fun b => (b, 0))
  | [], _ => by show (runF [] false).evs = []; rw [runF_nil]
  | b :: l, h => by
    show (runF (frameT b ++ framesT l) false).evs = _
    rw [run_frame b _ (h b (List.mem_cons_self ..))]
    simp only [List.map_cons]
    rw [run_frames l (fun x hx => h x (List.mem_cons_of_mem _ hx))]
theorem framesT_snoc : ∀ (l : List (List UInt8)) (b : List UInt8), framesT (l ++ [b]) = framesT l ++ frameT b
  | [], b => by simp [framesT]
  | a :: l, b => by
    show frameT a ++ framesT (l ++ [b]) = frameT a ++ framesT l ++ frameT b
    rw [framesT_snoc l b, List.append_assoc]

def noHead : List UInt8 := [110, 111, 32, 104, 101, 97, 100, 13, 10, 13, 10]
theorem framesT_mark (l : List (List UInt8)) (h : l ≠ []) : ∃ t, framesT l = fMark ++ t := by
  cases l with
  | nil => exact absurd rfl h
  | cons b l => exact ⟨32 :: Lib.decDigits b.length ++ fEnd ++ b ++ framesT l, by show frameT b ++ framesT l = _; unfold frameT; simp⟩

/-- Behind a head that is wrong. -/
theorem run_again (b : List UInt8) (l : List (List UInt8)) (hb : ∀ c ∈ b, c ≠ 67) (hl : ∀ x ∈ l, x.length ≤ 262144) :
    (runF (noHead ++ b ++ framesT l) false).evs = ([], 72) :: l.map (fun b => (b, 0)) := by
  have hi : idx ((noHead ++ b ++ framesT l).take 1028) fEnd = some 7 := by
    refine (idx_take fEnd_ne).2 ⟨?_, by decide⟩
    rw [List.append_assoc]
    exact idx_app fEnd_ne (by decide +kernel)
  have hst : stepF (noHead ++ b ++ framesT l) false = ⟨[([], 72)], true, (noHead ++ b ++ framesT l).drop 1, true⟩ := by
    unfold stepF
    rw [hi]
    simp only
    have e1 : (noHead ++ b ++ framesT l).take 7 = noHead.take 7 := by
      rw [List.append_assoc, List.take_append_of_le_length (by decide)]
    rw [e1, show headL (noHead.take 7) = none from by decide +kernel]
  rw [runF_on (by rw [hst]), hst]
  simp only [List.cons_append, List.nil_append]
  congr 1
  obtain ⟨X, hX⟩ : ∃ X, noHead.drop 1 ++ b = X := ⟨_, rfl⟩
  have hd : (noHead ++ b ++ framesT l).drop 1 = X ++ framesT l := by
    rw [← hX, List.append_assoc, List.drop_append_of_le_length (by decide), List.append_assoc]
  rw [hd]
  have hXc : ∀ c ∈ X, c ≠ 67 := by
    intro c hc
    rw [← hX, List.mem_append] at hc
    rcases hc with hc | hc
    · intro e; subst e; exact absurd hc (by decide)
    · exact hb c hc
  have hno : ∀ (y : List UInt8) (j : Nat), j < X.length → ¬ occ (X ++ y) fMark j := by
    intro y j hj ho
    have := occ_head (c := 67) (t := fMark.drop 1) rfl ho
    rw [List.getElem?_append_left hj] at this
    exact hXc _ (List.mem_of_getElem? this) rfl
  have e1 : ∀ s : List UInt8, stepF s true = match idx s fMark with | none => ⟨[], false, s.drop (s.length - 14), true⟩ | some i => ⟨[], true, s.drop i, false⟩ := fun _ => rfl
  by_cases hl0 : l = []
  · subst hl0
    have hn : idx (X ++ framesT []) fMark = none := by
      refine idx_eq_none fMark_ne (fun j ho => ?_)
      have hr := occ_room fMark_ne ho
      have h15 : fMark.length = 15 := rfl
      simp only [framesT, List.append_nil] at hr
      exact hno _ j (by omega) ho
    have q : stepF (X ++ framesT []) true = ⟨[], false, (X ++ framesT []).drop ((X ++ framesT []).length - 14), true⟩ := by rw [e1, hn]
    rw [runF_off (by rw [q]), q]
    rfl
  · obtain ⟨t, ht⟩ := framesT_mark l hl0
    have hn : idx (X ++ framesT l) fMark = some X.length := by
      refine idx_eq fMark_ne (by unfold occ; rw [List.drop_left, ht, List.take_left]) (fun j hj ho => hno _ j hj ho)
    have q : stepF (X ++ framesT l) true = ⟨[], true, framesT l, false⟩ := by rw [e1, hn]; simp only [List.drop_left]
    rw [runF_on (by rw [q]), q]
    simp only [List.nil_append]
    exact run_frames l hl
end Go.Proofs.YtccfdecpiekeoaaGreatDoor
