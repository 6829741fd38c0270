/-
  The plain law of frames, second part: the reader as a machine; what it tells hangs on the bytes alone. No program.
-/
import Derived.Test.YtccfdecpiekeoaaGreatDoorFraP
namespace Go.Proofs.YtccfdecpiekeoaaGreatDoor

/-- An event: a body, and what is wrong. -/
abbrev Evt := List UInt8 × Int

structure Stp where
  evs : List Evt
  on : Bool
  h : List UInt8
  k : Bool

def stepF (h : List UInt8) : Bool → Stp
  | true => match idx h fMark with
    | none => ⟨[], false, h.drop (h.length - 14), true⟩
    | some i => ⟨[], true, h.drop i, false⟩
  | false => match idx (h.take 1028) fEnd with
    | none => if h.length < 1028 then ⟨[], false, h, false⟩ else ⟨[([], 72)], true, h.drop 1, true⟩
    | some i => match headL (h.take i) with
      | none => ⟨[([], 72)], true, h.drop 1, true⟩
      | some n => if 262144 < n then ⟨[([], 40)], true, h.drop 1, true⟩
        else if h.length < i + 4 + n then ⟨[], false, h, false⟩
        else ⟨[((h.drop (i + 4)).take n, 0)], true, h.drop (i + 4 + n), false⟩

def meas (h : List UInt8) (k : Bool) : Nat := 2 * h.length + (if k then 1 else 0)

theorem step_meas (h : List UInt8) (k : Bool) (ho : (stepF h k).on = true) : meas (stepF h k).h (stepF h k).k < meas h k := by
  cases k
  · unfold stepF at ho ⊢
    rcases hi : idx (h.take 1028) fEnd with _ | i
    · rw [hi] at ho
      simp only at ho ⊢
      by_cases hl : h.length < 1028
      · rw [if_pos hl] at ho; cases ho
      · rw [if_neg hl]; simp only [meas, List.length_drop]; simp; omega
    · rw [hi] at ho
      have hr := idx_lt fEnd_ne hi
      have h4 : fEnd.length = 4 := rfl
      rw [List.length_take] at hr
      simp only at ho ⊢
      rcases hh : headL (h.take i) with _ | n
      · simp only [meas, List.length_drop]; simp; omega
      · rw [hh] at ho
        simp only at ho ⊢
        by_cases h1 : 262144 < n
        · rw [if_pos h1]; simp only [meas, List.length_drop]; simp; omega
        · rw [if_neg h1] at ho ⊢
          by_cases h2 : h.length < i + 4 + n
          · rw [if_pos h2] at ho; cases ho
          · rw [if_neg h2]; simp only [meas, List.length_drop]; simp; omega
  · unfold stepF at ho ⊢
    rcases hi : idx h fMark with _ | i
    · rw [hi] at ho; cases ho
    · simp only [meas, List.length_drop]; simp; omega

structure Fin' where
  evs : List Evt
  h : List UInt8
  k : Bool

def runN' : Nat → List UInt8 → Bool → Fin'
  | 0, h, k => ⟨[], h, k⟩
  | n + 1, h, k => if (stepF h k).on then ⟨(stepF h k).evs ++ (runN' n (stepF h k).h (stepF h k).k).evs, (runN' n (stepF h k).h (stepF h k).k).h, (runN' n (stepF h k).h (stepF h k).k).k⟩ else ⟨(stepF h k).evs, (stepF h k).h, (stepF h k).k⟩

theorem runN'_fuel : ∀ (n : Nat) (h : List UInt8) (k : Bool), meas h k < n → ∀ m, meas h k < m → runN' n h k = runN' m h k
  | 0, _, _, hn, _, _ => absurd hn (Nat.not_lt_zero _)
  | n + 1, h, k, hn, m, hm => by
    cases m with
    | zero => exact absurd hm (Nat.not_lt_zero _)
    | succ m =>
      unfold runN'
      by_cases ho : (stepF h k).on = true
      · have := step_meas h k ho
        rw [if_pos ho, if_pos ho, runN'_fuel n _ _ (by omega) m (by omega)]
      · rw [if_neg ho, if_neg ho]

def runF (h : List UInt8) (k : Bool) : Fin' := runN' (meas h k + 1) h k
theorem runF_on {h : List UInt8} {k : Bool} (ho : (stepF h k).on = true) :
    runF h k = ⟨(stepF h k).evs ++ (runF (stepF h k).h (stepF h k).k).evs, (runF (stepF h k).h (stepF h k).k).h, (runF (stepF h k).h (stepF h k).k).k⟩ := by
  have := step_meas h k ho
  conv => lhs; unfold runF runN'
  rw [if_pos ho]
  unfold runF
  rw [runN'_fuel (meas h k) _ _ this (meas (stepF h k).h (stepF h k).k + 1) (by omega)]
theorem runF_off {h : List UInt8} {k : Bool} (ho : (stepF h k).on = false) : runF h k = ⟨(stepF h k).evs, (stepF h k).h, (stepF h k).k⟩ := by
  conv => lhs; unfold runF runN'
  rw [if_neg (by simp [ho])]

theorem step_len (h : List UInt8) (k : Bool) : (stepF h k).evs.length + (stepF h k).h.length ≤ h.length := by
  cases k
  · unfold stepF
    rcases hi : idx (h.take 1028) fEnd with _ | i
    · simp only
      by_cases hl : h.length < 1028
      · rw [if_pos hl]; simp
      · rw [if_neg hl]; simp; omega
    · have hr := idx_lt fEnd_ne hi
      have h4 : fEnd.length = 4 := rfl
      rw [List.length_take] at hr
      simp only
      rcases hh : headL (h.take i) with _ | n
      · simp; omega
      · simp only
        by_cases h1 : 262144 < n
        · rw [if_pos h1]; simp; omega
        · rw [if_neg h1]
          by_cases h2 : h.length < i + 4 + n
          · rw [if_pos h2]; simp
          · rw [if_neg h2]; simp; omega
  · unfold stepF
    rcases hi : idx h fMark with _ | i
    · simp
    · simp

/-- A step that goes on goes on alike if more bytes follow. -/
theorem step_app (h c : List UInt8) (k : Bool) (ho : (stepF h k).on = true) : stepF (h ++ c) k = ⟨(stepF h k).evs, true, (stepF h k).h ++ c, (stepF h k).k⟩ := by
  cases k
  · unfold stepF at ho ⊢
    rcases hi : idx (h.take 1028) fEnd with _ | i
    · rw [hi] at ho
      simp only at ho ⊢
      by_cases hl : h.length < 1028
      · rw [if_pos hl] at ho; cases ho
      · rw [List.take_append_of_le_length (by omega), hi, if_neg hl]
        simp only
        rw [if_neg (by rw [List.length_append]; omega), List.drop_append_of_le_length (by omega)]
    · have h4 : fEnd.length = 4 := rfl
      have hr := idx_lt fEnd_ne hi
      rw [List.length_take] at hr
      have hia : idx ((h ++ c).take 1028) fEnd = some i := by
        rw [idx_take fEnd_ne] at hi ⊢
        exact ⟨idx_app fEnd_ne hi.1, hi.2⟩
      rw [hi] at ho
      rw [hia]
      simp only at ho ⊢
      rw [List.take_append_of_le_length (by omega)]
      rcases hh : headL (h.take i) with _ | n
      · simp only
        rw [List.drop_append_of_le_length (by omega)]
      · rw [hh] at ho
        simp only at ho ⊢
        by_cases h1 : 262144 < n
        · rw [if_pos h1, if_pos h1, List.drop_append_of_le_length (by omega)]
        · rw [if_neg h1] at ho ⊢
          rw [if_neg h1]
          by_cases h2 : h.length < i + 4 + n
          · rw [if_pos h2] at ho; cases ho
          · rw [if_neg h2, if_neg (by rw [List.length_append]; omega)]
            rw [List.drop_append_of_le_length (by omega), List.drop_append_of_le_length (by omega), List.take_append_of_le_length (by rw [List.length_drop]; omega)]
  · unfold stepF at ho ⊢
    rcases hi : idx h fMark with _ | i
    · rw [hi] at ho; cases ho
    · have hr := idx_lt fMark_ne hi
      rw [idx_app fMark_ne hi]
      simp only
      rw [List.drop_append_of_le_length (by omega)]

/-- Where a reader stands still, what it holds stands for all of it. -/
theorem run_still (h c : List UInt8) (k : Bool) (ho : (stepF h k).on = false) : (stepF h k).evs = [] ∧ runF (h ++ c) k = runF ((stepF h k).h ++ c) (stepF h k).k := by
  cases k
  · unfold stepF at ho ⊢
    rcases hi : idx (h.take 1028) fEnd with _ | i
    · rw [hi] at ho
      simp only at ho ⊢
      by_cases hl : h.length < 1028
      · rw [if_pos hl]; exact ⟨rfl, rfl⟩
      · rw [if_neg hl] at ho; cases ho
    · rw [hi] at ho
      simp only at ho ⊢
      rcases hh : headL (h.take i) with _ | n
      · rw [hh] at ho; cases ho
      · rw [hh] at ho
        simp only at ho ⊢
        by_cases h1 : 262144 < n
        · rw [if_pos h1] at ho; cases ho
        · rw [if_neg h1] at ho ⊢
          by_cases h2 : h.length < i + 4 + n
          · rw [if_pos h2]; exact ⟨rfl, rfl⟩
          · rw [if_neg h2] at ho; cases ho
  · have hst : stepF h true = match idx h fMark with | none => ⟨[], false, h.drop (h.length - 14), true⟩ | some i => ⟨[], true, h.drop i, false⟩ := rfl
    rcases hi : idx h fMark with _ | i
    · rw [hst, hi]
      simp only
      refine ⟨by first | trivial | rfl, ?_⟩
      have hn := idx_none fMark_ne hi
      have h15 : fMark.length = 15 := rfl
      obtain ⟨m, hm⟩ : ∃ m, h.length - 14 = m := ⟨_, rfl⟩
      have hm1 : m ≤ h.length := by omega
      have hm2 : h.length ≤ m + 14 := by omega
      have hno : ∀ j, j < m → ¬ occ (h ++ c) fMark j := fun j hj hoc => hn j ((occ_app (by omega)).1 hoc)
      rw [hm, ← List.drop_append_of_le_length hm1]
      have e1 : ∀ s : List UInt8, stepF s true = match idx s fMark with | none => ⟨[], false, s.drop (s.length - 14), true⟩ | some i => ⟨[], true, s.drop i, false⟩ := fun _ => rfl
      rcases hj : idx (h ++ c) fMark with _ | j
      · have hd : idx ((h ++ c).drop m) fMark = none := (idx_drop_none fMark_ne hno).2 hj
        have q1 : stepF (h ++ c) true = ⟨[], false, (h ++ c).drop ((h ++ c).length - 14), true⟩ := by rw [e1, hj]
        have q2 : stepF ((h ++ c).drop m) true = ⟨[], false, ((h ++ c).drop m).drop (((h ++ c).drop m).length - 14), true⟩ := by rw [e1, hd]
        rw [runF_off (by rw [q1]), runF_off (by rw [q2]), q1, q2]
        simp only [List.length_drop, List.drop_drop, List.length_append]
        congr 2
        omega
      · obtain ⟨g1, g2⟩ := idx_some fMark_ne hj
        have hjm : m ≤ j := by
          rcases Nat.lt_or_ge j m with h3 | h3
          · exact absurd g1 (hno j h3)
          · exact h3
        have hd : idx ((h ++ c).drop m) fMark = some (j - m) := (idx_drop fMark_ne hno).2 (by rw [hj]; congr 1; omega)
        have q1 : stepF (h ++ c) true = ⟨[], true, (h ++ c).drop j, false⟩ := by rw [e1, hj]
        have q2 : stepF ((h ++ c).drop m) true = ⟨[], true, ((h ++ c).drop m).drop (j - m), false⟩ := by rw [e1, hd]
        rw [runF_on (h := h ++ c) (k := true) (by rw [q1]), runF_on (h := (h ++ c).drop m) (k := true) (by rw [q2]), q1, q2]
        simp only [List.drop_drop]
        rw [show m + (j - m) = j by omega]
    · rw [hst, hi] at ho; cases ho

/-- THE STAGE's LAW: what is told hangs on the bytes alone. -/
theorem run_app (c : List UInt8) : ∀ (n : Nat) (h : List UInt8) (k : Bool), meas h k < n →
    runF (h ++ c) k = ⟨(runF h k).evs ++ (runF ((runF h k).h ++ c) (runF h k).k).evs, (runF ((runF h k).h ++ c) (runF h k).k).h, (runF ((runF h k).h ++ c) (runF h k).k).k⟩
  | 0, _, _, hn => absurd hn (Nat.not_lt_zero _)
  | n + 1, h, k, hn => by
    rcases ho : (stepF h k).on with _ | _
    · obtain ⟨h1, h2⟩ := run_still h c k ho
      rw [h2, runF_off ho, h1]
      rfl
    · have ha := step_app h c k ho
      have hm := step_meas h k ho
      have ih := run_app c n (stepF h k).h (stepF h k).k (by omega)
      rw [runF_on (h := h ++ c) (by rw [ha]), ha]
      simp only
      rw [runF_on ho, ih]
      simp
theorem run_cut (h c : List UInt8) (k : Bool) :
    runF (h ++ c) k = ⟨(runF h k).evs ++ (runF ((runF h k).h ++ c) (runF h k).k).evs, (runF ((runF h k).h ++ c) (runF h k).k).h, (runF ((runF h k).h ++ c) (runF h k).k).k⟩ := run_app c _ h k (Nat.lt_succ_self _)
end Go.Proofs.YtccfdecpiekeoaaGreatDoor
