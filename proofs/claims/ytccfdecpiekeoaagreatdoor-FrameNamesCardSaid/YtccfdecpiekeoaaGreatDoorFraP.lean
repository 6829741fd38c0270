/-
  The plain law of frames, first part: where a text stands in another one; the lines of a head; a head's length. No program.
-/
import Derived.Lib.Hide
import Derived.Lib.IndexLaws
import Derived.Lib.IndexMore
import Derived.Lib.Split
import Derived.Lib.CountLaws
import Derived.Lib.SlTrimSet
namespace Go.Proofs.YtccfdecpiekeoaaGreatDoor

/-- A text stands at a place of another one. -/
def occ (s p : List UInt8) (i : Nat) : Prop := (s.drop i).take p.length = p

theorem occ_iff (s p : List UInt8) (i : Nat) : Lib.occAt s p i = true ↔ occ s p i := by
  unfold Lib.occAt occ
  rw [List.isPrefixOf_iff_prefix, List.prefix_iff_eq_take]
  exact ⟨fun h => h.symm, fun h => h.symm⟩
theorem occ_room {s p : List UInt8} (hp : p ≠ []) {i : Nat} (h : occ s p i) : i + p.length ≤ s.length := by
  have := congrArg List.length h
  rw [List.length_take, List.length_drop] at this
  have h0 : 0 < p.length := List.length_pos_iff.2 hp
  omega
theorem occ_app {s p c : List UInt8} {i : Nat} (h : i + p.length ≤ s.length) : occ (s ++ c) p i ↔ occ s p i := by
  unfold occ
  rw [List.drop_append_of_le_length (by omega), List.take_append_of_le_length (by rw [List.length_drop]; omega)]
theorem occ_drop {s p : List UInt8} {k i : Nat} : occ (s.drop k) p i ↔ occ s p (k + i) := by
  unfold occ
  rw [List.drop_drop]
theorem occ_take {s p : List UInt8} {m i : Nat} (h : i + p.length ≤ m) : occ (s.take m) p i ↔ occ s p i := by
  unfold occ
  rw [List.drop_take, List.take_take, Nat.min_eq_left (by omega)]

/-- The first place at which a text stands. -/
def idx (s p : List UInt8) : Option Nat := if Lib.index s p = -1 then none else some (Lib.index s p).toNat

theorem idx_some {s p : List UInt8} {i : Nat} (hp : p ≠ []) (h : idx s p = some i) : occ s p i ∧ ∀ j, j < i → ¬ occ s p j := by
  unfold idx at h
  split at h
  · cases h
  · rename_i hne
    injection h with h
    rcases Lib.index_spec s p with ⟨h1, _⟩ | ⟨k, h1, h2, h3, h4⟩
    · exact absurd h1 hne
    · have : k = i := by omega
      subst this
      refine ⟨(occ_iff _ _ _).1 h3, fun j hj ho => ?_⟩
      have := h4 j hj
      rw [(occ_iff _ _ _).2 ho] at this
      cases this
theorem idx_none {s p : List UInt8} (hp : p ≠ []) (h : idx s p = none) : ∀ j, ¬ occ s p j := by
  unfold idx at h
  split at h
  · rename_i h1
    rcases Lib.index_spec s p with ⟨_, h2⟩ | ⟨k, h2, _⟩
    · intro j ho
      have hr := occ_room hp ho
      have := h2 j (by omega)
      rw [(occ_iff _ _ _).2 ho] at this
      cases this
    · omega
  · cases h
theorem idx_eq {s p : List UInt8} {i : Nat} (hp : p ≠ []) (h : occ s p i) (hn : ∀ j, j < i → ¬ occ s p j) : idx s p = some i := by
  rcases hh : idx s p with _ | k
  · exact absurd h (idx_none hp hh i)
  · obtain ⟨h1, h2⟩ := idx_some hp hh
    rcases Nat.lt_trichotomy k i with h3 | h3 | h3
    · exact absurd h1 (hn k h3)
    · rw [h3]
    · exact absurd h (h2 i h3)
theorem idx_eq_none {s p : List UInt8} (hp : p ≠ []) (hn : ∀ j, ¬ occ s p j) : idx s p = none := by
  rcases hh : idx s p with _ | k
  · rfl
  · exact absurd (idx_some hp hh).1 (hn k)
theorem idx_lt {s p : List UInt8} {i : Nat} (hp : p ≠ []) (h : idx s p = some i) : i + p.length ≤ s.length := occ_room hp (idx_some hp h).1
theorem idx_int {s p : List UInt8} {i : Nat} (h : idx s p = some i) : Lib.index s p = i := by
  unfold idx at h
  have := Lib.index_ge s p
  split at h
  · cases h
  · injection h with h; omega
theorem idx_int_none {s p : List UInt8} (h : idx s p = none) : Lib.index s p = -1 := by
  unfold idx at h
  split at h
  · assumption
  · cases h
/-- What stands in a text stands there if more follows. -/
theorem idx_app {s p c : List UInt8} {i : Nat} (hp : p ≠ []) (h : idx s p = some i) : idx (s ++ c) p = some i := by
  obtain ⟨h1, h2⟩ := idx_some hp h
  have hl := occ_room hp h1
  refine idx_eq hp ((occ_app hl).2 h1) (fun j hj ho => h2 j hj ?_)
  exact (occ_app (by omega)).1 ho
theorem idx_take {s p : List UInt8} {i m : Nat} (hp : p ≠ []) : idx (s.take m) p = some i ↔ idx s p = some i ∧ i + p.length ≤ m := by
  constructor
  · intro h
    obtain ⟨h1, h2⟩ := idx_some hp h
    have hl := occ_room hp h1
    rw [List.length_take] at hl
    refine ⟨idx_eq hp ((occ_take (by omega)).1 h1) (fun j hj ho => h2 j hj ((occ_take (by omega)).2 ho)), by omega⟩
  · rintro ⟨h, hm⟩
    obtain ⟨h1, h2⟩ := idx_some hp h
    exact idx_eq hp ((occ_take hm).2 h1) (fun j hj ho => h2 j hj ((occ_take (by omega)).1 ho))
/-- Bytes ahead, at which nothing stands, put the place on. -/
theorem idx_drop {s p : List UInt8} {k i : Nat} (hp : p ≠ []) (hn : ∀ j, j < k → ¬ occ s p j) : idx (s.drop k) p = some i ↔ idx s p = some (k + i) := by
  constructor
  · intro h
    obtain ⟨h1, h2⟩ := idx_some hp h
    refine idx_eq hp (occ_drop.1 h1) (fun j hj ho => ?_)
    rcases Nat.lt_or_ge j k with h3 | h3
    · exact hn j h3 ho
    · exact h2 (j - k) (by omega) (occ_drop.2 (by rw [show k + (j - k) = j by omega]; exact ho))
  · intro h
    obtain ⟨h1, h2⟩ := idx_some hp h
    exact idx_eq hp (occ_drop.2 h1) (fun j hj ho => h2 (k + j) (by omega) (occ_drop.1 ho))
theorem idx_drop_none {s p : List UInt8} {k : Nat} (hp : p ≠ []) (hn : ∀ j, j < k → ¬ occ s p j) : idx (s.drop k) p = none ↔ idx s p = none := by
  constructor
  · intro h
    have h2 := idx_none hp h
    refine idx_eq_none hp (fun j ho => ?_)
    rcases Nat.lt_or_ge j k with h3 | h3
    · exact hn j h3 ho
    · exact h2 (j - k) (occ_drop.2 (by rw [show k + (j - k) = j by omega]; exact ho))
  · intro h
    have h2 := idx_none hp h
    exact idx_eq_none hp (fun j ho => h2 (k + j) (occ_drop.1 ho))

def fMark : List UInt8 := [67, 111, 110, 116, 101, 110, 116, 45, 76, 101, 110, 103, 116, 104, 58]
def fEnd : List UInt8 := [13, 10, 13, 10]
def fCr : List UInt8 := [13, 10]
def fColon : List UInt8 := [58]
theorem fMark_ne : fMark ≠ [] := by decide
theorem fEnd_ne : fEnd ≠ [] := by decide
theorem fCr_ne : fCr ≠ [] := by decide
theorem fColon_ne : fColon ≠ [] := by decide

/-- The lines of a head. -/
def linesK : Nat → List UInt8 → List (List UInt8)
  | 0, s => [s]
  | n + 1, s => match idx s fCr with
    | none => [s]
    | some i => s.take i :: linesK n (s.drop (i + 2))
def linesL (s : List UInt8) : List (List UInt8) := linesK s.length s

theorem linesK_fuel : ∀ (n : Nat) (s : List UInt8), s.length ≤ n → linesK n s = linesL s
  | 0, s, h => by
    have : s = [] := List.length_eq_zero_iff.1 (by omega)
    subst this; rfl
  | n + 1, s, h => by
    have key : ∀ (m : Nat) (s : List UInt8), s.length ≤ m → ∀ n, s.length ≤ n → linesK m s = linesK n s := by
      intro m
      induction m with
      | zero =>
        intro s h n _
        have : s = [] := List.length_eq_zero_iff.1 (by omega)
        subst this
        cases n with
        | zero => rfl
        | succ n => rfl
      | succ m ih =>
        intro s h n hn
        cases n with
        | zero =>
          have : s = [] := List.length_eq_zero_iff.1 (by omega)
          subst this; rfl
        | succ n =>
          unfold linesK
          rcases hi : idx s fCr with _ | i
          · rfl
          · have hr := idx_lt fCr_ne hi
            have h2 : fCr.length = 2 := rfl
            simp only
            rw [ih _ (by rw [List.length_drop]; omega) n (by rw [List.length_drop]; omega)]
    exact key _ s h _ (Nat.le_refl _)

theorem linesL_none {s : List UInt8} (h : idx s fCr = none) : linesL s = [s] := by
  rw [← linesK_fuel (s.length + 1) s (by omega)]
  unfold linesK
  rw [h]
theorem linesL_some {s : List UInt8} {i : Nat} (h : idx s fCr = some i) : linesL s = s.take i :: linesL (s.drop (i + 2)) := by
  have hr := idx_lt fCr_ne h
  have h2 : fCr.length = 2 := rfl
  rw [← linesK_fuel (s.length + 1) s (by omega)]
  unfold linesK
  rw [h]
  simp only
  rw [linesK_fuel _ _ (by rw [List.length_drop]; omega)]

/-- strings.Split at CR LF. -/
theorem split_lines : ∀ (n : Nat) (s : List UInt8), s.length ≤ n → Lib.split s fCr = linesL s
  | 0, s, h => by
    have : s = [] := List.length_eq_zero_iff.1 (by omega)
    subst this; decide
  | n + 1, s, h => by
    unfold Lib.split
    rcases hi : idx s fCr with _ | i
    · rw [linesL_none hi, Lib.count_miss (idx_int_none hi)]; rfl
    · have hr := idx_lt fCr_ne hi
      have h2 : fCr.length = 2 := rfl
      have hx := idx_int hi
      rw [linesL_some hi, Lib.count_hit fCr_ne hx, Nat.add_comm 1]
      unfold Lib.splitK
      have hne : (Lib.index s fCr == -1) = false := by rw [hx]; rw [beq_eq_false_iff_ne]; omega
      rw [hne, hx]
      simp only [Bool.false_eq_true, if_false, Int.toNat_natCast, Nat.add_zero, h2]
      have := split_lines n (s.drop (i + 2)) (by rw [List.length_drop]; omega)
      unfold Lib.split at this
      rw [this]

/-- The reference's way: CR LF behind the head. -/
theorem idx_cr_end {s : List UInt8} (h : idx s fCr = none) : idx (s ++ fCr) fCr = some s.length := by
  have hn := idx_none fCr_ne h
  refine idx_eq fCr_ne (by unfold occ; simp) (fun j hj ho => ?_)
  have h2 : fCr.length = 2 := rfl
  rcases Nat.lt_or_ge s.length (j + 2) with h3 | h3
  · have hj1 : j + 1 = s.length := by omega
    unfold occ at ho
    have : ((List.drop j (s ++ fCr)).take fCr.length)[1]? = fCr[1]? := by rw [ho]
    rw [List.getElem?_take, if_pos (by decide), List.getElem?_drop, List.getElem?_append_right (by omega), show j + 1 - s.length = 0 by omega] at this
    exact absurd this (by decide)
  · exact hn j ((occ_app (by omega)).1 ho)

/-- A byte of a name; a letter made small. -/
def isNm (c : UInt8) : Bool := (decide (97 ≤ c.toNat) && decide (c.toNat ≤ 122)) || (decide (65 ≤ c.toNat) && decide (c.toNat ≤ 90)) || (decide (48 ≤ c.toNat) && decide (c.toNat ≤ 57)) || c == 45
def lowB (c : UInt8) : UInt8 := if 65 ≤ c.toNat ∧ c.toNat ≤ 90 then c + 32 else c
def clName : List UInt8 := [99, 111, 110, 116, 101, 110, 116, 45, 108, 101, 110, 103, 116, 104]
def isDg (c : UInt8) : Bool := decide (48 ≤ c.toNat) && decide (c.toNat ≤ 57)
def isBl (c : UInt8) : Bool := c == 32 || c == 9
def trimB (v : List UInt8) : List UInt8 := ((v.dropWhile isBl).reverse.dropWhile isBl).reverse
def decD (n : Nat) : List UInt8 → Nat
  | [] => n
  | c :: t => decD (n * 10 + (c.toNat - 48)) t
/-- A number's worth, at most a bound above what may be. -/
def numL (v : List UInt8) : Option Nat :=
  if v = [] ∨ v.all isDg = false ∨ (1 < v.length ∧ v.head? = some 48) then none else some (min (decD 0 v) 262145)

/-- A line: none: it is none; some none: another name's; some (some n): the length. -/
def lineL (l : List UInt8) : Option (Option Nat) :=
  match idx l fColon with
  | none => none
  | some i =>
    if l.take i = [] ∨ (l.take i).all isNm = false then none
    else if (l.take i).map lowB = clName then (match numL (trimB (l.drop (i + 1))) with | none => none | some n => some (some n))
    else some none

def goH : List (List UInt8) → Option Nat → Option Nat
  | [], n => n
  | l :: r, n => match lineL l with
    | none => none
    | some none => goH r n
    | some (some k) => match n with
      | some _ => none
      | none => goH r (some k)
/-- A head's length. -/
def headL (s : List UInt8) : Option Nat := goH (linesL s) none

theorem lineL_none {l : List UInt8} (h : idx l fColon = none) : lineL l = none := by unfold lineL; rw [h]
theorem lineL_bad {l : List UInt8} {i : Nat} (h : idx l fColon = some i) (hb : l.take i = [] ∨ (l.take i).all isNm = false) : lineL l = none := by
  unfold lineL; rw [h]; simp only; rw [if_pos hb]
theorem lineL_other {l : List UInt8} {i : Nat} (h : idx l fColon = some i) (hb : ¬ (l.take i = [] ∨ (l.take i).all isNm = false)) (hn : ¬ (l.take i).map lowB = clName) : lineL l = some none := by
  unfold lineL; rw [h]; simp only; rw [if_neg hb, if_neg hn]
theorem lineL_len {l : List UInt8} {i : Nat} (h : idx l fColon = some i) (hb : ¬ (l.take i = [] ∨ (l.take i).all isNm = false)) (hn : (l.take i).map lowB = clName) :
    lineL l = (match numL (trimB (l.drop (i + 1))) with | none => none | some n => some (some n)) := by
  unfold lineL; rw [h]; simp only; rw [if_neg hb, if_pos hn]
theorem goH_none {l : List UInt8} (r : List (List UInt8)) (cur : Option Nat) (h : lineL l = none) : goH (l :: r) cur = none := by
  conv => lhs; unfold goH
  rw [h]
theorem goH_other {l : List UInt8} (r : List (List UInt8)) (cur : Option Nat) (h : lineL l = some none) : goH (l :: r) cur = goH r cur := by
  conv => lhs; unfold goH
  rw [h]
theorem goH_len {l : List UInt8} (r : List (List UInt8)) {k : Nat} (h : lineL l = some (some k)) : goH (l :: r) none = goH r (some k) := by
  conv => lhs; unfold goH
  rw [h]
theorem goH_twice {l : List UInt8} (r : List (List UInt8)) {k : Nat} (h : lineL l = none ∨ ∃ n, lineL l = some (some n)) : goH (l :: r) (some k) = none := by
  conv => lhs; unfold goH
  rcases h with h | ⟨n, h⟩ <;> rw [h]

/-- What is left of a head, CR LF behind each line, and its lines. -/
def Left (H : List UInt8) (r : List (List UInt8)) : Prop := (H = [] ∧ r = []) ∨ ∃ s, H = s ++ fCr ∧ r = linesL s
theorem left_nil {r : List (List UInt8)} (h : Left [] r) : r = [] := by
  rcases h with ⟨_, h⟩ | ⟨s, h, _⟩
  · exact h
  · have := congrArg List.length h
    rw [List.length_append] at this
    have h2 : fCr.length = 2 := rfl
    simp only [List.length_nil] at this
    omega
theorem left_step {H : List UInt8} {r : List (List UInt8)} (h : Left H r) (hne : H ≠ []) :
    ∃ (i : Nat) (r' : List (List UInt8)), r = H.take i :: r' ∧ Lib.index H fCr = i ∧ i + 2 ≤ H.length ∧ Left (H.drop (i + 2)) r' := by
  rcases h with ⟨h, _⟩ | ⟨s, rfl, rfl⟩
  · exact absurd h hne
  · have h2 : fCr.length = 2 := rfl
    rcases hi : idx s fCr with _ | i
    · refine ⟨s.length, [], ?_, idx_int (idx_cr_end hi), by rw [List.length_append]; omega, Or.inl ⟨?_, rfl⟩⟩
      · rw [linesL_none hi, List.take_left]
      · exact List.drop_of_length_le (by rw [List.length_append]; omega)
    · have hr := idx_lt fCr_ne hi
      refine ⟨i, linesL (s.drop (i + 2)), ?_, idx_int (idx_app fCr_ne hi), by rw [List.length_append]; omega, Or.inr ⟨s.drop (i + 2), ?_, rfl⟩⟩
      · rw [linesL_some hi, List.take_append_of_le_length (by omega)]
      · rw [List.drop_append_of_le_length (by omega)]
end Go.Proofs.YtccfdecpiekeoaaGreatDoor
