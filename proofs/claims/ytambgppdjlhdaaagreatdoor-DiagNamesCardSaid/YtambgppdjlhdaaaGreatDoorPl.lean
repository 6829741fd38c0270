/-
  Plain facts on lists and bytes: how long the run of bytes at the head of a list is that meet a test. No program.
-/
import Derived.Lib.Hide
namespace Go.Proofs.YtambgppdjlhdaaaGreatDoor

/-- How many elements at the head meet p. -/
def twl {α : Type} (p : α → Bool) (l : List α) : Nat := (l.takeWhile p).length

theorem twl_le {α : Type} (p : α → Bool) (l : List α) : twl p l ≤ l.length := by
  induction l with
  | nil => simp [twl]
  | cons a l ih =>
    unfold twl at *
    by_cases h : p a = true
    · simp [h]; omega
    · simp [h]

theorem twl_step {α : Type} (p : α → Bool) : ∀ (l : List α) (k : Nat) (c : α), k ≤ twl p l → l[k]? = some c → p c = true → k + 1 ≤ twl p l
  | [], k, c, _, h, _ => by simp at h
  | a :: l, 0, c, _, h, hp => by
    simp at h; subst h
    simp [twl, hp]
  | a :: l, k + 1, c, hk, h, hp => by
    simp at h
    by_cases ha : p a = true
    · have h1 : twl p (a :: l) = twl p l + 1 := by simp [twl, List.takeWhile_cons, ha]
      rw [h1] at hk ⊢
      have := twl_step p l k c (by omega) h hp
      omega
    · have h1 : twl p (a :: l) = 0 := by simp [twl, List.takeWhile_cons, ha]
      omega

theorem twl_stop {α : Type} (p : α → Bool) : ∀ (l : List α) (k : Nat) (c : α), k ≤ twl p l → l[k]? = some c → p c = false → twl p l = k
  | [], k, c, _, h, _ => by simp at h
  | a :: l, 0, c, _, h, hp => by
    simp at h; subst h
    simp [twl, List.takeWhile_cons, hp]
  | a :: l, k + 1, c, hk, h, hp => by
    simp at h
    by_cases ha : p a = true
    · have h1 : twl p (a :: l) = twl p l + 1 := by simp [twl, List.takeWhile_cons, ha]
      rw [h1] at hk ⊢
      have := twl_stop p l k c (by omega) h hp
      omega
    · have h1 : twl p (a :: l) = 0 := by simp [twl, List.takeWhile_cons, ha]
      omega

theorem twl_end {α : Type} (p : α → Bool) (l : List α) (k : Nat) (hk : k ≤ twl p l) (h : l.length ≤ k) : twl p l = k := by
  have := twl_le p l
  omega

/-- The byte at a place of a string, and of its list. -/
theorem bytes_at (s : ByteArray) (i : Nat) (h : i < s.size) : s.data.toList[i]? = some s[i] := by
  have h' : i < s.data.size := h
  rw [Array.getElem?_toList, Array.getElem?_eq_getElem h']
  rfl

theorem bytes_len (s : ByteArray) : s.data.toList.length = s.size := by rw [Array.length_toList]; rfl

def isDig (c : UInt8) : Bool := decide (48 ≤ c.toNat) && decide (c.toNat ≤ 57)
theorem isDig_t {c : UInt8} (h : isDig c = true) : 48 ≤ c.toNat ∧ c.toNat ≤ 57 := by simpa [isDig] using h
theorem isDig_f {c : UInt8} (h : isDig c = false) : ¬ (48 ≤ c.toNat ∧ c.toNat ≤ 57) := by
  intro hh; rw [isDig] at h; simp [hh] at h

/-- How many digits stand at a place. -/
def runN (l : List UInt8) (i : Nat) : Nat := twl isDig (l.drop i)

theorem runN_le (l : List UInt8) (i : Nat) (h : i ≤ l.length) : i + runN l i ≤ l.length := by
  have := twl_le isDig (l.drop i)
  simp at this
  unfold runN; omega
theorem runN_step (l : List UInt8) (i k : Nat) (c : UInt8) (hk : k ≤ runN l i) (h : l[i + k]? = some c) (hp : isDig c = true) : k + 1 ≤ runN l i :=
  twl_step isDig _ k c hk (by simpa using h) hp
theorem runN_stop (l : List UInt8) (i k : Nat) (c : UInt8) (hk : k ≤ runN l i) (h : l[i + k]? = some c) (hp : isDig c = false) : runN l i = k :=
  twl_stop isDig _ k c hk (by simpa using h) hp
theorem runN_end (l : List UInt8) (i k : Nat) (hk : k ≤ runN l i) (h : l.length ≤ i + k) : runN l i = k :=
  twl_end isDig _ k hk (by simp; omega)
theorem runN_dig (l : List UInt8) (i : Nat) : ∀ j, j < runN l i → ∃ c, l[i + j]? = some c ∧ isDig c = true := by
  intro j hj
  unfold runN twl at hj
  have h1 : ((l.drop i).takeWhile isDig)[j]? = some ((l.drop i).takeWhile isDig)[j] := List.getElem?_eq_getElem hj
  refine ⟨((l.drop i).takeWhile isDig)[j], ?_, ?_⟩
  · have h2 : (l.drop i)[j]? = ((l.drop i).takeWhile isDig ++ (l.drop i).dropWhile isDig)[j]? := by rw [List.takeWhile_append_dropWhile]
    rw [← List.getElem?_drop, h2, List.getElem?_append_left hj, h1]
  · have hm : ((l.drop i).takeWhile isDig)[j] ∈ (l.drop i).takeWhile isDig := List.getElem_mem hj
    have := List.all_takeWhile (p := isDig) (l := l.drop i)
    rw [List.all_eq_true] at this
    exact this _ hm
end Go.Proofs.YtambgppdjlhdaaaGreatDoor
