/-
  Frames: the library's words (cut, trim, fold, Atoi) at a line of a head, and the line's worth. No program.
-/
import Derived.Test.YtccfdecpiekeoaaGreatDoorFraP
import Derived.Lib.Fold
import Derived.Lib.Atoi
namespace Go.Proofs.YtccfdecpiekeoaaGreatDoor

theorem cut_none {l : List UInt8} (h : idx l fColon = none) : Lib.cut l fColon = (l, [], false) := by
  unfold Lib.cut; rw [idx_int_none h]; rfl
theorem cut_some {l : List UInt8} {i : Nat} (h : idx l fColon = some i) : Lib.cut l fColon = (l.take i, l.drop (i + 1), true) := by
  unfold Lib.cut; rw [idx_int h, if_pos (by omega)]; rfl

/-- The bytes of a name; blanks; digits: the program's sets. -/
def nmSet : List UInt8 := [97, 98, 99, 100, 101, 102, 103, 104, 105, 106, 107, 108, 109, 110, 111, 112, 113, 114, 115, 116, 117, 118, 119, 120, 121, 122, 65, 66, 67, 68, 69, 70, 71, 72, 73, 74, 75, 76, 77, 78, 79, 80, 81, 82, 83, 84, 85, 86, 87, 88, 89, 90, 48, 49, 50, 51, 52, 53, 54, 55, 56, 57, 45]
def blSet : List UInt8 := [32, 9]
def dgSet : List UInt8 := [48, 49, 50, 51, 52, 53, 54, 55, 56, 57]
theorem byte_all (p q : UInt8 → Bool) (h : ∀ n : Fin 256, p (UInt8.ofNat n.val) = q (UInt8.ofNat n.val)) (c : UInt8) : p c = q c := by
  have := h ⟨c.toNat, UInt8.toNat_lt c⟩
  simpa using this
theorem nmSet_is (c : UInt8) : nmSet.contains c = isNm c := byte_all _ _ (by decide +kernel) c
theorem blSet_is (c : UInt8) : blSet.contains c = isBl c := byte_all _ _ (by decide +kernel) c
theorem dgSet_is (c : UInt8) : dgSet.contains c = isDg c := byte_all _ _ (by decide +kernel) c

theorem dropWhile_nil_iff {α : Type} (p : α → Bool) : ∀ (l : List α), l.dropWhile p = [] ↔ l.all p = true
  | [] => by simp
  | a :: l => by
    rw [List.dropWhile_cons, List.all_cons]
    by_cases h : p a = true
    · rw [if_pos h, dropWhile_nil_iff p l]; simp [h]
    · rw [if_neg h]; simp [h]
theorem trimS_nil_iff (l cs : List UInt8) (p : UInt8 → Bool) (hp : ∀ c, cs.contains c = p c) : Lib.trimS l cs = [] ↔ l.all p = true := by
  have hf : (fun x => cs.contains x) = p := funext hp
  unfold Lib.trimS Lib.trimLeftS Lib.trimRightS
  rw [dropWhile_nil_iff]
  show (List.reverse (List.dropWhile (fun x => cs.contains x) l.reverse)).all (fun x => cs.contains x) = true ↔ _
  rw [hf]
  constructor
  · intro h
    rw [List.all_reverse] at h
    rw [← List.all_reverse, ← List.takeWhile_append_dropWhile (p := p) (l := l.reverse), List.all_append, h, List.all_takeWhile]
    rfl
  · intro h
    rw [List.all_reverse, (dropWhile_nil_iff p l.reverse).2 (by rw [List.all_reverse]; exact h)]
    rfl

/-- From the right, then from the left, or the other way about. -/
def rtrim {α : Type} (p : α → Bool) (l : List α) : List α := (l.reverse.dropWhile p).reverse
theorem rtrim_nil_iff {α : Type} (p : α → Bool) (l : List α) : rtrim p l = [] ↔ l.all p = true := by
  unfold rtrim
  rw [List.reverse_eq_nil_iff, dropWhile_nil_iff, List.all_reverse]
theorem rtrim_cons {α : Type} (p : α → Bool) (a : α) (l : List α) : rtrim p (a :: l) = if rtrim p l = [] then (if p a then [] else [a]) else a :: rtrim p l := by
  by_cases h : rtrim p l = []
  · rw [if_pos h]
    have hall := (rtrim_nil_iff p l).1 h
    unfold rtrim
    rw [List.reverse_cons, List.dropWhile_append, (dropWhile_nil_iff p l.reverse).2 (by rw [List.all_reverse]; exact hall)]
    by_cases hp : p a = true
    · simp [hp]
    · simp [hp]
  · rw [if_neg h]
    have hne : (l.reverse.dropWhile p).isEmpty = false := by
      rw [List.isEmpty_eq_false_iff]
      intro e
      exact h (by unfold rtrim; rw [e]; rfl)
    unfold rtrim
    rw [List.reverse_cons, List.dropWhile_append, hne]
    simp
theorem trim_comm {α : Type} (p : α → Bool) : ∀ (l : List α), (rtrim p l).dropWhile p = rtrim p (l.dropWhile p)
  | [] => rfl
  | a :: l => by
    by_cases hp : p a = true
    · have e : (a :: l).dropWhile p = l.dropWhile p := by rw [List.dropWhile_cons, if_pos hp]
      rw [e, ← trim_comm p l, rtrim_cons]
      by_cases h : rtrim p l = []
      · rw [if_pos h, if_pos hp, h]
      · rw [if_neg h, List.dropWhile_cons, if_pos hp]
    · have e : (a :: l).dropWhile p = a :: l := by rw [List.dropWhile_cons, if_neg hp]
      rw [e, rtrim_cons]
      by_cases h : rtrim p l = []
      · rw [if_pos h, if_neg hp, List.dropWhile_cons, if_neg hp]
      · rw [if_neg h, List.dropWhile_cons, if_neg hp]
theorem trimS_bl (l : List UInt8) : Lib.trimS l blSet = trimB l := by
  have hf : (fun x => blSet.contains x) = isBl := funext blSet_is
  unfold Lib.trimS Lib.trimLeftS Lib.trimRightS trimB
  show List.dropWhile (fun x => blSet.contains x) (List.reverse (List.dropWhile (fun x => blSet.contains x) l.reverse)) = _
  rw [hf]
  exact trim_comm isBl l

/-- The name, letters of either size. -/
def clNameP : List UInt8 := [99, 111, 110, 116, 101, 110, 116, 45, 108, 101, 110, 103, 116, 104]
theorem lowB_toNat (c : UInt8) : (lowB c).toNat = if 65 ≤ c.toNat ∧ c.toNat ≤ 90 then c.toNat + 32 else c.toNat := by
  unfold lowB
  split
  · rw [UInt8.toNat_add]
    have : (32 : UInt8).toNat = 32 := rfl
    omega
  · rfl
theorem fold_low : ∀ (s t : List UInt8), (∀ c ∈ t, lowB c = c) → (Lib.equalFold s t = true ↔ s.map lowB = t)
  | [], [], _ => by simp [Lib.equalFold]
  | [], y :: t, _ => by simp [Lib.equalFold]
  | x :: s, [], _ => by simp [Lib.equalFold]
  | x :: s, y :: t, h => by
    have hy := h y (List.mem_cons_self ..)
    have hy2 := congrArg UInt8.toNat hy
    rw [lowB_toNat] at hy2
    have ih := fold_low s t (fun c hc => h c (List.mem_cons_of_mem _ hc))
    rw [List.map_cons, List.cons.injEq, ← ih]
    have hf : Lib.equalFold (x :: s) (y :: t) = (Lib.foldEq x y && Lib.equalFold s t) := rfl
    rw [hf, Bool.and_eq_true]
    have hx : Lib.foldEq x y = true ↔ lowB x = y := by
      unfold Lib.foldEq
      rw [decide_eq_true_eq, ← UInt8.toNat_inj, lowB_toNat]
      split at hy2 <;> split <;> omega
    rw [hx]
theorem nm_ascii {c : UInt8} (h : isNm c = true) : c.toNat < 128 := by
  have h45 : (45 : UInt8).toNat = 45 := rfl
  simp only [isNm, Bool.or_eq_true, Bool.and_eq_true, decide_eq_true_eq, beq_iff_eq] at h
  rcases h with ((h | h) | h) | h
  · omega
  · omega
  · omega
  · subst h; omega

theorem decFrom_dg : ∀ (l : List UInt8) (n : Nat), l.all isDg = true → Lib.decFrom n l = some (decD n l)
  | [], _, _ => rfl
  | c :: t, n, h => by
    rw [List.all_cons, Bool.and_eq_true] at h
    have hc := h.1
    simp only [isDg, Bool.and_eq_true, decide_eq_true_eq] at hc
    have e : Lib.decFrom n (c :: t) = match Lib.digitVal c with | some d => Lib.decFrom (n * 10 + d) t | none => none := rfl
    have e2 : Lib.digitVal c = some (c.toNat - 48) := by unfold Lib.digitVal; rw [if_pos hc]
    rw [e, e2]
    exact decFrom_dg t _ h.2
theorem atoi_dg (l : List UInt8) (hn : l ≠ []) (h : l.all isDg = true) : Lib.atoi l = some (decD 0 l : Nat) := by
  cases l with
  | nil => exact absurd rfl hn
  | cons c t =>
    have hc := h
    rw [List.all_cons, Bool.and_eq_true] at hc
    have hd := hc.1
    simp only [isDg, Bool.and_eq_true, decide_eq_true_eq] at hd
    have h45 : (c == 45) = false := by
      rw [beq_eq_false_iff_ne]; intro e; subst e
      have : (45 : UInt8).toNat = 45 := rfl
      omega
    have h43 : (c == 43) = false := by
      rw [beq_eq_false_iff_ne]; intro e; subst e
      have : (43 : UInt8).toNat = 43 := rfl
      omega
    have e : Lib.atoi (c :: t) = if c == 45 then (Lib.decNat t).map fun (m : Nat) => -(m : Int) else if c == 43 then (Lib.decNat t).map fun (m : Nat) => (m : Int) else (Lib.decNat (c :: t)).map fun (m : Nat) => (m : Int) := rfl
    have e2 : Lib.decNat (c :: t) = Lib.decFrom 0 (c :: t) := rfl
    rw [e, h45, h43, e2, decFrom_dg _ _ h]; rfl

theorem decD_cons (n : Nat) (c : UInt8) (t : List UInt8) : decD n (c :: t) = decD (n * 10 + (c.toNat - 48)) t := by
  conv => lhs; unfold decD
theorem decD_nil (n : Nat) : decD n [] = n := by unfold decD; rfl
theorem decD_mono : ∀ (l : List UInt8) (n : Nat), n * 10 ^ l.length ≤ decD n l
  | [], n => by rw [decD_nil, List.length_nil, Nat.pow_zero, Nat.mul_one]; exact Nat.le_refl _
  | c :: t, n => by
    have := decD_mono t (n * 10 + (c.toNat - 48))
    rw [decD_cons, List.length_cons, Nat.pow_succ]
    calc n * (10 ^ t.length * 10) = (n * 10) * 10 ^ t.length := by rw [Nat.mul_comm (10 ^ t.length) 10, Nat.mul_assoc]
      _ ≤ (n * 10 + (c.toNat - 48)) * 10 ^ t.length := Nat.mul_le_mul_right _ (by omega)
      _ ≤ _ := this
theorem decD_lt : ∀ (l : List UInt8) (n : Nat), l.all isDg = true → decD n l < (n + 1) * 10 ^ l.length
  | [], n, _ => by rw [decD_nil, List.length_nil, Nat.pow_zero, Nat.mul_one]; exact Nat.lt_succ_self _
  | c :: t, n, h => by
    rw [List.all_cons, Bool.and_eq_true] at h
    have hd := h.1
    simp only [isDg, Bool.and_eq_true, decide_eq_true_eq] at hd
    have := decD_lt t (n * 10 + (c.toNat - 48)) h.2
    rw [decD_cons, List.length_cons, Nat.pow_succ]
    calc decD (n * 10 + (c.toNat - 48)) t < (n * 10 + (c.toNat - 48) + 1) * 10 ^ t.length := this
      _ ≤ ((n + 1) * 10) * 10 ^ t.length := Nat.mul_le_mul_right _ (by omega)
      _ = (n + 1) * (10 ^ t.length * 10) := by rw [Nat.mul_comm (10 ^ t.length) 10, Nat.mul_assoc]
/-- More than nine digits, the first no nought: above what may be. -/
theorem decD_big (l : List UInt8) (hl : 9 < l.length) (h : l.all isDg = true) (h0 : l.head? ≠ some 48) : 1000000000 ≤ decD 0 l := by
  cases l with
  | nil => simp at hl
  | cons c t =>
    rw [List.all_cons, Bool.and_eq_true] at h
    have hd := h.1
    simp only [isDg, Bool.and_eq_true, decide_eq_true_eq] at hd
    have hc : c.toNat ≠ 48 := by
      intro e
      apply h0
      have : c = 48 := UInt8.toNat_inj.1 (by rw [e]; rfl)
      rw [this]; rfl
    have h1 := decD_mono t (0 * 10 + (c.toNat - 48))
    have h2 : 10 ^ 9 ≤ 10 ^ t.length := Nat.pow_le_pow_right (by omega) (by rw [List.length_cons] at hl; omega)
    have h3 : 1 * 10 ^ t.length ≤ (0 * 10 + (c.toNat - 48)) * 10 ^ t.length := Nat.mul_le_mul_right _ (by omega)
    have h4 : (10 : Nat) ^ 9 = 1000000000 := by decide
    rw [decD_cons]
    omega
end Go.Proofs.YtccfdecpiekeoaaGreatDoor
