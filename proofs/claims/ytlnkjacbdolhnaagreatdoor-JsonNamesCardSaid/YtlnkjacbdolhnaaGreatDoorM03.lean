/-
  Plain laws of the program's decimals: what is in its own form is read as it was; the whole number of a number's own form. No program.
-/
import Derived.Test.YtlnkjacbdolhnaaGreatDoorM00
import Derived.Lib.ItoaNum
import Derived.Test.YtlnkjacbdolhnaaGreatDoorM02
import Derived.Lib.Hide
namespace Go.Proofs.YtlnkjacbdolhnaaGreatDoor

theorem decDigits_dig : ∀ (u : Nat) (c : UInt8), c ∈ Lib.decDigits u → isDig c = true := by
  intro u
  induction u using Nat.strongRecOn with
  | ind u ih =>
    intro c hc
    rw [Lib.decDigits] at hc
    have hd : ∀ v, v < 10 → isDig (UInt8.ofNat (48 + v)) = true := by
      intro v hv
      have h : ∀ x : Fin 10, isDig (UInt8.ofNat (48 + x.val)) = true := by decide
      exact h ⟨v, hv⟩
    split at hc
    · rename_i h
      rw [List.mem_singleton] at hc
      rw [hc]; exact hd u h
    · rename_i h
      rw [List.mem_append, List.mem_singleton] at hc
      rcases hc with hc | hc
      · exact ih (u / 10) (by omega) c hc
      · rw [hc]; exact hd _ (by omega)
theorem decDigits_ne (u : Nat) : ¬ Lib.decDigits u = [] := by
  rw [Lib.decDigits]; split <;> simp
theorem numL_snoc : ∀ (l : List UInt8) (n : Int) (c : UInt8), numL n (l ++ [c]) = numL n l * 10 + c.toNat - 48
  | [], n, c => rfl
  | x :: l, n, c => by simp only [List.cons_append, numL]; exact numL_snoc l _ c
theorem dig_toNat (v : Nat) (h : v < 10) : (UInt8.ofNat (48 + v)).toNat = 48 + v := by
  rw [UInt8.toNat_ofNat']; omega
theorem numL_decDigits (u : Nat) : numL 0 (Lib.decDigits u) = u := by
  induction u using Nat.strongRecOn with
  | ind u ih =>
    rw [Lib.decDigits]
    split
    · rename_i h
      simp only [numL]
      rw [dig_toNat u h]; omega
    · rename_i h
      rw [numL_snoc, ih (u / 10) (by omega), dig_toNat _ (by omega)]; omega
theorem decDigits_len : ∀ (k u : Nat), u < 10 ^ (k + 1) → (Lib.decDigits u).length ≤ k + 1
  | 0, u, h => by rw [Lib.decDigits, dif_pos (by simpa using h)]; simp
  | k + 1, u, h => by
    rw [Lib.decDigits]
    split
    · simp
    · rw [List.length_append, List.length_singleton]
      have := decDigits_len k (u / 10) (by rw [Nat.pow_succ] at h; omega)
      omega
theorem decDigits_head : ∀ (u : Nat), 0 < u → ∃ c t, Lib.decDigits u = c :: t ∧ isZ c = false := by
  intro u
  induction u using Nat.strongRecOn with
  | ind u ih =>
    intro h0
    rw [Lib.decDigits]
    split
    · rename_i h
      refine ⟨_, [], rfl, ?_⟩
      unfold isZ
      rw [dig_toNat u h]; simp; omega
    · rename_i h
      obtain ⟨c, t, h1, h2⟩ := ih (u / 10) (by omega) (by omega)
      exact ⟨c, t ++ [_], by rw [h1]; rfl, h2⟩
theorem numL_zeros (l : List UInt8) : numL 0 (l.dropWhile isZ) = numL 0 l := by
  induction l with
  | nil => rfl
  | cons c l ih =>
    cases hz : isZ c
    · simp [hz]
    · rw [List.dropWhile_cons_of_pos hz, ih]
      have hc : c.toNat = 48 := by simpa [isZ] using hz
      show _ = numL (0 * 10 + c.toNat - 48) l
      rw [hc]; rfl
theorem powL_decDigits (u : Nat) (h : u < 100000000) : powL (Lib.decDigits u) = u := by
  unfold powL
  simp only
  rw [if_pos, numL_zeros, numL_decDigits]
  have h1 := decDigits_len 7 u (by omega)
  have h2 := dropWhile_length_le (p := isZ) (Lib.decDigits u)
  omega

theorem takeWhile_all {p : UInt8 → Bool} {l : List UInt8} (h : ∀ c, c ∈ l → p c = true) : l.takeWhile p = l ∧ l.dropWhile p = [] := by
  induction l with
  | nil => exact ⟨rfl, rfl⟩
  | cons c l ih =>
    have hc := h c (by simp)
    have := ih (fun x hx => h x (by simp [hx]))
    exact ⟨by rw [List.takeWhile_cons_of_pos hc, this.1], by rw [List.dropWhile_cons_of_pos hc, this.2]⟩
theorem takeWhile_app {p : UInt8 → Bool} {l r : List UInt8} (h : ∀ c, c ∈ l → p c = true) (hr : ∀ c t, r = c :: t → p c = false) : (l ++ r).takeWhile p = l ∧ (l ++ r).dropWhile p = r := by
  induction l with
  | nil =>
    rcases r with _ | ⟨c, t⟩
    · exact ⟨rfl, rfl⟩
    · have := hr c t rfl
      simp [this]
  | cons c l ih =>
    have hc := h c (by simp)
    have := ih (fun x hx => h x (by simp [hx]))
    exact ⟨by rw [List.cons_append, List.takeWhile_cons_of_pos hc, this.1], by rw [List.cons_append, List.dropWhile_cons_of_pos hc, this.2]⟩

/-- A worth as get makes it. -/
structure Nrm (x : Wth) : Prop where
  zero : x.digits = [] → x = ⟨false, [], 0⟩
  dig : ∀ c, c ∈ x.digits → isDig c = true
  left : x.digits.dropWhile isZ = x.digits
  right : trimR x.digits = x.digits
  len : x.digits.length ≤ 200
  lo : -9999 ≤ x.exp
  hi : x.exp ≤ 9999

theorem dropWhile_idem (p : UInt8 → Bool) (l : List UInt8) : (l.dropWhile p).dropWhile p = l.dropWhile p := by
  induction l with
  | nil => rfl
  | cons c l ih =>
    cases hp : p c
    · simp [hp]
    · rw [List.dropWhile_cons_of_pos hp, ih]
theorem trimR_idem (l : List UInt8) : trimR (trimR l) = trimR l := by
  unfold trimR
  rw [List.reverse_reverse, dropWhile_idem]
theorem get_nrm (l : List UInt8) : Nrm (decGetL l).1 := by
  have hz : Nrm ⟨false, [], 0⟩ := ⟨fun _ => rfl, fun c hc => absurd hc List.not_mem_nil, rfl, rfl, Nat.zero_le _, by decide, by decide⟩
  have hd := decGetL_dig l
  unfold decGetL at hd ⊢
  split
  · exact hz
  · rename_i r hr
    simp only at hd ⊢
    split
    · exact hz
    · split
      · exact hz
      · rename_i h1 h2 h3
        rw [hr] at hd
        simp only [h2, h3, if_false] at hd
        refine ⟨fun h => absurd h h2, hd, dropWhile_idem _ _, ?_, ?_, ?_, ?_⟩
        · show trimR ((trimR r.d).dropWhile isZ) = _
          rw [← trimR_drop, trimR_idem]
        · show ((trimR r.d).dropWhile isZ).length ≤ 200; omega
        · show -9999 ≤ _ + _; omega
        · show _ + _ ≤ (9999 : Int); omega

theorem first_dig {x : Wth} (h : Nrm x) (hne : ¬ x.digits = []) : ∃ c t, x.digits = c :: t ∧ isZ c = false ∧ isDig c = true := by
  rcases hd : x.digits with _ | ⟨c, t⟩
  · exact absurd hd hne
  · refine ⟨c, t, rfl, ?_, h.dig c (by rw [hd]; simp)⟩
    have := h.left
    rw [hd] at this
    cases hz : isZ c
    · rfl
    · rw [List.dropWhile_cons_of_pos hz] at this
      have h2 := congrArg List.length this
      have h3 := dropWhile_length_le (p := isZ) t
      simp at h2; omega

/-- Own form read again. -/
theorem get_form (x : Wth) (h : Nrm x) : decGetL (formL x) = (x, 0) := by
  by_cases hne : x.digits = []
  · rw [h.zero hne]
    decide +kernel
  · obtain ⟨c, t, hct, hz, hdc⟩ := first_dig h hne
    have hcd := isDig_t hdc
    have hcz : ¬ c.toNat = 48 := by simpa [isZ] using hz
    -- what stands behind the digits
    obtain ⟨tail, htail⟩ : ∃ tail, (if x.exp = 0 then [] else 101 :: Lib.itoa x.exp) = tail := ⟨_, rfl⟩
    have hform : formL x = (if x.minus then 45 :: x.digits else x.digits) ++ tail := by
      unfold formL; rw [if_neg hne, htail]
    have hsg : signL (formL x) = (x.minus, x.digits ++ tail) := by
      rw [hform]
      cases hm : x.minus
      · simp only [Bool.false_eq_true, if_false]
        rw [hct]
        unfold signL
        simp only [List.cons_append]
        rw [if_neg (by omega)]
      · simp only [if_true]
        rfl
    have htd : ∀ a b, tail = a :: b → isDig a = false := by
      intro a b hab
      rw [← htail] at hab
      split at hab
      · cases hab
      · injection hab with h1 h2
        rw [← h1]; rfl
    have htw := takeWhile_app h.dig htd
    have hok : wholeOk x.digits = true := by rw [hct]; simp [wholeOk, hcz]
    have hw : wholeL (formL x) = some ⟨tail, x.minus, x.digits, 0⟩ := by
      unfold wholeL
      rw [hsg]
      simp only [htw.1, htw.2, hok, if_true]
    have hp : partL ⟨tail, x.minus, x.digits, 0⟩ = some ⟨tail, x.minus, x.digits, 0⟩ := by
      unfold partL
      rw [← htail]
      split
      · rfl
      · rename_i a b hab
        split at hab
        · cases hab
        · injection hab with h1 h2
          rw [if_neg (by rw [← h1]; decide)]
    have hpw : ∃ s, powerL ⟨tail, x.minus, x.digits, 0⟩ = some ⟨s, x.minus, x.digits, x.exp⟩ := by
      by_cases he : x.exp = 0
      · rw [if_pos he] at htail
        rw [← htail, he]
        exact ⟨[], rfl⟩
      · rw [if_neg he] at htail
        rw [← htail]
        have h101 : (101 : UInt8).toNat = 101 ∨ (101 : UInt8).toNat = 69 := Or.inl rfl
        unfold powerL
        simp only [h101, if_true]
        unfold Lib.itoa
        by_cases hneg : x.exp < 0
        · rw [if_pos hneg]
          have hsp : signP (45 :: Lib.decDigits x.exp.natAbs) = (true, Lib.decDigits x.exp.natAbs) := rfl
          rw [hsp]
          have hall := takeWhile_all (fun c hc => decDigits_dig x.exp.natAbs c hc)
          simp only [hall.1, hall.2]
          have hl := h.lo
          rw [if_neg (by simp [decDigits_ne]), powL_decDigits _ (by omega)]
          refine ⟨[], ?_⟩
          congr 2
          simp
          omega
        · rw [if_neg hneg]
          obtain ⟨a, b, hab, haz⟩ := decDigits_head x.exp.toNat (by omega)
          have had := isDig_t (decDigits_dig x.exp.toNat a (by rw [hab]; simp))
          have hsp : signP (Lib.decDigits x.exp.toNat) = (false, Lib.decDigits x.exp.toNat) := by
            rw [hab]
            unfold signP
            simp only
            rw [if_neg (by omega), if_neg (by omega)]
          rw [hsp]
          have hall := takeWhile_all (fun c hc => decDigits_dig x.exp.toNat c hc)
          simp only [hall.1, hall.2]
          have hl := h.hi
          rw [if_neg (by simp [decDigits_ne]), powL_decDigits _ (by omega)]
          refine ⟨[], ?_⟩
          congr 2
          simp
          omega
    obtain ⟨s, hpw⟩ := hpw
    have hdec : decL (formL x) = some ⟨s, x.minus, x.digits, x.exp⟩ := by
      unfold decL
      rw [hw, Option.bind_some, hp, Option.bind_some, hpw]
    rw [decGetL_fin, hdec]
    unfold fin
    simp only
    rw [h.right, h.left, if_neg hne, if_neg, Nat.sub_self]
    · obtain ⟨m, d, e⟩ := x
      simp
    · rw [Nat.sub_self]
      have h1 := h.len
      have h2 := h.lo
      have h3 := h.hi
      omega

/-! ### The whole number of a number's own form -/

end Go.Proofs.YtlnkjacbdolhnaaGreatDoor


/-
  JSON values as plain data, and what the document says of them. No program.
-/
namespace Go.Proofs.YtlnkjacbdolhnaaGreatDoor

/-- A value: its kind, its text, its names, its list. -/
structure Jsn where
  kind : Int
  text : ByteArray
  names : List ByteArray
  list : List Jsn

/-- Recursion over the values within. -/
def Jsn.para {α : Type} (f : Int → ByteArray → List ByteArray → List (Jsn × α) → α) : Jsn → α
  | ⟨k, s, n, l⟩ => f k s n (l.attach.map fun ⟨x, _⟩ => (x, Jsn.para f x))
theorem Jsn.para_eq {α : Type} (f : Int → ByteArray → List ByteArray → List (Jsn × α) → α) (k : Int) (s : ByteArray) (n : List ByteArray) (l : List Jsn) :
    Jsn.para f ⟨k, s, n, l⟩ = f k s n (l.map fun x => (x, Jsn.para f x)) := by
  rw [Jsn.para]
  congr 1
  rw [← List.attach_map_subtype_val l, List.map_map]
  simp
/-- Induction over the values within. -/
theorem Jsn.ind {P : Jsn → Prop} (h : ∀ k s n l, (∀ x ∈ l, P x) → P (.mk k s n l)) : ∀ j, P j
  | ⟨k, s, n, l⟩ => h k s n l fun x _ => Jsn.ind h x
theorem map_pair {α β : Type} (g : Jsn → α) (h : Jsn × α → β) (l : List Jsn) : (l.map fun x => (x, g x)).map h = l.map fun x => h (x, g x) := by rw [List.map_map]; rfl

/-- How deep. -/
def jdeep : Jsn → Nat := Jsn.para fun _ _ _ l => (l.map (·.2)).foldr max 0 + 1
def jdeeps (l : List Jsn) : Nat := (l.map jdeep).foldr max 0
theorem jdeep_eq (k : Int) (s : ByteArray) (n : List ByteArray) (l : List Jsn) : jdeep ⟨k, s, n, l⟩ = jdeeps l + 1 := by
  unfold jdeep jdeeps; rw [Jsn.para_eq, map_pair]; rfl
theorem jdeeps_nil : jdeeps [] = 0 := rfl
theorem jdeeps_cons (x : Jsn) (r : List Jsn) : jdeeps (x :: r) = max (jdeep x) (jdeeps r) := rfl
/-- How many values. -/
def jcount : Jsn → Nat := Jsn.para fun _ _ _ l => (l.map (·.2)).sum + 1
def jcounts (l : List Jsn) : Nat := (l.map jcount).sum
theorem jcount_eq (k : Int) (s : ByteArray) (n : List ByteArray) (l : List Jsn) : jcount ⟨k, s, n, l⟩ = jcounts l + 1 := by
  unfold jcount jcounts; rw [Jsn.para_eq, map_pair]; rfl
theorem jcounts_nil : jcounts [] = 0 := rfl
theorem jcounts_cons (x : Jsn) (r : List Jsn) : jcounts (x :: r) = jcount x + jcounts r := by simp [jcounts]
theorem jcount_pos (j : Jsn) : 1 ≤ jcount j := by obtain ⟨k, s, n, l⟩ := j; rw [jcount_eq]; omega
theorem jdeeps_app (m : List Jsn) : ∀ (l : List Jsn), jdeeps (l ++ m) = max (jdeeps l) (jdeeps m)
  | [] => by simp [jdeeps_nil]
  | x :: l => by rw [List.cons_append, jdeeps_cons, jdeeps_cons, jdeeps_app m l, Nat.max_assoc]
theorem jcounts_app (m : List Jsn) : ∀ (l : List Jsn), jcounts (l ++ m) = jcounts l + jcounts m
  | [] => by simp [jcounts_nil]
  | x :: l => by rw [List.cons_append, jcounts_cons, jcounts_cons, jcounts_app m l, Nat.add_assoc]
theorem jlen_count : ∀ (l : List Jsn), l.length ≤ jcounts l
  | [] => by simp
  | x :: r => by have := jlen_count r; have := jcount_pos x; rw [jcounts_cons, List.length_cons]; omega
theorem sum_le_sum {α : Type} (f g : α → Nat) : ∀ (l : List α), (∀ x ∈ l, f x ≤ g x) → (l.map f).sum ≤ (l.map g).sum
  | [], _ => by simp
  | x :: r, h => by
    have := sum_le_sum f g r (fun y hy => h y (by simp [hy]))
    have := h x (by simp)
    simp; omega
/-- Deeper than that many. -/
theorem jdeeps_lt (m : Nat) : ∀ (l : List Jsn), m < jdeeps l ↔ ∃ x ∈ l, m < jdeep x
  | [] => by simp [jdeeps_nil]
  | x :: r => by
    have ih := jdeeps_lt m r
    simp only [jdeeps_cons, List.mem_cons, exists_eq_or_imp, ← ih]
    omega

/-- May it be, but for names that stand twice? -/
def jform (Own : List UInt8 → List UInt8 × Int) (Val : List UInt8 → Bool) : Jsn → Bool := Jsn.para fun k s n l =>
  if k = 1 ∨ k = 2 ∨ k = 3 then s.data.toList.isEmpty && n.isEmpty && l.isEmpty
  else if k = 4 then decide (Own s.data.toList = (s.data.toList, 0)) && n.isEmpty && l.isEmpty
  else if k = 5 then Val s.data.toList && n.isEmpty && l.isEmpty
  else if k = 6 then s.data.toList.isEmpty && n.isEmpty && (l.map (·.2)).all id
  else if k = 7 then s.data.toList.isEmpty && decide (n.length = l.length) && n.all (fun b => Val b.data.toList) && (l.map (·.2)).all id
  else false
theorem jform_eq (Own : List UInt8 → List UInt8 × Int) (Val : List UInt8 → Bool) (k : Int) (s : ByteArray) (n : List ByteArray) (l : List Jsn) : jform Own Val ⟨k, s, n, l⟩ =
    if k = 1 ∨ k = 2 ∨ k = 3 then s.data.toList.isEmpty && n.isEmpty && l.isEmpty
    else if k = 4 then decide (Own s.data.toList = (s.data.toList, 0)) && n.isEmpty && l.isEmpty
    else if k = 5 then Val s.data.toList && n.isEmpty && l.isEmpty
    else if k = 6 then s.data.toList.isEmpty && n.isEmpty && l.all (jform Own Val)
    else if k = 7 then s.data.toList.isEmpty && decide (n.length = l.length) && n.all (fun b => Val b.data.toList) && l.all (jform Own Val)
    else false := by
  have h1 : ((l.map fun x => (x, Jsn.para (fun k s n l =>
      if k = 1 ∨ k = 2 ∨ k = 3 then s.data.toList.isEmpty && n.isEmpty && l.isEmpty
      else if k = 4 then decide (Own s.data.toList = (s.data.toList, 0)) && n.isEmpty && l.isEmpty
      else if k = 5 then Val s.data.toList && n.isEmpty && l.isEmpty
      else if k = 6 then s.data.toList.isEmpty && n.isEmpty && (l.map (·.2)).all id
      else if k = 7 then s.data.toList.isEmpty && decide (n.length = l.length) && n.all (fun b => Val b.data.toList) && (l.map (·.2)).all id
      else false) x)).map (·.2)).all id = l.all (jform Own Val) := by
    rw [map_pair, List.all_map]; rfl
  conv => lhs; unfold jform
  rw [Jsn.para_eq]
  simp only [h1, List.isEmpty_map, List.length_map]

/-- Does a name stand twice? -/
def dupB : List ByteArray → Bool
  | [] => false
  | x :: r => r.any (fun y => decide (y = x)) || dupB r
def jtwice : Jsn → Bool := Jsn.para fun _ _ n l => dupB n || (l.map (·.2)).any id
theorem jtwice_eq (k : Int) (s : ByteArray) (n : List ByteArray) (l : List Jsn) : jtwice ⟨k, s, n, l⟩ = (dupB n || l.any jtwice) := by
  conv => lhs; unfold jtwice
  rw [Jsn.para_eq, map_pair, List.any_map]; rfl

def jcheck (Own : List UInt8 → List UInt8 × Int) (Val : List UInt8 → Bool) (j : Jsn) : Int :=
  if 64 < jdeep j then 61 else if 65536 < jcount j then 40 else if jform Own Val j = false then 4 else if jtwice j = true then 6 else 0

/-- A digit below 16; a character as it stands in a String's text; a String's text. -/
def jhex (n : Nat) : UInt8 := UInt8.ofNat (if n < 10 then 48 + n else 87 + n)
def jesc (c : UInt8) : List UInt8 :=
  if c = 34 then [92, 34] else if c = 92 then [92, 92] else if c = 8 then [92, 98] else if c = 12 then [92, 102] else if c = 10 then [92, 110] else if c = 13 then [92, 114] else if c = 9 then [92, 116]
  else if c.toNat < 32 then [92, 117, 48, 48, jhex (c.toNat / 16), jhex (c.toNat % 16)] else [c]
def jquote (s : List UInt8) : List UInt8 := 34 :: (s.flatMap jesc ++ [34])

/-- The items of an Array, of an Object: with commas between; f: is it the first? -/
def jitems : Bool → List (List UInt8) → List UInt8
  | _, [] => []
  | f, x :: r => (if f then [] else [44]) ++ x ++ jitems false r
def jpairs : Bool → List ByteArray → List (List UInt8) → List UInt8
  | _, _, [] => []
  | f, n, x :: r => (if f then [] else [44]) ++ (jquote (n.headD ByteArray.empty).data.toList ++ 58 :: x) ++ jpairs false n.tail r
def jtext1 (k : Int) (s : ByteArray) (n : List ByteArray) (l : List (List UInt8)) : List UInt8 :=
  if k = 1 then [110, 117, 108, 108] else if k = 2 then [116, 114, 117, 101] else if k = 3 then [102, 97, 108, 115, 101] else if k = 4 then s.data.toList else if k = 5 then jquote s.data.toList
  else if k = 7 then 123 :: (jpairs true n l ++ [125]) else 91 :: (jitems true l ++ [93])
def jtext : Jsn → List UInt8 := Jsn.para fun k s n l => jtext1 k s n (l.map (·.2))
theorem jtext_eq (k : Int) (s : ByteArray) (n : List ByteArray) (l : List Jsn) : jtext ⟨k, s, n, l⟩ = jtext1 k s n (l.map jtext) := by
  unfold jtext; rw [Jsn.para_eq, map_pair]

def jprint (Own : List UInt8 → List UInt8 × Int) (Val : List UInt8 → Bool) (j : Jsn) : List UInt8 × Int :=
  if jcheck Own Val j ≠ 0 then ([], jcheck Own Val j) else if 262144 < (jtext j).length then ([], 40) else (jtext j, 0)

/-- The first place of a name; what it has. -/
def jfind (n : List ByteArray) (s : ByteArray) : Option Nat := n.findIdx? (fun b => decide (b = s))
def jget (j : Jsn) (s : ByteArray) : Option Jsn :=
  if j.kind = 7 then (match jfind j.names s with | none => none | some i => j.list[i]?) else none

/-- The same? -/
def jsame : Jsn → Jsn → Bool := Jsn.para fun k s n l j =>
  decide (k = j.kind) && decide (s = j.text) && decide (n = j.names) && decide (l.length = j.list.length) && ((l.map (·.2)).zip j.list).all fun p => p.1 p.2
theorem jsame_eq1 (k : Int) (s : ByteArray) (n : List ByteArray) (l : List Jsn) (j : Jsn) : jsame ⟨k, s, n, l⟩ j =
    (decide (k = j.kind) && decide (s = j.text) && decide (n = j.names) && decide (l.length = j.list.length) && (l.zip j.list).all fun p => jsame p.1 p.2) := by
  conv => lhs; unfold jsame
  rw [Jsn.para_eq, map_pair, List.length_map]
  have : ((l.map fun x => jsame x).zip j.list).all (fun p => p.1 p.2) = (l.zip j.list).all fun p => jsame p.1 p.2 := by
    rw [List.zip_map_left, List.all_map]; rfl
  rw [← this]; rfl
theorem zip_all_eq : ∀ (l q : List Jsn), (∀ x ∈ l, ∀ y, jsame x y = true ↔ x = y) → l.length = q.length → ((l.zip q).all (fun p => jsame p.1 p.2) = true ↔ l = q)
  | [], [], _, _ => by simp
  | [], _ :: _, _, h => by simp at h
  | _ :: _, [], _, h => by simp at h
  | x :: r, y :: q, h, hl => by
    have h1 := zip_all_eq r q (fun z hz => h z (by simp [hz])) (by simpa using hl)
    have h2 := h x (by simp) y
    simp only [List.zip_cons_cons, List.all_cons, Bool.and_eq_true, h1, h2, List.cons.injEq]
theorem jsame_eq : ∀ (a b : Jsn), jsame a b = true ↔ a = b := by
  refine Jsn.ind fun k s n l ih b => ?_
  obtain ⟨k', s', n', l'⟩ := b
  rw [jsame_eq1]
  simp only [Bool.and_eq_true, decide_eq_true_eq, Jsn.mk.injEq]
  constructor
  · rintro ⟨⟨⟨⟨h1, h2⟩, h3⟩, h4⟩, h5⟩
    exact ⟨h1, h2, h3, (zip_all_eq l l' ih h4).1 h5⟩
  · rintro ⟨h1, h2, h3, rfl⟩
    exact ⟨⟨⟨⟨h1, h2⟩, h3⟩, rfl⟩, (zip_all_eq l l ih rfl).2 rfl⟩
theorem jsame_refl (a : Jsn) : jsame a a = true := (jsame_eq a a).2 rfl
/-- How much there is to it: every part, every byte. -/
def jbulk : Jsn → Nat := Jsn.para fun _ s n l => 1 + s.size + (n.map fun b => b.size + 1).sum + (l.map (·.2)).sum
def jbulks (l : List Jsn) : Nat := (l.map jbulk).sum
theorem jbulk_eq (k : Int) (s : ByteArray) (n : List ByteArray) (l : List Jsn) : jbulk ⟨k, s, n, l⟩ = 1 + s.size + (n.map fun b => b.size + 1).sum + jbulks l := by
  conv => lhs; unfold jbulk
  rw [Jsn.para_eq, map_pair]; rfl
theorem jcount_bulk : ∀ (j : Jsn), jcount j ≤ jbulk j := by
  refine Jsn.ind fun k s n l ih => ?_
  have h1 : jcounts l ≤ jbulks l := sum_le_sum _ _ l ih
  rw [jcount_eq, jbulk_eq]; omega
theorem mem_sum {α : Type} (f : α → Nat) {x : α} : ∀ {l : List α}, x ∈ l → f x ≤ (l.map f).sum
  | [], h => by cases h
  | y :: r, h => by
    rcases List.mem_cons.1 h with rfl | h
    · simp
    · have := mem_sum f h; simp; omega
theorem jbulks_mem {x : Jsn} {l : List Jsn} (h : x ∈ l) : jbulk x ≤ jbulks l := mem_sum jbulk h
theorem len_le_sum {α : Type} (f : α → Nat) (hf : ∀ x, 1 ≤ f x) : ∀ (l : List α), l.length ≤ (l.map f).sum
  | [] => by simp
  | x :: r => by have := len_le_sum f hf r; have := hf x; simp; omega
theorem jbulk_pos (j : Jsn) : 1 ≤ jbulk j := by obtain ⟨k, s, n, l⟩ := j; rw [jbulk_eq]; omega
/-- What a bound on a value's bulk bounds. -/
theorem bulk_parts {j : Jsn} {m : Nat} (h : jbulk j ≤ m) : j.text.size ≤ m ∧ j.names.length ≤ m ∧ j.list.length ≤ m ∧ (∀ b ∈ j.names, b.size ≤ m) ∧ ∀ x ∈ j.list, jbulk x < jbulk j := by
  obtain ⟨k, s, n, l⟩ := j
  rw [jbulk_eq] at h ⊢
  have h1 := len_le_sum (fun b : ByteArray => b.size + 1) (fun _ => by omega) n
  have h2 := len_le_sum jbulk jbulk_pos l
  have h3 : jbulks l = (l.map jbulk).sum := rfl
  refine ⟨by simp only; omega, by simp only; omega, by simp only; omega, fun b hb => ?_, fun x hx => ?_⟩
  · have := mem_sum (fun b : ByteArray => b.size + 1) hb; simp only at this; omega
  · have hx' : x ∈ l := hx
    have := jbulks_mem hx'; omega
end Go.Proofs.YtlnkjacbdolhnaaGreatDoor
