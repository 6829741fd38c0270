/-
  What rostrumref04 makes of a decimal's text, as plain functions on lists of bytes: parse in four stages, and the strip of noughts.
-/
import Derived.Test.YtdjfoabinjfnfaaGreatDoorM03
import Derived.Lib.Atoi
import Derived.Test.YtdjfoabinjfnfaaGreatDoorProg
import Derived.Test.YtdjfoabinjfnfaaGreatDoorM00
import Derived.Test.YtdjfoabinjfnfaaGreatDoorShelf
import Derived.WalkKit
import Derived.WalkSpells
import Derived.WalkLawsBesides
import Derived.Lib.Hide
import Derived.Lib.Strings
import Derived.Lib.IndexLaws
import Derived.Lib.IndexBytes
import Derived.IntWalk
import Derived.BigQuiet
import Derived.Deep.QuietTactic
import Derived.Deep.RegionWith
namespace Go.Proofs.YtdjfoabinjfnfaaGreatDoor
structure Wth where
  minus : Bool
  digits : List UInt8
  exp : Int
  deriving DecidableEq
def powTo (n : Int) : List UInt8 → Int
  | [] => n
  | c :: l => if n < 100000000 then powTo (n * 10 + c.toNat - 48) l else n
theorem powTo_big {n : Int} (l : List UInt8) (h : ¬ n < 100000000) : powTo n l = n := by
  cases l with
  | nil => rfl
  | cons c l => simp [powTo, h]
theorem drop_cons_at {l : List UInt8} {k : Nat} {c : UInt8} (h : l[k]? = some c) : l.drop k = c :: l.drop (k + 1) := by
  have hk : k < l.length := by
    rcases Nat.lt_or_ge k l.length with h1 | h1
    · exact h1
    · rw [List.getElem?_eq_none h1] at h; cases h
  rw [List.drop_eq_getElem_cons hk]
  rw [List.getElem?_eq_getElem hk] at h
  injection h with h
  rw [h]
theorem powTo_drop (n : Int) (l : List UInt8) (k : Nat) (c : UInt8) (h : l[k]? = some c) (hn : n < 100000000) : powTo n (l.drop k) = powTo (n * 10 + c.toNat - 48) (l.drop (k + 1)) := by
  rw [drop_cons_at h, powTo, if_pos hn]
theorem powTo_end (n : Int) (l : List UInt8) (k : Nat) (h : l.length ≤ k) : powTo n (l.drop k) = n := by
  rw [List.drop_eq_nil_of_le h]; rfl
def powN (l : List UInt8) : Int := powTo 0 l
theorem powTo_bd : ∀ (l : List UInt8) (n : Int), (∀ c, c ∈ l → isDig c = true) → 0 ≤ n → n ≤ 1000000000 → 0 ≤ powTo n l ∧ powTo n l ≤ 1000000000
  | [], n, _, h0, h1 => ⟨h0, h1⟩
  | c :: l, n, h, h0, h1 => by
    unfold powTo
    have hd := isDig_t (h c (by simp))
    split
    · exact powTo_bd l _ (fun c hc => h c (by simp [hc])) (by omega) (by omega)
    · exact ⟨h0, h1⟩
theorem powN_bd (l : List UInt8) (h : ∀ c, c ∈ l → isDig c = true) : 0 ≤ powN l ∧ powN l ≤ 1000000000 := powTo_bd l 0 h (by omega) (by omega)
def isZ (c : UInt8) : Bool := decide (c.toNat = 48)
def tz (d : List UInt8) : Nat := twl isZ d.reverse
def strip (m : Bool) (d : List UInt8) (e : Int) : Wth :=
  let d1 := d.drop (twl isZ d)
  let d2 := d1.take (d1.length - tz d1)
  if d2 = [] then ⟨false, [], 0⟩ else ⟨m, d2, e + tz d1⟩
theorem strip_of (m : Bool) (D : List UInt8) (e : Int) {f z : Nat} {E : List UInt8} (hf : twl isZ D = f) (hz : tz (D.drop f) = z) (hE : E = (D.drop f).take ((D.drop f).length - z)) :
    strip m D e = if E = [] then ⟨false, [], 0⟩ else ⟨m, E, e + z⟩ := by
  subst hf hz hE; rfl
def parse4 (l : List UInt8) (m : Bool) (d : List UInt8) (e : Int) (i : Nat) : Option Wth :=
  if i ≠ l.length then none else some (strip m d e)
def isAt (l : List UInt8) (i : Nat) (n : Nat) : Bool := (l[i]?.map (·.toNat)) == some n
def powSign (l : List UInt8) (i : Nat) : Int × Nat :=
  if isAt l i 45 then (-1, i + 1) else if isAt l i 43 then (1, i + 1) else (1, i)
def parse3b (l : List UInt8) (m : Bool) (d : List UInt8) (e : Int) (sg : Int) (j : Nat) : Option Wth :=
  let n := runN l j
  if n = 0 then none else parse4 l m d (e + sg * powN ((l.drop j).take n)) (j + n)
def parse3 (l : List UInt8) (m : Bool) (d : List UInt8) (e : Int) (i : Nat) : Option Wth :=
  if isAt l i 101 || isAt l i 69 then parse3b l m d e (powSign l (i + 1)).1 (powSign l (i + 1)).2
  else parse4 l m d e i
def parse2 (l : List UInt8) (m : Bool) (d : List UInt8) (i : Nat) : Option Wth :=
  if isAt l i 46 then
    let n := runN l (i + 1)
    if n = 0 then none else parse3 l m (d ++ (l.drop (i + 1)).take n) (-(n : Int)) (i + 1 + n)
  else parse3 l m d 0 i
def parse1 (l : List UInt8) (m : Bool) (i : Nat) : Option Wth :=
  let n := runN l i
  if n = 0 then none
  else if decide (1 < n) && isAt l i 48 then none
  else parse2 l m ((l.drop i).take n) (i + n)
def parseL (l : List UInt8) : Option Wth := if isAt l 0 45 then parse1 l true 1 else parse1 l false 0
def getL (l : List UInt8) : Wth × Int :=
  match parseL l with
  | none => (⟨false, [], 0⟩, 4)
  | some x => if 200 < x.digits.length ∨ x.exp < -9999 ∨ 9999 < x.exp then (⟨false, [], 0⟩, 40) else (x, 0)
theorem isAt_t {l : List UInt8} {i n : Nat} {c : UInt8} (h : l[i]? = some c) (hc : c.toNat = n) : isAt l i n = true := by simp [isAt, h, hc]
theorem isAt_f {l : List UInt8} {i n : Nat} {c : UInt8} (h : l[i]? = some c) (hc : ¬ c.toNat = n) : isAt l i n = false := by simp [isAt, h, hc]
theorem isAt_none {l : List UInt8} {i n : Nat} (h : l.length ≤ i) : isAt l i n = false := by simp [isAt, List.getElem?_eq_none h]
theorem isAt_lt {l : List UInt8} {i n : Nat} (h : isAt l i n = true) : i < l.length := by
  rcases Nat.lt_or_ge i l.length with h1 | h1
  · exact h1
  · rw [isAt_none h1] at h; cases h
theorem isAt_byte {l : List UInt8} {i n : Nat} {c : UInt8} (h : l[i]? = some c) : isAt l i n = decide ((c.toNat : Int) = n) := by
  unfold isAt
  rw [h, Bool.eq_iff_iff]
  simp
  omega
theorem isZ_beq (c : UInt8) : isZ c = ((c.toNat : Int) == 48) := by
  unfold isZ; rw [Bool.eq_iff_iff]; simp; omega
theorem tz_at (D : List UInt8) (f j : Nat) (hj : f + j < D.length) : (D.drop f).reverse[j]? = D[D.length - 1 - j]? := by
  rw [List.getElem?_reverse (by simp; omega), List.getElem?_drop]
  congr 1
  simp
  omega
theorem tz_step (D : List UInt8) (f j : Nat) (c : UInt8) (hj : f + j < D.length) (hk : j ≤ tz (D.drop f)) (h : D[D.length - 1 - j]? = some c) (hz : isZ c = true) : j + 1 ≤ tz (D.drop f) :=
  twl_step isZ _ j c hk (by rw [tz_at D f j hj, h]) hz
theorem tz_stop (D : List UInt8) (f j : Nat) (c : UInt8) (hj : f + j < D.length) (hk : j ≤ tz (D.drop f)) (h : D[D.length - 1 - j]? = some c) (hz : isZ c = false) : tz (D.drop f) = j :=
  twl_stop isZ _ j c hk (by rw [tz_at D f j hj, h]) hz
theorem tz_end (D : List UInt8) (f j : Nat) (hj : D.length ≤ f + j) (hk : j ≤ tz (D.drop f)) : tz (D.drop f) = j :=
  twl_end isZ _ j hk (by simp; omega)
theorem tz_le (D : List UInt8) : tz D ≤ D.length := by
  have := twl_le isZ D.reverse
  simpa [tz] using this
theorem bytes_mk (b : ByteArray) : (⟨b.data.toList.toArray⟩ : ByteArray) = b := by cases b; rfl
theorem isAt_beq {l : List UInt8} {i n : Nat} {c : UInt8} (h : l[i]? = some c) : isAt l i n = ((c.toNat : Int) == n) := by
  rw [isAt_byte h, Bool.eq_iff_iff]; simp
structure Rst where
  s : List UInt8
  m : Bool
  d : List UInt8
  e : Int
def signL : List UInt8 → Bool × List UInt8
  | [] => (false, [])
  | c :: t => if c.toNat = 45 then (true, t) else (false, c :: t)
def wholeOk : List UInt8 → Bool
  | [] => false
  | c :: t => t.isEmpty || decide (¬ c.toNat = 48)
def wholeL (l : List UInt8) : Option Rst :=
  let g := (signL l).2.takeWhile isDig
  if wholeOk g then some ⟨(signL l).2.dropWhile isDig, (signL l).1, g, 0⟩ else none
def partL (r : Rst) : Option Rst :=
  match r.s with
  | [] => some r
  | c :: t =>
    if c.toNat = 46 then
      let g := t.takeWhile isDig
      if g = [] then none else some ⟨t.dropWhile isDig, r.m, r.d ++ g, r.e - g.length⟩
    else some r
def numL : Int → List UInt8 → Int
  | n, [] => n
  | n, c :: t => numL (n * 10 + c.toNat - 48) t
def powL (g : List UInt8) : Int :=
  let h := g.dropWhile isZ
  if h.length < 9 then numL 0 h else 1073741824
def signP : List UInt8 → Bool × List UInt8
  | [] => (false, [])
  | c :: t => if c.toNat = 45 then (true, t) else if c.toNat = 43 then (false, t) else (false, c :: t)
def powerL (r : Rst) : Option Rst :=
  match r.s with
  | [] => some r
  | c :: t =>
    if c.toNat = 101 ∨ c.toNat = 69 then
      let g := (signP t).2.takeWhile isDig
      if g = [] ∨ ¬ (signP t).2.dropWhile isDig = [] then none
      else some ⟨[], r.m, r.d, r.e + (if (signP t).1 then -(powL g) else powL g)⟩
    else none
theorem numL_bd : ∀ (l : List UInt8) (n : Int), (∀ c, c ∈ l → isDig c = true) → 0 ≤ n → 0 ≤ numL n l ∧ numL n l < (n + 1) * 10 ^ l.length
  | [], n, _, h0 => by simp [numL]; omega
  | c :: l, n, h, h0 => by
    have hd := isDig_t (h c (by simp))
    have ih := numL_bd l (n * 10 + c.toNat - 48) (fun x hx => h x (by simp [hx])) (by omega)
    refine ⟨by unfold numL; exact ih.1, ?_⟩
    unfold numL
    refine Int.lt_of_lt_of_le ih.2 ?_
    rw [List.length_cons, Int.pow_succ, Int.mul_comm ((10 : Int) ^ l.length) 10, ← Int.mul_assoc]
    exact Int.mul_le_mul_of_nonneg_right (by omega) (Int.pow_nonneg (by omega))
theorem numL_small (l : List UInt8) (h : ∀ c, c ∈ l → isDig c = true) (hl : l.length < 9) : 0 ≤ numL 0 l ∧ numL 0 l < 100000000 := by
  have h1 := numL_bd l 0 h (by omega)
  have h2 : (10 : Int) ^ l.length ≤ 10 ^ 8 := by
    have : (10 : Nat) ^ l.length ≤ 10 ^ 8 := Nat.pow_le_pow_right (by omega) (by omega)
    exact_mod_cast this
  refine ⟨h1.1, ?_⟩
  have h3 := h1.2
  have h4 : (10 : Int) ^ 8 = 100000000 := by decide
  omega
theorem decFrom_num : ∀ (l : List UInt8) (acc : Nat), (∀ c, c ∈ l → isDig c = true) → ∃ m : Nat, Go.Lib.decFrom acc l = some m ∧ (m : Int) = numL acc l
  | [], acc, _ => ⟨acc, rfl, rfl⟩
  | c :: l, acc, h => by
    have hd := isDig_t (h c (by simp))
    obtain ⟨m, h1, h2⟩ := decFrom_num l (acc * 10 + (c.toNat - 48)) (fun x hx => h x (by simp [hx]))
    refine ⟨m, ?_, ?_⟩
    · unfold Go.Lib.decFrom
      simp only [Go.Lib.digitVal, hd, and_self, if_true]
      exact h1
    · rw [h2]
      have e : ((acc * 10 + (c.toNat - 48) : Nat) : Int) = (acc : Int) * 10 + c.toNat - 48 := by omega
      rw [e]
      rfl
theorem atoi_zero (l : List UInt8) (h : ∀ c, c ∈ l → isDig c = true) : Go.Lib.atoi (48 :: l) = some (numL 0 l) := by
  obtain ⟨m, h1, h2⟩ := decFrom_num l 0 h
  have e1 : Go.Lib.decNat (48 :: l) = some m := by
    unfold Go.Lib.decNat
    simp only [List.isEmpty_cons, Bool.false_eq_true, if_false]
    unfold Go.Lib.decFrom
    exact h1
  unfold Go.Lib.atoi
  simp only [show ((48 : UInt8) == 45) = false by decide, show ((48 : UInt8) == 43) = false by decide, Bool.false_eq_true, if_false, e1, Option.map_some]
  rw [h2]; rfl
theorem mem_takeWhile_dig {l : List UInt8} {c : UInt8} (h : c ∈ l.takeWhile isDig) : isDig c = true := by
  have := List.all_takeWhile (p := isDig) (l := l)
  rw [List.all_eq_true] at this
  exact this _ h
def decL (l : List UInt8) : Option Rst := (wholeL l).bind fun r => (partL r).bind powerL
theorem dropWhile_length_le {p : UInt8 → Bool} (l : List UInt8) : (l.dropWhile p).length ≤ l.length := by
  have h := congrArg List.length (List.takeWhile_append_dropWhile (p := p) (l := l))
  rw [List.length_append] at h
  omega
theorem takeDrop_length {p : UInt8 → Bool} (l : List UInt8) : (l.takeWhile p).length + (l.dropWhile p).length = l.length := by
  have h := congrArg List.length (List.takeWhile_append_dropWhile (p := p) (l := l))
  rwa [List.length_append] at h
theorem signL_len (l : List UInt8) : (signL l).2.length ≤ l.length := by
  unfold signL; split
  · simp
  · split <;> simp
theorem wholeL_bd {l : List UInt8} {r : Rst} (h : wholeL l = some r) : r.s.length + r.d.length ≤ l.length ∧ r.e = 0 := by
  unfold wholeL at h
  simp only at h
  split at h
  · injection h with h
    subst h
    have h1 := takeDrop_length (p := isDig) (signL l).2
    have h2 := signL_len l
    exact ⟨by simp only; omega, rfl⟩
  · cases h
theorem partL_bd {r r' : Rst} (h : partL r = some r') : r'.s.length ≤ r.s.length ∧ r'.d.length ≤ r.d.length + r.s.length ∧ r.e - r.s.length ≤ r'.e ∧ r'.e ≤ r.e := by
  unfold partL at h
  split at h
  · injection h with h
    subst h
    omega
  · rename_i c t hs
    rw [hs]
    split at h
    · simp only at h
      split at h
      · cases h
      · injection h with h
        subst h
        have h1 := takeDrop_length (p := isDig) t
        simp only [List.length_append, List.length_cons]
        omega
    · injection h with h
      subst h
      rw [hs]
      simp only [List.length_cons]
      omega
theorem powL_bd {g : List UInt8} (h : ∀ c, c ∈ g → isDig c = true) : 0 ≤ powL g ∧ powL g ≤ 1073741824 := by
  unfold powL
  simp only
  split
  · rename_i h9
    have := numL_small (g.dropWhile isZ) (fun c hc => h c (List.dropWhile_subset _ hc)) h9
    omega
  · omega
theorem powerL_bd {r r' : Rst} (h : powerL r = some r') : r'.d = r.d ∧ r.e - 1073741824 ≤ r'.e ∧ r'.e ≤ r.e + 1073741824 := by
  unfold powerL at h
  split at h
  · injection h with h
    subst h
    exact ⟨rfl, by omega, by omega⟩
  · split at h
    · rename_i c t hs _
      simp only at h
      split at h
      · cases h
      · injection h with h
        have hb := powL_bd (g := (signP t).2.takeWhile isDig) (fun c hc => mem_takeWhile_dig hc)
        subst h
        refine ⟨rfl, ?_⟩
        simp only
        split <;> omega
    · cases h
theorem decL_bd {l : List UInt8} {r : Rst} (h : decL l = some r) : r.d.length ≤ 2 * l.length ∧ -1073741824 - (l.length : Int) ≤ r.e ∧ r.e ≤ 1073741824 := by
  unfold decL at h
  rw [Option.bind_eq_some_iff] at h
  obtain ⟨r1, h1, h2⟩ := h
  rw [Option.bind_eq_some_iff] at h2
  obtain ⟨r2, h2, h3⟩ := h2
  have a := wholeL_bd h1
  have b := partL_bd h2
  have c := powerL_bd h3
  rw [c.1]
  omega
def trimR (d : List UInt8) : List UInt8 := (d.reverse.dropWhile isZ).reverse
def decGetL (l : List UInt8) : Wth × Int :=
  match decL l with
  | none => (⟨false, [], 0⟩, 4)
  | some r =>
    let d := (trimR r.d).dropWhile isZ
    let e := r.e + (r.d.length - (trimR r.d).length : Nat)
    if d = [] then (⟨false, [], 0⟩, 0)
    else if 200 < d.length ∨ e < -9999 ∨ 9999 < e then (⟨false, [], 0⟩, 40) else (⟨r.m, d, e⟩, 0)
def decV (l : List UInt8) : Nat := l.foldl (fun n c => n * 10 + (c.toNat - 48)) 0
theorem decV_snoc (l : List UInt8) (c : UInt8) : decV (l ++ [c]) = decV l * 10 + (c.toNat - 48) := by simp [decV]
theorem take_snoc_at {l : List UInt8} {k : Nat} {c : UInt8} (h : l[k]? = some c) : l.take (k + 1) = l.take k ++ [c] := by
  have hk : k < l.length := by
    rcases Nat.lt_or_ge k l.length with h1 | h1
    · exact h1
    · rw [List.getElem?_eq_none h1] at h; cases h
  rw [List.take_succ_eq_append_getElem hk]
  rw [List.getElem?_eq_getElem hk] at h
  injection h with h
  rw [h]
theorem decV_step {l : List UInt8} {k : Nat} {c : UInt8} (h : l[k]? = some c) : decV (l.take (k + 1)) = decV (l.take k) * 10 + (c.toNat - 48) := by
  rw [take_snoc_at h, decV_snoc]
theorem foldl_lt : ∀ (l : List UInt8) (n k : Nat), (∀ c, c ∈ l → isDig c = true) → n < 10 ^ k → l.foldl (fun n c => n * 10 + (c.toNat - 48)) n < 10 ^ (k + l.length)
  | [], n, k, _, h => h
  | c :: l, n, k, hd, h => by
    have h1 := isDig_t (hd c (by simp))
    have := foldl_lt l (n * 10 + (c.toNat - 48)) (k + 1) (fun x hx => hd x (by simp [hx])) (by rw [Nat.pow_succ]; omega)
    rw [show k + (c :: l).length = k + 1 + l.length by simp; omega]
    exact this
theorem decV_lt (l : List UInt8) (h : ∀ c, c ∈ l → isDig c = true) : decV l < 10 ^ l.length := by
  have := foldl_lt l 0 0 h (by decide)
  rwa [Nat.zero_add] at this
theorem wholeL_dig {l : List UInt8} {r : Rst} (h : wholeL l = some r) : ∀ c, c ∈ r.d → isDig c = true := by
  unfold wholeL at h
  simp only at h
  split at h
  · injection h with h
    subst h
    exact fun c hc => mem_takeWhile_dig hc
  · cases h
theorem partL_dig {r r' : Rst} (h : partL r = some r') (hd : ∀ c, c ∈ r.d → isDig c = true) : ∀ c, c ∈ r'.d → isDig c = true := by
  unfold partL at h
  split at h
  · injection h with h
    subst h; exact hd
  · split at h
    · simp only at h
      split at h
      · cases h
      · injection h with h
        subst h
        intro c hc
        simp only [List.mem_append] at hc
        exact hc.elim (hd c) (fun hc => mem_takeWhile_dig hc)
    · injection h with h
      subst h; exact hd
theorem decL_dig {l : List UInt8} {r : Rst} (h : decL l = some r) : ∀ c, c ∈ r.d → isDig c = true := by
  unfold decL at h
  rw [Option.bind_eq_some_iff] at h
  obtain ⟨r1, h1, h2⟩ := h
  rw [Option.bind_eq_some_iff] at h2
  obtain ⟨r2, h2, h3⟩ := h2
  rw [(powerL_bd h3).1]
  exact partL_dig h2 (wholeL_dig h1)
theorem decGetL_dig (l : List UInt8) : ∀ c, c ∈ (decGetL l).1.digits → isDig c = true := by
  unfold decGetL
  split
  · intro c hc; cases hc
  · rename_i r hr
    simp only
    split
    · intro c hc; cases hc
    · split
      · intro c hc; cases hc
      · intro c hc
        have h1 : c ∈ trimR r.d := List.dropWhile_subset _ hc
        unfold trimR at h1
        have h2 := List.dropWhile_subset _ (List.mem_reverse.1 h1)
        exact decL_dig hr c (List.mem_reverse.1 h2)
def two63 : Nat := 9223372036854775808
def intL (l : List UInt8) : Int × Int :=
  let x := (decGetL l).1
  if (decGetL l).2 ≠ 0 then (0, (decGetL l).2)
  else if x.exp < 0 then (0, 1)
  else if 19 < (x.digits.length : Int) + x.exp then (0, 64)
  else
    let u := decV (x.digits ++ List.replicate x.exp.toNat 48)
    if x.minus = true ∧ u ≤ two63 then (-(u : Int), 0)
    else if x.minus = false ∧ u < two63 then ((u : Int), 0)
    else (0, 64)
theorem intL_of {l : List UInt8} {m : Bool} {dd : List UInt8} {k U : Nat} (h : decGetL l = (⟨m, dd, (k : Int)⟩, 0)) (hs : dd.length + k ≤ 19) (hU : decV (dd ++ List.replicate k 48) = U) :
    (m = true → U ≤ two63 → intL l = (-(U : Int), 0)) ∧ (m = true → two63 < U → intL l = (0, 64)) ∧ (m = false → U < two63 → intL l = ((U : Int), 0)) ∧ (m = false → two63 ≤ U → intL l = (0, 64)) := by
  have e : intL l = if m = true ∧ U ≤ two63 then (-(U : Int), 0) else if m = false ∧ U < two63 then ((U : Int), 0) else (0, 64) := by
    unfold intL
    rw [h]
    simp only [ne_eq, not_true_eq_false, if_false, Int.toNat_natCast]
    rw [if_neg (by omega), if_neg (by omega), hU]
  rw [e]
  refine ⟨?_, ?_, ?_, ?_⟩
  · rintro rfl h1; rw [if_pos ⟨rfl, h1⟩]
  · rintro rfl h1; rw [if_neg (fun hh => absurd hh.2 (by omega)), if_neg (fun hh => by cases hh.1)]
  · rintro rfl h1; rw [if_neg (fun hh => by cases hh.1), if_pos ⟨rfl, h1⟩]
  · rintro rfl h1; rw [if_neg (fun hh => by cases hh.1), if_neg (fun hh => absurd hh.2 (by omega))]
theorem le63 {U : Nat} (h : (U : Int) ≤ 9223372036854775808) : U ≤ two63 := by unfold two63; omega
theorem lt63 {U : Nat} (h : (U : Int) < 9223372036854775808) : U < two63 := by unfold two63; omega
theorem ge63 {U : Nat} (h : ¬ (U : Int) < 9223372036854775808) : two63 ≤ U := by unfold two63; omega
theorem gt63 {U : Nat} (h : ¬ (U : Int) ≤ 9223372036854775808) : two63 < U := by unfold two63; omega
end Go.Proofs.YtdjfoabinjfnfaaGreatDoor
namespace Go.Proofs.YtdjfoabinjfnfaaGreatDoor
open Go.RowKit
def RD (w : World) (b : Nat) (s : ByteArray) (m : Bool) (d : ByteArray) (e : Int) : Prop :=
  Cel w b 182 #[.string s, .bool m, .string d, .int .i64 e, .int .i64 0]
theorem RD.facts {w : World} {b : Nat} {s : ByteArray} {m : Bool} {d : ByteArray} {e : Int} (h : RD w b s m d e) :
    w.cell? ⟨b, 0, none⟩ = some (.string s) ∧ w.cell? ⟨b, 1, none⟩ = some (.bool m) ∧ w.cell? ⟨b, 2, none⟩ = some (.string d) ∧ w.cell? ⟨b, 3, none⟩ = some (.int .i64 e) ∧
    w.frozen? ⟨b, 0, none⟩ = false ∧ w.frozen? ⟨b, 1, none⟩ = false ∧ w.frozen? ⟨b, 2, none⟩ = false ∧ w.frozen? ⟨b, 3, none⟩ = false :=
  ⟨Cel.cell h 0, Cel.cell h 1, Cel.cell h 2, Cel.cell h 3, Cel.froz h 0, Cel.froz h 1, Cel.froz h 2, Cel.froz h 3⟩
theorem RD.setS {w : World} {b : Nat} {s : ByteArray} {m : Bool} {d : ByteArray} {e : Int} (h : RD w b s m d e) (s' : ByteArray) : RD (w.setCell ⟨b, 0, none⟩ (.string s')) b s' m d e := Cel.set h 0 _
theorem RD.setM {w : World} {b : Nat} {s : ByteArray} {m : Bool} {d : ByteArray} {e : Int} (h : RD w b s m d e) (m' : Bool) : RD (w.setCell ⟨b, 1, none⟩ (.bool m')) b s m' d e := Cel.set h 1 _
theorem RD.setD {w : World} {b : Nat} {s : ByteArray} {m : Bool} {d : ByteArray} {e : Int} (h : RD w b s m d e) (d' : ByteArray) : RD (w.setCell ⟨b, 2, none⟩ (.string d')) b s m d' e := Cel.set h 2 _
theorem RD.setE {w : World} {b : Nat} {s : ByteArray} {m : Bool} {d : ByteArray} {e : Int} (h : RD w b s m d e) (e' : Int) : RD (w.setCell ⟨b, 3, none⟩ (.int .i64 e')) b s m d e' := Cel.set h 3 _
theorem RD.drew {w : World} {b : Nat} {s : ByteArray} {m : Bool} {d : ByteArray} {e : Int} (h : RD w b s m d e) : RD w.drew b s m d e := h
theorem RD.lt {w : World} {b : Nat} {s : ByteArray} {m : Bool} {d : ByteArray} {e : Int} (h : RD w b s m d e) : b < w.heap.size := Cel.lt h
def tenDigits : ByteArray := ⟨#[48, 49, 50, 51, 52, 53, 54, 55, 56, 57]⟩
theorem trim_ten (l : List UInt8) : Lib.trimLeftS l tenDigits.data.toList = l.dropWhile isDig := by
  unfold Lib.trimLeftS
  congr 1
  funext c
  revert c
  have h : ∀ n : Fin 256, (tenDigits.data.toList.contains (UInt8.ofNat n.val)) = isDig (UInt8.ofNat n.val) := by decide +kernel
  intro c
  have := h ⟨c.toNat, UInt8.toNat_lt c⟩
  simpa using this
def DigEnd (w : World) (b : Nat) (s : ByteArray) (m : Bool) (d : ByteArray) (e : Int) (en : Ending) (w' : World) : Prop :=
  ∃ g r : ByteArray, en = .returned (.string g) ∧ g.data.toList = s.data.toList.takeWhile isDig ∧ r.data.toList = s.data.toList.dropWhile isDig ∧ RD w' b r m d e ∧ Below b w w'
theorem take_len (l : List UInt8) (p : UInt8 → Bool) : l.takeWhile p = l.take (l.length - (l.dropWhile p).length) := by
  have h := List.takeWhile_append_dropWhile (p := p) (l := l)
  have h2 : l.length = (l.takeWhile p).length + (l.dropWhile p).length := by rw [← List.length_append, h]
  rw [show l.length - (l.dropWhile p).length = (l.takeWhile p).length by omega]
  exact List.prefix_iff_eq_take.1 (List.takeWhile_prefix p)
set_option maxHeartbeats 1000000 in
theorem decDigits_any (b : Nat) (s : ByteArray) (m : Bool) (d : ByteArray) (e : Int) (w : World) (hR : RD w b s m d e) (hs : s.size ≤ 1099511627776) :
    Calls Tryz.prog 177 #[.pointer (some ⟨b, 0, none⟩)] w (DigEnd w b s m d e) := by
  obtain ⟨x0, x1, x2, x3, f0, f1, f2, f3⟩ := hR.facts
  have hcon : ∀ W, Calls Tryz.prog 112 #[.string s, .string ⟨#[48, 49, 50, 51, 52, 53, 54, 55, 56, 57]⟩] W fun e w' => ∃ r : ByteArray, e = .returned (.string r) ∧ r.data.toList = s.data.toList.dropWhile isDig ∧ r.size ≤ s.size ∧ Below W.heap.size W w' := by
    intro W
    refine (Tryz.strings_TrimLeft_set s tenDigits W (by decide) (by
      have h : ∀ j : Fin 10, (tenDigits.data.toList[j.val]?.map (fun b => decide (b.toNat < 128))) = some true := by decide +kernel
      intro j b hb
      have hj : j < 10 := by
        rcases Nat.lt_or_ge j 10 with h1 | h1
        · exact h1
        · rw [List.getElem?_eq_none (by simpa [tenDigits] using h1)] at hb; cases hb
      have := h ⟨j, hj⟩
      simp only [hb] at this
      simpa using this)).mono ?_
    rintro e w' ⟨rfl, hB⟩
    refine ⟨_, rfl, ?_, ?_, hB⟩
    · simp [trim_ten]
    · rw [trim_ten]
      have h := List.takeWhile_append_dropWhile (p := isDig) (l := s.data.toList)
      have h2 : s.data.toList.length = (s.data.toList.takeWhile isDig).length + (s.data.toList.dropWhile isDig).length := by rw [← List.length_append, h]
      rw [bytes_len] at h2
      show (List.toArray _).size ≤ _
      simp
      omega
  replace hcon := Lib.hid hcon
  replace hR := Lib.hid hR
  go_enter Tryz.func177, Tryz.ntmps177
  go_wp2_with fail
  refine (hcon.out _).mono ?_
  rintro e1 w1 ⟨r, rfl, hr, hrs, hB⟩
  have hR1 : RD w1 b s m d e := Cel.below hR.out hB hR.out.lt
  obtain ⟨y0, y1, y2, y3, g0, g1, g2, g3⟩ := hR1.facts
  have hB1 : Below b w w1 := hB.mono (Nat.le_of_lt hR.out.lt)
  replace hR1 := Lib.hid hR1
  replace hB1 := Lib.hid hB1
  replace hr := Lib.hid hr
  clear hB x0 x1 x2 x3 f0 f1 f2 f3
  go_upto_region 2 with (fail)
  go_quiet (fail)
  go_wp2
  go_ret
  refine ⟨s.extract 0 (s.size - r.size), r, rfl, ?_, hr.out, ?_, ?_⟩
  · rw [Lib.extract_data, take_len, ← hr.out, bytes_len, bytes_len]; simp
  · exact RD.setS (Cel.drewN hR1.out nq) r
  · exact (bel_drewN hB1.out nq).setCell (Nat.le_refl _) _
theorem has_byte (l : List UInt8) (c : UInt8) : decide (0 ≤ Lib.indexByte l c) = l.contains c := by
  induction l with
  | nil => rfl
  | cons a l ih =>
    unfold Lib.indexByte
    by_cases h : a = c
    · subst h; simp
    · have h1 : (a == c) = false := by simpa using h
      have h2 : (c == a) = false := by simpa using fun e => h e.symm
      have hge := Lib.indexByte_ge l c
      rw [h1]
      simp only [Bool.false_eq_true, if_false, List.contains_cons, h2, Bool.false_or]
      rw [← ih]
      by_cases h3 : Lib.indexByte l c = -1
      · simp [h3]
      · have h4 : (Lib.indexByte l c == -1) = false := by simpa using h3
        rw [h4]
        simp only [Bool.false_eq_true, if_false]
        rw [Bool.eq_iff_iff]
        simp
        omega
theorem first_byte (s : ByteArray) (c : UInt8) (t : List UInt8) (h : s.data.toList = c :: t) : s.extract 0 1 = ⟨#[c]⟩ := by
  have h1 : (s.extract 0 1).data.toList = [c] := by rw [Lib.extract_data, h]; simp
  rw [← bytes_mk (s.extract 0 1), h1]
theorem rest_bytes (s : ByteArray) (c : UInt8) (t : List UInt8) (h : s.data.toList = c :: t) : (s.extract 1 s.size).data.toList = t := by
  rw [Lib.extract_to_end, h]; rfl
theorem size_cons (s : ByteArray) (c : UInt8) (t : List UInt8) (h : s.data.toList = c :: t) : s.size = t.length + 1 := by
  rw [← bytes_len, h]; rfl
theorem at_cons (s : ByteArray) (c : UInt8) (t : List UInt8) (h : s.data.toList = c :: t) (h0 : 0 < s.size) : s[0] = c := by
  have h1 := bytes_at s 0 h0
  rw [h] at h1
  simp at h1
  exact h1.symm
theorem isEmpty_t (s : ByteArray) (h : s.data.toList = []) : s.toList.isEmpty = true := by rw [Lib.toList_data, h]; rfl
theorem isEmpty_f (s : ByteArray) (c : UInt8) (t : List UInt8) (h : s.data.toList = c :: t) : s.toList.isEmpty = false := by rw [Lib.toList_data, h]; rfl
set_option maxHeartbeats 1000000 in
theorem decBegins_yes (b : Nat) (s some : ByteArray) (m : Bool) (d : ByteArray) (e : Int) (w : World) (hR : RD w b s m d e) (hs : s.size ≤ 1099511627776) (c : UInt8) (t : List UInt8) (hc : s.data.toList = c :: t) (hin : some.data.toList.contains c = true) :
    Calls Tryz.prog 176 #[.pointer (.some ⟨b, 0, none⟩), .string some] w fun en w' => en = .returned (.tuple #[.int .u8 c.toNat, .bool true]) ∧ w' = w.setCell ⟨b, 0, none⟩ (.string (s.extract 1 s.size)) := by
  obtain ⟨x0, x1, x2, x3, f0, f1, f2, f3⟩ := hR.facts
  have he := isEmpty_f s c t hc
  have hsz := size_cons s c t hc
  have h0 : 0 < s.size := by omega
  have hat := at_cons s c t hc h0
  have hcon : ∀ W, Calls Tryz.prog 196 #[.string some, .string (s.extract 0 1)] W fun e w' => e = .returned (.bool true) ∧ W = w' := by
    intro W
    rw [first_byte s c t hc]
    refine (Tryz.strings_Contains_one some c W).mono ?_
    rintro e w' ⟨rfl, rfl⟩
    exact ⟨by rw [has_byte, hin], rfl⟩
  replace hcon := Lib.hid hcon
  replace hat := Lib.hid hat
  clear hsz hc hin
  go_enter Tryz.func176, Tryz.ntmps176
  go_wp2_with (go_at_call 196; refine (hcon.out _).mono ?_; rintro e w' ⟨rfl, rfl⟩)
  go_ret2
  exact ⟨by rw [hat.out]; rfl, rfl⟩
set_option maxHeartbeats 1000000 in
theorem decBegins_none (b : Nat) (s some : ByteArray) (m : Bool) (d : ByteArray) (e : Int) (w : World) (hR : RD w b s m d e) (hc : s.data.toList = []) :
    Calls Tryz.prog 176 #[.pointer (.some ⟨b, 0, none⟩), .string some] w fun en w' => en = .returned (.tuple #[.int .u8 0, .bool false]) ∧ w = w' := by
  obtain ⟨x0, x1, x2, x3, f0, f1, f2, f3⟩ := hR.facts
  have he := isEmpty_t s hc
  clear hc
  go_enter Tryz.func176, Tryz.ntmps176
  go_wp2
  go_ret2
  exact ⟨rfl, rfl⟩
set_option maxHeartbeats 1000000 in
theorem decBegins_other (b : Nat) (s some : ByteArray) (m : Bool) (d : ByteArray) (e : Int) (w : World) (hR : RD w b s m d e) (hs : s.size ≤ 1099511627776) (c : UInt8) (t : List UInt8) (hc : s.data.toList = c :: t) (hin : some.data.toList.contains c = false) :
    Calls Tryz.prog 176 #[.pointer (.some ⟨b, 0, none⟩), .string some] w fun en w' => en = .returned (.tuple #[.int .u8 0, .bool false]) ∧ w = w' := by
  obtain ⟨x0, x1, x2, x3, f0, f1, f2, f3⟩ := hR.facts
  have he := isEmpty_f s c t hc
  have hsz := size_cons s c t hc
  have h0 : 0 < s.size := by omega
  have hcon : ∀ W, Calls Tryz.prog 196 #[.string some, .string (s.extract 0 1)] W fun e w' => e = .returned (.bool false) ∧ W = w' := by
    intro W
    rw [first_byte s c t hc]
    refine (Tryz.strings_Contains_one some c W).mono ?_
    rintro e w' ⟨rfl, rfl⟩
    exact ⟨by rw [has_byte, hin], rfl⟩
  replace hcon := Lib.hid hcon
  clear hsz hc hin
  go_enter Tryz.func176, Tryz.ntmps176
  go_wp2_with (go_at_call 196; refine (hcon.out _).mono ?_; rintro e w' ⟨rfl, rfl⟩)
  go_ret2
  exact ⟨rfl, rfl⟩
def fnV (f b : Nat) : Value := .func (.func f) #[.pointer (some ⟨b, 0, none⟩)] #[]
def StEnd (w : World) (b : Nat) (res : Option Rst) (fv : Value) (en : Ending) (w' : World) : Prop :=
  match res with
  | none => (∃ v, en = .returned (.tuple #[v, .bool false])) ∧ Below b w w'
  | some r => ∃ s' d' : ByteArray, en = .returned (.tuple #[fv, .bool true]) ∧ s'.data.toList = r.s ∧ d'.data.toList = r.d ∧ RD w' b s' r.m d' r.e ∧ Below b w w'
theorem StEnd.no {w w' : World} {b : Nat} {res : Option Rst} {fv v : Value} (h : res = none) (hB : Below b w w') : StEnd w b res fv (.returned (.tuple #[v, .bool false])) w' := by
  subst h; exact ⟨⟨v, rfl⟩, hB⟩
theorem StEnd.yes {w w' : World} {b : Nat} {res : Option Rst} {fv : Value} {r : Rst} {s' d' : ByteArray} (h : res = some r) (hs : s'.data.toList = r.s) (hd : d'.data.toList = r.d) (hR : RD w' b s' r.m d' r.e) (hB : Below b w w') : StEnd w b res fv (.returned (.tuple #[fv, .bool true])) w' := by
  subst h; exact ⟨s', d', rfl, hs, hd, hR, hB⟩
theorem begins_sign (b : Nat) (s : ByteArray) (m : Bool) (d : ByteArray) (e : Int) (w : World) (hR : RD w b s m d e) (hs : s.size ≤ 1099511627776) :
    Calls Tryz.prog 176 #[.pointer (some ⟨b, 0, none⟩), .string ⟨#[45]⟩] w fun en w' => ∃ (c : Int) (s' : ByteArray), en = .returned (.tuple #[.int .u8 c, .bool (signL s.data.toList).1]) ∧ s'.data.toList = (signL s.data.toList).2 ∧ s'.size ≤ s.size ∧ RD w' b s' m d e ∧ Below b w w' := by
  rcases hl : s.data.toList with _ | ⟨c, t⟩
  · refine (decBegins_none b s _ m d e w hR hl).mono ?_
    rintro en w' ⟨rfl, rfl⟩
    exact ⟨0, s, rfl, hl, Nat.le_refl _, hR, Below.refl _ _⟩
  · by_cases hc : c.toNat = 45
    · refine (decBegins_yes b s ⟨#[45]⟩ m d e w hR hs c t hl (by
        have : c = 45 := UInt8.toNat_inj.1 hc
        subst this; rfl)).mono ?_
      rintro en w' ⟨rfl, rfl⟩
      refine ⟨c.toNat, s.extract 1 s.size, by simp [signL, hc], by rw [rest_bytes s c t hl]; simp [signL, hc], by rw [ByteArray.size_extract]; omega, hR.setS _, (Below.refl b w).setCell (p := ⟨b, 0, none⟩) (Nat.le_refl b) _⟩
    · refine (decBegins_other b s ⟨#[45]⟩ m d e w hR hs c t hl (by
        have : ¬ c = 45 := fun h => hc (by rw [h]; rfl)
        simpa using this)).mono ?_
      rintro en w' ⟨rfl, rfl⟩
      exact ⟨0, s, by simp [signL, hc], by rw [hl]; simp [signL, hc], Nat.le_refl _, hR, Below.refl _ _⟩
set_option maxHeartbeats 1000000 in
theorem decWhole_any (b : Nat) (s : ByteArray) (w : World) (hR : RD w b s false ⟨#[]⟩ 0) (hs : s.size ≤ 1099511627776) :
    Calls Tryz.prog 157 #[.pointer (some ⟨b, 0, none⟩)] w (StEnd w b (wholeL s.data.toList) (fnV 178 b)) := by
  obtain ⟨x0, x1, x2, x3, f0, f1, f2, f3⟩ := hR.facts
  replace hR := Lib.hid hR
  go_enter Tryz.func157, Tryz.ntmps157
  go_wp2_with fail
  refine (begins_sign b s _ _ _ _ hR.out hs).mono ?_
  rintro e1 w1 ⟨c, s1, rfl, hs1, hsz, hR1, hB1⟩
  clear x0 x1 x2 x3 f0 f1 f2 f3
  obtain ⟨x0, x1, x2, x3, f0, f1, f2, f3⟩ := hR1.facts
  replace hR1 := Lib.hid (hR1.setM (signL s.data.toList).1)
  replace hB1 := Lib.hid (hB1.setCell (p := ⟨b, 1, none⟩) (Nat.le_refl _) (.bool (signL s.data.toList).1))
  replace hs1 := Lib.hid hs1
  go_wp2_with fail
  refine (decDigits_any b s1 _ _ _ _ hR1.out (by omega)).mono ?_
  rintro e2 w2 ⟨g, r, rfl, hg, hr, hR2, hB2⟩
  clear x0 x1 x2 x3 f0 f1 f2 f3
  obtain ⟨x0, x1, x2, x3, f0, f1, f2, f3⟩ := hR2.facts
  replace hR2 := Lib.hid (hR2.setD g)
  replace hB2 := Lib.hid ((hB1.out.trans hB2).setCell (p := ⟨b, 2, none⟩) (Nat.le_refl _) (.string g))
  replace hg := Lib.hid hg
  replace hr := Lib.hid hr
  go_upto_region 3 with (fail)
  clear x0 x1 x2 x3 f0 f1 f2 f3
  generalize w2.setCell ⟨b, 2, none⟩ (.string g) = w3 at *
  obtain ⟨x0, x1, x2, x3, f0, f1, f2, f3⟩ := hR2.out.facts
  have hgd : (signL s.data.toList).2.takeWhile isDig = g.data.toList := by rw [hg.out, hs1.out]
  rcases hl : g.data.toList with _ | ⟨c0, t0⟩
  · have he := isEmpty_t g hl
    have hno : wholeL s.data.toList = none := by unfold wholeL; rw [hgd, hl]; rfl
    replace hno := Lib.hid hno
    clear hl hgd
    go_region
    go_wp2
    go_ret2
    exact StEnd.no hno.out hB2.out.drew
  · have he := isEmpty_f g c0 t0 hl
    have h0 : 0 < g.size := by rw [size_cons g c0 t0 hl]; omega
    have hat := at_cons g c0 t0 hl h0
    by_cases hz : c0.toNat = 48
    · by_cases ht : t0 = []
      · subst ht
        have hg1 : g = ⟨#[48]⟩ := by
          rw [← bytes_mk g, hl, show c0 = 48 from UInt8.toNat_inj.1 hz]
        have hok : wholeL s.data.toList = some ⟨(signL s.data.toList).2.dropWhile isDig, (signL s.data.toList).1, (signL s.data.toList).2.takeWhile isDig, 0⟩ := by
          unfold wholeL; rw [hgd, hl]; rfl
        replace hok := Lib.hid hok
        replace hgd := Lib.hid hgd
        clear hat he h0 hl hz
        subst hg1
        go_region
        go_wp2
        go_ret2
        exact StEnd.yes hok.out (by rw [hr.out, hs1.out]) hgd.out.symm hR2.out hB2.out.drew
      · have hne : (g.toList == [48]) = false := by
          rw [Lib.toList_data, hl]; simp [ht]
        have hno : wholeL s.data.toList = none := by
          unfold wholeL; rw [hgd, hl]
          have : wholeOk (c0 :: t0) = false := by simp [wholeOk, hz, ht]
          simp [this]
        replace hno := Lib.hid hno
        have hc : ((g[0].toNat : Int) != 48) = false := by rw [hat]; simp; omega
        clear hat hgd hl
        go_region
        go_wp2
        go_ret2
        exact StEnd.no hno.out hB2.out.drew
    · have hne : (g.toList == [48]) = false := by
        rw [Lib.toList_data, hl]
        have : ¬ c0 = 48 := fun h => hz (by rw [h]; rfl)
        simp [this]
      have hok : wholeL s.data.toList = some ⟨(signL s.data.toList).2.dropWhile isDig, (signL s.data.toList).1, (signL s.data.toList).2.takeWhile isDig, 0⟩ := by
        unfold wholeL; rw [hgd, hl]
        have : wholeOk (c0 :: t0) = true := by simp [wholeOk, hz]
        simp [this]
      replace hok := Lib.hid hok
      have hc : ((g[0].toNat : Int) != 48) = true := by rw [hat]; simp; omega
      replace hgd := Lib.hid hgd
      clear hat hl
      go_region
      go_wp2
      go_ret2
      exact StEnd.yes hok.out (by rw [hr.out, hs1.out]) hgd.out.symm hR2.out hB2.out.drew
set_option maxHeartbeats 1000000 in
theorem decPart_any (b : Nat) (s : ByteArray) (m : Bool) (d : ByteArray) (e : Int) (w : World) (hR : RD w b s m d e) (hs : s.size ≤ 1099511627776) (hd : d.size ≤ 1099511627776) (he0 : -1099511627776 ≤ e) (he1 : e ≤ 1099511627776) :
    Calls Tryz.prog 178 #[.pointer (some ⟨b, 0, none⟩)] w (StEnd w b (partL ⟨s.data.toList, m, d.data.toList, e⟩) (fnV 197 b)) := by
  obtain ⟨x0, x1, x2, x3, f0, f1, f2, f3⟩ := hR.facts
  rcases hl : s.data.toList with _ | ⟨c, t⟩
  · have hcon := Lib.hid (decBegins_none b s ⟨#[46]⟩ m d e w hR hl)
    have hok : partL ⟨[], m, d.data.toList, e⟩ = some ⟨[], m, d.data.toList, e⟩ := rfl
    replace hok := Lib.hid hok
    replace hl := Lib.hid hl
    replace hR := Lib.hid hR
    go_enter Tryz.func178, Tryz.ntmps178
    go_wp2_with (go_at_call 176; refine hcon.out.mono ?_; rintro en w' ⟨rfl, rfl⟩)
    go_ret2
    exact StEnd.yes hok.out hl.out rfl hR.out (Below.refl _ _)
  · by_cases hc : c.toNat = 46
    · have hcon := Lib.hid (decBegins_yes b s ⟨#[46]⟩ m d e w hR hs c t hl (by
        have : c = 46 := UInt8.toNat_inj.1 hc
        subst this; rfl))
      have hR1 := hR.setS (s.extract 1 s.size)
      have hB1 : Below b w (w.setCell ⟨b, 0, none⟩ (.string (s.extract 1 s.size))) := (Below.refl b w).setCell (p := ⟨b, 0, none⟩) (Nat.le_refl b) _
      have hr1 := rest_bytes s c t hl
      have hz1 : (s.extract 1 s.size).size ≤ 1099511627776 := by rw [ByteArray.size_extract]; omega
      go_enter Tryz.func178, Tryz.ntmps178
      go_wp2_with fail
      refine hcon.out.mono ?_
      rintro en w1 ⟨rfl, rfl⟩
      clear x0 x1 x2 x3 f0 f1 f2 f3 hcon hR
      generalize s.extract 1 s.size = s1 at *
      generalize w.setCell ⟨b, 0, none⟩ (.string s1) = w1 at *
      obtain ⟨x0, x1, x2, x3, f0, f1, f2, f3⟩ := hR1.facts
      replace hR1 := Lib.hid hR1
      replace hB1 := Lib.hid hB1
      replace hr1 := Lib.hid hr1
      replace hl := Lib.hid hl
      go_wp2_with fail
      refine (decDigits_any b s1 _ _ _ _ hR1.out hz1).mono ?_
      rintro en w2 ⟨g, r, rfl, hg, hr, hR2, hB2⟩
      clear x0 x1 x2 x3 f0 f1 f2 f3
      obtain ⟨x0, x1, x2, x3, f0, f1, f2, f3⟩ := hR2.facts
      rw [hr1.out] at hg hr
      have hgl : g.size ≤ 1099511627776 := by
        have h1 := congrArg List.length hg
        rw [bytes_len] at h1
        have h2 := twl_le isDig t
        unfold twl at h2
        have h3 := congrArg List.length hl.out
        rw [bytes_len] at h3
        simp at h3
        omega
      have hadd : ∀ W, (Op.stringOp .add d g).run Tryz.prog W = .ok (.string (d ++ g)) W := fun W => run_string_add_sum W _ _ (by omega)
      replace hR2 := Lib.hid ((hR2.setD (d ++ g)).setE (e - g.size))
      replace hB2 := Lib.hid (((hB1.out.trans hB2).setCell (p := ⟨b, 2, none⟩) (Nat.le_refl _) (.string (d ++ g))).setCell (p := ⟨b, 3, none⟩) (Nat.le_refl _) (.int .i64 (e - g.size)))
      replace hg := Lib.hid hg
      replace hr := Lib.hid hr
      have hpl : partL ⟨c :: t, m, d.data.toList, e⟩ = if t.takeWhile isDig = [] then none else some ⟨t.dropWhile isDig, m, d.data.toList ++ t.takeWhile isDig, e - (t.takeWhile isDig).length⟩ := by
        unfold partL; simp only [hc, if_true]
      rcases hgl2 : g.data.toList with _ | ⟨c0, t0⟩
      · have he := isEmpty_t g hgl2
        have hno : partL ⟨c :: t, m, d.data.toList, e⟩ = none := by rw [hpl, if_pos (by rw [← hg.out, hgl2])]
        replace hno := Lib.hid hno
        clear hgl2 hpl
        go_wp2
        go_ret2
        exact StEnd.no hno.out hB2.out
      · have he := isEmpty_f g c0 t0 hgl2
        have hok : partL ⟨c :: t, m, d.data.toList, e⟩ = some ⟨t.dropWhile isDig, m, d.data.toList ++ t.takeWhile isDig, e - (t.takeWhile isDig).length⟩ := by rw [hpl, if_neg (by rw [← hg.out, hgl2]; simp)]
        replace hok := Lib.hid hok
        clear hgl2 hpl
        go_wp2
        go_ret2
        refine StEnd.yes (d' := d ++ g) hok.out hr.out ?_ ?_ hB2.out
        · rw [ByteArray.data_append, Array.toList_append, hg.out]
        · rw [← hg.out, bytes_len]; exact hR2.out
    · have hcon := Lib.hid (decBegins_other b s ⟨#[46]⟩ m d e w hR hs c t hl (by
        have : ¬ c = 46 := fun h => hc (by rw [h]; rfl)
        simpa using this))
      have hok : partL ⟨c :: t, m, d.data.toList, e⟩ = some ⟨c :: t, m, d.data.toList, e⟩ := by unfold partL; simp only [hc, if_false]
      replace hok := Lib.hid hok
      replace hl := Lib.hid hl
      replace hR := Lib.hid hR
      go_enter Tryz.func178, Tryz.ntmps178
      go_wp2_with (go_at_call 176; refine hcon.out.mono ?_; rintro en w' ⟨rfl, rfl⟩)
      go_ret2
      exact StEnd.yes hok.out hl.out rfl hR.out (Below.refl _ _)
end Go.Proofs.YtdjfoabinjfnfaaGreatDoor
