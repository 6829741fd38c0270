/-
  JSON texts read, as plain data. No program.
-/
import Derived.Test.YtlnkjacbdolhnaaGreatDoorM03
import Derived.Test.YtlnkjacbdolhnaaGreatDoorJsV
namespace Go.Proofs.YtlnkjacbdolhnaaGreatDoor

def jblank (c : UInt8) : Bool := c == 32 || c == 9 || c == 10 || c == 13
def jblk (s : List UInt8) : List UInt8 := s.dropWhile jblank
theorem jblk_le (s : List UInt8) : (jblk s).length ≤ s.length := (List.dropWhile_sublist _).length_le
/-- A hex digit. -/
def jhv (c : UInt8) : Option Nat :=
  if 48 ≤ c.toNat ∧ c.toNat ≤ 57 then some (c.toNat - 48) else if 97 ≤ c.toNat ∧ c.toNat ≤ 102 then some (c.toNat - 87) else if 65 ≤ c.toNat ∧ c.toNat ≤ 70 then some (c.toNat - 55) else none
/-- Four hex digits. -/
def junit : List UInt8 → Option (Nat × List UInt8)
  | a :: b :: c :: d :: r => match jhv a, jhv b, jhv c, jhv d with
    | some a, some b, some c, some d => some (((a * 16 + b) * 16 + c) * 16 + d, r)
    | _, _, _, _ => none
  | _ => none
def jpair (a b : Nat) : Option Nat := if 55296 ≤ a ∧ a < 56320 ∧ 56320 ≤ b ∧ b < 57344 then some (65536 + (a - 55296) * 1024 + (b - 56320)) else none
/-- The mark behind a backslash. -/
def jmark (c : UInt8) : Option UInt8 :=
  if c = 34 then some 34 else if c = 92 then some 92 else if c = 47 then some 47 else if c = 98 then some 8 else if c = 102 then some 12 else if c = 110 then some 10 else if c = 114 then some 13 else if c = 116 then some 9 else none
/-- What stands behind a backslash and an u. -/
def jescU (r : List UInt8) : Option (List UInt8 × List UInt8) := match junit r with
  | none => none
  | some (a, r1) => if rput a ≠ [] then some (rput a, r1) else match r1 with
    | 92 :: 117 :: r2 => match junit r2 with
      | none => none
      | some (b, r3) => match jpair a b with
        | none => none
        | some p => some (rput p, r3)
    | _ => none
/-- What stands behind a backslash. -/
def jescape : List UInt8 → Option (List UInt8 × List UInt8)
  | [] => none
  | c :: r => match jmark c with
    | some m => some ([m], r)
    | none => if c = 117 then jescU r else none
theorem junit_lt {s r : List UInt8} {a : Nat} (h : junit s = some (a, r)) : s.length = r.length + 4 ∧ a < 65536 := by
  unfold junit at h
  split at h
  · split at h
    · rename_i a' b' c' d' ha hb hc hd
      injection h with h
      injection h with h1 h2
      subst h1; subst h2
      have hv : ∀ {c : UInt8} {n : Nat}, jhv c = some n → n < 16 := by
        intro c n h
        unfold jhv at h
        split at h
        · injection h with h; omega
        · split at h
          · injection h with h; omega
          · split at h
            · injection h with h; omega
            · cases h
      have := hv ha
      have := hv hb
      have := hv hc
      have := hv hd
      exact ⟨by simp, by omega⟩
    · cases h
  · cases h
theorem jescU_lt {s r t : List UInt8} (h : jescU s = some (t, r)) : r.length < s.length ∧ t.length + r.length ≤ s.length := by
  unfold jescU at h
  split at h
  · cases h
  · rename_i a r1 hu
    have h1 := junit_lt hu
    have hp : ∀ p : Nat, (rput p).length ≤ 4 := by
      intro p
      rw [rput_pos (by omega)]
      rw [List.length_map]
      rcases rputN_cases (Int.toNat p) with h | h | h | h | h <;> (rw [h.1]; simp)
    split at h
    · injection h with h
      injection h with h2 h3
      subst h2; subst h3
      have := hp a
      omega
    · split at h
      · rename_i r2 
        split at h
        · cases h
        · rename_i b r3 hu2
          have h2 := junit_lt hu2
          split at h
          · cases h
          · rename_i p hpp
            injection h with h
            injection h with h3 h4
            subst h3; subst h4
            have := hp p
            simp at h1
            omega
      · cases h
theorem jescape_lt {s r t : List UInt8} (h : jescape s = some (t, r)) : r.length < s.length ∧ t.length + r.length ≤ s.length := by
  unfold jescape at h
  split at h
  · cases h
  · split at h
    · injection h with h
      injection h with h2 h3
      subst h2; subst h3
      simp
      omega
    · split at h
      · have := jescU_lt h
        simp
        omega
      · cases h

/-- The rest of a String's text, behind its first quote. -/
def jstrF (Val : List UInt8 → Bool) : Nat → List UInt8 → List UInt8 → Option (List UInt8 × List UInt8)
  | 0, _, _ => none
  | _ + 1, _, [] => none
  | k + 1, acc, c :: r =>
    if c = 34 then (if Val acc then some (acc, r) else none)
    else if c = 92 then (match jescape r with
      | none => none
      | some (t, r') => jstrF Val k (acc ++ t) r')
    else if c.toNat < 32 then none
    else jstrF Val k (acc ++ [c]) r
theorem jstrF_more (Val : List UInt8 → Bool) : ∀ (k m : Nat) (acc s : List UInt8), s.length < k → s.length < m → jstrF Val k acc s = jstrF Val m acc s
  | 0, _, _, _, h, _ => absurd h (Nat.not_lt_zero _)
  | _ + 1, 0, _, _, _, h => absurd h (Nat.not_lt_zero _)
  | k + 1, m + 1, acc, [], _, _ => rfl
  | k + 1, m + 1, acc, c :: r, h1, h2 => by
    simp only [List.length_cons] at h1 h2
    unfold jstrF
    split
    · rfl
    · split
      · split
        · rfl
        · rename_i t r' he
          have := (jescape_lt he).1
          exact jstrF_more Val k m _ _ (by omega) (by omega)
      · split
        · rfl
        · exact jstrF_more Val k m _ _ (by omega) (by omega)
def jStr (Val : List UInt8 → Bool) (acc s : List UInt8) : Option (List UInt8 × List UInt8) := jstrF Val (s.length + 1) acc s
theorem jStr_nil (Val : List UInt8 → Bool) (acc : List UInt8) : jStr Val acc [] = none := rfl
theorem jStr_quote (Val : List UInt8 → Bool) (acc r : List UInt8) : jStr Val acc (34 :: r) = if Val acc then some (acc, r) else none := by
  unfold jStr jstrF; rw [if_pos rfl]
theorem jStr_esc (Val : List UInt8 → Bool) (acc r : List UInt8) : jStr Val acc (92 :: r) = match jescape r with | none => none | some (t, r') => jStr Val (acc ++ t) r' := by
  conv => lhs; unfold jStr jstrF
  rw [if_neg (by decide), if_pos rfl]
  split
  · rfl
  · rename_i t r' he
    have := (jescape_lt he).1
    exact jstrF_more Val _ _ _ _ (by simp; omega) (by omega)
theorem jStr_low (Val : List UInt8 → Bool) (acc r : List UInt8) {c : UInt8} (h : c.toNat < 32) : jStr Val acc (c :: r) = none := by
  have h1 : c ≠ 34 := fun e => by subst e; simp at h
  have h2 : c ≠ 92 := fun e => by subst e; simp at h
  unfold jStr jstrF
  rw [if_neg h1, if_neg h2, if_pos h]
theorem jStr_else (Val : List UInt8 → Bool) (acc r : List UInt8) {c : UInt8} (h1 : c ≠ 34) (h2 : c ≠ 92) (h : ¬ c.toNat < 32) : jStr Val acc (c :: r) = jStr Val (acc ++ [c]) r := by
  conv => lhs; unfold jStr jstrF
  rw [if_neg h1, if_neg h2, if_neg h]
  exact jstrF_more Val _ _ _ _ (by simp) (by omega)
theorem jstrF_lt (Val : List UInt8 → Bool) : ∀ (k : Nat) (acc s t r : List UInt8), jstrF Val k acc s = some (t, r) → r.length < s.length ∧ t.length + r.length ≤ acc.length + s.length
  | 0, _, _, _, _, h => by cases h
  | k + 1, acc, [], _, _, h => by cases h
  | k + 1, acc, c :: s, t, r, h => by
    unfold jstrF at h
    split at h
    · split at h
      · injection h with h; injection h with h1 h2; subst h1; subst h2; simp
      · cases h
    · split at h
      · split at h
        · cases h
        · rename_i t' r' he
          have h1 := jescape_lt he
          have h2 := jstrF_lt Val k _ _ _ _ h
          simp at h2 ⊢
          omega
      · split at h
        · cases h
        · have h2 := jstrF_lt Val k _ _ _ _ h
          simp at h2 ⊢
          omega
theorem jStr_lt (Val : List UInt8 → Bool) {acc s t r : List UInt8} (h : jStr Val acc s = some (t, r)) : r.length < s.length ∧ t.length + r.length ≤ acc.length + s.length := jstrF_lt Val _ _ _ _ _ h

/-- The bytes of a number. -/
def jnumc (c : UInt8) : Bool := (decide (48 ≤ c.toNat) && decide (c.toNat ≤ 57)) || c == 43 || c == 45 || c == 46 || c == 101 || c == 69
/-- Things with commas between, up to a bracket. -/
def jloopF {σ : Type} (one : σ → List UInt8 → Except Int (σ × List UInt8)) (b : UInt8) : Nat → σ → List UInt8 → Except Int (σ × List UInt8)
  | 0, _, _ => .error 4
  | k + 1, st, s => match one st (jblk s) with
    | .error e => .error e
    | .ok (st', s') => match jblk s' with
      | [] => .error 4
      | c :: r => if c = 44 then jloopF one b k st' r else if c = b then .ok (st', r) else .error 4
def Shorter {σ : Type} (one : σ → List UInt8 → Except Int (σ × List UInt8)) : Prop := ∀ st s st' s', one st s = .ok (st', s') → s'.length ≤ s.length
theorem jloopF_more {σ : Type} {one : σ → List UInt8 → Except Int (σ × List UInt8)} (h : Shorter one) (b : UInt8) : ∀ (k m : Nat) (st : σ) (s : List UInt8), s.length < k → s.length < m → jloopF one b k st s = jloopF one b m st s
  | 0, _, _, _, h, _ => absurd h (Nat.not_lt_zero _)
  | _ + 1, 0, _, _, _, h => absurd h (Nat.not_lt_zero _)
  | k + 1, m + 1, st, s, h1, h2 => by
    unfold jloopF
    split
    · rfl
    · rename_i st' s' ho
      have h3 := h _ _ _ _ ho
      have h4 := jblk_le s
      split
      · rfl
      · rename_i c r hb
        have h5 := jblk_le s'
        rw [hb] at h5
        simp at h5
        split
        · exact jloopF_more h b k m _ _ (by omega) (by omega)
        · rfl
def jLoop {σ : Type} (one : σ → List UInt8 → Except Int (σ × List UInt8)) (b : UInt8) (st : σ) (s : List UInt8) : Except Int (σ × List UInt8) := jloopF one b (s.length + 1) st s
theorem jLoop_eq {σ : Type} {one : σ → List UInt8 → Except Int (σ × List UInt8)} (h : Shorter one) (b : UInt8) (st : σ) (s : List UInt8) : jLoop one b st s = match one st (jblk s) with
    | .error e => .error e
    | .ok (st', s') => match jblk s' with
      | [] => .error 4
      | c :: r => if c = 44 then jLoop one b st' r else if c = b then .ok (st', r) else .error 4 := by
  conv => lhs; unfold jLoop jloopF
  split
  · rfl
  · rename_i st' s' ho
    have h3 := h _ _ _ _ ho
    have h4 := jblk_le s
    split
    · rfl
    · rename_i c r hb
      have h5 := jblk_le s'
      rw [hb] at h5
      simp at h5
      split
      · exact jloopF_more h b _ _ _ _ (by omega) (by omega)
      · rfl
theorem jloopF_shorter {σ : Type} {one : σ → List UInt8 → Except Int (σ × List UInt8)} (h : Shorter one) (b : UInt8) : ∀ (k : Nat) (st : σ) (s : List UInt8) (st' : σ) (s' : List UInt8), jloopF one b k st s = .ok (st', s') → s'.length < s.length
  | 0, _, _, _, _, h => by cases h
  | k + 1, st, s, st', s', he => by
    unfold jloopF at he
    split at he
    · cases he
    · rename_i st1 s1 ho
      have h3 := h _ _ _ _ ho
      have h4 := jblk_le s
      split at he
      · cases he
      · rename_i c r hb
        have h5 := jblk_le s1
        rw [hb] at h5
        simp at h5
        split at he
        · have := jloopF_shorter h b k _ _ _ _ he
          omega
        · split at he
          · injection he with he
            injection he with h6 h7
            subst h7
            omega
          · cases he
/-- What stands in an Array, or an Object, behind its first bracket. -/
def jList {σ : Type} (one : σ → List UInt8 → Except Int (σ × List UInt8)) (b : UInt8) (st : σ) (s : List UInt8) : Except Int (σ × List UInt8) :=
  match jblk s with
  | [] => jLoop one b st []
  | c :: r => if c = b then .ok (st, r) else jLoop one b st (c :: r)
theorem jList_shorter {σ : Type} {one : σ → List UInt8 → Except Int (σ × List UInt8)} (h : Shorter one) (b : UInt8) {st : σ} {s : List UInt8} {st' : σ} {s' : List UInt8} (he : jList one b st s = .ok (st', s')) : s'.length < s.length := by
  unfold jList at he
  have h4 := jblk_le s
  split at he
  · have := jloopF_shorter h b _ _ _ _ _ he
    simp at this
  · rename_i c r hb
    rw [hb] at h4
    split at he
    · injection he with he
      injection he with h6 h7
      subst h7
      simp at h4
      omega
    · have := jloopF_shorter h b _ _ _ _ _ he
      omega
theorem jloopF_items {σ : Type} {P : σ → Prop} {one : σ → List UInt8 → Except Int (σ × List UInt8)} (hp : ∀ st s st' s', one st s = .ok (st', s') → P st → P st') (b : UInt8) : ∀ (k : Nat) (st : σ) (s : List UInt8) (st' : σ) (s' : List UInt8), jloopF one b k st s = .ok (st', s') → P st → P st'
  | 0, _, _, _, _, h, _ => by cases h
  | k + 1, st, s, st', s', he, h0 => by
    unfold jloopF at he
    split at he
    · cases he
    · rename_i st1 s1 ho
      have h3 := hp _ _ _ _ ho h0
      split at he
      · cases he
      · split at he
        · exact jloopF_items hp b k _ _ _ _ he h3
        · split at he
          · injection he with he
            injection he with h6 h7
            subst h6
            exact h3
          · cases he
theorem jList_items {σ : Type} {P : σ → Prop} {one : σ → List UInt8 → Except Int (σ × List UInt8)} (_h : Shorter one) (hp : ∀ st s st' s', one st s = .ok (st', s') → P st → P st') (b : UInt8) {st : σ} {s : List UInt8} {st' : σ} {s' : List UInt8} (he : jList one b st s = .ok (st', s')) (h0 : P st) : P st' := by
  unfold jList at he
  split at he
  · exact jloopF_items hp b _ _ _ _ _ he h0
  · split at he
    · injection he with he
      injection he with h6 h7
      subst h6
      exact h0
    · exact jloopF_items hp b _ _ _ _ _ he h0
def ofL (l : List UInt8) : ByteArray := ⟨l.toArray⟩
abbrev JR := Except Int (Jsn × Nat × List UInt8)
abbrev SA := Nat × List Jsn
abbrev SO := Nat × List ByteArray × List Jsn
/-- One item of an Array. -/
def jitA (val : Nat → List UInt8 → JR) (st : SA) (s : List UInt8) : Except Int (SA × List UInt8) := match val st.1 s with
  | .error e => .error e
  | .ok (j, it, r) => .ok ((it, st.2 ++ [j]), r)
/-- One member of an Object. -/
def jitO (Val : List UInt8 → Bool) (val : Nat → List UInt8 → JR) (st : SO) (s : List UInt8) : Except Int (SO × List UInt8) := match s with
  | 34 :: s1 => match jStr Val [] s1 with
    | none => .error 4
    | some (n, s2) => if (st.2.1.any fun b => decide (b = ofL n)) = true then .error 6 else match jblk s2 with
      | 58 :: s3 => match val st.1 (jblk s3) with
        | .error e => .error e
        | .ok (j, it, r) => .ok ((it, st.2.1 ++ [ofL n], st.2.2 ++ [j]), r)
      | _ => .error 4
  | _ => .error 4
/-- A value; f: how many more may stand within one another; it: how many there were. -/
def jval (Own : List UInt8 → List UInt8 × Int) (Val : List UInt8 → Bool) : Nat → Nat → List UInt8 → JR
  | 0, _, _ => .error 61
  | f + 1, it, s =>
    if 65536 < it + 1 then .error 40
    else if [110, 117, 108, 108].isPrefixOf s then .ok (⟨1, ofL [], [], []⟩, it + 1, s.drop 4)
    else if [116, 114, 117, 101].isPrefixOf s then .ok (⟨2, ofL [], [], []⟩, it + 1, s.drop 4)
    else if [102, 97, 108, 115, 101].isPrefixOf s then .ok (⟨3, ofL [], [], []⟩, it + 1, s.drop 5)
    else if [34].isPrefixOf s then match jStr Val [] (s.drop 1) with
      | none => .error 4
      | some (t, r) => .ok (⟨5, ofL t, [], []⟩, it + 1, r)
    else if [91].isPrefixOf s then match jList (jitA fun it s => jval Own Val f it s) 93 (it + 1, []) (s.drop 1) with
      | .error e => .error e
      | .ok (st, r) => .ok (⟨6, ofL [], [], st.2⟩, st.1, r)
    else if [123].isPrefixOf s then match jList (jitO Val fun it s => jval Own Val f it s) 125 (it + 1, [], []) (s.drop 1) with
      | .error e => .error e
      | .ok (st, r) => .ok (⟨7, ofL [], st.2.1, st.2.2⟩, st.1, r)
    else if (Own (s.takeWhile jnumc)).2 = 0 then .ok (⟨4, ofL (Own (s.takeWhile jnumc)).1, [], []⟩, it + 1, s.dropWhile jnumc)
    else .error (Own (s.takeWhile jnumc)).2
def jparse (Own : List UInt8 → List UInt8 × Int) (Val : List UInt8 → Bool) (s : List UInt8) : Except Int Jsn :=
  if 262144 < s.length then .error 40
  else match jval Own Val 64 0 (jblk s) with
    | .error e => .error e
    | .ok (j, _, r) => if jblk r = [] then .ok j else .error 4
theorem jval_shorter (Own : List UInt8 → List UInt8 × Int) (Val : List UInt8 → Bool) : ∀ (f it : Nat) (s : List UInt8) (j : Jsn) (it' : Nat) (r : List UInt8), jval Own Val f it s = .ok (j, it', r) → r.length ≤ s.length ∧ it < it'
  | 0, _, _, _, _, _, h => by cases h
  | f + 1, it, s, j, it', r, h => by
    have hA : Shorter (jitA fun it s => jval Own Val f it s) := by
      intro st s st' s' h
      unfold jitA at h
      split at h
      · cases h
      · rename_i hv
        injection h with h
        injection h with h1 h2
        subst h2
        exact (jval_shorter Own Val f _ _ _ _ _ hv).1
    have hO : Shorter (jitO Val fun it s => jval Own Val f it s) := by
      intro st s st' s' h
      unfold jitO at h
      split at h
      · split at h
        · cases h
        · rename_i s1 n s2 hn
          have h1 := (jStr_lt Val hn).1
          split at h
          · cases h
          · split at h
            · rename_i s3 hb
              have h2 := jblk_le s2
              have h3 := jblk_le s3
              rw [hb] at h2
              split at h
              · cases h
              · rename_i hv
                have h4 := (jval_shorter Own Val f _ _ _ _ _ hv).1
                injection h with h
                injection h with h5 h6
                subst h6
                simp at h2 ⊢
                omega
            · cases h
      · cases h
    have hd : ∀ k, (s.drop k).length ≤ s.length := fun k => by simp
    unfold jval at h
    split at h
    · cases h
    · split at h
      · injection h with h; injection h with h1 h2; injection h2 with h2 h3; subst h2; subst h3; exact ⟨hd _, by omega⟩
      · split at h
        · injection h with h; injection h with h1 h2; injection h2 with h2 h3; subst h2; subst h3; exact ⟨hd _, by omega⟩
        · split at h
          · injection h with h; injection h with h1 h2; injection h2 with h2 h3; subst h2; subst h3; exact ⟨hd _, by omega⟩
          · split at h
            · split at h
              · cases h
              · rename_i hs
                injection h with h; injection h with h1 h2; injection h2 with h2 h3; subst h2; subst h3
                have := (jStr_lt Val hs).1
                have := hd 1
                exact ⟨by omega, by omega⟩
            · split at h
              · split at h
                · cases h
                · rename_i st r' hl
                  injection h with h; injection h with h1 h2; injection h2 with h2 h3; subst h2; subst h3
                  have := jList_shorter hA 93 hl
                  have := hd 1
                  refine ⟨by omega, ?_⟩
                  have := jList_items (P := fun st : SA => it < st.1) hA (fun st s st' s' ho hp => ?_) 93 hl (by simp)
                  · exact this
                  · unfold jitA at ho
                    split at ho
                    · cases ho
                    · rename_i hv
                      have h4 := (jval_shorter Own Val f _ _ _ _ _ hv).2
                      injection ho with ho
                      injection ho with h5 h6
                      subst h5
                      simp only at hp ⊢
                      omega
              · split at h
                · split at h
                  · cases h
                  · rename_i st r' hl
                    injection h with h; injection h with h1 h2; injection h2 with h2 h3; subst h2; subst h3
                    have := jList_shorter hO 125 hl
                    have := hd 1
                    refine ⟨by omega, ?_⟩
                    have := jList_items (P := fun st : SO => it < st.1) hO (fun st s st' s' ho hp => ?_) 125 hl (by simp)
                    · exact this
                    · unfold jitO at ho
                      split at ho
                      · split at ho
                        · cases ho
                        · split at ho
                          · cases ho
                          · split at ho
                            · split at ho
                              · cases ho
                              · rename_i hv
                                have h4 := (jval_shorter Own Val f _ _ _ _ _ hv).2
                                injection ho with ho
                                injection ho with h5 h6
                                subst h5
                                simp only at hp ⊢
                                omega
                            · cases ho
                      · cases ho
                · split at h
                  · injection h with h; injection h with h1 h2; injection h2 with h2 h3; subst h2; subst h3
                    exact ⟨(List.dropWhile_sublist _).length_le, by omega⟩
                  · cases h
end Go.Proofs.YtlnkjacbdolhnaaGreatDoor


/-
  What is printed is read as it was, with blanks between what it is made of. No program.
-/
namespace Go.Proofs.YtlnkjacbdolhnaaGreatDoor

theorem shorterA {Own : List UInt8 → List UInt8 × Int} {Val : List UInt8 → Bool} (f : Nat) : Shorter (jitA fun it s => jval Own Val f it s) := by
  intro st s st' s' h
  unfold jitA at h
  split at h
  · cases h
  · rename_i hv
    injection h with h
    injection h with h1 h2
    subst h2
    exact (jval_shorter Own Val f _ _ _ _ _ hv).1
theorem shorterO {Own : List UInt8 → List UInt8 × Int} {Val : List UInt8 → Bool} (f : Nat) : Shorter (jitO Val fun it s => jval Own Val f it s) := by
  intro st s st' s' h
  unfold jitO at h
  split at h
  · split at h
    · cases h
    · rename_i s1 n s2 hn
      have h1 := (jStr_lt Val hn).1
      split at h
      · cases h
      · split at h
        · rename_i s3 hb
          have h2 := jblk_le s2
          have h3 := jblk_le s3
          rw [hb] at h2
          split at h
          · cases h
          · rename_i hv
            have h4 := (jval_shorter Own Val f _ _ _ _ _ hv).1
            injection h with h
            injection h with h5 h6
            subst h6
            simp at h2 ⊢
            omega
        · cases h
  · cases h

theorem jescape_cons (c : UInt8) (r : List UInt8) : jescape (c :: r) = match jmark c with | some m => some ([m], r) | none => if c = 117 then jescU r else none := rfl
/-! ### Blanks -/
def Bk (b : List UInt8) : Prop := ∀ c ∈ b, jblank c = true
/-- What follows an item: blanks, and the end, or a comma and the next one. -/
def ArrT (e : UInt8) : List (List UInt8 → Prop) → List UInt8 → Prop
  | [], t => ∃ b, Bk b ∧ t = b ++ [e]
  | p :: ps, t => ∃ b b' x t', Bk b ∧ Bk b' ∧ p x ∧ ArrT e ps t' ∧ t = b ++ 44 :: (b' ++ x ++ t')
def ArrA (e : UInt8) : List (List UInt8 → Prop) → List UInt8 → Prop
  | [], t => ∃ b, Bk b ∧ t = b ++ [e]
  | p :: ps, t => ∃ b x t', Bk b ∧ p x ∧ ArrT e ps t' ∧ t = b ++ x ++ t'
def MemB (nm : ByteArray) (p : List UInt8 → Prop) (t : List UInt8) : Prop := ∃ b b' x, Bk b ∧ Bk b' ∧ p x ∧ t = jquote nm.data.toList ++ b ++ 58 :: (b' ++ x)
/-- A value's text, with blanks between what it is made of. -/
def JB : Jsn → List UInt8 → Prop := Jsn.para fun k s n l t =>
  if k = 6 then ∃ t', ArrA 93 (l.map (·.2)) t' ∧ t = 91 :: t' else if k = 7 then ∃ t', ArrA 125 (List.zipWith MemB n (l.map (·.2))) t' ∧ t = 123 :: t' else t = jtext1 k s n []
def OwnNumJ (Own : List UInt8 → List UInt8 × Int) : Prop := ∀ l, Own l = (l, 0) → l ≠ [] ∧ ∀ c ∈ l, jnumc c = true
def NoNum (r : List UInt8) : Prop := ∀ c t, r = c :: t → jnumc c = false
/-- How a value's text begins. -/
def HeadOK (t : List UInt8) : Prop := ∃ c u, t = c :: u ∧ jblank c = false ∧ c ≠ 93 ∧ c ≠ 125
/-! ### A value's text, read -/
def ReadsJ (Own : List UInt8 → List UInt8 × Int) (Val : List UInt8 → Bool) (j : Jsn) : Prop := ∀ (f it : Nat) (t r : List UInt8), JB j t → jform Own Val j = true → jtwice j = false → jdeep j ≤ f → it + jcount j ≤ 65536 → NoNum r →
  jval Own Val f it (t ++ r) = .ok (j, it + jcount j, r)
/-- What is read behind an item. -/
def jcont {σ : Type} (one : σ → List UInt8 → Except Int (σ × List UInt8)) (b : UInt8) (st : σ) (s : List UInt8) : Except Int (σ × List UInt8) := match jblk s with
  | [] => .error 4
  | c :: r => if c = 44 then jLoop one b st r else if c = b then .ok (st, r) else .error 4
theorem ofL_toList (n : ByteArray) : ofL n.data.toList = n := by unfold ofL; simp
end Go.Proofs.YtlnkjacbdolhnaaGreatDoor
