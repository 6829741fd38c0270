/-
  Plain facts on characters: the document's Put, bits and Rune as functions of bytes, and that a text is valid in the document's words just if it is so in the library's. No program.
-/
import Derived.Lib.ValidLaws
namespace Go.Proofs.YthmojpcaagnfkaaGreatDoor

/-- A code point's bytes, as numbers. -/
def rputN (p : Nat) : List Nat :=
  if 1114111 < p ∨ (55296 ≤ p ∧ p ≤ 57343) then []
  else if p < 128 then [p]
  else if p < 2048 then [192 + p / 64, 128 + p % 64]
  else if p < 65536 then [224 + p / 4096, 128 + p / 64 % 64, 128 + p % 64]
  else [240 + p / 262144, 128 + p / 4096 % 64, 128 + p / 64 % 64, 128 + p % 64]
def rput (p : Int) : List UInt8 := if p < 0 then [] else (rputN p.toNat).map UInt8.ofNat
/-- What the bytes would be of. -/
def rhead (n : Nat) : Int := if n = 2 then 192 else if n = 3 then 224 else if n = 4 then 240 else 0
def rbits : List UInt8 → Int
  | [] => 0
  | a :: t => t.foldl (fun o b => o * 64 + b.toNat - 128) ((a.toNat : Int) - rhead (t.length + 1))
/-- Are the first k bytes a character's? -/
def rok (l : List UInt8) (k : Nat) : Bool := decide (0 ≤ rbits (l.take k)) && decide (rput (rbits (l.take k)) = l.take k)
/-- The first character. -/
def rrune (l : List UInt8) : Int × Nat :=
  if l = [] then (-1, 0)
  else if rok l 1 = true then (rbits (l.take 1), 1)
  else if 2 ≤ l.length ∧ rok l 2 = true then (rbits (l.take 2), 2)
  else if 3 ≤ l.length ∧ rok l 3 = true then (rbits (l.take 3), 3)
  else if 4 ≤ l.length ∧ rok l 4 = true then (rbits (l.take 4), 4)
  else (-1, 1)

theorem ofNat_eq {x : Nat} {a : UInt8} (hx : x < 256) : UInt8.ofNat x = a ↔ x = a.toNat := by
  constructor
  · rintro rfl; rw [UInt8.toNat_ofNat']; omega
  · rintro rfl; simp
theorem rput_neg {p : Int} (h : p < 0) : rput p = [] := by unfold rput; rw [if_pos h]
theorem rput_pos {p : Int} (h : 0 ≤ p) : rput p = (rputN p.toNat).map UInt8.ofNat := by unfold rput; rw [if_neg (by omega)]
theorem rputN_1 {p : Nat} (h : p < 128) : rputN p = [p] := by
  unfold rputN; rw [if_neg (by omega), if_pos h]
theorem rputN_2 {p : Nat} (h : 128 ≤ p) (h2 : p < 2048) : rputN p = [192 + p / 64, 128 + p % 64] := by
  unfold rputN; rw [if_neg (by omega), if_neg (by omega), if_pos h2]
theorem rputN_3 {p : Nat} (h : 2048 ≤ p) (h2 : p < 65536) (h3 : ¬ (55296 ≤ p ∧ p ≤ 57343)) : rputN p = [224 + p / 4096, 128 + p / 64 % 64, 128 + p % 64] := by
  unfold rputN; rw [if_neg (by omega), if_neg (by omega), if_neg (by omega), if_pos h2]
theorem rputN_4 {p : Nat} (h : 65536 ≤ p) (h2 : p ≤ 1114111) : rputN p = [240 + p / 262144, 128 + p / 4096 % 64, 128 + p / 64 % 64, 128 + p % 64] := by
  unfold rputN; rw [if_neg (by omega), if_neg (by omega), if_neg (by omega), if_neg (by omega)]
theorem rputN_0 {p : Nat} (h : 1114111 < p ∨ (55296 ≤ p ∧ p ≤ 57343)) : rputN p = [] := by
  unfold rputN; rw [if_pos h]
/-- How a code point's bytes go by its size. -/
theorem rputN_cases (p : Nat) : (rputN p = [] ∧ (1114111 < p ∨ (55296 ≤ p ∧ p ≤ 57343))) ∨ (rputN p = [p] ∧ p < 128) ∨ (rputN p = [192 + p / 64, 128 + p % 64] ∧ 128 ≤ p ∧ p < 2048) ∨
    (rputN p = [224 + p / 4096, 128 + p / 64 % 64, 128 + p % 64] ∧ 2048 ≤ p ∧ p < 65536 ∧ ¬ (55296 ≤ p ∧ p ≤ 57343)) ∨
    (rputN p = [240 + p / 262144, 128 + p / 4096 % 64, 128 + p / 64 % 64, 128 + p % 64] ∧ 65536 ≤ p ∧ p ≤ 1114111) := by
  by_cases h0 : 1114111 < p ∨ (55296 ≤ p ∧ p ≤ 57343)
  · exact .inl ⟨rputN_0 h0, h0⟩
  by_cases h1 : p < 128
  · exact .inr (.inl ⟨rputN_1 h1, h1⟩)
  by_cases h2 : p < 2048
  · exact .inr (.inr (.inl ⟨rputN_2 (by omega) h2, by omega, h2⟩))
  by_cases h3 : p < 65536
  · exact .inr (.inr (.inr (.inl ⟨rputN_3 (by omega) h3 (by omega), by omega, h3, by omega⟩)))
  · exact .inr (.inr (.inr (.inr ⟨rputN_4 (by omega) (by omega), by omega, by omega⟩)))

theorem rok1 (a : UInt8) (t : List UInt8) : rok (a :: t) 1 = true ↔ a.toNat < 128 := by
  have hb : rbits ((a :: t).take 1) = a.toNat := by simp [rbits, rhead]
  have ht : (a :: t).take 1 = [a] := by simp
  unfold rok
  rw [hb, ht, Bool.and_eq_true, decide_eq_true_eq, decide_eq_true_eq, rput_pos (by omega), Int.toNat_natCast]
  have ha := a.toNat_lt
  rcases rputN_cases a.toNat with ⟨h, _⟩ | ⟨h, h1⟩ | ⟨h, h1, h2⟩ | ⟨h, h1, h2⟩ | ⟨h, h1, h2⟩ <;> rw [h] <;> simp <;> omega
theorem rok2 (a b : UInt8) (t : List UInt8) : rok (a :: b :: t) 2 = true ↔ (194 ≤ a.toNat ∧ a.toNat ≤ 223 ∧ 128 ≤ b.toNat ∧ b.toNat ≤ 191) := by
  have ht : (a :: b :: t).take 2 = [a, b] := by simp
  obtain ⟨p, hp⟩ : ∃ p, rbits [a, b] = p := ⟨_, rfl⟩
  have hp2 : p = ((a.toNat : Int) - 192) * 64 + b.toNat - 128 := by rw [← hp]; simp [rbits, rhead]
  unfold rok
  rw [ht, hp, Bool.and_eq_true, decide_eq_true_eq, decide_eq_true_eq]
  have ha := a.toNat_lt
  have hb := b.toNat_lt
  constructor
  · rintro ⟨h0, h⟩
    obtain ⟨q, rfl⟩ := Int.eq_ofNat_of_zero_le h0
    rw [rput_pos h0, Int.toNat_natCast] at h
    rcases rputN_cases q with ⟨e, _⟩ | ⟨e, _⟩ | ⟨e, h1, h2⟩ | ⟨e, h1, h2⟩ | ⟨e, h1, h2⟩ <;> rw [e] at h <;> simp only [List.map_cons, List.map_nil, List.cons.injEq, reduceCtorEq, and_false, and_true] at h
    rw [ofNat_eq (by omega), ofNat_eq (by omega)] at h
    omega
  · intro h
    obtain ⟨q, rfl⟩ := Int.eq_ofNat_of_zero_le (show 0 ≤ p by omega)
    refine ⟨by omega, ?_⟩
    rw [rput_pos (by omega), Int.toNat_natCast, rputN_2 (by omega) (by omega)]
    simp only [List.map_cons, List.map_nil, List.cons.injEq, and_true]
    rw [ofNat_eq (by omega), ofNat_eq (by omega)]
    omega
/-- Three bytes of a character; four. -/
def R3 (a b c : Nat) : Prop := 224 ≤ a ∧ a ≤ 239 ∧ 128 ≤ b ∧ b ≤ 191 ∧ 128 ≤ c ∧ c ≤ 191 ∧ (a = 224 → 160 ≤ b) ∧ (a = 237 → b ≤ 159)
def R4 (a b c d : Nat) : Prop := 240 ≤ a ∧ a ≤ 244 ∧ 128 ≤ b ∧ b ≤ 191 ∧ 128 ≤ c ∧ c ≤ 191 ∧ 128 ≤ d ∧ d ≤ 191 ∧ (a = 240 → 144 ≤ b) ∧ (a = 244 → b ≤ 143)
theorem rok3 (a b c : UInt8) (t : List UInt8) : rok (a :: b :: c :: t) 3 = true ↔ R3 a.toNat b.toNat c.toNat := by
  have ht : (a :: b :: c :: t).take 3 = [a, b, c] := by simp
  obtain ⟨p, hp⟩ : ∃ p, rbits [a, b, c] = p := ⟨_, rfl⟩
  have hp2 : p = (((a.toNat : Int) - 224) * 64 + b.toNat - 128) * 64 + c.toNat - 128 := by rw [← hp]; simp [rbits, rhead]
  unfold rok R3
  rw [ht, hp, Bool.and_eq_true, decide_eq_true_eq, decide_eq_true_eq]
  have ha := a.toNat_lt
  have hb := b.toNat_lt
  have hc := c.toNat_lt
  constructor
  · rintro ⟨h0, h⟩
    obtain ⟨q, rfl⟩ := Int.eq_ofNat_of_zero_le h0
    rw [rput_pos h0, Int.toNat_natCast] at h
    rcases rputN_cases q with ⟨e, _⟩ | ⟨e, _⟩ | ⟨e, h1, h2⟩ | ⟨e, h1, h2, h3⟩ | ⟨e, h1, h2⟩ <;> rw [e] at h <;> simp only [List.map_cons, List.map_nil, List.cons.injEq, reduceCtorEq, and_false, and_true] at h
    rw [ofNat_eq (by omega), ofNat_eq (by omega), ofNat_eq (by omega)] at h
    omega
  · intro h
    obtain ⟨q, rfl⟩ := Int.eq_ofNat_of_zero_le (show 0 ≤ p by omega)
    refine ⟨by omega, ?_⟩
    rw [rput_pos (by omega), Int.toNat_natCast, rputN_3 (by omega) (by omega) (by omega)]
    simp only [List.map_cons, List.map_nil, List.cons.injEq, and_true]
    rw [ofNat_eq (by omega), ofNat_eq (by omega), ofNat_eq (by omega)]
    omega
theorem rok4 (a b c d : UInt8) (t : List UInt8) : rok (a :: b :: c :: d :: t) 4 = true ↔ R4 a.toNat b.toNat c.toNat d.toNat := by
  have ht : (a :: b :: c :: d :: t).take 4 = [a, b, c, d] := by simp
  obtain ⟨p, hp⟩ : ∃ p, rbits [a, b, c, d] = p := ⟨_, rfl⟩
  have hp2 : p = ((((a.toNat : Int) - 240) * 64 + b.toNat - 128) * 64 + c.toNat - 128) * 64 + d.toNat - 128 := by rw [← hp]; simp [rbits, rhead]
  unfold rok R4
  rw [ht, hp, Bool.and_eq_true, decide_eq_true_eq, decide_eq_true_eq]
  have ha := a.toNat_lt
  have hb := b.toNat_lt
  have hc := c.toNat_lt
  have hd := d.toNat_lt
  constructor
  · rintro ⟨h0, h⟩
    obtain ⟨q, rfl⟩ := Int.eq_ofNat_of_zero_le h0
    rw [rput_pos h0, Int.toNat_natCast] at h
    rcases rputN_cases q with ⟨e, _⟩ | ⟨e, _⟩ | ⟨e, h1, h2⟩ | ⟨e, h1, h2, h3⟩ | ⟨e, h1, h2⟩ <;> rw [e] at h <;> simp only [List.map_cons, List.map_nil, List.cons.injEq, reduceCtorEq, and_false, and_true] at h
    rw [ofNat_eq (by omega), ofNat_eq (by omega), ofNat_eq (by omega), ofNat_eq (by omega)] at h
    omega
  · intro h
    obtain ⟨q, rfl⟩ := Int.eq_ofNat_of_zero_le (show 0 ≤ p by omega)
    refine ⟨by omega, ?_⟩
    rw [rput_pos (by omega), Int.toNat_natCast, rputN_4 (by omega) (by omega)]
    simp only [List.map_cons, List.map_nil, List.cons.injEq, and_true]
    rw [ofNat_eq (by omega), ofNat_eq (by omega), ofNat_eq (by omega), ofNat_eq (by omega)]
    omega

theorem dec1 (n b0 b1 b2 b3 : Nat) (h : b0 < 128) : Lib.decodeN n b0 b1 b2 b3 = (b0, 1) := by unfold Lib.decodeN; rw [if_pos h]
theorem dec2 (n b0 b1 b2 b3 : Nat) (hn : 1 < n) (h : 194 ≤ b0 ∧ b0 ≤ 223 ∧ 128 ≤ b1 ∧ b1 ≤ 191) : (Lib.decodeN n b0 b1 b2 b3).2 = 2 := by
  unfold Lib.decodeN; rw [if_neg (by omega), if_pos (by omega), if_pos (by omega)]
theorem dec3 (n b0 b1 b2 b3 : Nat) (hn : 2 < n) (h : R3 b0 b1 b2) : (Lib.decodeN n b0 b1 b2 b3).2 = 3 := by
  unfold R3 at h
  unfold Lib.decodeN; rw [if_neg (by omega), if_neg (by omega), if_pos (by omega), if_pos (by omega)]
theorem dec4 (n b0 b1 b2 b3 : Nat) (hn : 3 < n) (h : R4 b0 b1 b2 b3) : (Lib.decodeN n b0 b1 b2 b3).2 = 4 := by
  unfold R4 at h
  unfold Lib.decodeN; rw [if_neg (by omega), if_neg (by omega), if_neg (by omega), if_pos (by omega), if_pos (by omega)]
theorem dec0 (n b0 b1 b2 b3 : Nat) (h0 : b0 < 256) (h1 : b1 < 256) (h2 : b2 < 256) (h3 : b3 < 256) (n1 : ¬ b0 < 128) (n2 : ¬ (1 < n ∧ 194 ≤ b0 ∧ b0 ≤ 223 ∧ 128 ≤ b1 ∧ b1 ≤ 191)) (n3 : ¬ (2 < n ∧ R3 b0 b1 b2)) (n4 : ¬ (3 < n ∧ R4 b0 b1 b2 b3)) : Lib.decodeN n b0 b1 b2 b3 = (65533, 1) := by
  unfold R3 at n3
  unfold R4 at n4
  unfold Lib.decodeN
  rw [if_neg n1]
  by_cases c2 : b0 / 32 = 6 ∧ (1 < n ∧ b1 / 64 = 2)
  · rw [if_pos c2, if_neg (by omega)]
  rw [if_neg c2]
  by_cases c3 : b0 / 16 = 14 ∧ (1 < n ∧ b1 / 64 = 2) ∧ (2 < n ∧ b2 / 64 = 2)
  · rw [if_pos c3, if_neg (by omega)]
  rw [if_neg c3]
  by_cases c4 : b0 / 8 = 30 ∧ (1 < n ∧ b1 / 64 = 2) ∧ (2 < n ∧ b2 / 64 = 2) ∧ (3 < n ∧ b3 / 64 = 2)
  · rw [if_pos c4, if_neg (by omega)]
  rw [if_neg c4]

theorem rrune_1 {l : List UInt8} (hne : l ≠ []) (h : rok l 1 = true) : rrune l = (rbits (l.take 1), 1) := by unfold rrune; rw [if_neg hne, if_pos h]
theorem rok_pos {l : List UInt8} {k : Nat} (h : rok l k = true) : 0 ≤ rbits (l.take k) := by unfold rok at h; rw [Bool.and_eq_true, decide_eq_true_eq] at h; exact h.1
/-- What the first character is. -/
theorem rrune_cases (l : List UInt8) (hne : l ≠ []) :
    (∃ k, 1 ≤ k ∧ k ≤ 4 ∧ k ≤ l.length ∧ rok l k = true ∧ rrune l = (rbits (l.take k), k) ∧ (Lib.decodeL l).2 = k ∧ ¬ ((Lib.decodeL l).1 = 65533 ∧ (Lib.decodeL l).2 = 1)) ∨
    (rrune l = (-1, 1) ∧ Lib.decodeL l = (65533, 1)) := by
  have h0 := (l.getD 0 0).toNat_lt
  have h1 := (l.getD 1 0).toNat_lt
  have h2 := (l.getD 2 0).toNat_lt
  have h3 := (l.getD 3 0).toNat_lt
  have hl : 1 ≤ l.length := List.length_pos_iff.2 hne
  have k1 : rok l 1 = true ↔ (l.getD 0 0).toNat < 128 := by
    match l, hne with
    | a :: t, _ => exact rok1 a t
  have k2 : (2 ≤ l.length ∧ rok l 2 = true) ↔ (1 < l.length ∧ 194 ≤ (l.getD 0 0).toNat ∧ (l.getD 0 0).toNat ≤ 223 ∧ 128 ≤ (l.getD 1 0).toNat ∧ (l.getD 1 0).toNat ≤ 191) := by
    match l, hne with
    | [a], _ => simp
    | a :: b :: t, _ => rw [rok2]; simp
  have k3 : (3 ≤ l.length ∧ rok l 3 = true) ↔ (2 < l.length ∧ R3 (l.getD 0 0).toNat (l.getD 1 0).toNat (l.getD 2 0).toNat) := by
    match l, hne with
    | [a], _ => simp
    | [a, b], _ => simp
    | a :: b :: c :: t, _ => rw [rok3]; simp
  have k4 : (4 ≤ l.length ∧ rok l 4 = true) ↔ (3 < l.length ∧ R4 (l.getD 0 0).toNat (l.getD 1 0).toNat (l.getD 2 0).toNat (l.getD 3 0).toNat) := by
    match l, hne with
    | [a], _ => simp
    | [a, b], _ => simp
    | [a, b, c], _ => simp
    | a :: b :: c :: d :: t, _ => rw [rok4]; simp
  have hd := Lib.decodeL_N l
  by_cases c1 : rok l 1 = true
  · left
    have e := dec1 l.length (l.getD 0 0).toNat (l.getD 1 0).toNat (l.getD 2 0).toNat (l.getD 3 0).toNat (k1.1 c1)
    have := k1.1 c1
    exact ⟨1, by omega, by omega, by omega, c1, rrune_1 hne c1, by rw [hd, e], by rw [hd, e]; simp only; omega⟩
  by_cases c2 : 2 ≤ l.length ∧ rok l 2 = true
  · left
    have e := dec2 l.length (l.getD 0 0).toNat (l.getD 1 0).toNat (l.getD 2 0).toNat (l.getD 3 0).toNat (k2.1 c2).1 (k2.1 c2).2
    exact ⟨2, by omega, by omega, c2.1, c2.2, (by unfold rrune; rw [if_neg hne, if_neg c1, if_pos c2]), by rw [hd, e], by rw [hd, e]; simp⟩
  by_cases c3 : 3 ≤ l.length ∧ rok l 3 = true
  · left
    have e := dec3 l.length (l.getD 0 0).toNat (l.getD 1 0).toNat (l.getD 2 0).toNat (l.getD 3 0).toNat (k3.1 c3).1 (k3.1 c3).2
    exact ⟨3, by omega, by omega, c3.1, c3.2, (by unfold rrune; rw [if_neg hne, if_neg c1, if_neg c2, if_pos c3]), by rw [hd, e], by rw [hd, e]; simp⟩
  by_cases c4 : 4 ≤ l.length ∧ rok l 4 = true
  · left
    have e := dec4 l.length (l.getD 0 0).toNat (l.getD 1 0).toNat (l.getD 2 0).toNat (l.getD 3 0).toNat (k4.1 c4).1 (k4.1 c4).2
    exact ⟨4, by omega, by omega, c4.1, c4.2, (by unfold rrune; rw [if_neg hne, if_neg c1, if_neg c2, if_neg c3, if_pos c4]), by rw [hd, e], by rw [hd, e]; simp⟩
  · right
    exact ⟨by unfold rrune; rw [if_neg hne, if_neg c1, if_neg c2, if_neg c3, if_neg c4],
      by rw [hd]; exact dec0 _ _ _ _ _ h0 h1 h2 h3 (fun h => c1 (k1.2 h)) (fun h => c2 (k2.2 h)) (fun h => c3 (k3.2 h)) (fun h => c4 (k4.2 h))⟩
/-- A text is valid just if its first character is one and what is behind is valid. -/
theorem valid_rune (l : List UInt8) (hne : l ≠ []) : Lib.validD l = if (rrune l).1 < 0 then false else Lib.validD (l.drop (rrune l).2) := by
  rw [Lib.validD_step l hne]
  rcases rrune_cases l hne with ⟨k, h1, _, _, hok, hr, hd, hn⟩ | ⟨hr, hd⟩
  · have := rok_pos hok
    rw [if_neg hn, hr, if_neg (show ¬ (rbits (l.take k), k).1 < 0 by simp only; omega), hd]
  · rw [hd, hr]; rfl
theorem rrune_width (l : List UInt8) (hne : l ≠ []) : 1 ≤ (rrune l).2 ∧ (rrune l).2 ≤ l.length := by
  have hl : 1 ≤ l.length := List.length_pos_iff.2 hne
  rcases rrune_cases l hne with ⟨k, h1, _, h3, hok, hr, hd, hn⟩ | ⟨hr, hd⟩
  · rw [hr]; exact ⟨h1, h3⟩
  · rw [hr]; exact ⟨Nat.le_refl _, hl⟩
end Go.Proofs.YthmojpcaagnfkaaGreatDoor
