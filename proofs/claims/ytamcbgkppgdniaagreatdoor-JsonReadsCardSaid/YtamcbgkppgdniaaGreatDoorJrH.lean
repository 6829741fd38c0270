/-
  Four hex digits, by way of strings.ToLower. No program.
-/
import Derived.Test.YtamcbgkppgdniaaGreatDoorJmp
import Derived.Lib.MapLaws
import Derived.Lib.TrimAscii
import Derived.Shelf.Strings.CaseAny
namespace Go.Proofs.YtamcbgkppgdniaaGreatDoor

/-- The place of a byte among the digits of escapes. -/
def jhl (c : UInt8) : Option Nat := if 48 ≤ c.toNat ∧ c.toNat ≤ 57 then some (c.toNat - 48) else if 97 ≤ c.toNat ∧ c.toNat ≤ 102 then some (c.toNat - 87) else none
def hexL : Nat → List UInt8 → Option Nat
  | n, [] => some n
  | n, c :: r => match jhl c with
    | none => none
    | some k => hexL (n * 16 + k) r
def hexV : Nat → List UInt8 → Option Nat
  | n, [] => some n
  | n, c :: r => match jhv c with
    | none => none
    | some k => hexV (n * 16 + k) r
def lowOf (c : UInt8) : UInt8 := Lib.lowerB c
theorem jhl_lower : ∀ n : Fin 128, jhl (Lib.lowerB (UInt8.ofNat n.val)) = jhv (UInt8.ofNat n.val) := by decide +kernel
/-- Of each row of the table: a rune from 128 on becomes none of the digits. -/
def rowHex (x : Lib.CaseRow) : Bool :=
  decide (x.2.1 < 128) || (decide (128 ≤ x.1) && (decide (x.delta 1 > 1114111) || decide (128 ≤ (x.1 : Int) + x.delta 1) || (decide (x.1 = x.2.1) && decide (103 ≤ (x.1 : Int) + x.delta 1))))
set_option maxRecDepth 1000000 in
theorem rowsHex : Lib.caseT.all rowHex = true := by decide +kernel
theorem toLower_high {r : Int} (h : 128 ≤ r) : 103 ≤ Lib.toLowerU r := by
  unfold Lib.toLowerU
  rw [if_neg (by omega)]
  unfold Lib.toR Lib.lookupGo
  cases hi : Lib.lookupIdx Lib.caseA r (Lib.caseA.size + 1) 0 Lib.caseA.size with
  | none => show 103 ≤ r; omega
  | some i =>
    obtain ⟨hil, hlo, hhi⟩ := Lib.lookupIdx_some Lib.caseA r _ _ _ i hi
    have hm : Lib.caseA.getD i (0, 0, 0, 0, 0) ∈ Lib.caseT := by
      unfold Lib.caseA at hil ⊢
      simp only [List.size_toArray] at hil
      simp [Array.getD, hil]
    have hx := List.all_eq_true.1 rowsHex _ hm
    simp only [Option.map_some]
    generalize Lib.caseA.getD i (0, 0, 0, 0, 0) = x at hx hlo hhi
    unfold rowHex at hx
    simp only [Bool.or_eq_true, Bool.and_eq_true, decide_eq_true_eq] at hx
    unfold Lib.convertR
    rcases hx with hx | ⟨hx, (hd | hd) | ⟨he, hd⟩⟩
    · omega
    · rw [if_pos hd]; omega
    · split <;> omega
    · split <;> omega
theorem encode_head {r : Int} (h : 103 ≤ r) : ∃ b t, Lib.encodeRune r = b :: t ∧ jhl b = none := by
  have hh : ∀ x : Int, 103 ≤ x → x ≤ 255 → jhl x.toNat.toUInt8 = none := by
    intro x h1 h2
    have hb : ∀ n : Fin 256, 103 ≤ n.val → jhl (UInt8.ofNat n.val) = none := by decide +kernel
    exact hb ⟨x.toNat, by omega⟩ (by simp only; omega)
  unfold Lib.encodeRune Lib.encodeRuneZ
  repeat' split
  · exact ⟨_, _, rfl, hh _ h (by omega)⟩
  · exact ⟨_, _, rfl, hh _ (by omega) (by omega)⟩
  · exact ⟨_, _, rfl, hh _ (by omega) (by omega)⟩
  · exact ⟨_, _, rfl, hh _ (by omega) (by omega)⟩
  · exact ⟨_, _, rfl, hh _ (by omega) (by omega)⟩
theorem decode_high (c : UInt8) (t : List UInt8) (h : 128 ≤ c.toNat) : 128 ≤ (Lib.decodeL (c :: t)).1 := by
  rw [Lib.decodeL_N]
  rcases Lib.decodeN_shape (c :: t).length ((c :: t).getD 0 0).toNat ((c :: t).getD 1 0).toNat ((c :: t).getD 2 0).toNat ((c :: t).getD 3 0).toNat with ⟨c1, e⟩ | ⟨c1, c2, c3, cv, e⟩ | ⟨c1, c2, c3, c4, cv, cs, e⟩ | ⟨c1, c2, c3, c4, c5, cv, cw, e⟩ | e
  · have : ((c :: t).getD 0 0) = c := rfl
    rw [this] at c1
    omega
  all_goals (rw [e]; dsimp only; omega)
theorem lower_hex : ∀ (k : Nat) (l : List UInt8) (n : Nat), l.length ≤ k → hexL n (Lib.toLowerD l) = hexV n l
  | _, [], _, _ => rfl
  | 0, _ :: _, _, h => by simp at h
  | k + 1, c :: t, n, h => by
    simp only [List.length_cons] at h
    unfold Lib.toLowerD
    rw [Lib.mapD_step _ _ (by simp)]
    by_cases hc : c.toNat < 128
    · rw [Lib.decodeL_ascii c t hc]
      dsimp only
      rw [if_pos (Lib.toLowerU_range c.toNat (by omega)).1, Lib.lower_byte ⟨c.toNat, hc⟩, List.drop_succ_cons, List.drop_zero]
      have h1 := jhl_lower ⟨c.toNat, hc⟩
      simp only [UInt8.ofNat_toNat] at h1 ⊢
      rw [List.singleton_append]
      unfold hexL hexV
      rw [h1]
      split
      · rfl
      · rename_i m _
        exact lower_hex k t _ (by omega)
    · have hd := decode_high c t (by omega)
      have hl := toLower_high (r := ((Lib.decodeL (c :: t)).1 : Int)) (by omega)
      obtain ⟨b, u, he, hb⟩ := encode_head hl
      rw [if_pos (by omega), he, List.cons_append]
      have hv : jhv c = none := by
        have hb : ∀ n : Fin 256, 128 ≤ n.val → jhv (UInt8.ofNat n.val) = none := by decide +kernel
        have := hb ⟨c.toNat, c.toNat_lt⟩ (by simp only; omega)
        simpa using this
      unfold hexL hexV
      rw [hb, hv]
theorem hexV_unit (a b c d : UInt8) (r : List UInt8) : junit (a :: b :: c :: d :: r) = (hexV 0 [a, b, c, d]).map fun n => (n, r) := by
  cases h1 : jhv a <;> cases h2 : jhv b <;> cases h3 : jhv c <;> cases h4 : jhv d <;> simp [junit, hexV, h1, h2, h3, h4]
theorem junit_short {s : List UInt8} (h : s.length < 4) : junit s = none := by
  unfold junit
  split
  · simp at h; omega
  · rfl
/-- What the program's way comes to. -/
theorem junit_lower {s : List UInt8} (h : 4 ≤ s.length) : junit s = (hexL 0 (Lib.toLowerD (s.take 4))).map fun n => (n, s.drop 4) := by
  obtain ⟨a, b, c, d, r, rfl⟩ : ∃ a b c d r, s = a :: b :: c :: d :: r := by
    match s, h with
    | a :: b :: c :: d :: r, _ => exact ⟨a, b, c, d, r, rfl⟩
  rw [hexV_unit, List.take_succ_cons, List.take_succ_cons, List.take_succ_cons, List.take_succ_cons, List.take_zero, lower_hex 4 _ _ (by simp)]
  rfl
/-- string(rune(p)) of a code point. -/
theorem encode_put {p : Int} (h0 : 0 ≤ p) (h1 : p ≤ 1114111) (h2 : ¬ (55296 ≤ p ∧ p ≤ 57343)) : Utf8.encode p = ofL (rput p) := by
  have hv : Utf8.valid p = true := by rw [validRune_eq]; exact decide_eq_true (by omega)
  obtain ⟨n, rfl⟩ : ∃ n : Nat, p = n := ⟨p.toNat, by omega⟩
  rw [rput_pos h0, Int.toNat_natCast]
  unfold Utf8.encode
  simp only [hv, if_true, Int.toNat_natCast]
  by_cases a1 : n < 128
  · rw [if_pos a1, rputN_1 a1]; rfl
  · rw [if_neg a1]
    by_cases a2 : n < 2048
    · rw [if_pos a2, rputN_2 (by omega) a2]; rfl
    · rw [if_neg a2]
      by_cases a3 : n < 65536
      · rw [if_pos a3, rputN_3 (by omega) a3 (by omega)]; rfl
      · rw [if_neg a3, rputN_4 (by omega) (by omega)]; rfl
theorem rput_bad {p : Int} (h : p < 0 ∨ 1114111 < p ∨ (55296 ≤ p ∧ p ≤ 57343)) : rput p = [] := by
  by_cases h0 : p < 0
  · exact rput_neg h0
  · rw [rput_pos (by omega), rputN_0 (by omega)]; rfl
end Go.Proofs.YtamcbgkppgdniaaGreatDoor
