/-
  Plain facts on characters: the document's Put, bits and Rune as functions of bytes, and that a text is valid in the document's words just if it is so in the library's. No program.
-/
import Derived.Lib.ValidLaws
namespace Go.Proofs.YtlnkjacbdolhnaaGreatDoor

/-- A code point's bytes, as numbers. -/
def rputN (p : Nat) : List Nat :=
  if 1114111 < p ∨ (55296 ≤ p ∧ p ≤ 57343) then []
  else if p < 128 then [p]
  else if p < 2048 then [192 + p / 64, 128 + p % 64]
  else if p < 65536 then [224 + p / 4096, 128 + p / 64 % 64, 128 + p % 64]
  else [240 + p / 262144, 128 + p / 4096 % 64, 128 + p / 64 % 64, 128 + p % 64]
def rput (p : Int) : List UInt8 := if p < 0 then [] else (rputN p.toNat).map UInt8.ofNat
/-- What the bytes would be of. -/
def rhead (n : Nat) : Int := if n = 2 then 192 else if n = 3 then 224 else if n = 4 then 240 else 0
def rbits : List UInt8 → Int
  | [] => 0
  | a :: t => t.foldl (fun o b => o * 64 + b.toNat - 128) ((a.toNat : Int) - rhead (t.length + 1))
/-- Are the first k bytes a character's? -/
def rok (l : List UInt8) (k : Nat) : Bool := decide (0 ≤ rbits (l.take k)) && decide (rput (rbits (l.take k)) = l.take k)
/-- The first character. -/
def rrune (l : List UInt8) : Int × Nat :=
  if l = [] then (-1, 0)
  else if rok l 1 = true then (rbits (l.take 1), 1)
  else if 2 ≤ l.length ∧ rok l 2 = true then (rbits (l.take 2), 2)
  else if 3 ≤ l.length ∧ rok l 3 = true then (rbits (l.take 3), 3)
  else if 4 ≤ l.length ∧ rok l 4 = true then (rbits (l.take 4), 4)
  else (-1, 1)

theorem rput_neg {p : Int} (h : p < 0) : rput p = [] := by unfold rput; rw [if_pos h]
theorem rput_pos {p : Int} (h : 0 ≤ p) : rput p = (rputN p.toNat).map UInt8.ofNat := by unfold rput; rw [if_neg (by omega)]
theorem rputN_1 {p : Nat} (h : p < 128) : rputN p = [p] := by
  unfold rputN; rw [if_neg (by omega), if_pos h]
theorem rputN_2 {p : Nat} (h : 128 ≤ p) (h2 : p < 2048) : rputN p = [192 + p / 64, 128 + p % 64] := by
  unfold rputN; rw [if_neg (by omega), if_neg (by omega), if_pos h2]
theorem rputN_3 {p : Nat} (h : 2048 ≤ p) (h2 : p < 65536) (h3 : ¬ (55296 ≤ p ∧ p ≤ 57343)) : rputN p = [224 + p / 4096, 128 + p / 64 % 64, 128 + p % 64] := by
  unfold rputN; rw [if_neg (by omega), if_neg (by omega), if_neg (by omega), if_pos h2]
theorem rputN_4 {p : Nat} (h : 65536 ≤ p) (h2 : p ≤ 1114111) : rputN p = [240 + p / 262144, 128 + p / 4096 % 64, 128 + p / 64 % 64, 128 + p % 64] := by
  unfold rputN; rw [if_neg (by omega), if_neg (by omega), if_neg (by omega), if_neg (by omega)]
theorem rputN_0 {p : Nat} (h : 1114111 < p ∨ (55296 ≤ p ∧ p ≤ 57343)) : rputN p = [] := by
  unfold rputN; rw [if_pos h]
/-- How a code point's bytes go by its size. -/
theorem rputN_cases (p : Nat) : (rputN p = [] ∧ (1114111 < p ∨ (55296 ≤ p ∧ p ≤ 57343))) ∨ (rputN p = [p] ∧ p < 128) ∨ (rputN p = [192 + p / 64, 128 + p % 64] ∧ 128 ≤ p ∧ p < 2048) ∨
    (rputN p = [224 + p / 4096, 128 + p / 64 % 64, 128 + p % 64] ∧ 2048 ≤ p ∧ p < 65536 ∧ ¬ (55296 ≤ p ∧ p ≤ 57343)) ∨
    (rputN p = [240 + p / 262144, 128 + p / 4096 % 64, 128 + p / 64 % 64, 128 + p % 64] ∧ 65536 ≤ p ∧ p ≤ 1114111) := by
  by_cases h0 : 1114111 < p ∨ (55296 ≤ p ∧ p ≤ 57343)
  · exact .inl ⟨rputN_0 h0, h0⟩
  by_cases h1 : p < 128
  · exact .inr (.inl ⟨rputN_1 h1, h1⟩)
  by_cases h2 : p < 2048
  · exact .inr (.inr (.inl ⟨rputN_2 (by omega) h2, by omega, h2⟩))
  by_cases h3 : p < 65536
  · exact .inr (.inr (.inr (.inl ⟨rputN_3 (by omega) h3 (by omega), by omega, h3, by omega⟩)))
  · exact .inr (.inr (.inr (.inr ⟨rputN_4 (by omega) (by omega), by omega, by omega⟩)))

/-- Three bytes of a character; four. -/
def R3 (a b c : Nat) : Prop := 224 ≤ a ∧ a ≤ 239 ∧ 128 ≤ b ∧ b ≤ 191 ∧ 128 ≤ c ∧ c ≤ 191 ∧ (a = 224 → 160 ≤ b) ∧ (a = 237 → b ≤ 159)
def R4 (a b c d : Nat) : Prop := 240 ≤ a ∧ a ≤ 244 ∧ 128 ≤ b ∧ b ≤ 191 ∧ 128 ≤ c ∧ c ≤ 191 ∧ 128 ≤ d ∧ d ≤ 191 ∧ (a = 240 → 144 ≤ b) ∧ (a = 244 → b ≤ 143)
end Go.Proofs.YtlnkjacbdolhnaaGreatDoor
