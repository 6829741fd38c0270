/-
  Four hex digits, one by one. No program.
-/
import Derived.Test.YtamcbgkppgdniaaGreatDoorJrH
namespace Go.Proofs.YtamcbgkppgdniaaGreatDoor

theorem hexL_take : ∀ (L : List UInt8) (n m : Nat), hexL n L = some m → ∀ c ∈ L, (jhl c).isSome = true
  | [], _, _, _, c, hc => by cases hc
  | x :: r, n, m, h, c, hc => by
    unfold hexL at h
    split at h
    · cases h
    · rename_i k hk
      rcases List.mem_cons.1 hc with rfl | hc
      · rw [hk]; rfl
      · exact hexL_take r _ _ h c hc
theorem hexL_all : ∀ (L : List UInt8) (n : Nat), (∀ c ∈ L, (jhl c).isSome = true) → ∃ m, hexL n L = some m
  | [], n, _ => ⟨n, rfl⟩
  | x :: r, n, h => by
    obtain ⟨k, hk⟩ := Option.isSome_iff_exists.1 (h x List.mem_cons_self)
    unfold hexL
    rw [hk]
    exact hexL_all r _ fun c hc => h c (List.mem_cons_of_mem _ hc)
theorem hexV_low : ∀ (l : List UInt8) (n m : Nat), hexV n l = some m → ∀ c ∈ l, c.toNat < 128
  | [], _, _, _, c, hc => by cases hc
  | x :: r, n, m, h, c, hc => by
    unfold hexV at h
    split at h
    · cases h
    · rename_i k hk
      rcases List.mem_cons.1 hc with rfl | hc
      · unfold jhv at hk
        split at hk
        · omega
        · split at hk
          · omega
          · split at hk
            · omega
            · cases hk
      · exact hexV_low r _ _ h c hc
/-- Where all that comes out are digits, there are as many as there were bytes. -/
theorem lower_len {l : List UInt8} (h : ∀ c ∈ Lib.toLowerD l, (jhl c).isSome = true) : (Lib.toLowerD l).length = l.length := by
  obtain ⟨m, hm⟩ := hexL_all _ 0 h
  rw [lower_hex l.length l 0 (Nat.le_refl _)] at hm
  rw [Lib.toLowerD_ascii l (hexV_low l 0 m hm)]
  unfold Lib.toLowerA
  simp
theorem jhl_lt {c : UInt8} {k : Nat} (h : jhl c = some k) : k < 16 := by
  unfold jhl at h
  split at h
  · injection h with h; omega
  · split at h
    · injection h with h; omega
    · cases h
/-- The place of a byte among the digits. -/
theorem hex_ix : ∀ n : Fin 256, Lib.indexByte [48, 49, 50, 51, 52, 53, 54, 55, 56, 57, 97, 98, 99, 100, 101, 102] (UInt8.ofNat n.val) = (match jhl (UInt8.ofNat n.val) with | some k => (k : Int) | none => -1) := by decide +kernel
theorem hexL_step {L : List UInt8} {q n : Nat} (hq : q < L.length) {k : Nat} (hk : jhl L[q] = some k) : hexL n (L.drop q) = hexL (n * 16 + k) (L.drop (q + 1)) := by
  rw [List.drop_eq_getElem_cons hq]
  conv => lhs; unfold hexL
  rw [hk]
/-- How far the digits have been read. -/
def HexAt (L : List UInt8) (q : Nat) (v : Int) : Prop := (∀ c ∈ L.take q, (jhl c).isSome = true) ∧ (q ≤ 4 → ∃ n : Nat, v = n ∧ hexL 0 L = hexL n (L.drop q) ∧ n < 16 ^ q)
theorem HexAt.start (L : List UInt8) : HexAt L 0 0 := ⟨fun c hc => by simp at hc, fun _ => ⟨0, rfl, by simp, by simp⟩⟩
theorem HexAt.step {L : List UInt8} {q : Nat} {v v' : Int} {k : Nat} (h : HexAt L q v) (hq : q < L.length) (hk : jhl L[q] = some k) (hv : q < 4 → 0 ≤ v → v < 65536 → v' = v * 16 + k) : HexAt L (q + 1) v' := by
  refine ⟨fun c hc => ?_, fun h4 => ?_⟩
  · rw [List.take_add_one, List.getElem?_eq_getElem hq] at hc
    rcases List.mem_append.1 hc with hc | hc
    · exact h.1 c hc
    · simp at hc; subst hc; rw [hk]; rfl
  · obtain ⟨n, h1, h2, h3⟩ := h.2 (by omega)
    have h5 : 16 ^ q ≤ 16 ^ 3 := Nat.pow_le_pow_right (by omega) (by omega)
    have h6 : (16 : Nat) ^ 3 = 4096 := by decide
    refine ⟨n * 16 + k, ?_, ?_, ?_⟩
    · rw [hv (by omega) (by omega) (by omega), h1]; omega
    · rw [h2, hexL_step hq hk]
    · have := jhl_lt hk
      rw [Nat.pow_succ]; omega
theorem enc_le4 (z : Int) : (Lib.encodeRune z).length ≤ 4 := by
  unfold Lib.encodeRune Lib.encodeRuneZ
  rw [List.length_map]
  repeat' split
  all_goals simp
theorem mapD_le4 (f : Int → Int) : ∀ (n : Nat) (l : List UInt8), l.length ≤ n → (Lib.mapD f l).length ≤ 4 * l.length
  | 0, l, hn => by
    have : l = [] := List.eq_nil_of_length_eq_zero (by omega)
    subst this
    simp [Lib.mapD_nil]
  | n + 1, l, hn => by
    by_cases hne : l = []
    · subst hne
      simp [Lib.mapD_nil]
    · have hw := Lib.decodeL_width l
      have hle := Lib.decodeL_le l hne
      have ih := mapD_le4 f n (l.drop (Lib.decodeL l).2) (by rw [List.length_drop]; omega)
      rw [List.length_drop] at ih
      rw [Lib.mapD_step f l hne, List.length_append]
      have hh : (if 0 ≤ f (Lib.decodeL l).1 then Lib.encodeRune (f (Lib.decodeL l).1) else []).length ≤ 4 := by
        split
        · exact enc_le4 _
        · simp
      omega
theorem lower_le (l : List UInt8) : (Lib.toLowerD l).length ≤ 4 * l.length := mapD_le4 _ _ l (Nat.le_refl _)
end Go.Proofs.YtamcbgkppgdniaaGreatDoor
