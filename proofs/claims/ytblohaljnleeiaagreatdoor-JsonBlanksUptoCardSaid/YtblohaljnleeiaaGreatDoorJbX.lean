/-
  A JSON text with blanks between its marks: what a round adds. Plain.
-/
import Derived.Test.YtblohaljnleeiaaGreatDoorJrB
namespace Go.Proofs.YtblohaljnleeiaaGreatDoor

/-- The five blanks; which of them a pick means; the blanks one by one. -/
def bs5 : List ByteArray := [⟨#[]⟩, ⟨#[32]⟩, ⟨#[10]⟩, ⟨#[9, 13]⟩, ⟨#[32, 32]⟩]
def bkA (x : Int) : ByteArray := bs5.getD (x % 5).toNat ⟨#[]⟩
def blP (P : List Int) (m : Nat) : List UInt8 := if P = [] then [] else (bkA (P.getD (m % P.length) 0)).data.toList
theorem bs5_ok : ∀ b ∈ bs5, Bk b.data.toList ∧ b.data.toList.length ≤ 2 := by
  intro b hb
  simp [bs5] at hb
  rcases hb with rfl | rfl | rfl | rfl | rfl <;> refine ⟨fun c hc => ?_, by decide⟩
  · cases hc
  all_goals
    have key : ∀ c ∈ ([32, 10, 9, 13] : List UInt8), jblank c = true := by decide
    refine key c ?_
    simp at hc ⊢
    first | (rcases hc with rfl | rfl <;> simp) | (subst hc; simp) | (simp [hc])
theorem bkA_ok (x : Int) : Bk (bkA x).data.toList ∧ (bkA x).data.toList.length ≤ 2 := by
  unfold bkA
  rw [List.getD_eq_getElem?_getD]
  rcases h : bs5[(x % 5).toNat]? with _ | b
  · exact ⟨fun c hc => (by cases hc), by decide⟩
  · exact bs5_ok b (List.mem_of_getElem? h)
theorem blP_ok (P : List Int) (m : Nat) : Bk (blP P m) ∧ (blP P m).length ≤ 2 := by
  unfold blP
  split
  · exact ⟨fun c hc => (by cases hc), by simp⟩
  · exact bkA_ok _
theorem spr_34 {bl : Nat → List UInt8} (n : Nat) (r : List UInt8) : jspr bl false n (34 :: r) = 34 :: jspr bl true n r := by rw [jspr.eq_def]; rfl
theorem spr_43 {bl : Nat → List UInt8} (n : Nat) (r : List UInt8) : jspr bl true n (34 :: r) = 34 :: jspr bl false n r := by rw [jspr.eq_def]; rfl
theorem spr_92 {bl : Nat → List UInt8} (n : Nat) : jspr bl true n [92] = [92] := by rw [jspr.eq_def]; rfl
theorem spr_nil {bl : Nat → List UInt8} (b : Bool) (n : Nat) : jspr bl b n [] = [] := by cases b <;> rw [jspr.eq_def]
/-- What a mark is, by number. -/
theorem jmk_num (c : UInt8) (b : Int) (hb : (c.toNat : Int) = b) : jmk c = (decide (b = 91) || decide (b = 93) || decide (b = 123) || decide (b = 125) || decide (b = 44) || decide (b = 58)) := by
  subst hb
  have key : ∀ n : Fin 256, jmk (UInt8.ofNat n.val) = (decide ((n.val : Int) = 91) || decide ((n.val : Int) = 93) || decide ((n.val : Int) = 123) || decide ((n.val : Int) = 125) || decide ((n.val : Int) = 44) || decide ((n.val : Int) = 58)) := by decide +kernel
  have := key ⟨c.toNat, c.toNat_lt⟩
  simpa using this
theorem byte_num {c : UInt8} {b : Int} (h : (c.toNat : Int) = b) (k : Nat) (hk : k < 256) : (b = (k : Int)) ↔ c = UInt8.ofNat k := by
  subst h
  constructor
  · intro h
    have h2 : c.toNat = k := by omega
    rw [← h2, UInt8.ofNat_toNat]
  · intro h
    rw [h]
    simp [UInt8.toNat_ofNat']
    omega
end Go.Proofs.YtblohaljnleeiaaGreatDoor
