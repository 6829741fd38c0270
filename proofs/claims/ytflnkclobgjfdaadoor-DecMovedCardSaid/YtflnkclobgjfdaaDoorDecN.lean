/-
  number of rostrumlaw04: a number in digits.
-/
import Derived.Test.YtflnkclobgjfdaaDoorDecF
import Derived.Lib.SlBytesRow
namespace Go.Proofs.YtflnkclobgjfdaaDoor
open Go.RowKit

/-- A new row of one byte, handed to string(..). -/
theorem one_byte (V : World) (c : Int) (h0 : 0 ≤ c) (h1 : c < 256) :
    (convert 36 9 (.slice (some ⟨V.heap.size, 0, none⟩) 1 1)).run Tryd.prog (V.alloc (.cells #[.int .u8 c] 5)) = .ok (.string ⟨#[UInt8.ofNat c.toNat]⟩) (V.alloc (.cells #[.int .u8 c] 5)) := by
  have hb : Lib.Bytes (V.alloc (.cells #[.int .u8 c] 5)) V.heap.size 0 ⟨#[UInt8.ofNat c.toNat]⟩ := by
    intro i hi
    have hi0 : i = 0 := by have : (⟨#[UInt8.ofNat c.toNat]⟩ : ByteArray).size = 1 := rfl; omega
    subst hi0
    rw [World.cell?_alloc_at _ _ _ _ rfl]
    have e : (⟨#[UInt8.ofNat c.toNat]⟩ : ByteArray)[0] = UInt8.ofNat c.toNat := rfl
    rw [e]
    have : ((UInt8.ofNat c.toNat).toNat : Int) = c := by
      rw [UInt8.toNat_ofNat']; omega
    rw [this]; rfl
  exact Lib.run_convert_whole (P := Tryd.prog) (V.alloc (.cells #[.int .u8 c] 5)) 36 5 9 Tryd.underlying36 Tryd.underlying5 Tryd.underlying9 V.heap.size 0 ⟨#[UInt8.ofNat c.toNat]⟩ hb 1

/-- .. of a row whose cell is told. -/
theorem one_byte_at (V : World) (g : Nat) (c : Int) (h0 : 0 ≤ c) (h1 : c < 256) (hc : V.cell? ⟨g, 0, none⟩ = some (.int .u8 c)) :
    (convert 36 9 (.slice (some ⟨g, 0, none⟩) 1 1)).run Tryd.prog V = .ok (.string ⟨#[UInt8.ofNat c.toNat]⟩) V := by
  have hb : Lib.Bytes V g 0 ⟨#[UInt8.ofNat c.toNat]⟩ := by
    intro i hi
    have hi0 : i = 0 := by have : (⟨#[UInt8.ofNat c.toNat]⟩ : ByteArray).size = 1 := rfl; omega
    subst hi0
    have e : (⟨#[UInt8.ofNat c.toNat]⟩ : ByteArray)[0] = UInt8.ofNat c.toNat := rfl
    rw [e]
    have : ((UInt8.ofNat c.toNat).toNat : Int) = c := by
      rw [UInt8.toNat_ofNat']; omega
    rw [this]; exact hc
  exact Lib.run_convert_whole (P := Tryd.prog) V 36 5 9 Tryd.underlying36 Tryd.underlying5 Tryd.underlying9 g 0 ⟨#[UInt8.ofNat c.toNat]⟩ hb 1

/-- What a call of number hands back, beside what the region that holds it asks. -/
def NumPost (m : Nat) (one : ByteArray) (c : Int) (W : World) (en : Ending) (w' : World) : Prop :=
  ∃ s : ByteArray, s.data.toList = Lib.decDigits m ∧ en = .returned (.string s) ∧ Below W.heap.size W w' ∧
    (∀ g, W.cell? ⟨g, 0, none⟩ = some (.int .u8 c) → w'.cell? ⟨g, 0, none⟩ = some (.int .u8 c)) ∧
    (∀ V, (Op.stringOp .add s one).run Tryd.prog V = .ok (.string (s ++ one)) V)

theorem decDigits_len1 (m : Nat) : (Lib.decDigits m).length ≤ m + 1 := by
  induction m using Nat.strongRecOn with
  | _ m ih =>
    unfold Lib.decDigits
    split
    · simp
    · rw [List.length_append]
      have := ih (m / 10) (by omega)
      simp only [List.length_singleton]; omega

set_option maxRecDepth 100000 in
set_option maxHeartbeats 2000000 in
theorem number_any : ∀ (n : Nat) (w : World), n < 100000 →
    Calls Tryd.prog 14 #[.int .i64 n] w fun en w' => ∃ s : ByteArray, s.data.toList = Lib.decDigits n ∧ en = .returned (.string s) ∧ Below w.heap.size w w' := by
  intro n
  induction n using Nat.strongRecOn with
  | _ n ih =>
  intro w hn
  by_cases h10 : n < 10
  · have hd : Lib.decDigits n = [UInt8.ofNat (48 + n)] := by unfold Lib.decDigits; rw [dif_pos h10]
    have hcv := fun V => one_byte V (48 + n) (by omega) (by omega)
    have hw : IntKind.u8.wrap (48 + (n : Int)) = 48 + n := by rw [IntKind.wrap_u8]; omega
    have hcmp : ((n : Int) < 10) := by omega
    go_enter Tryd.func14, Tryd.ntmps14
    go_wp2
    go_ret
    exact ⟨⟨#[UInt8.ofNat (48 + n)]⟩, hd.symm, rfl, (Below.refl _ _).alloc (Nat.le_refl _) _⟩
  · obtain ⟨c, hc⟩ : ∃ c : Nat, c = n % 10 := ⟨_, rfl⟩
    obtain ⟨m, hm⟩ : ∃ m : Nat, m = n / 10 := ⟨_, rfl⟩
    have hd : Lib.decDigits n = Lib.decDigits m ++ [UInt8.ofNat (48 + c)] := by
      rw [hm, hc]
      conv => lhs; unfold Lib.decDigits
      rw [dif_neg h10]
    have hq : Int.tdiv (n : Int) 10 = m := by rw [hm]; exact (Int.ofNat_tdiv n 10).symm
    have hr : Int.tmod (n : Int) 10 = c := by rw [hc]; exact (Int.ofNat_tmod n 10).symm
    have hcmp : ¬ ((n : Int) < 10) := by omega
    have hc10 : c < 10 := by omega
    obtain ⟨one, hone⟩ : ∃ one : ByteArray, one = ⟨#[UInt8.ofNat (48 + c)]⟩ := ⟨_, rfl⟩
    have hcv : ∀ (V : World) (g : Nat), V.cell? ⟨g, 0, none⟩ = some (.int .u8 (48 + c)) → (convert 36 9 (.slice (some ⟨g, 0, none⟩) 1 1)).run Tryd.prog V = .ok (.string one) V := fun V g hg => by
      have := one_byte_at V g (48 + c) (by omega) (by omega) hg
      rw [this, hone]; congr 2
    have hw : IntKind.u8.wrap (48 + (c : Int)) = 48 + c := by rw [IntKind.wrap_u8]; omega
    have hwm : IntKind.i64.wrap (m : Int) = m := by rw [IntKind.wrap_i64]; omega
    have hwc : IntKind.i64.wrap (48 + (c : Int)) = 48 + c := by rw [IntKind.wrap_i64]; omega
    have hcall : ∀ W : World, Calls Tryd.prog 14 #[.int .i64 m] W (NumPost m one (48 + c) W) := fun W => by
      refine (ih m (by omega) W (by omega)).mono ?_
      rintro en w' ⟨s, hs, rfl, hB⟩
      refine ⟨s, hs, rfl, hB, fun g hg => ?_, add_ok s one ?_⟩
      · exact (hB.cell (p := ⟨g, 0, none⟩) (World.block_lt_of_cell? W _ hg)).trans hg
      · have h1 := decDigits_len1 m
        rw [← hs, bytes_len] at h1
        have h2 : one.size = 1 := by rw [hone]; rfl
        omega
    clear ih hm hc
    replace hd := Lib.hid hd
    replace hone := Lib.hid hone
    replace hcall := Lib.hid hcall
    go_enter Tryd.func14, Tryd.ntmps14
    go_upto_region 3 with (fail)
    go_region_with (go_at_call 14; refine (hcall.out _).mono ?_; rintro en w2 ⟨s, hs, rfl, hB2, hcv2, hadd⟩; have hcell2 := hcv2 w.heap.size; try simp at hcell2)
    all_goals
      go_wp2
      go_ret
      refine ⟨s ++ one, ?_, rfl, ?_⟩
      · rw [ByteArray.data_append, Array.toList_append, hs, hone.out, hd.out]
      · first
          | exact ((Below.refl w.heap.size w).drew.trans (hB2.mono (by simp))).alloc (by have := hB2.size; simpa using this) _
          | exact ((Below.refl w.heap.size w).drew.trans (hB2.mono (by simp)))
          | exact (((Below.refl w.heap.size w).alloc (Nat.le_refl _) _).drew.trans (hB2.mono (by simp)))
end Go.Proofs.YtflnkclobgjfdaaDoor
