/-
  The walks of rostrumref04's digit, run and power: what each computes.
-/
import Derived.Test.YtamcbgkppgdniaaGreatDoorProg
import Derived.Test.YtamcbgkppgdniaaGreatDoorDecS
import Derived.WalkKit
import Derived.WalkSpells
import Derived.WalkLawsBesides
import Derived.Lib.Hide
namespace Go.Proofs.YtamcbgkppgdniaaGreatDoor
open Go.RowKit

set_option maxHeartbeats 400000 in
theorem refDigit_any (c : UInt8) (w : World) :
    Calls Tryz.prog 233 #[.int .u8 c.toNat] w fun e w' => e = .returned (.bool (isDig c)) ∧ w = w' := by
  by_cases h1 : 48 ≤ (c.toNat : Int)
  · by_cases h2 : (c.toNat : Int) ≤ 57
    · have e1 : isDig c = true := by simp [isDig]; omega
      rw [e1]; clear e1
      go_enter Tryz.func233, Tryz.ntmps233
      go_wp2
      go_ret
      exact ⟨rfl, rfl⟩
    · have e1 : isDig c = false := by simp [isDig]; omega
      rw [e1]; clear e1
      go_enter Tryz.func233, Tryz.ntmps233
      go_wp2
      go_ret
      exact ⟨rfl, rfl⟩
  · have e1 : isDig c = false := by simp [isDig]; omega
    rw [e1]; clear e1
    go_enter Tryz.func233, Tryz.ntmps233
    go_wp2
    go_ret
    exact ⟨rfl, rfl⟩

theorem ret_i64 {a b : Int} (h : a = b) : Ending.returned (.int .i64 a) = .returned (.int .i64 b) := by rw [h]

set_option maxHeartbeats 400000 in
theorem refRun_any (s : ByteArray) (i : Nat) (w : World) (hi : i ≤ s.size) (hs : s.size ≤ 9223372036854775807) :
    Calls Tryz.prog 217 #[.string s, .int .i64 i] w fun e w' => e = .returned (.int .i64 (runN s.data.toList i)) ∧ w = w' := by
  go_enter Tryz.func217, Tryz.ntmps217
  go_wp2
  go_loop [5] (fun n => ∃ k : Nat, i + k ≤ s.size ∧ k ≤ runN s.data.toList i ∧ n = .int .i64 k) (fun n => s.size - (intOf n).toNat)
  case atStart => exact ⟨0, by omega, by omega, rfl⟩
  case round =>
    obtain ⟨k, hk, hr, rfl⟩ := hrel
    by_cases hlt : i + k < s.size
    · have hb := Lib.hid (bytes_at s (i + k) hlt)
      cases hd : isDig s[i + k]
      · have H := Lib.hid (runN_stop _ i k _ hr hb.out hd)
        go_wp2_with (go_at_call 233; refine (refDigit_any _ _).mono ?_; rintro e w' ⟨rfl, rfl⟩)
        go_ret
        exact ⟨ret_i64 (by rw [H.out]), rfl⟩
      · have H := Lib.hid (runN_step _ i k _ hr hb.out hd)
        go_wp2_with (go_at_call 233; refine (refDigit_any _ _).mono ?_; rintro e w' ⟨rfl, rfl⟩)
        go_round
        case rel => exact ⟨k + 1, by omega, H.out, by go_num⟩
        case measure => simp [intOf]; omega
    · have H := Lib.hid (runN_end _ i k hr (by rw [bytes_len]; omega))
      go_wp2
      go_ret
      exact ⟨ret_i64 (by rw [H.out]), rfl⟩

set_option maxHeartbeats 400000 in
theorem refPower_any (s : ByteArray) (w : World) (hdig : ∀ (j : Nat) (c : UInt8), s.data.toList[j]? = some c → isDig c = true) (hs : s.size ≤ 9223372036854775807) :
    Calls Tryz.prog 218 #[.string s] w fun e w' => e = .returned (.int .i64 (powN s.data.toList)) ∧ w = w' := by
  have hdig := Lib.hid hdig
  go_enter Tryz.func218, Tryz.ntmps218
  go_wp2
  go_loop [3, 4] (fun n i => ∃ (k : Nat) (m : Int), k ≤ s.size ∧ 0 ≤ m ∧ m ≤ 1000000000 ∧ powTo m (s.data.toList.drop k) = powN s.data.toList ∧ n = .int .i64 m ∧ i = .int .i64 k) (fun _ i => s.size - (intOf i).toNat)
  case atStart => exact ⟨0, 0, by omega, by omega, by omega, by simp [powN], rfl, rfl⟩
  case round =>
    obtain ⟨k, m, hk, h0, h1, hp, rfl, rfl⟩ := hrel
    have hp := Lib.hid hp
    by_cases hlt : k < s.size
    · have hb := Lib.hid (bytes_at s k hlt)
      have hd := isDig_t (hdig.out k _ hb.out)
      by_cases hm : m < 100000000
      · have H := Lib.hid (powTo_drop m _ k _ hb.out hm)
        have hd1 : 48 ≤ (s[k].toNat : Int) := by omega
        have hd2 : (s[k].toNat : Int) ≤ 57 := by omega
        clear hd
        go_wp2
        go_round
        case rel => exact ⟨k + 1, _, by omega, by omega, by omega, by rw [← H.out]; exact hp.out, rfl, by go_num⟩
        case measure => simp [intOf]; omega
      · have H := Lib.hid (powTo_big (s.data.toList.drop k) hm)
        go_wp2
        go_ret
        exact ⟨ret_i64 (by rw [← hp.out, H.out]), rfl⟩
    · have H := Lib.hid (powTo_end m s.data.toList k (by rw [bytes_len]; omega))
      go_wp2
      go_ret
      exact ⟨ret_i64 (by rw [← hp.out, H.out]), rfl⟩
end Go.Proofs.YtamcbgkppgdniaaGreatDoor
