/-
  The walks of rostrumref06's named and Length: what each computes.
-/
import Derived.Test.YtccfdecpiekeoaaGreatDoorFraA
namespace Go.Proofs.YtccfdecpiekeoaaGreatDoor
open Go.RowKit

def clBytes : ByteArray := ⟨#[99, 111, 110, 116, 101, 110, 116, 45, 108, 101, 110, 103, 116, 104]⟩
theorem nm_low (c : UInt8) : isNm c = ((decide (97 ≤ (lowB c).toNat) && decide ((lowB c).toNat ≤ 122)) || (decide (48 ≤ (lowB c).toNat) && decide ((lowB c).toNat ≤ 57)) || decide ((lowB c).toNat = 45)) :=
  byte_all isNm (fun c => ((decide (97 ≤ (lowB c).toNat) && decide ((lowB c).toNat ≤ 122)) || (decide (48 ≤ (lowB c).toNat) && decide ((lowB c).toNat ≤ 57)) || decide ((lowB c).toNat = 45))) (by decide +kernel) c
theorem nm_low_t {c : UInt8} {q : Int} (hq : ((lowB c).toNat : Int) = q) (h : isNm c = true) : (97 ≤ q ∧ q ≤ 122) ∨ (48 ≤ q ∧ q ≤ 57) ∨ q = 45 := by
  rw [nm_low] at h
  simp only [Bool.or_eq_true, Bool.and_eq_true, decide_eq_true_eq] at h
  omega
theorem nm_low_f {c : UInt8} {q : Int} (hq : ((lowB c).toNat : Int) = q) (h : isNm c = false) : ¬ ((97 ≤ q ∧ q ≤ 122) ∨ (48 ≤ q ∧ q ≤ 57) ∨ q = 45) := by
  intro hh
  rw [nm_low] at h
  have : ((decide (97 ≤ (lowB c).toNat) && decide ((lowB c).toNat ≤ 122)) || (decide (48 ≤ (lowB c).toNat) && decide ((lowB c).toNat ≤ 57)) || decide ((lowB c).toNat = 45)) = true := by
    simp only [Bool.or_eq_true, Bool.and_eq_true, decide_eq_true_eq]
    omega
  rw [this] at h; cases h

/-- What named answers. -/
def namedL (s : List UInt8) : Bool × Bool := if s.all isNm then (decide (s.map lowB = clName), decide (s ≠ [])) else (false, false)
def NamedEnd (s : List UInt8) (e : Ending) : Prop := e = .returned (.tuple #[.bool (namedL s).1, .bool (namedL s).2])
theorem named_end {s : List UInt8} {a b : Bool} (h : namedL s = (a, b)) : NamedEnd s (.returned (.tuple #[.bool a, .bool b])) := by unfold NamedEnd; rw [h]

def isTo (s : List UInt8) (k : Nat) : Bool := decide (s.length = 14) && decide ((s.take k).map lowB = clName.take k)
theorem isTo_step {s : List UInt8} {k : Nat} {c : UInt8} (hc : s[k]? = some c) : isTo s (k + 1) = (isTo s k && decide (clName[k]? = some (lowB c))) := by
  unfold isTo
  by_cases hl : s.length = 14
  · have hk : k < 14 := by
      obtain ⟨h, _⟩ := List.getElem?_eq_some_iff.1 hc
      omega
    have hk2 : k < clName.length := hk
    have h1 : s.take (k + 1) = s.take k ++ [c] := by rw [List.take_add_one, hc]; rfl
    have h2 : clName.take (k + 1) = clName.take k ++ [clName[k]] := by rw [List.take_add_one, List.getElem?_eq_getElem hk2]; rfl
    have hlen : ((s.take k).map lowB).length = (clName.take k).length := by simp [hl]; show _ = min k 14; omega
    rw [h1, h2, List.map_append, List.getElem?_eq_getElem hk2]
    rw [decide_eq_true hl, Bool.true_and, Bool.true_and, Bool.eq_iff_iff]
    rw [Bool.and_eq_true, decide_eq_true_eq, decide_eq_true_eq, decide_eq_true_eq]
    constructor
    · intro h
      obtain ⟨g1, g2⟩ := List.append_inj h hlen
      refine ⟨g1, ?_⟩
      injection g2 with g2
      rw [g2]
    · rintro ⟨g1, g2⟩
      injection g2 with g2
      rw [g1, g2]; rfl
  · rw [decide_eq_false hl]; rfl
theorem isTo_false {s : List UInt8} {k : Nat} (h : isTo s k = true) : s.length = 14 := by
  unfold isTo at h
  rw [Bool.and_eq_true, decide_eq_true_eq] at h
  exact h.1
theorem isTo_end (s : List UInt8) (k : Nat) (hk : s.length ≤ k) : isTo s k = decide (s.map lowB = clName) := by
  unfold isTo
  rw [List.take_of_length_le hk]
  by_cases hl : s.length = 14
  · rw [decide_eq_true hl, Bool.true_and, List.take_of_length_le (by show 14 ≤ k; omega)]
  · rw [decide_eq_false hl, Bool.false_and]
    symm
    rw [decide_eq_false_iff_not]
    intro h
    apply hl
    have := congrArg List.length h
    rw [List.length_map] at this
    exact this

set_option maxHeartbeats 1000000 in
theorem refNamed_any (s : ByteArray) (w : World) (hs : s.size ≤ 1099511627776) :
    Calls Tryz.prog 34 #[.string s] w fun e w' => NamedEnd s.data.toList e ∧ w = w' := by
  have hsl := Lib.hid (bytes_len s)
  have h14 : ((s.size : Int) == 14) = decide (s.data.toList.length = 14) := by
    rw [Bool.eq_iff_iff, decide_eq_true_eq, bytes_len, beq_iff_eq]; omega
  have hst : isTo s.data.toList 0 = decide (s.data.toList.length = 14) := by unfold isTo; simp
  obtain ⟨b0, hb0⟩ : ∃ b0, decide (s.data.toList.length = 14) = b0 := ⟨_, rfl⟩
  rw [hb0] at h14 hst
  clear hb0
  replace hst := Lib.hid hst
  go_enter Tryz.func34, Tryz.ntmps34
  go_wp2
  go_loop [4, 5] (fun q i => ∃ (k : Nat) (b : Bool), k ≤ s.size ∧ q = .bool b ∧ i = .int .i64 k ∧ (s.data.toList.take k).all isNm = true ∧ isTo s.data.toList k = b) (fun _ i => s.size - (intOf i).toNat)
  case atStart => exact ⟨0, b0, by omega, rfl, rfl, rfl, hst.out⟩
  case round =>
    obtain ⟨k, b, hk, rfl, rfl, hall, hto⟩ := hrel
    replace hall := Lib.hid hall
    replace hto := Lib.hid hto
    clear h14 hst
    by_cases hlt : k < s.size
    · have hc := bytes_at s k hlt
      have htk : s.data.toList.take (k + 1) = s.data.toList.take k ++ [s[k]] := by rw [List.take_add_one, hc]; rfl
      have hstep := isTo_step hc
      obtain ⟨q, hq⟩ : ∃ q : Int, ((lowB s[k]).toNat : Int) = q := ⟨_, rfl⟩
      have hlow : ∀ W, Calls Tryz.prog 48 #[.int .u8 s[k].toNat] W fun e w' => e = .returned (.int .u8 q) ∧ W = w' := fun W => by
        rw [← hq]; exact refLow_any s[k] W
      have hq0 : 0 ≤ q := by omega
      have hq1 : q ≤ 255 := by have := UInt8.toNat_lt (lowB s[k]); omega
      replace hlow := Lib.hid hlow
      cases hd : isNm s[k]
      · have hbad : s.data.toList.all isNm = false := by
          cases hh : s.data.toList.all isNm
          · rfl
          · rw [List.all_eq_true.1 hh _ (List.mem_of_getElem? hc)] at hd; cases hd
        have hfin : namedL s.data.toList = (false, false) := by unfold namedL; rw [hbad]; rfl
        have hno := nm_low_f hq hd
        replace hfin := Lib.hid hfin
        clear hc htk hstep hq hd hbad
        have hcase : (97 ≤ q ∧ 122 < q) ∨ (q < 97 ∧ 48 ≤ q ∧ 57 < q) ∨ (q < 97 ∧ q < 48 ∧ ((q : Int) != 45) = true) := by
          rw [bne_iff_ne]; omega
        clear hno
        rcases hcase with ⟨c1, c2⟩ | ⟨c1, c2, c3⟩ | ⟨c1, c2, c3⟩
        · have c4 : ((q : Int) != 45) = true := by rw [bne_iff_ne]; omega
          have c5 : 57 < q := by omega
          have c6 : decide (q ≤ 122) = false := decide_eq_false (by omega)
          have c7 : decide (q ≤ 57) = false := decide_eq_false (by omega)
          go_wp2_with (go_at_call 48; refine (hlow.out _).mono ?_; rintro e w' ⟨rfl, rfl⟩)
          go_ret2
          exact ⟨named_end hfin.out, rfl⟩
        · have c4 : ((q : Int) != 45) = true := by rw [bne_iff_ne]; omega
          have c7 : decide (q ≤ 57) = false := decide_eq_false (by omega)
          go_wp2_with (go_at_call 48; refine (hlow.out _).mono ?_; rintro e w' ⟨rfl, rfl⟩)
          go_ret2
          exact ⟨named_end hfin.out, rfl⟩
        · go_wp2_with (go_at_call 48; refine (hlow.out _).mono ?_; rintro e w' ⟨rfl, rfl⟩)
          go_ret2
          exact ⟨named_end hfin.out, rfl⟩
      · have hall2 : (s.data.toList.take (k + 1)).all isNm = true := by rw [htk, List.all_append, hall.out]; simp [hd]
        have hyes := nm_low_t hq hd
        replace hall2 := Lib.hid hall2
        replace hstep := Lib.hid hstep
        replace hq := Lib.hid hq
        clear hc htk hd
        have hcase : (97 ≤ q ∧ q ≤ 122) ∨ (q < 97 ∧ 48 ≤ q ∧ q ≤ 57) ∨ (q < 97 ∧ q < 48 ∧ ((q : Int) != 45) = false) := by
          rcases hyes with h | h | h
          · exact Or.inl h
          · exact Or.inr (Or.inl ⟨by omega, h.1, h.2⟩)
          · exact Or.inr (Or.inr ⟨by omega, by omega, by subst h; rfl⟩)
        clear hyes
        cases b
        · have H : isTo s.data.toList (k + 1) = false := by rw [hstep.out, hto.out]; rfl
          replace H := Lib.hid H
          rcases hcase with ⟨c1, c2⟩ | ⟨c1, c2, c3⟩ | ⟨c1, c2, c3⟩
          all_goals
            go_wp2_with (go_at_call 48; refine (hlow.out _).mono ?_; rintro e w' ⟨rfl, rfl⟩)
            go_round
            case rel => exact ⟨k + 1, false, by omega, rfl, by go_num, hall2.out, H.out⟩
            case measure => simp [intOf]; omega
        · have hl14 := isTo_false hto.out
          have hk14 : k < 14 := by rw [hsl.out] at hl14; omega
          have hk15 : (k : Int) < 14 := by omega
          have H : ((q : Int) == ((clBytes[k]'hk14).toNat : Int)) = isTo s.data.toList (k + 1) := by
            rw [hstep.out, hto.out, Bool.true_and, Bool.eq_iff_iff, beq_iff_eq, decide_eq_true_eq]
            have : clName[k]? = some (clBytes[k]'hk14) := bytes_at clBytes k hk14
            rw [this, Option.some.injEq, ← hq.out, ← UInt8.toNat_inj]
            omega
          replace H := Lib.hid H
          clear hl14
          rcases hcase with ⟨c1, c2⟩ | ⟨c1, c2, c3⟩ | ⟨c1, c2, c3⟩
          all_goals
            go_wp2_with (go_at_call 48; refine (hlow.out _).mono ?_; rintro e w' ⟨rfl, rfl⟩)
            go_round
            case rel => exact ⟨k + 1, _, by omega, rfl, by go_num, hall2.out, H.out.symm⟩
            case measure => simp [intOf]; omega
    · have hall2 : s.data.toList.all isNm = true := by rw [← hall.out, List.take_of_length_le (by rw [hsl.out]; omega)]
      have hto2 := isTo_end s.data.toList k (by rw [hsl.out]; omega)
      rw [hto.out] at hto2
      have hfin : namedL s.data.toList = (b, decide (s.data.toList ≠ [])) := by unfold namedL; rw [hall2, hto2]; rfl
      clear hall2 hto2
      by_cases h0 : s.data.toList = []
      · have he := empty_t h0
        rw [decide_eq_false (by simpa using h0)] at hfin
        clear h0
        replace hfin := Lib.hid hfin
        go_wp2
        go_ret2
        exact ⟨named_end hfin.out, rfl⟩
      · have he := empty_f h0
        rw [decide_eq_true (by simpa using h0)] at hfin
        clear h0
        replace hfin := Lib.hid hfin
        go_wp2
        go_ret2
        exact ⟨named_end hfin.out, rfl⟩
end Go.Proofs.YtccfdecpiekeoaaGreatDoor
