/-
  The walks of the document's JSON reader: blanks, four digits.
-/
import Derived.Test.YtamcbgkppgdniaaGreatDoorRja
namespace Go.Proofs.YtamcbgkppgdniaaGreatDoor
open Go.RowKit

/-- How far the reader has to go. -/
def lenR (w : World) (b : Nat) : Nat := match w.cell? ⟨b, 0, none⟩, w.cell? ⟨b, 1, none⟩, w.cell? ⟨b, 3, none⟩ with
  | some (.string S), some (.int _ a), some (.int _ e) => if e = 0 then S.size + 1 - a.toNat else 0
  | _, _, _ => 0
theorem lenR_of {w : World} {b at' it : Nat} {S : ByteArray} {e : Int} (h : RK w b S at' it e) : lenR w b = if e = 0 then S.size + 1 - at' else 0 := by
  obtain ⟨p0, p1, p2, p3⟩ := h.cells
  unfold lenR
  rw [p0, p1, p3]
  dsimp only
  rw [Int.toNat_natCast]
theorem RK.adv {w : World} {b at' it : Nat} {S : ByteArray} {e : Int} (h : RK w b S at' it e) : RK (w.setCell ⟨b, 1, none⟩ (.int .i64 ((at' : Int) + 1))) b S (at' + 1) it e := by
  have := Cel.set h 1 (.int .i64 ((at' : Int) + 1))
  exact this
theorem RK.lt {w : World} {b at' it : Nat} {S : ByteArray} {e : Int} (h : RK w b S at' it e) : b < w.heap.size := Cel.lt h
theorem rrFail0_any (b at' it : Nat) (S : ByteArray) (c : Int) (w : World) (h : RK w b S at' it 0) :
    Calls Tryz.prog 88 #[.pointer (some ⟨b, 0, none⟩), .int .i64 c] w fun en w' => en = .returned (.tuple #[]) ∧ But w.heap.size b w w' ∧ RK w' b S at' it c :=
  (rrFail_any b at' it S (0 : Int) c w h).mono fun en w' hx => by rw [if_pos rfl] at hx; exact hx
theorem jblk_yes {c : UInt8} {r : List UInt8} (h : jblank c = true) : jblk (c :: r) = jblk r := by
  unfold jblk; rw [List.dropWhile_cons_of_pos h]
theorem jblk_no {c : UInt8} {r : List UInt8} (h : ¬ jblank c = true) : jblk (c :: r) = c :: r := by
  unfold jblk; rw [List.dropWhile_cons_of_neg h]
def BlkEnd (b at' it : Nat) (S : ByteArray) (e : Int) (w : World) (en : Ending) (w' : World) : Prop :=
  en = .returned (.tuple #[]) ∧ But w.heap.size b w w' ∧ ∃ k, RK w' b S k it e ∧ at' ≤ k ∧ k ≤ S.size ∧ (e = 0 → rest S k = jblk (rest S at')) ∧ (e ≠ 0 → k = at')
theorem nextI_cons {S : ByteArray} {k : Nat} (h : k < S.size) : nextI 0 (rest S k) = (S[k].toNat : Int) := by
  unfold nextI
  rw [if_pos rfl, rest_cons h]
set_option maxRecDepth 100000 in
set_option maxHeartbeats 4000000 in
theorem rrBlanks_any (b at' it : Nat) (S : ByteArray) (e : Int) (w : World) (h : RK w b S at' it e) (ha : at' ≤ S.size) (hS : S.size ≤ 1000000) :
    Calls Tryz.prog 86 #[.pointer (some ⟨b, 0, none⟩)] w (BlkEnd b at' it S e w) := by
  have hlt0 := h.lt
  go_enter Tryz.func86, Tryz.ntmps86
  go_wp2_with fail
  go_loopw [2] (fun _ wr => But w.heap.size b w wr ∧ ∃ k, RK wr b S k it e ∧ at' ≤ k ∧ k ≤ S.size ∧ (e = 0 → jblk (rest S k) = jblk (rest S at')) ∧ (e ≠ 0 → k = at')) (fun _ wr => lenR wr b)
  case atStart => exact ⟨But.refl _ _ _, at', h, Nat.le_refl _, ha, fun _ => rfl, fun _ => rfl⟩
  case round =>
    obtain ⟨hB, k, hk, hk1, hk2, hj, hq⟩ := hrel
    have hlt := hk.lt
    have hM := fun (W : World) (hb : Below wr.heap.size wr W) => (rrMore_any b k it S e W (hk.below hb)).mono (R' := fun en w' => en = .returned (.bool (decide (e = 0) && decide (k < S.size))) ∧ Below wr.heap.size wr w') (fun en w' hx => ⟨hx.1, hb.trans (hx.2.mono hb.size)⟩)
    clear h
    by_cases hm : e = 0 ∧ k < S.size
    · obtain ⟨rfl, hks⟩ := hm
      rw [show (decide ((0 : Int) = 0) && decide (k < S.size)) = true by simp [hks]] at hM
      have hN := fun (W : World) (hb : Below wr.heap.size wr W) => (rrNext_any b k it S 0 W (hk.below hb)).mono (R' := fun en w' => en = .returned (.int .u8 (nextI 0 (rest S k))) ∧ Below wr.heap.size wr w') (fun en w' hx => ⟨hx.1, hb.trans (hx.2.mono hb.size)⟩)
      rw [nextI_cons hks] at hN
      have hj' := hj rfl
      rw [rest_cons hks] at hj'
      obtain ⟨c, hc⟩ : ∃ c, S[k] = c := ⟨_, rfl⟩
      rw [hc] at hN hj'
      have hend : rest S k = c :: rest S (k + 1) := by rw [rest_cons hks, hc]
      have hbd := c.toNat_lt
      obtain ⟨ci, hci⟩ : ∃ ci : Int, (c.toNat : Int) = ci := ⟨_, rfl⟩
      rw [hci] at hN
      have hm := lenR_of hk
      rw [if_pos rfl] at hm
      have hkb : (k : Int) ≤ 1000000 := by omega
      have hk0 : (0 : Int) ≤ (k : Int) := by omega
      have hBw := hB.size
      replace hM := Lib.hid hM
      replace hN := Lib.hid hN
      replace hk := Lib.hid hk
      replace hB := Lib.hid hB
      replace hm := Lib.hid hm
      replace hq := Lib.hid hq
      replace hj := Lib.hid hj
      clear hc ha hS
      by_cases c32 : c = 32
      · subst c32
        have e2 : ci = 32 := hci.symm
        subst e2
        rw [jblk_yes (by decide)] at hj'
        replace hj' := Lib.hid hj'
        clear hci hend hbd
        go_wp2_with fail
        refine (hM.out _ (Below.refl _ _)).mono ?_
        rintro en v0 ⟨rfl, hb0⟩
        replace hb0 := Lib.hid hb0
        clear hM
        go_wp2_with fail
        refine (hN.out _ hb0.out).mono ?_
        rintro en v1 ⟨rfl, hb1⟩
        replace hb1 := Lib.hid hb1
        clear hb0
        have hkk := hk.out.below hb1.out
        obtain ⟨p0, p1, p2, p3⟩ := hkk.cells
        have f1 := Cel.froz hkk 1
        have hA := hkk.adv
        have hB' := Lib.hid ((hB.out.trans (But.of (hb1.out.mono hBw))).set 1 (.int .i64 ((k : Int) + 1)))
        have hmm := lenR_of hA
        rw [if_pos rfl] at hmm
        replace hmm := Lib.hid hmm
        replace hA := Lib.hid hA
        clear hk hB hb1 hkk hN
        go_wp2_with fail
        go_roundw
        case rel => exact ⟨hB'.out, k + 1, hA.out, by omega, by omega, fun _ => hj'.out, fun h => absurd rfl h⟩
        case measure => rw [hmm.out, hm.out]; omega
      have n32 : (ci == 32) = false := by
        rw [← hci]
        have : c.toNat ≠ 32 := fun e => c32 (UInt8.toNat_inj.1 e)
        simpa using (by omega : (c.toNat : Int) ≠ 32)
      by_cases c9 : c = 9
      · subst c9
        have e2 : ci = 9 := hci.symm
        subst e2
        rw [jblk_yes (by decide)] at hj'
        replace hj' := Lib.hid hj'
        clear hci hend hbd
        go_wp2_with fail
        refine (hM.out _ (Below.refl _ _)).mono ?_
        rintro en v0 ⟨rfl, hb0⟩
        replace hb0 := Lib.hid hb0
        clear hM
        go_wp2_with fail
        refine (hN.out _ hb0.out).mono ?_
        rintro en v1 ⟨rfl, hb1⟩
        replace hb1 := Lib.hid hb1
        clear hb0
        go_wp2_with fail
        refine (hN.out _ hb1.out).mono ?_
        rintro en v2 ⟨rfl, hb2⟩
        replace hb2 := Lib.hid hb2
        clear hb1
        have hkk := hk.out.below hb2.out
        obtain ⟨p0, p1, p2, p3⟩ := hkk.cells
        have f1 := Cel.froz hkk 1
        have hA := hkk.adv
        have hB' := Lib.hid ((hB.out.trans (But.of (hb2.out.mono hBw))).set 1 (.int .i64 ((k : Int) + 1)))
        have hmm := lenR_of hA
        rw [if_pos rfl] at hmm
        replace hmm := Lib.hid hmm
        replace hA := Lib.hid hA
        clear hk hB hb2 hkk hN
        go_wp2_with fail
        go_roundw
        case rel => exact ⟨hB'.out, k + 1, hA.out, by omega, by omega, fun _ => hj'.out, fun h => absurd rfl h⟩
        case measure => rw [hmm.out, hm.out]; omega
      have n9 : (ci == 9) = false := by
        rw [← hci]
        have : c.toNat ≠ 9 := fun e => c9 (UInt8.toNat_inj.1 e)
        simpa using (by omega : (c.toNat : Int) ≠ 9)
      by_cases c10 : c = 10
      · subst c10
        have e2 : ci = 10 := hci.symm
        subst e2
        rw [jblk_yes (by decide)] at hj'
        replace hj' := Lib.hid hj'
        clear hci hend hbd
        go_wp2_with fail
        refine (hM.out _ (Below.refl _ _)).mono ?_
        rintro en v0 ⟨rfl, hb0⟩
        replace hb0 := Lib.hid hb0
        clear hM
        go_wp2_with fail
        refine (hN.out _ hb0.out).mono ?_
        rintro en v1 ⟨rfl, hb1⟩
        replace hb1 := Lib.hid hb1
        clear hb0
        go_wp2_with fail
        refine (hN.out _ hb1.out).mono ?_
        rintro en v2 ⟨rfl, hb2⟩
        replace hb2 := Lib.hid hb2
        clear hb1
        go_wp2_with fail
        refine (hN.out _ hb2.out).mono ?_
        rintro en v3 ⟨rfl, hb3⟩
        replace hb3 := Lib.hid hb3
        clear hb2
        have hkk := hk.out.below hb3.out
        obtain ⟨p0, p1, p2, p3⟩ := hkk.cells
        have f1 := Cel.froz hkk 1
        have hA := hkk.adv
        have hB' := Lib.hid ((hB.out.trans (But.of (hb3.out.mono hBw))).set 1 (.int .i64 ((k : Int) + 1)))
        have hmm := lenR_of hA
        rw [if_pos rfl] at hmm
        replace hmm := Lib.hid hmm
        replace hA := Lib.hid hA
        clear hk hB hb3 hkk hN
        go_wp2_with fail
        go_roundw
        case rel => exact ⟨hB'.out, k + 1, hA.out, by omega, by omega, fun _ => hj'.out, fun h => absurd rfl h⟩
        case measure => rw [hmm.out, hm.out]; omega
      have n10 : (ci == 10) = false := by
        rw [← hci]
        have : c.toNat ≠ 10 := fun e => c10 (UInt8.toNat_inj.1 e)
        simpa using (by omega : (c.toNat : Int) ≠ 10)
      by_cases c13 : c = 13
      · subst c13
        have e2 : ci = 13 := hci.symm
        subst e2
        rw [jblk_yes (by decide)] at hj'
        replace hj' := Lib.hid hj'
        clear hci hend hbd
        go_wp2_with fail
        refine (hM.out _ (Below.refl _ _)).mono ?_
        rintro en v0 ⟨rfl, hb0⟩
        replace hb0 := Lib.hid hb0
        clear hM
        go_wp2_with fail
        refine (hN.out _ hb0.out).mono ?_
        rintro en v1 ⟨rfl, hb1⟩
        replace hb1 := Lib.hid hb1
        clear hb0
        go_wp2_with fail
        refine (hN.out _ hb1.out).mono ?_
        rintro en v2 ⟨rfl, hb2⟩
        replace hb2 := Lib.hid hb2
        clear hb1
        go_wp2_with fail
        refine (hN.out _ hb2.out).mono ?_
        rintro en v3 ⟨rfl, hb3⟩
        replace hb3 := Lib.hid hb3
        clear hb2
        go_wp2_with fail
        refine (hN.out _ hb3.out).mono ?_
        rintro en v4 ⟨rfl, hb4⟩
        replace hb4 := Lib.hid hb4
        clear hb3
        have hkk := hk.out.below hb4.out
        obtain ⟨p0, p1, p2, p3⟩ := hkk.cells
        have f1 := Cel.froz hkk 1
        have hA := hkk.adv
        have hB' := Lib.hid ((hB.out.trans (But.of (hb4.out.mono hBw))).set 1 (.int .i64 ((k : Int) + 1)))
        have hmm := lenR_of hA
        rw [if_pos rfl] at hmm
        replace hmm := Lib.hid hmm
        replace hA := Lib.hid hA
        clear hk hB hb4 hkk hN
        go_wp2_with fail
        go_roundw
        case rel => exact ⟨hB'.out, k + 1, hA.out, by omega, by omega, fun _ => hj'.out, fun h => absurd rfl h⟩
        case measure => rw [hmm.out, hm.out]; omega
      have n13 : (ci == 13) = false := by
        rw [← hci]
        have : c.toNat ≠ 13 := fun e => c13 (UInt8.toNat_inj.1 e)
        simpa using (by omega : (c.toNat : Int) ≠ 13)
      · have hjb : ¬ jblank c = true := by
          unfold jblank
          simp [c32, c9, c10, c13]
        rw [jblk_no hjb, ← hend] at hj'
        replace hj' := Lib.hid hj'
        clear hci hend hbd hjb c32 c9 c10 c13
        go_wp2_with fail
        refine (hM.out _ (Below.refl _ _)).mono ?_
        rintro en v0 ⟨rfl, hb0⟩
        replace hb0 := Lib.hid hb0
        clear hM
        go_wp2_with fail
        refine (hN.out _ hb0.out).mono ?_
        rintro en v1 ⟨rfl, hb1⟩
        replace hb1 := Lib.hid hb1
        clear hb0
        go_wp2_with fail
        refine (hN.out _ hb1.out).mono ?_
        rintro en v2 ⟨rfl, hb2⟩
        replace hb2 := Lib.hid hb2
        clear hb1
        go_wp2_with fail
        refine (hN.out _ hb2.out).mono ?_
        rintro en v3 ⟨rfl, hb3⟩
        replace hb3 := Lib.hid hb3
        clear hb2
        go_wp2_with fail
        refine (hN.out _ hb3.out).mono ?_
        rintro en v4 ⟨rfl, hb4⟩
        replace hb4 := Lib.hid hb4
        clear hb3
        have hA := Lib.hid (hk.out.below hb4.out)
        have hB' := Lib.hid (hB.out.trans (But.of (hb4.out.mono hBw)))
        clear hk hB hb4 hN
        go_wp2_with fail
        go_end0
        exact ⟨rfl, hB'.out, k, hA.out, hk1, hk2, fun _ => hj'.out, fun h => absurd rfl h⟩
    · have hmf : (decide (e = 0) && decide (k < S.size)) = false := by
        rw [Bool.eq_false_iff]
        intro h'
        simp at h'
        exact hm h'
      have hend : e = 0 → rest S k = jblk (rest S at') := fun he => by
        have h1 := hj he
        rw [rest_nil (fun h' => hm ⟨he, h'⟩)] at h1 ⊢
        exact h1
      rw [hmf] at hM
      have hBw := hB.size
      replace hM := Lib.hid (hM wr (Below.refl _ _))
      replace hB := Lib.hid hB
      replace hk := Lib.hid hk
      replace hend := Lib.hid hend
      replace hq := Lib.hid hq
      clear hj hmf hm
      go_wp2_with fail
      refine hM.out.mono ?_
      rintro en v0 ⟨rfl, hb0⟩
      have hA := Lib.hid (hk.out.below hb0)
      have hB' := Lib.hid (hB.out.trans (But.of (hb0.mono hBw)))
      clear hM hk hB hb0
      go_wp2_with fail
      go_end0
      exact ⟨rfl, hB'.out, k, hA.out, hk1, hk2, hend.out, hq.out⟩
/-- Digits, one behind the other. -/
def hexF : Nat → Nat → List UInt8 → Option (Nat × List UInt8)
  | 0, v, s => some (v, s)
  | _ + 1, _, [] => none
  | k + 1, v, c :: r => match jhv c with
    | some d => hexF k (v * 16 + d) r
    | none => none
theorem hexF_unit (s : List UInt8) : hexF 4 0 s = junit s := by
  rcases s with _ | ⟨a, s⟩
  · rfl
  rcases ha : jhv a with _ | x
  · simp only [hexF, ha]
    unfold junit
    split
    · rename_i h; injection h with h1 h2; subst h1; rw [ha]
    · rfl
  rcases s with _ | ⟨b, s⟩
  · simp only [hexF, ha]; rfl
  rcases hb : jhv b with _ | y
  · simp only [hexF, ha, hb]
    unfold junit
    split
    · rename_i h; injection h with h1 h2; injection h2 with h2 h3; subst h1; subst h2; rw [ha, hb]
    · rfl
  rcases s with _ | ⟨c, s⟩
  · simp only [hexF, ha, hb]; rfl
  rcases hc : jhv c with _ | z
  · simp only [hexF, ha, hb, hc]
    unfold junit
    split
    · rename_i h; injection h with h1 h2; injection h2 with h2 h3; injection h3 with h3 h4; subst h1; subst h2; subst h3; rw [ha, hb, hc]
    · rfl
  rcases s with _ | ⟨d, s⟩
  · simp only [hexF, ha, hb, hc]; rfl
  rcases hd : jhv d with _ | u
  · simp only [hexF, ha, hb, hc, hd]; unfold junit; simp only [ha, hb, hc, hd]
  · simp only [hexF, ha, hb, hc, hd]; unfold junit; simp only [ha, hb, hc, hd]; simp
/-- The bounds of what q digits come to. -/
def VB (q : Nat) (v : Int) : Prop := 0 ≤ v ∧ v < 16 ^ q
theorem VB.bd {q : Nat} {v : Int} (h : VB q v) (hq : q ≤ 4) : 0 ≤ v ∧ v ≤ 65535 := by
  obtain ⟨h1, h2⟩ := h
  have h3 : (16 : Nat) ^ q ≤ 16 ^ 4 := Nat.pow_le_pow_right (by decide) hq
  have h4 : ((16 : Int) ^ q) = ((16 ^ q : Nat) : Int) := by simp
  rw [h4] at h2
  exact ⟨h1, by omega⟩
theorem VB.step {q : Nat} {v d : Int} (h : VB q v) (h0 : 0 ≤ d) (h1 : d < 16) : VB (q + 1) (v * 16 + d) := by
  obtain ⟨h2, h3⟩ := h
  refine ⟨by omega, ?_⟩
  rw [Int.pow_succ]
  omega
def RUnitEnd (b at' it : Nat) (S : ByteArray) (w : World) (R : Option (Nat × List UInt8)) (en : Ending) (w' : World) : Prop :=
  But w.heap.size b w w' ∧ ∃ (n k : Nat), en = .returned (.int .i64 (n : Int)) ∧ at' ≤ k ∧ k ≤ S.size ∧ n < 65536 ∧ (match R with
    | some (a, r) => RK w' b S k it 0 ∧ n = a ∧ rest S k = r
    | none => RK w' b S k it 4 ∧ n = 0)
theorem jhv_cases (c : UInt8) (ci : Int) (h : (c.toNat : Int) = ci) : (ci < 48 ∧ jhv c = none) ∨ (48 ≤ ci ∧ ci ≤ 57 ∧ jhv c = some (c.toNat - 48)) ∨ (57 < ci ∧ ci < 65 ∧ jhv c = none) ∨ (65 ≤ ci ∧ ci ≤ 70 ∧ jhv c = some (c.toNat - 55)) ∨ (70 < ci ∧ ci < 97 ∧ jhv c = none) ∨ (97 ≤ ci ∧ ci ≤ 102 ∧ jhv c = some (c.toNat - 87)) ∨ (102 < ci ∧ jhv c = none) := by
  subst h
  unfold jhv
  by_cases h1 : c.toNat < 48
  · left; exact ⟨by omega, by rw [if_neg (by omega), if_neg (by omega), if_neg (by omega)]⟩
  by_cases h2 : c.toNat ≤ 57
  · right; left; exact ⟨by omega, by omega, by rw [if_pos (by omega)]⟩
  by_cases h3 : c.toNat < 65
  · right; right; left; exact ⟨by omega, by omega, by rw [if_neg (by omega), if_neg (by omega), if_neg (by omega)]⟩
  by_cases h4 : c.toNat ≤ 70
  · right; right; right; left; exact ⟨by omega, by omega, by rw [if_neg (by omega), if_neg (by omega), if_pos (by omega)]⟩
  by_cases h5 : c.toNat < 97
  · right; right; right; right; left; exact ⟨by omega, by omega, by rw [if_neg (by omega), if_neg (by omega), if_neg (by omega)]⟩
  by_cases h6 : c.toNat ≤ 102
  · right; right; right; right; right; left; exact ⟨by omega, by omega, by rw [if_neg (by omega), if_pos (by omega)]⟩
  · right; right; right; right; right; right; exact ⟨by omega, by rw [if_neg (by omega), if_neg (by omega), if_neg (by omega)]⟩
set_option maxRecDepth 100000 in
set_option maxHeartbeats 8000000 in
theorem rrUnit_any (b at' it : Nat) (S : ByteArray) (w : World) (h : RK w b S at' it 0) (ha : at' ≤ S.size) (hS : S.size ≤ 1000000) :
    Calls Tryz.prog 198 #[.pointer (some ⟨b, 0, none⟩)] w (RUnitEnd b at' it S w (junit (rest S at'))) := by
  have hlt0 := h.lt
  obtain ⟨R, hR⟩ : ∃ R, junit (rest S at') = R := ⟨_, rfl⟩
  rw [hR]
  rw [← hexF_unit] at hR
  go_enter Tryz.func198, Tryz.ntmps198
  go_wp2_with fail
  go_loopw [3, 4] (fun n i wr => But w.heap.size b w wr ∧ ∃ (q : Nat) (v : Int), q ≤ 4 ∧ n = .int .i64 v ∧ i = .int .i64 (q : Int) ∧ VB q v ∧ at' + q ≤ S.size ∧ RK wr b S (at' + q) it 0 ∧ hexF (4 - q) v.toNat (rest S (at' + q)) = R) (fun _ i _ => 4 - (intOf i).toNat)
  case atStart => exact ⟨But.refl _ _ _, 0, 0, by omega, rfl, rfl, ⟨by decide, by decide⟩, ha, h, hR⟩
  case round =>
    obtain ⟨hB, q, v, hq, rfl, rfl, hv, hqs, hk, hx⟩ := hrel
    clear h hR
    have hBw := hB.size
    obtain ⟨hv0, hv1⟩ := hv.bd hq
    by_cases hq4 : q < 4
    · have hqi : (q : Int) < 4 := by omega
      have hq0 : (0 : Int) ≤ (q : Int) := by omega
      obtain ⟨k, hkk⟩ : ∃ k, at' + q = k := ⟨_, rfl⟩
      rw [hkk] at hqs hk hx
      have hN := rrNext_any b k it S 0 wr hk
      have hM := fun (W : World) (hb : Below wr.heap.size wr W) => (rrMore_any b k it S 0 W (hk.below hb)).mono (R' := fun en w' => en = .returned (.bool (decide ((0 : Int) = 0) && decide (k < S.size))) ∧ Below wr.heap.size wr w') (fun en w' hx => ⟨hx.1, hb.trans (hx.2.mono hb.size)⟩)
      have hF := fun (W : World) (hb : Below wr.heap.size wr W) => rrFail0_any b k it S 4 W (hk.below hb)
      have hkb : (k : Int) ≤ 1000000 := by omega
      have hk0 : (0 : Int) ≤ (k : Int) := by omega
      by_cases hks : k < S.size
      · rw [nextI_cons hks] at hN
        rw [show (decide ((0 : Int) = 0) && decide (k < S.size)) = true by simp [hks]] at hM
        rw [rest_cons hks, show 4 - q = (3 - q) + 1 by omega] at hx
        unfold hexF at hx
        obtain ⟨c, hc⟩ : ∃ c, S[k] = c := ⟨_, rfl⟩
        rw [hc] at hN hx
        have hbd := c.toNat_lt
        obtain ⟨ci, hci⟩ : ∃ ci : Int, (c.toNat : Int) = ci := ⟨_, rfl⟩
        have hcs := jhv_cases c ci hci
        rw [hci] at hN
        have hci0 : (0 : Int) ≤ ci := by omega
        have hci1 : ci < 256 := by omega
        replace hM := Lib.hid hM
        replace hN := Lib.hid hN
        replace hF := Lib.hid hF
        replace hk := Lib.hid hk
        replace hB := Lib.hid hB
        clear hc ha
        rcases hcs with ⟨k1, hh⟩ | ⟨k1, k2, hh⟩ | ⟨k1, k2, hh⟩ | ⟨k1, k2, hh⟩ | ⟨k1, k2, hh⟩ | ⟨k1, k2, hh⟩ | ⟨k1, hh⟩
        · rw [hh] at hx
          dsimp only at hx
          subst hx
          clear hh hci hbd
          replace hkk := Lib.hid hkk
          go_wp2_with fail
          refine hN.out.mono ?_
          rintro en v0 ⟨rfl, hb0⟩
          replace hb0 := Lib.hid hb0
          clear hN
          go_wp2_with fail
          refine (hM.out _ hb0.out).mono ?_
          rintro en v1 ⟨rfl, hb1⟩
          clear hb0 hM
          have hf := Lib.hid (hF.out _ hb1)
          have hB' := Lib.hid (hB.out.trans (But.of (hb1.mono hBw)))
          have hsz1 := hB'.out.size
          clear hk hB hb1 hF
          go_wp2_with fail
          refine hf.out.mono ?_
          rintro en v2 ⟨rfl, hb2, hk2⟩
          replace hk2 := Lib.hid hk2
          have hB2 := Lib.hid (hB'.out.trans (hb2.mono hsz1))
          clear hf hB' hb2
          go_wp2_with fail
          go_ret
          exact ⟨hB2.out, 0, k, rfl, by have := hkk.out; omega, by omega, by omega, hk2.out, rfl⟩
        · rw [hh] at hx
          obtain ⟨d, hd⟩ : ∃ d, c.toNat - 48 = d := ⟨_, rfl⟩
          rw [hd] at hx
          dsimp only at hx
          have hd2 : ((d : Nat) : Int) = ci - 48 := by omega
          have hvs : VB (q + 1) (v * 16 + (ci - 48)) := hv.step (by omega) (by omega)
          have hvn : v.toNat * 16 + d = (v * 16 + (ci - 48)).toNat := by omega
          rw [hvn] at hx
          replace hvs := Lib.hid hvs
          have hv2 : v ≤ 70000 := by omega
          replace hx := Lib.hid hx
          replace hkk := Lib.hid hkk
          clear hh hci hd hd2 hbd hvn hv hv1
          go_wp2_with fail
          refine hN.out.mono ?_
          rintro en v0 ⟨rfl, hb0⟩
          replace hb0 := Lib.hid hb0
          clear hN
          go_wp2_with fail
          refine (hM.out _ hb0.out).mono ?_
          rintro en v1 ⟨rfl, hb1⟩
          replace hb1 := Lib.hid hb1
          clear hb0
          have hk1' := hk.out.below hb1.out
          obtain ⟨p0, p1, p2, p3⟩ := hk1'.cells
          have f1 := Cel.froz hk1' 1
          have hA := Lib.hid hk1'.adv
          have hB' := Lib.hid ((hB.out.trans (But.of (hb1.out.mono hBw))).set 1 (.int .i64 ((k : Int) + 1)))
          clear hk hB hb1 hk1' hM hF
          go_wp2_with fail
          go_roundw
          case rel => exact ⟨hB'.out, q + 1, v * 16 + (ci - 48), by omega, by go_num, by go_num, hvs.out, by have := hkk.out; omega, by rw [← Nat.add_assoc, hkk.out]; exact hA.out, by rw [← Nat.add_assoc, hkk.out, show 4 - (q + 1) = 3 - q by omega]; exact hx.out⟩
          case measure => simp [intOf]; omega
        · rw [hh] at hx
          dsimp only at hx
          subst hx
          clear hh hci hbd
          replace hkk := Lib.hid hkk
          go_wp2_with fail
          refine hN.out.mono ?_
          rintro en v0 ⟨rfl, hb0⟩
          replace hb0 := Lib.hid hb0
          clear hN
          go_wp2_with fail
          refine (hM.out _ hb0.out).mono ?_
          rintro en v1 ⟨rfl, hb1⟩
          clear hb0 hM
          have hf := Lib.hid (hF.out _ hb1)
          have hB' := Lib.hid (hB.out.trans (But.of (hb1.mono hBw)))
          have hsz1 := hB'.out.size
          clear hk hB hb1 hF
          go_wp2_with fail
          refine hf.out.mono ?_
          rintro en v2 ⟨rfl, hb2, hk2⟩
          replace hk2 := Lib.hid hk2
          have hB2 := Lib.hid (hB'.out.trans (hb2.mono hsz1))
          clear hf hB' hb2
          go_wp2_with fail
          go_ret
          exact ⟨hB2.out, 0, k, rfl, by have := hkk.out; omega, by omega, by omega, hk2.out, rfl⟩
        · rw [hh] at hx
          obtain ⟨d, hd⟩ : ∃ d, c.toNat - 55 = d := ⟨_, rfl⟩
          rw [hd] at hx
          dsimp only at hx
          have hd2 : ((d : Nat) : Int) = ci - 55 := by omega
          have hvs : VB (q + 1) (v * 16 + (ci - 55)) := hv.step (by omega) (by omega)
          have hvn : v.toNat * 16 + d = (v * 16 + (ci - 55)).toNat := by omega
          rw [hvn] at hx
          replace hvs := Lib.hid hvs
          have hv2 : v ≤ 70000 := by omega
          replace hx := Lib.hid hx
          replace hkk := Lib.hid hkk
          clear hh hci hd hd2 hbd hvn hv hv1
          go_wp2_with fail
          refine hN.out.mono ?_
          rintro en v0 ⟨rfl, hb0⟩
          replace hb0 := Lib.hid hb0
          clear hN
          go_wp2_with fail
          refine (hM.out _ hb0.out).mono ?_
          rintro en v1 ⟨rfl, hb1⟩
          replace hb1 := Lib.hid hb1
          clear hb0
          have hk1' := hk.out.below hb1.out
          obtain ⟨p0, p1, p2, p3⟩ := hk1'.cells
          have f1 := Cel.froz hk1' 1
          have hA := Lib.hid hk1'.adv
          have hB' := Lib.hid ((hB.out.trans (But.of (hb1.out.mono hBw))).set 1 (.int .i64 ((k : Int) + 1)))
          clear hk hB hb1 hk1' hM hF
          go_wp2_with fail
          go_roundw
          case rel => exact ⟨hB'.out, q + 1, v * 16 + (ci - 55), by omega, by go_num, by go_num, hvs.out, by have := hkk.out; omega, by rw [← Nat.add_assoc, hkk.out]; exact hA.out, by rw [← Nat.add_assoc, hkk.out, show 4 - (q + 1) = 3 - q by omega]; exact hx.out⟩
          case measure => simp [intOf]; omega
        · rw [hh] at hx
          dsimp only at hx
          subst hx
          clear hh hci hbd
          replace hkk := Lib.hid hkk
          go_wp2_with fail
          refine hN.out.mono ?_
          rintro en v0 ⟨rfl, hb0⟩
          replace hb0 := Lib.hid hb0
          clear hN
          go_wp2_with fail
          refine (hM.out _ hb0.out).mono ?_
          rintro en v1 ⟨rfl, hb1⟩
          clear hb0 hM
          have hf := Lib.hid (hF.out _ hb1)
          have hB' := Lib.hid (hB.out.trans (But.of (hb1.mono hBw)))
          have hsz1 := hB'.out.size
          clear hk hB hb1 hF
          go_wp2_with fail
          refine hf.out.mono ?_
          rintro en v2 ⟨rfl, hb2, hk2⟩
          replace hk2 := Lib.hid hk2
          have hB2 := Lib.hid (hB'.out.trans (hb2.mono hsz1))
          clear hf hB' hb2
          go_wp2_with fail
          go_ret
          exact ⟨hB2.out, 0, k, rfl, by have := hkk.out; omega, by omega, by omega, hk2.out, rfl⟩
        · rw [hh] at hx
          obtain ⟨d, hd⟩ : ∃ d, c.toNat - 87 = d := ⟨_, rfl⟩
          rw [hd] at hx
          dsimp only at hx
          have hd2 : ((d : Nat) : Int) = ci - 87 := by omega
          have hvs : VB (q + 1) (v * 16 + (ci - 87)) := hv.step (by omega) (by omega)
          have hvn : v.toNat * 16 + d = (v * 16 + (ci - 87)).toNat := by omega
          rw [hvn] at hx
          replace hvs := Lib.hid hvs
          have hv2 : v ≤ 70000 := by omega
          replace hx := Lib.hid hx
          replace hkk := Lib.hid hkk
          clear hh hci hd hd2 hbd hvn hv hv1
          go_wp2_with fail
          refine hN.out.mono ?_
          rintro en v0 ⟨rfl, hb0⟩
          replace hb0 := Lib.hid hb0
          clear hN
          go_wp2_with fail
          refine (hM.out _ hb0.out).mono ?_
          rintro en v1 ⟨rfl, hb1⟩
          replace hb1 := Lib.hid hb1
          clear hb0
          have hk1' := hk.out.below hb1.out
          obtain ⟨p0, p1, p2, p3⟩ := hk1'.cells
          have f1 := Cel.froz hk1' 1
          have hA := Lib.hid hk1'.adv
          have hB' := Lib.hid ((hB.out.trans (But.of (hb1.out.mono hBw))).set 1 (.int .i64 ((k : Int) + 1)))
          clear hk hB hb1 hk1' hM hF
          go_wp2_with fail
          go_roundw
          case rel => exact ⟨hB'.out, q + 1, v * 16 + (ci - 87), by omega, by go_num, by go_num, hvs.out, by have := hkk.out; omega, by rw [← Nat.add_assoc, hkk.out]; exact hA.out, by rw [← Nat.add_assoc, hkk.out, show 4 - (q + 1) = 3 - q by omega]; exact hx.out⟩
          case measure => simp [intOf]; omega
        · rw [hh] at hx
          dsimp only at hx
          subst hx
          clear hh hci hbd
          replace hkk := Lib.hid hkk
          go_wp2_with fail
          refine hN.out.mono ?_
          rintro en v0 ⟨rfl, hb0⟩
          replace hb0 := Lib.hid hb0
          clear hN
          go_wp2_with fail
          refine (hM.out _ hb0.out).mono ?_
          rintro en v1 ⟨rfl, hb1⟩
          clear hb0 hM
          have hf := Lib.hid (hF.out _ hb1)
          have hB' := Lib.hid (hB.out.trans (But.of (hb1.mono hBw)))
          have hsz1 := hB'.out.size
          clear hk hB hb1 hF
          go_wp2_with fail
          refine hf.out.mono ?_
          rintro en v2 ⟨rfl, hb2, hk2⟩
          replace hk2 := Lib.hid hk2
          have hB2 := Lib.hid (hB'.out.trans (hb2.mono hsz1))
          clear hf hB' hb2
          go_wp2_with fail
          go_ret
          exact ⟨hB2.out, 0, k, rfl, by have := hkk.out; omega, by omega, by omega, hk2.out, rfl⟩
      · have hnx : nextI 0 (rest S k) = 0 := by unfold nextI; rw [if_pos rfl, rest_nil hks]
        rw [hnx] at hN
        rw [show (decide ((0 : Int) = 0) && decide (k < S.size)) = false by simp [hks]] at hM
        rw [rest_nil hks, show 4 - q = (3 - q) + 1 by omega] at hx
        unfold hexF at hx
        subst hx
        replace hM := Lib.hid hM
        replace hN := Lib.hid hN
        replace hF := Lib.hid hF
        replace hk := Lib.hid hk
        replace hB := Lib.hid hB
        clear hnx ha
        replace hkk := Lib.hid hkk
        go_wp2_with fail
        refine hN.out.mono ?_
        rintro en v0 ⟨rfl, hb0⟩
        replace hb0 := Lib.hid hb0
        clear hN
        go_wp2_with fail
        refine (hM.out _ hb0.out).mono ?_
        rintro en v1 ⟨rfl, hb1⟩
        clear hb0 hM
        have hf := Lib.hid (hF.out _ hb1)
        have hB' := Lib.hid (hB.out.trans (But.of (hb1.mono hBw)))
        have hsz1 := hB'.out.size
        clear hk hB hb1 hF
        go_wp2_with fail
        refine hf.out.mono ?_
        rintro en v2 ⟨rfl, hb2, hk2⟩
        replace hk2 := Lib.hid hk2
        have hB2 := Lib.hid (hB'.out.trans (hb2.mono hsz1))
        clear hf hB' hb2
        go_wp2_with fail
        go_ret
        exact ⟨hB2.out, 0, k, rfl, by have := hkk.out; omega, by omega, by omega, hk2.out, rfl⟩
    · have hq5 : q = 4 := by omega
      subst hq5
      have hx' : some (v.toNat, rest S (at' + 4)) = R := hx
      subst hx'
      replace hk := Lib.hid hk
      replace hB := Lib.hid hB
      replace hv := Lib.hid hv
      clear hx
      go_wp2_with fail
      go_ret
      exact ⟨hB.out, v.toNat, at' + 4, by rw [Int.toNat_of_nonneg hv0]; rfl, by omega, by omega, by omega, hk.out, rfl, rfl⟩
end Go.Proofs.YtamcbgkppgdniaaGreatDoor


/-
  The walks of the document's Pair, and of its JSON reader's escape.
-/
namespace Go.Proofs.YtamcbgkppgdniaaGreatDoor
open Go.RowKit

theorem refPair_any (a b : Nat) (ha : a < 65536) (hb : b < 65536) (w : World) : Calls Tryz.prog 200 #[.int .i64 a, .int .i64 b] w fun e w' => e = .returned (pairV a b) ∧ w' = w := by
  unfold pairV jpair
  obtain ⟨x, hx⟩ : ∃ x : Int, (a : Int) = x := ⟨_, rfl⟩
  obtain ⟨y, hy⟩ : ∃ y : Int, (b : Int) = y := ⟨_, rfl⟩
  by_cases c1 : a < 55296
  · rw [if_neg (by omega)]
    rw [hx, hy]
    have d1 : x < 55296 := by omega
    clear hx hy c1 ha hb
    go_enter Tryz.func200, Tryz.ntmps200
    go_wp2
    go_ret2
    exact ⟨rfl, rfl⟩
  by_cases c2 : 56320 ≤ a
  · rw [if_neg (by omega)]
    rw [hx, hy]
    have d1 : ¬ x < 55296 := by omega
    have d2 : 56320 ≤ x := by omega
    clear hx hy c1 c2 ha hb
    go_enter Tryz.func200, Tryz.ntmps200
    go_wp2
    go_ret2
    exact ⟨rfl, rfl⟩
  by_cases c3 : b < 56320
  · rw [if_neg (by omega)]
    rw [hx, hy]
    have d1 : ¬ x < 55296 := by omega
    have d2 : ¬ 56320 ≤ x := by omega
    have d3 : y < 56320 := by omega
    clear hx hy c1 c2 c3 ha hb
    go_enter Tryz.func200, Tryz.ntmps200
    go_wp2
    go_ret2
    exact ⟨rfl, rfl⟩
  by_cases c4 : 57344 ≤ b
  · rw [if_neg (by omega)]
    rw [hx, hy]
    have d1 : ¬ x < 55296 := by omega
    have d2 : ¬ 56320 ≤ x := by omega
    have d3 : ¬ y < 56320 := by omega
    have d4 : 57344 ≤ y := by omega
    clear hx hy c1 c2 c3 c4 ha hb
    go_enter Tryz.func200, Tryz.ntmps200
    go_wp2
    go_ret2
    exact ⟨rfl, rfl⟩
  rw [if_pos (by omega)]
  dsimp only
  obtain ⟨z, hz⟩ : ∃ z : Int, ((65536 + (a - 55296) * 1024 + (b - 56320) : Nat) : Int) = z := ⟨_, rfl⟩
  rw [hz, hx, hy]
  have d1 : ¬ x < 55296 := by omega
  have d2 : ¬ 56320 ≤ x := by omega
  have d3 : ¬ y < 56320 := by omega
  have d4 : ¬ 57344 ≤ y := by omega
  have d5 : z = 65536 + (x - 55296) * 1024 + (y - 56320) := by omega
  have d6 : x < 65536 := by omega
  have d7 : y < 65536 := by omega
  clear hx hy hz c1 c2 c3 c4 ha hb
  replace d5 := Lib.hid d5
  go_enter Tryz.func200, Tryz.ntmps200
  go_wp2
  go_ret2
  refine ⟨?_, rfl⟩
  rw [d5.out]
  go_num
/-- The marks behind a backslash, and what they stand for. -/
def escs : List (UInt8 × UInt8) := [(34, 34), (92, 92), (47, 47), (98, 8), (102, 12), (110, 10), (114, 13), (116, 9)]
def escAt (q : Nat) (c : UInt8) : Option UInt8 := ((escs.drop q).find? fun p => p.1 == c).map (·.2)
theorem escAt_0 (c : UInt8) : escAt 0 c = jmark c := by
  have key : ∀ n : Fin 256, escAt 0 (UInt8.ofNat n.val) = jmark (UInt8.ofNat n.val) := by decide +kernel
  have := key ⟨c.toNat, c.toNat_lt⟩
  rw [UInt8.ofNat_toNat] at this
  exact this
def frB (q : Nat) : UInt8 := (escs.getD q (0, 0)).1
def toB (q : Nat) : UInt8 := (escs.getD q (0, 0)).2
theorem escAt_step {q : Nat} (h : q < 8) (c : UInt8) : escAt q c = if frB q = c then some (toB q) else escAt (q + 1) c := by
  have hd : escs.drop q = (frB q, toB q) :: escs.drop (q + 1) := by
    have key : ∀ n : Fin 8, escs.drop n.val = (frB n.val, toB n.val) :: escs.drop (n.val + 1) := by decide +kernel
    exact key ⟨q, h⟩
  unfold escAt
  rw [hd, List.find?_cons]
  by_cases e : frB q = c
  · rw [if_pos e]
    have : (frB q == c) = true := by rw [e]; simp
    simp only [this]
    rfl
  · rw [if_neg e]
    have : (frB q == c) = false := by simp [e]
    simp only [this]
theorem escAt_8 (c : UInt8) : escAt 8 c = none := rfl
def frC : Array Value := #[.string ⟨#[34]⟩, .string ⟨#[92]⟩, .string ⟨#[47]⟩, .string ⟨#[98]⟩, .string ⟨#[102]⟩, .string ⟨#[110]⟩, .string ⟨#[114]⟩, .string ⟨#[116]⟩]
def toC : Array Value := #[.string ⟨#[34]⟩, .string ⟨#[92]⟩, .string ⟨#[47]⟩, .string ⟨#[8]⟩, .string ⟨#[12]⟩, .string ⟨#[10]⟩, .string ⟨#[13]⟩, .string ⟨#[9]⟩]
theorem frC_at : ∀ {q : Nat}, q < 8 → frC[q]? = some (.string (ofL [frB q]))
  | 0, _ => rfl
  | 1, _ => rfl
  | 2, _ => rfl
  | 3, _ => rfl
  | 4, _ => rfl
  | 5, _ => rfl
  | 6, _ => rfl
  | 7, _ => rfl
  | _ + 8, h => absurd h (by omega)
theorem toC_at : ∀ {q : Nat}, q < 8 → toC[q]? = some (.string (ofL [toB q]))
  | 0, _ => rfl
  | 1, _ => rfl
  | 2, _ => rfl
  | 3, _ => rfl
  | 4, _ => rfl
  | 5, _ => rfl
  | 6, _ => rfl
  | 7, _ => rfl
  | _ + 8, h => absurd h (by omega)
/-- jescape, behind q marks that did not fit. -/
def escFrom (q : Nat) : List UInt8 → Option (List UInt8 × List UInt8)
  | [] => none
  | c :: r => match escAt q c with
    | some m => some ([m], r)
    | none => if c = 117 then jescU r else none
theorem escFrom_cons (q : Nat) (c : UInt8) (r : List UInt8) : escFrom q (c :: r) = match escAt q c with
    | some m => some ([m], r)
    | none => if c = 117 then jescU r else none := rfl
theorem escFrom_0 (s : List UInt8) : escFrom 0 s = jescape s := by
  rcases s with _ | ⟨c, r⟩
  · rfl
  · rw [escFrom_cons, escAt_0, jescape_cons]; rfl
/-- What stands behind a high half. -/
def jesc2 (n : Nat) (r1 : List UInt8) : Option (List UInt8 × List UInt8) := match r1 with
  | 92 :: 117 :: r2 => match junit r2 with
    | none => none
    | some (b, r3) => match jpair n b with
      | none => none
      | some p => some (rput (p : Int), r3)
  | _ => none
theorem jesc2_of {n : Nat} {r1 : List UInt8} {R : Option (List UInt8 × List UInt8)} (hP : rput (n : Int) = []) (h : (if rput (n : Int) ≠ [] then some (rput (n : Int), r1) else jesc2 n r1) = R) : jesc2 n r1 = R := by
  rw [if_neg (by rw [hP]; simp)] at h
  exact h
def REscEnd (b at' it : Nat) (S : ByteArray) (w : World) (R : Option (List UInt8 × List UInt8)) (en : Ending) (w' : World) : Prop :=
  But w.heap.size b w w' ∧ ∃ (t : List UInt8) (k : Nat), en = .returned (.string (ofL t)) ∧ at' ≤ k ∧ k ≤ S.size ∧ t.length ≤ 4 ∧ (match R with
    | some (t', r) => RK w' b S k it 0 ∧ t = t' ∧ rest S k = r
    | none => RK w' b S k it 4)
theorem rput_le (p : Int) : (rput p).length ≤ 4 := by
  by_cases h : p < 0
  · rw [rput_neg h]; simp
  · rw [rput_pos (by omega), List.length_map]
    rcases rputN_cases (Int.toNat p) with h | h | h | h | h <;> (rw [h.1]; simp)
theorem ofL_one (c : UInt8) : (ofL [c]).data.toList = [c] := toList_ofL _
theorem ofL_size1 (c : UInt8) : (ofL [c]).size = 1 := size_ofL _
set_option maxRecDepth 100000 in
set_option maxHeartbeats 8000000 in
theorem rrEscape_any (b at' it : Nat) (S : ByteArray) (w : World) (h : RK w b S at' it 0) (ha : at' ≤ S.size) (hS : S.size ≤ 1000000) :
    Calls Tryz.prog 173 #[.pointer (some ⟨b, 0, none⟩)] w (REscEnd b at' it S w (jescape (rest S at'))) := by
  have hlt0 := h.lt
  obtain ⟨R, hR⟩ : ∃ R, jescape (rest S at') = R := ⟨_, rfl⟩
  rw [hR]
  rw [← escFrom_0] at hR
  obtain ⟨W0, hW0⟩ : ∃ W0, (w.alloc (.cells frC 9)).alloc (.cells toC 9) = W0 := ⟨_, rfl⟩
  have hb0 : Below w.heap.size w W0 := by rw [← hW0]; exact ((Below.refl _ _).alloc (Nat.le_refl _) _).alloc (by simp) _
  have hz0 : W0.heap.size = w.heap.size + 2 := by rw [← hW0]; simp
  have hF : Cel W0 w.heap.size 9 frC := by rw [← hW0]; exact (Cel.fresh _ _ _).alloc _
  have hT : Cel W0 (w.heap.size + 1) 9 toC := by
    rw [← hW0]
    have := Cel.fresh (w.alloc (.cells frC 9)) 9 toC
    simpa using this
  have h0 := h.below hb0
  unfold frC toC at hW0
  replace hW0 := Lib.hid hW0
  replace hF := Lib.hid hF
  replace hT := Lib.hid hT
  replace hb0 := Lib.hid hb0
  replace h0 := Lib.hid h0
  replace hR := Lib.hid hR
  clear h
  go_enter Tryz.func173, Tryz.ntmps173
  go_wp2_with fail
  rw [hW0.out]
  clear hW0
  go_loopw [5] (fun i wr => ∃ q : Nat, q ≤ 8 ∧ i = .int .i64 (q : Int) ∧ But W0.heap.size b W0 wr ∧ RK wr b S at' it 0 ∧ escFrom q (rest S at') = R) (fun i _ => 8 - (intOf i).toNat)
  case atStart => exact ⟨0, by omega, rfl, But.refl _ _ _, h0.out, hR.out⟩
  case round =>
    obtain ⟨q, hq, rfl, hB, hk, hx⟩ := hrel
    clear h0 hR
    have hlt := hk.lt
    have hBw := hB.size
    have hBB : But w.heap.size b w wr := (But.of hb0.out).trans (hB.mono (by omega))
    by_cases hq8 : q < 8
    · have hqi : (q : Int) < 8 := by omega
      have hq0 : (0 : Int) ≤ (q : Int) := by omega
      have hFw : Cel wr w.heap.size 9 frC := hF.out.but hB (by omega) (by omega)
      have hf : wr.cell? ⟨w.heap.size, q, none⟩ = some (.string (ofL [frB q])) := by rw [hFw.cell]; exact frC_at hq8
      have hTk := rrTake_any b at' it S (ofL [frB q]) 0 wr hk ha hS (by rw [ofL_size1]; decide)
      rw [ofL_one, ofL_size1] at hTk
      obtain ⟨P, hP⟩ : ∃ P, ofL [frB q] = P := ⟨_, rfl⟩
      rw [hP] at hf hTk
      by_cases hpre : ([frB q] : List UInt8).isPrefixOf (rest S at') = true
      · rw [show (decide ((0 : Int) = 0) && ([frB q] : List UInt8).isPrefixOf (rest S at')) = true by simp [hpre], if_pos rfl] at hTk
        obtain ⟨r, hr⟩ := pre_cons hpre
        rw [hr] at hx
        have hx2 : some ([toB q], r) = R := by
          rw [← hx, escFrom_cons, escAt_step hq8, if_pos rfl]
        subst hx2
        have hat : at' < S.size := by
          rcases Nat.lt_or_ge at' S.size with h | h
          · exact h
          · rw [rest_nil (by omega)] at hr; cases hr
        have hr1 : rest S (at' + 1) = r := by
          rw [rest_cons hat] at hr
          injection hr
        have hT2 := fun (w' : World) (hb : But wr.heap.size b wr w') => (hT.out.but hB (by omega) (by omega)).but hb (by have := (hT.out.but hB (by omega) (by omega)).lt; omega) (by omega)
        have hTc : ∀ w', But wr.heap.size b wr w' → w'.cell? ⟨w.heap.size + 1, q, none⟩ = some (.string (ofL [toB q])) := fun w' hb => by rw [(hT2 w' hb).cell]; exact toC_at hq8
        replace hTk := Lib.hid hTk
        replace hTc := Lib.hid hTc
        replace hBB := Lib.hid hBB
        clear hx hpre hr hk hB hF hT hT2 hFw hP
        go_wp2_with fail
        refine hTk.out.mono ?_
        rintro en v1 ⟨rfl, hb1, hk1⟩
        have ht := hTc.out _ hb1
        have hB1 := Lib.hid (hBB.out.trans (hb1.mono hBB.out.size))
        replace hk1 := Lib.hid hk1
        clear hTk hTc hb1 hf
        go_wp2_with fail
        go_ret
        exact ⟨hB1.out, [toB q], at' + 1, rfl, by omega, by omega, by simp, hk1.out, rfl, hr1⟩
      · rw [show (decide ((0 : Int) = 0) && ([frB q] : List UInt8).isPrefixOf (rest S at')) = false by simp [hpre], if_neg (by decide)] at hTk
        have hx2 : escFrom (q + 1) (rest S at') = R := by
          rw [← hx]
          rcases hr : rest S at' with _ | ⟨c, r⟩
          · rfl
          · rw [hr] at hpre
            rw [escFrom_cons, escFrom_cons, escAt_step hq8 c, if_neg (c := frB q = c) (fun e => hpre ((pre_eq (frB q) c r).2 e.symm))]
        replace hTk := Lib.hid hTk
        replace hx2 := Lib.hid hx2
        replace hB := Lib.hid hB
        clear hx hpre hk hFw hP hBB
        go_wp2_with fail
        refine hTk.out.mono ?_
        rintro en v1 ⟨rfl, hb1, hk1⟩
        have hB1 := Lib.hid (hB.out.trans (hb1.mono hBw))
        replace hk1 := Lib.hid hk1
        clear hTk hb1 hf hB
        go_wp2_with fail
        go_roundw
        case rel => exact ⟨q + 1, by omega, by go_num, hB1.out, hk1.out, hx2.out⟩
        case measure => simp [intOf]; omega
    · have hq9 : q = 8 := by omega
      subst hq9
      clear hF hT hb0 hB
      have hU := rrTake_any b at' it S ⟨#[117]⟩ 0 wr hk ha hS (by decide)
      have hpl : (⟨#[117]⟩ : ByteArray).data.toList = [117] := rfl
      have hps : (⟨#[117]⟩ : ByteArray).size = 1 := rfl
      rw [hpl, hps] at hU
      replace hBB := Lib.hid hBB
      by_cases hpre : ([117] : List UInt8).isPrefixOf (rest S at') = true
      · rw [show (decide ((0 : Int) = 0) && ([117] : List UInt8).isPrefixOf (rest S at')) = true by simp [hpre], if_pos rfl] at hU
        obtain ⟨r, hr⟩ := pre_cons hpre
        have hat : at' < S.size := by
          rcases Nat.lt_or_ge at' S.size with h | h
          · exact h
          · rw [rest_nil (by omega)] at hr; cases hr
        have hr1 : rest S (at' + 1) = r := by
          rw [rest_cons hat] at hr
          injection hr
        rw [hr] at hx
        have hx2 : jescU r = R := hx
        replace hU := Lib.hid hU
        clear hx hpre hr hk hpl hps
        go_wp2_with fail
        refine hU.out.mono ?_
        rintro en v1 ⟨rfl, hb1, hk1⟩
        have hB1 := Lib.hid (hBB.out.trans (hb1.mono hBB.out.size))
        have hUn := rrUnit_any b (at' + 1) it S v1 hk1 (by omega) hS
        rw [hr1] at hUn
        unfold jescU at hx2
        obtain ⟨J, hJ⟩ : ∃ J, junit r = J := ⟨_, rfl⟩
        rw [hJ] at hUn hx2
        replace hUn := Lib.hid hUn
        replace hx2 := Lib.hid hx2
        clear hU hb1 hBB hk1 hJ
        go_wp2_with fail
        refine hUn.out.mono ?_
        rintro en v2 ⟨hb2, n, k2, rfl, hk2a, hk2b, hn, hk2⟩
        have hB2 := Lib.hid (hB1.out.trans (hb2.mono hB1.out.size))
        have hPu := refPut_any (n : Int) v2
        unfold PutEnd at hPu
        obtain ⟨P, hP⟩ : ∃ P, rput (n : Int) = P := ⟨_, rfl⟩
        have hPl := rput_le (n : Int)
        rw [hP] at hPu hPl
        clear hUn hB1 hb2
        have hPe : (⟨P.toArray⟩ : ByteArray).toList.isEmpty = P.isEmpty := by rw [Lib.toList_data]
        obtain ⟨Q, hQ⟩ : ∃ Q, (⟨P.toArray⟩ : ByteArray) = Q := ⟨_, rfl⟩
        rw [hQ] at hPu hPe
        replace hPu := Lib.hid hPu
        by_cases hP0 : P = []
        · subst hP0
          have hPe2 : Q.toList.isEmpty = true := hPe
          rcases J with _ | ⟨a, r1⟩
          · -- a unit that is none is 0, whose text is not empty
            obtain ⟨_, rfl⟩ := hk2
            exact absurd hP (by decide)
          obtain ⟨hk2, rfl, hr2⟩ := hk2
          have hx3 : jesc2 n r1 = R := jesc2_of hP hx2.out
          clear hx2 hPe hPl
          have hkl := hk2.lt
          replace hk2 := Lib.hid hk2
          go_wp2_with fail
          refine hPu.out.mono ?_
          rintro en v3 ⟨rfl, hb3⟩
          have hk3 := hk2.out.below hb3
          have hB3 := Lib.hid (hB2.out.trans (But.of (hb3.mono hB2.out.size)))
          have hTu := rrTake_any b k2 it S ⟨#[92, 117]⟩ 0 v3 hk3 hk2b hS (by decide)
          have hpl : (⟨#[92, 117]⟩ : ByteArray).data.toList = [92, 117] := rfl
          have hps : (⟨#[92, 117]⟩ : ByteArray).size = 2 := rfl
          rw [hpl, hps, hr2] at hTu
          clear hPu hk2 hB2 hb3 hpl hps hk3
          by_cases hpre : ([92, 117] : List UInt8).isPrefixOf r1 = true
          · rw [show (decide ((0 : Int) = 0) && ([92, 117] : List UInt8).isPrefixOf r1) = true by simp [hpre], if_pos rfl] at hTu
            obtain ⟨r2, rfl⟩ : ∃ r2, r1 = 92 :: 117 :: r2 := by
              obtain ⟨t, ht⟩ := List.isPrefixOf_iff_prefix.1 hpre
              exact ⟨t, ht.symm⟩
            replace hx3 : (match junit r2 with | none => none | some (b, r3) => match jpair n b with | none => none | some p => some (rput (p : Int), r3)) = R := hx3
            have hks : k2 + 2 ≤ S.size := by
              have := rest_len S k2
              rw [hr2] at this
              simp at this
              omega
            have hr4 : rest S (k2 + 2) = r2 := by
              have h1 := rest_cons (S := S) (k := k2) (by omega)
              have h2 := rest_cons (S := S) (k := k2 + 1) (by omega)
              rw [hr2, h2] at h1
              injection h1 with _ h1
              injection h1 with _ h1
              exact h1.symm
            obtain ⟨J, hJ⟩ : ∃ J, junit r2 = J := ⟨_, rfl⟩
            rw [hJ] at hx3
            replace hTu := Lib.hid hTu
            replace hx3 := Lib.hid hx3
            clear hpre hr2
            go_wp2_with fail
            refine hTu.out.mono ?_
            rintro en v4 ⟨rfl, hb4, hk4⟩
            have hB4 := Lib.hid (hB3.out.trans (hb4.mono hB3.out.size))
            have hUn := rrUnit_any b (k2 + 2) it S v4 hk4 hks hS
            rw [hr4, hJ] at hUn
            replace hUn := Lib.hid hUn
            clear hTu hB3 hb4 hk4 hJ
            go_wp2_with fail
            refine hUn.out.mono ?_
            rintro en v5 ⟨hb5, m, k5, rfl, hk5a, hk5b, hm, hk5⟩
            have hB5 := Lib.hid (hB4.out.trans (hb5.mono hB4.out.size))
            have hpr := refPair_any n m hn hm v5
            have hFa := fun (e : Int) (hk : RK v5 b S k5 it e) => rrFail_any b k5 it S e 4 v5 hk
            clear hUn hB4 hb5
            unfold pairV at hpr
            rcases J with _ | ⟨m', r3⟩
            · obtain ⟨hk5, rfl⟩ := hk5
              have hjn : jpair n 0 = none := by unfold jpair; rw [if_neg (by omega)]
              rw [hjn] at hpr
              dsimp only at hpr
              have hx4 : none = R := hx3.out
              subst hx4
              have hfa := Lib.hid (hFa 4 hk5)
              replace hpr := Lib.hid hpr
              clear hx3 hFa hjn hk5
              go_wp2_with fail
              refine hpr.out.mono ?_
              rintro en v6 ⟨rfl, rfl⟩
              clear hpr
              go_wp2_with fail
              refine hfa.out.mono ?_
              rintro en v7 ⟨rfl, hb7, hk7⟩
              rw [if_neg (by decide)] at hk7
              replace hk7 := Lib.hid hk7
              have hB7 := Lib.hid (hB5.out.trans (hb7.mono hB5.out.size))
              clear hfa hb7 hB5
              go_wp2_with fail
              go_ret
              exact ⟨hB7.out, [], k5, rfl, by omega, hk5b, by simp, hk7.out⟩
            · obtain ⟨hk5, rfl, hr5⟩ := hk5
              have hx4 : (match jpair n m with | none => none | some p => some (rput (p : Int), r3)) = R := hx3.out
              rcases hjp : jpair n m with _ | pp
              · rw [hjp] at hpr hx4
                dsimp only at hpr hx4
                subst hx4
                have hfa := Lib.hid (hFa 0 hk5)
                replace hpr := Lib.hid hpr
                clear hx3 hFa hjp hk5
                go_wp2_with fail
                refine hpr.out.mono ?_
                rintro en v6 ⟨rfl, rfl⟩
                clear hpr
                go_wp2_with fail
                refine hfa.out.mono ?_
                rintro en v7 ⟨rfl, hb7, hk7⟩
                replace hk7 := Lib.hid hk7
                have hB7 := Lib.hid (hB5.out.trans (hb7.mono hB5.out.size))
                clear hfa hb7 hB5
                go_wp2_with fail
                go_ret
                exact ⟨hB7.out, [], k5, rfl, by omega, hk5b, by simp, hk7.out⟩
              · rw [hjp] at hpr hx4
                dsimp only at hpr hx4
                subst hx4
                have hpl : pp < 2000000 := by
                  unfold jpair at hjp
                  split at hjp
                  · injection hjp with hjp; omega
                  · cases hjp
                have hput := Lib.hid (refPut_any (pp : Int) v5)
                replace hpr := Lib.hid hpr
                replace hk5 := Lib.hid hk5
                clear hx3 hFa hjp
                go_wp2_with fail
                refine hpr.out.mono ?_
                rintro en v6 ⟨rfl, rfl⟩
                clear hpr
                go_wp2_with fail
                refine hput.out.mono ?_
                rintro en v7 ⟨rfl, hb7⟩
                have hk7 := Lib.hid (hk5.out.below hb7)
                have hB7 := Lib.hid (hB5.out.trans (But.of (hb7.mono hB5.out.size)))
                clear hput hb7 hB5 hk5
                go_wp2_with fail
                go_ret
                exact ⟨hB7.out, rput (pp : Int), k5, rfl, by omega, hk5b, rput_le _, hk7.out, rfl, hr5⟩
          · rw [show (decide ((0 : Int) = 0) && ([92, 117] : List UInt8).isPrefixOf r1) = false by simp [hpre], if_neg (by decide)] at hTu
            have hx4 : none = R := by
              rw [← hx3]
              unfold jesc2
              split
              · exact absurd rfl hpre
              · rfl
            subst hx4
            replace hTu := Lib.hid hTu
            clear hpre hx3 hr2
            go_wp2_with fail
            refine hTu.out.mono ?_
            rintro en v4 ⟨rfl, hb4, hk4⟩
            have hB4 := Lib.hid (hB3.out.trans (hb4.mono hB3.out.size))
            have hfa := Lib.hid (rrFail0_any b k2 it S 4 v4 hk4)
            clear hTu hB3 hb4 hk4
            go_wp2_with fail
            refine hfa.out.mono ?_
            rintro en v7 ⟨rfl, hb7, hk7⟩
            replace hk7 := Lib.hid hk7
            have hB7 := Lib.hid (hB4.out.trans (hb7.mono hB4.out.size))
            clear hfa hb7 hB4
            go_wp2_with fail
            go_ret
            exact ⟨hB7.out, [], k2, rfl, by omega, hk2b, by simp, hk7.out⟩
        · have hPe2 : Q.toList.isEmpty = false := by
            rw [hPe]
            cases P with
            | nil => exact absurd rfl hP0
            | cons _ _ => rfl
          have hfin : ∀ w', Below v2.heap.size v2 w' → REscEnd b at' it S w R (.returned (.string (ofL P))) w' := fun w' hb => by
            refine ⟨hB2.out.trans (But.of (hb.mono hB2.out.size)), P, k2, rfl, by omega, hk2b, hPl, ?_⟩
            have hx3 := hx2.out
            rcases J with _ | ⟨a, r1⟩
            · obtain ⟨hk2, rfl⟩ := hk2
              dsimp only at hx3
              subst hx3
              exact hk2.below hb
            · obtain ⟨hk2, rfl, hr2⟩ := hk2
              dsimp only at hx3
              rw [hP, if_pos hP0] at hx3
              subst hx3
              exact ⟨hk2.below hb, rfl, hr2⟩
          have hQ2 : ofL P = Q := hQ
          rw [hQ2] at hfin
          replace hfin := Lib.hid hfin
          clear hx2 hk2 hPl hPe hP hQ hQ2 hB2 hP0
          go_wp2_with fail
          refine hPu.out.mono ?_
          rintro en v3 ⟨rfl, hb3⟩
          replace hb3 := Lib.hid hb3
          clear hPu
          go_wp2_with fail
          go_ret
          exact hfin.out _ hb3.out
      · rw [show (decide ((0 : Int) = 0) && ([117] : List UInt8).isPrefixOf (rest S at')) = false by simp [hpre], if_neg (by decide)] at hU
        have hx4 : none = R := by
          rw [← hx]
          rcases hr : rest S at' with _ | ⟨c, r⟩
          · rfl
          · rw [hr] at hpre
            rw [escFrom_cons, escAt_8]
            dsimp only
            rw [if_neg (fun e => hpre ((pre_eq 117 c r).2 e))]
        subst hx4
        replace hU := Lib.hid hU
        clear hx hpre hk hpl hps
        go_wp2_with fail
        refine hU.out.mono ?_
        rintro en v4 ⟨rfl, hb4, hk4⟩
        have hB4 := Lib.hid (hBB.out.trans (hb4.mono hBB.out.size))
        have hfa := Lib.hid (rrFail0_any b at' it S 4 v4 hk4)
        clear hU hBB hb4 hk4
        go_wp2_with fail
        refine hfa.out.mono ?_
        rintro en v7 ⟨rfl, hb7, hk7⟩
        replace hk7 := Lib.hid hk7
        have hB7 := Lib.hid (hB4.out.trans (hb7.mono hB4.out.size))
        clear hfa hb7 hB4
        go_wp2_with fail
        go_ret
        exact ⟨hB7.out, [], at', rfl, by omega, ha, by simp, hk7.out⟩
end Go.Proofs.YtamcbgkppgdniaaGreatDoor
