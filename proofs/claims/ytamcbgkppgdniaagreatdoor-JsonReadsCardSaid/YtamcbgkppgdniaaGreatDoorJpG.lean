/-
  The walk of the JSON reader's list: things with commas between, by a closure.
-/
import Derived.Test.YtamcbgkppgdniaaGreatDoorJpF
namespace Go.Proofs.YtamcbgkppgdniaaGreatDoor
open Go.RowKit

/-- What a closure that reads one thing leaves; what list leaves. -/
def LEnd {σ : Type} (I : σ → List UInt8 → World → Prop) (K : World → Prop) (R : Except Int (σ × List UInt8)) (e : Ending) (w' : World) : Prop := match R with
  | .error c => e = Pan c ∧ K w'
  | .ok (st, s) => e = .returned (.tuple #[]) ∧ I st s w'
def jEnd {σ : Type} (endb : UInt8) (st : σ) (s : List UInt8) : Except Int (σ × List UInt8) := if ([endb] : List UInt8).isPrefixOf s = true then .ok (st, s.drop 1) else .error 4
theorem pre_eq (c d : UInt8) (r : List UInt8) : ([c] : List UInt8).isPrefixOf (d :: r) = true ↔ d = c := by
  constructor
  · intro h
    obtain ⟨t, ht⟩ := pre_cons h
    injection ht
  · rintro rfl
    simp [List.isPrefixOf]
theorem jList_yes {σ : Type} {one : σ → List UInt8 → Except Int (σ × List UInt8)} {b : UInt8} {st : σ} {s r : List UInt8} (h : jblk s = b :: r) : jList one b st s = .ok (st, r) := by
  unfold jList; rw [h]; dsimp only; rw [if_pos rfl]
theorem jList_no {σ : Type} {one : σ → List UInt8 → Except Int (σ × List UInt8)} {b : UInt8} {st : σ} {s : List UInt8} (h : ¬ ([b] : List UInt8).isPrefixOf (jblk s) = true) : jList one b st s = jLoop one b st (jblk s) := by
  unfold jList
  rcases hb : jblk s with _ | ⟨c, r⟩
  · rfl
  · rw [hb] at h
    dsimp only
    rw [if_neg (fun e => h ((pre_eq b c r).2 e))]
theorem jLoop_end {σ : Type} {one : σ → List UInt8 → Except Int (σ × List UInt8)} (h : Shorter one) {b : UInt8} {st st2 : σ} {s s2 : List UInt8} (h1 : one st (jblk s) = .ok (st2, s2)) (h2 : ¬ ([44] : List UInt8).isPrefixOf (jblk s2) = true) : jLoop one b st s = jEnd b st2 (jblk s2) := by
  rw [jLoop_eq h, h1]
  dsimp only
  unfold jEnd
  rcases hb : jblk s2 with _ | ⟨c, r⟩
  · rfl
  · rw [hb] at h2
    dsimp only
    rw [if_neg (fun e => h2 ((pre_eq 44 c r).2 e))]
    by_cases hc : c = b
    · rw [if_pos hc, if_pos ((pre_eq b c r).2 hc)]; rfl
    · rw [if_neg hc, if_neg (fun e => hc ((pre_eq b c r).1 e))]
theorem jLoop_more {σ : Type} {one : σ → List UInt8 → Except Int (σ × List UInt8)} (h : Shorter one) {b : UInt8} {st st2 : σ} {s s2 r : List UInt8} (h1 : one st (jblk s) = .ok (st2, s2)) (h2 : jblk s2 = 44 :: r) : jLoop one b st s = jLoop one b st2 r := by
  rw [jLoop_eq h, h1]
  dsimp only
  rw [h2]
  dsimp only
  rw [if_pos rfl]
theorem jLoop_err {σ : Type} {one : σ → List UInt8 → Except Int (σ × List UInt8)} (h : Shorter one) {b : UInt8} {st : σ} {s : List UInt8} {c : Int} (h1 : one st (jblk s) = .error c) : jLoop one b st s = .error c := by
  rw [jLoop_eq h, h1]
def yes01 : Value → Nat
  | .bool true => 1
  | _ => 0
/-- What a round of list knows. -/
def LstI {σ : Type} (one : σ → List UInt8 → Except Int (σ × List UInt8)) (endb : UInt8) (I : σ → List UInt8 → World → Prop) (R : Except Int (σ × List UInt8)) (m : Value) (wr : World) : Prop :=
  ∃ st s, I st s wr ∧ s.length ≤ 1000000 ∧ ((m = .bool true ∧ jLoop one endb st s = R) ∨ (m = .bool false ∧ jEnd endb st s = R))
set_option maxRecDepth 100000 in
set_option maxHeartbeats 4000000 in
theorem jrList_any {σ : Type} (F : Nat) (caps : Array Value) (eF : ∀ args w, (callFunc F args).run Tryz.prog w = .ok (.enter F args) w) (one : σ → List UInt8 → Except Int (σ × List UInt8)) (hSh : Shorter one) (b : Nat) (endb : UInt8) (I : σ → List UInt8 → World → Prop) (itf : σ → Nat) (K : World → Prop)
    (hRJ : ∀ st s W, I st s W → RJ W b s (itf st)) (hIK : ∀ st s W, I st s W → K W) (hIB : ∀ st s s' W W', I st s W → But W.heap.size b W W' → RJ W' b s' (itf st) → I st s' W') (hKB : ∀ W W', K W → But W.heap.size b W W' → K W')
    (hOne : ∀ st s W, I st s W → s.length ≤ 1000000 → Calls Tryz.prog F caps W (LEnd I K (one st s)))
    (st : σ) (s : List UInt8) (w : World) (h : I st s w) (hs : s.length ≤ 1000000) :
    Calls Tryz.prog 135 #[.pointer (some ⟨b, 0, none⟩), .string (ofL [endb]), .func (.func F) #[] caps] w (LEnd I K (jList one endb st s)) := by
  have hBl := Lib.hid (fun (st : σ) (s : List UInt8) (W : World) (h : I st s W) => jrBlanks_any b s (itf st) W (hRJ st s W h))
  have hTk := Lib.hid (fun (st : σ) (s : List UInt8) (W : World) (p : ByteArray) (h : I st s W) => jrTake_any b s (itf st) p W (hRJ st s W h))
  have hMu := Lib.hid (fun (st : σ) (s : List UInt8) (W : World) (h : I st s W) => jrMust_any b s (itf st) (ofL [endb]) W (hRJ st s W h))
  have hb1 := Lib.hid (hBl.out st s w h)
  obtain ⟨R, hR⟩ : ∃ R, jList one endb st s = R := ⟨_, rfl⟩
  rw [hR]
  replace hR := Lib.hid hR
  replace hOne := Lib.hid hOne
  replace hIB := Lib.hid hIB
  replace hIK := Lib.hid hIK
  replace hKB := Lib.hid hKB
  have hle := jblk_le s
  have heb : (ofL [endb]).data.toList = [endb] := toList_ofL _
  obtain ⟨EB, hEB⟩ : ∃ EB, ofL [endb] = EB := ⟨_, rfl⟩
  rw [hEB] at heb hMu ⊢
  replace heb := Lib.hid heb
  clear hEB
  go_enter Tryz.func135, Tryz.ntmps135
  go_wp2_with fail
  refine hb1.out.mono ?_
  rintro e w1 ⟨rfl, hR1, hB1⟩
  have h1 := hIB.out st s (jblk s) w w1 h hB1 hR1
  have ht1 := hTk.out st (jblk s) w1 EB h1
  rw [heb.out] at ht1
  clear hb1 h hR1 hB1
  unfold jtk at ht1
  by_cases hpre : ([endb] : List UInt8).isPrefixOf (jblk s) = true
  · obtain ⟨r, hr⟩ := pre_cons hpre
    simp only [hpre, if_true] at ht1
    have hR' := hR.out
    rw [jList_yes hr] at hR'
    subst hR'
    rw [hr] at ht1
    replace ht1 := Lib.hid ht1
    replace h1 := Lib.hid h1
    clear hpre hR hr
    go_wp2_with fail
    refine ht1.out.mono ?_
    rintro e w2 ⟨rfl, hR2, hB2⟩
    have h2 := Lib.hid (hIB.out st _ _ w1 w2 h1.out hB2 hR2)
    clear ht1 hR2 hB2
    go_wp2_with fail
    go_end0
    exact ⟨rfl, h2.out⟩
  · have hpf : ([endb] : List UInt8).isPrefixOf (jblk s) = false := Bool.eq_false_iff.2 hpre
    simp only [hpf, Bool.false_eq_true, if_false] at ht1
    have hR' := hR.out
    rw [jList_no hpre] at hR'
    replace ht1 := Lib.hid ht1
    replace h1 := Lib.hid h1
    clear hpre hR hpf
    obtain ⟨s0, hs0⟩ : ∃ s0, jblk s = s0 := ⟨_, rfl⟩
    rw [hs0] at hR' hle ht1 h1
    go_wp2_with fail
    refine ht1.out.mono ?_
    rintro e w2 ⟨rfl, hR2, hB2⟩
    have h2 : LstI one endb I R (.bool true) w2 := ⟨st, s0, hIB.out st _ _ w1 w2 h1.out hB2 hR2, by omega, .inl ⟨rfl, hR'⟩⟩
    replace h2 := Lib.hid h2
    clear ht1 hR2 hB2 h1 hR' hs0 hle hs
    go_wp2_with fail
    go_loopw [6] (fun m wr => LstI one endb I R m wr) (fun m wr => 2 * lenAt wr b + yes01 m)
    case atStart => exact h2.out
    case round =>
      obtain ⟨st', s', hI, hln, ⟨rfl, hL⟩ | ⟨rfl, hL⟩⟩ := hrel
      · clear h2
        have hm := lenAt_of (hRJ st' s' wr hI)
        have hbb := Lib.hid (hBl.out st' s' wr hI)
        have hle := jblk_le s'
        replace hI := Lib.hid hI
        replace hL := Lib.hid hL
        go_wp2_with fail
        refine hbb.out.mono ?_
        rintro e w3 ⟨rfl, hR3, hB3⟩
        have hI3 := hIB.out st' s' (jblk s') wr w3 hI.out hB3 hR3
        have h1c := hOne.out st' (jblk s') w3 hI3 (by omega)
        obtain ⟨X, hX⟩ : ∃ X, one st' (jblk s') = X := ⟨_, rfl⟩
        rw [hX] at h1c
        replace hX := Lib.hid hX
        replace h1c := Lib.hid h1c
        clear hbb hI hR3 hB3 hI3
        go_wp2_with fail
        refine h1c.out.mono ?_
        intro e w4 hx
        clear h1c
        rcases X with c | ⟨st2, s2⟩
        · obtain ⟨rfl, hK⟩ := hx
          have hL' := hL.out
          rw [jLoop_err hSh hX.out] at hL'
          subst hL'
          exact ⟨rfl, rfl, hK⟩
        · obtain ⟨rfl, hI4⟩ := hx
          have hl2 := hSh _ _ _ _ hX.out
          have hle2 := jblk_le s2
          have hbb := Lib.hid (hBl.out st2 s2 w4 hI4)
          replace hI4 := Lib.hid hI4
          go_wp2_with fail
          refine hbb.out.mono ?_
          rintro e w5 ⟨rfl, hR5, hB5⟩
          have hI5 := hIB.out st2 s2 (jblk s2) w4 w5 hI4.out hB5 hR5
          have htk := hTk.out st2 (jblk s2) w5 ⟨#[44]⟩ hI5
          have hx2 : (⟨#[44]⟩ : ByteArray).data.toList = [44] := rfl
          rw [hx2] at htk
          unfold jtk at htk
          clear hbb hI4 hR5 hB5 hx2
          by_cases hpre : ([44] : List UInt8).isPrefixOf (jblk s2) = true
          · obtain ⟨r, hr⟩ := pre_cons hpre
            simp only [hpre, if_true] at htk
            have hL' := hL.out
            rw [jLoop_more hSh hX.out hr] at hL'
            rw [hr] at htk hI5 hle2
            replace htk := Lib.hid htk
            replace hI5 := Lib.hid hI5
            replace hL' := Lib.hid hL'
            clear hpre hL hX hr
            go_wp2_with fail
            refine htk.out.mono ?_
            rintro e w6 ⟨rfl, hR6, hB6⟩
            have hI6 := hIB.out st2 _ _ w5 w6 hI5.out hB6 hR6
            have hm6 : 2 * lenAt w6 b + 1 < 2 * lenAt wr b + 1 := by
              rw [lenAt_of hR6, hm]
              simp at hle2 ⊢
              omega
            have hfin : LstI one endb I R (.bool true) w6 := ⟨st2, r, hI6, by simp at hle2; omega, .inl ⟨rfl, hL'.out⟩⟩
            replace hfin := Lib.hid hfin
            replace hm6 := Lib.hid hm6
            clear htk hI5 hR6 hB6 hI6 hm
            go_wp2_with fail
            go_roundw
            case rel => exact hfin.out
            case measure => exact hm6.out
          · have hpf : ([44] : List UInt8).isPrefixOf (jblk s2) = false := Bool.eq_false_iff.2 hpre
            simp only [hpf, Bool.false_eq_true, if_false] at htk
            have hL' := hL.out
            rw [jLoop_end hSh hX.out hpre] at hL'
            replace htk := Lib.hid htk
            replace hI5 := Lib.hid hI5
            replace hL' := Lib.hid hL'
            clear hpre hL hX hpf
            go_wp2_with fail
            refine htk.out.mono ?_
            rintro e w6 ⟨rfl, hR6, hB6⟩
            have hI6 := hIB.out st2 _ _ w5 w6 hI5.out hB6 hR6
            have hm6 : 2 * lenAt w6 b + 0 < 2 * lenAt wr b + 1 := by
              rw [lenAt_of hR6, hm]
              omega
            have hfin : LstI one endb I R (.bool false) w6 := ⟨st2, _, hI6, by omega, .inr ⟨rfl, hL'.out⟩⟩
            replace hfin := Lib.hid hfin
            replace hm6 := Lib.hid hm6
            clear htk hI5 hR6 hB6 hI6 hm
            go_wp2_with fail
            go_roundw
            case rel => exact hfin.out
            case measure => exact hm6.out
      · clear h2
        have hmu := hMu.out st' s' wr hI
        rw [heb.out] at hmu
        unfold jEnd at hL
        by_cases hpre : ([endb] : List UInt8).isPrefixOf s' = true
        · rw [if_pos hpre] at hL
          subst hL
          simp only [hpre, if_true] at hmu
          replace hmu := Lib.hid hmu
          replace hI := Lib.hid hI
          clear hpre
          go_wp2_with fail
          refine hmu.out.mono ?_
          rintro e w3 ⟨hB3, rfl, hR3⟩
          have hI3 := Lib.hid (hIB.out st' s' _ wr w3 hI.out hB3 hR3)
          clear hmu hI hB3 hR3
          go_wp2_with fail
          go_end0
          exact ⟨rfl, hI3.out⟩
        · rw [if_neg hpre] at hL
          subst hL
          simp only [if_neg hpre] at hmu
          replace hmu := Lib.hid hmu
          replace hI := Lib.hid hI
          clear hpre
          go_wp2_with fail
          refine hmu.out.mono ?_
          rintro e w3 ⟨hB3, rfl⟩
          exact ⟨rfl, rfl, hKB.out wr w3 (hIK.out st' s' wr hI.out) hB3⟩
end Go.Proofs.YtamcbgkppgdniaaGreatDoor
