/-
  The walks of the document's JSON reader: what went wrong, is there more, the next byte.
-/
import Derived.Test.YtamcbgkppgdniaaGreatDoorJnc
import Derived.BigQuiet
namespace Go.Proofs.YtamcbgkppgdniaaGreatDoor
open Go.RowKit

/-- The document's reader in block b: the text, the place, how many values there were, what went wrong first. -/
def RK (w : World) (b : Nat) (S : ByteArray) (at' it : Nat) (e : Int) : Prop := Cel w b 126 #[.string S, .int .i64 (at' : Int), .int .i64 (it : Int), .int .i64 e]
theorem RK.cells {w : World} {b : Nat} {S : ByteArray} {at' it : Nat} {e : Int} (h : RK w b S at' it e) : w.cell? ⟨b, 0, none⟩ = some (.string S) ∧ w.cell? ⟨b, 1, none⟩ = some (.int .i64 (at' : Int)) ∧ w.cell? ⟨b, 2, none⟩ = some (.int .i64 (it : Int)) ∧ w.cell? ⟨b, 3, none⟩ = some (.int .i64 e) :=
  ⟨h.cell 0, h.cell 1, h.cell 2, h.cell 3⟩
theorem RK.below {w w' : World} {b at' it : Nat} {S : ByteArray} {e : Int} (h : RK w b S at' it e) (hb : Below w.heap.size w w') : RK w' b S at' it e := Cel.below h hb (Cel.lt h)
set_option maxRecDepth 100000 in
theorem rrFail_any (b at' it : Nat) (S : ByteArray) (e c : Int) (w : World) (h : RK w b S at' it e) :
    Calls Tryz.prog 88 #[.pointer (some ⟨b, 0, none⟩), .int .i64 c] w fun en w' => en = .returned (.tuple #[]) ∧ But w.heap.size b w w' ∧ RK w' b S at' it (if e = 0 then c else e) := by
  obtain ⟨p0, p1, p2, p3⟩ := h.cells
  have f3 := Cel.froz h 3
  by_cases he : e = 0
  · subst he
    have hk : RK (w.setCell ⟨b, 3, none⟩ (.int .i64 c)) b S at' it c := Cel.set h 3 (.int .i64 c)
    replace hk := Lib.hid hk
    clear h
    go_enter Tryz.func88, Tryz.ntmps88
    go_wp2_with fail
    go_end0
    exact ⟨rfl, (But.refl _ b w).set 3 _, by first | exact hk.out | (rw [if_pos rfl]; exact hk.out)⟩
  · have he2 : (e == 0) = false := by simp [he]
    have hh := Lib.hid h
    clear h
    go_enter Tryz.func88, Tryz.ntmps88
    go_wp2_with fail
    go_end0
    exact ⟨rfl, But.refl _ _ _, by first | (rw [if_neg he]; exact hh.out) | exact hh.out⟩
set_option maxRecDepth 100000 in
theorem rrMore_any (b at' it : Nat) (S : ByteArray) (e : Int) (w : World) (h : RK w b S at' it e) :
    Calls Tryz.prog 140 #[.pointer (some ⟨b, 0, none⟩)] w fun en w' => en = .returned (.bool (decide (e = 0) && decide (at' < S.size))) ∧ Below w.heap.size w w' := by
  obtain ⟨p0, p1, p2, p3⟩ := h.cells
  by_cases he : e = 0
  · subst he
    have hd : decide ((at' : Int) < (S.size : Int)) = decide (at' < S.size) := by simp
    clear h
    go_enter Tryz.func140, Tryz.ntmps140
    go_wp2_with fail
    go_quiet (fail)
    go_wp2
    go_ret
    exact ⟨by simp [*], bel_drewN (Below.refl _ _) _⟩
  · have he2 : (e == 0) = false := by simp [he]
    clear h
    go_enter Tryz.func140, Tryz.ntmps140
    go_wp2_with fail
    go_quiet (fail)
    go_wp2
    go_ret
    exact ⟨by simp [*], bel_drewN (Below.refl _ _) _⟩
/-- What is left of the text. -/
def rest (S : ByteArray) (at' : Nat) : List UInt8 := S.data.toList.drop at'
theorem rest_len (S : ByteArray) (k : Nat) : (rest S k).length = S.size - k := by
  unfold rest
  rw [List.length_drop, Array.length_toList]; rfl
theorem rest_cons {S : ByteArray} {k : Nat} (h : k < S.size) : rest S k = S[k] :: rest S (k + 1) := by
  have hl : S.data.toList.length = S.size := by rw [Array.length_toList]; rfl
  have h1 : S.data.toList[k]'(by omega) = S[k] := by rw [Array.getElem_toList]; rfl
  unfold rest
  rw [← h1]
  exact List.drop_eq_getElem_cons (by omega)
theorem rest_nil {S : ByteArray} {k : Nat} (h : ¬ k < S.size) : rest S k = [] := List.drop_eq_nil_of_le (by rw [Array.length_toList]; show S.size ≤ k; omega)
/-- The next byte; 0 at the end, or if something went wrong. -/
def nextI (e : Int) (s : List UInt8) : Int := if e = 0 then (match s with | [] => 0 | c :: _ => (c.toNat : Int)) else 0
set_option maxRecDepth 100000 in
theorem rrNext_any (b at' it : Nat) (S : ByteArray) (e : Int) (w : World) (h : RK w b S at' it e) :
    Calls Tryz.prog 141 #[.pointer (some ⟨b, 0, none⟩)] w fun en w' => en = .returned (.int .u8 (nextI e (rest S at'))) ∧ Below w.heap.size w w' := by
  have hM := Lib.hid (rrMore_any b at' it S e w h)
  obtain ⟨v, hv⟩ : ∃ v, nextI e (rest S at') = v := ⟨_, rfl⟩
  rw [hv]
  by_cases hm : e = 0 ∧ at' < S.size
  · obtain ⟨he, hlt⟩ := hm
    have hd : (decide (e = 0) && decide (at' < S.size)) = true := by simp [he, hlt]
    rw [hd] at hM
    unfold nextI at hv
    rw [if_pos he, rest_cons hlt] at hv
    dsimp only at hv
    have hk0 : (0 : Int) ≤ (at' : Int) := by omega
    replace h := Lib.hid h
    clear hd
    go_enter Tryz.func141, Tryz.ntmps141
    go_wp2_with fail
    refine hM.out.mono ?_
    rintro en w1 ⟨rfl, hb⟩
    obtain ⟨p0, p1, p2, p3⟩ := (h.out.below hb).cells
    replace hb := Lib.hid hb
    clear hM h
    go_wp2_with fail
    go_quiet (fail)
    go_wp2
    go_ret
    exact ⟨by first | rfl | simp [*], bel_drewN hb.out _⟩
  · have hd : (decide (e = 0) && decide (at' < S.size)) = false := by
      rw [Bool.eq_false_iff]
      intro h'
      simp at h'
      exact hm h'
    rw [hd] at hM
    have hv0 : v = 0 := by
      rw [← hv]
      unfold nextI
      split
      · rename_i he
        rw [rest_nil (fun h' => hm ⟨he, h'⟩)]
      · rfl
    subst hv0
    clear hd hv h
    go_enter Tryz.func141, Tryz.ntmps141
    go_wp2_with fail
    refine hM.out.mono ?_
    rintro en w1 ⟨rfl, hb⟩
    replace hb := Lib.hid hb
    clear hM
    go_wp2_with fail
    go_ret
    exact ⟨rfl, hb.out⟩
theorem rest_pre (S p : ByteArray) (k : Nat) : p.data.toList.isPrefixOf (rest S k) = (decide (k + p.size ≤ S.size ∨ p.size = 0) && decide (S.extract k (k + p.size) = p)) := by
  have hpl : p.data.toList.length = p.size := by rw [Array.length_toList]; rfl
  have hx : (S.extract k (k + p.size)).data.toList = (rest S k).take p.size := by
    rw [Lib.extract_data]
    unfold rest
    simp
  rw [Bool.eq_iff_iff]
  simp only [Bool.and_eq_true, decide_eq_true_eq]
  rw [List.isPrefixOf_iff_prefix, List.prefix_iff_eq_take, hpl]
  constructor
  · intro h
    have hl := rest_len S k
    have h2 : p.size ≤ (rest S k).length := by
      have := congrArg List.length h
      rw [hpl, List.length_take] at this
      omega
    refine ⟨by omega, jstr_ext ?_⟩
    rw [hx, ← h]
  · rintro ⟨_, h⟩
    rw [← hx, h]
end Go.Proofs.YtamcbgkppgdniaaGreatDoor


/-
  The walk of the document's JSON reader: a text taken, if it is next.
-/
namespace Go.Proofs.YtamcbgkppgdniaaGreatDoor
open Go.RowKit

set_option maxRecDepth 100000 in
set_option maxHeartbeats 4000000 in
theorem rrTake_any (b at' it : Nat) (S p : ByteArray) (e : Int) (w : World) (h : RK w b S at' it e) (ha : at' ≤ S.size) (hS : S.size ≤ 1000000) (hp : p.size ≤ 1000000) :
    Calls Tryz.prog 142 #[.pointer (some ⟨b, 0, none⟩), .string p] w fun en w' => en = .returned (.bool (decide (e = 0) && p.data.toList.isPrefixOf (rest S at'))) ∧ But w.heap.size b w w' ∧ RK w' b S (if (decide (e = 0) && p.data.toList.isPrefixOf (rest S at')) = true then at' + p.size else at') it e := by
  obtain ⟨p0, p1, p2, p3⟩ := h.cells
  have hk0 : (0 : Int) ≤ (at' : Int) := by omega
  have hpp : (0 : Int) ≤ (p.size : Int) := by omega
  have hab : (at' : Int) ≤ 1000000 := by omega
  have hpb : (p.size : Int) ≤ 1000000 := by omega
  have hwr : IntKind.i64.wrap ((at' : Int) + (p.size : Int)) = (at' : Int) + (p.size : Int) := by rw [IntKind.wrap_i64]; omega
  rw [rest_pre]
  by_cases he : e = 0
  · by_cases hlong : S.size < at' + p.size
    · have hd : (decide (e = 0) && (decide (at' + p.size ≤ S.size ∨ p.size = 0) && decide (S.extract at' (at' + p.size) = p))) = false := by
        rw [decide_eq_false (p := at' + p.size ≤ S.size ∨ p.size = 0) (by omega)]; simp
      rw [hd]
      subst he
      have hl2 : (S.size : Int) < (at' : Int) + (p.size : Int) := by omega
      have hh := Lib.hid h
      clear h hd
      go_enter Tryz.func142, Tryz.ntmps142
      go_wp2_with fail
      go_quiet (fail)
      go_wp2
      go_ret
      exact ⟨rfl, But.of (bel_drewN (Below.refl _ _) _), hh.out.below (bel_drewN (Below.refl _ _) _)⟩
    · by_cases heq : S.extract at' (at' + p.size) = p
      · have hd : (decide (e = 0) && (decide (at' + p.size ≤ S.size ∨ p.size = 0) && decide (S.extract at' (at' + p.size) = p))) = true := by
          rw [decide_eq_true he, decide_eq_true (p := at' + p.size ≤ S.size ∨ p.size = 0) (by omega), decide_eq_true heq]; rfl
        rw [hd]
        subst he
        have hl2 : ¬ (S.size : Int) < (at' : Int) + (p.size : Int) := by omega
        have hl3 : (at' : Int) + (p.size : Int) ≤ (S.size : Int) := by omega
        have hl4 : (at' : Int) ≤ (at' : Int) + (p.size : Int) := by omega
        have hl5 : (0 : Int) ≤ (at' : Int) + (p.size : Int) := by omega
        have hl6 : ((at' : Int) + (p.size : Int)).toNat = at' + p.size := by omega
        have heq2 : ((S.extract at' (at' + p.size)).toList == p.toList) = true := by rw [heq]; simp
        have hk : ∀ nq, RK ((w.drewN nq).setCell ⟨b, 1, none⟩ (.int .i64 ((at' : Int) + (p.size : Int)))) b S (at' + p.size) it 0 := fun nq => by
          have h1 : RK (w.drewN nq) b S at' it 0 := h.below (bel_drewN (Below.refl _ _) nq)
          have h2 := Cel.set h1 1 (.int .i64 ((at' : Int) + (p.size : Int)))
          unfold RK
          rw [show ((at' + p.size : Nat) : Int) = (at' : Int) + (p.size : Int) from by omega]
          exact h2
        have f1 := Cel.froz h 1
        replace hk := Lib.hid hk
        clear h hd heq
        go_enter Tryz.func142, Tryz.ntmps142
        go_wp2_with fail
        go_quiet (fail)
        go_wp2
        go_ret
        refine ⟨rfl, ?_, ?_⟩
        · exact (But.of (bel_drewN (Below.refl _ _) _) : But w.heap.size b w _).set 1 _
        · exact hk.out _
      · have hd : (decide (e = 0) && (decide (at' + p.size ≤ S.size ∨ p.size = 0) && decide (S.extract at' (at' + p.size) = p))) = false := by
          rw [decide_eq_false heq]; simp
        rw [hd]
        subst he
        have hl2 : ¬ (S.size : Int) < (at' : Int) + (p.size : Int) := by omega
        have hl3 : (at' : Int) + (p.size : Int) ≤ (S.size : Int) := by omega
        have hl4 : (at' : Int) ≤ (at' : Int) + (p.size : Int) := by omega
        have hl5 : (0 : Int) ≤ (at' : Int) + (p.size : Int) := by omega
        have hl6 : ((at' : Int) + (p.size : Int)).toNat = at' + p.size := by omega
        have heq2 : ((S.extract at' (at' + p.size)).toList == p.toList) = false := jeq_f heq
        have hh := Lib.hid h
        clear h hd heq
        go_enter Tryz.func142, Tryz.ntmps142
        go_wp2_with fail
        go_quiet (fail)
        go_wp2
        go_ret
        exact ⟨rfl, But.of (bel_drewN (Below.refl _ _) _), hh.out.below (bel_drewN (Below.refl _ _) _)⟩
  · have hd : (decide (e = 0) && (decide (at' + p.size ≤ S.size ∨ p.size = 0) && decide (S.extract at' (at' + p.size) = p))) = false := by
      rw [decide_eq_false he]; rfl
    rw [hd]
    have he2 : (e != 0) = true := by simp [he]
    have hh := Lib.hid h
    clear h hd
    go_enter Tryz.func142, Tryz.ntmps142
    go_wp2_with fail
    go_quiet (fail)
    go_wp2
    go_ret
    exact ⟨rfl, But.of (bel_drewN (Below.refl _ _) _), hh.out.below (bel_drewN (Below.refl _ _) _)⟩
end Go.Proofs.YtamcbgkppgdniaaGreatDoor
