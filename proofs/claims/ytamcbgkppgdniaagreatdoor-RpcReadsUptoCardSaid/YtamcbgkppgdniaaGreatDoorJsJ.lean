/-
  The walk of the document's Get.
-/
import Derived.Test.YtamcbgkppgdniaaGreatDoorJsI
import Derived.Test.YtamcbgkppgdniaaGreatDoorJma
namespace Go.Proofs.YtamcbgkppgdniaaGreatDoor
open Go.RowKit

theorem find_hit {L : List ByteArray} {x : ByteArray} {q : Nat} (h1 : L[q]? = some x) (h2 : ∀ b ∈ L.take q, b ≠ x) : jfind L x = some q := by
  unfold jfind
  rw [List.findIdx?_eq_some_iff_getElem]
  have hq := (List.getElem?_eq_some_iff.1 h1).1
  refine ⟨hq, ?_, fun j hj => ?_⟩
  · have := (List.getElem?_eq_some_iff.1 h1).2
    simp [this]
  · have hm : L[j] ∈ L.take q := by
      rw [List.mem_take_iff_getElem]
      exact ⟨j, by omega, rfl⟩
    simpa using h2 _ hm
theorem find_miss {L : List ByteArray} {x : ByteArray} (h2 : ∀ b ∈ L, b ≠ x) : jfind L x = none := by
  unfold jfind
  rw [List.findIdx?_eq_none_iff]
  intro b hb
  simpa using h2 b hb
theorem zero_jv (w : World) (X : Nat → Prop) : JV w X zeroJ (.slice none 0 0) (.slice none 0 0) := by
  unfold zeroJ
  rw [JV_eq]
  exact ⟨by omega, by omega, ⟨none, 0, rfl, fun h => by simp at h⟩, none, 0, rfl, fun h => by simp at h⟩
def RefGetEnd (r : Option Jsn) (X : Nat → Prop) (w : World) (e : Ending) (w' : World) : Prop := ∃ vn vl, e = .returned (.tuple #[.agg #[.int .u8 (r.getD zeroJ).kind, .string (r.getD zeroJ).text, vn, vl], .bool r.isSome]) ∧ JV w' X (r.getD zeroJ) vn vl ∧ Below w.heap.size w w'

set_option maxRecDepth 100000 in
set_option maxHeartbeats 2000000 in
theorem refGetJ_any (j : Jsn) (X : Nat → Prop) (w : World) (vn vl : Value) (x : ByteArray) (hV : JV w X j vn vl) (hbk : jbulk j ≤ 1000000000000) :
    Calls Tryz.prog 78 #[.agg #[.int .u8 j.kind, .string j.text, vn, vl], .string x] w (RefGetEnd (jget j x) X w) := by
  obtain ⟨k, s, n, l⟩ := j
  obtain ⟨_, hn, hl, _, _⟩ := bulk_parts hbk
  dsimp only at hl hn
  have hnam := hV.names
  obtain ⟨An, cn, rfl⟩ := hnam.len
  obtain ⟨A, c, zs, rfl, hz, h2, h3⟩ := hV.elems
  dsimp only at hnam ⊢
  have hlen : zs.length = l.length := by rw [← hz, List.length_map]
  rw [← hlen] at hl
  obtain ⟨r, hr⟩ : ∃ r, jget ⟨k, s, n, l⟩ x = r := ⟨_, rfl⟩
  rw [hr]
  by_cases hk : k = 7
  case neg =>
    have hrv : r = none := by rw [← hr]; unfold jget; rw [if_neg hk]
    subst hrv
    have hk1 : (k == 7) = false := beq_eq_false_iff_ne.2 hk
    clear hV h2 h3 hbk hr hz hlen
    by_cases h0 : 0 < n.length
    · go_enter Tryz.func78, Tryz.ntmps78
      go_wp2_with fail
      refine wp_loop_rounds 1 ?_
      rw [rounds_succ]
      go_wp2_with fail
      exact bodyPost_ret (v := .tuple #[.agg #[.int .u8 0, .string ⟨#[]⟩, .slice none 0 0, .slice none 0 0], .bool false]) (by simp [results, Tryz.results78, go_sem]) rfl ⟨_, _, rfl, zero_jv _ _, ((Below.refl _ _).alloc (Nat.le_refl _) _).alloc (by simp) _⟩
    · go_enter Tryz.func78, Tryz.ntmps78
      go_wp2_with fail
      refine wp_loop_rounds 1 ?_
      rw [rounds_succ]
      go_wp2_with fail
      exact bodyPost_ret (v := .tuple #[.agg #[.int .u8 0, .string ⟨#[]⟩, .slice none 0 0, .slice none 0 0], .bool false]) (by simp [results, Tryz.results78, go_sem]) rfl ⟨_, _, rfl, zero_jv _ _, ((Below.refl _ _).alloc (Nat.le_refl _) _).alloc (by simp) _⟩
  subst hk
  have hB0 : Below w.heap.size w ((w.alloc (.cells #[.int .u8 7, .string s, .slice An n.length cn, .slice A zs.length c] 25)).alloc (.cells #[.int .u8 0, .string ⟨#[]⟩, .slice none 0 0, .slice none 0 0] 25)) := ((Below.refl _ _).alloc (Nat.le_refl _) _).alloc (by simp) _
  have hat := Lib.hid (fun (i : Nat) (hi : i < n.length) => hnam.at hB0 hi)
  have hw := Lib.hid (fun (i : Nat) (hi : i < zs.length) => JV.at h2 h3 hB0 hi)
  have h2' := Lib.hid h2
  clear hV h2 h3 hbk hnam
  replace hr := Lib.hid hr
  replace hz := Lib.hid hz
  replace hlen := Lib.hid hlen
  replace hB0 := Lib.hid hB0
  go_enter Tryz.func78, Tryz.ntmps78
  go_wp2_with fail
  go_loop [6] (fun i => ∃ q : Nat, q ≤ n.length ∧ i = .int .i64 q ∧ ∀ b ∈ n.take q, b ≠ x) (fun i => n.length - (intOf i).toNat)
  case atStart => exact ⟨0, Nat.zero_le _, rfl, by simp⟩
  case round =>
    obtain ⟨q, hq, rfl, hno⟩ := hrel
    by_cases hlt : q < n.length
    · obtain ⟨g1, o1, rfl, y1⟩ := hat.out q hlt
      have hqn : n[q]? = some n[q] := List.getElem?_eq_getElem hlt
      obtain ⟨S, hS⟩ : ∃ S, n[q] = S := ⟨_, rfl⟩
      rw [hS] at y1 hqn
      clear hS
      by_cases hx : S = x
      · subst hx
        have hfi := find_hit hqn hno
        by_cases hql : q < zs.length
        · obtain ⟨g, o, ⟨y, vx, vy⟩, hzq, hzm, rfl, hVz, a0, a1, a2, a3⟩ := hw.out q hql
          dsimp only at hVz a0 a1 a2 a3
          obtain ⟨Ax, nx, cx, Ay, ny, cy, rfl, rfl⟩ := hVz.forms
          have hrv : r = some y := by
            rw [← hr.out]
            unfold jget
            rw [if_pos rfl]
            show (match jfind n S with | none => none | some i => l[i]?) = some y
            rw [hfi]
            show l[q]? = some y
            rw [← hz.out, List.getElem?_map, hzq]; rfl
          subst hrv
          have hVw := h2'.out _ hzm
          clear hno hqn hfi hzq hzm hat hw hVz h2'
          replace hVw := Lib.hid hVw
          go_wp2_with fail
          refine bodyPost_ret (v := .tuple #[.agg #[.int .u8 y.kind, .string y.text, .slice Ax nx cx, .slice Ay ny cy], .bool true]) (by simp [results, Tryz.results78, go_sem]) rfl ⟨_, _, rfl, ?_, ((Below.refl _ _).alloc (Nat.le_refl _) _).alloc (by simp) _⟩
          exact hVw.out.later (((Below.refl _ _).alloc (Nat.le_refl _) _).alloc (by simp) _)
        · have hrv : r = none := by
            rw [← hr.out]
            unfold jget
            rw [if_pos rfl]
            show (match jfind n S with | none => none | some i => l[i]?) = none
            rw [hfi]
            exact List.getElem?_eq_none (by have := hlen.out; omega)
          subst hrv
          clear hno hqn hfi hat hw
          go_wp2_with fail
          exact bodyPost_ret (v := .tuple #[.agg #[.int .u8 0, .string ⟨#[]⟩, .slice none 0 0, .slice none 0 0], .bool false]) (by simp [results, Tryz.results78, go_sem]) rfl ⟨_, _, rfl, zero_jv _ _, ((Below.refl _ _).alloc (Nat.le_refl _) _).alloc (by simp) _⟩
      · have hne := jeq_f hx
        have hno2 : ∀ b ∈ n.take (q + 1), b ≠ x := by
          rw [List.take_add_one, hqn]
          intro b hb
          rw [List.mem_append] at hb
          rcases hb with hb | hb
          · exact hno b hb
          · simp at hb; subst hb; exact hx
        clear hno hqn hat hw hx
        replace hno2 := Lib.hid hno2
        go_wp2_with fail
        go_round
        case rel => exact ⟨q + 1, by omega, by go_num, hno2.out⟩
        case measure => simp [intOf]; omega
    · rw [List.take_of_length_le (by omega)] at hno
      have hrv : r = none := by
        rw [← hr.out]
        unfold jget
        rw [if_pos rfl]
        show (match jfind n x with | none => none | some i => l[i]?) = none
        rw [find_miss hno]
      subst hrv
      clear hno hat hw
      go_wp2_with fail
      exact bodyPost_ret (v := .tuple #[.agg #[.int .u8 0, .string ⟨#[]⟩, .slice none 0 0, .slice none 0 0], .bool false]) (by simp [results, Tryz.results78, go_sem]) rfl ⟨_, _, rfl, zero_jv _ _, ((Below.refl _ _).alloc (Nat.le_refl _) _).alloc (by simp) _⟩
end Go.Proofs.YtamcbgkppgdniaaGreatDoor
