/-
  The walk of the document's form over JSON values, over contracts of a Number's own text and of a valid text.
-/
import Derived.Test.YtdjfoabinjfnfaaGreatDoorM03
namespace Go.Proofs.YtdjfoabinjfnfaaGreatDoor
open Go.RowKit
theorem empty_iff (s : ByteArray) : s.data.toList.isEmpty = decide (s = ⟨#[]⟩) := by
  by_cases h : s = ⟨#[]⟩
  · subst h; rfl
  · rw [decide_eq_false h]
    cases h2 : s.data.toList with
    | nil => exact absurd (jstr_ext (b := ⟨#[]⟩) h2) h
    | cons a b => rfl
theorem empties (n : List ByteArray) (l : List Jsn) : (n.isEmpty && l.isEmpty) = decide (n.length + l.length = 0) := by
  cases n <;> cases l <;> simp
theorem jf_plain {Own Val k s n l} (h : k = 1 ∨ k = 2 ∨ k = 3) : jform Own Val ⟨k, s, n, l⟩ = (decide (s = ⟨#[]⟩) && decide (n.length + l.length = 0)) := by
  rw [jform_eq, if_pos h, Bool.and_assoc, empties, empty_iff]
theorem jf_num {Own Val s n l} : jform Own Val ⟨4, s, n, l⟩ = (decide (Own s.data.toList = (s.data.toList, 0)) && decide (n.length + l.length = 0)) := by
  rw [jform_eq, if_neg (by decide), if_pos rfl, Bool.and_assoc, empties]
theorem jf_str {Own Val s n l} : jform Own Val ⟨5, s, n, l⟩ = (Val s.data.toList && decide (n.length + l.length = 0)) := by
  rw [jform_eq, if_neg (by decide), if_neg (by decide), if_pos rfl, Bool.and_assoc, empties]
theorem jf_arr {Own Val s n l} : jform Own Val ⟨6, s, n, l⟩ = (((decide (s = ⟨#[]⟩) && decide (n.length = 0)) && n.all (fun b => Val b.data.toList)) && l.all (jform Own Val)) := by
  rw [jform_eq, if_neg (by decide), if_neg (by decide), if_neg (by decide), if_pos rfl, empty_iff]
  cases n <;> simp
theorem jf_obj {Own Val s n l} : jform Own Val ⟨7, s, n, l⟩ = (((decide (s = ⟨#[]⟩) && decide (n.length = l.length)) && n.all (fun b => Val b.data.toList)) && l.all (jform Own Val)) := by
  rw [jform_eq, if_neg (by decide), if_neg (by decide), if_neg (by decide), if_neg (by decide), if_pos rfl, empty_iff]
theorem jf_else {Own Val k s n l} (h1 : ¬ (k = 1 ∨ k = 2 ∨ k = 3)) (h4 : k ≠ 4) (h5 : k ≠ 5) (h6 : k ≠ 6) (h7 : k ≠ 7) : jform Own Val ⟨k, s, n, l⟩ = false := by
  rw [jform_eq, if_neg h1, if_neg h4, if_neg h5, if_neg h6, if_neg h7]
theorem own_pair (u : List UInt8) (e : Int) (s : ByteArray) : decide ((u, e) = (s.data.toList, (0 : Int))) = (decide (e = 0) && decide ((⟨u.toArray⟩ : ByteArray) = s)) := by
  rw [Bool.eq_iff_iff]
  simp only [decide_eq_true_eq, Bool.and_eq_true, Prod.mk.injEq]
  constructor
  · rintro ⟨rfl, rfl⟩; exact ⟨rfl, rfl⟩
  · rintro ⟨rfl, rfl⟩; exact ⟨by simp, rfl⟩
theorem ne_empty {s : ByteArray} (h : s ≠ ⟨#[]⟩) : ¬ s.toList = [] := fun e => h (jstr_ext (by rw [← jtl_eq, e]))
def OwnSaysS (f : Nat) (Own : List UInt8 → List UInt8 × Int) : Prop := ∀ (s : ByteArray) (w : World), s.size ≤ 1000000 →
    Calls Tryz.prog f #[.string s] w fun e w' => e = .returned (.tuple #[.string ⟨(Own s.data.toList).1.toArray⟩, .int .i64 (Own s.data.toList).2]) ∧ Below w.heap.size w w'
def ValSays (f : Nat) (Val : List UInt8 → Bool) : Prop := ∀ (s : ByteArray) (w : World), s.size ≤ 1000000 →
    Calls Tryz.prog f #[.string s] w fun e w' => e = .returned (.bool (Val s.data.toList)) ∧ Below w.heap.size w w'
def FI (w wr : World) (A1 : Option Addr) (n c1 : Nat) (A : Option Addr) (m c : Nat) : Prop := w.heap.size < wr.heap.size ∧ wr.cell? ⟨w.heap.size, 2, none⟩ = some (.slice A1 n c1) ∧ wr.cell? ⟨w.heap.size, 3, none⟩ = some (.slice A m c) ∧ Below w.heap.size w wr
theorem FI.step {w wr w1 : World} {A1 : Option Addr} {n c1 : Nat} {A : Option Addr} {m c : Nat} (h : FI w wr A1 n c1 A m c) (hb : Below wr.heap.size wr w1) : FI w w1 A1 n c1 A m c := by
  obtain ⟨h1, h2, h3, h4⟩ := h
  exact ⟨Nat.lt_of_lt_of_le h1 hb.size, (hb.cell (p := ⟨w.heap.size, 2, none⟩) h1).trans h2, (hb.cell (p := ⟨w.heap.size, 3, none⟩) h1).trans h3, h4.trans (hb.mono (Nat.le_of_lt h1))⟩
theorem all_take_s {α : Type} {l : List α} {q : Nat} {x : α} (h : l[q]? = some x) (F : α → Bool) : (l.take (q + 1)).all F = ((l.take q).all F && F x) := by
  rw [List.take_add_one, h]; simp
theorem all_take_f {α : Type} {l : List α} {q : Nat} {F : α → Bool} (h : (l.take q).all F = false) : l.all F = false := by
  rw [List.all_eq_false] at h ⊢
  obtain ⟨x, hx, hf⟩ := h
  exact ⟨x, List.mem_of_mem_take hx, hf⟩
set_option maxHeartbeats 4000000 in
theorem refFormJ_any (Own : List UInt8 → List UInt8 × Int) (Val : List UInt8 → Bool) (hown : OwnSaysS 139 Own) (hval : ValSays 140 Val) : FormSays 91 (jform Own Val) := by
  refine Jsn.ind fun k s n l ih X w vn vl hV hbk => ?_
  obtain ⟨hsz, hn, hl, hnb, hkids⟩ := bulk_parts hbk
  dsimp only at hl hkids hn hnb hsz
  have hnam := hV.names
  obtain ⟨A1, c1, rfl⟩ := hnam.len
  obtain ⟨A, c, zs, rfl, hz, h2, h3⟩ := hV.elems
  dsimp only at hnam ⊢
  have hlen : zs.length = l.length := by rw [← hz, List.length_map]
  rw [← hlen] at hl
  have hb1 : ∀ x ∈ l, jbulk x ≤ 1000000 := fun x hx => by have := hkids x hx; omega
  obtain ⟨W0, hW0⟩ : ∃ W0, w.alloc (.cells #[.int .u8 k, .string s, .slice A1 n.length c1, .slice A zs.length c] 25) = W0 := ⟨_, rfl⟩
  have hB0 : Below w.heap.size w W0 := by rw [← hW0]; exact (Below.refl _ _).alloc (Nat.le_refl _) _
  have hC0 : Cel W0 w.heap.size 25 #[.int .u8 k, .string s, .slice A1 n.length c1, .slice A zs.length c] := by rw [← hW0]; exact Cel.fresh _ _ _
  have hat := Lib.hid (fun (wr : World) (hB : Below w.heap.size w wr) (i : Nat) (hi : i < n.length) => hnam.at hB hi)
  have hw := Lib.hid (fun (wr : World) (i : Nat) (hB : Below w.heap.size w wr) (hi : i < zs.length) => JV.at h2 h3 hB hi)
  clear hV h2 h3 hnam hkids hbk
  replace ih := Lib.hid ih
  replace hb1 := Lib.hid hb1
  replace hnb := Lib.hid hnb
  replace hz := Lib.hid hz
  replace hown := Lib.hid hown
  replace hval := Lib.hid hval
  obtain ⟨p0, p1, p2, p3⟩ := box_cells hC0
  replace hW0 := Lib.hid hW0
  have h0 := Lib.hid (And.intro hC0 hB0)
  clear hC0 hB0
  obtain ⟨R, hR⟩ : ∃ R, jform Own Val ⟨k, s, n, l⟩ = R := ⟨_, rfl⟩
  rw [hR]
  by_cases hk : k = 1 ∨ k = 2 ∨ k = 3
  · rw [jf_plain hk, ← hlen] at hR
    clear ih hat hw hz hown hval hb1 hnb
    by_cases hs : s = ⟨#[]⟩
    · subst hs
      by_cases h00 : n.length + zs.length = 0
      · have hi : ((n.length : Int) + (zs.length : Int) == 0) = true := beq_iff_eq.2 (by omega)
        have hR2 : R = true := by rw [← hR, decide_eq_true h00]; rfl
        subst hR2
        clear hR hlen
        rcases hk with rfl | rfl | rfl
        all_goals
          go_enter Tryz.func91, Tryz.ntmps91
          go_wp2_with fail
          go_ret
          exact ⟨rfl, by rw [hW0.out]; exact h0.out.2⟩
      · have hi : ((n.length : Int) + (zs.length : Int) == 0) = false := beq_eq_false_iff_ne.2 (by omega)
        have hR2 : R = false := by rw [← hR, decide_eq_false h00, Bool.and_false]
        subst hR2
        clear hR hlen
        rcases hk with rfl | rfl | rfl
        all_goals
          go_enter Tryz.func91, Tryz.ntmps91
          go_wp2_with fail
          go_ret
          exact ⟨rfl, by rw [hW0.out]; exact h0.out.2⟩
    · have hi := jeq_f hs
      have hi1 := ne_empty hs
      have hR2 : R = false := by rw [← hR, decide_eq_false hs]; rfl
      subst hR2
      clear hR hlen hs
      rcases hk with rfl | rfl | rfl
      all_goals
        go_enter Tryz.func91, Tryz.ntmps91
        go_wp2_with fail
        go_ret
        exact ⟨rfl, by rw [hW0.out]; exact h0.out.2⟩
  by_cases hk4 : k = 4
  · subst hk4
    clear ih hat hw hz hval hb1 hnb hk
    have hcall := hown.out s W0 hsz
    rw [jf_num, ← hlen] at hR
    obtain ⟨⟨u, e⟩, hO⟩ : ∃ O, Own s.data.toList = O := ⟨_, rfl⟩
    rw [hO] at hcall hR
    rw [own_pair] at hR
    obtain ⟨S, hS⟩ : ∃ S : ByteArray, ⟨u.toArray⟩ = S := ⟨_, rfl⟩
    dsimp only at hcall
    rw [hS] at hcall hR
    clear hO hS hown hlen
    replace hcall := Lib.hid hcall
    replace hR := Lib.hid hR
    go_enter Tryz.func91, Tryz.ntmps91
    go_wp2_with fail
    rw [hW0.out]
    clear hW0
    refine hcall.out.mono ?_
    rintro en w1 ⟨rfl, hb⟩
    have h1 := Lib.hid (box_step h0.out hb)
    clear p0 p1 p2 p3 h0 hb hcall
    obtain ⟨p0, p1, p2, p3⟩ := box_cells h1.out.1
    by_cases he : e = 0
    case neg =>
      have hi : (e == 0) = false := beq_eq_false_iff_ne.2 he
      have hR2 : R = false := by rw [← hR.out, decide_eq_false he]; rfl
      subst hR2
      clear he
      go_wp2_with fail
      go_ret
      exact ⟨rfl, h1.out.2⟩
    subst he
    by_cases hs : S = s
    case neg =>
      have hi := jeq_f hs
      have hR2 : R = false := by rw [← hR.out, decide_eq_false hs]; rfl
      subst hR2
      clear hs
      go_wp2_with fail
      go_ret
      exact ⟨rfl, h1.out.2⟩
    subst hs
    by_cases h00 : n.length + zs.length = 0
    · have hi : ((n.length : Int) + (zs.length : Int) == 0) = true := beq_iff_eq.2 (by omega)
      have hR2 : R = true := by rw [← hR.out, decide_eq_true h00]; simp
      subst hR2
      go_wp2_with fail
      go_ret
      exact ⟨rfl, h1.out.2⟩
    · have hi : ((n.length : Int) + (zs.length : Int) == 0) = false := beq_eq_false_iff_ne.2 (by omega)
      have hR2 : R = false := by rw [← hR.out, decide_eq_false h00, Bool.and_false]
      subst hR2
      go_wp2_with fail
      go_ret
      exact ⟨rfl, h1.out.2⟩
  by_cases hk5 : k = 5
  · subst hk5
    clear ih hat hw hz hown hb1 hnb hk
    have hcall := hval.out s W0 hsz
    rw [jf_str, ← hlen] at hR
    obtain ⟨D, hD⟩ : ∃ D, Val s.data.toList = D := ⟨_, rfl⟩
    rw [hD] at hcall hR
    clear hD hval hlen
    replace hcall := Lib.hid hcall
    replace hR := Lib.hid hR
    go_enter Tryz.func91, Tryz.ntmps91
    go_wp2_with fail
    rw [hW0.out]
    clear hW0
    refine hcall.out.mono ?_
    rintro en w1 ⟨rfl, hb⟩
    have h1 := Lib.hid (box_step h0.out hb)
    clear p0 p1 p2 p3 h0 hb hcall
    obtain ⟨p0, p1, p2, p3⟩ := box_cells h1.out.1
    rcases D with _ | _
    · have hR2 : R = false := by rw [← hR.out]; rfl
      subst hR2
      go_wp2_with fail
      go_ret
      exact ⟨rfl, h1.out.2⟩
    by_cases h00 : n.length + zs.length = 0
    · have hi : ((n.length : Int) + (zs.length : Int) == 0) = true := beq_iff_eq.2 (by omega)
      have hR2 : R = true := by rw [← hR.out, decide_eq_true h00]; rfl
      subst hR2
      go_wp2_with fail
      go_ret
      exact ⟨rfl, h1.out.2⟩
    · have hi : ((n.length : Int) + (zs.length : Int) == 0) = false := beq_eq_false_iff_ne.2 (by omega)
      have hR2 : R = false := by rw [← hR.out, decide_eq_false h00, Bool.and_false]
      subst hR2
      go_wp2_with fail
      go_ret
      exact ⟨rfl, h1.out.2⟩
  by_cases hk67 : k = 6 ∨ k = 7
  case neg =>
    have hk6 : k ≠ 6 := fun h => hk67 (Or.inl h)
    have hk7 : k ≠ 7 := fun h => hk67 (Or.inr h)
    rw [jf_else hk hk4 hk5 hk6 hk7] at hR
    subst hR
    have e1 : (k == 1) = false := beq_eq_false_iff_ne.2 fun h => hk (Or.inl h)
    have e2 : (k == 2) = false := beq_eq_false_iff_ne.2 fun h => hk (Or.inr (Or.inl h))
    have e3 : (k == 3) = false := beq_eq_false_iff_ne.2 fun h => hk (Or.inr (Or.inr h))
    have e4 : (k == 4) = false := beq_eq_false_iff_ne.2 hk4
    have e5 : (k == 5) = false := beq_eq_false_iff_ne.2 hk5
    have e6 : (k == 6) = false := beq_eq_false_iff_ne.2 hk6
    have e7 : (k == 7) = false := beq_eq_false_iff_ne.2 hk7
    clear hk67 hk hk4 hk5 hk6 hk7 ih hat hw hz hown hval hb1 hnb hlen
    all_goals
      go_enter Tryz.func91, Tryz.ntmps91
      go_wp2_with fail
      go_loopw [3, 6] (fun ok i wr => ok = .bool false ∧ i = .int .i64 0 ∧ wr = W0) (fun _ i _ => 0)
      case atStart => exact ⟨rfl, rfl, hW0.out⟩
      case round =>
        obtain ⟨rfl, rfl, hwr⟩ := hrel
        subst wr
        by_cases hn0 : 0 < n.length
        all_goals
          go_wp2_with fail
          go_loopw [3, 7] (fun ok i wr => ok = .bool false ∧ i = .int .i64 0 ∧ wr = W0) (fun _ i _ => 0)
          case atStart => exact ⟨rfl, rfl, rfl⟩
          case round =>
            obtain ⟨rfl, rfl, hwr⟩ := hrel
            subst wr
            by_cases hz0 : 0 < zs.length
            all_goals
              go_wp2_with fail
              go_ret
              exact ⟨rfl, h0.out.2⟩
  clear hk hk4 hk5 hown
  have hcase : ∃ b : Bool, R = ((b && n.all fun b => Val b.data.toList) && l.all (jform Own Val)) ∧
      ((k = 6 ∧ s = ⟨#[]⟩ ∧ ((n.length : Int) == 0) = b) ∨ (k = 7 ∧ s = ⟨#[]⟩ ∧ ((n.length : Int) == (zs.length : Int)) = b) ∨ ((k = 6 ∨ k = 7) ∧ s ≠ ⟨#[]⟩ ∧ b = false)) := by
    by_cases hs : s = ⟨#[]⟩
    · subst hs
      rcases hk67 with rfl | rfl
      · exact ⟨decide (n.length = 0), by rw [← hR, jf_arr]; simp, Or.inl ⟨rfl, rfl, by rw [Bool.eq_iff_iff]; simp⟩⟩
      · exact ⟨decide (n.length = l.length), by rw [← hR, jf_obj]; simp, Or.inr (Or.inl ⟨rfl, rfl, by rw [Bool.eq_iff_iff, hlen]; simp; omega⟩)⟩
    · refine ⟨false, ?_, Or.inr (Or.inr ⟨hk67, hs, rfl⟩)⟩
      rcases hk67 with rfl | rfl
      · rw [← hR, jf_arr, decide_eq_false hs]; rfl
      · rw [← hR, jf_obj, decide_eq_false hs]; rfl
  clear hk67 hR
  obtain ⟨b, hRb, hcs⟩ := hcase
  replace hRb := Lib.hid hRb
  have hall0 : ∀ b : Bool, (b && (n.take 0).all fun b => Val b.data.toList) = b := fun b => by simp
  rcases b with _ | _
  · have hR2 : R = false := by rw [hRb.out]; rfl
    subst hR2
    clear ih hat hw hz hval hb1 hnb hall0 hRb hlen
    have hst : ∃ W, W = W0 := ⟨_, rfl⟩
    rcases hcs with ⟨rfl, rfl, hbe⟩ | ⟨rfl, rfl, hbe⟩ | ⟨rfl | rfl, hs, _⟩
    rotate_left 2
    all_goals try have hi1 := ne_empty hs
    all_goals
      go_enter Tryz.func91, Tryz.ntmps91
      go_wp2_with fail
      go_loopw [3, 6] (fun ok i wr => ok = .bool false ∧ i = .int .i64 0 ∧ wr = W0) (fun _ i _ => 0)
      case atStart => exact ⟨rfl, rfl, hW0.out⟩
      case round =>
        obtain ⟨rfl, rfl, hwr⟩ := hrel
        subst wr
        by_cases hn0 : 0 < n.length
        all_goals
          go_wp2_with fail
          go_loopw [3, 7] (fun ok i wr => ok = .bool false ∧ i = .int .i64 0 ∧ wr = W0) (fun _ i _ => 0)
          case atStart => exact ⟨rfl, rfl, rfl⟩
          case round =>
            obtain ⟨rfl, rfl, hwr⟩ := hrel
            subst wr
            by_cases hz0 : 0 < zs.length
            all_goals
              go_wp2_with fail
              go_ret
              exact ⟨rfl, h0.out.2⟩
  · have hF0 : FI w W0 A1 n.length c1 A zs.length c := ⟨h0.out.1.lt, p2, p3, h0.out.2⟩
    clear hall0 hlen
    rcases hcs with ⟨rfl, rfl, hbe⟩ | ⟨rfl, rfl, hbe⟩ | ⟨_, _, hbe⟩
    rotate_left 2
    · cases hbe
    all_goals
      replace hF0 := Lib.hid hF0
      clear h0
      go_enter Tryz.func91, Tryz.ntmps91
      go_wp2_with fail
      clear p0 p1 p2 p3 hbe
      go_loopw [3, 6] (fun ok i wr => ∃ (q : Nat) (O : Bool), q ≤ n.length ∧ ok = .bool O ∧ i = .int .i64 q ∧ ((n.take q).all fun b => Val b.data.toList) = O ∧ FI w wr A1 n.length c1 A zs.length c) (fun _ i _ => n.length - (intOf i).toNat)
      case atStart => exact ⟨0, true, Nat.zero_le _, rfl, rfl, by simp, by rw [hW0.out]; exact hF0.out⟩
      case round =>
        clear hF0 hW0
        obtain ⟨q, O, hq, rfl, rfl, hO, hFI⟩ := hrel
        obtain ⟨p4, p2, p3, hB⟩ := id hFI
        by_cases hc : q < n.length ∧ O = true
        · obtain ⟨hlt, rfl⟩ := hc
          obtain ⟨g, o, rfl, y⟩ := hat.out wr hB q hlt
          have hcall := hval.out n[q] wr (hnb.out _ (List.getElem_mem hlt))
          have hst := all_take_s (List.getElem?_eq_getElem hlt) (fun b => Val b.data.toList)
          rw [hO] at hst
          obtain ⟨S, hS⟩ : ∃ S, n[q] = S := ⟨_, rfl⟩
          rw [hS] at y hcall hst
          try dsimp only at hst
          obtain ⟨D, hD⟩ : ∃ D, Val S.data.toList = D := ⟨_, rfl⟩
          rw [hD] at hcall hst
          have hq0 : (0 : Int) ≤ (q : Int) := by omega
          have hq1 : (q : Int) < (n.length : Int) := by omega
          clear hS hD hO hB
          replace hcall := Lib.hid hcall
          replace hst := Lib.hid hst
          replace hFI := Lib.hid hFI
          go_wp2_with fail
          refine hcall.out.mono ?_
          rintro e w1 ⟨rfl, hb⟩
          replace hb := Lib.hid hb
          clear p2 p3 y hcall
          go_wp2_with fail
          go_roundw
          case rel => exact ⟨q + 1, D, by omega, by go_num, by go_num, by rw [hst.out]; rfl, hFI.out.step hb.out⟩
          case measure => simp [intOf]; omega
        · have hOn : R = (O && l.all (jform Own Val)) := by
            rw [hRb.out]
            by_cases hlt : q < n.length
            · have hOf : O = false := by cases O; rfl; exact absurd ⟨hlt, rfl⟩ hc
              subst hOf
              rw [all_take_f hO]; rfl
            · rw [List.take_of_length_le (by omega)] at hO
              rw [hO]; rfl
          have hOf : q < n.length → O = false := fun hlt => by cases O; rfl; exact absurd ⟨hlt, rfl⟩ hc
          clear hc hO hB hRb hat hnb
          replace hOn := Lib.hid hOn
          replace hFI := Lib.hid hFI
          by_cases hlt : q < n.length
          · have hO2 := hOf hlt
            subst hO2
            have hR2 : R = false := by rw [hOn.out]; rfl
            subst hR2
            clear hOf hw ih
            go_wp2_with fail
            go_loopw [3, 7] (fun ok i wr2 => ok = .bool false ∧ i = .int .i64 0 ∧ wr2 = wr) (fun _ i _ => 0)
            case atStart => exact ⟨rfl, rfl, rfl⟩
            case round =>
              obtain ⟨rfl, rfl, hwr⟩ := hrel
              subst hwr
              by_cases hz0 : 0 < zs.length
              all_goals
                go_wp2_with fail
                go_ret
                exact ⟨rfl, hFI.out.2.2.2⟩
          · clear hOf
            go_wp2_with fail
            clear p2 p3 p4
            go_loopw [3, 7] (fun ok i wr => ∃ (q : Nat) (P : Bool), q ≤ zs.length ∧ ok = .bool P ∧ i = .int .i64 q ∧ (O && ((zs.take q).map (·.1)).all (jform Own Val)) = P ∧ FI w wr A1 n.length c1 A zs.length c) (fun _ i _ => zs.length - (intOf i).toNat)
            case atStart => exact ⟨0, O, Nat.zero_le _, rfl, rfl, by simp, hFI.out⟩
            case round =>
              clear hFI
              obtain ⟨q, P, hq, rfl, rfl, hP, hFI⟩ := hrel
              obtain ⟨p4, p2, p3, hB⟩ := id hFI
              by_cases hlt : q < zs.length
              · rcases P with _ | _
                · have hR2 : R = false := by
                    rw [hOn.out, ← hz.out]
                    rcases O with _ | _
                    · rfl
                    · rw [Bool.true_and, List.map_take] at hP
                      rw [Bool.true_and]; exact all_take_f hP
                  subst hR2
                  clear hw ih hP
                  replace hB := Lib.hid hB
                  go_wp2_with fail
                  go_ret
                  exact ⟨rfl, hB.out⟩
                · obtain ⟨g, o, ⟨x, vx, vy⟩, hzq, hzm, rfl, hVz, a0, a1, a2, a3⟩ := hw.out wr q hB hlt
                  dsimp only at hVz a0 a1 a2 a3
                  have hxm : x ∈ l := by rw [← hz.out]; exact List.mem_map_of_mem (f := (·.1)) hzm
                  have hcall := ih.out x hxm X wr vx vy hVz (hb1.out x hxm)
                  have hmq : (zs.map (·.1))[q]? = some x := by rw [List.getElem?_map, hzq]; rfl
                  have hst := all_take_s hmq (jform Own Val)
                  rw [List.map_take] at hP
                  obtain ⟨Ax, nx, cx, Ay, ny, cy, rfl, rfl⟩ := hVz.forms
                  obtain ⟨D, hD⟩ : ∃ D, jform Own Val x = D := ⟨_, rfl⟩
                  rw [hD] at hcall hst
                  have hst2 : (O && ((zs.take (q + 1)).map (·.1)).all (jform Own Val)) = D := by
                    rw [List.map_take, hst, ← Bool.and_assoc, hP, Bool.true_and]
                  have hq0 : (0 : Int) ≤ (q : Int) := by omega
                  have hq1 : (q : Int) < (zs.length : Int) := by omega
                  clear hVz hzq hzm hw ih hD hP hB hst hmq
                  replace hcall := Lib.hid hcall
                  replace hst2 := Lib.hid hst2
                  replace hFI := Lib.hid hFI
                  go_wp2_with fail
                  refine hcall.out.mono ?_
                  rintro e w1 ⟨rfl, hb⟩
                  replace hb := Lib.hid hb
                  clear hcall a0 a1 a2 a3 p2 p3
                  go_wp2_with fail
                  go_roundw
                  case rel => exact ⟨q + 1, D, by omega, by go_num, by go_num, hst2.out, hFI.out.step hb.out⟩
                  case measure => simp [intOf]; omega
              · have hR2 : R = P := by
                  rw [hOn.out, ← hz.out, ← hP, List.take_of_length_le (by omega)]
                subst hR2
                clear hw ih hP
                replace hB := Lib.hid hB
                go_wp2_with fail
                go_ret
                exact ⟨rfl, hB.out⟩
end Go.Proofs.YtdjfoabinjfnfaaGreatDoor
