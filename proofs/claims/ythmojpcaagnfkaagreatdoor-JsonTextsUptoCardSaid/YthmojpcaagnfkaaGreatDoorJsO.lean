/-
  The walks of the document's digit, Check and Print over JSON values, over contracts of form and text.
-/
import Derived.Test.YthmojpcaagnfkaaGreatDoorJsN
import Derived.Test.YthmojpcaagnfkaaGreatDoorJsR
namespace Go.Proofs.YthmojpcaagnfkaaGreatDoor
open Go.RowKit

def FormSays (f : Nat) (F : Jsn → Bool) : Prop := ∀ (j : Jsn) (X : Nat → Prop) (w : World) (vn vl : Value), JV w X j vn vl → jbulk j ≤ 1000000 →
    Calls Tryz.prog f #[.agg #[.int .u8 j.kind, .string j.text, vn, vl]] w fun e w' => e = .returned (.bool (F j)) ∧ Below w.heap.size w w'
/-- A boxed value behind a call that makes memory. -/
theorem box_step {w W W' : World} {k : Int} {s : ByteArray} {vn vl : Value} (h : Cel W w.heap.size 27 #[.int .u8 k, .string s, vn, vl] ∧ Below w.heap.size w W) (hb : Below W.heap.size W W') : Cel W' w.heap.size 27 #[.int .u8 k, .string s, vn, vl] ∧ Below w.heap.size w W' :=
  ⟨h.1.below hb h.1.lt, h.2.trans (hb.mono (Nat.le_of_lt h.1.lt))⟩
theorem box_cells {W : World} {b : Nat} {k : Int} {s : ByteArray} {vn vl : Value} (h : Cel W b 27 #[.int .u8 k, .string s, vn, vl]) : W.cell? ⟨b, 0, none⟩ = some (.int .u8 k) ∧ W.cell? ⟨b, 1, none⟩ = some (.string s) ∧ W.cell? ⟨b, 2, none⟩ = some vn ∧ W.cell? ⟨b, 3, none⟩ = some vl :=
  ⟨h.cell 0, h.cell 1, h.cell 2, h.cell 3⟩
set_option maxHeartbeats 2000000 in
theorem refCheck_any (Own : List UInt8 → List UInt8 × Int) (Val : List UInt8 → Bool) (hform : FormSays 99 (jform Own Val)) : ∀ (j : Jsn) (X : Nat → Prop) (w : World) (vn vl : Value), JV w X j vn vl → jbulk j ≤ 1000000 →
    Calls Tryz.prog 57 #[.agg #[.int .u8 j.kind, .string j.text, vn, vl]] w fun e w' => e = .returned (.int .i64 (jcheck Own Val j)) ∧ Below w.heap.size w w' := by
  intro j X w vn vl hV hbk
  obtain ⟨W0, hW0⟩ : ∃ W0, w.alloc (.cells #[.int .u8 j.kind, .string j.text, vn, vl] 27) = W0 := ⟨_, rfl⟩
  have hB0 : Below w.heap.size w W0 := by rw [← hW0]; exact (Below.refl _ _).alloc (Nat.le_refl _) _
  have hC0 : Cel W0 w.heap.size 27 #[.int .u8 j.kind, .string j.text, vn, vl] := by rw [← hW0]; exact Cel.fresh _ _ _
  have hcb := jcount_bulk j
  have hdb := jdeep_le_count j
  have hD := Lib.hid (fun (wr : World) (hB : Below w.heap.size w wr) => refDeep_any j X wr vn vl (hV.later hB) (by omega) (by omega))
  have hN := Lib.hid (fun (wr : World) (hB : Below w.heap.size w wr) => refCount_any j X wr vn vl (hV.later hB) (by omega))
  have hF := Lib.hid (fun (wr : World) (hB : Below w.heap.size w wr) => hform j X wr vn vl (hV.later hB) hbk)
  have hT := Lib.hid (fun (wr : World) (hB : Below w.heap.size w wr) => refTwice_any j X wr vn vl (hV.later hB) (by omega))
  obtain ⟨R, hR⟩ : ∃ R, jcheck Own Val j = R := ⟨_, rfl⟩
  rw [hR]
  unfold jcheck at hR
  obtain ⟨An, nn, cn, Al, nl, cl, rfl, rfl⟩ := hV.forms
  obtain ⟨k, s, n, l⟩ := j
  obtain ⟨d, hd⟩ : ∃ d, jdeep ⟨k, s, n, l⟩ = d := ⟨_, rfl⟩
  obtain ⟨m, hm⟩ : ∃ m, jcount ⟨k, s, n, l⟩ = m := ⟨_, rfl⟩
  obtain ⟨f, hf⟩ : ∃ f, jform Own Val ⟨k, s, n, l⟩ = f := ⟨_, rfl⟩
  obtain ⟨t, ht⟩ : ∃ t, jtwice ⟨k, s, n, l⟩ = t := ⟨_, rfl⟩
  rw [hd] at hD hR
  rw [hm] at hN hR
  rw [hf] at hF hR
  rw [ht] at hT hR
  clear hd hm hf ht hV hform hcb hdb
  dsimp only at hW0 hC0 hD hN hF hT ⊢
  replace hR := Lib.hid hR
  have h0 := Lib.hid (And.intro hC0 hB0)
  obtain ⟨p0, p1, p2, p3⟩ := box_cells hC0
  replace hW0 := Lib.hid hW0
  clear hC0 hB0 hbk
  go_enter Tryz.func57, Tryz.ntmps57
  go_wp2_with fail
  rw [hW0.out]
  clear hW0
  refine (hD.out _ h0.out.2).mono ?_
  rintro e w1 ⟨rfl, hb⟩
  have h1 := Lib.hid (box_step h0.out hb)
  clear p0 p1 p2 p3 h0 hb hD
  obtain ⟨p0, p1, p2, p3⟩ := box_cells h1.out.1
  by_cases c1 : 64 < d
  · have e1 : R = 61 := by rw [← hR.out, if_pos c1]
    subst e1
    go_wp2_with fail
    go_ret
    exact ⟨rfl, h1.out.2⟩
  replace hR := Lib.hid (by have := hR.out; rwa [if_neg c1] at this)
  go_wp2_with fail
  refine (hN.out _ h1.out.2).mono ?_
  rintro e w2 ⟨rfl, hb⟩
  have h2 := Lib.hid (box_step h1.out hb)
  clear p0 p1 p2 p3 h1 hb hN
  obtain ⟨p0, p1, p2, p3⟩ := box_cells h2.out.1
  by_cases c2 : 65536 < m
  · have e1 : R = 40 := by rw [← hR.out, if_pos c2]
    subst e1
    go_wp2_with fail
    go_ret
    exact ⟨rfl, h2.out.2⟩
  replace hR := Lib.hid (by have := hR.out; rwa [if_neg c2] at this)
  go_wp2_with fail
  refine (hF.out _ h2.out.2).mono ?_
  rintro e w3 ⟨rfl, hb⟩
  have h3 := Lib.hid (box_step h2.out hb)
  clear p0 p1 p2 p3 h2 hb hF
  obtain ⟨p0, p1, p2, p3⟩ := box_cells h3.out.1
  rcases f with _ | _
  · have e1 : R = 4 := by rw [← hR.out, if_pos rfl]
    subst e1
    go_wp2_with fail
    go_ret
    exact ⟨rfl, h3.out.2⟩
  replace hR := Lib.hid (by have := hR.out; rwa [if_neg (by decide)] at this)
  go_wp2_with fail
  refine (hT.out _ h3.out.2).mono ?_
  rintro e w4 ⟨rfl, hb⟩
  have h4 := Lib.hid (box_step h3.out hb)
  clear p0 p1 p2 p3 h3 hb hT
  rcases t with _ | _
  · have e1 : R = 0 := by rw [← hR.out, if_neg (by decide)]
    subst e1
    go_wp2_with fail
    go_ret
    exact ⟨rfl, h4.out.2⟩
  · have e1 : R = 6 := by rw [← hR.out, if_pos rfl]
    subst e1
    go_wp2_with fail
    go_ret
    exact ⟨rfl, h4.out.2⟩

theorem check_form {Own : List UInt8 → List UInt8 × Int} {Val : List UInt8 → Bool} {j : Jsn} (h : jcheck Own Val j = 0) : jform Own Val j = true := by
  unfold jcheck at h
  by_cases h1 : 64 < jdeep j
  · rw [if_pos h1] at h; cases h
  rw [if_neg h1] at h
  by_cases h2 : 65536 < jcount j
  · rw [if_pos h2] at h; cases h
  rw [if_neg h2] at h
  by_cases h3 : jform Own Val j = false
  · rw [if_pos h3] at h; cases h
  · simpa using h3
/-- The text of a value that may be (G): an Object has as many names as values. -/
def TextSays (f : Nat) (G : Jsn → Bool) (F : Jsn → List UInt8) : Prop := ∀ (j : Jsn) (X : Nat → Prop) (w : World) (vn vl : Value), JV w X j vn vl → jbulk j ≤ 1000000 → G j = true →
    Calls Tryz.prog f #[.agg #[.int .u8 j.kind, .string j.text, vn, vl]] w fun e w' => e = .returned (.string ⟨(F j).toArray⟩) ∧ Below w.heap.size w w'
end Go.Proofs.YthmojpcaagnfkaaGreatDoor
