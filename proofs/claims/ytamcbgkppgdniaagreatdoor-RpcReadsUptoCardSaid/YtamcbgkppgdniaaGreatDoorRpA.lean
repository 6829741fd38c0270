/-
  The walks of rpc's whole, id and params, and of the document's Whole and IsID.
-/
import Derived.Test.YtamcbgkppgdniaaGreatDoorJsVc
import Derived.Test.YtamcbgkppgdniaaGreatDoorRefG
import Derived.Test.YtamcbgkppgdniaaGreatDoorDecF
namespace Go.Proofs.YtamcbgkppgdniaaGreatDoor
open Go.RowKit

/-- The worth of a whole number; is a value an id; is it parameters? -/
def jwhole (j : Jsn) : Int × Bool := if j.kind = 4 then ((intL j.text.data.toList).1, decide ((intL j.text.data.toList).2 = 0)) else (0, false)
def jisid (j : Jsn) : Bool := (jwhole j).2 || decide (j.kind = 5)
def jispar (j : Jsn) : Bool := decide (j.kind = 6) || decide (j.kind = 7)
def IntSays (f : Nat) : Prop := ∀ (s : ByteArray) (w : World), s.size ≤ 1000000 →
    Calls Tryz.prog f #[.string s] w fun en w' => en = .returned (.tuple #[.int .i64 (intL s.data.toList).1, .int .i64 (intL s.data.toList).2]) ∧ Below w.heap.size w w'
def WholeEnd (j : Jsn) (w : World) (e : Ending) (w' : World) : Prop := e = .returned (.tuple #[.int .i64 (jwhole j).1, .bool (jwhole j).2]) ∧ Below w.heap.size w w'
set_option maxHeartbeats 1000000 in
theorem rpcWhole_any (j : Jsn) (X : Nat → Prop) (w : World) (vn vl : Value) (hV : JV w X j vn vl) (hbk : jbulk j ≤ 1000000) :
    Calls Tryz.prog 129 #[.agg #[.int .u8 j.kind, .string j.text, vn, vl]] w (WholeEnd j w) := by
  obtain ⟨An, nn, cn, Al, nl, cl, rfl, rfl⟩ := hV.forms
  obtain ⟨hsz, _⟩ := bulk_parts hbk
  obtain ⟨k, s, n, l⟩ := j
  dsimp only at hsz ⊢
  have hB0 := (Below.refl w.heap.size w).alloc (Nat.le_refl _) (.cells #[.int .u8 k, .string s, .slice An nn cn, .slice Al nl cl] 25)
  obtain ⟨R, hR⟩ : ∃ R, jwhole ⟨k, s, n, l⟩ = R := ⟨_, rfl⟩
  unfold WholeEnd
  rw [hR]
  unfold jwhole at hR
  dsimp only at hR
  have hc := Lib.hid (decInt_any s (w.alloc (.cells #[.int .u8 k, .string s, .slice An nn cn, .slice Al nl cl] 25)) (by omega))
  clear hV hbk hsz
  by_cases hk : k = 4
  · rw [if_pos hk] at hR
    subst hk
    subst hR
    obtain ⟨⟨u, e⟩, hu⟩ : ∃ x, intL s.data.toList = x := ⟨_, rfl⟩
    rw [hu] at hc ⊢
    clear hu
    dsimp only at hc ⊢
    replace hB0 := Lib.hid hB0
    go_enter Tryz.func129, Tryz.ntmps129
    go_wp2_with fail
    refine hc.out.mono ?_
    rintro en w1 ⟨rfl, hb⟩
    have hB1 := Lib.hid (hB0.out.trans (hb.mono (by simp)))
    clear hc hb hB0
    by_cases he : e = 0
    · subst he
      go_wp2_with fail
      refine bodyPost_ret (v := .tuple #[.int .i64 u, .bool true]) (by simp [results, Tryz.results129, go_sem]) rfl ⟨rfl, hB1.out⟩
    · have he2 : (e == 0) = false := beq_eq_false_iff_ne.2 he
      replace he := Lib.hid he
      go_wp2_with fail
      refine bodyPost_ret (v := .tuple #[.int .i64 u, .bool false]) (by simp [results, Tryz.results129, go_sem]) rfl ⟨by rw [decide_eq_false he.out], hB1.out⟩
  · rw [if_neg hk] at hR
    subst hR
    have hk2 : (k == 4) = false := beq_eq_false_iff_ne.2 hk
    have hk3 : (k != 4) = true := by simp [hk]
    replace hB0 := Lib.hid hB0
    clear hc hk
    go_enter Tryz.func129, Tryz.ntmps129
    go_wp2_with fail
    refine bodyPost_ret (v := .tuple #[.int .i64 0, .bool false]) (by simp [results, Tryz.results129, go_sem]) rfl ⟨rfl, hB0.out⟩
set_option maxHeartbeats 1000000 in
theorem refWholeJ_any (j : Jsn) (X : Nat → Prop) (w : World) (vn vl : Value) (hV : JV w X j vn vl) (hbk : jbulk j ≤ 1000000) :
    Calls Tryz.prog 80 #[.agg #[.int .u8 j.kind, .string j.text, vn, vl]] w (WholeEnd j w) := by
  obtain ⟨An, nn, cn, Al, nl, cl, rfl, rfl⟩ := hV.forms
  obtain ⟨hsz, _⟩ := bulk_parts hbk
  obtain ⟨k, s, n, l⟩ := j
  dsimp only at hsz ⊢
  have hB0 := (Below.refl w.heap.size w).alloc (Nat.le_refl _) (.cells #[.int .u8 k, .string s, .slice An nn cn, .slice Al nl cl] 25)
  obtain ⟨R, hR⟩ : ∃ R, jwhole ⟨k, s, n, l⟩ = R := ⟨_, rfl⟩
  unfold WholeEnd
  rw [hR]
  unfold jwhole at hR
  dsimp only at hR
  have hc := Lib.hid (refInt_any s (w.alloc (.cells #[.int .u8 k, .string s, .slice An nn cn, .slice Al nl cl] 25)) (by omega))
  clear hV hbk hsz
  by_cases hk : k = 4
  · rw [if_pos hk] at hR
    subst hk
    subst hR
    obtain ⟨⟨u, e⟩, hu⟩ : ∃ x, intL s.data.toList = x := ⟨_, rfl⟩
    rw [hu] at hc ⊢
    clear hu
    dsimp only at hc ⊢
    replace hB0 := Lib.hid hB0
    go_enter Tryz.func80, Tryz.ntmps80
    go_wp2_with fail
    refine hc.out.mono ?_
    rintro en w1 ⟨rfl, hb⟩
    have hB1 := Lib.hid (hB0.out.trans (hb.mono (by simp)))
    clear hc hb hB0
    by_cases he : e = 0
    · subst he
      go_wp2_with fail
      refine bodyPost_ret (v := .tuple #[.int .i64 u, .bool true]) (by simp [results, Tryz.results80, go_sem]) rfl ⟨rfl, hB1.out⟩
    · have he2 : (e == 0) = false := beq_eq_false_iff_ne.2 he
      replace he := Lib.hid he
      go_wp2_with fail
      refine bodyPost_ret (v := .tuple #[.int .i64 u, .bool false]) (by simp [results, Tryz.results80, go_sem]) rfl ⟨by rw [decide_eq_false he.out], hB1.out⟩
  · rw [if_neg hk] at hR
    subst hR
    have hk2 : (k == 4) = false := beq_eq_false_iff_ne.2 hk
    have hk3 : (k != 4) = true := by simp [hk]
    replace hB0 := Lib.hid hB0
    clear hc hk
    go_enter Tryz.func80, Tryz.ntmps80
    go_wp2_with fail
    refine bodyPost_ret (v := .tuple #[.int .i64 0, .bool false]) (by simp [results, Tryz.results80, go_sem]) rfl ⟨rfl, hB0.out⟩
set_option maxHeartbeats 1000000 in
theorem rpcId_any (j : Jsn) (X : Nat → Prop) (w : World) (vn vl : Value) (hV : JV w X j vn vl) (hbk : jbulk j ≤ 1000000) :
    Calls Tryz.prog 81 #[.agg #[.int .u8 j.kind, .string j.text, vn, vl]] w (ValEnd (jisid j) w) := by
  obtain ⟨W0, hW0⟩ : ∃ W0, w.alloc (.cells #[.int .u8 j.kind, .string j.text, vn, vl] 25) = W0 := ⟨_, rfl⟩
  have hB0 : Below w.heap.size w W0 := by rw [← hW0]; exact (Below.refl _ _).alloc (Nat.le_refl _) _
  have hC0 : Cel W0 w.heap.size 25 #[.int .u8 j.kind, .string j.text, vn, vl] := by rw [← hW0]; exact Cel.fresh _ _ _
  have hc := Lib.hid (rpcWhole_any j X W0 vn vl (hV.later hB0) hbk)
  obtain ⟨An, nn, cn, Al, nl, cl, rfl, rfl⟩ := hV.forms
  unfold WholeEnd at hc
  obtain ⟨R, hR⟩ : ∃ R, jisid j = R := ⟨_, rfl⟩
  rw [hR]
  unfold jisid at hR
  obtain ⟨⟨u, b⟩, hu⟩ : ∃ x, jwhole j = x := ⟨_, rfl⟩
  rw [hu] at hc hR
  clear hu hV hbk
  obtain ⟨k, s, n, l⟩ := j
  dsimp only at hW0 hC0 hc hR ⊢
  have h0 := Lib.hid (And.intro hC0 hB0)
  obtain ⟨p0, p1, p2, p3⟩ := box_cells hC0
  replace hW0 := Lib.hid hW0
  clear hC0 hB0
  go_enter Tryz.func81, Tryz.ntmps81
  go_wp2_with fail
  rw [hW0.out]
  clear hW0
  refine hc.out.mono ?_
  rintro en w1 ⟨rfl, hb⟩
  have h1 := Lib.hid (box_step h0.out hb)
  clear p0 p1 p2 p3 h0 hb hc
  obtain ⟨p0, p1, p2, p3⟩ := box_cells h1.out.1
  cases b
  · rw [Bool.false_or] at hR
    by_cases hk : k = 5
    · rw [decide_eq_true hk] at hR
      subst hk
      subst hR
      go_wp2_with fail
      go_ret
      exact ⟨rfl, h1.out.2⟩
    · rw [decide_eq_false hk] at hR
      subst hR
      have hk2 : (k == 5) = false := beq_eq_false_iff_ne.2 hk
      clear hk
      go_wp2_with fail
      go_ret
      exact ⟨rfl, h1.out.2⟩
  · rw [Bool.true_or] at hR
    subst hR
    go_wp2_with fail
    go_ret
    exact ⟨rfl, h1.out.2⟩
set_option maxHeartbeats 1000000 in
theorem refIsID_any (j : Jsn) (X : Nat → Prop) (w : World) (vn vl : Value) (hV : JV w X j vn vl) (hbk : jbulk j ≤ 1000000) :
    Calls Tryz.prog 79 #[.agg #[.int .u8 j.kind, .string j.text, vn, vl]] w (ValEnd (jisid j) w) := by
  obtain ⟨W0, hW0⟩ : ∃ W0, w.alloc (.cells #[.int .u8 j.kind, .string j.text, vn, vl] 25) = W0 := ⟨_, rfl⟩
  have hB0 : Below w.heap.size w W0 := by rw [← hW0]; exact (Below.refl _ _).alloc (Nat.le_refl _) _
  have hC0 : Cel W0 w.heap.size 25 #[.int .u8 j.kind, .string j.text, vn, vl] := by rw [← hW0]; exact Cel.fresh _ _ _
  have hc := Lib.hid (refWholeJ_any j X W0 vn vl (hV.later hB0) hbk)
  obtain ⟨An, nn, cn, Al, nl, cl, rfl, rfl⟩ := hV.forms
  unfold WholeEnd at hc
  obtain ⟨R, hR⟩ : ∃ R, jisid j = R := ⟨_, rfl⟩
  rw [hR]
  unfold jisid at hR
  obtain ⟨⟨u, b⟩, hu⟩ : ∃ x, jwhole j = x := ⟨_, rfl⟩
  rw [hu] at hc hR
  clear hu hV hbk
  obtain ⟨k, s, n, l⟩ := j
  dsimp only at hW0 hC0 hc hR ⊢
  have h0 := Lib.hid (And.intro hC0 hB0)
  obtain ⟨p0, p1, p2, p3⟩ := box_cells hC0
  replace hW0 := Lib.hid hW0
  clear hC0 hB0
  go_enter Tryz.func79, Tryz.ntmps79
  go_wp2_with fail
  rw [hW0.out]
  clear hW0
  refine hc.out.mono ?_
  rintro en w1 ⟨rfl, hb⟩
  have h1 := Lib.hid (box_step h0.out hb)
  clear p0 p1 p2 p3 h0 hb hc
  obtain ⟨p0, p1, p2, p3⟩ := box_cells h1.out.1
  cases b
  · rw [Bool.false_or] at hR
    by_cases hk : k = 5
    · rw [decide_eq_true hk] at hR
      subst hk
      subst hR
      go_wp2_with fail
      go_ret
      exact ⟨rfl, h1.out.2⟩
    · rw [decide_eq_false hk] at hR
      subst hR
      have hk2 : (k == 5) = false := beq_eq_false_iff_ne.2 hk
      clear hk
      go_wp2_with fail
      go_ret
      exact ⟨rfl, h1.out.2⟩
  · rw [Bool.true_or] at hR
    subst hR
    go_wp2_with fail
    go_ret
    exact ⟨rfl, h1.out.2⟩
set_option maxHeartbeats 1000000 in
theorem rpcParams_any (j : Jsn) (X : Nat → Prop) (w : World) (vn vl : Value) (hV : JV w X j vn vl) :
    Calls Tryz.prog 128 #[.agg #[.int .u8 j.kind, .string j.text, vn, vl]] w (ValEnd (jispar j) w) := by
  obtain ⟨An, nn, cn, Al, nl, cl, rfl, rfl⟩ := hV.forms
  obtain ⟨k, s, n, l⟩ := j
  have hB0 := Lib.hid ((Below.refl w.heap.size w).alloc (Nat.le_refl _) (.cells #[.int .u8 k, .string s, .slice An nn cn, .slice Al nl cl] 25))
  obtain ⟨R, hR⟩ : ∃ R, jispar ⟨k, s, n, l⟩ = R := ⟨_, rfl⟩
  rw [hR]
  unfold jispar at hR
  dsimp only at hR ⊢
  clear hV
  by_cases h6 : k = 6
  · rw [decide_eq_true h6] at hR
    subst h6
    subst hR
    go_enter Tryz.func128, Tryz.ntmps128
    go_wp2_with fail
    go_ret
    exact ⟨rfl, hB0.out⟩
  rw [decide_eq_false h6, Bool.false_or] at hR
  have g6 : (k == 6) = false := beq_eq_false_iff_ne.2 h6
  clear h6
  by_cases h7 : k = 7
  · rw [decide_eq_true h7] at hR
    subst h7
    subst hR
    go_enter Tryz.func128, Tryz.ntmps128
    go_wp2_with fail
    go_ret
    exact ⟨rfl, hB0.out⟩
  · rw [decide_eq_false h7] at hR
    subst hR
    have g7 : (k == 7) = false := beq_eq_false_iff_ne.2 h7
    clear h7
    go_enter Tryz.func128, Tryz.ntmps128
    go_wp2_with fail
    go_ret
    exact ⟨rfl, hB0.out⟩
end Go.Proofs.YtamcbgkppgdniaaGreatDoor
