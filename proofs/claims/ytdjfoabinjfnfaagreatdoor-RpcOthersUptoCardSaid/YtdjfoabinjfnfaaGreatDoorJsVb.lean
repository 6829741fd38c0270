/-
  The walk of json.form: may a value be, but for names that stand twice?
-/
import Derived.Test.YtdjfoabinjfnfaaGreatDoorM09
import Derived.Test.YtdjfoabinjfnfaaGreatDoorM01
namespace Go.Proofs.YtdjfoabinjfnfaaGreatDoor
open Go.RowKit
def FormSaysE (f : Nat) (F : Jsn → Bool) (j : Jsn) : Prop := ∀ (X : Nat → Prop) (w : World) (vn vl : Value), EnvU w → JV w X j vn vl → jbulk j ≤ 1000000 →
    Calls Tryz.prog f #[.agg #[.int .u8 j.kind, .string j.text, vn, vl]] w (ValEnd (F j) w)
set_option maxHeartbeats 1000000 in
theorem form2_any (F : Jsn → Bool) (x : Jsn) (ih : FormSaysE 78 F x) (X : Nat → Prop) (W : World) (vn vl : Value) (hE : EnvU W) (hbk : jbulk x ≤ 1000000) (hV : JV W X x vn vl) :
    Calls Tryz.prog 131 #[.agg #[.int .u8 x.kind, .string x.text, vn, vl]] W (ValEnd (!F x) W) := by
  obtain ⟨Ax, nx, cx, Ay, ny, cy, rfl, rfl⟩ := hV.forms
  have hB0 := (Below.refl W.heap.size W).alloc (Nat.le_refl _) (.cells #[.int .u8 x.kind, .string x.text, .slice Ax nx cx, .slice Ay ny cy] 25)
  have hcall := ih X _ _ _ (hE.below hB0) (hV.alloc (.cells #[.int .u8 x.kind, .string x.text, .slice Ax nx cx, .slice Ay ny cy] 25)) hbk
  clear ih hV hE
  obtain ⟨R, hR⟩ : ∃ R, F x = R := ⟨_, rfl⟩
  rw [hR] at hcall ⊢
  clear hR
  replace hcall := Lib.hid hcall
  replace hB0 := Lib.hid hB0
  go_enter Tryz.func131, Tryz.ntmps131
  go_wp2_with fail
  refine hcall.out.mono ?_
  rintro e w1 ⟨rfl, hB⟩
  have hB2 := hB0.out.trans (hB.mono (by simp))
  clear hcall hB hB0
  replace hB2 := Lib.hid hB2
  go_wp2_with fail
  go_ret
  exact ⟨rfl, hB2.out⟩
theorem all_any_not {α : Type} (l : List α) (F : α → Bool) : l.all F = !l.any (fun x => !F x) := by
  rw [List.not_any_eq_all_not]; simp
theorem jf_arr2 {Own Val s n l} : jform Own Val ⟨6, s, n, l⟩ = (decide (s = ⟨#[]⟩) && (decide (n.length = 0) && !l.any (fun x => !jform Own Val x))) := by
  rw [jform_eq, if_neg (by decide), if_neg (by decide), if_neg (by decide), if_pos rfl, empty_iff, ← all_any_not]
  cases n <;> simp
theorem jf_obj2 {Own Val s n l} : jform Own Val ⟨7, s, n, l⟩ = (decide (s = ⟨#[]⟩) && (decide (n.length = l.length) && (!n.any (fun b => !Val b.data.toList) && !l.any (fun x => !jform Own Val x)))) := by
  rw [jform_eq, if_neg (by decide), if_neg (by decide), if_neg (by decide), if_neg (by decide), if_pos rfl, empty_iff, ← all_any_not, ← all_any_not]
  simp only [Bool.and_assoc]
set_option maxRecDepth 20000 in
set_option maxHeartbeats 4000000 in
theorem jsnForm_any : ∀ (j : Jsn), FormSaysE 78 (jform ownL Lib.validD) j := by
  refine Jsn.ind fun k s n l ih X w vn vl hE hV hbk => ?_
  obtain ⟨hsz, hn, hl, hnb, hkids⟩ := bulk_parts hbk
  dsimp only at hl hkids hn hnb hsz
  have hnam := hV.names
  obtain ⟨A1, c1, rfl⟩ := hnam.len
  obtain ⟨A, c, zs, rfl, hz, h2, h3⟩ := hV.elems
  dsimp only at hnam ⊢
  have hlen : zs.length = l.length := by rw [← hz, List.length_map]
  rw [← hlen] at hl
  obtain ⟨W0, hW0⟩ : ∃ W0, w.alloc (.cells #[.int .u8 k, .string s, .slice A1 n.length c1, .slice A zs.length c] 25) = W0 := ⟨_, rfl⟩
  have hB0 : Below w.heap.size w W0 := by rw [← hW0]; exact (Below.refl _ _).alloc (Nat.le_refl _) _
  have hC0 : Cel W0 w.heap.size 25 #[.int .u8 k, .string s, .slice A1 n.length c1, .slice A zs.length c] := by rw [← hW0]; exact Cel.fresh _ _ _
  have hF2 := Lib.hid (fun (wr : World) (hB : Below w.heap.size w wr) => containsJ_any 131 #[] (fun x => !jform ownL Lib.validD x) entersF2 A c zs X wr (by omega)
      (fun z hz' => (h2 z hz').later hB) (fun hp => by
        obtain ⟨g, o, q1, q2, q3, q4⟩ := h3 hp
        exact ⟨g, o, q1, q2, Nat.lt_of_lt_of_le q3 hB.size, fun j z hz' i u hu => (hB.cell (p := ⟨g, o + j * 4 + i, none⟩) q3).trans (q4 j z hz' i u hu)⟩)
      (fun W x vn vl hx hB2 hV => by
        rw [hz] at hx
        exact form2_any _ x (ih x hx) X W vn vl (hE.below (hB.trans (hB2.mono hB.size))) (by have := hkids x hx; omega) hV))
  have hF1 := Lib.hid (fun (wr : World) (hB : Below w.heap.size w wr) => containsS_any 130 (fun b => !Lib.validD b.data.toList) entersF1 X _ n wr (by omega) (hnam.later hB)
      (fun W x hx hB2 => form1_any x W (hE.below (hB.trans (hB2.mono hB.size))) (by have := hnb x hx; omega)))
  have hO := Lib.hid (fun (wr : World) (hB : Below w.heap.size w wr) => decOwn_any s wr (hE.below hB).1 (by omega))
  have hU := Lib.hid (fun (wr : World) (hB : Below w.heap.size w wr) => utfValid_any s wr (hE.below hB) (by omega))
  obtain ⟨R, hR⟩ : ∃ R, jform ownL Lib.validD ⟨k, s, n, l⟩ = R := ⟨_, rfl⟩
  rw [hR]
  have hkd := hV.kind
  dsimp only at hkd
  obtain ⟨hk0, hk1⟩ := hkd
  clear hV h2 h3 hnam hkids hbk hE hnb ih
  replace hz := Lib.hid hz
  obtain ⟨p0, p1, p2, p3⟩ := box_cells hC0
  replace hW0 := Lib.hid hW0
  have h0 := Lib.hid (And.intro hC0 hB0)
  clear hC0 hB0
  by_cases hk : k = 1 ∨ k = 2 ∨ k = 3
  · rw [jf_plain hk, ← hlen] at hR
    clear hF1 hF2 hO hU hz hk0 hk1
    by_cases hs : s = ⟨#[]⟩
    · subst hs
      by_cases h00 : n.length + zs.length = 0
      · have hi : ((n.length : Int) + (zs.length : Int) == 0) = true := beq_iff_eq.2 (by omega)
        have hR2 : R = true := by rw [← hR, decide_eq_true h00]; rfl
        subst hR2
        clear hR hlen
        rcases hk with rfl | rfl | rfl
        all_goals
          go_enter Tryz.func78, Tryz.ntmps78
          go_wp2_with fail
          go_ret
          exact ⟨rfl, by rw [hW0.out]; exact h0.out.2⟩
      · have hi : ((n.length : Int) + (zs.length : Int) == 0) = false := beq_eq_false_iff_ne.2 (by omega)
        have hR2 : R = false := by rw [← hR, decide_eq_false h00, Bool.and_false]
        subst hR2
        clear hR hlen
        rcases hk with rfl | rfl | rfl
        all_goals
          go_enter Tryz.func78, Tryz.ntmps78
          go_wp2_with fail
          go_ret
          exact ⟨rfl, by rw [hW0.out]; exact h0.out.2⟩
    · have hi2 := nonempty_f hs
      have hR2 : R = false := by rw [← hR, decide_eq_false hs]; rfl
      subst hR2
      clear hR hlen
      rcases hk with rfl | rfl | rfl
      all_goals
        go_enter Tryz.func78, Tryz.ntmps78
        go_wp2_with fail
        go_ret
        exact ⟨rfl, by rw [hW0.out]; exact h0.out.2⟩
  have hse : decide (s = ⟨#[]⟩) = s.toList.isEmpty := by rw [jtl_eq, empty_iff]
  have hsl : decide (n.length + zs.length = 0) = ((n.length : Int) + (zs.length : Int) == 0) := by
    rw [Bool.eq_iff_iff]; simp only [decide_eq_true_eq, beq_iff_eq]; omega
  by_cases hk4 : k = 4
  · subst hk4
    rw [jf_num, ← hlen, hsl] at hR
    obtain ⟨⟨u, ee⟩, hu⟩ : ∃ x, ownL s.data.toList = x := ⟨_, rfl⟩
    rw [hu] at hR hO
    rw [own_pair] at hR
    clear hF1 hF2 hU hz hk0 hk1 hk hu hse hsl hlen
    obtain ⟨b0, hb0⟩ : ∃ b0, s.toList.isEmpty = b0 := ⟨_, rfl⟩
    obtain ⟨b1, hb1⟩ : ∃ b1, ((n.length : Int) + (zs.length : Int) == 0) = b1 := ⟨_, rfl⟩
    rw [hb1] at hR
    replace hR := Lib.hid hR
    rcases b0 with _ | _ <;> rcases b1 with _ | _
    all_goals
      go_enter Tryz.func78, Tryz.ntmps78
      go_wp2_with fail
      rw [hW0.out]
      clear hW0
      refine (hO.out _ h0.out.2).mono ?_
      rintro e w1 ⟨g, hg, rfl, hb⟩
      have h1 := Lib.hid (box_step h0.out hb)
      clear p0 p1 p2 p3 h0 hb hO
      obtain ⟨p0, p1, p2, p3⟩ := box_cells h1.out.1
      dsimp only at hg ⊢
      have hgu : (⟨u.toArray⟩ : ByteArray) = g := jstr_ext (by rw [hg])
      rw [hgu] at hR
      clear hg hgu
      by_cases he : ee = 0
      · subst he
        by_cases hgs : g = s
        · have hgt := jeq_t s
          have hR2 := hR.out
          rw [decide_eq_true hgs] at hR2
          simp only [decide_true, Bool.true_and] at hR2
          subst hR2
          subst hgs
          go_wp2_with fail
          go_ret
          exact ⟨rfl, h1.out.2⟩
        · have hgt := jeq_f hgs
          have hR2 := hR.out
          rw [decide_eq_false hgs] at hR2
          simp only [Bool.and_false, Bool.false_and] at hR2
          subst hR2
          clear hR hgs
          go_wp2_with fail
          go_ret
          exact ⟨rfl, h1.out.2⟩
      · have hR2 := hR.out
        rw [decide_eq_false he] at hR2
        simp only [Bool.false_and] at hR2
        subst hR2
        have hee : (ee == 0) = false := beq_eq_false_iff_ne.2 he
        clear hR
        go_wp2_with fail
        go_ret
        exact ⟨rfl, h1.out.2⟩
  by_cases hk5 : k = 5
  · subst hk5
    rw [jf_str, ← hlen, hsl] at hR
    obtain ⟨V, hV⟩ : ∃ V, Lib.validD s.data.toList = V := ⟨_, rfl⟩
    rw [hV] at hR hU
    clear hF1 hF2 hO hz hk0 hk1 hk hV hse hsl hlen
    obtain ⟨b0, hb0⟩ : ∃ b0, s.toList.isEmpty = b0 := ⟨_, rfl⟩
    obtain ⟨b1, hb1⟩ : ∃ b1, ((n.length : Int) + (zs.length : Int) == 0) = b1 := ⟨_, rfl⟩
    rw [hb1] at hR
    subst hR
    rcases b0 with _ | _ <;> rcases b1 with _ | _
    all_goals
      go_enter Tryz.func78, Tryz.ntmps78
      go_wp2_with fail
      rw [hW0.out]
      clear hW0
      refine (hU.out _ h0.out.2).mono ?_
      rintro e w1 ⟨rfl, hb⟩
      have h1 := Lib.hid (box_step h0.out hb)
      clear p0 p1 p2 p3 h0 hb hU
      obtain ⟨p0, p1, p2, p3⟩ := box_cells h1.out.1
      rcases V with _ | _
      all_goals
        go_wp2_with fail
        go_ret
        exact ⟨rfl, h1.out.2⟩
  by_cases hk6 : k = 6
  · subst hk6
    rw [jf_arr2, hse] at hR
    obtain ⟨L, hL⟩ : ∃ L, l.any (fun x => !jform ownL Lib.validD x) = L := ⟨_, rfl⟩
    rw [hz.out, hL] at hF2
    rw [hL] at hR
    clear hF1 hO hU hz hk0 hk1 hk hL hse hsl hlen
    obtain ⟨b0, hb0⟩ : ∃ b0, s.toList.isEmpty = b0 := ⟨_, rfl⟩
    obtain ⟨b1, hb1⟩ : ∃ b1, ((n.length : Int) + (zs.length : Int) == 0) = b1 := ⟨_, rfl⟩
    rw [hb0] at hR
    by_cases hn0 : n.length = 0
    · rw [decide_eq_true hn0, Bool.true_and] at hR
      have hni : ¬ 0 < (n.length : Int) := by omega
      clear hn0
      subst hR
      rcases b0 with _ | _ <;> rcases b1 with _ | _
      all_goals
        go_enter Tryz.func78, Tryz.ntmps78
        go_wp2_with fail
        rw [hW0.out]
        clear hW0
        first
          | (go_ret
             exact ⟨rfl, h0.out.2⟩)
          | (refine (hF2.out _ h0.out.2).mono ?_
             rintro e w1 ⟨rfl, hb⟩
             have h1 := Lib.hid (box_step h0.out hb)
             clear p0 p1 p2 p3 h0 hb hF2
             go_wp2_with fail
             go_ret
             exact ⟨rfl, h1.out.2⟩)
    · rw [decide_eq_false hn0, Bool.false_and, Bool.and_false] at hR
      have hni : 0 < (n.length : Int) := by omega
      subst hR
      rcases b0 with _ | _ <;> rcases b1 with _ | _
      all_goals
        go_enter Tryz.func78, Tryz.ntmps78
        go_wp2_with fail
        rw [hW0.out]
        go_ret
        exact ⟨rfl, h0.out.2⟩
  by_cases hk7 : k = 7
  · subst hk7
    rw [jf_obj2, hse, ← hlen] at hR
    obtain ⟨L, hL⟩ : ∃ L, l.any (fun x => !jform ownL Lib.validD x) = L := ⟨_, rfl⟩
    obtain ⟨M, hM⟩ : ∃ M, n.any (fun b => !Lib.validD b.data.toList) = M := ⟨_, rfl⟩
    rw [hz.out, hL] at hF2
    rw [hM] at hF1
    rw [hL, hM] at hR
    clear hO hU hz hk0 hk1 hk hL hM hse hsl hlen
    obtain ⟨b0, hb0⟩ : ∃ b0, s.toList.isEmpty = b0 := ⟨_, rfl⟩
    obtain ⟨b1, hb1⟩ : ∃ b1, ((n.length : Int) + (zs.length : Int) == 0) = b1 := ⟨_, rfl⟩
    rw [hb0] at hR
    by_cases hn0 : n.length = zs.length
    · rw [decide_eq_true hn0, Bool.true_and] at hR
      have hni : ((n.length : Int) == (zs.length : Int)) = true := beq_iff_eq.2 (by omega)
      have hni2 : ((n.length : Int) != (zs.length : Int)) = false := by simp [hn0]
      clear hn0
      subst hR
      rcases b0 with _ | _ <;> rcases b1 with _ | _
      all_goals
        go_enter Tryz.func78, Tryz.ntmps78
        go_wp2_with fail
        rw [hW0.out]
        clear hW0
        refine (hF1.out _ h0.out.2).mono ?_
        rintro e w1 ⟨rfl, hb⟩
        have h1 := Lib.hid (box_step h0.out hb)
        clear p0 p1 p2 p3 h0 hb hF1
        obtain ⟨p0, p1, p2, p3⟩ := box_cells h1.out.1
        rcases M with _ | _
        all_goals
          go_wp2_with fail
          first
            | (go_ret
               exact ⟨by simp, h1.out.2⟩)
            | (refine (hF2.out _ h1.out.2).mono ?_
               rintro e w2 ⟨rfl, hb⟩
               have h2 := Lib.hid (box_step h1.out hb)
               clear p0 p1 p2 p3 h1 hb hF2
               go_wp2_with fail
               go_ret
               exact ⟨by simp, h2.out.2⟩)
    · rw [decide_eq_false hn0, Bool.false_and, Bool.and_false] at hR
      have hni : ((n.length : Int) == (zs.length : Int)) = false := beq_eq_false_iff_ne.2 (by omega)
      have hni2 : ((n.length : Int) != (zs.length : Int)) = true := by simp; omega
      subst hR
      rcases b0 with _ | _ <;> rcases b1 with _ | _
      all_goals
        go_enter Tryz.func78, Tryz.ntmps78
        go_wp2_with fail
        rw [hW0.out]
        go_ret
        exact ⟨rfl, h0.out.2⟩
  · rw [jf_else hk hk4 hk5 hk6 hk7] at hR
    subst hR
    have g1 : (k == 1) = false := beq_eq_false_iff_ne.2 (fun e => hk (.inl e))
    have g2 : (k == 2) = false := beq_eq_false_iff_ne.2 (fun e => hk (.inr (.inl e)))
    have g3 : (k == 3) = false := beq_eq_false_iff_ne.2 (fun e => hk (.inr (.inr e)))
    have g4 : (k == 4) = false := beq_eq_false_iff_ne.2 hk4
    have g5 : (k == 5) = false := beq_eq_false_iff_ne.2 hk5
    have g6 : (k == 6) = false := beq_eq_false_iff_ne.2 hk6
    have g7 : (k == 7) = false := beq_eq_false_iff_ne.2 hk7
    clear hF1 hF2 hO hU hz hse hsl hk hk4 hk5 hk6 hk7 hlen
    obtain ⟨b0, hb0⟩ : ∃ b0, s.toList.isEmpty = b0 := ⟨_, rfl⟩
    obtain ⟨b1, hb1⟩ : ∃ b1, ((n.length : Int) + (zs.length : Int) == 0) = b1 := ⟨_, rfl⟩
    rcases b0 with _ | _ <;> rcases b1 with _ | _
    all_goals
      go_enter Tryz.func78, Tryz.ntmps78
      go_wp2_with fail
      go_ret
      exact ⟨rfl, by rw [hW0.out]; exact h0.out.2⟩
end Go.Proofs.YtdjfoabinjfnfaaGreatDoor
