/-
  The walk of json.form: may a value be, but for names that stand twice?
-/
import Derived.Test.YtlnkjacbdolhnaaGreatDoorM17
import Derived.Test.YtlnkjacbdolhnaaGreatDoorJsA
import Derived.Test.YtlnkjacbdolhnaaGreatDoorJsN
import Derived.Maps.OwnOps
import Derived.Maps.OwnSet
import Derived.Maps.Views
import Derived.Test.YtlnkjacbdolhnaaGreatDoorM20
namespace Go.Proofs.YtlnkjacbdolhnaaGreatDoor
open Go.RowKit

/-- A contract of a test over values, under the tables. -/
def FormSaysE (f : Nat) (F : Jsn → Bool) (j : Jsn) : Prop := ∀ (X : Nat → Prop) (w : World) (vn vl : Value), EnvU w → JV w X j vn vl → jbulk j ≤ 1000000 →
    Calls Tryz.prog f #[.agg #[.int .u8 j.kind, .string j.text, vn, vl]] w (ValEnd (F j) w)
set_option maxHeartbeats 1000000 in
theorem form2_any (F : Jsn → Bool) (x : Jsn) (ih : FormSaysE 44 F x) (X : Nat → Prop) (W : World) (vn vl : Value) (hE : EnvU W) (hbk : jbulk x ≤ 1000000) (hV : JV W X x vn vl) :
    Calls Tryz.prog 102 #[.agg #[.int .u8 x.kind, .string x.text, vn, vl]] W (ValEnd (!F x) W) := by
  obtain ⟨Ax, nx, cx, Ay, ny, cy, rfl, rfl⟩ := hV.forms
  have hB0 := (Below.refl W.heap.size W).alloc (Nat.le_refl _) (.cells #[.int .u8 x.kind, .string x.text, .slice Ax nx cx, .slice Ay ny cy] 25)
  have hcall := ih X _ _ _ (hE.below hB0) (hV.alloc (.cells #[.int .u8 x.kind, .string x.text, .slice Ax nx cx, .slice Ay ny cy] 25)) hbk
  clear ih hV hE
  obtain ⟨R, hR⟩ : ∃ R, F x = R := ⟨_, rfl⟩
  rw [hR] at hcall ⊢
  clear hR
  replace hcall := Lib.hid hcall
  replace hB0 := Lib.hid hB0
  go_enter Tryz.func102, Tryz.ntmps102
  go_wp2_with fail
  refine hcall.out.mono ?_
  rintro e w1 ⟨rfl, hB⟩
  have hB2 := hB0.out.trans (hB.mono (by simp))
  clear hcall hB hB0
  replace hB2 := Lib.hid hB2
  go_wp2_with fail
  go_ret
  exact ⟨rfl, hB2.out⟩
theorem all_any_not {α : Type} (l : List α) (F : α → Bool) : l.all F = !l.any (fun x => !F x) := by
  rw [List.not_any_eq_all_not]; simp
theorem jf_arr2 {Own Val s n l} : jform Own Val ⟨6, s, n, l⟩ = (decide (s = ⟨#[]⟩) && (decide (n.length = 0) && !l.any (fun x => !jform Own Val x))) := by
  rw [jform_eq, if_neg (by decide), if_neg (by decide), if_neg (by decide), if_pos rfl, empty_iff, ← all_any_not]
  cases n <;> simp
theorem jf_obj2 {Own Val s n l} : jform Own Val ⟨7, s, n, l⟩ = (decide (s = ⟨#[]⟩) && (decide (n.length = l.length) && (!n.any (fun b => !Val b.data.toList) && !l.any (fun x => !jform Own Val x)))) := by
  rw [jform_eq, if_neg (by decide), if_neg (by decide), if_neg (by decide), if_neg (by decide), if_pos rfl, empty_iff, ← all_any_not, ← all_any_not]
  simp only [Bool.and_assoc]

set_option maxRecDepth 20000 in
set_option maxHeartbeats 4000000 in
theorem jsnForm_any : ∀ (j : Jsn), FormSaysE 44 (jform ownL Lib.validD) j := by
  refine Jsn.ind fun k s n l ih X w vn vl hE hV hbk => ?_
  obtain ⟨hsz, hn, hl, hnb, hkids⟩ := bulk_parts hbk
  dsimp only at hl hkids hn hnb hsz
  have hnam := hV.names
  obtain ⟨A1, c1, rfl⟩ := hnam.len
  obtain ⟨A, c, zs, rfl, hz, h2, h3⟩ := hV.elems
  dsimp only at hnam ⊢
  have hlen : zs.length = l.length := by rw [← hz, List.length_map]
  rw [← hlen] at hl
  obtain ⟨W0, hW0⟩ : ∃ W0, w.alloc (.cells #[.int .u8 k, .string s, .slice A1 n.length c1, .slice A zs.length c] 25) = W0 := ⟨_, rfl⟩
  have hB0 : Below w.heap.size w W0 := by rw [← hW0]; exact (Below.refl _ _).alloc (Nat.le_refl _) _
  have hC0 : Cel W0 w.heap.size 25 #[.int .u8 k, .string s, .slice A1 n.length c1, .slice A zs.length c] := by rw [← hW0]; exact Cel.fresh _ _ _
  have hF2 := Lib.hid (fun (wr : World) (hB : Below w.heap.size w wr) => containsJ_any 102 #[] (fun x => !jform ownL Lib.validD x) entersF2 A c zs X wr (by omega)
      (fun z hz' => (h2 z hz').later hB) (fun hp => by
        obtain ⟨g, o, q1, q2, q3, q4⟩ := h3 hp
        exact ⟨g, o, q1, q2, Nat.lt_of_lt_of_le q3 hB.size, fun j z hz' i u hu => (hB.cell (p := ⟨g, o + j * 4 + i, none⟩) q3).trans (q4 j z hz' i u hu)⟩)
      (fun W x vn vl hx hB2 hV => by
        rw [hz] at hx
        exact form2_any _ x (ih x hx) X W vn vl (hE.below (hB.trans (hB2.mono hB.size))) (by have := hkids x hx; omega) hV))
  have hF1 := Lib.hid (fun (wr : World) (hB : Below w.heap.size w wr) => containsS_any 101 (fun b => !Lib.validD b.data.toList) entersF1 X _ n wr (by omega) (hnam.later hB)
      (fun W x hx hB2 => form1_any x W (hE.below (hB.trans (hB2.mono hB.size))) (by have := hnb x hx; omega)))
  have hO := Lib.hid (fun (wr : World) (hB : Below w.heap.size w wr) => decOwn_any s wr (hE.below hB).1 (by omega))
  have hU := Lib.hid (fun (wr : World) (hB : Below w.heap.size w wr) => utfValid_any s wr (hE.below hB) (by omega))
  obtain ⟨R, hR⟩ : ∃ R, jform ownL Lib.validD ⟨k, s, n, l⟩ = R := ⟨_, rfl⟩
  rw [hR]
  have hkd := hV.kind
  dsimp only at hkd
  obtain ⟨hk0, hk1⟩ := hkd
  clear hV h2 h3 hnam hkids hbk hE hnb ih
  replace hz := Lib.hid hz
  obtain ⟨p0, p1, p2, p3⟩ := box_cells hC0
  replace hW0 := Lib.hid hW0
  have h0 := Lib.hid (And.intro hC0 hB0)
  clear hC0 hB0
  by_cases hk : k = 1 ∨ k = 2 ∨ k = 3
  · rw [jf_plain hk, ← hlen] at hR
    clear hF1 hF2 hO hU hz hk0 hk1
    by_cases hs : s = ⟨#[]⟩
    · subst hs
      by_cases h00 : n.length + zs.length = 0
      · have hi : ((n.length : Int) + (zs.length : Int) == 0) = true := beq_iff_eq.2 (by omega)
        have hR2 : R = true := by rw [← hR, decide_eq_true h00]; rfl
        subst hR2
        clear hR hlen
        rcases hk with rfl | rfl | rfl
        all_goals
          go_enter Tryz.func44, Tryz.ntmps44
          go_wp2_with fail
          go_ret
          exact ⟨rfl, by rw [hW0.out]; exact h0.out.2⟩
      · have hi : ((n.length : Int) + (zs.length : Int) == 0) = false := beq_eq_false_iff_ne.2 (by omega)
        have hR2 : R = false := by rw [← hR, decide_eq_false h00, Bool.and_false]
        subst hR2
        clear hR hlen
        rcases hk with rfl | rfl | rfl
        all_goals
          go_enter Tryz.func44, Tryz.ntmps44
          go_wp2_with fail
          go_ret
          exact ⟨rfl, by rw [hW0.out]; exact h0.out.2⟩
    · have hi2 := nonempty_f hs
      have hR2 : R = false := by rw [← hR, decide_eq_false hs]; rfl
      subst hR2
      clear hR hlen
      rcases hk with rfl | rfl | rfl
      all_goals
        go_enter Tryz.func44, Tryz.ntmps44
        go_wp2_with fail
        go_ret
        exact ⟨rfl, by rw [hW0.out]; exact h0.out.2⟩
  have hse : decide (s = ⟨#[]⟩) = s.toList.isEmpty := by rw [jtl_eq, empty_iff]
  have hsl : decide (n.length + zs.length = 0) = ((n.length : Int) + (zs.length : Int) == 0) := by
    rw [Bool.eq_iff_iff]; simp only [decide_eq_true_eq, beq_iff_eq]; omega
  by_cases hk4 : k = 4
  · subst hk4
    rw [jf_num, ← hlen, hsl] at hR
    obtain ⟨⟨u, ee⟩, hu⟩ : ∃ x, ownL s.data.toList = x := ⟨_, rfl⟩
    rw [hu] at hR hO
    rw [own_pair] at hR
    clear hF1 hF2 hU hz hk0 hk1 hk hu hse hsl hlen
    obtain ⟨b0, hb0⟩ : ∃ b0, s.toList.isEmpty = b0 := ⟨_, rfl⟩
    obtain ⟨b1, hb1⟩ : ∃ b1, ((n.length : Int) + (zs.length : Int) == 0) = b1 := ⟨_, rfl⟩
    rw [hb1] at hR
    replace hR := Lib.hid hR
    rcases b0 with _ | _ <;> rcases b1 with _ | _
    all_goals
      go_enter Tryz.func44, Tryz.ntmps44
      go_wp2_with fail
      rw [hW0.out]
      clear hW0
      refine (hO.out _ h0.out.2).mono ?_
      rintro e w1 ⟨g, hg, rfl, hb⟩
      have h1 := Lib.hid (box_step h0.out hb)
      clear p0 p1 p2 p3 h0 hb hO
      obtain ⟨p0, p1, p2, p3⟩ := box_cells h1.out.1
      dsimp only at hg ⊢
      have hgu : (⟨u.toArray⟩ : ByteArray) = g := jstr_ext (by rw [hg])
      rw [hgu] at hR
      clear hg hgu
      by_cases he : ee = 0
      · subst he
        by_cases hgs : g = s
        · have hgt := jeq_t s
          have hR2 := hR.out
          rw [decide_eq_true hgs] at hR2
          simp only [decide_true, Bool.true_and] at hR2
          subst hR2
          subst hgs
          go_wp2_with fail
          go_ret
          exact ⟨rfl, h1.out.2⟩
        · have hgt := jeq_f hgs
          have hR2 := hR.out
          rw [decide_eq_false hgs] at hR2
          simp only [Bool.and_false, Bool.false_and] at hR2
          subst hR2
          clear hR hgs
          go_wp2_with fail
          go_ret
          exact ⟨rfl, h1.out.2⟩
      · have hR2 := hR.out
        rw [decide_eq_false he] at hR2
        simp only [Bool.false_and] at hR2
        subst hR2
        have hee : (ee == 0) = false := beq_eq_false_iff_ne.2 he
        clear hR
        go_wp2_with fail
        go_ret
        exact ⟨rfl, h1.out.2⟩
  by_cases hk5 : k = 5
  · subst hk5
    rw [jf_str, ← hlen, hsl] at hR
    obtain ⟨V, hV⟩ : ∃ V, Lib.validD s.data.toList = V := ⟨_, rfl⟩
    rw [hV] at hR hU
    clear hF1 hF2 hO hz hk0 hk1 hk hV hse hsl hlen
    obtain ⟨b0, hb0⟩ : ∃ b0, s.toList.isEmpty = b0 := ⟨_, rfl⟩
    obtain ⟨b1, hb1⟩ : ∃ b1, ((n.length : Int) + (zs.length : Int) == 0) = b1 := ⟨_, rfl⟩
    rw [hb1] at hR
    subst hR
    rcases b0 with _ | _ <;> rcases b1 with _ | _
    all_goals
      go_enter Tryz.func44, Tryz.ntmps44
      go_wp2_with fail
      rw [hW0.out]
      clear hW0
      refine (hU.out _ h0.out.2).mono ?_
      rintro e w1 ⟨rfl, hb⟩
      have h1 := Lib.hid (box_step h0.out hb)
      clear p0 p1 p2 p3 h0 hb hU
      obtain ⟨p0, p1, p2, p3⟩ := box_cells h1.out.1
      rcases V with _ | _
      all_goals
        go_wp2_with fail
        go_ret
        exact ⟨rfl, h1.out.2⟩
  by_cases hk6 : k = 6
  · subst hk6
    rw [jf_arr2, hse] at hR
    obtain ⟨L, hL⟩ : ∃ L, l.any (fun x => !jform ownL Lib.validD x) = L := ⟨_, rfl⟩
    rw [hz.out, hL] at hF2
    rw [hL] at hR
    clear hF1 hO hU hz hk0 hk1 hk hL hse hsl hlen
    obtain ⟨b0, hb0⟩ : ∃ b0, s.toList.isEmpty = b0 := ⟨_, rfl⟩
    obtain ⟨b1, hb1⟩ : ∃ b1, ((n.length : Int) + (zs.length : Int) == 0) = b1 := ⟨_, rfl⟩
    rw [hb0] at hR
    by_cases hn0 : n.length = 0
    · rw [decide_eq_true hn0, Bool.true_and] at hR
      have hni : ¬ 0 < (n.length : Int) := by omega
      clear hn0
      subst hR
      rcases b0 with _ | _ <;> rcases b1 with _ | _
      all_goals
        go_enter Tryz.func44, Tryz.ntmps44
        go_wp2_with fail
        rw [hW0.out]
        clear hW0
        first
          | (go_ret
             exact ⟨rfl, h0.out.2⟩)
          | (refine (hF2.out _ h0.out.2).mono ?_
             rintro e w1 ⟨rfl, hb⟩
             have h1 := Lib.hid (box_step h0.out hb)
             clear p0 p1 p2 p3 h0 hb hF2
             go_wp2_with fail
             go_ret
             exact ⟨rfl, h1.out.2⟩)
    · rw [decide_eq_false hn0, Bool.false_and, Bool.and_false] at hR
      have hni : 0 < (n.length : Int) := by omega
      subst hR
      rcases b0 with _ | _ <;> rcases b1 with _ | _
      all_goals
        go_enter Tryz.func44, Tryz.ntmps44
        go_wp2_with fail
        rw [hW0.out]
        go_ret
        exact ⟨rfl, h0.out.2⟩
  by_cases hk7 : k = 7
  · subst hk7
    rw [jf_obj2, hse, ← hlen] at hR
    obtain ⟨L, hL⟩ : ∃ L, l.any (fun x => !jform ownL Lib.validD x) = L := ⟨_, rfl⟩
    obtain ⟨M, hM⟩ : ∃ M, n.any (fun b => !Lib.validD b.data.toList) = M := ⟨_, rfl⟩
    rw [hz.out, hL] at hF2
    rw [hM] at hF1
    rw [hL, hM] at hR
    clear hO hU hz hk0 hk1 hk hL hM hse hsl hlen
    obtain ⟨b0, hb0⟩ : ∃ b0, s.toList.isEmpty = b0 := ⟨_, rfl⟩
    obtain ⟨b1, hb1⟩ : ∃ b1, ((n.length : Int) + (zs.length : Int) == 0) = b1 := ⟨_, rfl⟩
    rw [hb0] at hR
    by_cases hn0 : n.length = zs.length
    · rw [decide_eq_true hn0, Bool.true_and] at hR
      have hni : ((n.length : Int) == (zs.length : Int)) = true := beq_iff_eq.2 (by omega)
      have hni2 : ((n.length : Int) != (zs.length : Int)) = false := by simp [hn0]
      clear hn0
      subst hR
      rcases b0 with _ | _ <;> rcases b1 with _ | _
      all_goals
        go_enter Tryz.func44, Tryz.ntmps44
        go_wp2_with fail
        rw [hW0.out]
        clear hW0
        refine (hF1.out _ h0.out.2).mono ?_
        rintro e w1 ⟨rfl, hb⟩
        have h1 := Lib.hid (box_step h0.out hb)
        clear p0 p1 p2 p3 h0 hb hF1
        obtain ⟨p0, p1, p2, p3⟩ := box_cells h1.out.1
        rcases M with _ | _
        all_goals
          go_wp2_with fail
          first
            | (go_ret
               exact ⟨by simp, h1.out.2⟩)
            | (refine (hF2.out _ h1.out.2).mono ?_
               rintro e w2 ⟨rfl, hb⟩
               have h2 := Lib.hid (box_step h1.out hb)
               clear p0 p1 p2 p3 h1 hb hF2
               go_wp2_with fail
               go_ret
               exact ⟨by simp, h2.out.2⟩)
    · rw [decide_eq_false hn0, Bool.false_and, Bool.and_false] at hR
      have hni : ((n.length : Int) == (zs.length : Int)) = false := beq_eq_false_iff_ne.2 (by omega)
      have hni2 : ((n.length : Int) != (zs.length : Int)) = true := by simp; omega
      subst hR
      rcases b0 with _ | _ <;> rcases b1 with _ | _
      all_goals
        go_enter Tryz.func44, Tryz.ntmps44
        go_wp2_with fail
        rw [hW0.out]
        go_ret
        exact ⟨rfl, h0.out.2⟩
  · rw [jf_else hk hk4 hk5 hk6 hk7] at hR
    subst hR
    have g1 : (k == 1) = false := beq_eq_false_iff_ne.2 (fun e => hk (.inl e))
    have g2 : (k == 2) = false := beq_eq_false_iff_ne.2 (fun e => hk (.inr (.inl e)))
    have g3 : (k == 3) = false := beq_eq_false_iff_ne.2 (fun e => hk (.inr (.inr e)))
    have g4 : (k == 4) = false := beq_eq_false_iff_ne.2 hk4
    have g5 : (k == 5) = false := beq_eq_false_iff_ne.2 hk5
    have g6 : (k == 6) = false := beq_eq_false_iff_ne.2 hk6
    have g7 : (k == 7) = false := beq_eq_false_iff_ne.2 hk7
    clear hF1 hF2 hO hU hz hse hsl hk hk4 hk5 hk6 hk7 hlen
    obtain ⟨b0, hb0⟩ : ∃ b0, s.toList.isEmpty = b0 := ⟨_, rfl⟩
    obtain ⟨b1, hb1⟩ : ∃ b1, ((n.length : Int) + (zs.length : Int) == 0) = b1 := ⟨_, rfl⟩
    rcases b0 with _ | _ <;> rcases b1 with _ | _
    all_goals
      go_enter Tryz.func44, Tryz.ntmps44
      go_wp2_with fail
      go_ret
      exact ⟨rfl, by rw [hW0.out]; exact h0.out.2⟩
end Go.Proofs.YtlnkjacbdolhnaaGreatDoor


/-
  The walk of json.twice (a map that the call makes), and of json.Check.
-/
namespace Go.Proofs.YtlnkjacbdolhnaaGreatDoor
open Go.RowKit Go.WideMaps Go.Maps

theorem lawS : Keyed Tryz.prog 9 := string_keyed Tryz.underlying9
theorem zeroI (w : World) : (zeroValue 3).run Tryz.prog w = .ok (.int .i64 0) w := by kernel_rfl
def hasB (L : List ByteArray) (x : ByteArray) : Bool := L.any fun y => decide (y = x)
theorem hasB_iff (L : List ByteArray) (x : ByteArray) : hasB L x = true ↔ x ∈ L := by simp [hasB]
/-- What the map holds when the first q names have been counted, each once. -/
def Seen (D : DataW Unit) (n : List ByteArray) (q : Nat) : Prop :=
  ∀ x : ByteArray, D.atKey (.string x.data.toList) (.lit (.int .i64 0)) = .lit (.int .i64 (if hasB (n.take q) x = true then 1 else 0))
theorem key_lit (x : ByteArray) : WideAt.IsKeyLit (.string x.data.toList) := by trivial
theorem Seen.step {D : DataW Unit} {n : List ByteArray} {q : Nat} {S : ByteArray} (h : Seen D n q) (hD : IsMap D) (hS : n[q]? = some S) : Seen (D.put (.string S.data.toList) (.lit (.int .i64 1))) n (q + 1) := fun x => by
  have h1 : hasB (n.take (q + 1)) x = (hasB (n.take q) x || decide (S = x)) := by
    unfold hasB; rw [List.take_add_one, hS]; simp
  rw [h1]
  by_cases e : x = S
  · subst e
    rw [atKey_put_same hD (key_lit x)]; simp
  · rw [atKey_put_other (fun he => e (jstr_ext (by injection he)))]
    rw [h x, decide_eq_false (fun he => e he.symm), Bool.or_false]
theorem lit_inj {a b : Int} (h : (DataW.lit (.int .i64 a) : DataW Unit) = .lit (.int .i64 b)) : a = b := by injection h with h; injection h
theorem noDup_iff {n : List ByteArray} {q : Nat} {S : ByteArray} (hm : S ∉ n.take q) : NoneIs n q q S := fun i x hi e he => hm (by
  subst he
  exact List.mem_of_getElem? (i := i) (by rw [List.getElem?_take, if_pos hi]; exact e))
theorem dup_mem {n : List ByteArray} {q : Nat} {S : ByteArray} (hS : n[q]? = some S) (hm : S ∈ n.take q) : dupB n = true := by
  obtain ⟨i, hi⟩ := List.getElem?_of_mem hm
  rw [List.getElem?_take] at hi
  split at hi
  · exact dup_true n i q S (by assumption) hi hS
  · cases hi

set_option maxRecDepth 100000 in
set_option maxHeartbeats 4000000 in
theorem jsnTwice_any : ∀ (j : Jsn) (X : Nat → Prop) (w : World) (vn vl : Value), JV w X j vn vl → jbulk j ≤ 1000000 →
    Calls Tryz.prog 45 #[.agg #[.int .u8 j.kind, .string j.text, vn, vl]] w (ValEnd (jtwice j) w) := by
  refine Jsn.ind fun k s n l ih X w vn vl hV hbk => ?_
  obtain ⟨_, hn, hl, hnb, hkids⟩ := bulk_parts hbk
  dsimp only at hl hkids hn hnb
  have hnam := hV.names
  obtain ⟨A1, c1, rfl⟩ := hnam.len
  obtain ⟨A, c, zs, rfl, hz, h2, h3⟩ := hV.elems
  dsimp only at hnam ⊢
  have hlen : zs.length = l.length := by rw [← hz, List.length_map]
  rw [← hlen] at hl
  obtain ⟨W0, hW0⟩ : ∃ W0, w.alloc (.cells #[.int .u8 k, .string s, .slice A1 n.length c1, .slice A zs.length c] 25) = W0 := ⟨_, rfl⟩
  have hB0 : Below w.heap.size w W0 := by rw [← hW0]; exact (Below.refl _ _).alloc (Nat.le_refl _) _
  have hC0 : Cel W0 w.heap.size 25 #[.int .u8 k, .string s, .slice A1 n.length c1, .slice A zs.length c] := by rw [← hW0]; exact Cel.fresh _ _ _
  have hs0 : W0.heap.size = w.heap.size + 1 := by rw [← hW0]; simp
  have hat := Lib.hid (fun (wr : World) (hB : Below w.heap.size w wr) (i : Nat) (hi : i < n.length) => hnam.at hB hi)
  have hF := Lib.hid (fun (wr : World) (hB : Below w.heap.size w wr) => containsJ_any 45 #[] jtwice entersTw A c zs X wr (by omega)
      (fun z hz' => (h2 z hz').later hB) (fun hp => by
        obtain ⟨g, o, q1, q2, q3, q4⟩ := h3 hp
        exact ⟨g, o, q1, q2, Nat.lt_of_lt_of_le q3 hB.size, fun j z hz' i u hu => (hB.cell (p := ⟨g, o + j * 4 + i, none⟩) q3).trans (q4 j z hz' i u hu)⟩)
      (fun W x vn vl hx hB2 hV => by
        rw [hz] at hx
        exact ih x hx X W vn vl hV (by have := hkids x hx; omega)))
  rw [hz] at hF
  obtain ⟨R, hR⟩ : ∃ R, jtwice ⟨k, s, n, l⟩ = R := ⟨_, rfl⟩
  rw [hR]
  clear hV h2 h3 hnam hkids hlen hbk ih hz
  replace hnb := Lib.hid hnb
  replace hR := Lib.hid hR
  have hmm := @run_makeMap Tryz.prog
  obtain ⟨p0, p1, p2, p3⟩ := box_cells hC0
  replace hC0 := Lib.hid hC0
  replace hB0 := Lib.hid hB0
  replace hW0 := Lib.hid hW0
  go_enter Tryz.func45, Tryz.ntmps45
  go_wp2_with fail
  go_loopw [10] (fun i wr => ∃ (q : Nat) (D : DataW Unit), q ≤ n.length ∧ i = .int .i64 q ∧ NoDup n q ∧ Seen D n q ∧ wr.ownsMap Tryz.prog 9 (plainElem Tryz.prog 3) (w.heap.size + 1) q D ∧ Cel wr w.heap.size 25 #[.int .u8 k, .string s, .slice A1 n.length c1, .slice A zs.length c] ∧ Below w.heap.size w wr) (fun i _ => n.length - (intOf i).toNat)
  case atStart =>
    have hom := World.ownsMap_made (H := Unit) W0 Tryz.prog 9 (plainElem Tryz.prog 3)
    rw [hs0] at hom
    rw [hW0.out]
    exact ⟨0, .map [], Nat.zero_le _, rfl, fun _ _ _ _ _ h => absurd h (Nat.not_lt_zero _), fun x => rfl, hom, hC0.out.alloc _, hB0.out.alloc (by omega) _⟩
  case round =>
    clear hmm p0 p1 p2 p3
    obtain ⟨q, D, hq, rfl, hnd, hsn, hown, hC, hB⟩ := hrel
    by_cases hlt : q < n.length
    · obtain ⟨g, o, rfl, y1⟩ := hat.out wr hB q hlt
      obtain ⟨S, hS⟩ : ∃ S, n[q] = S := ⟨_, rfl⟩
      have hSq : n[q]? = some S := by rw [List.getElem?_eq_getElem hlt, hS]
      rw [hS] at y1
      have hkey : keyOf Tryz.prog 9 (.string S) = some (.string S.data.toList) := keyOf_string_mk Tryz.underlying9 (by have := hnb.out S (List.mem_of_getElem? hSq); unfold maxLen; omega)
      have hq0 : (0 : Int) ≤ (q : Int) := by omega
      have hq1 : (q : Int) < (n.length : Int) := by omega
      have hD := hown.isMap
      have hsz := hB.size
      have hlw := hC.lt
      have hat1 := hsn S
      clear hS
      by_cases hm : hasB (n.take q) S = true
      · rw [if_pos hm] at hat1
        have hRt : R = true := by rw [← hR.out]; exact jtw_names (dup_mem hSq ((hasB_iff _ _).1 hm))
        subst hRt
        have hg1 := Lib.hid (fun c (h : D.atKey (.string S.data.toList) (.lit (.int .i64 0)) = .lit (.int .i64 c)) => lit_inj (h.symm.trans hat1))
        have hg2 := Lib.hid (fun c (h : (D.put (.string S.data.toList) (.lit (.int .i64 2))).atKey (.string S.data.toList) (.lit (.int .i64 0)) = .lit (.int .i64 c)) => lit_inj (h.symm.trans (atKey_put_same hD (key_lit S) _ _)))
        clear hsn hnd hat1 hSq hm hD hat hF hR hnb
        replace hC := Lib.hid hC
        replace hB := Lib.hid hB
        go_upto_region 6 with (first | (at_lookup; refine wpList_lookup_own_int _ rfl _ _ 140 rfl 9 3 .i64 lawS Tryz.underlying140 Tryz.underlying3 (zeroI _) (w.heap.size + 1) _ _ rfl hown _ _ rfl hkey ?_; intro c hatc hwc; obtain rfl := hg1.out c hatc; clear hatc hwc) | (at_mapUpdate; refine wpList_mapUpdate_own _ rfl _ _ _ 140 rfl 9 3 lawS Tryz.underlying140 _ (w.heap.size + 1) _ _ rfl hown (by unfold maxLen; omega) _ _ _ rfl rfl hkey _ [] (plainElem_int Tryz.underlying3 (WalkArith.wf_i64 (by omega))) ?_; intro w1 hown1 hgrow1; replace hown := hown1; clear hown1))
        go_wp2_with (at_lookup; refine wpList_lookup_own_int _ rfl _ _ 140 rfl 9 3 .i64 lawS Tryz.underlying140 Tryz.underlying3 (zeroI _) (w.heap.size + 1) _ _ rfl hown _ _ rfl hkey ?_; intro c hatc hwc; obtain rfl := hg2.out c hatc; clear hatc hwc)
        have hC1 : Cel w1 w.heap.size 25 #[.int .u8 k, .string s, .slice (some ⟨g, o, none⟩) n.length c1, .slice A zs.length c] := (hgrow1.block _ hlw (by simp)).trans hC.out
        have hB1 := hB.out.grown hgrow1 hsz (fun j hj => by cases hj; omega)
        clear hC hB hgrow1 hown
        replace hB1 := Lib.hid hB1
        go_wp2_with fail
        go_ret
        exact ⟨rfl, hB1.out⟩
      · rw [if_neg hm] at hat1
        have hmem : S ∉ n.take q := fun h => hm ((hasB_iff _ _).2 h)
        have hnd2 := NoDup.step hnd hSq (noDup_iff hmem)
        have hsn2 := hsn.step hD hSq
        have hg1 := Lib.hid (fun c (h : D.atKey (.string S.data.toList) (.lit (.int .i64 0)) = .lit (.int .i64 c)) => lit_inj (h.symm.trans hat1))
        have hg2 := Lib.hid (fun c (h : (D.put (.string S.data.toList) (.lit (.int .i64 1))).atKey (.string S.data.toList) (.lit (.int .i64 0)) = .lit (.int .i64 c)) => lit_inj (h.symm.trans (atKey_put_same hD (key_lit S) _ _)))
        clear hsn hnd hat1 hSq hm hD hmem
        replace hnd2 := Lib.hid hnd2
        replace hsn2 := Lib.hid hsn2
        replace hC := Lib.hid hC
        replace hB := Lib.hid hB
        go_upto_region 6 with (first | (at_lookup; refine wpList_lookup_own_int _ rfl _ _ 140 rfl 9 3 .i64 lawS Tryz.underlying140 Tryz.underlying3 (zeroI _) (w.heap.size + 1) _ _ rfl hown _ _ rfl hkey ?_; intro c hatc hwc; obtain rfl := hg1.out c hatc; clear hatc hwc) | (at_mapUpdate; refine wpList_mapUpdate_own _ rfl _ _ _ 140 rfl 9 3 lawS Tryz.underlying140 _ (w.heap.size + 1) _ _ rfl hown (by unfold maxLen; omega) _ _ _ rfl rfl hkey _ [] (plainElem_int Tryz.underlying3 (WalkArith.wf_i64 (by omega))) ?_; intro w1 hown1 hgrow1; replace hown := hown1; clear hown1))
        go_wp2_with (at_lookup; refine wpList_lookup_own_int _ rfl _ _ 140 rfl 9 3 .i64 lawS Tryz.underlying140 Tryz.underlying3 (zeroI _) (w.heap.size + 1) _ _ rfl hown _ _ rfl hkey ?_; intro c hatc hwc; obtain rfl := hg2.out c hatc; clear hatc hwc)
        have hC1 : Cel w1 w.heap.size 25 #[.int .u8 k, .string s, .slice (some ⟨g, o, none⟩) n.length c1, .slice A zs.length c] := (hgrow1.block _ hlw (by simp)).trans hC.out
        have hB1 := hB.out.grown hgrow1 hsz (fun j hj => by cases hj; omega)
        clear hC hB hgrow1
        replace hB1 := Lib.hid hB1
        replace hC1 := Lib.hid hC1
        replace hown := Lib.hid hown
        go_wp2_with fail
        go_roundw
        case rel => exact ⟨q + 1, _, by omega, by go_num, hnd2.out, hsn2.out, hown.out, hC1.out, hB1.out⟩
        case measure => simp [intOf]; omega
    · have hqe : q = n.length := by omega
      have hnd2 : NoDup n n.length := by rw [← hqe]; exact hnd
      have hRl : l.any jtwice = R := by rw [← hR.out, jtw_list (dup_false n hnd2)]
      rw [hRl] at hF
      obtain ⟨p0, p1, p2, p3⟩ := box_cells hC
      clear hRl hnd2 hnd hsn hat hR hnb hqe
      replace hB := Lib.hid hB
      replace hown := Lib.hid hown
      replace hC := Lib.hid hC
      go_wp2_with fail
      refine (hF.out _ hB.out).mono ?_
      rintro e w1 ⟨rfl, hb⟩
      have hB1 := hB.out.trans (hb.mono hB.out.size)
      clear hb hF hB hown hC p0 p1 p2 p3
      replace hB1 := Lib.hid hB1
      go_wp2_with fail
      go_ret
      exact ⟨rfl, hB1.out⟩

set_option maxHeartbeats 2000000 in
theorem jsnCheck_any (j : Jsn) (X : Nat → Prop) (w : World) (vn vl : Value) (hE : EnvU w) (hV : JV w X j vn vl) (hbk : jbulk j ≤ 1000000) :
    Calls Tryz.prog 22 #[.agg #[.int .u8 j.kind, .string j.text, vn, vl]] w fun e w' => e = .returned (.int .i64 (jcheck ownL Lib.validD j)) ∧ Below w.heap.size w w' := by
  obtain ⟨W0, hW0⟩ : ∃ W0, w.alloc (.cells #[.int .u8 j.kind, .string j.text, vn, vl] 25) = W0 := ⟨_, rfl⟩
  have hB0 : Below w.heap.size w W0 := by rw [← hW0]; exact (Below.refl _ _).alloc (Nat.le_refl _) _
  have hC0 : Cel W0 w.heap.size 25 #[.int .u8 j.kind, .string j.text, vn, vl] := by rw [← hW0]; exact Cel.fresh _ _ _
  have hcb := jcount_bulk j
  have hdd : decide (65 < 1 + jdeep j) = decide (64 < jdeep j) := by rw [Bool.eq_iff_iff]; simp only [decide_eq_true_eq]; omega
  have hD : ∀ (wr : World) (hB : Below w.heap.size w wr), Calls Tryz.prog 42 #[.agg #[.int .u8 j.kind, .string j.text, vn, vl], .int .i64 1] wr fun e w' => e = .returned (.bool (decide (64 < jdeep j))) ∧ Below wr.heap.size wr w' := fun wr hB => by
    have := jsnDeep_any j X wr vn vl 1 (hV.later hB) (by omega) (by omega)
    rw [hdd] at this
    exact this
  have hN := Lib.hid (fun (wr : World) (hB : Below w.heap.size w wr) => jsnCount_any j X wr vn vl (hV.later hB) (by omega))
  have hF := Lib.hid (fun (wr : World) (hB : Below w.heap.size w wr) => jsnForm_any j X wr vn vl (hE.below hB) (hV.later hB) hbk)
  have hT := Lib.hid (fun (wr : World) (hB : Below w.heap.size w wr) => jsnTwice_any j X wr vn vl (hV.later hB) hbk)
  obtain ⟨R, hR⟩ : ∃ R, jcheck ownL Lib.validD j = R := ⟨_, rfl⟩
  rw [hR]
  unfold jcheck at hR
  obtain ⟨An, nn, cn, Al, nl, cl, rfl, rfl⟩ := hV.forms
  obtain ⟨k, s, n, l⟩ := j
  obtain ⟨d, hd⟩ : ∃ d, jdeep ⟨k, s, n, l⟩ = d := ⟨_, rfl⟩
  obtain ⟨m, hm⟩ : ∃ m, jcount ⟨k, s, n, l⟩ = m := ⟨_, rfl⟩
  obtain ⟨f, hf⟩ : ∃ f, jform ownL Lib.validD ⟨k, s, n, l⟩ = f := ⟨_, rfl⟩
  obtain ⟨t, ht⟩ : ∃ t, jtwice ⟨k, s, n, l⟩ = t := ⟨_, rfl⟩
  simp only [hd] at hD hR
  rw [hm] at hN hR
  rw [hf] at hF hR
  rw [ht] at hT hR
  clear hdd hd hm hf ht hV hE hcb
  dsimp only at hW0 hC0 hD hN hF hT ⊢
  replace hD := Lib.hid hD
  replace hR := Lib.hid hR
  have h0 := Lib.hid (And.intro hC0 hB0)
  obtain ⟨p0, p1, p2, p3⟩ := box_cells hC0
  replace hW0 := Lib.hid hW0
  clear hC0 hB0 hbk
  go_enter Tryz.func22, Tryz.ntmps22
  go_wp2_with fail
  rw [hW0.out]
  clear hW0
  refine (hD.out _ h0.out.2).mono ?_
  rintro e w1 ⟨rfl, hb⟩
  have h1 := Lib.hid (box_step h0.out hb)
  clear p0 p1 p2 p3 h0 hb hD
  obtain ⟨p0, p1, p2, p3⟩ := box_cells h1.out.1
  by_cases c1 : 64 < d
  · have e1 : R = 61 := by rw [← hR.out, if_pos c1]
    subst e1
    rw [decide_eq_true c1]
    clear c1
    go_wp2_with fail
    go_ret
    exact ⟨rfl, h1.out.2⟩
  replace hR := Lib.hid (by have := hR.out; rwa [if_neg c1] at this)
  rw [decide_eq_false c1]
  clear c1
  go_wp2_with fail
  refine (hN.out _ h1.out.2).mono ?_
  rintro e w2 ⟨m2, rfl, hm2, hm3, hm4, hb⟩
  have h2 := Lib.hid (box_step h1.out hb)
  clear p0 p1 p2 p3 h1 hb hN
  obtain ⟨p0, p1, p2, p3⟩ := box_cells h2.out.1
  by_cases c2 : 65536 < m
  · have e1 : R = 40 := by rw [← hR.out, if_pos c2]
    have c3 : 65536 < (m2 : Int) := by rcases hm2 with h | h <;> omega
    subst e1
    clear hm2 hm3 hm4 c2
    go_wp2_with fail
    go_ret
    exact ⟨rfl, h2.out.2⟩
  replace hR := Lib.hid (by have := hR.out; rwa [if_neg c2] at this)
  have c3 : ¬ 65536 < (m2 : Int) := by omega
  clear hm2 hm3 hm4 c2
  go_wp2_with fail
  refine (hF.out _ h2.out.2).mono ?_
  rintro e w3 ⟨rfl, hb⟩
  have h3 := Lib.hid (box_step h2.out hb)
  clear p0 p1 p2 p3 h2 hb hF
  obtain ⟨p0, p1, p2, p3⟩ := box_cells h3.out.1
  rcases f with _ | _
  · have e1 : R = 4 := by rw [← hR.out, if_pos rfl]
    subst e1
    go_wp2_with fail
    go_ret
    exact ⟨rfl, h3.out.2⟩
  replace hR := Lib.hid (by have := hR.out; rwa [if_neg (by decide)] at this)
  go_wp2_with fail
  refine (hT.out _ h3.out.2).mono ?_
  rintro e w4 ⟨rfl, hb⟩
  have h4 := Lib.hid (box_step h3.out hb)
  clear p0 p1 p2 p3 h3 hb hT
  rcases t with _ | _
  · have e1 : R = 0 := by rw [← hR.out, if_neg (by decide)]
    subst e1
    go_wp2_with fail
    go_ret
    exact ⟨rfl, h4.out.2⟩
  · have e1 : R = 6 := by rw [← hR.out, if_pos rfl]
    subst e1
    go_wp2_with fail
    go_ret
    exact ⟨rfl, h4.out.2⟩
end Go.Proofs.YtlnkjacbdolhnaaGreatDoor


/-
  The walks of json.write and json.Print.
-/
namespace Go.Proofs.YtlnkjacbdolhnaaGreatDoor
open Go.RowKit

theorem jpairs_nil (f : Bool) (n : List ByteArray) : jpairs f n [] = [] := by cases n <;> simp [jpairs]
theorem jitems_nil (f : Bool) : jitems f [] = [] := rfl
theorem isBuf_below {w W : World} {b k : Nat} (h : Below w.heap.size w W) (hb : b < w.heap.size) (hk : IsBuf W b k) : IsBuf w b k := by
  obtain ⟨n, c, e⟩ := hk
  exact ⟨n, c, by rw [← e]; exact (h.cell (p := ⟨b, 1, none⟩) hb).symm⟩
/-- These blocks are none of the builder's. -/
def Off (w : World) (b : Nat) (X : Nat → Prop) : Prop := ∀ k, X k → k < w.heap.size ∧ k ≠ b ∧ ¬ IsBuf w b k
theorem Off.wr {w w' : World} {b : Nat} {X : Nat → Prop} (h : Off w b X) (hW : Wr b w w') : Off w' b X := fun k hk => by
  obtain ⟨h1, h2, h3⟩ := h k hk
  exact ⟨Nat.lt_of_lt_of_le h1 hW.size, h2, fun e => (hW.buf k e).elim (fun e => by omega) h3⟩
theorem Off.cell {w w' : World} {b : Nat} {X : Nat → Prop} (h : Off w b X) (hW : Wr b w w') (p : Addr) (hp : X p.block) (_ : p.block < w.heap.size) : w'.cell? p = w.cell? p := by
  obtain ⟨h1, h2, h3⟩ := h _ hp
  exact hW.cell h1 h2 h3
theorem JV.wr {w w' : World} {b : Nat} {X : Nat → Prop} {j : Jsn} {vn vl : Value} (h : JV w X j vn vl) (hO : Off w b X) (hW : Wr b w w') : JV w' X j vn vl :=
  JV.keep hW.size (hO.cell hW) (fun _ h _ => h) j h
theorem StrL.wr {w w' : World} {b : Nat} {X : Nat → Prop} {v : Value} {L : List ByteArray} (h : StrL w X v L) (hO : Off w b X) (hW : Wr b w w') : StrL w' X v L :=
  h.keep hW.size (hO.cell hW) (fun _ h _ => h)
/-- A box that was laid when the builder was there already stays what it is. -/
theorem box_wr {w wr : World} {b : Nat} {t : TypeId} {x0 x1 x2 x3 : Value} {l : List UInt8} (hB : BD w b l) (hW : Wr b (w.alloc (.cells #[x0, x1, x2, x3] t)) wr) :
    wr.cell? ⟨w.heap.size, 0, none⟩ = some x0 ∧ wr.cell? ⟨w.heap.size, 1, none⟩ = some x1 ∧ wr.cell? ⟨w.heap.size, 2, none⟩ = some x2 ∧ wr.cell? ⟨w.heap.size, 3, none⟩ = some x3 := by
  have hb := hB.lt
  have hC := Cel.fresh w t #[x0, x1, x2, x3]
  have hbel := (Below.refl w.heap.size w).alloc (Nat.le_refl _) (.cells #[x0, x1, x2, x3] t)
  have hk : ∀ i, wr.cell? ⟨w.heap.size, i, none⟩ = (w.alloc (.cells #[x0, x1, x2, x3] t)).cell? ⟨w.heap.size, i, none⟩ := fun i =>
    hW.cell (p := ⟨w.heap.size, i, none⟩) (by simp) (by show w.heap.size ≠ b; omega) (fun e => by have := hB.bufLt (isBuf_below hbel hb e); exact absurd this (Nat.lt_irrefl _))
  exact ⟨(hk 0).trans (hC.cell 0), (hk 1).trans (hC.cell 1), (hk 2).trans (hC.cell 2), (hk 3).trans (hC.cell 3)⟩
theorem Wr.alloc {w : World} {b : Nat} (hb : b < w.heap.size) (o : Obj) : Wr b w (w.alloc o) := Wr.below ((Below.refl _ _).alloc (Nat.le_refl _) _) hb
theorem jbulks_snoc {l : List Jsn} {q : Nat} {x : Jsn} (h : l[q]? = some x) : jbulks (l.take q) + jbulk x ≤ jbulks l := by
  have h1 := jbulks_take l (q + 1)
  rw [List.take_add_one, h, jbulks_app] at h1
  have : jbulks ((some x).toList) = jbulk x := by simp [jbulks]
  omega
theorem nbulk_mem {n : List ByteArray} {N : ByteArray} (h : N ∈ n) : N.size + 1 ≤ nbulk n := mem_sum (fun b : ByteArray => b.size + 1) h
def WriteSays (Own : List UInt8 → List UInt8 × Int) (Val : List UInt8 → Bool) (j : Jsn) : Prop := ∀ (b : Nat) (l : List UInt8) (X : Nat → Prop) (w : World) (vn vl : Value), BD w b l → JV w X j vn vl → Off w b X → jbulk j ≤ 1000000 → jform Own Val j = true → l.length + 20 * jbulk j ≤ 10000000000 →
    Calls Tryz.prog 37 #[.pointer (some ⟨b, 0, none⟩), .agg #[.int .u8 j.kind, .string j.text, vn, vl]] w fun e w' => e = .returned (.tuple #[]) ∧ WrEnd b (l ++ jtext j) w w'

set_option maxRecDepth 20000 in
set_option maxHeartbeats 4000000 in
theorem jsnWrite_any (Own : List UInt8 → List UInt8 × Int) (Val : List UInt8 → Bool) : ∀ (j : Jsn), WriteSays Own Val j := by
  refine Jsn.ind fun k s n l ih b L X w vn vl hBd hV hOf hbk hg hlen10 => ?_
  obtain ⟨hsz, hn, hl, hnb, hkids⟩ := bulk_parts hbk
  have htl := jtext_len Own Val ⟨k, s, n, l⟩ hg
  have hkf := jform_kids hg
  have hkk := jform_kinds hg
  dsimp only at hl hkids hn hnb hsz
  have hnam := hV.names
  obtain ⟨A1, c1, rfl⟩ := hnam.len
  obtain ⟨A, c, zs, rfl, hz, h2, h3⟩ := hV.elems
  dsimp only at hnam ⊢
  have hlen : zs.length = l.length := by rw [← hz, List.length_map]
  have hbe : jbulk ⟨k, s, n, l⟩ = 1 + s.size + nbulk n + jbulks l := jbulk_eq k s n l
  have hblt := hBd.lt
  obtain ⟨W0, hW0⟩ : ∃ W0, w.alloc (.cells #[.int .u8 k, .string s, .slice A1 n.length c1, .slice A zs.length c] 25) = W0 := ⟨_, rfl⟩
  have hWr0 : Wr b w W0 := by rw [← hW0]; exact Wr.alloc hblt _
  have hBd0 : BD W0 b L := by rw [← hW0]; exact hBd.below ((Below.refl _ _).alloc (Nat.le_refl _) _)
  have hW0s : w.heap.size + 1 = W0.heap.size := by rw [← hW0]; simp
  replace hW0s := Lib.hid hW0s
  have hbx := Lib.hid (fun (wr : World) (hW : Wr b W0 wr) => box_wr hBd (hW0 ▸ hW))
  have hat := Lib.hid (fun (wr : World) (hW : Wr b W0 wr) (i : Nat) (hi : i < n.length) => (hnam.wr hOf (hWr0.trans hW)).at (Below.refl _ _) hi)
  have hw := Lib.hid (fun (wr : World) (hW : Wr b W0 wr) (i : Nat) (hi : i < zs.length) => JV.at (w := wr) (fun z hz' => (h2 z hz').wr hOf (hWr0.trans hW)) (fun hp => by
    obtain ⟨g, o, q1, q2, q3, q4⟩ := h3 hp
    exact ⟨g, o, q1, q2, Nat.lt_of_lt_of_le q3 (hWr0.trans hW).size, fun j z hz' i u hu => (hOf.cell (hWr0.trans hW) ⟨g, o + j * 4 + i, none⟩ q2 q3).trans (q4 j z hz' i u hu)⟩) (Below.refl _ _) hi)
  have hOfr := Lib.hid (fun (wr : World) (hW : Wr b W0 wr) => hOf.wr (hWr0.trans hW))
  have hih := Lib.hid (fun (x : Jsn) (hx : x ∈ l) (l' : List UInt8) (W : World) (vx vy : Value) (h1 : BD W b l') (hVx : JV W X x vx vy) (hO : Off W b X) (hl' : l'.length + 20 * jbulk x ≤ 10000000000) => ih x hx b l' X W vx vy h1 hVx hO (by have := hkids x hx; omega) (hkf x hx) hl')
  have hpl := Lib.hid (fun q => jitems_len 0 (l.take q) true (fun x hx => jtext_len Own Val x (hkf x (List.mem_of_mem_take hx))))
  have hpp := Lib.hid (fun q (h : l.length ≤ n.length) => jpairs_len 0 (l.take q) n true (by rw [List.length_take]; omega) (fun x hx => jtext_len Own Val x (hkf x (List.mem_of_mem_take hx))))
  have hxb := Lib.hid (fun q x (hx : l[q]? = some x) => jbulks_snoc hx)
  have htk := Lib.hid (fun q => jbulks_take l q)
  have hsm : zs.length ≤ 1000000 := by omega
  obtain ⟨R, hR⟩ : ∃ R, L ++ jtext ⟨k, s, n, l⟩ = R := ⟨_, rfl⟩
  rw [hR]
  rw [jtext_eq] at hR
  rw [hbe] at hlen10 hbk
  clear hV h2 h3 hnam hg ih hkf hkids htl hOf hbe
  replace hz := Lib.hid hz
  replace hnb := Lib.hid hnb
  replace hlen := Lib.hid hlen
  replace hR := Lib.hid hR
  obtain ⟨p0, p1, p2, p3⟩ := hbx.out W0 (Wr.refl _ _)
  replace hW0 := Lib.hid hW0
  replace hWr0 := Lib.hid hWr0
  clear hBd
  rcases hkk with rfl | rfl | rfl | rfl | rfl | rfl | ⟨rfl, hnl⟩
  · have hR2 := Lib.hid (show L ++ (⟨#[110, 117, 108, 108]⟩ : ByteArray).data.toList = R by rw [← hR.out]; rfl)
    have hc := Lib.hid (wStr_any b L ⟨#[110, 117, 108, 108]⟩ W0 hBd0 (by show _ + 4 ≤ _; omega))
    clear hR
    go_enter Tryz.func37, Tryz.ntmps37
    go_wp2_with fail
    rw [hW0.out]
    refine hc.out.mono ?_
    rintro e w1 ⟨rfl, hB1, hW1⟩
    have hB2 : BD w1 b R := by rw [← hR2.out]; exact hB1
    have hW2 := Lib.hid (hWr0.out.trans hW1)
    clear hc hB1 hW1 hBd0 p0 p1 p2 p3
    replace hB2 := Lib.hid hB2
    go_wp2_with fail
    go_end0
    exact ⟨rfl, hB2.out, hW2.out⟩
  · have hR2 := Lib.hid (show L ++ (⟨#[116, 114, 117, 101]⟩ : ByteArray).data.toList = R by rw [← hR.out]; rfl)
    have hc := Lib.hid (wStr_any b L ⟨#[116, 114, 117, 101]⟩ W0 hBd0 (by show _ + 4 ≤ _; omega))
    clear hR
    go_enter Tryz.func37, Tryz.ntmps37
    go_wp2_with fail
    rw [hW0.out]
    refine hc.out.mono ?_
    rintro e w1 ⟨rfl, hB1, hW1⟩
    have hB2 : BD w1 b R := by rw [← hR2.out]; exact hB1
    have hW2 := Lib.hid (hWr0.out.trans hW1)
    clear hc hB1 hW1 hBd0 p0 p1 p2 p3
    replace hB2 := Lib.hid hB2
    go_wp2_with fail
    go_end0
    exact ⟨rfl, hB2.out, hW2.out⟩
  · have hR2 := Lib.hid (show L ++ (⟨#[102, 97, 108, 115, 101]⟩ : ByteArray).data.toList = R by rw [← hR.out]; rfl)
    have hc := Lib.hid (wStr_any b L ⟨#[102, 97, 108, 115, 101]⟩ W0 hBd0 (by show _ + 5 ≤ _; omega))
    clear hR
    go_enter Tryz.func37, Tryz.ntmps37
    go_wp2_with fail
    rw [hW0.out]
    refine hc.out.mono ?_
    rintro e w1 ⟨rfl, hB1, hW1⟩
    have hB2 : BD w1 b R := by rw [← hR2.out]; exact hB1
    have hW2 := Lib.hid (hWr0.out.trans hW1)
    clear hc hB1 hW1 hBd0 p0 p1 p2 p3
    replace hB2 := Lib.hid hB2
    go_wp2_with fail
    go_end0
    exact ⟨rfl, hB2.out, hW2.out⟩
  · have hR2 := Lib.hid (show L ++ s.data.toList = R by rw [← hR.out]; rfl)
    have hc := Lib.hid (wStr_any b L s W0 hBd0 (by omega))
    clear hR
    go_enter Tryz.func37, Tryz.ntmps37
    go_wp2_with fail
    rw [hW0.out]
    refine hc.out.mono ?_
    rintro e w1 ⟨rfl, hB1, hW1⟩
    have hB2 : BD w1 b R := by rw [← hR2.out]; exact hB1
    have hW2 := Lib.hid (hWr0.out.trans hW1)
    clear hc hB1 hW1 hBd0 p0 p1 p2 p3
    replace hB2 := Lib.hid hB2
    go_wp2_with fail
    go_end0
    exact ⟨rfl, hB2.out, hW2.out⟩
  · have hR2 := Lib.hid (show L ++ jquote s.data.toList = R by rw [← hR.out]; rfl)
    have hc := Lib.hid (jsnQuote_any b L s hsz W0 hBd0 (by omega))
    clear hR
    go_enter Tryz.func37, Tryz.ntmps37
    go_wp2_with fail
    rw [hW0.out]
    refine hc.out.mono ?_
    rintro e w1 ⟨rfl, hB1, hW1⟩
    have hB2 : BD w1 b R := by rw [← hR2.out]; exact hB1
    have hW2 := Lib.hid (hWr0.out.trans hW1)
    clear hc hB1 hW1 hBd0 p0 p1 p2 p3
    replace hB2 := Lib.hid hB2
    go_wp2_with fail
    go_end0
    exact ⟨rfl, hB2.out, hW2.out⟩
  · have hR2 := Lib.hid (show L ++ (91 :: (jitems true (l.map jtext) ++ [93])) = R by rw [← hR.out]; rfl)
    have hc := Lib.hid (wByte_any b L 91 91 rfl W0 hBd0 (by omega))
    clear hR hBd0
    go_enter Tryz.func37, Tryz.ntmps37
    go_wp2_with fail
    rw [hW0.out]
    refine hc.out.mono ?_
    rintro e w1 ⟨rfl, hB1, hW1⟩
    clear hc hW0 p0 p1 p2 p3
    obtain ⟨p0, p1, p2, p3⟩ := hbx.out w1 hW1
    replace hB1 := Lib.hid hB1
    replace hW1 := Lib.hid hW1
    go_wp2_with fail
    clear p0 p1 p2 p3
    go_loopw [19] (fun i wr => ∃ q : Nat, q ≤ zs.length ∧ i = .int .i64 q ∧ BD wr b (L ++ [91] ++ jitems true ((l.take q).map jtext)) ∧ Wr b W0 wr) (fun i _ => zs.length - (intOf i).toNat)
    case atStart => exact ⟨0, Nat.zero_le _, rfl, by rw [List.take_zero, List.map_nil, jitems_nil, List.append_nil]; exact hB1.out, hW1.out⟩
    case round =>
      clear hB1 hW1
      obtain ⟨q, hq, rfl, hBq, hWq⟩ := hrel
      have hSb := hpl.out q
      have htk1 := htk.out q
      have hbl : w.heap.size < wr.heap.size := by have := hWq.size; rw [← hW0s.out] at this; exact this
      obtain ⟨S, hS⟩ : ∃ S, L ++ [91] ++ jitems true ((l.take q).map jtext) = S := ⟨_, rfl⟩
      have hSl : S.length = L.length + 1 + (jitems true ((l.take q).map jtext)).length := by rw [← hS]; simp only [List.length_append, List.length_cons, List.length_nil, Nat.zero_add]
      rw [hS] at hBq
      by_cases hlt : q < zs.length
      · obtain ⟨g, o, ⟨x, vx, vy⟩, hzq, hzm, rfl, hVz, a0, a1, a2, a3⟩ := hw.out wr hWq q hlt
        dsimp only at hVz a0 a1 a2 a3
        have hxm : x ∈ l := by rw [← hz.out]; exact List.mem_map_of_mem (f := (·.1)) hzm
        have hlq : l[q]? = some x := by rw [← hz.out, List.getElem?_map, hzq]; rfl
        have hql : q < l.length := by have := hlen.out; omega
        have hxb1 := hxb.out q x hlq
        have hst := map_take_snoc hlq
        have hni := take_nil_iff hql
        have hst2 : jitems true ((l.take (q + 1)).map jtext) = jitems true ((l.take q).map jtext) ++ ((if q = 0 then [] else [44]) ++ jtext x) := by
          rw [hst, jitems_snoc]
          simp only [true_and, hni]
        have hst3 : L ++ [91] ++ jitems true ((l.take (q + 1)).map jtext) = S ++ ((if q = 0 then [] else [44]) ++ jtext x) := by
          rw [hst2, ← hS]; simp only [List.append_assoc]
        obtain ⟨Ax, nx, cx, Ay, ny, cy, rfl, rfl⟩ := hVz.forms
        have hq0 : (0 : Int) ≤ (q : Int) := by omega
        have hq1 : (q : Int) < (zs.length : Int) := by omega
        obtain ⟨W1, hWe⟩ : ∃ W1, wr.alloc (.cells #[.int .u8 x.kind, .string x.text, .slice Ax nx cx, .slice Ay ny cy] 25) = W1 := ⟨_, rfl⟩
        have hbq := hBq.lt
        have hW1 : Wr b wr W1 := by rw [← hWe]; exact Wr.alloc hbq _
        have hB1 : BD W1 b S := by rw [← hWe]; exact hBq.below ((Below.refl _ _).alloc (Nat.le_refl _) _)
        have hbx2 := Lib.hid (fun (W : World) (hW : Wr b W1 W) => box_wr hBq (hWe ▸ hW))
        have hrec := Lib.hid (fun (l' : List UInt8) (W : World) (h1 : BD W b l') (hW : Wr b wr W) (hl' : l'.length + 20 * jbulk x ≤ 10000000000) => hih.out x hxm l' W _ _ h1 (hVz.wr (hOfr.out wr hWq) hW) (hOfr.out W (hWq.trans hW)) hl')
        clear hzq hzm hVz hxm hlq hst hni hql hst2 hS
        replace hWe := Lib.hid hWe
        have hWq1 := Lib.hid (hWq.trans hW1)
        replace hW1 := Lib.hid hW1
        replace hWq := Lib.hid hWq
        obtain ⟨p0, p1, p2, p3⟩ := hbx.out wr hWq.out
        clear hBq
        by_cases h0 : q = 0
        · rw [if_pos h0] at hst3
          have hqz : ¬ (0 : Int) < (q : Int) := by omega
          rw [List.nil_append] at hst3
          clear h0
          replace hst3 := Lib.hid hst3
          go_wp2_with fail
          rw [hWe.out]
          clear hWe p0 p1 p2 p3 a0 a1 a2 a3
          refine (hrec.out _ W1 hB1 hW1.out (by first | omega | (simp only [List.length_append, List.length_cons, List.length_nil]; omega))).mono ?_
          rintro e W5 ⟨rfl, hB5, hW5⟩
          have hWq5 := Lib.hid (hWq1.out.trans hW5)
          have hfin : BD W5 b (L ++ [91] ++ jitems true ((l.take (q + 1)).map jtext)) := by
            rw [hst3.out]
            simpa using hB5
          clear hB1 hrec hB5 hW5
          replace hfin := Lib.hid hfin
          go_wp2_with fail
          go_roundw
          case rel => exact ⟨q + 1, by omega, by go_num, hfin.out, hWq5.out⟩
          case measure => simp [intOf]; omega
        · rw [if_neg h0] at hst3
          have hqz : (0 : Int) < (q : Int) := by omega
          have hcm := Lib.hid (wByte_any b S 44 44 rfl W1 hB1 (by omega))
          clear h0
          replace hst3 := Lib.hid hst3
          go_wp2_with fail
          rw [hWe.out]
          refine hcm.out.mono ?_
          rintro e W2 ⟨rfl, hB2, hW2⟩
          have hWq2 := Lib.hid (hWq1.out.trans hW2)
          have hW12 := Lib.hid (hW1.out.trans hW2)
          clear hcm hB1 hWe p0 p1 p2 p3 a0 a1 a2 a3
          replace hW2 := Lib.hid hW2
          obtain ⟨p0, p1, p2, p3⟩ := hbx.out W2 hWq2.out
          obtain ⟨d0, d1, d2, d3⟩ := hbx2.out W2 hW2.out
          go_wp2_with fail
          refine (hrec.out _ W2 hB2 hW12.out (by first | omega | (simp only [List.length_append, List.length_cons, List.length_nil]; omega))).mono ?_
          rintro e W5 ⟨rfl, hB5, hW5⟩
          have hWq5 := Lib.hid (hWq2.out.trans hW5)
          have hfin : BD W5 b (L ++ [91] ++ jitems true ((l.take (q + 1)).map jtext)) := by
            rw [hst3.out]
            simpa using hB5
          clear hB2 hrec hB5 hW5 p0 p1 p2 p3 d0 d1 d2 d3
          replace hfin := Lib.hid hfin
          go_wp2_with fail
          go_roundw
          case rel => exact ⟨q + 1, by omega, by go_num, hfin.out, hWq5.out⟩
          case measure => simp [intOf]; omega
      · have hfull : l.take q = l := List.take_of_length_le (by have := hlen.out; omega)
        have hRe : S ++ [93] = R := by rw [← hR2.out, ← hS, hfull]; simp
        have hc := Lib.hid (wByte_any b S 93 93 rfl wr hBq (by omega))
        replace hRe := Lib.hid hRe
        replace hWq := Lib.hid hWq
        clear hBq hS hfull hSl hSb
        go_wp2_with fail
        refine hc.out.mono ?_
        rintro e w2 ⟨rfl, hB2, hW2⟩
        have hB3 : BD w2 b R := by rw [← hRe.out]; exact hB2
        have hW3 := Lib.hid (hWr0.out.trans (hWq.out.trans hW2))
        clear hc hB2 hW2 hWq
        replace hB3 := Lib.hid hB3
        go_wp2_with fail
        go_end0
        exact ⟨rfl, hB3.out, hW3.out⟩
  · have hpp1 := Lib.hid (fun q => hpp.out q (by omega))
    replace hnl := Lib.hid hnl
    have hR2 := Lib.hid (show L ++ (123 :: (jpairs true n (l.map jtext) ++ [125])) = R by rw [← hR.out]; rfl)
    have hc := Lib.hid (wByte_any b L 123 123 rfl W0 hBd0 (by omega))
    clear hR hBd0
    go_enter Tryz.func37, Tryz.ntmps37
    go_wp2_with fail
    rw [hW0.out]
    refine hc.out.mono ?_
    rintro e w1 ⟨rfl, hB1, hW1⟩
    clear hc hW0 p0 p1 p2 p3
    obtain ⟨p0, p1, p2, p3⟩ := hbx.out w1 hW1
    replace hB1 := Lib.hid hB1
    replace hW1 := Lib.hid hW1
    go_wp2_with fail
    clear p0 p1 p2 p3
    go_loopw [19] (fun i wr => ∃ q : Nat, q ≤ zs.length ∧ i = .int .i64 q ∧ BD wr b (L ++ [123] ++ jpairs true n ((l.take q).map jtext)) ∧ Wr b W0 wr) (fun i _ => zs.length - (intOf i).toNat)
    case atStart => exact ⟨0, Nat.zero_le _, rfl, by rw [List.take_zero, List.map_nil, jpairs_nil, List.append_nil]; exact hB1.out, hW1.out⟩
    case round =>
      clear hB1 hW1
      obtain ⟨q, hq, rfl, hBq, hWq⟩ := hrel
      have hSb := hpp1.out q
      have htk1 := htk.out q
      have hbl : w.heap.size < wr.heap.size := by have := hWq.size; rw [← hW0s.out] at this; exact this
      obtain ⟨S, hS⟩ : ∃ S, L ++ [123] ++ jpairs true n ((l.take q).map jtext) = S := ⟨_, rfl⟩
      have hSl : S.length = L.length + 1 + (jpairs true n ((l.take q).map jtext)).length := by rw [← hS]; simp only [List.length_append, List.length_cons, List.length_nil, Nat.zero_add]
      rw [hS] at hBq
      by_cases hlt : q < zs.length
      · obtain ⟨g, o, ⟨x, vx, vy⟩, hzq, hzm, rfl, hVz, a0, a1, a2, a3⟩ := hw.out wr hWq q hlt
        dsimp only at hVz a0 a1 a2 a3
        have hxm : x ∈ l := by rw [← hz.out]; exact List.mem_map_of_mem (f := (·.1)) hzm
        have hlq : l[q]? = some x := by rw [← hz.out, List.getElem?_map, hzq]; rfl
        have hql : q < l.length := by have := hlen.out; omega
        have hxb1 := hxb.out q x hlq
        have hst := map_take_snoc hlq
        have hni := take_nil_iff hql
        have hst2 : jpairs true n ((l.take (q + 1)).map jtext) = jpairs true n ((l.take q).map jtext) ++ ((if q = 0 then [] else [44]) ++ (jquote (n.getD q ByteArray.empty).data.toList ++ 58 :: jtext x)) := by
          rw [hst, jpairs_snoc]
          simp only [true_and, hni, List.length_map, List.length_take, Nat.min_eq_left (Nat.le_of_lt hql)]
        have hst3 : L ++ [123] ++ jpairs true n ((l.take (q + 1)).map jtext) = S ++ ((if q = 0 then [] else [44]) ++ (jquote (n.getD q ByteArray.empty).data.toList ++ 58 :: jtext x)) := by
          rw [hst2, ← hS]; simp only [List.append_assoc]
        obtain ⟨Ax, nx, cx, Ay, ny, cy, rfl, rfl⟩ := hVz.forms
        have hq0 : (0 : Int) ≤ (q : Int) := by omega
        have hq1 : (q : Int) < (zs.length : Int) := by omega
        obtain ⟨W1, hWe⟩ : ∃ W1, wr.alloc (.cells #[.int .u8 x.kind, .string x.text, .slice Ax nx cx, .slice Ay ny cy] 25) = W1 := ⟨_, rfl⟩
        have hbq := hBq.lt
        have hW1 : Wr b wr W1 := by rw [← hWe]; exact Wr.alloc hbq _
        have hB1 : BD W1 b S := by rw [← hWe]; exact hBq.below ((Below.refl _ _).alloc (Nat.le_refl _) _)
        have hbx2 := Lib.hid (fun (W : World) (hW : Wr b W1 W) => box_wr hBq (hWe ▸ hW))
        have hrec := Lib.hid (fun (l' : List UInt8) (W : World) (h1 : BD W b l') (hW : Wr b wr W) (hl' : l'.length + 20 * jbulk x ≤ 10000000000) => hih.out x hxm l' W _ _ h1 (hVz.wr (hOfr.out wr hWq) hW) (hOfr.out W (hWq.trans hW)) hl')
        have hqn : q < n.length := by have := hnl.out; have := hlen.out; omega
        obtain ⟨N, hN⟩ : ∃ N, n[q] = N := ⟨_, rfl⟩
        have hNg : n.getD q ByteArray.empty = N := by rw [List.getD_eq_getElem?_getD, List.getElem?_eq_getElem hqn, hN]; rfl
        have hNs : N.size ≤ 1000000 := hnb.out N (by rw [← hN]; exact List.getElem_mem hqn)
        rw [hNg] at hst3
        have hqi : (q : Int) < (n.length : Int) := by omega
        have hNq := jquote_len N.data.toList
        rw [bytes_len] at hNq
        obtain ⟨gn, on, rfl, y0⟩ := hat.out wr hWq q hqn
        have hnat := Lib.hid (fun (W : World) (hW : Wr b W0 W) => show W.cell? ⟨gn, on + q, none⟩ = some (.string N) by
          obtain ⟨g', o', e1, y⟩ := hat.out W hW q hqn
          injection e1 with e1
          injection e1 with e2 e3
          subst e2
          subst e3
          rwa [hN] at y)
        have hgl := World.block_lt_of_cell? wr _ y0
        rw [hN] at y0
        have hNb : N.size + 1 ≤ nbulk n := nbulk_mem (by rw [← hN]; exact List.getElem_mem hqn)
        clear hN hNg hqn
        clear hzq hzm hVz hxm hlq hst hni hql hst2 hS
        replace hWe := Lib.hid hWe
        have hWq1 := Lib.hid (hWq.trans hW1)
        replace hW1 := Lib.hid hW1
        replace hWq := Lib.hid hWq
        obtain ⟨p0, p1, p2, p3⟩ := hbx.out wr hWq.out
        clear hBq
        by_cases h0 : q = 0
        · rw [if_pos h0] at hst3
          have hqz : ¬ (0 : Int) < (q : Int) := by omega
          rw [List.nil_append] at hst3
          clear h0
          replace hst3 := Lib.hid hst3
          go_wp2_with fail
          rw [hWe.out]
          clear hWe p0 p1 p2 p3 a0 a1 a2 a3
          refine (jsnQuote_any b S N hNs W1 hB1 (by omega)).mono ?_
          rintro e W3 ⟨rfl, hB3, hW3⟩
          have hWq3 := Lib.hid (hWq1.out.trans hW3)
          have hW13 := Lib.hid (hW1.out.trans hW3)
          have hx3 := Lib.hid (Wr.trans ((Wr.refl _ _)) hW3)
          have hco := Lib.hid (wByte_any b _ 58 58 rfl W3 hB3 (by simp only [List.length_append]; omega))
          clear hB3 hW3 hB1 y0
          go_wp2_with fail
          refine hco.out.mono ?_
          rintro e W4 ⟨rfl, hB4, hW4⟩
          have hWq4 := Lib.hid (hWq3.out.trans hW4)
          have hW14 := Lib.hid (hW13.out.trans hW4)
          obtain ⟨d0, d1, d2, d3⟩ := hbx2.out W4 (hx3.out.trans hW4)
          clear hco hW4
          go_wp2_with fail
          refine (hrec.out _ W4 hB4 hW14.out (by first | omega | (simp only [List.length_append, List.length_cons, List.length_nil]; omega))).mono ?_
          rintro e W5 ⟨rfl, hB5, hW5⟩
          have hWq5 := Lib.hid (hWq4.out.trans hW5)
          have hfin : BD W5 b (L ++ [123] ++ jpairs true n ((l.take (q + 1)).map jtext)) := by
            rw [hst3.out]
            simpa using hB5
          clear hB4 hrec hB5 hW5 d0 d1 d2 d3
          replace hfin := Lib.hid hfin
          go_wp2_with fail
          go_roundw
          case rel => exact ⟨q + 1, by omega, by go_num, hfin.out, hWq5.out⟩
          case measure => simp [intOf]; omega
        · rw [if_neg h0] at hst3
          have hqz : (0 : Int) < (q : Int) := by omega
          have hcm := Lib.hid (wByte_any b S 44 44 rfl W1 hB1 (by omega))
          clear h0
          replace hst3 := Lib.hid hst3
          go_wp2_with fail
          rw [hWe.out]
          refine hcm.out.mono ?_
          rintro e W2 ⟨rfl, hB2, hW2⟩
          have hWq2 := Lib.hid (hWq1.out.trans hW2)
          have hW12 := Lib.hid (hW1.out.trans hW2)
          clear hcm hB1 hWe p0 p1 p2 p3 a0 a1 a2 a3
          replace hW2 := Lib.hid hW2
          obtain ⟨p0, p1, p2, p3⟩ := hbx.out W2 hWq2.out
          have y1 := hnat.out W2 hWq2.out
          go_wp2_with fail
          refine (jsnQuote_any b (S ++ [44]) N hNs W2 hB2 (by simp; omega)).mono ?_
          rintro e W3 ⟨rfl, hB3, hW3⟩
          have hWq3 := Lib.hid (hWq2.out.trans hW3)
          have hW13 := Lib.hid (hW12.out.trans hW3)
          have hx3 := Lib.hid (Wr.trans (hW2.out) hW3)
          have hco := Lib.hid (wByte_any b _ 58 58 rfl W3 hB3 (by simp only [List.length_append, List.length_cons, List.length_nil]; omega))
          clear hB3 hW3 hB2 y0 y1 p0 p1 p2 p3
          go_wp2_with fail
          refine hco.out.mono ?_
          rintro e W4 ⟨rfl, hB4, hW4⟩
          have hWq4 := Lib.hid (hWq3.out.trans hW4)
          have hW14 := Lib.hid (hW13.out.trans hW4)
          obtain ⟨d0, d1, d2, d3⟩ := hbx2.out W4 (hx3.out.trans hW4)
          clear hco hW4
          go_wp2_with fail
          refine (hrec.out _ W4 hB4 hW14.out (by first | omega | (simp only [List.length_append, List.length_cons, List.length_nil]; omega))).mono ?_
          rintro e W5 ⟨rfl, hB5, hW5⟩
          have hWq5 := Lib.hid (hWq4.out.trans hW5)
          have hfin : BD W5 b (L ++ [123] ++ jpairs true n ((l.take (q + 1)).map jtext)) := by
            rw [hst3.out]
            simpa using hB5
          clear hB4 hrec hB5 hW5 d0 d1 d2 d3
          replace hfin := Lib.hid hfin
          go_wp2_with fail
          go_roundw
          case rel => exact ⟨q + 1, by omega, by go_num, hfin.out, hWq5.out⟩
          case measure => simp [intOf]; omega
      · have hfull : l.take q = l := List.take_of_length_le (by have := hlen.out; omega)
        have hRe : S ++ [125] = R := by rw [← hR2.out, ← hS, hfull]; simp
        have hc := Lib.hid (wByte_any b S 125 125 rfl wr hBq (by omega))
        replace hRe := Lib.hid hRe
        replace hWq := Lib.hid hWq
        clear hBq hS hfull hSl hSb
        go_wp2_with fail
        refine hc.out.mono ?_
        rintro e w2 ⟨rfl, hB2, hW2⟩
        have hB3 : BD w2 b R := by rw [← hRe.out]; exact hB2
        have hW3 := Lib.hid (hWr0.out.trans (hWq.out.trans hW2))
        clear hc hB2 hW2 hWq
        replace hB3 := Lib.hid hB3
        go_wp2_with fail
        go_end0
        exact ⟨rfl, hB3.out, hW3.out⟩
end Go.Proofs.YtlnkjacbdolhnaaGreatDoor
