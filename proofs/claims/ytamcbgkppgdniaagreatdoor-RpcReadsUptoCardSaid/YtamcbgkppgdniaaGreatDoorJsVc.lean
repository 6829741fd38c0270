/-
  The walk of json.twice (a map that the call makes), and of json.Check.
-/
import Derived.Test.YtamcbgkppgdniaaGreatDoorJsVb
import Derived.Test.YtamcbgkppgdniaaGreatDoorJmo
import Derived.Maps.OwnOps
import Derived.Maps.OwnSet
import Derived.Maps.Views
namespace Go.Proofs.YtamcbgkppgdniaaGreatDoor
open Go.RowKit Go.WideMaps Go.Maps

theorem lawS : Keyed Tryz.prog 9 := string_keyed Tryz.underlying9
theorem zeroI (w : World) : (zeroValue 3).run Tryz.prog w = .ok (.int .i64 0) w := by kernel_rfl
def hasB (L : List ByteArray) (x : ByteArray) : Bool := L.any fun y => decide (y = x)
theorem hasB_iff (L : List ByteArray) (x : ByteArray) : hasB L x = true ↔ x ∈ L := by simp [hasB]
/-- What the map holds when the first q names have been counted, each once. -/
def Seen (D : DataW Unit) (n : List ByteArray) (q : Nat) : Prop :=
  ∀ x : ByteArray, D.atKey (.string x.data.toList) (.lit (.int .i64 0)) = .lit (.int .i64 (if hasB (n.take q) x = true then 1 else 0))
theorem key_lit (x : ByteArray) : WideAt.IsKeyLit (.string x.data.toList) := by trivial
theorem Seen.step {D : DataW Unit} {n : List ByteArray} {q : Nat} {S : ByteArray} (h : Seen D n q) (hD : IsMap D) (hS : n[q]? = some S) : Seen (D.put (.string S.data.toList) (.lit (.int .i64 1))) n (q + 1) := fun x => by
  have h1 : hasB (n.take (q + 1)) x = (hasB (n.take q) x || decide (S = x)) := by
    unfold hasB; rw [List.take_add_one, hS]; simp
  rw [h1]
  by_cases e : x = S
  · subst e
    rw [atKey_put_same hD (key_lit x)]; simp
  · rw [atKey_put_other (fun he => e (jstr_ext (by injection he)))]
    rw [h x, decide_eq_false (fun he => e he.symm), Bool.or_false]
theorem lit_inj {a b : Int} (h : (DataW.lit (.int .i64 a) : DataW Unit) = .lit (.int .i64 b)) : a = b := by injection h with h; injection h
theorem noDup_iff {n : List ByteArray} {q : Nat} {S : ByteArray} (hm : S ∉ n.take q) : NoneIs n q q S := fun i x hi e he => hm (by
  subst he
  exact List.mem_of_getElem? (i := i) (by rw [List.getElem?_take, if_pos hi]; exact e))
theorem dup_mem {n : List ByteArray} {q : Nat} {S : ByteArray} (hS : n[q]? = some S) (hm : S ∈ n.take q) : dupB n = true := by
  obtain ⟨i, hi⟩ := List.getElem?_of_mem hm
  rw [List.getElem?_take] at hi
  split at hi
  · exact dup_true n i q S (by assumption) hi hS
  · cases hi

set_option maxRecDepth 100000 in
set_option maxHeartbeats 4000000 in
theorem jsnTwice_any : ∀ (j : Jsn) (X : Nat → Prop) (w : World) (vn vl : Value), JV w X j vn vl → jbulk j ≤ 1000000 →
    Calls Tryz.prog 97 #[.agg #[.int .u8 j.kind, .string j.text, vn, vl]] w (ValEnd (jtwice j) w) := by
  refine Jsn.ind fun k s n l ih X w vn vl hV hbk => ?_
  obtain ⟨_, hn, hl, hnb, hkids⟩ := bulk_parts hbk
  dsimp only at hl hkids hn hnb
  have hnam := hV.names
  obtain ⟨A1, c1, rfl⟩ := hnam.len
  obtain ⟨A, c, zs, rfl, hz, h2, h3⟩ := hV.elems
  dsimp only at hnam ⊢
  have hlen : zs.length = l.length := by rw [← hz, List.length_map]
  rw [← hlen] at hl
  obtain ⟨W0, hW0⟩ : ∃ W0, w.alloc (.cells #[.int .u8 k, .string s, .slice A1 n.length c1, .slice A zs.length c] 25) = W0 := ⟨_, rfl⟩
  have hB0 : Below w.heap.size w W0 := by rw [← hW0]; exact (Below.refl _ _).alloc (Nat.le_refl _) _
  have hC0 : Cel W0 w.heap.size 25 #[.int .u8 k, .string s, .slice A1 n.length c1, .slice A zs.length c] := by rw [← hW0]; exact Cel.fresh _ _ _
  have hs0 : W0.heap.size = w.heap.size + 1 := by rw [← hW0]; simp
  have hat := Lib.hid (fun (wr : World) (hB : Below w.heap.size w wr) (i : Nat) (hi : i < n.length) => hnam.at hB hi)
  have hF := Lib.hid (fun (wr : World) (hB : Below w.heap.size w wr) => containsJ_any 97 #[] jtwice entersTw A c zs X wr (by omega)
      (fun z hz' => (h2 z hz').later hB) (fun hp => by
        obtain ⟨g, o, q1, q2, q3, q4⟩ := h3 hp
        exact ⟨g, o, q1, q2, Nat.lt_of_lt_of_le q3 hB.size, fun j z hz' i u hu => (hB.cell (p := ⟨g, o + j * 4 + i, none⟩) q3).trans (q4 j z hz' i u hu)⟩)
      (fun W x vn vl hx hB2 hV => by
        rw [hz] at hx
        exact ih x hx X W vn vl hV (by have := hkids x hx; omega)))
  rw [hz] at hF
  obtain ⟨R, hR⟩ : ∃ R, jtwice ⟨k, s, n, l⟩ = R := ⟨_, rfl⟩
  rw [hR]
  clear hV h2 h3 hnam hkids hlen hbk ih hz
  replace hnb := Lib.hid hnb
  replace hR := Lib.hid hR
  have hmm := @run_makeMap Tryz.prog
  obtain ⟨p0, p1, p2, p3⟩ := box_cells hC0
  replace hC0 := Lib.hid hC0
  replace hB0 := Lib.hid hB0
  replace hW0 := Lib.hid hW0
  go_enter Tryz.func97, Tryz.ntmps97
  go_wp2_with fail
  go_loopw [10] (fun i wr => ∃ (q : Nat) (D : DataW Unit), q ≤ n.length ∧ i = .int .i64 q ∧ NoDup n q ∧ Seen D n q ∧ wr.ownsMap Tryz.prog 9 (plainElem Tryz.prog 3) (w.heap.size + 1) q D ∧ Cel wr w.heap.size 25 #[.int .u8 k, .string s, .slice A1 n.length c1, .slice A zs.length c] ∧ Below w.heap.size w wr) (fun i _ => n.length - (intOf i).toNat)
  case atStart =>
    have hom := World.ownsMap_made (H := Unit) W0 Tryz.prog 9 (plainElem Tryz.prog 3)
    rw [hs0] at hom
    rw [hW0.out]
    exact ⟨0, .map [], Nat.zero_le _, rfl, fun _ _ _ _ _ h => absurd h (Nat.not_lt_zero _), fun x => rfl, hom, hC0.out.alloc _, hB0.out.alloc (by omega) _⟩
  case round =>
    clear hmm p0 p1 p2 p3
    obtain ⟨q, D, hq, rfl, hnd, hsn, hown, hC, hB⟩ := hrel
    by_cases hlt : q < n.length
    · obtain ⟨g, o, rfl, y1⟩ := hat.out wr hB q hlt
      obtain ⟨S, hS⟩ : ∃ S, n[q] = S := ⟨_, rfl⟩
      have hSq : n[q]? = some S := by rw [List.getElem?_eq_getElem hlt, hS]
      rw [hS] at y1
      have hkey : keyOf Tryz.prog 9 (.string S) = some (.string S.data.toList) := keyOf_string_mk Tryz.underlying9 (by have := hnb.out S (List.mem_of_getElem? hSq); unfold maxLen; omega)
      have hq0 : (0 : Int) ≤ (q : Int) := by omega
      have hq1 : (q : Int) < (n.length : Int) := by omega
      have hD := hown.isMap
      have hsz := hB.size
      have hlw := hC.lt
      have hat1 := hsn S
      clear hS
      by_cases hm : hasB (n.take q) S = true
      · rw [if_pos hm] at hat1
        have hRt : R = true := by rw [← hR.out]; exact jtw_names (dup_mem hSq ((hasB_iff _ _).1 hm))
        subst hRt
        have hg1 := Lib.hid (fun c (h : D.atKey (.string S.data.toList) (.lit (.int .i64 0)) = .lit (.int .i64 c)) => lit_inj (h.symm.trans hat1))
        have hg2 := Lib.hid (fun c (h : (D.put (.string S.data.toList) (.lit (.int .i64 2))).atKey (.string S.data.toList) (.lit (.int .i64 0)) = .lit (.int .i64 c)) => lit_inj (h.symm.trans (atKey_put_same hD (key_lit S) _ _)))
        clear hsn hnd hat1 hSq hm hD hat hF hR hnb
        replace hC := Lib.hid hC
        replace hB := Lib.hid hB
        go_upto_region 6 with (first | (at_lookup; refine wpList_lookup_own_int _ rfl _ _ 154 rfl 9 3 .i64 lawS Tryz.underlying154 Tryz.underlying3 (zeroI _) (w.heap.size + 1) _ _ rfl hown _ _ rfl hkey ?_; intro c hatc hwc; obtain rfl := hg1.out c hatc; clear hatc hwc) | (at_mapUpdate; refine wpList_mapUpdate_own _ rfl _ _ _ 154 rfl 9 3 lawS Tryz.underlying154 _ (w.heap.size + 1) _ _ rfl hown (by unfold maxLen; omega) _ _ _ rfl rfl hkey _ [] (plainElem_int Tryz.underlying3 (WalkArith.wf_i64 (by omega))) ?_; intro w1 hown1 hgrow1; replace hown := hown1; clear hown1))
        go_wp2_with (at_lookup; refine wpList_lookup_own_int _ rfl _ _ 154 rfl 9 3 .i64 lawS Tryz.underlying154 Tryz.underlying3 (zeroI _) (w.heap.size + 1) _ _ rfl hown _ _ rfl hkey ?_; intro c hatc hwc; obtain rfl := hg2.out c hatc; clear hatc hwc)
        have hC1 : Cel w1 w.heap.size 25 #[.int .u8 k, .string s, .slice (some ⟨g, o, none⟩) n.length c1, .slice A zs.length c] := (hgrow1.block _ hlw (by simp)).trans hC.out
        have hB1 := hB.out.grown hgrow1 hsz (fun j hj => by cases hj; omega)
        clear hC hB hgrow1 hown
        replace hB1 := Lib.hid hB1
        go_wp2_with fail
        go_ret
        exact ⟨rfl, hB1.out⟩
      · rw [if_neg hm] at hat1
        have hmem : S ∉ n.take q := fun h => hm ((hasB_iff _ _).2 h)
        have hnd2 := NoDup.step hnd hSq (noDup_iff hmem)
        have hsn2 := hsn.step hD hSq
        have hg1 := Lib.hid (fun c (h : D.atKey (.string S.data.toList) (.lit (.int .i64 0)) = .lit (.int .i64 c)) => lit_inj (h.symm.trans hat1))
        have hg2 := Lib.hid (fun c (h : (D.put (.string S.data.toList) (.lit (.int .i64 1))).atKey (.string S.data.toList) (.lit (.int .i64 0)) = .lit (.int .i64 c)) => lit_inj (h.symm.trans (atKey_put_same hD (key_lit S) _ _)))
        clear hsn hnd hat1 hSq hm hD hmem
        replace hnd2 := Lib.hid hnd2
        replace hsn2 := Lib.hid hsn2
        replace hC := Lib.hid hC
        replace hB := Lib.hid hB
        go_upto_region 6 with (first | (at_lookup; refine wpList_lookup_own_int _ rfl _ _ 154 rfl 9 3 .i64 lawS Tryz.underlying154 Tryz.underlying3 (zeroI _) (w.heap.size + 1) _ _ rfl hown _ _ rfl hkey ?_; intro c hatc hwc; obtain rfl := hg1.out c hatc; clear hatc hwc) | (at_mapUpdate; refine wpList_mapUpdate_own _ rfl _ _ _ 154 rfl 9 3 lawS Tryz.underlying154 _ (w.heap.size + 1) _ _ rfl hown (by unfold maxLen; omega) _ _ _ rfl rfl hkey _ [] (plainElem_int Tryz.underlying3 (WalkArith.wf_i64 (by omega))) ?_; intro w1 hown1 hgrow1; replace hown := hown1; clear hown1))
        go_wp2_with (at_lookup; refine wpList_lookup_own_int _ rfl _ _ 154 rfl 9 3 .i64 lawS Tryz.underlying154 Tryz.underlying3 (zeroI _) (w.heap.size + 1) _ _ rfl hown _ _ rfl hkey ?_; intro c hatc hwc; obtain rfl := hg2.out c hatc; clear hatc hwc)
        have hC1 : Cel w1 w.heap.size 25 #[.int .u8 k, .string s, .slice (some ⟨g, o, none⟩) n.length c1, .slice A zs.length c] := (hgrow1.block _ hlw (by simp)).trans hC.out
        have hB1 := hB.out.grown hgrow1 hsz (fun j hj => by cases hj; omega)
        clear hC hB hgrow1
        replace hB1 := Lib.hid hB1
        replace hC1 := Lib.hid hC1
        replace hown := Lib.hid hown
        go_wp2_with fail
        go_roundw
        case rel => exact ⟨q + 1, _, by omega, by go_num, hnd2.out, hsn2.out, hown.out, hC1.out, hB1.out⟩
        case measure => simp [intOf]; omega
    · have hqe : q = n.length := by omega
      have hnd2 : NoDup n n.length := by rw [← hqe]; exact hnd
      have hRl : l.any jtwice = R := by rw [← hR.out, jtw_list (dup_false n hnd2)]
      rw [hRl] at hF
      obtain ⟨p0, p1, p2, p3⟩ := box_cells hC
      clear hRl hnd2 hnd hsn hat hR hnb hqe
      replace hB := Lib.hid hB
      replace hown := Lib.hid hown
      replace hC := Lib.hid hC
      go_wp2_with fail
      refine (hF.out _ hB.out).mono ?_
      rintro e w1 ⟨rfl, hb⟩
      have hB1 := hB.out.trans (hb.mono hB.out.size)
      clear hb hF hB hown hC p0 p1 p2 p3
      replace hB1 := Lib.hid hB1
      go_wp2_with fail
      go_ret
      exact ⟨rfl, hB1.out⟩

set_option maxHeartbeats 2000000 in
theorem jsnCheck_any (j : Jsn) (X : Nat → Prop) (w : World) (vn vl : Value) (hE : EnvU w) (hV : JV w X j vn vl) (hbk : jbulk j ≤ 1000000) :
    Calls Tryz.prog 52 #[.agg #[.int .u8 j.kind, .string j.text, vn, vl]] w fun e w' => e = .returned (.int .i64 (jcheck ownL Lib.validD j)) ∧ Below w.heap.size w w' := by
  obtain ⟨W0, hW0⟩ : ∃ W0, w.alloc (.cells #[.int .u8 j.kind, .string j.text, vn, vl] 25) = W0 := ⟨_, rfl⟩
  have hB0 : Below w.heap.size w W0 := by rw [← hW0]; exact (Below.refl _ _).alloc (Nat.le_refl _) _
  have hC0 : Cel W0 w.heap.size 25 #[.int .u8 j.kind, .string j.text, vn, vl] := by rw [← hW0]; exact Cel.fresh _ _ _
  have hcb := jcount_bulk j
  have hdd : decide (65 < 1 + jdeep j) = decide (64 < jdeep j) := by rw [Bool.eq_iff_iff]; simp only [decide_eq_true_eq]; omega
  have hD : ∀ (wr : World) (hB : Below w.heap.size w wr), Calls Tryz.prog 94 #[.agg #[.int .u8 j.kind, .string j.text, vn, vl], .int .i64 1] wr fun e w' => e = .returned (.bool (decide (64 < jdeep j))) ∧ Below wr.heap.size wr w' := fun wr hB => by
    have := jsnDeep_any j X wr vn vl 1 (hV.later hB) (by omega) (by omega)
    rw [hdd] at this
    exact this
  have hN := Lib.hid (fun (wr : World) (hB : Below w.heap.size w wr) => jsnCount_any j X wr vn vl (hV.later hB) (by omega))
  have hF := Lib.hid (fun (wr : World) (hB : Below w.heap.size w wr) => jsnForm_any j X wr vn vl (hE.below hB) (hV.later hB) hbk)
  have hT := Lib.hid (fun (wr : World) (hB : Below w.heap.size w wr) => jsnTwice_any j X wr vn vl (hV.later hB) hbk)
  obtain ⟨R, hR⟩ : ∃ R, jcheck ownL Lib.validD j = R := ⟨_, rfl⟩
  rw [hR]
  unfold jcheck at hR
  obtain ⟨An, nn, cn, Al, nl, cl, rfl, rfl⟩ := hV.forms
  obtain ⟨k, s, n, l⟩ := j
  obtain ⟨d, hd⟩ : ∃ d, jdeep ⟨k, s, n, l⟩ = d := ⟨_, rfl⟩
  obtain ⟨m, hm⟩ : ∃ m, jcount ⟨k, s, n, l⟩ = m := ⟨_, rfl⟩
  obtain ⟨f, hf⟩ : ∃ f, jform ownL Lib.validD ⟨k, s, n, l⟩ = f := ⟨_, rfl⟩
  obtain ⟨t, ht⟩ : ∃ t, jtwice ⟨k, s, n, l⟩ = t := ⟨_, rfl⟩
  simp only [hd] at hD hR
  rw [hm] at hN hR
  rw [hf] at hF hR
  rw [ht] at hT hR
  clear hdd hd hm hf ht hV hE hcb
  dsimp only at hW0 hC0 hD hN hF hT ⊢
  replace hD := Lib.hid hD
  replace hR := Lib.hid hR
  have h0 := Lib.hid (And.intro hC0 hB0)
  obtain ⟨p0, p1, p2, p3⟩ := box_cells hC0
  replace hW0 := Lib.hid hW0
  clear hC0 hB0 hbk
  go_enter Tryz.func52, Tryz.ntmps52
  go_wp2_with fail
  rw [hW0.out]
  clear hW0
  refine (hD.out _ h0.out.2).mono ?_
  rintro e w1 ⟨rfl, hb⟩
  have h1 := Lib.hid (box_step h0.out hb)
  clear p0 p1 p2 p3 h0 hb hD
  obtain ⟨p0, p1, p2, p3⟩ := box_cells h1.out.1
  by_cases c1 : 64 < d
  · have e1 : R = 61 := by rw [← hR.out, if_pos c1]
    subst e1
    rw [decide_eq_true c1]
    clear c1
    go_wp2_with fail
    go_ret
    exact ⟨rfl, h1.out.2⟩
  replace hR := Lib.hid (by have := hR.out; rwa [if_neg c1] at this)
  rw [decide_eq_false c1]
  clear c1
  go_wp2_with fail
  refine (hN.out _ h1.out.2).mono ?_
  rintro e w2 ⟨m2, rfl, hm2, hm3, hm4, hb⟩
  have h2 := Lib.hid (box_step h1.out hb)
  clear p0 p1 p2 p3 h1 hb hN
  obtain ⟨p0, p1, p2, p3⟩ := box_cells h2.out.1
  by_cases c2 : 65536 < m
  · have e1 : R = 40 := by rw [← hR.out, if_pos c2]
    have c3 : 65536 < (m2 : Int) := by rcases hm2 with h | h <;> omega
    subst e1
    clear hm2 hm3 hm4 c2
    go_wp2_with fail
    go_ret
    exact ⟨rfl, h2.out.2⟩
  replace hR := Lib.hid (by have := hR.out; rwa [if_neg c2] at this)
  have c3 : ¬ 65536 < (m2 : Int) := by omega
  clear hm2 hm3 hm4 c2
  go_wp2_with fail
  refine (hF.out _ h2.out.2).mono ?_
  rintro e w3 ⟨rfl, hb⟩
  have h3 := Lib.hid (box_step h2.out hb)
  clear p0 p1 p2 p3 h2 hb hF
  obtain ⟨p0, p1, p2, p3⟩ := box_cells h3.out.1
  rcases f with _ | _
  · have e1 : R = 4 := by rw [← hR.out, if_pos rfl]
    subst e1
    go_wp2_with fail
    go_ret
    exact ⟨rfl, h3.out.2⟩
  replace hR := Lib.hid (by have := hR.out; rwa [if_neg (by decide)] at this)
  go_wp2_with fail
  refine (hT.out _ h3.out.2).mono ?_
  rintro e w4 ⟨rfl, hb⟩
  have h4 := Lib.hid (box_step h3.out hb)
  clear p0 p1 p2 p3 h3 hb hT
  rcases t with _ | _
  · have e1 : R = 0 := by rw [← hR.out, if_neg (by decide)]
    subst e1
    go_wp2_with fail
    go_ret
    exact ⟨rfl, h4.out.2⟩
  · have e1 : R = 6 := by rw [← hR.out, if_pos rfl]
    subst e1
    go_wp2_with fail
    go_ret
    exact ⟨rfl, h4.out.2⟩
end Go.Proofs.YtamcbgkppgdniaaGreatDoor
