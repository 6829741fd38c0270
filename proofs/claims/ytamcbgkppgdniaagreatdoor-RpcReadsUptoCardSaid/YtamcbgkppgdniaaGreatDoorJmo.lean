/-
  The walk of the document's twice: does a name stand twice, in a value or in one within?
-/
import Derived.Test.YtamcbgkppgdniaaGreatDoorJma
namespace Go.Proofs.YtamcbgkppgdniaaGreatDoor
open Go.RowKit

/-- No name stands twice among the first q. -/
def NoDup (n : List ByteArray) (q : Nat) : Prop := ∀ (i j : Nat) (x y : ByteArray), i < j → j < q → n[i]? = some x → n[j]? = some y → x ≠ y
theorem dup_true : ∀ (n : List ByteArray) (i j : Nat) (x : ByteArray), i < j → n[i]? = some x → n[j]? = some x → dupB n = true
  | [], _, _, _, _, h, _ => by simp at h
  | y :: r, 0, j + 1, x, _, h1, h2 => by
    rw [List.getElem?_cons_zero] at h1
    rw [List.getElem?_cons_succ] at h2
    injection h1 with h1
    subst h1
    have : r.any (fun z => decide (z = y)) = true := List.any_eq_true.2 ⟨y, List.mem_of_getElem? h2, by simp⟩
    unfold dupB
    rw [this]; rfl
  | y :: r, i + 1, j + 1, x, h, h1, h2 => by
    rw [List.getElem?_cons_succ] at h1 h2
    have := dup_true r i j x (by omega) h1 h2
    unfold dupB
    rw [this]; simp
theorem dup_false : ∀ (n : List ByteArray), NoDup n n.length → dupB n = false
  | [], _ => rfl
  | y :: r, h => by
    have h1 : r.any (fun z => decide (z = y)) = false := by
      rw [List.any_eq_false]
      intro z hz
      obtain ⟨j, hj⟩ := List.getElem?_of_mem hz
      have hjl := (List.getElem?_eq_some_iff.1 hj).1
      have := h 0 (j + 1) y z (by omega) (by simp; omega) rfl (by rw [List.getElem?_cons_succ]; exact hj)
      simp [Ne.symm this]
    have h2 := dup_false r fun i j x z hi hj e1 e2 => h (i + 1) (j + 1) x z (by omega) (by simp; omega) (by rw [List.getElem?_cons_succ]; exact e1) (by rw [List.getElem?_cons_succ]; exact e2)
    unfold dupB
    rw [h1, h2]; rfl
/-- None of the first p is the q-th. -/
def NoneIs (n : List ByteArray) (q p : Nat) (S : ByteArray) : Prop := ∀ (i : Nat) (x : ByteArray), i < p → n[i]? = some x → x ≠ S
theorem NoDup.step {n : List ByteArray} {q : Nat} {S : ByteArray} (h : NoDup n q) (hS : n[q]? = some S) (h2 : NoneIs n q q S) : NoDup n (q + 1) := fun i j x y hi hj e1 e2 => by
  by_cases hjq : j < q
  · exact h i j x y hi hjq e1 e2
  · have : j = q := by omega
    subst this
    rw [hS] at e2
    injection e2 with e2
    subst e2
    exact h2 i x hi e1
theorem NoneIs.step {n : List ByteArray} {q p : Nat} {S T : ByteArray} (h : NoneIs n q p S) (hT : n[p]? = some T) (hne : T ≠ S) : NoneIs n q (p + 1) S := fun i x hi e => by
  by_cases hip : i < p
  · exact h i x hip e
  · have : i = p := by omega
    subst this
    rw [hT] at e
    injection e with e
    subst e
    exact hne
theorem jtw_names {k s n l} (h : dupB n = true) : jtwice ⟨k, s, n, l⟩ = true := by rw [jtwice_eq, h]; rfl
theorem jtw_list {k s n l} (h : dupB n = false) : jtwice ⟨k, s, n, l⟩ = l.any jtwice := by rw [jtwice_eq, h]; rfl

set_option maxHeartbeats 2000000 in
theorem refTwice_any : ∀ (j : Jsn) (X : Nat → Prop) (w : World) (vn vl : Value), JV w X j vn vl → jbulk j ≤ 1000000000000000 →
    Calls Tryz.prog 108 #[.agg #[.int .u8 j.kind, .string j.text, vn, vl]] w fun e w' => e = .returned (.bool (jtwice j)) ∧ Below w.heap.size w w' := by
  refine Jsn.ind fun k s n l ih X w vn vl hV hbk => ?_
  obtain ⟨_, hn, hl, _, hkids⟩ := bulk_parts hbk
  dsimp only at hl hkids hn
  have hnam := hV.names
  obtain ⟨A1, c1, rfl⟩ := hnam.len
  obtain ⟨A, c, zs, rfl, hz, h2, h3⟩ := hV.elems
  dsimp only at hnam ⊢
  have hlen : zs.length = l.length := by rw [← hz, List.length_map]
  rw [← hlen] at hl
  have hb1 : ∀ x ∈ l, jbulk x ≤ 1000000000000000 := fun x hx => by have := hkids x hx; omega
  obtain ⟨W0, hW0⟩ : ∃ W0, w.alloc (.cells #[.int .u8 k, .string s, .slice A1 n.length c1, .slice A zs.length c] 25) = W0 := ⟨_, rfl⟩
  have hB0 : Below w.heap.size w W0 := by rw [← hW0]; exact (Below.refl _ _).alloc (Nat.le_refl _) _
  have hC1 : Cel W0 w.heap.size 25 #[.int .u8 k, .string s, .slice A1 n.length c1, .slice A zs.length c] := by rw [← hW0]; exact Cel.fresh _ _ _
  have hat := Lib.hid (fun (i : Nat) (hi : i < n.length) => hnam.at hB0 hi)
  have hw := Lib.hid (fun (wr : World) (i : Nat) (hB : Below w.heap.size w wr) (hi : i < zs.length) => JV.at h2 h3 hB hi)
  have x2 : W0.cell? ⟨w.heap.size, 2, none⟩ = some (.slice A1 n.length c1) := hC1.cell 2
  clear hV h2 h3 hnam hkids hlen hbk
  replace ih := Lib.hid ih
  replace hb1 := Lib.hid hb1
  replace hz := Lib.hid hz
  replace hC1 := Lib.hid hC1
  replace hB0 := Lib.hid hB0
  replace hW0 := Lib.hid hW0
  go_enter Tryz.func108, Tryz.ntmps108
  go_wp2_with fail
  rw [hW0.out]
  clear hW0
  go_loopw [3] (fun i wr => ∃ q m : Nat, q ≤ n.length ∧ i = .int .i64 q ∧ NoDup n q ∧ wr = W0.drewN m) (fun i _ => n.length - (intOf i).toNat)
  case atStart => exact ⟨0, 0, Nat.zero_le _, rfl, fun _ _ _ _ _ h => absurd h (Nat.not_lt_zero _), rfl⟩
  case round =>
    obtain ⟨q, m, hq, rfl, hnd, rfl⟩ := hrel
    by_cases hlt : q < n.length
    · obtain ⟨S, hS⟩ : ∃ S, n[q] = S := ⟨_, rfl⟩
      have hSq : n[q]? = some S := by rw [List.getElem?_eq_getElem hlt, hS]
      have hq0 : (0 : Int) ≤ (q : Int) := by omega
      have hq1 : (q : Int) < (n.length : Int) := by omega
      replace hnd := Lib.hid hnd
      replace hSq := Lib.hid hSq
      clear hS
      go_wp2_with fail
      go_loopw [4] (fun i wr => ∃ p m : Nat, p ≤ q ∧ i = .int .i64 p ∧ NoneIs n q p S ∧ wr = W0.drewN m) (fun i _ => q - (intOf i).toNat)
      case atStart => exact ⟨0, m, Nat.zero_le _, rfl, fun _ _ h => absurd h (Nat.not_lt_zero _), rfl⟩
      case round =>
        obtain ⟨p, m2, hp, rfl, hni, rfl⟩ := hrel
        by_cases hltp : p < q
        · have hpn : p < n.length := by omega
          obtain ⟨g, o, rfl, y1⟩ := hat.out q hlt
          obtain ⟨g', o', hgo, y2⟩ := hat.out p hpn
          injection hgo with hgo
          injection hgo with e1 e2
          subst e1
          subst e2
          have hqe : n[q] = S := by have := hSq.out; rw [List.getElem?_eq_getElem hlt] at this; injection this
          obtain ⟨T, hT⟩ : ∃ T, n[p] = T := ⟨_, rfl⟩
          have hTp : n[p]? = some T := by rw [List.getElem?_eq_getElem hpn, hT]
          rw [hqe] at y1
          rw [hT] at y2
          have hp0 : (0 : Int) ≤ (p : Int) := by omega
          have hp1 : (p : Int) < (n.length : Int) := by omega
          have hp2 : (p : Int) < (q : Int) := by omega
          clear hqe hT
          by_cases heq : T = S
          · subst heq
            have hj := jtw_names (k := k) (s := s) (l := l) (dup_true n p q T hltp hTp hSq.out)
            have hBe := bel_drewN hB0.out m2
            replace hj := Lib.hid hj
            replace hTp := Lib.hid hTp
            replace hni := Lib.hid hni
            replace hBe := Lib.hid hBe
            go_wp2_with fail
            go_quiet (fail)
            go_wp2_with fail
            go_ret
            exact ⟨by rw [hj.out]; rfl, by first | exact bel_drewN hBe.out nq | exact bel_drewN hB0.out _⟩
          · have hni2 := NoneIs.step hni hTp heq
            have hne := jeq_f (Ne.symm heq)
            replace hni2 := Lib.hid hni2
            clear hni hTp heq
            go_wp2_with fail
            go_quiet (fail)
            go_wp2_with fail
            go_roundw
            case rel => exact ⟨p + 1, m2 + nq, by omega, by go_num, hni2.out, by first | rfl | rw [World.drewN_drewN]⟩
            case measure => simp [intOf]; omega
        · have hpe : p = q := by omega
          subst hpe
          have hnd2 := NoDup.step hnd.out hSq.out hni
          replace hnd2 := Lib.hid hnd2
          clear hni
          go_wp2_with fail
          go_roundw
          case rel => exact ⟨p + 1, m2, by omega, by go_num, hnd2.out, rfl⟩
          case measure => simp [intOf]; omega
    · have hqe : q = n.length := by omega
      subst hqe
      have hjs := jtw_list (k := k) (s := s) (l := l) (dup_false n hnd)
      have hB1 := bel_drewN hB0.out m
      have hD1 := hC1.out.drewN m
      replace hjs := Lib.hid hjs
      clear hat hnd hB0 hC1
      replace hB1 := Lib.hid hB1
      replace hD1 := Lib.hid hD1
      go_wp2_with fail
      clear x2
      go_loopw [5] (fun i wr => ∃ q : Nat, q ≤ zs.length ∧ i = .int .i64 q ∧ ((zs.take q).map (·.1)).any jtwice = false ∧ Cel wr w.heap.size 25 #[.int .u8 k, .string s, .slice A1 n.length c1, .slice A zs.length c] ∧ Below w.heap.size w wr) (fun i _ => zs.length - (intOf i).toNat)
      case atStart => exact ⟨0, Nat.zero_le _, rfl, rfl, hD1.out, hB1.out⟩
      case round =>
        obtain ⟨q, hq, rfl, hsm, hC1, hB⟩ := hrel
        have hx3 : wr.cell? ⟨w.heap.size, 3, none⟩ = some (.slice A zs.length c) := hC1.cell 3
        have hsz := hC1.lt
        by_cases hlt : q < zs.length
        · obtain ⟨g, o, ⟨x, vx, vy⟩, hzq, hzm, rfl, hVz, a0, a1, a2, a3⟩ := hw.out wr q hB hlt
          dsimp only at hVz a0 a1 a2 a3
          have hxm : x ∈ l := by rw [← hz.out]; exact List.mem_map_of_mem (f := (·.1)) hzm
          have hcall := ih.out x hxm X wr vx vy hVz (hb1.out x hxm)
          have htk := take_any hzq jtwice
          have hall := any_of_take (p := jtwice) hzq
          rw [hsm] at htk
          rw [hz.out] at hall
          dsimp only at htk hall
          obtain ⟨Ax, nx, cx, Ay, ny, cy, rfl, rfl⟩ := hVz.forms
          obtain ⟨D, hD⟩ : ∃ D, jtwice x = D := ⟨_, rfl⟩
          rw [hD] at hcall htk hall
          have hnx : ∀ w1, Below wr.heap.size wr w1 → Cel w1 w.heap.size 25 #[.int .u8 k, .string s, .slice A1 n.length c1, .slice (some ⟨g, o, none⟩) zs.length c] ∧ Below w.heap.size w w1 := fun w1 h => ⟨hC1.below h hsz, hB.trans (h.mono (by omega))⟩
          clear hVz hzq hzm hw ih hD hsm hC1 hB
          replace hcall := Lib.hid hcall
          replace htk := Lib.hid htk
          replace hall := Lib.hid hall
          replace hnx := Lib.hid hnx
          go_wp2_with fail
          refine hcall.out.mono ?_
          rintro e w1 ⟨rfl, hB1⟩
          clear hcall a0 a1 a2 a3 hx3
          replace hB1 := Lib.hid hB1
          rcases D with _ | _
          · go_wp2_with fail
            go_roundw
            case rel => exact ⟨q + 1, by omega, by go_num, by rw [htk.out]; rfl, (hnx.out _ hB1.out).1, (hnx.out _ hB1.out).2⟩
            case measure => simp [intOf]; omega
          · go_wp2_with fail
            go_ret
            exact ⟨by rw [hjs.out, hall.out (by first | trivial | rfl)]; rfl, (hnx.out _ hB1.out).2⟩
        · have hfull : (zs.take q).map (·.1) = l := by rw [List.take_of_length_le (by omega), hz.out]
          rw [hfull] at hsm
          have hfin : l.any jtwice = false := hsm
          replace hfin := Lib.hid hfin
          clear hsm hfull hw ih
          replace hB := Lib.hid hB
          go_wp2_with fail
          go_ret
          exact ⟨by rw [hjs.out, hfin.out]; rfl, hB.out⟩
end Go.Proofs.YtamcbgkppgdniaaGreatDoor


/-
  The walks of the document's digit, Check and Print over JSON values, over contracts of form and text.
-/
namespace Go.Proofs.YtamcbgkppgdniaaGreatDoor
open Go.RowKit

def FormSays (f : Nat) (F : Jsn → Bool) : Prop := ∀ (j : Jsn) (X : Nat → Prop) (w : World) (vn vl : Value), JV w X j vn vl → jbulk j ≤ 1000000 →
    Calls Tryz.prog f #[.agg #[.int .u8 j.kind, .string j.text, vn, vl]] w fun e w' => e = .returned (.bool (F j)) ∧ Below w.heap.size w w'
/-- A boxed value behind a call that makes memory. -/
theorem box_step {w W W' : World} {k : Int} {s : ByteArray} {vn vl : Value} (h : Cel W w.heap.size 25 #[.int .u8 k, .string s, vn, vl] ∧ Below w.heap.size w W) (hb : Below W.heap.size W W') : Cel W' w.heap.size 25 #[.int .u8 k, .string s, vn, vl] ∧ Below w.heap.size w W' :=
  ⟨h.1.below hb h.1.lt, h.2.trans (hb.mono (Nat.le_of_lt h.1.lt))⟩
theorem box_cells {W : World} {b : Nat} {k : Int} {s : ByteArray} {vn vl : Value} (h : Cel W b 25 #[.int .u8 k, .string s, vn, vl]) : W.cell? ⟨b, 0, none⟩ = some (.int .u8 k) ∧ W.cell? ⟨b, 1, none⟩ = some (.string s) ∧ W.cell? ⟨b, 2, none⟩ = some vn ∧ W.cell? ⟨b, 3, none⟩ = some vl :=
  ⟨h.cell 0, h.cell 1, h.cell 2, h.cell 3⟩
set_option maxHeartbeats 2000000 in
theorem refCheck_any (Own : List UInt8 → List UInt8 × Int) (Val : List UInt8 → Bool) (hform : FormSays 107 (jform Own Val)) : ∀ (j : Jsn) (X : Nat → Prop) (w : World) (vn vl : Value), JV w X j vn vl → jbulk j ≤ 1000000 →
    Calls Tryz.prog 57 #[.agg #[.int .u8 j.kind, .string j.text, vn, vl]] w fun e w' => e = .returned (.int .i64 (jcheck Own Val j)) ∧ Below w.heap.size w w' := by
  intro j X w vn vl hV hbk
  obtain ⟨W0, hW0⟩ : ∃ W0, w.alloc (.cells #[.int .u8 j.kind, .string j.text, vn, vl] 25) = W0 := ⟨_, rfl⟩
  have hB0 : Below w.heap.size w W0 := by rw [← hW0]; exact (Below.refl _ _).alloc (Nat.le_refl _) _
  have hC0 : Cel W0 w.heap.size 25 #[.int .u8 j.kind, .string j.text, vn, vl] := by rw [← hW0]; exact Cel.fresh _ _ _
  have hcb := jcount_bulk j
  have hdb := jdeep_le_count j
  have hD := Lib.hid (fun (wr : World) (hB : Below w.heap.size w wr) => refDeep_any j X wr vn vl (hV.later hB) (by omega) (by omega))
  have hN := Lib.hid (fun (wr : World) (hB : Below w.heap.size w wr) => refCount_any j X wr vn vl (hV.later hB) (by omega))
  have hF := Lib.hid (fun (wr : World) (hB : Below w.heap.size w wr) => hform j X wr vn vl (hV.later hB) hbk)
  have hT := Lib.hid (fun (wr : World) (hB : Below w.heap.size w wr) => refTwice_any j X wr vn vl (hV.later hB) (by omega))
  obtain ⟨R, hR⟩ : ∃ R, jcheck Own Val j = R := ⟨_, rfl⟩
  rw [hR]
  unfold jcheck at hR
  obtain ⟨An, nn, cn, Al, nl, cl, rfl, rfl⟩ := hV.forms
  obtain ⟨k, s, n, l⟩ := j
  obtain ⟨d, hd⟩ : ∃ d, jdeep ⟨k, s, n, l⟩ = d := ⟨_, rfl⟩
  obtain ⟨m, hm⟩ : ∃ m, jcount ⟨k, s, n, l⟩ = m := ⟨_, rfl⟩
  obtain ⟨f, hf⟩ : ∃ f, jform Own Val ⟨k, s, n, l⟩ = f := ⟨_, rfl⟩
  obtain ⟨t, ht⟩ : ∃ t, jtwice ⟨k, s, n, l⟩ = t := ⟨_, rfl⟩
  rw [hd] at hD hR
  rw [hm] at hN hR
  rw [hf] at hF hR
  rw [ht] at hT hR
  clear hd hm hf ht hV hform hcb hdb
  dsimp only at hW0 hC0 hD hN hF hT ⊢
  replace hR := Lib.hid hR
  have h0 := Lib.hid (And.intro hC0 hB0)
  obtain ⟨p0, p1, p2, p3⟩ := box_cells hC0
  replace hW0 := Lib.hid hW0
  clear hC0 hB0 hbk
  go_enter Tryz.func57, Tryz.ntmps57
  go_wp2_with fail
  rw [hW0.out]
  clear hW0
  refine (hD.out _ h0.out.2).mono ?_
  rintro e w1 ⟨rfl, hb⟩
  have h1 := Lib.hid (box_step h0.out hb)
  clear p0 p1 p2 p3 h0 hb hD
  obtain ⟨p0, p1, p2, p3⟩ := box_cells h1.out.1
  by_cases c1 : 64 < d
  · have e1 : R = 61 := by rw [← hR.out, if_pos c1]
    subst e1
    go_wp2_with fail
    go_ret
    exact ⟨rfl, h1.out.2⟩
  replace hR := Lib.hid (by have := hR.out; rwa [if_neg c1] at this)
  go_wp2_with fail
  refine (hN.out _ h1.out.2).mono ?_
  rintro e w2 ⟨rfl, hb⟩
  have h2 := Lib.hid (box_step h1.out hb)
  clear p0 p1 p2 p3 h1 hb hN
  obtain ⟨p0, p1, p2, p3⟩ := box_cells h2.out.1
  by_cases c2 : 65536 < m
  · have e1 : R = 40 := by rw [← hR.out, if_pos c2]
    subst e1
    go_wp2_with fail
    go_ret
    exact ⟨rfl, h2.out.2⟩
  replace hR := Lib.hid (by have := hR.out; rwa [if_neg c2] at this)
  go_wp2_with fail
  refine (hF.out _ h2.out.2).mono ?_
  rintro e w3 ⟨rfl, hb⟩
  have h3 := Lib.hid (box_step h2.out hb)
  clear p0 p1 p2 p3 h2 hb hF
  obtain ⟨p0, p1, p2, p3⟩ := box_cells h3.out.1
  rcases f with _ | _
  · have e1 : R = 4 := by rw [← hR.out, if_pos rfl]
    subst e1
    go_wp2_with fail
    go_ret
    exact ⟨rfl, h3.out.2⟩
  replace hR := Lib.hid (by have := hR.out; rwa [if_neg (by decide)] at this)
  go_wp2_with fail
  refine (hT.out _ h3.out.2).mono ?_
  rintro e w4 ⟨rfl, hb⟩
  have h4 := Lib.hid (box_step h3.out hb)
  clear p0 p1 p2 p3 h3 hb hT
  rcases t with _ | _
  · have e1 : R = 0 := by rw [← hR.out, if_neg (by decide)]
    subst e1
    go_wp2_with fail
    go_ret
    exact ⟨rfl, h4.out.2⟩
  · have e1 : R = 6 := by rw [← hR.out, if_pos rfl]
    subst e1
    go_wp2_with fail
    go_ret
    exact ⟨rfl, h4.out.2⟩

theorem check_form {Own : List UInt8 → List UInt8 × Int} {Val : List UInt8 → Bool} {j : Jsn} (h : jcheck Own Val j = 0) : jform Own Val j = true := by
  unfold jcheck at h
  by_cases h1 : 64 < jdeep j
  · rw [if_pos h1] at h; cases h
  rw [if_neg h1] at h
  by_cases h2 : 65536 < jcount j
  · rw [if_pos h2] at h; cases h
  rw [if_neg h2] at h
  by_cases h3 : jform Own Val j = false
  · rw [if_pos h3] at h; cases h
  · simpa using h3
/-- The text of a value that may be (G): an Object has as many names as values. -/
def TextSays (f : Nat) (G : Jsn → Bool) (F : Jsn → List UInt8) : Prop := ∀ (j : Jsn) (X : Nat → Prop) (w : World) (vn vl : Value), JV w X j vn vl → jbulk j ≤ 1000000 → G j = true →
    Calls Tryz.prog f #[.agg #[.int .u8 j.kind, .string j.text, vn, vl]] w fun e w' => e = .returned (.string ⟨(F j).toArray⟩) ∧ Below w.heap.size w w'
end Go.Proofs.YtamcbgkppgdniaaGreatDoor
