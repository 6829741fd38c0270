/-
  The walk of json.Same.
-/
import Derived.Test.YtamcbgkppgdniaaGreatDoorJme
namespace Go.Proofs.YtamcbgkppgdniaaGreatDoor
open Go.RowKit

theorem enters22 : ∀ args w, (callFunc 157 args).run Tryz.prog w = .ok (.enter 157 args) w := fun _ _ => by kernel_rfl
theorem js_full {k : Int} {s : ByteArray} {n : List ByteArray} {l l' : List Jsn} : jsame ⟨k, s, n, l⟩ ⟨k, s, n, l'⟩ = (decide (l.length = l'.length) && (l.zip l').all fun p => jsame p.1 p.2) := by
  rw [jsame_eq1]; simp

set_option maxHeartbeats 2000000 in
set_option maxRecDepth 100000 in
theorem jsnSame_any : ∀ (a : Jsn), SameSays 157 a := by
  refine Jsn.ind fun k s n l ih b X Y w vn vl un ul hV hU hbk hbu => ?_
  obtain ⟨k', s', n', l'⟩ := b
  obtain ⟨_, hn, hl, _, hkids⟩ := bulk_parts hbk
  obtain ⟨_, hn', hl', _, hkids'⟩ := bulk_parts hbu
  dsimp only at hl hkids hl' hkids' hn hn'
  have hnam := hV.names
  have hnam' := hU.names
  obtain ⟨A1, c1, rfl⟩ := hnam.len
  obtain ⟨A2, c2, rfl⟩ := hnam'.len
  obtain ⟨B1, d1, zs, rfl, hz, h2, h3⟩ := hV.elems
  obtain ⟨B2, d2, ys, rfl, hy, h4, h5⟩ := hU.elems
  dsimp only at hnam hnam' ⊢
  have hlen : zs.length = l.length := by rw [← hz, List.length_map]
  have hlen' : ys.length = l'.length := by rw [← hy, List.length_map]
  by_cases hk : k = k'
  case neg =>
    rw [js_kind hk]
    have hk1 : (k == k') = false := beq_eq_false_iff_ne.2 hk
    clear ih hV hU h2 h3 h4 h5 hz hy hnam hnam' hkids hkids' hlen hlen' hbk hbu
    go_enter Tryz.func157, Tryz.ntmps157
    go_wp2_with fail
    go_ret
    exact ⟨rfl, ((Below.refl _ _).alloc (Nat.le_refl _) _).alloc (by simp) _⟩
  subst hk
  by_cases hs : s = s'
  case neg =>
    rw [js_text hs]
    have hk1 := jeq_f hs
    clear ih hV hU h2 h3 h4 h5 hz hy hnam hnam' hkids hkids' hlen hlen' hbk hbu
    go_enter Tryz.func157, Tryz.ntmps157
    go_wp2_with fail
    go_ret
    exact ⟨rfl, ((Below.refl _ _).alloc (Nat.le_refl _) _).alloc (by simp) _⟩
  subst hs
  have hB0 : Below w.heap.size w ((w.alloc (.cells #[.int .u8 k, .string s, .slice A1 n.length c1, .slice B1 zs.length d1] 25)).alloc (.cells #[.int .u8 k, .string s, .slice A2 n'.length c2, .slice B2 ys.length d2] 25)) := ((Below.refl _ _).alloc (Nat.le_refl _) _).alloc (by simp) _
  have hC1 := (Cel.fresh w 25 #[.int .u8 k, .string s, .slice A1 n.length c1, .slice B1 zs.length d1]).alloc (.cells #[.int .u8 k, .string s, .slice A2 n'.length c2, .slice B2 ys.length d2] 25)
  have hC2 : Cel ((w.alloc (.cells #[.int .u8 k, .string s, .slice A1 n.length c1, .slice B1 zs.length d1] 25)).alloc (.cells #[.int .u8 k, .string s, .slice A2 n'.length c2, .slice B2 ys.length d2] 25)) (w.heap.size + 1) 25 #[.int .u8 k, .string s, .slice A2 n'.length c2, .slice B2 ys.length d2] := by
    have := Cel.fresh (w.alloc (.cells #[.int .u8 k, .string s, .slice A1 n.length c1, .slice B1 zs.length d1] 25)) 25 #[.int .u8 k, .string s, .slice A2 n'.length c2, .slice B2 ys.length d2]
    simpa using this
  have heq := eqStr_any X Y _ _ n n' _ (hnam.later hB0) (hnam'.later hB0) hn hn'
  have hef : ∀ W, Below w.heap.size w W → Calls Tryz.prog 180 #[.slice B1 zs.length d1, .slice B2 ys.length d2, .func (.func 157) #[] #[]] W fun e w' => e = .returned (.bool (decide (l.length = l'.length) && (l.zip l').all fun p => jsame p.1 p.2)) ∧ Below W.heap.size W w' := fun W h => by
    have := eqFuncJ_any 157 enters22 B1 B2 d1 d2 zs ys X Y W (by omega) (by omega) (fun z hz' => (h2 z hz').later h)
      (fun hp => by
        obtain ⟨g, o, q1, q2, q3, q4⟩ := h3 hp
        exact ⟨g, o, q1, q2, Nat.lt_of_lt_of_le q3 h.size, fun j z hz' i u hu => (h.cell (p := ⟨g, o + j * 4 + i, none⟩) q3).trans (q4 j z hz' i u hu)⟩)
      (fun z hz' => (h4 z hz').later h)
      (fun hp => by
        obtain ⟨g, o, q1, q2, q3, q4⟩ := h5 hp
        exact ⟨g, o, q1, q2, Nat.lt_of_lt_of_le q3 h.size, fun j z hz' i u hu => (h.cell (p := ⟨g, o + j * 4 + i, none⟩) q3).trans (q4 j z hz' i u hu)⟩)
      (fun W2 x y vn vl un ul hx hy2 hB hV hU => by
        rw [hz] at hx
        rw [hy] at hy2
        exact ih x hx y X Y W2 vn vl un ul hV hU (by have := hkids x hx; omega) (by have := hkids' y hy2; omega))
    have e : (decide (zs.length = ys.length) && ((zs.map (·.1)).zip (ys.map (·.1))).all fun p => jsame p.1 p.2) = (decide (l.length = l'.length) && (l.zip l').all fun p => jsame p.1 p.2) := by rw [hz, hy, hlen, hlen']
    rw [e] at this
    exact this
  by_cases hnn : n = n'
  case neg =>
    have hj := js_names (k := k) (s := s) (l := l) (k' := k) (s' := s) (l' := l') hnn
    have hd : decide (n = n') = false := decide_eq_false hnn
    rw [hd] at heq
    rw [hj]
    clear ih hV hU h2 h3 h4 h5 hz hy hnam hnam' hkids hkids' hlen hlen' hbk hbu hj hd hef hC1 hC2
    replace heq := Lib.hid heq
    replace hB0 := Lib.hid hB0
    go_enter Tryz.func157, Tryz.ntmps157
    go_wp2_with fail
    refine heq.out.mono ?_
    rintro e w1 ⟨rfl, hB⟩
    have hB2 := hB0.out.trans (hB.mono (by simp; omega))
    clear heq hB hB0
    replace hB2 := Lib.hid hB2
    go_wp2_with fail
    go_ret
    exact ⟨rfl, hB2.out⟩
  subst hnn
  have hd : decide (n = n) = true := decide_eq_true rfl
  rw [hd] at heq
  rw [js_full]
  obtain ⟨J, hJ⟩ : ∃ J, (decide (l.length = l'.length) && (l.zip l').all fun p => jsame p.1 p.2) = J := ⟨_, rfl⟩
  rw [hJ] at hef ⊢
  clear ih hV hU h2 h3 h4 h5 hz hy hnam hnam' hkids hkids' hlen hlen' hbk hbu hd hJ
  replace heq := Lib.hid heq
  replace hef := Lib.hid hef
  replace hB0 := Lib.hid hB0
  replace hC1 := Lib.hid hC1
  replace hC2 := Lib.hid hC2
  go_enter Tryz.func157, Tryz.ntmps157
  go_wp2_with fail
  refine heq.out.mono ?_
  rintro e w1 ⟨rfl, hB⟩
  have hB2 := hB0.out.trans (hB.mono (by simp; omega))
  have x13 : w1.cell? ⟨w.heap.size, 3, none⟩ = some (.slice B1 zs.length d1) := (hC1.out.below hB hC1.out.lt).cell 3
  have x23 : w1.cell? ⟨w.heap.size + 1, 3, none⟩ = some (.slice B2 ys.length d2) := (hC2.out.below hB hC2.out.lt).cell 3
  have hef1 := hef.out w1 hB2
  clear heq hB hB0 hC1 hC2 hef
  have hbs := hB2.size
  replace hB2 := Lib.hid hB2
  replace hef1 := Lib.hid hef1
  go_wp2_with fail
  refine hef1.out.mono ?_
  rintro e w2 ⟨rfl, hB3⟩
  have hB4 := hB2.out.trans (hB3.mono hbs)
  clear hB2 hB3 hef1 x13 x23
  replace hB4 := Lib.hid hB4
  go_wp2_with fail
  go_ret
  exact ⟨rfl, hB4.out⟩
end Go.Proofs.YtamcbgkppgdniaaGreatDoor
