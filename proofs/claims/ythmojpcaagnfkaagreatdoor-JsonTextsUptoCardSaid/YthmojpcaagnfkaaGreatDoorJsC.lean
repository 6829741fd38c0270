/-
  The walks of slices.EqualFunc over JSON values, and of json.Same.
-/
import Derived.Test.YthmojpcaagnfkaaGreatDoorJsB
import Derived.Test.YthmojpcaagnfkaaGreatDoorShelf
namespace Go.Proofs.YthmojpcaagnfkaaGreatDoor
open Go.RowKit

/-- slices.Equal at two slices of strings. -/
theorem eqStr_any (X Y : Nat → Prop) (v u : Value) (L M : List ByteArray) (w : World) (hv : StrL w X v L) (hu : StrL w Y u M) (hl : L.length ≤ 1000000000000000) (hm : M.length ≤ 1000000000000000) :
    Calls Tryz.prog 116 #[v, u] w fun e w' => e = .returned (.bool (decide (L = M))) ∧ Below w.heap.size w w' := by
  obtain ⟨A, c, rfl, h1⟩ := hv
  obtain ⟨B, d, rfl, h2⟩ := hu
  by_cases hlen : L.length = M.length
  case neg =>
    have := Tryz.slices_Equal_string_lens A B L.length c M.length d w hlen
    have hne : decide (L = M) = false := decide_eq_false (fun h => hlen (by rw [h]))
    rw [hne]
    exact this.mono fun e w' ⟨h, h'⟩ => ⟨h, by subst h'; exact Below.refl _ _⟩
  by_cases h0 : L.length = 0
  · have := Tryz.slices_Equal_string_empty A B c M.length d w (by omega)
    have e1 : L = [] := List.eq_nil_of_length_eq_zero h0
    have e2 : M = [] := List.eq_nil_of_length_eq_zero (by omega)
    subst e1
    subst e2
    exact this.mono fun e w' ⟨h, h'⟩ => ⟨h, by subst h'; exact Below.refl _ _⟩
  · obtain ⟨g1, o1, rfl, _, _, q1⟩ := h1 (by omega)
    obtain ⟨g2, o2, rfl, _, _, q2⟩ := h2 (by omega)
    have := Tryz.slices_Equal_string g1 o1 L.length c g2 o2 M.length d L M w (Nat.le_refl _) (Nat.le_refl _) (by omega) (by omega) (fun j hj => by rw [q1 j _ (List.getElem?_eq_getElem hj)]; simp [List.getD, hj]) (fun j hj => by rw [q2 j _ (List.getElem?_eq_getElem hj)]; simp [List.getD, hj])
    rw [List.take_of_length_le (Nat.le_refl _), List.take_of_length_le (Nat.le_refl _)] at this
    exact this.mono fun e w' ⟨h, q, h'⟩ => ⟨h, by subst h'; exact bel_drewN (Below.refl _ _) q⟩

/-- A function value that tells of any of these and any of those whether they are the same. -/
def PredJ2 (g : Nat) (w : World) (X Y : Nat → Prop) (l m : List Jsn) : Prop :=
  ∀ (W : World) (x y : Jsn) (vn vl un ul : Value), x ∈ l → y ∈ m → Below w.heap.size w W → JV W X x vn vl → JV W Y y un ul →
    Calls Tryz.prog g #[.agg #[.int .u8 x.kind, .string x.text, vn, vl], .agg #[.int .u8 y.kind, .string y.text, un, ul]] W fun e w' => e = .returned (.bool (jsame x y)) ∧ Below W.heap.size W w'

set_option maxHeartbeats 2000000 in
theorem eqFuncJ_any (g : Nat) (eg : ∀ args w, (callFunc g args).run Tryz.prog w = .ok (.enter g args) w) (B1 B2 : Option Addr) (d1 d2 : Nat) (zs ys : List JE) (X Y : Nat → Prop) (w : World) (hl : zs.length ≤ 1000000000000000) (hl2 : ys.length ≤ 1000000000000000)
    (h2 : ∀ z ∈ zs, JV w X z.1 z.2.1 z.2.2) (h3 : 0 < zs.length → ∃ g o, B1 = some ⟨g, o, none⟩ ∧ X g ∧ g < w.heap.size ∧ ∀ j z, zs[j]? = some z → ∀ (i : Nat) (u : Value), (encJ z)[i]? = some u → w.cell? ⟨g, o + j * 4 + i, none⟩ = some u)
    (h4 : ∀ z ∈ ys, JV w Y z.1 z.2.1 z.2.2) (h5 : 0 < ys.length → ∃ g o, B2 = some ⟨g, o, none⟩ ∧ Y g ∧ g < w.heap.size ∧ ∀ j z, ys[j]? = some z → ∀ (i : Nat) (u : Value), (encJ z)[i]? = some u → w.cell? ⟨g, o + j * 4 + i, none⟩ = some u)
    (hp : PredJ2 g w X Y (zs.map (·.1)) (ys.map (·.1))) :
    Calls Tryz.prog 117 #[.slice B1 zs.length d1, .slice B2 ys.length d2, .func (.func g) #[] #[]] w fun e w' => e = .returned (.bool (decide (zs.length = ys.length) && ((zs.map (·.1)).zip (ys.map (·.1))).all fun p => jsame p.1 p.2)) ∧ Below w.heap.size w w' := by
  by_cases hll : zs.length = ys.length
  case neg =>
    have hd : decide (zs.length = ys.length) = false := decide_eq_false hll
    rw [hd, Bool.false_and]
    have hk1 : ((zs.length : Int) == (ys.length : Int)) = false := beq_eq_false_iff_ne.2 (by omega)
    have hk2 : ((zs.length : Int) != (ys.length : Int)) = true := by rw [bne_iff_ne]; omega
    clear h2 h3 h4 h5 hp hd eg
    go_enter Tryz.func117, Tryz.ntmps117
    go_wp2_with fail
    go_ret
    exact ⟨rfl, Below.refl _ _⟩
  have hd : decide (zs.length = ys.length) = true := decide_eq_true hll
  rw [hd, Bool.true_and]
  have hw1 := Lib.hid (fun (wr : World) (i : Nat) (hB : Below w.heap.size w wr) (hi : i < zs.length) => JV.at h2 h3 hB hi)
  have hw2 := Lib.hid (fun (wr : World) (i : Nat) (hB : Below w.heap.size w wr) (hi : i < ys.length) => JV.at h4 h5 hB hi)
  have hfin := sameTo_full zs ys
  have hff := fun q => sameTo_false (zs := zs) (ys := ys) (q := q)
  obtain ⟨J, hJ⟩ : ∃ J, ((zs.map (·.1)).zip (ys.map (·.1))).all (fun p => jsame p.1 p.2) = J := ⟨_, rfl⟩
  rw [hJ] at hfin hff ⊢
  rw [← hll] at hfin hl2 ⊢
  rw [Nat.max_self] at hfin
  clear hJ h2 h3 h4 h5 hd
  replace hfin := Lib.hid hfin
  replace hff := Lib.hid hff
  replace hp := Lib.hid hp
  replace hll := Lib.hid hll
  go_enter Tryz.func117, Tryz.ntmps117
  go_wp2_with fail
  go_loopw [17] (fun i wr => ∃ q : Nat, q ≤ zs.length ∧ i = .int .i64 q ∧ sameTo zs ys q = true ∧ Below w.heap.size w wr) (fun i _ => zs.length - (intOf i).toNat)
  case atStart => exact ⟨0, Nat.zero_le _, rfl, rfl, Below.refl _ _⟩
  case round =>
    obtain ⟨q, hq, rfl, hsm, hB⟩ := hrel
    by_cases hlt : q < zs.length
    · have hlt' : q < ys.length := by rw [← hll.out]; exact hlt
      obtain ⟨g1, o1, ⟨x, vx, vy⟩, hzq, hzm, rfl, hVz, a0, a1, a2, a3⟩ := hw1.out wr q hB hlt
      have hBa := hB.alloc hB.size (.cells #[.int .u8 x.kind, .string x.text, vx, vy] 27)
      obtain ⟨g2, o2, ⟨x', ux, uy⟩, hyq, hym, rfl, hUy, b0, b1, b2, b3⟩ := hw2.out _ q hBa hlt'
      dsimp only at hVz a0 a1 a2 a3 hUy b0 b1 b2 b3
      obtain ⟨Ax, nx, cx, Ay, ny, cy, rfl, rfl⟩ := hVz.forms
      obtain ⟨Bx, mx, ex, By, my, ey, rfl, rfl⟩ := hUy.forms
      have hstep := sameTo_step hzq hyq
      rw [hsm, Bool.true_and] at hstep
      have hbs := hB.size
      have hBb := hBa.alloc (by simp; omega) (.cells #[.int .u8 x'.kind, .string x'.text, .slice Bx mx ex, .slice By my ey] 27)
      have hcall := hp.out _ x x' _ _ _ _ (List.mem_map_of_mem (f := (·.1)) hzm) (List.mem_map_of_mem (f := (·.1)) hym) hBb ((hVz.alloc _).alloc _) (hUy.alloc _)
      obtain ⟨r, hr⟩ : ∃ r, jsame x x' = r := ⟨_, rfl⟩
      dsimp only at hstep
      rw [hr] at hstep hcall
      have hfq := hff.out (q + 1)
      rw [hstep] at hfq
      clear hB hBa hVz hUy hzq hzm hyq hym hw1 hw2 hp hsm hr hff hfin
      replace hcall := Lib.hid hcall
      replace hstep := Lib.hid hstep
      replace hfq := Lib.hid hfq
      replace hBb := Lib.hid hBb
      go_wp2_with fail
      refine hcall.out.mono ?_
      rintro e w1 ⟨rfl, hB1⟩
      have hB2 := hBb.out.trans (hB1.mono (by simp; omega))
      clear hcall hBb hB1 a0 a1 a2 a3 b0 b1 b2 b3
      replace hB2 := Lib.hid hB2
      cases r
      · have hJf : J = false := hfq.out rfl
        subst hJf
        clear hfq hstep
        go_wp2_with fail
        go_ret
        exact ⟨rfl, hB2.out⟩
      · clear hfq
        go_wp2_with fail
        go_roundw
        case rel => exact ⟨q + 1, by omega, by go_num, hstep.out, hB2.out⟩
        case measure => simp [intOf]; omega
    · obtain rfl : q = zs.length := by omega
      have hJt : J = true := by rw [← hfin.out]; exact hsm
      subst hJt
      clear hw1 hw2 hp hsm hff hfin
      replace hB := Lib.hid hB
      go_wp2_with fail
      go_ret
      exact ⟨rfl, hB.out⟩
end Go.Proofs.YthmojpcaagnfkaaGreatDoor
