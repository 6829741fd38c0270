/-
  The walk of the document's JSON reader: a value.
-/
import Derived.Test.YtamcbgkppgdniaaGreatDoorRjc
import Derived.Test.YtamcbgkppgdniaaGreatDoorJmq
import Derived.Test.YtamcbgkppgdniaaGreatDoorJnc
import Derived.Test.YtamcbgkppgdniaaGreatDoorJsD
namespace Go.Proofs.YtamcbgkppgdniaaGreatDoor
open Go.RowKit

theorem rest_drop (S : ByteArray) (k n : Nat) : rest S (k + n) = (rest S k).drop n := by
  unfold rest
  rw [List.drop_drop]
theorem pre_len {S : ByteArray} {k : Nat} {p : List UInt8} (h : p.isPrefixOf (rest S k) = true) (hp : 0 < p.length) : k + p.length ≤ S.size := by
  have h1 := (List.isPrefixOf_iff_prefix.1 h).length_le
  rw [rest_len] at h1
  omega
theorem lay4_but (W : World) (A : Nat) (a1 a2 a3 a4 : Value) : But W.heap.size A W (lay4 W A 0 a1 a2 a3 a4) := by
  unfold lay4
  exact ((((But.refl _ A W).set 0 a1).set 1 a2).set 2 a3).set 3 a4
theorem RK.more {w : World} {b at' it : Nat} {S : ByteArray} {e : Int} (h : RK w b S at' it e) : RK (w.setCell ⟨b, 2, none⟩ (.int .i64 ((it : Int) + 1))) b S at' (it + 1) e := by
  have := Cel.set h 2 (.int .i64 ((it : Int) + 1))
  exact this
def boxJ (W : World) (A : Nat) : Prop := Cel W A 25 #[.int .u8 0, .string ⟨#[]⟩, .slice none 0 0, .slice none 0 0]
theorem boxJ.cells {W : World} {A : Nat} (h : boxJ W A) : (W.cell? ⟨A, 0, none⟩ = some (.int .u8 0) ∧ W.cell? ⟨A, 1, none⟩ = some (.string ⟨#[]⟩) ∧ W.cell? ⟨A, 2, none⟩ = some (.slice none 0 0) ∧ W.cell? ⟨A, 3, none⟩ = some (.slice none 0 0)) ∧
    (W.frozen? ⟨A, 0, none⟩ = false ∧ W.frozen? ⟨A, 1, none⟩ = false ∧ W.frozen? ⟨A, 2, none⟩ = false ∧ W.frozen? ⟨A, 3, none⟩ = false) :=
  ⟨⟨Cel.cell h 0, Cel.cell h 1, Cel.cell h 2, Cel.cell h 3⟩, Cel.froz h 0, Cel.froz h 1, Cel.froz h 2, Cel.froz h 3⟩
/-- On the way through a value. -/
structure RV (b k it : Nat) (S : ByteArray) (e : Int) (w W : World) : Prop where
  rk : RK W b S k it e
  but : But w.heap.size b w W
  lt : b < w.heap.size
  sz : w.heap.size + 1 ≤ W.heap.size
  bx : boxJ W w.heap.size
theorem RV.step {b k k' it it' : Nat} {S : ByteArray} {e e' : Int} {w W W' : World} (h : RV b k it S e w W) (hb : But W.heap.size b W W') (hr : RK W' b S k' it' e') : RV b k' it' S e' w W' :=
  ⟨hr, h.but.trans (hb.mono h.but.size), h.lt, Nat.le_trans h.sz hb.size, Cel.but h.bx hb (Cel.lt h.bx) (by have := h.lt; omega)⟩
/-- A flat value's end. -/
theorem RV.flat {b k0 i0 k it : Nat} {S : ByteArray} {e : Int} {w W : World} {X : JR} (h : RV b k it S e w W) (h1 : k0 ≤ k) (h2 : k ≤ S.size) (h3 : it ≤ 65537) (kd : Int) (t : ByteArray) (hk0 : 0 ≤ kd) (hk1 : kd ≤ 255)
    (hX : (e = 0 ∧ X = .ok (⟨kd, t, [], []⟩, it, rest S k) ∧ it ≤ 65536 ∧ i0 < it) ∨ (e ≠ 0 ∧ X = .error e)) :
    RValEnd b k0 i0 S X w (.returned (.agg #[.int .u8 kd, .string t, .slice none 0 0, .slice none 0 0])) (lay4 W w.heap.size 0 (.int .u8 kd) (.string t) (.slice none 0 0) (.slice none 0 0)) := by
  have := h.lt
  exact ⟨lay_but h.but (Nat.le_refl _) _ _ _ _, k, it, e, _, _, ⟨kd, t, [], []⟩, rfl, (lay4_other W _ _ _ _ _ _ (by omega)).trans h.rk, h1, h2, h3, flat_own _ _ _ _ _ _ _ hk0 hk1, hX⟩
/-- A list's end. -/
theorem RV.rows {b k0 i0 k it B : Nat} {S : ByteArray} {e : Int} {w W : World} {X : JR} {vN vL : Value} {ns : List ByteArray} {l : List Jsn} {ws : List OE} (h : RV b k it S e w W) (h1 : k0 ≤ k) (h2 : k ≤ S.size) (h3 : it ≤ 65537) (kd : Int) (hk0 : 0 ≤ kd) (hk1 : kd ≤ 255)
    (hO : ORow W B vN vL ns l ws) (hB : w.heap.size < B) (hBW : B ≤ W.heap.size)
    (hX : (e = 0 ∧ X = .ok (⟨kd, ⟨#[]⟩, ns, l⟩, it, rest S k) ∧ it ≤ 65536 ∧ i0 < it) ∨ (e ≠ 0 ∧ X = .error e)) :
    RValEnd b k0 i0 S X w (.returned (.agg #[.int .u8 kd, .string ⟨#[]⟩, vN, vL])) (lay4 W w.heap.size 0 (.int .u8 kd) (.string ⟨#[]⟩) vN vL) := by
  have := h.lt
  have hO2 := hO.but (lay4_but W w.heap.size (.int .u8 kd) (.string ⟨#[]⟩) vN vL) hB
  have hs := lay4_size W w.heap.size 0 (.int .u8 kd) (.string ⟨#[]⟩) vN vL
  obtain ⟨q1, q2, q3⟩ := hO2
  exact ⟨lay_but h.but (Nat.le_refl _) _ _ _ _, k, it, e, vN, vL, ⟨kd, ⟨#[]⟩, ns, l⟩, rfl, (lay4_other W _ _ _ _ _ _ (by omega)).trans h.rk, h1, h2, h3, mk_own3 hk0 hk1 q1 q2 q3 hB (by omega), hX⟩
theorem up_ok {Y : Except Int (SA × List UInt8)} {it : Nat} {ns : List ByteArray} {l : List Jsn} {r : List UInt8} (h : upG Y = .ok ((it, ns, l), r)) : Y = .ok ((it, l), r) ∧ ns = [] := by
  unfold upG at h
  split at h
  · cases h
  · injection h with h
    injection h with h1 h2
    injection h1 with h1 h3
    injection h3 with h3 h4
    subst h1; subst h2; subst h4
    exact ⟨rfl, h3.symm⟩
theorem up_err {Y : Except Int (SA × List UInt8)} {c : Int} (h : upG Y = .error c) : Y = .error c := by
  unfold upG at h
  split at h
  · injection h with h; rw [h]
  · cases h
def ValR (b : Nat) (S : ByteArray) (d : Int) (val : Nat → List UInt8 → JR) : Prop :=
  ∀ (k it : Nat) (e : Int) (W : World), RK W b S k it e → k ≤ S.size → it ≤ 65536 → Calls Tryz.prog 87 #[.pointer (some ⟨b, 0, none⟩), .int .i64 d] W (RValEnd b k it S (if e = 0 then val it (rest S k) else .error e) W)
set_option maxRecDepth 100000 in
set_option maxHeartbeats 16000000 in
theorem rrValue_any (b : Nat) (S : ByteArray) (hS : S.size ≤ 200000) : ∀ (f : Nat) (d : Int), d + f = 65 → 1 ≤ d → ValR b S d (fun it s => jval ownL Lib.validD f it s) := by
  intro f
  induction f with
  | zero =>
    intro d hdf hd1 k it e w hk hks hit
    have hd : 64 < d := by omega
    have hV : RV b k it S e w (w.alloc (.cells #[.int .u8 0, .string ⟨#[]⟩, .slice none 0 0, .slice none 0 0] 25)) := ⟨hk.below ((Below.refl _ _).alloc (Nat.le_refl _) _), But.of ((Below.refl _ _).alloc (Nat.le_refl _) _), hk.lt, by simp, Cel.fresh _ _ _⟩
    obtain ⟨W0, hW0⟩ : ∃ W0, w.alloc (.cells #[.int .u8 0, .string ⟨#[]⟩, .slice none 0 0, .slice none 0 0] 25) = W0 := ⟨_, rfl⟩
    rw [hW0] at hV
    have hfa := Lib.hid (rrFail_any b k it S e 61 W0 hV.rk)
    obtain ⟨e1, he1⟩ : ∃ e1, (if e = 0 then 61 else e) = e1 := ⟨_, rfl⟩
    have he10 : e1 ≠ 0 := by
      rw [← he1]
      split
      · decide
      · assumption
    have hX : (if e = 0 then jval ownL Lib.validD 0 it (rest S k) else .error e : JR) = .error e1 := by
      rw [← he1]
      split <;> rfl
    rw [hX]
    have hib : (it : Int) ≤ 65536 := by omega
    have hi0 : (0 : Int) ≤ (it : Int) := by omega
    replace hW0 := Lib.hid hW0
    rw [he1] at hfa
    clear hk he1 hX
    go_enter Tryz.func87, Tryz.ntmps87
    go_upto_region 1 with fail
    rw [hW0.out]
    go_wp2_with fail
    refine hfa.out.mono ?_
    rintro en v1 ⟨rfl, hb1, hk1⟩
    replace hV := hV.step hb1 hk1
    clear hfa hb1 hk1 hW0
    obtain ⟨p0, p1, p2, p3⟩ := hV.rk.cells
    have f2 := Cel.froz hV.rk 2
    have hV2 := hV.step ((But.refl _ b v1).set 2 (.int .i64 ((it : Int) + 1))) hV.rk.more
    replace hV := Lib.hid hV
    obtain ⟨v2, hv2⟩ : ∃ v2, v1.setCell ⟨b, 2, none⟩ (.int .i64 ((it : Int) + 1)) = v2 := ⟨_, rfl⟩
    rw [hv2] at hV2
    replace hv2 := Lib.hid hv2
    go_upto_region 4 with fail
    rw [hv2.out]
    clear hv2 hV p0 p1 p2 p3 f2
    obtain ⟨p0, p1, p2, p3⟩ := hV2.rk.cells
    by_cases hbig : it = 65536
    · have hc : (65536 : Int) < ((it + 1 : Nat) : Int) := by omega
      have hfa := Lib.hid (rrFail_any b k (it + 1) S e1 40 v2 hV2.rk)
      rw [if_neg he10] at hfa
      obtain ⟨i2, hi2⟩ : ∃ i2, it + 1 = i2 := ⟨_, rfl⟩
      rw [hi2] at hc hfa hV2 p2
      replace hV2 := Lib.hid hV2
      clear p0 p1 p3
      go_wp2_with fail
      refine hfa.out.mono ?_
      rintro en v3 ⟨rfl, hb3, hk3⟩
      have hV3 := hV2.out.step hb3 hk3
      clear hfa hb3 hk3 hV2 p2
      obtain ⟨p0, p1, p2, p3⟩ := hV3.rk.cells
      have hne1 : (e1 != 0) = true := by simp [he10]
      obtain ⟨⟨x0, x1, x2, x3⟩, y0, y1, y2, y3⟩ := hV3.bx.cells
      replace hV3 := Lib.hid hV3
      go_wp2_with fail
      exact bodyPost_ret (v := .agg #[.int .u8 0, .string ⟨#[]⟩, .slice none 0 0, .slice none 0 0]) (by simp [results, Tryz.results87, go_sem, x0, x1, x2, x3]) rfl (hV3.out.flat (Nat.le_refl _) hks (by omega) 0 ⟨#[]⟩ (by decide) (by decide) (.inr ⟨he10, rfl⟩))
    · have hc : ¬ (65536 : Int) < ((it + 1 : Nat) : Int) := by omega
      obtain ⟨i2, hi2⟩ : ∃ i2, it + 1 = i2 := ⟨_, rfl⟩
      rw [hi2] at hc hV2 p2
      have hV3 := hV2
      clear hV2
      have hne1 : (e1 != 0) = true := by simp [he10]
      obtain ⟨⟨x0, x1, x2, x3⟩, y0, y1, y2, y3⟩ := hV3.bx.cells
      replace hV3 := Lib.hid hV3
      go_wp2_with fail
      exact bodyPost_ret (v := .agg #[.int .u8 0, .string ⟨#[]⟩, .slice none 0 0, .slice none 0 0]) (by simp [results, Tryz.results87, go_sem, x0, x1, x2, x3]) rfl (hV3.out.flat (Nat.le_refl _) hks (by omega) 0 ⟨#[]⟩ (by decide) (by decide) (.inr ⟨he10, rfl⟩))
  | succ f ih =>
    intro d hdf hd1 k it e w hk hks hit
    have hd : ¬ 64 < d := by omega
    have hV : RV b k it S e w (w.alloc (.cells #[.int .u8 0, .string ⟨#[]⟩, .slice none 0 0, .slice none 0 0] 25)) := ⟨hk.below ((Below.refl _ _).alloc (Nat.le_refl _) _), But.of ((Below.refl _ _).alloc (Nat.le_refl _) _), hk.lt, by simp, Cel.fresh _ _ _⟩
    obtain ⟨W0, hW0⟩ : ∃ W0, w.alloc (.cells #[.int .u8 0, .string ⟨#[]⟩, .slice none 0 0, .slice none 0 0] 25) = W0 := ⟨_, rfl⟩
    rw [hW0] at hV
    have hib : (it : Int) ≤ 65536 := by omega
    have hi0 : (0 : Int) ≤ (it : Int) := by omega
    obtain ⟨Z, hZ⟩ : ∃ Z, (if e = 0 then jval ownL Lib.validD (f + 1) it (rest S k) else .error e : JR) = Z := ⟨_, rfl⟩
    show Calls _ _ _ _ (RValEnd b k it S (if e = 0 then jval ownL Lib.validD (f + 1) it (rest S k) else .error e) w)
    rw [hZ]
    unfold jval at hZ
    replace hW0 := Lib.hid hW0
    replace ih := Lib.hid ih
    clear hk
    go_enter Tryz.func87, Tryz.ntmps87
    go_upto_region 1 with fail
    rw [hW0.out]
    clear hW0
    obtain ⟨p0, p1, p2, p3⟩ := hV.rk.cells
    have f2 := Cel.froz hV.rk 2
    have hV2 := hV.step ((But.refl _ b W0).set 2 (.int .i64 ((it : Int) + 1))) hV.rk.more
    replace hV := Lib.hid hV
    obtain ⟨v2, hv2⟩ : ∃ v2, W0.setCell ⟨b, 2, none⟩ (.int .i64 ((it : Int) + 1)) = v2 := ⟨_, rfl⟩
    rw [hv2] at hV2
    replace hv2 := Lib.hid hv2
    go_upto_region 4 with fail
    rw [hv2.out]
    clear hv2 hV p0 p1 p2 p3 f2
    obtain ⟨p0, p1, p2, p3⟩ := hV2.rk.cells
    by_cases hbig : it = 65536
    · have hc : (65536 : Int) < ((it + 1 : Nat) : Int) := by omega
      rw [if_pos (show 65536 < it + 1 by omega)] at hZ
      have hfa := Lib.hid (rrFail_any b k (it + 1) S e 40 v2 hV2.rk)
      obtain ⟨e1, he1⟩ : ∃ e1, (if e = 0 then 40 else e) = e1 := ⟨_, rfl⟩
      have he10 : e1 ≠ 0 := by
        rw [← he1]
        split
        · decide
        · assumption
      have hX : Z = .error e1 := by
        rw [← he1, ← hZ]
        split <;> rfl
      subst hX
      rw [he1] at hfa
      obtain ⟨i2, hi2⟩ : ∃ i2, it + 1 = i2 := ⟨_, rfl⟩
      rw [hi2] at hc hfa hV2 p2
      replace hV2 := Lib.hid hV2
      clear p0 p1 p3 he1 hZ
      go_wp2_with fail
      refine hfa.out.mono ?_
      rintro en v3 ⟨rfl, hb3, hk3⟩
      have hV3 := hV2.out.step hb3 hk3
      clear hfa hb3 hk3 hV2 p2
      obtain ⟨p0, p1, p2, p3⟩ := hV3.rk.cells
      have hne1 : (e1 != 0) = true := by simp [he10]
      obtain ⟨⟨x0, x1, x2, x3⟩, y0, y1, y2, y3⟩ := hV3.bx.cells
      replace hV3 := Lib.hid hV3
      go_wp2_with fail
      exact bodyPost_ret (v := .agg #[.int .u8 0, .string ⟨#[]⟩, .slice none 0 0, .slice none 0 0]) (by simp [results, Tryz.results87, go_sem, x0, x1, x2, x3]) rfl (hV3.out.flat (Nat.le_refl _) hks (by omega) 0 ⟨#[]⟩ (by decide) (by decide) (.inr ⟨he10, rfl⟩))
    have hc : ¬ (65536 : Int) < ((it + 1 : Nat) : Int) := by omega
    rw [if_neg (show ¬ 65536 < it + 1 by omega)] at hZ
    obtain ⟨i2, hi2⟩ : ∃ i2, it + 1 = i2 := ⟨_, rfl⟩
    rw [hi2] at hc hV2 p2 hZ
    by_cases he : e = 0
    · subst he
      rw [if_pos rfl] at hZ
      have hin : i2 ≤ 65536 := by omega
      have hii : it < i2 := by omega
      clear p0 p1
      have hTk := rrTake_any b k i2 S ⟨#[110, 117, 108, 108]⟩ 0 _ hV2.rk hks (by omega) (by decide)
      rw [show (⟨#[110, 117, 108, 108]⟩ : ByteArray).data.toList = [110, 117, 108, 108] from rfl, show (⟨#[110, 117, 108, 108]⟩ : ByteArray).size = 4 from rfl] at hTk
      by_cases hq : ([110, 117, 108, 108] : List UInt8).isPrefixOf (rest S k) = true
      · rw [if_pos hq, ← rest_drop] at hZ
        rw [show (decide ((0 : Int) = 0) && ([110, 117, 108, 108] : List UInt8).isPrefixOf (rest S k)) = true by simp [hq], if_pos rfl] at hTk
        have hkn := pre_len hq (by decide)
        simp only [List.length_cons, List.length_nil] at hkn
        replace hTk := Lib.hid hTk
        replace hV2 := Lib.hid hV2
        subst hZ
        clear hq
        go_wp2_with fail
        refine hTk.out.mono ?_
        rintro en v3 ⟨rfl, hb3, hk3⟩
        have hV3 := hV2.out.step hb3 hk3
        clear hTk hb3 hk3 hV2
        obtain ⟨⟨x0, x1, x2, x3⟩, y0, y1, y2, y3⟩ := hV3.bx.cells
        replace hV3 := Lib.hid hV3
        go_wp2_with fail
        exact bodyPost_ret (v := .agg #[.int .u8 1, .string ⟨#[]⟩, .slice none 0 0, .slice none 0 0]) (by simp [results, Tryz.results87, go_sem, x0, x1, x2, x3]) rfl (hV3.out.flat (by omega) (by omega) (by omega) 1 ⟨#[]⟩ (by decide) (by decide) (.inl ⟨rfl, rfl, hin, hii⟩))
      rw [if_neg hq] at hZ
      rw [show (decide ((0 : Int) = 0) && ([110, 117, 108, 108] : List UInt8).isPrefixOf (rest S k)) = false by simp [hq], if_neg (by decide)] at hTk
      replace hTk := Lib.hid hTk
      replace hV2 := Lib.hid hV2
      clear hq
      go_wp2_with fail
      refine hTk.out.mono ?_
      rintro en v3 ⟨rfl, hb3, hk3⟩
      replace hV2 := hV2.out.step hb3 hk3
      clear hTk hb3 hk3 p2 p3
      have hTk := rrTake_any b k i2 S ⟨#[116, 114, 117, 101]⟩ 0 _ hV2.rk hks (by omega) (by decide)
      rw [show (⟨#[116, 114, 117, 101]⟩ : ByteArray).data.toList = [116, 114, 117, 101] from rfl, show (⟨#[116, 114, 117, 101]⟩ : ByteArray).size = 4 from rfl] at hTk
      by_cases hq : ([116, 114, 117, 101] : List UInt8).isPrefixOf (rest S k) = true
      · rw [if_pos hq, ← rest_drop] at hZ
        rw [show (decide ((0 : Int) = 0) && ([116, 114, 117, 101] : List UInt8).isPrefixOf (rest S k)) = true by simp [hq], if_pos rfl] at hTk
        have hkn := pre_len hq (by decide)
        simp only [List.length_cons, List.length_nil] at hkn
        replace hTk := Lib.hid hTk
        replace hV2 := Lib.hid hV2
        subst hZ
        clear hq
        go_wp2_with fail
        refine hTk.out.mono ?_
        rintro en v3 ⟨rfl, hb3, hk3⟩
        have hV3 := hV2.out.step hb3 hk3
        clear hTk hb3 hk3 hV2
        obtain ⟨⟨x0, x1, x2, x3⟩, y0, y1, y2, y3⟩ := hV3.bx.cells
        replace hV3 := Lib.hid hV3
        go_wp2_with fail
        exact bodyPost_ret (v := .agg #[.int .u8 2, .string ⟨#[]⟩, .slice none 0 0, .slice none 0 0]) (by simp [results, Tryz.results87, go_sem, x0, x1, x2, x3]) rfl (hV3.out.flat (by omega) (by omega) (by omega) 2 ⟨#[]⟩ (by decide) (by decide) (.inl ⟨rfl, rfl, hin, hii⟩))
      rw [if_neg hq] at hZ
      rw [show (decide ((0 : Int) = 0) && ([116, 114, 117, 101] : List UInt8).isPrefixOf (rest S k)) = false by simp [hq], if_neg (by decide)] at hTk
      replace hTk := Lib.hid hTk
      replace hV2 := Lib.hid hV2
      clear hq
      go_wp2_with fail
      refine hTk.out.mono ?_
      rintro en v3 ⟨rfl, hb3, hk3⟩
      replace hV2 := hV2.out.step hb3 hk3
      clear hTk hb3 hk3
      have hTk := rrTake_any b k i2 S ⟨#[102, 97, 108, 115, 101]⟩ 0 _ hV2.rk hks (by omega) (by decide)
      rw [show (⟨#[102, 97, 108, 115, 101]⟩ : ByteArray).data.toList = [102, 97, 108, 115, 101] from rfl, show (⟨#[102, 97, 108, 115, 101]⟩ : ByteArray).size = 5 from rfl] at hTk
      by_cases hq : ([102, 97, 108, 115, 101] : List UInt8).isPrefixOf (rest S k) = true
      · rw [if_pos hq, ← rest_drop] at hZ
        rw [show (decide ((0 : Int) = 0) && ([102, 97, 108, 115, 101] : List UInt8).isPrefixOf (rest S k)) = true by simp [hq], if_pos rfl] at hTk
        have hkn := pre_len hq (by decide)
        simp only [List.length_cons, List.length_nil] at hkn
        replace hTk := Lib.hid hTk
        replace hV2 := Lib.hid hV2
        subst hZ
        clear hq
        go_wp2_with fail
        refine hTk.out.mono ?_
        rintro en v3 ⟨rfl, hb3, hk3⟩
        have hV3 := hV2.out.step hb3 hk3
        clear hTk hb3 hk3 hV2
        obtain ⟨⟨x0, x1, x2, x3⟩, y0, y1, y2, y3⟩ := hV3.bx.cells
        replace hV3 := Lib.hid hV3
        go_wp2_with fail
        exact bodyPost_ret (v := .agg #[.int .u8 3, .string ⟨#[]⟩, .slice none 0 0, .slice none 0 0]) (by simp [results, Tryz.results87, go_sem, x0, x1, x2, x3]) rfl (hV3.out.flat (by omega) (by omega) (by omega) 3 ⟨#[]⟩ (by decide) (by decide) (.inl ⟨rfl, rfl, hin, hii⟩))
      rw [if_neg hq] at hZ
      rw [show (decide ((0 : Int) = 0) && ([102, 97, 108, 115, 101] : List UInt8).isPrefixOf (rest S k)) = false by simp [hq], if_neg (by decide)] at hTk
      replace hTk := Lib.hid hTk
      replace hV2 := Lib.hid hV2
      clear hq
      go_wp2_with fail
      refine hTk.out.mono ?_
      rintro en v3 ⟨rfl, hb3, hk3⟩
      replace hV2 := hV2.out.step hb3 hk3
      clear hTk hb3 hk3
      have hN := rrNext_any b k i2 S 0 _ hV2.rk
      by_cases hq : ([34] : List UInt8).isPrefixOf (rest S k) = true
      · rw [if_pos hq] at hZ
        obtain ⟨r, hr⟩ := pre_cons hq
        have hn : nextI 0 (rest S k) = 34 := by rw [hr]; rfl
        rw [hn] at hN
        have hStr := fun (W : World) (h : RK W b S k i2 0) => rrStr_any b k i2 S W h hks hS
        have hjt : jtxt (rest S k) = jStr Lib.validD [] ((rest S k).drop 1) := by rw [hr]; rfl
        rw [hjt] at hStr
        obtain ⟨J, hJ⟩ : ∃ J, jStr Lib.validD [] ((rest S k).drop 1) = J := ⟨_, rfl⟩
        rw [hJ] at hStr hZ
        replace hN := Lib.hid hN
        replace hV2 := Lib.hid hV2
        replace hStr := Lib.hid hStr
        clear hq hr hn hjt hJ
        go_wp2_with fail
        refine hN.out.mono ?_
        rintro en v3 ⟨rfl, hb3⟩
        have hV3 := hV2.out.step (But.of hb3) (hV2.out.rk.below hb3)
        have hSt3 := Lib.hid (hStr.out _ hV3.rk)
        replace hV3 := Lib.hid hV3
        clear hN hb3 hV2 hStr
        go_wp2_with fail
        refine hSt3.out.mono ?_
        rintro en v4 ⟨hb4, t, k4, rfl, ha4, hs4, htz, hX4⟩
        obtain ⟨e4, hk4, hfin⟩ : ∃ e4, RK v4 b S k4 i2 e4 ∧ ((e4 = 0 ∧ Z = .ok (⟨5, t, [], []⟩, i2, rest S k4) ∧ i2 ≤ 65536 ∧ it < i2) ∨ (e4 ≠ 0 ∧ Z = .error e4)) := by
          rcases J with _ | ⟨t', r⟩
          · exact ⟨4, hX4, .inr ⟨by decide, hZ.symm⟩⟩
          · obtain ⟨h1, h2, h3⟩ := hX4
            refine ⟨0, h1, .inl ⟨rfl, ?_, hin, hii⟩⟩
            rw [h2, h3]
            exact hZ.symm
        have hV4 := hV3.out.step hb4 hk4
        clear hSt3 hV3 hb4 hX4 hk4 hZ
        obtain ⟨⟨x0, x1, x2, x3⟩, y0, y1, y2, y3⟩ := hV4.bx.cells
        replace hV4 := Lib.hid hV4
        replace hfin := Lib.hid hfin
        go_wp2_with fail
        exact bodyPost_ret (v := .agg #[.int .u8 5, .string t, .slice none 0 0, .slice none 0 0]) (by simp [results, Tryz.results87, go_sem, x0, x1, x2, x3]) rfl (hV4.out.flat ha4 hs4 (by omega) 5 t (by decide) (by decide) hfin.out)
      rw [if_neg hq] at hZ
      have hn : (nextI 0 (rest S k) == 34) = false := by
        unfold nextI
        rw [if_pos rfl]
        rcases hr : rest S k with _ | ⟨c, r⟩
        · rfl
        · rw [hr] at hq
          dsimp only
          have : c.toNat ≠ 34 := fun h => hq ((pre_eq 34 c r).2 (UInt8.toNat_inj.1 h))
          simpa using (by omega : (c.toNat : Int) ≠ 34)
      obtain ⟨nx, hnx⟩ : ∃ nx, nextI 0 (rest S k) = nx := ⟨_, rfl⟩
      rw [hnx] at hN hn
      replace hN := Lib.hid hN
      replace hV2 := Lib.hid hV2
      clear hq hnx
      go_wp2_with fail
      refine hN.out.mono ?_
      rintro en v3 ⟨rfl, hb3⟩
      replace hV2 := hV2.out.step (But.of hb3) (hV2.out.rk.below hb3)
      clear hN hb3
      have hTk := rrTake_any b k i2 S ⟨#[91]⟩ 0 _ hV2.rk hks (by omega) (by decide)
      rw [show (⟨#[91]⟩ : ByteArray).data.toList = [91] from rfl, show (⟨#[91]⟩ : ByteArray).size = 1 from rfl] at hTk
      by_cases hq : ([91] : List UInt8).isPrefixOf (rest S k) = true
      · rw [if_pos hq, ← rest_drop] at hZ
        rw [show (decide ((0 : Int) = 0) && ([91] : List UInt8).isPrefixOf (rest S k)) = true by simp [hq], if_pos rfl] at hTk
        have hkn := pre_len hq (by decide)
        simp only [List.length_cons, List.length_nil] at hkn
        have hLs := fun (W : World) (h : RK W b S (k + 1) i2 0) => rrList_any false (fun it s => jval ownL Lib.validD f it s) (oneG_shorter fun it s j it' r h => (jval_shorter ownL Lib.validD f it s j it' r h).1) 93 (by decide) b (k + 1) i2 S d (by omega) (by omega) hS (ih.out (d + 1) (by omega) (by omega)) W h (by omega) hin
        obtain ⟨Y, hY⟩ : ∃ Y, jList (jitA fun it s => jval ownL Lib.validD f it s) 93 (i2, []) (rest S (k + 1)) = Y := ⟨_, rfl⟩
        rw [hY] at hZ
        rw [show ofL [93] = ⟨#[93]⟩ from rfl] at hLs
        replace hTk := Lib.hid hTk
        replace hV2 := Lib.hid hV2
        replace hLs := Lib.hid hLs
        clear hq
        go_wp2_with fail
        refine hTk.out.mono ?_
        rintro en v3 ⟨rfl, hb3, hk3⟩
        have hL3 := Lib.hid (hLs.out _ hk3)
        have hV3 := Lib.hid (hV2.out.step hb3 hk3)
        clear hTk hb3 hk3 hV2 hLs
        go_wp2_with fail
        refine hL3.out.mono ?_
        rintro en v4 ⟨hb4, k4, i4, e4, vN, vL, ns, l, ws, rfl, hk4, ha4, hs4, hi4, hO4, hX4⟩
        rw [jList_up, hY] at hX4
        have hfin : (e4 = 0 ∧ Z = .ok (⟨6, ⟨#[]⟩, [], l⟩, i4, rest S k4) ∧ i4 ≤ 65536 ∧ it < i4) ∨ (e4 ≠ 0 ∧ Z = .error e4) := by
          rcases hX4 with ⟨h1, h2, h3, h4⟩ | ⟨h1, h2, _, _⟩
          · obtain ⟨h5, h6⟩ := up_ok h2
            subst h6
            rw [h5] at hZ
            exact .inl ⟨h1, hZ.symm, h3, by omega⟩
          · rw [up_err h2] at hZ
            exact .inr ⟨h1, hZ.symm⟩
        have hV4 := hV3.out.step hb4 hk4
        have hB3 := hV3.out.sz
        have hB4 := hb4.size
        have hO5 : ORow v4 v3.heap.size (.slice none 0 0) vL [] l ws := ⟨World.ownsRow_nil _ _ _ _, hO4.2.1, fun gn h => by cases h⟩
        clear hL3 hV3 hb4 hk4 hZ hX4 hO4 hY
        obtain ⟨⟨AN, cN, hvN⟩, ⟨AL, cL, hvL⟩⟩ := hO5.form
        obtain ⟨⟨x0, x1, x2, x3⟩, y0, y1, y2, y3⟩ := hV4.bx.cells
        replace hV4 := Lib.hid hV4
        replace hfin := Lib.hid hfin
        replace hO5 := Lib.hid hO5
        subst hvL
        clear hvN
        go_wp2_with fail
        exact bodyPost_ret (v := .agg #[.int .u8 6, .string ⟨#[]⟩, .slice none 0 0, .slice AL l.length cL]) (by simp [results, Tryz.results87, go_sem, x0, x1, x2, x3]) rfl (hV4.out.rows (by omega) hs4 hi4 6 (by decide) (by decide) hO5.out (by omega) (by omega) hfin.out)
      rw [if_neg hq] at hZ
      rw [show (decide ((0 : Int) = 0) && ([91] : List UInt8).isPrefixOf (rest S k)) = false by simp [hq], if_neg (by decide)] at hTk
      replace hTk := Lib.hid hTk
      replace hV2 := Lib.hid hV2
      clear hq
      go_wp2_with fail
      refine hTk.out.mono ?_
      rintro en v3' ⟨rfl, hb3, hk3⟩
      replace hV2 := hV2.out.step hb3 hk3
      clear hTk hb3 hk3
      have hTk := rrTake_any b k i2 S ⟨#[123]⟩ 0 _ hV2.rk hks (by omega) (by decide)
      rw [show (⟨#[123]⟩ : ByteArray).data.toList = [123] from rfl, show (⟨#[123]⟩ : ByteArray).size = 1 from rfl] at hTk
      by_cases hq : ([123] : List UInt8).isPrefixOf (rest S k) = true
      · rw [if_pos hq, ← rest_drop] at hZ
        rw [show (decide ((0 : Int) = 0) && ([123] : List UInt8).isPrefixOf (rest S k)) = true by simp [hq], if_pos rfl] at hTk
        have hkn := pre_len hq (by decide)
        simp only [List.length_cons, List.length_nil] at hkn
        have hLs := fun (W : World) (h : RK W b S (k + 1) i2 0) => rrList_any true (fun it s => jval ownL Lib.validD f it s) (oneG_shorter fun it s j it' r h => (jval_shorter ownL Lib.validD f it s j it' r h).1) 125 (by decide) b (k + 1) i2 S d (by omega) (by omega) hS (ih.out (d + 1) (by omega) (by omega)) W h (by omega) hin
        obtain ⟨Y, hY⟩ : ∃ Y, jList (jitO Lib.validD fun it s => jval ownL Lib.validD f it s) 125 (i2, [], []) (rest S (k + 1)) = Y := ⟨_, rfl⟩
        rw [hY] at hZ
        rw [show ofL [125] = ⟨#[125]⟩ from rfl] at hLs
        replace hTk := Lib.hid hTk
        replace hV2 := Lib.hid hV2
        replace hLs := Lib.hid hLs
        clear hq
        go_wp2_with fail
        refine hTk.out.mono ?_
        rintro en v3 ⟨rfl, hb3, hk3⟩
        have hL3 := Lib.hid (hLs.out _ hk3)
        have hV3 := Lib.hid (hV2.out.step hb3 hk3)
        clear hTk hb3 hk3 hV2 hLs
        go_wp2_with fail
        refine hL3.out.mono ?_
        rintro en v4 ⟨hb4, k4, i4, e4, vN, vL, ns, l, ws, rfl, hk4, ha4, hs4, hi4, hO4, hX4⟩
        rw [oneG_obj, hY] at hX4
        have hfin : (e4 = 0 ∧ Z = .ok (⟨7, ⟨#[]⟩, ns, l⟩, i4, rest S k4) ∧ i4 ≤ 65536 ∧ it < i4) ∨ (e4 ≠ 0 ∧ Z = .error e4) := by
          rcases hX4 with ⟨h1, h2, h3, h4⟩ | ⟨h1, h2, _, _⟩
          · rw [h2] at hZ
            exact .inl ⟨h1, hZ.symm, h3, by omega⟩
          · rw [h2] at hZ
            exact .inr ⟨h1, hZ.symm⟩
        have hV4 := hV3.out.step hb4 hk4
        have hB3 := hV3.out.sz
        have hB4 := hb4.size
        have hO5 := hO4
        clear hL3 hV3 hb4 hk4 hZ hX4 hO4 hY
        obtain ⟨⟨AN, cN, hvN⟩, ⟨AL, cL, hvL⟩⟩ := hO5.form
        obtain ⟨⟨x0, x1, x2, x3⟩, y0, y1, y2, y3⟩ := hV4.bx.cells
        replace hV4 := Lib.hid hV4
        replace hfin := Lib.hid hfin
        replace hO5 := Lib.hid hO5
        subst hvL
        subst hvN
        go_wp2_with fail
        exact bodyPost_ret (v := .agg #[.int .u8 7, .string ⟨#[]⟩, .slice AN ns.length cN, .slice AL l.length cL]) (by simp [results, Tryz.results87, go_sem, x0, x1, x2, x3]) rfl (hV4.out.rows (by omega) hs4 hi4 7 (by decide) (by decide) hO5.out (by omega) (by omega) hfin.out)
      rw [if_neg hq] at hZ
      rw [show (decide ((0 : Int) = 0) && ([123] : List UInt8).isPrefixOf (rest S k)) = false by simp [hq], if_neg (by decide)] at hTk
      replace hTk := Lib.hid hTk
      replace hV2 := Lib.hid hV2
      clear hq
      go_wp2_with fail
      refine hTk.out.mono ?_
      rintro en v3' ⟨rfl, hb3, hk3⟩
      replace hV2 := hV2.out.step hb3 hk3
      clear hTk hb3 hk3
      have hNm := Lib.hid (rrNumber_any b k i2 S _ hV2.rk hks hS)
      replace hV2 := Lib.hid hV2
      obtain ⟨Q, hQ⟩ : ∃ Q, ownL ((rest S k).takeWhile jnumc) = Q := ⟨_, rfl⟩
      rw [hQ] at hNm hZ
      clear hQ
      go_wp2_with fail
      refine hNm.out.mono ?_
      rintro en v4 ⟨hb4, k4, rfl, ha4, hs4, hD, hk4⟩
      have hfin : (Q.2 = 0 ∧ Z = .ok (⟨4, ofL Q.1, [], []⟩, i2, rest S k4) ∧ i2 ≤ 65536 ∧ it < i2) ∨ (Q.2 ≠ 0 ∧ Z = .error Q.2) := by
        by_cases h0 : Q.2 = 0
        · rw [if_pos h0] at hZ
          rw [hD]
          exact .inl ⟨h0, hZ.symm, hin, hii⟩
        · rw [if_neg h0] at hZ
          exact .inr ⟨h0, hZ.symm⟩
      have hV4 := hV2.out.step hb4 hk4
      clear hNm hV2 hb4 hk4 hZ
      obtain ⟨⟨x0, x1, x2, x3⟩, y0, y1, y2, y3⟩ := hV4.bx.cells
      replace hV4 := Lib.hid hV4
      replace hfin := Lib.hid hfin
      obtain ⟨T, hT⟩ : ∃ T, ofL Q.1 = T := ⟨_, rfl⟩
      rw [hT] at hfin ⊢
      go_wp2_with fail
      exact bodyPost_ret (v := .agg #[.int .u8 4, .string T, .slice none 0 0, .slice none 0 0]) (by simp [results, Tryz.results87, go_sem, x0, x1, x2, x3]) rfl (hV4.out.flat ha4 hs4 (by omega) 4 T (by decide) (by decide) hfin.out)
    · rw [if_neg he] at hZ
      subst hZ
      have he10 := he
      have hV3 := hV2
      clear hV2
      have hne1 : (e != 0) = true := by simp [he10]
      obtain ⟨⟨x0, x1, x2, x3⟩, y0, y1, y2, y3⟩ := hV3.bx.cells
      replace hV3 := Lib.hid hV3
      go_wp2_with fail
      exact bodyPost_ret (v := .agg #[.int .u8 0, .string ⟨#[]⟩, .slice none 0 0, .slice none 0 0]) (by simp [results, Tryz.results87, go_sem, x0, x1, x2, x3]) rfl (hV3.out.flat (Nat.le_refl _) hks (by omega) 0 ⟨#[]⟩ (by decide) (by decide) (.inr ⟨he10, rfl⟩))
end Go.Proofs.YtamcbgkppgdniaaGreatDoor


/-
  The walk of the document's Parse.
-/
namespace Go.Proofs.YtamcbgkppgdniaaGreatDoor
open Go.RowKit

theorem rest_zero (S : ByteArray) : rest S 0 = S.data.toList := rfl
/-- What is known on Parse's way. -/
structure RP (k it : Nat) (S : ByteArray) (e : Int) (w W : World) : Prop where
  rk : RK W (w.heap.size + 1) S k it e
  bel : Below w.heap.size w W
  sz : w.heap.size + 2 ≤ W.heap.size
  bx : boxJ W w.heap.size
theorem RP.step {k k' it it' : Nat} {S : ByteArray} {e e' : Int} {w W W' : World} (h : RP k it S e w W) (hb : But W.heap.size (w.heap.size + 1) W W') (hr : RK W' (w.heap.size + 1) S k' it' e') : RP k' it' S e' w W' :=
  ⟨hr, h.bel.trans (hb.below (by omega) (by have := h.sz; omega)), Nat.le_trans h.sz hb.size, Cel.but h.bx hb (Cel.lt h.bx) (by omega)⟩
theorem RP.zero {k it : Nat} {S : ByteArray} {e c : Int} {w W : World} (h : RP k it S e w W) : JsnEnd (.error c) w (.returned (.tuple #[.agg #[.int .u8 0, .string ⟨#[]⟩, .slice none 0 0, .slice none 0 0], .int .i64 c])) (lay4 W w.heap.size 0 (.int .u8 0) (.string ⟨#[]⟩) (.slice none 0 0) (.slice none 0 0)) := by
  refine ⟨?_, rfl⟩
  unfold lay4
  exact (((h.bel.setCell (p := ⟨w.heap.size, 0, none⟩) (Nat.le_refl _) _).setCell (p := ⟨w.heap.size, 1, none⟩) (Nat.le_refl _) _).setCell (p := ⟨w.heap.size, 2, none⟩) (Nat.le_refl _) _).setCell (p := ⟨w.heap.size, 3, none⟩) (Nat.le_refl _) _
theorem RP.value {k it lo hi : Nat} {S : ByteArray} {e : Int} {w W : World} {j : Jsn} {vn vl : Value} (h : RP k it S e w W) (hO : OwnJ W 9 25 j lo hi vn vl) (hl : w.heap.size < lo) (hh : hi ≤ W.heap.size) :
    JsnEnd (.ok j) w (.returned (.tuple #[.agg #[.int .u8 j.kind, .string j.text, vn, vl], .int .i64 0])) (lay4 W w.heap.size 0 (.int .u8 j.kind) (.string j.text) vn vl) := by
  refine ⟨?_, vn, vl, rfl, OwnJ.keep j hO (fun k h1 _ => lay4_other W _ _ _ _ _ _ (by omega)) (by omega) (by rw [lay4_size]; exact hh)⟩
  unfold lay4
  exact (((h.bel.setCell (p := ⟨w.heap.size, 0, none⟩) (Nat.le_refl _) _).setCell (p := ⟨w.heap.size, 1, none⟩) (Nat.le_refl _) _).setCell (p := ⟨w.heap.size, 2, none⟩) (Nat.le_refl _) _).setCell (p := ⟨w.heap.size, 3, none⟩) (Nat.le_refl _) _
set_option maxRecDepth 100000 in
set_option maxHeartbeats 8000000 in
theorem refParseJ_any (s : ByteArray) (w : World) (hs : s.size ≤ 200000) : Calls Tryz.prog 42 #[.string s] w (JsnEnd (jparse ownL Lib.validD s.data.toList) w) := by
  have hsz : s.data.toList.length = s.size := by rw [Array.length_toList]; rfl
  obtain ⟨W0, hW0⟩ : ∃ W0, (w.alloc (.cells #[.int .u8 0, .string ⟨#[]⟩, .slice none 0 0, .slice none 0 0] 25)).alloc (.cells #[.string s, .int .i64 0, .int .i64 0, .int .i64 0] 126) = W0 := ⟨_, rfl⟩
  have hV : RP 0 0 s 0 w W0 := by
    rw [← hW0]
    refine ⟨?_, ((Below.refl _ _).alloc (Nat.le_refl _) _).alloc (by simp) _, by simp, (Cel.fresh w 25 _).alloc _⟩
    have := Cel.fresh (w.alloc (.cells #[.int .u8 0, .string ⟨#[]⟩, .slice none 0 0, .slice none 0 0] 25)) 126 #[.string s, .int .i64 0, .int .i64 0, .int .i64 0]
    unfold RK
    simpa using this
  obtain ⟨Z, hZ⟩ : ∃ Z, jparse ownL Lib.validD s.data.toList = Z := ⟨_, rfl⟩
  rw [hZ]
  unfold jparse at hZ
  rw [hsz, if_neg (by omega)] at hZ
  have c1 : ¬ (262144 : Int) < (s.size : Int) := by omega
  have hBl := Lib.hid (rrBlanks_any (w.heap.size + 1) 0 0 s 0 W0 hV.rk (by omega) (by omega))
  replace hW0 := Lib.hid hW0
  replace hV := Lib.hid hV
  go_enter Tryz.func42, Tryz.ntmps42
  go_upto_region 4 with fail
  rw [hW0.out]
  clear hW0
  go_wp2_with fail
  refine hBl.out.mono ?_
  rintro en v1 ⟨rfl, hb1, k1, hk1, ha1, hs1, hj1, _⟩
  have hV1 := hV.out.step hb1 hk1
  rw [rest_zero] at hj1
  have hVal := rrValue_any (w.heap.size + 1) s hs 64 1 (by omega) (by omega) k1 0 0 v1 hk1 hs1 (by omega)
  rw [if_pos rfl] at hVal
  dsimp only at hVal
  rw [hj1 rfl] at hVal
  obtain ⟨X, hX⟩ : ∃ X, jval ownL Lib.validD 64 0 (jblk s.data.toList) = X := ⟨_, rfl⟩
  rw [hX] at hVal hZ
  replace hVal := Lib.hid hVal
  replace hV1 := Lib.hid hV1
  clear hBl hV hb1 hk1 hj1 hX
  go_wp2_with fail
  refine hVal.out.mono ?_
  rintro en v2 ⟨hb2, k2, i2, e2, vn, vl, j, rfl, hk2, ha2, hs2, hi2, hO2, hX2⟩
  obtain ⟨Ax, nx, cx, Ay, ny, cy, rfl, rfl⟩ := hO2.forms
  obtain ⟨v3, hv3⟩ : ∃ v3, v2.alloc (.cells #[.int .u8 j.kind, .string j.text, .slice Ax nx cx, .slice Ay ny cy] 25) = v3 := ⟨_, rfl⟩
  have hb3 : Below v2.heap.size v2 v3 := by rw [← hv3]; exact (Below.refl _ _).alloc (Nat.le_refl _) _
  have hC3 : Cel v3 v2.heap.size 25 #[.int .u8 j.kind, .string j.text, .slice Ax nx cx, .slice Ay ny cy] := by rw [← hv3]; exact Cel.fresh _ _ _
  have hV2 := hV1.out.step hb2 hk2
  have hV3 := hV2.step (But.of hb3) (hk2.below hb3)
  have hO3 := OwnJ.keep (w' := v3) j hO2 (fun k _ hk => hb3.block k hk) (Nat.le_refl _) (Nat.le_refl _)
  have hz1 := hV1.out.sz
  have hz2 := hb2.size
  have hz3 := hC3.lt
  have hBl := Lib.hid (rrBlanks_any (w.heap.size + 1) k2 i2 s e2 v3 hV3.rk hs2 (by omega))
  replace hv3 := Lib.hid hv3
  replace hO3 := Lib.hid hO3
  replace hC3 := Lib.hid hC3
  replace hV3 := Lib.hid hV3
  replace hX2 := Lib.hid hX2
  clear hVal hb2 hk2 hO2 hV1 hV2 hb3
  go_upto_region 6 with fail
  rw [hv3.out]
  clear hv3
  go_wp2_with fail
  refine hBl.out.mono ?_
  rintro en v4 ⟨rfl, hb4, k4, hk4, ha4, hs4, hj4, hz4⟩
  have hV4 := hV3.out.step hb4 hk4
  have hC4 := hC3.out.but hb4 hC3.out.lt (by omega)
  have hO4 := OwnJ.keep (w' := v4) j hO3.out (fun k h1 h2 => hb4.block k (by omega) (by omega)) (Nat.le_refl _) (Nat.le_refl _)
  have hz5 := hb4.size
  clear hBl hb4 hk4 hV3 hC3 hO3
  obtain ⟨p0, p1, p2, p3⟩ := hV4.rk.cells
  have hne : ¬ w.heap.size + 1 = w.heap.size := by omega
  by_cases he : e2 = 0
  · subst he
    obtain ⟨hX3, hX4⟩ : X = .ok (j, i2, rest s k2) ∧ i2 ≤ 65536 := by
      rcases hX2.out with ⟨_, h, h2, _⟩ | ⟨h, _⟩
      · exact ⟨h, h2⟩
      · exact absurd rfl h
    subst hX3
    dsimp only at hZ
    rw [← hj4 rfl] at hZ
    clear hX2 hj4 hz4
    by_cases hend : k4 < s.size
    · have hei : (k4 : Int) < (s.size : Int) := by omega
      rw [if_neg (by rw [rest_cons hend]; simp)] at hZ
      subst hZ
      have hfa := Lib.hid (rrFail0_any (w.heap.size + 1) k4 i2 s 4 v4 hV4.rk)
      replace hV4 := Lib.hid hV4
      clear hC4 hO4 p0 p2
      go_wp2_with fail
      refine hfa.out.mono ?_
      rintro en v5 ⟨rfl, hb5, hk5⟩
      have hV5 := hV4.out.step hb5 hk5
      clear hfa hb5 hk5 hV4 p1 p3
      obtain ⟨p0, p1, p2, p3⟩ := hV5.rk.cells
      obtain ⟨⟨x0, x1, x2, x3⟩, y0, y1, y2, y3⟩ := hV5.bx.cells
      have hfin := Lib.hid (RP.zero (c := 4) hV5)
      have hdw : ∀ a1 a2 a3 a4, lay4 v5.drew w.heap.size 0 a1 a2 a3 a4 = (lay4 v5 w.heap.size 0 a1 a2 a3 a4).drew := fun _ _ _ _ => rfl
      replace hV5 := Lib.hid hV5
      replace hdw := Lib.hid hdw
      clear p0 p1 p2
      go_wp2_with fail
      go_region
      all_goals
        go_wp2_with fail
        exact bodyPost_ret (v := .tuple #[.agg #[.int .u8 0, .string ⟨#[]⟩, .slice none 0 0, .slice none 0 0], .int .i64 4]) (by simp [results, Tryz.results42, go_sem, x0, x1, x2, x3]) rfl ⟨bel_drew hfin.out.1, rfl⟩
    · have hei : ¬ (k4 : Int) < (s.size : Int) := by omega
      rw [if_pos (rest_nil hend)] at hZ
      subst hZ
      have c0 := hC4.cell 0
      have c2 := hC4.cell 1
      have c3 := hC4.cell 2
      have c4 := hC4.cell 3
      simp only [List.getElem?_toArray, List.getElem?_cons_zero, List.getElem?_cons_succ] at c0 c2 c3 c4
      obtain ⟨⟨x0, x1, x2, x3⟩, y0, y1, y2, y3⟩ := hV4.bx.cells
      have hfin := Lib.hid (hV4.value hO4 (by omega) (by omega))
      clear hV4 hC4 hO4
      go_wp2_with fail
      exact bodyPost_ret (v := .tuple #[.agg #[.int .u8 j.kind, .string j.text, .slice Ax nx cx, .slice Ay ny cy], .int .i64 0]) (by simp [results, Tryz.results42, go_sem, x0, x1, x2, x3]) rfl hfin.out
  · have hX3 : X = .error e2 := by
      rcases hX2.out with ⟨h, _⟩ | ⟨_, h⟩
      · exact absurd h he
      · exact h
    subst hX3
    dsimp only at hZ
    subst hZ
    have he1 : (e2 == 0) = false := by simp [he]
    have he3 : (e2 != 0) = true := by simp [he]
    obtain ⟨⟨x0, x1, x2, x3⟩, y0, y1, y2, y3⟩ := hV4.bx.cells
    have hfin := Lib.hid (RP.zero (c := e2) hV4)
    clear hX2 hj4 hz4 hV4 hC4 hO4 p0 p1 p2
    go_wp2_with fail
    go_region
    all_goals
      go_wp2_with fail
      exact bodyPost_ret (v := .tuple #[.agg #[.int .u8 0, .string ⟨#[]⟩, .slice none 0 0, .slice none 0 0], .int .i64 e2]) (by simp [results, Tryz.results42, go_sem, x0, x1, x2, x3]) rfl ⟨bel_drew hfin.out.1, rfl⟩
end Go.Proofs.YtamcbgkppgdniaaGreatDoor


/-
  The walk of rostrumlaw05.JsonReads: the law answers true.
-/
namespace Go.Proofs.YtamcbgkppgdniaaGreatDoor
open Go.RowKit

theorem rlCel4 {W : World} {b : Nat} {x0 x1 x2 x3 : Value} (h : Cel W b 25 #[x0, x1, x2, x3]) : W.cell? ⟨b, 0, none⟩ = some x0 ∧ W.cell? ⟨b, 1, none⟩ = some x1 ∧ W.cell? ⟨b, 2, none⟩ = some x2 ∧ W.cell? ⟨b, 3, none⟩ = some x3 :=
  ⟨h.cell 0, h.cell 1, h.cell 2, h.cell 3⟩
/-- What Parse hands back. -/
def jOf (R : Except Int Jsn) : Jsn × Int := match R with
  | .error c => (⟨0, ⟨#[]⟩, [], []⟩, c)
  | .ok j => (j, 0)
theorem JsnEnd.flat {R : Except Int Jsn} {w w' : World} {e : Ending} (h : JsnEnd R w e w') : ∃ vn vl, e = .returned (.tuple #[.agg #[.int .u8 (jOf R).1.kind, .string (jOf R).1.text, vn, vl], .int .i64 (jOf R).2]) ∧ OwnJ w' 9 25 (jOf R).1 w.heap.size w'.heap.size vn vl ∧ Below w.heap.size w w' := by
  obtain ⟨h1, h2⟩ := h
  rcases R with c | j
  · exact ⟨.slice none 0 0, .slice none 0 0, h2, flat_own _ _ _ _ _ _ _ (by decide) (by decide), h1⟩
  · obtain ⟨vn, vl, h3, h4⟩ := h2
    exact ⟨vn, vl, h3, h4, h1⟩
theorem jOf_bulk {s : List UInt8} : jbulk (jOf (jparse ownL Lib.validD s)).1 ≤ 208 * s.length + 1000 := by
  rcases h : jparse ownL Lib.validD s with c | j
  · have : jbulk (⟨0, ⟨#[]⟩, [], []⟩ : Jsn) ≤ 1000 := by
      rw [jbulk_eq]
      have h0 : (⟨#[]⟩ : ByteArray).size = 0 := rfl
      rw [h0]
      simp [jbulks]
    exact Nat.le_trans this (by omega)
  · have := jparse_bulk h
    show jbulk j ≤ _
    omega
set_option maxRecDepth 100000 in
set_option maxHeartbeats 8000000 in
theorem jsonReads_any (s : ByteArray) (w : World) (hE : EnvC w) :
    Calls Tryz.prog 6 #[.string s] w fun e w' => e = .returned (.bool true) ∧ Below w.heap.size w w' := by
  have hsz : s.data.toList.length = s.size := by rw [Array.length_toList]; rfl
  by_cases hbig : 4000 < s.size
  · have c1 : (4000 : Int) < (s.size : Int) := by omega
    clear hE
    go_enter Tryz.func6, Tryz.ntmps6
    go_wp2_with fail
    go_ret
    exact ⟨rfl, Below.refl _ _⟩
  · have c1 : ¬ (4000 : Int) < (s.size : Int) := by omega
    have hbk := jOf_bulk (s := s.data.toList)
    rw [hsz] at hbk
    have hP := (jsnParse_any s w hE).mono fun e w' h => h.flat
    have hQ := fun (W : World) => (refParseJ_any s W (by omega)).mono fun e w' h => h.flat
    obtain ⟨j, hj⟩ : ∃ j, (jOf (jparse ownL Lib.validD s.data.toList)).1 = j := ⟨_, rfl⟩
    obtain ⟨c, hc⟩ : ∃ c, (jOf (jparse ownL Lib.validD s.data.toList)).2 = c := ⟨_, rfl⟩
    rw [hj] at hbk
    rw [hj, hc] at hP
    simp only [hj, hc] at hQ
    replace hP := Lib.hid hP
    replace hQ := Lib.hid hQ
    clear hj hc hE hsz
    go_enter Tryz.func6, Tryz.ntmps6
    go_wp2_with fail
    refine hP.out.mono ?_
    rintro e w1 ⟨vn, vl, rfl, hO, hb⟩
    obtain ⟨A1, n1, c1', A2, n2, c2, rfl, rfl⟩ := hO.forms
    obtain ⟨W1, hW1⟩ : ∃ W1, w1.alloc (.cells #[.int .u8 j.kind, .string j.text, .slice A1 n1 c1', .slice A2 n2 c2] 25) = W1 := ⟨_, rfl⟩
    have hC1 : Cel W1 w1.heap.size 25 #[.int .u8 j.kind, .string j.text, .slice A1 n1 c1', .slice A2 n2 c2] := by rw [← hW1]; exact Cel.fresh _ _ _
    have hb1 : Below w.heap.size w W1 := by rw [← hW1]; exact hb.alloc hb.size _
    have hO1 := OwnJ.keep (w' := W1) j hO (fun k _ hk => by rw [← hW1]; exact Below.heap_alloc w1 _ k hk) (Nat.le_refl _) (Nat.le_refl _)
    have hJ1 := OwnJ.jv j hO1
    have hq := Lib.hid (hQ.out W1)
    replace hW1 := Lib.hid hW1
    replace hC1 := Lib.hid hC1
    replace hb1 := Lib.hid hb1
    replace hJ1 := Lib.hid hJ1
    clear hP hQ hO hO1 hb
    go_upto_region 4 with fail
    rw [hW1.out]
    clear hW1
    go_wp2_with fail
    refine hq.out.mono ?_
    rintro e w2 ⟨vn, vl, rfl, hO, hb⟩
    obtain ⟨B1, m1, d1, B2, m2, d2, rfl, rfl⟩ := hO.forms
    obtain ⟨W2, hW2⟩ : ∃ W2, w2.alloc (.cells #[.int .u8 j.kind, .string j.text, .slice B1 m1 d1, .slice B2 m2 d2] 25) = W2 := ⟨_, rfl⟩
    have hC2 : Cel W2 w2.heap.size 25 #[.int .u8 j.kind, .string j.text, .slice B1 m1 d1, .slice B2 m2 d2] := by rw [← hW2]; exact Cel.fresh _ _ _
    have hb12 : Below W1.heap.size W1 W2 := by rw [← hW2]; exact hb.alloc hb.size _
    have hO2 := OwnJ.keep (w' := W2) j hO (fun k _ hk => by rw [← hW2]; exact Below.heap_alloc w2 _ k hk) (Nat.le_refl _) (Nat.le_refl _)
    have hC1' := hC1.out.below hb12 hC1.out.lt
    have hSm := refSameJ_any j j _ _ W2 _ _ _ _ (hJ1.out.later hb12) (OwnJ.jv j hO2) (by omega) (by omega)
    rw [jsame_refl] at hSm
    have hbf := hb1.out.trans (hb12.mono hb1.out.size)
    obtain ⟨p0, p1, p2, p3⟩ := rlCel4 hC1'
    obtain ⟨q0, q1, q2, q3⟩ := rlCel4 hC2
    replace hSm := Lib.hid hSm
    replace hW2 := Lib.hid hW2
    replace hbf := Lib.hid hbf
    clear hq hO hb hC1 hb1 hJ1 hC2 hb12 hO2 hC1'
    go_upto_region 5 with fail
    rw [hW2.out]
    clear hW2
    go_wp2_with fail
    refine hSm.out.mono ?_
    rintro e w3 ⟨rfl, hb3⟩
    have hfin := Lib.hid (hbf.out.trans (hb3.mono hbf.out.size))
    clear hSm hbf hb3 p0 p1 p2 p3 q0 q1 q2 q3
    go_wp2_with fail
    go_ret
    exact ⟨rfl, hfin.out⟩
end Go.Proofs.YtamcbgkppgdniaaGreatDoor
