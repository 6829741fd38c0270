/-
  The walks of dec.Cmp and Of.
-/
import Derived.Test.YtdjfoabinjfnfaaGreatDoorDecF
import Derived.Test.YtdjfoabinjfnfaaGreatDoorM20
import Derived.Test.YtdjfoabinjfnfaaGreatDoorRefB
import Derived.Test.YtdjfoabinjfnfaaGreatDoorM19
import Derived.Lib.SlBytesRow
namespace Go.Proofs.YtdjfoabinjfnfaaGreatDoor
open Go.RowKit
def cmpW (x y : Wth) : Int :=
  if cmp3 (x.digits.length + x.exp) (y.digits.length + y.exp) = 0 then Lib.compareBytes x.digits y.digits
  else cmp3 (x.digits.length + x.exp) (y.digits.length + y.exp)
def cmpL (a b : List UInt8) : Int × Int :=
  if (decGetL a).2 ≠ 0 then (0, (decGetL a).2)
  else if (decGetL b).2 ≠ 0 then (0, (decGetL b).2)
  else if signW (decGetL a).1 ≠ signW (decGetL b).1 then (cmp3 (signW (decGetL a).1) (signW (decGetL b).1), 0)
  else (cmpW (decGetL a).1 (decGetL b).1 * signW (decGetL a).1, 0)
def PairEnd (w : World) (r : Int × Int) (en : Ending) (w' : World) : Prop := en = .returned (.tuple #[.int .i64 r.1, .int .i64 r.2]) ∧ Below w.heap.size w w'
theorem getEnd_of {l : List UInt8} (hl : l.length ≤ 1000000) {x : Wth} {e : Int} (h : getL l = (x, e)) (d : ByteArray) (hd : d.data.toList = x.digits) : GetEnd l (.returned (.tuple #[numV x.minus d x.exp, .int .i64 e])) := by
  unfold GetEnd; rw [get_same l hl, h]; exact ⟨d, hd, rfl⟩
set_option maxHeartbeats 2000000 in
theorem refGet_any (s : ByteArray) (w : World) (hs : s.size ≤ 1000000) :
    Calls Tryz.prog 161 #[.string s] w fun en w' => GetEnd s.data.toList en ∧ Below w.heap.size w w' := by
  have hl : s.data.toList.length ≤ 1000000 := by rw [bytes_len]; exact hs
  have hcon := Lib.hid (fun W => refParse_any s W (by omega))
  have hC0 := Cel.fresh w 188 #[.bool false, .string ⟨#[]⟩, .int .i64 0]
  have hB0 := (Below.refl w.heap.size w).alloc (Nat.le_refl _) (.cells #[.bool false, .string ⟨#[]⟩, .int .i64 0] 188)
  replace hC0 := Lib.hid hC0
  replace hB0 := Lib.hid hB0
  cases hP : parseL s.data.toList with
  | none =>
    have hfin : GetEnd s.data.toList (.returned (.tuple #[numV false ⟨#[]⟩ 0, .int .i64 4])) := getEnd_of hl (x := ⟨false, [], 0⟩) (by unfold getL; rw [hP]) ⟨#[]⟩ rfl
    replace hfin := Lib.hid hfin
    replace hP := Lib.hid hP
    go_enter Tryz.func161, Tryz.ntmps161
    go_wp2_with fail
    refine (hcon.out _).mono ?_
    rintro en w1 ⟨hpe, hB⟩
    unfold ParseEnd at hpe
    rw [hP.out] at hpe
    obtain ⟨x, y, z, rfl⟩ := hpe
    have hC := (hC0.out.below hB (by simp)).alloc (.cells #[.bool x, .string y, .int .i64 z] 188)
    obtain ⟨x0, x1, x2, f0, f1, f2⟩ := hC.three
    have q := Lib.hid (hC.over3 (x' := .bool false) (y' := .string ⟨#[]⟩) (z' := .int .i64 0)).three
    have hBf := (hB0.out.trans (hB.mono (by simp)))
    replace hBf := Lib.hid (hBf.alloc hBf.size (.cells #[.bool x, .string y, .int .i64 z] 188))
    clear hcon hB hC0 hB0
    go_wp2
    replace q := q.out
    refine bodyPost_ret (v := .tuple #[numV false ⟨#[]⟩ 0, .int .i64 4]) (by simp [numV, results, Tryz.results161, go_sem, q.1, q.2.1, q.2.2.1]) rfl ⟨hfin.out, ?_⟩
    exact ((hBf.out.setCell (by simp) _).setCell (by simp) _).setCell (by simp) _
  | some x =>
    obtain ⟨m, dd, e⟩ := x
    obtain ⟨d, hd⟩ : ∃ d : ByteArray, d = ⟨dd.toArray⟩ := ⟨_, rfl⟩
    have hdd : d.data.toList = dd := by rw [hd]
    have hdl : d.size = dd.length := by rw [← bytes_len, hdd]
    have hpe : ∀ en, ParseEnd s.data.toList en → en = .returned (.tuple #[numV m d e, .bool true]) := by
      intro en h
      unfold ParseEnd at h
      rw [hP] at h
      rw [h, hd]; rfl
    have hg : getL s.data.toList = if 200 < dd.length ∨ e < -9999 ∨ 9999 < e then (⟨false, [], 0⟩, 40) else (⟨m, dd, e⟩, 0) := by unfold getL; rw [hP]
    replace hpe := Lib.hid hpe
    clear hd hP
    by_cases hbig : 200 < dd.length ∨ e < -9999 ∨ 9999 < e
    · rw [if_pos hbig] at hg
      have hfin : GetEnd s.data.toList (.returned (.tuple #[numV false ⟨#[]⟩ 0, .int .i64 40])) := getEnd_of hl (x := ⟨false, [], 0⟩) hg ⟨#[]⟩ rfl
      replace hfin := Lib.hid hfin
      clear hg hdd
      have hthree : (200 < (d.size : Int)) ∨ (¬ (200 < (d.size : Int)) ∧ e < -9999) ∨ (¬ (200 < (d.size : Int)) ∧ ¬ e < -9999 ∧ 9999 < e) := by omega
      clear hdl hbig
      rcases hthree with h1 | ⟨h1, h2⟩ | ⟨h1, h2, h3⟩
      all_goals
        go_enter Tryz.func161, Tryz.ntmps161
        go_wp2_with fail
        refine (hcon.out _).mono ?_
        rintro en w1 ⟨hen, hB⟩
        have hen := hpe.out _ hen
        subst hen
        have hC := (hC0.out.below hB (by simp)).alloc (.cells #[.bool m, .string d, .int .i64 e] 188)
        have hD := Cel.fresh w1 188 #[.bool m, .string d, .int .i64 e]
        obtain ⟨x0, x1, x2, f0, f1, f2⟩ := hC.three
        obtain ⟨y0, y1, y2, g0, g1, g2⟩ := hD.three
        have q := Lib.hid (hC.over3 (x' := .bool false) (y' := .string ⟨#[]⟩) (z' := .int .i64 0)).three
        have hBf := (hB0.out.trans (hB.mono (by simp)))
        replace hBf := Lib.hid (hBf.alloc hBf.size (.cells #[.bool m, .string d, .int .i64 e] 188))
        clear hcon hB hC0 hB0
        simp only [numV]
        go_wp2
        replace q := q.out
        refine bodyPost_ret (v := .tuple #[numV false ⟨#[]⟩ 0, .int .i64 40]) (by simp [numV, results, Tryz.results161, go_sem, q.1, q.2.1, q.2.2.1]) rfl ⟨hfin.out, ?_⟩
        exact ((hBf.out.setCell (by simp) _).setCell (by simp) _).setCell (by simp) _
    · rw [if_neg hbig] at hg
      have hfin : GetEnd s.data.toList (.returned (.tuple #[numV m d e, .int .i64 0])) := getEnd_of hl hg d hdd
      replace hfin := Lib.hid hfin
      have h1 : ¬ (200 < (d.size : Int)) := by omega
      have h2 : ¬ e < -9999 := by omega
      have h3 : ¬ 9999 < e := by omega
      clear hg hdd hdl hbig
      go_enter Tryz.func161, Tryz.ntmps161
      go_wp2_with fail
      refine (hcon.out _).mono ?_
      rintro en w1 ⟨hen, hB⟩
      have hen := hpe.out _ hen
      subst hen
      have hC := (hC0.out.below hB (by simp)).alloc (.cells #[.bool m, .string d, .int .i64 e] 188)
      have hD := Cel.fresh w1 188 #[.bool m, .string d, .int .i64 e]
      obtain ⟨x0, x1, x2, f0, f1, f2⟩ := hC.three
      obtain ⟨y0, y1, y2, g0, g1, g2⟩ := hD.three
      have q := Lib.hid (hC.over3 (x' := .bool m) (y' := .string d) (z' := .int .i64 e)).three
      have hBf := (hB0.out.trans (hB.mono (by simp)))
      replace hBf := Lib.hid (hBf.alloc hBf.size (.cells #[.bool m, .string d, .int .i64 e] 188))
      clear hcon hB hC0 hB0
      simp only [numV]
      go_wp2
      replace q := q.out
      refine bodyPost_ret (v := .tuple #[numV m d e, .int .i64 0]) (by simp [numV, results, Tryz.results161, go_sem, q.1, q.2.1, q.2.2.1]) rfl ⟨hfin.out, ?_⟩
      exact ((hBf.out.setCell (by simp) _).setCell (by simp) _).setCell (by simp) _
theorem one_byte_r (V : World) (g : Nat) (c : Int) (h0 : 0 ≤ c) (h1 : c < 256) (hc : V.cell? ⟨g, 0, none⟩ = some (.int .u8 c)) :
    (convert 108 9 (.slice (some ⟨g, 0, none⟩) 1 1)).run Tryz.prog V = .ok (.string ⟨#[UInt8.ofNat c.toNat]⟩) V := by
  have hb : Lib.Bytes V g 0 ⟨#[UInt8.ofNat c.toNat]⟩ := by
    intro i hi
    have hi0 : i = 0 := by have : (⟨#[UInt8.ofNat c.toNat]⟩ : ByteArray).size = 1 := rfl; omega
    subst hi0
    have e : (⟨#[UInt8.ofNat c.toNat]⟩ : ByteArray)[0] = UInt8.ofNat c.toNat := rfl
    rw [e]
    have : ((UInt8.ofNat c.toNat).toNat : Int) = c := by
      rw [UInt8.toNat_ofNat']; omega
    rw [this]; exact hc
  exact Lib.run_convert_whole (P := Tryz.prog) V 108 5 9 Tryz.underlying108 Tryz.underlying5 Tryz.underlying9 g 0 ⟨#[UInt8.ofNat c.toNat]⟩ hb 1
def digZ (v : Nat) : List UInt8 := if v = 0 then [] else Lib.decDigits v
theorem digZ_step (v : Nat) (h : 0 < v) : digZ v = digZ (v / 10) ++ [UInt8.ofNat (48 + v % 10)] := by
  unfold digZ
  rw [if_neg (by omega)]
  conv => lhs; unfold Lib.decDigits
  by_cases h10 : v < 10
  · rw [dif_pos h10, if_pos (by omega), show v % 10 = v by omega]; rfl
  · rw [dif_neg h10, if_neg (by omega)]
theorem digZ_len (v : Nat) (h : v < 100000000000000000000) : (digZ v).length ≤ 20 := by
  have key : ∀ (k v : Nat), v < 10 ^ k → (digZ v).length ≤ k := by
    intro k
    induction k with
    | zero => intro v hv; rw [Nat.pow_zero] at hv; have : v = 0 := by omega
              subst this; exact Nat.le_refl 0
    | succ k ih =>
      intro v hv
      by_cases h0 : v = 0
      · subst h0; exact Nat.zero_le _
      · rw [digZ_step v (by omega), List.length_append]
        have := ih (v / 10) (by rw [Nat.pow_succ] at hv; omega)
        simp only [List.length_singleton]; omega
  exact key 20 v (by have : (10 : Nat) ^ 20 = 100000000000000000000 := by decide
                     omega)
theorem itoa_pos {n : Int} (h : 0 < n) : Lib.itoa n = digZ n.toNat := by
  unfold Lib.itoa digZ
  rw [if_neg (by omega), if_neg (by omega)]
theorem itoa_neg {n : Int} (h : n < 0) : Lib.itoa n = 45 :: digZ n.natAbs := by
  unfold Lib.itoa digZ
  rw [if_pos h, if_neg (by omega)]
set_option maxHeartbeats 2000000 in
theorem refWhole_any (n : Int) (w : World) (h0 : -9223372036854775808 ≤ n) (h1 : n ≤ 9223372036854775807) :
    Calls Tryz.prog 142 #[.int .i64 n] w (StrEnd w (Lib.itoa n)) := by
  by_cases hz : n = 0
  · subst hz
    go_enter Tryz.func142, Tryz.ntmps142
    go_wp2
    go_ret
    exact ⟨⟨#[48]⟩, by decide +kernel, rfl, Below.refl _ _⟩
  · have hz1 : ((n : Int) == 0) = false := by simpa using hz
    obtain ⟨U0, hU0⟩ : ∃ U0, IntKind.u64.wrap n = U0 := ⟨_, rfl⟩
    obtain ⟨N, hN⟩ : ∃ N : Nat, n.natAbs = N := ⟨_, rfl⟩
    have hN1 : N ≤ 9223372036854775808 := by omega
    have hneg : n < 0 → IntKind.u64.wrap (-U0) = N := by intro h; rw [← hU0, IntKind.wrap_u64, IntKind.wrap_u64]; omega
    have hpos : 0 < n → U0 = N := by intro h; rw [← hU0, IntKind.wrap_u64]; omega
    have hit1 : n < 0 → Lib.itoa n = 45 :: digZ N := by intro h; rw [itoa_neg h, hN]
    have hit2 : 0 < n → Lib.itoa n = digZ N := by intro h; rw [itoa_pos h]; congr 1; omega
    obtain ⟨I, hI⟩ : ∃ I, Lib.itoa n = I := ⟨_, rfl⟩
    rw [hI] at hit1 hit2 ⊢
    have hlen := digZ_len N (by omega)
    clear hI hN
    by_cases hm : n < 0
    · have e1 := hneg hm
      have e2 := Lib.hid (hit1 hm)
      clear hneg hpos hit1 hit2 h0 h1 hz
      go_enter Tryz.func142, Tryz.ntmps142
      go_wp2
      go_loopw [3, 4] (fun s u wr => ∃ (v : Nat) (S : ByteArray), s = .string S ∧ u = .int .u64 v ∧ v ≤ N ∧ digZ v ++ S.data.toList = digZ N ∧ Below w.heap.size w wr) (fun _ u _ => (intOf u).toNat)
      case atStart => exact ⟨N, ⟨#[]⟩, rfl, rfl, Nat.le_refl _, List.append_nil _, Below.refl _ _⟩
      case round =>
        obtain ⟨v, S, rfl, rfl, hv, hS, hBk⟩ := hrel
        have hSl : S.size ≤ 20 := by
          have := congrArg List.length hS
          rw [List.length_append, bytes_len] at this
          omega
        by_cases hlt : 0 < v
        · have hst := digZ_step v hlt
          obtain ⟨r, hr⟩ : ∃ r : Nat, v % 10 = r := ⟨_, rfl⟩
          obtain ⟨q, hq⟩ : ∃ q : Nat, v / 10 = q := ⟨_, rfl⟩
          rw [hr, hq] at hst
          have hr10 : r < 10 := by omega
          have hqv : q < v := by omega
          have hrm : (v : Int).tmod 10 = r := by rw [← hr]; exact (Int.ofNat_tmod v 10).symm
          have hqm : (v : Int).tdiv 10 = q := by rw [← hq]; exact (Int.ofNat_tdiv v 10).symm
          have w1 : IntKind.u64.wrap (r : Int) = r := by rw [IntKind.wrap_u64]; omega
          have w2 : IntKind.u64.wrap (48 + (r : Int)) = 48 + r := by rw [IntKind.wrap_u64]; omega
          have w3 : IntKind.u8.wrap (48 + (r : Int)) = 48 + r := by rw [IntKind.wrap_u8]; omega
          have w4 : IntKind.u64.wrap (q : Int) = q := by rw [IntKind.wrap_u64]; omega
          obtain ⟨one, hone⟩ : ∃ one : ByteArray, one = ⟨#[UInt8.ofNat (48 + r)]⟩ := ⟨_, rfl⟩
          have hcv : ∀ (V : World) (g : Nat), V.cell? ⟨g, 0, none⟩ = some (.int .u8 (48 + r)) → (convert 108 9 (.slice (some ⟨g, 0, none⟩) 1 1)).run Tryz.prog V = .ok (.string one) V := fun V g hg => by
            have := one_byte_r V g (48 + r) (by omega) (by omega) hg
            rw [this, hone]; congr 2
          have hadd := add_ok one S (by rw [hone]; show 1 + S.size ≤ _; omega)
          have hS2 : digZ q ++ (one ++ S).data.toList = digZ N := by
            rw [ByteArray.data_append, Array.toList_append, hone, ← hS, hst]; simp
          clear hS hst hr hq hone
          replace hS2 := Lib.hid hS2
          replace hBk := Lib.hid hBk
          go_wp2
          go_roundw
          case rel => exact ⟨q, one ++ S, rfl, by go_num, by omega, hS2.out, hBk.out.alloc hBk.out.size _⟩
          case measure => simp [intOf]; omega
        · have hv0 : v = 0 := by omega
          subst hv0
          have hS2 : S.data.toList = digZ N := by rw [← hS]; rfl
          clear hS
          replace hS2 := Lib.hid hS2
          replace hBk := Lib.hid hBk
          have hadd := add_ok ⟨#[45]⟩ S (by show 1 + S.size ≤ _; omega)
          go_wp2
          go_ret
          exact ⟨⟨#[45]⟩ ++ S, by rw [cat_one, hS2.out, e2.out], rfl, hBk.out⟩
    · have e1 := hpos (by omega)
      have e2 := Lib.hid (hit2 (by omega))
      clear hneg hpos hit1 hit2 h0 h1
      go_enter Tryz.func142, Tryz.ntmps142
      go_wp2
      go_loopw [3, 4] (fun s u wr => ∃ (v : Nat) (S : ByteArray), s = .string S ∧ u = .int .u64 v ∧ v ≤ N ∧ digZ v ++ S.data.toList = digZ N ∧ Below w.heap.size w wr) (fun _ u _ => (intOf u).toNat)
      case atStart => exact ⟨N, ⟨#[]⟩, rfl, rfl, Nat.le_refl _, List.append_nil _, Below.refl _ _⟩
      case round =>
        obtain ⟨v, S, rfl, rfl, hv, hS, hBk⟩ := hrel
        have hSl : S.size ≤ 20 := by
          have := congrArg List.length hS
          rw [List.length_append, bytes_len] at this
          omega
        by_cases hlt : 0 < v
        · have hst := digZ_step v hlt
          obtain ⟨r, hr⟩ : ∃ r : Nat, v % 10 = r := ⟨_, rfl⟩
          obtain ⟨q, hq⟩ : ∃ q : Nat, v / 10 = q := ⟨_, rfl⟩
          rw [hr, hq] at hst
          have hr10 : r < 10 := by omega
          have hqv : q < v := by omega
          have hrm : (v : Int).tmod 10 = r := by rw [← hr]; exact (Int.ofNat_tmod v 10).symm
          have hqm : (v : Int).tdiv 10 = q := by rw [← hq]; exact (Int.ofNat_tdiv v 10).symm
          have w1 : IntKind.u64.wrap (r : Int) = r := by rw [IntKind.wrap_u64]; omega
          have w2 : IntKind.u64.wrap (48 + (r : Int)) = 48 + r := by rw [IntKind.wrap_u64]; omega
          have w3 : IntKind.u8.wrap (48 + (r : Int)) = 48 + r := by rw [IntKind.wrap_u8]; omega
          have w4 : IntKind.u64.wrap (q : Int) = q := by rw [IntKind.wrap_u64]; omega
          obtain ⟨one, hone⟩ : ∃ one : ByteArray, one = ⟨#[UInt8.ofNat (48 + r)]⟩ := ⟨_, rfl⟩
          have hcv : ∀ (V : World) (g : Nat), V.cell? ⟨g, 0, none⟩ = some (.int .u8 (48 + r)) → (convert 108 9 (.slice (some ⟨g, 0, none⟩) 1 1)).run Tryz.prog V = .ok (.string one) V := fun V g hg => by
            have := one_byte_r V g (48 + r) (by omega) (by omega) hg
            rw [this, hone]; congr 2
          have hadd := add_ok one S (by rw [hone]; show 1 + S.size ≤ _; omega)
          have hS2 : digZ q ++ (one ++ S).data.toList = digZ N := by
            rw [ByteArray.data_append, Array.toList_append, hone, ← hS, hst]; simp
          clear hS hst hr hq hone
          replace hS2 := Lib.hid hS2
          replace hBk := Lib.hid hBk
          go_wp2
          go_roundw
          case rel => exact ⟨q, one ++ S, rfl, by go_num, by omega, hS2.out, hBk.out.alloc hBk.out.size _⟩
          case measure => simp [intOf]; omega
        · have hv0 : v = 0 := by omega
          subst hv0
          have hS2 : S.data.toList = digZ N := by rw [← hS]; rfl
          clear hS
          replace hS2 := Lib.hid hS2
          replace hBk := Lib.hid hBk
          go_wp2
          go_ret
          exact ⟨S, by rw [hS2.out, e2.out], rfl, hBk.out⟩
set_option maxHeartbeats 2000000 in
theorem refForm_any (m : Bool) (d : ByteArray) (e : Int) (w : World) (hd : d.size ≤ 1099511627776) (h0 : -1099511627776 ≤ e) (h1 : e ≤ 1099511627776) :
    Calls Tryz.prog 162 #[.agg #[.bool m, .string d, .int .i64 e]] w (StrEnd w (formL ⟨m, d.data.toList, e⟩)) := by
  have hB0 : Below w.heap.size w (w.alloc (.cells #[.bool m, .string d, .int .i64 e] 188)) := (Below.refl _ _).alloc (Nat.le_refl _) _
  replace hB0 := Lib.hid hB0
  rcases hl : d.data.toList with _ | ⟨c, t⟩
  · have hem := isEmpty_t d hl
    clear hl
    go_enter Tryz.func162, Tryz.ntmps162
    go_wp2
    go_ret
    exact ⟨⟨#[48]⟩, rfl, rfl, hB0.out⟩
  · have hem := isEmpty_f d c t hl
    have hwh := Lib.hid (fun W => refWhole_any e W (by omega) (by omega))
    have hil := Lib.itoa_length_le e (by omega) (by omega)
    replace hl := Lib.hid hl
    by_cases he : e = 0
    · subst he
      have hadd := add_ok ⟨#[45]⟩ d (by show 1 + d.size ≤ _; omega)
      cases m
      all_goals
        go_enter Tryz.func162, Tryz.ntmps162
        go_wp2
        go_ret
      · exact ⟨d, by rw [hl.out]; simp [formL], rfl, hB0.out⟩
      · exact ⟨⟨#[45]⟩ ++ d, by rw [cat_one, hl.out]; simp [formL], rfl, hB0.out⟩
    · have he1 : ((e : Int) != 0) = true := by simpa using he
      have hadd := add_ok ⟨#[45]⟩ d (by show 1 + d.size ≤ _; omega)
      have hf : ∀ m, formL ⟨m, c :: t, e⟩ = (if m then 45 :: (c :: t) else c :: t) ++ 101 :: Lib.itoa e := by
        intro m; unfold formL; rw [if_neg (by simp), if_neg he]
      cases m
      · have hadd2 := add_ok d ⟨#[101]⟩ (by show d.size + 1 ≤ _; omega)
        go_enter Tryz.func162, Tryz.ntmps162
        go_wp2_with fail
        refine (hwh.out _).mono ?_
        rintro en w1 ⟨g, hg, rfl, hB⟩
        have hgl : g.size ≤ 21 := by rw [← bytes_len, hg]; exact hil
        have hadd3 := add_ok (d ++ ⟨#[101]⟩) g (by rw [ByteArray.size_append]; show d.size + 1 + g.size ≤ _; omega)
        replace hg := Lib.hid hg
        have hB1 := Lib.hid (hB0.out.trans (hB.mono hB0.out.size))
        clear hB
        go_wp2
        go_ret
        exact ⟨d ++ ⟨#[101]⟩ ++ g, by rw [hf, ByteArray.data_append, Array.toList_append, ByteArray.data_append, Array.toList_append, hl.out, hg.out]; simp, rfl, hB1.out⟩
      · have hadd2 := add_ok (⟨#[45]⟩ ++ d) ⟨#[101]⟩ (by rw [ByteArray.size_append]; show 1 + d.size + 1 ≤ _; omega)
        go_enter Tryz.func162, Tryz.ntmps162
        go_wp2_with fail
        refine (hwh.out _).mono ?_
        rintro en w1 ⟨g, hg, rfl, hB⟩
        have hgl : g.size ≤ 21 := by rw [← bytes_len, hg]; exact hil
        have hadd3 := add_ok (⟨#[45]⟩ ++ d ++ ⟨#[101]⟩) g (by rw [ByteArray.size_append, ByteArray.size_append]; show 1 + d.size + 1 + g.size ≤ _; omega)
        replace hg := Lib.hid hg
        have hB1 := Lib.hid (hB0.out.trans (hB.mono hB0.out.size))
        clear hB
        go_wp2
        go_ret
        exact ⟨⟨#[45]⟩ ++ d ++ ⟨#[101]⟩ ++ g, by rw [hf, ByteArray.data_append, Array.toList_append, ByteArray.data_append, Array.toList_append, cat_one, hl.out, hg.out]; simp, rfl, hB1.out⟩
set_option maxHeartbeats 1000000 in
theorem refOwn_any (s : ByteArray) (w : World) (hs : s.size ≤ 1000000) :
    Calls Tryz.prog 139 #[.string s] w (OwnEnd w (ownL s.data.toList)) := by
  have hbd := decGetL_bd s.data.toList
  have hget := Lib.hid (refGet_any s w hs)
  go_enter Tryz.func139, Tryz.ntmps139
  go_wp2_with fail
  refine hget.out.mono ?_
  rintro en w1 ⟨⟨d, hd, rfl⟩, hB⟩
  clear hget
  obtain ⟨r, hgen⟩ : ∃ r, decGetL s.data.toList = r := ⟨_, rfl⟩
  rw [hgen] at hbd hd ⊢
  obtain ⟨⟨m, dd, e⟩, err⟩ := r
  simp only at hbd hd ⊢
  have hdl : d.size ≤ 200 := by rw [← bytes_len, hd]; exact hbd.1
  subst hd
  obtain ⟨_, b1, b2, b3⟩ := hbd
  have hBx := hB.alloc hB.size (.cells #[.bool m, .string d, .int .i64 e] 188)
  replace hBx := Lib.hid hBx
  clear hB
  simp only [numV]
  by_cases h0 : err = 0
  · subst h0
    have hfin : ownL s.data.toList = (formL ⟨m, d.data.toList, e⟩, 0) := by unfold ownL; rw [hgen]; rfl
    have hform := Lib.hid (fun W => refForm_any m d e W (by omega) (by omega) (by omega))
    replace hfin := Lib.hid hfin
    clear hgen b3
    go_wp2_with fail
    refine (hform.out _).mono ?_
    rintro en w2 ⟨g, hg, rfl, hB2⟩
    have hB3 := Lib.hid (hBx.out.trans (hB2.mono hBx.out.size))
    replace hg := Lib.hid hg
    clear hB2
    go_wp2
    go_ret2
    exact own_end hfin.out hg.out hB3.out
  · have hne : ((err : Int) != 0) = true := by simpa using h0
    have hfin : ownL s.data.toList = ([], err) := by unfold ownL; rw [hgen]; simp [h0]
    replace hfin := Lib.hid hfin
    clear hgen h0 b3
    go_wp2
    go_ret2
    exact own_end (g := ⟨#[]⟩) hfin.out rfl hBx.out
theorem own_itoa (n : Int) (h0 : -9223372036854775808 ≤ n) (h1 : n ≤ 9223372036854775807) : ownL (Lib.itoa n) = (ofNL n, 0) := by
  obtain ⟨D, k, hg, _, _⟩ := get_itoa n h0 h1
  unfold ownL ofNL
  rw [hg]
  simp
end Go.Proofs.YtdjfoabinjfnfaaGreatDoor
