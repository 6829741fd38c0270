/-
  The walks of rostrumref04.whole, Form, Own and Of: what they answer is what dec's answer.
-/
import Derived.Test.YtghaoielnphhlaaGreatDoorM14
import Derived.Test.YtghaoielnphhlaaGreatDoorM16
import Derived.Lib.SlBytesRow
import Derived.Test.YtghaoielnphhlaaGreatDoorDecF
import Derived.Maps.StringElems
namespace Go.Proofs.YtghaoielnphhlaaGreatDoor
open Go.RowKit

/-- A row of one byte, handed to string(..), its cell told. -/
theorem one_byte_r (V : World) (g : Nat) (c : Int) (h0 : 0 ≤ c) (h1 : c < 256) (hc : V.cell? ⟨g, 0, none⟩ = some (.int .u8 c)) :
    (convert 93 9 (.slice (some ⟨g, 0, none⟩) 1 1)).run Tryz.prog V = .ok (.string ⟨#[UInt8.ofNat c.toNat]⟩) V := by
  have hb : Lib.Bytes V g 0 ⟨#[UInt8.ofNat c.toNat]⟩ := by
    intro i hi
    have hi0 : i = 0 := by have : (⟨#[UInt8.ofNat c.toNat]⟩ : ByteArray).size = 1 := rfl; omega
    subst hi0
    have e : (⟨#[UInt8.ofNat c.toNat]⟩ : ByteArray)[0] = UInt8.ofNat c.toNat := rfl
    rw [e]
    have : ((UInt8.ofNat c.toNat).toNat : Int) = c := by
      rw [UInt8.toNat_ofNat']; omega
    rw [this]; exact hc
  exact Lib.run_convert_whole (P := Tryz.prog) V 93 5 9 Tryz.underlying93 Tryz.underlying5 Tryz.underlying9 g 0 ⟨#[UInt8.ofNat c.toNat]⟩ hb 1

/-- A number's digits; of 0 none. -/
def digZ (v : Nat) : List UInt8 := if v = 0 then [] else Lib.decDigits v
theorem digZ_step (v : Nat) (h : 0 < v) : digZ v = digZ (v / 10) ++ [UInt8.ofNat (48 + v % 10)] := by
  unfold digZ
  rw [if_neg (by omega)]
  conv => lhs; unfold Lib.decDigits
  by_cases h10 : v < 10
  · rw [dif_pos h10, if_pos (by omega), show v % 10 = v by omega]; rfl
  · rw [dif_neg h10, if_neg (by omega)]
theorem digZ_len (v : Nat) (h : v < 100000000000000000000) : (digZ v).length ≤ 20 := by
  have key : ∀ (k v : Nat), v < 10 ^ k → (digZ v).length ≤ k := by
    intro k
    induction k with
    | zero => intro v hv; rw [Nat.pow_zero] at hv; have : v = 0 := by omega
              subst this; exact Nat.le_refl 0
    | succ k ih =>
      intro v hv
      by_cases h0 : v = 0
      · subst h0; exact Nat.zero_le _
      · rw [digZ_step v (by omega), List.length_append]
        have := ih (v / 10) (by rw [Nat.pow_succ] at hv; omega)
        simp only [List.length_singleton]; omega
  exact key 20 v (by have : (10 : Nat) ^ 20 = 100000000000000000000 := by decide
                     omega)

theorem itoa_pos {n : Int} (h : 0 < n) : Lib.itoa n = digZ n.toNat := by
  unfold Lib.itoa digZ
  rw [if_neg (by omega), if_neg (by omega)]
theorem itoa_neg {n : Int} (h : n < 0) : Lib.itoa n = 45 :: digZ n.natAbs := by
  unfold Lib.itoa digZ
  rw [if_pos h, if_neg (by omega)]

set_option maxHeartbeats 2000000 in
theorem refWhole_any (n : Int) (w : World) (h0 : -9223372036854775808 ≤ n) (h1 : n ≤ 9223372036854775807) :
    Calls Tryz.prog 113 #[.int .i64 n] w (StrEnd w (Lib.itoa n)) := by
  by_cases hz : n = 0
  · subst hz
    go_enter Tryz.func113, Tryz.ntmps113
    go_wp2
    go_ret
    exact ⟨⟨#[48]⟩, by decide +kernel, rfl, Below.refl _ _⟩
  · have hz1 : ((n : Int) == 0) = false := by simpa using hz
    obtain ⟨U0, hU0⟩ : ∃ U0, IntKind.u64.wrap n = U0 := ⟨_, rfl⟩
    obtain ⟨N, hN⟩ : ∃ N : Nat, n.natAbs = N := ⟨_, rfl⟩
    have hN1 : N ≤ 9223372036854775808 := by omega
    have hneg : n < 0 → IntKind.u64.wrap (-U0) = N := by intro h; rw [← hU0, IntKind.wrap_u64, IntKind.wrap_u64]; omega
    have hpos : 0 < n → U0 = N := by intro h; rw [← hU0, IntKind.wrap_u64]; omega
    have hit1 : n < 0 → Lib.itoa n = 45 :: digZ N := by intro h; rw [itoa_neg h, hN]
    have hit2 : 0 < n → Lib.itoa n = digZ N := by intro h; rw [itoa_pos h]; congr 1; omega
    obtain ⟨I, hI⟩ : ∃ I, Lib.itoa n = I := ⟨_, rfl⟩
    rw [hI] at hit1 hit2 ⊢
    have hlen := digZ_len N (by omega)
    clear hI hN
    by_cases hm : n < 0
    · have e1 := hneg hm
      have e2 := Lib.hid (hit1 hm)
      clear hneg hpos hit1 hit2 h0 h1 hz
      go_enter Tryz.func113, Tryz.ntmps113
      go_wp2
      go_loopw [3, 4] (fun s u wr => ∃ (v : Nat) (S : ByteArray), s = .string S ∧ u = .int .u64 v ∧ v ≤ N ∧ digZ v ++ S.data.toList = digZ N ∧ Below w.heap.size w wr) (fun _ u _ => (intOf u).toNat)
      case atStart => exact ⟨N, ⟨#[]⟩, rfl, rfl, Nat.le_refl _, List.append_nil _, Below.refl _ _⟩
      case round =>
        obtain ⟨v, S, rfl, rfl, hv, hS, hBk⟩ := hrel
        have hSl : S.size ≤ 20 := by
          have := congrArg List.length hS
          rw [List.length_append, bytes_len] at this
          omega
        by_cases hlt : 0 < v
        · have hst := digZ_step v hlt
          obtain ⟨r, hr⟩ : ∃ r : Nat, v % 10 = r := ⟨_, rfl⟩
          obtain ⟨q, hq⟩ : ∃ q : Nat, v / 10 = q := ⟨_, rfl⟩
          rw [hr, hq] at hst
          have hr10 : r < 10 := by omega
          have hqv : q < v := by omega
          have hrm : (v : Int).tmod 10 = r := by rw [← hr]; exact (Int.ofNat_tmod v 10).symm
          have hqm : (v : Int).tdiv 10 = q := by rw [← hq]; exact (Int.ofNat_tdiv v 10).symm
          have w1 : IntKind.u64.wrap (r : Int) = r := by rw [IntKind.wrap_u64]; omega
          have w2 : IntKind.u64.wrap (48 + (r : Int)) = 48 + r := by rw [IntKind.wrap_u64]; omega
          have w3 : IntKind.u8.wrap (48 + (r : Int)) = 48 + r := by rw [IntKind.wrap_u8]; omega
          have w4 : IntKind.u64.wrap (q : Int) = q := by rw [IntKind.wrap_u64]; omega
          obtain ⟨one, hone⟩ : ∃ one : ByteArray, one = ⟨#[UInt8.ofNat (48 + r)]⟩ := ⟨_, rfl⟩
          have hcv : ∀ (V : World) (g : Nat), V.cell? ⟨g, 0, none⟩ = some (.int .u8 (48 + r)) → (convert 93 9 (.slice (some ⟨g, 0, none⟩) 1 1)).run Tryz.prog V = .ok (.string one) V := fun V g hg => by
            have := one_byte_r V g (48 + r) (by omega) (by omega) hg
            rw [this, hone]; congr 2
          have hadd := add_ok one S (by rw [hone]; show 1 + S.size ≤ _; omega)
          have hS2 : digZ q ++ (one ++ S).data.toList = digZ N := by
            rw [ByteArray.data_append, Array.toList_append, hone, ← hS, hst]; simp
          clear hS hst hr hq hone
          replace hS2 := Lib.hid hS2
          replace hBk := Lib.hid hBk
          go_wp2
          go_roundw
          case rel => exact ⟨q, one ++ S, rfl, by go_num, by omega, hS2.out, hBk.out.alloc hBk.out.size _⟩
          case measure => simp [intOf]; omega
        · have hv0 : v = 0 := by omega
          subst hv0
          have hS2 : S.data.toList = digZ N := by rw [← hS]; rfl
          clear hS
          replace hS2 := Lib.hid hS2
          replace hBk := Lib.hid hBk
          have hadd := add_ok ⟨#[45]⟩ S (by show 1 + S.size ≤ _; omega)
          go_wp2
          go_ret
          exact ⟨⟨#[45]⟩ ++ S, by rw [cat_one, hS2.out, e2.out], rfl, hBk.out⟩
    · have e1 := hpos (by omega)
      have e2 := Lib.hid (hit2 (by omega))
      clear hneg hpos hit1 hit2 h0 h1
      go_enter Tryz.func113, Tryz.ntmps113
      go_wp2
      go_loopw [3, 4] (fun s u wr => ∃ (v : Nat) (S : ByteArray), s = .string S ∧ u = .int .u64 v ∧ v ≤ N ∧ digZ v ++ S.data.toList = digZ N ∧ Below w.heap.size w wr) (fun _ u _ => (intOf u).toNat)
      case atStart => exact ⟨N, ⟨#[]⟩, rfl, rfl, Nat.le_refl _, List.append_nil _, Below.refl _ _⟩
      case round =>
        obtain ⟨v, S, rfl, rfl, hv, hS, hBk⟩ := hrel
        have hSl : S.size ≤ 20 := by
          have := congrArg List.length hS
          rw [List.length_append, bytes_len] at this
          omega
        by_cases hlt : 0 < v
        · have hst := digZ_step v hlt
          obtain ⟨r, hr⟩ : ∃ r : Nat, v % 10 = r := ⟨_, rfl⟩
          obtain ⟨q, hq⟩ : ∃ q : Nat, v / 10 = q := ⟨_, rfl⟩
          rw [hr, hq] at hst
          have hr10 : r < 10 := by omega
          have hqv : q < v := by omega
          have hrm : (v : Int).tmod 10 = r := by rw [← hr]; exact (Int.ofNat_tmod v 10).symm
          have hqm : (v : Int).tdiv 10 = q := by rw [← hq]; exact (Int.ofNat_tdiv v 10).symm
          have w1 : IntKind.u64.wrap (r : Int) = r := by rw [IntKind.wrap_u64]; omega
          have w2 : IntKind.u64.wrap (48 + (r : Int)) = 48 + r := by rw [IntKind.wrap_u64]; omega
          have w3 : IntKind.u8.wrap (48 + (r : Int)) = 48 + r := by rw [IntKind.wrap_u8]; omega
          have w4 : IntKind.u64.wrap (q : Int) = q := by rw [IntKind.wrap_u64]; omega
          obtain ⟨one, hone⟩ : ∃ one : ByteArray, one = ⟨#[UInt8.ofNat (48 + r)]⟩ := ⟨_, rfl⟩
          have hcv : ∀ (V : World) (g : Nat), V.cell? ⟨g, 0, none⟩ = some (.int .u8 (48 + r)) → (convert 93 9 (.slice (some ⟨g, 0, none⟩) 1 1)).run Tryz.prog V = .ok (.string one) V := fun V g hg => by
            have := one_byte_r V g (48 + r) (by omega) (by omega) hg
            rw [this, hone]; congr 2
          have hadd := add_ok one S (by rw [hone]; show 1 + S.size ≤ _; omega)
          have hS2 : digZ q ++ (one ++ S).data.toList = digZ N := by
            rw [ByteArray.data_append, Array.toList_append, hone, ← hS, hst]; simp
          clear hS hst hr hq hone
          replace hS2 := Lib.hid hS2
          replace hBk := Lib.hid hBk
          go_wp2
          go_roundw
          case rel => exact ⟨q, one ++ S, rfl, by go_num, by omega, hS2.out, hBk.out.alloc hBk.out.size _⟩
          case measure => simp [intOf]; omega
        · have hv0 : v = 0 := by omega
          subst hv0
          have hS2 : S.data.toList = digZ N := by rw [← hS]; rfl
          clear hS
          replace hS2 := Lib.hid hS2
          replace hBk := Lib.hid hBk
          go_wp2
          go_ret
          exact ⟨S, by rw [hS2.out, e2.out], rfl, hBk.out⟩

set_option maxHeartbeats 2000000 in
theorem refForm_any (m : Bool) (d : ByteArray) (e : Int) (w : World) (hd : d.size ≤ 1099511627776) (h0 : -1099511627776 ≤ e) (h1 : e ≤ 1099511627776) :
    Calls Tryz.prog 133 #[.agg #[.bool m, .string d, .int .i64 e]] w (StrEnd w (formL ⟨m, d.data.toList, e⟩)) := by
  have hB0 : Below w.heap.size w (w.alloc (.cells #[.bool m, .string d, .int .i64 e] 170)) := (Below.refl _ _).alloc (Nat.le_refl _) _
  replace hB0 := Lib.hid hB0
  rcases hl : d.data.toList with _ | ⟨c, t⟩
  · have hem := isEmpty_t d hl
    clear hl
    go_enter Tryz.func133, Tryz.ntmps133
    go_wp2
    go_ret
    exact ⟨⟨#[48]⟩, rfl, rfl, hB0.out⟩
  · have hem := isEmpty_f d c t hl
    have hwh := Lib.hid (fun W => refWhole_any e W (by omega) (by omega))
    have hil := Lib.itoa_length_le e (by omega) (by omega)
    replace hl := Lib.hid hl
    by_cases he : e = 0
    · subst he
      have hadd := add_ok ⟨#[45]⟩ d (by show 1 + d.size ≤ _; omega)
      cases m
      all_goals
        go_enter Tryz.func133, Tryz.ntmps133
        go_wp2
        go_ret
      · exact ⟨d, by rw [hl.out]; simp [formL], rfl, hB0.out⟩
      · exact ⟨⟨#[45]⟩ ++ d, by rw [cat_one, hl.out]; simp [formL], rfl, hB0.out⟩
    · have he1 : ((e : Int) != 0) = true := by simpa using he
      have hadd := add_ok ⟨#[45]⟩ d (by show 1 + d.size ≤ _; omega)
      have hf : ∀ m, formL ⟨m, c :: t, e⟩ = (if m then 45 :: (c :: t) else c :: t) ++ 101 :: Lib.itoa e := by
        intro m; unfold formL; rw [if_neg (by simp), if_neg he]
      cases m
      · have hadd2 := add_ok d ⟨#[101]⟩ (by show d.size + 1 ≤ _; omega)
        go_enter Tryz.func133, Tryz.ntmps133
        go_wp2_with fail
        refine (hwh.out _).mono ?_
        rintro en w1 ⟨g, hg, rfl, hB⟩
        have hgl : g.size ≤ 21 := by rw [← bytes_len, hg]; exact hil
        have hadd3 := add_ok (d ++ ⟨#[101]⟩) g (by rw [ByteArray.size_append]; show d.size + 1 + g.size ≤ _; omega)
        replace hg := Lib.hid hg
        have hB1 := Lib.hid (hB0.out.trans (hB.mono hB0.out.size))
        clear hB
        go_wp2
        go_ret
        exact ⟨d ++ ⟨#[101]⟩ ++ g, by rw [hf, ByteArray.data_append, Array.toList_append, ByteArray.data_append, Array.toList_append, hl.out, hg.out]; simp, rfl, hB1.out⟩
      · have hadd2 := add_ok (⟨#[45]⟩ ++ d) ⟨#[101]⟩ (by rw [ByteArray.size_append]; show 1 + d.size + 1 ≤ _; omega)
        go_enter Tryz.func133, Tryz.ntmps133
        go_wp2_with fail
        refine (hwh.out _).mono ?_
        rintro en w1 ⟨g, hg, rfl, hB⟩
        have hgl : g.size ≤ 21 := by rw [← bytes_len, hg]; exact hil
        have hadd3 := add_ok (⟨#[45]⟩ ++ d ++ ⟨#[101]⟩) g (by rw [ByteArray.size_append, ByteArray.size_append]; show 1 + d.size + 1 + g.size ≤ _; omega)
        replace hg := Lib.hid hg
        have hB1 := Lib.hid (hB0.out.trans (hB.mono hB0.out.size))
        clear hB
        go_wp2
        go_ret
        exact ⟨⟨#[45]⟩ ++ d ++ ⟨#[101]⟩ ++ g, by rw [hf, ByteArray.data_append, Array.toList_append, ByteArray.data_append, Array.toList_append, cat_one, hl.out, hg.out]; simp, rfl, hB1.out⟩

set_option maxHeartbeats 1000000 in
theorem refOwn_any (s : ByteArray) (w : World) (hs : s.size ≤ 1000000) :
    Calls Tryz.prog 112 #[.string s] w (OwnEnd w (ownL s.data.toList)) := by
  have hbd := decGetL_bd s.data.toList
  have hget := Lib.hid (refGet_any s w hs)
  go_enter Tryz.func112, Tryz.ntmps112
  go_wp2_with fail
  refine hget.out.mono ?_
  rintro en w1 ⟨⟨d, hd, rfl⟩, hB⟩
  clear hget
  obtain ⟨r, hgen⟩ : ∃ r, decGetL s.data.toList = r := ⟨_, rfl⟩
  rw [hgen] at hbd hd ⊢
  obtain ⟨⟨m, dd, e⟩, err⟩ := r
  simp only at hbd hd ⊢
  have hdl : d.size ≤ 200 := by rw [← bytes_len, hd]; exact hbd.1
  subst hd
  obtain ⟨_, b1, b2, b3⟩ := hbd
  have hBx := hB.alloc hB.size (.cells #[.bool m, .string d, .int .i64 e] 170)
  replace hBx := Lib.hid hBx
  clear hB
  simp only [numV]
  by_cases h0 : err = 0
  · subst h0
    have hfin : ownL s.data.toList = (formL ⟨m, d.data.toList, e⟩, 0) := by unfold ownL; rw [hgen]; rfl
    have hform := Lib.hid (fun W => refForm_any m d e W (by omega) (by omega) (by omega))
    replace hfin := Lib.hid hfin
    clear hgen b3
    go_wp2_with fail
    refine (hform.out _).mono ?_
    rintro en w2 ⟨g, hg, rfl, hB2⟩
    have hB3 := Lib.hid (hBx.out.trans (hB2.mono hBx.out.size))
    replace hg := Lib.hid hg
    clear hB2
    go_wp2
    go_ret2
    exact own_end hfin.out hg.out hB3.out
  · have hne : ((err : Int) != 0) = true := by simpa using h0
    have hfin : ownL s.data.toList = ([], err) := by unfold ownL; rw [hgen]; simp [h0]
    replace hfin := Lib.hid hfin
    clear hgen h0 b3
    go_wp2
    go_ret2
    exact own_end (g := ⟨#[]⟩) hfin.out rfl hBx.out

theorem own_itoa (n : Int) (h0 : -9223372036854775808 ≤ n) (h1 : n ≤ 9223372036854775807) : ownL (Lib.itoa n) = (ofNL n, 0) := by
  obtain ⟨D, k, hg, _, _⟩ := get_itoa n h0 h1
  unfold ownL ofNL
  rw [hg]
  simp

set_option maxHeartbeats 1000000 in
theorem refOf_any (n : Int) (w : World) (h0 : -9223372036854775808 ≤ n) (h1 : n ≤ 9223372036854775807) :
    Calls Tryz.prog 87 #[.int .i64 n] w (StrEnd w (ofNL n)) := by
  have hwh := Lib.hid (refWhole_any n w h0 h1)
  have hil := Lib.itoa_length_le n h0 h1
  have hoi := Lib.hid (own_itoa n h0 h1)
  have hown := Lib.hid (fun s W hs => refOwn_any s W hs)
  clear h0 h1
  go_enter Tryz.func87, Tryz.ntmps87
  go_wp2_with fail
  refine hwh.out.mono ?_
  rintro en w1 ⟨g, hg, rfl, hB⟩
  have hgl : g.size ≤ 21 := by rw [← bytes_len, hg]; exact hil
  replace hB := Lib.hid hB
  replace hg := Lib.hid hg
  clear hwh hil
  go_wp2_with fail
  refine (hown.out g _ (by omega)).mono ?_
  rintro en w2 ⟨g2, hg2, rfl, hB2⟩
  rw [hg.out, hoi.out] at hg2 ⊢
  have hB3 := Lib.hid (hB.out.trans (hB2.mono hB.out.size))
  replace hg2 := Lib.hid hg2
  clear hB2 hown
  simp only
  go_wp2
  go_ret
  exact ⟨g2, hg2.out, rfl, hB3.out⟩
end Go.Proofs.YtghaoielnphhlaaGreatDoor


/-
  The walk of rostrumref04.Int: what it answers is what dec's answers.
-/
namespace Go.Proofs.YtghaoielnphhlaaGreatDoor
open Go.RowKit

end Go.Proofs.YtghaoielnphhlaaGreatDoor


/-
  The walks of rpc's whole, id and params, and of the document's Whole and IsID.
-/
namespace Go.Proofs.YtghaoielnphhlaaGreatDoor
open Go.RowKit

/-- The worth of a whole number; is a value an id; is it parameters? -/
def jwhole (j : Jsn) : Int × Bool := if j.kind = 4 then ((intL j.text.data.toList).1, decide ((intL j.text.data.toList).2 = 0)) else (0, false)
def jisid (j : Jsn) : Bool := (jwhole j).2 || decide (j.kind = 5)
def jispar (j : Jsn) : Bool := decide (j.kind = 6) || decide (j.kind = 7)
def IntSays (f : Nat) : Prop := ∀ (s : ByteArray) (w : World), s.size ≤ 1000000 →
    Calls Tryz.prog f #[.string s] w fun en w' => en = .returned (.tuple #[.int .i64 (intL s.data.toList).1, .int .i64 (intL s.data.toList).2]) ∧ Below w.heap.size w w'
def WholeEnd (j : Jsn) (w : World) (e : Ending) (w' : World) : Prop := e = .returned (.tuple #[.int .i64 (jwhole j).1, .bool (jwhole j).2]) ∧ Below w.heap.size w w'
end Go.Proofs.YtghaoielnphhlaaGreatDoor


/-
  The walks of rpc.About (a map literal) and of the document's About.
-/
namespace Go.Proofs.YtghaoielnphhlaaGreatDoor
open Go.RowKit Go.WideMaps Go.Maps

/-- What a code is. -/
def aboutS (c : Int) : ByteArray :=
  if c = -32700 then ⟨#[110, 111, 32, 74, 83, 79, 78]⟩ else
  if c = -32600 then ⟨#[110, 111, 32, 114, 101, 113, 117, 101, 115, 116]⟩ else
  if c = -32601 then ⟨#[110, 111, 32, 115, 117, 99, 104, 32, 109, 101, 116, 104, 111, 100]⟩ else
  if c = -32602 then ⟨#[119, 114, 111, 110, 103, 32, 112, 97, 114, 97, 109, 101, 116, 101, 114, 115]⟩ else
  if c = -32002 then ⟨#[110, 111, 116, 32, 105, 110, 105, 116, 105, 97, 108, 105, 122, 101, 100]⟩ else
  if c = -32800 then ⟨#[99, 97, 110, 99, 101, 108, 108, 101, 100]⟩ else
  if c = -32803 then ⟨#[114, 101, 102, 117, 115, 101, 100]⟩ else
  if c = -32000 then ⟨#[116, 104, 101, 32, 113, 117, 101, 117, 101, 32, 105, 115, 32, 102, 117, 108, 108]⟩ else
  if c = -32001 then ⟨#[116, 111, 111, 32, 103, 114, 101, 97, 116]⟩ else
  ⟨#[]⟩
/-- The literal. -/
def aboutD : DataW Unit :=
  ((((((((((.map [] : DataW Unit).put (.int .i64 (-32700)) (.lit (.string [110, 111, 32, 74, 83, 79, 78]))).put (.int .i64 (-32600)) (.lit (.string [110, 111, 32, 114, 101, 113, 117, 101, 115, 116]))).put (.int .i64 (-32601)) (.lit (.string [110, 111, 32, 115, 117, 99, 104, 32, 109, 101, 116, 104, 111, 100]))).put (.int .i64 (-32602)) (.lit (.string [119, 114, 111, 110, 103, 32, 112, 97, 114, 97, 109, 101, 116, 101, 114, 115]))).put (.int .i64 (-32002)) (.lit (.string [110, 111, 116, 32, 105, 110, 105, 116, 105, 97, 108, 105, 122, 101, 100]))).put (.int .i64 (-32800)) (.lit (.string [99, 97, 110, 99, 101, 108, 108, 101, 100]))).put (.int .i64 (-32803)) (.lit (.string [114, 101, 102, 117, 115, 101, 100]))).put (.int .i64 (-32000)) (.lit (.string [116, 104, 101, 32, 113, 117, 101, 117, 101, 32, 105, 115, 32, 102, 117, 108, 108]))).put (.int .i64 (-32001)) (.lit (.string [116, 111, 111, 32, 103, 114, 101, 97, 116])))
end Go.Proofs.YtghaoielnphhlaaGreatDoor
