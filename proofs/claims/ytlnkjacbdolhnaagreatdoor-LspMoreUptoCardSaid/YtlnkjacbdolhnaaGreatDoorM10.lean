/-
  The walk of json.form: may a value be, but for names that stand twice?
-/
import Derived.Test.YtlnkjacbdolhnaaGreatDoorM09
import Derived.Test.YtlnkjacbdolhnaaGreatDoorM01
import Derived.Test.YtlnkjacbdolhnaaGreatDoorM04
import Derived.Maps.OwnOps
import Derived.Maps.OwnSet
import Derived.Maps.Views
import Derived.Test.YtlnkjacbdolhnaaGreatDoorM00
import Derived.Lib.ItoaNum
import Derived.Test.YtlnkjacbdolhnaaGreatDoorProg
import Derived.WalkKit
import Derived.WalkSpells
import Derived.WalkLawsBesides
import Derived.Lib.Hide
namespace Go.Proofs.YtlnkjacbdolhnaaGreatDoor
open Go.RowKit

/-- A contract of a test over values, under the tables. -/
def FormSaysE (f : Nat) (F : Jsn → Bool) (j : Jsn) : Prop := ∀ (X : Nat → Prop) (w : World) (vn vl : Value), EnvU w → JV w X j vn vl → jbulk j ≤ 1000000 →
    Calls Tryz.prog f #[.agg #[.int .u8 j.kind, .string j.text, vn, vl]] w (ValEnd (F j) w)
end Go.Proofs.YtlnkjacbdolhnaaGreatDoor


/-
  The walk of json.twice (a map that the call makes), and of json.Check.
-/
namespace Go.Proofs.YtlnkjacbdolhnaaGreatDoor
open Go.RowKit Go.WideMaps Go.Maps

def hasB (L : List ByteArray) (x : ByteArray) : Bool := L.any fun y => decide (y = x)
/-- What the map holds when the first q names have been counted, each once. -/
def Seen (D : DataW Unit) (n : List ByteArray) (q : Nat) : Prop :=
  ∀ x : ByteArray, D.atKey (.string x.data.toList) (.lit (.int .i64 0)) = .lit (.int .i64 (if hasB (n.take q) x = true then 1 else 0))
theorem key_lit (x : ByteArray) : WideAt.IsKeyLit (.string x.data.toList) := by trivial
theorem Seen.step {D : DataW Unit} {n : List ByteArray} {q : Nat} {S : ByteArray} (h : Seen D n q) (hD : IsMap D) (hS : n[q]? = some S) : Seen (D.put (.string S.data.toList) (.lit (.int .i64 1))) n (q + 1) := fun x => by
  have h1 : hasB (n.take (q + 1)) x = (hasB (n.take q) x || decide (S = x)) := by
    unfold hasB; rw [List.take_add_one, hS]; simp
  rw [h1]
  by_cases e : x = S
  · subst e
    rw [atKey_put_same hD (key_lit x)]; simp
  · rw [atKey_put_other (fun he => e (jstr_ext (by injection he)))]
    rw [h x, decide_eq_false (fun he => e he.symm), Bool.or_false]
end Go.Proofs.YtlnkjacbdolhnaaGreatDoor


/-
  The walk of dec.Of.
-/
namespace Go.Proofs.YtlnkjacbdolhnaaGreatDoor
open Go.RowKit

theorem format_call (n : Int) (h0 : -9223372036854775808 ≤ n) (h1 : n ≤ 9223372036854775807) (W : World) (hE : Env W) :
    Calls Tryz.prog 167 #[.int .i64 n, .int .i64 10] W fun e w' => ∃ t : ByteArray, e = .returned (.string t) ∧ t.data.toList = Lib.itoa n ∧ Below W.heap.size W w' :=
  (Tryz.strconv_FormatInt_10 n h0 h1 W hE).mono fun e w' hh => ⟨_, hh.1, rfl, by obtain ⟨_, k, os, rfl⟩ := hh; exact bel_grow W k os⟩

/-- dec.Of. -/
def ofNL (n : Int) : List UInt8 := formL (decGetL (Lib.itoa n)).1

set_option maxHeartbeats 1000000 in
theorem decOf_any (n : Int) (w : World) (hE : Env w) (h0 : -9223372036854775808 ≤ n) (h1 : n ≤ 9223372036854775807) :
    Calls Tryz.prog 125 #[.int .i64 n] w (StrEnd w (ofNL n)) := by
  have hfmt := Lib.hid (format_call n h0 h1 w hE)
  have hlen := Lib.itoa_length_le n h0 h1
  clear h0 h1
  go_enter Tryz.func125, Tryz.ntmps125
  go_wp2_with fail
  refine hfmt.out.mono ?_
  rintro en w1 ⟨t, rfl, ht, hB1⟩
  clear hfmt
  have htl : t.size ≤ 21 := by rw [← bytes_len, ht]; exact hlen
  clear hlen
  have hE1 := hE.below hB1
  replace hB1 := Lib.hid hB1
  replace ht := Lib.hid ht
  go_wp2_with fail
  refine (decGet_any t w1 (by omega)).mono ?_
  rintro en w2 ⟨⟨d, hd, rfl⟩, hB2⟩
  have hbd := decGetL_bd t.data.toList
  have hE2 := hE1.below hB2
  replace hB2 := Lib.hid (hB1.out.trans (hB2.mono hB1.out.size))
  have hof : ofNL n = formL (decGetL t.data.toList).1 := by rw [ht.out]; rfl
  obtain ⟨r, hgen⟩ : ∃ r, decGetL t.data.toList = r := ⟨_, rfl⟩
  rw [hgen] at hbd hd hof ⊢
  clear hgen hE hE1
  obtain ⟨⟨m, dd, e⟩, err⟩ := r
  simp only at hbd hd hof ⊢
  have hdl : d.size ≤ 200 := by rw [← bytes_len, hd]; exact hbd.1
  subst hd
  obtain ⟨_, b1, b2, b3⟩ := hbd
  clear b3
  have hform := decForm_any m d e (w2.alloc (.cells #[.bool m, .string d, .int .i64 e] 187)) (hE2.below ((Below.refl _ _).alloc (Nat.le_refl _) _)) (by omega) (by omega) (by omega)
  rw [← hof] at hform
  clear hof
  replace hform := Lib.hid hform
  simp only [numV]
  go_wp2_with fail
  refine hform.out.mono ?_
  rintro en w3 ⟨g, hg, rfl, hB3⟩
  replace hB3 := Lib.hid ((hB2.out.trans ((Below.refl _ _).alloc hB2.out.size _)).trans (hB3.mono (by have := hB2.out.size; simp; omega)))
  replace hg := Lib.hid hg
  go_wp2
  go_ret
  exact ⟨g, hg.out, rfl, hB3.out⟩
end Go.Proofs.YtlnkjacbdolhnaaGreatDoor


/-
  The plain law: what dec.get and rostrumref04.Get make of a text is the same. No program.
-/
namespace Go.Proofs.YtlnkjacbdolhnaaGreatDoor

theorem drop_tw (p : UInt8 → Bool) (l : List UInt8) : l.drop (l.takeWhile p).length = l.dropWhile p := by
  have h := List.takeWhile_append_dropWhile (p := p) (l := l)
  have h2 : ∀ a b : List UInt8, (a ++ b).drop a.length = b := fun a b => by simp
  have h3 := h2 (l.takeWhile p) (l.dropWhile p)
  rwa [h] at h3
theorem drop_run (l : List UInt8) (i : Nat) : l.drop (i + runN l i) = (l.drop i).dropWhile isDig := by
  unfold runN twl
  rw [← List.drop_drop, drop_tw]
theorem take_run (l : List UInt8) (i : Nat) : (l.drop i).take (runN l i) = (l.drop i).takeWhile isDig := by
  unfold runN twl
  exact (List.prefix_iff_eq_take.1 (List.takeWhile_prefix isDig)).symm
theorem run_zero (l : List UInt8) (i : Nat) : runN l i = 0 ↔ (l.drop i).takeWhile isDig = [] := by
  unfold runN twl; exact List.length_eq_zero_iff
theorem isAt_drop (l : List UInt8) (i n : Nat) : isAt l i n = (match l.drop i with | [] => false | c :: _ => decide (c.toNat = n)) := by
  rcases h : l.drop i with _ | ⟨c, t⟩
  · exact isAt_none (List.drop_eq_nil_iff.1 h)
  · have h1 : l[i]? = some c := by rw [← List.head?_drop, h]; rfl
    by_cases hc : c.toNat = n
    · rw [isAt_t h1 hc]; simp [hc]
    · rw [isAt_f h1 hc]; simp [hc]
theorem drop_succ {l : List UInt8} {i : Nat} {c : UInt8} {t : List UInt8} (h : l.drop i = c :: t) : l.drop (i + 1) = t := by
  rw [← List.drop_drop, h]; rfl

/-- parse4 on what is left. -/
def p4 (rest : List UInt8) (m : Bool) (d : List UInt8) (e : Int) : Option Wth := if rest = [] then some (strip m d e) else none
def p3 (rest : List UInt8) (m : Bool) (d : List UInt8) (e : Int) : Option Wth :=
  match rest with
  | [] => some (strip m d e)
  | c :: t =>
    if c.toNat = 101 ∨ c.toNat = 69 then
      if (signP t).2.takeWhile isDig = [] then none
      else p4 ((signP t).2.dropWhile isDig) m d (e + (if (signP t).1 then -1 else 1) * powN ((signP t).2.takeWhile isDig))
    else none
def p2 (rest : List UInt8) (m : Bool) (d : List UInt8) : Option Wth :=
  match rest with
  | [] => p3 [] m d 0
  | c :: t =>
    if c.toNat = 46 then
      if t.takeWhile isDig = [] then none else p3 (t.dropWhile isDig) m (d ++ t.takeWhile isDig) (-((t.takeWhile isDig).length : Int))
    else p3 (c :: t) m d 0
def p1 (rest : List UInt8) (m : Bool) : Option Wth :=
  if wholeOk (rest.takeWhile isDig) then p2 (rest.dropWhile isDig) m (rest.takeWhile isDig) else none

theorem parse4_eq (l : List UInt8) (m : Bool) (d : List UInt8) (e : Int) (i : Nat) (hi : i ≤ l.length) : parse4 l m d e i = p4 (l.drop i) m d e := by
  unfold parse4 p4
  by_cases h : i = l.length
  · subst h; simp
  · have : ¬ l.drop i = [] := by rw [List.drop_eq_nil_iff]; omega
    simp [h, this]

theorem powSign_eq (l : List UInt8) (i : Nat) (hi : i ≤ l.length) : l.drop (powSign l i).2 = (signP (l.drop i)).2 ∧ (powSign l i).1 = (if (signP (l.drop i)).1 then -1 else 1) ∧ (powSign l i).2 ≤ l.length := by
  unfold powSign
  rw [isAt_drop, isAt_drop]
  rcases h : l.drop i with _ | ⟨c, t⟩
  · simp [signP, h, hi]
  · have hs := drop_succ h
    have hl : i + 1 ≤ l.length := by
      rcases Nat.lt_or_ge i l.length with h1 | h1
      · omega
      · rw [List.drop_eq_nil_of_le h1] at h; cases h
    by_cases h45 : c.toNat = 45
    · simp [signP, h45, hs, hl]
    · by_cases h43 : c.toNat = 43
      · simp [signP, h43, hs, hl]
      · simp [signP, h45, h43, h, hi]

theorem parse3_eq (l : List UInt8) (m : Bool) (d : List UInt8) (e : Int) (i : Nat) (hi : i ≤ l.length) : parse3 l m d e i = p3 (l.drop i) m d e := by
  unfold parse3
  rw [isAt_drop, isAt_drop]
  rcases h : l.drop i with _ | ⟨c, t⟩
  · simp only [Bool.or_self, Bool.false_eq_true, if_false]
    rw [parse4_eq l m d e i hi, h]; rfl
  · have hs := drop_succ h
    have hl : i + 1 ≤ l.length := by
      rcases Nat.lt_or_ge i l.length with h1 | h1
      · omega
      · rw [List.drop_eq_nil_of_le h1] at h; cases h
    obtain ⟨e1, e2, e3⟩ := powSign_eq l (i + 1) hl
    rw [hs] at e1 e2
    unfold p3
    by_cases hc : c.toNat = 101 ∨ c.toNat = 69
    · have hb : (decide (c.toNat = 101) || decide (c.toNat = 69)) = true := by simpa using hc
      simp only [hb, if_true, hc]
      unfold parse3b
      simp only
      rw [e2]
      by_cases h0 : runN l (powSign l (i + 1)).2 = 0
      · have := (run_zero _ _).1 h0
        rw [e1] at this
        simp [h0, this]
      · have hne : ¬ (signP t).2.takeWhile isDig = [] := by
          rw [← e1]; exact fun hh => h0 ((run_zero _ _).2 hh)
        rw [if_neg h0, if_neg hne, parse4_eq _ _ _ _ _ (runN_le l _ e3), drop_run, take_run, e1]
    · have hb : (decide (c.toNat = 101) || decide (c.toNat = 69)) = false := by
        simp only [not_or] at hc
        simp [hc.1, hc.2]
      simp only [hb, Bool.false_eq_true, if_false, hc]
      rw [parse4_eq l m d e i hi, h]; rfl

theorem parse2_eq (l : List UInt8) (m : Bool) (d : List UInt8) (i : Nat) (hi : i ≤ l.length) : parse2 l m d i = p2 (l.drop i) m d := by
  unfold parse2
  rw [isAt_drop]
  rcases h : l.drop i with _ | ⟨c, t⟩
  · simp only [Bool.false_eq_true, if_false]
    rw [parse3_eq l m d 0 i hi, h]; rfl
  · have hs := drop_succ h
    have hl : i + 1 ≤ l.length := by
      rcases Nat.lt_or_ge i l.length with h1 | h1
      · omega
      · rw [List.drop_eq_nil_of_le h1] at h; cases h
    unfold p2
    by_cases hc : c.toNat = 46
    · simp only [hc, decide_true, if_true]
      by_cases h0 : runN l (i + 1) = 0
      · have := (run_zero _ _).1 h0
        rw [hs] at this
        simp [h0, this]
      · have hne : ¬ t.takeWhile isDig = [] := by
          rw [← hs]; exact fun hh => h0 ((run_zero _ _).2 hh)
        have hlen : runN l (i + 1) = (t.takeWhile isDig).length := by unfold runN twl; rw [hs]
        rw [if_neg h0, if_neg hne, parse3_eq _ _ _ _ _ (runN_le l (i + 1) hl), drop_run, take_run, hs, hlen]
    · simp only [hc, decide_false, Bool.false_eq_true, if_false]
      rw [parse3_eq l m d 0 i hi, h]

theorem parse1_eq (l : List UInt8) (m : Bool) (i : Nat) (hi : i ≤ l.length) : parse1 l m i = p1 (l.drop i) m := by
  unfold parse1 p1
  simp only
  rw [isAt_drop]
  by_cases h0 : runN l i = 0
  · have := (run_zero _ _).1 h0
    rw [if_pos h0, this]; rfl
  · have hne : ¬ (l.drop i).takeWhile isDig = [] := fun hh => h0 ((run_zero _ _).2 hh)
    rw [if_neg h0]
    rcases h : l.drop i with _ | ⟨c, t⟩
    · rw [h] at hne; exact absurd rfl hne
    · have hlen : runN l i = ((c :: t).takeWhile isDig).length := by unfold runN twl; rw [h]
      have hcd : isDig c = true := by
        cases hcd : isDig c
        · rw [h] at hne
          simp [hcd] at hne
        · rfl
      have htw : (c :: t).takeWhile isDig = c :: t.takeWhile isDig := by simp [hcd]
      have hw : wholeOk ((c :: t).takeWhile isDig) = !(decide (1 < runN l i) && decide (c.toNat = 48)) := by
        rw [hlen, htw]
        simp only [wholeOk, List.length_cons]
        rcases t.takeWhile isDig with _ | ⟨x, y⟩
        · simp
        · simp
      rw [hw]
      cases hq : (decide (1 < runN l i) && decide (c.toNat = 48))
      · simp only [Bool.false_eq_true, if_false, Bool.not_false, if_true]
        rw [← h, parse2_eq _ _ _ _ (runN_le l i hi), drop_run, take_run]
      · simp

theorem parseL_eq (l : List UInt8) : parseL l = p1 (signL l).2 (signL l).1 := by
  unfold parseL
  rw [isAt_drop]
  rcases l with _ | ⟨c, t⟩
  · simp only [List.drop_nil, Bool.false_eq_true, if_false]
    rw [parse1_eq _ _ _ (Nat.zero_le _)]; rfl
  · simp only [List.drop_zero]
    by_cases hc : c.toNat = 45
    · simp only [hc, decide_true, if_true]
      rw [parse1_eq _ _ _ (by simp)]
      simp [signL, hc]
    · simp only [hc, decide_false, Bool.false_eq_true, if_false]
      rw [parse1_eq _ _ _ (by simp)]
      simp [signL, hc]

/-! ### The strip of noughts -/
theorem trimR_cons (c : UInt8) (d : List UInt8) : trimR (c :: d) = if isZ c = true ∧ trimR d = [] then [] else c :: trimR d := by
  unfold trimR
  rw [List.reverse_cons, List.dropWhile_append]
  cases hh : (d.reverse.dropWhile isZ).isEmpty
  · have hne : ¬ (d.reverse.dropWhile isZ) = [] := by simpa using hh
    simp [hne]
  · have hem : (d.reverse.dropWhile isZ) = [] := by simpa using hh
    cases hz : isZ c <;> simp [hem, hz]
theorem trimR_drop (d : List UInt8) : (trimR d).dropWhile isZ = trimR (d.dropWhile isZ) := by
  induction d with
  | nil => rfl
  | cons c d ih =>
    rw [trimR_cons]
    cases hz : isZ c
    · simp [hz, trimR_cons]
    · rw [List.dropWhile_cons_of_pos hz, ← ih]
      by_cases h : trimR d = []
      · simp [h]
      · simp [h, hz]
theorem trimR_count (d : List UInt8) (h : ¬ (trimR d).dropWhile isZ = []) : d.length - (trimR d).length = (d.dropWhile isZ).length - (trimR (d.dropWhile isZ)).length := by
  induction d with
  | nil => rfl
  | cons c d ih =>
    cases hz : isZ c
    · simp [hz]
    · rw [List.dropWhile_cons_of_pos hz]
      rw [trimR_cons] at h ⊢
      by_cases ht : trimR d = []
      · simp [hz, ht] at h
      · rw [if_neg (by simp [ht])] at h ⊢
        rw [List.dropWhile_cons_of_pos hz] at h
        rw [← ih h]
        simp
theorem take_tz (d : List UInt8) : d.take (d.length - tz d) = trimR d ∧ d.length - (trimR d).length = tz d := by
  have h := List.takeWhile_append_dropWhile (p := isZ) (l := d.reverse)
  have hd : d = (d.reverse.dropWhile isZ).reverse ++ (d.reverse.takeWhile isZ).reverse := by
    have := congrArg List.reverse h
    rw [List.reverse_append, List.reverse_reverse] at this
    exact this.symm
  have hl : d.length = (trimR d).length + tz d := by
    have := congrArg List.length hd
    rw [List.length_append, List.length_reverse, List.length_reverse] at this
    unfold trimR tz twl
    rw [List.length_reverse]
    exact this
  refine ⟨?_, by omega⟩
  have h2 : d.length - tz d = (trimR d).length := by omega
  rw [h2]
  have hpre : trimR d <+: d := ⟨(d.reverse.takeWhile isZ).reverse, hd.symm⟩
  exact (List.prefix_iff_eq_take.1 hpre).symm
theorem drop_twl (d : List UInt8) : d.drop (twl isZ d) = d.dropWhile isZ := drop_tw isZ d

theorem strip_eq (m : Bool) (d : List UInt8) (e : Int) : strip m d e =
    if (trimR d).dropWhile isZ = [] then ⟨false, [], 0⟩ else ⟨m, (trimR d).dropWhile isZ, e + (d.length - (trimR d).length : Nat)⟩ := by
  rw [strip_of m d e (f := twl isZ d) (z := tz (d.drop (twl isZ d))) (E := (trimR d).dropWhile isZ) rfl rfl (by rw [drop_twl, (take_tz _).1, trimR_drop])]
  split
  · rfl
  · rename_i h
    rw [trimR_count d h, drop_twl, (take_tz _).2]

/-! ### The end: the limits -/
def fin (m : Bool) (d : List UInt8) (e : Int) : Wth × Int :=
  if (trimR d).dropWhile isZ = [] then (⟨false, [], 0⟩, 0)
  else if 200 < ((trimR d).dropWhile isZ).length ∨ e + (d.length - (trimR d).length : Nat) < -9999 ∨ 9999 < e + (d.length - (trimR d).length : Nat) then (⟨false, [], 0⟩, 40)
  else (⟨m, (trimR d).dropWhile isZ, e + (d.length - (trimR d).length : Nat)⟩, 0)

theorem decGetL_fin (l : List UInt8) : decGetL l = match decL l with | none => (⟨false, [], 0⟩, 4) | some r => fin r.m r.d r.e := rfl
def endL : Option Wth → Wth × Int
  | none => (⟨false, [], 0⟩, 4)
  | some x => if 200 < x.digits.length ∨ x.exp < -9999 ∨ 9999 < x.exp then (⟨false, [], 0⟩, 40) else (x, 0)
theorem getL_end (l : List UInt8) : getL l = endL (parseL l) := by
  unfold getL endL
  cases parseL l <;> rfl
theorem endL_strip (m : Bool) (d : List UInt8) (e : Int) : endL (some (strip m d e)) = fin m d e := by
  rw [strip_eq]
  unfold fin
  by_cases h : (trimR d).dropWhile isZ = []
  · rw [if_pos h, if_pos h]; rfl
  · rw [if_neg h, if_neg h]; rfl

/-- Powers that are both beyond what may be. -/
theorem fin_far (m : Bool) (d : List UInt8) (e p q : Int) (hd : d.length ≤ 1000000) (h0 : -1000000 ≤ e) (h1 : e ≤ 1000000)
    (hp : p ≤ -100000000 ∨ 100000000 ≤ p) (hq : q ≤ -100000000 ∨ 100000000 ≤ q) : fin m d (e + p) = fin m d (e + q) := by
  unfold fin
  split
  · rfl
  · have h2 : ((d.length - (trimR d).length : Nat) : Int) ≤ 1000000 := by omega
    have h3 : 0 ≤ ((d.length - (trimR d).length : Nat) : Int) := by omega
    rw [if_pos (by omega), if_pos (by omega)]

theorem powTo_small : ∀ (l : List UInt8) (n : Int) (k : Nat), 0 ≤ n → n < 10 ^ k → k + l.length ≤ 8 → (∀ c, c ∈ l → isDig c = true) → powTo n l = numL n l
  | [], n, k, _, _, _, _ => rfl
  | c :: l, n, k, h0, h1, h2, h => by
    have hd := isDig_t (h c (by simp))
    simp only [List.length_cons] at h2
    have h3 : (10 : Int) ^ k ≤ 10 ^ 8 := by
      have : (10 : Nat) ^ k ≤ 10 ^ 8 := Nat.pow_le_pow_right (by omega) (by omega)
      exact_mod_cast this
    have h4 : (10 : Int) ^ 8 = 100000000 := by decide
    unfold powTo numL
    rw [if_pos (by omega)]
    refine powTo_small l _ (k + 1) (by omega) ?_ (by omega) (fun x hx => h x (by simp [hx]))
    rw [Int.pow_succ]
    omega
theorem powTo_zeros (l : List UInt8) : powTo 0 l = powTo 0 (l.dropWhile isZ) := by
  induction l with
  | nil => rfl
  | cons c l ih =>
    cases hz : isZ c
    · simp [hz]
    · rw [List.dropWhile_cons_of_pos hz, ← ih]
      have hc : c.toNat = 48 := by simpa [isZ] using hz
      rw [powTo, if_pos (by omega), hc]
      rfl
/-- Nine digits and more, the first one not 0: at least 100000000. -/
theorem powTo_ge : ∀ (l : List UInt8) (n : Int) (k : Nat), k ≤ 8 → 10 ^ k ≤ n → 8 ≤ k + l.length → (∀ c, c ∈ l → isDig c = true) → 100000000 ≤ powTo n l
  | [], n, k, hk, h1, h2, _ => by
    simp only [List.length_nil] at h2
    have : k = 8 := by omega
    subst this
    have h4 : (10 : Int) ^ 8 = 100000000 := by decide
    rw [h4] at h1
    exact h1
  | c :: l, n, k, hk, h1, h2, h => by
    have hd := isDig_t (h c (by simp))
    simp only [List.length_cons] at h2
    unfold powTo
    split
    · rename_i hlt
      have hk8 : k < 8 := by
        rcases Nat.lt_or_ge k 8 with h8 | h8
        · exact h8
        · have : k = 8 := by omega
          subst this
          have h4 : (10 : Int) ^ 8 = 100000000 := by decide
          omega
      refine powTo_ge l _ (k + 1) (by omega) ?_ (by omega) (fun x hx => h x (by simp [hx]))
      rw [Int.pow_succ]
      omega
    · omega
theorem dropWhile_head {l : List UInt8} {c : UInt8} {t : List UInt8} (h : l.dropWhile isZ = c :: t) : isZ c = false := by
  have := List.head?_dropWhile_not isZ l
  rw [h] at this
  simpa using this
theorem pow_cmp (g : List UInt8) (h : ∀ c, c ∈ g → isDig c = true) : powN g = powL g ∨ (100000000 ≤ powN g ∧ 100000000 ≤ powL g) := by
  have hb := powN_bd g h
  have hsub : ∀ c, c ∈ g.dropWhile isZ → isDig c = true := fun c hc => h c (List.dropWhile_subset _ hc)
  unfold powN at *
  rw [powTo_zeros] at hb ⊢
  unfold powL
  simp only
  by_cases h9 : (g.dropWhile isZ).length < 9
  · rw [if_pos h9]
    exact Or.inl (powTo_small _ 0 0 (by omega) (by decide) (by omega) hsub)
  · rw [if_neg h9]
    refine Or.inr ⟨?_, by omega⟩
    rcases hg : g.dropWhile isZ with _ | ⟨c, t⟩
    · rw [hg] at h9; simp at h9
    · have hz := dropWhile_head hg
      rw [hg] at hsub h9
      have hd := isDig_t (hsub c (by simp))
      have hc : ¬ c.toNat = 48 := by simpa [isZ] using hz
      simp only [List.length_cons] at h9
      rw [powTo, if_pos (by omega)]
      refine powTo_ge t _ 0 (by omega) ?_ (by omega) (fun x hx => hsub x (by simp [hx]))
      have : (10 : Int) ^ 0 = 1 := rfl
      rw [this]; omega

theorem p1_whole (l : List UInt8) : p1 (signL l).2 (signL l).1 = (wholeL l).bind fun r => p2 r.s r.m r.d := by
  unfold p1 wholeL
  simp only
  split <;> rfl
theorem p2_part (r : Rst) (h0 : r.e = 0) : p2 r.s r.m r.d = (partL r).bind fun r => p3 r.s r.m r.d r.e := by
  obtain ⟨s, m, d, e⟩ := r
  simp only at h0
  subst h0
  unfold p2 partL
  rcases s with _ | ⟨c, t⟩
  · rfl
  · simp only
    by_cases hc : c.toNat = 46
    · simp only [hc, if_true]
      by_cases hg : t.takeWhile isDig = []
      · rw [if_pos hg, if_pos hg]; rfl
      · rw [if_neg hg, if_neg hg]
        simp
    · simp only [hc, if_false]; rfl
theorem p3_power (r : Rst) (hd : r.d.length ≤ 1000000) (h0 : -1000000 ≤ r.e) (h1 : r.e ≤ 1000000) :
    endL (p3 r.s r.m r.d r.e) = match powerL r with | none => (⟨false, [], 0⟩, 4) | some r => fin r.m r.d r.e := by
  obtain ⟨s, m, d, e⟩ := r
  simp only at hd h0 h1
  unfold p3 powerL
  rcases s with _ | ⟨c, t⟩
  · simp only [endL_strip]
  · simp only
    by_cases hc : c.toNat = 101 ∨ c.toNat = 69
    · simp only [hc, if_true]
      by_cases hg : (signP t).2.takeWhile isDig = []
      · rw [if_pos hg, if_pos (Or.inl hg)]; rfl
      · rw [if_neg hg]
        by_cases hr : (signP t).2.dropWhile isDig = []
        · rw [if_neg (show ¬ ((signP t).2.takeWhile isDig = [] ∨ ¬ (signP t).2.dropWhile isDig = []) from fun hh => hh.elim hg (fun h2 => h2 hr))]
          unfold p4
          rw [if_pos hr, endL_strip]
          show fin m d _ = fin m d _
          have hb := powN_bd _ (fun c hc => mem_takeWhile_dig hc : ∀ c, c ∈ (signP t).2.takeWhile isDig → isDig c = true)
          have hbl := powL_bd (fun c hc => mem_takeWhile_dig hc : ∀ c, c ∈ (signP t).2.takeWhile isDig → isDig c = true)
          rcases pow_cmp _ (fun c hc => mem_takeWhile_dig hc : ∀ c, c ∈ (signP t).2.takeWhile isDig → isDig c = true) with h | ⟨ha, hb2⟩
          · rw [h]
            cases (signP t).1 <;> simp
          · refine fin_far m d e _ _ hd h0 h1 ?_ ?_
            · cases (signP t).1 <;> simp <;> omega
            · cases (signP t).1 <;> simp <;> omega
        · rw [if_pos (Or.inr hr)]
          unfold p4
          rw [if_neg hr]; rfl
    · simp only [hc, if_false]; rfl

/-- THE LAW: both make the same of a text. -/
theorem get_same (l : List UInt8) (hl : l.length ≤ 1000000) : decGetL l = getL l := by
  rw [getL_end, parseL_eq, p1_whole, decGetL_fin]
  unfold decL
  cases hw : wholeL l with
  | none => rfl
  | some r =>
    have hb := wholeL_bd hw
    simp only [Option.bind_some]
    rw [p2_part r hb.2]
    cases hp : partL r with
    | none => rfl
    | some r2 =>
      have hb2 := partL_bd hp
      simp only [Option.bind_some]
      rw [p3_power r2 (by omega) (by omega) (by omega)]
end Go.Proofs.YtlnkjacbdolhnaaGreatDoor


/-
  Plain laws of the program's decimals: what is in its own form is read as it was; the whole number of a number's own form. No program.
-/
namespace Go.Proofs.YtlnkjacbdolhnaaGreatDoor

theorem decDigits_dig : ∀ (u : Nat) (c : UInt8), c ∈ Lib.decDigits u → isDig c = true := by
  intro u
  induction u using Nat.strongRecOn with
  | ind u ih =>
    intro c hc
    rw [Lib.decDigits] at hc
    have hd : ∀ v, v < 10 → isDig (UInt8.ofNat (48 + v)) = true := by
      intro v hv
      have h : ∀ x : Fin 10, isDig (UInt8.ofNat (48 + x.val)) = true := by decide
      exact h ⟨v, hv⟩
    split at hc
    · rename_i h
      rw [List.mem_singleton] at hc
      rw [hc]; exact hd u h
    · rename_i h
      rw [List.mem_append, List.mem_singleton] at hc
      rcases hc with hc | hc
      · exact ih (u / 10) (by omega) c hc
      · rw [hc]; exact hd _ (by omega)
theorem decDigits_ne (u : Nat) : ¬ Lib.decDigits u = [] := by
  rw [Lib.decDigits]; split <;> simp
theorem dig_toNat (v : Nat) (h : v < 10) : (UInt8.ofNat (48 + v)).toNat = 48 + v := by
  rw [UInt8.toNat_ofNat']; omega
theorem decV_decDigits (u : Nat) : decV (Lib.decDigits u) = u := by
  induction u using Nat.strongRecOn with
  | ind u ih =>
    rw [Lib.decDigits]
    split
    · rename_i h
      show 0 * 10 + ((UInt8.ofNat (48 + u)).toNat - 48) = u
      rw [dig_toNat u h]; omega
    · rename_i h
      rw [decV_snoc, ih (u / 10) (by omega), dig_toNat _ (by omega)]; omega
theorem decDigits_len : ∀ (k u : Nat), u < 10 ^ (k + 1) → (Lib.decDigits u).length ≤ k + 1
  | 0, u, h => by rw [Lib.decDigits, dif_pos (by simpa using h)]; simp
  | k + 1, u, h => by
    rw [Lib.decDigits]
    split
    · simp
    · rw [List.length_append, List.length_singleton]
      have := decDigits_len k (u / 10) (by rw [Nat.pow_succ] at h; omega)
      omega
theorem decDigits_head : ∀ (u : Nat), 0 < u → ∃ c t, Lib.decDigits u = c :: t ∧ isZ c = false := by
  intro u
  induction u using Nat.strongRecOn with
  | ind u ih =>
    intro h0
    rw [Lib.decDigits]
    split
    · rename_i h
      refine ⟨_, [], rfl, ?_⟩
      unfold isZ
      rw [dig_toNat u h]; simp; omega
    · rename_i h
      obtain ⟨c, t, h1, h2⟩ := ih (u / 10) (by omega) (by omega)
      exact ⟨c, t ++ [_], by rw [h1]; rfl, h2⟩
theorem takeWhile_all {p : UInt8 → Bool} {l : List UInt8} (h : ∀ c, c ∈ l → p c = true) : l.takeWhile p = l ∧ l.dropWhile p = [] := by
  induction l with
  | nil => exact ⟨rfl, rfl⟩
  | cons c l ih =>
    have hc := h c (by simp)
    have := ih (fun x hx => h x (by simp [hx]))
    exact ⟨by rw [List.takeWhile_cons_of_pos hc, this.1], by rw [List.dropWhile_cons_of_pos hc, this.2]⟩
/-- A worth as get makes it. -/
structure Nrm (x : Wth) : Prop where
  zero : x.digits = [] → x = ⟨false, [], 0⟩
  dig : ∀ c, c ∈ x.digits → isDig c = true
  left : x.digits.dropWhile isZ = x.digits
  right : trimR x.digits = x.digits
  len : x.digits.length ≤ 200
  lo : -9999 ≤ x.exp
  hi : x.exp ≤ 9999

theorem dropWhile_idem (p : UInt8 → Bool) (l : List UInt8) : (l.dropWhile p).dropWhile p = l.dropWhile p := by
  induction l with
  | nil => rfl
  | cons c l ih =>
    cases hp : p c
    · simp [hp]
    · rw [List.dropWhile_cons_of_pos hp, ih]
theorem trimR_idem (l : List UInt8) : trimR (trimR l) = trimR l := by
  unfold trimR
  rw [List.reverse_reverse, dropWhile_idem]
theorem get_nrm (l : List UInt8) : Nrm (decGetL l).1 := by
  have hz : Nrm ⟨false, [], 0⟩ := ⟨fun _ => rfl, fun c hc => absurd hc List.not_mem_nil, rfl, rfl, Nat.zero_le _, by decide, by decide⟩
  have hd := decGetL_dig l
  unfold decGetL at hd ⊢
  split
  · exact hz
  · rename_i r hr
    simp only at hd ⊢
    split
    · exact hz
    · split
      · exact hz
      · rename_i h1 h2 h3
        rw [hr] at hd
        simp only [h2, h3, if_false] at hd
        refine ⟨fun h => absurd h h2, hd, dropWhile_idem _ _, ?_, ?_, ?_, ?_⟩
        · show trimR ((trimR r.d).dropWhile isZ) = _
          rw [← trimR_drop, trimR_idem]
        · show ((trimR r.d).dropWhile isZ).length ≤ 200; omega
        · show -9999 ≤ _ + _; omega
        · show _ + _ ≤ (9999 : Int); omega

/-! ### The whole number of a number's own form -/

theorem trimR_fill (d : List UInt8) : d = trimR d ++ List.replicate (d.length - (trimR d).length) 48 := by
  have h := take_tz d
  have h2 : d = d.take (d.length - tz d) ++ d.drop (d.length - tz d) := (List.take_append_drop _ _).symm
  rw [h.1] at h2
  have h3 : d.drop (d.length - tz d) = List.replicate (d.length - (trimR d).length) 48 := by
    rw [h.2]
    have hlen : (d.drop (d.length - tz d)).length = tz d := by
      rw [List.length_drop]
      have := tz_le d
      omega
    refine List.eq_replicate_iff.2 ⟨hlen, ?_⟩
    intro c hc
    have hrev : d.drop (d.length - tz d) = (d.reverse.take (tz d)).reverse := by
      rw [List.take_reverse, List.reverse_reverse]
    rw [hrev, List.mem_reverse] at hc
    unfold tz twl at hc
    rw [← List.prefix_iff_eq_take.1 (List.takeWhile_prefix isZ)] at hc
    have := List.all_takeWhile (p := isZ) (l := d.reverse)
    rw [List.all_eq_true] at this
    have hz := this c hc
    exact UInt8.toNat_inj.1 (by simpa [isZ] using hz)
  rw [← h3]
  exact h2

theorem dec_itoa (n : Int) : decL (Lib.itoa n) = some ⟨[], decide (n < 0), Lib.decDigits n.natAbs, 0⟩ := by
  have hall := takeWhile_all (fun c hc => decDigits_dig n.natAbs c hc)
  have hs : signL (Lib.itoa n) = (decide (n < 0), Lib.decDigits n.natAbs) := by
    unfold Lib.itoa
    by_cases hn : n < 0
    · rw [if_pos hn]
      unfold signL
      simp [hn]
    · rw [if_neg hn]
      have he : n.toNat = n.natAbs := by omega
      rw [he]
      rcases hd : Lib.decDigits n.natAbs with _ | ⟨c, t⟩
      · exact absurd hd (decDigits_ne _)
      · have hc := isDig_t (decDigits_dig n.natAbs c (by rw [hd]; simp))
        unfold signL
        simp only
        rw [if_neg (by omega)]
        simp [hn]
  have hok : wholeOk (Lib.decDigits n.natAbs) = true := by
    by_cases h0 : n.natAbs = 0
    · rw [h0, Lib.decDigits, dif_pos (by omega)]; rfl
    · obtain ⟨c, t, h1, h2⟩ := decDigits_head n.natAbs (by omega)
      rw [h1]
      have : ¬ c.toNat = 48 := by simpa [isZ] using h2
      simp [wholeOk, this]
  have hw : wholeL (Lib.itoa n) = some ⟨[], decide (n < 0), Lib.decDigits n.natAbs, 0⟩ := by
    unfold wholeL
    rw [hs]
    simp only [hall.1, hall.2, hok, if_true]
  unfold decL
  rw [hw]
  rfl

theorem get_itoa (n : Int) (h0 : -9223372036854775808 ≤ n) (h1 : n ≤ 9223372036854775807) :
    ∃ (D : List UInt8) (k : Nat), decGetL (Lib.itoa n) = (⟨decide (n < 0), D, (k : Int)⟩, 0) ∧ D.length + k ≤ 19 ∧ decV (D ++ List.replicate k 48) = n.natAbs := by
  have hl : (Lib.decDigits n.natAbs).length ≤ 19 := decDigits_len 18 n.natAbs (by
    have : (10 : Nat) ^ 19 = 10000000000000000000 := by decide
    rw [this]; omega)
  by_cases hz : n = 0
  · subst hz
    refine ⟨[], 0, ?_, by simp, rfl⟩
    have : Lib.itoa 0 = [48] := by
      unfold Lib.itoa
      rw [if_neg (by omega), show (0 : Int).toNat = 0 from rfl, Lib.decDigits, dif_pos (by omega)]; rfl
    rw [this]
    decide +kernel
  · obtain ⟨c, t, hct, hcz⟩ := decDigits_head n.natAbs (by omega)
    obtain ⟨dd, hdd⟩ : ∃ dd, Lib.decDigits n.natAbs = dd := ⟨_, rfl⟩
    have hv := decV_decDigits n.natAbs
    have hfill := trimR_fill dd
    have hdec := dec_itoa n
    rw [hdd] at hct hl hv hdec
    have hleft : (trimR dd).dropWhile isZ = trimR dd := by
      rw [trimR_drop, hct]
      simp [hcz]
    have hne : ¬ trimR dd = [] := by
      rw [hct, trimR_cons]
      simp [hcz]
    have hlt := dropWhile_length_le (p := isZ) dd.reverse
    have hlt2 : (trimR dd).length ≤ dd.length := by
      unfold trimR
      rw [List.length_reverse]
      simpa using hlt
    refine ⟨trimR dd, dd.length - (trimR dd).length, ?_, by omega, ?_⟩
    · rw [decGetL_fin, hdec]
      unfold fin
      simp only
      rw [hleft, if_neg hne, if_neg (by omega)]
      simp
    · rw [← hfill]; exact hv

end Go.Proofs.YtlnkjacbdolhnaaGreatDoor


/-
  The walks of rostrumref04's digit, run and power: what each computes.
-/
namespace Go.Proofs.YtlnkjacbdolhnaaGreatDoor
open Go.RowKit

set_option maxHeartbeats 400000 in
theorem refDigit_any (c : UInt8) (w : World) :
    Calls Tryz.prog 263 #[.int .u8 c.toNat] w fun e w' => e = .returned (.bool (isDig c)) ∧ w = w' := by
  by_cases h1 : 48 ≤ (c.toNat : Int)
  · by_cases h2 : (c.toNat : Int) ≤ 57
    · have e1 : isDig c = true := by simp [isDig]; omega
      rw [e1]; clear e1
      go_enter Tryz.func263, Tryz.ntmps263
      go_wp2
      go_ret
      exact ⟨rfl, rfl⟩
    · have e1 : isDig c = false := by simp [isDig]; omega
      rw [e1]; clear e1
      go_enter Tryz.func263, Tryz.ntmps263
      go_wp2
      go_ret
      exact ⟨rfl, rfl⟩
  · have e1 : isDig c = false := by simp [isDig]; omega
    rw [e1]; clear e1
    go_enter Tryz.func263, Tryz.ntmps263
    go_wp2
    go_ret
    exact ⟨rfl, rfl⟩

theorem ret_i64 {a b : Int} (h : a = b) : Ending.returned (.int .i64 a) = .returned (.int .i64 b) := by rw [h]

set_option maxHeartbeats 400000 in
theorem refRun_any (s : ByteArray) (i : Nat) (w : World) (hi : i ≤ s.size) (hs : s.size ≤ 9223372036854775807) :
    Calls Tryz.prog 241 #[.string s, .int .i64 i] w fun e w' => e = .returned (.int .i64 (runN s.data.toList i)) ∧ w = w' := by
  go_enter Tryz.func241, Tryz.ntmps241
  go_wp2
  go_loop [5] (fun n => ∃ k : Nat, i + k ≤ s.size ∧ k ≤ runN s.data.toList i ∧ n = .int .i64 k) (fun n => s.size - (intOf n).toNat)
  case atStart => exact ⟨0, by omega, by omega, rfl⟩
  case round =>
    obtain ⟨k, hk, hr, rfl⟩ := hrel
    by_cases hlt : i + k < s.size
    · have hb := Lib.hid (bytes_at s (i + k) hlt)
      cases hd : isDig s[i + k]
      · have H := Lib.hid (runN_stop _ i k _ hr hb.out hd)
        go_wp2_with (go_at_call 263; refine (refDigit_any _ _).mono ?_; rintro e w' ⟨rfl, rfl⟩)
        go_ret
        exact ⟨ret_i64 (by rw [H.out]), rfl⟩
      · have H := Lib.hid (runN_step _ i k _ hr hb.out hd)
        go_wp2_with (go_at_call 263; refine (refDigit_any _ _).mono ?_; rintro e w' ⟨rfl, rfl⟩)
        go_round
        case rel => exact ⟨k + 1, by omega, H.out, by go_num⟩
        case measure => simp [intOf]; omega
    · have H := Lib.hid (runN_end _ i k hr (by rw [bytes_len]; omega))
      go_wp2
      go_ret
      exact ⟨ret_i64 (by rw [H.out]), rfl⟩

set_option maxHeartbeats 400000 in
theorem refPower_any (s : ByteArray) (w : World) (hdig : ∀ (j : Nat) (c : UInt8), s.data.toList[j]? = some c → isDig c = true) (hs : s.size ≤ 9223372036854775807) :
    Calls Tryz.prog 242 #[.string s] w fun e w' => e = .returned (.int .i64 (powN s.data.toList)) ∧ w = w' := by
  have hdig := Lib.hid hdig
  go_enter Tryz.func242, Tryz.ntmps242
  go_wp2
  go_loop [3, 4] (fun n i => ∃ (k : Nat) (m : Int), k ≤ s.size ∧ 0 ≤ m ∧ m ≤ 1000000000 ∧ powTo m (s.data.toList.drop k) = powN s.data.toList ∧ n = .int .i64 m ∧ i = .int .i64 k) (fun _ i => s.size - (intOf i).toNat)
  case atStart => exact ⟨0, 0, by omega, by omega, by omega, by simp [powN], rfl, rfl⟩
  case round =>
    obtain ⟨k, m, hk, h0, h1, hp, rfl, rfl⟩ := hrel
    have hp := Lib.hid hp
    by_cases hlt : k < s.size
    · have hb := Lib.hid (bytes_at s k hlt)
      have hd := isDig_t (hdig.out k _ hb.out)
      by_cases hm : m < 100000000
      · have H := Lib.hid (powTo_drop m _ k _ hb.out hm)
        have hd1 : 48 ≤ (s[k].toNat : Int) := by omega
        have hd2 : (s[k].toNat : Int) ≤ 57 := by omega
        clear hd
        go_wp2
        go_round
        case rel => exact ⟨k + 1, _, by omega, by omega, by omega, by rw [← H.out]; exact hp.out, rfl, by go_num⟩
        case measure => simp [intOf]; omega
      · have H := Lib.hid (powTo_big (s.data.toList.drop k) hm)
        go_wp2
        go_ret
        exact ⟨ret_i64 (by rw [← hp.out, H.out]), rfl⟩
    · have H := Lib.hid (powTo_end m s.data.toList k (by rw [bytes_len]; omega))
      go_wp2
      go_ret
      exact ⟨ret_i64 (by rw [← hp.out, H.out]), rfl⟩
end Go.Proofs.YtlnkjacbdolhnaaGreatDoor
