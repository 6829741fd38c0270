/-
  The walks of (*dec.reader).digits and begins.
-/
import Derived.Test.YtlnkjacbdolhnaaGreatDoorProg
import Derived.Test.YtlnkjacbdolhnaaGreatDoorM00
import Derived.Test.YtlnkjacbdolhnaaGreatDoorShelf
import Derived.WalkKit
import Derived.WalkSpells
import Derived.WalkLawsBesides
import Derived.Lib.Hide
import Derived.Lib.Strings
import Derived.Lib.IndexLaws
import Derived.Lib.IndexBytes
import Derived.IntWalk
import Derived.BigQuiet
import Derived.Deep.QuietTactic
import Derived.Deep.RegionWith
import Derived.Lib.AtoiErrMem
import Derived.Lib.TrimByte
namespace Go.Proofs.YtlnkjacbdolhnaaGreatDoor
open Go.RowKit

/-- The reader's block: s, then x (minus, digits, exp), then sign. -/
def RD (w : World) (b : Nat) (s : ByteArray) (m : Bool) (d : ByteArray) (e : Int) : Prop :=
  Cel w b 230 #[.string s, .bool m, .string d, .int .i64 e, .int .i64 0]

theorem RD.facts {w : World} {b : Nat} {s : ByteArray} {m : Bool} {d : ByteArray} {e : Int} (h : RD w b s m d e) :
    w.cell? ⟨b, 0, none⟩ = some (.string s) ∧ w.cell? ⟨b, 1, none⟩ = some (.bool m) ∧ w.cell? ⟨b, 2, none⟩ = some (.string d) ∧ w.cell? ⟨b, 3, none⟩ = some (.int .i64 e) ∧
    w.frozen? ⟨b, 0, none⟩ = false ∧ w.frozen? ⟨b, 1, none⟩ = false ∧ w.frozen? ⟨b, 2, none⟩ = false ∧ w.frozen? ⟨b, 3, none⟩ = false :=
  ⟨Cel.cell h 0, Cel.cell h 1, Cel.cell h 2, Cel.cell h 3, Cel.froz h 0, Cel.froz h 1, Cel.froz h 2, Cel.froz h 3⟩
theorem RD.setS {w : World} {b : Nat} {s : ByteArray} {m : Bool} {d : ByteArray} {e : Int} (h : RD w b s m d e) (s' : ByteArray) : RD (w.setCell ⟨b, 0, none⟩ (.string s')) b s' m d e := Cel.set h 0 _
theorem RD.setM {w : World} {b : Nat} {s : ByteArray} {m : Bool} {d : ByteArray} {e : Int} (h : RD w b s m d e) (m' : Bool) : RD (w.setCell ⟨b, 1, none⟩ (.bool m')) b s m' d e := Cel.set h 1 _
theorem RD.setD {w : World} {b : Nat} {s : ByteArray} {m : Bool} {d : ByteArray} {e : Int} (h : RD w b s m d e) (d' : ByteArray) : RD (w.setCell ⟨b, 2, none⟩ (.string d')) b s m d' e := Cel.set h 2 _
theorem RD.setE {w : World} {b : Nat} {s : ByteArray} {m : Bool} {d : ByteArray} {e : Int} (h : RD w b s m d e) (e' : Int) : RD (w.setCell ⟨b, 3, none⟩ (.int .i64 e')) b s m d e' := Cel.set h 3 _
theorem RD.drew {w : World} {b : Nat} {s : ByteArray} {m : Bool} {d : ByteArray} {e : Int} (h : RD w b s m d e) : RD w.drew b s m d e := h
theorem RD.lt {w : World} {b : Nat} {s : ByteArray} {m : Bool} {d : ByteArray} {e : Int} (h : RD w b s m d e) : b < w.heap.size := Cel.lt h

/-- The ten digits. -/
def tenDigits : ByteArray := ⟨#[48, 49, 50, 51, 52, 53, 54, 55, 56, 57]⟩
theorem trim_ten (l : List UInt8) : Lib.trimLeftS l tenDigits.data.toList = l.dropWhile isDig := by
  unfold Lib.trimLeftS
  congr 1
  funext c
  revert c
  have h : ∀ n : Fin 256, (tenDigits.data.toList.contains (UInt8.ofNat n.val)) = isDig (UInt8.ofNat n.val) := by decide +kernel
  intro c
  have := h ⟨c.toNat, UInt8.toNat_lt c⟩
  simpa using this

/-- How digits ends. -/
def DigEnd (w : World) (b : Nat) (s : ByteArray) (m : Bool) (d : ByteArray) (e : Int) (en : Ending) (w' : World) : Prop :=
  ∃ g r : ByteArray, en = .returned (.string g) ∧ g.data.toList = s.data.toList.takeWhile isDig ∧ r.data.toList = s.data.toList.dropWhile isDig ∧ RD w' b r m d e ∧ Below b w w'

theorem take_len (l : List UInt8) (p : UInt8 → Bool) : l.takeWhile p = l.take (l.length - (l.dropWhile p).length) := by
  have h := List.takeWhile_append_dropWhile (p := p) (l := l)
  have h2 : l.length = (l.takeWhile p).length + (l.dropWhile p).length := by rw [← List.length_append, h]
  rw [show l.length - (l.dropWhile p).length = (l.takeWhile p).length by omega]
  exact List.prefix_iff_eq_take.1 (List.takeWhile_prefix p)

set_option maxHeartbeats 1000000 in
theorem decDigits_any (b : Nat) (s : ByteArray) (m : Bool) (d : ByteArray) (e : Int) (w : World) (hR : RD w b s m d e) (hs : s.size ≤ 1099511627776) :
    Calls Tryz.prog 203 #[.pointer (some ⟨b, 0, none⟩)] w (DigEnd w b s m d e) := by
  obtain ⟨x0, x1, x2, x3, f0, f1, f2, f3⟩ := hR.facts
  have hcon : ∀ W, Calls Tryz.prog 83 #[.string s, .string ⟨#[48, 49, 50, 51, 52, 53, 54, 55, 56, 57]⟩] W fun e w' => ∃ r : ByteArray, e = .returned (.string r) ∧ r.data.toList = s.data.toList.dropWhile isDig ∧ r.size ≤ s.size ∧ Below W.heap.size W w' := by
    intro W
    refine (Tryz.strings_TrimLeft_set s tenDigits W (by decide) (by
      have h : ∀ j : Fin 10, (tenDigits.data.toList[j.val]?.map (fun b => decide (b.toNat < 128))) = some true := by decide +kernel
      intro j b hb
      have hj : j < 10 := by
        rcases Nat.lt_or_ge j 10 with h1 | h1
        · exact h1
        · rw [List.getElem?_eq_none (by simpa [tenDigits] using h1)] at hb; cases hb
      have := h ⟨j, hj⟩
      simp only [hb] at this
      simpa using this)).mono ?_
    rintro e w' ⟨rfl, hB⟩
    refine ⟨_, rfl, ?_, ?_, hB⟩
    · simp [trim_ten]
    · rw [trim_ten]
      have h := List.takeWhile_append_dropWhile (p := isDig) (l := s.data.toList)
      have h2 : s.data.toList.length = (s.data.toList.takeWhile isDig).length + (s.data.toList.dropWhile isDig).length := by rw [← List.length_append, h]
      rw [bytes_len] at h2
      show (List.toArray _).size ≤ _
      simp
      omega
  replace hcon := Lib.hid hcon
  replace hR := Lib.hid hR
  go_enter Tryz.func203, Tryz.ntmps203
  go_wp2_with fail
  refine (hcon.out _).mono ?_
  rintro e1 w1 ⟨r, rfl, hr, hrs, hB⟩
  have hR1 : RD w1 b s m d e := Cel.below hR.out hB hR.out.lt
  obtain ⟨y0, y1, y2, y3, g0, g1, g2, g3⟩ := hR1.facts
  have hB1 : Below b w w1 := hB.mono (Nat.le_of_lt hR.out.lt)
  replace hR1 := Lib.hid hR1
  replace hB1 := Lib.hid hB1
  replace hr := Lib.hid hr
  clear hB x0 x1 x2 x3 f0 f1 f2 f3
  go_upto_region 2 with (fail)
  go_quiet (fail)
  go_wp2
  go_ret
  refine ⟨s.extract 0 (s.size - r.size), r, rfl, ?_, hr.out, ?_, ?_⟩
  · rw [Lib.extract_data, take_len, ← hr.out, bytes_len, bytes_len]; simp
  · exact RD.setS (Cel.drewN hR1.out nq) r
  · exact (bel_drewN hB1.out nq).setCell (Nat.le_refl _) _

theorem has_byte (l : List UInt8) (c : UInt8) : decide (0 ≤ Lib.indexByte l c) = l.contains c := by
  induction l with
  | nil => rfl
  | cons a l ih =>
    unfold Lib.indexByte
    by_cases h : a = c
    · subst h; simp
    · have h1 : (a == c) = false := by simpa using h
      have h2 : (c == a) = false := by simpa using fun e => h e.symm
      have hge := Lib.indexByte_ge l c
      rw [h1]
      simp only [Bool.false_eq_true, if_false, List.contains_cons, h2, Bool.false_or]
      rw [← ih]
      by_cases h3 : Lib.indexByte l c = -1
      · simp [h3]
      · have h4 : (Lib.indexByte l c == -1) = false := by simpa using h3
        rw [h4]
        simp only [Bool.false_eq_true, if_false]
        rw [Bool.eq_iff_iff]
        simp
        omega

theorem first_byte (s : ByteArray) (c : UInt8) (t : List UInt8) (h : s.data.toList = c :: t) : s.extract 0 1 = ⟨#[c]⟩ := by
  have h1 : (s.extract 0 1).data.toList = [c] := by rw [Lib.extract_data, h]; simp
  rw [← bytes_mk (s.extract 0 1), h1]
theorem rest_bytes (s : ByteArray) (c : UInt8) (t : List UInt8) (h : s.data.toList = c :: t) : (s.extract 1 s.size).data.toList = t := by
  rw [Lib.extract_to_end, h]; rfl
theorem size_cons (s : ByteArray) (c : UInt8) (t : List UInt8) (h : s.data.toList = c :: t) : s.size = t.length + 1 := by
  rw [← bytes_len, h]; rfl
theorem at_cons (s : ByteArray) (c : UInt8) (t : List UInt8) (h : s.data.toList = c :: t) (h0 : 0 < s.size) : s[0] = c := by
  have h1 := bytes_at s 0 h0
  rw [h] at h1
  simp at h1
  exact h1.symm
theorem isEmpty_t (s : ByteArray) (h : s.data.toList = []) : s.toList.isEmpty = true := by rw [Lib.toList_data, h]; rfl
theorem isEmpty_f (s : ByteArray) (c : UInt8) (t : List UInt8) (h : s.data.toList = c :: t) : s.toList.isEmpty = false := by rw [Lib.toList_data, h]; rfl

set_option maxHeartbeats 1000000 in
theorem decBegins_yes (b : Nat) (s some : ByteArray) (m : Bool) (d : ByteArray) (e : Int) (w : World) (hR : RD w b s m d e) (hs : s.size ≤ 1099511627776) (c : UInt8) (t : List UInt8) (hc : s.data.toList = c :: t) (hin : some.data.toList.contains c = true) :
    Calls Tryz.prog 202 #[.pointer (.some ⟨b, 0, none⟩), .string some] w fun en w' => en = .returned (.tuple #[.int .u8 c.toNat, .bool true]) ∧ w' = w.setCell ⟨b, 0, none⟩ (.string (s.extract 1 s.size)) := by
  obtain ⟨x0, x1, x2, x3, f0, f1, f2, f3⟩ := hR.facts
  have he := isEmpty_f s c t hc
  have hsz := size_cons s c t hc
  have h0 : 0 < s.size := by omega
  have hat := at_cons s c t hc h0
  have hcon : ∀ W, Calls Tryz.prog 232 #[.string some, .string (s.extract 0 1)] W fun e w' => e = .returned (.bool true) ∧ W = w' := by
    intro W
    rw [first_byte s c t hc]
    refine (Tryz.strings_Contains_one some c W).mono ?_
    rintro e w' ⟨rfl, rfl⟩
    exact ⟨by rw [has_byte, hin], rfl⟩
  replace hcon := Lib.hid hcon
  replace hat := Lib.hid hat
  clear hsz hc hin
  go_enter Tryz.func202, Tryz.ntmps202
  go_wp2_with (go_at_call 232; refine (hcon.out _).mono ?_; rintro e w' ⟨rfl, rfl⟩)
  go_ret2
  exact ⟨by rw [hat.out]; rfl, rfl⟩

set_option maxHeartbeats 1000000 in
theorem decBegins_none (b : Nat) (s some : ByteArray) (m : Bool) (d : ByteArray) (e : Int) (w : World) (hR : RD w b s m d e) (hc : s.data.toList = []) :
    Calls Tryz.prog 202 #[.pointer (.some ⟨b, 0, none⟩), .string some] w fun en w' => en = .returned (.tuple #[.int .u8 0, .bool false]) ∧ w = w' := by
  obtain ⟨x0, x1, x2, x3, f0, f1, f2, f3⟩ := hR.facts
  have he := isEmpty_t s hc
  clear hc
  go_enter Tryz.func202, Tryz.ntmps202
  go_wp2
  go_ret2
  exact ⟨rfl, rfl⟩

set_option maxHeartbeats 1000000 in
theorem decBegins_other (b : Nat) (s some : ByteArray) (m : Bool) (d : ByteArray) (e : Int) (w : World) (hR : RD w b s m d e) (hs : s.size ≤ 1099511627776) (c : UInt8) (t : List UInt8) (hc : s.data.toList = c :: t) (hin : some.data.toList.contains c = false) :
    Calls Tryz.prog 202 #[.pointer (.some ⟨b, 0, none⟩), .string some] w fun en w' => en = .returned (.tuple #[.int .u8 0, .bool false]) ∧ w = w' := by
  obtain ⟨x0, x1, x2, x3, f0, f1, f2, f3⟩ := hR.facts
  have he := isEmpty_f s c t hc
  have hsz := size_cons s c t hc
  have h0 : 0 < s.size := by omega
  have hcon : ∀ W, Calls Tryz.prog 232 #[.string some, .string (s.extract 0 1)] W fun e w' => e = .returned (.bool false) ∧ W = w' := by
    intro W
    rw [first_byte s c t hc]
    refine (Tryz.strings_Contains_one some c W).mono ?_
    rintro e w' ⟨rfl, rfl⟩
    exact ⟨by rw [has_byte, hin], rfl⟩
  replace hcon := Lib.hid hcon
  clear hsz hc hin
  go_enter Tryz.func202, Tryz.ntmps202
  go_wp2_with (go_at_call 232; refine (hcon.out _).mono ?_; rintro e w' ⟨rfl, rfl⟩)
  go_ret2
  exact ⟨rfl, rfl⟩
end Go.Proofs.YtlnkjacbdolhnaaGreatDoor


/-
  The walks of (*dec.reader).whole, part and power.
-/
namespace Go.Proofs.YtlnkjacbdolhnaaGreatDoor
open Go.RowKit

/-- A method of the reader as a value. -/
def fnV (f b : Nat) : Value := .func (.func f) #[.pointer (some ⟨b, 0, none⟩)] #[]

/-- How a state ends. -/
def StEnd (w : World) (b : Nat) (res : Option Rst) (fv : Value) (en : Ending) (w' : World) : Prop :=
  match res with
  | none => (∃ v, en = .returned (.tuple #[v, .bool false])) ∧ Below b w w'
  | some r => ∃ s' d' : ByteArray, en = .returned (.tuple #[fv, .bool true]) ∧ s'.data.toList = r.s ∧ d'.data.toList = r.d ∧ RD w' b s' r.m d' r.e ∧ Below b w w'

theorem StEnd.no {w w' : World} {b : Nat} {res : Option Rst} {fv v : Value} (h : res = none) (hB : Below b w w') : StEnd w b res fv (.returned (.tuple #[v, .bool false])) w' := by
  subst h; exact ⟨⟨v, rfl⟩, hB⟩
theorem StEnd.yes {w w' : World} {b : Nat} {res : Option Rst} {fv : Value} {r : Rst} {s' d' : ByteArray} (h : res = some r) (hs : s'.data.toList = r.s) (hd : d'.data.toList = r.d) (hR : RD w' b s' r.m d' r.e) (hB : Below b w w') : StEnd w b res fv (.returned (.tuple #[fv, .bool true])) w' := by
  subst h; exact ⟨s', d', rfl, hs, hd, hR, hB⟩

/-- What begins does, said of the sign. -/
theorem begins_sign (b : Nat) (s : ByteArray) (m : Bool) (d : ByteArray) (e : Int) (w : World) (hR : RD w b s m d e) (hs : s.size ≤ 1099511627776) :
    Calls Tryz.prog 202 #[.pointer (some ⟨b, 0, none⟩), .string ⟨#[45]⟩] w fun en w' => ∃ (c : Int) (s' : ByteArray), en = .returned (.tuple #[.int .u8 c, .bool (signL s.data.toList).1]) ∧ s'.data.toList = (signL s.data.toList).2 ∧ s'.size ≤ s.size ∧ RD w' b s' m d e ∧ Below b w w' := by
  rcases hl : s.data.toList with _ | ⟨c, t⟩
  · refine (decBegins_none b s _ m d e w hR hl).mono ?_
    rintro en w' ⟨rfl, rfl⟩
    exact ⟨0, s, rfl, hl, Nat.le_refl _, hR, Below.refl _ _⟩
  · by_cases hc : c.toNat = 45
    · refine (decBegins_yes b s ⟨#[45]⟩ m d e w hR hs c t hl (by
        have : c = 45 := UInt8.toNat_inj.1 hc
        subst this; rfl)).mono ?_
      rintro en w' ⟨rfl, rfl⟩
      refine ⟨c.toNat, s.extract 1 s.size, by simp [signL, hc], by rw [rest_bytes s c t hl]; simp [signL, hc], by rw [ByteArray.size_extract]; omega, hR.setS _, (Below.refl b w).setCell (p := ⟨b, 0, none⟩) (Nat.le_refl b) _⟩
    · refine (decBegins_other b s ⟨#[45]⟩ m d e w hR hs c t hl (by
        have : ¬ c = 45 := fun h => hc (by rw [h]; rfl)
        simpa using this)).mono ?_
      rintro en w' ⟨rfl, rfl⟩
      exact ⟨0, s, by simp [signL, hc], by rw [hl]; simp [signL, hc], Nat.le_refl _, hR, Below.refl _ _⟩

set_option maxHeartbeats 1000000 in
theorem decWhole_any (b : Nat) (s : ByteArray) (w : World) (hR : RD w b s false ⟨#[]⟩ 0) (hs : s.size ≤ 1099511627776) :
    Calls Tryz.prog 179 #[.pointer (some ⟨b, 0, none⟩)] w (StEnd w b (wholeL s.data.toList) (fnV 204 b)) := by
  obtain ⟨x0, x1, x2, x3, f0, f1, f2, f3⟩ := hR.facts
  replace hR := Lib.hid hR
  go_enter Tryz.func179, Tryz.ntmps179
  go_wp2_with fail
  refine (begins_sign b s _ _ _ _ hR.out hs).mono ?_
  rintro e1 w1 ⟨c, s1, rfl, hs1, hsz, hR1, hB1⟩
  clear x0 x1 x2 x3 f0 f1 f2 f3
  obtain ⟨x0, x1, x2, x3, f0, f1, f2, f3⟩ := hR1.facts
  replace hR1 := Lib.hid (hR1.setM (signL s.data.toList).1)
  replace hB1 := Lib.hid (hB1.setCell (p := ⟨b, 1, none⟩) (Nat.le_refl _) (.bool (signL s.data.toList).1))
  replace hs1 := Lib.hid hs1
  go_wp2_with fail
  refine (decDigits_any b s1 _ _ _ _ hR1.out (by omega)).mono ?_
  rintro e2 w2 ⟨g, r, rfl, hg, hr, hR2, hB2⟩
  clear x0 x1 x2 x3 f0 f1 f2 f3
  obtain ⟨x0, x1, x2, x3, f0, f1, f2, f3⟩ := hR2.facts
  replace hR2 := Lib.hid (hR2.setD g)
  replace hB2 := Lib.hid ((hB1.out.trans hB2).setCell (p := ⟨b, 2, none⟩) (Nat.le_refl _) (.string g))
  replace hg := Lib.hid hg
  replace hr := Lib.hid hr
  go_upto_region 3 with (fail)
  clear x0 x1 x2 x3 f0 f1 f2 f3
  generalize w2.setCell ⟨b, 2, none⟩ (.string g) = w3 at *
  obtain ⟨x0, x1, x2, x3, f0, f1, f2, f3⟩ := hR2.out.facts
  have hgd : (signL s.data.toList).2.takeWhile isDig = g.data.toList := by rw [hg.out, hs1.out]
  rcases hl : g.data.toList with _ | ⟨c0, t0⟩
  · have he := isEmpty_t g hl
    have hno : wholeL s.data.toList = none := by unfold wholeL; rw [hgd, hl]; rfl
    replace hno := Lib.hid hno
    clear hl hgd
    go_region
    go_wp2
    go_ret2
    exact StEnd.no hno.out hB2.out.drew
  · have he := isEmpty_f g c0 t0 hl
    have h0 : 0 < g.size := by rw [size_cons g c0 t0 hl]; omega
    have hat := at_cons g c0 t0 hl h0
    by_cases hz : c0.toNat = 48
    · by_cases ht : t0 = []
      · subst ht
        have hg1 : g = ⟨#[48]⟩ := by
          rw [← bytes_mk g, hl, show c0 = 48 from UInt8.toNat_inj.1 hz]
        have hok : wholeL s.data.toList = some ⟨(signL s.data.toList).2.dropWhile isDig, (signL s.data.toList).1, (signL s.data.toList).2.takeWhile isDig, 0⟩ := by
          unfold wholeL; rw [hgd, hl]; rfl
        replace hok := Lib.hid hok
        replace hgd := Lib.hid hgd
        clear hat he h0 hl hz
        subst hg1
        go_region
        go_wp2
        go_ret2
        exact StEnd.yes hok.out (by rw [hr.out, hs1.out]) hgd.out.symm hR2.out hB2.out.drew
      · have hne : (g.toList == [48]) = false := by
          rw [Lib.toList_data, hl]; simp [ht]
        have hno : wholeL s.data.toList = none := by
          unfold wholeL; rw [hgd, hl]
          have : wholeOk (c0 :: t0) = false := by simp [wholeOk, hz, ht]
          simp [this]
        replace hno := Lib.hid hno
        have hc : ((g[0].toNat : Int) != 48) = false := by rw [hat]; simp; omega
        clear hat hgd hl
        go_region
        go_wp2
        go_ret2
        exact StEnd.no hno.out hB2.out.drew
    · have hne : (g.toList == [48]) = false := by
        rw [Lib.toList_data, hl]
        have : ¬ c0 = 48 := fun h => hz (by rw [h]; rfl)
        simp [this]
      have hok : wholeL s.data.toList = some ⟨(signL s.data.toList).2.dropWhile isDig, (signL s.data.toList).1, (signL s.data.toList).2.takeWhile isDig, 0⟩ := by
        unfold wholeL; rw [hgd, hl]
        have : wholeOk (c0 :: t0) = true := by simp [wholeOk, hz]
        simp [this]
      replace hok := Lib.hid hok
      have hc : ((g[0].toNat : Int) != 48) = true := by rw [hat]; simp; omega
      replace hgd := Lib.hid hgd
      clear hat hl
      go_region
      go_wp2
      go_ret2
      exact StEnd.yes hok.out (by rw [hr.out, hs1.out]) hgd.out.symm hR2.out hB2.out.drew

set_option maxHeartbeats 1000000 in
theorem decPart_any (b : Nat) (s : ByteArray) (m : Bool) (d : ByteArray) (e : Int) (w : World) (hR : RD w b s m d e) (hs : s.size ≤ 1099511627776) (hd : d.size ≤ 1099511627776) (he0 : -1099511627776 ≤ e) (he1 : e ≤ 1099511627776) :
    Calls Tryz.prog 204 #[.pointer (some ⟨b, 0, none⟩)] w (StEnd w b (partL ⟨s.data.toList, m, d.data.toList, e⟩) (fnV 233 b)) := by
  obtain ⟨x0, x1, x2, x3, f0, f1, f2, f3⟩ := hR.facts
  rcases hl : s.data.toList with _ | ⟨c, t⟩
  · have hcon := Lib.hid (decBegins_none b s ⟨#[46]⟩ m d e w hR hl)
    have hok : partL ⟨[], m, d.data.toList, e⟩ = some ⟨[], m, d.data.toList, e⟩ := rfl
    replace hok := Lib.hid hok
    replace hl := Lib.hid hl
    replace hR := Lib.hid hR
    go_enter Tryz.func204, Tryz.ntmps204
    go_wp2_with (go_at_call 202; refine hcon.out.mono ?_; rintro en w' ⟨rfl, rfl⟩)
    go_ret2
    exact StEnd.yes hok.out hl.out rfl hR.out (Below.refl _ _)
  · by_cases hc : c.toNat = 46
    · have hcon := Lib.hid (decBegins_yes b s ⟨#[46]⟩ m d e w hR hs c t hl (by
        have : c = 46 := UInt8.toNat_inj.1 hc
        subst this; rfl))
      have hR1 := hR.setS (s.extract 1 s.size)
      have hB1 : Below b w (w.setCell ⟨b, 0, none⟩ (.string (s.extract 1 s.size))) := (Below.refl b w).setCell (p := ⟨b, 0, none⟩) (Nat.le_refl b) _
      have hr1 := rest_bytes s c t hl
      have hz1 : (s.extract 1 s.size).size ≤ 1099511627776 := by rw [ByteArray.size_extract]; omega
      go_enter Tryz.func204, Tryz.ntmps204
      go_wp2_with fail
      refine hcon.out.mono ?_
      rintro en w1 ⟨rfl, rfl⟩
      clear x0 x1 x2 x3 f0 f1 f2 f3 hcon hR
      generalize s.extract 1 s.size = s1 at *
      generalize w.setCell ⟨b, 0, none⟩ (.string s1) = w1 at *
      obtain ⟨x0, x1, x2, x3, f0, f1, f2, f3⟩ := hR1.facts
      replace hR1 := Lib.hid hR1
      replace hB1 := Lib.hid hB1
      replace hr1 := Lib.hid hr1
      replace hl := Lib.hid hl
      go_wp2_with fail
      refine (decDigits_any b s1 _ _ _ _ hR1.out hz1).mono ?_
      rintro en w2 ⟨g, r, rfl, hg, hr, hR2, hB2⟩
      clear x0 x1 x2 x3 f0 f1 f2 f3
      obtain ⟨x0, x1, x2, x3, f0, f1, f2, f3⟩ := hR2.facts
      rw [hr1.out] at hg hr
      have hgl : g.size ≤ 1099511627776 := by
        have h1 := congrArg List.length hg
        rw [bytes_len] at h1
        have h2 := twl_le isDig t
        unfold twl at h2
        have h3 := congrArg List.length hl.out
        rw [bytes_len] at h3
        simp at h3
        omega
      have hadd : ∀ W, (Op.stringOp .add d g).run Tryz.prog W = .ok (.string (d ++ g)) W := fun W => run_string_add_sum W _ _ (by omega)
      replace hR2 := Lib.hid ((hR2.setD (d ++ g)).setE (e - g.size))
      replace hB2 := Lib.hid (((hB1.out.trans hB2).setCell (p := ⟨b, 2, none⟩) (Nat.le_refl _) (.string (d ++ g))).setCell (p := ⟨b, 3, none⟩) (Nat.le_refl _) (.int .i64 (e - g.size)))
      replace hg := Lib.hid hg
      replace hr := Lib.hid hr
      have hpl : partL ⟨c :: t, m, d.data.toList, e⟩ = if t.takeWhile isDig = [] then none else some ⟨t.dropWhile isDig, m, d.data.toList ++ t.takeWhile isDig, e - (t.takeWhile isDig).length⟩ := by
        unfold partL; simp only [hc, if_true]
      rcases hgl2 : g.data.toList with _ | ⟨c0, t0⟩
      · have he := isEmpty_t g hgl2
        have hno : partL ⟨c :: t, m, d.data.toList, e⟩ = none := by rw [hpl, if_pos (by rw [← hg.out, hgl2])]
        replace hno := Lib.hid hno
        clear hgl2 hpl
        go_wp2
        go_ret2
        exact StEnd.no hno.out hB2.out
      · have he := isEmpty_f g c0 t0 hgl2
        have hok : partL ⟨c :: t, m, d.data.toList, e⟩ = some ⟨t.dropWhile isDig, m, d.data.toList ++ t.takeWhile isDig, e - (t.takeWhile isDig).length⟩ := by rw [hpl, if_neg (by rw [← hg.out, hgl2]; simp)]
        replace hok := Lib.hid hok
        clear hgl2 hpl
        go_wp2
        go_ret2
        refine StEnd.yes (d' := d ++ g) hok.out hr.out ?_ ?_ hB2.out
        · rw [ByteArray.data_append, Array.toList_append, hg.out]
        · rw [← hg.out, bytes_len]; exact hR2.out
    · have hcon := Lib.hid (decBegins_other b s ⟨#[46]⟩ m d e w hR hs c t hl (by
        have : ¬ c = 46 := fun h => hc (by rw [h]; rfl)
        simpa using this))
      have hok : partL ⟨c :: t, m, d.data.toList, e⟩ = some ⟨c :: t, m, d.data.toList, e⟩ := by unfold partL; simp only [hc, if_false]
      replace hok := Lib.hid hok
      replace hl := Lib.hid hl
      replace hR := Lib.hid hR
      go_enter Tryz.func204, Tryz.ntmps204
      go_wp2_with (go_at_call 202; refine hcon.out.mono ?_; rintro en w' ⟨rfl, rfl⟩)
      go_ret2
      exact StEnd.yes hok.out hl.out rfl hR.out (Below.refl _ _)
end Go.Proofs.YtlnkjacbdolhnaaGreatDoor


/-
  The walk of (*dec.reader).power.
-/
namespace Go.Proofs.YtlnkjacbdolhnaaGreatDoor
open Go.RowKit

/-- What begins does, said of a power's sign. -/
theorem begins_pow (b : Nat) (s : ByteArray) (m : Bool) (d : ByteArray) (e : Int) (w : World) (hR : RD w b s m d e) (hs : s.size ≤ 1099511627776) :
    Calls Tryz.prog 202 #[.pointer (some ⟨b, 0, none⟩), .string ⟨#[43, 45]⟩] w fun en w' => ∃ (c : Int) (k : Bool) (s' : ByteArray), en = .returned (.tuple #[.int .u8 c, .bool k]) ∧ (c == 45) = (signP s.data.toList).1 ∧ s'.data.toList = (signP s.data.toList).2 ∧ s'.size ≤ s.size ∧ RD w' b s' m d e ∧ Below b w w' := by
  rcases hl : s.data.toList with _ | ⟨c, t⟩
  · refine (decBegins_none b s _ m d e w hR hl).mono ?_
    rintro en w' ⟨rfl, rfl⟩
    exact ⟨0, false, s, rfl, rfl, hl, Nat.le_refl _, hR, Below.refl _ _⟩
  · by_cases hc : c.toNat = 45
    · refine (decBegins_yes b s ⟨#[43, 45]⟩ m d e w hR hs c t hl (by
        have : c = 45 := UInt8.toNat_inj.1 hc
        subst this; rfl)).mono ?_
      rintro en w' ⟨rfl, rfl⟩
      exact ⟨c.toNat, true, s.extract 1 s.size, rfl, by simp [signP, hc], by rw [rest_bytes s c t hl]; simp [signP, hc], by rw [ByteArray.size_extract]; omega, hR.setS _, (Below.refl b w).setCell (p := ⟨b, 0, none⟩) (Nat.le_refl b) _⟩
    · by_cases hc2 : c.toNat = 43
      · refine (decBegins_yes b s ⟨#[43, 45]⟩ m d e w hR hs c t hl (by
          have : c = 43 := UInt8.toNat_inj.1 hc2
          subst this; rfl)).mono ?_
        rintro en w' ⟨rfl, rfl⟩
        exact ⟨c.toNat, true, s.extract 1 s.size, rfl, by simp [signP, hc2], by rw [rest_bytes s c t hl]; simp [signP, hc2], by rw [ByteArray.size_extract]; omega, hR.setS _, (Below.refl b w).setCell (p := ⟨b, 0, none⟩) (Nat.le_refl b) _⟩
      · refine (decBegins_other b s ⟨#[43, 45]⟩ m d e w hR hs c t hl (by
          have h1 : ¬ c = 45 := fun h => hc (by rw [h]; rfl)
          have h2 : ¬ c = 43 := fun h => hc2 (by rw [h]; rfl)
          simp [h1, h2])).mono ?_
        rintro en w' ⟨rfl, rfl⟩
        exact ⟨0, false, s, rfl, by simp [signP, hc, hc2], by rw [hl]; simp [signP, hc, hc2], Nat.le_refl _, hR, Below.refl _ _⟩

theorem trimZ (l : List UInt8) : Lib.trimLeftB l 48 = l.dropWhile isZ := by
  unfold Lib.trimLeftB
  congr 1
  funext c
  unfold isZ
  rw [Bool.eq_iff_iff]
  simp only [beq_iff_eq, decide_eq_true_eq]
  exact ⟨fun h => by rw [h]; rfl, fun h => UInt8.toNat_inj.1 h⟩

theorem cat48 (h : ByteArray) : ((⟨#[48]⟩ : ByteArray) ++ h).data.toList = 48 :: h.data.toList := by rw [ByteArray.data_append, Array.toList_append]; rfl

theorem atoi_below (s : ByteArray) (n : Int) (hl : s.size ≤ 18) (h : Lib.atoi s.data.toList = some n) (W : World) :
    Calls Tryz.prog 254 #[.string s] W fun e w' => e = .returned (.tuple #[.int .i64 n, .nilIface]) ∧ Below W.heap.size W w' :=
  (Tryz.strconv_Atoi s n hl h W).mono fun e w' hh => ⟨hh.1, by obtain ⟨_, t, rfl⟩ := hh; exact Lib.bytesWorld_below _ _ _⟩

theorem powL_short {g : List UInt8} (h : (g.dropWhile isZ).length < 9) : powL g = numL 0 (g.dropWhile isZ) := by unfold powL; simp only [h, if_true]
theorem powL_long {g : List UInt8} (h : ¬ (g.dropWhile isZ).length < 9) : powL g = 1073741824 := by unfold powL; simp only [h, if_false]

set_option maxHeartbeats 2000000 in
theorem decPower_any (b : Nat) (s : ByteArray) (m : Bool) (d : ByteArray) (e : Int) (w : World) (hR : RD w b s m d e) (hs : s.size ≤ 1099511627776) (he0 : -2199023255552 ≤ e) (he1 : e ≤ 2199023255552) :
    Calls Tryz.prog 233 #[.pointer (some ⟨b, 0, none⟩)] w (StEnd w b (powerL ⟨s.data.toList, m, d.data.toList, e⟩) .nilFunc) := by
  obtain ⟨x0, x1, x2, x3, f0, f1, f2, f3⟩ := hR.facts
  rcases hl : s.data.toList with _ | ⟨c, t⟩
  · have hcon := Lib.hid (decBegins_none b s ⟨#[101, 69]⟩ m d e w hR hl)
    have hok : powerL ⟨[], m, d.data.toList, e⟩ = some ⟨[], m, d.data.toList, e⟩ := rfl
    have hem := isEmpty_t s hl
    replace hok := Lib.hid hok
    replace hl := Lib.hid hl
    replace hR := Lib.hid hR
    go_enter Tryz.func233, Tryz.ntmps233
    go_wp2_with (go_at_call 202; refine hcon.out.mono ?_; rintro en w' ⟨rfl, rfl⟩)
    go_region
    go_wp2
    go_ret2
    exact StEnd.yes hok.out hl.out rfl hR.out.drew ((Below.refl _ _).drew)
  · by_cases hc : c.toNat = 101 ∨ c.toNat = 69
    · have hcon := Lib.hid (decBegins_yes b s ⟨#[101, 69]⟩ m d e w hR hs c t hl (by
        rcases hc with hc | hc
        · have : c = 101 := UInt8.toNat_inj.1 hc
          subst this; rfl
        · have : c = 69 := UInt8.toNat_inj.1 hc
          subst this; rfl))
      have hR1 := hR.setS (s.extract 1 s.size)
      have hB1 : Below b w (w.setCell ⟨b, 0, none⟩ (.string (s.extract 1 s.size))) := (Below.refl b w).setCell (p := ⟨b, 0, none⟩) (Nat.le_refl b) _
      have hr1 := rest_bytes s c t hl
      have hz1 : (s.extract 1 s.size).size ≤ 1099511627776 := by rw [ByteArray.size_extract]; omega
      go_enter Tryz.func233, Tryz.ntmps233
      go_wp2_with fail
      refine hcon.out.mono ?_
      rintro en w1 ⟨rfl, rfl⟩
      clear x0 x1 x2 x3 f0 f1 f2 f3 hcon hR
      generalize s.extract 1 s.size = s1 at *
      generalize w.setCell ⟨b, 0, none⟩ (.string s1) = w1 at *
      replace hR1 := Lib.hid hR1
      replace hB1 := Lib.hid hB1
      replace hr1 := Lib.hid hr1
      replace hl := Lib.hid hl
      go_wp2_with fail
      refine (begins_pow b s1 _ _ _ _ hR1.out hz1).mono ?_
      rintro en w2 ⟨c2, k2, s2, rfl, hc2, hs2, hz2, hR2, hB2⟩
      rw [hr1.out] at hc2 hs2
      replace hB2 := Lib.hid (hB1.out.trans hB2)
      replace hR2 := Lib.hid hR2
      replace hc2 := Lib.hid hc2
      replace hs2 := Lib.hid hs2
      clear hR1 hB1
      go_wp2_with fail
      refine (decDigits_any b s2 _ _ _ _ hR2.out (by omega)).mono ?_
      rintro en w3 ⟨g, r, rfl, hg, hr, hR3, hB3⟩
      rw [hs2.out] at hg hr
      obtain ⟨x0, x1, x2, x3, f0, f1, f2, f3⟩ := hR3.facts
      replace hB3 := Lib.hid (hB2.out.trans hB3)
      replace hR3 := Lib.hid hR3
      clear hB2 hR2 hr1
      have hpl : powerL ⟨c :: t, m, d.data.toList, e⟩ = if (signP t).2.takeWhile isDig = [] ∨ ¬ (signP t).2.dropWhile isDig = [] then none
          else some ⟨[], m, d.data.toList, e + (if (signP t).1 then -(powL ((signP t).2.takeWhile isDig)) else powL ((signP t).2.takeWhile isDig))⟩ := by
        unfold powerL; simp only [hc, if_true]
      clear hc
      rw [← hg, ← hr] at hpl
      have hgd : ∀ x, x ∈ g.data.toList → isDig x = true := fun x hx => by rw [hg] at hx; exact mem_takeWhile_dig hx
      rcases hgl : g.data.toList with _ | ⟨c0, t0⟩
      · have hem := isEmpty_t g hgl
        have hno : powerL ⟨c :: t, m, d.data.toList, e⟩ = none := by rw [hpl, if_pos (Or.inl hgl)]
        replace hno := Lib.hid hno
        clear hgl hpl hg hr hgd
        go_wp2
        go_ret2
        exact StEnd.no hno.out hB3.out
      · have hem := isEmpty_f g c0 t0 hgl
        rcases hrl : r.data.toList with _ | ⟨c1, t1⟩
        · have hrm := isEmpty_t r hrl
          have hpl2 : powerL ⟨c :: t, m, d.data.toList, e⟩ = some ⟨[], m, d.data.toList, e + (if (signP t).1 then -(powL g.data.toList) else powL g.data.toList)⟩ := by
            rw [hpl, if_neg]
            rintro (h | h)
            · rw [hgl] at h; cases h
            · exact h hrl
          rw [← hc2.out] at hpl2
          replace hpl := Lib.hid hpl2
          clear hpl2 hg hr hgl
          replace hrl := Lib.hid hrl
          have hcon := fun W => Tryz.strings_TrimLeft_one g 48 (by decide) W
          have hcon2 : ∀ W, Calls Tryz.prog 83 #[.string g, .string ⟨#[48]⟩] W fun e w' => ∃ h : ByteArray, e = .returned (.string h) ∧ h.data.toList = g.data.toList.dropWhile isZ ∧ W = w' := fun W => (hcon W).mono (by
            rintro en w' ⟨rfl, rfl⟩
            exact ⟨_, rfl, by rw [trimZ], rfl⟩)
          replace hcon := Lib.hid hcon2
          clear hcon2
          replace hgd := Lib.hid hgd
          go_wp2_with fail
          refine (hcon.out _).mono ?_
          rintro en w4 ⟨h, rfl, hh, rfl⟩
          clear hcon
          have hhd : ∀ x, x ∈ h.data.toList → isDig x = true := fun x hx => by
            rw [hh] at hx
            exact hgd.out x (List.dropWhile_subset _ hx)
          have hlen := bytes_len h
          by_cases h9 : h.size < 9
          · have hp : powL g.data.toList = numL 0 h.data.toList := by rw [powL_short (by rw [← hh]; omega), hh]
            have hbd := numL_small h.data.toList hhd (by omega)
            have hat := atoi_zero h.data.toList hhd
            rw [hp] at hpl
            obtain ⟨n, hn⟩ : ∃ n, numL 0 h.data.toList = n := ⟨_, rfl⟩
            rw [hn] at hpl hbd hat
            clear hn hp hhd hlen
            replace hh := Lib.hid hh
            have h18 : ((⟨#[48]⟩ : ByteArray) ++ h).size ≤ 18 := by
              have h1 : (⟨#[48]⟩ : ByteArray).size = 1 := rfl
              rw [ByteArray.size_append, h1]; omega
            have hle : (⟨#[48]⟩ : ByteArray).size + h.size ≤ 9223372036854775807 := by
              have h1 : (⟨#[48]⟩ : ByteArray).size = 1 := rfl
              rw [h1]; omega
            have hadd : ∀ W, (Op.stringOp .add ⟨#[48]⟩ h).run Tryz.prog W = .ok (.string (⟨#[48]⟩ ++ h)) W := fun W => run_string_add_sum W _ _ hle
            have hatl : Lib.atoi ((⟨#[48]⟩ : ByteArray) ++ h).data.toList = some n := by rw [cat48]; exact hat
            have hcat : ∀ W, Calls Tryz.prog 254 #[.string (⟨#[48]⟩ ++ h)] W fun e w' => e = .returned (.tuple #[.int .i64 n, .nilIface]) ∧ Below W.heap.size W w' := atoi_below _ n h18 hatl
            replace hcat := Lib.hid hcat
            clear hat hatl hle h18
            obtain ⟨n0, n1⟩ := hbd
            go_wp2_with fail
            refine (hcat.out _).mono ?_
            rintro en w5 ⟨rfl, hB5⟩
            have hR5 : RD w5 b r m d e := Cel.below hR3.out hB5 hR3.out.lt
            replace hB5 := Lib.hid (hB3.out.trans (hB5.mono (Nat.le_of_lt hR3.out.lt)))
            clear x0 x1 x2 x3 f0 f1 f2 f3 hB3 hR3 hcat
            obtain ⟨x0, x1, x2, x3, f0, f1, f2, f3⟩ := hR5.facts
            cases hsg : (c2 == 45)
            · rw [hsg] at hpl
              replace hR5 := Lib.hid (hR5.setE (e + n))
              replace hB5 := Lib.hid (hB5.out.setCell (p := ⟨b, 3, none⟩) (Nat.le_refl _) (.int .i64 (e + n)))
              go_wp2
              go_ret2
              exact StEnd.yes hpl.out hrl.out rfl hR5.out hB5.out
            · rw [hsg] at hpl
              replace hR5 := Lib.hid (hR5.setE (e + -n))
              replace hB5 := Lib.hid (hB5.out.setCell (p := ⟨b, 3, none⟩) (Nat.le_refl _) (.int .i64 (e + -n)))
              go_wp2
              go_ret2
              exact StEnd.yes hpl.out hrl.out rfl hR5.out hB5.out
          · have hp : powL g.data.toList = 1073741824 := powL_long (by rw [← hh]; omega)
            rw [hp] at hpl
            clear hp hhd hlen
            replace hh := Lib.hid hh
            cases hsg : (c2 == 45)
            · rw [hsg] at hpl
              replace hR3 := Lib.hid (hR3.out.setE (e + 1073741824))
              replace hB3 := Lib.hid (hB3.out.setCell (p := ⟨b, 3, none⟩) (Nat.le_refl _) (.int .i64 (e + 1073741824)))
              go_wp2
              go_ret2
              exact StEnd.yes hpl.out hrl.out rfl hR3.out hB3.out
            · rw [hsg] at hpl
              replace hR3 := Lib.hid (hR3.out.setE (e + -1073741824))
              replace hB3 := Lib.hid (hB3.out.setCell (p := ⟨b, 3, none⟩) (Nat.le_refl _) (.int .i64 (e + -1073741824)))
              go_wp2
              go_ret2
              exact StEnd.yes hpl.out hrl.out rfl hR3.out hB3.out
        · have hrm := isEmpty_f r c1 t1 hrl
          have hno : powerL ⟨c :: t, m, d.data.toList, e⟩ = none := by rw [hpl, if_pos (Or.inr (by rw [hrl]; simp))]
          replace hno := Lib.hid hno
          clear hgl hpl hg hr hgd hrl
          go_wp2
          go_ret2
          exact StEnd.no hno.out hB3.out
    · have hcon := Lib.hid (decBegins_other b s ⟨#[101, 69]⟩ m d e w hR hs c t hl (by
        have h1 : ¬ c = 101 := fun h => hc (Or.inl (by rw [h]; rfl))
        have h2 : ¬ c = 69 := fun h => hc (Or.inr (by rw [h]; rfl))
        simp [h1, h2]))
      have hno : powerL ⟨c :: t, m, d.data.toList, e⟩ = none := by unfold powerL; simp only [hc, if_false]
      have hem := isEmpty_f s c t hl
      replace hno := Lib.hid hno
      replace hl := Lib.hid hl
      replace hR := Lib.hid hR
      clear hc
      go_enter Tryz.func233, Tryz.ntmps233
      go_wp2_with (go_at_call 202; refine hcon.out.mono ?_; rintro en w' ⟨rfl, rfl⟩)
      go_region
      go_wp2
      go_ret2
      exact StEnd.no hno.out ((Below.refl _ _).drew)
end Go.Proofs.YtlnkjacbdolhnaaGreatDoor
