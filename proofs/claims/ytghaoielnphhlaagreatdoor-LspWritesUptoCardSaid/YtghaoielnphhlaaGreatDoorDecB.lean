/-
  The walks of (*dec.reader).whole, part and power.
-/
import Derived.Test.YtghaoielnphhlaaGreatDoorM02
import Derived.Deep.RegionWith
namespace Go.Proofs.YtghaoielnphhlaaGreatDoor
open Go.RowKit

/-- A method of the reader as a value. -/
def fnV (f b : Nat) : Value := .func (.func f) #[.pointer (some ⟨b, 0, none⟩)] #[]

/-- How a state ends. -/
def StEnd (w : World) (b : Nat) (res : Option Rst) (fv : Value) (en : Ending) (w' : World) : Prop :=
  match res with
  | none => (∃ v, en = .returned (.tuple #[v, .bool false])) ∧ Below b w w'
  | some r => ∃ s' d' : ByteArray, en = .returned (.tuple #[fv, .bool true]) ∧ s'.data.toList = r.s ∧ d'.data.toList = r.d ∧ RD w' b s' r.m d' r.e ∧ Below b w w'

theorem StEnd.no {w w' : World} {b : Nat} {res : Option Rst} {fv v : Value} (h : res = none) (hB : Below b w w') : StEnd w b res fv (.returned (.tuple #[v, .bool false])) w' := by
  subst h; exact ⟨⟨v, rfl⟩, hB⟩
theorem StEnd.yes {w w' : World} {b : Nat} {res : Option Rst} {fv : Value} {r : Rst} {s' d' : ByteArray} (h : res = some r) (hs : s'.data.toList = r.s) (hd : d'.data.toList = r.d) (hR : RD w' b s' r.m d' r.e) (hB : Below b w w') : StEnd w b res fv (.returned (.tuple #[fv, .bool true])) w' := by
  subst h; exact ⟨s', d', rfl, hs, hd, hR, hB⟩

/-- What begins does, said of the sign. -/
theorem begins_sign (b : Nat) (s : ByteArray) (m : Bool) (d : ByteArray) (e : Int) (w : World) (hR : RD w b s m d e) (hs : s.size ≤ 1099511627776) :
    Calls Tryz.prog 146 #[.pointer (some ⟨b, 0, none⟩), .string ⟨#[45]⟩] w fun en w' => ∃ (c : Int) (s' : ByteArray), en = .returned (.tuple #[.int .u8 c, .bool (signL s.data.toList).1]) ∧ s'.data.toList = (signL s.data.toList).2 ∧ s'.size ≤ s.size ∧ RD w' b s' m d e ∧ Below b w w' := by
  rcases hl : s.data.toList with _ | ⟨c, t⟩
  · refine (decBegins_none b s _ m d e w hR hl).mono ?_
    rintro en w' ⟨rfl, rfl⟩
    exact ⟨0, s, rfl, hl, Nat.le_refl _, hR, Below.refl _ _⟩
  · by_cases hc : c.toNat = 45
    · refine (decBegins_yes b s ⟨#[45]⟩ m d e w hR hs c t hl (by
        have : c = 45 := UInt8.toNat_inj.1 hc
        subst this; rfl)).mono ?_
      rintro en w' ⟨rfl, rfl⟩
      refine ⟨c.toNat, s.extract 1 s.size, by simp [signL, hc], by rw [rest_bytes s c t hl]; simp [signL, hc], by rw [ByteArray.size_extract]; omega, hR.setS _, (Below.refl b w).setCell (p := ⟨b, 0, none⟩) (Nat.le_refl b) _⟩
    · refine (decBegins_other b s ⟨#[45]⟩ m d e w hR hs c t hl (by
        have : ¬ c = 45 := fun h => hc (by rw [h]; rfl)
        simpa using this)).mono ?_
      rintro en w' ⟨rfl, rfl⟩
      exact ⟨0, s, by simp [signL, hc], by rw [hl]; simp [signL, hc], Nat.le_refl _, hR, Below.refl _ _⟩

set_option maxHeartbeats 1000000 in
theorem decWhole_any (b : Nat) (s : ByteArray) (w : World) (hR : RD w b s false ⟨#[]⟩ 0) (hs : s.size ≤ 1099511627776) :
    Calls Tryz.prog 128 #[.pointer (some ⟨b, 0, none⟩)] w (StEnd w b (wholeL s.data.toList) (fnV 148 b)) := by
  obtain ⟨x0, x1, x2, x3, f0, f1, f2, f3⟩ := hR.facts
  replace hR := Lib.hid hR
  go_enter Tryz.func128, Tryz.ntmps128
  go_wp2_with fail
  refine (begins_sign b s _ _ _ _ hR.out hs).mono ?_
  rintro e1 w1 ⟨c, s1, rfl, hs1, hsz, hR1, hB1⟩
  clear x0 x1 x2 x3 f0 f1 f2 f3
  obtain ⟨x0, x1, x2, x3, f0, f1, f2, f3⟩ := hR1.facts
  replace hR1 := Lib.hid (hR1.setM (signL s.data.toList).1)
  replace hB1 := Lib.hid (hB1.setCell (p := ⟨b, 1, none⟩) (Nat.le_refl _) (.bool (signL s.data.toList).1))
  replace hs1 := Lib.hid hs1
  go_wp2_with fail
  refine (decDigits_any b s1 _ _ _ _ hR1.out (by omega)).mono ?_
  rintro e2 w2 ⟨g, r, rfl, hg, hr, hR2, hB2⟩
  clear x0 x1 x2 x3 f0 f1 f2 f3
  obtain ⟨x0, x1, x2, x3, f0, f1, f2, f3⟩ := hR2.facts
  replace hR2 := Lib.hid (hR2.setD g)
  replace hB2 := Lib.hid ((hB1.out.trans hB2).setCell (p := ⟨b, 2, none⟩) (Nat.le_refl _) (.string g))
  replace hg := Lib.hid hg
  replace hr := Lib.hid hr
  go_upto_region 3 with (fail)
  clear x0 x1 x2 x3 f0 f1 f2 f3
  generalize w2.setCell ⟨b, 2, none⟩ (.string g) = w3 at *
  obtain ⟨x0, x1, x2, x3, f0, f1, f2, f3⟩ := hR2.out.facts
  have hgd : (signL s.data.toList).2.takeWhile isDig = g.data.toList := by rw [hg.out, hs1.out]
  rcases hl : g.data.toList with _ | ⟨c0, t0⟩
  · have he := isEmpty_t g hl
    have hno : wholeL s.data.toList = none := by unfold wholeL; rw [hgd, hl]; rfl
    replace hno := Lib.hid hno
    clear hl hgd
    go_region
    go_wp2
    go_ret2
    exact StEnd.no hno.out hB2.out.drew
  · have he := isEmpty_f g c0 t0 hl
    have h0 : 0 < g.size := by rw [size_cons g c0 t0 hl]; omega
    have hat := at_cons g c0 t0 hl h0
    by_cases hz : c0.toNat = 48
    · by_cases ht : t0 = []
      · subst ht
        have hg1 : g = ⟨#[48]⟩ := by
          rw [← bytes_mk g, hl, show c0 = 48 from UInt8.toNat_inj.1 hz]
        have hok : wholeL s.data.toList = some ⟨(signL s.data.toList).2.dropWhile isDig, (signL s.data.toList).1, (signL s.data.toList).2.takeWhile isDig, 0⟩ := by
          unfold wholeL; rw [hgd, hl]; rfl
        replace hok := Lib.hid hok
        replace hgd := Lib.hid hgd
        clear hat he h0 hl hz
        subst hg1
        go_region
        go_wp2
        go_ret2
        exact StEnd.yes hok.out (by rw [hr.out, hs1.out]) hgd.out.symm hR2.out hB2.out.drew
      · have hne : (g.toList == [48]) = false := by
          rw [Lib.toList_data, hl]; simp [ht]
        have hno : wholeL s.data.toList = none := by
          unfold wholeL; rw [hgd, hl]
          have : wholeOk (c0 :: t0) = false := by simp [wholeOk, hz, ht]
          simp [this]
        replace hno := Lib.hid hno
        have hc : ((g[0].toNat : Int) != 48) = false := by rw [hat]; simp; omega
        clear hat hgd hl
        go_region
        go_wp2
        go_ret2
        exact StEnd.no hno.out hB2.out.drew
    · have hne : (g.toList == [48]) = false := by
        rw [Lib.toList_data, hl]
        have : ¬ c0 = 48 := fun h => hz (by rw [h]; rfl)
        simp [this]
      have hok : wholeL s.data.toList = some ⟨(signL s.data.toList).2.dropWhile isDig, (signL s.data.toList).1, (signL s.data.toList).2.takeWhile isDig, 0⟩ := by
        unfold wholeL; rw [hgd, hl]
        have : wholeOk (c0 :: t0) = true := by simp [wholeOk, hz]
        simp [this]
      replace hok := Lib.hid hok
      have hc : ((g[0].toNat : Int) != 48) = true := by rw [hat]; simp; omega
      replace hgd := Lib.hid hgd
      clear hat hl
      go_region
      go_wp2
      go_ret2
      exact StEnd.yes hok.out (by rw [hr.out, hs1.out]) hgd.out.symm hR2.out hB2.out.drew

set_option maxHeartbeats 1000000 in
theorem decPart_any (b : Nat) (s : ByteArray) (m : Bool) (d : ByteArray) (e : Int) (w : World) (hR : RD w b s m d e) (hs : s.size ≤ 1099511627776) (hd : d.size ≤ 1099511627776) (he0 : -1099511627776 ≤ e) (he1 : e ≤ 1099511627776) :
    Calls Tryz.prog 148 #[.pointer (some ⟨b, 0, none⟩)] w (StEnd w b (partL ⟨s.data.toList, m, d.data.toList, e⟩) (fnV 165 b)) := by
  obtain ⟨x0, x1, x2, x3, f0, f1, f2, f3⟩ := hR.facts
  rcases hl : s.data.toList with _ | ⟨c, t⟩
  · have hcon := Lib.hid (decBegins_none b s ⟨#[46]⟩ m d e w hR hl)
    have hok : partL ⟨[], m, d.data.toList, e⟩ = some ⟨[], m, d.data.toList, e⟩ := rfl
    replace hok := Lib.hid hok
    replace hl := Lib.hid hl
    replace hR := Lib.hid hR
    go_enter Tryz.func148, Tryz.ntmps148
    go_wp2_with (go_at_call 146; refine hcon.out.mono ?_; rintro en w' ⟨rfl, rfl⟩)
    go_ret2
    exact StEnd.yes hok.out hl.out rfl hR.out (Below.refl _ _)
  · by_cases hc : c.toNat = 46
    · have hcon := Lib.hid (decBegins_yes b s ⟨#[46]⟩ m d e w hR hs c t hl (by
        have : c = 46 := UInt8.toNat_inj.1 hc
        subst this; rfl))
      have hR1 := hR.setS (s.extract 1 s.size)
      have hB1 : Below b w (w.setCell ⟨b, 0, none⟩ (.string (s.extract 1 s.size))) := (Below.refl b w).setCell (p := ⟨b, 0, none⟩) (Nat.le_refl b) _
      have hr1 := rest_bytes s c t hl
      have hz1 : (s.extract 1 s.size).size ≤ 1099511627776 := by rw [ByteArray.size_extract]; omega
      go_enter Tryz.func148, Tryz.ntmps148
      go_wp2_with fail
      refine hcon.out.mono ?_
      rintro en w1 ⟨rfl, rfl⟩
      clear x0 x1 x2 x3 f0 f1 f2 f3 hcon hR
      generalize s.extract 1 s.size = s1 at *
      generalize w.setCell ⟨b, 0, none⟩ (.string s1) = w1 at *
      obtain ⟨x0, x1, x2, x3, f0, f1, f2, f3⟩ := hR1.facts
      replace hR1 := Lib.hid hR1
      replace hB1 := Lib.hid hB1
      replace hr1 := Lib.hid hr1
      replace hl := Lib.hid hl
      go_wp2_with fail
      refine (decDigits_any b s1 _ _ _ _ hR1.out hz1).mono ?_
      rintro en w2 ⟨g, r, rfl, hg, hr, hR2, hB2⟩
      clear x0 x1 x2 x3 f0 f1 f2 f3
      obtain ⟨x0, x1, x2, x3, f0, f1, f2, f3⟩ := hR2.facts
      rw [hr1.out] at hg hr
      have hgl : g.size ≤ 1099511627776 := by
        have h1 := congrArg List.length hg
        rw [bytes_len] at h1
        have h2 := twl_le isDig t
        unfold twl at h2
        have h3 := congrArg List.length hl.out
        rw [bytes_len] at h3
        simp at h3
        omega
      have hadd : ∀ W, (Op.stringOp .add d g).run Tryz.prog W = .ok (.string (d ++ g)) W := fun W => run_string_add_sum W _ _ (by omega)
      replace hR2 := Lib.hid ((hR2.setD (d ++ g)).setE (e - g.size))
      replace hB2 := Lib.hid (((hB1.out.trans hB2).setCell (p := ⟨b, 2, none⟩) (Nat.le_refl _) (.string (d ++ g))).setCell (p := ⟨b, 3, none⟩) (Nat.le_refl _) (.int .i64 (e - g.size)))
      replace hg := Lib.hid hg
      replace hr := Lib.hid hr
      have hpl : partL ⟨c :: t, m, d.data.toList, e⟩ = if t.takeWhile isDig = [] then none else some ⟨t.dropWhile isDig, m, d.data.toList ++ t.takeWhile isDig, e - (t.takeWhile isDig).length⟩ := by
        unfold partL; simp only [hc, if_true]
      rcases hgl2 : g.data.toList with _ | ⟨c0, t0⟩
      · have he := isEmpty_t g hgl2
        have hno : partL ⟨c :: t, m, d.data.toList, e⟩ = none := by rw [hpl, if_pos (by rw [← hg.out, hgl2])]
        replace hno := Lib.hid hno
        clear hgl2 hpl
        go_wp2
        go_ret2
        exact StEnd.no hno.out hB2.out
      · have he := isEmpty_f g c0 t0 hgl2
        have hok : partL ⟨c :: t, m, d.data.toList, e⟩ = some ⟨t.dropWhile isDig, m, d.data.toList ++ t.takeWhile isDig, e - (t.takeWhile isDig).length⟩ := by rw [hpl, if_neg (by rw [← hg.out, hgl2]; simp)]
        replace hok := Lib.hid hok
        clear hgl2 hpl
        go_wp2
        go_ret2
        refine StEnd.yes (d' := d ++ g) hok.out hr.out ?_ ?_ hB2.out
        · rw [ByteArray.data_append, Array.toList_append, hg.out]
        · rw [← hg.out, bytes_len]; exact hR2.out
    · have hcon := Lib.hid (decBegins_other b s ⟨#[46]⟩ m d e w hR hs c t hl (by
        have : ¬ c = 46 := fun h => hc (by rw [h]; rfl)
        simpa using this))
      have hok : partL ⟨c :: t, m, d.data.toList, e⟩ = some ⟨c :: t, m, d.data.toList, e⟩ := by unfold partL; simp only [hc, if_false]
      replace hok := Lib.hid hok
      replace hl := Lib.hid hl
      replace hR := Lib.hid hR
      go_enter Tryz.func148, Tryz.ntmps148
      go_wp2_with (go_at_call 146; refine hcon.out.mono ?_; rintro en w' ⟨rfl, rfl⟩)
      go_ret2
      exact StEnd.yes hok.out hl.out rfl hR.out (Below.refl _ _)
end Go.Proofs.YtghaoielnphhlaaGreatDoor
