/-
  The walk of (*dec.reader).power.
-/
import Derived.Test.YtghaoielnphhlaaGreatDoorDecB
import Derived.Lib.AtoiErrMem
import Derived.Lib.TrimByte
namespace Go.Proofs.YtghaoielnphhlaaGreatDoor
open Go.RowKit

/-- What begins does, said of a power's sign. -/
theorem begins_pow (b : Nat) (s : ByteArray) (m : Bool) (d : ByteArray) (e : Int) (w : World) (hR : RD w b s m d e) (hs : s.size ≤ 1099511627776) :
    Calls Tryz.prog 146 #[.pointer (some ⟨b, 0, none⟩), .string ⟨#[43, 45]⟩] w fun en w' => ∃ (c : Int) (k : Bool) (s' : ByteArray), en = .returned (.tuple #[.int .u8 c, .bool k]) ∧ (c == 45) = (signP s.data.toList).1 ∧ s'.data.toList = (signP s.data.toList).2 ∧ s'.size ≤ s.size ∧ RD w' b s' m d e ∧ Below b w w' := by
  rcases hl : s.data.toList with _ | ⟨c, t⟩
  · refine (decBegins_none b s _ m d e w hR hl).mono ?_
    rintro en w' ⟨rfl, rfl⟩
    exact ⟨0, false, s, rfl, rfl, hl, Nat.le_refl _, hR, Below.refl _ _⟩
  · by_cases hc : c.toNat = 45
    · refine (decBegins_yes b s ⟨#[43, 45]⟩ m d e w hR hs c t hl (by
        have : c = 45 := UInt8.toNat_inj.1 hc
        subst this; rfl)).mono ?_
      rintro en w' ⟨rfl, rfl⟩
      exact ⟨c.toNat, true, s.extract 1 s.size, rfl, by simp [signP, hc], by rw [rest_bytes s c t hl]; simp [signP, hc], by rw [ByteArray.size_extract]; omega, hR.setS _, (Below.refl b w).setCell (p := ⟨b, 0, none⟩) (Nat.le_refl b) _⟩
    · by_cases hc2 : c.toNat = 43
      · refine (decBegins_yes b s ⟨#[43, 45]⟩ m d e w hR hs c t hl (by
          have : c = 43 := UInt8.toNat_inj.1 hc2
          subst this; rfl)).mono ?_
        rintro en w' ⟨rfl, rfl⟩
        exact ⟨c.toNat, true, s.extract 1 s.size, rfl, by simp [signP, hc2], by rw [rest_bytes s c t hl]; simp [signP, hc2], by rw [ByteArray.size_extract]; omega, hR.setS _, (Below.refl b w).setCell (p := ⟨b, 0, none⟩) (Nat.le_refl b) _⟩
      · refine (decBegins_other b s ⟨#[43, 45]⟩ m d e w hR hs c t hl (by
          have h1 : ¬ c = 45 := fun h => hc (by rw [h]; rfl)
          have h2 : ¬ c = 43 := fun h => hc2 (by rw [h]; rfl)
          simp [h1, h2])).mono ?_
        rintro en w' ⟨rfl, rfl⟩
        exact ⟨0, false, s, rfl, by simp [signP, hc, hc2], by rw [hl]; simp [signP, hc, hc2], Nat.le_refl _, hR, Below.refl _ _⟩

theorem trimZ (l : List UInt8) : Lib.trimLeftB l 48 = l.dropWhile isZ := by
  unfold Lib.trimLeftB
  congr 1
  funext c
  unfold isZ
  rw [Bool.eq_iff_iff]
  simp only [beq_iff_eq, decide_eq_true_eq]
  exact ⟨fun h => by rw [h]; rfl, fun h => UInt8.toNat_inj.1 h⟩

theorem cat48 (h : ByteArray) : ((⟨#[48]⟩ : ByteArray) ++ h).data.toList = 48 :: h.data.toList := by rw [ByteArray.data_append, Array.toList_append]; rfl

theorem atoi_below (s : ByteArray) (n : Int) (hl : s.size ≤ 18) (h : Lib.atoi s.data.toList = some n) (W : World) :
    Calls Tryz.prog 182 #[.string s] W fun e w' => e = .returned (.tuple #[.int .i64 n, .nilIface]) ∧ Below W.heap.size W w' :=
  (Tryz.strconv_Atoi s n hl h W).mono fun e w' hh => ⟨hh.1, by obtain ⟨_, t, rfl⟩ := hh; exact Lib.bytesWorld_below _ _ _⟩

theorem powL_short {g : List UInt8} (h : (g.dropWhile isZ).length < 9) : powL g = numL 0 (g.dropWhile isZ) := by unfold powL; simp only [h, if_true]
theorem powL_long {g : List UInt8} (h : ¬ (g.dropWhile isZ).length < 9) : powL g = 1073741824 := by unfold powL; simp only [h, if_false]

set_option maxHeartbeats 2000000 in
theorem decPower_any (b : Nat) (s : ByteArray) (m : Bool) (d : ByteArray) (e : Int) (w : World) (hR : RD w b s m d e) (hs : s.size ≤ 1099511627776) (he0 : -2199023255552 ≤ e) (he1 : e ≤ 2199023255552) :
    Calls Tryz.prog 165 #[.pointer (some ⟨b, 0, none⟩)] w (StEnd w b (powerL ⟨s.data.toList, m, d.data.toList, e⟩) .nilFunc) := by
  obtain ⟨x0, x1, x2, x3, f0, f1, f2, f3⟩ := hR.facts
  rcases hl : s.data.toList with _ | ⟨c, t⟩
  · have hcon := Lib.hid (decBegins_none b s ⟨#[101, 69]⟩ m d e w hR hl)
    have hok : powerL ⟨[], m, d.data.toList, e⟩ = some ⟨[], m, d.data.toList, e⟩ := rfl
    have hem := isEmpty_t s hl
    replace hok := Lib.hid hok
    replace hl := Lib.hid hl
    replace hR := Lib.hid hR
    go_enter Tryz.func165, Tryz.ntmps165
    go_wp2_with (go_at_call 146; refine hcon.out.mono ?_; rintro en w' ⟨rfl, rfl⟩)
    go_region
    go_wp2
    go_ret2
    exact StEnd.yes hok.out hl.out rfl hR.out.drew ((Below.refl _ _).drew)
  · by_cases hc : c.toNat = 101 ∨ c.toNat = 69
    · have hcon := Lib.hid (decBegins_yes b s ⟨#[101, 69]⟩ m d e w hR hs c t hl (by
        rcases hc with hc | hc
        · have : c = 101 := UInt8.toNat_inj.1 hc
          subst this; rfl
        · have : c = 69 := UInt8.toNat_inj.1 hc
          subst this; rfl))
      have hR1 := hR.setS (s.extract 1 s.size)
      have hB1 : Below b w (w.setCell ⟨b, 0, none⟩ (.string (s.extract 1 s.size))) := (Below.refl b w).setCell (p := ⟨b, 0, none⟩) (Nat.le_refl b) _
      have hr1 := rest_bytes s c t hl
      have hz1 : (s.extract 1 s.size).size ≤ 1099511627776 := by rw [ByteArray.size_extract]; omega
      go_enter Tryz.func165, Tryz.ntmps165
      go_wp2_with fail
      refine hcon.out.mono ?_
      rintro en w1 ⟨rfl, rfl⟩
      clear x0 x1 x2 x3 f0 f1 f2 f3 hcon hR
      generalize s.extract 1 s.size = s1 at *
      generalize w.setCell ⟨b, 0, none⟩ (.string s1) = w1 at *
      replace hR1 := Lib.hid hR1
      replace hB1 := Lib.hid hB1
      replace hr1 := Lib.hid hr1
      replace hl := Lib.hid hl
      go_wp2_with fail
      refine (begins_pow b s1 _ _ _ _ hR1.out hz1).mono ?_
      rintro en w2 ⟨c2, k2, s2, rfl, hc2, hs2, hz2, hR2, hB2⟩
      rw [hr1.out] at hc2 hs2
      replace hB2 := Lib.hid (hB1.out.trans hB2)
      replace hR2 := Lib.hid hR2
      replace hc2 := Lib.hid hc2
      replace hs2 := Lib.hid hs2
      clear hR1 hB1
      go_wp2_with fail
      refine (decDigits_any b s2 _ _ _ _ hR2.out (by omega)).mono ?_
      rintro en w3 ⟨g, r, rfl, hg, hr, hR3, hB3⟩
      rw [hs2.out] at hg hr
      obtain ⟨x0, x1, x2, x3, f0, f1, f2, f3⟩ := hR3.facts
      replace hB3 := Lib.hid (hB2.out.trans hB3)
      replace hR3 := Lib.hid hR3
      clear hB2 hR2 hr1
      have hpl : powerL ⟨c :: t, m, d.data.toList, e⟩ = if (signP t).2.takeWhile isDig = [] ∨ ¬ (signP t).2.dropWhile isDig = [] then none
          else some ⟨[], m, d.data.toList, e + (if (signP t).1 then -(powL ((signP t).2.takeWhile isDig)) else powL ((signP t).2.takeWhile isDig))⟩ := by
        unfold powerL; simp only [hc, if_true]
      clear hc
      rw [← hg, ← hr] at hpl
      have hgd : ∀ x, x ∈ g.data.toList → isDig x = true := fun x hx => by rw [hg] at hx; exact mem_takeWhile_dig hx
      rcases hgl : g.data.toList with _ | ⟨c0, t0⟩
      · have hem := isEmpty_t g hgl
        have hno : powerL ⟨c :: t, m, d.data.toList, e⟩ = none := by rw [hpl, if_pos (Or.inl hgl)]
        replace hno := Lib.hid hno
        clear hgl hpl hg hr hgd
        go_wp2
        go_ret2
        exact StEnd.no hno.out hB3.out
      · have hem := isEmpty_f g c0 t0 hgl
        rcases hrl : r.data.toList with _ | ⟨c1, t1⟩
        · have hrm := isEmpty_t r hrl
          have hpl2 : powerL ⟨c :: t, m, d.data.toList, e⟩ = some ⟨[], m, d.data.toList, e + (if (signP t).1 then -(powL g.data.toList) else powL g.data.toList)⟩ := by
            rw [hpl, if_neg]
            rintro (h | h)
            · rw [hgl] at h; cases h
            · exact h hrl
          rw [← hc2.out] at hpl2
          replace hpl := Lib.hid hpl2
          clear hpl2 hg hr hgl
          replace hrl := Lib.hid hrl
          have hcon := fun W => Tryz.strings_TrimLeft_one g 48 (by decide) W
          have hcon2 : ∀ W, Calls Tryz.prog 88 #[.string g, .string ⟨#[48]⟩] W fun e w' => ∃ h : ByteArray, e = .returned (.string h) ∧ h.data.toList = g.data.toList.dropWhile isZ ∧ W = w' := fun W => (hcon W).mono (by
            rintro en w' ⟨rfl, rfl⟩
            exact ⟨_, rfl, by rw [trimZ], rfl⟩)
          replace hcon := Lib.hid hcon2
          clear hcon2
          replace hgd := Lib.hid hgd
          go_wp2_with fail
          refine (hcon.out _).mono ?_
          rintro en w4 ⟨h, rfl, hh, rfl⟩
          clear hcon
          have hhd : ∀ x, x ∈ h.data.toList → isDig x = true := fun x hx => by
            rw [hh] at hx
            exact hgd.out x (List.dropWhile_subset _ hx)
          have hlen := bytes_len h
          by_cases h9 : h.size < 9
          · have hp : powL g.data.toList = numL 0 h.data.toList := by rw [powL_short (by rw [← hh]; omega), hh]
            have hbd := numL_small h.data.toList hhd (by omega)
            have hat := atoi_zero h.data.toList hhd
            rw [hp] at hpl
            obtain ⟨n, hn⟩ : ∃ n, numL 0 h.data.toList = n := ⟨_, rfl⟩
            rw [hn] at hpl hbd hat
            clear hn hp hhd hlen
            replace hh := Lib.hid hh
            have h18 : ((⟨#[48]⟩ : ByteArray) ++ h).size ≤ 18 := by
              have h1 : (⟨#[48]⟩ : ByteArray).size = 1 := rfl
              rw [ByteArray.size_append, h1]; omega
            have hle : (⟨#[48]⟩ : ByteArray).size + h.size ≤ 9223372036854775807 := by
              have h1 : (⟨#[48]⟩ : ByteArray).size = 1 := rfl
              rw [h1]; omega
            have hadd : ∀ W, (Op.stringOp .add ⟨#[48]⟩ h).run Tryz.prog W = .ok (.string (⟨#[48]⟩ ++ h)) W := fun W => run_string_add_sum W _ _ hle
            have hatl : Lib.atoi ((⟨#[48]⟩ : ByteArray) ++ h).data.toList = some n := by rw [cat48]; exact hat
            have hcat : ∀ W, Calls Tryz.prog 182 #[.string (⟨#[48]⟩ ++ h)] W fun e w' => e = .returned (.tuple #[.int .i64 n, .nilIface]) ∧ Below W.heap.size W w' := atoi_below _ n h18 hatl
            replace hcat := Lib.hid hcat
            clear hat hatl hle h18
            obtain ⟨n0, n1⟩ := hbd
            go_wp2_with fail
            refine (hcat.out _).mono ?_
            rintro en w5 ⟨rfl, hB5⟩
            have hR5 : RD w5 b r m d e := Cel.below hR3.out hB5 hR3.out.lt
            replace hB5 := Lib.hid (hB3.out.trans (hB5.mono (Nat.le_of_lt hR3.out.lt)))
            clear x0 x1 x2 x3 f0 f1 f2 f3 hB3 hR3 hcat
            obtain ⟨x0, x1, x2, x3, f0, f1, f2, f3⟩ := hR5.facts
            cases hsg : (c2 == 45)
            · rw [hsg] at hpl
              replace hR5 := Lib.hid (hR5.setE (e + n))
              replace hB5 := Lib.hid (hB5.out.setCell (p := ⟨b, 3, none⟩) (Nat.le_refl _) (.int .i64 (e + n)))
              go_wp2
              go_ret2
              exact StEnd.yes hpl.out hrl.out rfl hR5.out hB5.out
            · rw [hsg] at hpl
              replace hR5 := Lib.hid (hR5.setE (e + -n))
              replace hB5 := Lib.hid (hB5.out.setCell (p := ⟨b, 3, none⟩) (Nat.le_refl _) (.int .i64 (e + -n)))
              go_wp2
              go_ret2
              exact StEnd.yes hpl.out hrl.out rfl hR5.out hB5.out
          · have hp : powL g.data.toList = 1073741824 := powL_long (by rw [← hh]; omega)
            rw [hp] at hpl
            clear hp hhd hlen
            replace hh := Lib.hid hh
            cases hsg : (c2 == 45)
            · rw [hsg] at hpl
              replace hR3 := Lib.hid (hR3.out.setE (e + 1073741824))
              replace hB3 := Lib.hid (hB3.out.setCell (p := ⟨b, 3, none⟩) (Nat.le_refl _) (.int .i64 (e + 1073741824)))
              go_wp2
              go_ret2
              exact StEnd.yes hpl.out hrl.out rfl hR3.out hB3.out
            · rw [hsg] at hpl
              replace hR3 := Lib.hid (hR3.out.setE (e + -1073741824))
              replace hB3 := Lib.hid (hB3.out.setCell (p := ⟨b, 3, none⟩) (Nat.le_refl _) (.int .i64 (e + -1073741824)))
              go_wp2
              go_ret2
              exact StEnd.yes hpl.out hrl.out rfl hR3.out hB3.out
        · have hrm := isEmpty_f r c1 t1 hrl
          have hno : powerL ⟨c :: t, m, d.data.toList, e⟩ = none := by rw [hpl, if_pos (Or.inr (by rw [hrl]; simp))]
          replace hno := Lib.hid hno
          clear hgl hpl hg hr hgd hrl
          go_wp2
          go_ret2
          exact StEnd.no hno.out hB3.out
    · have hcon := Lib.hid (decBegins_other b s ⟨#[101, 69]⟩ m d e w hR hs c t hl (by
        have h1 : ¬ c = 101 := fun h => hc (Or.inl (by rw [h]; rfl))
        have h2 : ¬ c = 69 := fun h => hc (Or.inr (by rw [h]; rfl))
        simp [h1, h2]))
      have hno : powerL ⟨c :: t, m, d.data.toList, e⟩ = none := by unfold powerL; simp only [hc, if_false]
      have hem := isEmpty_f s c t hl
      replace hno := Lib.hid hno
      replace hl := Lib.hid hl
      replace hR := Lib.hid hR
      clear hc
      go_enter Tryz.func165, Tryz.ntmps165
      go_wp2_with (go_at_call 146; refine hcon.out.mono ?_; rintro en w' ⟨rfl, rfl⟩)
      go_region
      go_wp2
      go_ret2
      exact StEnd.no hno.out ((Below.refl _ _).drew)
end Go.Proofs.YtghaoielnphhlaaGreatDoor
