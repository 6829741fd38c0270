/-
  The walks of (*dec.reader).digits and begins.
-/
import Derived.Test.YthmojpcaagnfkaaGreatDoorProg
import Derived.Test.YthmojpcaagnfkaaGreatDoorDecS
import Derived.Test.YthmojpcaagnfkaaGreatDoorU
import Derived.Test.YthmojpcaagnfkaaGreatDoorShelf
import Derived.WalkKit
import Derived.WalkSpells
import Derived.WalkLawsBesides
import Derived.Lib.Hide
import Derived.Lib.Strings
import Derived.Lib.IndexLaws
import Derived.Lib.IndexBytes
import Derived.IntWalk
import Derived.BigQuiet
import Derived.Deep.QuietTactic
namespace Go.Proofs.YthmojpcaagnfkaaGreatDoor
open Go.RowKit

/-- The reader's block: s, then x (minus, digits, exp), then sign. -/
def RD (w : World) (b : Nat) (s : ByteArray) (m : Bool) (d : ByteArray) (e : Int) : Prop :=
  Cel w b 195 #[.string s, .bool m, .string d, .int .i64 e, .int .i64 0]

theorem RD.facts {w : World} {b : Nat} {s : ByteArray} {m : Bool} {d : ByteArray} {e : Int} (h : RD w b s m d e) :
    w.cell? ⟨b, 0, none⟩ = some (.string s) ∧ w.cell? ⟨b, 1, none⟩ = some (.bool m) ∧ w.cell? ⟨b, 2, none⟩ = some (.string d) ∧ w.cell? ⟨b, 3, none⟩ = some (.int .i64 e) ∧
    w.frozen? ⟨b, 0, none⟩ = false ∧ w.frozen? ⟨b, 1, none⟩ = false ∧ w.frozen? ⟨b, 2, none⟩ = false ∧ w.frozen? ⟨b, 3, none⟩ = false :=
  ⟨Cel.cell h 0, Cel.cell h 1, Cel.cell h 2, Cel.cell h 3, Cel.froz h 0, Cel.froz h 1, Cel.froz h 2, Cel.froz h 3⟩
theorem RD.setS {w : World} {b : Nat} {s : ByteArray} {m : Bool} {d : ByteArray} {e : Int} (h : RD w b s m d e) (s' : ByteArray) : RD (w.setCell ⟨b, 0, none⟩ (.string s')) b s' m d e := Cel.set h 0 _
theorem RD.setM {w : World} {b : Nat} {s : ByteArray} {m : Bool} {d : ByteArray} {e : Int} (h : RD w b s m d e) (m' : Bool) : RD (w.setCell ⟨b, 1, none⟩ (.bool m')) b s m' d e := Cel.set h 1 _
theorem RD.setD {w : World} {b : Nat} {s : ByteArray} {m : Bool} {d : ByteArray} {e : Int} (h : RD w b s m d e) (d' : ByteArray) : RD (w.setCell ⟨b, 2, none⟩ (.string d')) b s m d' e := Cel.set h 2 _
theorem RD.setE {w : World} {b : Nat} {s : ByteArray} {m : Bool} {d : ByteArray} {e : Int} (h : RD w b s m d e) (e' : Int) : RD (w.setCell ⟨b, 3, none⟩ (.int .i64 e')) b s m d e' := Cel.set h 3 _
theorem RD.drew {w : World} {b : Nat} {s : ByteArray} {m : Bool} {d : ByteArray} {e : Int} (h : RD w b s m d e) : RD w.drew b s m d e := h
theorem RD.lt {w : World} {b : Nat} {s : ByteArray} {m : Bool} {d : ByteArray} {e : Int} (h : RD w b s m d e) : b < w.heap.size := Cel.lt h

/-- The ten digits. -/
def tenDigits : ByteArray := ⟨#[48, 49, 50, 51, 52, 53, 54, 55, 56, 57]⟩
theorem trim_ten (l : List UInt8) : Lib.trimLeftS l tenDigits.data.toList = l.dropWhile isDig := by
  unfold Lib.trimLeftS
  congr 1
  funext c
  revert c
  have h : ∀ n : Fin 256, (tenDigits.data.toList.contains (UInt8.ofNat n.val)) = isDig (UInt8.ofNat n.val) := by decide +kernel
  intro c
  have := h ⟨c.toNat, UInt8.toNat_lt c⟩
  simpa using this

/-- How digits ends. -/
def DigEnd (w : World) (b : Nat) (s : ByteArray) (m : Bool) (d : ByteArray) (e : Int) (en : Ending) (w' : World) : Prop :=
  ∃ g r : ByteArray, en = .returned (.string g) ∧ g.data.toList = s.data.toList.takeWhile isDig ∧ r.data.toList = s.data.toList.dropWhile isDig ∧ RD w' b r m d e ∧ Below b w w'

theorem take_len (l : List UInt8) (p : UInt8 → Bool) : l.takeWhile p = l.take (l.length - (l.dropWhile p).length) := by
  have h := List.takeWhile_append_dropWhile (p := p) (l := l)
  have h2 : l.length = (l.takeWhile p).length + (l.dropWhile p).length := by rw [← List.length_append, h]
  rw [show l.length - (l.dropWhile p).length = (l.takeWhile p).length by omega]
  exact List.prefix_iff_eq_take.1 (List.takeWhile_prefix p)

set_option maxHeartbeats 1000000 in
theorem decDigits_any (b : Nat) (s : ByteArray) (m : Bool) (d : ByteArray) (e : Int) (w : World) (hR : RD w b s m d e) (hs : s.size ≤ 1099511627776) :
    Calls Tryz.prog 200 #[.pointer (some ⟨b, 0, none⟩)] w (DigEnd w b s m d e) := by
  obtain ⟨x0, x1, x2, x3, f0, f1, f2, f3⟩ := hR.facts
  have hcon : ∀ W, Calls Tryz.prog 149 #[.string s, .string ⟨#[48, 49, 50, 51, 52, 53, 54, 55, 56, 57]⟩] W fun e w' => ∃ r : ByteArray, e = .returned (.string r) ∧ r.data.toList = s.data.toList.dropWhile isDig ∧ r.size ≤ s.size ∧ Below W.heap.size W w' := by
    intro W
    refine (Tryz.strings_TrimLeft_set s tenDigits W (by decide) (by
      have h : ∀ j : Fin 10, (tenDigits.data.toList[j.val]?.map (fun b => decide (b.toNat < 128))) = some true := by decide +kernel
      intro j b hb
      have hj : j < 10 := by
        rcases Nat.lt_or_ge j 10 with h1 | h1
        · exact h1
        · rw [List.getElem?_eq_none (by simpa [tenDigits] using h1)] at hb; cases hb
      have := h ⟨j, hj⟩
      simp only [hb] at this
      simpa using this)).mono ?_
    rintro e w' ⟨rfl, hB⟩
    refine ⟨_, rfl, ?_, ?_, hB⟩
    · simp [trim_ten]
    · rw [trim_ten]
      have h := List.takeWhile_append_dropWhile (p := isDig) (l := s.data.toList)
      have h2 : s.data.toList.length = (s.data.toList.takeWhile isDig).length + (s.data.toList.dropWhile isDig).length := by rw [← List.length_append, h]
      rw [bytes_len] at h2
      show (List.toArray _).size ≤ _
      simp
      omega
  replace hcon := Lib.hid hcon
  replace hR := Lib.hid hR
  go_enter Tryz.func200, Tryz.ntmps200
  go_wp2_with fail
  refine (hcon.out _).mono ?_
  rintro e1 w1 ⟨r, rfl, hr, hrs, hB⟩
  have hR1 : RD w1 b s m d e := Cel.below hR.out hB hR.out.lt
  obtain ⟨y0, y1, y2, y3, g0, g1, g2, g3⟩ := hR1.facts
  have hB1 : Below b w w1 := hB.mono (Nat.le_of_lt hR.out.lt)
  replace hR1 := Lib.hid hR1
  replace hB1 := Lib.hid hB1
  replace hr := Lib.hid hr
  clear hB x0 x1 x2 x3 f0 f1 f2 f3
  go_upto_region 2 with (fail)
  go_quiet (fail)
  go_wp2
  go_ret
  refine ⟨s.extract 0 (s.size - r.size), r, rfl, ?_, hr.out, ?_, ?_⟩
  · rw [Lib.extract_data, take_len, ← hr.out, bytes_len, bytes_len]; simp
  · exact RD.setS (Cel.drewN hR1.out nq) r
  · exact (bel_drewN hB1.out nq).setCell (Nat.le_refl _) _

theorem has_byte (l : List UInt8) (c : UInt8) : decide (0 ≤ Lib.indexByte l c) = l.contains c := by
  induction l with
  | nil => rfl
  | cons a l ih =>
    unfold Lib.indexByte
    by_cases h : a = c
    · subst h; simp
    · have h1 : (a == c) = false := by simpa using h
      have h2 : (c == a) = false := by simpa using fun e => h e.symm
      have hge := Lib.indexByte_ge l c
      rw [h1]
      simp only [Bool.false_eq_true, if_false, List.contains_cons, h2, Bool.false_or]
      rw [← ih]
      by_cases h3 : Lib.indexByte l c = -1
      · simp [h3]
      · have h4 : (Lib.indexByte l c == -1) = false := by simpa using h3
        rw [h4]
        simp only [Bool.false_eq_true, if_false]
        rw [Bool.eq_iff_iff]
        simp
        omega

theorem first_byte (s : ByteArray) (c : UInt8) (t : List UInt8) (h : s.data.toList = c :: t) : s.extract 0 1 = ⟨#[c]⟩ := by
  have h1 : (s.extract 0 1).data.toList = [c] := by rw [Lib.extract_data, h]; simp
  rw [← bytes_mk (s.extract 0 1), h1]
theorem rest_bytes (s : ByteArray) (c : UInt8) (t : List UInt8) (h : s.data.toList = c :: t) : (s.extract 1 s.size).data.toList = t := by
  rw [Lib.extract_to_end, h]; rfl
theorem size_cons (s : ByteArray) (c : UInt8) (t : List UInt8) (h : s.data.toList = c :: t) : s.size = t.length + 1 := by
  rw [← bytes_len, h]; rfl
theorem at_cons (s : ByteArray) (c : UInt8) (t : List UInt8) (h : s.data.toList = c :: t) (h0 : 0 < s.size) : s[0] = c := by
  have h1 := bytes_at s 0 h0
  rw [h] at h1
  simp at h1
  exact h1.symm
theorem isEmpty_t (s : ByteArray) (h : s.data.toList = []) : s.toList.isEmpty = true := by rw [Lib.toList_data, h]; rfl
theorem isEmpty_f (s : ByteArray) (c : UInt8) (t : List UInt8) (h : s.data.toList = c :: t) : s.toList.isEmpty = false := by rw [Lib.toList_data, h]; rfl

set_option maxHeartbeats 1000000 in
theorem decBegins_yes (b : Nat) (s some : ByteArray) (m : Bool) (d : ByteArray) (e : Int) (w : World) (hR : RD w b s m d e) (hs : s.size ≤ 1099511627776) (c : UInt8) (t : List UInt8) (hc : s.data.toList = c :: t) (hin : some.data.toList.contains c = true) :
    Calls Tryz.prog 199 #[.pointer (.some ⟨b, 0, none⟩), .string some] w fun en w' => en = .returned (.tuple #[.int .u8 c.toNat, .bool true]) ∧ w' = w.setCell ⟨b, 0, none⟩ (.string (s.extract 1 s.size)) := by
  obtain ⟨x0, x1, x2, x3, f0, f1, f2, f3⟩ := hR.facts
  have he := isEmpty_f s c t hc
  have hsz := size_cons s c t hc
  have h0 : 0 < s.size := by omega
  have hat := at_cons s c t hc h0
  have hcon : ∀ W, Calls Tryz.prog 228 #[.string some, .string (s.extract 0 1)] W fun e w' => e = .returned (.bool true) ∧ W = w' := by
    intro W
    rw [first_byte s c t hc]
    refine (Tryz.strings_Contains_one some c W).mono ?_
    rintro e w' ⟨rfl, rfl⟩
    exact ⟨by rw [has_byte, hin], rfl⟩
  replace hcon := Lib.hid hcon
  replace hat := Lib.hid hat
  clear hsz hc hin
  go_enter Tryz.func199, Tryz.ntmps199
  go_wp2_with (go_at_call 228; refine (hcon.out _).mono ?_; rintro e w' ⟨rfl, rfl⟩)
  go_ret2
  exact ⟨by rw [hat.out]; rfl, rfl⟩

set_option maxHeartbeats 1000000 in
theorem decBegins_none (b : Nat) (s some : ByteArray) (m : Bool) (d : ByteArray) (e : Int) (w : World) (hR : RD w b s m d e) (hc : s.data.toList = []) :
    Calls Tryz.prog 199 #[.pointer (.some ⟨b, 0, none⟩), .string some] w fun en w' => en = .returned (.tuple #[.int .u8 0, .bool false]) ∧ w = w' := by
  obtain ⟨x0, x1, x2, x3, f0, f1, f2, f3⟩ := hR.facts
  have he := isEmpty_t s hc
  clear hc
  go_enter Tryz.func199, Tryz.ntmps199
  go_wp2
  go_ret2
  exact ⟨rfl, rfl⟩

set_option maxHeartbeats 1000000 in
theorem decBegins_other (b : Nat) (s some : ByteArray) (m : Bool) (d : ByteArray) (e : Int) (w : World) (hR : RD w b s m d e) (hs : s.size ≤ 1099511627776) (c : UInt8) (t : List UInt8) (hc : s.data.toList = c :: t) (hin : some.data.toList.contains c = false) :
    Calls Tryz.prog 199 #[.pointer (.some ⟨b, 0, none⟩), .string some] w fun en w' => en = .returned (.tuple #[.int .u8 0, .bool false]) ∧ w = w' := by
  obtain ⟨x0, x1, x2, x3, f0, f1, f2, f3⟩ := hR.facts
  have he := isEmpty_f s c t hc
  have hsz := size_cons s c t hc
  have h0 : 0 < s.size := by omega
  have hcon : ∀ W, Calls Tryz.prog 228 #[.string some, .string (s.extract 0 1)] W fun e w' => e = .returned (.bool false) ∧ W = w' := by
    intro W
    rw [first_byte s c t hc]
    refine (Tryz.strings_Contains_one some c W).mono ?_
    rintro e w' ⟨rfl, rfl⟩
    exact ⟨by rw [has_byte, hin], rfl⟩
  replace hcon := Lib.hid hcon
  clear hsz hc hin
  go_enter Tryz.func199, Tryz.ntmps199
  go_wp2_with (go_at_call 228; refine (hcon.out _).mono ?_; rintro e w' ⟨rfl, rfl⟩)
  go_ret2
  exact ⟨rfl, rfl⟩
end Go.Proofs.YthmojpcaagnfkaaGreatDoor
