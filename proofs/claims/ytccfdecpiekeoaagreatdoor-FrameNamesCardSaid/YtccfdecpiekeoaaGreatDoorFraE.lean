/-
  The walks of frame.length and head: what each computes.
-/
import Derived.Test.YtccfdecpiekeoaaGreatDoorFraA
import Derived.Test.YtccfdecpiekeoaaGreatDoorShelf
import Derived.Lib.LaidTab
import Derived.WalkSmall
import Derived.Lib.AtoiErrMem
import Derived.Lib.AppendIntMem
import Derived.Lib.Split
import Derived.Deep.Cut
import Derived.Deep.CutRange
namespace Go.Proofs.YtccfdecpiekeoaaGreatDoor
open Go.RowKit

/-- What the calls ask of memory: the table of powers of ten; a number that the library's search reads. -/
def EnvF (w : World) : Prop := Lib.TabIs Tryz.prog w "internal/strconv.uint64pow10" .u64 Lib.pow10Tab ∧ ∃ m : Int, w.cell? ⟨0, 0, none⟩ = some (.int .i64 m)
theorem EnvF.below {w w' : World} (h : EnvF w) (hb : Below w.heap.size w w') : EnvF w' := by
  obtain ⟨h1, m, h2⟩ := h
  refine ⟨?_, m, ?_⟩
  · have hg : Tryz.prog.globalNamed "internal/strconv.uint64pow10" = some 1 := by kernel_rfl
    have hlt : 1 < w.heap.size := by
      rcases Nat.lt_or_ge 1 w.heap.size with h3 | h3
      · exact h3
      · unfold Lib.TabIs World.var? at h1
        rw [hg] at h1
        simp only [Option.bind_some, Array.getElem?_eq_none h3] at h1
        cases h1
    exact var?_below hb hg hlt h1
  · rw [hb.cell (p := ⟨0, 0, none⟩) (World.block_lt_of_cell? w _ h2)]; exact h2
theorem EnvF.at {w w' : World} {B : Nat} (h : EnvF w) (hB : w.heap.size ≤ B) (hb : Below B w w') : EnvF w' := h.below (hb.mono hB)
theorem bel_drawn (w : World) (n : Nat) : Below w.heap.size w (w.drewN n) := bel_drewN (Below.refl _ _) n

theorem mk_data (l : List UInt8) : (⟨l.toArray⟩ : ByteArray).data.toList = l := by simp

theorem cut_calls (s : ByteArray) (w : World) (hE : EnvF w) (hs : s.size ≤ 1048576) :
    Calls Tryz.prog 57 #[.string s, .string ⟨#[58]⟩] w fun e w' => (∃ (a b : ByteArray) (two : Bool), e = .returned (.tuple #[.string a, .string b, .bool two]) ∧ (a.data.toList, b.data.toList, two) = Lib.cut s.data.toList fColon) ∧ Below w.heap.size w w' := by
  obtain ⟨_, m, hm⟩ := hE
  refine (Tryz.strings_Cut s ⟨#[58]⟩ m w (by omega) hm).mono ?_
  rintro e w' ⟨rfl, n, rfl⟩
  exact ⟨⟨_, _, _, rfl, by rw [mk_data, mk_data]; rfl⟩, bel_drawn w n⟩
theorem dropWhile_le {α : Type} (p : α → Bool) : ∀ (l : List α), (l.dropWhile p).length ≤ l.length
  | [] => Nat.le_refl _
  | a :: l => by
    rw [List.dropWhile_cons]
    split
    · have := dropWhile_le p l; rw [List.length_cons]; omega
    · exact Nat.le_refl _
theorem trimS_le (l cs : List UInt8) : (Lib.trimS l cs).length ≤ l.length := by
  unfold Lib.trimS Lib.trimLeftS Lib.trimRightS
  refine Nat.le_trans (dropWhile_le _ _) ?_
  rw [List.length_reverse]
  refine Nat.le_trans (dropWhile_le _ _) ?_
  rw [List.length_reverse]
  exact Nat.le_refl _
theorem trim_calls (s : ByteArray) (cs : ByteArray) (w : World) (hs : s.size ≤ 1048576) (hc : cs.size ≤ 1000) (ha : cs.data.toList.all (fun b => decide (b.toNat < 128)) = true) :
    Calls Tryz.prog 58 #[.string s, .string cs] w fun e w' => (∃ g : ByteArray, e = .returned (.string g) ∧ g.data.toList = Lib.trimS s.data.toList cs.data.toList ∧ g.size ≤ s.size) ∧ Below w.heap.size w w' := by
  refine (Tryz.strings_Trim_set s cs w (by omega) (by omega) (fun _ b hb => of_decide_eq_true (List.all_eq_true.1 ha b (List.mem_of_getElem? hb)))).mono ?_
  rintro e w' ⟨rfl, hB⟩
  refine ⟨⟨_, rfl, by rw [mk_data], ?_⟩, hB⟩
  rw [← bytes_len, mk_data, ← bytes_len]
  exact trimS_le _ _
theorem fold_calls (s : ByteArray) (w : World) (hs : s.size ≤ 1048576) (hn : s.data.toList.all isNm = true) :
    Calls Tryz.prog 59 #[.string s, .string ⟨#[99, 111, 110, 116, 101, 110, 116, 45, 108, 101, 110, 103, 116, 104]⟩] w fun e w' => e = .returned (.bool (decide (s.data.toList.map lowB = clName))) ∧ w = w' := by
  refine (Tryz.strings_EqualFold s _ w (by omega) (fun j b hb => nm_ascii (List.all_eq_true.1 hn b (List.mem_of_getElem? hb))) (fun j b hb => ?_)).mono ?_
  · have : clName.all (fun b => decide (b.toNat < 128)) = true := by decide
    exact of_decide_eq_true (List.all_eq_true.1 this b (List.mem_of_getElem? hb))
  · rintro e w' ⟨rfl, rfl⟩
    refine ⟨?_, rfl⟩
    congr 2
    rw [Bool.eq_iff_iff, decide_eq_true_eq]
    exact fold_low _ _ (by decide)
theorem atoi_calls (s : ByteArray) (w : World) (hs : s.size ≤ 9) (h0 : s.data.toList ≠ []) (hd : s.data.toList.all isDg = true) :
    Calls Tryz.prog 61 #[.string s] w fun e w' => e = .returned (.tuple #[.int .i64 (decD 0 s.data.toList : Nat), .nilIface]) ∧ Below w.heap.size w w' :=
  (Tryz.strconv_Atoi s _ (by omega) (atoi_dg _ h0 hd) w).mono fun e w' hh => ⟨hh.1, by obtain ⟨_, t, rfl⟩ := hh; exact Lib.bytesWorld_below _ _ _⟩
theorem nines_calls (w : World) :
    Calls Tryz.prog 60 #[.string ⟨#[57]⟩, .int .i64 9] w fun e w' => e = .returned (.string ⟨#[57, 57, 57, 57, 57, 57, 57, 57, 57]⟩) ∧ Below w.heap.size w w' :=
  Tryz.strings_Repeat ⟨#[57]⟩ 9 w (by decide) (by decide)

/-- What length answers of a line. -/
def LineOut (r : Option (Option Nat)) (n : Int) (is ok : Bool) : Prop :=
  match r with
  | none => ok = false
  | some none => ok = true ∧ is = false
  | some (some k) => ok = true ∧ is = true ∧ 0 ≤ n ∧ n ≤ 2000000000 ∧ min n.toNat 262145 = k
def LineEnd (l : List UInt8) (w : World) (e : Ending) (w' : World) : Prop :=
  ∃ (n : Int) (is ok : Bool), e = .returned (.tuple #[.int .i64 n, .bool is, .bool ok]) ∧ LineOut (lineL l) n is ok ∧ Below w.heap.size w w'
theorem line_none {l : List UInt8} {w w' : World} {n : Int} {is : Bool} (h : lineL l = none) (hB : Below w.heap.size w w') : LineEnd l w (.returned (.tuple #[.int .i64 n, .bool is, .bool false])) w' :=
  ⟨_, _, _, rfl, by rw [h]; rfl, hB⟩

set_option maxHeartbeats 2000000 in
theorem frmLength_any (s : ByteArray) (w : World) (hE : EnvF w) (hs : s.size ≤ 1048576) :
    Calls Tryz.prog 47 #[.string s] w (LineEnd s.data.toList w) := by
  have hsl := bytes_len s
  have hcut := Lib.hid (cut_calls s w hE hs)
  clear hE
  go_enter Tryz.func47, Tryz.ntmps47
  go_wp2_with fail
  refine hcut.out.mono ?_
  rintro e w1 ⟨⟨a, b, two, rfl, hab⟩, hB1⟩
  clear hcut
  rcases hi : idx s.data.toList fColon with _ | i
  · rw [cut_none hi] at hab
    injection hab with ha hb
    injection hb with hb htwo
    subst htwo
    have hL := Lib.hid (lineL_none hi)
    clear ha hb hi hsl
    replace hB1 := Lib.hid hB1
    go_wp2_with fail
    go_ret3
    exact line_none hL.out hB1.out
  · have hil := idx_lt fColon_ne hi
    rw [hsl] at hil
    have hil2 : i + 1 ≤ s.size := hil
    rw [cut_some hi] at hab
    injection hab with ha hb
    injection hb with hb htwo
    subst htwo
    have has : a.size = i := by rw [← bytes_len, ha, List.length_take, hsl]; omega
    have hbs : b.size = s.size - (i + 1) := by rw [← bytes_len, hb, List.length_drop, hsl]
    have ha40 : a.size ≤ 1048576 := by omega
    have hb40 : b.size ≤ 1048576 := by omega
    clear has hbs hil hil2 hsl
    have htn := fun W => trim_calls a ⟨#[97, 98, 99, 100, 101, 102, 103, 104, 105, 106, 107, 108, 109, 110, 111, 112, 113, 114, 115, 116, 117, 118, 119, 120, 121, 122, 65, 66, 67, 68, 69, 70, 71, 72, 73, 74, 75, 76, 77, 78, 79, 80, 81, 82, 83, 84, 85, 86, 87, 88, 89, 90, 48, 49, 50, 51, 52, 53, 54, 55, 56, 57, 45]⟩ W ha40 (by decide) (by decide)
    rw [show (⟨#[97, 98, 99, 100, 101, 102, 103, 104, 105, 106, 107, 108, 109, 110, 111, 112, 113, 114, 115, 116, 117, 118, 119, 120, 121, 122, 65, 66, 67, 68, 69, 70, 71, 72, 73, 74, 75, 76, 77, 78, 79, 80, 81, 82, 83, 84, 85, 86, 87, 88, 89, 90, 48, 49, 50, 51, 52, 53, 54, 55, 56, 57, 45]⟩ : ByteArray).data.toList = nmSet from rfl] at htn
    have hnil := trimS_nil_iff a.data.toList nmSet isNm nmSet_is
    replace htn := Lib.hid htn
    replace hB1 := Lib.hid hB1
    by_cases ha0 : a.data.toList = []
    · have he := empty_t ha0
      have hL := Lib.hid (lineL_bad hi (Or.inl (by rw [← ha]; exact ha0)))
      clear ha hb hi ha0 hnil htn
      go_wp2_with fail
      go_ret3
      exact line_none hL.out hB1.out
    · have he := empty_f ha0
      by_cases hnm : a.data.toList.all isNm = true
      · have hfo := Lib.hid (fun W => fold_calls a W ha40 hnm)
        have hgood : ¬ (s.data.toList.take i = [] ∨ (s.data.toList.take i).all isNm = false) := by
          rw [← ha, hnm]
          rintro (h | h)
          · exact ha0 h
          · cases h
        have hnil2 := hnil.2 hnm
        clear ha0 hnm hnil
        go_wp2_with fail
        refine (htn.out _).mono ?_
        rintro e w2 ⟨⟨g, rfl, hg, _⟩, hB2⟩
        have hge := empty_t (hg.trans hnil2)
        replace hB2 := Lib.hid (hB1.out.trans (hB2.mono hB1.out.size))
        clear htn hg hnil2 hB1
        go_wp2_with fail
        refine (hfo.out _).mono ?_
        rintro e w3 ⟨rfl, rfl⟩
        clear hfo
        by_cases hcl : a.data.toList.map lowB = clName
        · have hL := lineL_len hi hgood (by rw [← ha]; exact hcl)
          rw [← hb] at hL
          clear ha hb hi hgood
          simp only [decide_eq_true hcl]
          clear hcl
          have htb := fun W => trim_calls b ⟨#[32, 9]⟩ W hb40 (by decide) (by decide)
          rw [show (⟨#[32, 9]⟩ : ByteArray).data.toList = blSet from rfl, trimS_bl] at htb
          replace htb := Lib.hid htb
          replace hL := Lib.hid hL
          go_wp2_with fail
          refine (htb.out _).mono ?_
          rintro e w3 ⟨⟨v, rfl, hv, hvs⟩, hB3⟩
          replace hB3 := Lib.hid (hB2.out.trans (hB3.mono hB2.out.size))
          rw [← hv] at hL
          have hv40 : v.size ≤ 1048576 := by omega
          clear htb hB2 hv hvs
          have hvl := bytes_len v
          by_cases hv0 : v.data.toList = []
          · have hve := empty_t hv0
            have hn : lineL s.data.toList = none := by rw [hL.out]; unfold numL; rw [if_pos (Or.inl hv0)]
            clear hv0 hL hvl
            replace hn := Lib.hid hn
            go_wp2_with fail
            go_ret3
            exact line_none hn.out hB3.out
          · have hve := empty_f hv0
            have htd := fun W => trim_calls v ⟨#[48, 49, 50, 51, 52, 53, 54, 55, 56, 57]⟩ W hv40 (by decide) (by decide)
            rw [show (⟨#[48, 49, 50, 51, 52, 53, 54, 55, 56, 57]⟩ : ByteArray).data.toList = dgSet from rfl] at htd
            have hnil := trimS_nil_iff v.data.toList dgSet isDg dgSet_is
            replace htd := Lib.hid htd
            by_cases hdg : v.data.toList.all isDg = true
            · have hnil2 := hnil.2 hdg
              have hvpos : 0 < v.size := by
                rcases Nat.eq_zero_or_pos v.size with h | h
                · exact absurd (List.length_eq_zero_iff.1 (hvl.trans h)) hv0
                · exact h
              obtain ⟨vt, hvt⟩ := at0 hvpos
              go_wp2_with fail
              refine (htd.out _).mono ?_
              rintro e w4 ⟨⟨g2, rfl, hg2, _⟩, hB4⟩
              have hge2 := empty_t (hg2.trans hnil2)
              replace hB4 := Lib.hid (hB3.out.trans (hB4.mono hB3.out.size))
              clear htd hg2 hnil2 hB3 hnil
              by_cases hz : 1 < v.size ∧ ((v[0].toNat : Int) == 48) = true
              · obtain ⟨z1, z2⟩ := hz
                have hn : lineL s.data.toList = none := by
                  rw [hL.out]; unfold numL
                  rw [if_pos]
                  refine Or.inr (Or.inr ⟨by omega, ?_⟩)
                  rw [hvt]
                  have : v[0] = 48 := UInt8.toNat_inj.1 (by have := eq_of_beq z2; show v[0].toNat = 48; omega)
                  rw [this]; rfl
                clear hL hvt hv0 hdg hvl
                replace hn := Lib.hid hn
                go_wp2_with fail
                go_ret3
                exact line_none hn.out hB4.out
              · have hnum : numL v.data.toList = some (min (decD 0 v.data.toList) 262145) := by
                  unfold numL
                  rw [if_neg]
                  rintro (h | h | ⟨h1, h2⟩)
                  · exact hv0 h
                  · rw [hdg] at h; cases h
                  · apply hz
                    refine ⟨by omega, ?_⟩
                    rw [hvt] at h2
                    injection h2 with h2
                    rw [h2]; rfl
                have hL2 : lineL s.data.toList = some (some (min (decD 0 v.data.toList) 262145)) := by rw [hL.out, hnum]
                clear hL hnum
                replace hL2 := Lib.hid hL2
                by_cases h9 : 9 < v.size
                · have hbig := decD_big v.data.toList (by omega) hdg (fun h => hz ⟨by omega, by
                    rw [hvt] at h
                    injection h with h
                    rw [h]; rfl⟩)
                  have z2 : ((v[0].toNat : Int) == 48) = false := by
                    cases hh : ((v[0].toNat : Int) == 48)
                    · rfl
                    · exact absurd ⟨by omega, hh⟩ hz
                  have hcut : (v.extract 0 9).size = 9 := by rw [← bytes_len, Lib.extract_from_zero, List.length_take, hvl]; omega
                  have hfin : LineOut (lineL s.data.toList) 999999999 true true := by
                    rw [hL2.out]
                    refine ⟨rfl, rfl, by omega, by omega, ?_⟩
                    have : (999999999 : Int).toNat = 999999999 := rfl
                    omega
                  clear hbig hz hvt hv0 hdg hvl hL2
                  replace hfin := Lib.hid hfin
                  have hni := Lib.hid (fun W => nines_calls W)
                  have hat := Lib.hid (fun W => atoi_calls ⟨#[57, 57, 57, 57, 57, 57, 57, 57, 57]⟩ W (by decide) (by decide) (by decide))
                  go_wp2_with fail
                  refine (hni.out _).mono ?_
                  rintro e w5 ⟨rfl, hB5⟩
                  replace hB5 := Lib.hid (hB4.out.trans (hB5.mono hB4.out.size))
                  clear hB4 hni
                  go_wp2_with fail
                  refine (hat.out _).mono ?_
                  rintro e w6 ⟨rfl, hB6⟩
                  replace hB6 := Lib.hid (hB5.out.trans (hB6.mono hB5.out.size))
                  clear hB5 hat
                  go_wp2_with fail
                  go_ret3
                  exact ⟨_, _, _, rfl, hfin.out, hB6.out⟩
                · have hat := Lib.hid (fun W => atoi_calls v W (by omega) hv0 hdg)
                  have hlt := decD_lt v.data.toList 0 hdg
                  have hp : 10 ^ v.data.toList.length ≤ 10 ^ 9 := Nat.pow_le_pow_right (by omega) (by omega)
                  have hp9 : (10 : Nat) ^ 9 = 1000000000 := by decide
                  obtain ⟨D, hD⟩ : ∃ D, decD 0 v.data.toList = D := ⟨_, rfl⟩
                  rw [hD] at hL2 hlt hat
                  have hfin : LineOut (lineL s.data.toList) (D : Int) true true := by
                    rw [hL2.out]
                    exact ⟨rfl, rfl, by omega, by omega, by rw [Int.toNat_natCast]⟩
                  clear hlt hp hp9 hD hL2 hvt hv0 hdg hvl
                  replace hfin := Lib.hid hfin
                  by_cases h1 : 1 < v.size
                  · have z2 : ((v[0].toNat : Int) == 48) = false := by
                      cases hh : ((v[0].toNat : Int) == 48)
                      · rfl
                      · exact absurd ⟨by omega, hh⟩ hz
                    clear hz
                    go_wp2_with fail
                    refine (hat.out _).mono ?_
                    rintro e w6 ⟨rfl, hB6⟩
                    replace hB6 := Lib.hid (hB4.out.trans (hB6.mono hB4.out.size))
                    clear hB4 hat
                    go_wp2_with fail
                    go_ret3
                    exact ⟨_, _, _, rfl, hfin.out, hB6.out⟩
                  · clear hz
                    go_wp2_with fail
                    refine (hat.out _).mono ?_
                    rintro e w6 ⟨rfl, hB6⟩
                    replace hB6 := Lib.hid (hB4.out.trans (hB6.mono hB4.out.size))
                    clear hB4 hat
                    go_wp2_with fail
                    go_ret3
                    exact ⟨_, _, _, rfl, hfin.out, hB6.out⟩
            · have hn : lineL s.data.toList = none := by
                rw [hL.out]; unfold numL
                rw [if_pos (Or.inr (Or.inl (by cases hh : v.data.toList.all isDg; rfl; exact absurd hh hdg)))]
              have hnn : ¬ Lib.trimS v.data.toList dgSet = [] := fun h => hdg (hnil.1 h)
              clear hdg hnil hL hv0 hvl
              replace hn := Lib.hid hn
              go_wp2_with fail
              refine (htd.out _).mono ?_
              rintro e w4 ⟨⟨g2, rfl, hg2, _⟩, hB4⟩
              have hge2 := empty_f (a := g2) (by rw [hg2]; exact hnn)
              replace hB4 := Lib.hid (hB3.out.trans (hB4.mono hB3.out.size))
              clear htd hg2 hnn hB3
              go_wp2_with fail
              go_ret3
              exact line_none hn.out hB4.out
        · have hL := Lib.hid (lineL_other hi hgood (by rw [← ha]; exact hcl))
          clear ha hb hi hgood
          simp only [decide_eq_false hcl]
          clear hcl
          go_wp2_with fail
          go_ret3
          exact ⟨_, _, _, rfl, by rw [hL.out]; exact ⟨rfl, rfl⟩, hB2.out⟩
      · have hbad : (a.data.toList).all isNm = false := by
          cases hh : a.data.toList.all isNm
          · rfl
          · exact absurd hh hnm
        have hL := Lib.hid (lineL_bad hi (Or.inr (by rw [← ha]; exact hbad)))
        have hnn : ¬ Lib.trimS a.data.toList nmSet = [] := fun h => hnm (hnil.1 h)
        clear ha hb hi ha0 hnil hnm hbad
        go_wp2_with fail
        refine (htn.out _).mono ?_
        rintro e w2 ⟨⟨g, rfl, hg, _⟩, hB2⟩
        have hge := empty_f (a := g) (by rw [hg]; exact hnn)
        replace hB2 := Lib.hid (hB1.out.trans (hB2.mono hB1.out.size))
        clear htn hg hnn hB1
        go_wp2_with fail
        go_ret3
        exact line_none hL.out hB2.out
end Go.Proofs.YtccfdecpiekeoaaGreatDoor
