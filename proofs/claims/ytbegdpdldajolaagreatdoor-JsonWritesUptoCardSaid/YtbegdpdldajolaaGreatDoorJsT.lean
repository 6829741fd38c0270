/-
  The walk of the document's Quote over a String's bytes.
-/
import Derived.Test.YtbegdpdldajolaaGreatDoorJsS
import Derived.Lib.AppendStr
namespace Go.Proofs.YtbegdpdldajolaaGreatDoor
open Go.RowKit

theorem infoB : (Tryz.prog.info? 5).map (fun i => (i.zero, i.size, i.bytes)) = some (some (.int .u8 0), 1, 1) := by kernel_rfl
/-- A row of bytes of the call's own. -/
def RowB (w : World) (B : Nat) (v : Value) (l : List UInt8) : Prop := w.ownsRow B 5 1 v l.length (l.map fun b => Value.int .u8 b.toNat)
theorem RowB.snoc {w : World} {B : Nat} {v : Value} {l : List UInt8} {t : ByteArray} (h : w.ownsRow B 5 1 v (l.length + t.size) ((l.map fun b => Value.int .u8 b.toNat) ++ Lib.strCells t)) : RowB w B v (l ++ t.data.toList) := by
  unfold RowB
  rw [List.length_append, List.map_append]
  exact h
theorem RowB.one {w : World} (u : UInt8) : RowB (w.alloc (.cells #[.int .u8 u.toNat] 5)) w.heap.size (.slice (some ⟨w.heap.size, 0, none⟩) 1 1) [u] :=
  ⟨rfl, Or.inr ⟨w.heap.size, 1, #[.int .u8 u.toNat], rfl, Nat.le_refl _, Cel.fresh w 5 #[.int .u8 u.toNat], Nat.le_refl _, by unfold maxLen; omega, rfl, rfl⟩⟩
/-- What is held behind q bytes. -/
def qHeld (s : List UInt8) (q : Nat) : List UInt8 := 34 :: (s.take q).flatMap jesc
theorem qHeld_step {s : List UInt8} {q : Nat} {c : UInt8} (h : s[q]? = some c) : qHeld s (q + 1) = qHeld s q ++ jesc c := by
  unfold qHeld
  rw [List.take_add_one, h]
  simp
theorem jesc_len (c : UInt8) : (jesc c).length ≤ 6 := by
  unfold jesc
  repeat' split
  all_goals simp
theorem qHeld_len (s : List UInt8) (q : Nat) : (qHeld s q).length ≤ 6 * s.length + 1 := by
  have : ∀ l : List UInt8, (l.flatMap jesc).length ≤ 6 * l.length := fun l => by
    induction l with
    | nil => simp
    | cons x r ih => have := jesc_len x; rw [List.flatMap_cons, List.length_append, List.length_cons]; omega
  have h1 := this (s.take q)
  have h2 : (s.take q).length ≤ s.length := by rw [List.length_take]; omega
  unfold qHeld
  simp only [List.length_cons]
  omega

/-- A character as it stands in a String's text, by its number. -/
def jescI (b : Int) : List UInt8 :=
  if b = 34 then [92, 34] else if b = 92 then [92, 92] else if b = 8 then [92, 98] else if b = 12 then [92, 102] else if b = 10 then [92, 110] else if b = 13 then [92, 114] else if b = 9 then [92, 116] else if b < 32 then [92, 117, 48, 48, jhex (b.toNat / 16), jhex (b.toNat % 16)] else [UInt8.ofNat b.toNat]
theorem jesc_num (c : UInt8) (b : Int) (h : (c.toNat : Int) = b) : jesc c = jescI b := by
  have e : ∀ (k : UInt8) (m : Int), (k.toNat : Int) = m → ((c = k) ↔ (b = m)) := fun k m hk => by
    rw [← h, ← hk]
    constructor
    · rintro rfl; rfl
    · intro hh; exact UInt8.toNat_inj.1 (by omega)
  have hn : b.toNat = c.toNat := by omega
  have hl : (c.toNat < 32) = (b < 32) := propext (by omega)
  have hc : UInt8.ofNat c.toNat = c := by simp
  unfold jesc jescI
  simp only [e 34 34 rfl, e 92 92 rfl, e 8 8 rfl, e 12 12 rfl, e 10 10 rfl, e 13 13 rfl, e 9 9 rfl, hn, hl, hc]
theorem row_convert {w : World} {B : Nat} {v : Value} {l : List UInt8} (h : RowB w B v l) (hne : l ≠ []) :
    (convert 53 9 v).run Tryz.prog w = .ok (.string ⟨l.toArray⟩) w := by
  obtain ⟨hlen, h | ⟨g, cap, cur, rfl, hg, hh, hnc, hcm, hcs, htk⟩⟩ := h
  · exact absurd (List.eq_nil_of_length_eq_zero h.2) hne
  · have hs : (⟨l.toArray⟩ : ByteArray).size = l.length := by simp [ByteArray.size]
    have hb : Lib.Bytes w g 0 ⟨l.toArray⟩ := by
      intro i hi
      have hi' : i < l.length := by omega
      have e : (⟨l.toArray⟩ : ByteArray)[i] = l[i] := rfl
      have h1 : (cur.toList.take (l.length * 1))[i]? = some (.int .u8 (l[i].toNat : Int)) := by
        rw [htk, List.getElem?_map, List.getElem?_eq_getElem hi']; rfl
      rw [List.getElem?_take, if_pos (by omega), Array.getElem?_toList] at h1
      rw [e, Nat.zero_add]
      unfold World.cell?
      simp only [hh]
      exact h1
    have := Lib.run_convert_whole (P := Tryz.prog) w 53 5 9 Tryz.underlying53 Tryz.underlying5 Tryz.underlying9 g 0 ⟨l.toArray⟩ hb cap
    rw [hs] at this
    exact this
theorem RowB.snoc1 {w : World} {B : Nat} {v : Value} {l : List UInt8} {u : UInt8} {b : Int} (hb : b = (u.toNat : Int)) (h : w.ownsRow B 5 1 v (l.length + 1) ((l.map fun b => Value.int .u8 b.toNat) ++ [.int .u8 b])) : RowB w B v (l ++ [u]) := by
  subst hb
  unfold RowB
  rw [List.length_append, List.map_append]
  exact h
theorem RowB.below {w w' : World} {B : Nat} {v : Value} {l : List UInt8} (h : RowB w B v l) (hb : Below w.heap.size w w') : RowB w' B v l :=
  World.ownsRow.kept (row := none) h ⟨hb.os, hb.tape, hb.output, hb.size, fun k hk _ => hb.block k hk⟩ (by rcases v.ownBlock with _ | g <;> simp)
theorem cell_one (w : World) (x : Value) (t : TypeId) : ∀ (j : Nat) (u : Value), [x][j]? = some u → (w.alloc (.cells #[x] t)).cell? ((⟨w.heap.size, 0, none⟩ : Addr).add j) = some u := by
  intro j u h
  match j, h with
  | 0, h =>
    simp at h; subst h
    exact (World.cell?_alloc_at (w := w) #[x] t w.heap.size 0 rfl).trans rfl
theorem jstr_add (a b : ByteArray) (h : a.size + b.size ≤ 9223372036854775807) : ∀ W, (Op.stringOp .add a b).run Tryz.prog W = .ok (.string (a ++ b)) W := fun W => run_string_add_sum W _ _ h
theorem uni_add (x y : UInt8) : ((⟨#[92, 117, 48, 48]⟩ : ByteArray) ++ ⟨#[x]⟩) ++ ⟨#[y]⟩ = ⟨#[92, 117, 48, 48, x, y]⟩ := rfl

set_option maxRecDepth 100000 in
set_option maxHeartbeats 4000000 in
theorem refQuote_any (s : ByteArray) (hsz : s.size ≤ 1000000000000) (w : World) :
    Calls Tryz.prog 86 #[.string s] w fun e w' => e = .returned (.string ⟨(jquote s.data.toList).toArray⟩) ∧ Below w.heap.size w w' := by
  obtain ⟨i0, hi0, hz0, hz1, hz2⟩ := info_parts infoB
  go_enter Tryz.func86, Tryz.ntmps86
  go_wp2_with fail
  go_loopw [3, 4] (fun v i wr => ∃ q : Nat, q ≤ s.size ∧ i = .int .i64 q ∧ RowB wr w.heap.size v (qHeld s.data.toList q) ∧ Below w.heap.size w wr) (fun _ i _ => s.size - (intOf i).toNat)
  case atStart => exact ⟨0, Nat.zero_le _, rfl, RowB.one 34, (Below.refl _ _).alloc (Nat.le_refl _) _⟩
  case round =>
    obtain ⟨q, hq, rfl, hR, hB⟩ := hrel
    have hln := qHeld_len s.data.toList q
    have hsl : s.data.toList.length = s.size := by rw [Array.length_toList]; rfl
    rw [hsl] at hln
    by_cases hlt : q < s.size
    · obtain ⟨b, hc⟩ : ∃ b : Int, (s[q].toNat : Int) = b := ⟨_, rfl⟩
      have hbd : 0 ≤ b ∧ b < 256 := by have := s[q].toNat_lt; omega
      obtain ⟨hb0, hb1⟩ := hbd
      have hq1 : s.data.toList[q]? = some s[q] := by rw [Array.getElem?_toList]; exact Array.getElem?_eq_getElem hlt
      have hst := qHeld_step hq1
      rw [jesc_num _ b hc] at hst
      unfold jescI at hst
      obtain ⟨L, hL⟩ : ∃ L, qHeld s.data.toList q = L := ⟨_, rfl⟩
      rw [hL] at hst hR hln
      clear hL hq1 hsl
      have hsz2 := hB.size
      have hq0 : (0 : Int) ≤ (q : Int) := by omega
      replace hst := Lib.hid hst
      replace hB := Lib.hid hB
      by_cases h34 : b = 34
      · replace hst := Lib.hid (by have := hst.out; rwa [if_pos h34] at this)
        subst h34
        clear hb0 hb1
        go_wp2_with (at_builtin; refine Lib.wpList_append_own_string _ rfl _ _ 53 9 rfl w.heap.size 5 i0 Tryz.underlying53 Tryz.underlying9 hi0 hz0 hz1 hz2 _ _ _ rfl hR ⟨#[92, 34]⟩ rfl (by show _ + 2 ≤ _; unfold maxLen; omega) (by show _ + 2 ≤ _; omega) hsz2 ?_; intro v' w4 hown hgr _)
        have hR4 := Lib.hid (RowB.snoc (t := ⟨#[92, 34]⟩) hown)
        have hB4 := Lib.hid (hB.out.grown hgr hsz2 (fun k hk => (World.ownsRow.lt hR k hk).1))
        clear hown hgr hR hB
        go_wp2_with fail
        go_roundw
        case rel => exact ⟨q + 1, by omega, by go_num, by rw [hst.out]; exact hR4.out, hB4.out⟩
        case measure => simp [intOf]; omega
      replace hst := Lib.hid (by have := hst.out; rwa [if_neg h34] at this)
      have g34 : (b == 34) = false := beq_eq_false_iff_ne.2 h34
      clear h34
      by_cases h92 : b = 92
      · replace hst := Lib.hid (by have := hst.out; rwa [if_pos h92] at this)
        subst h92
        clear hb0 hb1
        go_wp2_with (at_builtin; refine Lib.wpList_append_own_string _ rfl _ _ 53 9 rfl w.heap.size 5 i0 Tryz.underlying53 Tryz.underlying9 hi0 hz0 hz1 hz2 _ _ _ rfl hR ⟨#[92, 92]⟩ rfl (by show _ + 2 ≤ _; unfold maxLen; omega) (by show _ + 2 ≤ _; omega) hsz2 ?_; intro v' w4 hown hgr _)
        have hR4 := Lib.hid (RowB.snoc (t := ⟨#[92, 92]⟩) hown)
        have hB4 := Lib.hid (hB.out.grown hgr hsz2 (fun k hk => (World.ownsRow.lt hR k hk).1))
        clear hown hgr hR hB
        go_wp2_with fail
        go_roundw
        case rel => exact ⟨q + 1, by omega, by go_num, by rw [hst.out]; exact hR4.out, hB4.out⟩
        case measure => simp [intOf]; omega
      replace hst := Lib.hid (by have := hst.out; rwa [if_neg h92] at this)
      have g92 : (b == 92) = false := beq_eq_false_iff_ne.2 h92
      clear h92
      by_cases h8 : b = 8
      · replace hst := Lib.hid (by have := hst.out; rwa [if_pos h8] at this)
        subst h8
        clear hb0 hb1
        go_wp2_with (at_builtin; refine Lib.wpList_append_own_string _ rfl _ _ 53 9 rfl w.heap.size 5 i0 Tryz.underlying53 Tryz.underlying9 hi0 hz0 hz1 hz2 _ _ _ rfl hR ⟨#[92, 98]⟩ rfl (by show _ + 2 ≤ _; unfold maxLen; omega) (by show _ + 2 ≤ _; omega) hsz2 ?_; intro v' w4 hown hgr _)
        have hR4 := Lib.hid (RowB.snoc (t := ⟨#[92, 98]⟩) hown)
        have hB4 := Lib.hid (hB.out.grown hgr hsz2 (fun k hk => (World.ownsRow.lt hR k hk).1))
        clear hown hgr hR hB
        go_wp2_with fail
        go_roundw
        case rel => exact ⟨q + 1, by omega, by go_num, by rw [hst.out]; exact hR4.out, hB4.out⟩
        case measure => simp [intOf]; omega
      replace hst := Lib.hid (by have := hst.out; rwa [if_neg h8] at this)
      have g8 : (b == 8) = false := beq_eq_false_iff_ne.2 h8
      clear h8
      by_cases h12 : b = 12
      · replace hst := Lib.hid (by have := hst.out; rwa [if_pos h12] at this)
        subst h12
        clear hb0 hb1
        go_wp2_with (at_builtin; refine Lib.wpList_append_own_string _ rfl _ _ 53 9 rfl w.heap.size 5 i0 Tryz.underlying53 Tryz.underlying9 hi0 hz0 hz1 hz2 _ _ _ rfl hR ⟨#[92, 102]⟩ rfl (by show _ + 2 ≤ _; unfold maxLen; omega) (by show _ + 2 ≤ _; omega) hsz2 ?_; intro v' w4 hown hgr _)
        have hR4 := Lib.hid (RowB.snoc (t := ⟨#[92, 102]⟩) hown)
        have hB4 := Lib.hid (hB.out.grown hgr hsz2 (fun k hk => (World.ownsRow.lt hR k hk).1))
        clear hown hgr hR hB
        go_wp2_with fail
        go_roundw
        case rel => exact ⟨q + 1, by omega, by go_num, by rw [hst.out]; exact hR4.out, hB4.out⟩
        case measure => simp [intOf]; omega
      replace hst := Lib.hid (by have := hst.out; rwa [if_neg h12] at this)
      have g12 : (b == 12) = false := beq_eq_false_iff_ne.2 h12
      clear h12
      by_cases h10 : b = 10
      · replace hst := Lib.hid (by have := hst.out; rwa [if_pos h10] at this)
        subst h10
        clear hb0 hb1
        go_wp2_with (at_builtin; refine Lib.wpList_append_own_string _ rfl _ _ 53 9 rfl w.heap.size 5 i0 Tryz.underlying53 Tryz.underlying9 hi0 hz0 hz1 hz2 _ _ _ rfl hR ⟨#[92, 110]⟩ rfl (by show _ + 2 ≤ _; unfold maxLen; omega) (by show _ + 2 ≤ _; omega) hsz2 ?_; intro v' w4 hown hgr _)
        have hR4 := Lib.hid (RowB.snoc (t := ⟨#[92, 110]⟩) hown)
        have hB4 := Lib.hid (hB.out.grown hgr hsz2 (fun k hk => (World.ownsRow.lt hR k hk).1))
        clear hown hgr hR hB
        go_wp2_with fail
        go_roundw
        case rel => exact ⟨q + 1, by omega, by go_num, by rw [hst.out]; exact hR4.out, hB4.out⟩
        case measure => simp [intOf]; omega
      replace hst := Lib.hid (by have := hst.out; rwa [if_neg h10] at this)
      have g10 : (b == 10) = false := beq_eq_false_iff_ne.2 h10
      clear h10
      by_cases h13 : b = 13
      · replace hst := Lib.hid (by have := hst.out; rwa [if_pos h13] at this)
        subst h13
        clear hb0 hb1
        go_wp2_with (at_builtin; refine Lib.wpList_append_own_string _ rfl _ _ 53 9 rfl w.heap.size 5 i0 Tryz.underlying53 Tryz.underlying9 hi0 hz0 hz1 hz2 _ _ _ rfl hR ⟨#[92, 114]⟩ rfl (by show _ + 2 ≤ _; unfold maxLen; omega) (by show _ + 2 ≤ _; omega) hsz2 ?_; intro v' w4 hown hgr _)
        have hR4 := Lib.hid (RowB.snoc (t := ⟨#[92, 114]⟩) hown)
        have hB4 := Lib.hid (hB.out.grown hgr hsz2 (fun k hk => (World.ownsRow.lt hR k hk).1))
        clear hown hgr hR hB
        go_wp2_with fail
        go_roundw
        case rel => exact ⟨q + 1, by omega, by go_num, by rw [hst.out]; exact hR4.out, hB4.out⟩
        case measure => simp [intOf]; omega
      replace hst := Lib.hid (by have := hst.out; rwa [if_neg h13] at this)
      have g13 : (b == 13) = false := beq_eq_false_iff_ne.2 h13
      clear h13
      by_cases h9 : b = 9
      · replace hst := Lib.hid (by have := hst.out; rwa [if_pos h9] at this)
        subst h9
        clear hb0 hb1
        go_wp2_with (at_builtin; refine Lib.wpList_append_own_string _ rfl _ _ 53 9 rfl w.heap.size 5 i0 Tryz.underlying53 Tryz.underlying9 hi0 hz0 hz1 hz2 _ _ _ rfl hR ⟨#[92, 116]⟩ rfl (by show _ + 2 ≤ _; unfold maxLen; omega) (by show _ + 2 ≤ _; omega) hsz2 ?_; intro v' w4 hown hgr _)
        have hR4 := Lib.hid (RowB.snoc (t := ⟨#[92, 116]⟩) hown)
        have hB4 := Lib.hid (hB.out.grown hgr hsz2 (fun k hk => (World.ownsRow.lt hR k hk).1))
        clear hown hgr hR hB
        go_wp2_with fail
        go_roundw
        case rel => exact ⟨q + 1, by omega, by go_num, by rw [hst.out]; exact hR4.out, hB4.out⟩
        case measure => simp [intOf]; omega
      replace hst := Lib.hid (by have := hst.out; rwa [if_neg h9] at this)
      have g9 : (b == 9) = false := beq_eq_false_iff_ne.2 h9
      clear h9
      by_cases h32 : b < 32
      · replace hst := Lib.hid (by have := hst.out; rwa [if_pos h32] at this)
        obtain ⟨n, rfl⟩ := Int.eq_ofNat_of_zero_le hb0
        obtain ⟨d, hd⟩ : ∃ d, n / 16 = d := ⟨_, rfl⟩
        obtain ⟨e, he⟩ : ∃ e, n % 16 = e := ⟨_, rfl⟩
        have e1 : Int.tdiv (n : Int) 16 = (d : Int) := by rw [← hd]; exact (Int.ofNat_tdiv n 16).symm
        have e2 : Int.tmod (n : Int) 16 = (e : Int) := by rw [← he]; exact (Int.ofNat_tmod n 16).symm
        have hd1 : d < 16 := by omega
        have he1 : e < 16 := by omega
        rw [Int.toNat_natCast, hd, he] at hst
        have hdd := Lib.hid (fun W => refDigitJ_any d hd1 W)
        have hde := Lib.hid (fun W => refDigitJ_any e he1 W)
        obtain ⟨b, hbn⟩ : ∃ b : Int, (n : Int) = b := ⟨_, rfl⟩
        rw [hbn] at e1 e2 h32 hb0 hb1 hc
        simp only [hbn] at g34 g92 g8 g12 g10 g13 g9
        have hd2 : (d : Int) < 16 := by omega
        have he2 : (e : Int) < 16 := by omega
        clear hd he hbn hd1 he1
        obtain ⟨D, hD⟩ : ∃ D, jhex d = D := ⟨_, rfl⟩
        obtain ⟨E, hE⟩ : ∃ E, jhex e = E := ⟨_, rfl⟩
        rw [hD] at hdd hst
        rw [hE] at hde hst
        clear hD hE
        have ha1 := jstr_add ⟨#[92, 117, 48, 48]⟩ ⟨#[D]⟩ (by show 4 + 1 ≤ _; omega)
        obtain ⟨S1, hS1⟩ : ∃ S1, (⟨#[92, 117, 48, 48]⟩ : ByteArray) ++ ⟨#[D]⟩ = S1 := ⟨_, rfl⟩
        have hs1 : S1.size = 5 := by rw [← hS1]; rfl
        have hu := uni_add D E
        rw [hS1] at ha1 hu
        have ha2 := jstr_add S1 ⟨#[E]⟩ (by rw [hs1]; show 5 + 1 ≤ _; omega)
        rw [hu] at ha2
        clear hS1 hs1 hu
        go_wp2_with fail
        refine (hdd.out _).mono ?_
        rintro en w1 ⟨rfl, hb1'⟩
        have hR1 := RowB.below hR hb1'
        have hB1 := Lib.hid (hB.out.trans (hb1'.mono hsz2))
        clear hR hB hb1' hdd
        go_wp2_with fail
        refine (hde.out _).mono ?_
        rintro en w2 ⟨rfl, hb2'⟩
        have hR2 := RowB.below hR1 hb2'
        have hB2 := Lib.hid (hB1.out.trans (hb2'.mono hB1.out.size))
        clear hR1 hB1 hb2' hde
        have hsz3 := hB2.out.size
        go_wp2_with (at_builtin; refine Lib.wpList_append_own_string _ rfl _ _ 53 9 rfl w.heap.size 5 i0 Tryz.underlying53 Tryz.underlying9 hi0 hz0 hz1 hz2 _ _ _ rfl hR2 ⟨#[92, 117, 48, 48, D, E]⟩ rfl (by show _ + 6 ≤ _; unfold maxLen; omega) (by show _ + 6 ≤ _; omega) hsz3 ?_; intro v' w4 hown hgr _)
        have hR4 := Lib.hid (RowB.snoc (t := ⟨#[92, 117, 48, 48, D, E]⟩) hown)
        have hB4 := Lib.hid (hB2.out.grown hgr hsz3 (fun k hk => (World.ownsRow.lt hR2 k hk).1))
        clear hown hgr hR2 hB2
        go_wp2_with fail
        go_roundw
        case rel => exact ⟨q + 1, by omega, by go_num, by rw [hst.out]; exact hR4.out, hB4.out⟩
        case measure => simp [intOf]; omega
      · replace hst := Lib.hid (by have := hst.out; rwa [if_neg h32] at this)
        have hub : b = ((UInt8.ofNat b.toNat).toNat : Int) := by rw [UInt8.toNat_ofNat']; omega
        obtain ⟨U, hU⟩ : ∃ U, UInt8.ofNat b.toNat = U := ⟨_, rfl⟩
        rw [hU] at hst hub
        replace hub := Lib.hid hub
        clear hU
        go_wp2_with (at_builtin; refine wpList_append_own _ rfl _ _ 53 rfl w.heap.size 5 i0 _ 1 1 Tryz.underlying53 hi0 hz0 hz1 hz2 rfl (by decide) _ _ _ rfl (hR.alloc _) ⟨wr.heap.size, 0, none⟩ 1 1 [.int .u8 b] rfl rfl (cell_one _ _ _) (fun x hx => by simp at hx; subst hx; rfl) (by unfold maxLen; omega) (by omega) (by simp; omega) ?_; intro v' w4 hown hgr _)
        have hR4 := Lib.hid (RowB.snoc1 hub.out hown)
        have hB4 := Lib.hid ((hB.out.alloc hsz2 _).grown hgr (by simp; omega) (fun k hk => (World.ownsRow.lt hR k hk).1))
        clear hown hgr hR hB
        go_wp2_with fail
        go_roundw
        case rel => exact ⟨q + 1, by omega, by go_num, by rw [hst.out]; exact hR4.out, hB4.out⟩
        case measure => simp [intOf]; omega
    · have hqe : q = s.size := by omega
      have hall : qHeld s.data.toList q ++ [34] = jquote s.data.toList := by
        rw [hqe, ← hsl]; unfold qHeld jquote; rw [List.take_length]; rfl
      obtain ⟨L, hL⟩ : ∃ L, qHeld s.data.toList q = L := ⟨_, rfl⟩
      rw [hL] at hall hR hln
      clear hL hsl
      have hsz2 := hB.size
      replace hall := Lib.hid hall
      replace hB := Lib.hid hB
      clear hqe
      go_wp2_with (at_builtin; refine wpList_append_own _ rfl _ _ 53 rfl w.heap.size 5 i0 _ 1 1 Tryz.underlying53 hi0 hz0 hz1 hz2 rfl (by decide) _ _ _ rfl (hR.alloc _) ⟨wr.heap.size, 0, none⟩ 1 1 [.int .u8 34] rfl rfl (cell_one _ _ _) (fun x hx => by simp at hx; subst hx; rfl) (by unfold maxLen; omega) (by omega) (by simp; omega) ?_; intro v' w4 hown hgr _; have hR4 := RowB.snoc1 (u := 34) rfl hown; have hB4 := Lib.hid ((hB.out.alloc hsz2 _).grown hgr (by simp; omega) (fun k hk => (World.ownsRow.lt hR k hk).1)); have hcv := row_convert hR4 (by simp); rw [hall.out] at hcv; clear hown hgr hR hB hR4)
      go_ret
      exact ⟨rfl, hB4.out⟩
end Go.Proofs.YtbegdpdldajolaaGreatDoor
