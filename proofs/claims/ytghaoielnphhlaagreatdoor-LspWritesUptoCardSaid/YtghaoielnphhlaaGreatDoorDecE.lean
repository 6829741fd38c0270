/-
  The walks of (dec.num).sign and form, dec.cmp, Own and Of.
-/
import Derived.Test.YtghaoielnphhlaaGreatDoorDecG
import Derived.Lib.ItoaLen
import Derived.Lib.LaidTab
import Derived.WalkSmall
import Derived.Lib.AppendIntMem
namespace Go.Proofs.YtghaoielnphhlaaGreatDoor
open Go.RowKit

/-- What the calls ask of memory: the table of powers of ten. -/
def Env (w : World) : Prop := Lib.TabIs Tryz.prog w "internal/strconv.uint64pow10" .u64 Lib.pow10Tab
theorem Env.below {w w' : World} (h : Env w) (hb : Below w.heap.size w w') : Env w' := by
  have hg : Tryz.prog.globalNamed "internal/strconv.uint64pow10" = some 2 := by kernel_rfl
  have hlt : 2 < w.heap.size := by
    rcases Nat.lt_or_ge 2 w.heap.size with h1 | h1
    · exact h1
    · unfold Env Lib.TabIs World.var? at h
      rw [hg] at h
      simp only [Option.bind_some, Array.getElem?_eq_none h1] at h
      cases h
  exact var?_below hb hg hlt h
theorem Env.at {w w' : World} {B : Nat} (h : Env w) (hB : w.heap.size ≤ B) (hb : Below B w w') : Env w' := h.below (hb.mono hB)

def signW (x : Wth) : Int := if x.digits = [] then 0 else if x.minus then -1 else 1


def cmp3 (a b : Int) : Int := if a < b then -1 else if b < a then 1 else 0


/-- A worth's own form. -/
def formL (x : Wth) : List UInt8 :=
  if x.digits = [] then [48]
  else (if x.minus then 45 :: x.digits else x.digits) ++ (if x.exp = 0 then [] else 101 :: Lib.itoa x.exp)

theorem bel_grow (w : World) (k : Nat) (os : Array Obj) : Below w.heap.size w (Sort.grow (w.drewN k) os) := by
  refine ⟨rfl, rfl, rfl, ?_, fun i hi => ?_⟩
  · show w.heap.size ≤ (w.heap ++ os).size
    rw [Array.size_append]; omega
  · show (w.heap ++ os)[i]? = _
    rw [Array.getElem?_append_left hi]

/-- A string of just these bytes is handed back, and nothing that was there has turned. -/
def StrEnd (w : World) (l : List UInt8) (en : Ending) (w' : World) : Prop :=
  ∃ g : ByteArray, g.data.toList = l ∧ en = .returned (.string g) ∧ Below w.heap.size w w'

theorem itoa_call (n : Int) (h0 : -9223372036854775808 ≤ n) (h1 : n ≤ 9223372036854775807) (W : World) (hE : Env W) :
    Calls Tryz.prog 131 #[.int .i64 n] W fun e w' => ∃ t : ByteArray, e = .returned (.string t) ∧ t.data.toList = Lib.itoa n ∧ Below W.heap.size W w' :=
  (Tryz.strconv_Itoa n h0 h1 W hE).mono fun e w' hh => ⟨_, hh.1, rfl, by obtain ⟨_, k, os, rfl⟩ := hh; exact bel_grow W k os⟩

theorem add_ok (a b : ByteArray) (h : a.size + b.size ≤ 9223372036854775807) : ∀ W, (Op.stringOp .add a b).run Tryz.prog W = .ok (.string (a ++ b)) W := fun W => run_string_add_sum W _ _ h
theorem cat_one (c : UInt8) (h : ByteArray) : ((⟨#[c]⟩ : ByteArray) ++ h).data.toList = c :: h.data.toList := by rw [ByteArray.data_append, Array.toList_append]; rfl
theorem size_one (c : UInt8) (h : ByteArray) : ((⟨#[c]⟩ : ByteArray) ++ h).size = h.size + 1 := by
  rw [← bytes_len, cat_one, ← bytes_len]; rfl

set_option maxHeartbeats 1000000 in
theorem decForm_any (m : Bool) (d : ByteArray) (e : Int) (w : World) (hE : Env w) (hd : d.size ≤ 1099511627776) (h0 : -1099511627776 ≤ e) (h1 : e ≤ 1099511627776) :
    Calls Tryz.prog 111 #[numV m d e] w (StrEnd w (formL ⟨m, d.data.toList, e⟩)) := by
  unfold numV
  have hB0 : Below w.heap.size w (w.alloc (.cells #[.bool m, .string d, .int .i64 e] 141)) := (Below.refl _ _).alloc (Nat.le_refl _) _
  replace hB0 := Lib.hid hB0
  rcases hl : d.data.toList with _ | ⟨c, t⟩
  · have hem := isEmpty_t d hl
    clear hl
    go_enter Tryz.func111, Tryz.ntmps111
    go_wp2
    go_ret
    exact ⟨⟨#[48]⟩, rfl, rfl, hB0.out⟩
  · have hem := isEmpty_f d c t hl
    by_cases he : e = 0
    · subst he
      cases m
      · have hf : formL ⟨false, c :: t, 0⟩ = c :: t := by simp [formL]
        rw [hf]
        replace hl := Lib.hid hl
        clear hf
        go_enter Tryz.func111, Tryz.ntmps111
        go_wp2
        go_ret
        exact ⟨d, hl.out, rfl, hB0.out⟩
      · have hf : formL ⟨true, c :: t, 0⟩ = 45 :: c :: t := by simp [formL]
        rw [hf]
        have hadd := add_ok ⟨#[45]⟩ d (by show 1 + d.size ≤ _; omega)
        replace hl := Lib.hid hl
        clear hf
        go_enter Tryz.func111, Tryz.ntmps111
        go_wp2
        go_ret
        exact ⟨⟨#[45]⟩ ++ d, by rw [cat_one, hl.out], rfl, hB0.out⟩
    · have hne : ((e : Int) != 0) = true := by simpa using he
      have hit := itoa_call e (by omega) (by omega) _ (hE.below hB0.out)
      replace hit := Lib.hid hit
      cases m
      · have hf : formL ⟨false, c :: t, e⟩ = (c :: t) ++ 101 :: Lib.itoa e := by simp [formL, he]
        rw [hf]
        replace hl := Lib.hid hl
        clear hf he
        go_enter Tryz.func111, Tryz.ntmps111
        go_wp2_with fail
        refine hit.out.mono ?_
        rintro en w1 ⟨g, rfl, hg, hB1⟩
        have hgl : g.size ≤ 21 := by rw [← bytes_len, hg]; exact Lib.itoa_length_le e (by omega) (by omega)
        have hadd := add_ok ⟨#[101]⟩ g (by show 1 + g.size ≤ _; omega)
        have hadd2 := add_ok d (⟨#[101]⟩ ++ g) (by rw [size_one]; omega)
        replace hB1 := Lib.hid (hB0.out.trans (hB1.mono hB0.out.size))
        replace hg := Lib.hid hg
        clear hit hne
        go_wp2
        go_ret
        exact ⟨d ++ (⟨#[101]⟩ ++ g), by rw [ByteArray.data_append, Array.toList_append, cat_one, hl.out, hg.out]; rfl, rfl, hB1.out⟩
      · have hf : formL ⟨true, c :: t, e⟩ = (45 :: c :: t) ++ 101 :: Lib.itoa e := by simp [formL, he]
        rw [hf]
        have hadd0 := add_ok ⟨#[45]⟩ d (by show 1 + d.size ≤ _; omega)
        replace hl := Lib.hid hl
        clear hf he
        go_enter Tryz.func111, Tryz.ntmps111
        go_wp2_with fail
        refine hit.out.mono ?_
        rintro en w1 ⟨g, rfl, hg, hB1⟩
        have hgl : g.size ≤ 21 := by rw [← bytes_len, hg]; exact Lib.itoa_length_le e (by omega) (by omega)
        have hadd := add_ok ⟨#[101]⟩ g (by show 1 + g.size ≤ _; omega)
        have hadd2 := add_ok (⟨#[45]⟩ ++ d) (⟨#[101]⟩ ++ g) (by rw [size_one, size_one]; omega)
        replace hB1 := Lib.hid (hB0.out.trans (hB1.mono hB0.out.size))
        replace hg := Lib.hid hg
        clear hit hne hadd0
        go_wp2
        go_ret
        exact ⟨(⟨#[45]⟩ ++ d) ++ (⟨#[101]⟩ ++ g), by rw [ByteArray.data_append, Array.toList_append, cat_one, cat_one, hl.out, hg.out]; rfl, rfl, hB1.out⟩

/-- dec.Own: the own form, and the error. -/
def ownL (l : List UInt8) : List UInt8 × Int := if (decGetL l).2 = 0 then (formL (decGetL l).1, 0) else ([], (decGetL l).2)

theorem decGetL_bd (l : List UInt8) : (decGetL l).1.digits.length ≤ 200 ∧ -9999 ≤ (decGetL l).1.exp ∧ (decGetL l).1.exp ≤ 9999 ∧ ((decGetL l).2 = 0 ∨ (decGetL l).2 = 4 ∨ (decGetL l).2 = 40) := by
  unfold decGetL
  split
  · simp
  · simp only
    split
    · simp
    · split
      · simp
      · rename_i h1 h2
        refine ⟨?_, ?_, ?_, Or.inl rfl⟩
        · show ((trimR _).dropWhile isZ).length ≤ 200
          omega
        · show -9999 ≤ _ + _
          omega
        · show _ + _ ≤ (9999 : Int)
          omega

def OwnEnd (w : World) (r : List UInt8 × Int) (en : Ending) (w' : World) : Prop :=
  ∃ g : ByteArray, g.data.toList = r.1 ∧ en = .returned (.tuple #[.string g, .int .i64 r.2]) ∧ Below w.heap.size w w'

theorem own_end {w w' : World} {r : List UInt8 × Int} {g : ByteArray} {l : List UInt8} {e : Int} (h : r = (l, e)) (hg : g.data.toList = l) (hB : Below w.heap.size w w') : OwnEnd w r (.returned (.tuple #[.string g, .int .i64 e])) w' := by
  subst h; exact ⟨g, hg, rfl, hB⟩

end Go.Proofs.YtghaoielnphhlaaGreatDoor
