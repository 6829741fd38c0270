/-
  The walks of (dec.num).sign and form, dec.cmp, Own and Of.
-/
import Derived.Test.YtdjfoabinjfnfaaGreatDoorDecG
import Derived.Lib.ItoaLen
import Derived.Lib.LaidTab
import Derived.WalkSmall
import Derived.Lib.AppendIntMem
import Derived.Test.YtdjfoabinjfnfaaGreatDoorJsUb
import Derived.Test.YtdjfoabinjfnfaaGreatDoorShelf
import Derived.Shelf.Unicode.ValidAny
import Derived.Test.YtdjfoabinjfnfaaGreatDoorM00
import Derived.Shelf.Strings.SlTrimAscii
import Derived.Lib.MapLaws
import Derived.Lib.TrimAscii
import Derived.Shelf.Strings.CaseAny
import Derived.Test.YtdjfoabinjfnfaaGreatDoorJsQ
import Derived.Lib.SlBytesRow
import Derived.Lib.AppendStr
namespace Go.Proofs.YtdjfoabinjfnfaaGreatDoor
open Go.RowKit
def Env (w : World) : Prop := Lib.TabIs Tryz.prog w "internal/strconv.uint64pow10" .u64 Lib.pow10Tab
theorem Env.below {w w' : World} (h : Env w) (hb : Below w.heap.size w w') : Env w' := by
  have hg : Tryz.prog.globalNamed "internal/strconv.uint64pow10" = some 2 := by kernel_rfl
  have hlt : 2 < w.heap.size := by
    rcases Nat.lt_or_ge 2 w.heap.size with h1 | h1
    · exact h1
    · unfold Env Lib.TabIs World.var? at h
      rw [hg] at h
      simp only [Option.bind_some, Array.getElem?_eq_none h1] at h
      cases h
  exact var?_below hb hg hlt h
theorem Env.at {w w' : World} {B : Nat} (h : Env w) (hB : w.heap.size ≤ B) (hb : Below B w w') : Env w' := h.below (hb.mono hB)
def signW (x : Wth) : Int := if x.digits = [] then 0 else if x.minus then -1 else 1
def cmp3 (a b : Int) : Int := if a < b then -1 else if b < a then 1 else 0
def formL (x : Wth) : List UInt8 :=
  if x.digits = [] then [48]
  else (if x.minus then 45 :: x.digits else x.digits) ++ (if x.exp = 0 then [] else 101 :: Lib.itoa x.exp)
theorem bel_grow (w : World) (k : Nat) (os : Array Obj) : Below w.heap.size w (Sort.grow (w.drewN k) os) := by
  refine ⟨rfl, rfl, rfl, ?_, fun i hi => ?_⟩
  · show w.heap.size ≤ (w.heap ++ os).size
    rw [Array.size_append]; omega
  · show (w.heap ++ os)[i]? = _
    rw [Array.getElem?_append_left hi]
def StrEnd (w : World) (l : List UInt8) (en : Ending) (w' : World) : Prop :=
  ∃ g : ByteArray, g.data.toList = l ∧ en = .returned (.string g) ∧ Below w.heap.size w w'
theorem itoa_call (n : Int) (h0 : -9223372036854775808 ≤ n) (h1 : n ≤ 9223372036854775807) (W : World) (hE : Env W) :
    Calls Tryz.prog 160 #[.int .i64 n] W fun e w' => ∃ t : ByteArray, e = .returned (.string t) ∧ t.data.toList = Lib.itoa n ∧ Below W.heap.size W w' :=
  (Tryz.strconv_Itoa n h0 h1 W hE).mono fun e w' hh => ⟨_, hh.1, rfl, by obtain ⟨_, k, os, rfl⟩ := hh; exact bel_grow W k os⟩
theorem add_ok (a b : ByteArray) (h : a.size + b.size ≤ 9223372036854775807) : ∀ W, (Op.stringOp .add a b).run Tryz.prog W = .ok (.string (a ++ b)) W := fun W => run_string_add_sum W _ _ h
theorem cat_one (c : UInt8) (h : ByteArray) : ((⟨#[c]⟩ : ByteArray) ++ h).data.toList = c :: h.data.toList := by rw [ByteArray.data_append, Array.toList_append]; rfl
theorem size_one (c : UInt8) (h : ByteArray) : ((⟨#[c]⟩ : ByteArray) ++ h).size = h.size + 1 := by
  rw [← bytes_len, cat_one, ← bytes_len]; rfl
set_option maxHeartbeats 1000000 in
theorem decForm_any (m : Bool) (d : ByteArray) (e : Int) (w : World) (hE : Env w) (hd : d.size ≤ 1099511627776) (h0 : -1099511627776 ≤ e) (h1 : e ≤ 1099511627776) :
    Calls Tryz.prog 137 #[numV m d e] w (StrEnd w (formL ⟨m, d.data.toList, e⟩)) := by
  unfold numV
  have hB0 : Below w.heap.size w (w.alloc (.cells #[.bool m, .string d, .int .i64 e] 157)) := (Below.refl _ _).alloc (Nat.le_refl _) _
  replace hB0 := Lib.hid hB0
  rcases hl : d.data.toList with _ | ⟨c, t⟩
  · have hem := isEmpty_t d hl
    clear hl
    go_enter Tryz.func137, Tryz.ntmps137
    go_wp2
    go_ret
    exact ⟨⟨#[48]⟩, rfl, rfl, hB0.out⟩
  · have hem := isEmpty_f d c t hl
    by_cases he : e = 0
    · subst he
      cases m
      · have hf : formL ⟨false, c :: t, 0⟩ = c :: t := by simp [formL]
        rw [hf]
        replace hl := Lib.hid hl
        clear hf
        go_enter Tryz.func137, Tryz.ntmps137
        go_wp2
        go_ret
        exact ⟨d, hl.out, rfl, hB0.out⟩
      · have hf : formL ⟨true, c :: t, 0⟩ = 45 :: c :: t := by simp [formL]
        rw [hf]
        have hadd := add_ok ⟨#[45]⟩ d (by show 1 + d.size ≤ _; omega)
        replace hl := Lib.hid hl
        clear hf
        go_enter Tryz.func137, Tryz.ntmps137
        go_wp2
        go_ret
        exact ⟨⟨#[45]⟩ ++ d, by rw [cat_one, hl.out], rfl, hB0.out⟩
    · have hne : ((e : Int) != 0) = true := by simpa using he
      have hit := itoa_call e (by omega) (by omega) _ (hE.below hB0.out)
      replace hit := Lib.hid hit
      cases m
      · have hf : formL ⟨false, c :: t, e⟩ = (c :: t) ++ 101 :: Lib.itoa e := by simp [formL, he]
        rw [hf]
        replace hl := Lib.hid hl
        clear hf he
        go_enter Tryz.func137, Tryz.ntmps137
        go_wp2_with fail
        refine hit.out.mono ?_
        rintro en w1 ⟨g, rfl, hg, hB1⟩
        have hgl : g.size ≤ 21 := by rw [← bytes_len, hg]; exact Lib.itoa_length_le e (by omega) (by omega)
        have hadd := add_ok ⟨#[101]⟩ g (by show 1 + g.size ≤ _; omega)
        have hadd2 := add_ok d (⟨#[101]⟩ ++ g) (by rw [size_one]; omega)
        replace hB1 := Lib.hid (hB0.out.trans (hB1.mono hB0.out.size))
        replace hg := Lib.hid hg
        clear hit hne
        go_wp2
        go_ret
        exact ⟨d ++ (⟨#[101]⟩ ++ g), by rw [ByteArray.data_append, Array.toList_append, cat_one, hl.out, hg.out]; rfl, rfl, hB1.out⟩
      · have hf : formL ⟨true, c :: t, e⟩ = (45 :: c :: t) ++ 101 :: Lib.itoa e := by simp [formL, he]
        rw [hf]
        have hadd0 := add_ok ⟨#[45]⟩ d (by show 1 + d.size ≤ _; omega)
        replace hl := Lib.hid hl
        clear hf he
        go_enter Tryz.func137, Tryz.ntmps137
        go_wp2_with fail
        refine hit.out.mono ?_
        rintro en w1 ⟨g, rfl, hg, hB1⟩
        have hgl : g.size ≤ 21 := by rw [← bytes_len, hg]; exact Lib.itoa_length_le e (by omega) (by omega)
        have hadd := add_ok ⟨#[101]⟩ g (by show 1 + g.size ≤ _; omega)
        have hadd2 := add_ok (⟨#[45]⟩ ++ d) (⟨#[101]⟩ ++ g) (by rw [size_one, size_one]; omega)
        replace hB1 := Lib.hid (hB0.out.trans (hB1.mono hB0.out.size))
        replace hg := Lib.hid hg
        clear hit hne hadd0
        go_wp2
        go_ret
        exact ⟨(⟨#[45]⟩ ++ d) ++ (⟨#[101]⟩ ++ g), by rw [ByteArray.data_append, Array.toList_append, cat_one, cat_one, hl.out, hg.out]; rfl, rfl, hB1.out⟩
def ownL (l : List UInt8) : List UInt8 × Int := if (decGetL l).2 = 0 then (formL (decGetL l).1, 0) else ([], (decGetL l).2)
theorem decGetL_bd (l : List UInt8) : (decGetL l).1.digits.length ≤ 200 ∧ -9999 ≤ (decGetL l).1.exp ∧ (decGetL l).1.exp ≤ 9999 ∧ ((decGetL l).2 = 0 ∨ (decGetL l).2 = 4 ∨ (decGetL l).2 = 40) := by
  unfold decGetL
  split
  · simp
  · simp only
    split
    · simp
    · split
      · simp
      · rename_i h1 h2
        refine ⟨?_, ?_, ?_, Or.inl rfl⟩
        · show ((trimR _).dropWhile isZ).length ≤ 200
          omega
        · show -9999 ≤ _ + _
          omega
        · show _ + _ ≤ (9999 : Int)
          omega
def OwnEnd (w : World) (r : List UInt8 × Int) (en : Ending) (w' : World) : Prop :=
  ∃ g : ByteArray, g.data.toList = r.1 ∧ en = .returned (.tuple #[.string g, .int .i64 r.2]) ∧ Below w.heap.size w w'
theorem own_end {w w' : World} {r : List UInt8 × Int} {g : ByteArray} {l : List UInt8} {e : Int} (h : r = (l, e)) (hg : g.data.toList = l) (hB : Below w.heap.size w w') : OwnEnd w r (.returned (.tuple #[.string g, .int .i64 e])) w' := by
  subst h; exact ⟨g, hg, rfl, hB⟩
set_option maxHeartbeats 1000000 in
theorem decOwn_any (s : ByteArray) (w : World) (hE : Env w) (hs : s.size ≤ 1099511627776) :
    Calls Tryz.prog 127 #[.string s] w (OwnEnd w (ownL s.data.toList)) := by
  have hbd := decGetL_bd s.data.toList
  have hget := Lib.hid (decGet_any s w hs)
  go_enter Tryz.func127, Tryz.ntmps127
  go_wp2_with fail
  refine hget.out.mono ?_
  rintro en w1 ⟨⟨d, hd, rfl⟩, hB⟩
  clear hget
  obtain ⟨r, hgen⟩ : ∃ r, decGetL s.data.toList = r := ⟨_, rfl⟩
  rw [hgen] at hbd hd ⊢
  have hown0 : ownL s.data.toList = (if r.2 = 0 then (formL r.1, 0) else ([], r.2)) := by unfold ownL; rw [hgen]
  clear hgen
  obtain ⟨⟨m, dd, e⟩, err⟩ := r
  simp only at hbd hd ⊢
  have hE1 := hE.below hB
  replace hB := Lib.hid hB
  have hdl : d.size ≤ 200 := by rw [← bytes_len, hd]; exact hbd.1
  obtain ⟨_, b1, b2, b3⟩ := hbd
  by_cases h0 : err = 0
  · subst h0
    have hown : ownL s.data.toList = (formL ⟨m, dd, e⟩, 0) := by rw [hown0, if_pos rfl]
    replace hown := Lib.hid hown
    clear hown0 b3
    have hform := decForm_any m d e (w1.alloc (.cells #[.bool m, .string d, .int .i64 e] 157)) (hE1.below ((Below.refl _ _).alloc (Nat.le_refl _) _)) (by omega) (by omega) (by omega)
    rw [hd] at hform
    replace hform := Lib.hid hform
    replace hd := Lib.hid hd
    simp only [numV]
    go_wp2_with fail
    refine hform.out.mono ?_
    rintro en w2 ⟨g, hg, rfl, hB2⟩
    replace hB2 := Lib.hid ((hB.out.trans ((Below.refl _ _).alloc hB.out.size _)).trans (hB2.mono (by have := hB.out.size; simp; omega)))
    replace hg := Lib.hid hg
    go_wp2
    go_ret2
    exact own_end hown.out hg.out hB2.out
  · have hne : ((err : Int) != 0) = true := by simpa using h0
    have hown : ownL s.data.toList = ([], err) := by rw [hown0, if_neg h0]
    replace hown := Lib.hid hown
    clear hown0 h0 b3
    simp only [numV]
    go_wp2
    go_ret2
    exact own_end (g := ⟨#[]⟩) hown.out rfl (hB.out.alloc hB.out.size _)
def EnvU (w : World) : Prop := Env w ∧ Lib.Utf8Tabs 0 1 w
theorem EnvU.below {w w' : World} (h : EnvU w) (hb : Below w.heap.size w w') : EnvU w' := by
  obtain ⟨h1, h2, h3⟩ := h
  exact ⟨h1.below hb, fun c hc => (hb.cell (World.block_lt_of_cell? w _ (h2 c hc))).trans (h2 c hc),
    fun i hi => ⟨(hb.cell (World.block_lt_of_cell? w _ (h3 i hi).1)).trans (h3 i hi).1, (hb.cell (World.block_lt_of_cell? w _ (h3 i hi).2)).trans (h3 i hi).2⟩⟩
theorem EnvU.at {w w' : World} {B : Nat} (h : EnvU w) (hB : w.heap.size ≤ B) (hb : Below B w w') : EnvU w' := h.below (hb.mono hB)
def ValEnd (b : Bool) (w : World) (e : Ending) (w' : World) : Prop := e = .returned (.bool b) ∧ Below w.heap.size w w'
theorem utfValid_any (s : ByteArray) (w : World) (hE : EnvU w) (hs : s.size ≤ 1000000000000) :
    Calls Tryz.prog 128 #[.string s] w (ValEnd (Lib.validD s.data.toList) w) := by
  have hcall := Lib.hid (Tryz.utf8_ValidString s w (by omega) hE.2)
  go_enter Tryz.func128, Tryz.ntmps128
  go_wp2_with fail
  refine hcall.out.mono ?_
  rintro e w1 ⟨rfl, hb⟩
  replace hb := Lib.hid hb
  clear hcall
  go_wp2_with fail
  go_ret
  exact ⟨rfl, hb.out⟩
theorem form1_any (s : ByteArray) (w : World) (hE : EnvU w) (hs : s.size ≤ 1000000000000) :
    Calls Tryz.prog 130 #[.string s] w (ValEnd (!Lib.validD s.data.toList) w) := by
  have hcall := Lib.hid (utfValid_any s w hE hs)
  obtain ⟨R, hR⟩ : ∃ R, Lib.validD s.data.toList = R := ⟨_, rfl⟩
  rw [hR] at hcall ⊢
  clear hR
  go_enter Tryz.func130, Tryz.ntmps130
  go_wp2_with fail
  refine hcall.out.mono ?_
  rintro e w1 ⟨rfl, hb⟩
  replace hb := Lib.hid hb
  clear hcall
  go_wp2_with fail
  go_ret
  exact ⟨rfl, hb.out⟩
def PredS (g : Nat) (p : ByteArray → Bool) (w : World) (l : List ByteArray) : Prop :=
  ∀ (W : World) (x : ByteArray), x ∈ l → Below w.heap.size w W → Calls Tryz.prog g #[.string x] W (ValEnd (p x) W)
theorem any_take_s {α : Type} {l : List α} {q : Nat} {x : α} (h : l[q]? = some x) (F : α → Bool) : (l.take (q + 1)).any F = ((l.take q).any F || F x) := by
  rw [List.take_add_one, h]; simp
theorem any_hit {α : Type} {l : List α} {q : Nat} {x : α} (h : l[q]? = some x) (F : α → Bool) (hx : F x = true) : l.any F = true :=
  List.any_eq_true.2 ⟨x, List.mem_of_getElem? h, hx⟩
set_option maxHeartbeats 1000000 in
theorem idxFuncS_any (g : Nat) (p : ByteArray → Bool) (eg : ∀ args w, (callFunc g args).run Tryz.prog w = .ok (.enter g args) w) (X : Nat → Prop) (v : Value) (l : List ByteArray) (w : World) (hl : l.length ≤ 1000000000000) (hv : StrL w X v l) (hp : PredS g p w l) :
    Calls Tryz.prog 154 #[v, .func (.func g) #[] #[]] w (IdxEnd (l.any p) w) := by
  obtain ⟨A, c, rfl⟩ := hv.len
  have hat := Lib.hid (fun (wr : World) (hB : Below w.heap.size w wr) (i : Nat) (hi : i < l.length) => hv.at hB hi)
  clear hv
  obtain ⟨R, hR⟩ : ∃ R, l.any p = R := ⟨_, rfl⟩
  rw [hR]
  replace hp := Lib.hid hp
  replace hR := Lib.hid hR
  go_enter Tryz.func154, Tryz.ntmps154
  go_wp2_with fail
  go_loopw [8] (fun i wr => ∃ q : Nat, q ≤ l.length ∧ i = .int .i64 q ∧ (l.take q).any p = false ∧ Below w.heap.size w wr) (fun i _ => l.length - (intOf i).toNat)
  case atStart => exact ⟨0, Nat.zero_le _, rfl, rfl, Below.refl _ _⟩
  case round =>
    obtain ⟨q, hq, rfl, hno, hB⟩ := hrel
    by_cases hlt : q < l.length
    · obtain ⟨g', o, rfl, y1⟩ := hat.out wr hB q hlt
      obtain ⟨S, hS⟩ : ∃ S, l[q] = S := ⟨_, rfl⟩
      have hSq : l[q]? = some S := by rw [List.getElem?_eq_getElem hlt, hS]
      rw [hS] at y1
      have hcall := hp.out wr S (List.mem_of_getElem? hSq) hB
      have htk := any_take_s hSq p
      have hyes := any_hit hSq p
      rw [hno, Bool.false_or] at htk
      rw [hR.out] at hyes
      obtain ⟨y, hy⟩ : ∃ y, p S = y := ⟨_, rfl⟩
      rw [hy] at hcall htk hyes
      have hbs := hB.size
      have hq0 : (0 : Int) ≤ (q : Int) := by omega
      have hq1 : (q : Int) < (l.length : Int) := by omega
      clear hSq hno hat hp hy hS
      replace hcall := Lib.hid hcall
      replace htk := Lib.hid htk
      replace hyes := Lib.hid hyes
      replace hB := Lib.hid hB
      go_wp2_with fail
      refine hcall.out.mono ?_
      rintro e w1 ⟨rfl, hB1⟩
      have hB2 := hB.out.trans (hB1.mono hbs)
      clear y1 hcall hB hB1
      replace hB2 := Lib.hid hB2
      cases y
      · clear hyes
        go_wp2_with fail
        go_roundw
        case rel => exact ⟨q + 1, by omega, by go_num, htk.out, hB2.out⟩
        case measure => simp [intOf]; omega
      · have hR1 : R = true := hyes.out rfl
        subst hR1
        clear hyes htk
        go_wp2_with fail
        go_ret
        exact ⟨q, rfl, decide_eq_true (by omega), hB2.out⟩
    · have hfull : l.take q = l := List.take_of_length_le (by omega)
      rw [hfull, hR.out] at hno
      subst hno
      clear hat hp hfull hR
      replace hB := Lib.hid hB
      go_wp2_with fail
      go_ret
      exact ⟨-1, rfl, rfl, hB.out⟩
set_option maxHeartbeats 1000000 in
theorem containsS_any (g : Nat) (p : ByteArray → Bool) (eg : ∀ args w, (callFunc g args).run Tryz.prog w = .ok (.enter g args) w) (X : Nat → Prop) (v : Value) (l : List ByteArray) (w : World) (hl : l.length ≤ 1000000000000) (hv : StrL w X v l) (hp : PredS g p w l) :
    Calls Tryz.prog 129 #[v, .func (.func g) #[] #[]] w (ValEnd (l.any p) w) := by
  have hi := Lib.hid (idxFuncS_any g p eg X v l w hl hv hp)
  obtain ⟨A, c, rfl⟩ := hv.len
  obtain ⟨R, hR⟩ : ∃ R, l.any p = R := ⟨_, rfl⟩
  rw [hR] at hi ⊢
  clear hv hp eg hR
  go_enter Tryz.func129, Tryz.ntmps129
  go_wp2_with fail
  refine hi.out.mono ?_
  rintro e w1 ⟨i, rfl, hd, hB⟩
  subst hd
  clear hi
  replace hB := Lib.hid hB
  go_wp2_with fail
  go_ret
  exact ⟨rfl, hB.out⟩
theorem entersF1 : ∀ args w, (callFunc 130 args).run Tryz.prog w = .ok (.enter 130 args) w := fun _ _ => by kernel_rfl
theorem entersF2 : ∀ args w, (callFunc 131 args).run Tryz.prog w = .ok (.enter 131 args) w := fun _ _ => by kernel_rfl
theorem entersTw : ∀ args w, (callFunc 79 args).run Tryz.prog w = .ok (.enter 79 args) w := fun _ _ => by kernel_rfl
def RJ (w : World) (b : Nat) (s : List UInt8) (it : Nat) : Prop := Cel w b 112 #[.string (ofL s), .int .i64 (it : Int)]
def Pan (e : Int) : Ending := .panicked [{ v := .iface 33 (.int .i64 e), recovered := false }]
theorem jrFail_any (c : Int) (w : World) : Calls Tryz.prog 70 #[.int .i64 c] w fun e w' => e = Pan c ∧ w' = w := by
  go_enter Tryz.func70, Tryz.ntmps70
  go_wp2
  exact ⟨rfl, rfl, rfl⟩
theorem RJ.below {w w' : World} {b : Nat} {s : List UInt8} {it : Nat} (h : RJ w b s it) (hb : Below w.heap.size w w') : RJ w' b s it := Cel.below h hb (Cel.lt h)
theorem RJ.lt {w : World} {b : Nat} {s : List UInt8} {it : Nat} (h : RJ w b s it) : b < w.heap.size := Cel.lt h
theorem RJ.set {w : World} {b : Nat} {s s' : List UInt8} {it : Nat} (h : RJ w b s it) : RJ (w.setCell ⟨b, 0, none⟩ (.string (ofL s'))) b s' it := by
  have := Cel.set h 0 (.string (ofL s'))
  exact this
theorem But.set0 {w : World} {b : Nat} (u : Value) : But w.heap.size b w (w.setCell ⟨b, 0, none⟩ u) := (But.refl _ b w).set 0 u
def blk4 : ByteArray := ⟨#[32, 9, 10, 13]⟩
theorem trim_blk (s : List UInt8) : Lib.trimLeftS s blk4.data.toList = jblk s := by
  unfold Lib.trimLeftS jblk
  congr 1
  funext c
  have key : ∀ n : Fin 256, ([32, 9, 10, 13] : List UInt8).contains (UInt8.ofNat n.val) = jblank (UInt8.ofNat n.val) := by decide +kernel
  have := key ⟨c.toNat, c.toNat_lt⟩
  rw [UInt8.ofNat_toNat] at this
  exact this
theorem jrBlanks_any (b : Nat) (s : List UInt8) (it : Nat) (w : World) (h : RJ w b s it) :
    Calls Tryz.prog 68 #[.pointer (some ⟨b, 0, none⟩)] w fun e w' => e = .returned (.tuple #[]) ∧ RJ w' b (jblk s) it ∧ But w.heap.size b w w' := by
  have hT := Lib.hid (Tryz.strings_TrimLeft_set (ofL s) blk4 w (by decide) (by
    intro j c hj
    have : c ∈ ([32, 9, 10, 13] : List UInt8) := List.mem_of_getElem? hj
    simp at this
    rcases this with rfl | rfl | rfl | rfl <;> decide))
  have e1 : (ofL s).data.toList = s := toList_ofL s
  rw [e1, trim_blk] at hT
  have p0 := Cel.cell h 0
  have lt := h.lt
  obtain ⟨S, hS⟩ : ∃ S, ofL s = S := ⟨_, rfl⟩
  obtain ⟨R, hR⟩ : ∃ R, jblk s = R := ⟨_, rfl⟩
  rw [hR] at hT ⊢
  rw [hS] at hT p0
  replace h := Lib.hid h
  clear hS e1 hR
  simp only [List.getElem?_toArray, List.getElem?_cons_zero] at p0
  unfold blk4 at hT
  go_enter Tryz.func68, Tryz.ntmps68
  go_wp2_with fail
  refine hT.out.mono ?_
  rintro e w1 ⟨rfl, hb⟩
  have h1 := Lib.hid (h.out.below hb)
  have f0 := Cel.froz h1.out 0
  have q0 := Cel.cell h1.out 0
  simp only [List.getElem?_toArray, List.getElem?_cons_zero] at q0
  clear hT p0
  replace hb := Lib.hid hb
  go_wp2_with fail
  go_end0
  exact ⟨rfl, h1.out.set, (But.of hb.out).trans (But.set0 _ |>.mono hb.out.size)⟩
def jtk (p s : List UInt8) : List UInt8 := if p.isPrefixOf s = true then s.drop p.length else s
theorem jrTake_any (b : Nat) (s : List UInt8) (it : Nat) (p : ByteArray) (w : World) (h : RJ w b s it) :
    Calls Tryz.prog 113 #[.pointer (some ⟨b, 0, none⟩), .string p] w fun e w' => e = .returned (.bool (p.data.toList.isPrefixOf s)) ∧ RJ w' b (jtk p.data.toList s) it ∧ But w.heap.size b w w' := by
  have hT := Lib.hid (Tryz.strings_CutPrefix (ofL s) p w)
  have e1 : (ofL s).data.toList = s := toList_ofL s
  rw [e1] at hT
  have e2 : Lib.hasPrefix s p.data.toList = p.data.toList.isPrefixOf s := rfl
  have e3 : Lib.trimPrefix s p.data.toList = jtk p.data.toList s := rfl
  rw [e2, e3] at hT
  have p0 := Cel.cell h 0
  have f0 := Cel.froz h 0
  obtain ⟨S, hS⟩ : ∃ S, ofL s = S := ⟨_, rfl⟩
  rw [hS] at hT p0
  unfold jtk at hT ⊢
  obtain ⟨t, ht⟩ : ∃ t, p.data.toList.isPrefixOf s = t := ⟨_, rfl⟩
  rw [ht] at hT ⊢
  replace h := Lib.hid h
  clear hS e1 e2 e3 ht
  simp only [List.getElem?_toArray, List.getElem?_cons_zero] at p0
  cases t
  · rw [if_neg (by decide)] at hT ⊢
    go_enter Tryz.func113, Tryz.ntmps113
    go_wp2_with fail
    refine hT.out.mono ?_
    rintro e w1 ⟨rfl, rfl⟩
    clear hT
    go_wp2_with fail
    go_ret
    exact ⟨rfl, h.out, But.refl _ _ _⟩
  · rw [if_pos rfl] at hT ⊢
    obtain ⟨R, hR⟩ : ∃ R, s.drop p.data.toList.length = R := ⟨_, rfl⟩
    rw [hR] at hT ⊢
    clear hR
    go_enter Tryz.func113, Tryz.ntmps113
    go_wp2_with fail
    refine hT.out.mono ?_
    rintro e w1 ⟨rfl, rfl⟩
    clear hT
    go_wp2_with fail
    go_ret
    exact ⟨rfl, h.out.set, But.set0 _⟩
theorem jrMust_any (b : Nat) (s : List UInt8) (it : Nat) (p : ByteArray) (w : World) (h : RJ w b s it) :
    Calls Tryz.prog 119 #[.pointer (some ⟨b, 0, none⟩), .string p] w fun e w' => But w.heap.size b w w' ∧ if p.data.toList.isPrefixOf s = true then e = .returned (.tuple #[]) ∧ RJ w' b (s.drop p.data.toList.length) it else e = Pan 4 := by
  have hT := jrTake_any b s it p w h
  unfold jtk at hT
  obtain ⟨t, ht⟩ : ∃ t, p.data.toList.isPrefixOf s = t := ⟨_, rfl⟩
  rw [ht] at hT ⊢
  replace hT := Lib.hid hT
  clear h ht
  cases t
  · simp only [Bool.false_eq_true, if_false] at hT ⊢
    go_enter Tryz.func119, Tryz.ntmps119
    go_wp2_with fail
    refine hT.out.mono ?_
    rintro e w1 ⟨rfl, hR, hB⟩
    replace hR := Lib.hid hR
    replace hB := Lib.hid hB
    clear hT
    go_wp2_with fail
    refine (jrFail_any 4 _).mono ?_
    rintro e w2 ⟨rfl, rfl⟩
    exact ⟨rfl, hB.out, rfl⟩
  · simp only [if_true] at hT ⊢
    go_enter Tryz.func119, Tryz.ntmps119
    go_wp2_with fail
    refine hT.out.mono ?_
    rintro e w1 ⟨rfl, hR, hB⟩
    replace hR := Lib.hid hR
    replace hB := Lib.hid hB
    clear hT
    go_wp2_with fail
    go_end0
    exact ⟨hB.out, rfl, hR.out⟩
end Go.Proofs.YtdjfoabinjfnfaaGreatDoor
namespace Go.Proofs.YtdjfoabinjfnfaaGreatDoor
def jhl (c : UInt8) : Option Nat := if 48 ≤ c.toNat ∧ c.toNat ≤ 57 then some (c.toNat - 48) else if 97 ≤ c.toNat ∧ c.toNat ≤ 102 then some (c.toNat - 87) else none
def hexL : Nat → List UInt8 → Option Nat
  | n, [] => some n
  | n, c :: r => match jhl c with
    | none => none
    | some k => hexL (n * 16 + k) r
def hexV : Nat → List UInt8 → Option Nat
  | n, [] => some n
  | n, c :: r => match jhv c with
    | none => none
    | some k => hexV (n * 16 + k) r
def lowOf (c : UInt8) : UInt8 := Lib.lowerB c
theorem jhl_lower : ∀ n : Fin 128, jhl (Lib.lowerB (UInt8.ofNat n.val)) = jhv (UInt8.ofNat n.val) := by decide +kernel
def rowHex (x : Lib.CaseRow) : Bool :=
  decide (x.2.1 < 128) || (decide (128 ≤ x.1) && (decide (x.delta 1 > 1114111) || decide (128 ≤ (x.1 : Int) + x.delta 1) || (decide (x.1 = x.2.1) && decide (103 ≤ (x.1 : Int) + x.delta 1))))
set_option maxRecDepth 1000000 in
theorem rowsHex : Lib.caseT.all rowHex = true := by decide +kernel
theorem toLower_high {r : Int} (h : 128 ≤ r) : 103 ≤ Lib.toLowerU r := by
  unfold Lib.toLowerU
  rw [if_neg (by omega)]
  unfold Lib.toR Lib.lookupGo
  cases hi : Lib.lookupIdx Lib.caseA r (Lib.caseA.size + 1) 0 Lib.caseA.size with
  | none => show 103 ≤ r; omega
  | some i =>
    obtain ⟨hil, hlo, hhi⟩ := Lib.lookupIdx_some Lib.caseA r _ _ _ i hi
    have hm : Lib.caseA.getD i (0, 0, 0, 0, 0) ∈ Lib.caseT := by
      unfold Lib.caseA at hil ⊢
      simp only [List.size_toArray] at hil
      simp [Array.getD, hil]
    have hx := List.all_eq_true.1 rowsHex _ hm
    simp only [Option.map_some]
    generalize Lib.caseA.getD i (0, 0, 0, 0, 0) = x at hx hlo hhi
    unfold rowHex at hx
    simp only [Bool.or_eq_true, Bool.and_eq_true, decide_eq_true_eq] at hx
    unfold Lib.convertR
    rcases hx with hx | ⟨hx, (hd | hd) | ⟨he, hd⟩⟩
    · omega
    · rw [if_pos hd]; omega
    · split <;> omega
    · split <;> omega
theorem encode_head {r : Int} (h : 103 ≤ r) : ∃ b t, Lib.encodeRune r = b :: t ∧ jhl b = none := by
  have hh : ∀ x : Int, 103 ≤ x → x ≤ 255 → jhl x.toNat.toUInt8 = none := by
    intro x h1 h2
    have hb : ∀ n : Fin 256, 103 ≤ n.val → jhl (UInt8.ofNat n.val) = none := by decide +kernel
    exact hb ⟨x.toNat, by omega⟩ (by simp only; omega)
  unfold Lib.encodeRune Lib.encodeRuneZ
  repeat' split
  · exact ⟨_, _, rfl, hh _ h (by omega)⟩
  · exact ⟨_, _, rfl, hh _ (by omega) (by omega)⟩
  · exact ⟨_, _, rfl, hh _ (by omega) (by omega)⟩
  · exact ⟨_, _, rfl, hh _ (by omega) (by omega)⟩
  · exact ⟨_, _, rfl, hh _ (by omega) (by omega)⟩
theorem decode_high (c : UInt8) (t : List UInt8) (h : 128 ≤ c.toNat) : 128 ≤ (Lib.decodeL (c :: t)).1 := by
  rw [Lib.decodeL_N]
  rcases Lib.decodeN_shape (c :: t).length ((c :: t).getD 0 0).toNat ((c :: t).getD 1 0).toNat ((c :: t).getD 2 0).toNat ((c :: t).getD 3 0).toNat with ⟨c1, e⟩ | ⟨c1, c2, c3, cv, e⟩ | ⟨c1, c2, c3, c4, cv, cs, e⟩ | ⟨c1, c2, c3, c4, c5, cv, cw, e⟩ | e
  · have : ((c :: t).getD 0 0) = c := rfl
    rw [this] at c1
    omega
  all_goals (rw [e]; dsimp only; omega)
theorem lower_hex : ∀ (k : Nat) (l : List UInt8) (n : Nat), l.length ≤ k → hexL n (Lib.toLowerD l) = hexV n l
  | _, [], _, _ => rfl
  | 0, _ :: _, _, h => by simp at h
  | k + 1, c :: t, n, h => by
    simp only [List.length_cons] at h
    unfold Lib.toLowerD
    rw [Lib.mapD_step _ _ (by simp)]
    by_cases hc : c.toNat < 128
    · rw [Lib.decodeL_ascii c t hc]
      dsimp only
      rw [if_pos (Lib.toLowerU_range c.toNat (by omega)).1, Lib.lower_byte ⟨c.toNat, hc⟩, List.drop_succ_cons, List.drop_zero]
      have h1 := jhl_lower ⟨c.toNat, hc⟩
      simp only [UInt8.ofNat_toNat] at h1 ⊢
      rw [List.singleton_append]
      unfold hexL hexV
      rw [h1]
      split
      · rfl
      · rename_i m _
        exact lower_hex k t _ (by omega)
    · have hd := decode_high c t (by omega)
      have hl := toLower_high (r := ((Lib.decodeL (c :: t)).1 : Int)) (by omega)
      obtain ⟨b, u, he, hb⟩ := encode_head hl
      rw [if_pos (by omega), he, List.cons_append]
      have hv : jhv c = none := by
        have hb : ∀ n : Fin 256, 128 ≤ n.val → jhv (UInt8.ofNat n.val) = none := by decide +kernel
        have := hb ⟨c.toNat, c.toNat_lt⟩ (by simp only; omega)
        simpa using this
      unfold hexL hexV
      rw [hb, hv]
theorem hexV_unit (a b c d : UInt8) (r : List UInt8) : junit (a :: b :: c :: d :: r) = (hexV 0 [a, b, c, d]).map fun n => (n, r) := by
  cases h1 : jhv a <;> cases h2 : jhv b <;> cases h3 : jhv c <;> cases h4 : jhv d <;> simp [junit, hexV, h1, h2, h3, h4]
theorem junit_short {s : List UInt8} (h : s.length < 4) : junit s = none := by
  unfold junit
  split
  · simp at h; omega
  · rfl
theorem junit_lower {s : List UInt8} (h : 4 ≤ s.length) : junit s = (hexL 0 (Lib.toLowerD (s.take 4))).map fun n => (n, s.drop 4) := by
  obtain ⟨a, b, c, d, r, rfl⟩ : ∃ a b c d r, s = a :: b :: c :: d :: r := by
    match s, h with
    | a :: b :: c :: d :: r, _ => exact ⟨a, b, c, d, r, rfl⟩
  rw [hexV_unit, List.take_succ_cons, List.take_succ_cons, List.take_succ_cons, List.take_succ_cons, List.take_zero, lower_hex 4 _ _ (by simp)]
  rfl
theorem encode_put {p : Int} (h0 : 0 ≤ p) (h1 : p ≤ 1114111) (h2 : ¬ (55296 ≤ p ∧ p ≤ 57343)) : Utf8.encode p = ofL (rput p) := by
  have hv : Utf8.valid p = true := by rw [validRune_eq]; exact decide_eq_true (by omega)
  obtain ⟨n, rfl⟩ : ∃ n : Nat, p = n := ⟨p.toNat, by omega⟩
  rw [rput_pos h0, Int.toNat_natCast]
  unfold Utf8.encode
  simp only [hv, if_true, Int.toNat_natCast]
  by_cases a1 : n < 128
  · rw [if_pos a1, rputN_1 a1]; rfl
  · rw [if_neg a1]
    by_cases a2 : n < 2048
    · rw [if_pos a2, rputN_2 (by omega) a2]; rfl
    · rw [if_neg a2]
      by_cases a3 : n < 65536
      · rw [if_pos a3, rputN_3 (by omega) a3 (by omega)]; rfl
      · rw [if_neg a3, rputN_4 (by omega) (by omega)]; rfl
theorem rput_bad {p : Int} (h : p < 0 ∨ 1114111 < p ∨ (55296 ≤ p ∧ p ≤ 57343)) : rput p = [] := by
  by_cases h0 : p < 0
  · exact rput_neg h0
  · rw [rput_pos (by omega), rputN_0 (by omega)]; rfl
end Go.Proofs.YtdjfoabinjfnfaaGreatDoor
namespace Go.Proofs.YtdjfoabinjfnfaaGreatDoor
open Go.RowKit
theorem utfPut_any (p : Int) (h0 : 0 ≤ p) (h1 : p < 2000000) (w : World) : Calls Tryz.prog 172 #[.int .i64 p] w fun e w' => e = .returned (.string (ofL (rput p))) ∧ w' = w := by
  have n0 : ¬ p < 0 := by omega
  by_cases hb : 1114111 < p
  · rw [rput_bad (.inr (.inl hb))]
    go_enter Tryz.func172, Tryz.ntmps172
    go_wp2
    go_ret
    exact ⟨rfl, rfl⟩
  by_cases hs : 55296 ≤ p
  · by_cases hs2 : p < 57344
    · rw [rput_bad (.inr (.inr ⟨hs, by omega⟩))]
      go_enter Tryz.func172, Tryz.ntmps172
      go_wp2
      go_ret
      exact ⟨rfl, rfl⟩
    · rw [← encode_put h0 (by omega) (by omega)]
      have hw : wrap32 p = p := by unfold wrap32; omega
      go_enter Tryz.func172, Tryz.ntmps172
      go_wp2
      go_ret
      exact ⟨rfl, rfl⟩
  · rw [← encode_put h0 (by omega) (by omega)]
    have hw : wrap32 p = p := by unfold wrap32; omega
    go_enter Tryz.func172, Tryz.ntmps172
    go_wp2
    go_ret
    exact ⟨rfl, rfl⟩
def pairV (a b : Nat) : Value := match jpair a b with
  | none => .tuple #[.int .i64 0, .bool false]
  | some p => .tuple #[.int .i64 (p : Int), .bool true]
theorem utfPair_any (a b : Nat) (ha : a < 65536) (hb : b < 65536) (w : World) : Calls Tryz.prog 173 #[.int .i64 a, .int .i64 b] w fun e w' => e = .returned (pairV a b) ∧ w' = w := by
  unfold pairV jpair
  obtain ⟨x, hx⟩ : ∃ x : Int, (a : Int) = x := ⟨_, rfl⟩
  obtain ⟨y, hy⟩ : ∃ y : Int, (b : Int) = y := ⟨_, rfl⟩
  by_cases c1 : a < 55296
  · rw [if_neg (by omega)]
    rw [hx, hy]
    have d1 : x < 55296 := by omega
    clear hx hy c1 ha hb
    go_enter Tryz.func173, Tryz.ntmps173
    go_wp2
    go_ret2
    exact ⟨rfl, rfl⟩
  by_cases c2 : 56320 ≤ a
  · rw [if_neg (by omega)]
    rw [hx, hy]
    have d1 : ¬ x < 55296 := by omega
    have d2 : 56320 ≤ x := by omega
    clear hx hy c1 c2 ha hb
    go_enter Tryz.func173, Tryz.ntmps173
    go_wp2
    go_ret2
    exact ⟨rfl, rfl⟩
  by_cases c3 : b < 56320
  · rw [if_neg (by omega)]
    rw [hx, hy]
    have d1 : ¬ x < 55296 := by omega
    have d2 : ¬ 56320 ≤ x := by omega
    have d3 : y < 56320 := by omega
    clear hx hy c1 c2 c3 ha hb
    go_enter Tryz.func173, Tryz.ntmps173
    go_wp2
    go_ret2
    exact ⟨rfl, rfl⟩
  by_cases c4 : 57344 ≤ b
  · rw [if_neg (by omega)]
    rw [hx, hy]
    have d1 : ¬ x < 55296 := by omega
    have d2 : ¬ 56320 ≤ x := by omega
    have d3 : ¬ y < 56320 := by omega
    have d4 : 57344 ≤ y := by omega
    clear hx hy c1 c2 c3 c4 ha hb
    go_enter Tryz.func173, Tryz.ntmps173
    go_wp2
    go_ret2
    exact ⟨rfl, rfl⟩
  rw [if_pos (by omega)]
  dsimp only
  obtain ⟨z, hz⟩ : ∃ z : Int, ((65536 + (a - 55296) * 1024 + (b - 56320) : Nat) : Int) = z := ⟨_, rfl⟩
  rw [hz, hx, hy]
  have d1 : ¬ x < 55296 := by omega
  have d2 : ¬ 56320 ≤ x := by omega
  have d3 : ¬ y < 56320 := by omega
  have d4 : ¬ 57344 ≤ y := by omega
  have d5 : z = 65536 + (x - 55296) * 1024 + (y - 56320) := by omega
  have d6 : x < 65536 := by omega
  have d7 : y < 65536 := by omega
  clear hx hy hz c1 c2 c3 c4 ha hb
  replace d5 := Lib.hid d5
  go_enter Tryz.func173, Tryz.ntmps173
  go_wp2
  go_ret2
  refine ⟨?_, rfl⟩
  rw [d5.out]
  go_num
theorem infoB : (Tryz.prog.info? 5).map (fun i => (i.zero, i.size, i.bytes)) = some (some (.int .u8 0), 1, 1) := by kernel_rfl
def RowB (w : World) (B : Nat) (v : Value) (l : List UInt8) : Prop := w.ownsRow B 5 1 v l.length (l.map fun b => Value.int .u8 b.toNat)
theorem RowB.snoc {w : World} {B : Nat} {v : Value} {l : List UInt8} {t : ByteArray} (h : w.ownsRow B 5 1 v (l.length + t.size) ((l.map fun b => Value.int .u8 b.toNat) ++ Lib.strCells t)) : RowB w B v (l ++ t.data.toList) := by
  unfold RowB
  rw [List.length_append, List.map_append]
  exact h
theorem RowB.one {w : World} (u : UInt8) : RowB (w.alloc (.cells #[.int .u8 u.toNat] 5)) w.heap.size (.slice (some ⟨w.heap.size, 0, none⟩) 1 1) [u] :=
  ⟨rfl, Or.inr ⟨w.heap.size, 1, #[.int .u8 u.toNat], rfl, Nat.le_refl _, Cel.fresh w 5 #[.int .u8 u.toNat], Nat.le_refl _, by unfold maxLen; omega, rfl, rfl⟩⟩
def qHeld (s : List UInt8) (q : Nat) : List UInt8 := 34 :: (s.take q).flatMap jesc
theorem qHeld_step {s : List UInt8} {q : Nat} {c : UInt8} (h : s[q]? = some c) : qHeld s (q + 1) = qHeld s q ++ jesc c := by
  unfold qHeld
  rw [List.take_add_one, h]
  simp
theorem jesc_len (c : UInt8) : (jesc c).length ≤ 6 := by
  unfold jesc
  repeat' split
  all_goals simp
theorem qHeld_len (s : List UInt8) (q : Nat) : (qHeld s q).length ≤ 6 * s.length + 1 := by
  have : ∀ l : List UInt8, (l.flatMap jesc).length ≤ 6 * l.length := fun l => by
    induction l with
    | nil => simp
    | cons x r ih => have := jesc_len x; rw [List.flatMap_cons, List.length_append, List.length_cons]; omega
  have h1 := this (s.take q)
  have h2 : (s.take q).length ≤ s.length := by rw [List.length_take]; omega
  unfold qHeld
  simp only [List.length_cons]
  omega
def jescI (b : Int) : List UInt8 :=
  if b = 34 then [92, 34] else if b = 92 then [92, 92] else if b = 8 then [92, 98] else if b = 12 then [92, 102] else if b = 10 then [92, 110] else if b = 13 then [92, 114] else if b = 9 then [92, 116] else if b < 32 then [92, 117, 48, 48, jhex (b.toNat / 16), jhex (b.toNat % 16)] else [UInt8.ofNat b.toNat]
theorem jesc_num (c : UInt8) (b : Int) (h : (c.toNat : Int) = b) : jesc c = jescI b := by
  have e : ∀ (k : UInt8) (m : Int), (k.toNat : Int) = m → ((c = k) ↔ (b = m)) := fun k m hk => by
    rw [← h, ← hk]
    constructor
    · rintro rfl; rfl
    · intro hh; exact UInt8.toNat_inj.1 (by omega)
  have hn : b.toNat = c.toNat := by omega
  have hl : (c.toNat < 32) = (b < 32) := propext (by omega)
  have hc : UInt8.ofNat c.toNat = c := by simp
  unfold jesc jescI
  simp only [e 34 34 rfl, e 92 92 rfl, e 8 8 rfl, e 12 12 rfl, e 10 10 rfl, e 13 13 rfl, e 9 9 rfl, hn, hl, hc]
theorem RowB.snoc1 {w : World} {B : Nat} {v : Value} {l : List UInt8} {u : UInt8} {b : Int} (hb : b = (u.toNat : Int)) (h : w.ownsRow B 5 1 v (l.length + 1) ((l.map fun b => Value.int .u8 b.toNat) ++ [.int .u8 b])) : RowB w B v (l ++ [u]) := by
  subst hb
  unfold RowB
  rw [List.length_append, List.map_append]
  exact h
theorem RowB.below {w w' : World} {B : Nat} {v : Value} {l : List UInt8} (h : RowB w B v l) (hb : Below w.heap.size w w') : RowB w' B v l :=
  World.ownsRow.kept (row := none) h ⟨hb.os, hb.tape, hb.output, hb.size, fun k hk _ => hb.block k hk⟩ (by rcases v.ownBlock with _ | g <;> simp)
theorem cell_one (w : World) (x : Value) (t : TypeId) : ∀ (j : Nat) (u : Value), [x][j]? = some u → (w.alloc (.cells #[x] t)).cell? ((⟨w.heap.size, 0, none⟩ : Addr).add j) = some u := by
  intro j u h
  match j, h with
  | 0, h =>
    simp at h; subst h
    exact (World.cell?_alloc_at (w := w) #[x] t w.heap.size 0 rfl).trans rfl
end Go.Proofs.YtdjfoabinjfnfaaGreatDoor
