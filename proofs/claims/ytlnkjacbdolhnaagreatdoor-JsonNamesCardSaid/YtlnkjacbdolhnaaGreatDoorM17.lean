/-
  The walks of utf.Valid, of slices.ContainsFunc over strings, and of json.form.
-/
import Derived.Test.YtlnkjacbdolhnaaGreatDoorJsUb
import Derived.Test.YtlnkjacbdolhnaaGreatDoorM02
import Derived.Test.YtlnkjacbdolhnaaGreatDoorShelf
import Derived.Shelf.Unicode.ValidAny
import Derived.Test.YtlnkjacbdolhnaaGreatDoorM06
import Derived.Test.YtlnkjacbdolhnaaGreatDoorM07
import Derived.Shelf.Strings.SlTrimAscii
import Derived.Test.YtlnkjacbdolhnaaGreatDoorM05
import Derived.Lib.MapLaws
import Derived.Lib.TrimAscii
import Derived.Shelf.Strings.CaseAny
namespace Go.Proofs.YtlnkjacbdolhnaaGreatDoor
open Go.RowKit

/-- What the calls ask of memory: the table of powers of ten, the two tables of utf8. -/
def EnvU (w : World) : Prop := Env w ∧ Lib.Utf8Tabs 0 1 w
theorem EnvU.below {w w' : World} (h : EnvU w) (hb : Below w.heap.size w w') : EnvU w' := by
  obtain ⟨h1, h2, h3⟩ := h
  exact ⟨h1.below hb, fun c hc => (hb.cell (World.block_lt_of_cell? w _ (h2 c hc))).trans (h2 c hc),
    fun i hi => ⟨(hb.cell (World.block_lt_of_cell? w _ (h3 i hi).1)).trans (h3 i hi).1, (hb.cell (World.block_lt_of_cell? w _ (h3 i hi).2)).trans (h3 i hi).2⟩⟩
theorem EnvU.at {w w' : World} {B : Nat} (h : EnvU w) (hB : w.heap.size ≤ B) (hb : Below B w w') : EnvU w' := h.below (hb.mono hB)

def ValEnd (b : Bool) (w : World) (e : Ending) (w' : World) : Prop := e = .returned (.bool b) ∧ Below w.heap.size w w'
theorem utfValid_any (s : ByteArray) (w : World) (hE : EnvU w) (hs : s.size ≤ 1000000000000) :
    Calls Tryz.prog 99 #[.string s] w (ValEnd (Lib.validD s.data.toList) w) := by
  have hcall := Lib.hid (Tryz.utf8_ValidString s w (by omega) hE.2)
  go_enter Tryz.func99, Tryz.ntmps99
  go_wp2_with fail
  refine hcall.out.mono ?_
  rintro e w1 ⟨rfl, hb⟩
  replace hb := Lib.hid hb
  clear hcall
  go_wp2_with fail
  go_ret
  exact ⟨rfl, hb.out⟩
theorem form1_any (s : ByteArray) (w : World) (hE : EnvU w) (hs : s.size ≤ 1000000000000) :
    Calls Tryz.prog 101 #[.string s] w (ValEnd (!Lib.validD s.data.toList) w) := by
  have hcall := Lib.hid (utfValid_any s w hE hs)
  obtain ⟨R, hR⟩ : ∃ R, Lib.validD s.data.toList = R := ⟨_, rfl⟩
  rw [hR] at hcall ⊢
  clear hR
  go_enter Tryz.func101, Tryz.ntmps101
  go_wp2_with fail
  refine hcall.out.mono ?_
  rintro e w1 ⟨rfl, hb⟩
  replace hb := Lib.hid hb
  clear hcall
  go_wp2_with fail
  go_ret
  exact ⟨rfl, hb.out⟩

/-- A function value that answers p of each of these strings. -/
def PredS (g : Nat) (p : ByteArray → Bool) (w : World) (l : List ByteArray) : Prop :=
  ∀ (W : World) (x : ByteArray), x ∈ l → Below w.heap.size w W → Calls Tryz.prog g #[.string x] W (ValEnd (p x) W)
theorem any_take_s {α : Type} {l : List α} {q : Nat} {x : α} (h : l[q]? = some x) (F : α → Bool) : (l.take (q + 1)).any F = ((l.take q).any F || F x) := by
  rw [List.take_add_one, h]; simp
theorem any_hit {α : Type} {l : List α} {q : Nat} {x : α} (h : l[q]? = some x) (F : α → Bool) (hx : F x = true) : l.any F = true :=
  List.any_eq_true.2 ⟨x, List.mem_of_getElem? h, hx⟩
set_option maxHeartbeats 1000000 in
theorem idxFuncS_any (g : Nat) (p : ByteArray → Bool) (eg : ∀ args w, (callFunc g args).run Tryz.prog w = .ok (.enter g args) w) (X : Nat → Prop) (v : Value) (l : List ByteArray) (w : World) (hl : l.length ≤ 1000000000000) (hv : StrL w X v l) (hp : PredS g p w l) :
    Calls Tryz.prog 140 #[v, .func (.func g) #[] #[]] w (IdxEnd (l.any p) w) := by
  obtain ⟨A, c, rfl⟩ := hv.len
  have hat := Lib.hid (fun (wr : World) (hB : Below w.heap.size w wr) (i : Nat) (hi : i < l.length) => hv.at hB hi)
  clear hv
  obtain ⟨R, hR⟩ : ∃ R, l.any p = R := ⟨_, rfl⟩
  rw [hR]
  replace hp := Lib.hid hp
  replace hR := Lib.hid hR
  go_enter Tryz.func140, Tryz.ntmps140
  go_wp2_with fail
  go_loopw [8] (fun i wr => ∃ q : Nat, q ≤ l.length ∧ i = .int .i64 q ∧ (l.take q).any p = false ∧ Below w.heap.size w wr) (fun i _ => l.length - (intOf i).toNat)
  case atStart => exact ⟨0, Nat.zero_le _, rfl, rfl, Below.refl _ _⟩
  case round =>
    obtain ⟨q, hq, rfl, hno, hB⟩ := hrel
    by_cases hlt : q < l.length
    · obtain ⟨g', o, rfl, y1⟩ := hat.out wr hB q hlt
      obtain ⟨S, hS⟩ : ∃ S, l[q] = S := ⟨_, rfl⟩
      have hSq : l[q]? = some S := by rw [List.getElem?_eq_getElem hlt, hS]
      rw [hS] at y1
      have hcall := hp.out wr S (List.mem_of_getElem? hSq) hB
      have htk := any_take_s hSq p
      have hyes := any_hit hSq p
      rw [hno, Bool.false_or] at htk
      rw [hR.out] at hyes
      obtain ⟨y, hy⟩ : ∃ y, p S = y := ⟨_, rfl⟩
      rw [hy] at hcall htk hyes
      have hbs := hB.size
      have hq0 : (0 : Int) ≤ (q : Int) := by omega
      have hq1 : (q : Int) < (l.length : Int) := by omega
      clear hSq hno hat hp hy hS
      replace hcall := Lib.hid hcall
      replace htk := Lib.hid htk
      replace hyes := Lib.hid hyes
      replace hB := Lib.hid hB
      go_wp2_with fail
      refine hcall.out.mono ?_
      rintro e w1 ⟨rfl, hB1⟩
      have hB2 := hB.out.trans (hB1.mono hbs)
      clear y1 hcall hB hB1
      replace hB2 := Lib.hid hB2
      cases y
      · clear hyes
        go_wp2_with fail
        go_roundw
        case rel => exact ⟨q + 1, by omega, by go_num, htk.out, hB2.out⟩
        case measure => simp [intOf]; omega
      · have hR1 : R = true := hyes.out rfl
        subst hR1
        clear hyes htk
        go_wp2_with fail
        go_ret
        exact ⟨q, rfl, decide_eq_true (by omega), hB2.out⟩
    · have hfull : l.take q = l := List.take_of_length_le (by omega)
      rw [hfull, hR.out] at hno
      subst hno
      clear hat hp hfull hR
      replace hB := Lib.hid hB
      go_wp2_with fail
      go_ret
      exact ⟨-1, rfl, rfl, hB.out⟩
set_option maxHeartbeats 1000000 in
theorem containsS_any (g : Nat) (p : ByteArray → Bool) (eg : ∀ args w, (callFunc g args).run Tryz.prog w = .ok (.enter g args) w) (X : Nat → Prop) (v : Value) (l : List ByteArray) (w : World) (hl : l.length ≤ 1000000000000) (hv : StrL w X v l) (hp : PredS g p w l) :
    Calls Tryz.prog 100 #[v, .func (.func g) #[] #[]] w (ValEnd (l.any p) w) := by
  have hi := Lib.hid (idxFuncS_any g p eg X v l w hl hv hp)
  obtain ⟨A, c, rfl⟩ := hv.len
  obtain ⟨R, hR⟩ : ∃ R, l.any p = R := ⟨_, rfl⟩
  rw [hR] at hi ⊢
  clear hv hp eg hR
  go_enter Tryz.func100, Tryz.ntmps100
  go_wp2_with fail
  refine hi.out.mono ?_
  rintro e w1 ⟨i, rfl, hd, hB⟩
  subst hd
  clear hi
  replace hB := Lib.hid hB
  go_wp2_with fail
  go_ret
  exact ⟨rfl, hB.out⟩
theorem entersF1 : ∀ args w, (callFunc 101 args).run Tryz.prog w = .ok (.enter 101 args) w := fun _ _ => by kernel_rfl
theorem entersF2 : ∀ args w, (callFunc 102 args).run Tryz.prog w = .ok (.enter 102 args) w := fun _ _ => by kernel_rfl
theorem entersTw : ∀ args w, (callFunc 45 args).run Tryz.prog w = .ok (.enter 45 args) w := fun _ _ => by kernel_rfl
end Go.Proofs.YtlnkjacbdolhnaaGreatDoor


/-
  The walks of the JSON reader: what it throws, blanks, what is taken.
-/
namespace Go.Proofs.YtlnkjacbdolhnaaGreatDoor
open Go.RowKit

/-- The reader in block b: what is left, how many values there were. -/
def RJ (w : World) (b : Nat) (s : List UInt8) (it : Nat) : Prop := Cel w b 88 #[.string (ofL s), .int .i64 (it : Int)]
/-- What is thrown. -/
def Pan (e : Int) : Ending := .panicked [{ v := .iface 33 (.int .i64 e), recovered := false }]
theorem jrFail_any (c : Int) (w : World) : Calls Tryz.prog 36 #[.int .i64 c] w fun e w' => e = Pan c ∧ w' = w := by
  go_enter Tryz.func36, Tryz.ntmps36
  go_wp2
  exact ⟨rfl, rfl, rfl⟩
theorem RJ.below {w w' : World} {b : Nat} {s : List UInt8} {it : Nat} (h : RJ w b s it) (hb : Below w.heap.size w w') : RJ w' b s it := Cel.below h hb (Cel.lt h)
theorem RJ.lt {w : World} {b : Nat} {s : List UInt8} {it : Nat} (h : RJ w b s it) : b < w.heap.size := Cel.lt h
theorem RJ.set {w : World} {b : Nat} {s s' : List UInt8} {it : Nat} (h : RJ w b s it) : RJ (w.setCell ⟨b, 0, none⟩ (.string (ofL s'))) b s' it := by
  have := Cel.set h 0 (.string (ofL s'))
  exact this
theorem But.set0 {w : World} {b : Nat} (u : Value) : But w.heap.size b w (w.setCell ⟨b, 0, none⟩ u) := (But.refl _ b w).set 0 u
def blk4 : ByteArray := ⟨#[32, 9, 10, 13]⟩
theorem trim_blk (s : List UInt8) : Lib.trimLeftS s blk4.data.toList = jblk s := by
  unfold Lib.trimLeftS jblk
  congr 1
  funext c
  have key : ∀ n : Fin 256, ([32, 9, 10, 13] : List UInt8).contains (UInt8.ofNat n.val) = jblank (UInt8.ofNat n.val) := by decide +kernel
  have := key ⟨c.toNat, c.toNat_lt⟩
  rw [UInt8.ofNat_toNat] at this
  exact this
theorem jrBlanks_any (b : Nat) (s : List UInt8) (it : Nat) (w : World) (h : RJ w b s it) :
    Calls Tryz.prog 34 #[.pointer (some ⟨b, 0, none⟩)] w fun e w' => e = .returned (.tuple #[]) ∧ RJ w' b (jblk s) it ∧ But w.heap.size b w w' := by
  have hT := Lib.hid (Tryz.strings_TrimLeft_set (ofL s) blk4 w (by decide) (by
    intro j c hj
    have : c ∈ ([32, 9, 10, 13] : List UInt8) := List.mem_of_getElem? hj
    simp at this
    rcases this with rfl | rfl | rfl | rfl <;> decide))
  have e1 : (ofL s).data.toList = s := toList_ofL s
  rw [e1, trim_blk] at hT
  have p0 := Cel.cell h 0
  have lt := h.lt
  obtain ⟨S, hS⟩ : ∃ S, ofL s = S := ⟨_, rfl⟩
  obtain ⟨R, hR⟩ : ∃ R, jblk s = R := ⟨_, rfl⟩
  rw [hR] at hT ⊢
  rw [hS] at hT p0
  replace h := Lib.hid h
  clear hS e1 hR
  simp only [List.getElem?_toArray, List.getElem?_cons_zero] at p0
  unfold blk4 at hT
  go_enter Tryz.func34, Tryz.ntmps34
  go_wp2_with fail
  refine hT.out.mono ?_
  rintro e w1 ⟨rfl, hb⟩
  have h1 := Lib.hid (h.out.below hb)
  have f0 := Cel.froz h1.out 0
  have q0 := Cel.cell h1.out 0
  simp only [List.getElem?_toArray, List.getElem?_cons_zero] at q0
  clear hT p0
  replace hb := Lib.hid hb
  go_wp2_with fail
  go_end0
  exact ⟨rfl, h1.out.set, (But.of hb.out).trans (But.set0 _ |>.mono hb.out.size)⟩
/-- What is left behind a text that is taken, if it is next. -/
def jtk (p s : List UInt8) : List UInt8 := if p.isPrefixOf s = true then s.drop p.length else s
theorem jrTake_any (b : Nat) (s : List UInt8) (it : Nat) (p : ByteArray) (w : World) (h : RJ w b s it) :
    Calls Tryz.prog 84 #[.pointer (some ⟨b, 0, none⟩), .string p] w fun e w' => e = .returned (.bool (p.data.toList.isPrefixOf s)) ∧ RJ w' b (jtk p.data.toList s) it ∧ But w.heap.size b w w' := by
  have hT := Lib.hid (Tryz.strings_CutPrefix (ofL s) p w)
  have e1 : (ofL s).data.toList = s := toList_ofL s
  rw [e1] at hT
  have e2 : Lib.hasPrefix s p.data.toList = p.data.toList.isPrefixOf s := rfl
  have e3 : Lib.trimPrefix s p.data.toList = jtk p.data.toList s := rfl
  rw [e2, e3] at hT
  have p0 := Cel.cell h 0
  have f0 := Cel.froz h 0
  obtain ⟨S, hS⟩ : ∃ S, ofL s = S := ⟨_, rfl⟩
  rw [hS] at hT p0
  unfold jtk at hT ⊢
  obtain ⟨t, ht⟩ : ∃ t, p.data.toList.isPrefixOf s = t := ⟨_, rfl⟩
  rw [ht] at hT ⊢
  replace h := Lib.hid h
  clear hS e1 e2 e3 ht
  simp only [List.getElem?_toArray, List.getElem?_cons_zero] at p0
  cases t
  · rw [if_neg (by decide)] at hT ⊢
    go_enter Tryz.func84, Tryz.ntmps84
    go_wp2_with fail
    refine hT.out.mono ?_
    rintro e w1 ⟨rfl, rfl⟩
    clear hT
    go_wp2_with fail
    go_ret
    exact ⟨rfl, h.out, But.refl _ _ _⟩
  · rw [if_pos rfl] at hT ⊢
    obtain ⟨R, hR⟩ : ∃ R, s.drop p.data.toList.length = R := ⟨_, rfl⟩
    rw [hR] at hT ⊢
    clear hR
    go_enter Tryz.func84, Tryz.ntmps84
    go_wp2_with fail
    refine hT.out.mono ?_
    rintro e w1 ⟨rfl, rfl⟩
    clear hT
    go_wp2_with fail
    go_ret
    exact ⟨rfl, h.out.set, But.set0 _⟩
theorem jrMust_any (b : Nat) (s : List UInt8) (it : Nat) (p : ByteArray) (w : World) (h : RJ w b s it) :
    Calls Tryz.prog 90 #[.pointer (some ⟨b, 0, none⟩), .string p] w fun e w' => But w.heap.size b w w' ∧ if p.data.toList.isPrefixOf s = true then e = .returned (.tuple #[]) ∧ RJ w' b (s.drop p.data.toList.length) it else e = Pan 4 := by
  have hT := jrTake_any b s it p w h
  unfold jtk at hT
  obtain ⟨t, ht⟩ : ∃ t, p.data.toList.isPrefixOf s = t := ⟨_, rfl⟩
  rw [ht] at hT ⊢
  replace hT := Lib.hid hT
  clear h ht
  cases t
  · simp only [Bool.false_eq_true, if_false] at hT ⊢
    go_enter Tryz.func90, Tryz.ntmps90
    go_wp2_with fail
    refine hT.out.mono ?_
    rintro e w1 ⟨rfl, hR, hB⟩
    replace hR := Lib.hid hR
    replace hB := Lib.hid hB
    clear hT
    go_wp2_with fail
    refine (jrFail_any 4 _).mono ?_
    rintro e w2 ⟨rfl, rfl⟩
    exact ⟨rfl, hB.out, rfl⟩
  · simp only [if_true] at hT ⊢
    go_enter Tryz.func90, Tryz.ntmps90
    go_wp2_with fail
    refine hT.out.mono ?_
    rintro e w1 ⟨rfl, hR, hB⟩
    replace hR := Lib.hid hR
    replace hB := Lib.hid hB
    clear hT
    go_wp2_with fail
    go_end0
    exact ⟨hB.out, rfl, hR.out⟩
end Go.Proofs.YtlnkjacbdolhnaaGreatDoor


/-
  Four hex digits, by way of strings.ToLower. No program.
-/
namespace Go.Proofs.YtlnkjacbdolhnaaGreatDoor

/-- The place of a byte among the digits of escapes. -/
def jhl (c : UInt8) : Option Nat := if 48 ≤ c.toNat ∧ c.toNat ≤ 57 then some (c.toNat - 48) else if 97 ≤ c.toNat ∧ c.toNat ≤ 102 then some (c.toNat - 87) else none
def hexL : Nat → List UInt8 → Option Nat
  | n, [] => some n
  | n, c :: r => match jhl c with
    | none => none
    | some k => hexL (n * 16 + k) r
def hexV : Nat → List UInt8 → Option Nat
  | n, [] => some n
  | n, c :: r => match jhv c with
    | none => none
    | some k => hexV (n * 16 + k) r
def lowOf (c : UInt8) : UInt8 := Lib.lowerB c
theorem jhl_lower : ∀ n : Fin 128, jhl (Lib.lowerB (UInt8.ofNat n.val)) = jhv (UInt8.ofNat n.val) := by decide +kernel
/-- Of each row of the table: a rune from 128 on becomes none of the digits. -/
def rowHex (x : Lib.CaseRow) : Bool :=
  decide (x.2.1 < 128) || (decide (128 ≤ x.1) && (decide (x.delta 1 > 1114111) || decide (128 ≤ (x.1 : Int) + x.delta 1) || (decide (x.1 = x.2.1) && decide (103 ≤ (x.1 : Int) + x.delta 1))))
set_option maxRecDepth 1000000 in
theorem rowsHex : Lib.caseT.all rowHex = true := by decide +kernel
theorem toLower_high {r : Int} (h : 128 ≤ r) : 103 ≤ Lib.toLowerU r := by
  unfold Lib.toLowerU
  rw [if_neg (by omega)]
  unfold Lib.toR Lib.lookupGo
  cases hi : Lib.lookupIdx Lib.caseA r (Lib.caseA.size + 1) 0 Lib.caseA.size with
  | none => show 103 ≤ r; omega
  | some i =>
    obtain ⟨hil, hlo, hhi⟩ := Lib.lookupIdx_some Lib.caseA r _ _ _ i hi
    have hm : Lib.caseA.getD i (0, 0, 0, 0, 0) ∈ Lib.caseT := by
      unfold Lib.caseA at hil ⊢
      simp only [List.size_toArray] at hil
      simp [Array.getD, hil]
    have hx := List.all_eq_true.1 rowsHex _ hm
    simp only [Option.map_some]
    generalize Lib.caseA.getD i (0, 0, 0, 0, 0) = x at hx hlo hhi
    unfold rowHex at hx
    simp only [Bool.or_eq_true, Bool.and_eq_true, decide_eq_true_eq] at hx
    unfold Lib.convertR
    rcases hx with hx | ⟨hx, (hd | hd) | ⟨he, hd⟩⟩
    · omega
    · rw [if_pos hd]; omega
    · split <;> omega
    · split <;> omega
theorem encode_head {r : Int} (h : 103 ≤ r) : ∃ b t, Lib.encodeRune r = b :: t ∧ jhl b = none := by
  have hh : ∀ x : Int, 103 ≤ x → x ≤ 255 → jhl x.toNat.toUInt8 = none := by
    intro x h1 h2
    have hb : ∀ n : Fin 256, 103 ≤ n.val → jhl (UInt8.ofNat n.val) = none := by decide +kernel
    exact hb ⟨x.toNat, by omega⟩ (by simp only; omega)
  unfold Lib.encodeRune Lib.encodeRuneZ
  repeat' split
  · exact ⟨_, _, rfl, hh _ h (by omega)⟩
  · exact ⟨_, _, rfl, hh _ (by omega) (by omega)⟩
  · exact ⟨_, _, rfl, hh _ (by omega) (by omega)⟩
  · exact ⟨_, _, rfl, hh _ (by omega) (by omega)⟩
  · exact ⟨_, _, rfl, hh _ (by omega) (by omega)⟩
theorem decode_high (c : UInt8) (t : List UInt8) (h : 128 ≤ c.toNat) : 128 ≤ (Lib.decodeL (c :: t)).1 := by
  rw [Lib.decodeL_N]
  rcases Lib.decodeN_shape (c :: t).length ((c :: t).getD 0 0).toNat ((c :: t).getD 1 0).toNat ((c :: t).getD 2 0).toNat ((c :: t).getD 3 0).toNat with ⟨c1, e⟩ | ⟨c1, c2, c3, cv, e⟩ | ⟨c1, c2, c3, c4, cv, cs, e⟩ | ⟨c1, c2, c3, c4, c5, cv, cw, e⟩ | e
  · have : ((c :: t).getD 0 0) = c := rfl
    rw [this] at c1
    omega
  all_goals (rw [e]; dsimp only; omega)
theorem lower_hex : ∀ (k : Nat) (l : List UInt8) (n : Nat), l.length ≤ k → hexL n (Lib.toLowerD l) = hexV n l
  | _, [], _, _ => rfl
  | 0, _ :: _, _, h => by simp at h
  | k + 1, c :: t, n, h => by
    simp only [List.length_cons] at h
    unfold Lib.toLowerD
    rw [Lib.mapD_step _ _ (by simp)]
    by_cases hc : c.toNat < 128
    · rw [Lib.decodeL_ascii c t hc]
      dsimp only
      rw [if_pos (Lib.toLowerU_range c.toNat (by omega)).1, Lib.lower_byte ⟨c.toNat, hc⟩, List.drop_succ_cons, List.drop_zero]
      have h1 := jhl_lower ⟨c.toNat, hc⟩
      simp only [UInt8.ofNat_toNat] at h1 ⊢
      rw [List.singleton_append]
      unfold hexL hexV
      rw [h1]
      split
      · rfl
      · rename_i m _
        exact lower_hex k t _ (by omega)
    · have hd := decode_high c t (by omega)
      have hl := toLower_high (r := ((Lib.decodeL (c :: t)).1 : Int)) (by omega)
      obtain ⟨b, u, he, hb⟩ := encode_head hl
      rw [if_pos (by omega), he, List.cons_append]
      have hv : jhv c = none := by
        have hb : ∀ n : Fin 256, 128 ≤ n.val → jhv (UInt8.ofNat n.val) = none := by decide +kernel
        have := hb ⟨c.toNat, c.toNat_lt⟩ (by simp only; omega)
        simpa using this
      unfold hexL hexV
      rw [hb, hv]
theorem hexV_unit (a b c d : UInt8) (r : List UInt8) : junit (a :: b :: c :: d :: r) = (hexV 0 [a, b, c, d]).map fun n => (n, r) := by
  cases h1 : jhv a <;> cases h2 : jhv b <;> cases h3 : jhv c <;> cases h4 : jhv d <;> simp [junit, hexV, h1, h2, h3, h4]
theorem junit_short {s : List UInt8} (h : s.length < 4) : junit s = none := by
  unfold junit
  split
  · simp at h; omega
  · rfl
/-- What the program's way comes to. -/
theorem junit_lower {s : List UInt8} (h : 4 ≤ s.length) : junit s = (hexL 0 (Lib.toLowerD (s.take 4))).map fun n => (n, s.drop 4) := by
  obtain ⟨a, b, c, d, r, rfl⟩ : ∃ a b c d r, s = a :: b :: c :: d :: r := by
    match s, h with
    | a :: b :: c :: d :: r, _ => exact ⟨a, b, c, d, r, rfl⟩
  rw [hexV_unit, List.take_succ_cons, List.take_succ_cons, List.take_succ_cons, List.take_succ_cons, List.take_zero, lower_hex 4 _ _ (by simp)]
  rfl
/-- string(rune(p)) of a code point. -/
theorem encode_put {p : Int} (h0 : 0 ≤ p) (h1 : p ≤ 1114111) (h2 : ¬ (55296 ≤ p ∧ p ≤ 57343)) : Utf8.encode p = ofL (rput p) := by
  have hv : Utf8.valid p = true := by rw [validRune_eq]; exact decide_eq_true (by omega)
  obtain ⟨n, rfl⟩ : ∃ n : Nat, p = n := ⟨p.toNat, by omega⟩
  rw [rput_pos h0, Int.toNat_natCast]
  unfold Utf8.encode
  simp only [hv, if_true, Int.toNat_natCast]
  by_cases a1 : n < 128
  · rw [if_pos a1, rputN_1 a1]; rfl
  · rw [if_neg a1]
    by_cases a2 : n < 2048
    · rw [if_pos a2, rputN_2 (by omega) a2]; rfl
    · rw [if_neg a2]
      by_cases a3 : n < 65536
      · rw [if_pos a3, rputN_3 (by omega) a3 (by omega)]; rfl
      · rw [if_neg a3, rputN_4 (by omega) (by omega)]; rfl
theorem rput_bad {p : Int} (h : p < 0 ∨ 1114111 < p ∨ (55296 ≤ p ∧ p ≤ 57343)) : rput p = [] := by
  by_cases h0 : p < 0
  · exact rput_neg h0
  · rw [rput_pos (by omega), rputN_0 (by omega)]; rfl
end Go.Proofs.YtlnkjacbdolhnaaGreatDoor
