/-
  The walks of the JSON reader: what it throws, blanks, what is taken.
-/
import Derived.Test.YtamcbgkppgdniaaGreatDoorJmp
import Derived.Test.YtamcbgkppgdniaaGreatDoorJmr
import Derived.Test.YtamcbgkppgdniaaGreatDoorJsVa
import Derived.Test.YtamcbgkppgdniaaGreatDoorShelf
import Derived.Shelf.Strings.SlTrimAscii
namespace Go.Proofs.YtamcbgkppgdniaaGreatDoor
open Go.RowKit

/-- The reader in block b: what is left, how many values there were. -/
def RJ (w : World) (b : Nat) (s : List UInt8) (it : Nat) : Prop := Cel w b 122 #[.string (ofL s), .int .i64 (it : Int)]
/-- What is thrown. -/
def Pan (e : Int) : Ending := .panicked [{ v := .iface 33 (.int .i64 e), recovered := false }]
theorem jrFail_any (c : Int) (w : World) : Calls Tryz.prog 85 #[.int .i64 c] w fun e w' => e = Pan c ∧ w' = w := by
  go_enter Tryz.func85, Tryz.ntmps85
  go_wp2
  exact ⟨rfl, rfl, rfl⟩
theorem RJ.below {w w' : World} {b : Nat} {s : List UInt8} {it : Nat} (h : RJ w b s it) (hb : Below w.heap.size w w') : RJ w' b s it := Cel.below h hb (Cel.lt h)
theorem RJ.lt {w : World} {b : Nat} {s : List UInt8} {it : Nat} (h : RJ w b s it) : b < w.heap.size := Cel.lt h
theorem RJ.set {w : World} {b : Nat} {s s' : List UInt8} {it : Nat} (h : RJ w b s it) : RJ (w.setCell ⟨b, 0, none⟩ (.string (ofL s'))) b s' it := by
  have := Cel.set h 0 (.string (ofL s'))
  exact this
theorem But.set0 {w : World} {b : Nat} (u : Value) : But w.heap.size b w (w.setCell ⟨b, 0, none⟩ u) := (But.refl _ b w).set 0 u
def blk4 : ByteArray := ⟨#[32, 9, 10, 13]⟩
theorem trim_blk (s : List UInt8) : Lib.trimLeftS s blk4.data.toList = jblk s := by
  unfold Lib.trimLeftS jblk
  congr 1
  funext c
  have key : ∀ n : Fin 256, ([32, 9, 10, 13] : List UInt8).contains (UInt8.ofNat n.val) = jblank (UInt8.ofNat n.val) := by decide +kernel
  have := key ⟨c.toNat, c.toNat_lt⟩
  rw [UInt8.ofNat_toNat] at this
  exact this
theorem jrBlanks_any (b : Nat) (s : List UInt8) (it : Nat) (w : World) (h : RJ w b s it) :
    Calls Tryz.prog 83 #[.pointer (some ⟨b, 0, none⟩)] w fun e w' => e = .returned (.tuple #[]) ∧ RJ w' b (jblk s) it ∧ But w.heap.size b w w' := by
  have hT := Lib.hid (Tryz.strings_TrimLeft_set (ofL s) blk4 w (by decide) (by
    intro j c hj
    have : c ∈ ([32, 9, 10, 13] : List UInt8) := List.mem_of_getElem? hj
    simp at this
    rcases this with rfl | rfl | rfl | rfl <;> decide))
  have e1 : (ofL s).data.toList = s := toList_ofL s
  rw [e1, trim_blk] at hT
  have p0 := Cel.cell h 0
  have lt := h.lt
  obtain ⟨S, hS⟩ : ∃ S, ofL s = S := ⟨_, rfl⟩
  obtain ⟨R, hR⟩ : ∃ R, jblk s = R := ⟨_, rfl⟩
  rw [hR] at hT ⊢
  rw [hS] at hT p0
  replace h := Lib.hid h
  clear hS e1 hR
  simp only [List.getElem?_toArray, List.getElem?_cons_zero] at p0
  unfold blk4 at hT
  go_enter Tryz.func83, Tryz.ntmps83
  go_wp2_with fail
  refine hT.out.mono ?_
  rintro e w1 ⟨rfl, hb⟩
  have h1 := Lib.hid (h.out.below hb)
  have f0 := Cel.froz h1.out 0
  have q0 := Cel.cell h1.out 0
  simp only [List.getElem?_toArray, List.getElem?_cons_zero] at q0
  clear hT p0
  replace hb := Lib.hid hb
  go_wp2_with fail
  go_end0
  exact ⟨rfl, h1.out.set, (But.of hb.out).trans (But.set0 _ |>.mono hb.out.size)⟩
/-- What is left behind a text that is taken, if it is next. -/
def jtk (p s : List UInt8) : List UInt8 := if p.isPrefixOf s = true then s.drop p.length else s
theorem jrTake_any (b : Nat) (s : List UInt8) (it : Nat) (p : ByteArray) (w : World) (h : RJ w b s it) :
    Calls Tryz.prog 132 #[.pointer (some ⟨b, 0, none⟩), .string p] w fun e w' => e = .returned (.bool (p.data.toList.isPrefixOf s)) ∧ RJ w' b (jtk p.data.toList s) it ∧ But w.heap.size b w w' := by
  have hT := Lib.hid (Tryz.strings_CutPrefix (ofL s) p w)
  have e1 : (ofL s).data.toList = s := toList_ofL s
  rw [e1] at hT
  have e2 : Lib.hasPrefix s p.data.toList = p.data.toList.isPrefixOf s := rfl
  have e3 : Lib.trimPrefix s p.data.toList = jtk p.data.toList s := rfl
  rw [e2, e3] at hT
  have p0 := Cel.cell h 0
  have f0 := Cel.froz h 0
  obtain ⟨S, hS⟩ : ∃ S, ofL s = S := ⟨_, rfl⟩
  rw [hS] at hT p0
  unfold jtk at hT ⊢
  obtain ⟨t, ht⟩ : ∃ t, p.data.toList.isPrefixOf s = t := ⟨_, rfl⟩
  rw [ht] at hT ⊢
  replace h := Lib.hid h
  clear hS e1 e2 e3 ht
  simp only [List.getElem?_toArray, List.getElem?_cons_zero] at p0
  cases t
  · rw [if_neg (by decide)] at hT ⊢
    go_enter Tryz.func132, Tryz.ntmps132
    go_wp2_with fail
    refine hT.out.mono ?_
    rintro e w1 ⟨rfl, rfl⟩
    clear hT
    go_wp2_with fail
    go_ret
    exact ⟨rfl, h.out, But.refl _ _ _⟩
  · rw [if_pos rfl] at hT ⊢
    obtain ⟨R, hR⟩ : ∃ R, s.drop p.data.toList.length = R := ⟨_, rfl⟩
    rw [hR] at hT ⊢
    clear hR
    go_enter Tryz.func132, Tryz.ntmps132
    go_wp2_with fail
    refine hT.out.mono ?_
    rintro e w1 ⟨rfl, rfl⟩
    clear hT
    go_wp2_with fail
    go_ret
    exact ⟨rfl, h.out.set, But.set0 _⟩
theorem jrMust_any (b : Nat) (s : List UInt8) (it : Nat) (p : ByteArray) (w : World) (h : RJ w b s it) :
    Calls Tryz.prog 138 #[.pointer (some ⟨b, 0, none⟩), .string p] w fun e w' => But w.heap.size b w w' ∧ if p.data.toList.isPrefixOf s = true then e = .returned (.tuple #[]) ∧ RJ w' b (s.drop p.data.toList.length) it else e = Pan 4 := by
  have hT := jrTake_any b s it p w h
  unfold jtk at hT
  obtain ⟨t, ht⟩ : ∃ t, p.data.toList.isPrefixOf s = t := ⟨_, rfl⟩
  rw [ht] at hT ⊢
  replace hT := Lib.hid hT
  clear h ht
  cases t
  · simp only [Bool.false_eq_true, if_false] at hT ⊢
    go_enter Tryz.func138, Tryz.ntmps138
    go_wp2_with fail
    refine hT.out.mono ?_
    rintro e w1 ⟨rfl, hR, hB⟩
    replace hR := Lib.hid hR
    replace hB := Lib.hid hB
    clear hT
    go_wp2_with fail
    refine (jrFail_any 4 _).mono ?_
    rintro e w2 ⟨rfl, rfl⟩
    exact ⟨rfl, hB.out, rfl⟩
  · simp only [if_true] at hT ⊢
    go_enter Tryz.func138, Tryz.ntmps138
    go_wp2_with fail
    refine hT.out.mono ?_
    rintro e w1 ⟨rfl, hR, hB⟩
    replace hR := Lib.hid hR
    replace hB := Lib.hid hB
    clear hT
    go_wp2_with fail
    go_end0
    exact ⟨hB.out, rfl, hR.out⟩
end Go.Proofs.YtamcbgkppgdniaaGreatDoor
