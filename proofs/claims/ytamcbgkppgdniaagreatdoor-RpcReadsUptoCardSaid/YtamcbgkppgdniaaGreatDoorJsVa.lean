/-
  The walks of utf.Valid, of slices.ContainsFunc over strings, and of json.form.
-/
import Derived.Test.YtamcbgkppgdniaaGreatDoorJmu
import Derived.Test.YtamcbgkppgdniaaGreatDoorJmd
import Derived.Test.YtamcbgkppgdniaaGreatDoorShelf
import Derived.Shelf.Unicode.ValidAny
namespace Go.Proofs.YtamcbgkppgdniaaGreatDoor
open Go.RowKit

/-- What the calls ask of memory: the table of powers of ten, the two tables of utf8. -/
def EnvU (w : World) : Prop := Env w ∧ Lib.Utf8Tabs 0 1 w
theorem EnvU.below {w w' : World} (h : EnvU w) (hb : Below w.heap.size w w') : EnvU w' := by
  obtain ⟨h1, h2, h3⟩ := h
  exact ⟨h1.below hb, fun c hc => (hb.cell (World.block_lt_of_cell? w _ (h2 c hc))).trans (h2 c hc),
    fun i hi => ⟨(hb.cell (World.block_lt_of_cell? w _ (h3 i hi).1)).trans (h3 i hi).1, (hb.cell (World.block_lt_of_cell? w _ (h3 i hi).2)).trans (h3 i hi).2⟩⟩
theorem EnvU.at {w w' : World} {B : Nat} (h : EnvU w) (hB : w.heap.size ≤ B) (hb : Below B w w') : EnvU w' := h.below (hb.mono hB)

def ValEnd (b : Bool) (w : World) (e : Ending) (w' : World) : Prop := e = .returned (.bool b) ∧ Below w.heap.size w w'
theorem utfValid_any (s : ByteArray) (w : World) (hE : EnvU w) (hs : s.size ≤ 1000000000000) :
    Calls Tryz.prog 153 #[.string s] w (ValEnd (Lib.validD s.data.toList) w) := by
  have hcall := Lib.hid (Tryz.utf8_ValidString s w (by omega) hE.2)
  go_enter Tryz.func153, Tryz.ntmps153
  go_wp2_with fail
  refine hcall.out.mono ?_
  rintro e w1 ⟨rfl, hb⟩
  replace hb := Lib.hid hb
  clear hcall
  go_wp2_with fail
  go_ret
  exact ⟨rfl, hb.out⟩
theorem form1_any (s : ByteArray) (w : World) (hE : EnvU w) (hs : s.size ≤ 1000000000000) :
    Calls Tryz.prog 155 #[.string s] w (ValEnd (!Lib.validD s.data.toList) w) := by
  have hcall := Lib.hid (utfValid_any s w hE hs)
  obtain ⟨R, hR⟩ : ∃ R, Lib.validD s.data.toList = R := ⟨_, rfl⟩
  rw [hR] at hcall ⊢
  clear hR
  go_enter Tryz.func155, Tryz.ntmps155
  go_wp2_with fail
  refine hcall.out.mono ?_
  rintro e w1 ⟨rfl, hb⟩
  replace hb := Lib.hid hb
  clear hcall
  go_wp2_with fail
  go_ret
  exact ⟨rfl, hb.out⟩

/-- A function value that answers p of each of these strings. -/
def PredS (g : Nat) (p : ByteArray → Bool) (w : World) (l : List ByteArray) : Prop :=
  ∀ (W : World) (x : ByteArray), x ∈ l → Below w.heap.size w W → Calls Tryz.prog g #[.string x] W (ValEnd (p x) W)
theorem any_take_s {α : Type} {l : List α} {q : Nat} {x : α} (h : l[q]? = some x) (F : α → Bool) : (l.take (q + 1)).any F = ((l.take q).any F || F x) := by
  rw [List.take_add_one, h]; simp
theorem any_hit {α : Type} {l : List α} {q : Nat} {x : α} (h : l[q]? = some x) (F : α → Bool) (hx : F x = true) : l.any F = true :=
  List.any_eq_true.2 ⟨x, List.mem_of_getElem? h, hx⟩
set_option maxHeartbeats 1000000 in
theorem idxFuncS_any (g : Nat) (p : ByteArray → Bool) (eg : ∀ args w, (callFunc g args).run Tryz.prog w = .ok (.enter g args) w) (X : Nat → Prop) (v : Value) (l : List ByteArray) (w : World) (hl : l.length ≤ 1000000000000) (hv : StrL w X v l) (hp : PredS g p w l) :
    Calls Tryz.prog 178 #[v, .func (.func g) #[] #[]] w (IdxEnd (l.any p) w) := by
  obtain ⟨A, c, rfl⟩ := hv.len
  have hat := Lib.hid (fun (wr : World) (hB : Below w.heap.size w wr) (i : Nat) (hi : i < l.length) => hv.at hB hi)
  clear hv
  obtain ⟨R, hR⟩ : ∃ R, l.any p = R := ⟨_, rfl⟩
  rw [hR]
  replace hp := Lib.hid hp
  replace hR := Lib.hid hR
  go_enter Tryz.func178, Tryz.ntmps178
  go_wp2_with fail
  go_loopw [8] (fun i wr => ∃ q : Nat, q ≤ l.length ∧ i = .int .i64 q ∧ (l.take q).any p = false ∧ Below w.heap.size w wr) (fun i _ => l.length - (intOf i).toNat)
  case atStart => exact ⟨0, Nat.zero_le _, rfl, rfl, Below.refl _ _⟩
  case round =>
    obtain ⟨q, hq, rfl, hno, hB⟩ := hrel
    by_cases hlt : q < l.length
    · obtain ⟨g', o, rfl, y1⟩ := hat.out wr hB q hlt
      obtain ⟨S, hS⟩ : ∃ S, l[q] = S := ⟨_, rfl⟩
      have hSq : l[q]? = some S := by rw [List.getElem?_eq_getElem hlt, hS]
      rw [hS] at y1
      have hcall := hp.out wr S (List.mem_of_getElem? hSq) hB
      have htk := any_take_s hSq p
      have hyes := any_hit hSq p
      rw [hno, Bool.false_or] at htk
      rw [hR.out] at hyes
      obtain ⟨y, hy⟩ : ∃ y, p S = y := ⟨_, rfl⟩
      rw [hy] at hcall htk hyes
      have hbs := hB.size
      have hq0 : (0 : Int) ≤ (q : Int) := by omega
      have hq1 : (q : Int) < (l.length : Int) := by omega
      clear hSq hno hat hp hy hS
      replace hcall := Lib.hid hcall
      replace htk := Lib.hid htk
      replace hyes := Lib.hid hyes
      replace hB := Lib.hid hB
      go_wp2_with fail
      refine hcall.out.mono ?_
      rintro e w1 ⟨rfl, hB1⟩
      have hB2 := hB.out.trans (hB1.mono hbs)
      clear y1 hcall hB hB1
      replace hB2 := Lib.hid hB2
      cases y
      · clear hyes
        go_wp2_with fail
        go_roundw
        case rel => exact ⟨q + 1, by omega, by go_num, htk.out, hB2.out⟩
        case measure => simp [intOf]; omega
      · have hR1 : R = true := hyes.out rfl
        subst hR1
        clear hyes htk
        go_wp2_with fail
        go_ret
        exact ⟨q, rfl, decide_eq_true (by omega), hB2.out⟩
    · have hfull : l.take q = l := List.take_of_length_le (by omega)
      rw [hfull, hR.out] at hno
      subst hno
      clear hat hp hfull hR
      replace hB := Lib.hid hB
      go_wp2_with fail
      go_ret
      exact ⟨-1, rfl, rfl, hB.out⟩
set_option maxHeartbeats 1000000 in
theorem containsS_any (g : Nat) (p : ByteArray → Bool) (eg : ∀ args w, (callFunc g args).run Tryz.prog w = .ok (.enter g args) w) (X : Nat → Prop) (v : Value) (l : List ByteArray) (w : World) (hl : l.length ≤ 1000000000000) (hv : StrL w X v l) (hp : PredS g p w l) :
    Calls Tryz.prog 154 #[v, .func (.func g) #[] #[]] w (ValEnd (l.any p) w) := by
  have hi := Lib.hid (idxFuncS_any g p eg X v l w hl hv hp)
  obtain ⟨A, c, rfl⟩ := hv.len
  obtain ⟨R, hR⟩ : ∃ R, l.any p = R := ⟨_, rfl⟩
  rw [hR] at hi ⊢
  clear hv hp eg hR
  go_enter Tryz.func154, Tryz.ntmps154
  go_wp2_with fail
  refine hi.out.mono ?_
  rintro e w1 ⟨i, rfl, hd, hB⟩
  subst hd
  clear hi
  replace hB := Lib.hid hB
  go_wp2_with fail
  go_ret
  exact ⟨rfl, hB.out⟩
theorem entersF1 : ∀ args w, (callFunc 155 args).run Tryz.prog w = .ok (.enter 155 args) w := fun _ _ => by kernel_rfl
theorem entersF2 : ∀ args w, (callFunc 156 args).run Tryz.prog w = .ok (.enter 156 args) w := fun _ _ => by kernel_rfl
theorem entersTw : ∀ args w, (callFunc 97 args).run Tryz.prog w = .ok (.enter 97 args) w := fun _ _ => by kernel_rfl
end Go.Proofs.YtamcbgkppgdniaaGreatDoor
