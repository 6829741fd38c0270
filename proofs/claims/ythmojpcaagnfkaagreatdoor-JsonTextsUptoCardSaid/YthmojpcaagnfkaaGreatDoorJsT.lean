/-
  The walk of the document's Quote over a String's bytes.
-/
import Derived.Test.YthmojpcaagnfkaaGreatDoorJsS
import Derived.Lib.AppendStr
namespace Go.Proofs.YthmojpcaagnfkaaGreatDoor
open Go.RowKit

theorem infoB : (Tryz.prog.info? 5).map (fun i => (i.zero, i.size, i.bytes)) = some (some (.int .u8 0), 1, 1) := by kernel_rfl
/-- A row of bytes of the call's own. -/
def RowB (w : World) (B : Nat) (v : Value) (l : List UInt8) : Prop := w.ownsRow B 5 1 v l.length (l.map fun b => Value.int .u8 b.toNat)
theorem RowB.snoc {w : World} {B : Nat} {v : Value} {l : List UInt8} {t : ByteArray} (h : w.ownsRow B 5 1 v (l.length + t.size) ((l.map fun b => Value.int .u8 b.toNat) ++ Lib.strCells t)) : RowB w B v (l ++ t.data.toList) := by
  unfold RowB
  rw [List.length_append, List.map_append]
  exact h
theorem RowB.one {w : World} (u : UInt8) : RowB (w.alloc (.cells #[.int .u8 u.toNat] 5)) w.heap.size (.slice (some ⟨w.heap.size, 0, none⟩) 1 1) [u] :=
  ⟨rfl, Or.inr ⟨w.heap.size, 1, #[.int .u8 u.toNat], rfl, Nat.le_refl _, Cel.fresh w 5 #[.int .u8 u.toNat], Nat.le_refl _, by unfold maxLen; omega, rfl, rfl⟩⟩
/-- What is held behind q bytes. -/
def qHeld (s : List UInt8) (q : Nat) : List UInt8 := 34 :: (s.take q).flatMap jesc
theorem qHeld_step {s : List UInt8} {q : Nat} {c : UInt8} (h : s[q]? = some c) : qHeld s (q + 1) = qHeld s q ++ jesc c := by
  unfold qHeld
  rw [List.take_add_one, h]
  simp
theorem jesc_len (c : UInt8) : (jesc c).length ≤ 6 := by
  unfold jesc
  repeat' split
  all_goals simp
theorem qHeld_len (s : List UInt8) (q : Nat) : (qHeld s q).length ≤ 6 * s.length + 1 := by
  have : ∀ l : List UInt8, (l.flatMap jesc).length ≤ 6 * l.length := fun l => by
    induction l with
    | nil => simp
    | cons x r ih => have := jesc_len x; rw [List.flatMap_cons, List.length_append, List.length_cons]; omega
  have h1 := this (s.take q)
  have h2 : (s.take q).length ≤ s.length := by rw [List.length_take]; omega
  unfold qHeld
  simp only [List.length_cons]
  omega

/-- A character as it stands in a String's text, by its number. -/
def jescI (b : Int) : List UInt8 :=
  if b = 34 then [92, 34] else if b = 92 then [92, 92] else if b = 8 then [92, 98] else if b = 12 then [92, 102] else if b = 10 then [92, 110] else if b = 13 then [92, 114] else if b = 9 then [92, 116] else if b < 32 then [92, 117, 48, 48, jhex (b.toNat / 16), jhex (b.toNat % 16)] else [UInt8.ofNat b.toNat]
theorem jesc_num (c : UInt8) (b : Int) (h : (c.toNat : Int) = b) : jesc c = jescI b := by
  have e : ∀ (k : UInt8) (m : Int), (k.toNat : Int) = m → ((c = k) ↔ (b = m)) := fun k m hk => by
    rw [← h, ← hk]
    constructor
    · rintro rfl; rfl
    · intro hh; exact UInt8.toNat_inj.1 (by omega)
  have hn : b.toNat = c.toNat := by omega
  have hl : (c.toNat < 32) = (b < 32) := propext (by omega)
  have hc : UInt8.ofNat c.toNat = c := by simp
  unfold jesc jescI
  simp only [e 34 34 rfl, e 92 92 rfl, e 8 8 rfl, e 12 12 rfl, e 10 10 rfl, e 13 13 rfl, e 9 9 rfl, hn, hl, hc]
theorem row_convert {w : World} {B : Nat} {v : Value} {l : List UInt8} (h : RowB w B v l) (hne : l ≠ []) :
    (convert 103 9 v).run Tryz.prog w = .ok (.string ⟨l.toArray⟩) w := by
  obtain ⟨hlen, h | ⟨g, cap, cur, rfl, hg, hh, hnc, hcm, hcs, htk⟩⟩ := h
  · exact absurd (List.eq_nil_of_length_eq_zero h.2) hne
  · have hs : (⟨l.toArray⟩ : ByteArray).size = l.length := by simp [ByteArray.size]
    have hb : Lib.Bytes w g 0 ⟨l.toArray⟩ := by
      intro i hi
      have hi' : i < l.length := by omega
      have e : (⟨l.toArray⟩ : ByteArray)[i] = l[i] := rfl
      have h1 : (cur.toList.take (l.length * 1))[i]? = some (.int .u8 (l[i].toNat : Int)) := by
        rw [htk, List.getElem?_map, List.getElem?_eq_getElem hi']; rfl
      rw [List.getElem?_take, if_pos (by omega), Array.getElem?_toList] at h1
      rw [e, Nat.zero_add]
      unfold World.cell?
      simp only [hh]
      exact h1
    have := Lib.run_convert_whole (P := Tryz.prog) w 103 5 9 Tryz.underlying103 Tryz.underlying5 Tryz.underlying9 g 0 ⟨l.toArray⟩ hb cap
    rw [hs] at this
    exact this
theorem RowB.snoc1 {w : World} {B : Nat} {v : Value} {l : List UInt8} {u : UInt8} {b : Int} (hb : b = (u.toNat : Int)) (h : w.ownsRow B 5 1 v (l.length + 1) ((l.map fun b => Value.int .u8 b.toNat) ++ [.int .u8 b])) : RowB w B v (l ++ [u]) := by
  subst hb
  unfold RowB
  rw [List.length_append, List.map_append]
  exact h
theorem RowB.below {w w' : World} {B : Nat} {v : Value} {l : List UInt8} (h : RowB w B v l) (hb : Below w.heap.size w w') : RowB w' B v l :=
  World.ownsRow.kept (row := none) h ⟨hb.os, hb.tape, hb.output, hb.size, fun k hk _ => hb.block k hk⟩ (by rcases v.ownBlock with _ | g <;> simp)
theorem cell_one (w : World) (x : Value) (t : TypeId) : ∀ (j : Nat) (u : Value), [x][j]? = some u → (w.alloc (.cells #[x] t)).cell? ((⟨w.heap.size, 0, none⟩ : Addr).add j) = some u := by
  intro j u h
  match j, h with
  | 0, h =>
    simp at h; subst h
    exact (World.cell?_alloc_at (w := w) #[x] t w.heap.size 0 rfl).trans rfl
theorem jstr_add (a b : ByteArray) (h : a.size + b.size ≤ 9223372036854775807) : ∀ W, (Op.stringOp .add a b).run Tryz.prog W = .ok (.string (a ++ b)) W := fun W => run_string_add_sum W _ _ h
theorem uni_add (x y : UInt8) : ((⟨#[92, 117, 48, 48]⟩ : ByteArray) ++ ⟨#[x]⟩) ++ ⟨#[y]⟩ = ⟨#[92, 117, 48, 48, x, y]⟩ := rfl

end Go.Proofs.YthmojpcaagnfkaaGreatDoor
