/-
  The walks of json.write and json.Print.
-/
import Derived.Test.YtghaoielnphhlaaGreatDoorM20
import Derived.Test.YtghaoielnphhlaaGreatDoorM14
namespace Go.Proofs.YtghaoielnphhlaaGreatDoor
open Go.RowKit

/-- These blocks are none of the builder's. -/
def Off (w : World) (b : Nat) (X : Nat → Prop) : Prop := ∀ k, X k → k < w.heap.size ∧ k ≠ b ∧ ¬ IsBuf w b k
theorem Off.wr {w w' : World} {b : Nat} {X : Nat → Prop} (h : Off w b X) (hW : Wr b w w') : Off w' b X := fun k hk => by
  obtain ⟨h1, h2, h3⟩ := h k hk
  exact ⟨Nat.lt_of_lt_of_le h1 hW.size, h2, fun e => (hW.buf k e).elim (fun e => by omega) h3⟩
theorem Off.cell {w w' : World} {b : Nat} {X : Nat → Prop} (h : Off w b X) (hW : Wr b w w') (p : Addr) (hp : X p.block) (_ : p.block < w.heap.size) : w'.cell? p = w.cell? p := by
  obtain ⟨h1, h2, h3⟩ := h _ hp
  exact hW.cell h1 h2 h3
theorem JV.wr {w w' : World} {b : Nat} {X : Nat → Prop} {j : Jsn} {vn vl : Value} (h : JV w X j vn vl) (hO : Off w b X) (hW : Wr b w w') : JV w' X j vn vl :=
  JV.keep hW.size (hO.cell hW) (fun _ h _ => h) j h
theorem StrL.wr {w w' : World} {b : Nat} {X : Nat → Prop} {v : Value} {L : List ByteArray} (h : StrL w X v L) (hO : Off w b X) (hW : Wr b w w') : StrL w' X v L :=
  h.keep hW.size (hO.cell hW) (fun _ h _ => h)
theorem Wr.alloc {w : World} {b : Nat} (hb : b < w.heap.size) (o : Obj) : Wr b w (w.alloc o) := Wr.below ((Below.refl _ _).alloc (Nat.le_refl _) _) hb
def WriteSays (Own : List UInt8 → List UInt8 × Int) (Val : List UInt8 → Bool) (j : Jsn) : Prop := ∀ (b : Nat) (l : List UInt8) (X : Nat → Prop) (w : World) (vn vl : Value), BD w b l → JV w X j vn vl → Off w b X → jbulk j ≤ 1000000 → jform Own Val j = true → l.length + 20 * jbulk j ≤ 10000000000 →
    Calls Tryz.prog 59 #[.pointer (some ⟨b, 0, none⟩), .agg #[.int .u8 j.kind, .string j.text, vn, vl]] w fun e w' => e = .returned (.tuple #[]) ∧ WrEnd b (l ++ jtext j) w w'

end Go.Proofs.YtghaoielnphhlaaGreatDoor
