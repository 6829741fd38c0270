/-
  The walk of json.Print.
-/
import Derived.Test.YtlnkjacbdolhnaaGreatDoorM16
import Derived.Test.YtlnkjacbdolhnaaGreatDoorM15
import Derived.Shelf.Strings.CaseAny
namespace Go.Proofs.YtlnkjacbdolhnaaGreatDoor
open Go.RowKit

theorem bd_made (w : World) : BD (w.alloc (.cells #[.pointer none, .slice none 0 0] 93)) w.heap.size [] :=
  ⟨_, _, .inl rfl, Cel.fresh w 93 #[.pointer none, .slice none 0 0], ⟨rfl, .inl ⟨rfl, rfl⟩⟩, by simp [Value.ownBlock]⟩
theorem nobuf_made (w : World) (k : Nat) : ¬ IsBuf (w.alloc (.cells #[.pointer none, .slice none 0 0] 93)) w.heap.size k := by
  rintro ⟨n, c, e⟩
  have h := (Cel.fresh w 93 #[.pointer none, .slice none 0 0]).cell 1
  rw [h] at e
  simp at e
end Go.Proofs.YtlnkjacbdolhnaaGreatDoor


/-
  A builder of a call's own; what String hands back, more than once.
-/
namespace Go.Proofs.YtlnkjacbdolhnaaGreatDoor
open Go.RowKit

theorem But.grow {b : Nat} {w w' : World} (h : But w.heap.size b w w') : w.grownBy w' (some b) := ⟨h.os, h.tape, h.output, h.size, fun k hk hn => h.block k hk (fun e => hn (by rw [e]))⟩
theorem BD.but {b bb : Nat} {w w' : World} {l : List UInt8} (h : BD w bb l) (hb : But w.heap.size b w w') (hne : b ≠ bb) (hnb : ¬ IsBuf w bb b) : BD w' bb l := by
  obtain ⟨p, v, hp, h0⟩ := h
  have hv : v.ownBlock ≠ some b := fun e => hnb (h0.isBuf.2 e)
  exact ⟨p, v, hp, (hb.block bb h0.lt (Ne.symm hne)).trans h0.1, World.ownsRow.kept h0.2.1 hb.grow (Or.inr hv), h0.2.2⟩
/-- A builder that was made behind B, as its buffer was. -/
def OB (B : Nat) (w : World) (bb : Nat) (l : List UInt8) : Prop := BD w bb l ∧ B ≤ bb ∧ (∀ k, IsBuf w bb k → B ≤ k) ∧ (l = [] → w.cell? ⟨bb, 1, none⟩ = some (.slice none 0 0))
theorem OB.made {B : Nat} {w : World} (hB : B ≤ w.heap.size) : OB B (w.alloc (.cells #[.pointer none, .slice none 0 0] 93)) w.heap.size [] :=
  ⟨bd_made w, hB, fun k hk => absurd hk (nobuf_made w k), fun _ => (Cel.fresh w 93 #[.pointer none, .slice none 0 0]).cell 1⟩
theorem OB.wr {B bb : Nat} {w w' : World} {l l' : List UInt8} (h : OB B w bb l) (hE : WrEnd bb l' w w') (hl : l' ≠ []) : OB B w' bb l' ∧ Below B w w' := by
  obtain ⟨h1, h2, h3, _⟩ := h
  obtain ⟨q1, q2⟩ := hE
  have hBs : B ≤ w.heap.size := Nat.le_trans h2 (Nat.le_of_lt h1.lt)
  refine ⟨⟨q1, h2, fun k hk => (q2.buf k hk).elim (fun e => Nat.le_trans hBs e) (h3 k), fun e => absurd e hl⟩, q2.os, q2.tape, q2.output, q2.size, fun k hk => q2.block k (Nat.lt_of_lt_of_le hk hBs) (by omega) (fun hb => by have := h3 k hb; omega)⟩
theorem OB.but {B b bb : Nat} {w w' : World} {l : List UInt8} (h : OB B w bb l) (hb : But w.heap.size b w w') (hlt : b < B) : OB B w' bb l := by
  obtain ⟨h1, h2, h3, h4⟩ := h
  have hnb : ¬ IsBuf w bb b := fun e => by have := h3 b e; omega
  have hne : b ≠ bb := by omega
  have hc : w'.cell? ⟨bb, 1, none⟩ = w.cell? ⟨bb, 1, none⟩ := hb.cell (p := ⟨bb, 1, none⟩) h1.lt (Ne.symm hne)
  exact ⟨h1.but hb hne hnb, h2, fun k ⟨n, c, e⟩ => h3 k ⟨n, c, hc ▸ e⟩, fun e => hc.trans (h4 e)⟩
theorem RJ.bel {B b it : Nat} {w w' : World} {s : List UInt8} (h : RJ w b s it) (hb : Below B w w') (hlt : b < B) : RJ w' b s it := Cel.below h hb hlt

/-- What may be read of a builder. -/
def BS (B : Nat) (w : World) (bb : Nat) (l : List UInt8) : Prop := bb < w.heap.size ∧ B ≤ bb ∧ ((l = [] ∧ w.cell? ⟨bb, 1, none⟩ = some (.slice none 0 0)) ∨
  (l ≠ [] ∧ ∃ (g cap : Nat) (cur : Array Value) (fz : Nat × Nat), B ≤ g ∧ g ≠ bb ∧ w.cell? ⟨bb, 1, none⟩ = some (.slice (some ⟨g, 0, none⟩) l.length cap) ∧ w.heap[g]? = some (.cells cur 5 fz) ∧ l.length ≤ cap ∧ l.length ≤ cur.size ∧ ∀ (j : Nat) (x : UInt8), l[j]? = some x → cur[j]? = some (.int .u8 x.toNat)))
theorem OB.bs {B bb : Nat} {w : World} {l : List UInt8} (h : OB B w bb l) : BS B w bb l := by
  obtain ⟨h1, h2, h3, h4⟩ := h
  refine ⟨h1.lt, h2, ?_⟩
  by_cases hl : l = []
  · exact .inl ⟨hl, h4 hl⟩
  · refine .inr ⟨hl, ?_⟩
    obtain ⟨p, v, hp, h0⟩ := h1
    have hv := h0.cell1
    rcases h0.2.1.2 with ⟨rfl, hn⟩ | ⟨g, cap, cur, rfl, _, hg, hc1, hc2, hcs, htk⟩
    · exact absurd (List.eq_nil_of_length_eq_zero hn) hl
    · refine ⟨g, cap, cur, (0, 0), h3 g ⟨_, _, hv⟩, fun e => h0.2.2 (by rw [← e]; rfl), hv, hg, hc1, by omega, fun j x hx => ?_⟩
      have hj : j < l.length := (List.getElem?_eq_some_iff.1 hx).1
      have h5 : (cur.toList.take (l.length * 1))[j]? = (l.map fun b => Value.int .u8 b.toNat)[j]? := by rw [htk]
      rw [List.getElem?_take, if_pos (by omega), List.getElem?_map, hx, Array.getElem?_toList] at h5
      exact h5
theorem BS.bel {B bb : Nat} {w w' : World} {l : List UInt8} (h : BS B w bb l) (hb : Below w.heap.size w w') : BS B w' bb l := by
  obtain ⟨h1, h2, h3⟩ := h
  have hc : w'.cell? ⟨bb, 1, none⟩ = w.cell? ⟨bb, 1, none⟩ := hb.cell (p := ⟨bb, 1, none⟩) h1
  refine ⟨Nat.lt_of_lt_of_le h1 hb.size, h2, ?_⟩
  rcases h3 with ⟨e, h4⟩ | ⟨e, g, cap, cur, fz, q1, q2, q3, q4, q5⟩
  · exact .inl ⟨e, hc.trans h4⟩
  · exact .inr ⟨e, g, cap, cur, fz, q1, q2, hc.trans q3, (hb.block g (Array.getElem?_eq_some_iff.1 q4).1).trans q4, q5⟩
end Go.Proofs.YtlnkjacbdolhnaaGreatDoor


/-
  Four hex digits, one by one. No program.
-/
namespace Go.Proofs.YtlnkjacbdolhnaaGreatDoor

theorem jhl_lt {c : UInt8} {k : Nat} (h : jhl c = some k) : k < 16 := by
  unfold jhl at h
  split at h
  · injection h with h; omega
  · split at h
    · injection h with h; omega
    · cases h
theorem hexL_step {L : List UInt8} {q n : Nat} (hq : q < L.length) {k : Nat} (hk : jhl L[q] = some k) : hexL n (L.drop q) = hexL (n * 16 + k) (L.drop (q + 1)) := by
  rw [List.drop_eq_getElem_cons hq]
  conv => lhs; unfold hexL
  rw [hk]
/-- How far the digits have been read. -/
def HexAt (L : List UInt8) (q : Nat) (v : Int) : Prop := (∀ c ∈ L.take q, (jhl c).isSome = true) ∧ (q ≤ 4 → ∃ n : Nat, v = n ∧ hexL 0 L = hexL n (L.drop q) ∧ n < 16 ^ q)
theorem HexAt.start (L : List UInt8) : HexAt L 0 0 := ⟨fun c hc => by simp at hc, fun _ => ⟨0, rfl, by simp, by simp⟩⟩
theorem HexAt.step {L : List UInt8} {q : Nat} {v v' : Int} {k : Nat} (h : HexAt L q v) (hq : q < L.length) (hk : jhl L[q] = some k) (hv : q < 4 → 0 ≤ v → v < 65536 → v' = v * 16 + k) : HexAt L (q + 1) v' := by
  refine ⟨fun c hc => ?_, fun h4 => ?_⟩
  · rw [List.take_add_one, List.getElem?_eq_getElem hq] at hc
    rcases List.mem_append.1 hc with hc | hc
    · exact h.1 c hc
    · simp at hc; subst hc; rw [hk]; rfl
  · obtain ⟨n, h1, h2, h3⟩ := h.2 (by omega)
    have h5 : 16 ^ q ≤ 16 ^ 3 := Nat.pow_le_pow_right (by omega) (by omega)
    have h6 : (16 : Nat) ^ 3 = 4096 := by decide
    refine ⟨n * 16 + k, ?_, ?_, ?_⟩
    · rw [hv (by omega) (by omega) (by omega), h1]; omega
    · rw [h2, hexL_step hq hk]
    · have := jhl_lt hk
      rw [Nat.pow_succ]; omega
end Go.Proofs.YtlnkjacbdolhnaaGreatDoor


/-
  The walks of the JSON reader's unit and escape.
-/
namespace Go.Proofs.YtlnkjacbdolhnaaGreatDoor
open Go.RowKit

/-- What reading asks of memory: the tables of numbers, of utf8, of cases. -/
def EnvC (w : World) : Prop := EnvU w ∧ Lib.CaseVar 4 Lib.caseA w
theorem EnvC.below {w w' : World} (h : EnvC w) (hb : Below w.heap.size w w') : EnvC w' := ⟨h.1.below hb, Lib.CaseVar_below h.2 hb⟩
theorem EnvC.at {w w' : World} {B : Nat} (h : EnvC w) (hB : w.heap.size ≤ B) (hb : Below B w w') : EnvC w' := h.below (hb.mono hB)
def UnitEnd (b it : Nat) (w : World) (R : Option (Nat × List UInt8)) (e : Ending) (w' : World) : Prop := But w.heap.size b w w' ∧ (match R with | none => e = Pan 4 | some (n, r) => e = .returned (.int .i64 (n : Int)) ∧ RJ w' b r it)
end Go.Proofs.YtlnkjacbdolhnaaGreatDoor


/-
  The walk of the JSON reader's escape.
-/
namespace Go.Proofs.YtlnkjacbdolhnaaGreatDoor
open Go.RowKit

/-- The tables, laid ahead of the reader's block. -/
def EnvB (b : Nat) (w : World) : Prop := ∃ W0, EnvC W0 ∧ W0.heap.size ≤ b ∧ Below W0.heap.size W0 w
theorem EnvB.env {b : Nat} {w : World} (h : EnvB b w) : EnvC w := by
  obtain ⟨W0, h1, _, h3⟩ := h
  exact h1.below h3
theorem EnvB.but {b : Nat} {w w' : World} (h : EnvB b w) (hb : But w.heap.size b w w') : EnvB b w' := by
  obtain ⟨W0, h1, h2, h3⟩ := h
  exact ⟨W0, h1, h2, h3.trans (hb.below h2 h3.size)⟩
theorem EnvB.below {b : Nat} {w w' : World} (h : EnvB b w) (hb : Below w.heap.size w w') : EnvB b w' := h.but (But.of hb)
def EscEnd (b it : Nat) (w : World) (R : Option (List UInt8 × List UInt8)) (e : Ending) (w' : World) : Prop := But w.heap.size b w w' ∧ (match R with | none => e = Pan 4 | some (t, r) => e = .returned (.string (ofL t)) ∧ RJ w' b r it)
def mkOK (c : UInt8) : Bool := match jmark c with
  | some m => decide (0 ≤ Lib.indexByte [34, 92, 98, 102, 110, 114, 116] c) && decide (Lib.indexByte [34, 92, 98, 102, 110, 114, 116] c < 7) && decide (([34, 92, 8, 12, 10, 13, 9] : List UInt8).getD (Lib.indexByte [34, 92, 98, 102, 110, 114, 116] c).toNat 0 = m)
  | none => decide (Lib.indexByte [34, 92, 98, 102, 110, 114, 116] c = -1)
end Go.Proofs.YtlnkjacbdolhnaaGreatDoor


/-
  The walk of the JSON reader's text.
-/
namespace Go.Proofs.YtlnkjacbdolhnaaGreatDoor
open Go.RowKit

/-- How much is left. -/
def lenAt (w : World) (b : Nat) : Nat := match w.cell? ⟨b, 0, none⟩ with
  | some (.string S) => S.size
  | _ => 0
/-- A String, from its first quote on. -/
def jtxt (s : List UInt8) : Option (List UInt8 × List UInt8) := match s with
  | 34 :: r => jStr Lib.validD [] r
  | _ => none
theorem EnvB.bel {b B : Nat} {w w' : World} (h : EnvB b w) (hb : Below B w w') (hlt : b < B) : EnvB b w' := by
  obtain ⟨W0, h1, h2, h3⟩ := h
  exact ⟨W0, h1, h2, h3.trans (hb.mono (by omega))⟩
/-- What a round of text knows. -/
def TxtI (b it B bb : Nat) (w : World) (R : Option (List UInt8 × List UInt8)) (wr : World) : Prop :=
  ∃ acc s' : List UInt8, OB B wr bb acc ∧ RJ wr b s' it ∧ But B b w wr ∧ EnvB b wr ∧ jStr Lib.validD acc s' = R ∧ acc.length + s'.length ≤ 1000000
end Go.Proofs.YtlnkjacbdolhnaaGreatDoor
