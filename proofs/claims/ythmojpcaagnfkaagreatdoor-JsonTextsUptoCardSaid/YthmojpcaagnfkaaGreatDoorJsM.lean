/-
  JSON values as they lie in memory: read only; and of the call's own, each value within in an interval of blocks of its own. No program.
-/
import Derived.Test.YthmojpcaagnfkaaGreatDoorJsP
import Derived.Test.YthmojpcaagnfkaaGreatDoorU
namespace Go.Proofs.YthmojpcaagnfkaaGreatDoor
open Go.RowKit

/-- A slice of strings that reads as this list; its array lies in a block of X. -/
def StrL (w : World) (X : Nat → Prop) (v : Value) (L : List ByteArray) : Prop :=
  ∃ A c, v = .slice A L.length c ∧ (0 < L.length → ∃ g o, A = some ⟨g, o, none⟩ ∧ X g ∧ g < w.heap.size ∧ ∀ j x, L[j]? = some x → w.cell? ⟨g, o + j, none⟩ = some (.string x))

/-- A value as it lies: it, the slice of its names, the slice of its list. -/
abbrev JE := Jsn × Value × Value
def encJ (z : JE) : List Value := [.int .u8 z.1.kind, .string z.1.text, z.2.1, z.2.2]
theorem encJ_len (z : JE) : (encJ z).length = 4 := rfl

/-- What the list's cells are, the children told by predicates. -/
def JCp (w : World) (g : Nat) : Nat → List (Jsn × (Value → Value → Prop)) → Prop
  | _, [] => True
  | o, x :: r => (∃ vn vl, (∀ (i : Nat) (u : Value), (encJ (x.1, vn, vl))[i]? = some u → w.cell? ⟨g, o + i, none⟩ = some u) ∧ x.2 vn vl) ∧ JCp w g (o + 4) r
/-- These two slices are a value's names and list; all its arrays lie in blocks of X. -/
def JV (w : World) (X : Nat → Prop) : Jsn → Value → Value → Prop := Jsn.para fun k _ ns l vn vl =>
  0 ≤ k ∧ k ≤ 255 ∧ StrL w X vn ns ∧ ∃ A c, vl = .slice A l.length c ∧ (0 < l.length → ∃ g o, A = some ⟨g, o, none⟩ ∧ X g ∧ g < w.heap.size ∧ JCp w g o l)
def JC (w : World) (X : Nat → Prop) (g o : Nat) (l : List Jsn) : Prop := JCp w g o (l.map fun x => (x, JV w X x))
theorem JV_eq (w : World) (X : Nat → Prop) (k : Int) (s : ByteArray) (ns : List ByteArray) (l : List Jsn) (vn vl : Value) : JV w X ⟨k, s, ns, l⟩ vn vl =
    (0 ≤ k ∧ k ≤ 255 ∧ StrL w X vn ns ∧ ∃ A c, vl = .slice A l.length c ∧ (0 < l.length → ∃ g o, A = some ⟨g, o, none⟩ ∧ X g ∧ g < w.heap.size ∧ JC w X g o l)) := by
  conv => lhs; unfold JV
  rw [Jsn.para_eq, List.length_map]
  rfl
theorem JC_nil (w : World) (X : Nat → Prop) (g o : Nat) : JC w X g o [] = True := rfl
theorem JC_cons (w : World) (X : Nat → Prop) (g o : Nat) (x : Jsn) (r : List Jsn) : JC w X g o (x :: r) =
    ((∃ vn vl, (∀ (i : Nat) (u : Value), (encJ (x, vn, vl))[i]? = some u → w.cell? ⟨g, o + i, none⟩ = some u) ∧ JV w X x vn vl) ∧ JC w X g (o + 4) r) := rfl

theorem JC.elems {w : World} {X : Nat → Prop} {g : Nat} : ∀ {l : List Jsn} {o : Nat}, JC w X g o l →
    ∃ zs : List JE, zs.map (·.1) = l ∧ (∀ z ∈ zs, JV w X z.1 z.2.1 z.2.2) ∧ ∀ j z, zs[j]? = some z → ∀ (i : Nat) (u : Value), (encJ z)[i]? = some u → w.cell? ⟨g, o + j * 4 + i, none⟩ = some u
  | [], _, _ => ⟨[], rfl, (fun _ h => by cases h), (fun _ _ h => by simp at h)⟩
  | x :: r, o, h => by
    rw [JC_cons] at h
    obtain ⟨⟨vn, vl, hc, hv⟩, hr⟩ := h
    obtain ⟨zs, h1, h2, h3⟩ := JC.elems hr
    refine ⟨(x, vn, vl) :: zs, by simp [h1], fun z hz => ?_, fun j z hz i u hu => ?_⟩
    · rcases List.mem_cons.1 hz with rfl | hz
      · exact hv
      · exact h2 z hz
    · cases j with
      | zero =>
        simp at hz; subst hz
        have := hc i u hu
        simpa using this
      | succ j =>
        have := h3 j z (by simpa using hz) i u hu
        rwa [show o + 4 + j * 4 + i = o + (j + 1) * 4 + i by omega] at this
theorem JC.of_elems {w : World} {X : Nat → Prop} {g : Nat} : ∀ (zs : List JE) (o : Nat), (∀ z ∈ zs, JV w X z.1 z.2.1 z.2.2) → (∀ j z, zs[j]? = some z → ∀ (i : Nat) (u : Value), (encJ z)[i]? = some u → w.cell? ⟨g, o + j * 4 + i, none⟩ = some u) → JC w X g o (zs.map (·.1))
  | [], _, _, _ => trivial
  | z :: zs, o, h2, h3 => by
    rw [List.map_cons, JC_cons]
    refine ⟨⟨z.2.1, z.2.2, fun i u hu => ?_, h2 z (by simp)⟩, JC.of_elems zs (o + 4) (fun y hy => h2 y (by simp [hy])) fun j y hy i u hu => ?_⟩
    · have := h3 0 z rfl i u hu
      simpa using this
    · have := h3 (j + 1) y (by simpa using hy) i u hu
      rwa [show o + 4 + j * 4 + i = o + (j + 1) * 4 + i by omega]

/-- What a value's list is: its elements as they lie. -/
theorem JV.elems {w : World} {X : Nat → Prop} {k : Int} {s : ByteArray} {ns : List ByteArray} {l : List Jsn} {vn vl : Value} (h : JV w X (.mk k s ns l) vn vl) :
    ∃ (A : Option Addr) (c : Nat) (zs : List JE), vl = .slice A zs.length c ∧ zs.map (·.1) = l ∧ (∀ z ∈ zs, JV w X z.1 z.2.1 z.2.2) ∧
      (0 < zs.length → ∃ g o, A = some ⟨g, o, none⟩ ∧ X g ∧ g < w.heap.size ∧ ∀ j z, zs[j]? = some z → ∀ (i : Nat) (u : Value), (encJ z)[i]? = some u → w.cell? ⟨g, o + j * 4 + i, none⟩ = some u) := by
  rw [JV_eq] at h
  obtain ⟨_, _, _, A, c, rfl, hl⟩ := h
  by_cases hp : 0 < l.length
  · obtain ⟨g, o, rfl, hX, hg, hC⟩ := hl hp
    obtain ⟨zs, h1, h2, h3⟩ := hC.elems
    have hlen : zs.length = l.length := by rw [← h1, List.length_map]
    exact ⟨_, c, zs, by rw [hlen], h1, h2, fun _ => ⟨g, o, rfl, hX, hg, h3⟩⟩
  · have : l = [] := List.eq_nil_of_length_eq_zero (by omega)
    subst this
    exact ⟨A, c, [], rfl, rfl, (fun _ h => by cases h), (fun h => by simp at h)⟩
theorem JV.names {w : World} {X : Nat → Prop} {j : Jsn} {vn vl : Value} (h : JV w X j vn vl) : StrL w X vn j.names := by
  obtain ⟨k, s, n, l⟩ := j; rw [JV_eq] at h; exact h.2.2.1
theorem JV.kind {w : World} {X : Nat → Prop} {j : Jsn} {vn vl : Value} (h : JV w X j vn vl) : 0 ≤ j.kind ∧ j.kind ≤ 255 := by
  obtain ⟨k, s, n, l⟩ := j; rw [JV_eq] at h; exact ⟨h.1, h.2.1⟩
theorem JV.forms {w : World} {X : Nat → Prop} {j : Jsn} {vn vl : Value} (h : JV w X j vn vl) : ∃ A n c A' n' c', vn = .slice A n c ∧ vl = .slice A' n' c' := by
  obtain ⟨k, s, n, l⟩ := j; rw [JV_eq] at h
  obtain ⟨_, _, ⟨A, c, h1, _⟩, A', c', h2, _⟩ := h
  exact ⟨A, _, c, A', _, c', h1, h2⟩
theorem JV.of_elems {w : World} {X : Nat → Prop} {k : Int} {s : ByteArray} {ns : List ByteArray} {vn : Value} {A : Option Addr} {c : Nat} {zs : List JE} {l : List Jsn} (hk0 : 0 ≤ k) (hk1 : k ≤ 255) (hn : StrL w X vn ns) (hz : zs.map (·.1) = l) (h2 : ∀ z ∈ zs, JV w X z.1 z.2.1 z.2.2)
    (h3 : 0 < zs.length → ∃ g o, A = some ⟨g, o, none⟩ ∧ X g ∧ g < w.heap.size ∧ ∀ j z, zs[j]? = some z → ∀ (i : Nat) (u : Value), (encJ z)[i]? = some u → w.cell? ⟨g, o + j * 4 + i, none⟩ = some u) :
    JV w X (.mk k s ns l) vn (.slice A zs.length c) := by
  subst hz
  rw [JV_eq]
  refine ⟨hk0, hk1, hn, A, c, by rw [List.length_map], fun hp => ?_⟩
  obtain ⟨g, o, q1, q2, q3, q4⟩ := h3 (by simpa using hp)
  exact ⟨g, o, q1, q2, q3, JC.of_elems zs o h2 q4⟩

section
variable {w w' : World} {X Y : Nat → Prop}
theorem StrL.keep {v : Value} {L : List ByteArray} (h : StrL w X v L) (hs : w.heap.size ≤ w'.heap.size) (hk : ∀ p : Addr, X p.block → p.block < w.heap.size → w'.cell? p = w.cell? p) (hXY : ∀ b, X b → b < w.heap.size → Y b) : StrL w' Y v L := by
  obtain ⟨A, c, rfl, h1⟩ := h
  refine ⟨A, c, rfl, fun hp => ?_⟩
  obtain ⟨g, o, rfl, q1, q2, q3⟩ := h1 hp
  exact ⟨g, o, rfl, hXY _ q1 q2, Nat.lt_of_lt_of_le q2 hs, fun j x hx => (hk _ q1 q2).trans (q3 j x hx)⟩
theorem JV.keep (hs : w.heap.size ≤ w'.heap.size) (hk : ∀ p : Addr, X p.block → p.block < w.heap.size → w'.cell? p = w.cell? p) (hXY : ∀ b, X b → b < w.heap.size → Y b) : ∀ (j : Jsn) {vn vl : Value}, JV w X j vn vl → JV w' Y j vn vl := by
  refine Jsn.ind ?_
  intro k s n l ih vn vl h
  have hn := h.names
  have hkd := h.kind
  obtain ⟨A, c, zs, rfl, hz, h2, h3⟩ := h.elems
  refine JV.of_elems hkd.1 hkd.2 (hn.keep hs hk hXY) hz (fun z hz' => ih z.1 (by rw [← hz]; exact List.mem_map_of_mem hz') (h2 z hz')) fun hp => ?_
  obtain ⟨g, o, rfl, q1, q2, q3⟩ := h3 hp
  exact ⟨g, o, rfl, hXY _ q1 q2, Nat.lt_of_lt_of_le q2 hs, fun j z hz' i u hu => (hk _ q1 q2).trans (q3 j z hz' i u hu)⟩
theorem JV.below {B : Nat} {j : Jsn} {vn vl : Value} (h : JV w X j vn vl) (hb : Below B w w') (hX : ∀ b, X b → b < w.heap.size → b < B) : JV w' X j vn vl :=
  JV.keep hb.size (fun p h1 h2 => hb.cell (hX _ h1 h2)) (fun _ h _ => h) j h
theorem JV.more {j : Jsn} {vn vl : Value} (h : JV w X j vn vl) (hXY : ∀ b, X b → b < w.heap.size → Y b) : JV w Y j vn vl := JV.keep (Nat.le_refl _) (fun _ _ _ => rfl) hXY j h
theorem JV.later {j : Jsn} {vn vl : Value} (h : JV w X j vn vl) (hb : Below w.heap.size w w') : JV w' X j vn vl := h.below hb (fun _ _ h => h)
theorem JV.alloc {j : Jsn} {vn vl : Value} (h : JV w X j vn vl) (o : Obj) : JV (w.alloc o) X j vn vl := JV.keep (by simp) (fun p _ hp => World.cell?_alloc_lt w o p hp) (fun _ h _ => h) j h
theorem JV.drew {j : Jsn} {vn vl : Value} (h : JV w X j vn vl) : JV w.drew X j vn vl := JV.keep (w := w) (w' := w.drew) (Nat.le_refl _) (fun _ _ _ => rfl) (fun _ h _ => h) j h
theorem JV.drewN {j : Jsn} {vn vl : Value} (h : JV w X j vn vl) (n : Nat) : JV (w.drewN n) X j vn vl := JV.keep (w := w) (w' := w.drewN n) (Nat.le_refl _) (fun _ _ _ => rfl) (fun _ h _ => h) j h
theorem StrL.later {v : Value} {L : List ByteArray} (h : StrL w X v L) (hb : Below w.heap.size w w') : StrL w' X v L := h.keep hb.size (fun p _ hp => hb.cell hp) (fun _ h _ => h)
end
end Go.Proofs.YthmojpcaagnfkaaGreatDoor
