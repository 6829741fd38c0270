/-
  JSON values as they lie in memory: read only; and of the call's own, each value within in an interval of blocks of its own. No program.
-/
import Derived.Test.YtamcbgkppgdniaaGreatDoorJmp
import Derived.Test.YtamcbgkppgdniaaGreatDoorJmr
import Derived.Test.YtamcbgkppgdniaaGreatDoorProg
import Derived.Tactics
import Derived.Tactics2
import Derived.WalkKit
import Derived.LoopTactic
import Derived.KernelRfl
import Derived.Handy
import Derived.BigQuiet
import Derived.Lib.Strings
import Derived.Deep.QuietTactic
import Derived.Deep.RegionHeld3
namespace Go.Proofs.YtamcbgkppgdniaaGreatDoor
open Go.RowKit

/-- A slice of strings that reads as this list; its array lies in a block of X. -/
def StrL (w : World) (X : Nat → Prop) (v : Value) (L : List ByteArray) : Prop :=
  ∃ A c, v = .slice A L.length c ∧ (0 < L.length → ∃ g o, A = some ⟨g, o, none⟩ ∧ X g ∧ g < w.heap.size ∧ ∀ j x, L[j]? = some x → w.cell? ⟨g, o + j, none⟩ = some (.string x))

/-- A value as it lies: it, the slice of its names, the slice of its list. -/
abbrev JE := Jsn × Value × Value
def encJ (z : JE) : List Value := [.int .u8 z.1.kind, .string z.1.text, z.2.1, z.2.2]
theorem encJ_len (z : JE) : (encJ z).length = 4 := rfl

/-- What the list's cells are, the children told by predicates. -/
def JCp (w : World) (g : Nat) : Nat → List (Jsn × (Value → Value → Prop)) → Prop
  | _, [] => True
  | o, x :: r => (∃ vn vl, (∀ (i : Nat) (u : Value), (encJ (x.1, vn, vl))[i]? = some u → w.cell? ⟨g, o + i, none⟩ = some u) ∧ x.2 vn vl) ∧ JCp w g (o + 4) r
/-- These two slices are a value's names and list; all its arrays lie in blocks of X. -/
def JV (w : World) (X : Nat → Prop) : Jsn → Value → Value → Prop := Jsn.para fun k _ ns l vn vl =>
  0 ≤ k ∧ k ≤ 255 ∧ StrL w X vn ns ∧ ∃ A c, vl = .slice A l.length c ∧ (0 < l.length → ∃ g o, A = some ⟨g, o, none⟩ ∧ X g ∧ g < w.heap.size ∧ JCp w g o l)
def JC (w : World) (X : Nat → Prop) (g o : Nat) (l : List Jsn) : Prop := JCp w g o (l.map fun x => (x, JV w X x))
theorem JV_eq (w : World) (X : Nat → Prop) (k : Int) (s : ByteArray) (ns : List ByteArray) (l : List Jsn) (vn vl : Value) : JV w X ⟨k, s, ns, l⟩ vn vl =
    (0 ≤ k ∧ k ≤ 255 ∧ StrL w X vn ns ∧ ∃ A c, vl = .slice A l.length c ∧ (0 < l.length → ∃ g o, A = some ⟨g, o, none⟩ ∧ X g ∧ g < w.heap.size ∧ JC w X g o l)) := by
  conv => lhs; unfold JV
  rw [Jsn.para_eq, List.length_map]
  rfl
theorem JC_nil (w : World) (X : Nat → Prop) (g o : Nat) : JC w X g o [] = True := rfl
theorem JC_cons (w : World) (X : Nat → Prop) (g o : Nat) (x : Jsn) (r : List Jsn) : JC w X g o (x :: r) =
    ((∃ vn vl, (∀ (i : Nat) (u : Value), (encJ (x, vn, vl))[i]? = some u → w.cell? ⟨g, o + i, none⟩ = some u) ∧ JV w X x vn vl) ∧ JC w X g (o + 4) r) := rfl

theorem JC.elems {w : World} {X : Nat → Prop} {g : Nat} : ∀ {l : List Jsn} {o : Nat}, JC w X g o l →
    ∃ zs : List JE, zs.map (·.1) = l ∧ (∀ z ∈ zs, JV w X z.1 z.2.1 z.2.2) ∧ ∀ j z, zs[j]? = some z → ∀ (i : Nat) (u : Value), (encJ z)[i]? = some u → w.cell? ⟨g, o + j * 4 + i, none⟩ = some u
  | [], _, _ => ⟨[], rfl, (fun _ h => by cases h), (fun _ _ h => by simp at h)⟩
  | x :: r, o, h => by
    rw [JC_cons] at h
    obtain ⟨⟨vn, vl, hc, hv⟩, hr⟩ := h
    obtain ⟨zs, h1, h2, h3⟩ := JC.elems hr
    refine ⟨(x, vn, vl) :: zs, by simp [h1], fun z hz => ?_, fun j z hz i u hu => ?_⟩
    · rcases List.mem_cons.1 hz with rfl | hz
      · exact hv
      · exact h2 z hz
    · cases j with
      | zero =>
        simp at hz; subst hz
        have := hc i u hu
        simpa using this
      | succ j =>
        have := h3 j z (by simpa using hz) i u hu
        rwa [show o + 4 + j * 4 + i = o + (j + 1) * 4 + i by omega] at this
theorem JC.of_elems {w : World} {X : Nat → Prop} {g : Nat} : ∀ (zs : List JE) (o : Nat), (∀ z ∈ zs, JV w X z.1 z.2.1 z.2.2) → (∀ j z, zs[j]? = some z → ∀ (i : Nat) (u : Value), (encJ z)[i]? = some u → w.cell? ⟨g, o + j * 4 + i, none⟩ = some u) → JC w X g o (zs.map (·.1))
  | [], _, _, _ => trivial
  | z :: zs, o, h2, h3 => by
    rw [List.map_cons, JC_cons]
    refine ⟨⟨z.2.1, z.2.2, fun i u hu => ?_, h2 z (by simp)⟩, JC.of_elems zs (o + 4) (fun y hy => h2 y (by simp [hy])) fun j y hy i u hu => ?_⟩
    · have := h3 0 z rfl i u hu
      simpa using this
    · have := h3 (j + 1) y (by simpa using hy) i u hu
      rwa [show o + 4 + j * 4 + i = o + (j + 1) * 4 + i by omega]

/-- What a value's list is: its elements as they lie. -/
theorem JV.elems {w : World} {X : Nat → Prop} {k : Int} {s : ByteArray} {ns : List ByteArray} {l : List Jsn} {vn vl : Value} (h : JV w X (.mk k s ns l) vn vl) :
    ∃ (A : Option Addr) (c : Nat) (zs : List JE), vl = .slice A zs.length c ∧ zs.map (·.1) = l ∧ (∀ z ∈ zs, JV w X z.1 z.2.1 z.2.2) ∧
      (0 < zs.length → ∃ g o, A = some ⟨g, o, none⟩ ∧ X g ∧ g < w.heap.size ∧ ∀ j z, zs[j]? = some z → ∀ (i : Nat) (u : Value), (encJ z)[i]? = some u → w.cell? ⟨g, o + j * 4 + i, none⟩ = some u) := by
  rw [JV_eq] at h
  obtain ⟨_, _, _, A, c, rfl, hl⟩ := h
  by_cases hp : 0 < l.length
  · obtain ⟨g, o, rfl, hX, hg, hC⟩ := hl hp
    obtain ⟨zs, h1, h2, h3⟩ := hC.elems
    have hlen : zs.length = l.length := by rw [← h1, List.length_map]
    exact ⟨_, c, zs, by rw [hlen], h1, h2, fun _ => ⟨g, o, rfl, hX, hg, h3⟩⟩
  · have : l = [] := List.eq_nil_of_length_eq_zero (by omega)
    subst this
    exact ⟨A, c, [], rfl, rfl, (fun _ h => by cases h), (fun h => by simp at h)⟩
theorem JV.names {w : World} {X : Nat → Prop} {j : Jsn} {vn vl : Value} (h : JV w X j vn vl) : StrL w X vn j.names := by
  obtain ⟨k, s, n, l⟩ := j; rw [JV_eq] at h; exact h.2.2.1
theorem JV.kind {w : World} {X : Nat → Prop} {j : Jsn} {vn vl : Value} (h : JV w X j vn vl) : 0 ≤ j.kind ∧ j.kind ≤ 255 := by
  obtain ⟨k, s, n, l⟩ := j; rw [JV_eq] at h; exact ⟨h.1, h.2.1⟩
theorem JV.forms {w : World} {X : Nat → Prop} {j : Jsn} {vn vl : Value} (h : JV w X j vn vl) : ∃ A n c A' n' c', vn = .slice A n c ∧ vl = .slice A' n' c' := by
  obtain ⟨k, s, n, l⟩ := j; rw [JV_eq] at h
  obtain ⟨_, _, ⟨A, c, h1, _⟩, A', c', h2, _⟩ := h
  exact ⟨A, _, c, A', _, c', h1, h2⟩
theorem JV.of_elems {w : World} {X : Nat → Prop} {k : Int} {s : ByteArray} {ns : List ByteArray} {vn : Value} {A : Option Addr} {c : Nat} {zs : List JE} {l : List Jsn} (hk0 : 0 ≤ k) (hk1 : k ≤ 255) (hn : StrL w X vn ns) (hz : zs.map (·.1) = l) (h2 : ∀ z ∈ zs, JV w X z.1 z.2.1 z.2.2)
    (h3 : 0 < zs.length → ∃ g o, A = some ⟨g, o, none⟩ ∧ X g ∧ g < w.heap.size ∧ ∀ j z, zs[j]? = some z → ∀ (i : Nat) (u : Value), (encJ z)[i]? = some u → w.cell? ⟨g, o + j * 4 + i, none⟩ = some u) :
    JV w X (.mk k s ns l) vn (.slice A zs.length c) := by
  subst hz
  rw [JV_eq]
  refine ⟨hk0, hk1, hn, A, c, by rw [List.length_map], fun hp => ?_⟩
  obtain ⟨g, o, q1, q2, q3, q4⟩ := h3 (by simpa using hp)
  exact ⟨g, o, q1, q2, q3, JC.of_elems zs o h2 q4⟩

section
variable {w w' : World} {X Y : Nat → Prop}
theorem StrL.keep {v : Value} {L : List ByteArray} (h : StrL w X v L) (hs : w.heap.size ≤ w'.heap.size) (hk : ∀ p : Addr, X p.block → p.block < w.heap.size → w'.cell? p = w.cell? p) (hXY : ∀ b, X b → b < w.heap.size → Y b) : StrL w' Y v L := by
  obtain ⟨A, c, rfl, h1⟩ := h
  refine ⟨A, c, rfl, fun hp => ?_⟩
  obtain ⟨g, o, rfl, q1, q2, q3⟩ := h1 hp
  exact ⟨g, o, rfl, hXY _ q1 q2, Nat.lt_of_lt_of_le q2 hs, fun j x hx => (hk _ q1 q2).trans (q3 j x hx)⟩
theorem JV.keep (hs : w.heap.size ≤ w'.heap.size) (hk : ∀ p : Addr, X p.block → p.block < w.heap.size → w'.cell? p = w.cell? p) (hXY : ∀ b, X b → b < w.heap.size → Y b) : ∀ (j : Jsn) {vn vl : Value}, JV w X j vn vl → JV w' Y j vn vl := by
  refine Jsn.ind ?_
  intro k s n l ih vn vl h
  have hn := h.names
  have hkd := h.kind
  obtain ⟨A, c, zs, rfl, hz, h2, h3⟩ := h.elems
  refine JV.of_elems hkd.1 hkd.2 (hn.keep hs hk hXY) hz (fun z hz' => ih z.1 (by rw [← hz]; exact List.mem_map_of_mem hz') (h2 z hz')) fun hp => ?_
  obtain ⟨g, o, rfl, q1, q2, q3⟩ := h3 hp
  exact ⟨g, o, rfl, hXY _ q1 q2, Nat.lt_of_lt_of_le q2 hs, fun j z hz' i u hu => (hk _ q1 q2).trans (q3 j z hz' i u hu)⟩
theorem JV.below {B : Nat} {j : Jsn} {vn vl : Value} (h : JV w X j vn vl) (hb : Below B w w') (hX : ∀ b, X b → b < w.heap.size → b < B) : JV w' X j vn vl :=
  JV.keep hb.size (fun p h1 h2 => hb.cell (hX _ h1 h2)) (fun _ h _ => h) j h
theorem JV.more {j : Jsn} {vn vl : Value} (h : JV w X j vn vl) (hXY : ∀ b, X b → b < w.heap.size → Y b) : JV w Y j vn vl := JV.keep (Nat.le_refl _) (fun _ _ _ => rfl) hXY j h
theorem JV.later {j : Jsn} {vn vl : Value} (h : JV w X j vn vl) (hb : Below w.heap.size w w') : JV w' X j vn vl := h.below hb (fun _ _ h => h)
theorem JV.alloc {j : Jsn} {vn vl : Value} (h : JV w X j vn vl) (o : Obj) : JV (w.alloc o) X j vn vl := JV.keep (by simp) (fun p _ hp => World.cell?_alloc_lt w o p hp) (fun _ h _ => h) j h
theorem JV.drew {j : Jsn} {vn vl : Value} (h : JV w X j vn vl) : JV w.drew X j vn vl := JV.keep (w := w) (w' := w.drew) (Nat.le_refl _) (fun _ _ _ => rfl) (fun _ h _ => h) j h
theorem JV.drewN {j : Jsn} {vn vl : Value} (h : JV w X j vn vl) (n : Nat) : JV (w.drewN n) X j vn vl := JV.keep (w := w) (w' := w.drewN n) (Nat.le_refl _) (fun _ _ _ => rfl) (fun _ h _ => h) j h
theorem StrL.later {v : Value} {L : List ByteArray} (h : StrL w X v L) (hb : Below w.heap.size w w') : StrL w' X v L := h.keep hb.size (fun p _ hp => hb.cell hp) (fun _ h _ => h)
end
end Go.Proofs.YtamcbgkppgdniaaGreatDoor


/-
  The walks of the document's Count and Deep.
-/
namespace Go.Proofs.YtamcbgkppgdniaaGreatDoor
open Go.RowKit

theorem four_cells {w : World} {g o i : Nat} {z : JE} (h : ∀ (q : Nat) (u : Value), (encJ z)[q]? = some u → w.cell? ⟨g, o + i * 4 + q, none⟩ = some u) :
    w.cell? ⟨g, o + i * 4, none⟩ = some (.int .u8 z.1.kind) ∧ w.cell? ⟨g, o + i * 4 + 1, none⟩ = some (.string z.1.text) ∧ w.cell? ⟨g, o + i * 4 + 2, none⟩ = some z.2.1 ∧ w.cell? ⟨g, o + i * 4 + 3, none⟩ = some z.2.2 :=
  ⟨h 0 _ rfl, h 1 _ rfl, h 2 _ rfl, h 3 _ rfl⟩
/-- The value at a place of the list, and its four cells, in a world that has grown. -/
theorem JV.at {w wr : World} {X : Nat → Prop} {zs : List JE} {A : Option Addr} (h2 : ∀ z ∈ zs, JV w X z.1 z.2.1 z.2.2)
    (h3 : 0 < zs.length → ∃ g o, A = some ⟨g, o, none⟩ ∧ X g ∧ g < w.heap.size ∧ ∀ j z, zs[j]? = some z → ∀ (i : Nat) (u : Value), (encJ z)[i]? = some u → w.cell? ⟨g, o + j * 4 + i, none⟩ = some u)
    (hB : Below w.heap.size w wr) {i : Nat} (hi : i < zs.length) :
    ∃ g o z, zs[i]? = some z ∧ z ∈ zs ∧ A = some ⟨g, o, none⟩ ∧ JV wr X z.1 z.2.1 z.2.2 ∧ wr.cell? ⟨g, o + i * 4, none⟩ = some (.int .u8 z.1.kind) ∧ wr.cell? ⟨g, o + i * 4 + 1, none⟩ = some (.string z.1.text) ∧ wr.cell? ⟨g, o + i * 4 + 2, none⟩ = some z.2.1 ∧ wr.cell? ⟨g, o + i * 4 + 3, none⟩ = some z.2.2 := by
  obtain ⟨g, o, q1, _, q3, q4⟩ := h3 (by omega)
  have hz : zs[i]? = some zs[i] := List.getElem?_eq_getElem hi
  have hm : zs[i] ∈ zs := List.getElem_mem hi
  obtain ⟨c0, c1, c2, c3⟩ := four_cells (q4 i _ hz)
  exact ⟨g, o, zs[i], hz, hm, q1, (h2 _ hm).later hB, (hB.cell (p := ⟨g, o + i * 4, none⟩) q3).trans c0, (hB.cell (p := ⟨g, o + i * 4 + 1, none⟩) q3).trans c1, (hB.cell (p := ⟨g, o + i * 4 + 2, none⟩) q3).trans c2, (hB.cell (p := ⟨g, o + i * 4 + 3, none⟩) q3).trans c3⟩
theorem take_map_snoc {α : Type} {zs : List JE} {i : Nat} {z : JE} (hz : zs[i]? = some z) (f : Jsn → α) : (((zs.take (i + 1)).map (·.1)).map f) = ((zs.take i).map (·.1)).map f ++ [f z.1] := by
  rw [List.take_add_one, hz]; simp

set_option maxHeartbeats 1000000 in
theorem refCount_any : ∀ (j : Jsn) (X : Nat → Prop) (w : World) (vn vl : Value), JV w X j vn vl → jcount j ≤ 1000000000000 →
    Calls Tryz.prog 106 #[.agg #[.int .u8 j.kind, .string j.text, vn, vl]] w fun e w' => e = .returned (.int .i64 (jcount j)) ∧ Below w.heap.size w w' := by
  refine Jsn.ind fun k s n l ih X w vn vl hV hc => ?_
  obtain ⟨A, c, zs, rfl, hz, h2, h3⟩ := hV.elems
  rw [jcount_eq] at hc ⊢
  have hlen : zs.length = l.length := by rw [← hz, List.length_map]
  have hlc := jlen_count l
  rw [← hlen] at hlc
  clear hlen
  obtain ⟨C, hC⟩ : ∃ C, jcounts l = C := ⟨_, rfl⟩
  rw [hC] at hc hlc ⊢
  replace ih := Lib.hid ih
  replace hz := Lib.hid hz
  replace hC := Lib.hid hC
  have hw := Lib.hid (fun (wr : World) (i : Nat) (hB : Below w.heap.size w wr) (hi : i < zs.length) => JV.at h2 h3 hB hi)
  clear h2 h3 hV
  dsimp only
  go_enter Tryz.func106, Tryz.ntmps106
  go_wp2_with fail
  go_loopw [3, 4] (fun n i wr => ∃ q m : Nat, q ≤ zs.length ∧ i = .int .i64 q ∧ n = .int .i64 m ∧ m = jcounts ((zs.take q).map (·.1)) + 1 ∧ m ≤ C + 1 ∧ Cel wr w.heap.size 25 #[.int .u8 k, .string s, vn, .slice A zs.length c] ∧ Below w.heap.size w wr) (fun _ i _ => zs.length - (intOf i).toNat)
  case atStart => exact ⟨0, 1, Nat.zero_le _, rfl, rfl, rfl, by omega, Cel.fresh _ _ _, (Below.refl _ _).alloc (Nat.le_refl _) _⟩
  case round =>
    obtain ⟨q, m, hq, rfl, rfl, hm, hmC, hCl, hB⟩ := hrel
    have hx3 : wr.cell? ⟨w.heap.size, 3, none⟩ = some (.slice A zs.length c) := hCl.cell 3
    have hsz := hCl.lt
    by_cases hlt : q < zs.length
    · obtain ⟨g, o, ⟨x, vx, vy⟩, hzq, hzm, rfl, hVz, c0, c1, c2, c3⟩ := hw.out wr q hB hlt
      have hxm : x ∈ l := by rw [← hz.out]; exact List.mem_map_of_mem (f := (·.1)) hzm
      have hxC : jcount x ≤ C := by rw [← hC.out]; exact jcounts_mem hxm
      have hsn : jcounts ((zs.take (q + 1)).map (·.1)) + 1 = m + jcount x := by
        rw [List.take_add_one, hzq, hm]; simp [jcounts_app, jcounts_cons, jcounts_nil]; omega
      have hle : jcounts ((zs.take (q + 1)).map (·.1)) ≤ C := by
        have := jcounts_app ((zs.drop (q + 1)).map (·.1)) ((zs.take (q + 1)).map (·.1))
        rw [← List.map_append, List.take_append_drop, hz.out, hC.out] at this; omega
      have hcall := ih.out x hxm X wr vx vy hVz (by omega)
      dsimp only at c0 c1 c2 c3
      have hnx : ∀ w1, Below wr.heap.size wr w1 → Cel w1 w.heap.size 25 #[.int .u8 k, .string s, vn, .slice (some ⟨g, o, none⟩) zs.length c] ∧ Below w.heap.size w w1 := fun w1 h => ⟨hCl.below h hsz, hB.trans (h.mono (by omega))⟩
      obtain ⟨D, hD⟩ : ∃ D, jcount x = D := ⟨_, rfl⟩
      rw [hD] at hcall hsn hxC
      clear hCl hB hVz hzq hw ih hm hD
      replace hcall := Lib.hid hcall
      replace hnx := Lib.hid hnx
      replace hsn := Lib.hid hsn
      go_wp2_with fail
      refine hcall.out.mono ?_
      rintro e w1 ⟨rfl, hB1⟩
      clear c0 c1 c2 c3 hx3
      replace hB1 := Lib.hid hB1
      go_wp2_with fail
      go_roundw
      case rel => exact ⟨q + 1, m + D, by omega, by go_num, by go_num, hsn.out.symm, by rw [← hsn.out]; omega, (hnx.out _ hB1.out).1, (hnx.out _ hB1.out).2⟩
      case measure => simp [intOf]; omega
    · have hfull : zs.take q = zs := List.take_of_length_le (by omega)
      rw [hfull, hz.out, hC.out] at hm
      subst hm
      clear hCl hw ih hfull
      replace hB := Lib.hid hB
      go_wp2_with fail
      go_ret
      exact ⟨rfl, hB.out⟩
set_option maxHeartbeats 1000000 in
theorem refDeep_any : ∀ (j : Jsn) (X : Nat → Prop) (w : World) (vn vl : Value), JV w X j vn vl → jdeep j ≤ 1000000000000 → jbulk j ≤ 1000000000000000 →
    Calls Tryz.prog 105 #[.agg #[.int .u8 j.kind, .string j.text, vn, vl]] w fun e w' => e = .returned (.int .i64 (jdeep j)) ∧ Below w.heap.size w w' := by
  refine Jsn.ind fun k s n l ih X w vn vl hV hc hbk => ?_
  obtain ⟨_, _, hl, _, hkids⟩ := bulk_parts hbk
  dsimp only at hl hkids
  have hkid : ∀ x ∈ l, jbulk x ≤ 1000000000000000 := fun x hx => by have := hkids x hx; omega
  clear hkids hbk
  replace hkid := Lib.hid hkid
  obtain ⟨A, c, zs, rfl, hz, h2, h3⟩ := hV.elems
  rw [jdeep_eq] at hc ⊢
  have hlen : zs.length = l.length := by rw [← hz, List.length_map]
  rw [← hlen] at hl
  clear hlen
  obtain ⟨C, hC⟩ : ∃ C, jdeeps l = C := ⟨_, rfl⟩
  rw [hC] at hc ⊢
  replace ih := Lib.hid ih
  replace hz := Lib.hid hz
  replace hC := Lib.hid hC
  have hw := Lib.hid (fun (wr : World) (i : Nat) (hB : Below w.heap.size w wr) (hi : i < zs.length) => JV.at h2 h3 hB hi)
  clear h2 h3 hV
  dsimp only
  go_enter Tryz.func105, Tryz.ntmps105
  go_wp2_with fail
  go_loopw [3, 4] (fun n i wr => ∃ q m : Nat, q ≤ zs.length ∧ i = .int .i64 q ∧ n = .int .i64 m ∧ m = jdeeps ((zs.take q).map (·.1)) ∧ m ≤ C ∧ Cel wr w.heap.size 25 #[.int .u8 k, .string s, vn, .slice A zs.length c] ∧ Below w.heap.size w wr) (fun _ i _ => zs.length - (intOf i).toNat)
  case atStart => exact ⟨0, 0, Nat.zero_le _, rfl, rfl, rfl, by omega, Cel.fresh _ _ _, (Below.refl _ _).alloc (Nat.le_refl _) _⟩
  case round =>
    obtain ⟨q, m, hq, rfl, rfl, hm, hmC, hCl, hB⟩ := hrel
    have hx3 : wr.cell? ⟨w.heap.size, 3, none⟩ = some (.slice A zs.length c) := hCl.cell 3
    have hsz := hCl.lt
    by_cases hlt : q < zs.length
    · obtain ⟨g, o, ⟨x, vx, vy⟩, hzq, hzm, rfl, hVz, c0, c1, c2, c3⟩ := hw.out wr q hB hlt
      have hxm : x ∈ l := by rw [← hz.out]; exact List.mem_map_of_mem (f := (·.1)) hzm
      have hxC : jdeep x ≤ C := by rw [← hC.out]; exact jdeeps_mem hxm
      have hsn : jdeeps ((zs.take (q + 1)).map (·.1)) = max m (jdeep x) := by
        rw [List.take_add_one, hzq, hm]; simp [jdeeps_app, jdeeps_cons, jdeeps_nil]
      have hcall := ih.out x hxm X wr vx vy hVz (by omega) (hkid.out x hxm)
      dsimp only at c0 c1 c2 c3
      have hnx : ∀ w1, Below wr.heap.size wr w1 → Cel w1 w.heap.size 25 #[.int .u8 k, .string s, vn, .slice (some ⟨g, o, none⟩) zs.length c] ∧ Below w.heap.size w w1 := fun w1 h => ⟨hCl.below h hsz, hB.trans (h.mono (by omega))⟩
      obtain ⟨D, hD⟩ : ∃ D, jdeep x = D := ⟨_, rfl⟩
      rw [hD] at hcall hsn hxC
      clear hCl hB hVz hzq hw ih hm hD
      replace hcall := Lib.hid hcall
      replace hnx := Lib.hid hnx
      replace hsn := Lib.hid hsn
      go_wp2_with fail
      refine hcall.out.mono ?_
      rintro e w1 ⟨rfl, hB1⟩
      clear c0 c1 c2 c3 hx3
      replace hB1 := Lib.hid hB1
      go_wp2_with fail
      go_roundw
      case rel => exact ⟨q + 1, max m D, by omega, by go_num, by go_num, hsn.out.symm, by omega, (hnx.out _ hB1.out).1, (hnx.out _ hB1.out).2⟩
      case measure => simp [intOf]; omega
    · have hfull : zs.take q = zs := List.take_of_length_le (by omega)
      rw [hfull, hz.out, hC.out] at hm
      subst hm
      clear hCl hw ih hfull
      replace hB := Lib.hid hB
      go_wp2_with fail
      go_ret
      exact ⟨rfl, hB.out⟩
end Go.Proofs.YtamcbgkppgdniaaGreatDoor


/-
  The walks of slices.ContainsFunc over JSON values, json.count and json.deep.
-/
namespace Go.Proofs.YtamcbgkppgdniaaGreatDoor
open Go.RowKit

/-- A function value that answers p of each of these values, wherever they are read. -/
def PredJ (g : Nat) (lb : Array Value) (p : Jsn → Bool) (w : World) (X : Nat → Prop) (l : List Jsn) : Prop :=
  ∀ (W : World) (x : Jsn) (vn vl : Value), x ∈ l → Below w.heap.size w W → JV W X x vn vl → Calls Tryz.prog g (#[.agg #[.int .u8 x.kind, .string x.text, vn, vl]] ++ lb) W fun e w' => e = .returned (.bool (p x)) ∧ Below W.heap.size W w'
def IdxEnd (b : Bool) (w : World) (e : Ending) (w' : World) : Prop := ∃ i : Int, e = .returned (.int .i64 i) ∧ decide (0 ≤ i) = b ∧ Below w.heap.size w w'
theorem take_any {zs : List JE} {q : Nat} {z : JE} (h : zs[q]? = some z) (p : Jsn → Bool) : ((zs.take (q + 1)).map (·.1)).any p = (((zs.take q).map (·.1)).any p || p z.1) := by
  rw [List.take_add_one, h]; simp
theorem any_of_take {zs : List JE} {q : Nat} {z : JE} (h : zs[q]? = some z) (p : Jsn → Bool) (hp : p z.1 = true) : (zs.map (·.1)).any p = true := by
  rw [List.any_eq_true]
  exact ⟨z.1, List.mem_map_of_mem (f := (·.1)) (List.mem_of_getElem? h), hp⟩

set_option maxHeartbeats 1000000 in
theorem idxFuncJ_any (g : Nat) (lb : Array Value) (p : Jsn → Bool) (eg : ∀ args w, (callFunc g args).run Tryz.prog w = .ok (.enter g args) w) (A : Option Addr) (c : Nat) (zs : List JE) (X : Nat → Prop) (w : World) (hl : zs.length ≤ 1000000000000000)
    (h2 : ∀ z ∈ zs, JV w X z.1 z.2.1 z.2.2) (h3 : 0 < zs.length → ∃ g o, A = some ⟨g, o, none⟩ ∧ X g ∧ g < w.heap.size ∧ ∀ j z, zs[j]? = some z → ∀ (i : Nat) (u : Value), (encJ z)[i]? = some u → w.cell? ⟨g, o + j * 4 + i, none⟩ = some u)
    (hp : PredJ g lb p w X (zs.map (·.1))) :
    Calls Tryz.prog 176 #[.slice A zs.length c, .func (.func g) #[] lb] w (IdxEnd ((zs.map (·.1)).any p) w) := by
  have hw := Lib.hid (fun (wr : World) (i : Nat) (hB : Below w.heap.size w wr) (hi : i < zs.length) => JV.at h2 h3 hB hi)
  clear h2 h3
  obtain ⟨R, hR⟩ : ∃ R, (zs.map (·.1)).any p = R := ⟨_, rfl⟩
  rw [hR]
  replace hp := Lib.hid hp
  replace hR := Lib.hid hR
  go_enter Tryz.func176, Tryz.ntmps176
  go_wp2_with fail
  go_loopw [8] (fun i wr => ∃ q : Nat, q ≤ zs.length ∧ i = .int .i64 q ∧ ((zs.take q).map (·.1)).any p = false ∧ Below w.heap.size w wr) (fun i _ => zs.length - (intOf i).toNat)
  case atStart => exact ⟨0, Nat.zero_le _, rfl, rfl, Below.refl _ _⟩
  case round =>
    obtain ⟨q, hq, rfl, hno, hB⟩ := hrel
    by_cases hlt : q < zs.length
    · obtain ⟨g', o, ⟨x, vx, vy⟩, hzq, hzm, rfl, hVz, c0, c1, c2, c3⟩ := hw.out wr q hB hlt
      have hcall := hp.out wr x vx vy (List.mem_map_of_mem (f := (·.1)) hzm) hB hVz
      dsimp only at c0 c1 c2 c3
      have htk := take_any hzq p
      have hyes := any_of_take hzq p
      rw [hno, Bool.false_or] at htk
      rw [hR.out] at hyes
      obtain ⟨y, hy⟩ : ∃ y, p x = y := ⟨_, rfl⟩
      dsimp only at htk hyes
      rw [hy] at hcall htk hyes
      have hbs := hB.size
      clear hzq hVz hno hw hp hy hzm
      replace hcall := Lib.hid hcall
      replace htk := Lib.hid htk
      replace hyes := Lib.hid hyes
      replace hB := Lib.hid hB
      go_wp2_with fail
      refine hcall.out.mono ?_
      rintro e w1 ⟨rfl, hB1⟩
      have hB2 := hB.out.trans (hB1.mono hbs)
      clear c0 c1 c2 c3 hcall hB hB1
      replace hB2 := Lib.hid hB2
      cases y
      · clear hyes
        go_wp2_with fail
        go_roundw
        case rel => exact ⟨q + 1, by omega, by go_num, htk.out, hB2.out⟩
        case measure => simp [intOf]; omega
      · have hR1 : R = true := hyes.out rfl
        subst hR1
        clear hyes htk
        go_wp2_with fail
        go_ret
        exact ⟨q, rfl, decide_eq_true (by omega), hB2.out⟩
    · have hfull : zs.take q = zs := List.take_of_length_le (by omega)
      rw [hfull, hR.out] at hno
      subst hno
      clear hw hp hfull hR
      replace hB := Lib.hid hB
      go_wp2_with fail
      go_ret
      exact ⟨-1, rfl, rfl, hB.out⟩

set_option maxHeartbeats 1000000 in
theorem containsJ_any (g : Nat) (lb : Array Value) (p : Jsn → Bool) (eg : ∀ args w, (callFunc g args).run Tryz.prog w = .ok (.enter g args) w) (A : Option Addr) (c : Nat) (zs : List JE) (X : Nat → Prop) (w : World) (hl : zs.length ≤ 1000000000000000)
    (h2 : ∀ z ∈ zs, JV w X z.1 z.2.1 z.2.2) (h3 : 0 < zs.length → ∃ g o, A = some ⟨g, o, none⟩ ∧ X g ∧ g < w.heap.size ∧ ∀ j z, zs[j]? = some z → ∀ (i : Nat) (u : Value), (encJ z)[i]? = some u → w.cell? ⟨g, o + j * 4 + i, none⟩ = some u)
    (hp : PredJ g lb p w X (zs.map (·.1))) :
    Calls Tryz.prog 150 #[.slice A zs.length c, .func (.func g) #[] lb] w fun e w' => e = .returned (.bool ((zs.map (·.1)).any p)) ∧ Below w.heap.size w w' := by
  have hi := Lib.hid (idxFuncJ_any g lb p eg A c zs X w hl h2 h3 hp)
  obtain ⟨R, hR⟩ : ∃ R, (zs.map (·.1)).any p = R := ⟨_, rfl⟩
  rw [hR] at hi ⊢
  clear h2 h3 hp eg hR
  go_enter Tryz.func150, Tryz.ntmps150
  go_wp2_with fail
  refine hi.out.mono ?_
  rintro e w1 ⟨i, rfl, hd, hB⟩
  subst hd
  clear hi
  replace hB := Lib.hid hB
  go_wp2_with fail
  go_ret
  exact ⟨rfl, hB.out⟩

theorem takes_le (zs : List JE) (q : Nat) {C : Nat} (h : jcounts (zs.map (·.1)) = C) : jcounts ((zs.take q).map (·.1)) ≤ C := by
  have := jcounts_app ((zs.drop q).map (·.1)) ((zs.take q).map (·.1))
  rw [← List.map_append, List.take_append_drop, h] at this; omega
def CountEnd (n : Nat) (w : World) (e : Ending) (w' : World) : Prop := ∃ m : Nat, e = .returned (.int .i64 m) ∧ (65536 < m ∨ m = n) ∧ 1 ≤ m ∧ m ≤ n ∧ Below w.heap.size w w'
set_option maxHeartbeats 1000000 in
theorem jsnCount_any : ∀ (j : Jsn) (X : Nat → Prop) (w : World) (vn vl : Value), JV w X j vn vl → jcount j ≤ 1000000000000 →
    Calls Tryz.prog 95 #[.agg #[.int .u8 j.kind, .string j.text, vn, vl]] w (CountEnd (jcount j) w) := by
  refine Jsn.ind fun k s n l ih X w vn vl hV hc => ?_
  obtain ⟨A, c, zs, rfl, hz, h2, h3⟩ := hV.elems
  rw [jcount_eq] at hc ⊢
  have hlen : zs.length = l.length := by rw [← hz, List.length_map]
  have hlc := jlen_count l
  rw [← hlen] at hlc
  clear hlen
  obtain ⟨C, hC⟩ : ∃ C, jcounts l = C := ⟨_, rfl⟩
  rw [hC] at hc hlc ⊢
  replace ih := Lib.hid ih
  replace hz := Lib.hid hz
  replace hC := Lib.hid hC
  have hw := Lib.hid (fun (wr : World) (i : Nat) (hB : Below w.heap.size w wr) (hi : i < zs.length) => JV.at h2 h3 hB hi)
  clear h2 h3 hV
  dsimp only
  go_enter Tryz.func95, Tryz.ntmps95
  go_wp2_with fail
  go_loopw [3, 9] (fun n i wr => ∃ q m : Nat, q ≤ zs.length ∧ i = .int .i64 q ∧ n = .int .i64 m ∧ (65536 < m ∨ m = jcounts ((zs.take q).map (·.1)) + 1) ∧ 1 ≤ m ∧ m ≤ jcounts ((zs.take q).map (·.1)) + 1 ∧ Below w.heap.size w wr) (fun _ i _ => zs.length - (intOf i).toNat)
  case atStart => exact ⟨0, 1, Nat.zero_le _, rfl, rfl, Or.inr rfl, by omega, Nat.le_refl _, (Below.refl _ _).alloc (Nat.le_refl _) _⟩
  case round =>
    obtain ⟨q, m, hq, rfl, rfl, hm, hm1, hmC, hB⟩ := hrel
    have hle := takes_le zs q (C := C) (by rw [hz.out, hC.out])
    by_cases hlt : q < zs.length
    · obtain ⟨g, o, ⟨x, vx, vy⟩, hzq, hzm, rfl, hVz, c0, c1, c2, c3⟩ := hw.out wr q hB hlt
      have hxm : x ∈ l := by rw [← hz.out]; exact List.mem_map_of_mem (f := (·.1)) hzm
      dsimp only at c0 c1 c2 c3 hVz
      obtain ⟨Ax, nx, cx, Ay, ny, cy, rfl, rfl⟩ := hVz.forms
      have hbs := hB.size
      by_cases hbig : 65536 < m
      · clear ih hw hVz hzq hzm hm
        replace hB := Lib.hid hB
        go_wp2_with fail
        go_ret
        exact ⟨m, rfl, Or.inl hbig, hm1, by omega, hB.out.alloc hbs _⟩
      · have hm' : m = jcounts ((zs.take q).map (·.1)) + 1 := by omega
        have hsn : jcounts ((zs.take (q + 1)).map (·.1)) = jcounts ((zs.take q).map (·.1)) + jcount x := by
          rw [List.take_add_one, hzq]; simp [jcounts_app, jcounts_cons, jcounts_nil]
        have hle2 := takes_le zs (q + 1) (C := C) (by rw [hz.out, hC.out])
        have hcall := ih.out x hxm X _ _ _ (hVz.alloc (.cells #[.int .u8 x.kind, .string x.text, .slice Ax nx cx, .slice Ay ny cy] 25)) (by omega)
        obtain ⟨D, hD⟩ : ∃ D, jcount x = D := ⟨_, rfl⟩
        obtain ⟨S, hS⟩ : ∃ S, jcounts ((zs.take q).map (·.1)) = S := ⟨_, rfl⟩
        rw [hD] at hcall hsn
        rw [hS] at hm' hsn
        rw [hsn] at hle2
        have hB1 := hB.alloc hbs (.cells #[.int .u8 x.kind, .string x.text, .slice Ax nx cx, .slice Ay ny cy] 25)
        clear ih hw hVz hzq hzm hm hmC hle hS hD hB
        replace hcall := Lib.hid hcall
        replace hsn := Lib.hid hsn
        replace hB1 := Lib.hid hB1
        replace hm' := Lib.hid hm'
        go_wp2_with fail
        refine hcall.out.mono ?_
        rintro e w1 ⟨m2, rfl, hm2, hm3, hm4, hB2⟩
        have hB3 := hB1.out.trans (hB2.mono (by simp; omega))
        have hmS := hm'.out
        have hrel2 : (65536 < m + m2 ∨ m + m2 = jcounts ((zs.take (q + 1)).map (·.1)) + 1) ∧ 1 ≤ m + m2 ∧ m + m2 ≤ jcounts ((zs.take (q + 1)).map (·.1)) + 1 := by
          rw [hsn.out]
          refine ⟨?_, by omega, by omega⟩
          rcases hm2 with h | h
          · left; omega
          · right; omega
        clear c0 c1 c2 c3 hm2 hB1 hB2 hmS
        replace hB3 := Lib.hid hB3
        replace hrel2 := Lib.hid hrel2
        go_wp2_with fail
        go_roundw
        case rel => exact ⟨q + 1, m + m2, by omega, by go_num, by go_num, hrel2.out.1, hrel2.out.2.1, hrel2.out.2.2, hB3.out⟩
        case measure => simp [intOf]; omega
    · have hfull : zs.take q = zs := List.take_of_length_le (by omega)
      rw [hfull, hz.out, hC.out] at hm hmC
      clear hw ih hfull hle
      replace hB := Lib.hid hB
      replace hm := Lib.hid hm
      go_wp2_with fail
      go_ret
      exact ⟨m, rfl, hm.out, hm1, hmC, hB.out⟩

def DeepSays (x : Jsn) : Prop := ∀ (X : Nat → Prop) (w : World) (vn vl : Value) (m : Nat), JV w X x vn vl → m ≤ 1000 → jbulk x ≤ 1000000000000000 →
    Calls Tryz.prog 94 #[.agg #[.int .u8 x.kind, .string x.text, vn, vl], .int .i64 m] w fun e w' => e = .returned (.bool (decide (65 < m + jdeep x))) ∧ Below w.heap.size w w'
set_option maxHeartbeats 1000000 in
theorem deepC_any (x : Jsn) (ih : DeepSays x) (b m : Nat) (X : Nat → Prop) (W : World) (vn vl : Value) (hm : m < 1000) (hbk : jbulk x ≤ 1000000000000000) (hc : W.cell? ⟨b, 0, none⟩ = some (.int .i64 m)) (hV : JV W X x vn vl) :
    Calls Tryz.prog 151 #[.agg #[.int .u8 x.kind, .string x.text, vn, vl], .pointer (some ⟨b, 0, none⟩)] W fun e w' => e = .returned (.bool (decide (65 < m + 1 + jdeep x))) ∧ Below W.heap.size W w' := by
  obtain ⟨Ax, nx, cx, Ay, ny, cy, rfl, rfl⟩ := hV.forms
  have hcall := ih X _ _ _ (m + 1) (hV.alloc (.cells #[.int .u8 x.kind, .string x.text, .slice Ax nx cx, .slice Ay ny cy] 25)) (by omega) hbk
  have hc2 := (World.cell?_alloc_lt W (.cells #[.int .u8 x.kind, .string x.text, .slice Ax nx cx, .slice Ay ny cy] 25) ⟨b, 0, none⟩ (World.block_lt_of_cell? W _ hc)).trans hc
  rw [Int.natCast_add] at hcall
  clear ih hV hc
  obtain ⟨R, hR⟩ : ∃ R, decide (65 < m + 1 + jdeep x) = R := ⟨_, rfl⟩
  rw [hR] at hcall ⊢
  clear hR
  replace hcall := Lib.hid hcall
  go_enter Tryz.func151, Tryz.ntmps151
  go_wp2_with fail
  refine hcall.out.mono ?_
  rintro e w1 ⟨rfl, hB⟩
  have hB2 := ((Below.refl W.heap.size W).alloc (Nat.le_refl _) (.cells #[.int .u8 x.kind, .string x.text, .slice Ax nx cx, .slice Ay ny cy] 25)).trans (hB.mono (by simp))
  clear hc2 hcall hB
  replace hB2 := Lib.hid hB2
  go_wp2_with fail
  go_ret
  exact ⟨rfl, hB2.out⟩

theorem deep_split (m : Nat) (hm : m ≤ 64) (l : List Jsn) : l.any (fun x => decide (65 < m + 1 + jdeep x)) = decide (65 < m + (jdeeps l + 1)) := by
  rw [Bool.eq_iff_iff, List.any_eq_true, decide_eq_true_eq]
  have := jdeeps_lt (64 - m) l
  constructor
  · rintro ⟨x, hx, h⟩
    have := this.2 ⟨x, hx, by have := of_decide_eq_true h; omega⟩
    omega
  · intro h
    obtain ⟨x, hx, h2⟩ := this.1 (by omega)
    exact ⟨x, hx, decide_eq_true (by omega)⟩
theorem enters89 : ∀ args w, (callFunc 151 args).run Tryz.prog w = .ok (.enter 151 args) w := fun _ _ => by kernel_rfl

set_option maxHeartbeats 1000000 in
/-- json.deep: is the value, that many deep already, deeper than may be? -/
theorem jsnDeep_any : ∀ (x : Jsn), DeepSays x := by
  refine Jsn.ind fun k s n l ih X w vn vl m hV hm hbk => ?_
  obtain ⟨_, _, hl, _, hkids⟩ := bulk_parts hbk
  dsimp only at hl hkids
  obtain ⟨Ax, nx, cx, _, _, _, rfl, _⟩ := hV.forms
  obtain ⟨A, c, zs, rfl, hz, h2, h3⟩ := hV.elems
  rw [jdeep_eq]
  have hlen : zs.length = l.length := by rw [← hz, List.length_map]
  rw [← hlen] at hl
  clear hlen
  by_cases hbig : 64 < m
  · have hR : decide (65 < m + (jdeeps l + 1)) = true := decide_eq_true (by omega)
    rw [hR]
    clear ih hV h2 h3 hR hkids hbk hz
    dsimp only
    go_enter Tryz.func94, Tryz.ntmps94
    go_wp2_with fail
    go_ret
    exact ⟨rfl, ((Below.refl _ _).alloc (Nat.le_refl _) _).alloc (by simp) _⟩
  · have hB1 := ((Below.refl w.heap.size w).alloc (Nat.le_refl _) (.cells #[.int .u8 k, .string s, .slice Ax nx cx, .slice A zs.length c] 25)).alloc (by simp) (.cells #[.int .i64 m] 3)
    have hcall := containsJ_any 151 #[.pointer (some ⟨w.heap.size + 1, 0, none⟩)] (fun x => decide (65 < m + 1 + jdeep x)) enters89 A c zs X ((w.alloc (.cells #[.int .u8 k, .string s, .slice Ax nx cx, .slice A zs.length c] 25)).alloc (.cells #[.int .i64 m] 3)) (by omega)
      (fun z hz' => (h2 z hz').later hB1) (fun hp => by
        obtain ⟨g, o, q1, q2, q3, q4⟩ := h3 hp
        exact ⟨g, o, q1, q2, by simp; omega, fun j z hz' i u hu => (hB1.cell (p := ⟨g, o + j * 4 + i, none⟩) q3).trans (q4 j z hz' i u hu)⟩)
      (fun W x vn vl hx hB hV => by
        rw [hz] at hx
        refine deepC_any x (ih x hx) (w.heap.size + 1) m X W vn vl (by omega) (by have := hkids x hx; omega) ?_ hV
        have hC := Cel.fresh (w.alloc (.cells #[.int .u8 k, .string s, .slice Ax nx cx, .slice A zs.length c] 25)) 3 #[.int .i64 m]
        have hs : (w.alloc (.cells #[.int .u8 k, .string s, .slice Ax nx cx, .slice A zs.length c] 25)).heap.size = w.heap.size + 1 := by simp
        rw [hs] at hC
        exact (hC.below hB hC.lt).cell 0)
    rw [hz, deep_split m (by omega)] at hcall
    obtain ⟨R, hR⟩ : ∃ R, decide (65 < m + (jdeeps l + 1)) = R := ⟨_, rfl⟩
    rw [hR] at hcall ⊢
    clear ih hV h2 h3 hR hkids hbk hz
    replace hcall := Lib.hid hcall
    replace hB1 := Lib.hid hB1
    have hbf : decide (64 < (m : Int)) = false := decide_eq_false (by omega)
    dsimp only
    go_enter Tryz.func94, Tryz.ntmps94
    go_wp2_with fail
    refine hcall.out.mono ?_
    rintro e w1 ⟨rfl, hB⟩
    have hB2 := hB1.out.trans (hB.mono (by simp; omega))
    clear hcall hB hB1
    replace hB2 := Lib.hid hB2
    go_wp2_with fail
    go_ret
    exact ⟨rfl, hB2.out⟩
end Go.Proofs.YtamcbgkppgdniaaGreatDoor


/-
  The walk of the document's Same over JSON values.
-/
namespace Go.Proofs.YtamcbgkppgdniaaGreatDoor
open Go.RowKit

theorem jtl_eq (s : ByteArray) : s.toList = s.data.toList := Go.Lib.toList_data s
theorem jstr_ext {a b : ByteArray} (h : a.data.toList = b.data.toList) : a = b := by
  cases a; cases b
  simp only [ByteArray.mk.injEq]
  exact Array.toList_inj.1 h
theorem jeq_t (a : ByteArray) : (a.toList == a.toList) = true := by simp
theorem jeq_f {a b : ByteArray} (h : a ≠ b) : (a.toList == b.toList) = false := by
  rw [jtl_eq, jtl_eq]
  cases h2 : (a.data.toList == b.data.toList) with
  | false => rfl
  | true => exact absurd (jstr_ext (eq_of_beq h2)) h
theorem StrL.at {w wr : World} {X : Nat → Prop} {L : List ByteArray} {A : Option Addr} {c n : Nat} (h : StrL w X (.slice A n c) L) (hB : Below w.heap.size w wr) {i : Nat} (hi : i < L.length) :
    ∃ g o, A = some ⟨g, o, none⟩ ∧ wr.cell? ⟨g, o + i, none⟩ = some (.string L[i]) := by
  obtain ⟨A', c', he, h1⟩ := h
  injection he with he1 _ _
  subst he1
  obtain ⟨g, o, q1, _, q3, q4⟩ := h1 (by omega)
  exact ⟨g, o, q1, (hB.cell (p := ⟨g, o + i, none⟩) q3).trans (q4 i _ (List.getElem?_eq_getElem hi))⟩
theorem StrL.len {w : World} {X : Nat → Prop} {v : Value} {L : List ByteArray} (h : StrL w X v L) : ∃ A c, v = .slice A L.length c := by
  obtain ⟨A, c, h1, _⟩ := h
  exact ⟨A, c, h1⟩

theorem js_kind {k s n l k' s' n' l'} (h : k ≠ k') : jsame ⟨k, s, n, l⟩ ⟨k', s', n', l'⟩ = false := by
  rw [jsame_eq1]; simp [h]
theorem js_text {k s n l k' s' n' l'} (h : s ≠ s') : jsame ⟨k, s, n, l⟩ ⟨k', s', n', l'⟩ = false := by
  rw [jsame_eq1]; simp [h]
theorem js_names {k s n l k' s' n' l'} (h : n ≠ n') : jsame ⟨k, s, n, l⟩ ⟨k', s', n', l'⟩ = false := by
  rw [jsame_eq1]; simp [h]
theorem js_len {k s n l k' s' n' l'} (h : l.length ≠ l'.length) : jsame ⟨k, s, n, l⟩ ⟨k', s', n', l'⟩ = false := by
  rw [jsame_eq1]; simp [h]
theorem js_list {k s n l l'} (h : l.length = l'.length) : jsame ⟨k, s, n, l⟩ ⟨k, s, n, l'⟩ = (l.zip l').all fun p => jsame p.1 p.2 := by
  rw [jsame_eq1]; simp [h]
/-- How far two lists are the same, item by item. -/
def sameTo (zs ys : List JE) (q : Nat) : Bool := ((zs.zip ys).take q).all fun p => jsame p.1.1 p.2.1
theorem sameTo_step {zs ys : List JE} {q : Nat} {z y : JE} (h1 : zs[q]? = some z) (h2 : ys[q]? = some y) : sameTo zs ys (q + 1) = (sameTo zs ys q && jsame z.1 y.1) := by
  unfold sameTo
  have h3 : (zs.zip ys)[q]? = some (z, y) := List.getElem?_zip_eq_some.2 ⟨h1, h2⟩
  rw [List.take_add_one, h3]
  simp
theorem sameTo_full (zs ys : List JE) : sameTo zs ys (max zs.length ys.length) = ((zs.map (·.1)).zip (ys.map (·.1))).all fun p => jsame p.1 p.2 := by
  unfold sameTo
  rw [List.take_of_length_le (by rw [List.length_zip]; omega), List.zip_map, List.all_map]
  rfl
theorem sameTo_false {zs ys : List JE} {q : Nat} (h : sameTo zs ys q = false) : (((zs.map (·.1)).zip (ys.map (·.1))).all fun p => jsame p.1 p.2) = false := by
  rw [← sameTo_full]
  unfold sameTo at h ⊢
  rw [List.take_of_length_le (by rw [List.length_zip]; omega)]
  rw [List.all_eq_false] at h ⊢
  obtain ⟨p, hp, hn⟩ := h
  exact ⟨p, List.mem_of_mem_take hp, hn⟩

def SameSays (f : Nat) (a : Jsn) : Prop := ∀ (b : Jsn) (X Y : Nat → Prop) (w : World) (vn vl un ul : Value), JV w X a vn vl → JV w Y b un ul → jbulk a ≤ 1000000000000000 → jbulk b ≤ 1000000000000000 →
    Calls Tryz.prog f #[.agg #[.int .u8 a.kind, .string a.text, vn, vl], .agg #[.int .u8 b.kind, .string b.text, un, ul]] w fun e w' => e = .returned (.bool (jsame a b)) ∧ Below w.heap.size w w'

set_option maxHeartbeats 2000000 in
theorem refSameJ_any : ∀ (a : Jsn), SameSays 36 a := by
  refine Jsn.ind fun k s n l ih b X Y w vn vl un ul hV hU hbk hbu => ?_
  obtain ⟨k', s', n', l'⟩ := b
  obtain ⟨_, hn, hl, _, hkids⟩ := bulk_parts hbk
  obtain ⟨_, hn', hl', _, hkids'⟩ := bulk_parts hbu
  dsimp only at hl hkids hl' hkids' hn hn'
  have hnam := hV.names
  have hnam' := hU.names
  obtain ⟨A1, c1, rfl⟩ := hnam.len
  obtain ⟨A2, c2, rfl⟩ := hnam'.len
  obtain ⟨B1, d1, zs, rfl, hz, h2, h3⟩ := hV.elems
  obtain ⟨B2, d2, ys, rfl, hy, h4, h5⟩ := hU.elems
  dsimp only at hnam hnam' ⊢
  have hlen : zs.length = l.length := by rw [← hz, List.length_map]
  have hlen' : ys.length = l'.length := by rw [← hy, List.length_map]
  by_cases hk : k = k'
  case neg =>
    rw [js_kind hk]
    have hk1 : (k == k') = false := beq_eq_false_iff_ne.2 hk
    have hk2 : (k != k') = true := by simp [hk]
    clear ih hV hU h2 h3 h4 h5 hz hy hnam hnam' hkids hkids' hlen hlen' hbk hbu
    go_enter Tryz.func36, Tryz.ntmps36
    go_wp2_with fail
    go_ret
    exact ⟨rfl, ((Below.refl _ _).alloc (Nat.le_refl _) _).alloc (by simp) _⟩
  subst hk
  by_cases hs : s = s'
  case neg =>
    rw [js_text hs]
    have hk1 := jeq_f hs
    clear ih hV hU h2 h3 h4 h5 hz hy hnam hnam' hkids hkids' hlen hlen' hbk hbu
    go_enter Tryz.func36, Tryz.ntmps36
    go_wp2_with fail
    go_ret
    exact ⟨rfl, ((Below.refl _ _).alloc (Nat.le_refl _) _).alloc (by simp) _⟩
  subst hs
  by_cases hnl : n.length = n'.length
  case neg =>
    rw [js_names (fun h => hnl (by rw [h]))]
    have hk1 : ((n.length : Int) == (n'.length : Int)) = false := beq_eq_false_iff_ne.2 (by omega)
    have hk2 : ((n.length : Int) != (n'.length : Int)) = true := by rw [bne_iff_ne]; omega
    clear ih hV hU h2 h3 h4 h5 hz hy hnam hnam' hkids hkids' hlen hlen' hbk hbu
    go_enter Tryz.func36, Tryz.ntmps36
    go_wp2_with fail
    go_ret
    exact ⟨rfl, ((Below.refl _ _).alloc (Nat.le_refl _) _).alloc (by simp) _⟩
  by_cases hll : zs.length = ys.length
  case neg =>
    rw [js_len (by omega)]
    have hk1 : ((zs.length : Int) == (ys.length : Int)) = false := beq_eq_false_iff_ne.2 (by omega)
    have hk2 : ((zs.length : Int) != (ys.length : Int)) = true := by rw [bne_iff_ne]; omega
    have hk3 : ((n.length : Int) == (n'.length : Int)) = true := beq_iff_eq.2 (by omega)
    have hk4 : ((n.length : Int) != (n'.length : Int)) = false := by simp [hnl]
    clear ih hV hU h2 h3 h4 h5 hz hy hnam hnam' hkids hkids' hlen hlen' hbk hbu hnl
    go_enter Tryz.func36, Tryz.ntmps36
    go_wp2_with fail
    go_ret
    exact ⟨rfl, ((Below.refl _ _).alloc (Nat.le_refl _) _).alloc (by simp) _⟩
  have hlz : zs.length ≤ 1000000000000000 := by omega
  have hnz : n.length ≤ 1000000000000000 := hn
  have hjl : l.length = l'.length := by omega
  obtain ⟨W0, hW0⟩ : ∃ W0, (w.alloc (.cells #[.int .u8 k, .string s, .slice A1 n.length c1, .slice B1 zs.length d1] 25)).alloc (.cells #[.int .u8 k, .string s, .slice A2 n'.length c2, .slice B2 ys.length d2] 25) = W0 := ⟨_, rfl⟩
  have hB0 : Below w.heap.size w W0 := by rw [← hW0]; exact ((Below.refl _ _).alloc (Nat.le_refl _) _).alloc (by simp) _
  have hC1 : Cel W0 w.heap.size 25 #[.int .u8 k, .string s, .slice A1 n.length c1, .slice B1 zs.length d1] := by rw [← hW0]; exact (Cel.fresh _ _ _).alloc _
  have hC2 : Cel W0 (w.heap.size + 1) 25 #[.int .u8 k, .string s, .slice A2 n'.length c2, .slice B2 ys.length d2] := by
    rw [← hW0]
    have := Cel.fresh (w.alloc (.cells #[.int .u8 k, .string s, .slice A1 n.length c1, .slice B1 zs.length d1] 25)) 25 #[.int .u8 k, .string s, .slice A2 n'.length c2, .slice B2 ys.length d2]
    simpa using this
  rw [← hnl] at hW0 hC2 hnam' ⊢
  rw [← hll] at hW0 hC2 ⊢
  have hat1 := Lib.hid (fun (i : Nat) (hi : i < n.length) => hnam.at hB0 hi)
  have hat2 := Lib.hid (fun (i : Nat) (hi : i < n'.length) => hnam'.at hB0 hi)
  have hw1 := Lib.hid (fun (wr : World) (i : Nat) (hB : Below w.heap.size w wr) (hi : i < zs.length) => JV.at h2 h3 hB hi)
  have hw2 := Lib.hid (fun (wr : World) (i : Nat) (hB : Below w.heap.size w wr) (hi : i < ys.length) => JV.at h4 h5 hB hi)
  have hb1 : ∀ x ∈ l, jbulk x ≤ 1000000000000000 := fun x hx => by have := hkids x hx; omega
  have hb2 : ∀ x ∈ l', jbulk x ≤ 1000000000000000 := fun x hx => by have := hkids' x hx; omega
  have x12 : W0.cell? ⟨w.heap.size, 2, none⟩ = some (.slice A1 n.length c1) := hC1.cell 2
  have x22 : W0.cell? ⟨w.heap.size + 1, 2, none⟩ = some (.slice A2 n.length c2) := hC2.cell 2
  clear hV hU h2 h3 h4 h5 hnam hnam' hkids hkids' hlen hlen' hbk hbu
  replace ih := Lib.hid ih
  replace hb1 := Lib.hid hb1
  replace hb2 := Lib.hid hb2
  replace hz := Lib.hid hz
  replace hy := Lib.hid hy
  replace hnl := Lib.hid hnl
  replace hll := Lib.hid hll
  replace hjl := Lib.hid hjl
  replace hC1 := Lib.hid hC1
  replace hC2 := Lib.hid hC2
  replace hB0 := Lib.hid hB0
  replace hW0 := Lib.hid hW0
  go_enter Tryz.func36, Tryz.ntmps36
  go_wp2_with fail
  rw [hW0.out]
  clear hW0
  go_loopw [5] (fun i wr => ∃ q m : Nat, q ≤ n.length ∧ i = .int .i64 q ∧ n.take q = n'.take q ∧ wr = W0.drewN m) (fun i _ => n.length - (intOf i).toNat)
  case atStart => exact ⟨0, 0, Nat.zero_le _, rfl, rfl, rfl⟩
  case round =>
    obtain ⟨q, m, hq, rfl, htk, rfl⟩ := hrel
    by_cases hlt : q < n.length
    · have hlt' : q < n'.length := by rw [← hnl.out]; exact hlt
      obtain ⟨g1, o1, rfl, y1⟩ := hat1.out q hlt
      obtain ⟨g2, o2, rfl, y2⟩ := hat2.out q hlt'
      have e1 : n.take (q + 1) = n.take q ++ [n[q]] := by rw [List.take_add_one, List.getElem?_eq_getElem hlt]; rfl
      have e2 : n'.take (q + 1) = n'.take q ++ [n'[q]] := by rw [List.take_add_one, List.getElem?_eq_getElem hlt']; rfl
      have e3 : n[q] ≠ n'[q] → n ≠ n' := fun h h2 => h (by subst h2; rfl)
      obtain ⟨S1, hS1⟩ : ∃ S, n[q] = S := ⟨_, rfl⟩
      obtain ⟨S2, hS2⟩ : ∃ S, n'[q] = S := ⟨_, rfl⟩
      rw [hS1] at y1 e1 e3
      rw [hS2] at y2 e2 e3
      have hq0 : (0 : Int) ≤ (q : Int) := by omega
      have hq1 : (q : Int) < (n.length : Int) := by omega
      clear hS1 hS2
      by_cases heq : S1 = S2
      · subst heq
        have htk2 : n.take (q + 1) = n'.take (q + 1) := by rw [e1, e2, htk]
        clear e1 e2 e3 htk
        replace htk2 := Lib.hid htk2
        go_wp2_with fail
        go_quiet (fail)
        go_wp2_with fail
        go_roundw
        case rel => exact ⟨q + 1, m + nq, by omega, by go_num, htk2.out, by first | rfl | rw [World.drewN_drewN]⟩
        case measure => simp [intOf]; omega
      · have hj := js_names (k := k) (s := s) (l := l) (k' := k) (s' := s) (l' := l') (e3 heq)
        have hne := jeq_f heq
        have hBe := bel_drewN hB0.out m
        replace hj := Lib.hid hj
        clear e1 e2 e3 htk heq
        replace hBe := Lib.hid hBe
        go_wp2_with fail
        go_quiet (fail)
        go_wp2_with fail
        go_ret
        exact ⟨by rw [hj.out]; rfl, by first | exact bel_drewN hBe.out nq | exact bel_drewN hB0.out _⟩
    · have hnn : n = n' := by
        rw [List.take_of_length_le (by omega), List.take_of_length_le (by rw [← hnl.out]; omega)] at htk
        exact htk
      subst hnn
      have hB1 := bel_drewN hB0.out m
      have hD1 := hC1.out.drewN m
      have hD2 := hC2.out.drewN m
      have hjs := js_list (k := k) (s := s) (n := n) hjl.out
      have hfin := sameTo_full zs ys
      have hff := fun q => sameTo_false (zs := zs) (ys := ys) (q := q)
      rw [hz.out, hy.out] at hfin
      rw [hz.out, hy.out] at hff
      obtain ⟨J, hJ⟩ : ∃ J, (l.zip l').all (fun p => jsame p.1 p.2) = J := ⟨_, rfl⟩
      rw [hJ] at hfin hff hjs
      replace hjs := Lib.hid hjs
      have hmx : max zs.length ys.length = zs.length := by have := hll.out; omega
      rw [hmx] at hfin
      clear hat1 hat2 htk hJ hmx hB0 hC1 hC2
      replace hB1 := Lib.hid hB1
      replace hD1 := Lib.hid hD1
      replace hD2 := Lib.hid hD2
      replace hfin := Lib.hid hfin
      replace hff := Lib.hid hff
      go_wp2_with fail
      clear x12 x22
      go_loopw [6] (fun i wr => ∃ q : Nat, q ≤ zs.length ∧ i = .int .i64 q ∧ sameTo zs ys q = true ∧ Cel wr w.heap.size 25 #[.int .u8 k, .string s, .slice A1 n.length c1, .slice B1 zs.length d1] ∧ Cel wr (w.heap.size + 1) 25 #[.int .u8 k, .string s, .slice A2 n.length c2, .slice B2 zs.length d2] ∧ Below w.heap.size w wr) (fun i _ => zs.length - (intOf i).toNat)
      case atStart => exact ⟨0, Nat.zero_le _, rfl, rfl, hD1.out, hD2.out, hB1.out⟩
      case round =>
        obtain ⟨q, hq, rfl, hsm, hC1, hC2, hB⟩ := hrel
        have x13 : wr.cell? ⟨w.heap.size, 3, none⟩ = some (.slice B1 zs.length d1) := hC1.cell 3
        have x23 : wr.cell? ⟨w.heap.size + 1, 3, none⟩ = some (.slice B2 zs.length d2) := hC2.cell 3
        have hsz := hC1.lt
        have hsz2 := hC2.lt
        by_cases hlt : q < zs.length
        · have hlt' : q < ys.length := by rw [← hll.out]; exact hlt
          obtain ⟨g1, o1, ⟨x, vx, vy⟩, hzq, hzm, rfl, hVz, a0, a1, a2, a3⟩ := hw1.out wr q hB hlt
          obtain ⟨g2, o2, ⟨x', ux, uy⟩, hyq, hym, rfl, hUy, b0, b1, b2, b3⟩ := hw2.out wr q hB hlt'
          dsimp only at hVz a0 a1 a2 a3 hUy b0 b1 b2 b3
          have hxm : x ∈ l := by rw [← hz.out]; exact List.mem_map_of_mem (f := (·.1)) hzm
          have hym' : x' ∈ l' := by rw [← hy.out]; exact List.mem_map_of_mem (f := (·.1)) hym
          obtain ⟨Ax, nx, cx, Ay, ny, cy, rfl, rfl⟩ := hVz.forms
          obtain ⟨Bx, mx, ex, By, my, ey, rfl, rfl⟩ := hUy.forms
          have hstep := sameTo_step hzq hyq
          rw [hsm, Bool.true_and] at hstep
          obtain ⟨r, hr⟩ : ∃ r, jsame x x' = r := ⟨_, rfl⟩
          dsimp only at hstep
          rw [hr] at hstep
          have hcall : ∀ W, Below wr.heap.size wr W → Calls Tryz.prog 36 #[.agg #[.int .u8 x.kind, .string x.text, .slice Ax nx cx, .slice Ay ny cy], .agg #[.int .u8 x'.kind, .string x'.text, .slice Bx mx ex, .slice By my ey]] W fun e w' => e = .returned (.bool r) ∧ Below W.heap.size W w' := fun W h => by
            have := ih.out x hxm x' X Y W _ _ _ _ (hVz.later h) (hUy.later h) (hb1.out x hxm) (hb2.out x' hym')
            rwa [hr] at this
          have hg1 : g1 < wr.heap.size := World.block_lt_of_cell? wr _ a0
          have hg2 : g2 < wr.heap.size := World.block_lt_of_cell? wr _ b0
          have hS : ∀ W, Below wr.heap.size wr W → ((W.cell? ⟨w.heap.size, 3, none⟩ = some (.slice (some ⟨g1, o1, none⟩) zs.length d1) ∧ W.cell? ⟨w.heap.size + 1, 3, none⟩ = some (.slice (some ⟨g2, o2, none⟩) zs.length d2)) ∧
              (W.cell? ⟨g1, o1 + q * 4, none⟩ = some (.int .u8 x.kind) ∧ W.cell? ⟨g1, o1 + q * 4 + 1, none⟩ = some (.string x.text) ∧ W.cell? ⟨g1, o1 + q * 4 + 2, none⟩ = some (.slice Ax nx cx) ∧ W.cell? ⟨g1, o1 + q * 4 + 3, none⟩ = some (.slice Ay ny cy)) ∧
              (W.cell? ⟨g2, o2 + q * 4, none⟩ = some (.int .u8 x'.kind) ∧ W.cell? ⟨g2, o2 + q * 4 + 1, none⟩ = some (.string x'.text) ∧ W.cell? ⟨g2, o2 + q * 4 + 2, none⟩ = some (.slice Bx mx ex) ∧ W.cell? ⟨g2, o2 + q * 4 + 3, none⟩ = some (.slice By my ey))) ∧ Below wr.heap.size wr W := fun W h =>
            ⟨⟨⟨(h.cell (p := ⟨w.heap.size, 3, none⟩) hsz).trans x13, (h.cell (p := ⟨w.heap.size + 1, 3, none⟩) hsz2).trans x23⟩,
              ⟨(h.cell (p := ⟨g1, o1 + q * 4, none⟩) hg1).trans a0, (h.cell (p := ⟨g1, o1 + q * 4 + 1, none⟩) hg1).trans a1, (h.cell (p := ⟨g1, o1 + q * 4 + 2, none⟩) hg1).trans a2, (h.cell (p := ⟨g1, o1 + q * 4 + 3, none⟩) hg1).trans a3⟩,
              ⟨(h.cell (p := ⟨g2, o2 + q * 4, none⟩) hg2).trans b0, (h.cell (p := ⟨g2, o2 + q * 4 + 1, none⟩) hg2).trans b1, (h.cell (p := ⟨g2, o2 + q * 4 + 2, none⟩) hg2).trans b2, (h.cell (p := ⟨g2, o2 + q * 4 + 3, none⟩) hg2).trans b3⟩⟩, h⟩
          have hnx : ∀ w1, Below wr.heap.size wr w1 → Cel w1 w.heap.size 25 #[.int .u8 k, .string s, .slice A1 n.length c1, .slice (some ⟨g1, o1, none⟩) zs.length d1] ∧ Cel w1 (w.heap.size + 1) 25 #[.int .u8 k, .string s, .slice A2 n.length c2, .slice (some ⟨g2, o2, none⟩) zs.length d2] ∧ Below w.heap.size w w1 := fun w1 h => ⟨hC1.below h hsz, hC2.below h hsz2, hB.trans (h.mono (by omega))⟩
          have hq0 : (0 : Int) ≤ (q : Int) := by omega
          have hq1 : (q : Int) < (zs.length : Int) := by omega
          have hfq := hff.out (q + 1)
          rw [hstep] at hfq
          clear hC1 hC2 hB hVz hUy hzq hzm hyq hym hw1 hw2 ih hb1 hb2 hsm a0 a1 a2 a3 b0 b1 b2 b3 x23 hr hz hy hff hfin
          replace hcall := Lib.hid hcall
          replace hS := Lib.hid hS
          replace hnx := Lib.hid hnx
          replace hstep := Lib.hid hstep
          replace hfq := Lib.hid hfq
          go_wp2_with fail
          clear x13
          go_region_held3 (fun W => ((W.cell? ⟨w.heap.size, 3, none⟩ = some (.slice (some ⟨g1, o1, none⟩) zs.length d1) ∧ W.cell? ⟨w.heap.size + 1, 3, none⟩ = some (.slice (some ⟨g2, o2, none⟩) zs.length d2)) ∧
              (W.cell? ⟨g1, o1 + q * 4, none⟩ = some (.int .u8 x.kind) ∧ W.cell? ⟨g1, o1 + q * 4 + 1, none⟩ = some (.string x.text) ∧ W.cell? ⟨g1, o1 + q * 4 + 2, none⟩ = some (.slice Ax nx cx) ∧ W.cell? ⟨g1, o1 + q * 4 + 3, none⟩ = some (.slice Ay ny cy)) ∧
              (W.cell? ⟨g2, o2 + q * 4, none⟩ = some (.int .u8 x'.kind) ∧ W.cell? ⟨g2, o2 + q * 4 + 1, none⟩ = some (.string x'.text) ∧ W.cell? ⟨g2, o2 + q * 4 + 2, none⟩ = some (.slice Bx mx ex) ∧ W.cell? ⟨g2, o2 + q * 4 + 3, none⟩ = some (.slice By my ey))) ∧ Below wr.heap.size wr W)
            (first | exact hS.out _ (bel_drewN (Below.refl _ _) 1) | exact hS.out _ hZ1)
            (first
              | (go_at_call 36; (with_reducible refine (hcall.out _ ?_).mono ?_); exact bel_drewN (Below.refl _ _) 1; rintro e w1 ⟨rfl, hB1⟩; have hZ1 : Below wr.heap.size wr w1 := (bel_drewN (Below.refl _ _) 1).trans hB1; clear hB1))
          all_goals
            have hn3 := hnx.out _ hZ1
            clear hcall hS hnx
            replace hn3 := Lib.hid hn3
            cases r
            · have hJf : J = false := hfq.out rfl
              subst hJf
              clear hfq hstep
              go_wp2_with fail
              go_ret
              exact ⟨by rw [hjs.out]; rfl, hn3.out.2.2⟩
            · clear hfq
              go_wp2_with fail
              go_roundw
              case rel => exact ⟨q + 1, by omega, by go_num, hstep.out, hn3.out.1, hn3.out.2.1, hn3.out.2.2⟩
              case measure => simp [intOf]; omega
        · obtain rfl : q = zs.length := by omega
          have hJt : J = true := by rw [← hfin.out]; exact hsm
          subst hJt
          clear hC1 hC2 hw1 hw2 ih hb1 hb2 hsm hff hfin
          replace hB := Lib.hid hB
          go_wp2_with fail
          go_ret
          exact ⟨by rw [hjs.out]; rfl, hB.out⟩
end Go.Proofs.YtamcbgkppgdniaaGreatDoor
