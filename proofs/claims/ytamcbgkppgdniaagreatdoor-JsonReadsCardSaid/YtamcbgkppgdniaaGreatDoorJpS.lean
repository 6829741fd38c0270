/-
  A builder of a call's own; what String hands back, more than once.
-/
import Derived.Test.YtamcbgkppgdniaaGreatDoorJpA
import Derived.Test.YtamcbgkppgdniaaGreatDoorJsBd
namespace Go.Proofs.YtamcbgkppgdniaaGreatDoor
open Go.RowKit

theorem But.grow {b : Nat} {w w' : World} (h : But w.heap.size b w w') : w.grownBy w' (some b) := ⟨h.os, h.tape, h.output, h.size, fun k hk hn => h.block k hk (fun e => hn (by rw [e]))⟩
theorem BD.but {b bb : Nat} {w w' : World} {l : List UInt8} (h : BD w bb l) (hb : But w.heap.size b w w') (hne : b ≠ bb) (hnb : ¬ IsBuf w bb b) : BD w' bb l := by
  obtain ⟨p, v, hp, h0⟩ := h
  have hv : v.ownBlock ≠ some b := fun e => hnb (h0.isBuf.2 e)
  exact ⟨p, v, hp, (hb.block bb h0.lt (Ne.symm hne)).trans h0.1, World.ownsRow.kept h0.2.1 hb.grow (Or.inr hv), h0.2.2⟩
/-- A builder that was made behind B, as its buffer was. -/
def OB (B : Nat) (w : World) (bb : Nat) (l : List UInt8) : Prop := BD w bb l ∧ B ≤ bb ∧ (∀ k, IsBuf w bb k → B ≤ k) ∧ (l = [] → w.cell? ⟨bb, 1, none⟩ = some (.slice none 0 0))
theorem OB.made {B : Nat} {w : World} (hB : B ≤ w.heap.size) : OB B (w.alloc (.cells #[.pointer none, .slice none 0 0] 130)) w.heap.size [] :=
  ⟨bd_made w, hB, fun k hk => absurd hk (nobuf_made w k), fun _ => (Cel.fresh w 130 #[.pointer none, .slice none 0 0]).cell 1⟩
theorem OB.wr {B bb : Nat} {w w' : World} {l l' : List UInt8} (h : OB B w bb l) (hE : WrEnd bb l' w w') (hl : l' ≠ []) : OB B w' bb l' ∧ Below B w w' := by
  obtain ⟨h1, h2, h3, _⟩ := h
  obtain ⟨q1, q2⟩ := hE
  have hBs : B ≤ w.heap.size := Nat.le_trans h2 (Nat.le_of_lt h1.lt)
  refine ⟨⟨q1, h2, fun k hk => (q2.buf k hk).elim (fun e => Nat.le_trans hBs e) (h3 k), fun e => absurd e hl⟩, q2.os, q2.tape, q2.output, q2.size, fun k hk => q2.block k (Nat.lt_of_lt_of_le hk hBs) (by omega) (fun hb => by have := h3 k hb; omega)⟩
theorem OB.but {B b bb : Nat} {w w' : World} {l : List UInt8} (h : OB B w bb l) (hb : But w.heap.size b w w') (hlt : b < B) : OB B w' bb l := by
  obtain ⟨h1, h2, h3, h4⟩ := h
  have hnb : ¬ IsBuf w bb b := fun e => by have := h3 b e; omega
  have hne : b ≠ bb := by omega
  have hc : w'.cell? ⟨bb, 1, none⟩ = w.cell? ⟨bb, 1, none⟩ := hb.cell (p := ⟨bb, 1, none⟩) h1.lt (Ne.symm hne)
  exact ⟨h1.but hb hne hnb, h2, fun k ⟨n, c, e⟩ => h3 k ⟨n, c, hc ▸ e⟩, fun e => hc.trans (h4 e)⟩
theorem RJ.bel {B b it : Nat} {w w' : World} {s : List UInt8} (h : RJ w b s it) (hb : Below B w w') (hlt : b < B) : RJ w' b s it := Cel.below h hb hlt

/-- What may be read of a builder. -/
def BS (B : Nat) (w : World) (bb : Nat) (l : List UInt8) : Prop := bb < w.heap.size ∧ B ≤ bb ∧ ((l = [] ∧ w.cell? ⟨bb, 1, none⟩ = some (.slice none 0 0)) ∨
  (l ≠ [] ∧ ∃ (g cap : Nat) (cur : Array Value) (fz : Nat × Nat), B ≤ g ∧ g ≠ bb ∧ w.cell? ⟨bb, 1, none⟩ = some (.slice (some ⟨g, 0, none⟩) l.length cap) ∧ w.heap[g]? = some (.cells cur 5 fz) ∧ l.length ≤ cap ∧ l.length ≤ cur.size ∧ ∀ (j : Nat) (x : UInt8), l[j]? = some x → cur[j]? = some (.int .u8 x.toNat)))
theorem OB.bs {B bb : Nat} {w : World} {l : List UInt8} (h : OB B w bb l) : BS B w bb l := by
  obtain ⟨h1, h2, h3, h4⟩ := h
  refine ⟨h1.lt, h2, ?_⟩
  by_cases hl : l = []
  · exact .inl ⟨hl, h4 hl⟩
  · refine .inr ⟨hl, ?_⟩
    obtain ⟨p, v, hp, h0⟩ := h1
    have hv := h0.cell1
    rcases h0.2.1.2 with ⟨rfl, hn⟩ | ⟨g, cap, cur, rfl, _, hg, hc1, hc2, hcs, htk⟩
    · exact absurd (List.eq_nil_of_length_eq_zero hn) hl
    · refine ⟨g, cap, cur, (0, 0), h3 g ⟨_, _, hv⟩, fun e => h0.2.2 (by rw [← e]; rfl), hv, hg, hc1, by omega, fun j x hx => ?_⟩
      have hj : j < l.length := (List.getElem?_eq_some_iff.1 hx).1
      have h5 : (cur.toList.take (l.length * 1))[j]? = (l.map fun b => Value.int .u8 b.toNat)[j]? := by rw [htk]
      rw [List.getElem?_take, if_pos (by omega), List.getElem?_map, hx, Array.getElem?_toList] at h5
      exact h5
theorem BS.bel {B bb : Nat} {w w' : World} {l : List UInt8} (h : BS B w bb l) (hb : Below w.heap.size w w') : BS B w' bb l := by
  obtain ⟨h1, h2, h3⟩ := h
  have hc : w'.cell? ⟨bb, 1, none⟩ = w.cell? ⟨bb, 1, none⟩ := hb.cell (p := ⟨bb, 1, none⟩) h1
  refine ⟨Nat.lt_of_lt_of_le h1 hb.size, h2, ?_⟩
  rcases h3 with ⟨e, h4⟩ | ⟨e, g, cap, cur, fz, q1, q2, q3, q4, q5⟩
  · exact .inl ⟨e, hc.trans h4⟩
  · exact .inr ⟨e, g, cap, cur, fz, q1, q2, hc.trans q3, (hb.block g (Array.getElem?_eq_some_iff.1 q4).1).trans q4, q5⟩
set_option maxRecDepth 100000 in
set_option maxHeartbeats 1000000 in
theorem bdStr1 (b g n cap : Nat) (l : List UInt8) (w : World) (hl : l ≠ []) (hb1 : w.cell? ⟨b, 1, none⟩ = some (.slice (some ⟨g, 0, none⟩) l.length cap)) (hcap : l.length ≤ cap) (hsh : w.shape? g = some (5, n)) (hn : l.length ≤ n) (hlim : l.length ≤ 140737488355328) (hcell : ∀ j x, l[j]? = some x → w.cell? ⟨g, j, none⟩ = some (.int .u8 x.toNat)) :
    Calls Tryz.prog 91 #[.pointer (some ⟨b, 0, none⟩)] w fun e w' => e = .returned (.string ⟨l.toArray⟩) ∧ w' = w.drew.freeze ⟨g, 0, none⟩ l.length := by
  have hl0 : l.length ≠ 0 := by simpa using hl
  have c1 : w.drew.cell? ⟨b, 1, none⟩ = some (.slice (some ⟨g, 0, none⟩) l.length cap) := hb1
  have hSD : (Builtin.unsafeSliceData_ #[127] 165 #[.slice (some ⟨g, 0, none⟩) l.length cap]).run Tryz.prog w.drew = .ok (.pointer (some ⟨g, 0, none⟩)) w.drew :=
    Lib.run_unsafeSliceData_row _ _ _ _ _ _ (by omega)
  have hUS : (Builtin.unsafeString_ #[165, 3] 9 #[.pointer (some ⟨g, 0, none⟩), .int .i64 l.length]).run Tryz.prog w.drew = .ok (.string ⟨l.toArray⟩) (w.drew.freeze ⟨g, 0, none⟩ l.length) :=
    Lib.run_unsafeString_row w.drew 165 3 9 5 Tryz.underlying165 (by kernel_rfl) g n hsh l hl hn (by omega) fun j x hx => by
      rw [Addr.add_mid, Nat.zero_add]
      exact hcell j x hx
  have mixed : Tryz.prog.follows .mixedOrders = true := by kernel_rfl
  go_enter Tryz.func91, Tryz.ntmps91
  go_wp2
  go_region_o
  all_goals (go_wp2; go_ret; exact ⟨rfl, rfl⟩)
set_option maxRecDepth 100000 in
set_option maxHeartbeats 1000000 in
theorem bdStr0 (b : Nat) (w : World) (hb1 : w.cell? ⟨b, 1, none⟩ = some (.slice none 0 0)) :
    Calls Tryz.prog 91 #[.pointer (some ⟨b, 0, none⟩)] w fun e w' => e = .returned (.string ⟨#[]⟩) ∧ w' = w.drew := by
  have c1 : w.drew.cell? ⟨b, 1, none⟩ = some (.slice none 0 0) := hb1
  have hSD : (Builtin.unsafeSliceData_ #[127] 165 #[.slice none 0 0]).run Tryz.prog w.drew = .ok (.pointer none) w.drew := rfl
  have hUS := fun q => Lib.run_unsafeString_none (P := Tryz.prog) w.drew 165 3 9 q
  have mixed : Tryz.prog.follows .mixedOrders = true := by kernel_rfl
  go_enter Tryz.func91, Tryz.ntmps91
  go_wp2
  go_region_o
  all_goals (go_wp2; go_ret; exact ⟨rfl, rfl⟩)
theorem bsString_any (B bb : Nat) (l : List UInt8) (w : World) (h : BS B w bb l) (hl : l.length ≤ 140737488355328) : Calls Tryz.prog 91 #[.pointer (some ⟨bb, 0, none⟩)] w fun e w' => e = .returned (.string (ofL l)) ∧ BS B w' bb l ∧ Below B w w' := by
  obtain ⟨h1, h2, h3⟩ := h
  rcases h3 with ⟨rfl, h4⟩ | ⟨hne, g, cap, cur, fz, q1, q2, q3, q4, q5, q6, q7⟩
  · refine (bdStr0 bb w h4).mono ?_
    rintro e w' ⟨rfl, rfl⟩
    exact ⟨rfl, ⟨h1, h2, .inl ⟨rfl, h4⟩⟩, bel_drewN (Below.refl _ _) 1⟩
  · refine (bdStr1 bb g cur.size cap l w hne q3 q5 (by unfold World.shape?; rw [q4]) q6 hl (fun j x hx => by unfold World.cell?; rw [q4]; exact q7 j x hx)).mono ?_
    rintro e w' ⟨rfl, rfl⟩
    have hb : Below B w (w.drew.freeze ⟨g, 0, none⟩ l.length) := Lib.below_freeze (bel_drewN (Below.refl _ _) 1) q1 _
    have hl0 : l.length ≠ 0 := by simpa using hne
    have hoth : ∀ k, k ≠ g → (w.drew.freeze ⟨g, 0, none⟩ l.length).heap[k]? = w.heap[k]? := fun k hk => by
      unfold World.freeze
      rw [if_neg hl0]
      show (w.heap.modify g _)[k]? = _
      rw [Array.getElem?_modify, if_neg (fun e => hk e.symm)]
    have hat : ∃ fz', (w.drew.freeze ⟨g, 0, none⟩ l.length).heap[g]? = some (.cells cur 5 fz') := by
      unfold World.freeze
      rw [if_neg hl0]
      obtain ⟨lo, hi⟩ := fz
      exact ⟨_, by show (w.heap.modify g _)[g]? = _; rw [Array.getElem?_modify, if_pos rfl, q4]; first | done | rfl⟩
    obtain ⟨fz', hat⟩ := hat
    have hc : (w.drew.freeze ⟨g, 0, none⟩ l.length).cell? ⟨bb, 1, none⟩ = w.cell? ⟨bb, 1, none⟩ := World.cell?_of_block (w := w) (hoth bb (Ne.symm q2))
    exact ⟨rfl, ⟨Nat.lt_of_lt_of_le h1 hb.size, h2, .inr ⟨hne, g, cap, cur, fz', q1, q2, hc.trans q3, hat, q5, q6, q7⟩⟩, hb⟩
end Go.Proofs.YtamcbgkppgdniaaGreatDoor
