/-
  The walks of strings.Builder's WriteByte and WriteString at a builder of the call's own; what blocks they turn.
-/
import Derived.Test.YtblohaljnleeiaaGreatDoorJms
import Derived.Test.YtblohaljnleeiaaGreatDoorShelf
import Derived.Shelf.Strings.Builder1
import Derived.Maps.AppendAt
import Derived.Test.YtblohaljnleeiaaGreatDoorJsG
namespace Go.Proofs.YtblohaljnleeiaaGreatDoor
open Go.RowKit

/-- Block k is the buffer of the builder in block b. -/
def IsBuf (w : World) (b k : Nat) : Prop := ∃ n c, w.cell? ⟨b, 1, none⟩ = some (.slice (some ⟨k, 0, none⟩) n c)
/-- The builder in block b, its first cell p, its buffer v, holds these bytes. -/
def BDv (w : World) (b : Nat) (p v : Value) (l : List UInt8) : Prop := w.heap[b]? = some (.cells #[p, v] 132 (0, 0)) ∧ RowB w 0 v l ∧ v.ownBlock ≠ some b
def BD (w : World) (b : Nat) (l : List UInt8) : Prop := ∃ p v, (p = .pointer none ∨ p = .pointer (some ⟨b, 0, none⟩)) ∧ BDv w b p v l
/-- From w to w' nothing was turned but the builder in block b, and its buffer. -/
structure Wr (b : Nat) (w w' : World) : Prop where
  os : w'.os = w.os
  tape : w'.tape = w.tape
  output : w'.output = w.output
  size : w.heap.size ≤ w'.heap.size
  block : ∀ k, k < w.heap.size → k ≠ b → ¬ IsBuf w b k → w'.heap[k]? = w.heap[k]?
  buf : ∀ k, IsBuf w' b k → w.heap.size ≤ k ∨ IsBuf w b k
theorem Wr.refl (b : Nat) (w : World) : Wr b w w := ⟨rfl, rfl, rfl, Nat.le_refl _, fun _ _ _ _ => rfl, fun _ h => .inr h⟩
theorem Wr.trans {b : Nat} {w w1 w2 : World} (h : Wr b w w1) (k : Wr b w1 w2) : Wr b w w2 :=
  ⟨k.os.trans h.os, k.tape.trans h.tape, k.output.trans h.output, Nat.le_trans h.size k.size,
    fun i hi hb hn => (k.block i (Nat.lt_of_lt_of_le hi h.size) hb (fun hh => (h.buf i hh).elim (fun e => by omega) hn)).trans (h.block i hi hb hn),
    fun i hi => (k.buf i hi).elim (fun e => .inl (Nat.le_trans h.size e)) (h.buf i)⟩
theorem Wr.cell {b : Nat} {w w' : World} (h : Wr b w w') {p : Addr} (hp : p.block < w.heap.size) (hb : p.block ≠ b) (hn : ¬ IsBuf w b p.block) : w'.cell? p = w.cell? p := by
  unfold World.cell?; rw [h.block _ hp hb hn]
theorem Wr.below {b : Nat} {w w' : World} (h : Below w.heap.size w w') (hb : b < w.heap.size) : Wr b w w' :=
  ⟨h.os, h.tape, h.output, h.size, fun k hk _ _ => h.block k hk, fun k ⟨n, c, e⟩ => .inr ⟨n, c, by rw [← e]; exact (h.cell (p := ⟨b, 1, none⟩) hb).symm⟩⟩
theorem BDv.cell1 {w : World} {b : Nat} {p v : Value} {l : List UInt8} (h : BDv w b p v l) : w.cell? ⟨b, 1, none⟩ = some v := by rw [Lib.cell_of_heap h.1]; rfl
theorem BDv.lt {w : World} {b : Nat} {p v : Value} {l : List UInt8} (h : BDv w b p v l) : b < w.heap.size := by
  rcases Nat.lt_or_ge b w.heap.size with h' | h'
  · exact h'
  · have := h.1; simp [Array.getElem?_eq_none h'] at this
theorem BD.lt {w : World} {b : Nat} {l : List UInt8} (h : BD w b l) : b < w.heap.size := by obtain ⟨p, v, _, h⟩ := h; exact h.lt
theorem own_buf {w : World} {v : Value} {l : List UInt8} (h : RowB w 0 v l) {k : Nat} : v.ownBlock = some k ↔ ∃ n c, v = .slice (some ⟨k, 0, none⟩) n c := by
  rcases h.2 with ⟨rfl, _⟩ | ⟨g, cap, cur, rfl, _⟩
  · simp [Value.ownBlock]
  · simp [Value.ownBlock]
theorem BDv.isBuf {w : World} {b : Nat} {p v : Value} {l : List UInt8} (h : BDv w b p v l) {k : Nat} : IsBuf w b k ↔ v.ownBlock = some k := by
  rw [own_buf h.2.1]
  unfold IsBuf
  rw [h.cell1]
  simp
theorem BD.bufLt {w : World} {b : Nat} {l : List UInt8} (h : BD w b l) {k : Nat} (hk : IsBuf w b k) : k < w.heap.size := by
  obtain ⟨p, v, _, h⟩ := h
  exact (World.ownsRow.lt h.2.1 k (h.isBuf.1 hk)).2
/-- A builder stays what it is behind whatever turns neither it nor its buffer. -/
theorem BD.below {w w' : World} {b : Nat} {l : List UInt8} (h : BD w b l) (hb : Below w.heap.size w w') : BD w' b l := by
  obtain ⟨p, v, hp, h⟩ := h
  exact ⟨p, v, hp, (hb.block b h.lt).trans h.1, h.2.1.below hb, h.2.2⟩

theorem sizeBd : (Tryz.prog.info? 132).map (·.size) = some 2 := by kernel_rfl
theorem liesBd : liesAt Tryz.prog Tryz.prog.depth 132 (2 / Tryz.prog.cellsOf 132) 0 132 1 = true := by kernel_rfl
set_option maxRecDepth 100000 in
theorem cc_used (b : Nat) (w : World) (h0 : w.cell? ⟨b, 0, none⟩ = some (.pointer (some ⟨b, 0, none⟩))) :
    Calls Tryz.prog 178 #[.pointer (some ⟨b, 0, none⟩)] w fun e w' => e = .returned (.tuple #[]) ∧ w' = w := by
  obtain ⟨j, hj, _⟩ := Option.map_eq_some_iff.1 sizeBd
  go_enter Tryz.func178, Tryz.ntmps178
  go_wp2
  rw [Lib.run_neq_ptr_same w _ Tryz.underlying130 hj]
  go_wp2
  go_end0
  exact ⟨rfl, rfl⟩
set_option maxRecDepth 100000 in
theorem cc_fresh (b : Nat) (w : World) (h0 : w.cell? ⟨b, 0, none⟩ = some (.pointer none)) (hsh : w.shape? b = some (132, 2)) (hfz : w.frozen? ⟨b, 0, none⟩ = false) :
    Calls Tryz.prog 178 #[.pointer (some ⟨b, 0, none⟩)] w fun e w' => e = .returned (.tuple #[]) ∧ w' = w.setCell ⟨b, 0, none⟩ (.pointer (some ⟨b, 0, none⟩)) := by
  obtain ⟨j, hj, hjs⟩ := Option.map_eq_some_iff.1 sizeBd
  go_enter Tryz.func178, Tryz.ntmps178
  go_wp2
  rw [Lib.run_to_unsafe w ⟨b, 0, none⟩ Tryz.underlying130 Tryz.underlying218 hj (by rw [hjs]; decide) hsh (Nat.zero_lt_succ 1)]
  simp only [Result.andThen]
  rw [Oper.upon_value]
  go_wp2
  rw [run_callFunc_extern Tryz.func205 (by kernel_rfl) (by kernel_rfl) (by kernel_rfl) (e := Extern.AbiNoEscape.same) (by kernel_rfl)]
  rw [Lib.run_noEscape]
  simp only [Result.andThen]
  rw [Oper.upon_value]
  go_wp2
  rw [Lib.run_from_unsafe w ⟨b, 0, none⟩ Tryz.underlying218 Tryz.underlying130 hj hsh liesBd]
  simp only [Result.andThen]
  rw [Oper.upon_value]
  go_wp2
  go_end0
  exact ⟨rfl, rfl⟩
/-- Behind copyCheck the builder bears its own address. -/
def CcEnd (b : Nat) (l : List UInt8) (w : World) (e : Ending) (w' : World) : Prop := e = .returned (.tuple #[]) ∧ (∃ v, BDv w' b (.pointer (some ⟨b, 0, none⟩)) v l) ∧ Wr b w w'
theorem cc_any (b : Nat) (l : List UInt8) (w : World) (h : BD w b l) : Calls Tryz.prog 178 #[.pointer (some ⟨b, 0, none⟩)] w (CcEnd b l w) := by
  obtain ⟨p, v, rfl | rfl, h⟩ := h
  · refine (cc_fresh b w (by rw [Lib.cell_of_heap h.1]; rfl) (by unfold World.shape?; rw [h.1]; rfl) (by unfold World.frozen?; rw [h.1]; rfl)).mono ?_
    rintro e w' ⟨rfl, rfl⟩
    have hg : w.grownBy (w.setCell ⟨b, 0, none⟩ (.pointer (some ⟨b, 0, none⟩))) (some b) :=
      ⟨rfl, rfl, rfl, by simp [World.setCell], fun k _ hk => Below.heap_setCell _ _ _ _ (fun e => hk (by simp [e]))⟩
    have h2 : BDv (w.setCell ⟨b, 0, none⟩ (.pointer (some ⟨b, 0, none⟩))) b (.pointer (some ⟨b, 0, none⟩)) v l :=
      ⟨by have := h.1; simp [World.setCell, Array.getElem?_modify, this], World.ownsRow.kept h.2.1 hg (Or.inr h.2.2), h.2.2⟩
    exact ⟨rfl, ⟨v, h2⟩, rfl, rfl, rfl, hg.size, fun k hk hb _ => hg.block k hk (by simpa using hb), fun k hk => .inr (h.isBuf.2 (h2.isBuf.1 hk))⟩
  · refine (cc_used b w (by rw [Lib.cell_of_heap h.1]; rfl)).mono ?_
    rintro e w' ⟨rfl, rfl⟩
    exact ⟨rfl, ⟨v, h⟩, Wr.refl _ _⟩

/-- What a write leaves. -/
def WrEnd (b : Nat) (l : List UInt8) (w w' : World) : Prop := BD w' b l ∧ Wr b w w'
/-- The buffer has grown (w2), and was put back. -/
theorem put_back {b : Nat} {v v' : Value} {l l' : List UInt8} {w1 w2 : World} (h : BDv w1 b (.pointer (some ⟨b, 0, none⟩)) v l) (hown : RowB w2 0 v' l') (hg : w1.grownBy w2 v.ownBlock) (hat : v'.ownBlock = v.ownBlock ∨ v'.ownBlock = none ∨ ∃ k, v'.ownBlock = some k ∧ w1.heap.size ≤ k) :
    WrEnd b l' w1 (w2.setCell ⟨b, 1, none⟩ v') := by
  have hlt := h.lt
  have hb2 : w2.heap[b]? = some (.cells #[.pointer (some ⟨b, 0, none⟩), v] 132 (0, 0)) := (hg.block b hlt (fun e => h.2.2 e.symm)).trans h.1
  have hlt2 : b < w2.heap.size := Nat.lt_of_lt_of_le hlt hg.size
  have hne : v'.ownBlock ≠ some b := by
    rcases hat with e | e | ⟨k, e, hk⟩
    · rw [e]; exact h.2.2
    · rw [e]; simp
    · rw [e]; simp; omega
  have hg2 : w2.grownBy (w2.setCell ⟨b, 1, none⟩ v') (some b) := ⟨rfl, rfl, rfl, by simp [World.setCell], fun k _ hk => Below.heap_setCell _ _ _ _ (fun e => hk (by simp [e]))⟩
  have h2 : BDv (w2.setCell ⟨b, 1, none⟩ v') b (.pointer (some ⟨b, 0, none⟩)) v' l' :=
    ⟨by simp [World.setCell, Array.getElem?_modify, hb2], World.ownsRow.kept hown hg2 (Or.inr hne), hne⟩
  refine ⟨⟨_, _, .inr rfl, h2⟩, hg.os, hg.tape, hg.output, Nat.le_trans hg.size hg2.size, fun k hk hb hn => ?_, fun k hk => ?_⟩
  · rw [hg2.block k (Nat.lt_of_lt_of_le hk hg.size) (by simpa using hb)]
    exact hg.block k hk (fun e => hn (h.isBuf.2 e.symm))
  · have := h2.isBuf.1 hk
    rcases hat with e | e | ⟨j, e, hj⟩
    · exact .inr (h.isBuf.2 (by rw [← e]; exact this))
    · rw [e] at this; cases this
    · rw [e] at this; injection this with this; subst this; exact .inl hj

/-- Where the buffer lies behind an append of a string. -/
theorem app_str {w : World} {v : Value} {l : List UInt8} (h : RowB w 0 v l) (s : ByteArray) (hl : l.length + s.size ≤ 100000000000000) :
    ∃ v' w', (Builtin.append_ #[74, 9] 74 #[v, .string s]).run Tryz.prog w = .ok v' w' ∧ RowB w' 0 v' (l ++ s.data.toList) ∧ w.grownBy w' v.ownBlock ∧ (v'.ownBlock = v.ownBlock ∨ v'.ownBlock = none ∨ ∃ k, v'.ownBlock = some k ∧ w.heap.size ≤ k) := by
  obtain ⟨i0, hi0, hz0, hz1, hz2⟩ := info_parts infoB
  obtain ⟨v', w', hr, h2, h3, _⟩ := Lib.run_append_own_string (P := Tryz.prog) w 0 74 9 74 5 i0 Tryz.underlying74 Tryz.underlying9 hi0 hz0 hz1 hz2 v l.length _ h s (by unfold maxLen; omega) (by omega) (Nat.zero_le _)
  refine ⟨v', w', hr, RowB.snoc h2, h3, ?_⟩
  have hh := h
  rcases h.2 with ⟨rfl, h0⟩ | ⟨g, cap, cur, rfl, hbg, hg, hnc, hcm, hcs, htake⟩
  · have hn : w.ownsRow w.heap.size 5 1 (.slice none 0 0) l.length (l.map fun b => Value.int .u8 b.toNat) := ⟨h.1, .inl ⟨rfl, h0⟩⟩
    obtain ⟨v2, w2, hr2, h22, _, _⟩ := Lib.run_append_own_string (P := Tryz.prog) w w.heap.size 74 9 74 5 i0 Tryz.underlying74 Tryz.underlying9 hi0 hz0 hz1 hz2 _ l.length _ hn s (by unfold maxLen; omega) (by omega) (Nat.le_refl _)
    rw [hr] at hr2
    injection hr2 with e1 e2
    subst e1
    rcases hv : v'.ownBlock with _ | k
    · exact .inr (.inl rfl)
    · subst e2
      exact .inr (.inr ⟨k, rfl, (World.ownsRow.lt h22 k hv).1⟩)
  · by_cases hroom : l.length + s.size ≤ cap
    · have hr2 := Lib.run_append_room_string (P := Tryz.prog) w 74 9 74 5 i0 Tryz.underlying74 Tryz.underlying9 hi0 hz1 g l.length cap cur hg s hroom (by omega)
      rw [hr] at hr2
      injection hr2 with e1 e2
      subst e1
      exact .inl rfl
    · have hr2 := Lib.run_append_grow_string (P := Tryz.prog) w 74 9 74 5 i0 (.int .u8 0) Tryz.underlying74 Tryz.underlying9 hi0 hz0 ⟨g, 0, none⟩ l.length cap _ (by rw [hz1]; exact hh.1) (World.ownsRow.cells hh (g := g) rfl) s (by omega) (by omega) (by rw [hz2]; exact growslice_fits (by omega) (by omega))
      rw [hr] at hr2
      injection hr2 with e1 e2
      subst e1
      exact .inr (.inr ⟨_, rfl, Nat.le_refl _⟩)

/-- Where the buffer lies behind an append of a byte. -/
theorem app_byte {w : World} {v : Value} {l : List UInt8} (h : RowB w 0 v l) (u : UInt8) (c : Int) (hc : c = (u.toNat : Int)) (hl : l.length ≤ 100000000000000) :
    ∃ v' w', (Builtin.append_ #[74, 74] 74 #[v, .slice (some ⟨w.heap.size, 0, none⟩) 1 1]).run Tryz.prog (w.alloc (.cells #[.int .u8 c] 5)) = .ok v' w' ∧ RowB w' 0 v' (l ++ [u]) ∧ w.grownBy w' v.ownBlock ∧ (v'.ownBlock = v.ownBlock ∨ v'.ownBlock = none ∨ ∃ k, v'.ownBlock = some k ∧ w.heap.size ≤ k) := by
  obtain ⟨i0, hi0, hz0, hz1, hz2⟩ := info_parts infoB
  obtain ⟨v', w', hr, h2, hgr, _, hat⟩ := run_append_own_at (P := Tryz.prog) (w.alloc (.cells #[.int .u8 c] 5)) 0 74 74 5 i0 (.int .u8 0) 1 1 Tryz.underlying74 hi0 hz0 hz1 hz2 rfl (by decide) v l.length _ (World.ownsRow.alloc h _) ⟨w.heap.size, 0, none⟩ 1 1 [.int .u8 c] rfl (cell_one _ _ _) (fun x hx => by simp at hx; subst hx; rfl) (by unfold maxLen; omega) (by omega) (Nat.zero_le _)
  refine ⟨v', w', hr, RowB.snoc1 hc h2, ⟨hgr.os, hgr.tape, hgr.output, by have := hgr.size; simp at this; omega, fun k hk hne => (hgr.block k (by simp; omega) hne).trans (Below.heap_alloc w _ k hk)⟩, ?_⟩
  rcases hat with e | e
  · exact .inl e
  · exact .inr (.inr ⟨_, e, by simp⟩)

set_option maxRecDepth 100000 in
set_option maxHeartbeats 2000000 in
theorem wByte_any (b : Nat) (l : List UInt8) (u : UInt8) (c : Int) (hc : c = (u.toNat : Int)) (w : World) (h : BD w b l) (hl : l.length ≤ 1000000000000) :
    Calls Tryz.prog 152 #[.pointer (some ⟨b, 0, none⟩), .int .u8 c] w fun e w' => e = .returned .nilIface ∧ WrEnd b (l ++ [u]) w w' := by
  have hcc := Lib.hid (cc_any b l w h)
  clear h
  go_enter Tryz.func152, Tryz.ntmps152
  go_wp2_with fail
  refine hcc.out.mono ?_
  rintro e w1 ⟨rfl, ⟨v, h1⟩, hW⟩
  have c0 : w1.cell? ⟨b, 0, none⟩ = some (.pointer (some ⟨b, 0, none⟩)) := by rw [Lib.cell_of_heap h1.1]; rfl
  have c1 : w1.cell? ⟨b, 1, none⟩ = some v := h1.cell1
  have hlt := h1.lt
  obtain ⟨v', w2, hrun, hR, hg2, hat⟩ := app_byte h1.2.1 u c hc (by omega)
  have hf := put_back h1 hR hg2 hat
  have c2 : (w1.alloc (.cells #[.int .u8 c] 5)).cell? ⟨b, 1, none⟩ = some v := (World.cell?_alloc_lt w1 _ ⟨b, 1, none⟩ hlt).trans c1
  have d0 : w2.heap[b]? = some (.cells #[.pointer (some ⟨b, 0, none⟩), v] 132 (0, 0)) := (hg2.block b hlt (fun e => h1.2.2 e.symm)).trans h1.1
  have d1 : w2.cell? ⟨b, 1, none⟩ = some v := by rw [Lib.cell_of_heap d0]; rfl
  have f1 : w2.frozen? ⟨b, 1, none⟩ = false := Lib.frozen_of_heap d0 1
  have hsl : ∃ ao n' cap, v' = .slice ao n' cap := by
    rcases hR.2 with ⟨hv, _⟩ | ⟨g, cap, cur, hv, _⟩
    · exact ⟨_, _, _, hv⟩
    · exact ⟨_, _, _, hv⟩
  obtain ⟨ao, n', cap, rfl⟩ := hsl
  clear hc hcc hat hg2 hR h1 d0
  replace hW := Lib.hid hW
  replace hf := Lib.hid hf
  replace hrun := Lib.hid hrun
  go_wp2_with (at_builtin; refine jl_append_run (by rfl) _ _ 74 74 rfl v (.slice (some ⟨w1.heap.size, 0, none⟩) 1 1) _ rfl rfl hrun.out ?_)
  go_ret
  exact ⟨rfl, hf.out.1, hW.out.trans hf.out.2⟩
set_option maxRecDepth 100000 in
set_option maxHeartbeats 2000000 in
theorem wStr_any (b : Nat) (l : List UInt8) (s : ByteArray) (w : World) (h : BD w b l) (hl : l.length + s.size ≤ 1000000000000) :
    Calls Tryz.prog 150 #[.pointer (some ⟨b, 0, none⟩), .string s] w fun e w' => e = .returned (.tuple #[.int .i64 s.size, .nilIface]) ∧ WrEnd b (l ++ s.data.toList) w w' := by
  have hcc := Lib.hid (cc_any b l w h)
  clear h
  go_enter Tryz.func150, Tryz.ntmps150
  go_wp2_with fail
  refine hcc.out.mono ?_
  rintro e w1 ⟨rfl, ⟨v, h1⟩, hW⟩
  have c0 : w1.cell? ⟨b, 0, none⟩ = some (.pointer (some ⟨b, 0, none⟩)) := by rw [Lib.cell_of_heap h1.1]; rfl
  have c1 : w1.cell? ⟨b, 1, none⟩ = some v := h1.cell1
  have hlt := h1.lt
  obtain ⟨v', w2, hrun, hR, hg2, hat⟩ := app_str h1.2.1 s (by omega)
  have hf := put_back h1 hR hg2 hat
  have d0 : w2.heap[b]? = some (.cells #[.pointer (some ⟨b, 0, none⟩), v] 132 (0, 0)) := (hg2.block b hlt (fun e => h1.2.2 e.symm)).trans h1.1
  have d1 : w2.cell? ⟨b, 1, none⟩ = some v := by rw [Lib.cell_of_heap d0]; rfl
  have f1 : w2.frozen? ⟨b, 1, none⟩ = false := Lib.frozen_of_heap d0 1
  have hsl : ∃ ao n' cap, v' = .slice ao n' cap := by
    rcases hR.2 with ⟨hv, _⟩ | ⟨g, cap, cur, hv, _⟩
    · exact ⟨_, _, _, hv⟩
    · exact ⟨_, _, _, hv⟩
  obtain ⟨ao, n', cap, rfl⟩ := hsl
  clear hcc hat hg2 hR h1 d0
  replace hW := Lib.hid hW
  replace hf := Lib.hid hf
  replace hrun := Lib.hid hrun
  go_wp2_with (at_builtin; refine jl_append_run (by rfl) _ _ 74 9 rfl v (.string s) _ rfl rfl hrun.out ?_)
  go_ret2
  exact ⟨rfl, hf.out.1, hW.out.trans hf.out.2⟩
end Go.Proofs.YtblohaljnleeiaaGreatDoor
