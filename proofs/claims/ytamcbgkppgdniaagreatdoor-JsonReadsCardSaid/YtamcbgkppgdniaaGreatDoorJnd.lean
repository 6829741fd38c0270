/-
  The walks of strings.Builder's WriteByte and WriteString at a builder of the call's own; what blocks they turn.
-/
import Derived.Test.YtamcbgkppgdniaaGreatDoorJms
import Derived.Test.YtamcbgkppgdniaaGreatDoorShelf
import Derived.Shelf.Strings.Builder1
import Derived.Maps.AppendAt
import Derived.Test.YtamcbgkppgdniaaGreatDoorJsG
import Derived.Test.YtamcbgkppgdniaaGreatDoorJmu
namespace Go.Proofs.YtamcbgkppgdniaaGreatDoor
open Go.RowKit

/-- Block k is the buffer of the builder in block b. -/
def IsBuf (w : World) (b k : Nat) : Prop := ∃ n c, w.cell? ⟨b, 1, none⟩ = some (.slice (some ⟨k, 0, none⟩) n c)
/-- The builder in block b, its first cell p, its buffer v, holds these bytes. -/
def BDv (w : World) (b : Nat) (p v : Value) (l : List UInt8) : Prop := w.heap[b]? = some (.cells #[p, v] 130 (0, 0)) ∧ RowB w 0 v l ∧ v.ownBlock ≠ some b
def BD (w : World) (b : Nat) (l : List UInt8) : Prop := ∃ p v, (p = .pointer none ∨ p = .pointer (some ⟨b, 0, none⟩)) ∧ BDv w b p v l
/-- From w to w' nothing was turned but the builder in block b, and its buffer. -/
structure Wr (b : Nat) (w w' : World) : Prop where
  os : w'.os = w.os
  tape : w'.tape = w.tape
  output : w'.output = w.output
  size : w.heap.size ≤ w'.heap.size
  block : ∀ k, k < w.heap.size → k ≠ b → ¬ IsBuf w b k → w'.heap[k]? = w.heap[k]?
  buf : ∀ k, IsBuf w' b k → w.heap.size ≤ k ∨ IsBuf w b k
theorem Wr.refl (b : Nat) (w : World) : Wr b w w := ⟨rfl, rfl, rfl, Nat.le_refl _, fun _ _ _ _ => rfl, fun _ h => .inr h⟩
theorem Wr.trans {b : Nat} {w w1 w2 : World} (h : Wr b w w1) (k : Wr b w1 w2) : Wr b w w2 :=
  ⟨k.os.trans h.os, k.tape.trans h.tape, k.output.trans h.output, Nat.le_trans h.size k.size,
    fun i hi hb hn => (k.block i (Nat.lt_of_lt_of_le hi h.size) hb (fun hh => (h.buf i hh).elim (fun e => by omega) hn)).trans (h.block i hi hb hn),
    fun i hi => (k.buf i hi).elim (fun e => .inl (Nat.le_trans h.size e)) (h.buf i)⟩
theorem Wr.cell {b : Nat} {w w' : World} (h : Wr b w w') {p : Addr} (hp : p.block < w.heap.size) (hb : p.block ≠ b) (hn : ¬ IsBuf w b p.block) : w'.cell? p = w.cell? p := by
  unfold World.cell?; rw [h.block _ hp hb hn]
theorem Wr.below {b : Nat} {w w' : World} (h : Below w.heap.size w w') (hb : b < w.heap.size) : Wr b w w' :=
  ⟨h.os, h.tape, h.output, h.size, fun k hk _ _ => h.block k hk, fun k ⟨n, c, e⟩ => .inr ⟨n, c, by rw [← e]; exact (h.cell (p := ⟨b, 1, none⟩) hb).symm⟩⟩
theorem BDv.cell1 {w : World} {b : Nat} {p v : Value} {l : List UInt8} (h : BDv w b p v l) : w.cell? ⟨b, 1, none⟩ = some v := by rw [Lib.cell_of_heap h.1]; rfl
theorem BDv.lt {w : World} {b : Nat} {p v : Value} {l : List UInt8} (h : BDv w b p v l) : b < w.heap.size := by
  rcases Nat.lt_or_ge b w.heap.size with h' | h'
  · exact h'
  · have := h.1; simp [Array.getElem?_eq_none h'] at this
theorem BD.lt {w : World} {b : Nat} {l : List UInt8} (h : BD w b l) : b < w.heap.size := by obtain ⟨p, v, _, h⟩ := h; exact h.lt
theorem own_buf {w : World} {v : Value} {l : List UInt8} (h : RowB w 0 v l) {k : Nat} : v.ownBlock = some k ↔ ∃ n c, v = .slice (some ⟨k, 0, none⟩) n c := by
  rcases h.2 with ⟨rfl, _⟩ | ⟨g, cap, cur, rfl, _⟩
  · simp [Value.ownBlock]
  · simp [Value.ownBlock]
theorem BDv.isBuf {w : World} {b : Nat} {p v : Value} {l : List UInt8} (h : BDv w b p v l) {k : Nat} : IsBuf w b k ↔ v.ownBlock = some k := by
  rw [own_buf h.2.1]
  unfold IsBuf
  rw [h.cell1]
  simp
theorem BD.bufLt {w : World} {b : Nat} {l : List UInt8} (h : BD w b l) {k : Nat} (hk : IsBuf w b k) : k < w.heap.size := by
  obtain ⟨p, v, _, h⟩ := h
  exact (World.ownsRow.lt h.2.1 k (h.isBuf.1 hk)).2
/-- A builder stays what it is behind whatever turns neither it nor its buffer. -/
theorem BD.below {w w' : World} {b : Nat} {l : List UInt8} (h : BD w b l) (hb : Below w.heap.size w w') : BD w' b l := by
  obtain ⟨p, v, hp, h⟩ := h
  exact ⟨p, v, hp, (hb.block b h.lt).trans h.1, h.2.1.below hb, h.2.2⟩

theorem sizeBd : (Tryz.prog.info? 130).map (·.size) = some 2 := by kernel_rfl
theorem liesBd : liesAt Tryz.prog Tryz.prog.depth 130 (2 / Tryz.prog.cellsOf 130) 0 130 1 = true := by kernel_rfl
set_option maxRecDepth 100000 in
theorem cc_used (b : Nat) (w : World) (h0 : w.cell? ⟨b, 0, none⟩ = some (.pointer (some ⟨b, 0, none⟩))) :
    Calls Tryz.prog 174 #[.pointer (some ⟨b, 0, none⟩)] w fun e w' => e = .returned (.tuple #[]) ∧ w' = w := by
  obtain ⟨j, hj, _⟩ := Option.map_eq_some_iff.1 sizeBd
  go_enter Tryz.func174, Tryz.ntmps174
  go_wp2
  rw [Lib.run_neq_ptr_same w _ Tryz.underlying128 hj]
  go_wp2
  go_end0
  exact ⟨rfl, rfl⟩
set_option maxRecDepth 100000 in
theorem cc_fresh (b : Nat) (w : World) (h0 : w.cell? ⟨b, 0, none⟩ = some (.pointer none)) (hsh : w.shape? b = some (130, 2)) (hfz : w.frozen? ⟨b, 0, none⟩ = false) :
    Calls Tryz.prog 174 #[.pointer (some ⟨b, 0, none⟩)] w fun e w' => e = .returned (.tuple #[]) ∧ w' = w.setCell ⟨b, 0, none⟩ (.pointer (some ⟨b, 0, none⟩)) := by
  obtain ⟨j, hj, hjs⟩ := Option.map_eq_some_iff.1 sizeBd
  go_enter Tryz.func174, Tryz.ntmps174
  go_wp2
  rw [Lib.run_to_unsafe w ⟨b, 0, none⟩ Tryz.underlying128 Tryz.underlying216 hj (by rw [hjs]; decide) hsh (Nat.zero_lt_succ 1)]
  simp only [Result.andThen]
  rw [Oper.upon_value]
  go_wp2
  rw [run_callFunc_extern Tryz.func201 (by kernel_rfl) (by kernel_rfl) (by kernel_rfl) (e := Extern.AbiNoEscape.same) (by kernel_rfl)]
  rw [Lib.run_noEscape]
  simp only [Result.andThen]
  rw [Oper.upon_value]
  go_wp2
  rw [Lib.run_from_unsafe w ⟨b, 0, none⟩ Tryz.underlying216 Tryz.underlying128 hj hsh liesBd]
  simp only [Result.andThen]
  rw [Oper.upon_value]
  go_wp2
  go_end0
  exact ⟨rfl, rfl⟩
/-- Behind copyCheck the builder bears its own address. -/
def CcEnd (b : Nat) (l : List UInt8) (w : World) (e : Ending) (w' : World) : Prop := e = .returned (.tuple #[]) ∧ (∃ v, BDv w' b (.pointer (some ⟨b, 0, none⟩)) v l) ∧ Wr b w w'
theorem cc_any (b : Nat) (l : List UInt8) (w : World) (h : BD w b l) : Calls Tryz.prog 174 #[.pointer (some ⟨b, 0, none⟩)] w (CcEnd b l w) := by
  obtain ⟨p, v, rfl | rfl, h⟩ := h
  · refine (cc_fresh b w (by rw [Lib.cell_of_heap h.1]; rfl) (by unfold World.shape?; rw [h.1]; rfl) (by unfold World.frozen?; rw [h.1]; rfl)).mono ?_
    rintro e w' ⟨rfl, rfl⟩
    have hg : w.grownBy (w.setCell ⟨b, 0, none⟩ (.pointer (some ⟨b, 0, none⟩))) (some b) :=
      ⟨rfl, rfl, rfl, by simp [World.setCell], fun k _ hk => Below.heap_setCell _ _ _ _ (fun e => hk (by simp [e]))⟩
    have h2 : BDv (w.setCell ⟨b, 0, none⟩ (.pointer (some ⟨b, 0, none⟩))) b (.pointer (some ⟨b, 0, none⟩)) v l :=
      ⟨by have := h.1; simp [World.setCell, Array.getElem?_modify, this], World.ownsRow.kept h.2.1 hg (Or.inr h.2.2), h.2.2⟩
    exact ⟨rfl, ⟨v, h2⟩, rfl, rfl, rfl, hg.size, fun k hk hb _ => hg.block k hk (by simpa using hb), fun k hk => .inr (h.isBuf.2 (h2.isBuf.1 hk))⟩
  · refine (cc_used b w (by rw [Lib.cell_of_heap h.1]; rfl)).mono ?_
    rintro e w' ⟨rfl, rfl⟩
    exact ⟨rfl, ⟨v, h⟩, Wr.refl _ _⟩

/-- What a write leaves. -/
def WrEnd (b : Nat) (l : List UInt8) (w w' : World) : Prop := BD w' b l ∧ Wr b w w'
/-- The buffer has grown (w2), and was put back. -/
theorem put_back {b : Nat} {v v' : Value} {l l' : List UInt8} {w1 w2 : World} (h : BDv w1 b (.pointer (some ⟨b, 0, none⟩)) v l) (hown : RowB w2 0 v' l') (hg : w1.grownBy w2 v.ownBlock) (hat : v'.ownBlock = v.ownBlock ∨ v'.ownBlock = none ∨ ∃ k, v'.ownBlock = some k ∧ w1.heap.size ≤ k) :
    WrEnd b l' w1 (w2.setCell ⟨b, 1, none⟩ v') := by
  have hlt := h.lt
  have hb2 : w2.heap[b]? = some (.cells #[.pointer (some ⟨b, 0, none⟩), v] 130 (0, 0)) := (hg.block b hlt (fun e => h.2.2 e.symm)).trans h.1
  have hlt2 : b < w2.heap.size := Nat.lt_of_lt_of_le hlt hg.size
  have hne : v'.ownBlock ≠ some b := by
    rcases hat with e | e | ⟨k, e, hk⟩
    · rw [e]; exact h.2.2
    · rw [e]; simp
    · rw [e]; simp; omega
  have hg2 : w2.grownBy (w2.setCell ⟨b, 1, none⟩ v') (some b) := ⟨rfl, rfl, rfl, by simp [World.setCell], fun k _ hk => Below.heap_setCell _ _ _ _ (fun e => hk (by simp [e]))⟩
  have h2 : BDv (w2.setCell ⟨b, 1, none⟩ v') b (.pointer (some ⟨b, 0, none⟩)) v' l' :=
    ⟨by simp [World.setCell, Array.getElem?_modify, hb2], World.ownsRow.kept hown hg2 (Or.inr hne), hne⟩
  refine ⟨⟨_, _, .inr rfl, h2⟩, hg.os, hg.tape, hg.output, Nat.le_trans hg.size hg2.size, fun k hk hb hn => ?_, fun k hk => ?_⟩
  · rw [hg2.block k (Nat.lt_of_lt_of_le hk hg.size) (by simpa using hb)]
    exact hg.block k hk (fun e => hn (h.isBuf.2 e.symm))
  · have := h2.isBuf.1 hk
    rcases hat with e | e | ⟨j, e, hj⟩
    · exact .inr (h.isBuf.2 (by rw [← e]; exact this))
    · rw [e] at this; cases this
    · rw [e] at this; injection this with this; subst this; exact .inl hj

/-- Where the buffer lies behind an append of a string. -/
theorem app_str {w : World} {v : Value} {l : List UInt8} (h : RowB w 0 v l) (s : ByteArray) (hl : l.length + s.size ≤ 100000000000000) :
    ∃ v' w', (Builtin.append_ #[127, 9] 127 #[v, .string s]).run Tryz.prog w = .ok v' w' ∧ RowB w' 0 v' (l ++ s.data.toList) ∧ w.grownBy w' v.ownBlock ∧ (v'.ownBlock = v.ownBlock ∨ v'.ownBlock = none ∨ ∃ k, v'.ownBlock = some k ∧ w.heap.size ≤ k) := by
  obtain ⟨i0, hi0, hz0, hz1, hz2⟩ := info_parts infoB
  obtain ⟨v', w', hr, h2, h3, _⟩ := Lib.run_append_own_string (P := Tryz.prog) w 0 127 9 127 5 i0 Tryz.underlying127 Tryz.underlying9 hi0 hz0 hz1 hz2 v l.length _ h s (by unfold maxLen; omega) (by omega) (Nat.zero_le _)
  refine ⟨v', w', hr, RowB.snoc h2, h3, ?_⟩
  have hh := h
  rcases h.2 with ⟨rfl, h0⟩ | ⟨g, cap, cur, rfl, hbg, hg, hnc, hcm, hcs, htake⟩
  · have hn : w.ownsRow w.heap.size 5 1 (.slice none 0 0) l.length (l.map fun b => Value.int .u8 b.toNat) := ⟨h.1, .inl ⟨rfl, h0⟩⟩
    obtain ⟨v2, w2, hr2, h22, _, _⟩ := Lib.run_append_own_string (P := Tryz.prog) w w.heap.size 127 9 127 5 i0 Tryz.underlying127 Tryz.underlying9 hi0 hz0 hz1 hz2 _ l.length _ hn s (by unfold maxLen; omega) (by omega) (Nat.le_refl _)
    rw [hr] at hr2
    injection hr2 with e1 e2
    subst e1
    rcases hv : v'.ownBlock with _ | k
    · exact .inr (.inl rfl)
    · subst e2
      exact .inr (.inr ⟨k, rfl, (World.ownsRow.lt h22 k hv).1⟩)
  · by_cases hroom : l.length + s.size ≤ cap
    · have hr2 := Lib.run_append_room_string (P := Tryz.prog) w 127 9 127 5 i0 Tryz.underlying127 Tryz.underlying9 hi0 hz1 g l.length cap cur hg s hroom (by omega)
      rw [hr] at hr2
      injection hr2 with e1 e2
      subst e1
      exact .inl rfl
    · have hr2 := Lib.run_append_grow_string (P := Tryz.prog) w 127 9 127 5 i0 (.int .u8 0) Tryz.underlying127 Tryz.underlying9 hi0 hz0 ⟨g, 0, none⟩ l.length cap _ (by rw [hz1]; exact hh.1) (World.ownsRow.cells hh (g := g) rfl) s (by omega) (by omega) (by rw [hz2]; exact growslice_fits (by omega) (by omega))
      rw [hr] at hr2
      injection hr2 with e1 e2
      subst e1
      exact .inr (.inr ⟨_, rfl, Nat.le_refl _⟩)

/-- Where the buffer lies behind an append of a byte. -/
theorem app_byte {w : World} {v : Value} {l : List UInt8} (h : RowB w 0 v l) (u : UInt8) (c : Int) (hc : c = (u.toNat : Int)) (hl : l.length ≤ 100000000000000) :
    ∃ v' w', (Builtin.append_ #[127, 127] 127 #[v, .slice (some ⟨w.heap.size, 0, none⟩) 1 1]).run Tryz.prog (w.alloc (.cells #[.int .u8 c] 5)) = .ok v' w' ∧ RowB w' 0 v' (l ++ [u]) ∧ w.grownBy w' v.ownBlock ∧ (v'.ownBlock = v.ownBlock ∨ v'.ownBlock = none ∨ ∃ k, v'.ownBlock = some k ∧ w.heap.size ≤ k) := by
  obtain ⟨i0, hi0, hz0, hz1, hz2⟩ := info_parts infoB
  obtain ⟨v', w', hr, h2, hgr, _, hat⟩ := run_append_own_at (P := Tryz.prog) (w.alloc (.cells #[.int .u8 c] 5)) 0 127 127 5 i0 (.int .u8 0) 1 1 Tryz.underlying127 hi0 hz0 hz1 hz2 rfl (by decide) v l.length _ (World.ownsRow.alloc h _) ⟨w.heap.size, 0, none⟩ 1 1 [.int .u8 c] rfl (cell_one _ _ _) (fun x hx => by simp at hx; subst hx; rfl) (by unfold maxLen; omega) (by omega) (Nat.zero_le _)
  refine ⟨v', w', hr, RowB.snoc1 hc h2, ⟨hgr.os, hgr.tape, hgr.output, by have := hgr.size; simp at this; omega, fun k hk hne => (hgr.block k (by simp; omega) hne).trans (Below.heap_alloc w _ k hk)⟩, ?_⟩
  rcases hat with e | e
  · exact .inl e
  · exact .inr (.inr ⟨_, e, by simp⟩)

set_option maxRecDepth 100000 in
set_option maxHeartbeats 2000000 in
theorem wByte_any (b : Nat) (l : List UInt8) (u : UInt8) (c : Int) (hc : c = (u.toNat : Int)) (w : World) (h : BD w b l) (hl : l.length ≤ 1000000000000) :
    Calls Tryz.prog 148 #[.pointer (some ⟨b, 0, none⟩), .int .u8 c] w fun e w' => e = .returned .nilIface ∧ WrEnd b (l ++ [u]) w w' := by
  have hcc := Lib.hid (cc_any b l w h)
  clear h
  go_enter Tryz.func148, Tryz.ntmps148
  go_wp2_with fail
  refine hcc.out.mono ?_
  rintro e w1 ⟨rfl, ⟨v, h1⟩, hW⟩
  have c0 : w1.cell? ⟨b, 0, none⟩ = some (.pointer (some ⟨b, 0, none⟩)) := by rw [Lib.cell_of_heap h1.1]; rfl
  have c1 : w1.cell? ⟨b, 1, none⟩ = some v := h1.cell1
  have hlt := h1.lt
  obtain ⟨v', w2, hrun, hR, hg2, hat⟩ := app_byte h1.2.1 u c hc (by omega)
  have hf := put_back h1 hR hg2 hat
  have c2 : (w1.alloc (.cells #[.int .u8 c] 5)).cell? ⟨b, 1, none⟩ = some v := (World.cell?_alloc_lt w1 _ ⟨b, 1, none⟩ hlt).trans c1
  have d0 : w2.heap[b]? = some (.cells #[.pointer (some ⟨b, 0, none⟩), v] 130 (0, 0)) := (hg2.block b hlt (fun e => h1.2.2 e.symm)).trans h1.1
  have d1 : w2.cell? ⟨b, 1, none⟩ = some v := by rw [Lib.cell_of_heap d0]; rfl
  have f1 : w2.frozen? ⟨b, 1, none⟩ = false := Lib.frozen_of_heap d0 1
  have hsl : ∃ ao n' cap, v' = .slice ao n' cap := by
    rcases hR.2 with ⟨hv, _⟩ | ⟨g, cap, cur, hv, _⟩
    · exact ⟨_, _, _, hv⟩
    · exact ⟨_, _, _, hv⟩
  obtain ⟨ao, n', cap, rfl⟩ := hsl
  clear hc hcc hat hg2 hR h1 d0
  replace hW := Lib.hid hW
  replace hf := Lib.hid hf
  replace hrun := Lib.hid hrun
  go_wp2_with (at_builtin; refine jl_append_run (by rfl) _ _ 127 127 rfl v (.slice (some ⟨w1.heap.size, 0, none⟩) 1 1) _ rfl rfl hrun.out ?_)
  go_ret
  exact ⟨rfl, hf.out.1, hW.out.trans hf.out.2⟩
set_option maxRecDepth 100000 in
set_option maxHeartbeats 2000000 in
theorem wStr_any (b : Nat) (l : List UInt8) (s : ByteArray) (w : World) (h : BD w b l) (hl : l.length + s.size ≤ 1000000000000) :
    Calls Tryz.prog 146 #[.pointer (some ⟨b, 0, none⟩), .string s] w fun e w' => e = .returned (.tuple #[.int .i64 s.size, .nilIface]) ∧ WrEnd b (l ++ s.data.toList) w w' := by
  have hcc := Lib.hid (cc_any b l w h)
  clear h
  go_enter Tryz.func146, Tryz.ntmps146
  go_wp2_with fail
  refine hcc.out.mono ?_
  rintro e w1 ⟨rfl, ⟨v, h1⟩, hW⟩
  have c0 : w1.cell? ⟨b, 0, none⟩ = some (.pointer (some ⟨b, 0, none⟩)) := by rw [Lib.cell_of_heap h1.1]; rfl
  have c1 : w1.cell? ⟨b, 1, none⟩ = some v := h1.cell1
  have hlt := h1.lt
  obtain ⟨v', w2, hrun, hR, hg2, hat⟩ := app_str h1.2.1 s (by omega)
  have hf := put_back h1 hR hg2 hat
  have d0 : w2.heap[b]? = some (.cells #[.pointer (some ⟨b, 0, none⟩), v] 130 (0, 0)) := (hg2.block b hlt (fun e => h1.2.2 e.symm)).trans h1.1
  have d1 : w2.cell? ⟨b, 1, none⟩ = some v := by rw [Lib.cell_of_heap d0]; rfl
  have f1 : w2.frozen? ⟨b, 1, none⟩ = false := Lib.frozen_of_heap d0 1
  have hsl : ∃ ao n' cap, v' = .slice ao n' cap := by
    rcases hR.2 with ⟨hv, _⟩ | ⟨g, cap, cur, hv, _⟩
    · exact ⟨_, _, _, hv⟩
    · exact ⟨_, _, _, hv⟩
  obtain ⟨ao, n', cap, rfl⟩ := hsl
  clear hcc hat hg2 hR h1 d0
  replace hW := Lib.hid hW
  replace hf := Lib.hid hf
  replace hrun := Lib.hid hrun
  go_wp2_with (at_builtin; refine jl_append_run (by rfl) _ _ 127 9 rfl v (.string s) _ rfl rfl hrun.out ?_)
  go_ret2
  exact ⟨rfl, hf.out.1, hW.out.trans hf.out.2⟩
end Go.Proofs.YtamcbgkppgdniaaGreatDoor


/-
  The walks of json.marks and json.quote.
-/
namespace Go.Proofs.YtamcbgkppgdniaaGreatDoor
open Go.RowKit

/-- What stands behind a backslash. -/
def markI (b : Int) : Int × Bool :=
  if b = 34 then (34, true) else if b = 92 then (92, true) else if b = 8 then (98, true) else if b = 12 then (102, true) else if b = 10 then (110, true) else if b = 13 then (114, true) else if b = 9 then (116, true) else (0, false)
def markIx (b : Int) : Int :=
  if b = 34 then 0 else if b = 92 then 1 else if b = 8 then 2 else if b = 12 then 3 else if b = 10 then 4 else if b = 13 then 5 else if b = 9 then 6 else -1
theorem markIx_of (b : Int) (h0 : 0 ≤ b) (h1 : b < 256) : Lib.indexByte [34, 92, 8, 12, 10, 13, 9] b.toNat.toUInt8 = markIx b := by
  obtain ⟨n, rfl⟩ := Int.eq_ofNat_of_zero_le h0
  have hn : n < 256 := by omega
  have key : ∀ k : Fin 256, Lib.indexByte [34, 92, 8, 12, 10, 13, 9] (k.val : Int).toNat.toUInt8 = markIx (k.val : Int) := by decide +kernel
  exact key ⟨n, hn⟩
def MarkEnd (b : Int) (w : World) (e : Ending) (w' : World) : Prop := e = .returned (.tuple #[.int .u8 (markI b).1, .bool (markI b).2]) ∧ w' = w
set_option maxRecDepth 100000 in
set_option maxHeartbeats 2000000 in
theorem marks_any (b : Int) (h0 : 0 ≤ b) (h1 : b < 256) (w : World) : Calls Tryz.prog 175 #[.int .u8 b] w (MarkEnd b w) := by
  have hi := Tryz.strings_IndexByte ⟨#[34, 92, 8, 12, 10, 13, 9]⟩ b w
  have hx : (⟨#[34, 92, 8, 12, 10, 13, 9]⟩ : ByteArray).data.toList = [34, 92, 8, 12, 10, 13, 9] := rfl
  rw [hx, markIx_of b h0 h1] at hi
  clear hx h0 h1
  obtain ⟨M, hM⟩ : ∃ M, markI b = M := ⟨_, rfl⟩
  unfold MarkEnd
  rw [hM]
  unfold markI at hM
  unfold markIx at hi
  by_cases c34 : b = 34
  · rw [if_pos c34] at hM hi
    subst hM
    subst c34
    go_enter Tryz.func175, Tryz.ntmps175
    go_wp2_with fail
    refine hi.mono ?_
    rintro e w1 ⟨rfl, rfl⟩
    clear hi
    go_wp2_with fail
    refine bodyPost_ret (v := .tuple #[.int .u8 34, .bool true]) (by simp [results, Tryz.results175, go_sem] <;> rfl) rfl ⟨rfl, rfl⟩
  rw [if_neg c34] at hM hi
  by_cases c92 : b = 92
  · rw [if_pos c92] at hM hi
    subst hM
    subst c92
    go_enter Tryz.func175, Tryz.ntmps175
    go_wp2_with fail
    refine hi.mono ?_
    rintro e w1 ⟨rfl, rfl⟩
    clear hi
    go_wp2_with fail
    refine bodyPost_ret (v := .tuple #[.int .u8 92, .bool true]) (by simp [results, Tryz.results175, go_sem] <;> rfl) rfl ⟨rfl, rfl⟩
  rw [if_neg c92] at hM hi
  by_cases c8 : b = 8
  · rw [if_pos c8] at hM hi
    subst hM
    subst c8
    go_enter Tryz.func175, Tryz.ntmps175
    go_wp2_with fail
    refine hi.mono ?_
    rintro e w1 ⟨rfl, rfl⟩
    clear hi
    go_wp2_with fail
    refine bodyPost_ret (v := .tuple #[.int .u8 98, .bool true]) (by simp [results, Tryz.results175, go_sem] <;> rfl) rfl ⟨rfl, rfl⟩
  rw [if_neg c8] at hM hi
  by_cases c12 : b = 12
  · rw [if_pos c12] at hM hi
    subst hM
    subst c12
    go_enter Tryz.func175, Tryz.ntmps175
    go_wp2_with fail
    refine hi.mono ?_
    rintro e w1 ⟨rfl, rfl⟩
    clear hi
    go_wp2_with fail
    refine bodyPost_ret (v := .tuple #[.int .u8 102, .bool true]) (by simp [results, Tryz.results175, go_sem] <;> rfl) rfl ⟨rfl, rfl⟩
  rw [if_neg c12] at hM hi
  by_cases c10 : b = 10
  · rw [if_pos c10] at hM hi
    subst hM
    subst c10
    go_enter Tryz.func175, Tryz.ntmps175
    go_wp2_with fail
    refine hi.mono ?_
    rintro e w1 ⟨rfl, rfl⟩
    clear hi
    go_wp2_with fail
    refine bodyPost_ret (v := .tuple #[.int .u8 110, .bool true]) (by simp [results, Tryz.results175, go_sem] <;> rfl) rfl ⟨rfl, rfl⟩
  rw [if_neg c10] at hM hi
  by_cases c13 : b = 13
  · rw [if_pos c13] at hM hi
    subst hM
    subst c13
    go_enter Tryz.func175, Tryz.ntmps175
    go_wp2_with fail
    refine hi.mono ?_
    rintro e w1 ⟨rfl, rfl⟩
    clear hi
    go_wp2_with fail
    refine bodyPost_ret (v := .tuple #[.int .u8 114, .bool true]) (by simp [results, Tryz.results175, go_sem] <;> rfl) rfl ⟨rfl, rfl⟩
  rw [if_neg c13] at hM hi
  by_cases c9 : b = 9
  · rw [if_pos c9] at hM hi
    subst hM
    subst c9
    go_enter Tryz.func175, Tryz.ntmps175
    go_wp2_with fail
    refine hi.mono ?_
    rintro e w1 ⟨rfl, rfl⟩
    clear hi
    go_wp2_with fail
    refine bodyPost_ret (v := .tuple #[.int .u8 116, .bool true]) (by simp [results, Tryz.results175, go_sem] <;> rfl) rfl ⟨rfl, rfl⟩
  rw [if_neg c9] at hM hi
  subst hM
  go_enter Tryz.func175, Tryz.ntmps175
  go_wp2_with fail
  refine hi.mono ?_
  rintro e w1 ⟨rfl, rfl⟩
  clear hi
  go_wp2_with fail
  refine bodyPost_ret (v := .tuple #[.int .u8 0, .bool false]) (by simp [results, Tryz.results175, go_sem] <;> rfl) rfl ⟨rfl, rfl⟩

theorem jescI_mark (b : Int) (h : (markI b).2 = true) : jescI b = [92, UInt8.ofNat (markI b).1.toNat] ∧ 0 ≤ (markI b).1 ∧ (markI b).1 < 256 := by
  unfold markI at h ⊢
  unfold jescI
  by_cases c34 : b = 34
  · simp only [if_pos c34]; exact ⟨rfl, by decide, by decide⟩
  simp only [if_neg c34] at h ⊢
  by_cases c92 : b = 92
  · simp only [if_pos c92]; exact ⟨rfl, by decide, by decide⟩
  simp only [if_neg c92] at h ⊢
  by_cases c8 : b = 8
  · simp only [if_pos c8]; exact ⟨rfl, by decide, by decide⟩
  simp only [if_neg c8] at h ⊢
  by_cases c12 : b = 12
  · simp only [if_pos c12]; exact ⟨rfl, by decide, by decide⟩
  simp only [if_neg c12] at h ⊢
  by_cases c10 : b = 10
  · simp only [if_pos c10]; exact ⟨rfl, by decide, by decide⟩
  simp only [if_neg c10] at h ⊢
  by_cases c13 : b = 13
  · simp only [if_pos c13]; exact ⟨rfl, by decide, by decide⟩
  simp only [if_neg c13] at h ⊢
  by_cases c9 : b = 9
  · simp only [if_pos c9]; exact ⟨rfl, by decide, by decide⟩
  simp only [if_neg c9] at h ⊢
  cases h
theorem jescI_plain (b : Int) (h : (markI b).2 = false) : jescI b = if b < 32 then [92, 117, 48, 48, jhex (b.toNat / 16), jhex (b.toNat % 16)] else [UInt8.ofNat b.toNat] := by
  unfold markI at h
  unfold jescI
  by_cases c34 : b = 34
  · simp only [if_pos c34] at h; cases h
  simp only [if_neg c34] at h ⊢
  by_cases c92 : b = 92
  · simp only [if_pos c92] at h; cases h
  simp only [if_neg c92] at h ⊢
  by_cases c8 : b = 8
  · simp only [if_pos c8] at h; cases h
  simp only [if_neg c8] at h ⊢
  by_cases c12 : b = 12
  · simp only [if_pos c12] at h; cases h
  simp only [if_neg c12] at h ⊢
  by_cases c10 : b = 10
  · simp only [if_pos c10] at h; cases h
  simp only [if_neg c10] at h ⊢
  by_cases c13 : b = 13
  · simp only [if_pos c13] at h; cases h
  simp only [if_neg c13] at h ⊢
  by_cases c9 : b = 9
  · simp only [if_pos c9] at h; cases h
  simp only [if_neg c9] at h ⊢
def hexA : ByteArray := ⟨#[48, 49, 50, 51, 52, 53, 54, 55, 56, 57, 97, 98, 99, 100, 101, 102]⟩
theorem hex_all : ∀ k : Fin 16, hexA.data.toList.getD k.val 0 = jhex k.val := by decide
theorem hex_at (k : Nat) (h : k < hexA.size) : hexA[k] = jhex k := by
  rw [← getD_at hexA k h]; exact hex_all ⟨k, h⟩
theorem hex_num {k : Nat} {h : k < hexA.size} {m : Nat} (e : k = m) : (hexA[k].toNat : Int) = ((jhex m).toNat : Int) := by subst e; rw [hex_at k h]
theorem hex_lit {k : Nat} {h : k < (⟨#[48, 49, 50, 51, 52, 53, 54, 55, 56, 57, 97, 98, 99, 100, 101, 102]⟩ : ByteArray).size} {m : Nat} (e : k = m) : ((⟨#[48, 49, 50, 51, 52, 53, 54, 55, 56, 57, 97, 98, 99, 100, 101, 102]⟩ : ByteArray)[k].toNat : Int) = ((jhex m).toNat : Int) := hex_num (h := h) e

set_option maxRecDepth 100000 in
set_option maxHeartbeats 4000000 in
theorem jsnQuote_any (b : Nat) (l : List UInt8) (s : ByteArray) (hs : s.size ≤ 1000000) (w : World) (h : BD w b l) (hl : l.length ≤ 100000000000) :
    Calls Tryz.prog 147 #[.pointer (some ⟨b, 0, none⟩), .string s] w fun e w' => e = .returned (.tuple #[]) ∧ WrEnd b (l ++ jquote s.data.toList) w w' := by
  have h0 := Lib.hid (wByte_any b l 34 34 rfl w h (by omega))
  clear h
  go_enter Tryz.func147, Tryz.ntmps147
  go_wp2_with fail
  refine h0.out.mono ?_
  rintro e w1 ⟨rfl, hB1, hW1⟩
  clear h0
  replace hB1 := Lib.hid hB1
  replace hW1 := Lib.hid hW1
  go_wp2_with fail
  go_loopw [12] (fun i wr => ∃ q : Nat, q ≤ s.size ∧ i = .int .i64 q ∧ BD wr b (l ++ qHeld s.data.toList q) ∧ Wr b w wr) (fun i _ => s.size - (intOf i).toNat)
  case atStart => exact ⟨0, Nat.zero_le _, rfl, hB1.out, hW1.out⟩
  case round =>
    clear hB1 hW1
    obtain ⟨q, hq, rfl, hB, hW⟩ := hrel
    have hln := qHeld_len s.data.toList q
    have hsl : s.data.toList.length = s.size := by rw [Array.length_toList]; rfl
    rw [hsl] at hln
    have hl2 : (l ++ qHeld s.data.toList q).length ≤ 100007000000 := by rw [List.length_append]; omega
    by_cases hlt : q < s.size
    · obtain ⟨c, hc⟩ : ∃ c : Int, (s[q].toNat : Int) = c := ⟨_, rfl⟩
      have hbd : 0 ≤ c ∧ c < 256 := by have := s[q].toNat_lt; omega
      obtain ⟨hb0, hb1⟩ := hbd
      have hq1 : s.data.toList[q]? = some s[q] := by rw [Array.getElem?_toList]; exact Array.getElem?_eq_getElem hlt
      have hst := qHeld_step hq1
      rw [jesc_num _ c hc] at hst
      obtain ⟨L, hL⟩ : ∃ L, l ++ qHeld s.data.toList q = L := ⟨_, rfl⟩
      have hst2 : l ++ qHeld s.data.toList (q + 1) = L ++ jescI c := by rw [hst, ← List.append_assoc, hL]
      rw [hL] at hB hl2
      clear hL hq1 hsl hst hln
      have hmk := marks_any c hb0 hb1 wr
      have hj1 := jescI_mark c
      have hj2 := jescI_plain c
      unfold MarkEnd at hmk
      obtain ⟨⟨m, ok⟩, hm⟩ : ∃ x, markI c = x := ⟨_, rfl⟩
      rw [hm] at hmk hj1 hj2
      dsimp only at hmk hj1 hj2
      have hq0 : (0 : Int) ≤ (q : Int) := by omega
      replace hst2 := Lib.hid hst2
      replace hW := Lib.hid hW
      replace hmk := Lib.hid hmk
      clear hm
      cases ok
      · replace hj2 := Lib.hid (hj2 rfl)
        clear hj1
        by_cases h32 : c < 32
        · replace hj2 := Lib.hid (by have := hj2.out; rwa [if_pos h32] at this)
          go_wp2_with fail
          refine hmk.out.mono ?_
          rintro e w2 ⟨rfl, rfl⟩
          clear hmk
          have hs1 := Lib.hid (wStr_any b L ⟨#[92, 117, 48, 48]⟩ w2 hB (by show _ + 4 ≤ _; omega))
          clear hB
          go_wp2_with fail
          refine hs1.out.mono ?_
          rintro e w3 ⟨rfl, hB3, hW3⟩
          have hW4 := Lib.hid (hW.out.trans hW3)
          clear hs1 hW hW3
          have hk1 : (c / 16).toNat = c.toNat / 16 := by omega
          have hs2 := Lib.hid (fun W hW => wByte_any b (L ++ [92, 117, 48, 48]) (jhex (c.toNat / 16)) _ rfl W hW (by rw [List.length_append]; show _ + 4 ≤ _; omega))
          go_wp2_with fail
          rw [hex_lit (m := c.toNat / 16) rfl]
          refine (hs2.out _ hB3).mono ?_
          rintro e w4 ⟨rfl, hB4, hW4'⟩
          have hW5 := Lib.hid (hW4.out.trans hW4')
          clear hW4 hW4' hB3 hk1 hs2
          have hk2 : (c % 16).toNat = c.toNat % 16 := by omega
          have hs3 := Lib.hid (fun W hW => wByte_any b (L ++ [92, 117, 48, 48] ++ [jhex (c.toNat / 16)]) (jhex (c.toNat % 16)) _ rfl W hW (by rw [List.length_append, List.length_append]; show _ + 4 + 1 ≤ _; omega))
          go_wp2_with fail
          rw [hex_lit (m := c.toNat % 16) rfl]
          refine (hs3.out _ hB4).mono ?_
          rintro e w5 ⟨rfl, hB5, hW5'⟩
          have hW6 := Lib.hid (hW5.out.trans hW5')
          have hfin : BD w5 b (l ++ qHeld s.data.toList (q + 1)) := by
            rw [hst2.out, hj2.out]
            simpa using hB5
          clear hW5 hW5' hB4 hk2 hs3 hB5
          replace hfin := Lib.hid hfin
          go_wp2_with fail
          go_roundw
          case rel => exact ⟨q + 1, by omega, by go_num, hfin.out, hW6.out⟩
          case measure => simp [intOf]; omega
        · replace hj2 := Lib.hid (by have := hj2.out; rwa [if_neg h32] at this)
          have hub : c = ((UInt8.ofNat c.toNat).toNat : Int) := by rw [UInt8.toNat_ofNat']; omega
          obtain ⟨U, hU⟩ : ∃ U, UInt8.ofNat c.toNat = U := ⟨_, rfl⟩
          rw [hU] at hj2 hub
          clear hU
          have hs1 := Lib.hid (wByte_any b L U c hub wr hB (by omega))
          clear hub hB
          go_wp2_with fail
          refine hmk.out.mono ?_
          rintro e w2 ⟨rfl, rfl⟩
          clear hmk
          go_wp2_with fail
          refine hs1.out.mono ?_
          rintro e w3 ⟨rfl, hB3, hW3⟩
          have hW4 := Lib.hid (hW.out.trans hW3)
          have hfin : BD w3 b (l ++ qHeld s.data.toList (q + 1)) := by
            rw [hst2.out, hj2.out]; exact hB3
          clear hs1 hW hW3 hB3
          replace hfin := Lib.hid hfin
          go_wp2_with fail
          go_roundw
          case rel => exact ⟨q + 1, by omega, by go_num, hfin.out, hW4.out⟩
          case measure => simp [intOf]; omega
      · obtain ⟨hj, hm0, hm1⟩ := hj1 rfl
        clear hj2
        have hub : m = ((UInt8.ofNat m.toNat).toNat : Int) := by rw [UInt8.toNat_ofNat']; omega
        obtain ⟨U, hU⟩ : ∃ U, UInt8.ofNat m.toNat = U := ⟨_, rfl⟩
        rw [hU] at hj hub
        clear hU
        have hs1 := Lib.hid (wByte_any b L 92 92 rfl wr hB (by omega))
        have hs2 := Lib.hid (fun W hW => wByte_any b (L ++ [92]) U m hub W hW (by rw [List.length_append]; show _ + 1 ≤ _; omega))
        replace hj := Lib.hid hj
        clear hub hB
        go_wp2_with fail
        refine hmk.out.mono ?_
        rintro e w2 ⟨rfl, rfl⟩
        clear hmk
        go_wp2_with fail
        refine hs1.out.mono ?_
        rintro e w3 ⟨rfl, hB3, hW3⟩
        have hW4 := Lib.hid (hW.out.trans hW3)
        clear hs1 hW hW3
        go_wp2_with fail
        refine (hs2.out _ hB3).mono ?_
        rintro e w4 ⟨rfl, hB4, hW4'⟩
        have hW5 := Lib.hid (hW4.out.trans hW4')
        have hfin : BD w4 b (l ++ qHeld s.data.toList (q + 1)) := by
          rw [hst2.out, hj.out]
          simpa using hB4
        clear hs2 hW4 hW4' hB3 hB4
        replace hfin := Lib.hid hfin
        go_wp2_with fail
        go_roundw
        case rel => exact ⟨q + 1, by omega, by go_num, hfin.out, hW5.out⟩
        case measure => simp [intOf]; omega
    · have hqe : q = s.size := by omega
      have hall : qHeld s.data.toList q ++ [34] = jquote s.data.toList := by
        rw [hqe, ← hsl]; unfold qHeld jquote; rw [List.take_length]; rfl
      have hs1 := Lib.hid (wByte_any b _ 34 34 rfl wr hB (by omega))
      have hall2 : l ++ jquote s.data.toList = l ++ qHeld s.data.toList q ++ [34] := by rw [← hall, List.append_assoc]
      replace hall2 := Lib.hid hall2
      replace hW := Lib.hid hW
      clear hall hB hsl hln hl2 hqe
      go_wp2_with fail
      refine hs1.out.mono ?_
      rintro e w3 ⟨rfl, hB3, hW3⟩
      have hW4 := Lib.hid (hW.out.trans hW3)
      have hfin : BD w3 b (l ++ jquote s.data.toList) := by rw [hall2.out]; exact hB3
      clear hs1 hW hW3 hB3
      replace hfin := Lib.hid hfin
      go_wp2_with fail
      go_end0
      exact ⟨rfl, hfin.out, hW4.out⟩
end Go.Proofs.YtamcbgkppgdniaaGreatDoor
