/-
  The walks of slices.Clone over strings, and of json.own: a value in new memory.
-/
import Derived.Test.YtlnkjacbdolhnaaGreatDoorM19
import Derived.Test.YtlnkjacbdolhnaaGreatDoorM18
import Derived.Test.YtlnkjacbdolhnaaGreatDoorShelf
import Derived.Shelf.Strings.Builder1
import Derived.Maps.AppendAt
import Derived.Test.YtlnkjacbdolhnaaGreatDoorJsUa
namespace Go.Proofs.YtlnkjacbdolhnaaGreatDoor
open Go.RowKit

theorem jl_append_run {P : Program} {w w' : World} {ops : Array Oper} {rest : List Oper} {o : Oper} {a : Act} {Q : Exit → Act → World → Prop} (hw : Region.wanted o (yielded ops a.tmps) = true) (s x : Operand) (t1 t2 : TypeId)
    (hop : o.op = Op.call { callee := Callee.builtin Builtin.append, args := #[s, x], argTypes := #[t1, t2] }) (vs vx v : Value) (hs : a.eval s = vs) (hx : a.eval x = vx) (hrun : (Builtin.append_ #[t1, t2] o.type #[vs, vx]).run P w = .ok v w')
    (h : wpList P ops Q rest (a.put o.dst v) w') : wpList P ops Q (o :: rest) a w :=
  wpList_step fun K hK => by
    rw [if_pos hw]
    unfold Oper.wp
    simp [execOp, hop, resolve, invoke, builtin, hs, hx, hrun, Result.andThen]
    exact hK _ _ h
theorem infoJ : (Tryz.prog.info? 25).map (fun i => (i.zero, i.size, i.bytes)) = some (some (.agg #[.int .u8 0, .string ByteArray.empty, .slice none 0 0, .slice none 0 0]), 4, 72) := by kernel_rfl

def CloneEnd (L : List ByteArray) (w : World) (e : Ending) (w' : World) : Prop := ∃ v' gn, e = .returned v' ∧ w.heap.size ≤ gn ∧ NamO w' 9 w.heap.size w'.heap.size gn v' L ∧ Below w.heap.size w w'
theorem own_nam {w : World} {B : Nat} {v : Value} {L : List ByteArray} (h : w.ownsRow B 9 1 v L.length (L.map Value.string)) : ∃ gn, B ≤ gn ∧ NamO w 9 B w.heap.size gn v L := by
  rcases h.2 with ⟨rfl, h0⟩ | ⟨g, cap, cur, rfl, hg, hh, hnc, hcm, hcs, htk⟩
  · have : L = [] := List.eq_nil_of_length_eq_zero h0
    subst this
    exact ⟨B, Nat.le_refl _, none, 0, rfl, fun h => by simp at h⟩
  · refine ⟨g, hg, some ⟨g, 0, none⟩, cap, rfl, fun _ => ⟨rfl, hg, (Array.getElem?_eq_some_iff.1 hh).1, cur, hh, fun j x hx => ?_⟩⟩
    have h5 : (L.map Value.string)[j]? = some (.string x) := by rw [List.getElem?_map, hx]; rfl
    rw [← htk, List.getElem?_take] at h5
    split at h5
    · rwa [Array.getElem?_toList] at h5
    · cases h5
theorem cloneStr_any (X : Nat → Prop) (v : Value) (L : List ByteArray) (w : World) (hv : StrL w X v L) (hl : L.length ≤ 1000000000000) :
    Calls Tryz.prog 95 #[v] w (CloneEnd L w) := by
  obtain ⟨A, c, rfl, h1⟩ := hv
  by_cases h0 : L.length = 0
  · have e1 : L = [] := List.eq_nil_of_length_eq_zero h0
    subst e1
    rcases A with _ | a
    · refine (Tryz.slices_Clone_string_nil 0 c w).mono ?_
      rintro e w' ⟨rfl, rfl⟩
      exact ⟨_, w'.heap.size, rfl, Nat.le_refl _, ⟨none, 0, rfl, fun h => by simp at h⟩, Below.refl _ _⟩
    · refine (Tryz.slices_Clone_string_zero a c w).mono ?_
      rintro e w' ⟨v', rfl, hown, _, hB⟩
      obtain ⟨gn, hg, hN⟩ := own_nam (L := []) hown
      exact ⟨_, gn, rfl, hg, hN, hB⟩
  · obtain ⟨g, o, rfl, _, _, q1⟩ := h1 (by omega)
    refine (Tryz.slices_Clone_string g o L.length c L w (Nat.le_refl _) (by omega) (fun j hj => by rw [q1 j _ (List.getElem?_eq_getElem hj)]; simp [List.getD, hj])).mono ?_
    rintro e w' ⟨v', rfl, hown, _, hB⟩
    rw [List.take_of_length_le (Nat.le_refl _)] at hown
    obtain ⟨gn, hg, hN⟩ := own_nam hown
    exact ⟨_, gn, rfl, hg, hN, hB⟩

/-- append(row, x): x made behind the row. -/
theorem append_row (tSl : TypeId) (ht : Tryz.prog.underlying tSl = some (.slice 25)) {wr W1 w2 : World} {B : Nat} {v : Value} {l : List Jsn} {x : Jsn} {vn vl : Value} (h : RowO wr B 9 25 v l) (hs : wr.heap.size ≤ W1.heap.size) (h12 : Below wr.heap.size wr w2) (hs2 : W1.heap.size ≤ w2.heap.size) (hB : B ≤ wr.heap.size)
    (hx : OwnJ w2 9 25 x W1.heap.size w2.heap.size vn vl) (hl : l.length ≤ 1000000000000) :
    ∃ v' w4, (Builtin.append_ #[tSl, tSl] tSl #[v, .slice (some ⟨w2.heap.size, 0, none⟩) 1 1]).run Tryz.prog (w2.alloc (.cells #[.int .u8 x.kind, .string x.text, vn, vl] 25)) = .ok v' w4 ∧
      RowO w4 B 9 25 v' (l ++ [x]) ∧ (w2.alloc (.cells #[.int .u8 x.kind, .string x.text, vn, vl] 25)).grownBy w4 v.ownBlock ∧ ∀ g, v.ownBlock = some g → B ≤ g := by
  obtain ⟨i0, hi0, hz0, hz1, hz2⟩ := info_parts infoJ
  obtain ⟨ws, hw⟩ := h
  obtain ⟨Ax, nx, cx, Ay, ny, cy, e1, e2⟩ := hx.forms
  have hown2 : w2.ownsRow B 25 4 v l.length (rowCells l ws) := hw.2.1.kept (row := none) ⟨h12.os, h12.tape, h12.output, h12.size, fun k hk _ => h12.block k hk⟩ (by rcases hv : v.ownBlock with _ | g <;> simp)
  obtain ⟨v', w4, hrun, h2, h3, _, h5⟩ := run_append_own_at (P := Tryz.prog) (w2.alloc (.cells #[.int .u8 x.kind, .string x.text, vn, vl] 25)) B tSl tSl 25 i0 _ 4 72 ht hi0 hz0 hz1 hz2 rfl (by decide) v l.length (rowCells l ws) (hown2.alloc _) ⟨w2.heap.size, 0, none⟩ 1 1 (encJ (x, vn, vl)) rfl
    (fun j u hu => by
      have hadd : (⟨w2.heap.size, 0, none⟩ : Addr).add j = ⟨w2.heap.size, j, none⟩ := by unfold Addr.add; split <;> simp_all
      rw [hadd, (Cel.fresh w2 25 #[.int .u8 x.kind, .string x.text, vn, vl]).cell]
      simpa [encJ] using hu)
    (fun u hu => by subst e1; subst e2; simp [encJ] at hu; rcases hu with rfl | rfl | rfl | rfl <;> rfl) (by unfold maxLen; omega) (by omega) (by have := h12.size; simp; omega)
  exact ⟨v', w4, hrun, ⟨_, hw.snoc hs h12 hs2 hB hx h2 h3 h5⟩, h3, fun g hg => (hw.2.1.lt g hg).1⟩

def OwnJEnd (j : Jsn) (w : World) (e : Ending) (w' : World) : Prop := ∃ vn vl, e = .returned (.agg #[.int .u8 j.kind, .string j.text, vn, vl]) ∧ OwnJ w' 9 25 j w.heap.size w'.heap.size vn vl ∧ Below w.heap.size w w'
def OwnSays (f : Nat) (j : Jsn) : Prop := ∀ (X : Nat → Prop) (w : World) (vn vl : Value), JV w X j vn vl → jbulk j ≤ 1000000000000 → Calls Tryz.prog f #[.agg #[.int .u8 j.kind, .string j.text, vn, vl]] w (OwnJEnd j w)

set_option maxRecDepth 100000 in
set_option maxHeartbeats 2000000 in
theorem jsnOwn_any : ∀ (j : Jsn), OwnSays 41 j := by
  refine Jsn.ind fun k s n l ih X w vn vl hV hbk => ?_
  obtain ⟨_, hn, hl, _, hkids⟩ := bulk_parts hbk
  dsimp only at hl hkids hn
  obtain ⟨i0, hi0, hz0, hz1, hz2⟩ := info_parts infoJ
  have hnam := hV.names
  have hkd := hV.kind
  obtain ⟨An, cn, rfl⟩ := hnam.len
  obtain ⟨A, c, zs, rfl, hz, h2, h3⟩ := hV.elems
  dsimp only at hnam hkd ⊢
  have hlen : zs.length = l.length := by rw [← hz, List.length_map]
  rw [← hlen] at hl
  have hw := Lib.hid (fun (wr : World) (i : Nat) (hB : Below w.heap.size w wr) (hi : i < zs.length) => JV.at h2 h3 hB hi)
  have hb1 : ∀ x ∈ l, jbulk x ≤ 1000000000000 := fun x hx => by have := hkids x hx; omega
  have hnl := Lib.hid (fun (wr : World) (hB : Below w.heap.size w wr) => cloneStr_any X _ n wr (hnam.later hB) hn)
  clear hV h2 h3 hnam hkids hbk hlen
  replace ih := Lib.hid ih
  replace hb1 := Lib.hid hb1
  replace hz := Lib.hid hz
  go_enter Tryz.func41, Tryz.ntmps41
  go_wp2_with fail
  go_loopw [3, 9] (fun v i wr => ∃ q : Nat, q ≤ zs.length ∧ i = .int .i64 q ∧ RowO wr (w.heap.size + 2) 9 25 v ((zs.take q).map (·.1)) ∧ Cel wr w.heap.size 25 #[.int .u8 k, .string s, .slice An n.length cn, .slice A zs.length c] ∧ Cel wr (w.heap.size + 1) 25 #[.int .u8 0, .string ⟨#[]⟩, .slice none 0 0, .slice none 0 0] ∧ Below w.heap.size w wr) (fun _ i _ => zs.length - (intOf i).toNat)
  case atStart =>
    refine ⟨0, Nat.zero_le _, rfl, RowO.nil _ _ _ _, (Cel.fresh _ _ _).alloc _, ?_, ((Below.refl _ _).alloc (Nat.le_refl _) _).alloc (by simp) _⟩
    have := Cel.fresh (w.alloc (.cells #[.int .u8 k, .string s, .slice An n.length cn, .slice A zs.length c] 25)) 25 #[.int .u8 0, .string ⟨#[]⟩, .slice none 0 0, .slice none 0 0]
    simpa using this
  case round =>
    obtain ⟨q, hq, rfl, hrow, hC1, hC2, hB⟩ := hrel
    have hsz := hC1.lt
    have hsz2 := hC2.lt
    by_cases hlt : q < zs.length
    · obtain ⟨g, o, ⟨x, vx, vy⟩, hzq, hzm, rfl, hVz, a0, a1, a2, a3⟩ := hw.out wr q hB hlt
      dsimp only at hVz a0 a1 a2 a3
      have hxm : x ∈ l := by rw [← hz.out]; exact List.mem_map_of_mem (f := (·.1)) hzm
      obtain ⟨Ax, nx, cx, Ay, ny, cy, rfl, rfl⟩ := hVz.forms
      have hcall := ih.out x hxm X _ _ _ (hVz.alloc (.cells #[.int .u8 x.kind, .string x.text, .slice Ax nx cx, .slice Ay ny cy] 25)) (hb1.out x hxm)
      have hsnoc : (zs.take (q + 1)).map (·.1) = (zs.take q).map (·.1) ++ [x] := by rw [List.take_add_one, hzq]; simp
      have hql : ((zs.take q).map (·.1)).length = q := by rw [List.length_map, List.length_take]; omega
      clear hVz hzq hzm hw
      replace hcall := Lib.hid hcall
      replace hsnoc := Lib.hid hsnoc
      replace hql := Lib.hid hql
      replace hrow := Lib.hid hrow
      replace hC1 := Lib.hid hC1
      replace hC2 := Lib.hid hC2
      replace hB := Lib.hid hB
      go_wp2_with fail
      refine hcall.out.mono ?_
      rintro e w2 ⟨vn', vl', rfl, hO, hB2⟩
      have hbs := hB.out.size
      have hB12 : Below wr.heap.size wr w2 := ((Below.refl wr.heap.size wr).alloc (Nat.le_refl _) (.cells #[.int .u8 x.kind, .string x.text, .slice Ax nx cx, .slice Ay ny cy] 25)).trans (hB2.mono (by simp))
      have hs12 := hB2.size
      obtain ⟨Bx, mx, ex, By, my, ey, rfl, rfl⟩ := hO.forms
      obtain ⟨v', w4, hrun, hrow2, hgr, hvB⟩ := append_row 23 Tryz.underlying23 hrow.out (by simp) hB12 hs12 (by omega) hO (by rw [hql.out]; omega)
      rw [← hsnoc.out] at hrow2
      have hg4 : Below (w.heap.size + 2) wr w4 := (((hB12.mono (by omega)).alloc (by have := hB12.size; omega) _).trans (Below.grown (Below.refl _ _) hgr (by have := hB12.size; simp; omega) hvB))
      have hD1 := hC1.out.below hg4 (by omega)
      have hD2 := hC2.out.below hg4 (by omega)
      have hB4 := hB.out.trans (hg4.mono (by omega))
      clear hcall hO hB2 hB12 hs12 hgr hvB hg4 hrow hC1 hC2 hB a0 a1 a2 a3 hsnoc
      replace hrun := Lib.hid hrun
      replace hrow2 := Lib.hid hrow2
      replace hD1 := Lib.hid hD1
      replace hD2 := Lib.hid hD2
      replace hB4 := Lib.hid hB4
      go_wp2_with (at_builtin; refine jl_append_run (by rfl) _ _ 23 23 rfl u3 (.slice (some ⟨w2.heap.size, 0, none⟩) 1 1) _ rfl rfl hrun.out ?_)
      go_roundw
      case rel => exact ⟨q + 1, by omega, by go_num, hrow2.out, hD1.out, hD2.out, hB4.out⟩
      case measure => simp [intOf]; omega
    · have hfull : (zs.take q).map (·.1) = l := by rw [List.take_of_length_le (by omega), hz.out]
      rw [hfull] at hrow
      have hcl := hnl.out wr hB
      obtain ⟨_, _, A3, c3, _, hv3, _, _⟩ := hrow.kids
      have hbs := hB.size
      clear hw hnl ih hfull
      replace hrow := Lib.hid hrow
      replace hcl := Lib.hid hcl
      have x12 : wr.cell? ⟨w.heap.size, 2, none⟩ = some (.slice An n.length cn) := hC1.cell 2
      have hv3' := Lib.hid hv3
      clear hv3
      go_wp2_with fail
      refine hcl.out.mono ?_
      rintro e w2 ⟨vN, gn, rfl, hgn, hN, hB2⟩
      obtain ⟨A4, c4, rfl, _⟩ := id hN
      have hv4 := hv3'.out
      subst hv4
      have hO := mk_own (k := k) (s := s) hkd.1 hkd.2 hrow.out hB2 (by omega) hgn hN
      have hD1 := hC1.below hB2 hsz
      have hD2 := hC2.below hB2 hsz2
      have hB3 := hB.trans (hB2.mono hbs)
      have p0 := hD1.cell 0
      have p1 := hD1.cell 1
      have p2 := hD1.cell 2
      have p3 := hD1.cell 3
      have p4 := hD1.froz 2
      have p5 := hD1.froz 3
      have r0 := hD2.cell 0
      have r1 := hD2.cell 1
      have r2 := hD2.cell 2
      have r3 := hD2.cell 3
      have s0 := hD2.froz 0
      have s1 := hD2.froz 1
      have s2 := hD2.froz 2
      have s3 := hD2.froz 3
      simp only [List.getElem?_toArray, List.getElem?_cons_zero, List.getElem?_cons_succ] at p0 p1 p2 p3 r0 r1 r2 r3
      clear hcl hrow hN hB2 hC1 hC2 hB x12
      replace hO := Lib.hid hO
      replace hD1 := Lib.hid hD1
      replace hD2 := Lib.hid hD2
      replace hB3 := Lib.hid hB3
      go_wp2_with fail
      refine bodyPost_ret (v := .agg #[.int .u8 k, .string s, .slice A4 n.length c4, .slice A3 l.length c3]) (by simp [results, Tryz.results41, go_sem, r0, r1, r2, r3]) rfl ⟨_, _, rfl, ?_, ?_⟩
      · refine OwnJ.keep _ hO.out (fun b h1 _ => ?_) (by omega) (by simp [World.setCell])
        rw [Below.heap_setCell _ _ _ _ (by simp; omega), Below.heap_setCell _ _ _ _ (by simp; omega), Below.heap_setCell _ _ _ _ (by simp; omega), Below.heap_setCell _ _ _ _ (by simp; omega), Below.heap_setCell _ _ _ _ (by simp; omega), Below.heap_setCell _ _ _ _ (by simp; omega)]
      · exact (((((hB3.out.setCell (by simp) _).setCell (by simp) _).setCell (by simp) _).setCell (by simp) _).setCell (by simp) _).setCell (by simp) _
end Go.Proofs.YtlnkjacbdolhnaaGreatDoor


/-
  The walks of strings.Builder's WriteByte and WriteString at a builder of the call's own; what blocks they turn.
-/
namespace Go.Proofs.YtlnkjacbdolhnaaGreatDoor
open Go.RowKit

/-- Block k is the buffer of the builder in block b. -/
def IsBuf (w : World) (b k : Nat) : Prop := ∃ n c, w.cell? ⟨b, 1, none⟩ = some (.slice (some ⟨k, 0, none⟩) n c)
/-- The builder in block b, its first cell p, its buffer v, holds these bytes. -/
def BDv (w : World) (b : Nat) (p v : Value) (l : List UInt8) : Prop := w.heap[b]? = some (.cells #[p, v] 93 (0, 0)) ∧ RowB w 0 v l ∧ v.ownBlock ≠ some b
def BD (w : World) (b : Nat) (l : List UInt8) : Prop := ∃ p v, (p = .pointer none ∨ p = .pointer (some ⟨b, 0, none⟩)) ∧ BDv w b p v l
/-- From w to w' nothing was turned but the builder in block b, and its buffer. -/
structure Wr (b : Nat) (w w' : World) : Prop where
  os : w'.os = w.os
  tape : w'.tape = w.tape
  output : w'.output = w.output
  size : w.heap.size ≤ w'.heap.size
  block : ∀ k, k < w.heap.size → k ≠ b → ¬ IsBuf w b k → w'.heap[k]? = w.heap[k]?
  buf : ∀ k, IsBuf w' b k → w.heap.size ≤ k ∨ IsBuf w b k
theorem Wr.refl (b : Nat) (w : World) : Wr b w w := ⟨rfl, rfl, rfl, Nat.le_refl _, fun _ _ _ _ => rfl, fun _ h => .inr h⟩
theorem Wr.trans {b : Nat} {w w1 w2 : World} (h : Wr b w w1) (k : Wr b w1 w2) : Wr b w w2 :=
  ⟨k.os.trans h.os, k.tape.trans h.tape, k.output.trans h.output, Nat.le_trans h.size k.size,
    fun i hi hb hn => (k.block i (Nat.lt_of_lt_of_le hi h.size) hb (fun hh => (h.buf i hh).elim (fun e => by omega) hn)).trans (h.block i hi hb hn),
    fun i hi => (k.buf i hi).elim (fun e => .inl (Nat.le_trans h.size e)) (h.buf i)⟩
theorem Wr.cell {b : Nat} {w w' : World} (h : Wr b w w') {p : Addr} (hp : p.block < w.heap.size) (hb : p.block ≠ b) (hn : ¬ IsBuf w b p.block) : w'.cell? p = w.cell? p := by
  unfold World.cell?; rw [h.block _ hp hb hn]
theorem Wr.below {b : Nat} {w w' : World} (h : Below w.heap.size w w') (hb : b < w.heap.size) : Wr b w w' :=
  ⟨h.os, h.tape, h.output, h.size, fun k hk _ _ => h.block k hk, fun k ⟨n, c, e⟩ => .inr ⟨n, c, by rw [← e]; exact (h.cell (p := ⟨b, 1, none⟩) hb).symm⟩⟩
theorem BDv.cell1 {w : World} {b : Nat} {p v : Value} {l : List UInt8} (h : BDv w b p v l) : w.cell? ⟨b, 1, none⟩ = some v := by rw [Lib.cell_of_heap h.1]; rfl
theorem BDv.lt {w : World} {b : Nat} {p v : Value} {l : List UInt8} (h : BDv w b p v l) : b < w.heap.size := by
  rcases Nat.lt_or_ge b w.heap.size with h' | h'
  · exact h'
  · have := h.1; simp [Array.getElem?_eq_none h'] at this
theorem BD.lt {w : World} {b : Nat} {l : List UInt8} (h : BD w b l) : b < w.heap.size := by obtain ⟨p, v, _, h⟩ := h; exact h.lt
theorem own_buf {w : World} {v : Value} {l : List UInt8} (h : RowB w 0 v l) {k : Nat} : v.ownBlock = some k ↔ ∃ n c, v = .slice (some ⟨k, 0, none⟩) n c := by
  rcases h.2 with ⟨rfl, _⟩ | ⟨g, cap, cur, rfl, _⟩
  · simp [Value.ownBlock]
  · simp [Value.ownBlock]
theorem BDv.isBuf {w : World} {b : Nat} {p v : Value} {l : List UInt8} (h : BDv w b p v l) {k : Nat} : IsBuf w b k ↔ v.ownBlock = some k := by
  rw [own_buf h.2.1]
  unfold IsBuf
  rw [h.cell1]
  simp
theorem BD.bufLt {w : World} {b : Nat} {l : List UInt8} (h : BD w b l) {k : Nat} (hk : IsBuf w b k) : k < w.heap.size := by
  obtain ⟨p, v, _, h⟩ := h
  exact (World.ownsRow.lt h.2.1 k (h.isBuf.1 hk)).2
/-- A builder stays what it is behind whatever turns neither it nor its buffer. -/
theorem BD.below {w w' : World} {b : Nat} {l : List UInt8} (h : BD w b l) (hb : Below w.heap.size w w') : BD w' b l := by
  obtain ⟨p, v, hp, h⟩ := h
  exact ⟨p, v, hp, (hb.block b h.lt).trans h.1, h.2.1.below hb, h.2.2⟩

theorem sizeBd : (Tryz.prog.info? 93).map (·.size) = some 2 := by kernel_rfl
theorem liesBd : liesAt Tryz.prog Tryz.prog.depth 93 (2 / Tryz.prog.cellsOf 93) 0 93 1 = true := by kernel_rfl
set_option maxRecDepth 100000 in
theorem cc_used (b : Nat) (w : World) (h0 : w.cell? ⟨b, 0, none⟩ = some (.pointer (some ⟨b, 0, none⟩))) :
    Calls Tryz.prog 134 #[.pointer (some ⟨b, 0, none⟩)] w fun e w' => e = .returned (.tuple #[]) ∧ w' = w := by
  obtain ⟨j, hj, _⟩ := Option.map_eq_some_iff.1 sizeBd
  go_enter Tryz.func134, Tryz.ntmps134
  go_wp2
  rw [Lib.run_neq_ptr_same w _ Tryz.underlying91 hj]
  go_wp2
  go_end0
  exact ⟨rfl, rfl⟩
set_option maxRecDepth 100000 in
theorem cc_fresh (b : Nat) (w : World) (h0 : w.cell? ⟨b, 0, none⟩ = some (.pointer none)) (hsh : w.shape? b = some (93, 2)) (hfz : w.frozen? ⟨b, 0, none⟩ = false) :
    Calls Tryz.prog 134 #[.pointer (some ⟨b, 0, none⟩)] w fun e w' => e = .returned (.tuple #[]) ∧ w' = w.setCell ⟨b, 0, none⟩ (.pointer (some ⟨b, 0, none⟩)) := by
  obtain ⟨j, hj, hjs⟩ := Option.map_eq_some_iff.1 sizeBd
  go_enter Tryz.func134, Tryz.ntmps134
  go_wp2
  rw [Lib.run_to_unsafe w ⟨b, 0, none⟩ Tryz.underlying91 Tryz.underlying226 hj (by rw [hjs]; decide) hsh (Nat.zero_lt_succ 1)]
  simp only [Result.andThen]
  rw [Oper.upon_value]
  go_wp2
  rw [run_callFunc_extern Tryz.func178 (by kernel_rfl) (by kernel_rfl) (by kernel_rfl) (e := Extern.AbiNoEscape.same) (by kernel_rfl)]
  rw [Lib.run_noEscape]
  simp only [Result.andThen]
  rw [Oper.upon_value]
  go_wp2
  rw [Lib.run_from_unsafe w ⟨b, 0, none⟩ Tryz.underlying226 Tryz.underlying91 hj hsh liesBd]
  simp only [Result.andThen]
  rw [Oper.upon_value]
  go_wp2
  go_end0
  exact ⟨rfl, rfl⟩
/-- Behind copyCheck the builder bears its own address. -/
def CcEnd (b : Nat) (l : List UInt8) (w : World) (e : Ending) (w' : World) : Prop := e = .returned (.tuple #[]) ∧ (∃ v, BDv w' b (.pointer (some ⟨b, 0, none⟩)) v l) ∧ Wr b w w'
theorem cc_any (b : Nat) (l : List UInt8) (w : World) (h : BD w b l) : Calls Tryz.prog 134 #[.pointer (some ⟨b, 0, none⟩)] w (CcEnd b l w) := by
  obtain ⟨p, v, rfl | rfl, h⟩ := h
  · refine (cc_fresh b w (by rw [Lib.cell_of_heap h.1]; rfl) (by unfold World.shape?; rw [h.1]; rfl) (by unfold World.frozen?; rw [h.1]; rfl)).mono ?_
    rintro e w' ⟨rfl, rfl⟩
    have hg : w.grownBy (w.setCell ⟨b, 0, none⟩ (.pointer (some ⟨b, 0, none⟩))) (some b) :=
      ⟨rfl, rfl, rfl, by simp [World.setCell], fun k _ hk => Below.heap_setCell _ _ _ _ (fun e => hk (by simp [e]))⟩
    have h2 : BDv (w.setCell ⟨b, 0, none⟩ (.pointer (some ⟨b, 0, none⟩))) b (.pointer (some ⟨b, 0, none⟩)) v l :=
      ⟨by have := h.1; simp [World.setCell, Array.getElem?_modify, this], World.ownsRow.kept h.2.1 hg (Or.inr h.2.2), h.2.2⟩
    exact ⟨rfl, ⟨v, h2⟩, rfl, rfl, rfl, hg.size, fun k hk hb _ => hg.block k hk (by simpa using hb), fun k hk => .inr (h.isBuf.2 (h2.isBuf.1 hk))⟩
  · refine (cc_used b w (by rw [Lib.cell_of_heap h.1]; rfl)).mono ?_
    rintro e w' ⟨rfl, rfl⟩
    exact ⟨rfl, ⟨v, h⟩, Wr.refl _ _⟩

/-- What a write leaves. -/
def WrEnd (b : Nat) (l : List UInt8) (w w' : World) : Prop := BD w' b l ∧ Wr b w w'
/-- The buffer has grown (w2), and was put back. -/
theorem put_back {b : Nat} {v v' : Value} {l l' : List UInt8} {w1 w2 : World} (h : BDv w1 b (.pointer (some ⟨b, 0, none⟩)) v l) (hown : RowB w2 0 v' l') (hg : w1.grownBy w2 v.ownBlock) (hat : v'.ownBlock = v.ownBlock ∨ v'.ownBlock = none ∨ ∃ k, v'.ownBlock = some k ∧ w1.heap.size ≤ k) :
    WrEnd b l' w1 (w2.setCell ⟨b, 1, none⟩ v') := by
  have hlt := h.lt
  have hb2 : w2.heap[b]? = some (.cells #[.pointer (some ⟨b, 0, none⟩), v] 93 (0, 0)) := (hg.block b hlt (fun e => h.2.2 e.symm)).trans h.1
  have hlt2 : b < w2.heap.size := Nat.lt_of_lt_of_le hlt hg.size
  have hne : v'.ownBlock ≠ some b := by
    rcases hat with e | e | ⟨k, e, hk⟩
    · rw [e]; exact h.2.2
    · rw [e]; simp
    · rw [e]; simp; omega
  have hg2 : w2.grownBy (w2.setCell ⟨b, 1, none⟩ v') (some b) := ⟨rfl, rfl, rfl, by simp [World.setCell], fun k _ hk => Below.heap_setCell _ _ _ _ (fun e => hk (by simp [e]))⟩
  have h2 : BDv (w2.setCell ⟨b, 1, none⟩ v') b (.pointer (some ⟨b, 0, none⟩)) v' l' :=
    ⟨by simp [World.setCell, Array.getElem?_modify, hb2], World.ownsRow.kept hown hg2 (Or.inr hne), hne⟩
  refine ⟨⟨_, _, .inr rfl, h2⟩, hg.os, hg.tape, hg.output, Nat.le_trans hg.size hg2.size, fun k hk hb hn => ?_, fun k hk => ?_⟩
  · rw [hg2.block k (Nat.lt_of_lt_of_le hk hg.size) (by simpa using hb)]
    exact hg.block k hk (fun e => hn (h.isBuf.2 e.symm))
  · have := h2.isBuf.1 hk
    rcases hat with e | e | ⟨j, e, hj⟩
    · exact .inr (h.isBuf.2 (by rw [← e]; exact this))
    · rw [e] at this; cases this
    · rw [e] at this; injection this with this; subst this; exact .inl hj

/-- Where the buffer lies behind an append of a string. -/
theorem app_str {w : World} {v : Value} {l : List UInt8} (h : RowB w 0 v l) (s : ByteArray) (hl : l.length + s.size ≤ 100000000000000) :
    ∃ v' w', (Builtin.append_ #[84, 9] 84 #[v, .string s]).run Tryz.prog w = .ok v' w' ∧ RowB w' 0 v' (l ++ s.data.toList) ∧ w.grownBy w' v.ownBlock ∧ (v'.ownBlock = v.ownBlock ∨ v'.ownBlock = none ∨ ∃ k, v'.ownBlock = some k ∧ w.heap.size ≤ k) := by
  obtain ⟨i0, hi0, hz0, hz1, hz2⟩ := info_parts infoB
  obtain ⟨v', w', hr, h2, h3, _⟩ := Lib.run_append_own_string (P := Tryz.prog) w 0 84 9 84 5 i0 Tryz.underlying84 Tryz.underlying9 hi0 hz0 hz1 hz2 v l.length _ h s (by unfold maxLen; omega) (by omega) (Nat.zero_le _)
  refine ⟨v', w', hr, RowB.snoc h2, h3, ?_⟩
  have hh := h
  rcases h.2 with ⟨rfl, h0⟩ | ⟨g, cap, cur, rfl, hbg, hg, hnc, hcm, hcs, htake⟩
  · have hn : w.ownsRow w.heap.size 5 1 (.slice none 0 0) l.length (l.map fun b => Value.int .u8 b.toNat) := ⟨h.1, .inl ⟨rfl, h0⟩⟩
    obtain ⟨v2, w2, hr2, h22, _, _⟩ := Lib.run_append_own_string (P := Tryz.prog) w w.heap.size 84 9 84 5 i0 Tryz.underlying84 Tryz.underlying9 hi0 hz0 hz1 hz2 _ l.length _ hn s (by unfold maxLen; omega) (by omega) (Nat.le_refl _)
    rw [hr] at hr2
    injection hr2 with e1 e2
    subst e1
    rcases hv : v'.ownBlock with _ | k
    · exact .inr (.inl rfl)
    · subst e2
      exact .inr (.inr ⟨k, rfl, (World.ownsRow.lt h22 k hv).1⟩)
  · by_cases hroom : l.length + s.size ≤ cap
    · have hr2 := Lib.run_append_room_string (P := Tryz.prog) w 84 9 84 5 i0 Tryz.underlying84 Tryz.underlying9 hi0 hz1 g l.length cap cur hg s hroom (by omega)
      rw [hr] at hr2
      injection hr2 with e1 e2
      subst e1
      exact .inl rfl
    · have hr2 := Lib.run_append_grow_string (P := Tryz.prog) w 84 9 84 5 i0 (.int .u8 0) Tryz.underlying84 Tryz.underlying9 hi0 hz0 ⟨g, 0, none⟩ l.length cap _ (by rw [hz1]; exact hh.1) (World.ownsRow.cells hh (g := g) rfl) s (by omega) (by omega) (by rw [hz2]; exact growslice_fits (by omega) (by omega))
      rw [hr] at hr2
      injection hr2 with e1 e2
      subst e1
      exact .inr (.inr ⟨_, rfl, Nat.le_refl _⟩)

/-- Where the buffer lies behind an append of a byte. -/
theorem app_byte {w : World} {v : Value} {l : List UInt8} (h : RowB w 0 v l) (u : UInt8) (c : Int) (hc : c = (u.toNat : Int)) (hl : l.length ≤ 100000000000000) :
    ∃ v' w', (Builtin.append_ #[84, 84] 84 #[v, .slice (some ⟨w.heap.size, 0, none⟩) 1 1]).run Tryz.prog (w.alloc (.cells #[.int .u8 c] 5)) = .ok v' w' ∧ RowB w' 0 v' (l ++ [u]) ∧ w.grownBy w' v.ownBlock ∧ (v'.ownBlock = v.ownBlock ∨ v'.ownBlock = none ∨ ∃ k, v'.ownBlock = some k ∧ w.heap.size ≤ k) := by
  obtain ⟨i0, hi0, hz0, hz1, hz2⟩ := info_parts infoB
  obtain ⟨v', w', hr, h2, hgr, _, hat⟩ := run_append_own_at (P := Tryz.prog) (w.alloc (.cells #[.int .u8 c] 5)) 0 84 84 5 i0 (.int .u8 0) 1 1 Tryz.underlying84 hi0 hz0 hz1 hz2 rfl (by decide) v l.length _ (World.ownsRow.alloc h _) ⟨w.heap.size, 0, none⟩ 1 1 [.int .u8 c] rfl (cell_one _ _ _) (fun x hx => by simp at hx; subst hx; rfl) (by unfold maxLen; omega) (by omega) (Nat.zero_le _)
  refine ⟨v', w', hr, RowB.snoc1 hc h2, ⟨hgr.os, hgr.tape, hgr.output, by have := hgr.size; simp at this; omega, fun k hk hne => (hgr.block k (by simp; omega) hne).trans (Below.heap_alloc w _ k hk)⟩, ?_⟩
  rcases hat with e | e
  · exact .inl e
  · exact .inr (.inr ⟨_, e, by simp⟩)

set_option maxRecDepth 100000 in
set_option maxHeartbeats 2000000 in
theorem wByte_any (b : Nat) (l : List UInt8) (u : UInt8) (c : Int) (hc : c = (u.toNat : Int)) (w : World) (h : BD w b l) (hl : l.length ≤ 1000000000000) :
    Calls Tryz.prog 94 #[.pointer (some ⟨b, 0, none⟩), .int .u8 c] w fun e w' => e = .returned .nilIface ∧ WrEnd b (l ++ [u]) w w' := by
  have hcc := Lib.hid (cc_any b l w h)
  clear h
  go_enter Tryz.func94, Tryz.ntmps94
  go_wp2_with fail
  refine hcc.out.mono ?_
  rintro e w1 ⟨rfl, ⟨v, h1⟩, hW⟩
  have c0 : w1.cell? ⟨b, 0, none⟩ = some (.pointer (some ⟨b, 0, none⟩)) := by rw [Lib.cell_of_heap h1.1]; rfl
  have c1 : w1.cell? ⟨b, 1, none⟩ = some v := h1.cell1
  have hlt := h1.lt
  obtain ⟨v', w2, hrun, hR, hg2, hat⟩ := app_byte h1.2.1 u c hc (by omega)
  have hf := put_back h1 hR hg2 hat
  have c2 : (w1.alloc (.cells #[.int .u8 c] 5)).cell? ⟨b, 1, none⟩ = some v := (World.cell?_alloc_lt w1 _ ⟨b, 1, none⟩ hlt).trans c1
  have d0 : w2.heap[b]? = some (.cells #[.pointer (some ⟨b, 0, none⟩), v] 93 (0, 0)) := (hg2.block b hlt (fun e => h1.2.2 e.symm)).trans h1.1
  have d1 : w2.cell? ⟨b, 1, none⟩ = some v := by rw [Lib.cell_of_heap d0]; rfl
  have f1 : w2.frozen? ⟨b, 1, none⟩ = false := Lib.frozen_of_heap d0 1
  have hsl : ∃ ao n' cap, v' = .slice ao n' cap := by
    rcases hR.2 with ⟨hv, _⟩ | ⟨g, cap, cur, hv, _⟩
    · exact ⟨_, _, _, hv⟩
    · exact ⟨_, _, _, hv⟩
  obtain ⟨ao, n', cap, rfl⟩ := hsl
  clear hc hcc hat hg2 hR h1 d0
  replace hW := Lib.hid hW
  replace hf := Lib.hid hf
  replace hrun := Lib.hid hrun
  go_wp2_with (at_builtin; refine jl_append_run (by rfl) _ _ 84 84 rfl v (.slice (some ⟨w1.heap.size, 0, none⟩) 1 1) _ rfl rfl hrun.out ?_)
  go_ret
  exact ⟨rfl, hf.out.1, hW.out.trans hf.out.2⟩
set_option maxRecDepth 100000 in
set_option maxHeartbeats 2000000 in
theorem wStr_any (b : Nat) (l : List UInt8) (s : ByteArray) (w : World) (h : BD w b l) (hl : l.length + s.size ≤ 1000000000000) :
    Calls Tryz.prog 92 #[.pointer (some ⟨b, 0, none⟩), .string s] w fun e w' => e = .returned (.tuple #[.int .i64 s.size, .nilIface]) ∧ WrEnd b (l ++ s.data.toList) w w' := by
  have hcc := Lib.hid (cc_any b l w h)
  clear h
  go_enter Tryz.func92, Tryz.ntmps92
  go_wp2_with fail
  refine hcc.out.mono ?_
  rintro e w1 ⟨rfl, ⟨v, h1⟩, hW⟩
  have c0 : w1.cell? ⟨b, 0, none⟩ = some (.pointer (some ⟨b, 0, none⟩)) := by rw [Lib.cell_of_heap h1.1]; rfl
  have c1 : w1.cell? ⟨b, 1, none⟩ = some v := h1.cell1
  have hlt := h1.lt
  obtain ⟨v', w2, hrun, hR, hg2, hat⟩ := app_str h1.2.1 s (by omega)
  have hf := put_back h1 hR hg2 hat
  have d0 : w2.heap[b]? = some (.cells #[.pointer (some ⟨b, 0, none⟩), v] 93 (0, 0)) := (hg2.block b hlt (fun e => h1.2.2 e.symm)).trans h1.1
  have d1 : w2.cell? ⟨b, 1, none⟩ = some v := by rw [Lib.cell_of_heap d0]; rfl
  have f1 : w2.frozen? ⟨b, 1, none⟩ = false := Lib.frozen_of_heap d0 1
  have hsl : ∃ ao n' cap, v' = .slice ao n' cap := by
    rcases hR.2 with ⟨hv, _⟩ | ⟨g, cap, cur, hv, _⟩
    · exact ⟨_, _, _, hv⟩
    · exact ⟨_, _, _, hv⟩
  obtain ⟨ao, n', cap, rfl⟩ := hsl
  clear hcc hat hg2 hR h1 d0
  replace hW := Lib.hid hW
  replace hf := Lib.hid hf
  replace hrun := Lib.hid hrun
  go_wp2_with (at_builtin; refine jl_append_run (by rfl) _ _ 84 9 rfl v (.string s) _ rfl rfl hrun.out ?_)
  go_ret2
  exact ⟨rfl, hf.out.1, hW.out.trans hf.out.2⟩
end Go.Proofs.YtlnkjacbdolhnaaGreatDoor


/-
  The walks of json.marks and json.quote.
-/
namespace Go.Proofs.YtlnkjacbdolhnaaGreatDoor
open Go.RowKit

/-- What stands behind a backslash. -/
def markI (b : Int) : Int × Bool :=
  if b = 34 then (34, true) else if b = 92 then (92, true) else if b = 8 then (98, true) else if b = 12 then (102, true) else if b = 10 then (110, true) else if b = 13 then (114, true) else if b = 9 then (116, true) else (0, false)
def markIx (b : Int) : Int :=
  if b = 34 then 0 else if b = 92 then 1 else if b = 8 then 2 else if b = 12 then 3 else if b = 10 then 4 else if b = 13 then 5 else if b = 9 then 6 else -1
theorem markIx_of (b : Int) (h0 : 0 ≤ b) (h1 : b < 256) : Lib.indexByte [34, 92, 8, 12, 10, 13, 9] b.toNat.toUInt8 = markIx b := by
  obtain ⟨n, rfl⟩ := Int.eq_ofNat_of_zero_le h0
  have hn : n < 256 := by omega
  have key : ∀ k : Fin 256, Lib.indexByte [34, 92, 8, 12, 10, 13, 9] (k.val : Int).toNat.toUInt8 = markIx (k.val : Int) := by decide +kernel
  exact key ⟨n, hn⟩
def MarkEnd (b : Int) (w : World) (e : Ending) (w' : World) : Prop := e = .returned (.tuple #[.int .u8 (markI b).1, .bool (markI b).2]) ∧ w' = w
set_option maxRecDepth 100000 in
set_option maxHeartbeats 2000000 in
theorem marks_any (b : Int) (h0 : 0 ≤ b) (h1 : b < 256) (w : World) : Calls Tryz.prog 135 #[.int .u8 b] w (MarkEnd b w) := by
  have hi := Tryz.strings_IndexByte ⟨#[34, 92, 8, 12, 10, 13, 9]⟩ b w
  have hx : (⟨#[34, 92, 8, 12, 10, 13, 9]⟩ : ByteArray).data.toList = [34, 92, 8, 12, 10, 13, 9] := rfl
  rw [hx, markIx_of b h0 h1] at hi
  clear hx h0 h1
  obtain ⟨M, hM⟩ : ∃ M, markI b = M := ⟨_, rfl⟩
  unfold MarkEnd
  rw [hM]
  unfold markI at hM
  unfold markIx at hi
  by_cases c34 : b = 34
  · rw [if_pos c34] at hM hi
    subst hM
    subst c34
    go_enter Tryz.func135, Tryz.ntmps135
    go_wp2_with fail
    refine hi.mono ?_
    rintro e w1 ⟨rfl, rfl⟩
    clear hi
    go_wp2_with fail
    refine bodyPost_ret (v := .tuple #[.int .u8 34, .bool true]) (by simp [results, Tryz.results135, go_sem] <;> rfl) rfl ⟨rfl, rfl⟩
  rw [if_neg c34] at hM hi
  by_cases c92 : b = 92
  · rw [if_pos c92] at hM hi
    subst hM
    subst c92
    go_enter Tryz.func135, Tryz.ntmps135
    go_wp2_with fail
    refine hi.mono ?_
    rintro e w1 ⟨rfl, rfl⟩
    clear hi
    go_wp2_with fail
    refine bodyPost_ret (v := .tuple #[.int .u8 92, .bool true]) (by simp [results, Tryz.results135, go_sem] <;> rfl) rfl ⟨rfl, rfl⟩
  rw [if_neg c92] at hM hi
  by_cases c8 : b = 8
  · rw [if_pos c8] at hM hi
    subst hM
    subst c8
    go_enter Tryz.func135, Tryz.ntmps135
    go_wp2_with fail
    refine hi.mono ?_
    rintro e w1 ⟨rfl, rfl⟩
    clear hi
    go_wp2_with fail
    refine bodyPost_ret (v := .tuple #[.int .u8 98, .bool true]) (by simp [results, Tryz.results135, go_sem] <;> rfl) rfl ⟨rfl, rfl⟩
  rw [if_neg c8] at hM hi
  by_cases c12 : b = 12
  · rw [if_pos c12] at hM hi
    subst hM
    subst c12
    go_enter Tryz.func135, Tryz.ntmps135
    go_wp2_with fail
    refine hi.mono ?_
    rintro e w1 ⟨rfl, rfl⟩
    clear hi
    go_wp2_with fail
    refine bodyPost_ret (v := .tuple #[.int .u8 102, .bool true]) (by simp [results, Tryz.results135, go_sem] <;> rfl) rfl ⟨rfl, rfl⟩
  rw [if_neg c12] at hM hi
  by_cases c10 : b = 10
  · rw [if_pos c10] at hM hi
    subst hM
    subst c10
    go_enter Tryz.func135, Tryz.ntmps135
    go_wp2_with fail
    refine hi.mono ?_
    rintro e w1 ⟨rfl, rfl⟩
    clear hi
    go_wp2_with fail
    refine bodyPost_ret (v := .tuple #[.int .u8 110, .bool true]) (by simp [results, Tryz.results135, go_sem] <;> rfl) rfl ⟨rfl, rfl⟩
  rw [if_neg c10] at hM hi
  by_cases c13 : b = 13
  · rw [if_pos c13] at hM hi
    subst hM
    subst c13
    go_enter Tryz.func135, Tryz.ntmps135
    go_wp2_with fail
    refine hi.mono ?_
    rintro e w1 ⟨rfl, rfl⟩
    clear hi
    go_wp2_with fail
    refine bodyPost_ret (v := .tuple #[.int .u8 114, .bool true]) (by simp [results, Tryz.results135, go_sem] <;> rfl) rfl ⟨rfl, rfl⟩
  rw [if_neg c13] at hM hi
  by_cases c9 : b = 9
  · rw [if_pos c9] at hM hi
    subst hM
    subst c9
    go_enter Tryz.func135, Tryz.ntmps135
    go_wp2_with fail
    refine hi.mono ?_
    rintro e w1 ⟨rfl, rfl⟩
    clear hi
    go_wp2_with fail
    refine bodyPost_ret (v := .tuple #[.int .u8 116, .bool true]) (by simp [results, Tryz.results135, go_sem] <;> rfl) rfl ⟨rfl, rfl⟩
  rw [if_neg c9] at hM hi
  subst hM
  go_enter Tryz.func135, Tryz.ntmps135
  go_wp2_with fail
  refine hi.mono ?_
  rintro e w1 ⟨rfl, rfl⟩
  clear hi
  go_wp2_with fail
  refine bodyPost_ret (v := .tuple #[.int .u8 0, .bool false]) (by simp [results, Tryz.results135, go_sem] <;> rfl) rfl ⟨rfl, rfl⟩

theorem jescI_mark (b : Int) (h : (markI b).2 = true) : jescI b = [92, UInt8.ofNat (markI b).1.toNat] ∧ 0 ≤ (markI b).1 ∧ (markI b).1 < 256 := by
  unfold markI at h ⊢
  unfold jescI
  by_cases c34 : b = 34
  · simp only [if_pos c34]; exact ⟨rfl, by decide, by decide⟩
  simp only [if_neg c34] at h ⊢
  by_cases c92 : b = 92
  · simp only [if_pos c92]; exact ⟨rfl, by decide, by decide⟩
  simp only [if_neg c92] at h ⊢
  by_cases c8 : b = 8
  · simp only [if_pos c8]; exact ⟨rfl, by decide, by decide⟩
  simp only [if_neg c8] at h ⊢
  by_cases c12 : b = 12
  · simp only [if_pos c12]; exact ⟨rfl, by decide, by decide⟩
  simp only [if_neg c12] at h ⊢
  by_cases c10 : b = 10
  · simp only [if_pos c10]; exact ⟨rfl, by decide, by decide⟩
  simp only [if_neg c10] at h ⊢
  by_cases c13 : b = 13
  · simp only [if_pos c13]; exact ⟨rfl, by decide, by decide⟩
  simp only [if_neg c13] at h ⊢
  by_cases c9 : b = 9
  · simp only [if_pos c9]; exact ⟨rfl, by decide, by decide⟩
  simp only [if_neg c9] at h ⊢
  cases h
theorem jescI_plain (b : Int) (h : (markI b).2 = false) : jescI b = if b < 32 then [92, 117, 48, 48, jhex (b.toNat / 16), jhex (b.toNat % 16)] else [UInt8.ofNat b.toNat] := by
  unfold markI at h
  unfold jescI
  by_cases c34 : b = 34
  · simp only [if_pos c34] at h; cases h
  simp only [if_neg c34] at h ⊢
  by_cases c92 : b = 92
  · simp only [if_pos c92] at h; cases h
  simp only [if_neg c92] at h ⊢
  by_cases c8 : b = 8
  · simp only [if_pos c8] at h; cases h
  simp only [if_neg c8] at h ⊢
  by_cases c12 : b = 12
  · simp only [if_pos c12] at h; cases h
  simp only [if_neg c12] at h ⊢
  by_cases c10 : b = 10
  · simp only [if_pos c10] at h; cases h
  simp only [if_neg c10] at h ⊢
  by_cases c13 : b = 13
  · simp only [if_pos c13] at h; cases h
  simp only [if_neg c13] at h ⊢
  by_cases c9 : b = 9
  · simp only [if_pos c9] at h; cases h
  simp only [if_neg c9] at h ⊢
def hexA : ByteArray := ⟨#[48, 49, 50, 51, 52, 53, 54, 55, 56, 57, 97, 98, 99, 100, 101, 102]⟩
theorem hex_all : ∀ k : Fin 16, hexA.data.toList.getD k.val 0 = jhex k.val := by decide
theorem hex_at (k : Nat) (h : k < hexA.size) : hexA[k] = jhex k := by
  rw [← getD_at hexA k h]; exact hex_all ⟨k, h⟩
theorem hex_num {k : Nat} {h : k < hexA.size} {m : Nat} (e : k = m) : (hexA[k].toNat : Int) = ((jhex m).toNat : Int) := by subst e; rw [hex_at k h]
theorem hex_lit {k : Nat} {h : k < (⟨#[48, 49, 50, 51, 52, 53, 54, 55, 56, 57, 97, 98, 99, 100, 101, 102]⟩ : ByteArray).size} {m : Nat} (e : k = m) : ((⟨#[48, 49, 50, 51, 52, 53, 54, 55, 56, 57, 97, 98, 99, 100, 101, 102]⟩ : ByteArray)[k].toNat : Int) = ((jhex m).toNat : Int) := hex_num (h := h) e

set_option maxRecDepth 100000 in
set_option maxHeartbeats 4000000 in
theorem jsnQuote_any (b : Nat) (l : List UInt8) (s : ByteArray) (hs : s.size ≤ 1000000) (w : World) (h : BD w b l) (hl : l.length ≤ 100000000000) :
    Calls Tryz.prog 93 #[.pointer (some ⟨b, 0, none⟩), .string s] w fun e w' => e = .returned (.tuple #[]) ∧ WrEnd b (l ++ jquote s.data.toList) w w' := by
  have h0 := Lib.hid (wByte_any b l 34 34 rfl w h (by omega))
  clear h
  go_enter Tryz.func93, Tryz.ntmps93
  go_wp2_with fail
  refine h0.out.mono ?_
  rintro e w1 ⟨rfl, hB1, hW1⟩
  clear h0
  replace hB1 := Lib.hid hB1
  replace hW1 := Lib.hid hW1
  go_wp2_with fail
  go_loopw [12] (fun i wr => ∃ q : Nat, q ≤ s.size ∧ i = .int .i64 q ∧ BD wr b (l ++ qHeld s.data.toList q) ∧ Wr b w wr) (fun i _ => s.size - (intOf i).toNat)
  case atStart => exact ⟨0, Nat.zero_le _, rfl, hB1.out, hW1.out⟩
  case round =>
    clear hB1 hW1
    obtain ⟨q, hq, rfl, hB, hW⟩ := hrel
    have hln := qHeld_len s.data.toList q
    have hsl : s.data.toList.length = s.size := by rw [Array.length_toList]; rfl
    rw [hsl] at hln
    have hl2 : (l ++ qHeld s.data.toList q).length ≤ 100007000000 := by rw [List.length_append]; omega
    by_cases hlt : q < s.size
    · obtain ⟨c, hc⟩ : ∃ c : Int, (s[q].toNat : Int) = c := ⟨_, rfl⟩
      have hbd : 0 ≤ c ∧ c < 256 := by have := s[q].toNat_lt; omega
      obtain ⟨hb0, hb1⟩ := hbd
      have hq1 : s.data.toList[q]? = some s[q] := by rw [Array.getElem?_toList]; exact Array.getElem?_eq_getElem hlt
      have hst := qHeld_step hq1
      rw [jesc_num _ c hc] at hst
      obtain ⟨L, hL⟩ : ∃ L, l ++ qHeld s.data.toList q = L := ⟨_, rfl⟩
      have hst2 : l ++ qHeld s.data.toList (q + 1) = L ++ jescI c := by rw [hst, ← List.append_assoc, hL]
      rw [hL] at hB hl2
      clear hL hq1 hsl hst hln
      have hmk := marks_any c hb0 hb1 wr
      have hj1 := jescI_mark c
      have hj2 := jescI_plain c
      unfold MarkEnd at hmk
      obtain ⟨⟨m, ok⟩, hm⟩ : ∃ x, markI c = x := ⟨_, rfl⟩
      rw [hm] at hmk hj1 hj2
      dsimp only at hmk hj1 hj2
      have hq0 : (0 : Int) ≤ (q : Int) := by omega
      replace hst2 := Lib.hid hst2
      replace hW := Lib.hid hW
      replace hmk := Lib.hid hmk
      clear hm
      cases ok
      · replace hj2 := Lib.hid (hj2 rfl)
        clear hj1
        by_cases h32 : c < 32
        · replace hj2 := Lib.hid (by have := hj2.out; rwa [if_pos h32] at this)
          go_wp2_with fail
          refine hmk.out.mono ?_
          rintro e w2 ⟨rfl, rfl⟩
          clear hmk
          have hs1 := Lib.hid (wStr_any b L ⟨#[92, 117, 48, 48]⟩ w2 hB (by show _ + 4 ≤ _; omega))
          clear hB
          go_wp2_with fail
          refine hs1.out.mono ?_
          rintro e w3 ⟨rfl, hB3, hW3⟩
          have hW4 := Lib.hid (hW.out.trans hW3)
          clear hs1 hW hW3
          have hk1 : (c / 16).toNat = c.toNat / 16 := by omega
          have hs2 := Lib.hid (fun W hW => wByte_any b (L ++ [92, 117, 48, 48]) (jhex (c.toNat / 16)) _ rfl W hW (by rw [List.length_append]; show _ + 4 ≤ _; omega))
          go_wp2_with fail
          rw [hex_lit (m := c.toNat / 16) rfl]
          refine (hs2.out _ hB3).mono ?_
          rintro e w4 ⟨rfl, hB4, hW4'⟩
          have hW5 := Lib.hid (hW4.out.trans hW4')
          clear hW4 hW4' hB3 hk1 hs2
          have hk2 : (c % 16).toNat = c.toNat % 16 := by omega
          have hs3 := Lib.hid (fun W hW => wByte_any b (L ++ [92, 117, 48, 48] ++ [jhex (c.toNat / 16)]) (jhex (c.toNat % 16)) _ rfl W hW (by rw [List.length_append, List.length_append]; show _ + 4 + 1 ≤ _; omega))
          go_wp2_with fail
          rw [hex_lit (m := c.toNat % 16) rfl]
          refine (hs3.out _ hB4).mono ?_
          rintro e w5 ⟨rfl, hB5, hW5'⟩
          have hW6 := Lib.hid (hW5.out.trans hW5')
          have hfin : BD w5 b (l ++ qHeld s.data.toList (q + 1)) := by
            rw [hst2.out, hj2.out]
            simpa using hB5
          clear hW5 hW5' hB4 hk2 hs3 hB5
          replace hfin := Lib.hid hfin
          go_wp2_with fail
          go_roundw
          case rel => exact ⟨q + 1, by omega, by go_num, hfin.out, hW6.out⟩
          case measure => simp [intOf]; omega
        · replace hj2 := Lib.hid (by have := hj2.out; rwa [if_neg h32] at this)
          have hub : c = ((UInt8.ofNat c.toNat).toNat : Int) := by rw [UInt8.toNat_ofNat']; omega
          obtain ⟨U, hU⟩ : ∃ U, UInt8.ofNat c.toNat = U := ⟨_, rfl⟩
          rw [hU] at hj2 hub
          clear hU
          have hs1 := Lib.hid (wByte_any b L U c hub wr hB (by omega))
          clear hub hB
          go_wp2_with fail
          refine hmk.out.mono ?_
          rintro e w2 ⟨rfl, rfl⟩
          clear hmk
          go_wp2_with fail
          refine hs1.out.mono ?_
          rintro e w3 ⟨rfl, hB3, hW3⟩
          have hW4 := Lib.hid (hW.out.trans hW3)
          have hfin : BD w3 b (l ++ qHeld s.data.toList (q + 1)) := by
            rw [hst2.out, hj2.out]; exact hB3
          clear hs1 hW hW3 hB3
          replace hfin := Lib.hid hfin
          go_wp2_with fail
          go_roundw
          case rel => exact ⟨q + 1, by omega, by go_num, hfin.out, hW4.out⟩
          case measure => simp [intOf]; omega
      · obtain ⟨hj, hm0, hm1⟩ := hj1 rfl
        clear hj2
        have hub : m = ((UInt8.ofNat m.toNat).toNat : Int) := by rw [UInt8.toNat_ofNat']; omega
        obtain ⟨U, hU⟩ : ∃ U, UInt8.ofNat m.toNat = U := ⟨_, rfl⟩
        rw [hU] at hj hub
        clear hU
        have hs1 := Lib.hid (wByte_any b L 92 92 rfl wr hB (by omega))
        have hs2 := Lib.hid (fun W hW => wByte_any b (L ++ [92]) U m hub W hW (by rw [List.length_append]; show _ + 1 ≤ _; omega))
        replace hj := Lib.hid hj
        clear hub hB
        go_wp2_with fail
        refine hmk.out.mono ?_
        rintro e w2 ⟨rfl, rfl⟩
        clear hmk
        go_wp2_with fail
        refine hs1.out.mono ?_
        rintro e w3 ⟨rfl, hB3, hW3⟩
        have hW4 := Lib.hid (hW.out.trans hW3)
        clear hs1 hW hW3
        go_wp2_with fail
        refine (hs2.out _ hB3).mono ?_
        rintro e w4 ⟨rfl, hB4, hW4'⟩
        have hW5 := Lib.hid (hW4.out.trans hW4')
        have hfin : BD w4 b (l ++ qHeld s.data.toList (q + 1)) := by
          rw [hst2.out, hj.out]
          simpa using hB4
        clear hs2 hW4 hW4' hB3 hB4
        replace hfin := Lib.hid hfin
        go_wp2_with fail
        go_roundw
        case rel => exact ⟨q + 1, by omega, by go_num, hfin.out, hW5.out⟩
        case measure => simp [intOf]; omega
    · have hqe : q = s.size := by omega
      have hall : qHeld s.data.toList q ++ [34] = jquote s.data.toList := by
        rw [hqe, ← hsl]; unfold qHeld jquote; rw [List.take_length]; rfl
      have hs1 := Lib.hid (wByte_any b _ 34 34 rfl wr hB (by omega))
      have hall2 : l ++ jquote s.data.toList = l ++ qHeld s.data.toList q ++ [34] := by rw [← hall, List.append_assoc]
      replace hall2 := Lib.hid hall2
      replace hW := Lib.hid hW
      clear hall hB hsl hln hl2 hqe
      go_wp2_with fail
      refine hs1.out.mono ?_
      rintro e w3 ⟨rfl, hB3, hW3⟩
      have hW4 := Lib.hid (hW.out.trans hW3)
      have hfin : BD w3 b (l ++ jquote s.data.toList) := by rw [hall2.out]; exact hB3
      clear hs1 hW hW3 hB3
      replace hfin := Lib.hid hfin
      go_wp2_with fail
      go_end0
      exact ⟨rfl, hfin.out, hW4.out⟩
end Go.Proofs.YtlnkjacbdolhnaaGreatDoor
