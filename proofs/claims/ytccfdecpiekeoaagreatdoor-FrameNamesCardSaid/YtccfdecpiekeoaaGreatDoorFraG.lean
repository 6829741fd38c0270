/-
  The reader in memory; the walks of (*frame.Reader).wrong and pass.
-/
import Derived.Test.YtccfdecpiekeoaaGreatDoorFraF
import Derived.Test.YtccfdecpiekeoaaGreatDoorFraT
import Derived.OwnWalk
import Derived.Lib.SlBytesConst
import Derived.Deep.CutBlock
import Derived.Deep.RegionWith
import Derived.BigQuiet
import Derived.Deep.QuietTactic
namespace Go.Proofs.YtccfdecpiekeoaaGreatDoor
open Go.RowKit

/-- A slice of bytes that reads as a list; its array lies in no block of X. -/
def Byt (w : World) (A : Option Addr) (c : Nat) (h : List UInt8) (X : Nat → Prop) : Prop :=
  h.length ≤ c ∧ c ≤ 9223372036854775807 ∧ ((A = none ∧ h = [] ∧ c = 0) ∨ ∃ ad, A = some ad ∧ (0 < h.length → ad.block < w.heap.size ∧ ¬ X ad.block) ∧ ∀ j u, h[j]? = some u → w.cell? (ad.add j) = some (.int .u8 u.toNat))

theorem block_add (a : Addr) (n : Nat) : (a.add n).block = a.block := by unfold Addr.add; split <;> rfl
theorem add_add' (a : Addr) (i j : Nat) : (a.add i).add j = a.add (i + j) := by
  unfold Addr.add
  by_cases hi : i = 0 <;> by_cases hj : j = 0 <;> simp [hi, hj, Nat.add_assoc]

section
variable {w w' : World} {A : Option Addr} {c : Nat} {h : List UInt8} {X Y : Nat → Prop}
theorem Byt.nil (w : World) (X : Nat → Prop) : Byt w none 0 [] X := ⟨Nat.le_refl _, by omega, Or.inl ⟨rfl, rfl, rfl⟩⟩
theorem Byt.cut (hb : Byt w A c h X) {k : Nat} (hk : k ≤ h.length) : Byt w (if c = k then A else A.map (·.add k)) (c - k) (h.drop k) X := by
  obtain ⟨h1, h2, h3⟩ := hb
  refine ⟨by rw [List.length_drop]; omega, by omega, ?_⟩
  rcases h3 with ⟨rfl, rfl, rfl⟩ | ⟨ad, rfl, h4, h5⟩
  · left
    simp
  · right
    by_cases hc : c = k
    · rw [if_pos hc]
      have hd : h.drop k = [] := List.drop_of_length_le (by omega)
      refine ⟨ad, rfl, fun hp => ?_, fun j u hu => ?_⟩
      · rw [hd] at hp; exact absurd hp (by simp)
      · rw [hd] at hu; simp at hu
    · rw [if_neg hc]
      refine ⟨ad.add k, rfl, fun hp => ?_, fun j u hu => ?_⟩
      · rw [block_add]; exact h4 (by rw [List.length_drop] at hp; omega)
      · rw [add_add']
        exact h5 _ u (by rw [← hu, List.getElem?_drop])
theorem Byt.take (hb : Byt w A c h X) (k : Nat) : Byt w A c (h.take k) X := by
  obtain ⟨h1, h2, h3⟩ := hb
  refine ⟨by rw [List.length_take]; omega, h2, ?_⟩
  rcases h3 with ⟨rfl, rfl, rfl⟩ | ⟨ad, rfl, h4, h5⟩
  · exact Or.inl ⟨rfl, by simp, rfl⟩
  · refine Or.inr ⟨ad, rfl, fun hp => h4 (by rw [List.length_take] at hp; omega), fun j u hu => h5 j u ?_⟩
    rw [List.getElem?_take] at hu
    split at hu
    · exact hu
    · cases hu
/-- What the reader's own functions leave alone. -/
theorem Byt.keep (hb : Byt w A c h X) (hs : w.heap.size ≤ w'.heap.size) (hk : ∀ p : Addr, p.block < w.heap.size → ¬ X p.block → w'.cell? p = w.cell? p) : Byt w' A c h X := by
  obtain ⟨h1, h2, h3⟩ := hb
  refine ⟨h1, h2, ?_⟩
  rcases h3 with h3 | ⟨ad, rfl, h4, h5⟩
  · exact Or.inl h3
  · refine Or.inr ⟨ad, rfl, fun hp => ⟨by have := (h4 hp).1; omega, (h4 hp).2⟩, fun j u hu => ?_⟩
    have hp : 0 < h.length := by
      rcases Nat.eq_zero_or_pos h.length with h0 | h0
      · rw [List.length_eq_zero_iff] at h0; subst h0; simp at hu
      · exact h0
    rw [hk _ (by rw [block_add]; exact (h4 hp).1) (by rw [block_add]; exact (h4 hp).2)]
    exact h5 j u hu
theorem Byt.drew (hb : Byt w A c h X) : Byt w.drew A c h X := hb
theorem Byt.drewN (hb : Byt w A c h X) (n : Nat) : Byt (w.drewN n) A c h X := hb
theorem Byt.below (hb : Byt w A c h X) (hB : Below w.heap.size w w') : Byt w' A c h X := hb.keep hB.size fun p hp _ => hB.cell hp
theorem Byt.alloc (hb : Byt w A c h X) (o : Obj) : Byt (w.alloc o) A c h X := hb.keep (by simp) fun p hp _ => World.cell?_alloc_lt w o p hp
theorem Byt.set (hb : Byt w A c h X) {p : Addr} (hp : X p.block) (u : Value) : Byt (w.setCell p u) A c h X :=
  hb.keep (by simp [World.setCell]) fun q _ hq => World.cell?_setCell_other w p q u (fun e => by subst e; exact hq hp)
theorem Byt.grown (hb : Byt w A c h X) {b : Nat} (hX : X b) (hg : w.grownBy w' (some b)) : Byt w' A c h X :=
  hb.keep hg.size fun p hp hx => World.cell?_of_block (hg.block p.block hp (fun e => by injection e with e; subst e; exact hx hX))
theorem Byt.mono (hb : Byt w A c h X) (hXY : ∀ k, k < w.heap.size → Y k → X k) : Byt w A c h Y := by
  obtain ⟨h1, h2, h3⟩ := hb
  refine ⟨h1, h2, ?_⟩
  rcases h3 with h3 | ⟨ad, rfl, h4, h5⟩
  · exact Or.inl h3
  · exact Or.inr ⟨ad, rfl, fun hp => ⟨(h4 hp).1, fun hy => (h4 hp).2 (hXY _ (h4 hp).1 hy)⟩, h5⟩
end

theorem bytesOf_nat (h : List UInt8) : Lib.bytesOf (h.map fun u => (u.toNat : Int)) = h := by
  unfold Lib.bytesOf
  rw [List.map_map]
  conv => rhs; rw [← List.map_id h]
  apply List.map_congr_left
  intro u _
  simp
theorem getD_nat {h : List UInt8} {i : Nat} (hi : i < h.length) : (h.map fun u => (u.toNat : Int)).getD i 0 = ((h[i]).toNat : Int) := by
  simp [List.getD, hi]

/-- Where a text stands in a slice of bytes. -/
theorem index_calls {w : World} {A : Option Addr} {c : Nat} {h : List UInt8} {X : Nat → Prop} (hE : EnvF w) (hb : Byt w A c h X) (g : Nat) (p : List UInt8) (hp : 2 ≤ p.length) (hp2 : p.length ≤ 1000) (hs : h.length ≤ 1073741824)
    (hc : ∀ j u, p[j]? = some u → w.cell? ⟨g, j, none⟩ = some (.int .u8 u.toNat)) :
    Calls Tryz.prog 31 #[.slice A h.length c, .slice (some ⟨g, 0, none⟩) p.length p.length] w fun e w' => e = .returned (.int .i64 (Lib.index h p)) ∧ Below w.heap.size w w' := by
  obtain ⟨h1, h2, h3⟩ := hb
  rcases h3 with ⟨rfl, rfl, rfl⟩ | ⟨ad, rfl, h4, h5⟩
  · refine (Tryz.bytes_Index_nil _ p.length p.length w (by omega) (fun h => by omega)).mono ?_
    rintro e w' ⟨rfl, rfl⟩
    refine ⟨?_, Below.refl _ _⟩
    rw [if_neg (by omega), Lib.index_long (by simp) (fun e => by subst e; simp at hp)]
  · obtain ⟨_, m, hm⟩ := hE
    have hadd : ∀ j, (⟨g, 0, none⟩ : Addr).add j = ⟨g, j, none⟩ := by intro j; unfold Addr.add; split <;> simp_all
    have := Tryz.bytes_Index_at ad ⟨g, 0, none⟩ h.length c p.length p.length (h.map fun u => (u.toNat : Int)) (p.map fun u => (u.toNat : Int)) m w (by simp) (by simp)
      (by intro x hx; rw [List.mem_map] at hx; obtain ⟨u, _, rfl⟩ := hx; have := UInt8.toNat_lt u; omega)
      (by intro x hx; rw [List.mem_map] at hx; obtain ⟨u, _, rfl⟩ := hx; have := UInt8.toNat_lt u; omega)
      (by intro i hi; rw [getD_nat hi]; exact h5 i _ (List.getElem?_eq_getElem hi))
      (by intro i hi; rw [getD_nat hi, hadd]; exact hc i _ (List.getElem?_eq_getElem hi)) h1 (by omega) (by omega) hm
    rw [bytesOf_nat, bytesOf_nat] at this
    refine this.mono ?_
    rintro e w' ⟨rfl, q, rfl⟩
    exact ⟨rfl, bel_drawn w q⟩

/-- A reader that holds these bytes. -/
def RdAt (w : World) (b : Nat) (h : List UInt8) (k : Bool) (X : Nat → Prop) : Prop :=
  ∃ (A : Option Addr) (c : Nat), Cel w b 56 #[.slice A h.length c, .bool k] ∧ Byt w A c h X
/-- Events handed over: none, or one in a new block. -/
def EvS (w : World) (B : Nat) (v : Value) (evs : List Evt) : Prop :=
  (evs = [] ∧ v = .slice none 0 0) ∨ ∃ g x, evs = [x] ∧ B ≤ g ∧ v = .slice (some ⟨g, 0, none⟩) 1 1 ∧ Cel w g 42 #[.string ⟨x.1.toArray⟩, .int .i64 x.2]
/-- How a step ends. -/
def StepEnd (b : Nat) (X : Nat → Prop) (st : Stp) (w : World) (e : Ending) (w' : World) : Prop :=
  ∃ v, e = .returned (.tuple #[v, .bool st.on]) ∧ EvS w' w.heap.size v st.evs ∧ RdAt w' b st.h st.k X ∧ w.grownBy w' (some b)

theorem Cel.two {w : World} {b : Nat} {t : TypeId} {x y : Value} (h : Cel w b t #[x, y]) :
    w.cell? ⟨b, 0, none⟩ = some x ∧ w.cell? ⟨b, 1, none⟩ = some y ∧ w.frozen? ⟨b, 0, none⟩ = false ∧ w.frozen? ⟨b, 1, none⟩ = false :=
  ⟨h.cell 0, h.cell 1, h.froz 0, h.froz 1⟩

/-- A slice of a slice, its value known. -/
theorem wpList_cut {P : Program} {w : World} {ops : Array Oper} {rest : List Oper} {o : Oper} {a : Act} {Q : Exit → Act → World → Prop} (hgd : o.guard = none) (t : TypeId) (x lo : Operand)
    (ho : o.op = .slice t x (some lo) none none) (vx vl v : Value) (hx : a.eval x = vx) (hl : a.eval lo = vl) (hrun : (Instr.sliceAt t vx (some vl) none none).run P w = .ok v w)
    (h : wpList P ops Q rest (a.put o.dst v) w) : wpList P ops Q (o :: rest) a w := by
  refine wpList_plain hgd fun K hK => ?_
  unfold Oper.wp
  simp [execOp, ho, hx, hl, hrun, Result.andThen]
  exact hK _ _ h
theorem slice_run (A : Option Addr) (n c k : Nat) (hk : k ≤ n) (W : World) :
    (Instr.sliceAt 27 (.slice A n c) (some (.int .i64 k)) none none).run Tryz.prog W = .ok (.slice (if c = k then A else A.map (·.add k)) (n - k) (c - k)) W := by
  have he : Tryz.prog.elem 27 = 5 := by kernel_rfl
  have hu : Tryz.prog.underlying 27 = some (.slice (Tryz.prog.elem 27)) := by rw [he]; exact Tryz.underlying27
  rw [run_sliceAt_slice W _ _ _ _ _ hu, run_slice_l W _ A n c hu .i64 k (by omega) (by omega), he]
  have hs : (sizeOf 5).run Tryz.prog W = .ok 1 W := by kernel_rfl
  rw [hs]
  simp only [Result.andThen, sliced, Int.toNat_natCast, Nat.mul_one]

theorem grown_set2 {w : World} {b : Nat} {x y : Value} {i j : Nat} : w.grownBy ((w.setCell ⟨b, i, none⟩ x).setCell ⟨b, j, none⟩ y) (some b) :=
  ⟨rfl, rfl, rfl, by simp [World.setCell], fun k hk hne => by
    have hb : k ≠ b := fun e => hne (by rw [e])
    rw [Below.heap_setCell _ _ _ _ hb, Below.heap_setCell _ _ _ _ hb]⟩
theorem grown_set1 {w : World} {b : Nat} {x : Value} {i : Nat} (_hb : b < w.heap.size) : w.grownBy (w.setCell ⟨b, i, none⟩ x) (some b) :=
  ⟨rfl, rfl, rfl, by simp [World.setCell], fun k _ hne => Below.heap_setCell _ _ _ _ (fun e => hne (by rw [e]))⟩
theorem grown_trans' {w w1 w2 : World} {r : Option Nat} (h : w.grownBy w1 r) (k : w1.grownBy w2 r) : w.grownBy w2 r :=
  ⟨k.os.trans h.os, k.tape.trans h.tape, k.output.trans h.output, Nat.le_trans h.size k.size, fun i hi hne => (k.block i (Nat.lt_of_lt_of_le hi h.size) hne).trans (h.block i hi hne)⟩
theorem grown_of_below {w w' : World} (h : Below w.heap.size w w') (r : Option Nat) : w.grownBy w' r := ⟨h.os, h.tape, h.output, h.size, fun k hk _ => h.block k hk⟩
theorem Cel.over2 {w : World} {b : Nat} {t : TypeId} {x y x' y' : Value} (h : Cel w b t #[x, y]) : Cel ((w.setCell ⟨b, 0, none⟩ x').setCell ⟨b, 1, none⟩ y') b t #[x', y'] := (h.set 0 x').set 1 y'

set_option maxRecDepth 100000 in
set_option maxHeartbeats 1000000 in
theorem frmWrong_any (b : Nat) (h : List UInt8) (k : Bool) (X : Nat → Prop) (c : Int) (w : World) (hX : X b) (hR : RdAt w b h k X) (h1 : 1 ≤ h.length) :
    Calls Tryz.prog 32 #[.pointer (some ⟨b, 0, none⟩), .int .i64 c] w (StepEnd b X ⟨[([], c)], true, h.drop 1, true⟩ w) := by
  obtain ⟨A, cp, hC, hB⟩ := hR
  obtain ⟨st, hst⟩ : ∃ st : Stp, (⟨[([], c)], true, h.drop 1, true⟩ : Stp) = st := ⟨_, rfl⟩
  rw [hst]
  obtain ⟨x0, x1, f0, f1⟩ := hC.two
  have hbl := hC.lt
  have hcut := hB.cut h1
  have hrun := fun W => slice_run A h.length cp 1 h1 W
  obtain ⟨A', hA'⟩ : ∃ A', (if cp = 1 then A else A.map (·.add 1)) = A' := ⟨_, rfl⟩
  rw [hA'] at hrun hcut
  have hdl : (h.drop 1).length = h.length - 1 := List.length_drop ..
  clear hA' hB
  replace hC := Lib.hid hC
  replace hst := Lib.hid hst
  replace hrun := Lib.hid hrun
  replace hcut := Lib.hid hcut
  replace hdl := Lib.hid hdl
  go_enter Tryz.func32, Tryz.ntmps32
  go_wp2_with (refine wpList_cut rfl 27 _ _ rfl (.slice A h.length cp) (.int .i64 1) _ rfl rfl (hrun.out _) ?_)
  go_ret2
  rw [← hst.out]
  have hC2 := (hC.out.over2 (x' := .slice A' (h.length - 1) (cp - 1)) (y' := .bool true)).alloc (.cells #[.string ⟨#[]⟩, .int .i64 c] 42)
  rw [← hdl.out] at hC2
  refine ⟨_, rfl, Or.inr ⟨w.heap.size, ([], c), rfl, Nat.le_refl _, rfl, ?_⟩, ⟨A', cp - 1, ?_, ?_⟩, ?_⟩
  · have := Cel.fresh ((w.setCell ⟨b, 0, none⟩ (.slice A' (h.length - 1) (cp - 1))).setCell ⟨b, 1, none⟩ (.bool true)) 42 #[.string ⟨#[]⟩, .int .i64 c]
    simp only [World.setCell, Array.size_modify] at this
    exact this
  · rw [hdl.out] at hC2 ⊢
    exact hC2
  · exact ((hcut.out.set hX _).set hX _).alloc _
  · exact grown_trans' grown_set2 (grown_of_below ((Below.refl _ _).alloc (Nat.le_refl _) _) _)

theorem conv_const (w : World) (C : Array Value) (n c : Nat) : (convert 27 27 (.slice (some ⟨w.heap.size, 0, none⟩) n c)).run Tryz.prog (w.alloc (.cells C 5)) = .ok (.slice (some ⟨w.heap.size, 0, none⟩) n c) (w.alloc (.cells C 5 (C.size, C.size + 1))) :=
  Lib.run_convert_bytes_const (P := Tryz.prog) w 27 5 C n c Tryz.underlying27 Tryz.underlying5
theorem mark_cells (w : World) (p : List UInt8) (t : TypeId) (fr : Nat × Nat) : ∀ j u, p[j]? = some u → (w.alloc (.cells (p.map fun u => Value.int .u8 u.toNat).toArray t fr)).cell? ⟨w.heap.size, j, none⟩ = some (.int .u8 u.toNat) := by
  intro j u hu
  rw [World.cell?_alloc_mark]
  simp [hu]
def markB : Array Value := (fMark.map fun u => Value.int .u8 u.toNat).toArray
theorem byt_cells {w : World} {g : Nat} {t : TypeId} {p : List UInt8} (h : Cel w g t (p.map fun u => Value.int .u8 u.toNat).toArray) : ∀ j u, p[j]? = some u → w.cell? ⟨g, j, none⟩ = some (.int .u8 u.toNat) := by
  intro j u hu
  rw [h.cell]
  simp [hu]

set_option maxRecDepth 100000 in
set_option maxHeartbeats 1000000 in
theorem frmPass_any (b : Nat) (h : List UInt8) (X : Nat → Prop) (w : World) (hX : X b) (hE : EnvF w) (hR : RdAt w b h true X) (hs : h.length ≤ 1073741824) :
    Calls Tryz.prog 26 #[.pointer (some ⟨b, 0, none⟩)] w (StepEnd b X (stepF h true) w) := by
  obtain ⟨A, cp, hC, hB⟩ := hR
  obtain ⟨x0, x1, f0, f1⟩ := hC.two
  have hbl := hC.lt
  replace hC := Lib.hid hC
  go_enter Tryz.func26, Tryz.ntmps26
  have hcv := Lib.hid conv_const
  have hC1 := hC.out.alloc (.cells markB 5 (15, 16))
  have hM := mark_cells w fMark 5 (15, 16)
  have hB1 := hB.alloc (.cells markB 5 (15, 16))
  have hg1 : w.grownBy (w.alloc (.cells markB 5 (15, 16))) (some b) := grown_of_below ((Below.refl _ _).alloc (Nat.le_refl _) _) _
  have hE1 := hE.below ((Below.refl _ _).alloc (Nat.le_refl _) (.cells markB 5 (15, 16)))
  have hix := index_calls hE1 hB1 w.heap.size fMark (by decide) (by decide) hs hM
  have hmk : w.alloc (.cells markB 5 (15, 16)) = w.alloc (.cells #[.int .u8 67, .int .u8 111, .int .u8 110, .int .u8 116, .int .u8 101, .int .u8 110, .int .u8 116, .int .u8 45, .int .u8 76, .int .u8 101, .int .u8 110, .int .u8 103, .int .u8 116, .int .u8 104, .int .u8 58] 5 (15, 16)) := rfl
  rw [hmk] at hC1 hB1 hg1 hix
  clear hmk hM hE1 hB
  replace hC1 := Lib.hid hC1
  replace hB1 := Lib.hid hB1
  replace hg1 := Lib.hid hg1
  replace hix := Lib.hid hix
  have hcv2 := hcv.out
  go_wp2_with fail
  refine hix.out.mono ?_
  rintro e w2 ⟨rfl, hB2⟩
  have hC2 := hC1.out.below hB2 (by simp; omega)
  have hY2 := hB1.out.below hB2
  have hg2 := grown_trans' hg1.out (grown_of_below hB2 _)
  clear hix hB2 x0 x1 f0 f1 hC hC1 hB1 hg1 hcv2 hcv
  obtain ⟨x0, x1, f0, f1⟩ := hC2.two
  have hbl2 := hC2.lt
  replace hC2 := Lib.hid hC2
  replace hg2 := Lib.hid hg2
  rcases hi : idx h fMark with _ | i
  · rw [idx_int_none hi]
    have hst := st_none hi
    clear hi
    by_cases h14 : 14 < h.length
    · have hcut := hY2.cut (k := h.length - 14) (by omega)
      have hrun : ∀ W, (Instr.sliceAt 27 (.slice A h.length cp) (some (.int .i64 ((h.length : Int) - 14))) none none).run Tryz.prog W = .ok (.slice (if cp = h.length - 14 then A else A.map (·.add (h.length - 14))) (h.length - (h.length - 14)) (cp - (h.length - 14))) W := fun W => by
        rw [show ((h.length : Int) - 14) = ((h.length - 14 : Nat) : Int) by omega]
        exact slice_run A h.length cp _ (by omega) W
      obtain ⟨A', hA'⟩ : ∃ A', (if cp = h.length - 14 then A else A.map (·.add (h.length - 14))) = A' := ⟨_, rfl⟩
      obtain ⟨n', hn'⟩ : ∃ n', h.length - (h.length - 14) = n' := ⟨_, rfl⟩
      obtain ⟨c', hc'⟩ : ∃ c', cp - (h.length - 14) = c' := ⟨_, rfl⟩
      rw [hA', hc'] at hcut
      rw [hA', hn', hc'] at hrun
      have hdl : (h.drop (h.length - 14)).length = n' := by rw [List.length_drop, hn']
      clear hA' hn' hc' hY2
      replace hrun := Lib.hid hrun
      replace hcut := Lib.hid hcut
      replace hst := Lib.hid hst
      replace hdl := Lib.hid hdl
      go_wp2_with (refine wpList_cut rfl 27 _ _ rfl (.slice A h.length cp) (.int .i64 ((h.length : Int) - 14)) _ rfl rfl (hrun.out _) ?_)
      go_ret2
      rw [hst.out]
      exact ⟨_, rfl, Or.inl ⟨rfl, rfl⟩, ⟨A', c', by rw [hdl.out]; exact hC2.out.set 0 (.slice A' n' c'), hcut.out.set hX _⟩, grown_trans' hg2.out (grown_set1 hbl2)⟩
    · have hz : h.drop (h.length - 14) = h := by rw [show h.length - 14 = 0 by omega]; rfl
      rw [hz] at hst
      clear hz
      replace hY2 := Lib.hid hY2
      replace hst := Lib.hid hst
      go_wp2_with fail
      go_ret2
      rw [hst.out]
      exact ⟨_, rfl, Or.inl ⟨rfl, rfl⟩, ⟨A, cp, hC2.out, hY2.out⟩, hg2.out⟩
  · rw [idx_int hi]
    have hil := idx_lt fMark_ne hi
    have hil2 : i + 15 ≤ h.length := hil
    have hst := st_pass hi
    clear hi hil
    have hcut := hY2.cut (k := i) (by omega)
    have hrun := fun W => slice_run A h.length cp i (by omega) W
    obtain ⟨A', hA'⟩ : ∃ A', (if cp = i then A else A.map (·.add i)) = A' := ⟨_, rfl⟩
    obtain ⟨n', hn'⟩ : ∃ n', h.length - i = n' := ⟨_, rfl⟩
    obtain ⟨c', hc'⟩ : ∃ c', cp - i = c' := ⟨_, rfl⟩
    rw [hA', hc'] at hcut
    rw [hA', hn', hc'] at hrun
    have hdl : (h.drop i).length = n' := by rw [List.length_drop, hn']
    clear hA' hn' hc' hY2
    replace hrun := Lib.hid hrun
    replace hcut := Lib.hid hcut
    replace hst := Lib.hid hst
    replace hdl := Lib.hid hdl
    go_wp2_with (refine wpList_cut rfl 27 _ _ rfl (.slice A h.length cp) (.int .i64 i) _ rfl rfl (hrun.out _) ?_)
    go_ret2
    rw [hst.out]
    exact ⟨_, rfl, Or.inl ⟨rfl, rfl⟩, ⟨A', c', by rw [hdl.out]; exact hC2.out.over2 (x' := .slice A' n' c') (y' := .bool false), (hcut.out.set hX _).set hX _⟩, grown_trans' hg2.out grown_set2⟩
end Go.Proofs.YtccfdecpiekeoaaGreatDoor
