/-
  The abstract machine's operations on values and memory, each against the model's. No program.
-/
import Derived.Test.YtambgppdjlhdaaaGreatDoorEvB
import Derived.Great.BuildSlice
import Derived.Room.Entries
namespace Go.Proofs.YtambgppdjlhdaaaGreatDoor
open Go.RowKit

/-- A computation of the model yields what the abstract one yields. -/
noncomputable def Ran [Tab] (P : Program) (m : Sem Value) (w : World) (E : AEnv) (s : AS) (v : AV) (s' : AS) : Prop :=
  ∃ x w' E', m.run P w = .ok x w' ∧ VR E' v x ∧ HR E' s'.get w' ∧ Stp E s.get w E' s'.get w' ∧ Grow E s.n E' s'.n
theorem Ran.same [Tab] {P : Program} {m : Sem Value} {w : World} {E : AEnv} {s : AS} {v : AV} {x : Value} (h : HR E s.get w) (hm : m.run P w = .ok x w) (hv : VR E v x) : Ran P m w E s v s := ⟨x, w, E, hm, hv, h, Stp.refl E s.get w, Grow.refl E s.n⟩

noncomputable def rowD : TypeDesc → Bool
  | .struct _ => true
  | .array _ _ => true
  | _ => false
noncomputable def zeroA (P : Program) (t : Nat) : Option (List AV) := match P.info? t with
  | some i => match i.zero with
    | some v => some (v.cells.toList.map absS)
    | none => none
  | none => none
theorem zeroA_ok [Tab] {P : Program} {t : Nat} {cs : List AV} (h : zeroA P t = some cs) : ∃ z, (∀ w, (zeroValue t).run P w = .ok z w) ∧ ∀ E, VL E cs z.cells.toList := by
  unfold zeroA at h
  split at h
  · rename_i i hi
    split at h
    · rename_i v hz
      injection h with h
      subst h
      exact ⟨v, fun w => by simp [zeroValue, typeInfo, hi, hz], fun E => absL_ok E _⟩
    · cases h
  · cases h
theorem newVar_run {P : Program} (t : TypeId) (v : Value) (w : World) : (newVar t v).run P w = .ok ⟨w.heap.size, 0, none⟩ (w.alloc (.cells v.cells t)) := by
  simp [newVar, newRow]
noncomputable def newA (s : AS) (cs : List AV) (ty : Nat) : Option (AV × AS) := cond (Nat.ble (Nat.succ s.n) 1000000000) (some (.ptr s.n 0, s.new (.cells cs ty))) none
theorem newA_ok {s s' : AS} {cs : List AV} {ty : Nat} {v : AV} (h : newA s cs ty = some (v, s')) : s.n < 1000000000 ∧ v = .ptr s.n 0 ∧ s' = s.new (.cells cs ty) := by
  unfold newA at h
  cases hb : Nat.ble (Nat.succ s.n) 1000000000 with
  | false => rw [hb] at h; cases h
  | true =>
    rw [hb] at h
    have := Nat.le_of_ble_eq_true hb
    injection h with h
    injection h with h1 h2
    exact ⟨by omega, h1.symm, h2.symm⟩
theorem HR.newCells [Tab] {E : AEnv} {s : AS} {w : World} (h : HR E s.get w) (hi : ¬ E.ok s.n) (hl : s.n < 1000000000) {cs : List AV} {c : Array Value} {ty : TypeId} (hc : VL E cs (c.toList.take cs.length)) (hlen : cs.length ≤ c.size) (w' : World) (hw : w' = w.alloc (.cells c ty) ∨ w' = w.drew.alloc (.cells c ty)) :
    HR (E.more s.n w.heap.size c.size) (s.new (.cells cs ty)).get w' ∧ Stp E s.get w (E.more s.n w.heap.size c.size) (s.new (.cells cs ty)).get w' :=
  h.new hi hl _ _ _ w' hw ⟨c, (0, 0), rfl, (E.more_k _ _ _).symm, hlen, hc.mono (E.le_more _ _ _ hi), fun i _ h => by omega⟩
theorem newVar_ok [Tab] {P : Program} {w : World} {E : AEnv} {s s' : AS} {cs : List AV} {v : AV} (h : HR E s.get w) (hi : ¬ E.ok s.n) (t : TypeId) (hn : newA s cs t = some (v, s')) (x : Value) (hc : VL E cs x.cells.toList) :
    ∃ w' E', (newVar t x).run P w = .ok ⟨w.heap.size, 0, none⟩ w' ∧ VR E' v (.pointer (some ⟨w.heap.size, 0, none⟩)) ∧ HR E' s'.get w' ∧ Stp E s.get w E' s'.get w' ∧ Grow E s.n E' s'.n := by
  obtain ⟨hl, rfl, rfl⟩ := newA_ok hn
  have hlen : cs.length = x.cells.size := by simpa using hc.len
  obtain ⟨h1, h2⟩ := h.newCells (c := x.cells) (ty := t) hi hl (by rw [List.take_of_length_le (by rw [hlen]; simp)]; exact hc) (by omega) _ (.inl rfl)
  refine ⟨_, _, newVar_run t x w, ?_, h1, h2, E.grow_more _ _ _⟩
  have := VR.ptr (E := E.more s.n w.heap.size x.cells.size) s.n 0 (E.more_ok _ _ _)
  rw [AEnv.more_r] at this
  exact this
/-- alloc -/
noncomputable def allocA (P : Program) (t : Nat) (s : AS) : Option (AV × AS) := match zeroA P t with
  | some cs => newA s cs t
  | none => none
theorem allocA_ok [Tab] {P : Program} {t : Nat} {s s' : AS} {v : AV} {E : AEnv} {w : World} (h : HR E s.get w) (hi : ¬ E.ok s.n) (he : allocA P t s = some (v, s')) : Ran P (Instr.alloc t true (.tuple #[])) w E s v s' := by
  unfold allocA at he
  split at he
  · rename_i cs hz
    obtain ⟨z, hz1, hz2⟩ := zeroA_ok hz
    obtain ⟨w', E', h1, h2, h3, h4⟩ := newVar_ok (P := P) h hi t he z (hz2 E)
    exact ⟨_, w', E', by simp [Instr.alloc, hz1, h1], h2, h3, h4⟩
  · cases he
/-- box -/
noncomputable def boxA (t : Nat) (v : AV) (s : AS) : Option (AV × AS) := match cellsA v with
  | some cs => newA s cs t
  | none => none
theorem boxA_ok [Tab] {P : Program} {t : Nat} {s s' : AS} {u v : AV} {x : Value} {E : AEnv} {w : World} (h : HR E s.get w) (hi : ¬ E.ok s.n) (hu : VR E u x) (he : boxA t u s = some (v, s')) : Ran P (Instr.box t x) w E s v s' := by
  unfold boxA at he
  split at he
  · rename_i cs hc
    obtain ⟨w', E', h1, h2, h3, h4⟩ := newVar_ok (P := P) h hi t he x (cellsA_ok hu hc).1
    exact ⟨_, w', E', by simp [Instr.box, h1], h2, h3, h4⟩
  · cases he
/-- load -/
noncomputable def loadA (P : Program) (t : Nat) (a : AV) (s : AS) : Option AV := match a with
  | .ptr b o => match s.get b with
    | .cells cs _ => match P.underlying t with
      | none => none
      | some d => cond (rowD d) (match P.info? t with
          | some i => cond (Nat.ble (Nat.add o i.size) cs.length) (some (.agg ((cs.drop o).take i.size))) none
          | none => none) cs[o]?
    | _ => none
  | _ => none
theorem isAgg_run {P : Program} {t : TypeId} {d : TypeDesc} (h : P.underlying t = some d) (w : World) : (isAgg t).run P w = .ok (rowD d) w := by
  unfold isAgg
  rw [Sem.run_bind, run_underlying h w]
  cases d <;> rfl
theorem loadVar_ok [Tab] {P : Program} {t : Nat} {a v : AV} {x : Value} {s : AS} {E : AEnv} {w : World} (h : HR E s.get w) (ha : VR E a x) (he : loadA P t a s = some v) :
    ∃ p y, x = .pointer (some p) ∧ (loadVar t p).run P w = .ok y w ∧ VR E v y := by
  unfold loadA at he
  split at he
  · rename_i b o
    cases ha with
    | ptr b o hb =>
    split at he
    · rename_i cs ty hg
      split at he
      · cases he
      · rename_i d hd
        cases hr : rowD d with
        | true =>
          rw [hr] at he
          simp only [cond_true] at he
          split at he
          · rename_i i hi
            cases hl : Nat.ble (Nat.add o i.size) cs.length with
            | false => rw [hl] at he; cases he
            | true =>
              rw [hl] at he
              injection he with he
              have hl' : o + i.size ≤ cs.length := Nat.le_of_ble_eq_true hl
              obtain ⟨vs, q1, q2, q3⟩ := h.range hg hl'
              subst he
              refine ⟨_, .agg vs.toArray, rfl, run_loadVar_mid w _ o t vs d q3 hd (by cases d <;> first | rfl | cases hr) (by rw [hi, q1]; rfl), ?_⟩
              exact VL.agg (by simpa using q2)
          · cases he
        | false =>
          rw [hr] at he
          simp only [cond_false] at he
          have ho : o < cs.length := (List.getElem?_eq_some_iff.1 he).1
          obtain ⟨vs, q1, q2, q3⟩ := h.range hg (o := o) (n := 1) (by omega)
          obtain ⟨y, hy, hvy⟩ := q2.exists_at (i := 0) (c := v) (by rw [List.getElem?_take, if_pos (by omega), List.getElem?_drop]; exact he)
          have hcell := q3 0 y hy
          exact ⟨_, y, rfl, by simp [loadVar, Sem.run_bind, isAgg_run hd, hr, load, Sem.run, show w.cell? ⟨E.r b, o, none⟩ = some y from hcell], hvy⟩
    · cases he
  · cases he
theorem loadA_ok [Tab] {P : Program} {t : Nat} {a v : AV} {x : Value} {s : AS} {E : AEnv} {w : World} (h : HR E s.get w) (ha : VR E a x) (he : loadA P t a s = some v) : Ran P (Instr.loadAt t x) w E s v s := by
  obtain ⟨p, y, rfl, h1, h2⟩ := loadVar_ok h ha he
  exact Ran.same h (by simp [Instr.loadAt, Instr.sureAddr, h1]) h2
/-- store -/
noncomputable def storeA (P : Program) (t : Nat) (a v : AV) (s : AS) : Option AS := match a with
  | .ptr b o => match s.get b with
    | .cells cs ty => match cellsA v with
      | some vs => match P.info? t with
        | some i => cond (Nat.beq i.size vs.length) (cond (Nat.ble (Nat.add o vs.length) cs.length) (some (s.put b (.cells (putL cs o vs) ty))) none) none
        | none => none
      | none => none
    | _ => none
  | _ => none
theorem storeA_ok [Tab] {P : Program} {t : Nat} {a v : AV} {x y : Value} {s s' : AS} {E : AEnv} {w : World} (h : HR E s.get w) (ha : VR E a x) (hv : VR E v y) (he : storeA P t a v s = some s') :
    ∃ w', (Instr.storeAt t x y).run P w = .ok () w' ∧ HR E s'.get w' ∧ Stp E s.get w E s'.get w' ∧ s'.n = s.n := by
  unfold storeA at he
  split at he
  · rename_i b o
    cases ha with
    | ptr b o hb =>
    split at he
    · rename_i cs ty hg
      split at he
      · rename_i vs hc
        split at he
        · rename_i i hi
          cases h1 : Nat.beq i.size vs.length with
          | false => rw [h1] at he; cases he
          | true =>
            rw [h1] at he
            simp only [cond_true] at he
            cases h2 : Nat.ble (Nat.add o vs.length) cs.length with
            | false => rw [h2] at he; cases he
            | true =>
              rw [h2] at he
              injection he with he
              subst he
              have e1 : i.size = vs.length := Nat.eq_of_beq_eq_true h1
              have e2 : o + vs.length ≤ cs.length := Nat.le_of_ble_eq_true h2
              obtain ⟨q1, q2⟩ := cellsA_ok hv hc
              have hlen : vs.length = y.cells.size := by simpa using q1.len
              obtain ⟨r1, r2⟩ := h.store hg q1 e2
              obtain ⟨_, c, fz, g1, g2, g3, _, _⟩ := h.cells hg
              have ht := h.there hg (o := o) (n := y.cells.size) (by omega)
              have hst := run_storeCells_cells (P := P) (E.r b) o y.cells.toList 0 w (fun j hj => by simpa using (ht j (by simpa using hj)).1) (fun j hj => by simpa using (ht j (by simpa using hj)).2) q2
              simp only [Nat.add_zero] at hst
              exact ⟨_, by simp [Instr.storeAt, Instr.sureAddr, storeVar, sizeOf, typeInfo, hi, e1, hlen, hst], r1, r2, rfl⟩
        · cases he
      · cases he
    · cases he
  · cases he
/-- build -/
noncomputable def fillA (place : Nat → Option (Nat × Nat)) : List AV → List (Nat × AV) → Option (List AV)
  | cells, [] => some cells
  | cells, p :: r => match place p.1 with
    | none => none
    | some q => match cellsA p.2 with
      | none => none
      | some cs => cond (Nat.beq cs.length q.2) (cond (Nat.ble (Nat.add q.1 cs.length) cells.length) (fillA place (putL cells q.1 cs) r) none) none
theorem foldl_putC [Tab] (off : Nat) : ∀ (l : List Value) (k : Nat) (cells : Array Value), (l.zipIdx k).foldl (fun cs x => cs.setIfInBounds (off + x.2) x.1) cells = putC cells (off + k) l
  | [], _, _ => rfl
  | v :: r, k, cells => by
    rw [List.zipIdx_cons, List.foldl_cons, foldl_putC off r (k + 1), putC]
    rfl
theorem putL_VL [Tab] {E : AEnv} {cs : List AV} {c : Array Value} (h : VL E cs c.toList) {o : Nat} {vs : List AV} {xs : List Value} (hv : VL E vs xs) (ho : o + vs.length ≤ cs.length) : VL E (putL cs o vs) (putC c o xs).toList := by
  have hl := h.len
  have hl2 := hv.len
  rw [putC_list _ _ _ (by simp at hl; omega), List.append_assoc]
  rw [← hl2]
  exact (h.take o).append (hv.append (h.drop _))
/-- Parts. -/
structure PL (E : AEnv) (l : List (Nat × AV)) (a : List (Nat × Value)) : Prop where
  fst : l.map (·.1) = a.map (·.1)
  snd : VL E (l.map (·.2)) (a.map (·.2))
theorem fillA_ok [Tab] {E : AEnv} {place : Nat → Option (Nat × Nat)} : ∀ {l : List (Nat × AV)} {a : List (Nat × Value)} {cells out : List AV} {c : Array Value}, PL E l a → VL E cells c.toList → fillA place cells l = some out →
    ∃ d : Array Value, Instr.fill place c a = some d ∧ VL E out d.toList
  | [], [], cells, out, c, _, hc, he => by
    injection he with he
    subst he
    exact ⟨c, rfl, hc⟩
  | [], b :: a, _, _, _, hp, _, _ => by have := hp.fst; simp at this
  | p :: l, [], _, _, _, hp, _, _ => by have := hp.fst; simp at this
  | p :: l, b :: a, cells, out, c, hp, hc, he => by
    have hfst : p.1 = b.1 := by have := hp.fst; simp at this; exact this.1
    have htl : PL E l a := ⟨by have := hp.fst; simp at this; exact this.2, hp.snd.tail⟩
    have hhd : VR E p.2 b.2 := hp.snd.head
    unfold fillA at he
    split at he
    · cases he
    · rename_i q hq
      split at he
      · cases he
      · rename_i cs hcs
        cases h1 : Nat.beq cs.length q.2 with
        | false => rw [h1] at he; cases he
        | true =>
          rw [h1] at he
          simp only [cond_true] at he
          cases h2 : Nat.ble (Nat.add q.1 cs.length) cells.length with
          | false => rw [h2] at he; cases he
          | true =>
            rw [h2] at he
            simp only [cond_true] at he
            have e1 : cs.length = q.2 := Nat.eq_of_beq_eq_true h1
            have e2 : q.1 + cs.length ≤ cells.length := Nat.le_of_ble_eq_true h2
            obtain ⟨q1, _⟩ := cellsA_ok hhd hcs
            have hlen : cs.length = b.2.cells.size := by simpa using q1.len
            have hclen : cells.length = c.size := by simpa using hc.len
            obtain ⟨d, hd, hd2⟩ := fillA_ok htl (putL_VL hc q1 e2) he
            refine ⟨d, ?_, hd2⟩
            obtain ⟨i, v⟩ := b
            dsimp only at hfst hlen hd
            rw [hfst] at hq
            have hfold : v.cells.zipIdx.foldl (fun cs (x : Value × Nat) => cs.setIfInBounds (q.1 + x.2) x.1) c = putC c q.1 v.cells.toList := by
              have h9 := foldl_putC q.1 v.cells.toList 0 c
              rw [Nat.add_zero] at h9
              rw [← h9, ← Array.foldl_toList]
              simp
            rw [← hd]
            simp only [Instr.fill, hq]
            rw [if_neg (by simp; omega)]
            exact congrArg (fun z => Instr.fill place z a) hfold
noncomputable def placesA (P : Program) (fs : List Field) : Option (List (Nat × Nat)) := fs.mapM (fun f => (P.info? f.type).map fun i => (f.offset, i.size))
noncomputable def buildA (P : Program) (t : Nat) (parts : List (Nat × AV)) : Option AV := match P.info? t with
  | some it => match it.zero with
    | some z => match P.underlying t with
      | some (.struct fields) => match placesA P fields.toList with
        | some places => match fillA (places.toArray[·]?) (z.cells.toList.map absS) parts with
          | some cs => some (.agg cs)
          | none => none
        | none => none
      | some (.array _ e) => match P.info? e with
        | some ie => match fillA (fun i => some (Nat.mul i ie.size, ie.size)) (z.cells.toList.map absS) parts with
          | some cs => some (.agg cs)
          | none => none
        | none => none
      | _ => none
    | none => none
  | none => none
theorem buildA_ok [Tab] {P : Program} {t : Nat} {l : List (Nat × AV)} {a : Array (Nat × Value)} {v : AV} {s : AS} {E : AEnv} {w : World} (h : HR E s.get w) (hp : PL E l a.toList) (he : buildA P t l = some v) : Ran P (Instr.build t a) w E s v s := by
  unfold buildA at he
  split at he
  · rename_i it hit
    split at he
    · rename_i z hz
      split at he
      · rename_i fields hu
        split at he
        · rename_i places hpl
          split at he
          · rename_i cs hf
            injection he with he
            subst he
            obtain ⟨d, hd, hd2⟩ := fillA_ok hp (absL_ok E z.cells.toList) hf
            exact Ran.same h (run_build w t a d (by unfold Program.built; rw [hit, hu]; unfold placesA at hpl; simp [hz, hpl]; simpa using hd)) hd2.agg
          · cases he
        · cases he
      · rename_i n e hu
        split at he
        · rename_i ie hie
          split at he
          · rename_i cs hf
            injection he with he
            subst he
            obtain ⟨d, hd, hd2⟩ := fillA_ok hp (absL_ok E z.cells.toList) hf
            exact Ran.same h (run_build w t a d (by unfold Program.built; rw [hit, hu]; simp [hz, hie]; exact hd)) hd2.agg
          · cases he
        · cases he
      · cases he
    · cases he
  · cases he
/-- buildSlice -/
noncomputable def repA (z : List AV) : Nat → List AV
  | 0 => []
  | n + 1 => List.append z (repA z n)
noncomputable def buildSliceA (P : Program) (t len : Nat) (parts : List (Nat × AV)) (s : AS) : Option (AV × AS) := match P.underlying t with
  | some (.slice e) => match P.info? e with
    | some ie => match zeroA P e with
      | some zs => cond (Nat.beq zs.length ie.size) (cond (Nat.ble (Nat.mul len ie.size) 16777216) (cond (Nat.ble 1 ie.size) (match fillA (fun i => some (Nat.mul i ie.size, ie.size)) (repA zs len) parts with
          | some cs => match newA s cs e with
            | some (.ptr b o, s') => some (.sl b o len len, s')
            | _ => none
          | none => none) none) none) none
      | none => none
    | none => none
  | _ => none
theorem repA_VL [Tab] {E : AEnv} {zs : List AV} {z : List Value} (h : VL E zs z) : ∀ n, VL E (repA zs n) (List.replicate n z).flatten
  | 0 => VL.nil
  | n + 1 => by
    rw [List.replicate_succ, List.flatten_cons]
    exact h.append (repA_VL h n)
theorem range_rep (z : Array Value) (hz : 0 < z.size) (n : Nat) : ((Array.range (n * z.size)).map (z[· % z.size]!)).toList = (List.replicate n z.toList).flatten := by
  induction n with
  | zero => simp
  | succ n ih =>
    have e : (n + 1) * z.size = n * z.size + z.size := by rw [Nat.add_mul, Nat.one_mul]
    rw [List.replicate_succ', List.flatten_append, ← ih, e]
    have h1 : Array.range (n * z.size + z.size) = Array.range (n * z.size) ++ (Array.range z.size).map (n * z.size + ·) := by
      rw [Array.range_add]
    rw [h1, Array.map_append, Array.toList_append]
    congr 1
    apply List.ext_getElem
    · simp
    · intro i h2 h3
      have hi : i < z.size := by simpa using h2
      simp [Nat.mul_comm n, Nat.mul_add_mod, Nat.mod_eq_of_lt hi, hi]
theorem buildSliceA_ok [Tab] {P : Program} {t len : Nat} {l : List (Nat × AV)} {a : Array (Nat × Value)} {v : AV} {s s' : AS} {E : AEnv} {w : World} (h : HR E s.get w) (hi : ¬ E.ok s.n) (hp : PL E l a.toList) (he : buildSliceA P t len l s = some (v, s')) : Ran P (Instr.buildSlice t len a) w E s v s' := by
  unfold buildSliceA at he
  split at he
  · rename_i e hu
    split at he
    · rename_i ie hie
      split at he
      · rename_i zs hz
        cases h1 : Nat.beq zs.length ie.size with
        | false => rw [h1] at he; cases he
        | true =>
        cases h2 : Nat.ble (Nat.mul len ie.size) 16777216 with
        | false => rw [h1, h2] at he; cases he
        | true =>
        cases h3 : Nat.ble 1 ie.size with
        | false => rw [h1, h2, h3] at he; cases he
        | true =>
          rw [h1, h2, h3] at he
          simp only [cond_true] at he
          split at he
          · rename_i cs hf
            split at he
            · rename_i b o s'' hn
              injection he with he
              injection he with e1 e2
              subst e1
              subst e2
              have g1 : zs.length = ie.size := Nat.eq_of_beq_eq_true h1
              have g2 : len * ie.size ≤ 16777216 := Nat.le_of_ble_eq_true h2
              have g3 : 1 ≤ ie.size := Nat.le_of_ble_eq_true h3
              obtain ⟨z, hz1, hz2⟩ := zeroA_ok hz
              have hzl : z.cells.size = ie.size := by have := (hz2 E).len; simp at this; omega
              obtain ⟨hl, e3, rfl⟩ := newA_ok hn
              injection e3 with e4 e5
              subst e4
              subst e5
              have hcells : VL E (repA zs len) ((Array.range (len * ie.size)).map (z.cells[· % z.cells.size]!)).toList := by
                rw [← hzl, range_rep _ (by omega)]
                exact repA_VL (hz2 E) len
              obtain ⟨d, hd, hd2⟩ := fillA_ok hp hcells hf
              have hdl : cs.length = d.size := by simpa using hd2.len
              obtain ⟨r1, r2⟩ := h.newCells (c := d) (ty := e) hi hl (by rw [List.take_of_length_le (by rw [hdl]; simp)]; exact hd2) (by omega) _ (.inl rfl)
              refine ⟨.slice (some ⟨w.heap.size, 0, none⟩) len len, _, _, ?_, ?_, r1, r2, E.grow_more _ _ _⟩
              · by_cases hz0 : len * ie.size = 0
                · have hd' : Instr.fill (fun i => some (i * ie.size, ie.size)) #[] a.toList = some d := by
                    rw [hz0, Array.range_zero'] at hd
                    simpa using hd
                  have hle : len = 0 := by rcases Nat.mul_eq_zero.1 hz0 with h | h <;> omega
                  subst hle
                  simp [Instr.buildSlice, run_underlying hu, sizeOf, typeInfo, hie, newRow, Array.range_zero', hd']
                · simp [Instr.buildSlice, run_underlying hu, sizeOf, typeInfo, hie, hz1, show ¬ 2 ^ 24 < len * ie.size by omega, hz0]
                  rw [show Instr.fill (fun i => some (i * ie.size, ie.size)) ((Array.range (len * ie.size)).map (z.cells[· % z.cells.size]!)) a.toList = some d from hd]
                  simp [newRow]
              · have := VR.sl (E := E.more s.n w.heap.size d.size) s.n 0 len len (E.more_ok _ _ _)
                rw [AEnv.more_r] at this
                exact this
            · cases he
          · cases he
      · cases he
    · cases he
  · cases he
/-- Many bytes of nought. -/
noncomputable def bigA (zs : List AV) (n m : Nat) : Bool := match zs with
  | [.int .u8 (.ofNat 0)] => cond (Nat.beq n m) (Nat.ble 4096 m) false
  | _ => false
theorem flat_rep [Tab] (v : Value) : ∀ n, (List.replicate n [v]).flatten = List.replicate n v
  | 0 => rfl
  | n + 1 => by rw [List.replicate_succ, List.flatten_cons, flat_rep v n, List.replicate_succ]; rfl
theorem bigA_ok {zs : List AV} {n m : Nat} (h : bigA zs n m = true) : zs = [.int .u8 0] ∧ n = m := by
  unfold bigA at h
  split at h
  · cases hb : Nat.beq n m with
    | false => rw [hb] at h; cases h
    | true => exact ⟨rfl, Nat.eq_of_beq_eq_true hb⟩
  · cases h
/-- make of a slice -/
noncomputable def makeSliceA (P : Program) (t : Nat) (l c : AV) (s : AS) : Option (AV × AS) := match l, c with
  | .int _ (.ofNat n), .int _ (.ofNat m) => match P.underlying t with
    | some (.slice e) => match P.info? e with
      | some ie => match zeroA P e with
        | some zs => cond (Nat.beq zs.length ie.size) (cond (Nat.ble n m) (cond (Nat.ble m 1000000) (cond (Nat.ble (Nat.mul ie.bytes m) 281474976710656) (cond (Nat.ble 1 ie.size) (cond (bigA zs n m) (cond (Nat.ble (Nat.succ s.n) 1000000000) (some (.sl s.n 0 n m, s.new (.zero m e))) none) (match newA s (repA zs m) e with
            | some (.ptr b _, s') => some (.sl b 0 n m, s')
            | _ => none)) none) none) none) none) none
        | none => none
      | none => none
    | _ => none
  | _, _ => none
theorem makeSliceA_ok [Tab] {P : Program} {t : Nat} {l c v : AV} {x y : Value} {s s' : AS} {E : AEnv} {w : World} (h : HR E s.get w) (hi : ¬ E.ok s.n) (hl : VR E l x) (hc : VR E c y) (he : makeSliceA P t l c s = some (v, s')) : Ran P (Instr.makeSlice t x y) w E s v s' := by
  unfold makeSliceA at he
  split at he
  · rename_i kl n kc m
    split at he
    · rename_i e hu
      split at he
      · rename_i ie hie
        split at he
        · rename_i zs hz
          cases h1 : Nat.beq zs.length ie.size with
          | false => rw [h1] at he; cases he
          | true =>
          cases h2 : Nat.ble n m with
          | false => rw [h1, h2] at he; cases he
          | true =>
          cases h3 : Nat.ble m 1000000 with
          | false => rw [h1, h2, h3] at he; cases he
          | true =>
          cases h4 : Nat.ble (Nat.mul ie.bytes m) 281474976710656 with
          | false => rw [h1, h2, h3, h4] at he; cases he
          | true =>
          cases h5 : Nat.ble 1 ie.size with
          | false => rw [h1, h2, h3, h4, h5] at he; cases he
          | true =>
            rw [h1, h2, h3, h4, h5] at he
            simp only [cond_true] at he
            have g1 : zs.length = ie.size := Nat.eq_of_beq_eq_true h1
            have g2 : n ≤ m := Nat.le_of_ble_eq_true h2
            have g3 : m ≤ 1000000 := Nat.le_of_ble_eq_true h3
            have g4 : ie.bytes * m ≤ 281474976710656 := Nat.le_of_ble_eq_true h4
            have g5 : 1 ≤ ie.size := Nat.le_of_ble_eq_true h5
            obtain ⟨z, hz1, hz2⟩ := zeroA_ok hz
            have hzl : z.cells.size = ie.size := by have := (hz2 E).len; simp at this; omega
            cases hl
            cases hc
            have hrun : (Instr.makeSlice t (.int kl (Int.ofNat n)) (.int kc (Int.ofNat m))).run P w = .ok (.slice (some ⟨w.heap.size, 0, none⟩) n m) (w.alloc (.cells ((Array.range (m * ie.size)).map (z.cells[· % z.cells.size]!)) e)) := by
              have wl : IntKind.i64.wrap (n : Int) = (n : Int) := by rw [IntKind.wrap_i64]; omega
              have wc : IntKind.i64.wrap (m : Int) = (m : Int) := by rw [IntKind.wrap_i64]; omega
              have n1 : ¬ (m : Int) < 0 := by omega
              have n2 : ¬ (281474976710656 < (ie.bytes : Int) * (m : Int)) := by
                have : (((ie.bytes * m : Nat)) : Int) ≤ 281474976710656 := by omega
                rw [Int.natCast_mul] at this
                omega
              have n3 : ¬ (n : Int) < 0 := by omega
              have n4 : ¬ (m : Int) < n := by omega
              show (Instr.makeSlice t (.int kl (n : Int)) (.int kc (m : Int))).run P w = _
              by_cases hz0 : m * ie.size = 0
              · have hle : m = 0 := by rcases Nat.mul_eq_zero.1 hz0 with h | h <;> omega
                subst hle
                have hn0 : n = 0 := by omega
                subst hn0
                have w0 : IntKind.i64.wrap 0 = 0 := by decide
                simp [Instr.makeSlice, run_underlying hu, asInt, asIntOf, typeInfo, hie, sizeOf, w0, newRow, Array.range_zero']
              · simp [Instr.makeSlice, run_underlying hu, asInt, asIntOf, typeInfo, hie, sizeOf, hz1, wl, wc, n1, n2, n3, n4, hz0, newRow]
            have hcells : VL E (repA zs m) ((Array.range (m * ie.size)).map (z.cells[· % z.cells.size]!)).toList := by
              rw [← hzl, range_rep _ (by omega)]
              exact repA_VL (hz2 E) m
            have hdl : (repA zs m).length = ((Array.range (m * ie.size)).map (z.cells[· % z.cells.size]!)).size := by simpa using hcells.len
            cases hbig : bigA zs n m with
            | true =>
              rw [hbig] at he
              simp only [cond_true] at he
              cases h6 : Nat.ble (Nat.succ s.n) 1000000000 with
              | false => rw [h6] at he; cases he
              | true =>
                rw [h6] at he
                injection he with he
                injection he with e1 e2
                subst e1
                subst e2
                obtain ⟨rfl, rfl⟩ := bigA_ok hbig
                have hzv : z.cells.toList = [.int .u8 0] := by
                  have h7 := hz2 E
                  match hq : z.cells.toList, h7 with
                  | [q], h7 =>
                    have := h7.head
                    cases this
                    rfl
                  | [], h7 => have := h7.len; simp at this
                  | _ :: _ :: _, h7 => have := h7.len; simp at this
                have hrep : ((Array.range (n * ie.size)).map (z.cells[· % z.cells.size]!)).toList = List.replicate n (.int .u8 0) := by
                  rw [← hzl, range_rep _ (by omega), hzv]
                  exact flat_rep _ n
                obtain ⟨r1, r2⟩ := h.new hi (Nat.lt_of_succ_le (Nat.le_of_ble_eq_true h6)) (.zero n e) (.cells ((Array.range (n * ie.size)).map (z.cells[· % z.cells.size]!)) e) n _ (.inl rfl) ⟨_, rfl, hrep, (E.more_k _ _ _).symm⟩
                refine ⟨.slice (some ⟨w.heap.size, 0, none⟩) n n, _, _, hrun, ?_, r1, r2, E.grow_more _ _ _⟩
                have := VR.sl (E := E.more s.n w.heap.size n) s.n 0 n n (E.more_ok _ _ _)
                rw [AEnv.more_r] at this
                exact this
            | false =>
              rw [hbig] at he
              simp only [cond_false] at he
              split at he
              · rename_i b o s'' hn
                injection he with he
                injection he with e1 e2
                subst e1
                subst e2
                obtain ⟨hl', e3, rfl⟩ := newA_ok hn
                injection e3 with e4 e5
                subst e4
                subst e5
                obtain ⟨r1, r2⟩ := h.newCells (c := (Array.range (m * ie.size)).map (z.cells[· % z.cells.size]!)) (ty := e) hi hl' (by rw [List.take_of_length_le (by rw [hdl]; simp)]; exact hcells) (by omega) _ (.inl rfl)
                refine ⟨.slice (some ⟨w.heap.size, 0, none⟩) n m, _, _, hrun, ?_, r1, r2, E.grow_more _ _ _⟩
                have := VR.sl (E := E.more s.n w.heap.size ((Array.range (m * ie.size)).map (z.cells[· % z.cells.size]!)).size) s.n 0 n m (E.more_ok _ _ _)
                rw [AEnv.more_r] at this
                exact this
              · cases he
        · cases he
      · cases he
    · cases he
  · cases he
end Go.Proofs.YtambgppdjlhdaaaGreatDoor
