/-
  The abstract machine's memory against the model's: a new block, a block written over, a range read. No program.
-/
import Derived.Test.YtambgppdjlhdaaaGreatDoorEvA
namespace Go.Proofs.YtambgppdjlhdaaaGreatDoor
open Go.RowKit

noncomputable def AEnv.more (E : AEnv) (i r k : Nat) (z : Obj := .deferred none) : AEnv := ⟨fun b => E.ok b ∨ b = i, fun b => if b = i then r else E.r b, fun b => if b = i then k else E.k b, fun b => if b = i then z else E.z b⟩
theorem AEnv.le_more (E : AEnv) (i r k : Nat) (hi : ¬ E.ok i) (z : Obj := .deferred none) : E.le (E.more i r k z) :=
  ⟨fun b hb => .inl hb, fun b hb => if_neg (fun e : b = i => hi (e ▸ hb)), fun b hb => if_neg (fun e : b = i => hi (e ▸ hb))⟩
theorem AEnv.more_r (E : AEnv) (i r k : Nat) {z : Obj} : (E.more i r k z).r i = r := if_pos rfl
theorem AEnv.more_z (E : AEnv) (i r k : Nat) (z : Obj) : (E.more i r k z).z i = z := if_pos rfl
theorem AEnv.more_z_old (E : AEnv) (i r k : Nat) (hi : ¬ E.ok i) (z : Obj) {b : Nat} (hb : E.ok b) : (E.more i r k z).z b = E.z b := if_neg fun e : b = i => hi (e ▸ hb)
theorem AEnv.more_k (E : AEnv) (i r k : Nat) {z : Obj} : (E.more i r k z).k i = k := if_pos rfl
theorem AEnv.more_ok (E : AEnv) (i r k : Nat) {z : Obj} : (E.more i r k z).ok i := .inr rfl
theorem AEnv.grow_more (E : AEnv) (i r k : Nat) {z : Obj} : Grow E i (E.more i r k z) (i + 1) := ⟨Nat.le_succ _, fun b hb => hb.imp id fun e => by omega⟩

theorem HR.ok [Tab] {E : AEnv} {g : Nat → AB} {w : World} (h : HR E g w) {b : Nat} (hb : g b ≠ .none) : E.ok b := (h.at_ b hb).1
theorem HR.heap_lt [Tab] {E : AEnv} {g : Nat → AB} {w : World} (h : HR E g w) {b : Nat} (hb : g b ≠ .none) : E.r b < w.heap.size := by
  obtain ⟨_, _, o, ho, _⟩ := h.at_ b hb
  exact (Array.getElem?_eq_some_iff.1 ho).1
/-- A new block. -/
theorem HR.newAt [Tab] {E : AEnv} {g g' : Nat → AB} {w : World} (h : HR E g w) {i : Nat} (hi : ¬ E.ok i) (hl : i < 1000000000) (x : AB) (hg1 : g' i = x) (hg2 : ∀ b, b ≠ i → g' b = g b) (o : Obj) (k : Nat) (w' : World) (hw : w' = w.alloc o ∨ w' = w.drew.alloc o) (z : Obj) (hbr : BR (E.more i w.heap.size k z) i x o) :
    HR (E.more i w.heap.size k z) g' w' ∧ Stp E g w (E.more i w.heap.size k z) g' w' := by
  refine h.lift ?_
  have hle := E.le_more i w.heap.size k hi z
  have hsz : w'.heap.size = w.heap.size + 1 := by
    rcases hw with rfl | rfl
    · exact Array.size_push _
    · exact Array.size_push _
  have hold : ∀ d, d < w.heap.size → w'.heap[d]? = w.heap[d]? := by
    intro d hd
    rcases hw with rfl | rfl
    · exact Below.heap_alloc w o d hd
    · exact Below.heap_alloc w.drew o d hd
  have hnew : w'.heap[w.heap.size]? = some o := by
    rcases hw with rfl | rfl
    · show (w.heap.push o)[w.heap.size]? = _; simp
    · show (w.heap.push o)[w.heap.size]? = _; simp
  have hrold : ∀ b, g b ≠ .none → (E.more i w.heap.size k z).r b = E.r b := fun b hb => hle.r b (h.ok hb)
  refine ⟨⟨fun b hb => ?_, fun b c hb hc he => ?_⟩, ?_⟩
  · by_cases e : b = i
    · subst e
      rw [hg1]
      exact ⟨E.more_ok _ _ _, hl, o, by rw [AEnv.more_r]; exact hnew, hbr⟩
    · rw [hg2 b e] at hb ⊢
      obtain ⟨h1, h1', o', h2, h3⟩ := h.at_ b hb
      refine ⟨.inl h1, h1', o', ?_, h3.mono hle h1 (AEnv.more_z_old E i _ k hi z h1)⟩
      rw [hrold b hb, hold _ (h.heap_lt hb)]
      exact h2
  · by_cases e : b = i
    · by_cases e2 : c = i
      · rw [e, e2]
      · exfalso
        rw [hg2 c e2] at hc
        rw [e, AEnv.more_r, hrold c hc] at he
        have := h.heap_lt hc
        omega
    · rw [hg2 b e] at hb
      by_cases e2 : c = i
      · exfalso
        rw [e2, AEnv.more_r, hrold b hb] at he
        have := h.heap_lt hb
        omega
      · rw [hg2 c e2] at hc
        rw [hrold b hb, hrold c hc] at he
        exact h.inj b c hb hc he
  · refine ⟨?_, ?_, ?_, by omega, hle, fun b hb => AEnv.more_z_old E i _ k hi z hb, fun d hd _ => hold d hd, fun b hb => ?_⟩
    · rcases hw with rfl | rfl <;> rfl
    · rcases hw with rfl | rfl <;> rfl
    · rcases hw with rfl | rfl <;> rfl
    · by_cases e : b = i
      · left; rw [e, AEnv.more_r]; omega
      · rw [hg2 b e] at hb
        exact .inr ⟨b, hb, (hrold b hb).symm⟩
theorem HR.new [Tab] {E : AEnv} {s : AS} {w : World} (h : HR E s.get w) (hi : ¬ E.ok s.n) (hl : s.n < 1000000000) (x : AB) (o : Obj) (k : Nat) (w' : World) (hw : w' = w.alloc o ∨ w' = w.drew.alloc o) (hbr : BR (E.more s.n w.heap.size k) s.n x o) :
    HR (E.more s.n w.heap.size k) (s.new x).get w' ∧ Stp E s.get w (E.more s.n w.heap.size k) (s.new x).get w' :=
  h.newAt hi hl x (s.get_new x hl) (fun b hb => s.get_new_ne x b hb) o k w' hw (.deferred none) hbr
/-- A block written over. -/
theorem HR.over [Tab] {E : AEnv} {s : AS} {w w' : World} (h : HR E s.get w) {b : Nat} (hb : s.get b ≠ .none) (x : AB) (o : Obj) (hsz : w'.heap.size = w.heap.size) (hos : w'.os = w.os) (htp : w'.tape = w.tape) (hou : w'.output = w.output)
    (hoth : ∀ d, d ≠ E.r b → w'.heap[d]? = w.heap[d]?) (ho : w'.heap[E.r b]? = some o) (hx : BR E b x o) :
    HR E (s.put b x).get w' ∧ Stp E s.get w E (s.put b x).get w' := by
  refine h.lift ?_
  have hok := (h.at_ b hb).1
  have hlim := (h.at_ b hb).2.1
  have hne : ∀ c, c ≠ b → (s.put b x).get c = s.get c := fun c hc => s.get_put_ne b x c hc
  have hat := s.get_put b x hlim
  have hin : ∀ c, (s.put b x).get c ≠ .none → s.get c ≠ .none := fun c hc => by
    by_cases e : c = b
    · rw [e]; exact hb
    · rw [← hne c e]; exact hc
  refine ⟨⟨fun c hc => ?_, fun c d hc hd he => h.inj c d (hin c hc) (hin d hd) he⟩, ⟨hos, htp, hou, by omega, AEnv.le.refl E, fun _ _ => rfl, fun d hd hn => hoth d (fun e => hn b hb e.symm), fun c hc => .inr ⟨c, hin c hc, rfl⟩⟩⟩
  by_cases e : c = b
  · subst e
    rw [hat]
    exact ⟨hok, hlim, o, ho, hx⟩
  · rw [hne c e] at hc ⊢
    obtain ⟨h1, h1', o', h2, h3⟩ := h.at_ c hc
    exact ⟨h1, h1', o', (hoth _ (fun e2 => e (h.inj c b hc hb e2))).trans h2, h3⟩
theorem HR.drew [Tab] {E : AEnv} {s : Nat → AB} {w : World} (h : HR E s w) : HR E s w.drew := ⟨⟨h.at_, h.inj⟩, ⟨h.tab.os, h.tab.tape, h.tab.output, h.tab.size, h.tab.block⟩, h.apart⟩
theorem Stp.drew (E : AEnv) (s : Nat → AB) (w : World) : Stp E s w E s w.drew := ⟨rfl, rfl, rfl, Nat.le_refl _, AEnv.le.refl E, fun _ _ => rfl, fun _ _ _ => rfl, fun b hb => .inr ⟨b, hb, rfl⟩⟩

/-- A block of cells, as it lies. -/
theorem HR.cells [Tab] {E : AEnv} {s : Nat → AB} {w : World} (h : HR E s w) {b : Nat} {cs : List AV} {ty : Nat} (hg : s b = .cells cs ty) :
    E.ok b ∧ ∃ (c : Array Value) (fz : Nat × Nat), w.heap[E.r b]? = some (.cells c ty fz) ∧ c.size = E.k b ∧ cs.length ≤ c.size ∧ VL E cs (c.toList.take cs.length) ∧ (∀ i, i < c.size → ¬ (fz.1 ≤ i ∧ i < fz.2)) := by
  have hne : s b ≠ .none := by rw [hg]; intro e; cases e
  obtain ⟨h1, _, o, h2, h3⟩ := h.at_ b hne
  rw [hg] at h3
  obtain ⟨c, fz, rfl, h4, h5, h6, h7⟩ := h3
  exact ⟨h1, c, fz, h2, h4, h5, h6, h7⟩
/-- A range of cells read. -/
theorem HR.range [Tab] {E : AEnv} {s : Nat → AB} {w : World} (h : HR E s w) {b : Nat} {cs : List AV} {ty : Nat} (hg : s b = .cells cs ty) {o n : Nat} (ho : o + n ≤ cs.length) :
    ∃ vs : List Value, vs.length = n ∧ VL E ((cs.drop o).take n) vs ∧ w.rangeAt (E.r b) o vs := by
  obtain ⟨_, c, fz, h2, h4, h5, h6, h7⟩ := h.cells hg
  refine ⟨((c.toList.take cs.length).drop o).take n, by simp; omega, (h6.drop o).take n, fun j v hv => ?_⟩
  rw [List.getElem?_take] at hv
  split at hv
  · rw [List.getElem?_drop, List.getElem?_take] at hv
    split at hv
    · simpa [World.cell?, h2] using hv
    · cases hv
  · cases hv
theorem HR.there [Tab] {E : AEnv} {s : Nat → AB} {w : World} (h : HR E s w) {b : Nat} {cs : List AV} {ty : Nat} (hg : s b = .cells cs ty) {o n : Nat} (ho : o + n ≤ E.k b) : w.there (E.r b) o n := by
  obtain ⟨_, c, fz, h2, h4, h5, h6, h7⟩ := h.cells hg
  intro j hj
  have h8 := h7 (o + j) (by omega)
  refine ⟨?_, ?_⟩
  · simp [World.cell?, h2]
    omega
  · simp only [World.frozen?, h2]
    rw [← Bool.not_eq_true]
    simpa using h8
/-- Cells put over cells, from an offset on. -/
noncomputable def putC (cs : Array Value) : Nat → List Value → Array Value
  | _, [] => cs
  | o, v :: r => putC (cs.setIfInBounds o v) (o + 1) r
theorem putC_size [Tab] : ∀ (vs : List Value) (cs : Array Value) (o : Nat), (putC cs o vs).size = cs.size
  | [], _, _ => rfl
  | v :: r, cs, o => by rw [putC, putC_size r]; simp
theorem putC_list [Tab] : ∀ (vs : List Value) (cs : Array Value) (o : Nat), o + vs.length ≤ cs.size → (putC cs o vs).toList = cs.toList.take o ++ vs ++ cs.toList.drop (o + vs.length)
  | [], cs, o, _ => by simp [putC]
  | v :: r, cs, o, h => by
    simp only [List.length_cons] at h
    rw [putC, putC_list r _ (o + 1) (by simp; omega)]
    have hlen : o < cs.toList.length := by simp; omega
    have h1 : (cs.setIfInBounds o v).toList = cs.toList.take o ++ v :: cs.toList.drop (o + 1) := by
      rw [Array.toList_setIfInBounds, List.set_eq_take_append_cons_drop, if_pos hlen]
    have hto : (cs.toList.take o).length = o := by rw [List.length_take]; omega
    have h2 : (cs.setIfInBounds o v).toList.take (o + 1) = cs.toList.take o ++ [v] := by
      rw [h1, List.take_append, hto, List.take_of_length_le (by omega), show o + 1 - o = 1 by omega]
      rfl
    have h3 : (cs.setIfInBounds o v).toList.drop (o + 1 + r.length) = cs.toList.drop (o + (v :: r).length) := by
      rw [h1, List.drop_append, hto, List.drop_eq_nil_of_le (by omega), List.nil_append, show o + 1 + r.length - o = r.length + 1 by omega, List.drop_succ_cons, List.drop_drop]
      congr 1
      simp only [List.length_cons]
      omega
    rw [h2, h3]
    simp
theorem heap_setCells [Tab] : ∀ (vs : List Value) (b o : Nat) (w : World) (c : Array Value) (ty : TypeId) (fz : Nat × Nat), w.heap[b]? = some (.cells c ty fz) → (w.setCells b o vs).heap[b]? = some (.cells (putC c o vs) ty fz)
  | [], _, _, _, _, _, _, h => h
  | v :: r, b, o, w, c, ty, fz, h => by
    rw [World.setCells, putC]
    exact heap_setCells r b (o + 1) _ _ ty fz (by simp [World.setCell, Array.getElem?_modify, h])
theorem setCells_same [Tab] : ∀ (vs : List Value) (b o : Nat) (w : World), (w.setCells b o vs).os = w.os ∧ (w.setCells b o vs).tape = w.tape ∧ (w.setCells b o vs).output = w.output ∧ (w.setCells b o vs).heap.size = w.heap.size ∧ ∀ d, d ≠ b → (w.setCells b o vs).heap[d]? = w.heap[d]?
  | [], _, _, _ => ⟨rfl, rfl, rfl, rfl, fun _ _ => rfl⟩
  | v :: r, b, o, w => by
    obtain ⟨h1, h2, h3, h4, h5⟩ := setCells_same r b (o + 1) (w.setCell ⟨b, o, none⟩ v)
    exact ⟨h1, h2, h3, h4.trans (by simp [World.setCell]), fun d hd => (h5 d hd).trans (Below.heap_setCell _ _ _ _ hd)⟩
/-- Cells over cells. -/
noncomputable def putL (cs : List AV) (o : Nat) (vs : List AV) : List AV := List.append (cs.take o) (List.append vs (cs.drop (Nat.add o vs.length)))
theorem putL_len (cs : List AV) (o : Nat) (vs : List AV) (h : o + vs.length ≤ cs.length) : (putL cs o vs).length = cs.length := by
  show (cs.take o ++ (vs ++ cs.drop (o + vs.length))).length = _
  simp only [List.length_append, List.length_take, List.length_drop]
  omega
/-- Cells stored. -/
theorem HR.store [Tab] {E : AEnv} {s : AS} {w : World} (h : HR E s.get w) {b : Nat} {cs : List AV} {ty : Nat} (hg : s.get b = .cells cs ty) {o : Nat} {vs : List AV} {xs : List Value} (hv : VL E vs xs) (ho : o + vs.length ≤ cs.length) :
    HR E (s.put b (.cells (putL cs o vs) ty)).get (w.setCells (E.r b) o xs) ∧ Stp E s.get w E (s.put b (.cells (putL cs o vs) ty)).get (w.setCells (E.r b) o xs) := by
  obtain ⟨hb, c, fz, h2, h4, h5, h6, h7⟩ := h.cells hg
  obtain ⟨q1, q2, q3, q4, q5⟩ := setCells_same xs (E.r b) o w
  refine h.over (by rw [hg]; intro e; cases e) _ _ q4 q1 q2 q3 q5 (heap_setCells xs (E.r b) o w c ty fz h2) ⟨_, fz, rfl, by rw [putC_size]; exact h4, by rw [putL_len _ _ _ ho, putC_size]; exact h5, ?_, by rw [putC_size]; exact h7⟩
  have hl := hv.len
  rw [putL_len _ _ _ ho, putC_list _ _ _ (by omega)]
  have hcl : c.toList.length = c.size := by simp
  have e1 : (c.toList.take o ++ xs ++ c.toList.drop (o + xs.length)).take cs.length = (c.toList.take cs.length).take o ++ (xs ++ (c.toList.take cs.length).drop (o + vs.length)) := by
    rw [List.append_assoc, List.take_append, List.length_take, hcl, Nat.min_eq_left (by omega), List.take_append, ← hl]
    rw [List.take_take, List.take_take, Nat.min_eq_right (by omega), Nat.min_eq_left (by omega)]
    rw [List.take_of_length_le (l := xs) (by omega), List.drop_take, show cs.length - o - vs.length = cs.length - (o + vs.length) by omega]
  rw [e1]
  exact (h6.take o).append (hv.append (h6.drop (o + vs.length)))

/-- Constants. -/
noncomputable def absS : Value → AV
  | .bool b => .bool b
  | .int k n => .int k n
  | .string s => .str s.data.toList
  | .pointer none => .nilp
  | .slice none 0 0 => .nils
  | .map none => .nilm
  | .nilFunc => .nilfn
  | .nilIface => .nili
  | _ => .top
noncomputable def absV : Value → AV
  | .agg cs => .agg (cs.toList.map absS)
  | v => absS v
theorem absS_ok (E : AEnv) (v : Value) : VR E (absS v) v := by
  unfold absS
  split <;> try (constructor; done)
theorem absL_ok [Tab] (E : AEnv) (c : List Value) : VL E (c.map absS) c :=
  ⟨by simp, fun i a v h1 h2 => by rw [List.getElem?_map, h2] at h1; injection h1 with h1; rw [← h1]; exact absS_ok E v⟩
theorem VL.agg {E : AEnv} {l : List AV} {a : Array Value} (h : VL E l a.toList) : VR E (.agg l) (.agg a) := .agg l a (by simpa using h.len) (fun i c v h1 h2 => h.at_ i c v h1 (by simpa using h2))
theorem VL.tup {E : AEnv} {l : List AV} {a : Array Value} (h : VL E l a.toList) : VR E (.tup l) (.tuple a) := .tup l a (by simpa using h.len) (fun i c v h1 h2 => h.at_ i c v h1 (by simpa using h2))
theorem VL.fn {E : AEnv} {f : Nat} {l : List AV} {a : Array Value} (h : VL E l a.toList) : VR E (.fn f l) (.func (.func f) #[] a) := .fn f l a (by simpa using h.len) (fun i c v h1 h2 => h.at_ i c v h1 (by simpa using h2))
theorem VL.fnm {E : AEnv} {f : Nat} {l : List AV} {a : Array Value} (h : VL E l a.toList) : VR E (.fnm f l) (.func (.func f) a #[]) := .fnm f l a (by simpa using h.len) (fun i c v h1 h2 => h.at_ i c v h1 (by simpa using h2))
theorem absV_ok [Tab] (E : AEnv) (v : Value) : VR E (absV v) v := by
  unfold absV
  split
  · exact (absL_ok E _).agg
  · exact absS_ok E _
theorem VR.agg_inv {E : AEnv} {l : List AV} {v : Value} (h : VR E (.agg l) v) : ∃ a : Array Value, v = .agg a ∧ VL E l a.toList := by
  cases h with
  | agg cs vs hl h => exact ⟨vs, rfl, by simpa using hl, fun i c v h1 h2 => h i c v h1 (by simpa using h2)⟩
theorem VR.tup_inv {E : AEnv} {l : List AV} {v : Value} (h : VR E (.tup l) v) : ∃ a : Array Value, v = .tuple a ∧ VL E l a.toList := by
  cases h with
  | tup cs vs hl h => exact ⟨vs, rfl, by simpa using hl, fun i c v h1 h2 => h i c v h1 (by simpa using h2)⟩
theorem VR.fn_inv {E : AEnv} {f : Nat} {l : List AV} {v : Value} (h : VR E (.fn f l) v) : ∃ a : Array Value, v = .func (.func f) #[] a ∧ VL E l a.toList := by
  cases h with
  | fn f cs vs hl h => exact ⟨vs, rfl, by simpa using hl, fun i c v h1 h2 => h i c v h1 (by simpa using h2)⟩
theorem VR.fnm_inv {E : AEnv} {f : Nat} {l : List AV} {v : Value} (h : VR E (.fnm f l) v) : ∃ a : Array Value, v = .func (.func f) a #[] ∧ VL E l a.toList := by
  cases h with
  | fnm f cs vs hl h => exact ⟨vs, rfl, by simpa using hl, fun i c v h1 h2 => h i c v h1 (by simpa using h2)⟩
/-- The cells of a value that may be stored. -/
noncomputable def oneA : AV → Bool
  | .top => false
  | .undef => false
  | .agg _ => false
  | .tup _ => false
  | _ => true
noncomputable def cellsA : AV → Option (List AV)
  | .top => none
  | .undef => none
  | .tup _ => none
  | .agg cs => cond (cs.all oneA) (some cs) none
  | v => some [v]
theorem oneA_ok {E : AEnv} {a : AV} {v : Value} (h : VR E a v) (ha : oneA a = true) : v.oneCell' = true ∧ v.cells = #[v] := by
  cases h <;> first | (cases ha; done) | exact ⟨rfl, rfl⟩
theorem cellsA_ok [Tab] {E : AEnv} {a : AV} {v : Value} {cs : List AV} (h : VR E a v) (hc : cellsA a = some cs) : VL E cs v.cells.toList ∧ ∀ x ∈ v.cells.toList, x.oneCell' = true := by
  cases ha : oneA a with
  | true =>
    obtain ⟨h1, h2⟩ := oneA_ok h ha
    have : cs = [a] := by cases a <;> first | (cases ha; done) | (injection hc with hc; exact hc.symm)
    subst this
    rw [h2]
    exact ⟨VL.cons h VL.nil, fun x hx => by simp at hx; rw [hx]; exact h1⟩
  | false =>
    cases a <;> try (first | (cases ha; done) | (cases hc; done))
    rename_i l
    replace hc : cond (l.all oneA) (some l) none = some cs := hc
    cases hall : l.all oneA with
    | false => rw [hall] at hc; cases hc
    | true =>
      rw [hall] at hc
      injection hc with hc
      subst hc
      obtain ⟨a, rfl, hl⟩ := h.agg_inv
      refine ⟨hl, fun x hx => ?_⟩
      obtain ⟨i, hi⟩ := List.mem_iff_getElem?.1 hx
      have hil : i < l.length := by rw [hl.len]; exact (List.getElem?_eq_some_iff.1 hi).1
      exact (oneA_ok (hl.at_ i _ x (List.getElem?_eq_getElem hil) hi) (List.all_eq_true.1 hall _ (List.getElem_mem hil))).1
end Go.Proofs.YtambgppdjlhdaaaGreatDoor
