/-
  The abstract machine's memory against the model's: a new block, a block written over, a range read. No program.
-/
import Derived.Test.YthmojpcaagnfkaaGreatDoorEvA
import Derived.Great.BuildSlice
import Derived.Room.Entries
import Derived.Laws.Strings2
import Derived.Laws.StructEq
import Derived.IntWalk
import Derived.Laws.IdiomStrings
import Derived.Laws.BytesString
import Derived.Laws.Runes
namespace Go.Proofs.YthmojpcaagnfkaaGreatDoor
open Go.RowKit

noncomputable def AEnv.more (E : AEnv) (i r k : Nat) (z : Obj := .deferred none) : AEnv := ⟨fun b => E.ok b ∨ b = i, fun b => if b = i then r else E.r b, fun b => if b = i then k else E.k b, fun b => if b = i then z else E.z b⟩
theorem AEnv.le_more (E : AEnv) (i r k : Nat) (hi : ¬ E.ok i) (z : Obj := .deferred none) : E.le (E.more i r k z) :=
  ⟨fun b hb => .inl hb, fun b hb => if_neg (fun e : b = i => hi (e ▸ hb)), fun b hb => if_neg (fun e : b = i => hi (e ▸ hb))⟩
theorem AEnv.more_r (E : AEnv) (i r k : Nat) {z : Obj} : (E.more i r k z).r i = r := if_pos rfl
theorem AEnv.more_z (E : AEnv) (i r k : Nat) (z : Obj) : (E.more i r k z).z i = z := if_pos rfl
theorem AEnv.more_z_old (E : AEnv) (i r k : Nat) (hi : ¬ E.ok i) (z : Obj) {b : Nat} (hb : E.ok b) : (E.more i r k z).z b = E.z b := if_neg fun e : b = i => hi (e ▸ hb)
theorem AEnv.more_k (E : AEnv) (i r k : Nat) {z : Obj} : (E.more i r k z).k i = k := if_pos rfl
theorem AEnv.more_ok (E : AEnv) (i r k : Nat) {z : Obj} : (E.more i r k z).ok i := .inr rfl
theorem AEnv.grow_more (E : AEnv) (i r k : Nat) {z : Obj} : Grow E i (E.more i r k z) (i + 1) := ⟨Nat.le_succ _, fun b hb => hb.imp id fun e => by omega⟩

theorem HR.ok [Tab] {E : AEnv} {g : Nat → AB} {w : World} (h : HR E g w) {b : Nat} (hb : g b ≠ .none) : E.ok b := (h.at_ b hb).1
theorem HR.heap_lt [Tab] {E : AEnv} {g : Nat → AB} {w : World} (h : HR E g w) {b : Nat} (hb : g b ≠ .none) : E.r b < w.heap.size := by
  obtain ⟨_, _, o, ho, _⟩ := h.at_ b hb
  exact (Array.getElem?_eq_some_iff.1 ho).1
/-- A new block. -/
theorem HR.newAt [Tab] {E : AEnv} {g g' : Nat → AB} {w : World} (h : HR E g w) {i : Nat} (hi : ¬ E.ok i) (hl : i < 1000000000) (x : AB) (hg1 : g' i = x) (hg2 : ∀ b, b ≠ i → g' b = g b) (o : Obj) (k : Nat) (w' : World) (hw : w' = w.alloc o ∨ w' = w.drew.alloc o) (z : Obj) (hbr : BR (E.more i w.heap.size k z) i x o) :
    HR (E.more i w.heap.size k z) g' w' ∧ Stp E g w (E.more i w.heap.size k z) g' w' := by
  refine h.lift ?_
  have hle := E.le_more i w.heap.size k hi z
  have hsz : w'.heap.size = w.heap.size + 1 := by
    rcases hw with rfl | rfl
    · exact Array.size_push _
    · exact Array.size_push _
  have hold : ∀ d, d < w.heap.size → w'.heap[d]? = w.heap[d]? := by
    intro d hd
    rcases hw with rfl | rfl
    · exact Below.heap_alloc w o d hd
    · exact Below.heap_alloc w.drew o d hd
  have hnew : w'.heap[w.heap.size]? = some o := by
    rcases hw with rfl | rfl
    · show (w.heap.push o)[w.heap.size]? = _; simp
    · show (w.heap.push o)[w.heap.size]? = _; simp
  have hrold : ∀ b, g b ≠ .none → (E.more i w.heap.size k z).r b = E.r b := fun b hb => hle.r b (h.ok hb)
  refine ⟨⟨fun b hb => ?_, fun b c hb hc he => ?_⟩, ?_⟩
  · by_cases e : b = i
    · subst e
      rw [hg1]
      exact ⟨E.more_ok _ _ _, hl, o, by rw [AEnv.more_r]; exact hnew, hbr⟩
    · rw [hg2 b e] at hb ⊢
      obtain ⟨h1, h1', o', h2, h3⟩ := h.at_ b hb
      refine ⟨.inl h1, h1', o', ?_, h3.mono hle h1 (AEnv.more_z_old E i _ k hi z h1)⟩
      rw [hrold b hb, hold _ (h.heap_lt hb)]
      exact h2
  · by_cases e : b = i
    · by_cases e2 : c = i
      · rw [e, e2]
      · exfalso
        rw [hg2 c e2] at hc
        rw [e, AEnv.more_r, hrold c hc] at he
        have := h.heap_lt hc
        omega
    · rw [hg2 b e] at hb
      by_cases e2 : c = i
      · exfalso
        rw [e2, AEnv.more_r, hrold b hb] at he
        have := h.heap_lt hb
        omega
      · rw [hg2 c e2] at hc
        rw [hrold b hb, hrold c hc] at he
        exact h.inj b c hb hc he
  · refine ⟨?_, ?_, ?_, by omega, hle, fun b hb => AEnv.more_z_old E i _ k hi z hb, fun d hd _ => hold d hd, fun b hb => ?_⟩
    · rcases hw with rfl | rfl <;> rfl
    · rcases hw with rfl | rfl <;> rfl
    · rcases hw with rfl | rfl <;> rfl
    · by_cases e : b = i
      · left; rw [e, AEnv.more_r]; omega
      · rw [hg2 b e] at hb
        exact .inr ⟨b, hb, (hrold b hb).symm⟩
theorem HR.new [Tab] {E : AEnv} {s : AS} {w : World} (h : HR E s.get w) (hi : ¬ E.ok s.n) (hl : s.n < 1000000000) (x : AB) (o : Obj) (k : Nat) (w' : World) (hw : w' = w.alloc o ∨ w' = w.drew.alloc o) (hbr : BR (E.more s.n w.heap.size k) s.n x o) :
    HR (E.more s.n w.heap.size k) (s.new x).get w' ∧ Stp E s.get w (E.more s.n w.heap.size k) (s.new x).get w' :=
  h.newAt hi hl x (s.get_new x hl) (fun b hb => s.get_new_ne x b hb) o k w' hw (.deferred none) hbr
/-- A block written over. -/
theorem HR.over [Tab] {E : AEnv} {s : AS} {w w' : World} (h : HR E s.get w) {b : Nat} (hb : s.get b ≠ .none) (x : AB) (o : Obj) (hsz : w'.heap.size = w.heap.size) (hos : w'.os = w.os) (htp : w'.tape = w.tape) (hou : w'.output = w.output)
    (hoth : ∀ d, d ≠ E.r b → w'.heap[d]? = w.heap[d]?) (ho : w'.heap[E.r b]? = some o) (hx : BR E b x o) :
    HR E (s.put b x).get w' ∧ Stp E s.get w E (s.put b x).get w' := by
  refine h.lift ?_
  have hok := (h.at_ b hb).1
  have hlim := (h.at_ b hb).2.1
  have hne : ∀ c, c ≠ b → (s.put b x).get c = s.get c := fun c hc => s.get_put_ne b x c hc
  have hat := s.get_put b x hlim
  have hin : ∀ c, (s.put b x).get c ≠ .none → s.get c ≠ .none := fun c hc => by
    by_cases e : c = b
    · rw [e]; exact hb
    · rw [← hne c e]; exact hc
  refine ⟨⟨fun c hc => ?_, fun c d hc hd he => h.inj c d (hin c hc) (hin d hd) he⟩, ⟨hos, htp, hou, by omega, AEnv.le.refl E, fun _ _ => rfl, fun d hd hn => hoth d (fun e => hn b hb e.symm), fun c hc => .inr ⟨c, hin c hc, rfl⟩⟩⟩
  by_cases e : c = b
  · subst e
    rw [hat]
    exact ⟨hok, hlim, o, ho, hx⟩
  · rw [hne c e] at hc ⊢
    obtain ⟨h1, h1', o', h2, h3⟩ := h.at_ c hc
    exact ⟨h1, h1', o', (hoth _ (fun e2 => e (h.inj c b hc hb e2))).trans h2, h3⟩
theorem HR.drew [Tab] {E : AEnv} {s : Nat → AB} {w : World} (h : HR E s w) : HR E s w.drew := ⟨⟨h.at_, h.inj⟩, ⟨h.tab.os, h.tab.tape, h.tab.output, h.tab.size, h.tab.block⟩, h.apart⟩
theorem Stp.drew (E : AEnv) (s : Nat → AB) (w : World) : Stp E s w E s w.drew := ⟨rfl, rfl, rfl, Nat.le_refl _, AEnv.le.refl E, fun _ _ => rfl, fun _ _ _ => rfl, fun b hb => .inr ⟨b, hb, rfl⟩⟩

/-- A block of cells, as it lies. -/
theorem HR.cells [Tab] {E : AEnv} {s : Nat → AB} {w : World} (h : HR E s w) {b : Nat} {cs : List AV} {ty : Nat} (hg : s b = .cells cs ty) :
    E.ok b ∧ ∃ (c : Array Value) (fz : Nat × Nat), w.heap[E.r b]? = some (.cells c ty fz) ∧ c.size = E.k b ∧ cs.length ≤ c.size ∧ VL E cs (c.toList.take cs.length) ∧ (∀ i, i < c.size → ¬ (fz.1 ≤ i ∧ i < fz.2)) := by
  have hne : s b ≠ .none := by rw [hg]; intro e; cases e
  obtain ⟨h1, _, o, h2, h3⟩ := h.at_ b hne
  rw [hg] at h3
  obtain ⟨c, fz, rfl, h4, h5, h6, h7⟩ := h3
  exact ⟨h1, c, fz, h2, h4, h5, h6, h7⟩
/-- A range of cells read. -/
theorem HR.range [Tab] {E : AEnv} {s : Nat → AB} {w : World} (h : HR E s w) {b : Nat} {cs : List AV} {ty : Nat} (hg : s b = .cells cs ty) {o n : Nat} (ho : o + n ≤ cs.length) :
    ∃ vs : List Value, vs.length = n ∧ VL E ((cs.drop o).take n) vs ∧ w.rangeAt (E.r b) o vs := by
  obtain ⟨_, c, fz, h2, h4, h5, h6, h7⟩ := h.cells hg
  refine ⟨((c.toList.take cs.length).drop o).take n, by simp; omega, (h6.drop o).take n, fun j v hv => ?_⟩
  rw [List.getElem?_take] at hv
  split at hv
  · rw [List.getElem?_drop, List.getElem?_take] at hv
    split at hv
    · simpa [World.cell?, h2] using hv
    · cases hv
  · cases hv
theorem HR.there [Tab] {E : AEnv} {s : Nat → AB} {w : World} (h : HR E s w) {b : Nat} {cs : List AV} {ty : Nat} (hg : s b = .cells cs ty) {o n : Nat} (ho : o + n ≤ E.k b) : w.there (E.r b) o n := by
  obtain ⟨_, c, fz, h2, h4, h5, h6, h7⟩ := h.cells hg
  intro j hj
  have h8 := h7 (o + j) (by omega)
  refine ⟨?_, ?_⟩
  · simp [World.cell?, h2]
    omega
  · simp only [World.frozen?, h2]
    rw [← Bool.not_eq_true]
    simpa using h8
/-- Cells put over cells, from an offset on. -/
noncomputable def putC (cs : Array Value) : Nat → List Value → Array Value
  | _, [] => cs
  | o, v :: r => putC (cs.setIfInBounds o v) (o + 1) r
theorem putC_size [Tab] : ∀ (vs : List Value) (cs : Array Value) (o : Nat), (putC cs o vs).size = cs.size
  | [], _, _ => rfl
  | v :: r, cs, o => by rw [putC, putC_size r]; simp
theorem putC_list [Tab] : ∀ (vs : List Value) (cs : Array Value) (o : Nat), o + vs.length ≤ cs.size → (putC cs o vs).toList = cs.toList.take o ++ vs ++ cs.toList.drop (o + vs.length)
  | [], cs, o, _ => by simp [putC]
  | v :: r, cs, o, h => by
    simp only [List.length_cons] at h
    rw [putC, putC_list r _ (o + 1) (by simp; omega)]
    have hlen : o < cs.toList.length := by simp; omega
    have h1 : (cs.setIfInBounds o v).toList = cs.toList.take o ++ v :: cs.toList.drop (o + 1) := by
      rw [Array.toList_setIfInBounds, List.set_eq_take_append_cons_drop, if_pos hlen]
    have hto : (cs.toList.take o).length = o := by rw [List.length_take]; omega
    have h2 : (cs.setIfInBounds o v).toList.take (o + 1) = cs.toList.take o ++ [v] := by
      rw [h1, List.take_append, hto, List.take_of_length_le (by omega), show o + 1 - o = 1 by omega]
      rfl
    have h3 : (cs.setIfInBounds o v).toList.drop (o + 1 + r.length) = cs.toList.drop (o + (v :: r).length) := by
      rw [h1, List.drop_append, hto, List.drop_eq_nil_of_le (by omega), List.nil_append, show o + 1 + r.length - o = r.length + 1 by omega, List.drop_succ_cons, List.drop_drop]
      congr 1
      simp only [List.length_cons]
      omega
    rw [h2, h3]
    simp
theorem heap_setCells [Tab] : ∀ (vs : List Value) (b o : Nat) (w : World) (c : Array Value) (ty : TypeId) (fz : Nat × Nat), w.heap[b]? = some (.cells c ty fz) → (w.setCells b o vs).heap[b]? = some (.cells (putC c o vs) ty fz)
  | [], _, _, _, _, _, _, h => h
  | v :: r, b, o, w, c, ty, fz, h => by
    rw [World.setCells, putC]
    exact heap_setCells r b (o + 1) _ _ ty fz (by simp [World.setCell, Array.getElem?_modify, h])
theorem setCells_same [Tab] : ∀ (vs : List Value) (b o : Nat) (w : World), (w.setCells b o vs).os = w.os ∧ (w.setCells b o vs).tape = w.tape ∧ (w.setCells b o vs).output = w.output ∧ (w.setCells b o vs).heap.size = w.heap.size ∧ ∀ d, d ≠ b → (w.setCells b o vs).heap[d]? = w.heap[d]?
  | [], _, _, _ => ⟨rfl, rfl, rfl, rfl, fun _ _ => rfl⟩
  | v :: r, b, o, w => by
    obtain ⟨h1, h2, h3, h4, h5⟩ := setCells_same r b (o + 1) (w.setCell ⟨b, o, none⟩ v)
    exact ⟨h1, h2, h3, h4.trans (by simp [World.setCell]), fun d hd => (h5 d hd).trans (Below.heap_setCell _ _ _ _ hd)⟩
/-- Cells over cells. -/
noncomputable def putL (cs : List AV) (o : Nat) (vs : List AV) : List AV := List.append (cs.take o) (List.append vs (cs.drop (Nat.add o vs.length)))
theorem putL_len (cs : List AV) (o : Nat) (vs : List AV) (h : o + vs.length ≤ cs.length) : (putL cs o vs).length = cs.length := by
  show (cs.take o ++ (vs ++ cs.drop (o + vs.length))).length = _
  simp only [List.length_append, List.length_take, List.length_drop]
  omega
/-- Cells stored. -/
theorem HR.store [Tab] {E : AEnv} {s : AS} {w : World} (h : HR E s.get w) {b : Nat} {cs : List AV} {ty : Nat} (hg : s.get b = .cells cs ty) {o : Nat} {vs : List AV} {xs : List Value} (hv : VL E vs xs) (ho : o + vs.length ≤ cs.length) :
    HR E (s.put b (.cells (putL cs o vs) ty)).get (w.setCells (E.r b) o xs) ∧ Stp E s.get w E (s.put b (.cells (putL cs o vs) ty)).get (w.setCells (E.r b) o xs) := by
  obtain ⟨hb, c, fz, h2, h4, h5, h6, h7⟩ := h.cells hg
  obtain ⟨q1, q2, q3, q4, q5⟩ := setCells_same xs (E.r b) o w
  refine h.over (by rw [hg]; intro e; cases e) _ _ q4 q1 q2 q3 q5 (heap_setCells xs (E.r b) o w c ty fz h2) ⟨_, fz, rfl, by rw [putC_size]; exact h4, by rw [putL_len _ _ _ ho, putC_size]; exact h5, ?_, by rw [putC_size]; exact h7⟩
  have hl := hv.len
  rw [putL_len _ _ _ ho, putC_list _ _ _ (by omega)]
  have hcl : c.toList.length = c.size := by simp
  have e1 : (c.toList.take o ++ xs ++ c.toList.drop (o + xs.length)).take cs.length = (c.toList.take cs.length).take o ++ (xs ++ (c.toList.take cs.length).drop (o + vs.length)) := by
    rw [List.append_assoc, List.take_append, List.length_take, hcl, Nat.min_eq_left (by omega), List.take_append, ← hl]
    rw [List.take_take, List.take_take, Nat.min_eq_right (by omega), Nat.min_eq_left (by omega)]
    rw [List.take_of_length_le (l := xs) (by omega), List.drop_take, show cs.length - o - vs.length = cs.length - (o + vs.length) by omega]
  rw [e1]
  exact (h6.take o).append (hv.append (h6.drop (o + vs.length)))

/-- Constants. -/
noncomputable def absS : Value → AV
  | .bool b => .bool b
  | .int k n => .int k n
  | .string s => .str s.data.toList
  | .pointer none => .nilp
  | .slice none 0 0 => .nils
  | .map none => .nilm
  | .nilFunc => .nilfn
  | .nilIface => .nili
  | _ => .top
noncomputable def absV : Value → AV
  | .agg cs => .agg (cs.toList.map absS)
  | v => absS v
theorem absS_ok (E : AEnv) (v : Value) : VR E (absS v) v := by
  unfold absS
  split <;> try (constructor; done)
theorem absL_ok [Tab] (E : AEnv) (c : List Value) : VL E (c.map absS) c :=
  ⟨by simp, fun i a v h1 h2 => by rw [List.getElem?_map, h2] at h1; injection h1 with h1; rw [← h1]; exact absS_ok E v⟩
theorem VL.agg {E : AEnv} {l : List AV} {a : Array Value} (h : VL E l a.toList) : VR E (.agg l) (.agg a) := .agg l a (by simpa using h.len) (fun i c v h1 h2 => h.at_ i c v h1 (by simpa using h2))
theorem VL.tup {E : AEnv} {l : List AV} {a : Array Value} (h : VL E l a.toList) : VR E (.tup l) (.tuple a) := .tup l a (by simpa using h.len) (fun i c v h1 h2 => h.at_ i c v h1 (by simpa using h2))
theorem VL.fn {E : AEnv} {f : Nat} {l : List AV} {a : Array Value} (h : VL E l a.toList) : VR E (.fn f l) (.func (.func f) #[] a) := .fn f l a (by simpa using h.len) (fun i c v h1 h2 => h.at_ i c v h1 (by simpa using h2))
theorem VL.fnm {E : AEnv} {f : Nat} {l : List AV} {a : Array Value} (h : VL E l a.toList) : VR E (.fnm f l) (.func (.func f) a #[]) := .fnm f l a (by simpa using h.len) (fun i c v h1 h2 => h.at_ i c v h1 (by simpa using h2))
theorem absV_ok [Tab] (E : AEnv) (v : Value) : VR E (absV v) v := by
  unfold absV
  split
  · exact (absL_ok E _).agg
  · exact absS_ok E _
theorem VR.agg_inv {E : AEnv} {l : List AV} {v : Value} (h : VR E (.agg l) v) : ∃ a : Array Value, v = .agg a ∧ VL E l a.toList := by
  cases h with
  | agg cs vs hl h => exact ⟨vs, rfl, by simpa using hl, fun i c v h1 h2 => h i c v h1 (by simpa using h2)⟩
theorem VR.tup_inv {E : AEnv} {l : List AV} {v : Value} (h : VR E (.tup l) v) : ∃ a : Array Value, v = .tuple a ∧ VL E l a.toList := by
  cases h with
  | tup cs vs hl h => exact ⟨vs, rfl, by simpa using hl, fun i c v h1 h2 => h i c v h1 (by simpa using h2)⟩
theorem VR.fn_inv {E : AEnv} {f : Nat} {l : List AV} {v : Value} (h : VR E (.fn f l) v) : ∃ a : Array Value, v = .func (.func f) #[] a ∧ VL E l a.toList := by
  cases h with
  | fn f cs vs hl h => exact ⟨vs, rfl, by simpa using hl, fun i c v h1 h2 => h i c v h1 (by simpa using h2)⟩
theorem VR.fnm_inv {E : AEnv} {f : Nat} {l : List AV} {v : Value} (h : VR E (.fnm f l) v) : ∃ a : Array Value, v = .func (.func f) a #[] ∧ VL E l a.toList := by
  cases h with
  | fnm f cs vs hl h => exact ⟨vs, rfl, by simpa using hl, fun i c v h1 h2 => h i c v h1 (by simpa using h2)⟩
/-- The cells of a value that may be stored. -/
noncomputable def oneA : AV → Bool
  | .top => false
  | .undef => false
  | .agg _ => false
  | .tup _ => false
  | _ => true
noncomputable def cellsA : AV → Option (List AV)
  | .top => none
  | .undef => none
  | .tup _ => none
  | .agg cs => cond (cs.all oneA) (some cs) none
  | v => some [v]
theorem oneA_ok {E : AEnv} {a : AV} {v : Value} (h : VR E a v) (ha : oneA a = true) : v.oneCell' = true ∧ v.cells = #[v] := by
  cases h <;> first | (cases ha; done) | exact ⟨rfl, rfl⟩
theorem cellsA_ok [Tab] {E : AEnv} {a : AV} {v : Value} {cs : List AV} (h : VR E a v) (hc : cellsA a = some cs) : VL E cs v.cells.toList ∧ ∀ x ∈ v.cells.toList, x.oneCell' = true := by
  cases ha : oneA a with
  | true =>
    obtain ⟨h1, h2⟩ := oneA_ok h ha
    have : cs = [a] := by cases a <;> first | (cases ha; done) | (injection hc with hc; exact hc.symm)
    subst this
    rw [h2]
    exact ⟨VL.cons h VL.nil, fun x hx => by simp at hx; rw [hx]; exact h1⟩
  | false =>
    cases a <;> try (first | (cases ha; done) | (cases hc; done))
    rename_i l
    replace hc : cond (l.all oneA) (some l) none = some cs := hc
    cases hall : l.all oneA with
    | false => rw [hall] at hc; cases hc
    | true =>
      rw [hall] at hc
      injection hc with hc
      subst hc
      obtain ⟨a, rfl, hl⟩ := h.agg_inv
      refine ⟨hl, fun x hx => ?_⟩
      obtain ⟨i, hi⟩ := List.mem_iff_getElem?.1 hx
      have hil : i < l.length := by rw [hl.len]; exact (List.getElem?_eq_some_iff.1 hi).1
      exact (oneA_ok (hl.at_ i _ x (List.getElem?_eq_getElem hil) hi) (List.all_eq_true.1 hall _ (List.getElem_mem hil))).1
end Go.Proofs.YthmojpcaagnfkaaGreatDoor


/-
  The abstract machine's operations on values and memory, each against the model's. No program.
-/
namespace Go.Proofs.YthmojpcaagnfkaaGreatDoor
open Go.RowKit

/-- A computation of the model yields what the abstract one yields. -/
noncomputable def Ran [Tab] (P : Program) (m : Sem Value) (w : World) (E : AEnv) (s : AS) (v : AV) (s' : AS) : Prop :=
  ∃ x w' E', m.run P w = .ok x w' ∧ VR E' v x ∧ HR E' s'.get w' ∧ Stp E s.get w E' s'.get w' ∧ Grow E s.n E' s'.n
theorem Ran.same [Tab] {P : Program} {m : Sem Value} {w : World} {E : AEnv} {s : AS} {v : AV} {x : Value} (h : HR E s.get w) (hm : m.run P w = .ok x w) (hv : VR E v x) : Ran P m w E s v s := ⟨x, w, E, hm, hv, h, Stp.refl E s.get w, Grow.refl E s.n⟩

noncomputable def rowD : TypeDesc → Bool
  | .struct _ => true
  | .array _ _ => true
  | _ => false
noncomputable def zeroA (P : Program) (t : Nat) : Option (List AV) := match P.info? t with
  | some i => match i.zero with
    | some v => some (v.cells.toList.map absS)
    | none => none
  | none => none
theorem zeroA_ok [Tab] {P : Program} {t : Nat} {cs : List AV} (h : zeroA P t = some cs) : ∃ z, (∀ w, (zeroValue t).run P w = .ok z w) ∧ ∀ E, VL E cs z.cells.toList := by
  unfold zeroA at h
  split at h
  · rename_i i hi
    split at h
    · rename_i v hz
      injection h with h
      subst h
      exact ⟨v, fun w => by simp [zeroValue, typeInfo, hi, hz], fun E => absL_ok E _⟩
    · cases h
  · cases h
theorem newVar_run {P : Program} (t : TypeId) (v : Value) (w : World) : (newVar t v).run P w = .ok ⟨w.heap.size, 0, none⟩ (w.alloc (.cells v.cells t)) := by
  simp [newVar, newRow]
noncomputable def newA (s : AS) (cs : List AV) (ty : Nat) : Option (AV × AS) := cond (Nat.ble (Nat.succ s.n) 1000000000) (some (.ptr s.n 0, s.new (.cells cs ty))) none
theorem newA_ok {s s' : AS} {cs : List AV} {ty : Nat} {v : AV} (h : newA s cs ty = some (v, s')) : s.n < 1000000000 ∧ v = .ptr s.n 0 ∧ s' = s.new (.cells cs ty) := by
  unfold newA at h
  cases hb : Nat.ble (Nat.succ s.n) 1000000000 with
  | false => rw [hb] at h; cases h
  | true =>
    rw [hb] at h
    have := Nat.le_of_ble_eq_true hb
    injection h with h
    injection h with h1 h2
    exact ⟨by omega, h1.symm, h2.symm⟩
theorem HR.newCells [Tab] {E : AEnv} {s : AS} {w : World} (h : HR E s.get w) (hi : ¬ E.ok s.n) (hl : s.n < 1000000000) {cs : List AV} {c : Array Value} {ty : TypeId} (hc : VL E cs (c.toList.take cs.length)) (hlen : cs.length ≤ c.size) (w' : World) (hw : w' = w.alloc (.cells c ty) ∨ w' = w.drew.alloc (.cells c ty)) :
    HR (E.more s.n w.heap.size c.size) (s.new (.cells cs ty)).get w' ∧ Stp E s.get w (E.more s.n w.heap.size c.size) (s.new (.cells cs ty)).get w' :=
  h.new hi hl _ _ _ w' hw ⟨c, (0, 0), rfl, (E.more_k _ _ _).symm, hlen, hc.mono (E.le_more _ _ _ hi), fun i _ h => by omega⟩
theorem newVar_ok [Tab] {P : Program} {w : World} {E : AEnv} {s s' : AS} {cs : List AV} {v : AV} (h : HR E s.get w) (hi : ¬ E.ok s.n) (t : TypeId) (hn : newA s cs t = some (v, s')) (x : Value) (hc : VL E cs x.cells.toList) :
    ∃ w' E', (newVar t x).run P w = .ok ⟨w.heap.size, 0, none⟩ w' ∧ VR E' v (.pointer (some ⟨w.heap.size, 0, none⟩)) ∧ HR E' s'.get w' ∧ Stp E s.get w E' s'.get w' ∧ Grow E s.n E' s'.n := by
  obtain ⟨hl, rfl, rfl⟩ := newA_ok hn
  have hlen : cs.length = x.cells.size := by simpa using hc.len
  obtain ⟨h1, h2⟩ := h.newCells (c := x.cells) (ty := t) hi hl (by rw [List.take_of_length_le (by rw [hlen]; simp)]; exact hc) (by omega) _ (.inl rfl)
  refine ⟨_, _, newVar_run t x w, ?_, h1, h2, E.grow_more _ _ _⟩
  have := VR.ptr (E := E.more s.n w.heap.size x.cells.size) s.n 0 (E.more_ok _ _ _)
  rw [AEnv.more_r] at this
  exact this
/-- alloc -/
noncomputable def allocA (P : Program) (t : Nat) (s : AS) : Option (AV × AS) := match zeroA P t with
  | some cs => newA s cs t
  | none => none
theorem allocA_ok [Tab] {P : Program} {t : Nat} {s s' : AS} {v : AV} {E : AEnv} {w : World} (h : HR E s.get w) (hi : ¬ E.ok s.n) (he : allocA P t s = some (v, s')) : Ran P (Instr.alloc t true (.tuple #[])) w E s v s' := by
  unfold allocA at he
  split at he
  · rename_i cs hz
    obtain ⟨z, hz1, hz2⟩ := zeroA_ok hz
    obtain ⟨w', E', h1, h2, h3, h4⟩ := newVar_ok (P := P) h hi t he z (hz2 E)
    exact ⟨_, w', E', by simp [Instr.alloc, hz1, h1], h2, h3, h4⟩
  · cases he
/-- box -/
noncomputable def boxA (t : Nat) (v : AV) (s : AS) : Option (AV × AS) := match cellsA v with
  | some cs => newA s cs t
  | none => none
theorem boxA_ok [Tab] {P : Program} {t : Nat} {s s' : AS} {u v : AV} {x : Value} {E : AEnv} {w : World} (h : HR E s.get w) (hi : ¬ E.ok s.n) (hu : VR E u x) (he : boxA t u s = some (v, s')) : Ran P (Instr.box t x) w E s v s' := by
  unfold boxA at he
  split at he
  · rename_i cs hc
    obtain ⟨w', E', h1, h2, h3, h4⟩ := newVar_ok (P := P) h hi t he x (cellsA_ok hu hc).1
    exact ⟨_, w', E', by simp [Instr.box, h1], h2, h3, h4⟩
  · cases he
/-- load -/
noncomputable def loadA (P : Program) (t : Nat) (a : AV) (s : AS) : Option AV := match a with
  | .ptr b o => match s.get b with
    | .cells cs _ => match P.underlying t with
      | none => none
      | some d => cond (rowD d) (match P.info? t with
          | some i => cond (Nat.ble (Nat.add o i.size) cs.length) (some (.agg ((cs.drop o).take i.size))) none
          | none => none) cs[o]?
    | _ => none
  | _ => none
theorem isAgg_run {P : Program} {t : TypeId} {d : TypeDesc} (h : P.underlying t = some d) (w : World) : (isAgg t).run P w = .ok (rowD d) w := by
  unfold isAgg
  rw [Sem.run_bind, run_underlying h w]
  cases d <;> rfl
theorem loadVar_ok [Tab] {P : Program} {t : Nat} {a v : AV} {x : Value} {s : AS} {E : AEnv} {w : World} (h : HR E s.get w) (ha : VR E a x) (he : loadA P t a s = some v) :
    ∃ p y, x = .pointer (some p) ∧ (loadVar t p).run P w = .ok y w ∧ VR E v y := by
  unfold loadA at he
  split at he
  · rename_i b o
    cases ha with
    | ptr b o hb =>
    split at he
    · rename_i cs ty hg
      split at he
      · cases he
      · rename_i d hd
        cases hr : rowD d with
        | true =>
          rw [hr] at he
          simp only [cond_true] at he
          split at he
          · rename_i i hi
            cases hl : Nat.ble (Nat.add o i.size) cs.length with
            | false => rw [hl] at he; cases he
            | true =>
              rw [hl] at he
              injection he with he
              have hl' : o + i.size ≤ cs.length := Nat.le_of_ble_eq_true hl
              obtain ⟨vs, q1, q2, q3⟩ := h.range hg hl'
              subst he
              refine ⟨_, .agg vs.toArray, rfl, run_loadVar_mid w _ o t vs d q3 hd (by cases d <;> first | rfl | cases hr) (by rw [hi, q1]; rfl), ?_⟩
              exact VL.agg (by simpa using q2)
          · cases he
        | false =>
          rw [hr] at he
          simp only [cond_false] at he
          have ho : o < cs.length := (List.getElem?_eq_some_iff.1 he).1
          obtain ⟨vs, q1, q2, q3⟩ := h.range hg (o := o) (n := 1) (by omega)
          obtain ⟨y, hy, hvy⟩ := q2.exists_at (i := 0) (c := v) (by rw [List.getElem?_take, if_pos (by omega), List.getElem?_drop]; exact he)
          have hcell := q3 0 y hy
          exact ⟨_, y, rfl, by simp [loadVar, Sem.run_bind, isAgg_run hd, hr, load, Sem.run, show w.cell? ⟨E.r b, o, none⟩ = some y from hcell], hvy⟩
    · cases he
  · cases he
theorem loadA_ok [Tab] {P : Program} {t : Nat} {a v : AV} {x : Value} {s : AS} {E : AEnv} {w : World} (h : HR E s.get w) (ha : VR E a x) (he : loadA P t a s = some v) : Ran P (Instr.loadAt t x) w E s v s := by
  obtain ⟨p, y, rfl, h1, h2⟩ := loadVar_ok h ha he
  exact Ran.same h (by simp [Instr.loadAt, Instr.sureAddr, h1]) h2
/-- store -/
noncomputable def storeA (P : Program) (t : Nat) (a v : AV) (s : AS) : Option AS := match a with
  | .ptr b o => match s.get b with
    | .cells cs ty => match cellsA v with
      | some vs => match P.info? t with
        | some i => cond (Nat.beq i.size vs.length) (cond (Nat.ble (Nat.add o vs.length) cs.length) (some (s.put b (.cells (putL cs o vs) ty))) none) none
        | none => none
      | none => none
    | _ => none
  | _ => none
theorem storeA_ok [Tab] {P : Program} {t : Nat} {a v : AV} {x y : Value} {s s' : AS} {E : AEnv} {w : World} (h : HR E s.get w) (ha : VR E a x) (hv : VR E v y) (he : storeA P t a v s = some s') :
    ∃ w', (Instr.storeAt t x y).run P w = .ok () w' ∧ HR E s'.get w' ∧ Stp E s.get w E s'.get w' ∧ s'.n = s.n := by
  unfold storeA at he
  split at he
  · rename_i b o
    cases ha with
    | ptr b o hb =>
    split at he
    · rename_i cs ty hg
      split at he
      · rename_i vs hc
        split at he
        · rename_i i hi
          cases h1 : Nat.beq i.size vs.length with
          | false => rw [h1] at he; cases he
          | true =>
            rw [h1] at he
            simp only [cond_true] at he
            cases h2 : Nat.ble (Nat.add o vs.length) cs.length with
            | false => rw [h2] at he; cases he
            | true =>
              rw [h2] at he
              injection he with he
              subst he
              have e1 : i.size = vs.length := Nat.eq_of_beq_eq_true h1
              have e2 : o + vs.length ≤ cs.length := Nat.le_of_ble_eq_true h2
              obtain ⟨q1, q2⟩ := cellsA_ok hv hc
              have hlen : vs.length = y.cells.size := by simpa using q1.len
              obtain ⟨r1, r2⟩ := h.store hg q1 e2
              obtain ⟨_, c, fz, g1, g2, g3, _, _⟩ := h.cells hg
              have ht := h.there hg (o := o) (n := y.cells.size) (by omega)
              have hst := run_storeCells_cells (P := P) (E.r b) o y.cells.toList 0 w (fun j hj => by simpa using (ht j (by simpa using hj)).1) (fun j hj => by simpa using (ht j (by simpa using hj)).2) q2
              simp only [Nat.add_zero] at hst
              exact ⟨_, by simp [Instr.storeAt, Instr.sureAddr, storeVar, sizeOf, typeInfo, hi, e1, hlen, hst], r1, r2, rfl⟩
        · cases he
      · cases he
    · cases he
  · cases he
/-- build -/
noncomputable def fillA (place : Nat → Option (Nat × Nat)) : List AV → List (Nat × AV) → Option (List AV)
  | cells, [] => some cells
  | cells, p :: r => match place p.1 with
    | none => none
    | some q => match cellsA p.2 with
      | none => none
      | some cs => cond (Nat.beq cs.length q.2) (cond (Nat.ble (Nat.add q.1 cs.length) cells.length) (fillA place (putL cells q.1 cs) r) none) none
theorem foldl_putC [Tab] (off : Nat) : ∀ (l : List Value) (k : Nat) (cells : Array Value), (l.zipIdx k).foldl (fun cs x => cs.setIfInBounds (off + x.2) x.1) cells = putC cells (off + k) l
  | [], _, _ => rfl
  | v :: r, k, cells => by
    rw [List.zipIdx_cons, List.foldl_cons, foldl_putC off r (k + 1), putC]
    rfl
theorem putL_VL [Tab] {E : AEnv} {cs : List AV} {c : Array Value} (h : VL E cs c.toList) {o : Nat} {vs : List AV} {xs : List Value} (hv : VL E vs xs) (ho : o + vs.length ≤ cs.length) : VL E (putL cs o vs) (putC c o xs).toList := by
  have hl := h.len
  have hl2 := hv.len
  rw [putC_list _ _ _ (by simp at hl; omega), List.append_assoc]
  rw [← hl2]
  exact (h.take o).append (hv.append (h.drop _))
/-- Parts. -/
structure PL (E : AEnv) (l : List (Nat × AV)) (a : List (Nat × Value)) : Prop where
  fst : l.map (·.1) = a.map (·.1)
  snd : VL E (l.map (·.2)) (a.map (·.2))
theorem fillA_ok [Tab] {E : AEnv} {place : Nat → Option (Nat × Nat)} : ∀ {l : List (Nat × AV)} {a : List (Nat × Value)} {cells out : List AV} {c : Array Value}, PL E l a → VL E cells c.toList → fillA place cells l = some out →
    ∃ d : Array Value, Instr.fill place c a = some d ∧ VL E out d.toList
  | [], [], cells, out, c, _, hc, he => by
    injection he with he
    subst he
    exact ⟨c, rfl, hc⟩
  | [], b :: a, _, _, _, hp, _, _ => by have := hp.fst; simp at this
  | p :: l, [], _, _, _, hp, _, _ => by have := hp.fst; simp at this
  | p :: l, b :: a, cells, out, c, hp, hc, he => by
    have hfst : p.1 = b.1 := by have := hp.fst; simp at this; exact this.1
    have htl : PL E l a := ⟨by have := hp.fst; simp at this; exact this.2, hp.snd.tail⟩
    have hhd : VR E p.2 b.2 := hp.snd.head
    unfold fillA at he
    split at he
    · cases he
    · rename_i q hq
      split at he
      · cases he
      · rename_i cs hcs
        cases h1 : Nat.beq cs.length q.2 with
        | false => rw [h1] at he; cases he
        | true =>
          rw [h1] at he
          simp only [cond_true] at he
          cases h2 : Nat.ble (Nat.add q.1 cs.length) cells.length with
          | false => rw [h2] at he; cases he
          | true =>
            rw [h2] at he
            simp only [cond_true] at he
            have e1 : cs.length = q.2 := Nat.eq_of_beq_eq_true h1
            have e2 : q.1 + cs.length ≤ cells.length := Nat.le_of_ble_eq_true h2
            obtain ⟨q1, _⟩ := cellsA_ok hhd hcs
            have hlen : cs.length = b.2.cells.size := by simpa using q1.len
            have hclen : cells.length = c.size := by simpa using hc.len
            obtain ⟨d, hd, hd2⟩ := fillA_ok htl (putL_VL hc q1 e2) he
            refine ⟨d, ?_, hd2⟩
            obtain ⟨i, v⟩ := b
            dsimp only at hfst hlen hd
            rw [hfst] at hq
            have hfold : v.cells.zipIdx.foldl (fun cs (x : Value × Nat) => cs.setIfInBounds (q.1 + x.2) x.1) c = putC c q.1 v.cells.toList := by
              have h9 := foldl_putC q.1 v.cells.toList 0 c
              rw [Nat.add_zero] at h9
              rw [← h9, ← Array.foldl_toList]
              simp
            rw [← hd]
            simp only [Instr.fill, hq]
            rw [if_neg (by simp; omega)]
            exact congrArg (fun z => Instr.fill place z a) hfold
noncomputable def placesA (P : Program) (fs : List Field) : Option (List (Nat × Nat)) := fs.mapM (fun f => (P.info? f.type).map fun i => (f.offset, i.size))
noncomputable def buildA (P : Program) (t : Nat) (parts : List (Nat × AV)) : Option AV := match P.info? t with
  | some it => match it.zero with
    | some z => match P.underlying t with
      | some (.struct fields) => match placesA P fields.toList with
        | some places => match fillA (places.toArray[·]?) (z.cells.toList.map absS) parts with
          | some cs => some (.agg cs)
          | none => none
        | none => none
      | some (.array _ e) => match P.info? e with
        | some ie => match fillA (fun i => some (Nat.mul i ie.size, ie.size)) (z.cells.toList.map absS) parts with
          | some cs => some (.agg cs)
          | none => none
        | none => none
      | _ => none
    | none => none
  | none => none
theorem buildA_ok [Tab] {P : Program} {t : Nat} {l : List (Nat × AV)} {a : Array (Nat × Value)} {v : AV} {s : AS} {E : AEnv} {w : World} (h : HR E s.get w) (hp : PL E l a.toList) (he : buildA P t l = some v) : Ran P (Instr.build t a) w E s v s := by
  unfold buildA at he
  split at he
  · rename_i it hit
    split at he
    · rename_i z hz
      split at he
      · rename_i fields hu
        split at he
        · rename_i places hpl
          split at he
          · rename_i cs hf
            injection he with he
            subst he
            obtain ⟨d, hd, hd2⟩ := fillA_ok hp (absL_ok E z.cells.toList) hf
            exact Ran.same h (run_build w t a d (by unfold Program.built; rw [hit, hu]; unfold placesA at hpl; simp [hz, hpl]; simpa using hd)) hd2.agg
          · cases he
        · cases he
      · rename_i n e hu
        split at he
        · rename_i ie hie
          split at he
          · rename_i cs hf
            injection he with he
            subst he
            obtain ⟨d, hd, hd2⟩ := fillA_ok hp (absL_ok E z.cells.toList) hf
            exact Ran.same h (run_build w t a d (by unfold Program.built; rw [hit, hu]; simp [hz, hie]; exact hd)) hd2.agg
          · cases he
        · cases he
      · cases he
    · cases he
  · cases he
/-- buildSlice -/
noncomputable def repA (z : List AV) : Nat → List AV
  | 0 => []
  | n + 1 => List.append z (repA z n)
noncomputable def buildSliceA (P : Program) (t len : Nat) (parts : List (Nat × AV)) (s : AS) : Option (AV × AS) := match P.underlying t with
  | some (.slice e) => match P.info? e with
    | some ie => match zeroA P e with
      | some zs => cond (Nat.beq zs.length ie.size) (cond (Nat.ble (Nat.mul len ie.size) 16777216) (cond (Nat.ble 1 ie.size) (match fillA (fun i => some (Nat.mul i ie.size, ie.size)) (repA zs len) parts with
          | some cs => match newA s cs e with
            | some (.ptr b o, s') => some (.sl b o len len, s')
            | _ => none
          | none => none) none) none) none
      | none => none
    | none => none
  | _ => none
theorem repA_VL [Tab] {E : AEnv} {zs : List AV} {z : List Value} (h : VL E zs z) : ∀ n, VL E (repA zs n) (List.replicate n z).flatten
  | 0 => VL.nil
  | n + 1 => by
    rw [List.replicate_succ, List.flatten_cons]
    exact h.append (repA_VL h n)
theorem range_rep (z : Array Value) (hz : 0 < z.size) (n : Nat) : ((Array.range (n * z.size)).map (z[· % z.size]!)).toList = (List.replicate n z.toList).flatten := by
  induction n with
  | zero => simp
  | succ n ih =>
    have e : (n + 1) * z.size = n * z.size + z.size := by rw [Nat.add_mul, Nat.one_mul]
    rw [List.replicate_succ', List.flatten_append, ← ih, e]
    have h1 : Array.range (n * z.size + z.size) = Array.range (n * z.size) ++ (Array.range z.size).map (n * z.size + ·) := by
      rw [Array.range_add]
    rw [h1, Array.map_append, Array.toList_append]
    congr 1
    apply List.ext_getElem
    · simp
    · intro i h2 h3
      have hi : i < z.size := by simpa using h2
      simp [Nat.mul_comm n, Nat.mul_add_mod, Nat.mod_eq_of_lt hi, hi]
theorem buildSliceA_ok [Tab] {P : Program} {t len : Nat} {l : List (Nat × AV)} {a : Array (Nat × Value)} {v : AV} {s s' : AS} {E : AEnv} {w : World} (h : HR E s.get w) (hi : ¬ E.ok s.n) (hp : PL E l a.toList) (he : buildSliceA P t len l s = some (v, s')) : Ran P (Instr.buildSlice t len a) w E s v s' := by
  unfold buildSliceA at he
  split at he
  · rename_i e hu
    split at he
    · rename_i ie hie
      split at he
      · rename_i zs hz
        cases h1 : Nat.beq zs.length ie.size with
        | false => rw [h1] at he; cases he
        | true =>
        cases h2 : Nat.ble (Nat.mul len ie.size) 16777216 with
        | false => rw [h1, h2] at he; cases he
        | true =>
        cases h3 : Nat.ble 1 ie.size with
        | false => rw [h1, h2, h3] at he; cases he
        | true =>
          rw [h1, h2, h3] at he
          simp only [cond_true] at he
          split at he
          · rename_i cs hf
            split at he
            · rename_i b o s'' hn
              injection he with he
              injection he with e1 e2
              subst e1
              subst e2
              have g1 : zs.length = ie.size := Nat.eq_of_beq_eq_true h1
              have g2 : len * ie.size ≤ 16777216 := Nat.le_of_ble_eq_true h2
              have g3 : 1 ≤ ie.size := Nat.le_of_ble_eq_true h3
              obtain ⟨z, hz1, hz2⟩ := zeroA_ok hz
              have hzl : z.cells.size = ie.size := by have := (hz2 E).len; simp at this; omega
              obtain ⟨hl, e3, rfl⟩ := newA_ok hn
              injection e3 with e4 e5
              subst e4
              subst e5
              have hcells : VL E (repA zs len) ((Array.range (len * ie.size)).map (z.cells[· % z.cells.size]!)).toList := by
                rw [← hzl, range_rep _ (by omega)]
                exact repA_VL (hz2 E) len
              obtain ⟨d, hd, hd2⟩ := fillA_ok hp hcells hf
              have hdl : cs.length = d.size := by simpa using hd2.len
              obtain ⟨r1, r2⟩ := h.newCells (c := d) (ty := e) hi hl (by rw [List.take_of_length_le (by rw [hdl]; simp)]; exact hd2) (by omega) _ (.inl rfl)
              refine ⟨.slice (some ⟨w.heap.size, 0, none⟩) len len, _, _, ?_, ?_, r1, r2, E.grow_more _ _ _⟩
              · by_cases hz0 : len * ie.size = 0
                · have hd' : Instr.fill (fun i => some (i * ie.size, ie.size)) #[] a.toList = some d := by
                    rw [hz0, Array.range_zero'] at hd
                    simpa using hd
                  have hle : len = 0 := by rcases Nat.mul_eq_zero.1 hz0 with h | h <;> omega
                  subst hle
                  simp [Instr.buildSlice, run_underlying hu, sizeOf, typeInfo, hie, newRow, Array.range_zero', hd']
                · simp [Instr.buildSlice, run_underlying hu, sizeOf, typeInfo, hie, hz1, show ¬ 2 ^ 24 < len * ie.size by omega, hz0]
                  rw [show Instr.fill (fun i => some (i * ie.size, ie.size)) ((Array.range (len * ie.size)).map (z.cells[· % z.cells.size]!)) a.toList = some d from hd]
                  simp [newRow]
              · have := VR.sl (E := E.more s.n w.heap.size d.size) s.n 0 len len (E.more_ok _ _ _)
                rw [AEnv.more_r] at this
                exact this
            · cases he
          · cases he
      · cases he
    · cases he
  · cases he
/-- Many bytes of nought. -/
noncomputable def bigA (zs : List AV) (n m : Nat) : Bool := match zs with
  | [.int .u8 (.ofNat 0)] => cond (Nat.beq n m) (Nat.ble 4096 m) false
  | _ => false
theorem flat_rep [Tab] (v : Value) : ∀ n, (List.replicate n [v]).flatten = List.replicate n v
  | 0 => rfl
  | n + 1 => by rw [List.replicate_succ, List.flatten_cons, flat_rep v n, List.replicate_succ]; rfl
theorem bigA_ok {zs : List AV} {n m : Nat} (h : bigA zs n m = true) : zs = [.int .u8 0] ∧ n = m := by
  unfold bigA at h
  split at h
  · cases hb : Nat.beq n m with
    | false => rw [hb] at h; cases h
    | true => exact ⟨rfl, Nat.eq_of_beq_eq_true hb⟩
  · cases h
/-- make of a slice -/
noncomputable def makeSliceA (P : Program) (t : Nat) (l c : AV) (s : AS) : Option (AV × AS) := match l, c with
  | .int _ (.ofNat n), .int _ (.ofNat m) => match P.underlying t with
    | some (.slice e) => match P.info? e with
      | some ie => match zeroA P e with
        | some zs => cond (Nat.beq zs.length ie.size) (cond (Nat.ble n m) (cond (Nat.ble m 1000000) (cond (Nat.ble (Nat.mul ie.bytes m) 281474976710656) (cond (Nat.ble 1 ie.size) (cond (bigA zs n m) (cond (Nat.ble (Nat.succ s.n) 1000000000) (some (.sl s.n 0 n m, s.new (.zero m e))) none) (match newA s (repA zs m) e with
            | some (.ptr b _, s') => some (.sl b 0 n m, s')
            | _ => none)) none) none) none) none) none
        | none => none
      | none => none
    | _ => none
  | _, _ => none
theorem makeSliceA_ok [Tab] {P : Program} {t : Nat} {l c v : AV} {x y : Value} {s s' : AS} {E : AEnv} {w : World} (h : HR E s.get w) (hi : ¬ E.ok s.n) (hl : VR E l x) (hc : VR E c y) (he : makeSliceA P t l c s = some (v, s')) : Ran P (Instr.makeSlice t x y) w E s v s' := by
  unfold makeSliceA at he
  split at he
  · rename_i kl n kc m
    split at he
    · rename_i e hu
      split at he
      · rename_i ie hie
        split at he
        · rename_i zs hz
          cases h1 : Nat.beq zs.length ie.size with
          | false => rw [h1] at he; cases he
          | true =>
          cases h2 : Nat.ble n m with
          | false => rw [h1, h2] at he; cases he
          | true =>
          cases h3 : Nat.ble m 1000000 with
          | false => rw [h1, h2, h3] at he; cases he
          | true =>
          cases h4 : Nat.ble (Nat.mul ie.bytes m) 281474976710656 with
          | false => rw [h1, h2, h3, h4] at he; cases he
          | true =>
          cases h5 : Nat.ble 1 ie.size with
          | false => rw [h1, h2, h3, h4, h5] at he; cases he
          | true =>
            rw [h1, h2, h3, h4, h5] at he
            simp only [cond_true] at he
            have g1 : zs.length = ie.size := Nat.eq_of_beq_eq_true h1
            have g2 : n ≤ m := Nat.le_of_ble_eq_true h2
            have g3 : m ≤ 1000000 := Nat.le_of_ble_eq_true h3
            have g4 : ie.bytes * m ≤ 281474976710656 := Nat.le_of_ble_eq_true h4
            have g5 : 1 ≤ ie.size := Nat.le_of_ble_eq_true h5
            obtain ⟨z, hz1, hz2⟩ := zeroA_ok hz
            have hzl : z.cells.size = ie.size := by have := (hz2 E).len; simp at this; omega
            cases hl
            cases hc
            have hrun : (Instr.makeSlice t (.int kl (Int.ofNat n)) (.int kc (Int.ofNat m))).run P w = .ok (.slice (some ⟨w.heap.size, 0, none⟩) n m) (w.alloc (.cells ((Array.range (m * ie.size)).map (z.cells[· % z.cells.size]!)) e)) := by
              have wl : IntKind.i64.wrap (n : Int) = (n : Int) := by rw [IntKind.wrap_i64]; omega
              have wc : IntKind.i64.wrap (m : Int) = (m : Int) := by rw [IntKind.wrap_i64]; omega
              have n1 : ¬ (m : Int) < 0 := by omega
              have n2 : ¬ (281474976710656 < (ie.bytes : Int) * (m : Int)) := by
                have : (((ie.bytes * m : Nat)) : Int) ≤ 281474976710656 := by omega
                rw [Int.natCast_mul] at this
                omega
              have n3 : ¬ (n : Int) < 0 := by omega
              have n4 : ¬ (m : Int) < n := by omega
              show (Instr.makeSlice t (.int kl (n : Int)) (.int kc (m : Int))).run P w = _
              by_cases hz0 : m * ie.size = 0
              · have hle : m = 0 := by rcases Nat.mul_eq_zero.1 hz0 with h | h <;> omega
                subst hle
                have hn0 : n = 0 := by omega
                subst hn0
                have w0 : IntKind.i64.wrap 0 = 0 := by decide
                simp [Instr.makeSlice, run_underlying hu, asInt, asIntOf, typeInfo, hie, sizeOf, w0, newRow, Array.range_zero']
              · simp [Instr.makeSlice, run_underlying hu, asInt, asIntOf, typeInfo, hie, sizeOf, hz1, wl, wc, n1, n2, n3, n4, hz0, newRow]
            have hcells : VL E (repA zs m) ((Array.range (m * ie.size)).map (z.cells[· % z.cells.size]!)).toList := by
              rw [← hzl, range_rep _ (by omega)]
              exact repA_VL (hz2 E) m
            have hdl : (repA zs m).length = ((Array.range (m * ie.size)).map (z.cells[· % z.cells.size]!)).size := by simpa using hcells.len
            cases hbig : bigA zs n m with
            | true =>
              rw [hbig] at he
              simp only [cond_true] at he
              cases h6 : Nat.ble (Nat.succ s.n) 1000000000 with
              | false => rw [h6] at he; cases he
              | true =>
                rw [h6] at he
                injection he with he
                injection he with e1 e2
                subst e1
                subst e2
                obtain ⟨rfl, rfl⟩ := bigA_ok hbig
                have hzv : z.cells.toList = [.int .u8 0] := by
                  have h7 := hz2 E
                  match hq : z.cells.toList, h7 with
                  | [q], h7 =>
                    have := h7.head
                    cases this
                    rfl
                  | [], h7 => have := h7.len; simp at this
                  | _ :: _ :: _, h7 => have := h7.len; simp at this
                have hrep : ((Array.range (n * ie.size)).map (z.cells[· % z.cells.size]!)).toList = List.replicate n (.int .u8 0) := by
                  rw [← hzl, range_rep _ (by omega), hzv]
                  exact flat_rep _ n
                obtain ⟨r1, r2⟩ := h.new hi (Nat.lt_of_succ_le (Nat.le_of_ble_eq_true h6)) (.zero n e) (.cells ((Array.range (n * ie.size)).map (z.cells[· % z.cells.size]!)) e) n _ (.inl rfl) ⟨_, rfl, hrep, (E.more_k _ _ _).symm⟩
                refine ⟨.slice (some ⟨w.heap.size, 0, none⟩) n n, _, _, hrun, ?_, r1, r2, E.grow_more _ _ _⟩
                have := VR.sl (E := E.more s.n w.heap.size n) s.n 0 n n (E.more_ok _ _ _)
                rw [AEnv.more_r] at this
                exact this
            | false =>
              rw [hbig] at he
              simp only [cond_false] at he
              split at he
              · rename_i b o s'' hn
                injection he with he
                injection he with e1 e2
                subst e1
                subst e2
                obtain ⟨hl', e3, rfl⟩ := newA_ok hn
                injection e3 with e4 e5
                subst e4
                subst e5
                obtain ⟨r1, r2⟩ := h.newCells (c := (Array.range (m * ie.size)).map (z.cells[· % z.cells.size]!)) (ty := e) hi hl' (by rw [List.take_of_length_le (by rw [hdl]; simp)]; exact hcells) (by omega) _ (.inl rfl)
                refine ⟨.slice (some ⟨w.heap.size, 0, none⟩) n m, _, _, hrun, ?_, r1, r2, E.grow_more _ _ _⟩
                have := VR.sl (E := E.more s.n w.heap.size ((Array.range (m * ie.size)).map (z.cells[· % z.cells.size]!)).size) s.n 0 n m (E.more_ok _ _ _)
                rw [AEnv.more_r] at this
                exact this
              · cases he
        · cases he
      · cases he
    · cases he
  · cases he
end Go.Proofs.YthmojpcaagnfkaaGreatDoor


/-
  The abstract machine's operations that touch no memory, each against the model's. No program.
-/
namespace Go.Proofs.YthmojpcaagnfkaaGreatDoor
open Go.RowKit

noncomputable def wrapA (k : IntKind) (n : Int) : Int := match k, n with
  | .i64, .ofNat m => cond (Nat.ble m 9223372036854775807) (.ofNat m) (k.wrap n)
  | .i64, .negSucc m => cond (Nat.ble m 9223372036854775807) (.negSucc m) (k.wrap n)
  | .u64, .ofNat m => cond (Nat.ble m 18446744073709551615) (.ofNat m) (k.wrap n)
  | .u32, .ofNat m => cond (Nat.ble m 4294967295) (.ofNat m) (k.wrap n)
  | .u8, .ofNat m => cond (Nat.ble m 255) (.ofNat m) (k.wrap n)
  | _, _ => k.wrap n
theorem cond_or {c : Bool} {a b : Int} (h : c = true → a = b) : cond c a b = b := by
  cases c
  · rfl
  · exact h rfl
theorem wrapA_eq [Tab] (k : IntKind) (n : Int) : wrapA k n = k.wrap n := by
  cases k with
  | i64 =>
    cases n with
    | ofNat m => exact cond_or fun h => (IntWalk.i64_in ((m : Nat) : Int) (by have := Nat.le_of_ble_eq_true h; omega)).symm
    | negSucc m => exact cond_or fun h => (IntWalk.i64_in (Int.negSucc m) (by have := Nat.le_of_ble_eq_true h; omega)).symm
  | u64 =>
    cases n with
    | ofNat m => exact cond_or fun h => (IntWalk.u64_in ((m : Nat) : Int) (by have := Nat.le_of_ble_eq_true h; omega)).symm
    | negSucc m => rfl
  | u32 =>
    cases n with
    | ofNat m => exact cond_or fun h => (IntWalk.u32_in ((m : Nat) : Int) (by have := Nat.le_of_ble_eq_true h; omega)).symm
    | negSucc m => rfl
  | u8 =>
    cases n with
    | ofNat m => exact cond_or fun h => (IntWalk.u8_in ((m : Nat) : Int) (by have := Nat.le_of_ble_eq_true h; omega)).symm
    | negSucc m => rfl
  | _ => cases n <;> rfl

/-- The bytes of two strings. -/
noncomputable def eqB : List UInt8 → List UInt8 → Bool
  | [], [] => true
  | a :: l, b :: m => cond (Nat.beq a.toNat b.toNat) (eqB l m) false
  | _, _ => false
theorem eqB_eq [Tab] : ∀ l m : List UInt8, eqB l m = decide (l = m)
  | [], [] => rfl
  | [], _ :: _ => rfl
  | _ :: _, [] => rfl
  | a :: l, b :: m => by
    show cond (Nat.beq a.toNat b.toNat) (eqB l m) false = _
    rw [eqB_eq l m]
    by_cases h : a = b
    · subst h
      rw [show Nat.beq a.toNat a.toNat = true from Nat.beq_refl _]
      simp
    · have : Nat.beq a.toNat b.toNat = false := by
        rw [Bool.eq_false_iff]
        exact fun h' => h (UInt8.toNat_inj.1 (Nat.eq_of_beq_eq_true h'))
      rw [this]
      simp [h]
noncomputable def ltB : List UInt8 → List UInt8 → Bool
  | _, [] => false
  | [], _ :: _ => true
  | a :: x, b :: y => cond (Nat.ble (Nat.succ a.toNat) b.toNat) true (cond (Nat.beq a.toNat b.toNat) (ltB x y) false)
theorem ltB_eq [Tab] : ∀ l m : List UInt8, ltB l m = Op.bytesLess l m
  | [], [] => rfl
  | [], _ :: _ => rfl
  | _ :: _, [] => rfl
  | a :: l, b :: m => by
    show cond (Nat.ble (Nat.succ a.toNat) b.toNat) true (cond (Nat.beq a.toNat b.toNat) (ltB l m) false) = (decide (a < b) || (a == b && Op.bytesLess l m))
    rw [ltB_eq l m]
    by_cases h : a < b
    · have : Nat.ble (Nat.succ a.toNat) b.toNat = true := Nat.ble_eq_true_of_le (UInt8.lt_iff_toNat_lt.1 h)
      rw [this]
      simp [h]
    · have : Nat.ble (Nat.succ a.toNat) b.toNat = false := by
        rw [Bool.eq_false_iff]
        exact fun h' => h (UInt8.lt_iff_toNat_lt.2 (Nat.le_of_ble_eq_true h'))
      rw [this]
      by_cases h2 : a = b
      · subst h2
        rw [show Nat.beq a.toNat a.toNat = true from Nat.beq_refl _]
        simp [h]
      · have : Nat.beq a.toNat b.toNat = false := by
          rw [Bool.eq_false_iff]
          exact fun h' => h2 (UInt8.toNat_inj.1 (Nat.eq_of_beq_eq_true h'))
        rw [this]
        simp [h, h2]
theorem toList_mk (l : List UInt8) : (⟨l.toArray⟩ : ByteArray).toList = l := by
  rw [ByteArray.toList_eq]

/-- Two integers. -/
noncomputable def intA (op : BinOp) (k : IntKind) (a b : Int) : Option AV := match op with
  | .add => some (.int k (wrapA k (a + b)))
  | .sub => some (.int k (wrapA k (a - b)))
  | .mul => some (.int k (wrapA k (a * b)))
  | .quo => cond (decide (b = 0)) none (some (.int k (wrapA k (a.tdiv b))))
  | .rem => cond (decide (b = 0)) none (some (.int k (a.tmod b)))
  | .and => some (.int k (wrapA k (BitVec.ofInt k.bits a &&& BitVec.ofInt k.bits b).toNat))
  | .or => some (.int k (wrapA k (BitVec.ofInt k.bits a ||| BitVec.ofInt k.bits b).toNat))
  | .xor => some (.int k (wrapA k (BitVec.ofInt k.bits a ^^^ BitVec.ofInt k.bits b).toNat))
  | .andNot => some (.int k (wrapA k (BitVec.ofInt k.bits a &&& ~~~BitVec.ofInt k.bits b).toNat))
  | .eql => some (.bool (a == b))
  | .neq => some (.bool (a != b))
  | .lss => some (.bool (a < b))
  | .leq => some (.bool (a ≤ b))
  | .gtr => some (.bool (a > b))
  | .geq => some (.bool (a ≥ b))
  | _ => none
noncomputable def strA (op : BinOp) (a b : List UInt8) : Option AV := match op with
  | .add => cond (Nat.ble (Nat.add a.length b.length) 9223372036854775807) (some (.str (List.append a b))) none
  | .eql => some (.bool (eqB a b))
  | .neq => some (.bool (!eqB a b))
  | .lss => some (.bool (ltB a b))
  | .leq => some (.bool (ltB a b || eqB a b))
  | .gtr => some (.bool !(ltB a b || eqB a b))
  | .geq => some (.bool !ltB a b)
  | _ => none
noncomputable def kindEq (a b : IntKind) : Bool := match a, b with
  | .i8, .i8 => true | .i16, .i16 => true | .i32, .i32 => true | .i64, .i64 => true
  | .u8, .u8 => true | .u16, .u16 => true | .u32, .u32 => true | .u64, .u64 => true
  | _, _ => false
theorem kindEq_eq {a b : IntKind} (h : kindEq a b = true) : a = b := by cases a <;> cases b <;> first | rfl | cases h
/-- Two values the same? -/
noncomputable def isNilA : AV → Option Bool
  | .nilp => some true | .nils => some true | .nilm => some true | .nilfn => some true | .nili => some true
  | .ptr _ _ => some false | .sl _ _ _ _ => some false | .slu _ _ _ _ => some false | .mapp _ => some false | .fn _ _ => some false | .fnm _ _ => some false | .ifc _ _ => some false
  | _ => none
noncomputable def refD : TypeDesc → Bool
  | .pointer _ => true | .slice _ => true | .map _ _ => true | .func _ _ _ => true | .interface _ => true
  | _ => false
noncomputable def isNil1 : AV → Bool
  | .nilp => true | .nils => true | .nilm => true | .nilfn => true | .nili => true
  | _ => false
noncomputable def eq1 (d : TypeDesc) (a b : AV) : Option Bool := match d, a, b with
  | .bool, .bool x, .bool y => some (x == y)
  | .int _, .int k x, .int k' y => cond (kindEq k k') (some (x == y)) none
  | .string, .str x, .str y => some (eqB x y)
  | .func _ _ _, .nilfn, .nilfn => some true
  | .func _ _ _, .fn _ _, .nilfn => some false
  | .func _ _ _, .nilfn, .fn _ _ => some false
  | .func _ _ _, .fnm _ _, .nilfn => some false
  | .func _ _ _, .nilfn, .fnm _ _ => some false
  | .slice _, .nils, .nils => some true
  | .slice _, .sl _ _ _ _, .nils => some false
  | .slice _, .slu _ _ _ _, .nils => some false
  | .pointer _, .nilp, .nilp => some true
  | .pointer _, .ptr _ _, .nilp => some false
  | .pointer _, .nilp, .ptr _ _ => some false
  | .map _ _, .nilm, .nilm => some true
  | .map _ _, .mapp _, .nilm => some false
  | .interface _, .nili, .nili => some true
  | .interface _, .ifc _ _, .nili => some false
  | .interface _, .nili, .ifc _ _ => some false
  | .int _, .symI b k _ _, .symI b' k' _ _ => cond (Nat.beq b b') (cond (kindEq k k') (some true) none) none
  | .string, .symS b, .symS b' => cond (Nat.beq b b') (some true) none
  | .string, .symT b _ _, .symT b' _ _ => cond (Nat.beq b b') (some true) none
  | _, _, _ => none
theorem ba_self (l : List UInt8) : (({ data := l.toArray } : ByteArray) == { data := l.toArray }) = true := by
  show (l.toArray == l.toArray) = true
  simp
set_option maxHeartbeats 1000000 in
theorem eq1_ok [Tab] {P : Program} {t : Nat} {d : TypeDesc} {a b : AV} {x y : Value} {E : AEnv} {w : World} {r : Bool} (n : Nat) (hd : P.underlying t = some d) (ha : VR E a x) (hb : VR E b y) (h : eq1 d a b = some r) :
    (Op.equalIn (n + 1) t x y).run P w = .ok r w := by
  unfold eq1 at h
  split at h <;> try (cases h; done)
  all_goals first
    | (injection h with h; subst h; cases ha; cases hb; simp [Op.equalIn, run_underlying hd]; done)
    | (injection h with h; subst h; cases ha; cases hb; simp [Op.equalIn, run_underlying hd, eqB_eq, ByteArray.ext_iff]; done)
    | skip
  · rename_i k x k' y
    cases hk : kindEq k k' with
    | false => rw [hk] at h; cases h
    | true =>
      rw [hk] at h
      injection h with h
      subst h
      have := kindEq_eq hk
      subst this
      cases ha
      cases hb
      simp [Op.equalIn, run_underlying hd]
  · rename_i x y
    injection h with h
    subst h
    cases ha
    cases hb
    have e : (({ data := x.toArray } : ByteArray) == { data := y.toArray }) = decide (x = y) := by
      show (x.toArray == y.toArray) = decide (x = y)
      rw [Bool.eq_iff_iff]
      simp
    simp [Op.equalIn, run_underlying hd, eqB_eq, e]
  · rename_i b k _ _ b' k' _ _
    cases he : Nat.beq b b' with
    | false => rw [he] at h; cases h
    | true =>
      rw [he] at h
      cases hk : kindEq k k' with
      | false => rw [hk] at h; cases h
      | true =>
        rw [hk] at h
        injection h with h
        subst h
        have e1 := Nat.eq_of_beq_eq_true he
        subst e1
        have e2 := kindEq_eq hk
        subst e2
        cases ha with
        | symI _ _ _ _ n h0 hn _ _ =>
          cases hb with
          | symI _ _ _ _ m g0 hm _ _ =>
            rw [hn] at hm
            subst hm
            simp [Op.equalIn, run_underlying hd]
  · rename_i b b'
    cases he : Nat.beq b b' with
    | false => rw [he] at h; cases h
    | true =>
      rw [he] at h
      injection h with h
      subst h
      have e1 := Nat.eq_of_beq_eq_true he
      subst e1
      cases ha with
      | symS _ s h0 hs =>
        cases hb with
        | symS _ s' g0 hs' =>
          rw [hs] at hs'
          subst hs'
          simp [Op.equalIn, run_underlying hd, ba_self]
  · rename_i b _ _ b' _ _
    cases he : Nat.beq b b' with
    | false => rw [he] at h; cases h
    | true =>
      rw [he] at h
      injection h with h
      subst h
      have e1 := Nat.eq_of_beq_eq_true he
      subst e1
      cases ha with
      | symT _ _ _ n h0 hn _ _ =>
        cases hb with
        | symT _ _ _ m g0 hm _ _ =>
          rw [hn] at hm
          subst hm
          simp [Op.equalIn, run_underlying hd, ba_self]
/-- Structs of such, field by field. -/
noncomputable def eqF (P : Program) (sub : Nat → List AV → List AV → Option Bool) (xs ys : List AV) : List Field → Option Bool
  | [] => some true
  | f :: r => match P.underlying f.type with
    | none => none
    | some d => cond (f.name == "_") none (cond (rowD d) (match P.info? f.type with
      | some i => cond (Nat.ble (Nat.add f.offset i.size) xs.length) (cond (Nat.ble (Nat.add f.offset i.size) ys.length) (match sub f.type ((xs.drop f.offset).take i.size) ((ys.drop f.offset).take i.size) with
        | some true => eqF P sub xs ys r
        | some false => some false
        | none => none) none) none
      | none => none) (match xs[f.offset]?, ys[f.offset]? with
      | some a, some b => match eq1 d a b with
        | some true => eqF P sub xs ys r
        | some false => some false
        | none => none
      | _, _ => none))
noncomputable def eqS (P : Program) : Nat → Nat → List AV → List AV → Option Bool
  | 0, _, _, _ => none
  | m + 1, t, xs, ys => match P.underlying t with
    | some (.struct fs) => cond (P.stoodInHeld t) none (eqF P (eqS P m) xs ys fs.toList)
    | _ => none
noncomputable def eqA (P : Program) (t : Nat) (a b : AV) : Option Bool := match P.underlying t with
  | none => none
  | some (.struct _) => match a, b with
    | .agg xs, .agg ys => eqS P 5 t xs ys
    | _, _ => none
  | some d => eq1 d a b
theorem part_agg [Tab] {P : Program} {t : Nat} {d : TypeDesc} {i : TypeInfo} (hd : P.underlying t = some d) (hr : rowD d = true) (hi : P.info? t = some i) (a : Array Value) (o : Nat) (w : World) : (part t a o).run P w = .ok (.agg (a.extract o (o + i.size))) w := by
  simp [part, isAgg_run hd, hr, sizeOf, typeInfo, hi]
theorem VL.ext {E : AEnv} {xs : List AV} {a : Array Value} (h : VL E xs a.toList) (o n : Nat) : VL E ((xs.drop o).take n) (a.extract o (o + n)).toList := by
  have e : (a.extract o (o + n)).toList = (a.toList.drop o).take n := by simp [List.extract_eq_take_drop]
  rw [e]
  exact (h.drop o).take n
theorem eqF_ok [Tab] {P : Program} {E : AEnv} {w : World} (n : Nat) {sub : Nat → List AV → List AV → Option Bool} (hsub : ∀ t xs ys (a b : Array Value) r, VL E xs a.toList → VL E ys b.toList → sub t xs ys = some r → (Op.equalIn (n + 1) t (.agg a) (.agg b)).run P w = .ok r w)
    {xs ys : List AV} {a b : Array Value} (ha : VL E xs a.toList) (hb : VL E ys b.toList) : ∀ (fs : List Field) {r : Bool}, eqF P sub xs ys fs = some r → (Op.eqFields (n + 1) a b fs).run P w = .ok r w
  | [], r, h => by
    injection h with h
    subst h
    rfl
  | f :: fs, r, h => by
    unfold eqF at h
    split at h
    · cases h
    · rename_i d hd
      cases hn : (f.name == "_") with
      | true => rw [hn] at h; cases h
      | false =>
        rw [hn] at h
        simp only [cond_false] at h
        have hne : f.name ≠ "_" := fun e => by rw [e] at hn; simp at hn
        cases hr : rowD d with
        | true =>
          rw [hr] at h
          simp only [cond_true] at h
          split at h
          · rename_i i hi
            cases h1 : Nat.ble (Nat.add f.offset i.size) xs.length with
            | false => rw [h1] at h; cases h
            | true =>
            cases h2 : Nat.ble (Nat.add f.offset i.size) ys.length with
            | false => rw [h1, h2] at h; cases h
            | true =>
              rw [h1, h2] at h
              simp only [cond_true] at h
              have hpx := part_agg hd hr hi a f.offset w
              have hpy := part_agg hd hr hi b f.offset w
              split at h
              · rename_i he
                have := hsub _ _ _ _ _ _ (ha.ext _ _) (hb.ext _ _) he
                simp [Op.eqFields, hne, hpx, hpy, this, eqF_ok n hsub ha hb fs h]
              · rename_i he
                have := hsub _ _ _ _ _ _ (ha.ext _ _) (hb.ext _ _) he
                injection h with h
                subst h
                simp [Op.eqFields, hne, hpx, hpy, this]
              · cases h
          · cases h
        | false =>
          rw [hr] at h
          simp only [cond_false] at h
          split at h
          · rename_i u v hu hv
            obtain ⟨x, hx, hux⟩ := ha.exists_at hu
            obtain ⟨y, hy, hvy⟩ := hb.exists_at hv
            have hpx : (part f.type a f.offset).run P w = .ok x w := by
              simp [part, isAgg_run hd, hr, show a[f.offset]? = some x by simpa using hx]
            have hpy : (part f.type b f.offset).run P w = .ok y w := by
              simp [part, isAgg_run hd, hr, show b[f.offset]? = some y by simpa using hy]
            split at h
            · rename_i he
              have := eq1_ok (w := w) n hd hux hvy he
              simp [Op.eqFields, hne, hpx, hpy, this, eqF_ok n hsub ha hb fs h]
            · rename_i he
              have := eq1_ok (w := w) n hd hux hvy he
              injection h with h
              subst h
              simp [Op.eqFields, hne, hpx, hpy, this]
            · cases h
          · cases h
theorem eqS_ok [Tab] {P : Program} {E : AEnv} {w : World} (n : Nat) : ∀ (m t : Nat) (xs ys : List AV) (a b : Array Value) (r : Bool), VL E xs a.toList → VL E ys b.toList → eqS P m t xs ys = some r → (Op.equalIn (n + m + 1) t (.agg a) (.agg b)).run P w = .ok r w
  | 0, _, _, _, _, _, _, _, _, h => by cases h
  | m + 1, t, xs, ys, a, b, r, ha, hb, h => by
    unfold eqS at h
    split at h
    · rename_i fs hd
      cases hs : P.stoodInHeld t with
      | true => rw [hs] at h; cases h
      | false =>
        rw [hs] at h
        simp only [cond_false] at h
        have hf : P.fieldsOf t = fs := by simp [Program.fieldsOf, hd]
        have := run_equalIn_struct (w := w) (n + m + 1) t a b (by rw [hf]; exact hd) hs
        rw [show n + (m + 1) + 1 = n + m + 1 + 1 from rfl, this, hf]
        exact eqF_ok (n + m) (fun t xs ys a b r h1 h2 h3 => eqS_ok n m t xs ys a b r h1 h2 h3) ha hb fs.toList h
    · cases h
theorem eqA_ok [Tab] {P : Program} {t : Nat} {a b : AV} {x y : Value} {E : AEnv} {w : World} {r : Bool} (ha : VR E a x) (hb : VR E b y) (h : eqA P t a b = some r) : (Op.equal t x y).run P w = .ok r w := by
  unfold eqA at h
  split at h
  · cases h
  · rename_i fs hd
    split at h
    · rename_i xs ys
      obtain ⟨u, rfl, hu⟩ := ha.agg_inv
      obtain ⟨v, rfl, hv⟩ := hb.agg_inv
      exact eqS_ok 9994 5 t xs ys u v r hu hv h
    · cases h
  · rename_i hd
    exact eq1_ok 9999 hd ha hb h
/-- Values that are not told: what is known of them. -/
noncomputable def rngA (op : BinOp) (lo hi y : Int) : Option AV := match op with
  | .lss => cond (decide (hi < y)) (some (.bool true)) (cond (decide (y ≤ lo)) (some (.bool false)) none)
  | .gtr => cond (decide (y < lo)) (some (.bool true)) (cond (decide (hi ≤ y)) (some (.bool false)) none)
  | .leq => cond (decide (hi ≤ y)) (some (.bool true)) (cond (decide (y < lo)) (some (.bool false)) none)
  | .geq => cond (decide (y ≤ lo)) (some (.bool true)) (cond (decide (hi < y)) (some (.bool false)) none)
  | .eql => cond (decide (hi < y) || decide (y < lo)) (some (.bool false)) none
  | .neq => cond (decide (hi < y) || decide (y < lo)) (some (.bool true)) none
  | _ => none
noncomputable def symE (op : BinOp) : Option AV := match op with
  | .eql => some (.bool true)
  | .neq => some (.bool false)
  | _ => none
noncomputable def symB (op : BinOp) (a b : AV) : Option AV := match a, b with
  | .symI _ k lo hi, .int k' y => cond (kindEq k k') (rngA op lo hi y) none
  | .symI c k _ _, .symI c' k' _ _ => cond (Nat.beq c c') (cond (kindEq k k') (symE op) none) none
  | .symS c, .symS c' => cond (Nat.beq c c') (symE op) none
  | .symT c _ _, .symT c' _ _ => cond (Nat.beq c c') (symE op) none
  | _, _ => none
/-- A binary operation. -/
noncomputable def binA (P : Program) (op : BinOp) (t : Nat) (c : Bool) (a b : AV) : Option AV := match a, b with
  | .int k x, .int k' y => match op, y with
    | .shl, .ofNat m => some (.int k (wrapA k (x * 2 ^ (min m k.bits))))
    | .shr, .ofNat m => some (.int k (x.fdiv (2 ^ (min m k.bits))))
    | .shl, _ => none
    | .shr, _ => none
    | _, _ => cond (kindEq k k') (intA op k x y) none
  | .str x, .str y => strA op x y
  | .symI b k lo hi, y => symB op (.symI b k lo hi) y
  | .symS b, y => symB op (.symS b) y
  | .symT b lo hi, y => symB op (.symT b lo hi) y
  | .nili, .nili => cond c (match op with
    | .eql => (eqA P t a b).map .bool
    | .neq => (eqA P t a b).map fun r => .bool (!r)
    | _ => none) none
  | .agg _, .agg _ => cond (P.eqGuardType P.depth t) none (match op with
    | .eql => (eqA P t a b).map .bool
    | .neq => (eqA P t a b).map fun r => .bool (!r)
    | _ => none)
  | _, _ => match op with
    | .eql => (eqA P t a b).map .bool
    | .neq => (eqA P t a b).map fun r => .bool (!r)
    | _ => none
theorem intA_ok [Tab] {P : Program} {op : BinOp} {t : Nat} {k : IntKind} {x y : Int} {v : AV} {E : AEnv} {w : World} (h : intA op k x y = some v) : ∃ z, (binOp op t (.int k x) (.int k y)).run P w = .ok z w ∧ VR E v z := by
  cases op <;> try (cases h; done)
  case add =>
    injection h with h
    subst h
    rw [wrapA_eq]
    exact ⟨.int k (k.wrap (x + y)), by simp [binOp, Op.intArith, Op.intBits], .int _ _⟩
  case sub =>
    injection h with h
    subst h
    rw [wrapA_eq]
    exact ⟨.int k (k.wrap (x - y)), by simp [binOp, Op.intArith, Op.intBits], .int _ _⟩
  case mul =>
    injection h with h
    subst h
    rw [wrapA_eq]
    exact ⟨.int k (k.wrap (x * y)), by simp [binOp, Op.intArith, Op.intBits], .int _ _⟩
  case quo =>
    replace h : cond (decide (y = 0)) none (some _) = some v := h
    cases hy : decide (y = 0) with
    | true => rw [hy] at h; cases h
    | false =>
      rw [hy] at h
      injection h with h
      subst h
      have hy0 : y ≠ 0 := of_decide_eq_false hy
      try rw [wrapA_eq]
      exact ⟨.int k (k.wrap (x.tdiv y)), by simp [binOp, Op.intDiv, hy0], .int _ _⟩
  case rem =>
    replace h : cond (decide (y = 0)) none (some _) = some v := h
    cases hy : decide (y = 0) with
    | true => rw [hy] at h; cases h
    | false =>
      rw [hy] at h
      injection h with h
      subst h
      have hy0 : y ≠ 0 := of_decide_eq_false hy
      try rw [wrapA_eq]
      exact ⟨.int k (x.tmod y), by simp [binOp, Op.intDiv, hy0], .int _ _⟩
  case and =>
    injection h with h
    subst h
    rw [wrapA_eq]
    exact ⟨.int k (k.wrap (BitVec.ofInt k.bits x &&& BitVec.ofInt k.bits y).toNat), by simp [binOp, Op.intArith, Op.intBits], .int _ _⟩
  case or =>
    injection h with h
    subst h
    rw [wrapA_eq]
    exact ⟨.int k (k.wrap (BitVec.ofInt k.bits x ||| BitVec.ofInt k.bits y).toNat), by simp [binOp, Op.intArith, Op.intBits], .int _ _⟩
  case xor =>
    injection h with h
    subst h
    rw [wrapA_eq]
    exact ⟨.int k (k.wrap (BitVec.ofInt k.bits x ^^^ BitVec.ofInt k.bits y).toNat), by simp [binOp, Op.intArith, Op.intBits], .int _ _⟩
  case andNot =>
    injection h with h
    subst h
    rw [wrapA_eq]
    exact ⟨.int k (k.wrap (BitVec.ofInt k.bits x &&& ~~~BitVec.ofInt k.bits y).toNat), by simp [binOp, Op.intArith, Op.intBits], .int _ _⟩
  case eql =>
    injection h with h
    subst h
    exact ⟨.bool (x == y), by simp [binOp, Op.intCmp], .bool _⟩
  case neq =>
    injection h with h
    subst h
    exact ⟨.bool (x != y), by simp [binOp, Op.intCmp], .bool _⟩
  case lss =>
    injection h with h
    subst h
    exact ⟨.bool (x < y), by simp [binOp, Op.intCmp], .bool _⟩
  case leq =>
    injection h with h
    subst h
    exact ⟨.bool (x ≤ y), by simp [binOp, Op.intCmp], .bool _⟩
  case gtr =>
    injection h with h
    subst h
    exact ⟨.bool (x > y), by simp [binOp, Op.intCmp], .bool _⟩
  case geq =>
    injection h with h
    subst h
    exact ⟨.bool (x ≥ y), by simp [binOp, Op.intCmp], .bool _⟩
theorem strA_ok [Tab] {P : Program} {op : BinOp} {t : Nat} {x y : List UInt8} {v : AV} {E : AEnv} {w : World} (h : strA op x y = some v) : ∃ z, (binOp op t (.string ⟨x.toArray⟩) (.string ⟨y.toArray⟩)).run P w = .ok z w ∧ VR E v z := by
  have e1 : (x == y) = eqB x y := by
    rw [eqB_eq, Bool.eq_iff_iff]
    simp
  cases op <;> try (cases h; done)
  case eql =>
    injection h with h
    subst h
    simp only [← e1, ltB_eq]
    exact ⟨.bool (x == y), by simp [binOp, Op.stringOp, toList_mk], .bool _⟩
  case neq =>
    injection h with h
    subst h
    simp only [← e1, ltB_eq]
    exact ⟨.bool (!(x == y)), by simp [binOp, Op.stringOp, toList_mk], .bool _⟩
  case lss =>
    injection h with h
    subst h
    simp only [← e1, ltB_eq]
    exact ⟨.bool (Op.bytesLess x y), by simp [binOp, Op.stringOp, toList_mk], .bool _⟩
  case leq =>
    injection h with h
    subst h
    simp only [← e1, ltB_eq]
    exact ⟨.bool (Op.bytesLess x y || x == y), by simp [binOp, Op.stringOp, toList_mk], .bool _⟩
  case gtr =>
    injection h with h
    subst h
    simp only [← e1, ltB_eq]
    exact ⟨.bool (!(Op.bytesLess x y || x == y)), by simp [binOp, Op.stringOp, toList_mk], .bool _⟩
  case geq =>
    injection h with h
    subst h
    simp only [← e1, ltB_eq]
    exact ⟨.bool (!Op.bytesLess x y), by simp [binOp, Op.stringOp, toList_mk], .bool _⟩
  case add =>
    replace h : cond (Nat.ble (Nat.add x.length y.length) 9223372036854775807) (some (AV.str (x ++ y))) none = some v := h
    cases hl : Nat.ble (Nat.add x.length y.length) 9223372036854775807 with
    | false => rw [hl] at h; cases h
    | true =>
      rw [hl] at h
      injection h with h
      subst h
      have hl' : x.length + y.length ≤ 9223372036854775807 := Nat.le_of_ble_eq_true hl
      refine ⟨.string ⟨(x ++ y).toArray⟩, ?_, .str _⟩
      have e2 : (⟨x.toArray⟩ : ByteArray) ++ ⟨y.toArray⟩ = ⟨(x ++ y).toArray⟩ := by
        apply ByteArray.ext
        simp
      have e3 : ¬ (((⟨x.toArray⟩ : ByteArray).size + (⟨y.toArray⟩ : ByteArray).size : Nat) : Int) > IntKind.i64.max := by
        rw [ByteArray.size_mk', ByteArray.size_mk']
        simp [IntKind.max, IntKind.bits, IntKind.signed]
        omega
      simp only [binOp, Op.stringOp, if_neg e3, e2]
      rfl
end Go.Proofs.YthmojpcaagnfkaaGreatDoor


/-
  The abstract machine's operations: comparisons, conversions, places, slices. No program.
-/
namespace Go.Proofs.YthmojpcaagnfkaaGreatDoor
open Go.RowKit

noncomputable def plainPair : Value → Value → Bool
  | .int _ _, .int _ _ => false
  | .float _ _, .float _ _ => false
  | .complex _ _ _, .complex _ _ _ => false
  | .string _, .string _ => false
  | _, _ => true
theorem binOp_eql {t : Nat} {x y : Value} (h : plainPair x y = true) : binOp .eql t x y = (Op.equal t x y >>= fun r => pure (.bool r)) := by
  cases x <;> cases y <;> first | rfl | cases h
theorem binOp_neq {t : Nat} {x y : Value} (h : plainPair x y = true) : binOp .neq t x y = (Op.equal t x y >>= fun r => pure (.bool (!r))) := by
  cases x <;> cases y <;> first | rfl | cases h
noncomputable def plainA : AV → AV → Bool
  | .int _ _, _ => false
  | .str _, _ => false
  | .top, _ => false
  | .symI _ _ _ _, _ => false
  | .symS _, _ => false
  | .symT _ _ _, _ => false
  | .symZ _, _ => false
  | _, _ => true
theorem plainA_ok {a b : AV} {x y : Value} {E : AEnv} (ha : VR E a x) (h : plainA a b = true) : plainPair x y = true := by
  cases ha <;> first | (cases h; done) | (cases y <;> rfl)
noncomputable def noGuard : Value → Value → Bool
  | .nilIface, .nilIface => false
  | .agg _, .agg _ => false
  | _, _ => true
theorem guard_plain {P : Program} {op : BinOp} {t : Nat} {ox oy : Operand} {x y : Value} {w : World} (h : noGuard x y = true) : (eqGuard op t ox oy x y).run P w = .ok () w := by
  unfold eqGuard
  cases x <;> cases y <;> first | (cases h; done) | (cases op <;> rfl)
noncomputable def isCon : Operand → Bool
  | .const _ => true
  | _ => false
theorem guard_nil {P : Program} {op : BinOp} {t : Nat} {ox oy : Operand} {w : World} (h : (isCon ox || isCon oy) = true) : (eqGuard op t ox oy .nilIface .nilIface).run P w = .ok () w := by
  unfold eqGuard
  cases ox <;> cases oy <;> first | (cases h; done) | (cases op <;> rfl)
theorem guard_agg {P : Program} {op : BinOp} {t : Nat} {ox oy : Operand} {xs ys : Array Value} {w : World} (h : P.eqGuardType P.depth t = false) : (eqGuard op t ox oy (.agg xs) (.agg ys)).run P w = .ok () w := by
  unfold eqGuard
  cases op <;> simp [h]
theorem binEq_ok [Tab] {P : Program} {op : BinOp} {t : Nat} {a b v : AV} {x y : Value} {E : AEnv} {w : World} (ha : VR E a x) (hb : VR E b y) (hp : plainPair x y = true)
    (h : (match op with
    | .eql => (eqA P t a b).map .bool
    | .neq => (eqA P t a b).map fun r => .bool (!r)
    | _ => none) = some v) : ∃ z, (binOp op t x y).run P w = .ok z w ∧ VR E v z := by
  cases op <;> try (cases h; done)
  · cases he : eqA P t a b with
    | none => rw [he] at h; cases h
    | some r =>
      rw [he] at h
      injection h with h
      subst h
      exact ⟨.bool r, by rw [binOp_eql hp]; simp [eqA_ok ha hb he], .bool _⟩
  · cases he : eqA P t a b with
    | none => rw [he] at h; cases h
    | some r =>
      rw [he] at h
      injection h with h
      subst h
      exact ⟨.bool (!r), by rw [binOp_neq hp]; simp [eqA_ok ha hb he], .bool _⟩
theorem rngA_int {op : BinOp} {k : IntKind} {lo hi n y : Int} {v : AV} (h1 : lo ≤ n) (h2 : n ≤ hi) (h : rngA op lo hi y = some v) : intA op k n y = some v := by
  unfold rngA at h
  unfold intA
  split at h
  · cases h3 : decide (hi < y) with
    | true =>
      rw [h3] at h
      have h3 := of_decide_eq_true h3
      simp only [cond_true, Option.some.injEq] at h
      subst h
      simp
      omega
    | false =>
      rw [h3] at h
      cases h4 : decide (y ≤ lo) with
      | false => rw [h4] at h; cases h
      | true =>
        rw [h4] at h
        have h4 := of_decide_eq_true h4
        simp only [cond_true, cond_false, Option.some.injEq] at h
        subst h
        simp
        omega
  · cases h3 : decide (y < lo) with
    | true =>
      rw [h3] at h
      have h3 := of_decide_eq_true h3
      simp only [cond_true, Option.some.injEq] at h
      subst h
      simp
      omega
    | false =>
      rw [h3] at h
      cases h4 : decide (hi ≤ y) with
      | false => rw [h4] at h; cases h
      | true =>
        rw [h4] at h
        have h4 := of_decide_eq_true h4
        simp only [cond_true, cond_false, Option.some.injEq] at h
        subst h
        simp
        omega
  · cases h3 : decide (hi ≤ y) with
    | true =>
      rw [h3] at h
      have h3 := of_decide_eq_true h3
      simp only [cond_true, Option.some.injEq] at h
      subst h
      simp
      omega
    | false =>
      rw [h3] at h
      cases h4 : decide (y < lo) with
      | false => rw [h4] at h; cases h
      | true =>
        rw [h4] at h
        have h4 := of_decide_eq_true h4
        simp only [cond_true, cond_false, Option.some.injEq] at h
        subst h
        simp
        omega
  · cases h3 : decide (y ≤ lo) with
    | true =>
      rw [h3] at h
      have h3 := of_decide_eq_true h3
      simp only [cond_true, Option.some.injEq] at h
      subst h
      simp
      omega
    | false =>
      rw [h3] at h
      cases h4 : decide (hi < y) with
      | false => rw [h4] at h; cases h
      | true =>
        rw [h4] at h
        have h4 := of_decide_eq_true h4
        simp only [cond_true, cond_false, Option.some.injEq] at h
        subst h
        simp
        omega
  · cases h3 : (decide (hi < y) || decide (y < lo)) with
    | false => rw [h3] at h; cases h
    | true =>
      rw [h3] at h
      rw [Bool.or_eq_true, decide_eq_true_iff, decide_eq_true_iff] at h3
      simp only [cond_true, Option.some.injEq] at h
      subst h
      have : n ≠ y := by omega
      simp [this]
  · cases h3 : (decide (hi < y) || decide (y < lo)) with
    | false => rw [h3] at h; cases h
    | true =>
      rw [h3] at h
      rw [Bool.or_eq_true, decide_eq_true_iff, decide_eq_true_iff] at h3
      simp only [cond_true, Option.some.injEq] at h
      subst h
      have : n ≠ y := by omega
      simp [this]
  · cases h
theorem symE_int {op : BinOp} {k : IntKind} {n : Int} {v : AV} (h : symE op = some v) : intA op k n n = some v := by
  cases op <;> first | (cases h; done) | (injection h with h; subst h; simp [intA])
theorem eqB_refl [Tab] (l : List UInt8) : eqB l l = true := by rw [eqB_eq]; simp
theorem symE_str [Tab] {op : BinOp} {l : List UInt8} {v : AV} (h : symE op = some v) : strA op l l = some v := by
  cases op <;> first | (cases h; done) | (injection h with h; subst h; simp [strA, eqB_refl])
theorem symB_ok [Tab] {P : Program} {op : BinOp} {t : Nat} {a b v : AV} {x y : Value} {E : AEnv} {w : World} (ha : VR E a x) (hb : VR E b y) (h : symB op a b = some v) : noGuard x y = true ∧ ∃ z, (binOp op t x y).run P w = .ok z w ∧ VR E v z := by
  unfold symB at h
  split at h
  · rename_i c k lo hi k' y'
    cases hk : kindEq k k' with
    | false => rw [hk] at h; cases h
    | true =>
      rw [hk] at h
      have := kindEq_eq hk
      subst this
      cases ha with
      | symI _ _ _ _ n h0 hn h1 h2 =>
        cases hb
        exact ⟨rfl, intA_ok (rngA_int h1 h2 h)⟩
  · rename_i c k _ _ c' k' _ _
    cases he : Nat.beq c c' with
    | false => rw [he] at h; cases h
    | true =>
      rw [he] at h
      cases hk : kindEq k k' with
      | false => rw [hk] at h; cases h
      | true =>
        rw [hk] at h
        have e1 := Nat.eq_of_beq_eq_true he
        subst e1
        have e2 := kindEq_eq hk
        subst e2
        cases ha with
        | symI _ _ _ _ n h0 hn _ _ =>
          cases hb with
          | symI _ _ _ _ m g0 hm _ _ =>
            rw [hn] at hm
            subst hm
            exact ⟨rfl, intA_ok (symE_int h)⟩
  · rename_i c c'
    cases he : Nat.beq c c' with
    | false => rw [he] at h; cases h
    | true =>
      rw [he] at h
      have e1 := Nat.eq_of_beq_eq_true he
      subst e1
      cases ha with
      | symS _ s h0 hs =>
        cases hb with
        | symS _ s' g0 hs' =>
          rw [hs] at hs'
          subst hs'
          exact ⟨rfl, strA_ok (symE_str h)⟩
  · rename_i c _ _ c' _ _
    cases he : Nat.beq c c' with
    | false => rw [he] at h; cases h
    | true =>
      rw [he] at h
      have e1 := Nat.eq_of_beq_eq_true he
      subst e1
      cases ha with
      | symT _ _ _ n h0 hn _ _ =>
        cases hb with
        | symT _ _ _ m g0 hm _ _ =>
          rw [hn] at hm
          subst hm
          exact ⟨rfl, strA_ok (symE_str h)⟩
  · cases h
theorem pair_of_eq1 {d : TypeDesc} {a b : AV} {x y : Value} {r : Bool} {E : AEnv} (ha : VR E a x) (hb : VR E b y) (h : eq1 d a b = some r) (h1 : ∀ k m k' n, a = .int k m → b = .int k' n → False) (h2 : ∀ l m, a = .str l → b = .str m → False) (h3 : ∀ c k lo hi, a = .symI c k lo hi → False) (h4 : ∀ c, a = .symS c → False) (h5 : ∀ c lo hi, a = .symT c lo hi → False) : plainPair x y = true := by
  unfold eq1 at h
  split at h <;> try (cases h; done)
  all_goals first
    | (cases ha; cases hb; rfl)
    | (exact (h1 _ _ _ _ rfl rfl).elim)
    | (exact (h2 _ _ rfl rfl).elim)
    | (exact (h3 _ _ _ _ rfl).elim)
    | (exact (h4 _ rfl).elim)
    | (exact (h5 _ _ _ rfl).elim)
theorem binA_ok [Tab] {P : Program} {op : BinOp} {t : Nat} {ox oy : Operand} {a b v : AV} {x y : Value} {E : AEnv} {w : World} (ha : VR E a x) (hb : VR E b y) (h : binA P op t (isCon ox || isCon oy) a b = some v) :
    ∃ z, (do eqGuard op t ox oy x y; binOp op t x y : Sem Value).run P w = .ok z w ∧ VR E v z := by
  have fin : (eqGuard op t ox oy x y).run P w = .ok () w → (∃ z, (binOp op t x y).run P w = .ok z w ∧ VR E v z) → ∃ z, (do eqGuard op t ox oy x y; binOp op t x y : Sem Value).run P w = .ok z w ∧ VR E v z := by
    rintro hg ⟨z, hz, hv⟩
    exact ⟨z, by simp [hg, hz], hv⟩
  unfold binA at h
  split at h
  · rename_i k m k' n
    cases ha
    cases hb
    refine fin (guard_plain rfl) ?_
    split at h
    · injection h with h
      subst h
      rw [wrapA_eq]
      refine ⟨.int k (k.wrap (m * 2 ^ (min _ k.bits))), ?_, .int _ _⟩
      simp [binOp, Op.shift]
      intro h; omega
    · injection h with h
      subst h
      refine ⟨.int k (m.fdiv (2 ^ (min _ k.bits))), ?_, .int _ _⟩
      simp [binOp, Op.shift]
      intro h; omega
    · cases h
    · cases h
    · cases hk : kindEq k k' with
      | false => rw [hk] at h; cases h
      | true =>
        rw [hk] at h
        have := kindEq_eq hk
        subst this
        exact intA_ok h
  · rename_i l m
    cases ha
    cases hb
    exact fin (guard_plain rfl) (strA_ok h)
  · obtain ⟨h1, h2⟩ := symB_ok (t := t) (w := w) ha hb h
    exact fin (guard_plain h1) h2
  · obtain ⟨h1, h2⟩ := symB_ok (t := t) (w := w) ha hb h
    exact fin (guard_plain h1) h2
  · obtain ⟨h1, h2⟩ := symB_ok (t := t) (w := w) ha hb h
    exact fin (guard_plain h1) h2
  · cases ha
    cases hb
    cases hc : (isCon ox || isCon oy) with
    | false => rw [hc] at h; cases h
    | true =>
      rw [hc] at h
      exact fin (guard_nil hc) (binEq_ok .nili .nili rfl h)
  · cases hg : P.eqGuardType P.depth t with
    | true => rw [hg] at h; cases h
    | false =>
      rw [hg] at h
      obtain ⟨xs, rfl, _⟩ := ha.agg_inv
      obtain ⟨ys, rfl, _⟩ := hb.agg_inv
      exact fin (guard_agg hg) (binEq_ok ha hb rfl h)
  · skip
    rename_i m1 m2 m3 n1 n2 n3 n4
    have he : ∃ r, eqA P t a b = some r := by
      cases op <;> try (cases h; done)
      · cases he : eqA P t a b with
        | none => rw [he] at h; cases h
        | some r => exact ⟨r, rfl⟩
      · cases he : eqA P t a b with
        | none => rw [he] at h; cases h
        | some r => exact ⟨r, rfl⟩
    obtain ⟨r, hr⟩ := he
    have hp : plainPair x y = true ∧ noGuard x y = true := by
      unfold eqA at hr
      split at hr
      · cases hr
      · split at hr
        · exact (n4 _ _ rfl rfl).elim
        · cases hr
      · rename_i d hd _
        refine ⟨pair_of_eq1 ha hb hr (fun k m k' n e1 e2 => n1 _ _ _ _ e1 e2) (fun l m e1 e2 => n2 _ _ e1 e2) (fun c k lo hi e => m1 _ _ _ _ e) (fun c e => m2 _ e) (fun c lo hi e => m3 _ _ _ e), ?_⟩
        unfold eq1 at hr
        split at hr <;> try (cases hr; done)
        all_goals first
          | (cases ha; cases hb; rfl)
          | (exact (n3 rfl rfl).elim)
    exact fin (guard_plain hp.2) (binEq_ok ha hb hp.1 h)

/-- A unary operation. -/
noncomputable def unA (op : UnOp) (a : AV) : Option AV := match op, a with
  | .not, .bool b => some (.bool (!b))
  | .neg, .int k n => some (.int k (wrapA k (0 - n)))
  | _, _ => none
theorem unA_ok [Tab] {P : Program} {op : UnOp} {a v : AV} {x : Value} {E : AEnv} {w : World} (ha : VR E a x) (h : unA op a = some v) : ∃ z, (Op.unary op x).run P w = .ok z w ∧ VR E v z := by
  unfold unA at h
  split at h
  · injection h with h
    subst h
    cases ha
    exact ⟨.bool _, by simp [Op.unary], .bool _⟩
  · injection h with h
    subst h
    cases ha
    rw [wrapA_eq]
    exact ⟨.int _ _, by simp [Op.unary, Op.intArith], .int _ _⟩
  · cases h
/-- A natural number below a bound. -/
noncomputable def natA (y : Nat) : AV → Option Nat
  | .int _ (.ofNat m) => cond (Nat.ble m y) (some m) none
  | _ => none
theorem natA_ok {y m : Nat} {a : AV} {x : Value} {E : AEnv} (ha : VR E a x) (h : natA y a = some m) : ∃ k, x = .int k (m : Int) ∧ m ≤ y := by
  unfold natA at h
  split at h
  · rename_i k m'
    cases hb : Nat.ble m' y with
    | false => rw [hb] at h; cases h
    | true =>
      rw [hb] at h
      injection h with h
      subst h
      cases ha
      exact ⟨k, rfl, Nat.le_of_ble_eq_true hb⟩
  · cases h
/-- A place in an array or a slice. -/
noncomputable def indexAddrA (P : Program) (t : Nat) (a i : AV) : Option AV := match P.underlying t with
  | some (.slice e) => match P.info? e with
    | some ie => match a with
      | .sl b o len _ => match natA len i with
        | some m => cond (Nat.beq m len) none (some (.ptr b (Nat.add o (Nat.mul m ie.size))))
        | none => none
      | .slu b o len _ => match natA len i with
        | some m => cond (Nat.beq m len) none (some (.ptr b (Nat.add o (Nat.mul m ie.size))))
        | none => none
      | _ => none
    | none => none
  | some (.array n e) => match P.info? e with
    | some ie => match a with
      | .ptr b o => match natA n i with
        | some m => cond (Nat.beq m n) none (some (.ptr b (Nat.add o (Nat.mul m ie.size))))
        | none => none
      | _ => none
    | none => none
  | _ => none
theorem indexAddrA_ok [Tab] {P : Program} {t : Nat} {a i v : AV} {x y : Value} {E : AEnv} {w : World} (ha : VR E a x) (hi : VR E i y) (h : indexAddrA P t a i = some v) : ∃ z, (Instr.indexAt t x y).run P w = .ok z w ∧ VR E v z := by
  unfold indexAddrA at h
  split at h
  · rename_i e hu
    split at h
    · rename_i ie hie
      split at h
      · rename_i b o len cap
        split at h
        · rename_i m hm
          obtain ⟨k, rfl, hle⟩ := natA_ok hi hm
          cases hb : Nat.beq m len with
          | true => rw [hb] at h; cases h
          | false =>
            rw [hb] at h
            injection h with h
            subst h
            have hlt : m < len := by
              have : m ≠ len := fun e => by rw [e, Nat.beq_refl] at hb; cases hb
              omega
            cases ha with
            | sl b o len cap hbn =>
            exact ⟨_, by simp [Instr.indexAt, asIntOf, run_underlying hu, sizeOf, typeInfo, hie, hlt, Addr.add_lit], .ptr _ _ hbn⟩
        · cases h
      · rename_i b o len esz
        split at h
        · rename_i m hm
          obtain ⟨k, rfl, hle⟩ := natA_ok hi hm
          cases hb : Nat.beq m len with
          | true => rw [hb] at h; cases h
          | false =>
            rw [hb] at h
            injection h with h
            subst h
            have hlt : m < len := by
              have : m ≠ len := fun e => by rw [e, Nat.beq_refl] at hb; cases hb
              omega
            cases ha with
            | slu b o len esz cap hbn _ _ =>
            exact ⟨_, by simp [Instr.indexAt, asIntOf, run_underlying hu, sizeOf, typeInfo, hie, hlt, Addr.add_lit], .ptr _ _ hbn⟩
        · cases h
      · cases h
    · cases h
  · rename_i n e hu
    split at h
    · rename_i ie hie
      split at h
      · rename_i b o
        split at h
        · rename_i m hm
          obtain ⟨k, rfl, hle⟩ := natA_ok hi hm
          cases hb : Nat.beq m n with
          | true => rw [hb] at h; cases h
          | false =>
            rw [hb] at h
            injection h with h
            subst h
            have hlt : m < n := by
              have : m ≠ n := fun e => by rw [e, Nat.beq_refl] at hb; cases hb
              omega
            cases ha with
            | ptr b o hbn =>
            exact ⟨_, by simp [Instr.indexAt, asIntOf, Instr.sureAddr, run_underlying hu, sizeOf, typeInfo, hie, hlt, Addr.add_lit], .ptr _ _ hbn⟩
        · cases h
      · cases h
    · cases h
  · cases h
end Go.Proofs.YthmojpcaagnfkaaGreatDoor


/-
  The abstract machine's operations: parts, places, slices, conversions. No program.
-/
namespace Go.Proofs.YthmojpcaagnfkaaGreatDoor
open Go.RowKit

/-- A byte of a string; an element of an array. -/
noncomputable def indexA (P : Program) (t : Nat) (a i : AV) : Option AV := match a with
  | .str l => match P.underlying t with
    | some .string => match natA l.length i with
      | some m => match l[m]? with
        | some c => some (.int .u8 (Int.ofNat c.toNat))
        | none => none
      | none => none
    | _ => none
  | _ => none
theorem mk_get (l : List UInt8) (m : Nat) : (⟨l.toArray⟩ : ByteArray)[m]? = l[m]? := by
  by_cases h : m < l.length
  · have h' : m < (⟨l.toArray⟩ : ByteArray).size := by simpa [ByteArray.size] using h
    rw [ByteArray.getElem?_lt' _ _ h', List.getElem?_eq_getElem h]
    rfl
  · have h' : ¬ m < (⟨l.toArray⟩ : ByteArray).size := by simpa [ByteArray.size] using h
    rw [ByteArray.getElem?_ge' _ _ h', List.getElem?_eq_none (by omega)]
theorem indexA_ok [Tab] {P : Program} {t : Nat} {a i v : AV} {x y : Value} {E : AEnv} {w : World} (ha : VR E a x) (hi : VR E i y) (h : indexA P t a i = some v) : ∃ z, (Instr.index t x y).run P w = .ok z w ∧ VR E v z := by
  unfold indexA at h
  split at h
  · rename_i l
    split at h
    · rename_i hu
      split at h
      · rename_i m hm
        split at h
        · rename_i c hc
          injection h with h
          subst h
          obtain ⟨k, rfl, _⟩ := natA_ok hi hm
          cases ha
          exact ⟨.int .u8 c.toNat, by simp [Instr.index, asIntOf, run_underlying hu, mk_get, hc], .int _ _⟩
        · cases h
      · cases h
    · cases h
  · cases h
noncomputable def fieldAt (P : Program) (t f : Nat) : Option (Nat × Nat × Bool) := match P.underlying t with
  | some (.struct fs) => match fs[f]? with
    | some fd => match P.info? fd.type with
      | some i => match P.underlying fd.type with
        | some d => some (fd.offset, i.size, rowD d)
        | none => none
      | none => none
    | none => none
  | _ => none
noncomputable def fieldAddrA (P : Program) (t f : Nat) (a : AV) : Option AV := match a with
  | .ptr b o => match fieldAt P t f with
    | some q => cond (Nat.beq q.2.1 0) none (some (.ptr b (Nat.add o q.1)))
    | none => none
  | _ => none
theorem fieldAddrA_ok {P : Program} {t f : Nat} {a v : AV} {x : Value} {E : AEnv} {w : World} (ha : VR E a x) (h : fieldAddrA P t f a = some v) : ∃ z, (Instr.fieldAt t x f).run P w = .ok z w ∧ VR E v z := by
  unfold fieldAddrA at h
  split at h
  · rename_i b o
    split at h
    · rename_i q hq
      cases hz : Nat.beq q.2.1 0 with
      | true => rw [hz] at h; cases h
      | false =>
        rw [hz] at h
        injection h with h
        subst h
        unfold fieldAt at hq
        split at hq
        · rename_i fs hu
          split at hq
          · rename_i fd hfd
            split at hq
            · rename_i i hi
              split at hq
              · injection hq with hq
                subst hq
                have hne : i.size ≠ 0 := fun e => by simp [e] at hz
                cases ha with
                | ptr b o hb =>
                exact ⟨_, by simp [Instr.fieldAt, run_underlying hu, hfd, Instr.sureAddr, fieldPlace, sizeOf, typeInfo, hi, hne, Addr.add_lit], .ptr _ _ hb⟩
              · cases hq
            · cases hq
          · cases hq
        · cases hq
    · cases h
  · cases h
noncomputable def fieldA (P : Program) (t f : Nat) (a : AV) : Option AV := match a with
  | .agg cs => match fieldAt P t f with
    | some q => cond q.2.2 (cond (Nat.ble (Nat.add q.1 q.2.1) cs.length) (some (.agg ((cs.drop q.1).take q.2.1))) none) cs[q.1]?
    | none => none
  | _ => none
theorem fieldA_ok [Tab] {P : Program} {t f : Nat} {a v : AV} {x : Value} {E : AEnv} {w : World} (ha : VR E a x) (h : fieldA P t f a = some v) : ∃ z, (Instr.field t x f).run P w = .ok z w ∧ VR E v z := by
  unfold fieldA at h
  split at h
  · rename_i cs
    obtain ⟨c, rfl, hc⟩ := ha.agg_inv
    split at h
    · rename_i q hq
      unfold fieldAt at hq
      split at hq
      · rename_i fs hu
        split at hq
        · rename_i fd hfd
          split at hq
          · rename_i i hi
            split at hq
            · rename_i d hd
              injection hq with hq
              subst hq
              dsimp only at h
              cases hr : rowD d with
              | true =>
                rw [hr] at h
                simp only [cond_true] at h
                cases hl : Nat.ble (Nat.add fd.offset i.size) cs.length with
                | false => rw [hl] at h; cases h
                | true =>
                  rw [hl] at h
                  injection h with h
                  subst h
                  refine ⟨.agg (c.extract fd.offset (fd.offset + i.size)), by simp [Instr.field, run_underlying hu, hfd, asAgg, part, isAgg_run hd, hr, sizeOf, typeInfo, hi], VL.agg ?_⟩
                  have := (hc.drop fd.offset).take i.size
                  rw [Array.toList_extract]
                  simpa [List.extract] using this
              | false =>
                rw [hr] at h
                simp only [cond_false] at h
                obtain ⟨z, hz, hv⟩ := hc.exists_at h
                exact ⟨z, by simp [Instr.field, run_underlying hu, hfd, asAgg, part, isAgg_run hd, hr, show c[fd.offset]? = some z by simpa using hz], hv⟩
            · cases hq
          · cases hq
        · cases hq
      · cases hq
    · cases h
  · cases h
noncomputable def extractA (a : AV) (i : Nat) : Option AV := match a with
  | .tup vs => vs[i]?
  | _ => none
theorem extractA_ok [Tab] {P : Program} {i : Nat} {a v : AV} {x : Value} {E : AEnv} {w : World} (ha : VR E a x) (h : extractA a i = some v) : ∃ z, (Instr.extract x i).run P w = .ok z w ∧ VR E v z := by
  unfold extractA at h
  split at h
  · obtain ⟨c, rfl, hc⟩ := ha.tup_inv
    obtain ⟨z, hz, hv⟩ := hc.exists_at h
    exact ⟨z, by simp [Instr.extract, show c[i]? = some z by simpa using hz], hv⟩
  · cases h
/-- Bounds of a slice. -/
noncomputable def bndA (y d : Nat) : Option AV → Option Nat
  | none => some d
  | some a => natA y a
noncomputable def OR (E : AEnv) : Option AV → Option Value → Prop
  | none, none => True
  | some a, some x => VR E a x
  | _, _ => False
theorem bnd_run {P : Program} {y m : Nat} {k : IntKind} (code : BoundsCode) (w : World) (h : m ≤ y) : (Instr.sliceBound (.int k (m : Int)) y code).run P w = .ok m w := by
  simp [Instr.sliceBound, asIntOf]
  omega
noncomputable def sliceA (P : Program) (t : Nat) (a : AV) (lo hi mx : Option AV) : Option AV := match P.underlying t with
  | some .string => match a, mx with
    | .str l, none => match bndA l.length l.length hi with
      | some h => match bndA h 0 lo with
        | some q => some (.str ((l.drop q).take (Nat.sub h q)))
        | none => none
      | none => none
    | _, _ => none
  | some (.slice e) => match P.info? e with
    | some ie => match a with
      | .sl b o len cap => match bndA cap cap mx with
        | some m => match bndA m len hi with
          | some h => match bndA h 0 lo with
            | some q => cond (match hi, mx with | none, some _ => true | _, _ => false) none (some (.sl b (cond (Nat.beq m q) o (Nat.add o (Nat.mul q ie.size))) (Nat.sub h q) (Nat.sub m q)))
            | none => none
          | none => none
        | none => none
      | .slu b o len esz => cond (Nat.beq esz ie.size) (match mx with
        | some x => match natA len x, hi with
          | some m, some hv => match natA m hv with
            | some h => match bndA h 0 lo with
              | some q => some (.sl b (cond (Nat.beq m q) o (Nat.add o (Nat.mul q ie.size))) (Nat.sub h q) (Nat.sub m q))
              | none => none
            | none => none
          | _, _ => none
        | none => match bndA len len hi with
          | some h => match bndA h 0 lo with
            | some q => cond (Nat.ble (Nat.succ q) len) (some (.slu b (Nat.add o (Nat.mul q ie.size)) (Nat.sub h q) esz)) none
            | none => none
          | none => none) none
      | .nils => match mx with
        | none => match bndA 0 0 hi with
          | some _ => match bndA 0 0 lo with
            | some _ => some .nils
            | none => none
          | none => none
        | some _ => none
      | _ => none
    | none => none
  | _ => none
theorem bndA_ok [Tab] {y d m : Nat} {a : Option AV} {x : Option Value} {E : AEnv} (ha : OR E a x) (h : bndA y d a = some m) : (x = none ∧ m = d) ∨ ∃ k, x = some (.int k (m : Int)) ∧ m ≤ y := by
  cases a with
  | none =>
    cases x with
    | none => injection h with h; exact .inl ⟨rfl, h.symm⟩
    | some x => exact ha.elim
  | some a =>
    cases x with
    | none => exact ha.elim
    | some x =>
      obtain ⟨k, rfl, hle⟩ := natA_ok ha h
      exact .inr ⟨k, rfl, hle⟩
theorem bounds2 [Tab] {P : Program} (isS : Bool) {len cap h q : Nat} {lo hi : Option Value} (w : World) (hh : (hi = none ∧ h = len) ∨ ∃ k, hi = some (.int k (h : Int)) ∧ h ≤ cap) (hl : (lo = none ∧ q = 0) ∨ ∃ k, lo = some (.int k (q : Int)) ∧ q ≤ h) :
    (Instr.sliceBounds isS len cap lo hi none).run P w = .ok (q, h, cap) w := by
  rcases hh with ⟨rfl, rfl⟩ | ⟨k, rfl, h1⟩ <;> rcases hl with ⟨rfl, rfl⟩ | ⟨k', rfl, h2⟩ <;> simp [Instr.sliceBounds, bnd_run, *]
theorem bounds3 [Tab] {P : Program} {len cap m h q : Nat} {k k2 : IntKind} {lo : Option Value} (w : World) (hl : (lo = none ∧ q = 0) ∨ ∃ k, lo = some (.int k (q : Int)) ∧ q ≤ h) (h0 : m ≤ cap) (h1 : h ≤ m) :
    (Instr.sliceBounds true len cap lo (some (.int k (h : Int))) (some (.int k2 (m : Int)))).run P w = .ok (q, h, m) w := by
  rcases hl with ⟨rfl, rfl⟩ | ⟨k', rfl, h2⟩ <;> simp [Instr.sliceBounds, bnd_run, *]
theorem bnd_le [Tab] {y d m : Nat} {a : Option AV} {x : Option Value} {E : AEnv} (ha : OR E a x) (h : bndA y d a = some m) (hd : d ≤ y) : m ≤ y := by
  rcases bndA_ok ha h with ⟨_, rfl⟩ | ⟨_, _, h⟩
  · exact hd
  · exact h
theorem sliceA_run {P : Program} {t e : Nat} {ie : TypeInfo} {b o len cap q h m : Nat} {lo hi mx : Option Value} {w : World} (hu : P.underlying t = some (.slice e)) (hie : P.info? e = some ie)
    (hb : (Instr.sliceBounds true len cap lo hi mx).run P w = .ok (q, h, m) w) :
    (Instr.sliceAt t (.slice (some ⟨b, o, none⟩) len cap) lo hi mx).run P w = .ok (.slice (some ⟨b, cond (Nat.beq m q) o (o + q * ie.size), none⟩) (h - q) (m - q)) w := by
  simp [Instr.sliceAt, Instr.slice, run_underlying hu, hb, sizeOf, typeInfo, hie]
  by_cases e : m = q
  · subst e
    simp
  · rw [if_neg e]
    have : Nat.beq m q = false := by rw [Bool.eq_false_iff]; exact fun h' => e (Nat.eq_of_beq_eq_true h')
    rw [this]
    simp [Addr.add_lit]
theorem sliceA_ok [Tab] {P : Program} {t : Nat} {a v : AV} {lo hi mx : Option AV} {x : Value} {lo' hi' mx' : Option Value} {E : AEnv} {w : World} (ha : VR E a x) (hlo : OR E lo lo') (hhi : OR E hi hi') (hmx : OR E mx mx') (h : sliceA P t a lo hi mx = some v) :
    ∃ z, (Instr.sliceAt t x lo' hi' mx').run P w = .ok z w ∧ VR E v z := by
  unfold sliceA at h
  split at h
  · rename_i hu
    split at h
    · rename_i l
      split at h
      · rename_i hh hbh
        split at h
        · rename_i q hbq
          injection h with h
          subst h
          cases ha
          cases mx' with
          | some _ => exact hmx.elim
          | none =>
            have := bounds2 (P := P) false (len := l.length) (cap := l.length) w (bndA_ok hhi hbh) (bndA_ok hlo hbq)
            exact ⟨.string ⟨((l.drop q).take (hh - q)).toArray⟩, by simp [Instr.sliceAt, Instr.slice, run_underlying hu, ByteArray.size_mk', this, ByteArray.extract_mk], .str _⟩
        · cases h
      · cases h
    · cases h
  · rename_i e hu
    split at h
    · rename_i ie hie
      split at h
      · rename_i b o len cap
        cases ha with
        | sl b o len cap hb =>
        split at h
        · rename_i m hbm
          split at h
          · rename_i hh hbh
            split at h
            · rename_i q hbq
              cases mx with
              | none =>
                cases mx' with
                | some _ => exact hmx.elim
                | none =>
                  injection hbm with hbm
                  subst hbm
                  have h' : some (AV.sl b (cond (Nat.beq cap q) o (o + q * ie.size)) (hh - q) (cap - q)) = some v := by cases hi <;> exact h
                  injection h' with h'
                  subst h'
                  exact ⟨_, sliceA_run hu hie (bounds2 true w (bndA_ok hhi hbh) (bndA_ok hlo hbq)), .sl _ _ _ _ hb⟩
              | some x =>
                cases hi with
                | none => cases h
                | some y =>
                  replace h : some (AV.sl b (cond (Nat.beq m q) o (o + q * ie.size)) (hh - q) (m - q)) = some v := h
                  injection h with h'
                  subst h'
                  rcases bndA_ok hmx hbm with ⟨e1, _⟩ | ⟨k2, rfl, g1⟩
                  · subst e1; exact hmx.elim
                  · rcases bndA_ok hhi hbh with ⟨e1, _⟩ | ⟨k, rfl, g2⟩
                    · subst e1; exact hhi.elim
                    · exact ⟨_, sliceA_run hu hie (bounds3 w (bndA_ok hlo hbq) g1 g2), .sl _ _ _ _ hb⟩
            · cases h
          · cases h
        · cases h
      · rename_i b o len esz
        cases ha with
        | slu b o len esz cap hb hl hk =>
        cases hes : Nat.beq esz ie.size with
        | false => rw [hes] at h; cases h
        | true =>
          rw [hes] at h
          simp only [cond_true] at h
          have hee : esz = ie.size := Nat.eq_of_beq_eq_true hes
          split at h
          · rename_i x
            cases mx' with
            | none => exact hmx.elim
            | some x' =>
              split at h
              · rename_i m hv hm
                cases hi' with
                | none => exact hhi.elim
                | some y' =>
                  split at h
                  · rename_i hh hbh
                    split at h
                    · rename_i q hbq
                      injection h with h
                      subst h
                      obtain ⟨k2, rfl, g1⟩ := natA_ok hmx hm
                      obtain ⟨k, rfl, g2⟩ := natA_ok hhi hbh
                      exact ⟨_, sliceA_run hu hie (bounds3 w (bndA_ok hlo hbq) (by omega) g2), .sl _ _ _ _ hb⟩
                    · cases h
                  · cases h
              · cases h
          · cases mx' with
            | some _ => exact hmx.elim
            | none =>
              split at h
              · rename_i hh hbh
                split at h
                · rename_i q hbq
                  cases hq : Nat.ble (Nat.succ q) len with
                  | false => rw [hq] at h; cases h
                  | true =>
                    rw [hq] at h
                    injection h with h
                    subst h
                    have hql : q + 1 ≤ len := Nat.le_of_ble_eq_true hq
                    have hhl := bnd_le hhi hbh (Nat.le_refl _)
                    have hne : Nat.beq cap q = false := by rw [Bool.eq_false_iff]; exact fun h' => by have := Nat.eq_of_beq_eq_true h'; omega
                    have hr := sliceA_run (P := P) (b := E.r b) (o := o) (w := w) hu hie (bounds2 true (len := len) (cap := cap) (lo := lo') (hi := hi') w ((bndA_ok hhi hbh).imp id fun ⟨k, h1, h2⟩ => ⟨k, h1, by omega⟩) (bndA_ok hlo hbq))
                    rw [hne] at hr
                    refine ⟨_, hr, ?_⟩
                    refine .slu b (o + q * ie.size) (hh - q) esz (cap - q) hb (by omega) ?_
                    rw [← hk, hee, Nat.sub_mul]
                    have : q * ie.size ≤ cap * ie.size := Nat.mul_le_mul_right _ (by omega)
                    omega
                · cases h
              · cases h
      · cases ha
        split at h
        · cases mx' with
          | some _ => exact hmx.elim
          | none =>
            split at h
            · rename_i hh hbh
              split at h
              · rename_i q hbq
                injection h with h
                subst h
                have g1 := bnd_le hhi hbh (Nat.le_refl _)
                have g2 := bnd_le hlo hbq (Nat.le_refl _)
                have e1 : hh = 0 := by omega
                have e2 : q = 0 := by omega
                subst e1
                subst e2
                have := bounds2 (P := P) true (len := 0) (cap := 0) w (bndA_ok hhi hbh) (bndA_ok hlo hbq)
                exact ⟨.slice none 0 0, by simp [Instr.sliceAt, Instr.slice, run_underlying hu, this, sizeOf, typeInfo, hie], .nils⟩
              · cases h
            · cases h
        · cases h
      · cases h
    · cases h
  · cases h
end Go.Proofs.YthmojpcaagnfkaaGreatDoor


/-
  The abstract machine: append, conversions, lengths. No program.
-/
namespace Go.Proofs.YthmojpcaagnfkaaGreatDoor
open Go.RowKit

theorem HR.drop [Tab] {E : AEnv} {s : AS} {w : World} (h : HR E s.get w) (b : Nat) (hb : b < 1000000000) : HR E (s.put b .none).get w ∧ Stp E s.get w E (s.put b .none).get w := by
  refine h.lift ?_
  have hne : ∀ c, c ≠ b → (s.put b .none).get c = s.get c := fun c hc => s.get_put_ne b _ c hc
  have hat := s.get_put b .none hb
  have hin : ∀ c, (s.put b .none).get c ≠ .none → c ≠ b ∧ s.get c ≠ .none := fun c hc => by
    by_cases e : c = b
    · rw [e, hat] at hc; exact absurd rfl hc
    · exact ⟨e, by rw [← hne c e]; exact hc⟩
  refine ⟨⟨fun c hc => ?_, fun c d hc hd he => h.inj c d (hin c hc).2 (hin d hd).2 he⟩, ⟨rfl, rfl, rfl, Nat.le_refl _, AEnv.le.refl E, fun _ _ => rfl, fun _ _ _ => rfl, fun c hc => .inr ⟨c, (hin c hc).2, rfl⟩⟩⟩
  obtain ⟨e1, e2⟩ := hin c hc
  rw [hne c e1]
  exact h.at_ c e2
/-- A block that goes on under a new number. -/
theorem HR.move [Tab] {E : AEnv} {s : AS} {w w' : World} (h : HR E s.get w) {b : Nat} {cs cs' : List AV} {ty0 : Nat} (hg : s.get b = .cells cs ty0) (hi : ¬ E.ok s.n) (hl : s.n < 1000000000) {c : Array Value} {ty : TypeId} {fz : Nat × Nat} (hsz : w'.heap.size = w.heap.size) (hos : w'.os = w.os) (htp : w'.tape = w.tape) (hou : w'.output = w.output)
    (hoth : ∀ d, d ≠ E.r b → w'.heap[d]? = w.heap[d]?) (ho : w'.heap[E.r b]? = some (.cells c ty fz)) (hc : c.size = E.k b) (hlen : cs'.length ≤ c.size) (hv : VL E cs' (c.toList.take cs'.length)) (hfz : ∀ i, i < c.size → ¬ (fz.1 ≤ i ∧ i < fz.2)) :
    HR (E.more s.n (E.r b) (E.k b)) ((s.put b .none).new (.cells cs' ty)).get w' ∧ Stp E s.get w (E.more s.n (E.r b) (E.k b)) ((s.put b .none).new (.cells cs' ty)).get w' := by
  refine h.lift ?_
  have hbn : s.get b ≠ .none := by rw [hg]; intro e; cases e
  have hok := (h.at_ b hbn).1
  have hlim := (h.at_ b hbn).2.1
  have hle := E.le_more s.n (E.r b) (E.k b) hi
  have hat : ((s.put b .none).new (.cells cs' ty)).get s.n = .cells cs' ty := (s.put b .none).get_new _ hl
  have hne : ∀ d, d ≠ s.n → ((s.put b .none).new (.cells cs' ty)).get d ≠ .none → d ≠ b ∧ s.get d ≠ .none ∧ ((s.put b .none).new (.cells cs' ty)).get d = s.get d := fun d hd hn => by
    have e1 : ((s.put b .none).new (.cells cs' ty)).get d = (s.put b .none).get d := (s.put b .none).get_new_ne _ d hd
    by_cases e : d = b
    · rw [e1, e, s.get_put b .none hlim] at hn
      exact absurd rfl hn
    · have e2 := s.get_put_ne b .none d e
      exact ⟨e, by rw [← e2, ← e1]; exact hn, e1.trans e2⟩
  have hr : ∀ d, s.get d ≠ .none → (E.more s.n (E.r b) (E.k b)).r d = E.r d := fun d hd => hle.r d (h.ok hd)
  refine ⟨⟨fun d hd => ?_, fun d e hd he hde => ?_⟩, ⟨hos, htp, hou, by omega, hle, fun d hd => AEnv.more_z_old E s.n _ _ hi _ hd, fun d hd hn => hoth d (fun e => hn b hbn e.symm), fun d hd => ?_⟩⟩
  · by_cases e : d = s.n
    · subst e
      rw [hat]
      refine ⟨E.more_ok _ _ _, hl, .cells c ty fz, ?_, c, fz, rfl, ?_, hlen, hv.mono hle, hfz⟩
      · rw [AEnv.more_r]; exact ho
      · rw [AEnv.more_k]; exact hc
    · obtain ⟨e1, e2, e3⟩ := hne d e hd
      rw [e3]
      obtain ⟨q1, q1', o', q2, q3⟩ := h.at_ d e2
      refine ⟨.inl q1, q1', o', ?_, q3.mono hle q1 (AEnv.more_z_old E s.n _ _ hi _ q1)⟩
      rw [hr d e2]
      exact (hoth _ (fun e4 => e1 (h.inj d b e2 hbn e4))).trans q2
  · by_cases e1 : d = s.n
    · by_cases e2 : e = s.n
      · rw [e1, e2]
      · exfalso
        obtain ⟨g1, g2, _⟩ := hne e e2 he
        rw [e1, AEnv.more_r, hr e g2] at hde
        exact g1 (h.inj e b g2 hbn hde.symm)
    · obtain ⟨g1, g2, _⟩ := hne d e1 hd
      by_cases e2 : e = s.n
      · exfalso
        rw [e2, AEnv.more_r, hr d g2] at hde
        exact g1 (h.inj d b g2 hbn hde)
      · obtain ⟨_, g4, _⟩ := hne e e2 he
        rw [hr d g2, hr e g4] at hde
        exact h.inj d e g2 g4 hde
  · by_cases e : d = s.n
    · exact .inr ⟨b, hbn, by rw [e, AEnv.more_r]⟩
    · obtain ⟨_, e2, _⟩ := hne d e hd
      exact .inr ⟨d, e2, (hr d e2).symm⟩

/-- What is appended. -/
noncomputable def srcA (P : Program) (size tx : Nat) (x : AV) (s : AS) : Option (Nat × List AV) := match P.underlying tx with
  | some (.slice _) => match x with
    | .nils => some (0, [])
    | .sl b o n _ => match s.get b with
      | .cells cs _ => cond (Nat.ble (Nat.add o (Nat.mul n size)) cs.length) (some (n, (cs.drop o).take (Nat.mul n size))) none
      | _ => none
    | .slu b o n _ => match s.get b with
      | .cells cs _ => cond (Nat.ble (Nat.add o (Nat.mul n size)) cs.length) (some (n, (cs.drop o).take (Nat.mul n size))) none
      | _ => none
    | _ => none
  | some .string => match x with
    | .str l => cond (Nat.beq size 1) (some (l.length, l.map fun c => .int .u8 (Int.ofNat c.toNat))) none
    | _ => none
  | _ => none
theorem VL.ones [Tab] {E : AEnv} {l : List AV} {a : List Value} (h : VL E l a) (hl : l.all oneA = true) : ∀ u ∈ a, u.oneCell' = true := fun u hu => by
  obtain ⟨i, hi⟩ := List.mem_iff_getElem?.1 hu
  have hil : i < l.length := by rw [h.len]; exact (List.getElem?_eq_some_iff.1 hi).1
  exact (oneA_ok (h.at_ i _ u (List.getElem?_eq_getElem hil) hi) (List.all_eq_true.1 hl _ (List.getElem_mem hil))).1
theorem srcA_ok [Tab] {P : Program} {size tx n : Nat} {x : AV} {y : Value} {s : AS} {E : AEnv} {w : World} {news : List AV} (h : HR E s.get w) (hx : VR E x y) (he : srcA P size tx x s = some (n, news)) (h1 : news.all oneA = true) : ∃ xs, VL E news xs ∧ Src P size tx y n xs w := by
  unfold srcA at he
  split at he
  · rename_i e' hk
    split at he
    · injection he with he
      injection he with e1 e2
      subst e1
      subst e2
      cases hx
      exact ⟨[], VL.nil, Src.ofNil w hk 0⟩
    · rename_i b o m c
      split at he
      · rename_i cs cty hg
        cases hl : Nat.ble (Nat.add o (Nat.mul m size)) cs.length with
        | false => rw [hl] at he; cases he
        | true =>
          rw [hl] at he
          injection he with he
          injection he with e1 e2
          subst e1
          subst e2
          obtain ⟨vs, q1, q2, q3⟩ := h.range hg (o := o) (n := m * size) (Nat.le_of_ble_eq_true hl)
          cases hx
          exact ⟨vs, q2, Src.ofSlice w hk _ m c vs q1 (fun j u hu => by rw [Addr.add_mid]; exact q3 j u hu) (q2.ones h1)⟩
      · cases he
    · rename_i b o m c
      split at he
      · rename_i cs cty hg
        cases hl : Nat.ble (Nat.add o (Nat.mul m size)) cs.length with
        | false => rw [hl] at he; cases he
        | true =>
          rw [hl] at he
          injection he with he
          injection he with e1 e2
          subst e1
          subst e2
          obtain ⟨vs, q1, q2, q3⟩ := h.range hg (o := o) (n := m * size) (Nat.le_of_ble_eq_true hl)
          cases hx
          exact ⟨vs, q2, Src.ofSlice w hk _ m _ vs q1 (fun j u hu => by rw [Addr.add_mid]; exact q3 j u hu) (q2.ones h1)⟩
      · cases he
    · cases he
  · rename_i hk
    split at he
    · rename_i l
      cases hs : Nat.beq size 1 with
      | false => rw [hs] at he; cases he
      | true =>
        rw [hs] at he
        injection he with he
        injection he with e1 e2
        subst e1
        subst e2
        have := Nat.eq_of_beq_eq_true hs
        subst this
        cases hx
        have hsrc := Src.ofString (P := P) w hk ⟨l.toArray⟩
        refine ⟨byteCells ⟨l.toArray⟩, ?_, by rw [ByteArray.size_mk'] at hsrc; simpa using hsrc⟩
        refine ⟨by simp [byteCells], fun i c v h1 h2 => ?_⟩
        unfold byteCells at h2
        rw [List.getElem?_map] at h1 h2
        cases hi : l[i]? with
        | none => rw [hi] at h1; cases h1
        | some u =>
          rw [hi] at h1
          simp only [hi, Option.map_some] at h2
          injection h1 with h1
          injection h2 with h2
          subst h1
          subst h2
          exact .int _ _
    · cases he
  · cases he
noncomputable def growA (e need bytes esz : Nat) (cells : List AV) (s : AS) : Option (AV × AS) :=
  cond (Nat.ble (Nat.mul need bytes) 1000000000000) (cond (Nat.ble need 1000000000000) (match newA s cells e with
    | some (.ptr b _, s') => some (.slu b 0 need esz, s')
    | _ => none) none) none
noncomputable def appendA (P : Program) (ts : List Nat) (a x : AV) (s : AS) : Option (AV × AS) := match ts with
  | [t, tx] => match P.underlying t with
    | some (.slice e) => match P.info? e with
      | some ie => match zeroA P e with
        | some zs => cond (Nat.beq zs.length ie.size) (match srcA P ie.size tx x s with
          | some (n, news) => cond (news.all oneA) (match a with
            | .nils => match n with
              | 0 => some (.nils, s)
              | m + 1 => growA e (m + 1) ie.bytes ie.size news s
            | .sl b o len cap => match s.get b with
              | .cells cs cty => cond (Nat.ble (Nat.add len n) cap)
                  (cond (Nat.ble (Nat.add (Nat.add o (Nat.mul len ie.size)) news.length) cs.length) (some (.sl b o (Nat.add len n) cap, s.put b (.cells (putL cs (Nat.add o (Nat.mul len ie.size)) news) cty))) none)
                  (cond (Nat.ble (Nat.add o (Nat.mul len ie.size)) cs.length) (growA e (Nat.add len n) ie.bytes ie.size (List.append ((cs.drop o).take (Nat.mul len ie.size)) news) s) none)
              | _ => none
            | .slu b o len esz => cond (Nat.beq o 0) (cond (Nat.beq esz ie.size) (match s.get b with
              | .cells cs cty => cond (Nat.beq cty e) (cond (Nat.ble (Nat.mul len ie.size) cs.length) (growA e (Nat.add len n) ie.bytes ie.size (List.append (cs.take (Nat.mul len ie.size)) news) (s.put b .none)) none) none
              | _ => none) none) none
            | _ => none) none
          | none => none) none
        | none => none
      | none => none
    | _ => none
  | _ => none
/-- A new row. -/
theorem growA_ok [Tab] {P : Program} {t tx ty e : Nat} {ie : TypeInfo} {z : Value} {base : Option Addr} {sLen sCap n : Nat} {olds xs : List Value} {y : Value} {w : World} {E : AEnv} {s s' : AS} {cells : List AV} {v : AV}
    (hu : P.underlying t = some (.slice e)) (hie : P.info? e = some ie) (hz : ie.zero = some z) (hzs : z.cells.size = ie.size) (h : HR E s.get w) (hi : ¬ E.ok s.n) (hsrc : Src P ie.size tx y n xs w)
    (hold : (Builtin.firstCells ie.size sLen (.slice base sLen sCap)).run P w.drew = .ok olds.toArray w.drew) (hol : olds.length = sLen * ie.size) (hg : sCap < sLen + n) (hv : VL E cells (olds ++ xs)) (he : growA e (sLen + n) ie.bytes ie.size cells s = some (v, s')) :
    Ran P (Builtin.append_ #[t, tx] ty #[.slice base sLen sCap, y]) w E s v s' := by
  unfold growA at he
  cases h1 : Nat.ble (Nat.mul (sLen + n) ie.bytes) 1000000000000 with
  | false => rw [h1] at he; cases he
  | true =>
  cases h2 : Nat.ble (sLen + n) 1000000000000 with
  | false => rw [h1, h2] at he; cases he
  | true =>
    rw [h1, h2] at he
    simp only [cond_true] at he
    split at he
    · rename_i b o s'' hn
      injection he with he
      injection he with e1 e2
      subst e1
      subst e2
      obtain ⟨hl, e3, rfl⟩ := newA_ok hn
      injection e3 with e4 e5
      subst e4
      subst e5
      have g1 : (sLen + n) * ie.bytes ≤ 1000000000000 := Nat.le_of_ble_eq_true h1
      have hnc := nextslicecap_le hg
      have hfit : Builtin.nextslicecap (sLen + n) sCap * ie.bytes ≤ 281474976710656 := by
        have := Nat.mul_le_mul_right ie.bytes hnc
        rw [Nat.mul_assoc] at this
        omega
      have g2 : sLen + n ≤ 1000000000000 := Nat.le_of_ble_eq_true h2
      have hrun := run_append_grow_src (P := P) w t tx ty e ie z hu hie hz base sLen sCap olds hold y n xs hsrc hg (by omega) hfit
      obtain ⟨g, hgc⟩ : ∃ g, grownCap w (sLen + n) sCap e = g := ⟨_, rfl⟩
      have hge : sLen + n ≤ g := by
        rw [← hgc]
        exact Nat.le_add_right _ _
      rw [hgc] at hrun
      have hcells : cells.length = (olds ++ xs).length := hv.len
      have hxl := hsrc.newsLen
      have htot : ((olds ++ xs).toArray ++ Builtin.zeroCells z.cells (g - (sLen + n))).size = g * ie.size := by
        simp only [Array.size_append, size_zeroCells, hzs, List.size_toArray, List.length_append, hol, hxl]
        rw [← Nat.add_mul, ← Nat.add_mul]
        congr 1
        omega
      have hclen : (olds ++ xs).length ≤ g * ie.size := by
        rw [List.length_append, hol, hxl, ← Nat.add_mul]
        exact Nat.mul_le_mul_right _ hge
      obtain ⟨r1, r2⟩ := h.newCells (cs := cells) (c := (olds ++ xs).toArray ++ Builtin.zeroCells z.cells (g - (sLen + n))) (ty := e) hi hl
        (by rw [Array.toList_append, hcells, List.take_left']; exact hv; simp) (by rw [htot, hcells]; exact hclen) _ (.inr rfl)
      refine ⟨_, _, _, hrun, ?_, r1, r2, E.grow_more _ _ _⟩
      have := VR.slu (E := E.more s.n w.heap.size ((olds ++ xs).toArray ++ Builtin.zeroCells z.cells (g - (sLen + n))).size) s.n 0 (sLen + n) ie.size g (E.more_ok _ _ _) hge (by rw [AEnv.more_k, htot, Nat.zero_add])
      rw [AEnv.more_r] at this
      exact this
    · cases he
theorem appendA_ok [Tab] {P : Program} {t tx : Nat} {ts : List Nat} {ty : TypeId} {a x v : AV} {y u : Value} {s s' : AS} {E : AEnv} {w : World} (h : HR E s.get w) (hi : ¬ E.ok s.n) (ha : VR E a u) (hx : VR E x y) (hts : ts = [t, tx]) (he : appendA P ts a x s = some (v, s')) :
    Ran P (Builtin.append_ #[t, tx] ty #[u, y]) w E s v s' := by
  subst hts
  unfold appendA at he
  dsimp only at he
  split at he
  · rename_i e hu
    split at he
    · rename_i ie hie
      split at he
      · rename_i zs hzs
        have hz : ∃ z, ie.zero = some z ∧ z.cells.size = zs.length := by
          unfold zeroA at hzs
          rw [hie] at hzs
          dsimp only at hzs
          split at hzs
          · rename_i z hz
            injection hzs with hzs
            subst hzs
            exact ⟨z, hz, by simp⟩
          · cases hzs
        obtain ⟨z, hz, hzl⟩ := hz
        cases h1 : Nat.beq zs.length ie.size with
        | false => rw [h1] at he; cases he
        | true =>
          rw [h1] at he
          simp only [cond_true] at he
          have hsz : z.cells.size = ie.size := by rw [hzl]; exact Nat.eq_of_beq_eq_true h1
          split at he
          · rename_i n news hs
            cases h2 : news.all oneA with
            | false => rw [h2] at he; cases he
            | true =>
              rw [h2] at he
              simp only [cond_true] at he
              obtain ⟨xs, q1, q2⟩ := srcA_ok h hx hs h2
              have hnl : news.length = n * ie.size := by rw [q1.len]; exact q2.newsLen
              split at he
              · cases ha
                split at he
                · injection he with he
                  injection he with e1 e2
                  subst e1
                  subst e2
                  have hx0 : xs = [] := List.eq_nil_of_length_eq_zero (by have := q2.newsLen; simpa using this)
                  subst hx0
                  refine Ran.same (x := .slice none 0 0) h ?_ .nils
                  have hc := q2.cells
                  have hl := q2.len w
                  rcases q2.kind with ⟨e', hk⟩ | hk <;> simp [Builtin.append_, run_underlying hu, run_underlying hk, sizeOf, typeInfo, hie, hl, hc]
                · rename_i m
                  have := growA_ok (ty := ty) (base := none) (sLen := 0) (sCap := 0) (olds := []) (cells := news) (v := v) (s' := s') hu hie hz hsz h hi q2 (run_firstCells_none w.drew ie.size 0 0 0) (by simp) (by omega) (by simpa using q1) (by rw [Nat.zero_add]; exact he)
                  exact this
              · rename_i b o len cap
                cases ha with
                | sl b o len cap hb =>
                split at he
                · rename_i cs cty hg
                  cases h3 : Nat.ble (Nat.add len n) cap with
                  | true =>
                    rw [h3] at he
                    simp only [cond_true] at he
                    cases h4 : Nat.ble (Nat.add (Nat.add o (Nat.mul len ie.size)) news.length) cs.length with
                    | false => rw [h4] at he; cases he
                    | true =>
                      rw [h4] at he
                      injection he with he
                      injection he with e1 e2
                      subst e1
                      subst e2
                      have g3 : len + n ≤ cap := Nat.le_of_ble_eq_true h3
                      have g4 : o + len * ie.size + news.length ≤ cs.length := Nat.le_of_ble_eq_true h4
                      obtain ⟨_, c, fz, k1, k2, k3, _, _⟩ := h.cells hg
                      have ht := h.there hg (o := o + len * ie.size) (n := xs.length) (by rw [← q1.len]; omega)
                      obtain ⟨r1, r2⟩ := h.store hg q1 g4
                      exact ⟨_, _, E, run_append_room_src w t tx ty e ie hu hie (E.r b) o len cap y n xs q2 g3 (fun j hj => (ht j hj).1) (fun j hj => (ht j hj).2), .sl b o (len + n) cap hb, r1, r2, Grow.refl _ _⟩
                  | false =>
                    rw [h3] at he
                    simp only [cond_false] at he
                    have g3 : cap < len + n := by
                      rcases Nat.lt_or_ge cap (len + n) with h | h
                      · exact h
                      · have := Nat.ble_eq_true_of_le h; rw [show (len + n).ble cap = (len.add n).ble cap from rfl, h3] at this; cases this
                    cases h4 : Nat.ble (Nat.add o (Nat.mul len ie.size)) cs.length with
                    | false => rw [h4] at he; cases he
                    | true =>
                      rw [h4] at he
                      simp only [cond_true] at he
                      obtain ⟨vs, k1, k2, k3⟩ := h.range hg (o := o) (n := len * ie.size) (Nat.le_of_ble_eq_true h4)
                      have hold := run_firstCells_some (P := P) w.drew ie.size len (⟨E.r b, o, none⟩ : Addr) len cap vs k1 (fun j u hu => by rw [Addr.add_mid]; exact k3 j u hu)
                      exact growA_ok (ty := ty) hu hie hz hsz h hi q2 hold k1 g3 (k2.append q1) he
                · cases he
              · rename_i b o len esz
                cases ha with
                | slu b o len esz cap hb hlc hk =>
                cases h3 : Nat.beq o 0 with
                | false => rw [h3] at he; cases he
                | true =>
                cases h4 : Nat.beq esz ie.size with
                | false => rw [h3, h4] at he; cases he
                | true =>
                  rw [h3, h4] at he
                  simp only [cond_true] at he
                  have g3 := Nat.eq_of_beq_eq_true h3
                  have g4 := Nat.eq_of_beq_eq_true h4
                  subst g3
                  subst g4
                  split at he
                  · rename_i cs cty hg
                    cases h8 : Nat.beq cty e with
                    | false => rw [h8] at he; cases he
                    | true =>
                    cases h5 : Nat.ble (Nat.mul len ie.size) cs.length with
                    | false => rw [h8, h5] at he; cases he
                    | true =>
                      rw [h8, h5] at he
                      have g8 := (Nat.eq_of_beq_eq_true h8).symm
                      subst g8
                      simp only [cond_true] at he
                      have g5 : len * ie.size ≤ cs.length := Nat.le_of_ble_eq_true h5
                      obtain ⟨hbn, c, fz, k1, k2, k3, k4, k5⟩ := h.cells hg
                      obtain ⟨vs, m1, m2, m3⟩ := h.range hg (o := 0) (n := len * ie.size) (by omega)
                      rw [List.drop_zero] at m2
                      obtain ⟨d1, d2⟩ := h.drop b (h.at_ b (by rw [hg]; intro e; cases e)).2.1
                      rcases Nat.lt_or_ge cap (len + n) with hcap | hcap
                      · have hold := run_firstCells_some (P := P) w.drew ie.size len (⟨E.r b, 0, none⟩ : Addr) len cap vs m1 (fun j u hu => by rw [Addr.add_mid]; exact m3 j u hu)
                        obtain ⟨x', w', E', p1, p2, p3, p4, p5⟩ := growA_ok (ty := ty) hu hie hz hsz d1 hi q2 hold m1 hcap (m2.append q1) he
                        exact ⟨x', w', E', p1, p2, p3, d2.trans p4, p5⟩
                      · unfold growA at he
                        cases h6 : Nat.ble (Nat.mul (Nat.add len n) ie.bytes) 1000000000000 with
                        | false => rw [h6] at he; cases he
                        | true =>
                        cases h7 : Nat.ble (Nat.add len n) 1000000000000 with
                        | false => rw [h6, h7] at he; cases he
                        | true =>
                          rw [h6, h7] at he
                          simp only [cond_true] at he
                          split at he
                          · rename_i b2 o2 s'' hn
                            injection he with he
                            injection he with e1 e2
                            subst e1
                            subst e2
                            obtain ⟨hl, e3, rfl⟩ := newA_ok hn
                            injection e3 with e4 e5
                            subst e4
                            subst e5
                            have hxl := q2.newsLen
                            have hfit : len * ie.size + xs.length ≤ c.size := by
                              rw [hxl, ← Nat.add_mul, k2, ← hk, Nat.zero_add]
                              exact Nat.mul_le_mul_right _ hcap
                            have ht := h.there hg (o := len * ie.size) (n := xs.length) (by omega)
                            have hrun := run_append_room_src (P := P) w t tx ty e ie hu hie (E.r b) 0 len cap y n xs q2 hcap (fun j hj => by rw [Nat.zero_add]; exact (ht j hj).1) (fun j hj => by rw [Nat.zero_add]; exact (ht j hj).2)
                            rw [Nat.zero_add] at hrun
                            obtain ⟨p1, p2, p3, p4, p5⟩ := setCells_same xs (E.r b) (len * ie.size) w
                            have hnews : (cs.take (len * ie.size) ++ news).length = len * ie.size + xs.length := by rw [List.length_append, List.length_take, q1.len]; omega
                            obtain ⟨r1, r2⟩ := h.move (w' := w.setCells (E.r b) (len * ie.size) xs) (cs' := cs.take (len * ie.size) ++ news) hg hi hl p4 p1 p2 p3 p5 (heap_setCells xs (E.r b) (len * ie.size) w c _ fz k1) (by rw [putC_size]; exact k2) (by rw [hnews, putC_size]; exact hfit)
                              (by
                                rw [hnews, putC_list _ _ _ hfit, List.append_assoc, ← List.append_assoc, List.take_left' (by rw [List.length_append, List.length_take]; simp; omega)]
                                refine VL.append ?_ q1
                                have := k4.take (len * ie.size)
                                rw [List.take_take, Nat.min_eq_left g5] at this
                                exact this) (by rw [putC_size]; exact k5)
                            refine ⟨_, _, _, hrun, ?_, r1, r2, E.grow_more _ _ _⟩
                            have := VR.slu (E := E.more s.n (E.r b) (E.k b)) s.n 0 (len + n) ie.size cap (E.more_ok _ _ _) hcap (by rw [AEnv.more_k]; exact hk)
                            rw [AEnv.more_r] at this
                            exact this
                          · cases he
                  · cases he
              · cases he
          · cases he
      · cases he
    · cases he
  · cases he
end Go.Proofs.YthmojpcaagnfkaaGreatDoor


/-
  The abstract machine: conversions, maps, lengths; all operations but calls. No program.
-/
namespace Go.Proofs.YthmojpcaagnfkaaGreatDoor
open Go.RowKit

noncomputable def bytesA : List AV → Option (List UInt8)
  | [] => some []
  | .int .u8 (.ofNat m) :: r => match bytesA r with
    | some l => some (UInt8.ofNat m :: l)
    | none => none
  | _ :: _ => none
theorem bytesA_ok [Tab] {E : AEnv} : ∀ {cs : List AV} {vs : List Value} {l : List UInt8}, VL E cs vs → bytesA cs = some l → ∃ ns : List Int, vs = ns.map (Value.int .u8) ∧ ns.map (fun n => UInt8.ofNat n.toNat) = l
  | [], [], l, _, h => by injection h with h; subst h; exact ⟨[], rfl, rfl⟩
  | [], v :: vs, _, hv, _ => by have := hv.len; simp at this
  | c :: cs, [], _, hv, _ => by have := hv.len; simp at this
  | c :: cs, v :: vs, l, hv, h => by
    unfold bytesA at h
    split at h
    · rename_i he; cases he
    · rename_i m r he
      injection he with e1 e2
      subst e1
      subst e2
      split at h
      · rename_i l' hl'
        injection h with h
        subst h
        obtain ⟨ns, e3, e4⟩ := bytesA_ok hv.tail hl'
        have hh := hv.head
        cases hh
        exact ⟨(m : Int) :: ns, by rw [e3]; rfl, by rw [List.map_cons, e4]; rfl⟩
      · cases h
    · cases h
theorem push_bytes [Tab] : ∀ (ns : List Int) (r : List UInt8), ns.foldl (fun r n => r.push (UInt8.ofNat n.toNat)) (⟨r.toArray⟩ : ByteArray) = ⟨(r ++ ns.map (fun n => UInt8.ofNat n.toNat)).toArray⟩
  | [], r => by simp
  | n :: ns, r => by
    rw [List.foldl_cons]
    have e : (⟨r.toArray⟩ : ByteArray).push (UInt8.ofNat n.toNat) = ⟨(r ++ [UInt8.ofNat n.toNat]).toArray⟩ := by
      simp [ByteArray.push]
    rw [e, push_bytes ns]
    simp
noncomputable def convA (P : Program) (src dst : Nat) (x : AV) (s : AS) : Option (AV × AS) := match P.underlying src with
  | none => none
  | some sd => match P.underlying dst with
    | some (.int k) => match x with
      | .int _ n => some (.int k (wrapA k n), s)
      | .symI b .i64 lo hi => match k with
        | .i64 => cond (decide (-9223372036854775808 ≤ lo) && decide (hi ≤ 9223372036854775807)) (some (.symI b .i64 lo hi, s)) none
        | _ => none
      | _ => none
    | some .string => match x with
      | .str l => some (.str l, s)
      | .int _ n => some (.str (Utf8.encode n).data.toList, s)
      | .nils => match sd with
        | .slice e => match P.underlying e with
          | some (.int .u8) => some (.str [], s)
          | _ => none
        | _ => none
      | .sl b o n _ => match sd with
        | .slice e => match P.underlying e with
          | some (.int .u8) => match s.get b with
            | .cells cs _ => cond (Nat.ble (Nat.add o n) cs.length) (match bytesA ((cs.drop o).take n) with
              | some l => some (.str l, s)
              | none => none) none
            | .zero m _ => cond (Nat.beq o 0) (cond (Nat.ble n m) (some (.symZ n, s)) none) none
            | _ => none
          | _ => none
        | _ => none
      | .slu b o n _ => match sd with
        | .slice e => match P.underlying e with
          | some (.int .u8) => match s.get b with
            | .cells cs _ => cond (Nat.ble (Nat.add o n) cs.length) (match bytesA ((cs.drop o).take n) with
              | some l => some (.str l, s)
              | none => none) none
            | _ => none
          | _ => none
        | _ => none
      | _ => none
    | some (.slice e) => match sd with
      | .string => match x with
        | .str l => match P.underlying e with
          | some (.int .u8) => match newA s (l.map fun c => .int .u8 (Int.ofNat c.toNat)) e with
            | some (.ptr b _, s') => some (.slu b 0 l.length 1, s')
            | _ => none
          | _ => none
        | _ => none
      | _ => none
    | _ => none
theorem bytes_ok [Tab] {P : Program} {src dst e b o n c : Nat} {cs : List AV} {l : List UInt8} {s : AS} {E : AEnv} {w : World} (h : HR E s.get w) (hs : P.underlying src = some (.slice e)) (he : P.underlying e = some (.int .u8)) (hd : P.underlying dst = some .string)
    {ty : Nat} (hg : s.get b = .cells cs ty) (ho : o + n ≤ cs.length) (hl : bytesA ((cs.drop o).take n) = some l) : (convert src dst (.slice (some ⟨E.r b, o, none⟩) n c)).run P w = .ok (.string ⟨l.toArray⟩) w := by
  obtain ⟨vs, q1, q2, q3⟩ := h.range hg ho
  obtain ⟨ns, e1, e2⟩ := bytesA_ok q2 hl
  have hlc : (loadCells ⟨E.r b, o, none⟩ n).run P w = .ok (ns.map (Value.int .u8)).toArray w := by
    rw [← e1, ← q1]
    exact run_loadCells_list (P := P) w ⟨E.r b, o, none⟩ vs (fun j v hv => by rw [Addr.add_mid]; exact q3 j v hv)
  rw [run_convert_bytes_string w src dst e _ n c hs he hd, run_bytesToString w _ n c ns hlc]
  have := push_bytes ns []
  rw [List.nil_append, e2] at this
  exact congrArg (fun z => Result.ok (Value.string z) w) this
theorem zeros_ok [Tab] {P : Program} {src dst e b n m c : Nat} {s : AS} {E : AEnv} {w : World} (h : HR E s.get w) (hs : P.underlying src = some (.slice e)) (he : P.underlying e = some (.int .u8)) (hd : P.underlying dst = some .string)
    {ty : Nat} (hg : s.get b = .zero m ty) (ho : n ≤ m) : (convert src dst (.slice (some ⟨E.r b, 0, none⟩) n c)).run P w = .ok (.string ⟨(List.replicate n (0 : UInt8)).toArray⟩) w := by
  obtain ⟨_, _, o, q1, q2⟩ := h.at_ b (by rw [hg]; intro e; cases e)
  rw [hg] at q2
  obtain ⟨cs, rfl, q3, _⟩ := q2
  have hlc : (loadCells ⟨E.r b, 0, none⟩ n).run P w = .ok ((List.replicate n (0 : Int)).map (Value.int .u8)).toArray w := by
    have := run_loadCells_list (P := P) w ⟨E.r b, 0, none⟩ ((List.replicate n (0 : Int)).map (Value.int .u8)) (fun j v hv => by
      rw [Addr.add_mid]
      rw [List.map_replicate, List.getElem?_replicate] at hv
      split at hv
      · rename_i hj
        rw [← hv]
        have : cs[0 + j]? = some (.int .u8 0) := by
          rw [← Array.getElem?_toList, q3, List.getElem?_replicate, if_pos (by omega)]
        unfold World.cell?
        rw [q1]
        exact this
      · cases hv)
    simpa using this
  rw [run_convert_bytes_string w src dst e _ n c hs he hd, run_bytesToString w _ n c _ hlc]
  have := push_bytes (List.replicate n (0 : Int)) []
  rw [List.nil_append, List.map_replicate] at this
  exact congrArg (fun z => Result.ok (Value.string z) w) this
theorem convA_ok [Tab] {P : Program} {src dst : Nat} {x v : AV} {y : Value} {s s' : AS} {E : AEnv} {w : World} (h : HR E s.get w) (hi : ¬ E.ok s.n) (hx : VR E x y) (he : convA P src dst x s = some (v, s')) : Ran P (convert src dst y) w E s v s' := by
  unfold convA at he
  split at he
  · cases he
  · rename_i sd hs
    split at he
    · rename_i k hd
      split at he
      · rename_i q n
        injection he with he
        injection he with e1 e2
        subst e1
        subst e2
        cases hx
        rw [wrapA_eq]
        exact Ran.same (x := .int k (k.wrap n)) h (by simp [convert, run_underlying hs, run_underlying hd, Conv.intToInt]) (.int _ _)
      · rename_i b lo hi
        split at he
        · cases hc : (decide (-9223372036854775808 ≤ lo) && decide (hi ≤ 9223372036854775807)) with
          | false => rw [hc] at he; cases he
          | true =>
            rw [hc] at he
            injection he with he
            injection he with e1 e2
            subst e1
            subst e2
            rw [Bool.and_eq_true, decide_eq_true_iff, decide_eq_true_iff] at hc
            cases hx with
            | symI _ _ _ _ n h0 hn h1 h2 =>
              exact Ran.same (x := .int .i64 n) h (by simp [convert, run_underlying hs, run_underlying hd, Conv.intToInt, IntWalk.i64_in n (by omega)]) (.symI _ _ _ _ n h0 hn h1 h2)
        · cases he
      · cases he
    · rename_i hd
      split at he
      · rename_i l
        injection he with he
        injection he with e1 e2
        subst e1
        subst e2
        cases hx
        exact Ran.same (x := .string ⟨l.toArray⟩) h (by cases sd <;> simp [convert, run_underlying hs, run_underlying hd]) (.str _)
      · rename_i q n
        injection he with he
        injection he with e1 e2
        subst e1
        subst e2
        cases hx
        exact Ran.same (x := .string (Utf8.encode n)) h (run_convert_int_string w src dst q n (by rw [hs]; rfl) hd) (.str _)
      · split at he
        · rename_i e
          split at he
          · rename_i hu
            injection he with he
            injection he with e1 e2
            subst e1
            subst e2
            cases hx
            exact Ran.same (x := .string ⟨#[]⟩) h (by rw [run_convert_bytes_string w src dst e none 0 0 hs hu hd]; rfl) (.str [])
          · cases he
        · cases he
      · rename_i b o n c
        split at he
        · rename_i e
          split at he
          · rename_i hu
            split at he
            · rename_i cs cty hg
              cases hl : Nat.ble (Nat.add o n) cs.length with
              | false => rw [hl] at he; cases he
              | true =>
                rw [hl] at he
                simp only [cond_true] at he
                split at he
                · rename_i l hb
                  injection he with he
                  injection he with e1 e2
                  subst e1
                  subst e2
                  cases hx
                  exact Ran.same h (bytes_ok h hs hu hd hg (Nat.le_of_ble_eq_true hl) hb) (.str _)
                · cases he
            · rename_i m mty hg
              cases h1 : Nat.beq o 0 with
              | false => rw [h1] at he; cases he
              | true =>
              cases h2 : Nat.ble n m with
              | false => rw [h1, h2] at he; cases he
              | true =>
                rw [h1, h2] at he
                injection he with he
                injection he with e1 e2
                subst e1
                subst e2
                have g1 := Nat.eq_of_beq_eq_true h1
                subst g1
                cases hx
                exact Ran.same h (zeros_ok h hs hu hd hg (Nat.le_of_ble_eq_true h2)) (.symZ n _ List.length_replicate)
            · cases he
          · cases he
        · cases he
      · rename_i b o n c
        split at he
        · rename_i e
          split at he
          · rename_i hu
            split at he
            · rename_i cs cty hg
              cases hl : Nat.ble (Nat.add o n) cs.length with
              | false => rw [hl] at he; cases he
              | true =>
                rw [hl] at he
                simp only [cond_true] at he
                split at he
                · rename_i l hb
                  injection he with he
                  injection he with e1 e2
                  subst e1
                  subst e2
                  cases hx
                  exact Ran.same h (bytes_ok h hs hu hd hg (Nat.le_of_ble_eq_true hl) hb) (.str _)
                · cases he
            · cases he
          · cases he
        · cases he
      · cases he
    · rename_i e hd
      split at he
      · split at he
        · rename_i l
          split at he
          · rename_i hu
            split at he
            · rename_i b o s'' hn
              injection he with he
              injection he with e1 e2
              subst e1
              subst e2
              obtain ⟨hl, e3, rfl⟩ := newA_ok hn
              injection e3 with e4 e5
              subst e4
              subst e5
              cases hx
              have hrun := run_bytes_of_string (P := P) w src dst e ⟨l.toArray⟩ hs hd hu
              obtain ⟨g, hgc⟩ : ∃ g, grownCap w (⟨l.toArray⟩ : ByteArray).size 0 e = g := ⟨_, rfl⟩
              have hge : l.length ≤ g := by
                rw [← hgc]
                exact Nat.le_add_right _ _
              rw [hgc] at hrun
              have hsz : (bytesRow ⟨l.toArray⟩ g).size = g := by
                simp [bytesRow, ByteArray.size]
                omega
              have hv : VL E (l.map fun c => AV.int .u8 (Int.ofNat c.toNat)) ((bytesRow ⟨l.toArray⟩ g).toList.take (l.map fun c => AV.int .u8 (Int.ofNat c.toNat)).length) := by
                have e : (bytesRow ⟨l.toArray⟩ g).toList.take (l.map fun c => AV.int .u8 (Int.ofNat c.toNat)).length = l.map fun c => Value.int .u8 c.toNat := by
                  simp [bytesRow]
                rw [e]
                refine ⟨by simp, fun i c v h1 h2 => ?_⟩
                rw [List.getElem?_map] at h1 h2
                cases hi : l[i]? with
                | none => rw [hi] at h1; cases h1
                | some u =>
                  rw [hi] at h1 h2
                  injection h1 with h1
                  injection h2 with h2
                  subst h1
                  subst h2
                  exact .int _ _
              obtain ⟨r1, r2⟩ := h.new hi hl (.cells (l.map fun c => AV.int .u8 (Int.ofNat c.toNat)) e) (.cells (bytesRow ⟨l.toArray⟩ g) e ((bytesRow ⟨l.toArray⟩ g).size, (bytesRow ⟨l.toArray⟩ g).size + 1)) g _ (.inr rfl)
                ⟨_, _, rfl, by rw [hsz, AEnv.more_k], by rw [hsz]; simpa using hge, hv.mono (E.le_more _ _ _ hi), fun i hi h => by omega⟩
              refine ⟨_, _, _, hrun, ?_, r1, r2, E.grow_more _ _ _⟩
              have := VR.slu (E := E.more s.n w.heap.size g) s.n 0 l.length 1 g (E.more_ok _ _ _) hge (by rw [AEnv.more_k]; omega)
              rw [AEnv.more_r] at this
              rw [ByteArray.size_mk']
              exact this
            · cases he
          · cases he
        · cases he
      · cases he
    · cases he
end Go.Proofs.YthmojpcaagnfkaaGreatDoor


/-
  The abstract machine: maps. No program.
-/
namespace Go.Proofs.YthmojpcaagnfkaaGreatDoor
open Go.RowKit

noncomputable def keyEqA (kd : TypeDesc) (a b : AV) : Option Bool := match kd with
  | .int _ => match a, b with
    | .int k x, .int k' y => cond (kindEq k k') (some (x == y)) none
    | _, _ => none
  | .string => match a, b with
    | .str x, .str y => some (eqB x y)
    | _, _ => none
  | _ => none
theorem keyEqA_ok [Tab] {kd : TypeDesc} {a b : AV} {x y : Value} {E : AEnv} {r : Bool} (ha : VR E a x) (hb : VR E b y) (h : keyEqA kd a b = some r) : Instr.sameNow kd x y = some r := by
  unfold keyEqA at h
  split at h
  · split at h
    · rename_i k x k' y
      cases hk : kindEq k k' with
      | false => rw [hk] at h; cases h
      | true =>
        rw [hk] at h
        injection h with h
        subst h
        have := kindEq_eq hk
        subst this
        cases ha
        cases hb
        simp [Instr.sameNow]
    · cases h
  · split at h
    · rename_i x y
      injection h with h
      subst h
      cases ha
      cases hb
      have e : (({ data := x.toArray } : ByteArray) == { data := y.toArray }) = eqB x y := by
        show (x.toArray == y.toArray) = _
        rw [eqB_eq, Bool.eq_iff_iff]
        simp
      simp [Instr.sameNow, e]
    · cases h
  · cases h
noncomputable def findA (kd : TypeDesc) (k : AV) : List (AV × AV × Nat) → Nat → Option (Option (Nat × AV))
  | [], _ => some none
  | e :: r, i => match keyEqA kd k e.1 with
    | some true => some (some (i, e.2.1))
    | some false => findA kd k r (Nat.succ i)
    | none => none
theorem findA_none [Tab] {kd : TypeDesc} {k : AV} {x : Value} {E : AEnv} (hk : VR E k x) : ∀ (es : List (AV × AV × Nat)) (l : List MapEntry) (i : Nat), VL E (es.map (·.1)) (l.map (·.key)) → findA kd k es i = some none → Instr.findNow kd x l i = some none
  | [], [], _, _, _ => rfl
  | [], e :: l, _, h, _ => by have := h.len; simp at this
  | e :: es, [], _, h, _ => by have := h.len; simp at this
  | e :: es, m :: l, i, h, hf => by
    unfold findA at hf
    split at hf
    · cases hf
    · rename_i he
      have := keyEqA_ok hk h.head he
      simp only [Instr.findNow, this]
      exact findA_none hk es l (i + 1) h.tail hf
    · cases hf
theorem findA_some [Tab] {kd : TypeDesc} {k v : AV} {x : Value} {E : AEnv} {j : Nat} (hk : VR E k x) : ∀ (es : List (AV × AV × Nat)) (l : List MapEntry) (i : Nat), VL E (es.map (·.1)) (l.map (·.key)) → VL E (es.map (·.2.1)) (l.map (·.val)) → findA kd k es i = some (some (j, v)) →
    ∃ y, Instr.findNow kd x l i = some (some (j, y)) ∧ VR E v y
  | [], [], _, _, _, hf => by cases hf
  | [], e :: l, _, h, _, _ => by have := h.len; simp at this
  | e :: es, [], _, h, _, _ => by have := h.len; simp at this
  | e :: es, m :: l, i, h, hv, hf => by
    unfold findA at hf
    split at hf
    · rename_i he
      injection hf with hf
      injection hf with hf
      injection hf with e1 e2
      subst e1
      subst e2
      have := keyEqA_ok hk h.head he
      exact ⟨m.val, by simp only [Instr.findNow, this], hv.head⟩
    · rename_i he
      have := keyEqA_ok hk h.head he
      obtain ⟨y, h1, h2⟩ := findA_some hk es l (i + 1) h.tail hv.tail hf
      exact ⟨y, by simp only [Instr.findNow, this]; exact h1, h2⟩
    · cases hf
noncomputable def keyD : TypeDesc → Bool
  | .int _ => true
  | .string => true
  | _ => false
theorem checkKey_run {P : Program} {e : Bool} {n t : Nat} {d : TypeDesc} {x : Value} {w : World} (hd : P.underlying t = some d) (hk : keyD d = true) : (Instr.checkKey e (n + 1) t x).run P w = .ok () w := by
  cases d <;> first | (cases hk; done) | simp [Instr.checkKey, run_underlying hd]
theorem findKey_run {P : Program} {t : Nat} {d : TypeDesc} {x : Value} {l : List MapEntry} {r : Option (Nat × Value)} {w : World} (hd : P.underlying t = some d) (h : Instr.findNow d x l 0 = some r) : (Instr.findKey t x l).run P w = .ok r w := by
  simp [Instr.findKey, run_underlying hd, h]
theorem HR.mapb [Tab] {E : AEnv} {s : Nat → AB} {w : World} (h : HR E s w) {b : Nat} {es : List (AV × AV × Nat)} {clock : Nat} (hg : s b = .mapb es clock) :
    E.ok b ∧ ∃ xs : Array MapEntry, w.heap[E.r b]? = some (.map xs clock) ∧ VL E (es.map (·.1)) (xs.toList.map (·.key)) ∧ VL E (es.map (·.2.1)) (xs.toList.map (·.val)) ∧ es.map (·.2.2) = xs.toList.map (·.born) := by
  have hne : s b ≠ .none := by rw [hg]; intro e; cases e
  obtain ⟨h1, _, o, h2, h3⟩ := h.at_ b hne
  rw [hg] at h3
  obtain ⟨xs, rfl, h4, h5, h6⟩ := h3
  exact ⟨h1, xs, h2, h4, h5, h6⟩
noncomputable def zeroVA (P : Program) (t : Nat) : Option AV := match P.info? t with
  | some i => match i.zero with
    | some v => some (absV v)
    | none => none
  | none => none
theorem zeroVA_ok [Tab] {P : Program} {t : Nat} {v : AV} (h : zeroVA P t = some v) : ∃ z, (∀ w, (zeroValue t).run P w = .ok z w) ∧ ∀ E, VR E v z := by
  unfold zeroVA at h
  split at h
  · rename_i i hi
    split at h
    · rename_i v hz
      injection h with h
      subst h
      exact ⟨v, fun w => by simp [zeroValue, typeInfo, hi, hz], fun E => absV_ok E _⟩
    · cases h
  · cases h
noncomputable def lookA (ok : Bool) (v : AV) (b : Bool) : AV := cond ok (.tup [v, .bool b]) v
noncomputable def lookupA (P : Program) (t : Nat) (m k : AV) (ok : Bool) (s : AS) : Option AV := match P.underlying t with
  | some (.map kt et) => match P.underlying kt with
    | some kd => cond (keyD kd) (match m with
      | .nilm => match zeroVA P et with
        | some z => some (lookA ok z false)
        | none => none
      | .mapp b => match s.get b with
        | .mapb es _ => match findA kd k es 0 with
          | some (some p) => some (lookA ok p.2 true)
          | some none => match zeroVA P et with
            | some z => some (lookA ok z false)
            | none => none
          | none => none
        | _ => none
      | _ => none) none
    | none => none
  | _ => none
theorem lookA_ok [Tab] {E : AEnv} {ok b : Bool} {v : AV} {y : Value} (h : VR E v y) : VR E (lookA ok v b) (if ok then .tuple #[y, .bool b] else y) := by
  cases ok
  · exact h
  · exact (VL.cons h (VL.cons (.bool b) VL.nil)).tup (a := #[y, .bool b])
theorem lookupA_ok [Tab] {P : Program} {t : Nat} {m k v : AV} {ok : Bool} {x y : Value} {s : AS} {E : AEnv} {w : World} (h : HR E s.get w) (hm : VR E m x) (hk : VR E k y) (he : lookupA P t m k ok s = some v) : ∃ z, (Instr.lookup t x y ok).run P w = .ok z w ∧ VR E v z := by
  unfold lookupA at he
  split at he
  · rename_i kt et hu
    split at he
    · rename_i kd hkd
      cases hkk : keyD kd with
      | false => rw [hkk] at he; cases he
      | true =>
        rw [hkk] at he
        simp only [cond_true] at he
        split at he
        · split at he
          · rename_i z hz
            injection he with he
            subst he
            cases hm
            obtain ⟨z', hz1, hz2⟩ := zeroVA_ok hz
            exact ⟨_, by simp [Instr.lookup, run_underlying hu, checkKey_run hkd hkk, findKey_run (l := []) hkd rfl, hz1], lookA_ok (hz2 E)⟩
          · cases he
        · rename_i b
          split at he
          · rename_i es clock hg
            cases hm with
            | mapp b hb =>
            obtain ⟨_, xs, h1, h2, h3, h4⟩ := h.mapb hg
            split at he
            · rename_i p hf
              injection he with he
              subst he
              obtain ⟨y', h5, h6⟩ := findA_some hk es xs.toList 0 h2 h3 hf
              exact ⟨_, by simp [Instr.lookup, run_underlying hu, getObj, Sem.run, h1, checkKey_run hkd hkk, findKey_run hkd h5], lookA_ok h6⟩
            · rename_i hf
              have h5 := findA_none hk es xs.toList 0 h2 hf
              split at he
              · rename_i z hz
                injection he with he
                subst he
                obtain ⟨z', hz1, hz2⟩ := zeroVA_ok hz
                exact ⟨_, by simp [Instr.lookup, run_underlying hu, getObj, Sem.run, h1, checkKey_run hkd hkk, findKey_run hkd h5, hz1], lookA_ok (hz2 E)⟩
              · cases he
            · cases he
          · cases he
        · cases he
    · cases he
  · cases he
/-- An entry put in. -/
noncomputable def setEnt : List (AV × AV × Nat) → Nat → AV → AV → List (AV × AV × Nat)
  | [], _, _, _ => []
  | e :: r, 0, k, v => (k, v, e.2.2) :: r
  | e :: r, i + 1, k, v => e :: setEnt r i k v
noncomputable def updA (P : Program) (t : Nat) (m k v : AV) (s : AS) : Option AS := match P.underlying t with
  | some (.map kt _) => match P.underlying kt with
    | some kd => cond (keyD kd) (match m with
      | .mapp b => match s.get b with
        | .mapb es clock => match findA kd k es 0 with
          | some none => some (s.put b (.mapb (List.append es [(k, v, clock)]) (Nat.succ clock)))
          | _ => none
        | _ => none
      | _ => none) none
    | none => none
  | _ => none
theorem updA_ok [Tab] {P : Program} {t : Nat} {m k v : AV} {x y z : Value} {s s' : AS} {E : AEnv} {w : World} (h : HR E s.get w) (hm : VR E m x) (hk : VR E k y) (hv : VR E v z) (he : updA P t m k v s = some s') :
    ∃ w', (Instr.mapUpdate t x y z).run P w = .ok () w' ∧ HR E s'.get w' ∧ Stp E s.get w E s'.get w' ∧ s'.n = s.n := by
  unfold updA at he
  split at he
  · rename_i kt et hu
    split at he
    · rename_i kd hkd
      cases hkk : keyD kd with
      | false => rw [hkk] at he; cases he
      | true =>
        rw [hkk] at he
        simp only [cond_true] at he
        split at he
        · rename_i b
          split at he
          · rename_i es clock hg
            cases hm with
            | mapp b hb =>
            obtain ⟨_, xs, h1, h2, h3, h4⟩ := h.mapb hg
            split at he
            · rename_i hf
              injection he with he
              subst he
              have h5 := findA_none hk es xs.toList 0 h2 hf
              have hlt := (Array.getElem?_eq_some_iff.1 h1).1
              obtain ⟨r1, r2⟩ := h.over (w' := { w with heap := w.heap.setIfInBounds (E.r b) (.map (xs.push { key := y, val := z, born := clock }) (clock + 1)) }) (b := b) (by rw [hg]; intro e; cases e) (.mapb (es ++ [(k, v, clock)]) (clock + 1)) (.map (xs.push { key := y, val := z, born := clock }) (clock + 1))
                (by simp) rfl rfl rfl (fun d hd => by simp [Array.getElem?_setIfInBounds, Ne.symm hd]) (by simp [Array.getElem?_setIfInBounds, hlt])
                ⟨_, rfl, by
                  rw [List.map_append, Array.toList_push, List.map_append]
                  exact h2.append (VL.cons hk VL.nil), by
                  rw [List.map_append, Array.toList_push, List.map_append]
                  exact h3.append (VL.cons hv VL.nil), by
                  rw [List.map_append, Array.toList_push, List.map_append, h4]
                  rfl⟩
              exact ⟨_, by simp [Instr.mapUpdate, run_underlying hu, getObj, setObj, Sem.run, h1, checkKey_run hkd hkk, findKey_run hkd h5], r1, r2, rfl⟩
            · cases he
          · cases he
        · cases he
    · cases he
  · cases he
noncomputable def makeMapA (s : AS) : Option (AV × AS) := cond (Nat.ble (Nat.succ s.n) 1000000000) (some (.mapp s.n, s.new (.mapb [] 0))) none
theorem makeMapA_ok [Tab] {P : Program} {t : Nat} {v : AV} {s s' : AS} {E : AEnv} {w : World} (h : HR E s.get w) (hi : ¬ E.ok s.n) (he : makeMapA s = some (v, s')) : Ran P (Instr.makeMap t none) w E s v s' := by
  unfold makeMapA at he
  cases hb : Nat.ble (Nat.succ s.n) 1000000000 with
  | false => rw [hb] at he; cases he
  | true =>
    rw [hb] at he
    injection he with he
    injection he with e1 e2
    subst e1
    subst e2
    have hl : s.n < 1000000000 := Nat.le_of_ble_eq_true hb
    obtain ⟨r1, r2⟩ := h.new hi hl (.mapb [] 0) (.map #[] 0) 0 _ (.inl rfl) ⟨#[], rfl, VL.nil, VL.nil, rfl⟩
    refine ⟨.map (some w.heap.size), w.alloc (.map #[] 0), _, by simp [Instr.makeMap, newObj]; rfl, ?_, r1, r2, E.grow_more _ _ _⟩
    have := VR.mapp (E := E.more s.n w.heap.size 0) s.n (E.more_ok _ _ _)
    rw [AEnv.more_r] at this
    exact this
/-- A look over a map begins. -/
noncomputable def rangeA (P : Program) (t : Nat) (x : AV) (s : AS) : Option (AV × AS) := match P.underlying t with
  | some (.map _ _) => match x with
    | .mapp m => match s.get m with
      | .mapb _ clock => cond (Nat.ble (Nat.succ s.n) 1000000000) (some (.ptr s.n 0, s.new (.iter m clock none))) none
      | _ => none
    | _ => none
  | _ => none
theorem rangeA_ok [Tab] {P : Program} {t : Nat} {x v : AV} {y : Value} {s s' : AS} {E : AEnv} {w : World} (h : HR E s.get w) (hi : ¬ E.ok s.n) (hx : VR E x y) (he : rangeA P t x s = some (v, s')) : Ran P (Instr.range t y) w E s v s' := by
  unfold rangeA at he
  split at he
  · rename_i kt et hu
    split at he
    · rename_i m
      split at he
      · rename_i es clock hg
        cases hb : Nat.ble (Nat.succ s.n) 1000000000 with
        | false => rw [hb] at he; cases he
        | true =>
          rw [hb] at he
          injection he with he
          injection he with e1 e2
          subst e1
          subst e2
          have hl : s.n < 1000000000 := Nat.le_of_ble_eq_true hb
          cases hx with
          | mapp m hm =>
          obtain ⟨_, xs, h1, _⟩ := h.mapb hg
          have hle := E.le_more s.n w.heap.size 0 hi (.mapIter (some (E.r m)) clock #[] clock)
          obtain ⟨r1, r2⟩ := h.newAt hi hl (.iter m clock none) (s.get_new _ hl) (fun b hb => s.get_new_ne _ b hb) (.mapIter (some (E.r m)) clock #[] clock) 0 _ (.inl rfl) (.mapIter (some (E.r m)) clock #[] clock) ⟨hle.ok m hm, AEnv.more_z _ _ _ _ _, #[], by rw [hle.r m hm], rfl⟩
          refine ⟨.pointer (some ⟨w.heap.size, 0, none⟩), w.alloc (.mapIter (some (E.r m)) clock #[] clock), _, by simp [Instr.range, run_underlying hu, getObj, Sem.run, h1, newObj], ?_, r1, r2, E.grow_more _ _ _⟩
          have := VR.ptr (E := E.more s.n w.heap.size 0 (.mapIter (some (E.r m)) clock #[] clock)) s.n 0 (E.more_ok _ _ _)
          rw [AEnv.more_r] at this
          exact this
      · cases he
    · cases he
  · cases he
noncomputable def stampA (st : Nat) : List (AV × AV × Nat) → Option (AV × AV)
  | [] => none
  | e :: r => cond (Nat.beq e.2.2 st) (some (e.1, e.2.1)) (stampA st r)
noncomputable def entryA (x : AV) (s : AS) : Option AV := match x with
  | .ptr b 0 => match s.get b with
    | .iter m clock (some st) => match s.get m with
      | .mapb es c2 => cond (Nat.beq c2 clock) (match stampA st es with
        | some p => some (.tup [p.1, p.2])
        | none => none) none
      | _ => none
    | _ => none
  | _ => none
theorem stampA_ok [Tab] {E : AEnv} {st : Nat} {p : AV × AV} : ∀ (es : List (AV × AV × Nat)) (l : List MapEntry), VL E (es.map (·.1)) (l.map (·.key)) → VL E (es.map (·.2.1)) (l.map (·.val)) → es.map (·.2.2) = l.map (·.born) → stampA st es = some p →
    ∃ e, l.find? (·.born == st) = some e ∧ VR E p.1 e.key ∧ VR E p.2 e.val
  | [], _, _, _, _, h => by cases h
  | e :: es, [], _, _, h, _ => by simp at h
  | e :: es, m :: l, h1, h2, h3, h => by
    simp only [List.map_cons, List.cons.injEq] at h3
    unfold stampA at h
    cases hb : Nat.beq e.2.2 st with
    | true =>
      rw [hb] at h
      injection h with h
      subst h
      have := Nat.eq_of_beq_eq_true hb
      exact ⟨m, by rw [List.find?_cons, ← h3.1, this]; simp, h1.head, h2.head⟩
    | false =>
      rw [hb] at h
      obtain ⟨e', q1, q2, q3⟩ := stampA_ok es l h1.tail h2.tail h3.2 h
      refine ⟨e', ?_, q2, q3⟩
      have hne : (m.born == st) = false := by
        rw [← h3.1, beq_eq_false_iff_ne]
        exact fun e => by rw [e, Nat.beq_refl] at hb; cases hb
      rw [List.find?_cons, hne]
      exact q1
theorem entryA_ok [Tab] {P : Program} {x v : AV} {y : Value} {s : AS} {E : AEnv} {w : World} (h : HR E s.get w) (hx : VR E x y) (he : entryA x s = some v) : ∃ z, (Instr.entry y).run P w = .ok z w ∧ VR E v z := by
  unfold entryA at he
  split at he
  · rename_i b
    split at he
    · rename_i m clock st hg
      split at he
      · rename_i es c2 hgm
        cases hc : Nat.beq c2 clock with
        | false => rw [hc] at he; cases he
        | true =>
          rw [hc] at he
          simp only [cond_true] at he
          have := Nat.eq_of_beq_eq_true hc
          subst this
          split at he
          · rename_i p hp
            injection he with he
            subst he
            cases hx with
            | ptr b o hb =>
            obtain ⟨_, _, o, h1, h2⟩ := h.at_ b (by rw [hg]; intro e; cases e)
            rw [hg] at h2
            obtain ⟨hm, _, seen, rfl, hbk⟩ := h2
            obtain ⟨_, xs, h3, h4, h5, h6⟩ := h.mapb hgm
            obtain ⟨e, q1, q2, q3⟩ := stampA_ok es xs.toList h4 h5 h6 hp
            refine ⟨.tuple #[e.key, e.val], ?_, (VL.cons q2 (VL.cons q3 VL.nil)).tup (a := #[e.key, e.val])⟩
            have q1' : xs.find? (fun x => x.born == st) = some e := by rw [← Array.find?_toList]; exact q1
            simp [Instr.entry, getObj, Sem.run, h1, hbk, h3, q1']
          · cases he
      · cases he
    · cases he
  · cases he
end Go.Proofs.YthmojpcaagnfkaaGreatDoor


/-
  The abstract machine: all operations that are no calls. No program.
-/
namespace Go.Proofs.YthmojpcaagnfkaaGreatDoor
open Go.RowKit

noncomputable def ifcD : TypeDesc → Bool
  | .interface _ => true
  | _ => false
noncomputable def withS (s : AS) : Option AV → Option (AV × AS)
  | some v => some (v, s)
  | none => none
noncomputable def skipS : Option AS → Option (AV × AS)
  | some s => some (.undef, s)
  | none => none
/-- Assertions to a type that is no interface. -/
noncomputable def failA (P : Program) (b : Nat) (ok : Bool) : Option AV := cond ok (match zeroVA P b with
  | some z => some (.tup [z, .bool false])
  | none => none) none
noncomputable def assertA (P : Program) (b : Nat) (ok : Bool) (v : AV) : Option AV := match P.underlying b with
  | none => none
  | some d => cond (ifcD d) none (match v with
    | .ifc t u => cond (Nat.beq t b) (some (lookA ok u true)) (failA P b ok)
    | .nili => failA P b ok
    | _ => none)
noncomputable def opA (P : Program) (o : Op) (ev : Operand → AV) (s : AS) : Option (AV × AS) := match o with
  | .move x => some (ev x, s)
  | .assign x => some (ev x, s)
  | .pick c a b => match ev c with
    | .bool q => some (cond q (ev a) (ev b), s)
    | _ => none
  | .alloc t => allocA P t s
  | .box t x => boxA t (ev x) s
  | .build t ps => withS s (buildA P t (ps.toList.map fun p => (p.1, ev p.2)))
  | .buildSlice t n ps => buildSliceA P t n (ps.toList.map fun p => (p.1, ev p.2)) s
  | .insert t m k v => skipS (updA P t (ev m) (ev k) (ev v) s)
  | .mapUpdate t m k v => skipS (updA P t (ev m) (ev k) (ev v) s)
  | .load t a => withS s (loadA P t (ev a) s)
  | .store t a v => skipS (storeA P t (ev a) (ev v) s)
  | .nilCheck x => match ev x with
    | .ptr b q => some (.ptr b q, s)
    | .fn f cs => some (.fn f cs, s)
    | .fnm f cs => some (.fnm f cs, s)
    | _ => none
  | .binOp op t x y _ => withS s (binA P op t (isCon x || isCon y) (ev x) (ev y))
  | .unOp op _ x => withS s (unA op (ev x))
  | .convert a b x => convA P a b (ev x) s
  | .makeInterface t x => match P.underlying t with
    | some d => cond (ifcD d) none (some (.ifc t (ev x), s))
    | none => none
  | .makeFunc (.func f) first captured => match first.toList with
    | [] => some (.fn f (captured.toList.map ev), s)
    | _ => match captured.toList with
      | [] => some (.fnm f (first.toList.map ev), s)
      | _ => none
  | .makeMap _ none => makeMapA s
  | .makeSlice t l c => makeSliceA P t (ev l) (ev c) s
  | .slice t x lo hi mx => withS s (sliceA P t (ev x) (lo.map ev) (hi.map ev) (mx.map ev))
  | .fieldAddr t x f => withS s (fieldAddrA P t f (ev x))
  | .field t x f => withS s (fieldA P t f (ev x))
  | .indexAddr t x i => withS s (indexAddrA P t (ev x) (ev i))
  | .index t x i => withS s (indexA P t (ev x) (ev i))
  | .lookup t x i ok => withS s (lookupA P t (ev x) (ev i) ok s)
  | .extract x i => withS s (extractA (ev x) i)
  | .range t x => rangeA P t (ev x) s
  | .entry x => withS s (entryA (ev x) s)
  | .typeAssert x _ b ok => withS s (assertA P b ok (ev x))
  | _ => none
/-- An operation of the model does what the abstract one does. -/
noncomputable def Ran2 [Tab] (P : Program) (m : Sem Next) (w : World) (E : AEnv) (s : AS) (v : AV) (s' : AS) : Prop :=
  ∃ n x w' E', m.run P w = .ok n w' ∧ (n = .value x ∨ (n = .skip ∧ x = undef)) ∧ VR E' v x ∧ HR E' s'.get w' ∧ Stp E s.get w E' s'.get w' ∧ Grow E s.n E' s'.n
theorem Ran.two [Tab] {P : Program} {m : Sem Value} {w : World} {E : AEnv} {s s' : AS} {v : AV} (h : Ran P m w E s v s') : Ran2 P (do pure (.value (← m))) w E s v s' := by
  obtain ⟨x, w', E', h1, h2, h3, h4, h5⟩ := h
  exact ⟨.value x, x, w', E', by simp [h1], .inl rfl, h2, h3, h4, h5⟩
theorem Ran2.val [Tab] {P : Program} {w : World} {E : AEnv} {s : AS} {v : AV} {x : Value} (h : HR E s.get w) (hv : VR E v x) : Ran2 P (pure (.value x)) w E s v s := ⟨.value x, x, w, E, rfl, .inl rfl, hv, h, Stp.refl E s.get w, Grow.refl E s.n⟩
theorem Ran2.with [Tab] {P : Program} {m : Sem Value} {w : World} {E : AEnv} {s s' : AS} {v : AV} {r : Option AV} (h : HR E s.get w) (he : withS s r = some (v, s')) (hm : ∀ u, r = some u → ∃ z, m.run P w = .ok z w ∧ VR E u z) : Ran2 P (do pure (.value (← m))) w E s v s' := by
  cases r with
  | none => cases he
  | some u =>
    injection he with he
    injection he with e1 e2
    subst e1
    subst e2
    obtain ⟨z, h1, h2⟩ := hm u rfl
    exact (Ran.same h h1 h2).two
theorem Ran2.skp [Tab] {P : Program} {m : Sem Unit} {w : World} {E : AEnv} {s s' : AS} {v : AV} {r : Option AS} (he : skipS r = some (v, s')) (hm : ∀ s2, r = some s2 → ∃ w', m.run P w = .ok () w' ∧ HR E s2.get w' ∧ Stp E s.get w E s2.get w' ∧ s2.n = s.n) : Ran2 P (do m; pure .skip) w E s v s' := by
  cases r with
  | none => cases he
  | some u =>
    injection he with he
    injection he with e1 e2
    subst e1
    subst e2
    obtain ⟨w', h1, h2, h3, h4⟩ := hm u rfl
    exact ⟨.skip, undef, w', E, by simp [h1], .inr ⟨rfl, rfl⟩, .undef, h2, h3, by rw [h4]; exact Grow.refl E s.n⟩
theorem parts_PL {E : AEnv} {ev : Operand → AV} {ρ : Operand → Value} (hρ : ∀ x, VR E (ev x) (ρ x)) (ps : Array (Nat × Operand)) : PL E (ps.toList.map fun p => (p.1, ev p.2)) (ps.map fun (i, x) => (i, ρ x)).toList := by
  rw [Array.toList_map]
  refine ⟨by simp, by simp, fun i c v h1 h2 => ?_⟩
  simp only [List.map_map, List.getElem?_map] at h1 h2
  cases hi : ps.toList[i]? with
  | none => rw [hi] at h1; cases h1
  | some p =>
    rw [hi] at h1 h2
    injection h1 with h1
    injection h2 with h2
    subst h1
    subst h2
    exact hρ p.2
theorem map_OR {E : AEnv} {ev : Operand → AV} {ρ : Operand → Value} (hρ : ∀ x, VR E (ev x) (ρ x)) (o : Option Operand) : OR E (o.map ev) (o.map ρ) := by
  cases o with
  | none => trivial
  | some x => exact hρ x
theorem map_VL {E : AEnv} {ev : Operand → AV} {ρ : Operand → Value} (hρ : ∀ x, VR E (ev x) (ρ x)) (l : Array Operand) : VL E (l.toList.map ev) (l.map ρ).toList := by
  rw [Array.toList_map]
  refine ⟨by simp, fun i c v h1 h2 => ?_⟩
  rw [List.getElem?_map] at h1 h2
  cases hi : l.toList[i]? with
  | none => rw [hi] at h1; cases h1
  | some p =>
    rw [hi] at h1 h2
    injection h1 with h1
    injection h2 with h2
    subst h1
    subst h2
    exact hρ p
theorem two_VR [Tab] {E : AEnv} {a : AV} {x : Value} {b : Bool} (h : VR E a x) : VR E (.tup [a, .bool b]) (.tuple #[x, .bool b]) := (VL.cons h (VL.cons (.bool b) VL.nil)).tup (a := #[x, .bool b])
theorem assertA_ok [Tab] {P : Program} {xt b : Nat} {ok : Bool} {v u : AV} {x : Value} {E : AEnv} {w : World} (hx : VR E v x) (he : assertA P b ok v = some u) : ∃ z, (Instr.typeAssert x xt b ok).run P w = .ok z w ∧ VR E u z := by
  have fails : ∀ {u : AV}, failA P b ok = some u → ok = true ∧ ∃ z, (zeroValue b).run P w = .ok z w ∧ VR E u (.tuple #[z, .bool false]) := by
    intro u hf
    unfold failA at hf
    cases ok with
    | false => cases hf
    | true =>
      simp only [cond_true] at hf
      split at hf
      · rename_i z hz
        injection hf with hf
        subst hf
        obtain ⟨z', h1, h2⟩ := zeroVA_ok hz
        exact ⟨rfl, z', h1 w, two_VR (h2 E)⟩
      · cases hf
  unfold assertA at he
  split at he
  · cases he
  · rename_i d hd
    cases hid : ifcD d with
    | true => rw [hid] at he; cases he
    | false =>
      rw [hid] at he
      simp only [cond_false] at he
      split at he
      · rename_i t u0
        cases hx
        rename_i y hy
        cases hb : Nat.beq t b with
        | true =>
          rw [hb] at he
          injection he with he
          have hb := Nat.eq_of_beq_eq_true hb
          subst hb
          subst he
          cases ok with
          | true => exact ⟨.tuple #[y, .bool true], by cases d <;> first | (cases hid; done) | simp [Instr.typeAssert, run_underlying hd], two_VR hy⟩
          | false => exact ⟨y, by cases d <;> first | (cases hid; done) | simp [Instr.typeAssert, run_underlying hd], hy⟩
        | false =>
          rw [hb] at he
          obtain ⟨rfl, z, h1, h2⟩ := fails he
          have hb : ¬ t = b := fun e => by rw [e, Nat.beq_refl] at hb; cases hb
          exact ⟨_, by cases d <;> first | (cases hid; done) | simp [Instr.typeAssert, run_underlying hd, hb, h1], h2⟩
      · cases hx
        obtain ⟨rfl, z, h1, h2⟩ := fails he
        exact ⟨_, by cases d <;> first | (cases hid; done) | simp [Instr.typeAssert, run_underlying hd, h1], h2⟩
      · cases he
theorem opA_ok [Tab] {P : Program} {o : Oper} {ev : Operand → AV} {ρ : Operand → Value} {s s' : AS} {v : AV} {E : AEnv} {w : World} (hρ : ∀ x, VR E (ev x) (ρ x)) (h : HR E s.get w) (hi : ¬ E.ok s.n) (he : opA P o.op ev s = some (v, s')) : Ran2 P (execOp ρ o) w E s v s' := by
  obtain ⟨dst, op, type, pos, after, guard⟩ := o
  dsimp only at he
  cases op <;> try (cases he; done)
  case move x => injection he with he; injection he with e1 e2; subst e1; subst e2; exact Ran2.val h (hρ x)
  case assign x => injection he with he; injection he with e1 e2; subst e1; subst e2; exact Ran2.val h (hρ x)
  case pick c a b =>
    unfold opA at he
    dsimp only at he
    split at he
    · rename_i q hq
      injection he with he
      injection he with e1 e2
      subst e1
      subst e2
      have hc := hρ c
      rw [hq] at hc
      cases hcv : ρ c <;> rw [hcv] at hc <;> first | (cases hc; done) | skip
      rename_i q'
      cases hc
      refine ⟨.value (if q then ρ a else ρ b), if q then ρ a else ρ b, w, E, by cases q <;> simp [execOp, hcv, asBool], .inl rfl, ?_, h, Stp.refl E s.get w, Grow.refl E s.n⟩
      cases q
      · exact hρ b
      · exact hρ a
    · cases he
  case alloc t => exact (allocA_ok h hi he).two
  case box t x => exact (boxA_ok h hi (hρ x) he).two
  case build t ps =>
    cases hb : buildA P t (ps.toList.map fun p => (p.1, ev p.2)) with
    | none => unfold opA at he; dsimp only at he; rw [hb] at he; cases he
    | some u =>
      unfold opA at he
      dsimp only at he
      rw [hb] at he
      injection he with he
      injection he with e1 e2
      subst e1
      subst e2
      exact (buildA_ok h (parts_PL hρ ps) hb).two
  case buildSlice t n ps => exact (buildSliceA_ok h hi (parts_PL hρ ps) he).two
  case insert t m k u => exact Ran2.skp he fun s2 hs => updA_ok h (hρ m) (hρ k) (hρ u) hs
  case mapUpdate t m k u => exact Ran2.skp he fun s2 hs => updA_ok h (hρ m) (hρ k) (hρ u) hs
  case load t a =>
    cases hb : loadA P t (ev a) s with
    | none => unfold opA at he; dsimp only at he; rw [hb] at he; cases he
    | some u =>
      unfold opA at he
      dsimp only at he
      rw [hb] at he
      injection he with he
      injection he with e1 e2
      subst e1
      subst e2
      exact (loadA_ok h (hρ a) hb).two
  case store t a u => exact Ran2.skp he fun s2 hs => storeA_ok h (hρ a) (hρ u) hs
  case nilCheck x =>
    unfold opA at he
    dsimp only at he
    split at he
    · rename_i b q hq
      injection he with he
      injection he with e1 e2
      subst e1
      subst e2
      have hx := hρ x
      rw [hq] at hx
      refine ⟨.value (ρ x), ρ x, w, E, ?_, .inl rfl, hx, h, Stp.refl E s.get w, Grow.refl E s.n⟩
      cases hv : ρ x <;> rw [hv] at hx <;> first | (cases hx; done) | skip
      cases hx
      simp [execOp, hv]
    · rename_i f cs hq
      injection he with he
      injection he with e1 e2
      subst e1
      subst e2
      have hx := hρ x
      rw [hq] at hx
      refine ⟨.value (ρ x), ρ x, w, E, ?_, .inl rfl, hx, h, Stp.refl E s.get w, Grow.refl E s.n⟩
      obtain ⟨a, ha, _⟩ := hx.fn_inv
      simp [execOp, ha]
    · rename_i f cs hq
      injection he with he
      injection he with e1 e2
      subst e1
      subst e2
      have hx := hρ x
      rw [hq] at hx
      refine ⟨.value (ρ x), ρ x, w, E, ?_, .inl rfl, hx, h, Stp.refl E s.get w, Grow.refl E s.n⟩
      obtain ⟨a, ha, _⟩ := hx.fnm_inv
      simp [execOp, ha]
    · cases he
  case binOp op t x y ty => exact Ran2.with h he fun u hu => binA_ok (hρ x) (hρ y) hu
  case unOp op t x => exact Ran2.with h he fun u hu => unA_ok (hρ x) hu
  case convert a b x => exact (convA_ok h hi (hρ x) he).two
  case makeInterface t x =>
    unfold opA at he
    dsimp only at he
    split at he
    · rename_i d hd
      cases hid : ifcD d with
      | true => rw [hid] at he; cases he
      | false =>
        rw [hid] at he
        injection he with he
        injection he with e1 e2
        subst e1
        subst e2
        refine (Ran.same (x := .iface t (ρ x)) h ?_ (.ifc t _ _ (hρ x))).two
        cases d <;> first | (cases hid; done) | simp [Instr.makeInterface, run_underlying hd]
    · cases he
  case makeFunc fn first captured =>
    cases fn <;> try (cases he; done)
    rename_i f
    unfold opA at he
    dsimp only at he
    split at he
    · rename_i hf
      injection he with he
      injection he with e1 e2
      subst e1
      subst e2
      have hf' : first = #[] := by simpa using hf
      subst hf'
      exact (Ran.same (x := .func (.func f) #[] (captured.map ρ)) h (by simp [Instr.makeFunc]) (map_VL hρ captured).fn).two
    · split at he
      · rename_i hf
        injection he with he
        injection he with e1 e2
        subst e1
        subst e2
        have hf' : captured = #[] := by simpa using hf
        subst hf'
        exact (Ran.same (x := .func (.func f) (first.map ρ) #[]) h (by simp [Instr.makeFunc]) (map_VL hρ first).fnm).two
      · cases he
  case makeMap t r =>
    cases r with
    | some _ => cases he
    | none => exact (makeMapA_ok h hi he).two
  case makeSlice t l c => exact (makeSliceA_ok h hi (hρ l) (hρ c) he).two
  case slice t x lo hi mx => exact Ran2.with h he fun u hu => sliceA_ok (hρ x) (map_OR hρ lo) (map_OR hρ hi) (map_OR hρ mx) hu
  case fieldAddr t x f => exact Ran2.with h he fun u hu => fieldAddrA_ok (hρ x) hu
  case field t x f => exact Ran2.with h he fun u hu => fieldA_ok (hρ x) hu
  case indexAddr t x i => exact Ran2.with h he fun u hu => indexAddrA_ok (hρ x) (hρ i) hu
  case index t x i => exact Ran2.with h he fun u hu => indexA_ok (hρ x) (hρ i) hu
  case lookup t x i ok => exact Ran2.with h he fun u hu => lookupA_ok h (hρ x) (hρ i) hu
  case extract x i => exact Ran2.with h he fun u hu => extractA_ok (hρ x) hu
  case range t x => exact (rangeA_ok h hi (hρ x) he).two
  case entry x => exact Ran2.with h he fun u hu => entryA_ok h (hρ x) hu
  case typeAssert x a b ok => exact Ran2.with h he fun u hu => assertA_ok (hρ x) hu
end Go.Proofs.YthmojpcaagnfkaaGreatDoor


/-
  The abstract machine: slots, regions, calls. No program.
-/
namespace Go.Proofs.YthmojpcaagnfkaaGreatDoor
open Go.RowKit

noncomputable def oevF (f : Nat → AV) : Operand → AV
  | .tmp k => f k
  | .const v => absV v
  | .global _ => .top
  | .func f => .fn f []
noncomputable def oev (t : Tr AV) : Operand → AV := oevF (t.get .top)
/-- Slots stand for slots. -/
structure TR (E : AEnv) (nt : Nat) (t : Nat → AV) (a : Act) : Prop where
  size : a.tmps.size = nt
  lim : nt ≤ 1000000
  at_ : ∀ k, VR E (t k) (a.tmps.getD k undef)
theorem TR.mono {E F : AEnv} (hE : E.le F) {nt : Nat} {t : Nat → AV} {a : Act} (h : TR E nt t a) : TR F nt t a := ⟨h.size, h.lim, fun k => (h.at_ k).mono hE⟩
theorem oevF_ok [Tab] {E : AEnv} {nt : Nat} {f : Nat → AV} {a : Act} (h : TR E nt f a) (x : Operand) : VR E (oevF f x) (a.eval x) := by
  cases x with
  | tmp k => exact h.at_ k
  | const v => exact absV_ok E v
  | global g => exact .top _
  | func f => exact .fn f [] #[] rfl (fun i c v h _ => by simp at h)
theorem oev_ok [Tab] {E : AEnv} {nt : Nat} {t : Tr AV} {a : Act} (h : TR E nt (t.get .top) a) (x : Operand) : VR E (oev t x) (a.eval x) := oevF_ok h x
noncomputable def putT (nt : Nat) (t : Tr AV) (d : Option Nat) (v : AV) : Option (Tr AV) := match d with
  | none => some t
  | some d => cond (Nat.ble (Nat.succ d) nt) (some (t.set .top v 20 d)) none
theorem putT_get {nt : Nat} {t t' : Tr AV} {d : Option Nat} {v : AV} (hl : nt ≤ 1000000) (h : putT nt t d v = some t') : ∀ k, t'.get .top k = if d = some k then v else t.get .top k := by
  intro k
  unfold putT at h
  split at h
  · injection h with h; subst h; simp
  · rename_i d
    cases hb : Nat.ble (Nat.succ d) nt with
    | false => rw [hb] at h; cases h
    | true =>
      rw [hb] at h
      injection h with h
      subst h
      have hd : d < nt := Nat.le_of_ble_eq_true hb
      by_cases e : k = d
      · subst e
        rw [if_pos rfl, Tr.get_set _ _ _ _ _ (by omega)]
      · rw [if_neg (fun h => e (by injection h with h; exact h.symm)), Tr.get_set_ne _ _ _ _ _ _ e]
theorem putT_lt {nt : Nat} {t t' : Tr AV} {d : Nat} {v : AV} (h : putT nt t (some d) v = some t') : d < nt := by
  unfold putT at h
  dsimp only at h
  cases hb : Nat.ble (Nat.succ d) nt with
  | false => rw [hb] at h; cases h
  | true => exact Nat.le_of_ble_eq_true hb
theorem TR.put {E : AEnv} {nt : Nat} {f f' : Nat → AV} {d : Option Nat} {v : AV} {a : Act} {x : Value} (h : TR E nt f a) (hv : VR E v x) (hd : ∀ k, d = some k → k < nt) (hp : ∀ k, f' k = if d = some k then v else f k) : TR E nt f' (a.put d x) := by
  cases d with
  | none =>
    refine ⟨h.size, h.lim, fun k => ?_⟩
    rw [hp k, if_neg (by intro e; cases e)]
    exact h.at_ k
  | some d =>
    have hdl := hd d rfl
    refine ⟨by simp [Act.put]; exact h.size, h.lim, fun k => ?_⟩
    rw [hp k]
    have hs := h.size
    by_cases e : k = d
    · subst e
      rw [if_pos rfl]
      have : (a.put (some k) x).tmps.getD k undef = x := by
        simp [Act.put, Array.getElem?_setIfInBounds, hs, hdl]
      rw [this]
      exact hv
    · rw [if_neg (fun h => e (by injection h with h; exact h.symm))]
      have : (a.put (some d) x).tmps.getD k undef = a.tmps.getD k undef := by
        simp [Act.put, Array.getElem?_setIfInBounds, Ne.symm e]
      rw [this]
      exact h.at_ k
theorem TR.putT [Tab] {E : AEnv} {nt : Nat} {t t' : Tr AV} {d : Option Nat} {v : AV} {a : Act} {x : Value} (h : TR E nt (t.get .top) a) (hv : VR E v x) (hp : putT nt t d v = some t') : TR E nt (t'.get .top) (a.put d x) :=
  h.put hv (fun k hk => by subst hk; exact putT_lt hp) (putT_get h.lim hp)
theorem put_defers (a : Act) (d : Option Nat) (x : Value) : (a.put d x).defers = a.defers := by cases d <;> rfl
noncomputable def nthO {α : Type} (l : List α) : Nat → Option α := List.rec (motive := fun _ => Nat → Option α) (fun _ => none) (fun a _ ih k => Nat.rec (motive := fun _ => Option α) (some a) (fun j _ => ih j) k) l
theorem nthO_eq [Tab] {α : Type} : ∀ (l : List α) (k : Nat), nthO l k = l[k]?
  | [], _ => rfl
  | _ :: _, 0 => rfl
  | a :: l, k + 1 => by
    rw [List.getElem?_cons_succ]
    exact nthO_eq l k
noncomputable def wantF (ops : Array Oper) (o : Oper) (f : Nat → AV) : Option Bool := match o.guard with
  | none => some true
  | some q => match nthO ops.toList q.1 with
    | some oj => match oj.dst with
      | some d => match f d with
        | .bool b => some (b == q.2)
        | .undef => some false
        | _ => none
      | none => none
    | none => none
theorem wantF_ok [Tab] {E : AEnv} {nt : Nat} {ops : Array Oper} {o : Oper} {f : Nat → AV} {a : Act} {b : Bool} (h : TR E nt f a) (hw : wantF ops o f = some b) : Region.wanted o (yielded ops a.tmps) = b := by
  unfold wantF at hw
  unfold Region.wanted
  split at hw
  · rename_i hg
    injection hw with hw
    rw [hg]
    exact hw
  · rename_i q hg
    rw [hg]
    split at hw
    · rename_i oj hj
      replace hj : ops[q.1]? = some oj := by rw [nthO_eq, Array.getElem?_toList] at hj; exact hj
      split at hw
      · rename_i d hd
        have hv := h.at_ d
        split at hw
        · rename_i b' hb
          injection hw with hw
          subst hw
          rw [hb] at hv
          have : a.tmps[d]? = some (.bool b') := by
            cases hx : a.tmps[d]? with
            | none =>
              simp [hx] at hv <;> cases hv
            | some x =>
              simp [hx] at hv
              cases hv
              rfl
          simp [yielded, hj, hd, this]
        · rename_i hb
          injection hw with hw
          subst hw
          rw [hb] at hv
          have : ∀ b', a.tmps[d]? ≠ some (.bool b') := by
            intro b' hx
            simp [hx] at hv
            cases hv
          have : yielded ops a.tmps q.1 = none := by
            unfold yielded
            split
            · rename_i b' hx
              rw [hj] at hx
              exact absurd (by simpa [hd] using hx) (this b')
            · rfl
          simp [this]
        · cases hw
      · cases hw
    · cases hw
noncomputable def wantA (ops : Array Oper) (o : Oper) (t : Tr AV) : Option Bool := wantF ops o (t.get .top)
theorem wantA_ok [Tab] {E : AEnv} {nt : Nat} {ops : Array Oper} {o : Oper} {t : Tr AV} {a : Act} {b : Bool} (h : TR E nt (t.get .top) a) (hw : wantA ops o t = some b) : Region.wanted o (yielded ops a.tmps) = b := wantF_ok h hw
/-- Builtins. -/
noncomputable def lenA (P : Program) (t : Nat) (x : AV) (s : AS) : Option AV := match P.underlying t with
  | some .string => match x with
    | .str l => some (.int .i64 (Int.ofNat l.length))
    | .symZ n => some (.int .i64 (Int.ofNat n))
    | _ => none
  | some (.slice _) => match x with
    | .nils => some (.int .i64 (Int.ofNat 0))
    | .sl _ _ n _ => some (.int .i64 (Int.ofNat n))
    | .slu _ _ n _ => some (.int .i64 (Int.ofNat n))
    | _ => none
  | some (.array n _) => some (.int .i64 (Int.ofNat n))
  | some (.map _ _) => match x with
    | .nilm => some (.int .i64 (Int.ofNat 0))
    | .mapp b => match s.get b with
      | .mapb es _ => some (.int .i64 (Int.ofNat es.length))
      | _ => none
    | _ => none
  | _ => none
theorem lenA_ok [Tab] {P : Program} {t : Nat} {ts : Array TypeId} {ty : TypeId} {x v : AV} {y : Value} {s : AS} {E : AEnv} {w : World} (hts : ts[0]? = some t) (h : HR E s.get w) (hx : VR E x y) (he : lenA P t x s = some v) : ∃ z, (Builtin.len_ ts ty #[y]).run P w = .ok z w ∧ VR E v z := by
  unfold lenA at he
  split at he
  · rename_i hu
    split at he
    · injection he with he
      subst he
      cases hx
      exact ⟨_, by simp [Builtin.len_, hts, run_underlying hu, ByteArray.size_mk', goInt], .int _ _⟩
    · injection he with he
      subst he
      cases hx with
      | symZ n s hn =>
        subst hn
        exact ⟨_, by simp [Builtin.len_, hts, run_underlying hu, ByteArray.size_mk', goInt], .int _ _⟩
    · cases he
  · rename_i e hu
    split at he
    · injection he with he
      subst he
      cases hx
      exact ⟨_, by simp [Builtin.len_, hts, run_underlying hu, goInt], .int _ _⟩
    · injection he with he
      subst he
      cases hx
      exact ⟨_, by simp [Builtin.len_, hts, run_underlying hu, goInt], .int _ _⟩
    · injection he with he
      subst he
      cases hx
      exact ⟨_, by simp [Builtin.len_, hts, run_underlying hu, goInt], .int _ _⟩
    · cases he
  · rename_i n e hu
    injection he with he
    subst he
    exact ⟨_, by simp [Builtin.len_, hts, run_underlying hu, goInt], .int _ _⟩
  · rename_i kt e hu
    split at he
    · injection he with he
      subst he
      cases hx
      exact ⟨_, by simp [Builtin.len_, hts, run_underlying hu, goInt], .int _ _⟩
    · split at he
      · rename_i es clock hg
        injection he with he
        subst he
        cases hx
        obtain ⟨_, xs, h1, h2, _⟩ := h.mapb hg
        have hl : es.length = xs.size := by have := h2.len; simpa using this
        exact ⟨.int .i64 (xs.size : Int), by simp [Builtin.len_, hts, run_underlying hu, goInt, getObj, Sem.run, h1], by rw [hl]; exact .int _ _⟩
      · cases he
    · cases he
  · cases he
noncomputable def builtinA (P : Program) (b : Builtin) (ts : List Nat) (args : List AV) (s : AS) : Option (AV × AS) := match b with
  | .len => match ts, args with
    | t :: _, [x] => withS s (lenA P t x s)
    | _, _ => none
  | .append => match args with
    | [a, x] => match ts with
      | [t, tx] => appendA P [t, tx] a x s
      | _ => none
    | _ => none
  | .min => match args with
    | [.int k x, .int _ y] => some (.int k (cond (decide (y < x)) y x), s)
    | _ => none
  | .max => match args with
    | [.int k x, .int _ y] => some (.int k (cond (decide (x < y)) y x), s)
    | _ => none
  | _ => none
theorem cond_dec (p : Prop) [Decidable p] (a b : Int) : cond (decide p) a b = if p then a else b := by
  by_cases h : p
  · rw [decide_eq_true h, if_pos h]; rfl
  · rw [decide_eq_false h, if_neg h]; rfl
noncomputable def callA (P : Program) (call : Nat → List AV → AS → Option (AV × AS)) (c : Call) (ev : Operand → AV) (s : AS) : Option (AV × AS) := match c.callee with
  | .value f => match ev f with
    | .fn g cs => call g (List.append (c.args.toList.map ev) cs) s
    | .fnm g cs => call g (List.append cs (c.args.toList.map ev)) s
    | _ => none
  | .builtin b => builtinA P b c.argTypes.toList (c.args.toList.map ev) s
  | .invoke _ _ => none
noncomputable def Fresh (E : AEnv) (n : Nat) : Prop := ∀ b, E.ok b → b < n
theorem Fresh.not {E : AEnv} {n : Nat} (h : Fresh E n) : ¬ E.ok n := fun hn => Nat.lt_irrefl _ (h n hn)
theorem Fresh.grow {E F : AEnv} {n m : Nat} (h : Fresh E n) (g : Grow E n F m) : Fresh F m := fun b hb => by
  have := g.le
  rcases g.ok b hb with h1 | h1
  · have := h b h1; omega
  · omega
/-- What a call leaves. -/
noncomputable def CallEnd [Tab] (E : AEnv) (s : AS) (w : World) (v : AV) (s' : AS) (e : Ending) (w' : World) : Prop :=
  ∃ x E', e = .returned x ∧ VR E' v x ∧ HR E' s'.get w' ∧ Stp E s.get w E' s'.get w' ∧ Grow E s.n E' s'.n
noncomputable def PanEnd [Tab] (E : AEnv) (s : AS) (w : World) (u : Value) (s' : AS) (e : Ending) (w' : World) : Prop :=
  ∃ E', e = .panicked [{ v := u, recovered := false }] ∧ HR E' s'.get w' ∧ Stp E s.get w E' s'.get w' ∧ Grow E s.n E' s'.n
/-- A panic is no value. -/
noncomputable def noPan : Option (AV × AS) → Option (AV × AS)
  | some (.pan _, _) => none
  | r => r
noncomputable def unPan : Option (AV × AS) → Option (Value × AS)
  | some (.pan u, s) => some (u, s)
  | _ => none
theorem noPan_ok {r : Option (AV × AS)} {v : AV} {s : AS} (h : noPan r = some (v, s)) : r = some (v, s) ∧ ∀ u, v ≠ .pan u := by
  unfold noPan at h
  split at h
  · cases h
  · rename_i hn
    subst h
    exact ⟨rfl, fun u e => hn u s (by rw [e])⟩
theorem unPan_ok {r : Option (AV × AS)} {u : Value} {s : AS} (h : unPan r = some (u, s)) : r = some (.pan u, s) := by
  unfold unPan at h
  split at h
  · injection h with h
    injection h with e1 e2
    subst e1
    subst e2
    rfl
  · cases h
/-- What a panic may carry: values without blocks. -/
noncomputable def conA : AV → Option Value
  | .int k n => some (.int k n)
  | .bool b => some (.bool b)
  | .str l => some (.string ⟨l.toArray⟩)
  | .ifc t v => match conA v with
    | some x => some (.iface t x)
    | none => none
  | _ => none
theorem conA_ok {E : AEnv} {a : AV} {x : Value} (h : VR E a x) : ∀ {y : Value}, conA a = some y → x = y := by
  induction h with
  | int k n => intro y h; injection h
  | bool b => intro y h; injection h
  | str l => intro y h; injection h
  | ifc t a v h ih =>
    intro y hy
    unfold conA at hy
    split at hy
    · rename_i z hz
      injection hy with hy
      subst hy
      rw [ih hz]
    · cases hy
  | _ => intro y h; cases h
structure CallOK [Tab] (P : Program) (call : Nat → List AV → AS → Option (AV × AS)) : Prop where
  fn : ∀ f args s r, call f args s = some r → ∃ fn, P.funcs[f]? = some fn ∧ fn.body.isNone = false ∧ (fn.name == "runtime.NumGoroutine") = false
  calls : ∀ f args s v s', call f args s = some (v, s') → (∀ u, v ≠ .pan u) → ∀ E w (xs : Array Value), HR E s.get w → Fresh E s.n → VL E args xs.toList → Calls P f xs w (CallEnd E s w v s')
  pans : ∀ f args s u s', call f args s = some (.pan u, s') → ∀ E w (xs : Array Value), HR E s.get w → Fresh E s.n → VL E args xs.toList → Calls P f xs w (PanEnd E s w u s')
/-- An operation that is carried out. -/
theorem callA_ok [Tab] {P : Program} {call : Nat → List AV → AS → Option (AV × AS)} (hc : CallOK P call) {o : Oper} {c : Call} {ev : Operand → AV} {a : Act} {s s' : AS} {v : AV} {E : AEnv} {w : World} (ho : o.op = .call c) (hρ : ∀ x, VR E (ev x) (a.eval x)) (h : HR E s.get w) (hf : Fresh E s.n) (he : callA P call c ev s = some (v, s')) (hnp : ∀ u, v ≠ .pan u)
    {next : Act → World → Prop} {Q : Exit → Act → World → Prop} (hk : ∀ x E' w', VR E' v x → HR E' s'.get w' → Stp E s.get w E' s'.get w' → Grow E s.n E' s'.n → next (a.put o.dst x) w') : o.wp P a w next Q := by
  unfold callA at he
  split at he
  · rename_i f hcal
    split at he
    · rename_i g cs hg
      have hv := hρ f
      rw [hg] at hv
      obtain ⟨caps, hfe, hcaps⟩ := hv.fn_inv
      obtain ⟨fn, h1, h2, h3⟩ := hc.fn _ _ _ _ he
      have hcalls := hc.calls _ _ _ _ _ he hnp E w (c.args.map a.eval ++ caps) h hf (by rw [Array.toList_append]; exact (map_VL hρ c.args).append hcaps)
      have hrun : (execOp a.eval o).run P w = .ok (.enter g (c.args.map a.eval ++ caps)) w := by
        have h2' : fn.body ≠ none := fun e => by rw [e] at h2; cases h2
        have h3' : fn.name ≠ "runtime.NumGoroutine" := fun e => by rw [e] at h3; simp at h3
        simp [execOp, ho, resolve, hcal, hfe, Deferred.ofValue, invoke, callFunc, h1, h2', h3']
      unfold Oper.wp
      rw [hrun]
      show Calls P g _ w _
      refine hcalls.mono fun e w' hq => ?_
      obtain ⟨x, E', rfl, q1, q2, q3, q4⟩ := hq
      exact hk x E' w' q1 q2 q3 q4
    · rename_i g cs hg
      have hv := hρ f
      rw [hg] at hv
      obtain ⟨caps, hfe, hcaps⟩ := hv.fnm_inv
      obtain ⟨fn, h1, h2, h3⟩ := hc.fn _ _ _ _ he
      have hcalls := hc.calls _ _ _ _ _ he hnp E w (caps ++ c.args.map a.eval) h hf (by rw [Array.toList_append]; exact hcaps.append (map_VL hρ c.args))
      have hrun : (execOp a.eval o).run P w = .ok (.enter g (caps ++ c.args.map a.eval)) w := by
        have h2' : fn.body ≠ none := fun e => by rw [e] at h2; cases h2
        have h3' : fn.name ≠ "runtime.NumGoroutine" := fun e => by rw [e] at h3; simp at h3
        simp [execOp, ho, resolve, hcal, hfe, Deferred.ofValue, invoke, callFunc, h1, h2', h3']
      unfold Oper.wp
      rw [hrun]
      show Calls P g _ w _
      refine hcalls.mono fun e w' hq => ?_
      obtain ⟨x, E', rfl, q1, q2, q3, q4⟩ := hq
      exact hk x E' w' q1 q2 q3 q4
    · cases he
  · rename_i b hcal
    have fin : (∃ x w' E', (builtin b c.argTypes o.type (c.args.map fun | .const _ => true | _ => false) (c.args.map a.eval)).run P w = .ok (.value x) w' ∧ VR E' v x ∧ HR E' s'.get w' ∧ Stp E s.get w E' s'.get w' ∧ Grow E s.n E' s'.n) → o.wp P a w next Q := by
      rintro ⟨x, w', E', q0, q1, q2, q3, q4⟩
      have hrun : (execOp a.eval o).run P w = .ok (.value x) w' := by
        rw [← q0]
        have e : execOp a.eval o = (resolve a.eval c o.type >>= fun d => invoke d.target d.args) := by
          unfold execOp
          rw [ho]
        rw [e]
        unfold resolve
        rw [hcal]
        rfl
      unfold Oper.wp
      rw [hrun]
      exact hk x E' w' q1 q2 q3 q4
    refine fin ?_
    unfold builtinA at he
    split at he
    · split at he
      · rename_i t ts x hts hargs
        obtain ⟨y, hy1, hy2⟩ : ∃ y, (c.args.map a.eval) = #[y] ∧ VR E x y := by
          have := map_VL hρ c.args
          rw [hargs] at this
          have hl := this.len
          match hm : (c.args.map a.eval).toList with
          | [y] =>
            rw [hm] at this
            exact ⟨y, by apply Array.ext'; simpa using hm, this.head⟩
          | [] => rw [hm] at hl; simp at hl
          | _ :: _ :: _ => rw [hm] at hl; simp at hl
        cases hle : lenA P t x s with
        | none => rw [hle] at he; cases he
        | some u =>
          rw [hle] at he
          injection he with he
          injection he with e1 e2
          subst e1
          subst e2
          obtain ⟨z, q1, q2⟩ := lenA_ok (ts := c.argTypes) (ty := o.type) (by rw [← Array.getElem?_toList, hts]; rfl) h hy2 hle
          exact ⟨z, w, E, by rw [hy1]; simp [builtin, q1], q2, h, Stp.refl _ _ _, Grow.refl _ _⟩
      · cases he
    · split at he
      · rename_i u x hargs
        split at he
        · rename_i t tx hts
          obtain ⟨y, z, hy1, hy2, hy3⟩ : ∃ y z, (c.args.map a.eval) = #[y, z] ∧ VR E u y ∧ VR E x z := by
            have := map_VL hρ c.args
            rw [hargs] at this
            have hl := this.len
            match hm : (c.args.map a.eval).toList with
            | [y, z] =>
              rw [hm] at this
              exact ⟨y, z, by apply Array.ext'; simpa using hm, this.head, this.tail.head⟩
            | [] => rw [hm] at hl; simp at hl
            | [_] => rw [hm] at hl; simp at hl
            | _ :: _ :: _ :: _ => rw [hm] at hl; simp at hl
          have hts' : c.argTypes = #[t, tx] := by apply Array.ext'; simpa using hts
          obtain ⟨r, w', E', q1, q2, q3, q4, q5⟩ := appendA_ok (ty := o.type) h hf.not hy2 hy3 rfl he
          exact ⟨r, w', E', by rw [hy1, hts']; simp [builtin, q1], q2, q3, q4, q5⟩
        · cases he
      · cases he
    · split at he
      · rename_i k x k' y hargs
        injection he with he
        injection he with e1 e2
        subst e1
        subst e2
        have hy1 : (c.args.map a.eval) = #[.int k x, .int k' y] := by
          have := map_VL hρ c.args
          rw [hargs] at this
          have hl := this.len
          match hm : (c.args.map a.eval).toList with
          | [p, q] =>
            rw [hm] at this
            have h1 := this.head
            have h2 := this.tail.head
            cases h1
            cases h2
            apply Array.ext'
            simpa using hm
          | [] => rw [hm] at hl; simp at hl
          | [_] => rw [hm] at hl; simp at hl
          | _ :: _ :: _ :: _ => rw [hm] at hl; simp at hl
        exact ⟨.int k (if y < x then y else x), w, E, by rw [hy1]; simp [builtin, Builtin.min_, Builtin.min2], by rw [cond_dec]; exact .int _ _, h, Stp.refl _ _ _, Grow.refl _ _⟩
      · cases he
    · split at he
      · rename_i k x k' y hargs
        injection he with he
        injection he with e1 e2
        subst e1
        subst e2
        have hy1 : (c.args.map a.eval) = #[.int k x, .int k' y] := by
          have := map_VL hρ c.args
          rw [hargs] at this
          have hl := this.len
          match hm : (c.args.map a.eval).toList with
          | [p, q] =>
            rw [hm] at this
            have h1 := this.head
            have h2 := this.tail.head
            cases h1
            cases h2
            apply Array.ext'
            simpa using hm
          | [] => rw [hm] at hl; simp at hl
          | [_] => rw [hm] at hl; simp at hl
          | _ :: _ :: _ :: _ => rw [hm] at hl; simp at hl
        exact ⟨.int k (if x < y then y else x), w, E, by rw [hy1]; simp [builtin, Builtin.max_, Builtin.max2], by rw [cond_dec]; exact .int _ _, h, Stp.refl _ _ _, Grow.refl _ _⟩
      · cases he
    · cases he
  · cases he
/-- A call that panics; a panic. -/
noncomputable def panA (call : Nat → List AV → AS → Option (AV × AS)) (c : Call) (ev : Operand → AV) (s : AS) : Option (Value × AS) := match c.callee with
  | .value f => match ev f with
    | .fn g cs => unPan (call g (List.append (c.args.toList.map ev) cs) s)
    | .fnm g cs => unPan (call g (List.append cs (c.args.toList.map ev)) s)
    | _ => none
  | _ => none
noncomputable def panO (call : Nat → List AV → AS → Option (AV × AS)) (o : Oper) (ev : Operand → AV) (s : AS) : Option (Value × AS) := match o.op with
  | .call c => panA call c ev s
  | .panic x => match conA (ev x) with
    | some (.iface t v) => some (.iface t v, s)
    | _ => none
  | _ => none
theorem panO_ok [Tab] {P : Program} {call : Nat → List AV → AS → Option (AV × AS)} (hc : CallOK P call) {o : Oper} {ev : Operand → AV} {a : Act} {s s' : AS} {u : Value} {E : AEnv} {w : World} (hρ : ∀ x, VR E (ev x) (a.eval x)) (h : HR E s.get w) (hf : Fresh E s.n) (he : panO call o ev s = some (u, s'))
    {next : Act → World → Prop} {Q : Exit → Act → World → Prop} (hk : ∀ E' w', HR E' s'.get w' → Stp E s.get w E' s'.get w' → Grow E s.n E' s'.n → Q (.panic [{ v := u, recovered := false }]) a w') : o.wp P a w next Q := by
  unfold panO at he
  split at he
  · rename_i c ho
    unfold panA at he
    split at he
    · rename_i f hcal
      split at he
      · rename_i g cs hg
        have hv := hρ f
        rw [hg] at hv
        obtain ⟨caps, hfe, hcaps⟩ := hv.fn_inv
        have he := unPan_ok he
        obtain ⟨fn, h1, h2, h3⟩ := hc.fn _ _ _ _ he
        have hcalls := hc.pans _ _ _ _ _ he E w (c.args.map a.eval ++ caps) h hf (by rw [Array.toList_append]; exact (map_VL hρ c.args).append hcaps)
        have hrun : (execOp a.eval o).run P w = .ok (.enter g (c.args.map a.eval ++ caps)) w := by
          have h2' : fn.body ≠ none := fun e => by rw [e] at h2; cases h2
          have h3' : fn.name ≠ "runtime.NumGoroutine" := fun e => by rw [e] at h3; simp at h3
          simp [execOp, ho, resolve, hcal, hfe, Deferred.ofValue, invoke, callFunc, h1, h2', h3']
        unfold Oper.wp
        rw [hrun]
        show Calls P g _ w _
        refine hcalls.mono fun e w' hq => ?_
        obtain ⟨E', rfl, q2, q3, q4⟩ := hq
        exact hk E' w' q2 q3 q4
      · rename_i g cs hg
        have hv := hρ f
        rw [hg] at hv
        obtain ⟨caps, hfe, hcaps⟩ := hv.fnm_inv
        have he := unPan_ok he
        obtain ⟨fn, h1, h2, h3⟩ := hc.fn _ _ _ _ he
        have hcalls := hc.pans _ _ _ _ _ he E w (caps ++ c.args.map a.eval) h hf (by rw [Array.toList_append]; exact hcaps.append (map_VL hρ c.args))
        have hrun : (execOp a.eval o).run P w = .ok (.enter g (caps ++ c.args.map a.eval)) w := by
          have h2' : fn.body ≠ none := fun e => by rw [e] at h2; cases h2
          have h3' : fn.name ≠ "runtime.NumGoroutine" := fun e => by rw [e] at h3; simp at h3
          simp [execOp, ho, resolve, hcal, hfe, Deferred.ofValue, invoke, callFunc, h1, h2', h3']
        unfold Oper.wp
        rw [hrun]
        show Calls P g _ w _
        refine hcalls.mono fun e w' hq => ?_
        obtain ⟨E', rfl, q2, q3, q4⟩ := hq
        exact hk E' w' q2 q3 q4
      · cases he
    · cases he
  · rename_i x ho
    split at he
    · rename_i t v hx
      injection he with he
      injection he with e1 e2
      subst e1
      subst e2
      have e := conA_ok (hρ x) hx
      have hrun : (execOp a.eval o).run P w = .halt (.panic (.iface t v)) w := by
        simp [execOp, ho, e, Instr.panic]
      unfold Oper.wp
      rw [hrun]
      exact hk E w h (Stp.refl _ _ _) (Grow.refl _ _)
    · cases he
  · cases he
end Go.Proofs.YthmojpcaagnfkaaGreatDoor


/-
  The abstract machine: plain regions, code, functions. No program.
-/
namespace Go.Proofs.YthmojpcaagnfkaaGreatDoor
open Go.RowKit

noncomputable def evOp (P : Program) (call : Nat → List AV → AS → Option (AV × AS)) (o : Oper) (ev : Operand → AV) (s : AS) : Option (AV × AS) := match o.op with
  | .call c => noPan (callA P call c ev s)
  | op => opA P op ev s
noncomputable def evOps (P : Program) (call : Nat → List AV → AS → Option (AV × AS)) (all : Array Oper) (nt : Nat) : List Oper → Tr AV → AS → Option (Tr AV × AS)
  | [], t, s => some (t, s)
  | o :: r, t, s => match wantA all o t with
    | none => none
    | some false => match putT nt t o.dst .undef with
      | none => none
      | some t' => evOps P call all nt r t' s
    | some true => match evOp P call o (oev t) s with
      | none => none
      | some q => match putT nt t o.dst q.1 with
        | none => none
        | some t' => evOps P call all nt r t' q.2
theorem evOp_ok [Tab] {P : Program} {call : Nat → List AV → AS → Option (AV × AS)} (hc : CallOK P call) {o : Oper} {f : Nat → AV} {nt : Nat} {a : Act} {s s' : AS} {v : AV} {E : AEnv} {w : World} (ht : TR E nt f a) (h : HR E s.get w) (hf : Fresh E s.n) (he : evOp P call o (oevF f) s = some (v, s'))
    {next : Act → World → Prop} {Q : Exit → Act → World → Prop} (hk : ∀ x E' w', VR E' v x → HR E' s'.get w' → Stp E s.get w E' s'.get w' → Grow E s.n E' s'.n → next (a.put o.dst x) w') : o.wp P a w next Q := by
  have other : (∀ c, o.op ≠ .call c) → opA P o.op (oevF f) s = some (v, s') → o.wp P a w next Q := by
    intro hn ho
    obtain ⟨n, x, w', E', q1, q2, q3, q4, q5, q6⟩ := opA_ok (o := o) (oevF_ok ht) h hf.not ho
    unfold Oper.wp
    rw [q1]
    rcases q2 with rfl | ⟨rfl, rfl⟩
    · exact hk x E' w' q3 q4 q5 q6
    · exact hk undef E' w' q3 q4 q5 q6
  unfold evOp at he
  split at he
  · rename_i c ho
    obtain ⟨he, hnp⟩ := noPan_ok he
    exact callA_ok hc ho (oevF_ok ht) h hf he hnp hk
  · rename_i op hn
    exact other (fun c e => hn c e) he
theorem evOps_ok [Tab] {P : Program} {call : Nat → List AV → AS → Option (AV × AS)} (hc : CallOK P call) {all : Array Oper} {nt : Nat} {Q : Exit → Act → World → Prop} : ∀ (l : List Oper) (t : Tr AV) (s : AS) (t' : Tr AV) (s' : AS), evOps P call all nt l t s = some (t', s') →
    ∀ (E : AEnv) (a : Act) (w : World), TR E nt (t.get .top) a → HR E s.get w → Fresh E s.n →
    (∀ E' a' w', TR E' nt (t'.get .top) a' → HR E' s'.get w' → Stp E s.get w E' s'.get w' → Grow E s.n E' s'.n → a'.defers = a.defers → Q .normal a' w') → wpList P all Q l a w
  | [], t, s, t', s', he, E, a, w, ht, h, hf, hq => by
    injection he with he
    injection he with e1 e2
    subst e1
    subst e2
    exact hq E a w ht h (Stp.refl _ _ _) (Grow.refl _ _) rfl
  | o :: r, t, s, t', s', he, E, a, w, ht, h, hf, hq => by
    unfold evOps at he
    split at he
    · cases he
    · rename_i hw
      split at he
      · cases he
      · rename_i t1 hp
        have hw' := wantA_ok ht hw
        unfold wpList
        rw [if_neg (by rw [hw']; intro e; cases e)]
        refine evOps_ok hc r t1 s t' s' he E _ w (ht.putT .undef hp) h hf fun E' a' w' q1 q2 q3 q4 q5 => hq E' a' w' q1 q2 q3 q4 (q5.trans (put_defers _ _ _))
    · rename_i hw
      split at he
      · cases he
      · rename_i q hop
        split at he
        · cases he
        · rename_i t1 hp
          have hw' := wantA_ok ht hw
          obtain ⟨v, s1⟩ := q
          dsimp only at hp he
          unfold wpList
          rw [if_pos hw']
          refine .inl (evOp_ok hc ht h hf hop fun x E1 w1 q1 q2 q3 q4 => ?_)
          refine evOps_ok hc r t1 s1 t' s' he E1 _ w1 ((ht.mono q3.le).putT q1 hp) q2 (hf.grow q4) fun E' a' w' p1 p2 p3 p4 p5 => hq E' a' w' p1 p2 (q3.trans p3) (q4.trans p4) (p5.trans (put_defers _ _ _))

/-- A region that panics. -/
noncomputable def evOpsP (P : Program) (call : Nat → List AV → AS → Option (AV × AS)) (all : Array Oper) (nt : Nat) : List Oper → Tr AV → AS → Option (Value × Tr AV × AS)
  | [], _, _ => none
  | o :: r, t, s => match wantA all o t with
    | none => none
    | some false => match putT nt t o.dst .undef with
      | none => none
      | some t' => evOpsP P call all nt r t' s
    | some true => match panO call o (oev t) s with
      | some q => some (q.1, t, q.2)
      | none => match evOp P call o (oev t) s with
        | none => none
        | some q => match putT nt t o.dst q.1 with
          | none => none
          | some t' => evOpsP P call all nt r t' q.2
theorem evOpsP_ok [Tab] {P : Program} {call : Nat → List AV → AS → Option (AV × AS)} (hc : CallOK P call) {all : Array Oper} {nt : Nat} {Q : Exit → Act → World → Prop} : ∀ (l : List Oper) (t : Tr AV) (s : AS) (u : Value) (t' : Tr AV) (s' : AS), evOpsP P call all nt l t s = some (u, t', s') →
    ∀ (E : AEnv) (a : Act) (w : World), TR E nt (t.get .top) a → HR E s.get w → Fresh E s.n →
    (∀ E' a' w', TR E' nt (t'.get .top) a' → HR E' s'.get w' → Stp E s.get w E' s'.get w' → Grow E s.n E' s'.n → a'.defers = a.defers → Q (.panic [{ v := u, recovered := false }]) a' w') → wpList P all Q l a w
  | [], t, s, u, t', s', he, E, a, w, ht, h, hf, hq => by cases he
  | o :: r, t, s, u, t', s', he, E, a, w, ht, h, hf, hq => by
    unfold evOpsP at he
    split at he
    · cases he
    · rename_i hw
      split at he
      · cases he
      · rename_i t1 hp
        have hw' := wantA_ok ht hw
        unfold wpList
        rw [if_neg (by rw [hw']; intro e; cases e)]
        refine evOpsP_ok hc r t1 s u t' s' he E _ w (ht.putT .undef hp) h hf fun E' a' w' q1 q2 q3 q4 q5 => hq E' a' w' q1 q2 q3 q4 (q5.trans (put_defers _ _ _))
    · rename_i hw
      have hw' := wantA_ok ht hw
      unfold wpList
      rw [if_pos hw']
      split at he
      · rename_i q hpan
        injection he with he
        injection he with e1 e2
        injection e2 with e2 e3
        obtain ⟨u1, s1⟩ := q
        dsimp only at e1 e3
        subst e1
        subst e2
        subst e3
        exact .inl (panO_ok hc (oev_ok ht) h hf hpan fun E' w' q2 q3 q4 => hq E' a w' (ht.mono q3.le) q2 q3 q4 rfl)
      · split at he
        · cases he
        · rename_i q hop
          split at he
          · cases he
          · rename_i t1 hp
            obtain ⟨v, s1⟩ := q
            dsimp only at hp he
            refine .inl (evOp_ok hc ht h hf hop fun x E1 w1 q1 q2 q3 q4 => ?_)
            refine evOpsP_ok hc r t1 s1 u t' s' he E1 _ w1 ((ht.mono q3.le).putT q1 hp) q2 (hf.grow q4) fun E' a' w' p1 p2 p3 p4 p5 => hq E' a' w' p1 p2 (q3.trans p3) (q4.trans p4) (p5.trans (put_defers _ _ _))
/-- How code ends. -/
inductive Ex where
  | normal
  | exit (id : Nat)
  | ret
  | panic (u : Value)
noncomputable def Ex.is : Ex → Exit → Prop
  | .normal, e => e = .normal
  | .exit i, e => e = .exit i
  | .ret, e => e = .ret
  | .panic u, e => e = .panic [{ v := u, recovered := false }]
/-- What code leaves. -/
noncomputable def Post [Tab] (E : AEnv) (nt : Nat) (a : Act) (s : AS) (w : World) (x : Ex) (t' : Tr AV) (s' : AS) (e : Exit) (a' : Act) (w' : World) : Prop :=
  x.is e ∧ ∃ E', TR E' nt (t'.get .top) a' ∧ HR E' s'.get w' ∧ Stp E s.get w E' s'.get w' ∧ Grow E s.n E' s'.n ∧ a'.defers = a.defers
/-- Pieces of code that are told apart: regions that draw; loops over maps. -/
structure Hooks where
  draw : (Nat → List AV → AS → Option (AV × AS)) → Nat → Array Oper → Tr AV → AS → Option (Tr AV × AS)
  special : Code → Bool
  loop : (Code → Tr AV → AS → Option (Ex × Tr AV × AS)) → (Nat → List AV → AS → Option (AV × AS)) → Nat → Code → Tr AV → AS → Option (Ex × Tr AV × AS)
noncomputable def nxt {α : Type} (x : α) : α := x
noncomputable def evC (P : Program) (H : Hooks) (call : Nat → List AV → AS → Option (AV × AS)) (nt : Nat) : Nat → Code → Tr AV → AS → Option (Ex × Tr AV × AS)
  | 0, _, _, _ => none
  | k + 1, c, t, s => match c with
    | .skip => some (.normal, t, s)
    | .label _ => some (.normal, t, s)
    | .region _ ops d => cond d (match H.draw call nt ops t s with
        | some q => some (.normal, q.1, q.2)
        | none => none) (match evOps P call ops nt ops.toList t s with
        | some q => some (.normal, q.1, q.2)
        | none => match evOpsP P call ops nt ops.toList t s with
          | some q => some (.panic q.1, q.2.1, q.2.2)
          | none => none)
    | .seq x y => match evC P H call nt k x t s with
      | none => none
      | some q => match q.1 with
        | .normal => nxt (evC P H call nt k y q.2.1 q.2.2)
        | e => some (e, q.2.1, q.2.2)
    | .cond x y z => match oev t x with
      | .bool b => cond b (nxt (evC P H call nt k y t s)) (nxt (evC P H call nt k z t s))
      | _ => none
    | .block i x => match evC P H call nt k x t s with
      | none => none
      | some q => match q.1 with
        | .exit j => cond (Nat.beq j i) (some (.normal, q.2.1, q.2.2)) (some (.exit j, q.2.1, q.2.2))
        | e => some (e, q.2.1, q.2.2)
    | .loop x => cond (H.special x) (H.loop (evC P H call nt k) call nt x t s) (match evC P H call nt k x t s with
        | none => none
        | some q => match q.1 with
          | .normal => nxt (evC P H call nt k (.loop x) q.2.1 q.2.2)
          | e => some (e, q.2.1, q.2.2))
    | .exit i => some (.exit i, t, s)
    | .ret => some (.ret, t, s)
    | _ => none
structure DrawOK [Tab] (P : Program) (H : Hooks) : Prop where
  draw : ∀ (call : Nat → List AV → AS → Option (AV × AS)), CallOK P call → ∀ (nt : Nat) (id : Nat) (ops : Array Oper) (t : Tr AV) (s : AS) (t' : Tr AV) (s' : AS), H.draw call nt ops t s = some (t', s') → ∀ (E : AEnv) (a : Act) (w : World), TR E nt (t.get .top) a → HR E s.get w → Fresh E s.n →
    (Code.region id ops true).wp P (Post E nt a s w .normal t' s') a w
  loop : ∀ (call : Nat → List AV → AS → Option (AV × AS)), CallOK P call → ∀ (nt : Nat) (ev : Code → Tr AV → AS → Option (Ex × Tr AV × AS)),
    (∀ c t s e t' s', ev c t s = some (e, t', s') → ∀ (E : AEnv) (a : Act) (w : World), TR E nt (t.get .top) a → HR E s.get w → Fresh E s.n → c.wp P (Post E nt a s w e t' s') a w) →
    ∀ x t s e t' s', H.loop ev call nt x t s = some (e, t', s') → ∀ (E : AEnv) (a : Act) (w : World), TR E nt (t.get .top) a → HR E s.get w → Fresh E s.n → (Code.loop x).wp P (Post E nt a s w e t' s') a w
theorem Post.trans [Tab] {E E1 : AEnv} {nt : Nat} {a a1 : Act} {s s1 : AS} {w w1 : World} {x : Ex} {t' : Tr AV} {s' : AS} {e : Exit} {a' : Act} {w' : World} (h1 : Stp E s.get w E1 s1.get w1) (h2 : Grow E s.n E1 s1.n) (h3 : a1.defers = a.defers) (h : Post E1 nt a1 s1 w1 x t' s' e a' w') : Post E nt a s w x t' s' e a' w' := by
  obtain ⟨q0, E', q1, q2, q3, q4, q5⟩ := h
  exact ⟨q0, E', q1, q2, h1.trans q3, h2.trans q4, q5.trans h3⟩
/-- A loop's rounds. -/
theorem loop_rounds [Tab] {P : Program} {H : Hooks} {call : Nat → List AV → AS → Option (AV × AS)} {nt : Nat} {x : Code} (hx : H.special x = false) {e : Ex} {t' : Tr AV} {s' : AS} : ∀ (k : Nat),
    (∀ j, j < k → ∀ (t : Tr AV) (s : AS) (e : Ex) (t' : Tr AV) (s' : AS), evC P H call nt j x t s = some (e, t', s') → ∀ (E : AEnv) (a : Act) (w : World), TR E nt (t.get .top) a → HR E s.get w → Fresh E s.n → x.wp P (Post E nt a s w e t' s') a w) →
    ∀ (t : Tr AV) (s : AS), evC P H call nt k (.loop x) t s = some (e, t', s') → ∀ (E : AEnv) (a : Act) (w : World), TR E nt (t.get .top) a → HR E s.get w → Fresh E s.n → ∀ (E0 : AEnv) (a0 : Act) (s0 : AS) (w0 : World), Stp E0 s0.get w0 E s.get w → Grow E0 s0.n E s.n → a.defers = a0.defers → Code.rounds P x (Post E0 nt a0 s0 w0 e t' s') k a w
  | 0, _, t, s, he, _, _, _, _, _, _, _, _, _, _, _, _, _ => by cases he
  | k + 1, ih, t, s, he, E, a, w, ht, h, hf, E0, a0, s0, w0, h1, h2, h3 => by
    replace he : cond (H.special x) (H.loop (evC P H call nt k) call nt x t s) (match evC P H call nt k x t s with
        | none => none
        | some q => match q.1 with
          | .normal => nxt (evC P H call nt k (.loop x) q.2.1 q.2.2)
          | e => some (e, q.2.1, q.2.2)) = some (e, t', s') := he
    rw [hx] at he
    simp only [cond_false] at he
    rw [rounds_succ]
    split at he
    · cases he
    · rename_i q hq
      obtain ⟨e1, t1, s1⟩ := q
      refine wp_mono (ih k (Nat.lt_succ_self _) t s e1 t1 s1 hq E a w ht h hf) fun ex a1 w1 hp => ?_
      obtain ⟨p0, E1, p1, p2, p3, p4, p5⟩ := hp
      dsimp only at he
      split at he
      · cases p0
        exact loop_rounds hx k (fun j hj => ih j (Nat.lt_succ_of_lt hj)) t1 s1 he E1 a1 w1 p1 p2 (hf.grow p4) E0 a0 s0 w0 (h1.trans p3) (h2.trans p4) (p5.trans h3)
      · rename_i hne
        injection he with he
        injection he with e2 e3
        injection e3 with e3 e4
        subst e2
        subst e3
        subst e4
        have hpost : Post E0 nt a0 s0 w0 e1 t1 s1 ex a1 w1 := ⟨p0, E1, p1, p2, h1.trans p3, h2.trans p4, p5.trans h3⟩
        cases e1 with
        | normal => exact (hne rfl).elim
        | exit i => cases p0; exact hpost
        | ret => cases p0; exact hpost
        | panic u => cases p0; exact hpost
theorem evC_ok [Tab] {P : Program} {H : Hooks} (hH : DrawOK P H) {call : Nat → List AV → AS → Option (AV × AS)} (hc : CallOK P call) {nt : Nat} : ∀ (k : Nat) (c : Code),
    (∀ (t : Tr AV) (s : AS) (e : Ex) (t' : Tr AV) (s' : AS), evC P H call nt k c t s = some (e, t', s') → ∀ (E : AEnv) (a : Act) (w : World), TR E nt (t.get .top) a → HR E s.get w → Fresh E s.n → c.wp P (Post E nt a s w e t' s') a w)
  | 0, c, t, s, e, t', s', he => by cases he
  | k + 1, c, t, s, e, t', s', he => by
    intro E a w ht h hf
    have same : ∀ x, (some (x, t, s) : Option (Ex × Tr AV × AS)) = some (e, t', s') → ∀ ex, x.is ex → Post E nt a s w e t' s' ex a w := by
      intro x hx ex hex
      injection hx with hx
      injection hx with e1 e2
      injection e2 with e2 e3
      subst e1
      subst e2
      subst e3
      exact ⟨hex, E, ht, h, Stp.refl _ _ _, Grow.refl _ _, rfl⟩
    cases c <;> try (cases he; done)
    case skip => exact wp_skip (same .normal he .normal rfl)
    case label l => exact wp_label (same .normal he .normal rfl)
    case exit i => exact wp_exit (same (.exit i) he (.exit i) rfl)
    case ret => exact wp_ret (same .ret he .ret rfl)
    case region id ops d =>
      cases d with
      | true =>
        replace he : (match H.draw call nt ops t s with
          | some q => some (Ex.normal, q.1, q.2)
          | none => none) = some (e, t', s') := he
        split at he
        · rename_i q hq
          injection he with he
          injection he with e1 e2
          injection e2 with e2 e3
          subst e1
          subst e2
          subst e3
          exact hH.draw call hc nt id ops t s q.1 q.2 hq E a w ht h hf
        · cases he
      | false =>
        replace he : (match evOps P call ops nt ops.toList t s with
          | some q => some (Ex.normal, q.1, q.2)
          | none => match evOpsP P call ops nt ops.toList t s with
            | some q => some (Ex.panic q.1, q.2.1, q.2.2)
            | none => none) = some (e, t', s') := he
        split at he
        · rename_i q hq
          injection he with he
          injection he with e1 e2
          injection e2 with e2 e3
          subst e1
          subst e2
          subst e3
          exact wp_region_list (evOps_ok hc ops.toList t s q.1 q.2 hq E a w ht h hf fun E' a' w' q1 q2 q3 q4 q5 => ⟨rfl, E', q1, q2, q3, q4, q5⟩)
        · split at he
          · rename_i q hq
            injection he with he
            injection he with e1 e2
            injection e2 with e2 e3
            subst e1
            subst e2
            subst e3
            exact wp_region_list (evOpsP_ok hc ops.toList t s q.1 q.2.1 q.2.2 hq E a w ht h hf fun E' a' w' q1 q2 q3 q4 q5 => ⟨rfl, E', q1, q2, q3, q4, q5⟩)
          · cases he
    case seq x y =>
      replace he : (match evC P H call nt k x t s with
        | none => none
        | some q => match q.1 with
          | .normal => nxt (evC P H call nt k y q.2.1 q.2.2)
          | e => some (e, q.2.1, q.2.2)) = some (e, t', s') := he
      split at he
      · cases he
      · rename_i q hq
        obtain ⟨e1, t1, s1⟩ := q
        have hx := evC_ok hH hc k x t s e1 t1 s1 hq E a w ht h hf
        refine wp_seq (wp_mono hx fun ex a1 w1 hp => ?_)
        obtain ⟨p0, E1, p1, p2, p3, p4, p5⟩ := hp
        dsimp only at he
        split at he
        · cases p0
          exact wp_mono (evC_ok hH hc k y t1 s1 e t' s' he E1 a1 w1 p1 p2 (hf.grow p4)) fun _ _ _ hp => hp.trans p3 p4 p5
        · rename_i hne
          injection he with he
          injection he with e2 e3
          injection e3 with e3 e4
          subst e2
          subst e3
          subst e4
          have hpost : Post E nt a s w e1 t1 s1 ex a1 w1 := ⟨p0, E1, p1, p2, p3, p4, p5⟩
          cases e1 with
          | normal => exact (hne rfl).elim
          | exit i => cases p0; exact hpost
          | ret => cases p0; exact hpost
          | panic u => cases p0; exact hpost
    case cond x y z =>
      replace he : (match oev t x with
        | .bool b => cond b (nxt (evC P H call nt k y t s)) (nxt (evC P H call nt k z t s))
        | _ => none) = some (e, t', s') := he
      split at he
      · rename_i b hb
        have hv := oev_ok ht x
        rw [hb] at hv
        have hx : a.eval x = .bool b := by
          generalize a.eval x = u at hv
          cases hv
          rfl
        refine wp_cond hx ?_
        cases b
        · exact evC_ok hH hc k z t s e t' s' he E a w ht h hf
        · exact evC_ok hH hc k y t s e t' s' he E a w ht h hf
      · cases he
    case block i x =>
      replace he : (match evC P H call nt k x t s with
        | none => none
        | some q => match q.1 with
          | .exit j => cond (Nat.beq j i) (some (Ex.normal, q.2.1, q.2.2)) (some (.exit j, q.2.1, q.2.2))
          | e => some (e, q.2.1, q.2.2)) = some (e, t', s') := he
      split at he
      · cases he
      · rename_i q hq
        obtain ⟨e1, t1, s1⟩ := q
        have hx := evC_ok hH hc k x t s e1 t1 s1 hq E a w ht h hf
        refine wp_block (wp_mono hx fun ex a1 w1 hp => ?_)
        obtain ⟨p0, E1, p1, p2, p3, p4, p5⟩ := hp
        dsimp only at he
        split at he
        · rename_i j
          cases p0
          cases hj : Nat.beq j i with
          | true =>
            rw [hj] at he
            have := Nat.eq_of_beq_eq_true hj
            subst this
            injection he with he
            injection he with e2 e3
            injection e3 with e3 e4
            subst e2
            subst e3
            subst e4
            show (if j = j then _ else _)
            rw [if_pos rfl]
            exact ⟨rfl, E1, p1, p2, p3, p4, p5⟩
          | false =>
            rw [hj] at he
            injection he with he
            injection he with e2 e3
            injection e3 with e3 e4
            subst e2
            subst e3
            subst e4
            show (if j = i then _ else _)
            rw [if_neg (fun e => by rw [e, Nat.beq_refl] at hj; cases hj)]
            exact ⟨rfl, E1, p1, p2, p3, p4, p5⟩
        · rename_i hne
          injection he with he
          injection he with e2 e3
          injection e3 with e3 e4
          subst e2
          subst e3
          subst e4
          have hpost : Post E nt a s w e1 t1 s1 ex a1 w1 := ⟨p0, E1, p1, p2, p3, p4, p5⟩
          cases e1 with
          | normal => cases p0; exact hpost
          | exit j => exact (hne j rfl).elim
          | ret => cases p0; exact hpost
          | panic u => cases p0; exact hpost
    case loop x =>
      cases hx : H.special x with
      | true =>
        replace he : cond (H.special x) (H.loop (evC P H call nt k) call nt x t s) _ = some (e, t', s') := he
        rw [hx] at he
        exact hH.loop call hc nt (evC P H call nt k) (fun c t s e t' s' he => evC_ok hH hc k c t s e t' s' he) x t s e t' s' he E a w ht h hf
      | false => exact wp_loop_rounds (k + 1) (loop_rounds hx (k + 1) (fun j hj t s e t' s' he => evC_ok hH hc j x t s e t' s' he) t s he E a w ht h hf E a s w (Stp.refl _ _ _) (Grow.refl _ _) rfl)
/-- Results. -/
noncomputable def resA1 (P : Program) (t : Tr AV) (s : AS) : ResultVar → Option AV
  | .tmp k => some (t.get .top k)
  | .cell k ty => loadA P ty (t.get .top k) s
noncomputable def resAs (P : Program) (t : Tr AV) (s : AS) : List ResultVar → Option (List AV)
  | [] => some []
  | r :: l => match resA1 P t s r with
    | none => none
    | some v => match resAs P t s l with
      | none => none
      | some vs => some (v :: vs)
noncomputable def resA (P : Program) (t : Tr AV) (s : AS) (l : List ResultVar) : Option AV := match resAs P t s l with
  | none => none
  | some [v] => some v
  | some vs => some (.tup vs)
theorem resAs_ok [Tab] {P : Program} {E : AEnv} {nt : Nat} {t : Tr AV} {s : AS} {a : Act} {w : World} (ht : TR E nt (t.get .top) a) (h : HR E s.get w) : ∀ (l : List ResultVar) (vs : List AV), resAs P t s l = some vs →
    ∃ xs : List Value, VL E vs xs ∧ (l.mapM fun | .tmp t => pure (a.tmps.getD t undef) | .cell k t => do loadVar t (← asAddr (a.tmps.getD k undef)) : Sem (List Value)).run P w = .ok xs w
  | [], vs, he => by
    injection he with he
    subst he
    exact ⟨[], VL.nil, rfl⟩
  | r :: l, vs, he => by
    unfold resAs at he
    split at he
    · cases he
    · rename_i v hv
      split at he
      · cases he
      · rename_i vs' hvs
        injection he with he
        subst he
        obtain ⟨xs, q1, q2⟩ := resAs_ok ht h l vs' hvs
        cases r with
        | tmp k =>
          injection hv with hv
          subst hv
          exact ⟨_ :: xs, VL.cons (ht.at_ k) q1, by rw [List.mapM_cons]; simp only [Sem.run_bind, Sem.run_pure, Result.andThen_ok, q2]⟩
        | cell k ty =>
          obtain ⟨p, y, e1, e2, e3⟩ := loadVar_ok h (ht.at_ k) hv
          exact ⟨y :: xs, VL.cons e3 q1, by
            have ea : (asAddr (a.tmps.getD k undef)).run P w = .ok p w := by rw [e1]; rfl
            rw [List.mapM_cons]
            simp only [Sem.run_bind, Sem.run_pure, Result.andThen_ok, ea, e2, q2]⟩
theorem resA_ok [Tab] {P : Program} {E : AEnv} {nt : Nat} {t : Tr AV} {s : AS} {a : Act} {w : World} {fn : Func} {v : AV} (ht : TR E nt (t.get .top) a) (h : HR E s.get w) (he : resA P t s fn.results.toList = some v) : ∃ x, (results fn a.tmps).run P w = .ok x w ∧ VR E v x := by
  unfold resA at he
  have key : ∀ vs, resAs P t s fn.results.toList = some vs → ∃ xs : List Value, VL E vs xs ∧ (results fn a.tmps).run P w = .ok (if h : xs.toArray.size = 1 then xs.toArray[0] else .tuple xs.toArray) w := by
    intro vs hvs
    obtain ⟨xs, q1, q2⟩ := resAs_ok ht h fn.results.toList vs hvs
    refine ⟨xs, q1, ?_⟩
    unfold results
    rw [Array.mapM_eq_mapM_toList]
    rw [← bind_pure_comp]
    simp only [Sem.run_bind, Sem.run_pure]
    refine (congrArg (fun z => (Result.andThen z _).andThen _) q2).trans ?_
    rfl
  split at he
  · cases he
  · rename_i u hu
    injection he with he
    subst he
    obtain ⟨xs, q1, q2⟩ := key _ hu
    match xs, q1.len with
    | [x], _ => exact ⟨x, q2, q1.head⟩
  · rename_i vs hn hu
    injection he with he
    subst he
    obtain ⟨xs, q1, q2⟩ := key _ hu
    have hl : xs.length ≠ 1 := by
      intro h1
      have := q1.len
      match vs, this with
      | [u], _ => exact hn u rfl
      | [], e => simp at e; omega
      | _ :: _ :: _, e => simp at e; omega
    refine ⟨.tuple xs.toArray, ?_, q1.tup (a := xs.toArray)⟩
    rw [q2, dif_neg (by simpa using hl)]
end Go.Proofs.YthmojpcaagnfkaaGreatDoor


/-
  The abstract machine: functions. No program.
-/
namespace Go.Proofs.YthmojpcaagnfkaaGreatDoor
open Go.RowKit

noncomputable def initT : List AV → Nat → Tr AV → Tr AV
  | [], _, t => t
  | v :: r, k, t => initT r (Nat.succ k) (t.set .top v 20 k)
noncomputable def Ex.ends : Ex → Bool
  | .normal => true
  | .ret => true
  | .exit _ => false
  | .panic _ => false
noncomputable def endA (P : Program) (rs : List ResultVar) (q : Ex × Tr AV × AS) : Option (AV × AS) := match q.1 with
  | .panic u => some (.pan u, q.2.2)
  | e => cond e.ends (match resA P q.2.1 q.2.2 rs with
    | some v => some (v, q.2.2)
    | none => none) none
noncomputable def evF (P : Program) (H : Hooks) (fs : Nat → Option Func) (orc : Nat → Option (List AV → AS → Option (AV × AS))) (fuel : Nat) : Nat → Nat → List AV → AS → Option (AV × AS)
  | 0, _, _, _ => none
  | d + 1, f, args, s => match orc f with
    | some g => g args s
    | none => match fs f with
      | none => none
      | some fn => match fn.body with
        | none => none
        | some c => cond (Nat.ble fn.ntmps 1000000) (cond (Nat.ble args.length fn.ntmps) (match evC P H (evF P H fs orc fuel d) fn.ntmps fuel c (initT args 0 .leaf) s with
          | none => none
          | some q => endA P fn.results.toList q) none) none
theorem initT_ok [Tab] {E : AEnv} : ∀ (l : List AV) (vs : List Value) (k : Nat) (t : Tr AV) (f : Nat → Value), VL E l vs → k + l.length ≤ 1000000 → (∀ j, j < k → VR E (t.get .top j) (f j)) → (∀ j, k ≤ j → t.get .top j = .top) → (∀ j v, vs[j]? = some v → f (k + j) = v) →
    ∀ j, VR E ((initT l k t).get .top j) (f j)
  | [], vs, k, t, f, hl, _, h1, h2, h3, j => by
    show VR E (t.get .top j) (f j)
    rcases Nat.lt_or_ge j k with h | h
    · exact h1 j h
    · rw [h2 j h]; exact .top _
  | v :: r, [], _, _, _, hl, _, _, _, _, _ => by have := hl.len; simp at this
  | v :: r, x :: vs, k, t, f, hl, hk, h1, h2, h3, j => by
    simp only [List.length_cons] at hk
    refine initT_ok r vs (k + 1) _ f hl.tail (by omega) (fun i hi => ?_) (fun i hi => ?_) (fun i u hu => ?_) j
    · by_cases e : i = k
      · subst e
        rw [Tr.get_set _ _ _ _ _ (by omega)]
        have := h3 0 x rfl
        rw [Nat.add_zero] at this
        rw [this]
        exact hl.head
      · rw [Tr.get_set_ne _ _ _ _ _ _ e]
        exact h1 i (by omega)
    · rw [Tr.get_set_ne _ _ _ _ _ _ (by omega)]
      exact h2 i (by omega)
    · have := h3 (i + 1) u (by simpa using hu)
      rw [← this]
      congr 1
      omega
structure FnsOK (P : Program) (fs : Nat → Option Func) : Prop where
  at_ : ∀ f fn, fs f = some fn → P.funcs[f]? = some fn ∧ (fn.name == "runtime.NumGoroutine") = false
theorem evF_some {P : Program} {H : Hooks} {fs : Nat → Option Func} {orc : Nat → Option (List AV → AS → Option (AV × AS))} {fuel d f : Nat} {args : List AV} {s s' : AS} {v : AV} (hfs : FnsOK P fs) (ho : orc f = none) (h : evF P H fs orc fuel (d + 1) f args s = some (v, s')) :
    ∃ fn c q, P.funcs[f]? = some fn ∧ (fn.name == "runtime.NumGoroutine") = false ∧ fn.body = some c ∧ fn.ntmps ≤ 1000000 ∧ args.length ≤ fn.ntmps ∧ evC P H (evF P H fs orc fuel d) fn.ntmps fuel c (initT args 0 .leaf) s = some q ∧ endA P fn.results.toList q = some (v, s') := by
  unfold evF at h
  rw [ho] at h
  dsimp only at h
  split at h
  · cases h
  · rename_i fn hfn
    split at h
    · cases h
    · rename_i c hb
      obtain ⟨h1, h2⟩ := hfs.at_ f fn hfn
      cases hn : Nat.ble fn.ntmps 1000000 with
      | false => rw [hn] at h; cases h
      | true =>
      cases hl : Nat.ble args.length fn.ntmps with
      | false => rw [hn, hl] at h; cases h
      | true =>
        rw [hn, hl] at h
        simp only [cond_true] at h
        split at h
        · cases h
        · rename_i q hq
          exact ⟨fn, c, q, h1, h2, hb, Nat.le_of_ble_eq_true hn, Nat.le_of_ble_eq_true hl, hq, h⟩
theorem start_TR [Tab] {E : AEnv} {nt : Nat} {args : List AV} {xs : Array Value} (hn' : nt ≤ 1000000) (hl' : args.length ≤ nt) (hv : VL E args xs.toList) : TR E nt ((initT args 0 .leaf).get .top) { tmps := xs ++ Array.replicate (nt - xs.size) undef, defers := [] } := by
  have hxl : xs.size = args.length := by have := hv.len; simpa using this.symm
  refine ⟨by simp; omega, hn', initT_ok args xs.toList 0 .leaf _ hv (by omega) (fun j hj => absurd hj (Nat.not_lt_zero _)) (fun j _ => rfl) (fun j y hy => ?_)⟩
  have hj : j < xs.size := by
    have := (List.getElem?_eq_some_iff.1 hy).1
    simpa using this
  rw [Nat.zero_add]
  have hy' : xs[j]? = some y := by simpa using hy
  simp only [Array.getD_eq_getD_getElem?, Array.getElem?_append_left hj, hy', Option.getD_some]
theorem endA_cases {P : Program} {rs : List ResultVar} {e : Ex} {t : Tr AV} {s s' : AS} {v : AV} (h : endA P rs (e, t, s) = some (v, s')) : (∃ u, e = .panic u ∧ v = .pan u ∧ s' = s) ∨ ((e = .normal ∨ e = .ret) ∧ resA P t s rs = some v ∧ s' = s) := by
  have key : e.ends = true → (cond e.ends (match resA P t s rs with
    | some v => some (v, s)
    | none => none) none : Option (AV × AS)) = some (v, s') → resA P t s rs = some v ∧ s' = s := by
    intro he h
    rw [he] at h
    simp only [cond_true] at h
    split at h
    · rename_i u hu
      injection h with h
      injection h with e1 e2
      subst e1
      exact ⟨hu, e2.symm⟩
    · cases h
  cases e with
  | panic u =>
    injection h with h
    injection h with e1 e2
    exact .inl ⟨u, rfl, e1.symm, e2.symm⟩
  | normal => exact .inr ⟨.inl rfl, key rfl h⟩
  | ret => exact .inr ⟨.inr rfl, key rfl h⟩
  | exit i => cases h
theorem evF_ok [Tab] {P : Program} {H : Hooks} (hH : DrawOK P H) {fs : Nat → Option Func} (hfs : FnsOK P fs) {orc : Nat → Option (List AV → AS → Option (AV × AS))} (ho : CallOK P fun f args s => match orc f with | some g => g args s | none => none) {fuel : Nat} :
    ∀ d, CallOK P (evF P H fs orc fuel d)
  | 0 => ⟨fun f args s r h => (by cases h), fun f args s v s' h => (by cases h), fun f args s v s' h => (by cases h)⟩
  | d + 1 => by
    have ih := evF_ok hH hfs ho (fuel := fuel) d
    have old : ∀ {f : Nat} {g : List AV → AS → Option (AV × AS)} {args : List AV} {s : AS}, orc f = some g → evF P H fs orc fuel (d + 1) f args s = g args s := fun {f g args s} hg => by
      show (match orc f with
        | some g => g args s
        | none => _) = _
      rw [hg]
    refine ⟨fun f args s r h => ?_, fun f args s v s' h hnp E w xs hr hf hv => ?_, fun f args s u s' h E w xs hr hf hv => ?_⟩
    · cases hg : orc f with
      | some g =>
        rw [old hg] at h
        exact ho.fn f args s r (by rw [hg]; exact h)
      | none =>
        obtain ⟨fn, c, q, h1, h2, hb, _⟩ := evF_some (v := r.1) (s' := r.2) hfs hg h
        exact ⟨fn, h1, by rw [hb]; rfl, h2⟩
    · cases hg : orc f with
      | some g =>
        rw [old hg] at h
        exact ho.calls f args s v s' (by rw [hg]; exact h) hnp E w xs hr hf hv
      | none =>
        obtain ⟨fn, c, ⟨e, t', s1⟩, h1, h2, hb, hn', hl', hq, hend⟩ := evF_some hfs hg h
        rcases endA_cases hend with ⟨u, _, hv', _⟩ | ⟨he, hu, rfl⟩
        · exact absurd hv' (hnp u)
        · refine calls_of_wp h1 hb ?_
          refine wp_mono (evC_ok hH ih fuel c _ s e t' s' hq E _ w (start_TR hn' hl' hv) hr hf) fun ex a' w' hp => ?_
          obtain ⟨p0, E', p1, p2, p3, p4, p5⟩ := hp
          obtain ⟨x, r1, r2⟩ := resA_ok (fn := fn) p1 p2 hu
          rcases he with rfl | rfl
          · cases p0; exact ⟨p5, x, r1, x, E', rfl, r2, p2, p3, p4⟩
          · cases p0; exact ⟨p5, x, r1, x, E', rfl, r2, p2, p3, p4⟩
    · cases hg : orc f with
      | some g =>
        rw [old hg] at h
        exact ho.pans f args s u s' (by rw [hg]; exact h) E w xs hr hf hv
      | none =>
        obtain ⟨fn, c, ⟨e, t', s1⟩, h1, h2, hb, hn', hl', hq, hend⟩ := evF_some hfs hg h
        refine calls_of_wp h1 hb ?_
        refine wp_mono (evC_ok hH ih fuel c _ s e t' s1 hq E _ w (start_TR hn' hl' hv) hr hf) fun ex a' w' hp => ?_
        obtain ⟨p0, E', p1, p2, p3, p4, p5⟩ := hp
        rcases endA_cases hend with ⟨u', rfl, hv', rfl⟩ | ⟨he, hu, rfl⟩
        · injection hv' with hv'
          subst hv'
          cases p0
          exact ⟨p5, E', rfl, p2, p3, p4⟩
        · obtain ⟨x, r1, r2⟩ := resA_ok (fn := fn) p1 p2 hu
          cases r2
/-- No hooks: what draws, and loops over maps, are not gone through. -/
noncomputable def noHooks : Hooks := ⟨fun _ _ _ _ _ => none, fun _ => false, fun _ _ _ _ _ _ => none⟩
theorem noHooks_ok [Tab] (P : Program) : DrawOK P noHooks := ⟨fun _ _ _ _ _ _ _ _ _ h => (by cases h), fun _ _ _ _ _ _ _ _ _ _ _ h => (by cases h)⟩
end Go.Proofs.YthmojpcaagnfkaaGreatDoor
