/-
  A box of cells, a struct's worth of them read and written at once.
-/
import Derived.Deep.MidRow
import Derived.Test.YtamcbgkppgdniaaGreatDoorJsI
namespace Go.Proofs.YtamcbgkppgdniaaGreatDoor
open Go.RowKit

/-- Cells put over cells, from an offset on. -/
def putA (cs : Array Value) : Nat → List Value → Array Value
  | _, [] => cs
  | o, v :: r => putA (cs.setIfInBounds o v) (o + 1) r
theorem putA_over : ∀ (vs cs pre : List Value), vs.length = cs.length → putA (pre ++ cs).toArray pre.length vs = (pre ++ vs).toArray
  | [], [], pre, _ => by simp [putA]
  | v :: r, c :: cs, pre, h => by
    show putA ((pre ++ c :: cs).toArray.setIfInBounds pre.length v) (pre.length + 1) r = _
    have h1 : (pre ++ c :: cs).toArray.setIfInBounds pre.length v = ((pre ++ [v]) ++ cs).toArray := by simp
    have h2 := putA_over r cs (pre ++ [v]) (by simpa using h)
    rw [h1]
    simpa using h2
theorem putA_whole (vs cs : List Value) (h : vs.length = cs.length) : putA cs.toArray 0 vs = vs.toArray := by
  simpa using putA_over vs cs [] h
theorem Cel.sets {b : Nat} {t : TypeId} : ∀ (vs : List Value) (o : Nat) (cs : Array Value) (w : World), Cel w b t cs → Cel (w.setCells b o vs) b t (putA cs o vs)
  | [], _, _, _, h => h
  | v :: r, o, cs, w, h => Cel.sets r (o + 1) (cs.setIfInBounds o v) (w.setCell ⟨b, o, none⟩ v) (h.set o v)
theorem sets_below {b : Nat} : ∀ (vs : List Value) (o : Nat) (w : World), (∀ B, B ≤ b → Below B w (w.setCells b o vs)) ∧ (∀ d, d ≠ b → (w.setCells b o vs).heap[d]? = w.heap[d]?) ∧ (w.setCells b o vs).heap.size = w.heap.size
  | [], _, w => ⟨fun B _ => Below.refl B w, fun _ _ => rfl, rfl⟩
  | v :: r, o, w => by
    obtain ⟨h1, h2, h3⟩ := sets_below r (o + 1) (w.setCell ⟨b, o, none⟩ v)
    refine ⟨fun B hB => ((Below.refl B w).setCell (p := ⟨b, o, none⟩) hB v).trans (h1 B hB), fun d hd => (h2 d hd).trans (Below.heap_setCell _ _ _ _ hd), h3.trans (by simp [World.setCell])⟩
/-- The world has changed at one block alone. -/
def Alone (b : Nat) (w w' : World) : Prop := (∀ B, B ≤ b → Below B w w') ∧ (∀ d, d ≠ b → w'.heap[d]? = w.heap[d]?) ∧ w'.heap.size = w.heap.size
theorem Alone.cel {b d : Nat} {w w' : World} (h : Alone b w w') {t : TypeId} {cs : Array Value} (hC : Cel w d t cs) (hd : d ≠ b) : Cel w' d t cs := (h.2.1 d hd).trans hC
theorem wpList_store_cel {P : Program} {ops : Array Oper} {rest : List Oper} {op : Oper} {a : Act} {w : World} {Q : Exit → Act → World → Prop} (hgd : op.guard = none) (ty : TypeId) (x y : Operand) (ho : op.op = .store ty x y)
    (b o : Nat) (cells cs new : Array Value) (t : TypeId) (hx : a.eval x = .pointer (some ⟨b, o, none⟩)) (hy : a.eval y = .agg cells) (hC : Cel w b t cs) (hlen : o + cells.size ≤ cs.size) (hnew : putA cs o cells.toList = new)
    (hi : (P.info? ty).map (·.size) = some cells.size) (h1 : cells.all (·.oneCell') = true)
    (h : ∀ w', Cel w' b t new → Alone b w w' → wpList P ops Q rest (a.put op.dst undef) w') : wpList P ops Q (op :: rest) a w :=
  wpList_store_mid hgd ty x y ho b o cells hx hy (fun j hj => ⟨by rw [hC.cell]; rw [Array.getElem?_eq_getElem (by omega)]; rfl, hC.froz _⟩) hi h1 (h _ (by have := Cel.sets cells.toList o cs w hC; rwa [hnew] at this) (sets_below cells.toList o w))
theorem wpList_load_cel {P : Program} {ops : Array Oper} {rest : List Oper} {op : Oper} {a : Act} {w : World} {Q : Exit → Act → World → Prop} (hgd : op.guard = none) (ty : TypeId) (x : Operand) (ho : op.op = .load ty x)
    (b o : Nat) (cs : Array Value) (sub : List Value) (t : TypeId) (d : TypeDesc) (hx : a.eval x = .pointer (some ⟨b, o, none⟩)) (hC : Cel w b t cs) (hsub : ∀ j v, sub[j]? = some v → cs[o + j]? = some v)
    (hu : P.underlying ty = some d) (hd : d.isRow = true) (hi : (P.info? ty).map (·.size) = some sub.length)
    (h : wpList P ops Q rest (a.put op.dst (.agg sub.toArray)) w) : wpList P ops Q (op :: rest) a w :=
  wpList_load_mid hgd ty x ho b o hx sub d (fun j v hv => by rw [hC.cell]; exact hsub j v hv) hu hd hi h
theorem wpList_load_all {P : Program} {ops : Array Oper} {rest : List Oper} {op : Oper} {a : Act} {w : World} {Q : Exit → Act → World → Prop} (hgd : op.guard = none) (ty : TypeId) (x : Operand) (ho : op.op = .load ty x)
    (b : Nat) (cs : Array Value) (t : TypeId) (d : TypeDesc) (hx : a.eval x = .pointer (some ⟨b, 0, none⟩)) (hC : Cel w b t cs)
    (hu : P.underlying ty = some d) (hd : d.isRow = true) (hi : (P.info? ty).map (·.size) = some cs.size)
    (h : wpList P ops Q rest (a.put op.dst (.agg cs)) w) : wpList P ops Q (op :: rest) a w :=
  wpList_load_cel hgd ty x ho b 0 cs cs.toList t d hx hC (fun j v hv => by simpa using hv) hu hd (by simpa using hi) (by simpa using h)
/-- Results: a struct's cell, and a slot. -/
theorem results_cel2 {P : Program} {fn : Func} {p q : Tmp} {ty : TypeId} (h : fn.results = #[.cell p ty, .tmp q]) (tmps : Array Value) (w : World) (g : Nat) (t : TypeId) (cs : Array Value) (d : TypeDesc)
    (hp : tmps.getD p undef = .pointer (some ⟨g, 0, none⟩)) (hg : Cel w g t cs) (hu : P.underlying ty = some d) (hd : d.isRow = true) (hi : (P.info? ty).map (·.size) = some cs.size) :
    (results fn tmps).run P w = .ok (.tuple #[.agg cs, tmps.getD q undef]) w := by
  have hp' : tmps[p]?.getD undef = .pointer (some ⟨g, 0, none⟩) := by simpa using hp
  have hl : (loadVar ty ⟨g, 0, none⟩).run P w = .ok (.agg cs) w := by
    have := run_loadVar_mid (P := P) w g 0 ty cs.toList d (fun j v hv => by rw [hg.cell]; simpa using hv) hu hd (by simpa using hi)
    simpa using this
  simp [results, h, hp', asAddr, hl]
theorem msgDesc : ∃ d, Tryz.prog.underlying 56 = some d ∧ d.isRow = true := ⟨_, Tryz.underlying56, rfl⟩
theorem msgInfo : (Tryz.prog.info? 56).map (·.size) = some 16 := by kernel_rfl
theorem jsnInfo : (Tryz.prog.info? 25).map (·.size) = some 4 := by kernel_rfl
theorem jsnDesc : ∃ d, Tryz.prog.underlying 25 = some d ∧ d.isRow = true := ⟨_, Tryz.underlying25, rfl⟩
end Go.Proofs.YtamcbgkppgdniaaGreatDoor
