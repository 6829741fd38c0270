/-
  The walks of rpc.About (a map literal) and of the document's About.
-/
import Derived.Test.YtlnkjacbdolhnaaGreatDoorM12
import Derived.Maps.StringElems
import Derived.Test.YtlnkjacbdolhnaaGreatDoorM03
import Derived.Lib.SlicesS
import Derived.Deep.RegionLaw
import Derived.Deep.RegionHeld3
import Derived.Deep.MidRow
namespace Go.Proofs.YtlnkjacbdolhnaaGreatDoor
open Go.RowKit Go.WideMaps Go.Maps

/-- What a code is. -/
def aboutS (c : Int) : ByteArray :=
  if c = -32700 then ⟨#[110, 111, 32, 74, 83, 79, 78]⟩ else
  if c = -32600 then ⟨#[110, 111, 32, 114, 101, 113, 117, 101, 115, 116]⟩ else
  if c = -32601 then ⟨#[110, 111, 32, 115, 117, 99, 104, 32, 109, 101, 116, 104, 111, 100]⟩ else
  if c = -32602 then ⟨#[119, 114, 111, 110, 103, 32, 112, 97, 114, 97, 109, 101, 116, 101, 114, 115]⟩ else
  if c = -32002 then ⟨#[110, 111, 116, 32, 105, 110, 105, 116, 105, 97, 108, 105, 122, 101, 100]⟩ else
  if c = -32800 then ⟨#[99, 97, 110, 99, 101, 108, 108, 101, 100]⟩ else
  if c = -32803 then ⟨#[114, 101, 102, 117, 115, 101, 100]⟩ else
  if c = -32000 then ⟨#[116, 104, 101, 32, 113, 117, 101, 117, 101, 32, 105, 115, 32, 102, 117, 108, 108]⟩ else
  if c = -32001 then ⟨#[116, 111, 111, 32, 103, 114, 101, 97, 116]⟩ else
  ⟨#[]⟩
/-- The literal. -/
def aboutD : DataW Unit :=
  ((((((((((.map [] : DataW Unit).put (.int .i64 (-32700)) (.lit (.string [110, 111, 32, 74, 83, 79, 78]))).put (.int .i64 (-32600)) (.lit (.string [110, 111, 32, 114, 101, 113, 117, 101, 115, 116]))).put (.int .i64 (-32601)) (.lit (.string [110, 111, 32, 115, 117, 99, 104, 32, 109, 101, 116, 104, 111, 100]))).put (.int .i64 (-32602)) (.lit (.string [119, 114, 111, 110, 103, 32, 112, 97, 114, 97, 109, 101, 116, 101, 114, 115]))).put (.int .i64 (-32002)) (.lit (.string [110, 111, 116, 32, 105, 110, 105, 116, 105, 97, 108, 105, 122, 101, 100]))).put (.int .i64 (-32800)) (.lit (.string [99, 97, 110, 99, 101, 108, 108, 101, 100]))).put (.int .i64 (-32803)) (.lit (.string [114, 101, 102, 117, 115, 101, 100]))).put (.int .i64 (-32000)) (.lit (.string [116, 104, 101, 32, 113, 117, 101, 117, 101, 32, 105, 115, 32, 102, 117, 108, 108]))).put (.int .i64 (-32001)) (.lit (.string [116, 111, 111, 32, 103, 114, 101, 97, 116])))
end Go.Proofs.YtlnkjacbdolhnaaGreatDoor


/-
  The walks of slices.Index over strings, and of json.Get.
-/
namespace Go.Proofs.YtlnkjacbdolhnaaGreatDoor
open Go.RowKit

def findI (L : List ByteArray) (x : ByteArray) : Int := match jfind L x with | none => -1 | some i => (i : Int)
def zeroJ : Jsn := ⟨0, ⟨#[]⟩, [], []⟩
/-- How a call ends that hands a value of its own, and whether there is one. -/
def GetJEnd (r : Option Jsn) (w : World) (e : Ending) (w' : World) : Prop := ∃ vn vl, e = .returned (.tuple #[.agg #[.int .u8 (r.getD zeroJ).kind, .string (r.getD zeroJ).text, vn, vl], .bool r.isSome]) ∧ OwnJ w' 9 25 (r.getD zeroJ) w.heap.size w'.heap.size vn vl ∧ Below w.heap.size w w'
end Go.Proofs.YtlnkjacbdolhnaaGreatDoor


/-
  Rows of names, values put together: what given rests on (law by law).
-/
namespace Go.Proofs.YtlnkjacbdolhnaaGreatDoor
open Go.RowKit

theorem infoS : (Tryz.prog.info? 9).map (fun i => (i.zero, i.size, i.bytes)) = some (some (.string ByteArray.empty), 1, 16) := by kernel_rfl
def NamesPost (n : List ByteArray) (W : World) (v' : Value) (W' : World) : Prop := (∃ gn, W.heap.size ≤ gn ∧ NamO W' 9 W.heap.size W'.heap.size gn v' n) ∧ Below W.heap.size W W'
theorem jl_step_run {P : Program} {ops : Array Oper} {o : Oper} {a : Act} {w : World} {K : Act → World → Prop} {Q : Exit → Act → World → Prop} {E : Prop}
    (hg : o.guard = none) (s x : Operand) (t1 t2 : TypeId) (hop : o.op = Op.call { callee := Callee.builtin Builtin.append, args := #[s, x], argTypes := #[t1, t2] })
    (vs vx v : Value) (w' : World) (hs : a.eval s = vs) (hx : a.eval x = vx) (hrun : (Builtin.append_ #[t1, t2] o.type #[vs, vx]).run P w = .ok v w') (hK : K (a.put o.dst v) w') :
    if Region.wanted o (yielded ops a.tmps) = true then Oper.wp P o a w K Q else E := by
  have hw : Region.wanted o (yielded ops a.tmps) = true := by simp [Region.wanted, hg]
  rw [if_pos hw]
  unfold Oper.wp
  simp [execOp, hop, resolve, invoke, builtin, hs, hx, hrun, Result.andThen]
  exact hK
/-- Names in a block of the call's own, other than bo. -/
def NamG (w : World) (lo hi bo : Nat) (v : Value) (n : List ByteArray) : Prop := ∃ gn, gn < hi ∧ gn ≠ bo ∧ NamO w 9 lo hi gn v n
theorem NamG.len {w : World} {lo hi bo : Nat} {v : Value} {n : List ByteArray} (h : NamG w lo hi bo v n) : ∃ A c, v = .slice A n.length c := by
  obtain ⟨_, _, _, A, c, rfl, _⟩ := h
  exact ⟨A, c, rfl⟩
theorem NamG.keep {w w' : World} {lo hi bo : Nat} {v : Value} {n : List ByteArray} (h : NamG w lo hi bo v n) (hk : ∀ b, lo ≤ b → b < hi → b ≠ bo → w'.heap[b]? = w.heap[b]?) : NamG w' lo hi bo v n := by
  obtain ⟨gn, h1, h2, A, c, rfl, q⟩ := h
  refine ⟨gn, h1, h2, A, c, rfl, fun hp => ?_⟩
  obtain ⟨e, q1, q2, cs, q3, q4⟩ := q hp
  exact ⟨e, q1, q2, cs, (hk gn q1 q2 h2).trans q3, q4⟩
theorem KidO.name {gl gn gn' lo hi : Nat} {cs : Array Value} {l : List (Jsn × (Nat → Nat → Value → Value → Prop))} {ws : List OE} (h : KidO gl gn lo hi cs l ws) (hg : gn' < lo) : KidO gl gn' lo hi cs l ws :=
  ⟨h.1, fun i x u hx hu => by obtain ⟨q1, q2, q3, q4, q5, q6, q7⟩ := h.2.1 i x u hx hu; exact ⟨q1, q2, q3, q4, q5, by omega, q7⟩, h.2.2⟩
/-- A value of the call's own, out of its row and names that lie ahead of it. -/
theorem mk_own2 {wr : World} {lo lo' B gn : Nat} {tS tJ : TypeId} {v vn : Value} {k : Int} {s : ByteArray} {ns : List ByteArray} {l : List Jsn} (hk0 : 0 ≤ k) (hk1 : k ≤ 255) (h : RowO wr B tS tJ v l) (hlo : lo' ≤ lo ∧ lo' ≤ B) (hg : gn < B) (hBs : B ≤ wr.heap.size)
    (hn : NamO wr tS lo B gn vn ns) : OwnJ wr tS tJ ⟨k, s, ns, l⟩ lo' wr.heap.size vn v := by
  obtain ⟨gl, cs, A, c, ws, hv, h1, h2⟩ := h.kids
  rw [OwnJ_eq]
  refine ⟨hk0, hk1, gn, gl, cs, A, c, ws, hn.keep (fun _ _ _ => rfl) hlo.1 hBs, hv, fun hp => ?_, ((h2 _ (Nat.le_refl _)).name hg).imp hlo.2 (Nat.le_refl _) rfl fun i x x' hx hx' => ?_⟩
  · obtain ⟨q1, q2, q3, q4⟩ := h1 hp
    exact ⟨q1, by omega, q3, by omega, q4⟩
  · rw [hx] at hx'
    injection hx' with e
    subst e
    exact ⟨rfl, fun _ _ _ _ _ _ h => h⟩
theorem bel_drew {B : Nat} {a w : World} (h : Below B a w) : Below B a w.drew := ⟨h.os, h.tape, h.output, h.size, h.block⟩
end Go.Proofs.YtlnkjacbdolhnaaGreatDoor


/-
  A box of cells, a struct's worth of them read and written at once.
-/
namespace Go.Proofs.YtlnkjacbdolhnaaGreatDoor
open Go.RowKit

/-- Cells put over cells, from an offset on. -/
def putA (cs : Array Value) : Nat → List Value → Array Value
  | _, [] => cs
  | o, v :: r => putA (cs.setIfInBounds o v) (o + 1) r
theorem putA_over : ∀ (vs cs pre : List Value), vs.length = cs.length → putA (pre ++ cs).toArray pre.length vs = (pre ++ vs).toArray
  | [], [], pre, _ => by simp [putA]
  | v :: r, c :: cs, pre, h => by
    show putA ((pre ++ c :: cs).toArray.setIfInBounds pre.length v) (pre.length + 1) r = _
    have h1 : (pre ++ c :: cs).toArray.setIfInBounds pre.length v = ((pre ++ [v]) ++ cs).toArray := by simp
    have h2 := putA_over r cs (pre ++ [v]) (by simpa using h)
    rw [h1]
    simpa using h2
theorem putA_whole (vs cs : List Value) (h : vs.length = cs.length) : putA cs.toArray 0 vs = vs.toArray := by
  simpa using putA_over vs cs [] h
theorem Cel.sets {b : Nat} {t : TypeId} : ∀ (vs : List Value) (o : Nat) (cs : Array Value) (w : World), Cel w b t cs → Cel (w.setCells b o vs) b t (putA cs o vs)
  | [], _, _, _, h => h
  | v :: r, o, cs, w, h => Cel.sets r (o + 1) (cs.setIfInBounds o v) (w.setCell ⟨b, o, none⟩ v) (h.set o v)
theorem sets_below {b : Nat} : ∀ (vs : List Value) (o : Nat) (w : World), (∀ B, B ≤ b → Below B w (w.setCells b o vs)) ∧ (∀ d, d ≠ b → (w.setCells b o vs).heap[d]? = w.heap[d]?) ∧ (w.setCells b o vs).heap.size = w.heap.size
  | [], _, w => ⟨fun B _ => Below.refl B w, fun _ _ => rfl, rfl⟩
  | v :: r, o, w => by
    obtain ⟨h1, h2, h3⟩ := sets_below r (o + 1) (w.setCell ⟨b, o, none⟩ v)
    refine ⟨fun B hB => ((Below.refl B w).setCell (p := ⟨b, o, none⟩) hB v).trans (h1 B hB), fun d hd => (h2 d hd).trans (Below.heap_setCell _ _ _ _ hd), h3.trans (by simp [World.setCell])⟩
/-- The world has changed at one block alone. -/
def Alone (b : Nat) (w w' : World) : Prop := (∀ B, B ≤ b → Below B w w') ∧ (∀ d, d ≠ b → w'.heap[d]? = w.heap[d]?) ∧ w'.heap.size = w.heap.size
theorem Alone.cel {b d : Nat} {w w' : World} (h : Alone b w w') {t : TypeId} {cs : Array Value} (hC : Cel w d t cs) (hd : d ≠ b) : Cel w' d t cs := (h.2.1 d hd).trans hC
theorem wpList_store_cel {P : Program} {ops : Array Oper} {rest : List Oper} {op : Oper} {a : Act} {w : World} {Q : Exit → Act → World → Prop} (hgd : op.guard = none) (ty : TypeId) (x y : Operand) (ho : op.op = .store ty x y)
    (b o : Nat) (cells cs new : Array Value) (t : TypeId) (hx : a.eval x = .pointer (some ⟨b, o, none⟩)) (hy : a.eval y = .agg cells) (hC : Cel w b t cs) (hlen : o + cells.size ≤ cs.size) (hnew : putA cs o cells.toList = new)
    (hi : (P.info? ty).map (·.size) = some cells.size) (h1 : cells.all (·.oneCell') = true)
    (h : ∀ w', Cel w' b t new → Alone b w w' → wpList P ops Q rest (a.put op.dst undef) w') : wpList P ops Q (op :: rest) a w :=
  wpList_store_mid hgd ty x y ho b o cells hx hy (fun j hj => ⟨by rw [hC.cell]; rw [Array.getElem?_eq_getElem (by omega)]; rfl, hC.froz _⟩) hi h1 (h _ (by have := Cel.sets cells.toList o cs w hC; rwa [hnew] at this) (sets_below cells.toList o w))
theorem wpList_load_cel {P : Program} {ops : Array Oper} {rest : List Oper} {op : Oper} {a : Act} {w : World} {Q : Exit → Act → World → Prop} (hgd : op.guard = none) (ty : TypeId) (x : Operand) (ho : op.op = .load ty x)
    (b o : Nat) (cs : Array Value) (sub : List Value) (t : TypeId) (d : TypeDesc) (hx : a.eval x = .pointer (some ⟨b, o, none⟩)) (hC : Cel w b t cs) (hsub : ∀ j v, sub[j]? = some v → cs[o + j]? = some v)
    (hu : P.underlying ty = some d) (hd : d.isRow = true) (hi : (P.info? ty).map (·.size) = some sub.length)
    (h : wpList P ops Q rest (a.put op.dst (.agg sub.toArray)) w) : wpList P ops Q (op :: rest) a w :=
  wpList_load_mid hgd ty x ho b o hx sub d (fun j v hv => by rw [hC.cell]; exact hsub j v hv) hu hd hi h
theorem wpList_load_all {P : Program} {ops : Array Oper} {rest : List Oper} {op : Oper} {a : Act} {w : World} {Q : Exit → Act → World → Prop} (hgd : op.guard = none) (ty : TypeId) (x : Operand) (ho : op.op = .load ty x)
    (b : Nat) (cs : Array Value) (t : TypeId) (d : TypeDesc) (hx : a.eval x = .pointer (some ⟨b, 0, none⟩)) (hC : Cel w b t cs)
    (hu : P.underlying ty = some d) (hd : d.isRow = true) (hi : (P.info? ty).map (·.size) = some cs.size)
    (h : wpList P ops Q rest (a.put op.dst (.agg cs)) w) : wpList P ops Q (op :: rest) a w :=
  wpList_load_cel hgd ty x ho b 0 cs cs.toList t d hx hC (fun j v hv => by simpa using hv) hu hd (by simpa using hi) (by simpa using h)
/-- Results: a struct's cell, and a slot. -/
theorem results_cel2 {P : Program} {fn : Func} {p q : Tmp} {ty : TypeId} (h : fn.results = #[.cell p ty, .tmp q]) (tmps : Array Value) (w : World) (g : Nat) (t : TypeId) (cs : Array Value) (d : TypeDesc)
    (hp : tmps.getD p undef = .pointer (some ⟨g, 0, none⟩)) (hg : Cel w g t cs) (hu : P.underlying ty = some d) (hd : d.isRow = true) (hi : (P.info? ty).map (·.size) = some cs.size) :
    (results fn tmps).run P w = .ok (.tuple #[.agg cs, tmps.getD q undef]) w := by
  have hp' : tmps[p]?.getD undef = .pointer (some ⟨g, 0, none⟩) := by simpa using hp
  have hl : (loadVar ty ⟨g, 0, none⟩).run P w = .ok (.agg cs) w := by
    have := run_loadVar_mid (P := P) w g 0 ty cs.toList d (fun j v hv => by rw [hg.cell]; simpa using hv) hu hd (by simpa using hi)
    simpa using this
  simp [results, h, hp', asAddr, hl]
theorem jsnInfo : (Tryz.prog.info? 25).map (·.size) = some 4 := by kernel_rfl
theorem jsnDesc : ∃ d, Tryz.prog.underlying 25 = some d ∧ d.isRow = true := ⟨_, Tryz.underlying25, rfl⟩
end Go.Proofs.YtlnkjacbdolhnaaGreatDoor


/-
  Messages: what an envelope says, as plain data; as they lie. The walk of rpc.asks.
-/
namespace Go.Proofs.YtlnkjacbdolhnaaGreatDoor
open Go.RowKit

structure Msg where
  kind : Int
  id : Jsn
  method : ByteArray
  params : Jsn
  result : Jsn
  code : Int
  text : ByteArray
def zeroM : Msg := ⟨0, zeroJ, ⟨#[]⟩, zeroJ, zeroJ, 0, ⟨#[]⟩⟩
def jvV (j : Jsn) (vn vl : Value) : Value := .agg #[.int .u8 j.kind, .string j.text, vn, vl]
def msgV (m : Msg) (i1 i2 p1 p2 r1 r2 : Value) : Value := .agg #[.int .u8 m.kind, .int .u8 m.id.kind, .string m.id.text, i1, i2, .string m.method, .int .u8 m.params.kind, .string m.params.text, p1, p2, .int .u8 m.result.kind, .string m.result.text, r1, r2, .int .i64 m.code, .string m.text]
def nilV : Value := .slice none 0 0
def zeroMV : Value := msgV zeroM nilV nilV nilV nilV nilV nilV
/-- A request, or a note. -/
def jasks (id m p : Jsn) (hasid hasp : Bool) : Msg × Int :=
  if m.kind ≠ 5 ∨ (hasid = true ∧ jisid id = false) ∨ (hasp = true ∧ jispar p = false) then (zeroM, 73)
  else (⟨if hasid then 1 else 2, id, m.text, p, zeroJ, 0, ⟨#[]⟩⟩, 0)
/-- A result, or a fault. -/
def janswers (id r code text : Jsn) (hasid good bad hast : Bool) : Msg × Int :=
  if hasid = false ∨ good = bad then (zeroM, 73)
  else if good = true then (if jisid id = false then (zeroM, 73) else (⟨3, id, ⟨#[]⟩, zeroJ, r, 0, ⟨#[]⟩⟩, 0))
  else if hast = false ∨ (jwhole code).2 = false ∨ text.kind ≠ 5 ∨ (jisid id = false ∧ id.kind ≠ 1) then (zeroM, 73)
  else (⟨4, id, ⟨#[]⟩, zeroJ, zeroJ, (jwhole code).1, text.text⟩, 0)
def kVer : ByteArray := ⟨#[106, 115, 111, 110, 114, 112, 99]⟩
def kId : ByteArray := ⟨#[105, 100]⟩
def kMeth : ByteArray := ⟨#[109, 101, 116, 104, 111, 100]⟩
def kPar : ByteArray := ⟨#[112, 97, 114, 97, 109, 115]⟩
def kRes : ByteArray := ⟨#[114, 101, 115, 117, 108, 116]⟩
def kErr : ByteArray := ⟨#[101, 114, 114, 111, 114]⟩
def kCode : ByteArray := ⟨#[99, 111, 100, 101]⟩
def kMsg : ByteArray := ⟨#[109, 101, 115, 115, 97, 103, 101]⟩
def jgd (j : Jsn) (s : ByteArray) : Jsn := (jget j s).getD zeroJ
def jgs (j : Jsn) (s : ByteArray) : Bool := (jget j s).isSome
def jread (Own : List UInt8 → List UInt8 × Int) (Val : List UInt8 → Bool) (j : Jsn) : Msg × Int :=
  if jcheck Own Val j ≠ 0 then (zeroM, jcheck Own Val j)
  else if jgs j kVer = false ∨ (jgd j kVer).kind ≠ 5 ∨ (jgd j kVer).text ≠ ⟨#[50, 46, 48]⟩ then (zeroM, 73)
  else if jgs j kMeth = true then jasks (jgd j kId) (jgd j kMeth) (jgd j kPar) (jgs j kId) (jgs j kPar)
  else janswers (jgd j kId) (jgd j kRes) (jgd (jgd j kErr) kCode) (jgd (jgd j kErr) kMsg) (jgs j kId) (jgs j kRes) (jgs j kErr) (jgs (jgd j kErr) kMsg)
theorem Cel.f16 {w : World} {b : Nat} {t : TypeId} {cs : Array Value} (h : Cel w b t cs) :
    w.frozen? ⟨b, 0, none⟩ = false ∧ w.frozen? ⟨b, 1, none⟩ = false ∧ w.frozen? ⟨b, 2, none⟩ = false ∧ w.frozen? ⟨b, 3, none⟩ = false ∧ w.frozen? ⟨b, 4, none⟩ = false ∧ w.frozen? ⟨b, 5, none⟩ = false ∧ w.frozen? ⟨b, 6, none⟩ = false ∧ w.frozen? ⟨b, 7, none⟩ = false ∧ w.frozen? ⟨b, 8, none⟩ = false ∧ w.frozen? ⟨b, 9, none⟩ = false ∧ w.frozen? ⟨b, 10, none⟩ = false ∧ w.frozen? ⟨b, 11, none⟩ = false ∧ w.frozen? ⟨b, 12, none⟩ = false ∧ w.frozen? ⟨b, 13, none⟩ = false ∧ w.frozen? ⟨b, 14, none⟩ = false ∧ w.frozen? ⟨b, 15, none⟩ = false :=
  ⟨h.froz 0, h.froz 1, h.froz 2, h.froz 3, h.froz 4, h.froz 5, h.froz 6, h.froz 7, h.froz 8, h.froz 9, h.froz 10, h.froz 11, h.froz 12, h.froz 13, h.froz 14, h.froz 15⟩
theorem Cel.c4 {w : World} {b : Nat} {t : TypeId} {x0 x1 x2 x3 : Value} (h : Cel w b t #[x0, x1, x2, x3]) :
    w.cell? ⟨b, 0, none⟩ = some x0 ∧ w.cell? ⟨b, 1, none⟩ = some x1 ∧ w.cell? ⟨b, 2, none⟩ = some x2 ∧ w.cell? ⟨b, 3, none⟩ = some x3 :=
  ⟨h.cell 0, h.cell 1, h.cell 2, h.cell 3⟩
theorem Cel.f4 {w : World} {b : Nat} {t : TypeId} {cs : Array Value} (h : Cel w b t cs) :
    w.frozen? ⟨b, 0, none⟩ = false ∧ w.frozen? ⟨b, 1, none⟩ = false ∧ w.frozen? ⟨b, 2, none⟩ = false ∧ w.frozen? ⟨b, 3, none⟩ = false :=
  ⟨h.froz 0, h.froz 1, h.froz 2, h.froz 3⟩

/-- What asks leaves: the params are the call's own. -/
def AsksEnd (id m p : Jsn) (i1 i2 : Value) (hasid hasp : Bool) (w : World) (e : Ending) (w' : World) : Prop :=
  ∃ x1 x2 p1 p2, e = .returned (.tuple #[msgV (jasks id m p hasid hasp).1 x1 x2 p1 p2 nilV nilV, .int .i64 (jasks id m p hasid hasp).2]) ∧
    (((jasks id m p hasid hasp).1.id = id ∧ x1 = i1 ∧ x2 = i2) ∨ ((jasks id m p hasid hasp).1.id = zeroJ ∧ x1 = nilV ∧ x2 = nilV)) ∧
    OwnJ w' 9 25 (jasks id m p hasid hasp).1.params w.heap.size w'.heap.size p1 p2 ∧ (jasks id m p hasid hasp).1.result = zeroJ ∧ Below w.heap.size w w'

end Go.Proofs.YtlnkjacbdolhnaaGreatDoor


/-
  The walk of rpc.answers.
-/
namespace Go.Proofs.YtlnkjacbdolhnaaGreatDoor
open Go.RowKit

/-- What answers leaves: the result is the call's own. -/
def AnswersEnd (M : Msg × Int) (id : Jsn) (i1 i2 : Value) (w : World) (e : Ending) (w' : World) : Prop :=
  ∃ x1 x2 r1 r2, e = .returned (.tuple #[msgV M.1 x1 x2 nilV nilV r1 r2, .int .i64 M.2]) ∧
    ((M.1.id = id ∧ x1 = i1 ∧ x2 = i2) ∨ (M.1.id = zeroJ ∧ x1 = nilV ∧ x2 = nilV)) ∧
    OwnJ w' 9 25 M.1.result w.heap.size w'.heap.size r1 r2 ∧ M.1.params = zeroJ ∧ Below w.heap.size w w'

end Go.Proofs.YtlnkjacbdolhnaaGreatDoor
