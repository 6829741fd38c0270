/-
  Rows of names, values put together: what given rests on (law by law).
-/
import Derived.Test.YtghaoielnphhlaaGreatDoorM10
import Derived.Deep.RegionLaw
import Derived.Deep.RegionHeld3
import Derived.Test.YtghaoielnphhlaaGreatDoorM17
import Derived.Test.YtghaoielnphhlaaGreatDoorM11
import Derived.Test.YtghaoielnphhlaaGreatDoorM14
import Derived.OrdersHeld
import Derived.Deep.RegionHeld
import Derived.Test.YtghaoielnphhlaaGreatDoorM01
import Derived.Test.YtghaoielnphhlaaGreatDoorM12
import Derived.Test.YtghaoielnphhlaaGreatDoorM00
namespace Go.Proofs.YtghaoielnphhlaaGreatDoor
open Go.RowKit

theorem infoS : (Tryz.prog.info? 9).map (fun i => (i.zero, i.size, i.bytes)) = some (some (.string ByteArray.empty), 1, 16) := by kernel_rfl
def NamesPost (n : List ByteArray) (W : World) (v' : Value) (W' : World) : Prop := (∃ gn, W.heap.size ≤ gn ∧ NamO W' 9 W.heap.size W'.heap.size gn v' n) ∧ Below W.heap.size W W'
theorem jl_step_run {P : Program} {ops : Array Oper} {o : Oper} {a : Act} {w : World} {K : Act → World → Prop} {Q : Exit → Act → World → Prop} {E : Prop}
    (hg : o.guard = none) (s x : Operand) (t1 t2 : TypeId) (hop : o.op = Op.call { callee := Callee.builtin Builtin.append, args := #[s, x], argTypes := #[t1, t2] })
    (vs vx v : Value) (w' : World) (hs : a.eval s = vs) (hx : a.eval x = vx) (hrun : (Builtin.append_ #[t1, t2] o.type #[vs, vx]).run P w = .ok v w') (hK : K (a.put o.dst v) w') :
    if Region.wanted o (yielded ops a.tmps) = true then Oper.wp P o a w K Q else E := by
  have hw : Region.wanted o (yielded ops a.tmps) = true := by simp [Region.wanted, hg]
  rw [if_pos hw]
  unfold Oper.wp
  simp [execOp, hop, resolve, invoke, builtin, hs, hx, hrun, Result.andThen]
  exact hK
/-- Names in a block of the call's own, other than bo. -/
def NamG (w : World) (lo hi bo : Nat) (v : Value) (n : List ByteArray) : Prop := ∃ gn, gn < hi ∧ gn ≠ bo ∧ NamO w 9 lo hi gn v n
theorem NamG.len {w : World} {lo hi bo : Nat} {v : Value} {n : List ByteArray} (h : NamG w lo hi bo v n) : ∃ A c, v = .slice A n.length c := by
  obtain ⟨_, _, _, A, c, rfl, _⟩ := h
  exact ⟨A, c, rfl⟩
theorem NamG.keep {w w' : World} {lo hi bo : Nat} {v : Value} {n : List ByteArray} (h : NamG w lo hi bo v n) (hk : ∀ b, lo ≤ b → b < hi → b ≠ bo → w'.heap[b]? = w.heap[b]?) : NamG w' lo hi bo v n := by
  obtain ⟨gn, h1, h2, A, c, rfl, q⟩ := h
  refine ⟨gn, h1, h2, A, c, rfl, fun hp => ?_⟩
  obtain ⟨e, q1, q2, cs, q3, q4⟩ := q hp
  exact ⟨e, q1, q2, cs, (hk gn q1 q2 h2).trans q3, q4⟩
theorem KidO.name {gl gn gn' lo hi : Nat} {cs : Array Value} {l : List (Jsn × (Nat → Nat → Value → Value → Prop))} {ws : List OE} (h : KidO gl gn lo hi cs l ws) (hg : gn' < lo) : KidO gl gn' lo hi cs l ws :=
  ⟨h.1, fun i x u hx hu => by obtain ⟨q1, q2, q3, q4, q5, q6, q7⟩ := h.2.1 i x u hx hu; exact ⟨q1, q2, q3, q4, q5, by omega, q7⟩, h.2.2⟩
/-- A value of the call's own, out of its row and names that lie ahead of it. -/
theorem mk_own2 {wr : World} {lo lo' B gn : Nat} {tS tJ : TypeId} {v vn : Value} {k : Int} {s : ByteArray} {ns : List ByteArray} {l : List Jsn} (hk0 : 0 ≤ k) (hk1 : k ≤ 255) (h : RowO wr B tS tJ v l) (hlo : lo' ≤ lo ∧ lo' ≤ B) (hg : gn < B) (hBs : B ≤ wr.heap.size)
    (hn : NamO wr tS lo B gn vn ns) : OwnJ wr tS tJ ⟨k, s, ns, l⟩ lo' wr.heap.size vn v := by
  obtain ⟨gl, cs, A, c, ws, hv, h1, h2⟩ := h.kids
  rw [OwnJ_eq]
  refine ⟨hk0, hk1, gn, gl, cs, A, c, ws, hn.keep (fun _ _ _ => rfl) hlo.1 hBs, hv, fun hp => ?_, ((h2 _ (Nat.le_refl _)).name hg).imp hlo.2 (Nat.le_refl _) rfl fun i x x' hx hx' => ?_⟩
  · obtain ⟨q1, q2, q3, q4⟩ := h1 hp
    exact ⟨q1, by omega, q3, by omega, q4⟩
  · rw [hx] at hx'
    injection hx' with e
    subst e
    exact ⟨rfl, fun _ _ _ _ _ _ h => h⟩
theorem bel_drew {B : Nat} {a w : World} (h : Below B a w) : Below B a w.drew := ⟨h.os, h.tape, h.output, h.size, h.block⟩
end Go.Proofs.YtghaoielnphhlaaGreatDoor


/-
  Messages: what an envelope says, as plain data; as they lie. The walk of rpc.asks.
-/
namespace Go.Proofs.YtghaoielnphhlaaGreatDoor
open Go.RowKit

structure Msg where
  kind : Int
  id : Jsn
  method : ByteArray
  params : Jsn
  result : Jsn
  code : Int
  text : ByteArray
def zeroM : Msg := ⟨0, zeroJ, ⟨#[]⟩, zeroJ, zeroJ, 0, ⟨#[]⟩⟩
def jvV (j : Jsn) (vn vl : Value) : Value := .agg #[.int .u8 j.kind, .string j.text, vn, vl]
def msgV (m : Msg) (i1 i2 p1 p2 r1 r2 : Value) : Value := .agg #[.int .u8 m.kind, .int .u8 m.id.kind, .string m.id.text, i1, i2, .string m.method, .int .u8 m.params.kind, .string m.params.text, p1, p2, .int .u8 m.result.kind, .string m.result.text, r1, r2, .int .i64 m.code, .string m.text]
def nilV : Value := .slice none 0 0
def zeroMV : Value := msgV zeroM nilV nilV nilV nilV nilV nilV
/-- A request, or a note. -/
def jasks (id m p : Jsn) (hasid hasp : Bool) : Msg × Int :=
  if m.kind ≠ 5 ∨ (hasid = true ∧ jisid id = false) ∨ (hasp = true ∧ jispar p = false) then (zeroM, 73)
  else (⟨if hasid then 1 else 2, id, m.text, p, zeroJ, 0, ⟨#[]⟩⟩, 0)
/-- A result, or a fault. -/
def janswers (id r code text : Jsn) (hasid good bad hast : Bool) : Msg × Int :=
  if hasid = false ∨ good = bad then (zeroM, 73)
  else if good = true then (if jisid id = false then (zeroM, 73) else (⟨3, id, ⟨#[]⟩, zeroJ, r, 0, ⟨#[]⟩⟩, 0))
  else if hast = false ∨ (jwhole code).2 = false ∨ text.kind ≠ 5 ∨ (jisid id = false ∧ id.kind ≠ 1) then (zeroM, 73)
  else (⟨4, id, ⟨#[]⟩, zeroJ, zeroJ, (jwhole code).1, text.text⟩, 0)
def kVer : ByteArray := ⟨#[106, 115, 111, 110, 114, 112, 99]⟩
def kId : ByteArray := ⟨#[105, 100]⟩
def kMeth : ByteArray := ⟨#[109, 101, 116, 104, 111, 100]⟩
def kPar : ByteArray := ⟨#[112, 97, 114, 97, 109, 115]⟩
def kRes : ByteArray := ⟨#[114, 101, 115, 117, 108, 116]⟩
def kErr : ByteArray := ⟨#[101, 114, 114, 111, 114]⟩
def kCode : ByteArray := ⟨#[99, 111, 100, 101]⟩
def kMsg : ByteArray := ⟨#[109, 101, 115, 115, 97, 103, 101]⟩
def jgd (j : Jsn) (s : ByteArray) : Jsn := (jget j s).getD zeroJ
def jgs (j : Jsn) (s : ByteArray) : Bool := (jget j s).isSome
def jread (Own : List UInt8 → List UInt8 × Int) (Val : List UInt8 → Bool) (j : Jsn) : Msg × Int :=
  if jcheck Own Val j ≠ 0 then (zeroM, jcheck Own Val j)
  else if jgs j kVer = false ∨ (jgd j kVer).kind ≠ 5 ∨ (jgd j kVer).text ≠ ⟨#[50, 46, 48]⟩ then (zeroM, 73)
  else if jgs j kMeth = true then jasks (jgd j kId) (jgd j kMeth) (jgd j kPar) (jgs j kId) (jgs j kPar)
  else janswers (jgd j kId) (jgd j kRes) (jgd (jgd j kErr) kCode) (jgd (jgd j kErr) kMsg) (jgs j kId) (jgs j kRes) (jgs j kErr) (jgs (jgd j kErr) kMsg)
theorem Cel.f16 {w : World} {b : Nat} {t : TypeId} {cs : Array Value} (h : Cel w b t cs) :
    w.frozen? ⟨b, 0, none⟩ = false ∧ w.frozen? ⟨b, 1, none⟩ = false ∧ w.frozen? ⟨b, 2, none⟩ = false ∧ w.frozen? ⟨b, 3, none⟩ = false ∧ w.frozen? ⟨b, 4, none⟩ = false ∧ w.frozen? ⟨b, 5, none⟩ = false ∧ w.frozen? ⟨b, 6, none⟩ = false ∧ w.frozen? ⟨b, 7, none⟩ = false ∧ w.frozen? ⟨b, 8, none⟩ = false ∧ w.frozen? ⟨b, 9, none⟩ = false ∧ w.frozen? ⟨b, 10, none⟩ = false ∧ w.frozen? ⟨b, 11, none⟩ = false ∧ w.frozen? ⟨b, 12, none⟩ = false ∧ w.frozen? ⟨b, 13, none⟩ = false ∧ w.frozen? ⟨b, 14, none⟩ = false ∧ w.frozen? ⟨b, 15, none⟩ = false :=
  ⟨h.froz 0, h.froz 1, h.froz 2, h.froz 3, h.froz 4, h.froz 5, h.froz 6, h.froz 7, h.froz 8, h.froz 9, h.froz 10, h.froz 11, h.froz 12, h.froz 13, h.froz 14, h.froz 15⟩
theorem Cel.c4 {w : World} {b : Nat} {t : TypeId} {x0 x1 x2 x3 : Value} (h : Cel w b t #[x0, x1, x2, x3]) :
    w.cell? ⟨b, 0, none⟩ = some x0 ∧ w.cell? ⟨b, 1, none⟩ = some x1 ∧ w.cell? ⟨b, 2, none⟩ = some x2 ∧ w.cell? ⟨b, 3, none⟩ = some x3 :=
  ⟨h.cell 0, h.cell 1, h.cell 2, h.cell 3⟩
theorem Cel.f4 {w : World} {b : Nat} {t : TypeId} {cs : Array Value} (h : Cel w b t cs) :
    w.frozen? ⟨b, 0, none⟩ = false ∧ w.frozen? ⟨b, 1, none⟩ = false ∧ w.frozen? ⟨b, 2, none⟩ = false ∧ w.frozen? ⟨b, 3, none⟩ = false :=
  ⟨h.froz 0, h.froz 1, h.froz 2, h.froz 3⟩

/-- What asks leaves: the params are the call's own. -/
def AsksEnd (id m p : Jsn) (i1 i2 : Value) (hasid hasp : Bool) (w : World) (e : Ending) (w' : World) : Prop :=
  ∃ x1 x2 p1 p2, e = .returned (.tuple #[msgV (jasks id m p hasid hasp).1 x1 x2 p1 p2 nilV nilV, .int .i64 (jasks id m p hasid hasp).2]) ∧
    (((jasks id m p hasid hasp).1.id = id ∧ x1 = i1 ∧ x2 = i2) ∨ ((jasks id m p hasid hasp).1.id = zeroJ ∧ x1 = nilV ∧ x2 = nilV)) ∧
    OwnJ w' 9 25 (jasks id m p hasid hasp).1.params w.heap.size w'.heap.size p1 p2 ∧ (jasks id m p hasid hasp).1.result = zeroJ ∧ Below w.heap.size w w'

end Go.Proofs.YtghaoielnphhlaaGreatDoor


/-
  The walk of rpc.answers.
-/
namespace Go.Proofs.YtghaoielnphhlaaGreatDoor
open Go.RowKit

/-- What answers leaves: the result is the call's own. -/
def AnswersEnd (M : Msg × Int) (id : Jsn) (i1 i2 : Value) (w : World) (e : Ending) (w' : World) : Prop :=
  ∃ x1 x2 r1 r2, e = .returned (.tuple #[msgV M.1 x1 x2 nilV nilV r1 r2, .int .i64 M.2]) ∧
    ((M.1.id = id ∧ x1 = i1 ∧ x2 = i2) ∨ (M.1.id = zeroJ ∧ x1 = nilV ∧ x2 = nilV)) ∧
    OwnJ w' 9 25 M.1.result w.heap.size w'.heap.size r1 r2 ∧ M.1.params = zeroJ ∧ Below w.heap.size w w'

end Go.Proofs.YtghaoielnphhlaaGreatDoor


/-
  The walk of rpc.Read.
-/
namespace Go.Proofs.YtghaoielnphhlaaGreatDoor
open Go.RowKit

/-- What Read leaves: three values of the call's own, one behind the other. -/
def ReadEnd (M : Msg × Int) (w : World) (e : Ending) (w' : World) : Prop :=
  ∃ x1 x2 p1 p2 r1 r2 s1 s2, e = .returned (.tuple #[msgV M.1 x1 x2 p1 p2 r1 r2, .int .i64 M.2]) ∧ w.heap.size ≤ s1 ∧ s1 ≤ s2 ∧ s2 ≤ w'.heap.size ∧
    OwnJ w' 9 25 M.1.id w.heap.size s1 x1 x2 ∧ OwnJ w' 9 25 M.1.params s1 s2 p1 p2 ∧ OwnJ w' 9 25 M.1.result s2 w'.heap.size r1 r2 ∧ Below w.heap.size w w'
end Go.Proofs.YtghaoielnphhlaaGreatDoor


/-
  The walk of rostrumlaw05.given: a value as it is handed in, in new memory.
-/
namespace Go.Proofs.YtghaoielnphhlaaGreatDoor
open Go.RowKit
end Go.Proofs.YtghaoielnphhlaaGreatDoor


/-
  A region that draws its order: loads taken first where what they read is written by the region's own last store alone. No program.
-/
namespace Go.Proofs.YtghaoielnphhlaaGreatDoor

section
variable {P : Program} {ops : Array Oper} {Q : Exit → Act → World → Prop} {md : Region.Mode} {S : World → Prop} {q : Nat}
/-- Whatever order is picked, and S holds till number q has come up. -/
def wpAnyQ (P : Program) (md : Region.Mode) (ops : Array Oper) (Q : Exit → Act → World → Prop) (S : World → Prop) (q : Nat) : Nat → Array Bool → Act → World → Prop
  | 0, listed, a, w => Region.ready md ops listed = [] ∧ Q .normal a w
  | fuel + 1, listed, a, w => (Region.ready md ops listed = [] → Q .normal a w) ∧
    ∀ i ∈ Region.ready md ops listed, wpOp P ops Q i (fun a' w' => ((listed.setIfInBounds i true).getD q true = false → S w') ∧ wpAnyQ P md ops Q S q fuel (listed.setIfInBounds i true) a' w') a w
def waitsB (md : Region.Mode) (ops : Array Oper) (q i : Nat) : Bool := match ops[q]? with
  | some o => o.after.any fun e => Region.binds md e && decide (e.on = i)
  | none => false
/-- What one step asks. -/
def StepQ (P : Program) (ops : Array Oper) (Q : Exit → Act → World → Prop) (o : Oper) (a : Act) (w : World) (K' : Act → World → Prop) : Prop := if Region.wanted o (yielded ops a.tmps) = true then Oper.wp P o a w K' Q else K' (a.put o.dst undef) w
end
end Go.Proofs.YtghaoielnphhlaaGreatDoor


/-
  The walks of the document's Same over two messages that are alike, and of rostrumlaw07.of.
-/
namespace Go.Proofs.YtghaoielnphhlaaGreatDoor
open Go.RowKit

/-- A message as it lies, read only. -/
def MsgJ (w : World) (M : Msg) (x1 x2 p1 p2 r1 r2 : Value) : Prop := JV w (fun _ => True) M.id x1 x2 ∧ JV w (fun _ => True) M.params p1 p2 ∧ JV w (fun _ => True) M.result r1 r2
theorem MsgJ.later {w w' : World} {M : Msg} {x1 x2 p1 p2 r1 r2 : Value} (h : MsgJ w M x1 x2 p1 p2 r1 r2) (hb : Below w.heap.size w w') : MsgJ w' M x1 x2 p1 p2 r1 r2 := ⟨h.1.later hb, h.2.1.later hb, h.2.2.later hb⟩
def MsgBulk (M : Msg) : Prop := jbulk M.id ≤ 1000000 ∧ jbulk M.params ≤ 1000000 ∧ jbulk M.result ≤ 1000000





def OfEnd (M : Msg) (w : World) (e : Ending) (w' : World) : Prop := ∃ x1 x2 p1 p2 r1 r2, e = .returned (msgV M x1 x2 p1 p2 r1 r2) ∧ MsgJ w' M x1 x2 p1 p2 r1 r2 ∧ Below w.heap.size w w'
/-- A result: a struct's cell. -/
theorem results_cel1 {P : Program} {fn : Func} {p : Tmp} {ty : TypeId} (h : fn.results = #[.cell p ty]) (tmps : Array Value) (w : World) (g : Nat) (t : TypeId) (cs : Array Value) (d : TypeDesc)
    (hp : tmps.getD p undef = .pointer (some ⟨g, 0, none⟩)) (hg : Cel w g t cs) (hu : P.underlying ty = some d) (hd : d.isRow = true) (hi : (P.info? ty).map (·.size) = some cs.size) :
    (results fn tmps).run P w = .ok (.agg cs) w := by
  have hp' : tmps[p]?.getD undef = .pointer (some ⟨g, 0, none⟩) := by simpa using hp
  have hl : (loadVar ty ⟨g, 0, none⟩).run P w = .ok (.agg cs) w := by
    have := run_loadVar_mid (P := P) w g 0 ty cs.toList d (fun j v hv => by rw [hg.cell]; simpa using hv) hu hd (by simpa using hi)
    simpa using this
  simp [results, h, hp', asAddr, hl]
end Go.Proofs.YtghaoielnphhlaaGreatDoor


/-
  The walk of the document's Get.
-/
namespace Go.Proofs.YtghaoielnphhlaaGreatDoor
open Go.RowKit

def RefGetEnd (r : Option Jsn) (X : Nat → Prop) (w : World) (e : Ending) (w' : World) : Prop := ∃ vn vl, e = .returned (.tuple #[.agg #[.int .u8 (r.getD zeroJ).kind, .string (r.getD zeroJ).text, vn, vl], .bool r.isSome]) ∧ JV w' X (r.getD zeroJ) vn vl ∧ Below w.heap.size w w'

end Go.Proofs.YtghaoielnphhlaaGreatDoor


/-
  The walks of rpc.ID, of the document's ID, and of its Same over messages.
-/
namespace Go.Proofs.YtghaoielnphhlaaGreatDoor
open Go.RowKit

/-- The id that an envelope names. -/
def nullJ : Jsn := ⟨1, ⟨#[]⟩, [], []⟩
def jrid (Own : List UInt8 → List UInt8 × Int) (Val : List UInt8 → Bool) (j : Jsn) : Jsn :=
  if jgs j kId = false ∨ jcheck Own Val j ≠ 0 ∨ jisid (jgd j kId) = false then nullJ else jgd j kId
theorem flat_ownR (w : World) (tS tJ : TypeId) (k : Int) (t : ByteArray) (lo hi : Nat) (h0 : 0 ≤ k) (h1 : k ≤ 255) : OwnJ w tS tJ ⟨k, t, [], []⟩ lo hi (.slice none 0 0) (.slice none 0 0) := by
  rw [OwnJ_eq]
  exact ⟨h0, h1, 0, 0, #[], none, 0, [], ⟨none, 0, rfl, fun h => by simp at h⟩, rfl, (fun h => by simp at h), rfl, (fun i x u h => by simp at h), (fun i j u v _ h => by simp at h)⟩
theorem null_own (w : World) (tS tJ : TypeId) (lo hi : Nat) : OwnJ w tS tJ nullJ lo hi (.slice none 0 0) (.slice none 0 0) := flat_ownR w tS tJ 1 ⟨#[]⟩ lo hi (by decide) (by decide)
def IdEnd (x : Jsn) (w : World) (e : Ending) (w' : World) : Prop := ∃ vn vl, e = .returned (.agg #[.int .u8 x.kind, .string x.text, vn, vl]) ∧ OwnJ w' 9 25 x w.heap.size w'.heap.size vn vl ∧ Below w.heap.size w w'
def RIdEnd (x : Jsn) (w : World) (e : Ending) (w' : World) : Prop := ∃ vn vl, e = .returned (.agg #[.int .u8 x.kind, .string x.text, vn, vl]) ∧ JV w' (fun b => b < w.heap.size) x vn vl ∧ Below w.heap.size w w'
/-- On ID's way. -/
structure IdI (j : Jsn) (jn jl : Value) (w W : World) : Prop where
  cj : Cel W w.heap.size 25 #[.int .u8 j.kind, .string j.text, jn, jl]
  c2 : Cel W (w.heap.size + 1) 25 #[.int .u8 0, .string ⟨#[]⟩, .slice none 0 0, .slice none 0 0]
  bel : Below w.heap.size w W
  sz : w.heap.size + 2 ≤ W.heap.size
theorem IdI.step {j : Jsn} {jn jl : Value} {w W W' : World} (h : IdI j jn jl w W) (hb : Below W.heap.size W W') : IdI j jn jl w W' :=
  ⟨h.cj.below hb h.cj.lt, h.c2.below hb h.c2.lt, h.bel.trans (hb.mono h.bel.size), Nat.le_trans h.sz hb.size⟩
def laid4 (W : World) (A : Nat) (a1 a2 a3 a4 : Value) : World := (((W.setCell ⟨A, 0, none⟩ a1).setCell ⟨A, 1, none⟩ a2).setCell ⟨A, 2, none⟩ a3).setCell ⟨A, 3, none⟩ a4
theorem laid4_below {B A : Nat} {w W : World} (h : Below B w W) (hA : B ≤ A) (a1 a2 a3 a4 : Value) : Below B w (laid4 W A a1 a2 a3 a4) :=
  (((h.setCell (p := ⟨A, 0, none⟩) hA _).setCell (p := ⟨A, 1, none⟩) hA _).setCell (p := ⟨A, 2, none⟩) hA _).setCell (p := ⟨A, 3, none⟩) hA _
theorem IdI.null {j : Jsn} {jn jl : Value} {w W : World} (h : IdI j jn jl w W) : IdEnd nullJ w (.returned (.agg #[.int .u8 1, .string ⟨#[]⟩, .slice none 0 0, .slice none 0 0])) (laid4 W (w.heap.size + 1) (.int .u8 1) (.string ⟨#[]⟩) (.slice none 0 0) (.slice none 0 0)) :=
  ⟨.slice none 0 0, .slice none 0 0, rfl, null_own _ _ _ _ _, laid4_below h.bel (by omega) _ _ _ _⟩
end Go.Proofs.YtghaoielnphhlaaGreatDoor


/-
  How great the values of a message are that was read: plain.
-/
namespace Go.Proofs.YtghaoielnphhlaaGreatDoor

end Go.Proofs.YtghaoielnphhlaaGreatDoor


/-
  The walks of rpc.own, rpc.none, rpc.str.
-/
namespace Go.Proofs.YtghaoielnphhlaaGreatDoor
open Go.RowKit


end Go.Proofs.YtghaoielnphhlaaGreatDoor


/-
  JSON texts read, as plain data. No program.
-/
namespace Go.Proofs.YtghaoielnphhlaaGreatDoor

def jblank (c : UInt8) : Bool := c == 32 || c == 9 || c == 10 || c == 13
def jblk (s : List UInt8) : List UInt8 := s.dropWhile jblank
/-- A hex digit. -/
def jhv (c : UInt8) : Option Nat :=
  if 48 ≤ c.toNat ∧ c.toNat ≤ 57 then some (c.toNat - 48) else if 97 ≤ c.toNat ∧ c.toNat ≤ 102 then some (c.toNat - 87) else if 65 ≤ c.toNat ∧ c.toNat ≤ 70 then some (c.toNat - 55) else none
/-- Four hex digits. -/
def junit : List UInt8 → Option (Nat × List UInt8)
  | a :: b :: c :: d :: r => match jhv a, jhv b, jhv c, jhv d with
    | some a, some b, some c, some d => some (((a * 16 + b) * 16 + c) * 16 + d, r)
    | _, _, _, _ => none
  | _ => none
def jpair (a b : Nat) : Option Nat := if 55296 ≤ a ∧ a < 56320 ∧ 56320 ≤ b ∧ b < 57344 then some (65536 + (a - 55296) * 1024 + (b - 56320)) else none
/-- The mark behind a backslash. -/
def jmark (c : UInt8) : Option UInt8 :=
  if c = 34 then some 34 else if c = 92 then some 92 else if c = 47 then some 47 else if c = 98 then some 8 else if c = 102 then some 12 else if c = 110 then some 10 else if c = 114 then some 13 else if c = 116 then some 9 else none
/-- What stands behind a backslash and an u. -/
def jescU (r : List UInt8) : Option (List UInt8 × List UInt8) := match junit r with
  | none => none
  | some (a, r1) => if rput a ≠ [] then some (rput a, r1) else match r1 with
    | 92 :: 117 :: r2 => match junit r2 with
      | none => none
      | some (b, r3) => match jpair a b with
        | none => none
        | some p => some (rput p, r3)
    | _ => none
/-- What stands behind a backslash. -/
def jescape : List UInt8 → Option (List UInt8 × List UInt8)
  | [] => none
  | c :: r => match jmark c with
    | some m => some ([m], r)
    | none => if c = 117 then jescU r else none
/-- The rest of a String's text, behind its first quote. -/
def jstrF (Val : List UInt8 → Bool) : Nat → List UInt8 → List UInt8 → Option (List UInt8 × List UInt8)
  | 0, _, _ => none
  | _ + 1, _, [] => none
  | k + 1, acc, c :: r =>
    if c = 34 then (if Val acc then some (acc, r) else none)
    else if c = 92 then (match jescape r with
      | none => none
      | some (t, r') => jstrF Val k (acc ++ t) r')
    else if c.toNat < 32 then none
    else jstrF Val k (acc ++ [c]) r
def jStr (Val : List UInt8 → Bool) (acc s : List UInt8) : Option (List UInt8 × List UInt8) := jstrF Val (s.length + 1) acc s
/-- The bytes of a number. -/
def jnumc (c : UInt8) : Bool := (decide (48 ≤ c.toNat) && decide (c.toNat ≤ 57)) || c == 43 || c == 45 || c == 46 || c == 101 || c == 69
/-- Things with commas between, up to a bracket. -/
def jloopF {σ : Type} (one : σ → List UInt8 → Except Int (σ × List UInt8)) (b : UInt8) : Nat → σ → List UInt8 → Except Int (σ × List UInt8)
  | 0, _, _ => .error 4
  | k + 1, st, s => match one st (jblk s) with
    | .error e => .error e
    | .ok (st', s') => match jblk s' with
      | [] => .error 4
      | c :: r => if c = 44 then jloopF one b k st' r else if c = b then .ok (st', r) else .error 4
def Shorter {σ : Type} (one : σ → List UInt8 → Except Int (σ × List UInt8)) : Prop := ∀ st s st' s', one st s = .ok (st', s') → s'.length ≤ s.length
def jLoop {σ : Type} (one : σ → List UInt8 → Except Int (σ × List UInt8)) (b : UInt8) (st : σ) (s : List UInt8) : Except Int (σ × List UInt8) := jloopF one b (s.length + 1) st s
/-- What stands in an Array, or an Object, behind its first bracket. -/
def jList {σ : Type} (one : σ → List UInt8 → Except Int (σ × List UInt8)) (b : UInt8) (st : σ) (s : List UInt8) : Except Int (σ × List UInt8) :=
  match jblk s with
  | [] => jLoop one b st []
  | c :: r => if c = b then .ok (st, r) else jLoop one b st (c :: r)
def ofL (l : List UInt8) : ByteArray := ⟨l.toArray⟩
abbrev JR := Except Int (Jsn × Nat × List UInt8)
abbrev SA := Nat × List Jsn
abbrev SO := Nat × List ByteArray × List Jsn
/-- One item of an Array. -/
def jitA (val : Nat → List UInt8 → JR) (st : SA) (s : List UInt8) : Except Int (SA × List UInt8) := match val st.1 s with
  | .error e => .error e
  | .ok (j, it, r) => .ok ((it, st.2 ++ [j]), r)
/-- One member of an Object. -/
def jitO (Val : List UInt8 → Bool) (val : Nat → List UInt8 → JR) (st : SO) (s : List UInt8) : Except Int (SO × List UInt8) := match s with
  | 34 :: s1 => match jStr Val [] s1 with
    | none => .error 4
    | some (n, s2) => if (st.2.1.any fun b => decide (b = ofL n)) = true then .error 6 else match jblk s2 with
      | 58 :: s3 => match val st.1 (jblk s3) with
        | .error e => .error e
        | .ok (j, it, r) => .ok ((it, st.2.1 ++ [ofL n], st.2.2 ++ [j]), r)
      | _ => .error 4
  | _ => .error 4
/-- A value; f: how many more may stand within one another; it: how many there were. -/
def jval (Own : List UInt8 → List UInt8 × Int) (Val : List UInt8 → Bool) : Nat → Nat → List UInt8 → JR
  | 0, _, _ => .error 61
  | f + 1, it, s =>
    if 65536 < it + 1 then .error 40
    else if [110, 117, 108, 108].isPrefixOf s then .ok (⟨1, ofL [], [], []⟩, it + 1, s.drop 4)
    else if [116, 114, 117, 101].isPrefixOf s then .ok (⟨2, ofL [], [], []⟩, it + 1, s.drop 4)
    else if [102, 97, 108, 115, 101].isPrefixOf s then .ok (⟨3, ofL [], [], []⟩, it + 1, s.drop 5)
    else if [34].isPrefixOf s then match jStr Val [] (s.drop 1) with
      | none => .error 4
      | some (t, r) => .ok (⟨5, ofL t, [], []⟩, it + 1, r)
    else if [91].isPrefixOf s then match jList (jitA fun it s => jval Own Val f it s) 93 (it + 1, []) (s.drop 1) with
      | .error e => .error e
      | .ok (st, r) => .ok (⟨6, ofL [], [], st.2⟩, st.1, r)
    else if [123].isPrefixOf s then match jList (jitO Val fun it s => jval Own Val f it s) 125 (it + 1, [], []) (s.drop 1) with
      | .error e => .error e
      | .ok (st, r) => .ok (⟨7, ofL [], st.2.1, st.2.2⟩, st.1, r)
    else if (Own (s.takeWhile jnumc)).2 = 0 then .ok (⟨4, ofL (Own (s.takeWhile jnumc)).1, [], []⟩, it + 1, s.dropWhile jnumc)
    else .error (Own (s.takeWhile jnumc)).2
def jparse (Own : List UInt8 → List UInt8 × Int) (Val : List UInt8 → Bool) (s : List UInt8) : Except Int Jsn :=
  if 262144 < s.length then .error 40
  else match jval Own Val 64 0 (jblk s) with
    | .error e => .error e
    | .ok (j, _, r) => if jblk r = [] then .ok j else .error 4
end Go.Proofs.YtghaoielnphhlaaGreatDoor
