/-
  The walk of rpc.Read.
-/
import Derived.Test.YtlnkjacbdolhnaaGreatDoorM13
import Derived.Test.YtlnkjacbdolhnaaGreatDoorM10
import Derived.OrdersHeld
import Derived.Deep.RegionHeld
import Derived.Test.YtlnkjacbdolhnaaGreatDoorJsB
import Derived.Test.YtlnkjacbdolhnaaGreatDoorM04
import Derived.Test.YtlnkjacbdolhnaaGreatDoorJsQ
import Derived.Test.YtlnkjacbdolhnaaGreatDoorJsUb
namespace Go.Proofs.YtlnkjacbdolhnaaGreatDoor
open Go.RowKit

/-- What Read leaves: three values of the call's own, one behind the other. -/
def ReadEnd (M : Msg × Int) (w : World) (e : Ending) (w' : World) : Prop :=
  ∃ x1 x2 p1 p2 r1 r2 s1 s2, e = .returned (.tuple #[msgV M.1 x1 x2 p1 p2 r1 r2, .int .i64 M.2]) ∧ w.heap.size ≤ s1 ∧ s1 ≤ s2 ∧ s2 ≤ w'.heap.size ∧
    OwnJ w' 9 25 M.1.id w.heap.size s1 x1 x2 ∧ OwnJ w' 9 25 M.1.params s1 s2 p1 p2 ∧ OwnJ w' 9 25 M.1.result s2 w'.heap.size r1 r2 ∧ Below w.heap.size w w'
/-- On Read's way. -/
structure RdI (j : Jsn) (jn jl : Value) (w W : World) : Prop where
  cj : Cel W w.heap.size 25 #[.int .u8 j.kind, .string j.text, jn, jl]
  c2 : Cel W (w.heap.size + 1) 61 #[.int .u8 0, .int .u8 0, .string ⟨#[]⟩, .slice none 0 0, .slice none 0 0, .string ⟨#[]⟩, .int .u8 0, .string ⟨#[]⟩, .slice none 0 0, .slice none 0 0, .int .u8 0, .string ⟨#[]⟩, .slice none 0 0, .slice none 0 0, .int .i64 0, .string ⟨#[]⟩]
  bel : Below w.heap.size w W
  sz : w.heap.size + 2 ≤ W.heap.size
theorem RdI.step {j : Jsn} {jn jl : Value} {w W W' : World} (h : RdI j jn jl w W) (hb : Below W.heap.size W W') : RdI j jn jl w W' :=
  ⟨h.cj.below hb h.cj.lt, h.c2.below hb h.c2.lt, h.bel.trans (hb.mono h.bel.size), Nat.le_trans h.sz hb.size⟩
theorem RdI.alone {j : Jsn} {jn jl : Value} {w W W' : World} {b : Nat} (h : RdI j jn jl w W) (hb : Alone b W W') (hlt : w.heap.size + 2 ≤ b) : RdI j jn jl w W' :=
  ⟨hb.cel h.cj (by omega), hb.cel h.c2 (by omega), h.bel.trans (hb.1 _ (by omega)), by have := hb.2.2; have := h.sz; omega⟩
end Go.Proofs.YtlnkjacbdolhnaaGreatDoor


/-
  The walk of rostrumlaw05.given: a value as it is handed in, in new memory.
-/
namespace Go.Proofs.YtlnkjacbdolhnaaGreatDoor
open Go.RowKit
end Go.Proofs.YtlnkjacbdolhnaaGreatDoor


/-
  A region that draws its order: loads taken first where what they read is written by the region's own last store alone. No program.
-/
namespace Go.Proofs.YtlnkjacbdolhnaaGreatDoor

section
variable {P : Program} {ops : Array Oper} {Q : Exit → Act → World → Prop} {md : Region.Mode} {S : World → Prop} {q : Nat}
/-- Whatever order is picked, and S holds till number q has come up. -/
def wpAnyQ (P : Program) (md : Region.Mode) (ops : Array Oper) (Q : Exit → Act → World → Prop) (S : World → Prop) (q : Nat) : Nat → Array Bool → Act → World → Prop
  | 0, listed, a, w => Region.ready md ops listed = [] ∧ Q .normal a w
  | fuel + 1, listed, a, w => (Region.ready md ops listed = [] → Q .normal a w) ∧
    ∀ i ∈ Region.ready md ops listed, wpOp P ops Q i (fun a' w' => ((listed.setIfInBounds i true).getD q true = false → S w') ∧ wpAnyQ P md ops Q S q fuel (listed.setIfInBounds i true) a' w') a w
def waitsB (md : Region.Mode) (ops : Array Oper) (q i : Nat) : Bool := match ops[q]? with
  | some o => o.after.any fun e => Region.binds md e && decide (e.on = i)
  | none => false
/-- What one step asks. -/
def StepQ (P : Program) (ops : Array Oper) (Q : Exit → Act → World → Prop) (o : Oper) (a : Act) (w : World) (K' : Act → World → Prop) : Prop := if Region.wanted o (yielded ops a.tmps) = true then Oper.wp P o a w K' Q else K' (a.put o.dst undef) w
end
end Go.Proofs.YtlnkjacbdolhnaaGreatDoor


/-
  The walks of the document's Same over two messages that are alike, and of rostrumlaw07.of.
-/
namespace Go.Proofs.YtlnkjacbdolhnaaGreatDoor
open Go.RowKit

/-- A message as it lies, read only. -/
def MsgJ (w : World) (M : Msg) (x1 x2 p1 p2 r1 r2 : Value) : Prop := JV w (fun _ => True) M.id x1 x2 ∧ JV w (fun _ => True) M.params p1 p2 ∧ JV w (fun _ => True) M.result r1 r2
theorem MsgJ.later {w w' : World} {M : Msg} {x1 x2 p1 p2 r1 r2 : Value} (h : MsgJ w M x1 x2 p1 p2 r1 r2) (hb : Below w.heap.size w w') : MsgJ w' M x1 x2 p1 p2 r1 r2 := ⟨h.1.later hb, h.2.1.later hb, h.2.2.later hb⟩
def MsgBulk (M : Msg) : Prop := jbulk M.id ≤ 1000000 ∧ jbulk M.params ≤ 1000000 ∧ jbulk M.result ≤ 1000000
def OfEnd (M : Msg) (w : World) (e : Ending) (w' : World) : Prop := ∃ x1 x2 p1 p2 r1 r2, e = .returned (msgV M x1 x2 p1 p2 r1 r2) ∧ MsgJ w' M x1 x2 p1 p2 r1 r2 ∧ Below w.heap.size w w'
/-- A result: a struct's cell. -/
theorem results_cel1 {P : Program} {fn : Func} {p : Tmp} {ty : TypeId} (h : fn.results = #[.cell p ty]) (tmps : Array Value) (w : World) (g : Nat) (t : TypeId) (cs : Array Value) (d : TypeDesc)
    (hp : tmps.getD p undef = .pointer (some ⟨g, 0, none⟩)) (hg : Cel w g t cs) (hu : P.underlying ty = some d) (hd : d.isRow = true) (hi : (P.info? ty).map (·.size) = some cs.size) :
    (results fn tmps).run P w = .ok (.agg cs) w := by
  have hp' : tmps[p]?.getD undef = .pointer (some ⟨g, 0, none⟩) := by simpa using hp
  have hl : (loadVar ty ⟨g, 0, none⟩).run P w = .ok (.agg cs) w := by
    have := run_loadVar_mid (P := P) w g 0 ty cs.toList d (fun j v hv => by rw [hg.cell]; simpa using hv) hu hd (by simpa using hi)
    simpa using this
  simp [results, h, hp', asAddr, hl]
end Go.Proofs.YtlnkjacbdolhnaaGreatDoor


/-
  The walk of the document's Get.
-/
namespace Go.Proofs.YtlnkjacbdolhnaaGreatDoor
open Go.RowKit

def RefGetEnd (r : Option Jsn) (X : Nat → Prop) (w : World) (e : Ending) (w' : World) : Prop := ∃ vn vl, e = .returned (.tuple #[.agg #[.int .u8 (r.getD zeroJ).kind, .string (r.getD zeroJ).text, vn, vl], .bool r.isSome]) ∧ JV w' X (r.getD zeroJ) vn vl ∧ Below w.heap.size w w'

end Go.Proofs.YtlnkjacbdolhnaaGreatDoor


/-
  The walks of rpc.ID, of the document's ID, and of its Same over messages.
-/
namespace Go.Proofs.YtlnkjacbdolhnaaGreatDoor
open Go.RowKit

/-- The id that an envelope names. -/
def nullJ : Jsn := ⟨1, ⟨#[]⟩, [], []⟩
def jrid (Own : List UInt8 → List UInt8 × Int) (Val : List UInt8 → Bool) (j : Jsn) : Jsn :=
  if jgs j kId = false ∨ jcheck Own Val j ≠ 0 ∨ jisid (jgd j kId) = false then nullJ else jgd j kId
theorem flat_ownR (w : World) (tS tJ : TypeId) (k : Int) (t : ByteArray) (lo hi : Nat) (h0 : 0 ≤ k) (h1 : k ≤ 255) : OwnJ w tS tJ ⟨k, t, [], []⟩ lo hi (.slice none 0 0) (.slice none 0 0) := by
  rw [OwnJ_eq]
  exact ⟨h0, h1, 0, 0, #[], none, 0, [], ⟨none, 0, rfl, fun h => by simp at h⟩, rfl, (fun h => by simp at h), rfl, (fun i x u h => by simp at h), (fun i j u v _ h => by simp at h)⟩
theorem null_own (w : World) (tS tJ : TypeId) (lo hi : Nat) : OwnJ w tS tJ nullJ lo hi (.slice none 0 0) (.slice none 0 0) := flat_ownR w tS tJ 1 ⟨#[]⟩ lo hi (by decide) (by decide)
def IdEnd (x : Jsn) (w : World) (e : Ending) (w' : World) : Prop := ∃ vn vl, e = .returned (.agg #[.int .u8 x.kind, .string x.text, vn, vl]) ∧ OwnJ w' 9 25 x w.heap.size w'.heap.size vn vl ∧ Below w.heap.size w w'
def RIdEnd (x : Jsn) (w : World) (e : Ending) (w' : World) : Prop := ∃ vn vl, e = .returned (.agg #[.int .u8 x.kind, .string x.text, vn, vl]) ∧ JV w' (fun b => b < w.heap.size) x vn vl ∧ Below w.heap.size w w'
/-- On ID's way. -/
structure IdI (j : Jsn) (jn jl : Value) (w W : World) : Prop where
  cj : Cel W w.heap.size 25 #[.int .u8 j.kind, .string j.text, jn, jl]
  c2 : Cel W (w.heap.size + 1) 25 #[.int .u8 0, .string ⟨#[]⟩, .slice none 0 0, .slice none 0 0]
  bel : Below w.heap.size w W
  sz : w.heap.size + 2 ≤ W.heap.size
theorem IdI.step {j : Jsn} {jn jl : Value} {w W W' : World} (h : IdI j jn jl w W) (hb : Below W.heap.size W W') : IdI j jn jl w W' :=
  ⟨h.cj.below hb h.cj.lt, h.c2.below hb h.c2.lt, h.bel.trans (hb.mono h.bel.size), Nat.le_trans h.sz hb.size⟩
def laid4 (W : World) (A : Nat) (a1 a2 a3 a4 : Value) : World := (((W.setCell ⟨A, 0, none⟩ a1).setCell ⟨A, 1, none⟩ a2).setCell ⟨A, 2, none⟩ a3).setCell ⟨A, 3, none⟩ a4
theorem laid4_below {B A : Nat} {w W : World} (h : Below B w W) (hA : B ≤ A) (a1 a2 a3 a4 : Value) : Below B w (laid4 W A a1 a2 a3 a4) :=
  (((h.setCell (p := ⟨A, 0, none⟩) hA _).setCell (p := ⟨A, 1, none⟩) hA _).setCell (p := ⟨A, 2, none⟩) hA _).setCell (p := ⟨A, 3, none⟩) hA _
theorem IdI.null {j : Jsn} {jn jl : Value} {w W : World} (h : IdI j jn jl w W) : IdEnd nullJ w (.returned (.agg #[.int .u8 1, .string ⟨#[]⟩, .slice none 0 0, .slice none 0 0])) (laid4 W (w.heap.size + 1) (.int .u8 1) (.string ⟨#[]⟩) (.slice none 0 0) (.slice none 0 0)) :=
  ⟨.slice none 0 0, .slice none 0 0, rfl, null_own _ _ _ _ _, laid4_below h.bel (by omega) _ _ _ _⟩
end Go.Proofs.YtlnkjacbdolhnaaGreatDoor


/-
  How great the values of a message are that was read: plain.
-/
namespace Go.Proofs.YtlnkjacbdolhnaaGreatDoor

end Go.Proofs.YtlnkjacbdolhnaaGreatDoor
