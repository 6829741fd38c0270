/-
  The abstract machine made quick for the kernel: the same evaluator, with small bodies. No program.
-/
import Derived.Test.YtkjcjfpglpnaaaaGreatDoorEvW
namespace Go.Proofs.YtkjcjfpglpnaaaaGreatDoor
open Go.RowKit

noncomputable def withX (s : AS) (x : Option AV) : Option (AV × AS) := Option.rec (motive := fun _ => Option (AV × AS)) none (fun v => some (v, s)) x
noncomputable def skipX (x : Option AS) : Option (AV × AS) := Option.rec (motive := fun _ => Option (AV × AS)) none (fun s => some (.undef, s)) x
theorem withX_eq (s : AS) (x : Option AV) : withX s x = withS s x := by cases x <;> rfl
theorem skipX_eq (x : Option AS) : skipX x = skipS x := by cases x <;> rfl
noncomputable def pickX (ev : Operand → AV) (s : AS) (a b : Operand) (c : AV) : Option (AV × AS) := match c with
  | .bool q => some (cond q (ev a) (ev b), s)
  | _ => none
noncomputable def nilX (s : AS) (x : AV) : Option (AV × AS) := match x with
  | .ptr b q => some (.ptr b q, s)
  | .fn f cs => some (.fn f cs, s)
  | .fnm f cs => some (.fnm f cs, s)
  | _ => none
noncomputable def ifcX (t : Nat) (v : AV) (s : AS) (d : Option TypeDesc) : Option (AV × AS) := match d with
  | some d => cond (ifcD d) none (some (.ifc t v, s))
  | none => none
noncomputable def funX (ev : Operand → AV) (s : AS) (fn : Fn) (first captured : Array Operand) : Option (AV × AS) := match fn with
  | .func f => match first.toList with
    | [] => some (.fn f (captured.toList.map ev), s)
    | _ => match captured.toList with
      | [] => some (.fnm f (first.toList.map ev), s)
      | _ => none
  | _ => none
noncomputable def mapX (s : AS) (r : Option Operand) : Option (AV × AS) := match r with
  | none => makeMapA s
  | some _ => none
noncomputable def partsX (ev : Operand → AV) (ps : Array (Nat × Operand)) : List (Nat × AV) := ps.toList.map fun p => (p.1, ev p.2)
noncomputable def buildX (P : Program) (t : Nat) (l : List (Nat × AV)) (s : AS) : Option (AV × AS) := withX s (buildA P t l)
noncomputable def binX (P : Program) (ev : Operand → AV) (s : AS) (op : BinOp) (t : Nat) (x y : Operand) : Option (AV × AS) := withX s (binA P op t (isCon x || isCon y) (ev x) (ev y))
noncomputable def sliceX (P : Program) (ev : Operand → AV) (s : AS) (t : Nat) (x : Operand) (lo hi mx : Option Operand) : Option (AV × AS) := withX s (sliceA P t (ev x) (lo.map ev) (hi.map ev) (mx.map ev))
noncomputable def opX (P : Program) (call : Nat → List AV → AS → Option (AV × AS)) (o : Op) (ev : Operand → AV) (s : AS) : Option (AV × AS) :=
  Op.rec (motive := fun _ => Option (AV × AS)) (fun x => some (ev x, s)) (fun x => some (ev x, s)) (fun c a b => pickX ev s a b (ev c))
    (fun t => allocA P t s) (fun _ x => boxA (ev x) s) (fun t ps => buildX P t (partsX ev ps) s) (fun t n ps => buildSliceA P t n (partsX ev ps) s)
    (fun t m k v => skipX (updA P t (ev m) (ev k) (ev v) s)) (fun t a => withX s (loadA P t (ev a) s)) (fun t a v => skipX (storeA P t (ev a) (ev v) s))
    (fun _ => none) (fun _ => none) (fun x => nilX s (ev x)) (fun op t x y _ => binX P ev s op t x y) (fun op _ x => withX s (unA op (ev x)))
    (fun a b x => convA P a b (ev x) s) (fun _ _ => none) (fun t x => ifcX t (ev x) s (P.underlying t)) (fun fn a b => funX ev s fn a b)
    (fun _ r => mapX s r) (fun _ _ => none) (fun _ _ _ => none) (fun t x lo hi mx => sliceX P ev s t x lo hi mx)
    (fun t x f => withX s (fieldAddrA P t f (ev x))) (fun t x f => withX s (fieldA P t f (ev x))) (fun t x i => withX s (indexAddrA P t (ev x) (ev i)))
    (fun t x i => withX s (indexA P t (ev x) (ev i))) (fun t x i ok => withX s (lookupA P t (ev x) (ev i) ok s)) (fun t m k v => skipX (updA P t (ev m) (ev k) (ev v) s))
    (fun _ _ _ => none) (fun _ _ _ _ => none) (fun t x => rangeA P t (ev x) s) (fun _ _ => none) (fun x => withX s (entryA (ev x) s))
    (fun _ _ _ _ => none) (fun x i => withX s (extractA (ev x) i)) (fun c => callA P call c ev s) (fun _ => none) (fun _ => none) (fun _ => none)
    (fun _ _ => none) (fun _ _ _ => none) (fun _ _ => none) o
theorem opX_eq (P : Program) (call : Nat → List AV → AS → Option (AV × AS)) (o : Oper) (ev : Operand → AV) (s : AS) : opX P call o.op ev s = evOp P call o ev s := by
  obtain ⟨dst, op, type, pos, after, guard⟩ := o
  cases op <;> first
    | rfl
    | (exact withX_eq _ _)
    | (exact skipX_eq _)
    | skip
  case makeFunc fn a b => cases fn <;> rfl
  case makeMap t r => cases r <;> rfl
/-- Slots. -/
noncomputable def putX2 {R : Type} (nt : Nat) (v : AV) (s : AS) (t : Tr AV) (ih : Tr AV → AS → Option R) (d : Option Nat) : Option R :=
  Option.rec (motive := fun _ => Option R) (ih t s) (fun d => Bool.rec (motive := fun _ => Option R) none (ih (t.set .top v 20 d) s) (Nat.ble (Nat.succ d) nt)) d
noncomputable def putX {R : Type} (nt : Nat) (d : Option Nat) (t : Tr AV) (ih : Tr AV → AS → Option R) (r : Option (AV × AS)) : Option R :=
  Option.rec (motive := fun _ => Option R) none (fun q => putX2 nt q.1 q.2 t ih d) r
theorem putX2_eq {R : Type} (nt : Nat) (v : AV) (s : AS) (t : Tr AV) (ih : Tr AV → AS → Option R) (d : Option Nat) : putX2 nt v s t ih d = match putT nt t d v with | none => none | some t' => ih t' s := by
  cases d with
  | none => rfl
  | some d =>
    show Bool.rec (motive := fun _ => Option R) none (ih (t.set .top v 20 d) s) (Nat.ble (Nat.succ d) nt) = _
    unfold putT
    dsimp only
    cases Nat.ble (Nat.succ d) nt <;> rfl
noncomputable def gdX3 {R : Type} (b : Bool) (yes no : Option R) (v : AV) : Option R := match v with
  | .bool c => cond (c == b) yes no
  | .undef => no
  | _ => none
noncomputable def gdX2 {R : Type} (b : Bool) (yes no : Option R) (ev : Nat → AV) (oj : Option Oper) : Option R :=
  Option.rec (motive := fun _ => Option R) none (fun oj => Option.rec (motive := fun _ => Option R) none (fun d => gdX3 b yes no (ev d)) oj.dst) oj
noncomputable def gdX {R : Type} (all : List Oper) (ev : Nat → AV) (yes no : Option R) (g : Option (Nat × Bool)) : Option R :=
  Option.rec (motive := fun _ => Option R) yes (fun q => gdX2 q.2 yes no ev (nthO all q.1)) g
theorem gdX_eq {R : Type} (all : Array Oper) (ev : Nat → AV) (yes no : Option R) (o : Oper) : gdX all.toList ev yes no o.guard = match wantF all o ev with | none => none | some false => no | some true => yes := by
  unfold wantF
  cases o.guard with
  | none => rfl
  | some q =>
    show gdX2 q.2 yes no ev (nthO all.toList q.1) = _
    dsimp only
    cases nthO all.toList q.1 with
    | none => rfl
    | some oj =>
      show Option.rec (motive := fun _ => Option R) none (fun d => gdX3 q.2 yes no (ev d)) oj.dst = _
      dsimp only
      cases oj.dst with
      | none => rfl
      | some d =>
        show gdX3 q.2 yes no (ev d) = _
        dsimp only
        cases ev d <;> try rfl
        rename_i c
        show cond (c == q.2) yes no = match some (c == q.2) with | none => none | some false => no | some true => yes
        cases c == q.2 <;> rfl
/-- Plain regions. -/
noncomputable def opsX1 (P : Program) (call : Nat → List AV → AS → Option (AV × AS)) (all : List Oper) (nt : Nat) (o : Oper) (ih : Tr AV → AS → Option (Tr AV × AS)) (t : Tr AV) (s : AS) : Option (Tr AV × AS) :=
  gdX all (t.get .top) (putX nt o.dst t ih (opX P call o.op (oev t) s)) (putX2 nt .undef s t ih o.dst) o.guard
noncomputable def opsX (P : Program) (call : Nat → List AV → AS → Option (AV × AS)) (all : List Oper) (nt : Nat) (l : List Oper) : Tr AV → AS → Option (Tr AV × AS) :=
  List.rec (motive := fun _ => Tr AV → AS → Option (Tr AV × AS)) (fun t s => some (t, s)) (fun o _ ih => opsX1 P call all nt o ih) l
theorem opsX_eq (P : Program) (call : Nat → List AV → AS → Option (AV × AS)) (all : Array Oper) (nt : Nat) : ∀ (l : List Oper) (t : Tr AV) (s : AS), opsX P call all.toList nt l t s = evOps P call all nt l t s
  | [], _, _ => rfl
  | o :: r, t, s => by
    show gdX all.toList (t.get .top) (putX nt o.dst t (opsX P call all.toList nt r) (opX P call o.op (oev t) s)) (putX2 nt .undef s t (opsX P call all.toList nt r) o.dst) o.guard = _
    rw [gdX_eq, opX_eq, putX2_eq]
    unfold evOps
    unfold wantA
    cases wantF all o (t.get .top) with
    | none => rfl
    | some b =>
      cases b with
      | false =>
        dsimp only
        cases putT nt t o.dst .undef with
        | none => rfl
        | some t' => exact opsX_eq P call all nt r t' s
      | true =>
        dsimp only
        cases evOp P call o (oev t) s with
        | none => rfl
        | some q =>
          show putX2 nt q.1 q.2 t (opsX P call all.toList nt r) o.dst = _
          rw [putX2_eq]
          dsimp only
          cases putT nt t o.dst q.1 with
          | none => rfl
          | some t' => exact opsX_eq P call all nt r t' q.2
/-- Drawn regions. -/
noncomputable def bndX {α R : Type} (f : α → Option R) (x : Option α) : Option R := Option.rec (motive := fun _ => Option R) none f x
noncomputable def putD {R : Type} (nt : Nat) (v : AV) (t : Tr AV) (d : Option Nat) (k : Tr AV → Option R) : Option R :=
  Option.rec (motive := fun _ => Option R) (k t) (fun d => Bool.rec (motive := fun _ => Option R) none (k (t.set .top v 20 d)) (Nat.ble (Nat.succ d) nt)) d
theorem putD_eq {R : Type} (nt : Nat) (v : AV) (t : Tr AV) (d : Option Nat) (k : Tr AV → Option R) : putD nt v t d k = match putT nt t d v with | none => none | some t' => k t' := by
  cases d with
  | none => rfl
  | some d =>
    show Bool.rec (motive := fun _ => Option R) none (k (t.set .top v 20 d)) (Nat.ble (Nat.succ d) nt) = _
    unfold putT
    dsimp only
    cases Nat.ble (Nat.succ d) nt <;> rfl
noncomputable def clsB {R : Type} (a1 a3 : R) (b : Callee) : R := match b with
  | .builtin .len => a1
  | _ => a3
noncomputable def clsX {R : Type} (o : Op) (a0 a1 a2 a3 : R) : R :=
  Op.rec (motive := fun _ => R) (fun _ => a0) (fun _ => a0) (fun _ _ _ => a0)
    (fun _ => a2) (fun _ _ => a2) (fun _ _ => a0) (fun _ _ _ => a2)
    (fun _ _ _ _ => a3) (fun _ _ => a1) (fun _ _ _ => a3)
    (fun _ => a0) (fun _ => a0) (fun _ => a0) (fun _ _ _ _ _ => a0) (fun _ _ _ => a0)
    (fun _ _ _ => a1) (fun _ _ => a0) (fun _ _ => a0) (fun _ _ _ => a0)
    (fun _ _ => a2) (fun _ _ => a0) (fun _ _ _ => a0) (fun _ _ _ _ _ => a0)
    (fun _ _ _ => a0) (fun _ _ _ => a0) (fun _ _ _ => a0)
    (fun _ _ _ => a0) (fun _ _ _ _ => a1) (fun _ _ _ _ => a3)
    (fun _ _ _ => a0) (fun _ _ _ _ => a0) (fun _ _ => a3) (fun _ _ => a0) (fun _ => a1)
    (fun _ _ _ _ => a0) (fun _ _ => a0) (fun c => clsB a1 a3 c.callee) (fun _ => a0) (fun _ => a0) (fun _ => a0)
    (fun _ _ => a0) (fun _ _ _ => a0) (fun _ _ => a0) o
theorem clsX_eq {R : Type} (o : Oper) (a0 a1 a2 a3 a4 : R) : clsX o.op a0 a1 a2 a3 = match clsO o with | 0 => a0 | 1 => a1 | 2 => a2 | 3 => a3 | _ => a4 := by
  obtain ⟨dst, op, type, pos, after, guard⟩ := o
  cases op <;> try rfl
  rename_i c
  obtain ⟨cal, ar, ty⟩ := c
  cases cal <;> try rfl
  rename_i b
  cases b <;> rfl
noncomputable def st2 (P : Program) (call : Nat → List AV → AS → Option (AV × AS)) (nt base : Nat) (op : Op) (d : Option Nat) (i : Nat) (t : Tr AV) (g : AS) (ih : Tr AV → (Nat → AB) → Option DC) (x : Nat → AB) : Option DC :=
  bndX (fun q => putD nt q.1 t d fun t' => ih t' (updF x i (q.2.get (Nat.add base i)))) (opX P call op (oev t) ⟨g.h, Nat.add base i⟩)
noncomputable def cv2 (nt base i : Nat) (d : Option Nat) (t : Tr AV) (ih : Tr AV → (Nat → AB) → Option DC) (x : Nat → AB) (q : AV × AS) : Option DC :=
  Bool.rec (motive := fun _ => Option DC) none (putD nt q.1 t d fun t' => ih t' (updF x i (q.2.get (Nat.add base i)))) (Nat.beq q.2.n (Nat.succ (Nat.add base i)))
noncomputable def cvX (P : Program) (call : Nat → List AV → AS → Option (AV × AS)) (nt base : Nat) (o : Oper) (i : Nat) (t : Tr AV) (g : AS) (ih : Tr AV → (Nat → AB) → Option DC) (x : Nat → AB) : Option DC :=
  Bool.rec (motive := fun _ => Option DC) none (bndX (cv2 nt base i o.dst t ih x) (opX P call o.op (oev t) ⟨g.h, Nat.add base i⟩)) (isConv o)
noncomputable def rd2 (nt i : Nat) (ms : Tr Nat) (f : AS → Option (AV × AS)) (d : Option Nat) (t : Tr AV) (hist : List (Nat × AS)) (rds : List (Nat × (AS → Bool))) (ih : Tr AV → List (Nat × (AS → Bool)) → Option DC) (v : AV) : Option DC :=
  Bool.rec (motive := fun _ => Option DC) none (putD nt v t d fun t' => ih t' ((i, fun s => againA (f s) v s) :: rds)) (histB ms i f v hist)
noncomputable def st1 (P : Program) (call : Nat → List AV → AS → Option (AV × AS)) (nt base : Nat) (ms : Tr Nat) (o : Oper) (i : Nat) (t : Tr AV) (g : AS) (x : Nat → AB) (hist : List (Nat × AS)) (rds : List (Nat × (AS → Bool))) (ih : Tr AV → AS → (Nat → AB) → List (Nat × AS) → List (Nat × (AS → Bool)) → Option DC) : Option DC :=
  bndX (fun q => Bool.rec (motive := fun _ => Option DC) (cvX P call nt base o i t g (fun t' x' => ih t' g x' hist rds) x) (rd2 nt i ms (opX P call o.op (oev t)) o.dst t hist rds (fun t' rds' => ih t' g x hist rds') q.1) (Nat.beq q.2.n g.n)) (opX P call o.op (oev t) g)
noncomputable def ac2 (nt i : Nat) (ms : Tr Nat) (d : Option Nat) (t : Tr AV) (g : AS) (x : Nat → AB) (hist : List (Nat × AS)) (rds : List (Nat × (AS → Bool))) (ih : Tr AV → AS → (Nat → AB) → List (Nat × AS) → List (Nat × (AS → Bool)) → Option DC) (q : AV × AS) : Option DC :=
  Bool.rec (motive := fun _ => Option DC) none (putD nt q.1 t d fun t' => ih t' q.2 (fun k => cond (ancM ms k i) .none (x k)) ((i, g) :: hist) rds) (rdsB ms i q.2 rds)
noncomputable def st3 (P : Program) (call : Nat → List AV → AS → Option (AV × AS)) (nt base len : Nat) (ms : Tr Nat) (op : Op) (d : Option Nat) (i : Nat) (t : Tr AV) (g : AS) (x : Nat → AB) (hist : List (Nat × AS)) (rds : List (Nat × (AS → Bool))) (ih : Tr AV → AS → (Nat → AB) → List (Nat × AS) → List (Nat × (AS → Bool)) → Option DC) : Option DC :=
  bndX (ac2 nt i ms d t g x hist rds ih) (opX P call op (oev t) (preA base (fun k => ancM ms k i) x len g))
noncomputable def stepX (P : Program) (call : Nat → List AV → AS → Option (AV × AS)) (nt base len : Nat) (all : List Oper) (ms : Tr Nat) (i : Nat) (o : Oper) (ih : Tr AV → AS → (Nat → AB) → List (Nat × AS) → List (Nat × (AS → Bool)) → Option DC) (t : Tr AV) (g : AS) (x : Nat → AB) (hist : List (Nat × AS)) (rds : List (Nat × (AS → Bool))) : Option DC :=
  gdX all (t.get .top) (clsX o.op (bndX (fun q => putD nt q.1 t o.dst fun t' => ih t' g x hist rds) (opX P call o.op (oev t) g))
    (st1 P call nt base ms o i t g x hist rds ih) (st2 P call nt base o.op o.dst i t g (fun t' x' => ih t' g x' hist rds) x) (st3 P call nt base len ms o.op o.dst i t g x hist rds ih))
    (putD nt .undef t o.dst fun t' => ih t' g x hist rds) o.guard
noncomputable def stepsX (P : Program) (call : Nat → List AV → AS → Option (AV × AS)) (nt base len : Nat) (all : List Oper) (ms : Tr Nat) (l : List Oper) : Nat → Tr AV → AS → (Nat → AB) → List (Nat × AS) → List (Nat × (AS → Bool)) → Option DC :=
  List.rec (motive := fun _ => Nat → Tr AV → AS → (Nat → AB) → List (Nat × AS) → List (Nat × (AS → Bool)) → Option DC) (fun _ t g x hist rds => some ⟨t, g, x, hist, rds⟩) (fun o _ ih i => stepX P call nt base len all ms i o (ih (Nat.succ i))) l
theorem stepX_eq (P : Program) (call : Nat → List AV → AS → Option (AV × AS)) (nt base : Nat) (ops : Array Oper) (ms : Tr Nat) (i : Nat) (o : Oper) (ih : Tr AV → AS → (Nat → AB) → List (Nat × AS) → List (Nat × (AS → Bool)) → Option DC) (c : DC) :
    stepX P call nt base ops.size ops.toList ms i o ih c.t c.g c.x c.hist c.rds = match stepC P call nt ops base ms i o c with | none => none | some c' => ih c'.t c'.g c'.x c'.hist c'.rds := by
  have ho : opX P call o.op = evOp P call o := by funext ev s; exact opX_eq P call o ev s
  unfold stepX stepC
  rw [gdX_eq]
  unfold wantA
  cases wantF ops o (c.t.get .top) with
  | none => rfl
  | some b =>
    cases b with
    | false =>
      dsimp only
      rw [putD_eq]
      cases putT nt c.t o.dst .undef <;> rfl
    | true =>
      dsimp only
      rw [clsX_eq (a4 := none)]
      generalize clsO o = k
      rcases k with _ | _ | _ | _ | k
      · rw [ho]
        cases evOp P call o (oev c.t) c.g with
        | none => rfl
        | some q =>
          show putD nt q.1 c.t o.dst (fun t' => ih t' c.g c.x c.hist c.rds) = _
          rw [putD_eq]
          dsimp only
          cases putT nt c.t o.dst q.1 <;> rfl
      · unfold st1
        rw [ho]
        cases evOp P call o (oev c.t) c.g with
        | none => rfl
        | some q =>
          show Bool.rec (motive := fun _ => Option DC) (cvX P call nt base o i c.t c.g (fun t' x' => ih t' c.g x' c.hist c.rds) c.x) (rd2 nt i ms (evOp P call o (oev c.t)) o.dst c.t c.hist c.rds (fun t' rds' => ih t' c.g c.x c.hist rds') q.1) (Nat.beq q.2.n c.g.n) = _
          dsimp only
          cases Nat.beq q.2.n c.g.n with
          | true =>
            show rd2 nt i ms (evOp P call o (oev c.t)) o.dst c.t c.hist c.rds (fun t' rds' => ih t' c.g c.x c.hist rds') q.1 = _
            unfold rd2
            cases histB ms i (evOp P call o (oev c.t)) q.1 c.hist with
            | false => rfl
            | true =>
              show putD nt q.1 c.t o.dst _ = _
              rw [putD_eq]
              simp only [cond_true]
              cases putT nt c.t o.dst q.1 <;> rfl
          | false =>
            show cvX P call nt base o i c.t c.g (fun t' x' => ih t' c.g x' c.hist c.rds) c.x = _
            unfold cvX
            simp only [cond_false]
            unfold convC
            rw [ho]
            cases isConv o with
            | false => rfl
            | true =>
              show bndX (cv2 nt base i o.dst c.t (fun t' x' => ih t' c.g x' c.hist c.rds) c.x) (evOp P call o (oev c.t) ⟨c.g.h, Nat.add base i⟩) = _
              simp only [cond_true]
              cases evOp P call o (oev c.t) ⟨c.g.h, Nat.add base i⟩ with
              | none => rfl
              | some q2 =>
                show cv2 nt base i o.dst c.t (fun t' x' => ih t' c.g x' c.hist c.rds) c.x q2 = _
                unfold cv2
                dsimp only
                cases Nat.beq q2.2.n (Nat.succ (Nat.add base i)) with
                | false => rfl
                | true =>
                  show putD nt q2.1 c.t o.dst _ = _
                  rw [putD_eq]
                  simp only [cond_true]
                  cases putT nt c.t o.dst q2.1 <;> rfl
      · unfold st2
        rw [ho]
        cases evOp P call o (oev c.t) ⟨c.g.h, Nat.add base i⟩ with
        | none => rfl
        | some q =>
          show putD nt q.1 c.t o.dst (fun t' => ih t' c.g (updF c.x i (q.2.get (Nat.add base i))) c.hist c.rds) = _
          rw [putD_eq]
          dsimp only
          cases putT nt c.t o.dst q.1 <;> rfl
      · unfold st3
        rw [ho]
        cases evOp P call o (oev c.t) (preA base (fun k => ancM ms k i) c.x ops.size c.g) with
        | none => rfl
        | some q =>
          show ac2 nt i ms o.dst c.t c.g c.x c.hist c.rds ih q = _
          unfold ac2
          dsimp only
          cases rdsB ms i q.2 c.rds with
          | false => rfl
          | true =>
            show putD nt q.1 c.t o.dst _ = _
            rw [putD_eq]
            simp only [cond_true]
            cases putT nt c.t o.dst q.1 <;> rfl
      · rfl
theorem stepsX_eq (P : Program) (call : Nat → List AV → AS → Option (AV × AS)) (nt base : Nat) (ops : Array Oper) (ms : Tr Nat) : ∀ (l : List Oper) (i : Nat) (c : DC), stepsX P call nt base ops.size ops.toList ms l i c.t c.g c.x c.hist c.rds = stepsC P call nt ops base ms l i c
  | [], _, _ => rfl
  | o :: r, i, c => by
    show stepX P call nt base ops.size ops.toList ms i o (stepsX P call nt base ops.size ops.toList ms r (Nat.succ i)) c.t c.g c.x c.hist c.rds = _
    rw [stepX_eq]
    unfold stepsC
    cases stepC P call nt ops base ms i o c with
    | none => rfl
    | some c' => exact stepsX_eq P call nt base ops ms r (Nat.succ i) c'
noncomputable def drawX2 (s : AS) (len : Nat) (c : DC) : Option (Tr AV × AS) := some (c.t, preA s.n allP c.x len c.g)
noncomputable def drawX (P : Program) (call : Nat → List AV → AS → Option (AV × AS)) (nt : Nat) (ops : Array Oper) (t : Tr AV) (s : AS) : Option (Tr AV × AS) :=
  cond (statB ops) (cond (Nat.ble (Nat.add s.n ops.size) 1000000000) (bndX (drawX2 s ops.size) (stepsX P call nt s.n ops.size ops.toList (masksT ops.toList 0 .leaf) ops.toList 0 t ⟨s.h, Nat.add s.n ops.size⟩ (fun _ => .none) [] [])) none) none
theorem drawX_eq (P : Program) : drawX P = drawA P := by
  funext call nt ops t s
  unfold drawX drawA
  rw [stepsX_eq P call nt s.n ops (masksT ops.toList 0 .leaf) ops.toList 0 ⟨t, ⟨s.h, Nat.add s.n ops.size⟩, fun _ => .none, [], []⟩]
  congr 2
  cases stepsC P call nt ops s.n (masksT ops.toList 0 .leaf) ops.toList 0 ⟨t, ⟨s.h, Nat.add s.n ops.size⟩, fun _ => .none, [], []⟩ <;> rfl
/-- Code. -/
noncomputable def seqX (f : Tr AV → AS → Option (Ex × Tr AV × AS)) (q : Ex × Tr AV × AS) : Option (Ex × Tr AV × AS) := match q.1 with
  | .normal => f q.2.1 q.2.2
  | e => some (e, q.2.1, q.2.2)
noncomputable def blkX (i : Nat) (q : Ex × Tr AV × AS) : Option (Ex × Tr AV × AS) := match q.1 with
  | .exit j => cond (Nat.beq j i) (some (.normal, q.2.1, q.2.2)) (some (.exit j, q.2.1, q.2.2))
  | e => some (e, q.2.1, q.2.2)
noncomputable def cndX (a b : Option (Ex × Tr AV × AS)) (v : AV) : Option (Ex × Tr AV × AS) := match v with
  | .bool c => Bool.rec (motive := fun _ => Option (Ex × Tr AV × AS)) b a c
  | _ => none
noncomputable def regX (P : Program) (call : Nat → List AV → AS → Option (AV × AS)) (nt : Nat) (ops : Array Oper) (d : Bool) (t : Tr AV) (s : AS) : Option (Ex × Tr AV × AS) :=
  bndX (fun q => some (.normal, q.1, q.2)) (Bool.rec (motive := fun _ => Option (Tr AV × AS)) (opsX P call ops.toList nt ops.toList t s) (drawX P call nt ops t s) d)
noncomputable def loopX (nt : Nat) (ih : Code → Tr AV → AS → Option (Ex × Tr AV × AS)) (x : Code) (t : Tr AV) (s : AS) : Option (Ex × Tr AV × AS) :=
  cond (nextHead x).isSome (mapLoop ih nt x t s) (bndX (seqX (ih (.loop x))) (ih x t s))
noncomputable def codeX (P : Program) (call : Nat → List AV → AS → Option (AV × AS)) (nt : Nat) (ih : Code → Tr AV → AS → Option (Ex × Tr AV × AS)) (c : Code) (t : Tr AV) (s : AS) : Option (Ex × Tr AV × AS) :=
  Code.rec (motive := fun _ => Option (Ex × Tr AV × AS)) (some (.normal, t, s)) (fun _ ops d => regX P call nt ops d t s) (fun x y _ _ => bndX (seqX (ih y)) (ih x t s))
    (fun x y z _ _ => cndX (ih y t s) (ih z t s) (oev t x)) (fun i x _ => bndX (blkX i) (ih x t s)) (fun x _ => loopX nt ih x t s) (fun _ _ _ _ _ _ => none)
    (fun i => some (.exit i, t, s)) (fun _ _ => none) (fun _ => some (.normal, t, s)) (fun _ => none) (some (.ret, t, s)) (fun _ => none) c
noncomputable def evCX (P : Program) (call : Nat → List AV → AS → Option (AV × AS)) (nt : Nat) (k : Nat) : Code → Tr AV → AS → Option (Ex × Tr AV × AS) :=
  Nat.rec (motive := fun _ => Code → Tr AV → AS → Option (Ex × Tr AV × AS)) (fun _ _ _ => none) (fun _ ih => codeX P call nt ih) k
theorem seqX_eq (r : Option (Ex × Tr AV × AS)) (f : Tr AV → AS → Option (Ex × Tr AV × AS)) : bndX (seqX f) r = match r with
      | none => none
      | some q => match q.1 with
        | .normal => nxt (f q.2.1 q.2.2)
        | e => some (e, q.2.1, q.2.2) := by
  cases r with
  | none => rfl
  | some q =>
    obtain ⟨e, t, s⟩ := q
    cases e <;> rfl
theorem evCX_eq (P : Program) (call : Nat → List AV → AS → Option (AV × AS)) (nt : Nat) : ∀ k, evCX P call nt k = evC P (hooks P) call nt k
  | 0 => rfl
  | k + 1 => by
    have ih := evCX_eq P call nt k
    funext c t s
    show codeX P call nt (evCX P call nt k) c t s = _
    rw [ih]
    cases c with
    | skip => rfl
    | label l => rfl
    | exit i => rfl
    | ret => rfl
    | rangeFunc f ps a b => rfl
    | scope b => rfl
    | goto l => rfl
    | refuse w => rfl
    | region id ops d =>
      cases d with
      | true =>
        show bndX (fun q => some (Ex.normal, q.1, q.2)) (drawX P call nt ops t s) = match drawA P call nt ops t s with
          | some q => some (Ex.normal, q.1, q.2)
          | none => none
        rw [drawX_eq]
        cases drawA P call nt ops t s <;> rfl
      | false =>
        show bndX (fun q => some (Ex.normal, q.1, q.2)) (opsX P call ops.toList nt ops.toList t s) = match evOps P call ops nt ops.toList t s with
          | some q => some (Ex.normal, q.1, q.2)
          | none => none
        rw [opsX_eq]
        cases evOps P call ops nt ops.toList t s <;> rfl
    | seq x y => exact seqX_eq _ _
    | cond x y z =>
      show cndX (evC P (hooks P) call nt k y t s) (evC P (hooks P) call nt k z t s) (oev t x) = match oev t x with
        | .bool b => cond b (nxt (evC P (hooks P) call nt k y t s)) (nxt (evC P (hooks P) call nt k z t s))
        | _ => none
      cases oev t x <;> try rfl
      rename_i b
      cases b <;> rfl
    | block i x =>
      show bndX (blkX i) (evC P (hooks P) call nt k x t s) = match evC P (hooks P) call nt k x t s with
        | none => none
        | some q => match q.1 with
          | .exit j => cond (Nat.beq j i) (some (.normal, q.2.1, q.2.2)) (some (.exit j, q.2.1, q.2.2))
          | e => some (e, q.2.1, q.2.2)
      cases evC P (hooks P) call nt k x t s with
      | none => rfl
      | some q =>
        obtain ⟨e, t', s'⟩ := q
        cases e <;> rfl
    | loop x =>
      show loopX nt (evC P (hooks P) call nt k) x t s = cond ((hooks P).special x) ((hooks P).loop (evC P (hooks P) call nt k) call nt x t s) (match evC P (hooks P) call nt k x t s with
        | none => none
        | some q => match q.1 with
          | .normal => nxt (evC P (hooks P) call nt k (.loop x) q.2.1 q.2.2)
          | e => some (e, q.2.1, q.2.2))
      unfold loopX
      rw [seqX_eq]
      rfl
/-- Functions. -/
noncomputable def fnX2 (P : Program) (rs : List ResultVar) (q : Ex × Tr AV × AS) : Option (AV × AS) := cond q.1.ends (bndX (fun v => some (v, q.2.2)) (resA P q.2.1 q.2.2 rs)) none
noncomputable def fnX (P : Program) (call : Nat → List AV → AS → Option (AV × AS)) (fuel : Nat) (args : List AV) (s : AS) (fn : Func) : Option (AV × AS) :=
  bndX (fun c => cond (Nat.ble fn.ntmps 1000000) (cond (Nat.ble args.length fn.ntmps) (bndX (fnX2 P fn.results.toList) (evCX P call fn.ntmps fuel c (initT args 0 .leaf) s)) none) none) fn.body
noncomputable def fnX1 (P : Program) (fs : Nat → Option Func) (fuel : Nat) (ih : Nat → List AV → AS → Option (AV × AS)) (f : Nat) (args : List AV) (s : AS) (g : Option (List AV → AS → Option (AV × AS))) : Option (AV × AS) :=
  Option.rec (motive := fun _ => Option (AV × AS)) (bndX (fnX P ih fuel args s) (fs f)) (fun g => g args s) g
noncomputable def evX (P : Program) (fs : Nat → Option Func) (orc : Nat → Option (List AV → AS → Option (AV × AS))) (fuel : Nat) (d : Nat) : Nat → List AV → AS → Option (AV × AS) :=
  Nat.rec (motive := fun _ => Nat → List AV → AS → Option (AV × AS)) (fun _ _ _ => none) (fun _ ih f args s => fnX1 P fs fuel ih f args s (orc f)) d
theorem evX_eq (P : Program) (fs : Nat → Option Func) (orc : Nat → Option (List AV → AS → Option (AV × AS))) (fuel : Nat) : ∀ d, evX P fs orc fuel d = evF P (hooks P) fs orc fuel d
  | 0 => rfl
  | d + 1 => by
    have ih := evX_eq P fs orc fuel d
    funext f args s
    show fnX1 P fs fuel (evX P fs orc fuel d) f args s (orc f) = _
    rw [ih]
    unfold evF
    cases orc f with
    | some g => rfl
    | none =>
      show bndX (fnX P (evF P (hooks P) fs orc fuel d) fuel args s) (fs f) = _
      cases fs f with
      | none => rfl
      | some fn =>
        show fnX P (evF P (hooks P) fs orc fuel d) fuel args s fn = _
        unfold fnX
        dsimp only
        cases fn.body with
        | none => rfl
        | some c =>
          show cond _ (cond _ (bndX (fnX2 P fn.results.toList) (evCX P (evF P (hooks P) fs orc fuel d) fn.ntmps fuel c (initT args 0 .leaf) s)) none) none = _
          rw [evCX_eq]
          congr 2
          cases evC P (hooks P) (evF P (hooks P) fs orc fuel d) fn.ntmps fuel c (initT args 0 .leaf) s with
          | none => rfl
          | some q =>
            show fnX2 P fn.results.toList q = _
            unfold fnX2
            dsimp only
            cases resA P q.2.1 q.2.2 fn.results.toList <;> rfl
theorem evX_ok {P : Program} (hm : P.follows .mixedOrders = true) {fs : Nat → Option Func} (hfs : FnsOK P fs) {orc : Nat → Option (List AV → AS → Option (AV × AS))} (ho : CallOK P fun f args s => match orc f with | some g => g args s | none => none) (fuel d : Nat) : CallOK P (evX P fs orc fuel d) := by
  rw [evX_eq]
  exact evF_ok (hooks_ok hm) hfs ho d
/-- A closed run that answers true. -/
noncomputable def isTrueA : Option (AV × AS) → Bool
  | some (.bool b, _) => b
  | _ => false
theorem closed_true {P : Program} {call : Nat → List AV → AS → Option (AV × AS)} (hc : CallOK P call) {f : Nat} (h : isTrueA (call f [] ⟨.leaf, 0⟩) = true) (w : World) : Calls P f #[] w fun e w' => e = .returned (.bool true) ∧ Below w.heap.size w w' := by
  unfold isTrueA at h
  split at h
  · rename_i b s' he
    subst h
    have h0 : ∀ b, (⟨.leaf, 0⟩ : AS).get b = .none := fun _ => rfl
    refine (hc.calls f [] ⟨.leaf, 0⟩ (.bool true) s' he ⟨fun _ => False, fun _ => 0, fun _ => 0, fun _ => .deferred none⟩ w #[] ⟨fun b hb => absurd (h0 b) hb, fun b _ hb => absurd (h0 b) hb⟩ (fun b hb => hb.elim) VL.nil).mono fun e w' hq => ?_
    obtain ⟨x, E', rfl, q1, _, q3, _⟩ := hq
    cases q1
    exact ⟨rfl, q3.below h0⟩
  · cases h
end Go.Proofs.YtkjcjfpglpnaaaaGreatDoor
