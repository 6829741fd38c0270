/-
  The quick machine for the kernel: operations turned into closures, once for each place in the code. No program.
-/
import Derived.Test.YtambgppdjlhdaaaGreatDoorEqB
namespace Go.Proofs.YtambgppdjlhdaaaGreatDoor
open Go.RowKit

noncomputable def cellsQ (x : AV) : Option (List AV) := AV.rec (motive_1 := fun _ => Option (List AV)) (motive_2 := fun _ => Unit) (none) (none) (fun k n => some [.int k n]) (fun b => some [.bool b]) (fun l => some [.str l]) (some [.nilp]) (fun b o => some [.ptr b o]) (some [.nils]) (fun b o n c => some [.sl b o n c]) (fun b o n e => some [.slu b o n e]) (some [.nilm]) (fun b => some [.mapp b]) (some [.nilfn]) (fun f cs _ => some [.fn f cs]) (fun f cs _ => some [.fnm f cs]) (some [.nili]) (fun u v _ => some [.ifc u v]) (fun cs _ => bifO (onesQ cs) (some cs)) (fun _ _ => none) (fun w => some [.pan w]) (fun b k lo hi => some [.symI b k lo hi]) (fun b => some [.symS b]) (fun b lo hi => some [.symT b lo hi]) (fun n => some [.symZ n]) (some [.sle]) () (fun _ _ _ _ => ()) x
noncomputable def lenSQ (x : AV) : Option AV := AV.rec (motive_1 := fun _ => Option AV) (motive_2 := fun _ => Unit) (none) (none) (fun _ _ => none) (fun _ => none) (fun l => some (.int .i64 (.ofNat (lenB l)))) (none) (fun _ _ => none) (none) (fun _ _ _ _ => none) (fun _ _ _ _ => none) (none) (fun _ => none) (none) (fun _ _ _ => none) (fun _ _ _ => none) (none) (fun _ _ _ => none) (fun _ _ => none) (fun _ _ => none) (fun _ => none) (fun _ _ _ _ => none) (fun _ => none) (fun _ _ _ => none) (fun n => some (.int .i64 (.ofNat n))) (none) () (fun _ _ _ _ => ()) x
theorem lenSQ_eq (x : AV) : lenSQ x  = match x with | .str l => some (.int .i64 (.ofNat (lenB l))) | .symZ n => some (.int .i64 (.ofNat n)) | _ => none := by cases x <;> rfl
noncomputable def lenLQ (x : AV) : Option AV := AV.rec (motive_1 := fun _ => Option AV) (motive_2 := fun _ => Unit) (none) (none) (fun _ _ => none) (fun _ => none) (fun _ => none) (none) (fun _ _ => none) (some (.int .i64 (.ofNat 0))) (fun _ _ n _ => some (.int .i64 (.ofNat n))) (fun _ _ n _ => some (.int .i64 (.ofNat n))) (none) (fun _ => none) (none) (fun _ _ _ => none) (fun _ _ _ => none) (none) (fun _ _ _ => none) (fun _ _ => none) (fun _ _ => none) (fun _ => none) (fun _ _ _ _ => none) (fun _ => none) (fun _ _ _ => none) (fun _ => none) (some (.int .i64 (.ofNat 0))) () (fun _ _ _ _ => ()) x
theorem lenLQ_eq (x : AV) : lenLQ x  = match x with | .nils => some (.int .i64 (.ofNat 0)) | .sl b o n c => some (.int .i64 (.ofNat n)) | .slu b o n e => some (.int .i64 (.ofNat n)) | .sle => some (.int .i64 (.ofNat 0)) | _ => none := by cases x <;> rfl
noncomputable def gdQ (x : AV) : Bool → RR → RR → RR := AV.rec (motive_1 := fun _ => Bool → RR → RR → RR) (motive_2 := fun _ => Unit) (fun _ _ _ => none) (fun _ _ Z => Z) (fun _ _ _ _ _ => none) (fun b b0 Y Z => Bool.rec (motive := fun _ => RR) Z Y (Bool.rec (motive := fun _ => Bool) (!b0) b0 b)) (fun _ _ _ _ => none) (fun _ _ _ => none) (fun _ _ _ _ _ => none) (fun _ _ _ => none) (fun _ _ _ _ _ _ _ => none) (fun _ _ _ _ _ _ _ => none) (fun _ _ _ => none) (fun _ _ _ _ => none) (fun _ _ _ => none) (fun _ _ _ _ _ _ => none) (fun _ _ _ _ _ _ => none) (fun _ _ _ => none) (fun _ _ _ _ _ _ => none) (fun _ _ _ _ _ => none) (fun _ _ _ _ _ => none) (fun _ _ _ _ => none) (fun _ _ _ _ _ _ _ => none) (fun _ _ _ _ => none) (fun _ _ _ _ _ _ => none) (fun _ _ _ _ => none) (fun _ _ _ => none) () (fun _ _ _ _ => ()) x
theorem gdQ_eq (x : AV) (b0 : Bool) (Y : RR) (Z : RR) : gdQ x b0 Y Z = match x with | .undef => Z | .bool b => Bool.rec (motive := fun _ => RR) Z Y (Bool.rec (motive := fun _ => Bool) (!b0) b0 b) | _ => none := by cases x <;> rfl
theorem cellsQ_eq [Tab] (x : AV) : cellsQ x = cellsA x := by
  cases x <;> try rfl
  rename_i cs
  show bifO (onesQ cs) (some cs) = cond (cs.all oneA) (some cs) none
  rw [onesQ_eq]
  cases cs.all oneA <;> rfl
noncomputable def appQ (l m : List AV) : List AV := List.rec (motive := fun _ => List AV) m (fun a _ ih => a :: ih) l
theorem appQ_eq [Tab] (m : List AV) : ∀ l, appQ l m = List.append l m
  | [] => rfl
  | a :: l => congrArg (a :: ·) (appQ_eq m l)
/-- What a call in the quick machine must be like. -/
noncomputable def CallRel (call : Nat → List AV → AS → Option (AV × AS)) (cq : CallQ) : Prop := ∀ f args s K r, cq f args s K = some r → ∃ v s', call f args s = some (v, s') ∧ K v s' = some r
/-- Closures. -/
noncomputable def nS (N : KS) (s : AS) (t : SL) : RR := N t s
noncomputable def put2 (st : PP) (t : SL) (s : AS) (N : KS) (v : AV) : RR := st v t (nS N s)
noncomputable def putV (st : PP) (t : SL) (s : AS) (N : KS) (v : AV) : RR := forceR v (put2 st t s N)
noncomputable def bndV (st : PP) (t : SL) (s : AS) (N : KS) (x : Option AV) : RR := Option.rec (motive := fun _ => RR) none (putV st t s N) x
theorem putV_eq [Tab] (d : Option Nat) (t : SL) (s : AS) (N : KS) (v : AV) : putV (stO d) t s N v = N (t.pw d v) s := by
  unfold putV
  rw [forceR_eq]
  rfl
theorem bndV_ok [Tab] {d : Option Nat} {t : SL} {s : AS} {N : KS} {x : Option AV} {r : RZ} (h : bndV (stO d) t s N x = some r) : ∃ v, x = some v ∧ N (t.pw d v) s = some r := by
  cases x with
  | none => cases h
  | some v => exact ⟨v, rfl, (putV_eq d t s N v).symm.trans h⟩
noncomputable def qMov (g : GG) (st : PP) (_ : CallQ) (t : SL) (s : AS) (_ : KE) (N : KS) : RR := putV st t s N (g t)
noncomputable def pk2 (ga gb : GG) (st : PP) (t : SL) (s : AS) (N : KS) (c : Bool) : RR := Bool.rec (motive := fun _ => RR) (putV st t s N (gb t)) (putV st t s N (ga t)) c
noncomputable def qPick (gc ga gb : GG) (st : PP) (_ : CallQ) (t : SL) (s : AS) (_ : KE) (N : KS) : RR := onBoolR (gc t) (pk2 ga gb st t s N)
noncomputable def q1 (f : AV → Option AV) (g : GG) (st : PP) (_ : CallQ) (t : SL) (s : AS) (_ : KE) (N : KS) : RR := bndV st t s N (f (g t))
noncomputable def q2 (f : AV → AV → Option AV) (g h : GG) (st : PP) (_ : CallQ) (t : SL) (s : AS) (_ : KE) (N : KS) : RR := bndV st t s N (f (g t) (h t))
noncomputable def q1s (f : AV → AS → Option AV) (g : GG) (st : PP) (_ : CallQ) (t : SL) (s : AS) (_ : KE) (N : KS) : RR := bndV st t s N (f (g t) s)
noncomputable def qSl (g : GG) (lo hi : SL → Option AV) (st : PP) (_ : CallQ) (t : SL) (s : AS) (_ : KE) (N : KS) : RR := bndV st t s N (slSQ (g t) (lo t) (hi t))
noncomputable def sd2 (st : PP) (t : SL) (N : KS) (s : AS) : RR := st .undef t (nS N s)
noncomputable def qSt (f : AV → AV → AS → Option (Nat × AB)) (ga gv : GG) (st : PP) (_ : CallQ) (t : SL) (s : AS) (_ : KE) (N : KS) : RR := putSQ s (sd2 st t N) (f (gv t) (ga t) s)
noncomputable def nw2 (st : PP) (t : SL) (N : KS) (v : AV) (s : AS) : RR := st v t (nS N s)
noncomputable def qNew (ty : Nat) (cs : List AV) (st : PP) (_ : CallQ) (t : SL) (s : AS) (_ : KE) (N : KS) : RR := newQ cs ty s (nw2 st t N)
noncomputable def bx2 (ty : Nat) (st : PP) (t : SL) (s : AS) (N : KS) (cs : List AV) : RR := newQ cs ty s (nw2 st t N)
noncomputable def qBox (ty : Nat) (g : GG) (st : PP) (_ : CallQ) (t : SL) (s : AS) (_ : KE) (N : KS) : RR := Option.rec (motive := fun _ => RR) none (bx2 ty st t s N) (cellsQ (g t))
noncomputable def ar3 (K : List AV → RR) (v : AV) (l : List AV) : RR := K (v :: l)
noncomputable def ar2 (ih : SL → (List AV → RR) → RR) (t : SL) (K : List AV → RR) (v : AV) : RR := ih t (ar3 K v)
noncomputable def argK (gs : List GG) : SL → (List AV → RR) → RR := List.rec (motive := fun _ => SL → (List AV → RR) → RR) (fun _ K => K []) (fun g _ ih t K => forceR (g t) (ar2 ih t K)) gs
theorem argK_eq [Tab] (t : SL) : ∀ (gs : List GG) (K : List AV → RR), argK gs t K = K (gs.map fun g => g t)
  | [], K => rfl
  | g :: gs, K => by
    show forceR (g t) (ar2 (argK gs) t K) = _
    rw [forceR_eq]
    show argK gs t (ar3 K (g t)) = _
    rw [argK_eq t gs]
    rfl
noncomputable def rtP (t : SL) (K : KE) (s : AS) (u : Value) : RR := K (.panic u) t s
noncomputable def rt2 (st : PP) (t : SL) (N : KS) (s : AS) (v : AV) : RR := st v t (nS N s)
noncomputable def rt (st : PP) (t : SL) (K : KE) (N : KS) (v : AV) (s : AS) : RR := onPanR v (rtP t K s) (rt2 st t N s)
noncomputable def cl2 (f : Nat) (cq : CallQ) (s : AS) (K : AV → AS → RR) (l : List AV) : RR := cq f l s K
noncomputable def qCall (f : Nat) (gs : List GG) (st : PP) (cq : CallQ) (t : SL) (s : AS) (K : KE) (N : KS) : RR := argK gs t (cl2 f cq s (rt st t K N))
noncomputable def fnA (cq : CallQ) (s : AS) (K : AV → AS → RR) (l : List AV) (f : Nat) (cs : List AV) : RR := cq f (appQ l cs) s K
noncomputable def fnB (cq : CallQ) (s : AS) (K : AV → AS → RR) (l : List AV) (f : Nat) (cs : List AV) : RR := cq f (appQ cs l) s K
noncomputable def clv (v : AV) (cq : CallQ) (s : AS) (K : AV → AS → RR) (l : List AV) : RR := onFnR v (fnA cq s K l) (fnB cq s K l)
noncomputable def qCallV (g : GG) (gs : List GG) (st : PP) (cq : CallQ) (t : SL) (s : AS) (K : KE) (N : KS) : RR := argK gs t (clv (g t) cq s (rt st t K N))
noncomputable def pn2 (t : SL) (s : AS) (K : KE) (x : Option Value) : RR := match x with
  | some (.iface ty v) => K (.panic (.iface ty v)) t s
  | _ => none
noncomputable def qPan (g : GG) (_ : CallQ) (t : SL) (s : AS) (K : KE) (_ : KS) : RR := pn2 t s K (conA (g t))
noncomputable def gn2 (st : PP) (t : SL) (N : KS) (q : AV × AS) : RR := forceR q.1 (rt2 st t N q.2)
noncomputable def gnp (_ : Value) : RR := none
noncomputable def gb2 (st : PP) (t : SL) (N : KS) (q : AV × AS) : RR := onPanR q.1 gnp (rt2 st t N q.2)
/-- Any other operation. -/
noncomputable def opY (o : Op) : Program → (Operand → AV) → AS → Option (AV × AS) :=
  Op.rec (motive := fun _ => Program → (Operand → AV) → AS → Option (AV × AS)) (fun x _ ev s => some (ev x, s)) (fun x _ ev s => some (ev x, s)) (fun c a b P ev s => opA P (.pick c a b) ev s)
    (fun t P _ s => allocA P t s) (fun t x _ ev s => boxA t (ev x) s) (fun t ps P ev s => opA P (.build t ps) ev s) (fun t n ps P ev s => opA P (.buildSlice t n ps) ev s)
    (fun t m k v P ev s => opA P (.insert t m k v) ev s) (fun t a P ev s => opA P (.load t a) ev s) (fun t a v P ev s => opA P (.store t a v) ev s)
    (fun _ _ _ _ => none) (fun _ _ _ _ => none) (fun x P ev s => opA P (.nilCheck x) ev s) (fun op t x y u P ev s => opA P (.binOp op t x y u) ev s) (fun op t x P ev s => opA P (.unOp op t x) ev s)
    (fun a b x P ev s => convA P a b (ev x) s) (fun _ _ _ _ _ => none) (fun t x P ev s => opA P (.makeInterface t x) ev s) (fun fn a b P ev s => opA P (.makeFunc fn a b) ev s)
    (fun t r P ev s => opA P (.makeMap t r) ev s) (fun _ _ _ _ _ => none) (fun t l c P ev s => makeSliceA P t (ev l) (ev c) s) (fun t x lo hi mx P ev s => opA P (.slice t x lo hi mx) ev s)
    (fun t x f P ev s => opA P (.fieldAddr t x f) ev s) (fun t x f P ev s => opA P (.field t x f) ev s) (fun t x i P ev s => opA P (.indexAddr t x i) ev s)
    (fun t x i P ev s => opA P (.index t x i) ev s) (fun t x i ok P ev s => opA P (.lookup t x i ok) ev s) (fun t m k v P ev s => opA P (.mapUpdate t m k v) ev s)
    (fun _ _ _ _ _ _ => none) (fun _ _ _ _ _ _ _ => none) (fun t x P ev s => rangeA P t (ev x) s) (fun _ _ _ _ _ => none) (fun x P ev s => opA P (.entry x) ev s)
    (fun x a b ok P ev s => opA P (.typeAssert x a b ok) ev s) (fun x i P ev s => opA P (.extract x i) ev s) (fun _ _ _ _ => none) (fun _ _ _ _ => none) (fun _ _ _ _ => none) (fun _ _ _ _ => none)
    (fun _ _ _ _ _ => none) (fun _ _ _ _ _ _ => none) (fun _ _ _ _ _ => none) o
theorem opY_ok {o : Op} {P : Program} {ev : Operand → AV} {s : AS} {q : AV × AS} (h : opY o P ev s = some q) : opA P o ev s = some q := by
  cases o <;> first | exact h | (cases h; done) | skip
noncomputable def qGen (P : Program) (op : Op) (st : PP) (_ : CallQ) (t : SL) (s : AS) (_ : KE) (N : KS) : RR := Option.rec (motive := fun _ => RR) none (gn2 st t N) (opY op P (oevF t.at) s)
noncomputable def bl2 (P : Program) (b : Builtin) (ts : List Nat) (st : PP) (t : SL) (s : AS) (N : KS) (l : List AV) : RR := Option.rec (motive := fun _ => RR) none (gb2 st t N) (builtinA P b ts l s)
noncomputable def qBlt (P : Program) (b : Builtin) (ts : List Nat) (gs : List GG) (st : PP) (_ : CallQ) (t : SL) (s : AS) (_ : KE) (N : KS) : RR := argK gs t (bl2 P b ts st t s N)
noncomputable def qGd (b : Bool) (g : GG) (q : QQ) (st : PP) (cq : CallQ) (t : SL) (s : AS) (K : KE) (N : KS) : RR := gdQ (g t) b (q cq t s K N) (st .undef t (nS N s))
/-- Operands. -/
noncomputable def withO (x : Operand) (K : GG → XX) : XX := match x with
  | .tmp k => withG k K
  | .const v => forceX (absV v) fun a => K (gCon a)
  | .global _ => K (gCon .top)
  | .func f => K (gCon (.fn f []))
theorem withO_eq [Tab] (x : Operand) (K : GG → XX) : withO x K = K (fun t => oevF t.at x) := by
  cases x with
  | tmp k => exact withG_eq k K
  | const v => exact forceX_eq _ _
  | global g => rfl
  | func f => rfl
noncomputable def sm (g : GG) (t : SL) : Option AV := some (g t)
noncomputable def sn (_ : SL) : Option AV := none
noncomputable def withOO (x : Option Operand) (K : (SL → Option AV) → XX) : XX := match x with
  | none => K sn
  | some x => withO x fun g => K (sm g)
theorem withOO_eq [Tab] (x : Option Operand) (K : (SL → Option AV) → XX) : withOO x K = K (fun t => x.map (oevF t.at)) := by
  cases x with
  | none => rfl
  | some x => exact withO_eq x _
noncomputable def withOs : List Operand → (List GG → XX) → XX
  | [], K => K []
  | x :: r, K => withO x fun g => withOs r fun l => K (g :: l)
theorem withOs_eq [Tab] : ∀ (l : List Operand) (K : List GG → XX), withOs l K = K (l.map fun x t => oevF t.at x)
  | [], K => rfl
  | x :: r, K => by
    show withO x (fun g => withOs r fun l => K (g :: l)) = _
    rw [withO_eq, withOs_eq r]
    rfl
noncomputable def ldRF (n : Nat) (x : AV) (s : AS) : Option AV := ldRQ x s n
noncomputable def stRF (n : Nat) (v a : AV) (s : AS) : Option (Nat × AB) := stRQ v a s n
noncomputable def faF (off : Nat) (x : AV) : Option AV := faQ x off
noncomputable def fdF (off : Nat) (x : AV) : Option AV := fdQ x off
noncomputable def fdRF (off n : Nat) (x : AV) : Option AV := fdRQ x off n
noncomputable def iaF (n : Nat) (x i : AV) : Option AV := iaQ x i n
noncomputable def iaAF (len n : Nat) (x i : AV) : Option AV := iaAQ x i len n
noncomputable def exF (i : Nat) (x : AV) : Option AV := exQ x i
noncomputable def biF (F : FIq) (op : BinOp) (x y : AV) : Option AV := biQ x F (symB op) y
noncomputable def stF (F : List UInt8 → List UInt8 → Option AV) (op : BinOp) (x y : AV) : Option AV := strQ x F (symB op) y
/-- An operation, turned into a closure. -/
noncomputable def jGen (P : Program) (nt : Nat) (o : Oper) : XX := withP nt o.dst fun st => some (qGen P o.op st)
noncomputable def j1 (nt : Nat) (o : Oper) (f : AV → Option AV) (x : Operand) : XX := withO x fun g => withP nt o.dst fun st => some (q1 f g st)
noncomputable def j2 (nt : Nat) (o : Oper) (f : AV → AV → Option AV) (x y : Operand) : XX := withO x fun g => withO y fun h => withP nt o.dst fun st => some (q2 f g h st)
noncomputable def intF (op : BinOp) : Option FIq := match op with
  | .add => some addI
  | .sub => some subI
  | .mul => some mulI
  | .lss => some lssI
  | .leq => some leqI
  | .gtr => some gtrI
  | .geq => some geqI
  | .eql => some eqlI
  | .neq => some neqI
  | _ => none
noncomputable def strF (op : BinOp) : Option (List UInt8 → List UInt8 → Option AV) := match op with
  | .add => some catS
  | .eql => some eqlS
  | .neq => some neqS
  | _ => none
theorem intF_ok [Tab] {op : BinOp} {F : FIq} (h : intF op = some F) : (∀ a b k, F a b k = intA op k a b) ∧ op ≠ .shl ∧ op ≠ .shr := by
  cases op <;> first | (cases h; done) | (injection h with h; subst h; refine ⟨?_, (by intro e; cases e), (by intro e; cases e)⟩; first | exact addI_eq | exact subI_eq | exact mulI_eq | exact lssI_eq | exact leqI_eq | exact gtrI_eq | exact geqI_eq | exact eqlI_eq | exact neqI_eq)
theorem strF_ok [Tab] {op : BinOp} {F : List UInt8 → List UInt8 → Option AV} (h : strF op = some F) : ∀ a b, F a b = strA op a b := by
  cases op <;> first | (cases h; done) | (injection h with h; subst h; first | exact catS_eq | exact eqlS_eq | exact neqS_eq)
noncomputable def jBin (P : Program) (nt : Nat) (o : Oper) (op : BinOp) (t : Nat) (x y : Operand) : XX := match P.underlying t with
  | some (.int _) => match intF op with
    | some F => j2 nt o (biF F op) x y
    | none => jGen P nt o
  | some .string => match strF op with
    | some F => j2 nt o (stF F op) x y
    | none => jGen P nt o
  | _ => jGen P nt o
noncomputable def jBlt (P : Program) (nt : Nat) (o : Oper) (b : Builtin) (ts : List Nat) (xs : List Operand) : XX := withOs xs fun gs => withP nt o.dst fun st => some (qBlt P b ts gs st)
noncomputable def jLen (P : Program) (nt : Nat) (o : Oper) (ts : List Nat) (xs : List Operand) : XX := match ts, xs with
  | t :: _, [x] => match P.underlying t with
    | some .string => j1 nt o lenSQ x
    | some (.slice _) => j1 nt o lenLQ x
    | _ => jBlt P nt o .len ts xs
  | _, _ => none
noncomputable def jCall (P : Program) (nt : Nat) (o : Oper) (c : Call) : XX := match c.callee with
  | .value (.func f) => withOs c.args.toList fun gs => withP nt o.dst fun st => some (qCall f gs st)
  | .value x => withO x fun g => withOs c.args.toList fun gs => withP nt o.dst fun st => some (qCallV g gs st)
  | .builtin .len => jLen P nt o c.argTypes.toList c.args.toList
  | .builtin b => jBlt P nt o b c.argTypes.toList c.args.toList
  | .invoke _ _ => none
noncomputable def jLoad (P : Program) (nt : Nat) (o : Oper) (t : Nat) (a : Operand) : XX := match P.underlying t with
  | none => none
  | some d => withO a fun g => withP nt o.dst fun st => cond (rowD d) (match P.info? t with
    | some i => cond (Nat.ble 1 i.size) (some (q1s (ldRF i.size) g st)) none
    | none => none) (some (q1s ldQ g st))
noncomputable def jStore (P : Program) (nt : Nat) (o : Oper) (t : Nat) (a v : Operand) : XX := match P.underlying t with
  | none => none
  | some d => match P.info? t with
    | none => none
    | some i => withO a fun ga => withO v fun gv => withP nt o.dst fun st => cond (rowD d) (some (qSt (stRF i.size) ga gv st)) (cond (Nat.beq i.size 1) (some (qSt stQ ga gv st)) none)
noncomputable def jFA (P : Program) (nt : Nat) (o : Oper) (t f : Nat) (x : Operand) : XX := match fieldAt P t f with
  | some q => cond (Nat.beq q.2.1 0) none (j1 nt o (faF q.1) x)
  | none => none
noncomputable def jFd (P : Program) (nt : Nat) (o : Oper) (t f : Nat) (x : Operand) : XX := match fieldAt P t f with
  | some q => cond q.2.2 (cond (Nat.ble 1 q.2.1) (j1 nt o (fdRF q.1 q.2.1) x) none) (j1 nt o (fdF q.1) x)
  | none => none
noncomputable def jIA (P : Program) (nt : Nat) (o : Oper) (t : Nat) (x i : Operand) : XX := match P.underlying t with
  | some (.slice e) => match P.info? e with
    | some ie => j2 nt o (iaF ie.size) x i
    | none => none
  | some (.array n e) => match P.info? e with
    | some ie => j2 nt o (iaAF n ie.size) x i
    | none => none
  | _ => none
noncomputable def jIx (P : Program) (nt : Nat) (o : Oper) (t : Nat) (x i : Operand) : XX := match P.underlying t with
  | some .string => j2 nt o ixQ x i
  | _ => jGen P nt o
noncomputable def jSl (P : Program) (nt : Nat) (o : Oper) (t : Nat) (x : Operand) (lo hi mx : Option Operand) : XX := match P.underlying t with
  | some .string => match mx with
    | none => withO x fun g => withOO lo fun gl => withOO hi fun gh => withP nt o.dst fun st => some (qSl g gl gh st)
    | some _ => none
  | _ => jGen P nt o
noncomputable def jit1 (P : Program) (nt : Nat) (o : Oper) : XX := match o.op with
  | .move x => withO x fun g => withP nt o.dst fun st => some (qMov g st)
  | .assign x => withO x fun g => withP nt o.dst fun st => some (qMov g st)
  | .pick c a b => withO c fun gc => withO a fun ga => withO b fun gb => withP nt o.dst fun st => some (qPick gc ga gb st)
  | .alloc t => match zeroA P t with
    | some cs => withP nt o.dst fun st => some (qNew t cs st)
    | none => none
  | .box t x => withO x fun g => withP nt o.dst fun st => some (qBox t g st)
  | .load t a => jLoad P nt o t a
  | .store t a v => jStore P nt o t a v
  | .nilCheck x => j1 nt o nilQ x
  | .binOp op t x y _ => jBin P nt o op t x y
  | .unOp .not _ x => j1 nt o notQ x
  | .fieldAddr t x f => jFA P nt o t f x
  | .field t x f => jFd P nt o t f x
  | .indexAddr t x i => jIA P nt o t x i
  | .index t x i => jIx P nt o t x i
  | .slice t x lo hi mx => jSl P nt o t x lo hi mx
  | .extract x i => j1 nt o (exF i) x
  | .call c => jCall P nt o c
  | .panic x => withO x fun g => withP nt o.dst fun _ => some (qPan g)
  | _ => jGen P nt o
/-- What a closure must do. -/
structure OpOK (P : Program) (call : Nat → List AV → AS → Option (AV × AS)) (cq : CallQ) (nt : Nat) (o : Oper) (q : QQ) : Prop where
  dst : ∀ k, o.dst = some k → k < nt
  run : ∀ t s K N r, q cq t s K N = some r → (∃ v s', evOp P call o (oevF t.at) s = some (v, s') ∧ panO call o (oevF t.at) s = none ∧ N (t.pw o.dst v) s' = some r) ∨ (∃ u s', evOp P call o (oevF t.at) s = none ∧ panO call o (oevF t.at) s = some (u, s') ∧ K (.panic u) t s' = some r)
/-- Operations that neither call nor panic. -/
noncomputable def mild : Op → Bool
  | .call _ => false
  | .panic _ => false
  | _ => true
theorem mild_ev {P : Program} {call : Nat → List AV → AS → Option (AV × AS)} {o : Oper} {ev : Operand → AV} {s : AS} (h : mild o.op = true) : evOp P call o ev s = opA P o.op ev s ∧ panO call o ev s = none := by
  unfold evOp panO
  cases ho : o.op <;> rw [ho] at h <;> first | (cases h; done) | exact ⟨rfl, rfl⟩
theorem OpOK.mild [Tab] {P : Program} {call : Nat → List AV → AS → Option (AV × AS)} {cq : CallQ} {nt : Nat} {o : Oper} {q : QQ} (hm : mild o.op = true) (hd : ∀ k, o.dst = some k → k < nt) (h : ∀ t s K N r, q cq t s K N = some r → ∃ v s', opA P o.op (oevF t.at) s = some (v, s') ∧ N (t.pw o.dst v) s' = some r) : OpOK P call cq nt o q :=
  ⟨hd, fun t s K N r hr => by
    obtain ⟨v, s', h1, h2⟩ := h t s K N r hr
    obtain ⟨e1, e2⟩ := mild_ev (P := P) (call := call) (ev := oevF t.at) (s := s) hm
    exact .inl ⟨v, s', e1.trans h1, e2, h2⟩⟩
theorem withS_some {s : AS} {x : Option AV} {v : AV} (h : x = some v) : withS s x = some (v, s) := by rw [h]; rfl
theorem jGen_ok [Tab] {P : Program} {call : Nat → List AV → AS → Option (AV × AS)} {cq : CallQ} {nt : Nat} {o : Oper} {q : QQ} (hm : mild o.op = true) (h : jGen P nt o = some q) : OpOK P call cq nt o q := by
  obtain ⟨h, hd⟩ := withP_ok h
  injection h with h
  subst h
  refine OpOK.mild hm hd fun t s K N r hr => ?_
  unfold qGen at hr
  cases ho : opY o.op P (oevF t.at) s with
  | none => rw [ho] at hr; cases hr
  | some p =>
    rw [ho] at hr
    replace hr : forceR p.1 (rt2 (stO o.dst) t N p.2) = some r := hr
    rw [forceR_eq] at hr
    exact ⟨p.1, p.2, opY_ok ho, hr⟩
theorem j1_ok [Tab] {P : Program} {call : Nat → List AV → AS → Option (AV × AS)} {cq : CallQ} {nt : Nat} {o : Oper} {f : AV → Option AV} {x : Operand} {q : QQ} (hm : mild o.op = true) (hf : ∀ ev s v, f (ev x) = some v → opA P o.op ev s = some (v, s)) (h : j1 nt o f x = some q) : OpOK P call cq nt o q := by
  unfold j1 at h
  rw [withO_eq] at h
  obtain ⟨h, hd⟩ := withP_ok h
  injection h with h
  subst h
  refine OpOK.mild hm hd fun t s K N r hr => ?_
  obtain ⟨v, h1, h2⟩ := bndV_ok hr
  exact ⟨v, s, hf _ s v h1, h2⟩
theorem j2_ok [Tab] {P : Program} {call : Nat → List AV → AS → Option (AV × AS)} {cq : CallQ} {nt : Nat} {o : Oper} {f : AV → AV → Option AV} {x y : Operand} {q : QQ} (hm : mild o.op = true) (hf : ∀ ev s v, f (ev x) (ev y) = some v → opA P o.op ev s = some (v, s)) (h : j2 nt o f x y = some q) : OpOK P call cq nt o q := by
  unfold j2 at h
  rw [withO_eq, withO_eq] at h
  obtain ⟨h, hd⟩ := withP_ok h
  injection h with h
  subst h
  refine OpOK.mild hm hd fun t s K N r hr => ?_
  obtain ⟨v, h1, h2⟩ := bndV_ok hr
  exact ⟨v, s, hf _ s v h1, h2⟩
theorem jBin_ok [Tab] {P : Program} {call : Nat → List AV → AS → Option (AV × AS)} {cq : CallQ} {nt : Nat} {o : Oper} {op : BinOp} {t u : Nat} {x y : Operand} {q : QQ} (ho : o.op = .binOp op t x y u) (h : jBin P nt o op t x y = some q) : OpOK P call cq nt o q := by
  have hm : mild o.op = true := by rw [ho]; rfl
  unfold jBin at h
  split at h
  · split at h
    · rename_i F hF
      obtain ⟨h1, h2, h3⟩ := intF_ok hF
      refine j2_ok hm (fun ev s v hv => ?_) h
      rw [ho]
      exact withS_some (biQ_ok h1 h2 h3 hv)
    · exact jGen_ok hm h
  · split at h
    · rename_i F hF
      refine j2_ok hm (fun ev s v hv => ?_) h
      rw [ho]
      exact withS_some (strQ_ok (strF_ok hF) hv)
    · exact jGen_ok hm h
  · exact jGen_ok hm h
theorem rt_ok [Tab] {d : Option Nat} {t : SL} {K : KE} {N : KS} {v : AV} {s : AS} {r : RZ} (h : rt (stO d) t K N v s = some r) : (∃ u, v = .pan u ∧ K (.panic u) t s = some r) ∨ ((∀ u, v ≠ .pan u) ∧ N (t.pw d v) s = some r) := by
  unfold rt at h
  by_cases hp : ∃ u, v = .pan u
  · obtain ⟨u, rfl⟩ := hp
    exact .inl ⟨u, rfl, h⟩
  · have hn : ∀ u, v ≠ .pan u := fun u e => hp ⟨u, e⟩
    rw [onPanR_ne hn] at h
    exact .inr ⟨hn, h⟩
theorem noPan_ne {v : AV} {s : AS} (h : ∀ u, v ≠ .pan u) : noPan (some (v, s)) = some (v, s) := by
  cases v <;> first | rfl | exact absurd rfl (h _)
theorem unPan_ne {v : AV} {s : AS} (h : ∀ u, v ≠ .pan u) : unPan (some (v, s)) = none := by
  cases v <;> first | rfl | exact absurd rfl (h _)
/-- A call's end. -/
theorem call_end [Tab] {P : Program} {call : Nat → List AV → AS → Option (AV × AS)} {cq : CallQ} (hc : CallRel call cq) {o : Oper} {c : Call} (ho : o.op = .call c) {f : Nat} {l : List AV} {t : SL} {s : AS} {K : KE} {N : KS} {r : RZ} (he : ∀ (R : Option (AV × AS)), call f l s = R → callA P call c (oevF t.at) s = R ∧ panA call c (oevF t.at) s = unPan R) (h : cq f l s (rt (stO o.dst) t K N) = some r) :
    (∃ v s', evOp P call o (oevF t.at) s = some (v, s') ∧ panO call o (oevF t.at) s = none ∧ N (t.pw o.dst v) s' = some r) ∨ (∃ u s', evOp P call o (oevF t.at) s = none ∧ panO call o (oevF t.at) s = some (u, s') ∧ K (.panic u) t s' = some r) := by
  obtain ⟨v, s', h1, h2⟩ := hc _ _ _ _ _ h
  obtain ⟨e1, e2⟩ := he _ h1
  have e3 : evOp P call o (oevF t.at) s = noPan (some (v, s')) := by
    unfold evOp
    rw [ho]
    dsimp only
    rw [e1]
  have e4 : panO call o (oevF t.at) s = unPan (some (v, s')) := by
    unfold panO
    rw [ho]
    exact e2
  rcases rt_ok h2 with ⟨u, rfl, h3⟩ | ⟨hn, h3⟩
  · exact .inr ⟨u, s', e3, e4, h3⟩
  · exact .inl ⟨v, s', e3.trans (noPan_ne hn), e4.trans (unPan_ne hn), h3⟩
theorem jBlt_ok [Tab] {P : Program} {call : Nat → List AV → AS → Option (AV × AS)} {cq : CallQ} {nt : Nat} {o : Oper} {c : Call} {b : Builtin} {q : QQ} (ho : o.op = .call c) (hb : c.callee = .builtin b) (h : jBlt P nt o b c.argTypes.toList c.args.toList = some q) : OpOK P call cq nt o q := by
  unfold jBlt at h
  rw [withOs_eq] at h
  obtain ⟨h, hd⟩ := withP_ok h
  injection h with h
  subst h
  refine ⟨hd, fun t s K N r hr => ?_⟩
  unfold qBlt at hr
  rw [argK_eq] at hr
  simp only [List.map_map] at hr
  replace hr : Option.rec (motive := fun _ => RR) none (gb2 (stO o.dst) t N) (builtinA P b c.argTypes.toList (c.args.toList.map (oevF t.at)) s) = some r := hr
  cases hbl : builtinA P b c.argTypes.toList (c.args.toList.map (oevF t.at)) s with
  | none => rw [hbl] at hr; cases hr
  | some p =>
    rw [hbl] at hr
    replace hr : onPanR p.1 gnp (rt2 (stO o.dst) t N p.2) = some r := hr
    have hn : ∀ u, p.1 ≠ .pan u := fun u e => by rw [e] at hr; cases hr
    rw [onPanR_ne hn] at hr
    refine .inl ⟨p.1, p.2, ?_, ?_, hr⟩
    · unfold evOp callA
      rw [ho]
      dsimp only
      rw [hb]
      dsimp only
      rw [hbl]
      exact noPan_ne hn
    · unfold panO panA
      rw [ho]
      dsimp only
      rw [hb]
theorem len_ok [Tab] {P : Program} {call : Nat → List AV → AS → Option (AV × AS)} {cq : CallQ} {nt : Nat} {o : Oper} {c : Call} {t0 : Nat} {ts : List Nat} {x : Operand} {q : QQ} {f : AV → Option AV} (ho : o.op = .call c) (hb : c.callee = .builtin .len) (hts : c.argTypes.toList = t0 :: ts) (hxs : c.args.toList = [x]) (hf : ∀ a s v, f a = some v → lenA P t0 a s = some v ∧ ∀ u, v ≠ .pan u) (h : j1 nt o f x = some q) : OpOK P call cq nt o q := by
  unfold j1 at h
  rw [withO_eq] at h
  obtain ⟨h, hd⟩ := withP_ok h
  injection h with h
  subst h
  refine ⟨hd, fun t s K N r hr => ?_⟩
  obtain ⟨v, h1, h2⟩ := bndV_ok hr
  obtain ⟨h3, hn⟩ := hf _ s v h1
  refine .inl ⟨v, s, ?_, ?_, h2⟩
  · unfold evOp callA
    rw [ho]
    dsimp only
    rw [hb]
    dsimp only
    rw [hts, hxs]
    show noPan (withS s (lenA P t0 (oevF t.at x) s)) = some (v, s)
    rw [h3]
    exact noPan_ne hn
  · unfold panO panA
    rw [ho]
    dsimp only
    rw [hb]
theorem jCall_ok [Tab] {P : Program} {call : Nat → List AV → AS → Option (AV × AS)} {cq : CallQ} (hc : CallRel call cq) {nt : Nat} {o : Oper} {c : Call} {q : QQ} (ho : o.op = .call c) (h : jCall P nt o c = some q) : OpOK P call cq nt o q := by
  unfold jCall at h
  split at h
  · rename_i f hcal
    rw [withOs_eq] at h
    obtain ⟨h, hd⟩ := withP_ok h
    injection h with h
    subst h
    refine ⟨hd, fun t s K N r hr => ?_⟩
    unfold qCall at hr
    rw [argK_eq] at hr
    simp only [List.map_map] at hr
    refine call_end hc ho (f := f) (l := c.args.toList.map (oevF t.at)) (fun R hR => ?_) hr
    unfold callA panA
    rw [hcal]
    have e : List.append (c.args.toList.map (oevF t.at)) [] = c.args.toList.map (oevF t.at) := List.append_nil _
    show call f (List.append (c.args.toList.map (oevF t.at)) []) s = R ∧ unPan (call f (List.append (c.args.toList.map (oevF t.at)) []) s) = unPan R
    rw [e, hR]
    exact ⟨rfl, rfl⟩
  · rename_i x _ hcal
    rw [withO_eq, withOs_eq] at h
    obtain ⟨h, hd⟩ := withP_ok h
    injection h with h
    subst h
    refine ⟨hd, fun t s K N r hr => ?_⟩
    unfold qCallV at hr
    rw [argK_eq] at hr
    simp only [List.map_map] at hr
    replace hr : onFnR (oevF t.at x) (fnA cq s (rt (stO o.dst) t K N) (c.args.toList.map (oevF t.at))) (fnB cq s (rt (stO o.dst) t K N) (c.args.toList.map (oevF t.at))) = some r := hr
    rw [onFnR_eq] at hr
    split at hr
    · rename_i f cs hf
      unfold fnA at hr
      rw [appQ_eq] at hr
      refine call_end hc ho (fun R hR => ?_) hr
      unfold callA panA
      rw [hcal]
      dsimp only
      rw [hf]
      dsimp only
      rw [hR]
      exact ⟨rfl, rfl⟩
    · rename_i f cs hf
      unfold fnB at hr
      rw [appQ_eq] at hr
      refine call_end hc ho (fun R hR => ?_) hr
      unfold callA panA
      rw [hcal]
      dsimp only
      rw [hf]
      dsimp only
      rw [hR]
      exact ⟨rfl, rfl⟩
    · cases hr
  · rename_i hcal
    unfold jLen at h
    split at h
    · rename_i t0 ts x hts hxs
      split at h
      · rename_i ht
        refine len_ok ho hcal hts hxs (fun a s v hv => ?_) h
        rw [lenSQ_eq] at hv
        split at hv
        · injection hv with hv
          subst hv
          unfold lenA
          rw [ht]
          dsimp only
          rw [lenB_eq]
          exact ⟨rfl, fun u e => by cases e⟩
        · injection hv with hv
          subst hv
          unfold lenA
          rw [ht]
          exact ⟨rfl, fun u e => by cases e⟩
        · cases hv
      · rename_i e ht
        refine len_ok ho hcal hts hxs (fun a s v hv => ?_) h
        rw [lenLQ_eq] at hv
        unfold lenA
        rw [ht]
        dsimp only
        split at hv <;> first | (cases hv; done) | (injection hv with hv; subst hv; exact ⟨rfl, fun u e => by cases e⟩)
      · exact jBlt_ok ho hcal h
    · cases h
  · rename_i b _ hcal
    exact jBlt_ok ho hcal h
  · cases h
theorem jit1_ok [Tab] {P : Program} {call : Nat → List AV → AS → Option (AV × AS)} {cq : CallQ} (hc : CallRel call cq) {nt : Nat} {o : Oper} {q : QQ} (h : jit1 P nt o = some q) : OpOK P call cq nt o q := by
  have mov : ∀ x, (∀ ev s, opA P o.op ev s = some (ev x, s)) → mild o.op = true → (withO x fun g => withP nt o.dst fun st => some (qMov g st)) = some q → OpOK P call cq nt o q := by
    intro x hx hm h
    rw [withO_eq] at h
    obtain ⟨h, hd⟩ := withP_ok h
    injection h with h
    subst h
    refine OpOK.mild hm hd fun t s K N r hr => ?_
    unfold qMov at hr
    rw [putV_eq] at hr
    exact ⟨_, s, hx _ s, hr⟩
  unfold jit1 at h
  split at h
  · rename_i x ho
    exact mov x (fun ev s => by rw [ho]; rfl) (by rw [ho]; rfl) h
  · rename_i x ho
    exact mov x (fun ev s => by rw [ho]; rfl) (by rw [ho]; rfl) h
  · rename_i c a b ho
    rw [withO_eq, withO_eq, withO_eq] at h
    obtain ⟨h, hd⟩ := withP_ok h
    injection h with h
    subst h
    refine OpOK.mild (by rw [ho]; rfl) hd fun t s K N r hr => ?_
    unfold qPick at hr
    rw [onBoolR_eq] at hr
    rw [ho]
    unfold opA
    dsimp only
    split at hr
    · rename_i u hu
      replace hu : oevF t.at c = .bool u := hu
      rw [hu]
      unfold pk2 at hr
      cases u with
      | true => dsimp only at hr; rw [putV_eq] at hr; exact ⟨_, s, rfl, hr⟩
      | false => dsimp only at hr; rw [putV_eq] at hr; exact ⟨_, s, rfl, hr⟩
    · cases hr
  · rename_i t ho
    split at h
    · rename_i cs hz
      obtain ⟨h, hd⟩ := withP_ok h
      injection h with h
      subst h
      refine OpOK.mild (by rw [ho]; rfl) hd fun t' s K N r hr => ?_
      obtain ⟨v, s', h1, h2⟩ := newQ_ok hr
      refine ⟨v, s', ?_, h2⟩
      rw [ho]
      show allocA P t s = some (v, s')
      unfold allocA
      rw [hz]
      exact h1
    · cases h
  · rename_i t x ho
    rw [withO_eq] at h
    obtain ⟨h, hd⟩ := withP_ok h
    injection h with h
    subst h
    refine OpOK.mild (by rw [ho]; rfl) hd fun t' s K N r hr => ?_
    unfold qBox at hr
    rw [cellsQ_eq] at hr
    cases hcs : cellsA (oevF t'.at x) with
    | none => rw [hcs] at hr; cases hr
    | some cs =>
      rw [hcs] at hr
      obtain ⟨v, s', h1, h2⟩ := newQ_ok hr
      refine ⟨v, s', ?_, h2⟩
      rw [ho]
      show boxA t (oevF t'.at x) s = some (v, s')
      unfold boxA
      rw [hcs]
      exact h1
  · rename_i t a ho
    unfold jLoad at h
    split at h
    · cases h
    · rename_i d hd0
      rw [withO_eq] at h
      obtain ⟨h, hd⟩ := withP_ok h
      have hm : mild o.op = true := by rw [ho]; rfl
      cases hr : rowD d with
      | true =>
        rw [hr] at h
        simp only [cond_true] at h
        split at h
        · rename_i i hi
          cases hz : Nat.ble 1 i.size with
          | false => rw [hz] at h; cases h
          | true =>
            rw [hz] at h
            injection h with h
            subst h
            refine OpOK.mild hm hd fun t' s K N r hr' => ?_
            obtain ⟨v, h1, h2⟩ := bndV_ok hr'
            refine ⟨v, s, ?_, h2⟩
            rw [ho]
            exact withS_some (ldRQ_ok hd0 hr hi (Nat.le_of_ble_eq_true hz) h1)
        · cases h
      | false =>
        rw [hr] at h
        injection h with h
        subst h
        refine OpOK.mild hm hd fun t' s K N r hr' => ?_
        obtain ⟨v, h1, h2⟩ := bndV_ok hr'
        refine ⟨v, s, ?_, h2⟩
        rw [ho]
        exact withS_some (ldQ_ok hd0 hr h1)
  · rename_i t a v ho
    unfold jStore at h
    split at h
    · cases h
    · rename_i d hd0
      split at h
      · cases h
      · rename_i i hi
        rw [withO_eq, withO_eq] at h
        obtain ⟨h, hd⟩ := withP_ok h
        have hm : mild o.op = true := by rw [ho]; rfl
        cases hr : rowD d with
        | true =>
          rw [hr] at h
          injection h with h
          subst h
          refine OpOK.mild hm hd fun t' s K N r hr' => ?_
          obtain ⟨b, y, h1, h2⟩ := putSQ_ok hr'
          refine ⟨.undef, _, ?_, h2⟩
          rw [ho]
          show skipS (storeA P t (oevF t'.at a) (oevF t'.at v) s) = _
          rw [stRQ_ok hi h1]
          rfl
        | false =>
          rw [hr] at h
          simp only [cond_false] at h
          cases hz : Nat.beq i.size 1 with
          | false => rw [hz] at h; cases h
          | true =>
            rw [hz] at h
            injection h with h
            subst h
            refine OpOK.mild hm hd fun t' s K N r hr' => ?_
            obtain ⟨b, y, h1, h2⟩ := putSQ_ok hr'
            refine ⟨.undef, _, ?_, h2⟩
            rw [ho]
            show skipS (storeA P t (oevF t'.at a) (oevF t'.at v) s) = _
            rw [stQ_ok hi (Nat.eq_of_beq_eq_true hz) h1]
            rfl
  · rename_i x ho
    refine j1_ok (by rw [ho]; rfl) (fun ev s v hv => ?_) h
    rw [ho]
    unfold opA
    dsimp only
    rw [nilQ_eq] at hv
    split at hv <;> first | (cases hv; done) | (rename_i he; rw [he]; injection hv with hv; subst hv; rfl)
  · rename_i op t x y u ho
    exact jBin_ok ho h
  · rename_i ty x ho
    refine j1_ok (by rw [ho]; rfl) (fun ev s v hv => ?_) h
    rw [ho]
    rw [notQ_eq] at hv
    split at hv
    · rename_i b he
      injection hv with hv
      subst hv
      show withS s (unA .not (ev x)) = _
      rw [he]
      rfl
    · cases hv
  · rename_i t x f ho
    unfold jFA at h
    split at h
    · rename_i p hp
      cases hz : Nat.beq p.2.1 0 with
      | true => rw [hz] at h; cases h
      | false =>
        rw [hz] at h
        refine j1_ok (by rw [ho]; rfl) (fun ev s v hv => ?_) h
        rw [ho]
        exact withS_some (faQ_ok (r := p.2.2) hp hz hv)
    · cases h
  · rename_i t x f ho
    unfold jFd at h
    split at h
    · rename_i p hp
      cases hr : p.2.2 with
      | true =>
        rw [hr] at h
        simp only [cond_true] at h
        cases hz : Nat.ble 1 p.2.1 with
        | false => rw [hz] at h; cases h
        | true =>
          rw [hz] at h
          refine j1_ok (by rw [ho]; rfl) (fun ev s v hv => ?_) h
          rw [ho]
          exact withS_some (fdRQ_ok (by rw [hp, ← hr]) (Nat.le_of_ble_eq_true hz) hv)
      | false =>
        rw [hr] at h
        refine j1_ok (by rw [ho]; rfl) (fun ev s v hv => ?_) h
        rw [ho]
        exact withS_some (fdQ_ok (size := p.2.1) (by rw [hp, ← hr]) hv)
    · cases h
  · rename_i t x i ho
    unfold jIA at h
    split at h
    · rename_i e ht
      split at h
      · rename_i ie he
        refine j2_ok (by rw [ho]; rfl) (fun ev s v hv => ?_) h
        rw [ho]
        exact withS_some (iaQ_ok ht he hv)
      · cases h
    · rename_i n e ht
      split at h
      · rename_i ie he
        refine j2_ok (by rw [ho]; rfl) (fun ev s v hv => ?_) h
        rw [ho]
        exact withS_some (iaAQ_ok ht he hv)
      · cases h
    · cases h
  · rename_i t x i ho
    unfold jIx at h
    split at h
    · rename_i ht
      refine j2_ok (by rw [ho]; rfl) (fun ev s v hv => ?_) h
      rw [ho]
      exact withS_some (ixQ_ok ht hv)
    · exact jGen_ok (by rw [ho]; rfl) h
  · rename_i t x lo hi mx ho
    unfold jSl at h
    split at h
    · rename_i ht
      split at h
      · rw [withO_eq, withOO_eq, withOO_eq] at h
        obtain ⟨h, hd⟩ := withP_ok h
        injection h with h
        subst h
        refine OpOK.mild (by rw [ho]; rfl) hd fun t' s K N r hr => ?_
        obtain ⟨v, h1, h2⟩ := bndV_ok hr
        refine ⟨v, s, ?_, h2⟩
        rw [ho]
        exact withS_some (slSQ_ok ht h1)
      · cases h
    · exact jGen_ok (by rw [ho]; rfl) h
  · rename_i x i ho
    refine j1_ok (by rw [ho]; rfl) (fun ev s v hv => ?_) h
    rw [ho]
    exact withS_some (exQ_ok hv)
  · rename_i c ho
    exact jCall_ok hc ho h
  · rename_i x ho
    rw [withO_eq] at h
    obtain ⟨h, hd⟩ := withP_ok h
    injection h with h
    subst h
    refine ⟨hd, fun t s K N r hr => ?_⟩
    unfold qPan pn2 at hr
    split at hr
    · rename_i ty v hcon
      refine .inr ⟨_, s, ?_, ?_, hr⟩
      · unfold evOp
        rw [ho]
        rfl
      · unfold panO
        rw [ho]
        dsimp only
        rw [hcon]
    · cases hr
  · rename_i h1 h2 h3 h4 h5 h6 h7 h8 h9 h10 h11 h12 h13 h14 h15 h16 h17 h18
    refine jGen_ok ?_ h
    unfold mild
    split
    · rename_i c ho; exact absurd ho (h17 c)
    · rename_i x ho; exact absurd ho (h18 x)
    · rfl
end Go.Proofs.YtambgppdjlhdaaaGreatDoor
