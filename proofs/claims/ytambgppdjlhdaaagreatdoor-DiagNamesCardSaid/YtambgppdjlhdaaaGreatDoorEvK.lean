/-
  The abstract machine: slots, regions, calls. No program.
-/
import Derived.Test.YtambgppdjlhdaaaGreatDoorEvJ
namespace Go.Proofs.YtambgppdjlhdaaaGreatDoor
open Go.RowKit

noncomputable def oevF (f : Nat → AV) : Operand → AV
  | .tmp k => f k
  | .const v => absV v
  | .global _ => .top
  | .func f => .fn f []
noncomputable def oev (t : Tr AV) : Operand → AV := oevF (t.get .top)
/-- Slots stand for slots. -/
structure TR (E : AEnv) (nt : Nat) (t : Nat → AV) (a : Act) : Prop where
  size : a.tmps.size = nt
  lim : nt ≤ 1000000
  at_ : ∀ k, VR E (t k) (a.tmps.getD k undef)
theorem TR.mono {E F : AEnv} (hE : E.le F) {nt : Nat} {t : Nat → AV} {a : Act} (h : TR E nt t a) : TR F nt t a := ⟨h.size, h.lim, fun k => (h.at_ k).mono hE⟩
theorem oevF_ok [Tab] {E : AEnv} {nt : Nat} {f : Nat → AV} {a : Act} (h : TR E nt f a) (x : Operand) : VR E (oevF f x) (a.eval x) := by
  cases x with
  | tmp k => exact h.at_ k
  | const v => exact absV_ok E v
  | global g => exact .top _
  | func f => exact .fn f [] #[] rfl (fun i c v h _ => by simp at h)
theorem oev_ok [Tab] {E : AEnv} {nt : Nat} {t : Tr AV} {a : Act} (h : TR E nt (t.get .top) a) (x : Operand) : VR E (oev t x) (a.eval x) := oevF_ok h x
noncomputable def putT (nt : Nat) (t : Tr AV) (d : Option Nat) (v : AV) : Option (Tr AV) := match d with
  | none => some t
  | some d => cond (Nat.ble (Nat.succ d) nt) (some (t.set .top v 20 d)) none
theorem putT_get {nt : Nat} {t t' : Tr AV} {d : Option Nat} {v : AV} (hl : nt ≤ 1000000) (h : putT nt t d v = some t') : ∀ k, t'.get .top k = if d = some k then v else t.get .top k := by
  intro k
  unfold putT at h
  split at h
  · injection h with h; subst h; simp
  · rename_i d
    cases hb : Nat.ble (Nat.succ d) nt with
    | false => rw [hb] at h; cases h
    | true =>
      rw [hb] at h
      injection h with h
      subst h
      have hd : d < nt := Nat.le_of_ble_eq_true hb
      by_cases e : k = d
      · subst e
        rw [if_pos rfl, Tr.get_set _ _ _ _ _ (by omega)]
      · rw [if_neg (fun h => e (by injection h with h; exact h.symm)), Tr.get_set_ne _ _ _ _ _ _ e]
theorem putT_lt {nt : Nat} {t t' : Tr AV} {d : Nat} {v : AV} (h : putT nt t (some d) v = some t') : d < nt := by
  unfold putT at h
  dsimp only at h
  cases hb : Nat.ble (Nat.succ d) nt with
  | false => rw [hb] at h; cases h
  | true => exact Nat.le_of_ble_eq_true hb
theorem TR.put {E : AEnv} {nt : Nat} {f f' : Nat → AV} {d : Option Nat} {v : AV} {a : Act} {x : Value} (h : TR E nt f a) (hv : VR E v x) (hd : ∀ k, d = some k → k < nt) (hp : ∀ k, f' k = if d = some k then v else f k) : TR E nt f' (a.put d x) := by
  cases d with
  | none =>
    refine ⟨h.size, h.lim, fun k => ?_⟩
    rw [hp k, if_neg (by intro e; cases e)]
    exact h.at_ k
  | some d =>
    have hdl := hd d rfl
    refine ⟨by simp [Act.put]; exact h.size, h.lim, fun k => ?_⟩
    rw [hp k]
    have hs := h.size
    by_cases e : k = d
    · subst e
      rw [if_pos rfl]
      have : (a.put (some k) x).tmps.getD k undef = x := by
        simp [Act.put, Array.getElem?_setIfInBounds, hs, hdl]
      rw [this]
      exact hv
    · rw [if_neg (fun h => e (by injection h with h; exact h.symm))]
      have : (a.put (some d) x).tmps.getD k undef = a.tmps.getD k undef := by
        simp [Act.put, Array.getElem?_setIfInBounds, Ne.symm e]
      rw [this]
      exact h.at_ k
theorem TR.putT [Tab] {E : AEnv} {nt : Nat} {t t' : Tr AV} {d : Option Nat} {v : AV} {a : Act} {x : Value} (h : TR E nt (t.get .top) a) (hv : VR E v x) (hp : putT nt t d v = some t') : TR E nt (t'.get .top) (a.put d x) :=
  h.put hv (fun k hk => by subst hk; exact putT_lt hp) (putT_get h.lim hp)
theorem put_defers (a : Act) (d : Option Nat) (x : Value) : (a.put d x).defers = a.defers := by cases d <;> rfl
noncomputable def nthO {α : Type} (l : List α) : Nat → Option α := List.rec (motive := fun _ => Nat → Option α) (fun _ => none) (fun a _ ih k => Nat.rec (motive := fun _ => Option α) (some a) (fun j _ => ih j) k) l
theorem nthO_eq [Tab] {α : Type} : ∀ (l : List α) (k : Nat), nthO l k = l[k]?
  | [], _ => rfl
  | _ :: _, 0 => rfl
  | a :: l, k + 1 => by
    rw [List.getElem?_cons_succ]
    exact nthO_eq l k
noncomputable def wantF (ops : Array Oper) (o : Oper) (f : Nat → AV) : Option Bool := match o.guard with
  | none => some true
  | some q => match nthO ops.toList q.1 with
    | some oj => match oj.dst with
      | some d => match f d with
        | .bool b => some (b == q.2)
        | .undef => some false
        | _ => none
      | none => none
    | none => none
theorem wantF_ok [Tab] {E : AEnv} {nt : Nat} {ops : Array Oper} {o : Oper} {f : Nat → AV} {a : Act} {b : Bool} (h : TR E nt f a) (hw : wantF ops o f = some b) : Region.wanted o (yielded ops a.tmps) = b := by
  unfold wantF at hw
  unfold Region.wanted
  split at hw
  · rename_i hg
    injection hw with hw
    rw [hg]
    exact hw
  · rename_i q hg
    rw [hg]
    split at hw
    · rename_i oj hj
      replace hj : ops[q.1]? = some oj := by rw [nthO_eq, Array.getElem?_toList] at hj; exact hj
      split at hw
      · rename_i d hd
        have hv := h.at_ d
        split at hw
        · rename_i b' hb
          injection hw with hw
          subst hw
          rw [hb] at hv
          have : a.tmps[d]? = some (.bool b') := by
            cases hx : a.tmps[d]? with
            | none =>
              simp [hx] at hv <;> cases hv
            | some x =>
              simp [hx] at hv
              cases hv
              rfl
          simp [yielded, hj, hd, this]
        · rename_i hb
          injection hw with hw
          subst hw
          rw [hb] at hv
          have : ∀ b', a.tmps[d]? ≠ some (.bool b') := by
            intro b' hx
            simp [hx] at hv
            cases hv
          have : yielded ops a.tmps q.1 = none := by
            unfold yielded
            split
            · rename_i b' hx
              rw [hj] at hx
              exact absurd (by simpa [hd] using hx) (this b')
            · rfl
          simp [this]
        · cases hw
      · cases hw
    · cases hw
noncomputable def wantA (ops : Array Oper) (o : Oper) (t : Tr AV) : Option Bool := wantF ops o (t.get .top)
theorem wantA_ok [Tab] {E : AEnv} {nt : Nat} {ops : Array Oper} {o : Oper} {t : Tr AV} {a : Act} {b : Bool} (h : TR E nt (t.get .top) a) (hw : wantA ops o t = some b) : Region.wanted o (yielded ops a.tmps) = b := wantF_ok h hw
/-- Builtins. -/
noncomputable def lenA (P : Program) (t : Nat) (x : AV) (s : AS) : Option AV := match P.underlying t with
  | some .string => match x with
    | .str l => some (.int .i64 (Int.ofNat l.length))
    | .symZ n => some (.int .i64 (Int.ofNat n))
    | _ => none
  | some (.slice _) => match x with
    | .nils => some (.int .i64 (Int.ofNat 0))
    | .sl _ _ n _ => some (.int .i64 (Int.ofNat n))
    | .slu _ _ n _ => some (.int .i64 (Int.ofNat n))
    | .sle => some (.int .i64 (Int.ofNat 0))
    | _ => none
  | some (.array n _) => some (.int .i64 (Int.ofNat n))
  | some (.map _ _) => match x with
    | .nilm => some (.int .i64 (Int.ofNat 0))
    | .mapp b => match s.get b with
      | .mapb es _ => some (.int .i64 (Int.ofNat es.length))
      | _ => none
    | _ => none
  | _ => none
theorem lenA_ok [Tab] {P : Program} {t : Nat} {ts : Array TypeId} {ty : TypeId} {x v : AV} {y : Value} {s : AS} {E : AEnv} {w : World} (hts : ts[0]? = some t) (h : HR E s.get w) (hx : VR E x y) (he : lenA P t x s = some v) : ∃ z, (Builtin.len_ ts ty #[y]).run P w = .ok z w ∧ VR E v z := by
  unfold lenA at he
  split at he
  · rename_i hu
    split at he
    · injection he with he
      subst he
      cases hx
      exact ⟨_, by simp [Builtin.len_, hts, run_underlying hu, ByteArray.size_mk', goInt], .int _ _⟩
    · injection he with he
      subst he
      cases hx with
      | symZ n s hn =>
        subst hn
        exact ⟨_, by simp [Builtin.len_, hts, run_underlying hu, ByteArray.size_mk', goInt], .int _ _⟩
    · cases he
  · rename_i e hu
    split at he
    · injection he with he
      subst he
      cases hx
      exact ⟨_, by simp [Builtin.len_, hts, run_underlying hu, goInt], .int _ _⟩
    · injection he with he
      subst he
      cases hx
      exact ⟨_, by simp [Builtin.len_, hts, run_underlying hu, goInt], .int _ _⟩
    · injection he with he
      subst he
      cases hx
      exact ⟨_, by simp [Builtin.len_, hts, run_underlying hu, goInt], .int _ _⟩
    · injection he with he
      subst he
      cases hx
      exact ⟨_, by simp [Builtin.len_, hts, run_underlying hu, goInt], .int _ _⟩
    · cases he
  · rename_i n e hu
    injection he with he
    subst he
    exact ⟨_, by simp [Builtin.len_, hts, run_underlying hu, goInt], .int _ _⟩
  · rename_i kt e hu
    split at he
    · injection he with he
      subst he
      cases hx
      exact ⟨_, by simp [Builtin.len_, hts, run_underlying hu, goInt], .int _ _⟩
    · split at he
      · rename_i es clock hg
        injection he with he
        subst he
        cases hx
        obtain ⟨_, xs, h1, h2, _⟩ := h.mapb hg
        have hl : es.length = xs.size := by have := h2.len; simpa using this
        exact ⟨.int .i64 (xs.size : Int), by simp [Builtin.len_, hts, run_underlying hu, goInt, getObj, Sem.run, h1], by rw [hl]; exact .int _ _⟩
      · cases he
    · cases he
  · cases he
noncomputable def builtinA (P : Program) (b : Builtin) (ts : List Nat) (args : List AV) (s : AS) : Option (AV × AS) := match b with
  | .len => match ts, args with
    | t :: _, [x] => withS s (lenA P t x s)
    | _, _ => none
  | .append => match args with
    | [a, x] => match ts with
      | [t, tx] => appendA P [t, tx] a x s
      | _ => none
    | _ => none
  | .min => match args with
    | [.int k x, .int _ y] => some (.int k (cond (decide (y < x)) y x), s)
    | _ => none
  | .max => match args with
    | [.int k x, .int _ y] => some (.int k (cond (decide (x < y)) y x), s)
    | _ => none
  | .delete => match args with
    | [m, k] => match ts with
      | t :: _ => match delA P t m k s with
        | some s' => some (.tup [], s')
        | none => none
      | _ => none
    | _ => none
  | _ => none
theorem cond_dec (p : Prop) [Decidable p] (a b : Int) : cond (decide p) a b = if p then a else b := by
  by_cases h : p
  · rw [decide_eq_true h, if_pos h]; rfl
  · rw [decide_eq_false h, if_neg h]; rfl
noncomputable def callA (P : Program) (call : Nat → List AV → AS → Option (AV × AS)) (c : Call) (ev : Operand → AV) (s : AS) : Option (AV × AS) := match c.callee with
  | .value f => match ev f with
    | .fn g cs => call g (List.append (c.args.toList.map ev) cs) s
    | .fnm g cs => call g (List.append cs (c.args.toList.map ev)) s
    | _ => none
  | .builtin b => builtinA P b c.argTypes.toList (c.args.toList.map ev) s
  | .invoke _ _ => none
noncomputable def Fresh (E : AEnv) (n : Nat) : Prop := ∀ b, E.ok b → b < n
theorem Fresh.not {E : AEnv} {n : Nat} (h : Fresh E n) : ¬ E.ok n := fun hn => Nat.lt_irrefl _ (h n hn)
theorem Fresh.grow {E F : AEnv} {n m : Nat} (h : Fresh E n) (g : Grow E n F m) : Fresh F m := fun b hb => by
  have := g.le
  rcases g.ok b hb with h1 | h1
  · have := h b h1; omega
  · omega
/-- What a call leaves. -/
noncomputable def CallEnd [Tab] (E : AEnv) (s : AS) (w : World) (v : AV) (s' : AS) (e : Ending) (w' : World) : Prop :=
  ∃ x E', e = .returned x ∧ VR E' v x ∧ HR E' s'.get w' ∧ Stp E s.get w E' s'.get w' ∧ Grow E s.n E' s'.n
noncomputable def PanEnd [Tab] (E : AEnv) (s : AS) (w : World) (u : Value) (s' : AS) (e : Ending) (w' : World) : Prop :=
  ∃ E', e = .panicked [{ v := u, recovered := false }] ∧ HR E' s'.get w' ∧ Stp E s.get w E' s'.get w' ∧ Grow E s.n E' s'.n
/-- A panic is no value. -/
noncomputable def noPan : Option (AV × AS) → Option (AV × AS)
  | some (.pan _, _) => none
  | r => r
noncomputable def unPan : Option (AV × AS) → Option (Value × AS)
  | some (.pan u, s) => some (u, s)
  | _ => none
theorem noPan_ok {r : Option (AV × AS)} {v : AV} {s : AS} (h : noPan r = some (v, s)) : r = some (v, s) ∧ ∀ u, v ≠ .pan u := by
  unfold noPan at h
  split at h
  · cases h
  · rename_i hn
    subst h
    exact ⟨rfl, fun u e => hn u s (by rw [e])⟩
theorem unPan_ok {r : Option (AV × AS)} {u : Value} {s : AS} (h : unPan r = some (u, s)) : r = some (.pan u, s) := by
  unfold unPan at h
  split at h
  · injection h with h
    injection h with e1 e2
    subst e1
    subst e2
    rfl
  · cases h
/-- What a panic may carry: values without blocks. -/
noncomputable def conI : List AV → Option (List Value)
  | [] => some []
  | .int k n :: l => match conI l with
    | some vs => some (.int k n :: vs)
    | none => none
  | _ :: _ => none
theorem conI_ok {E : AEnv} : ∀ {l : List AV} {a vs : List Value}, VL E l a → conI l = some vs → a = vs
  | [], [], _, _, h => by injection h
  | [], _ :: _, _, h, _ => by have := h.len; simp at this
  | _ :: _, [], _, h, _ => by have := h.len; simp at this
  | c :: l, v :: a, vs, h, he => by
    unfold conI at he
    split at he
    · rename_i heq; cases heq
    · rename_i k n l' heq
      injection heq with e1 e2
      subst e1
      subst e2
      split at he
      · rename_i vs' hvs
        injection he with he
        subst he
        have hh := h.head
        cases hh
        rw [conI_ok h.tail hvs]
      · cases he
    · cases he
noncomputable def conA : AV → Option Value
  | .agg l => match conI l with
    | some vs => some (.agg vs.toArray)
    | none => none
  | .int k n => some (.int k n)
  | .bool b => some (.bool b)
  | .str l => some (.string ⟨l.toArray⟩)
  | .ifc t v => match conA v with
    | some x => some (.iface t x)
    | none => none
  | _ => none
theorem conA_ok {E : AEnv} {a : AV} {x : Value} (h : VR E a x) : ∀ {y : Value}, conA a = some y → x = y := by
  induction h with
  | int k n => intro y h; injection h
  | bool b => intro y h; injection h
  | str l => intro y h; injection h
  | ifc t a v h ih =>
    intro y hy
    unfold conA at hy
    split at hy
    · rename_i z hz
      injection hy with hy
      subst hy
      rw [ih hz]
    · cases hy
  | agg l a hl hat ih =>
    intro y hy
    unfold conA at hy
    split at hy
    · rename_i vs hvs
      injection hy with hy
      subst hy
      have hv : VL E l a.toList := ⟨by simpa using hl, fun i c v h1 h2 => hat i c v h1 (by simpa using h2)⟩
      rw [← conI_ok hv hvs]
    · cases hy
  | _ => intro y h; cases h
structure CallOK [Tab] (P : Program) (call : Nat → List AV → AS → Option (AV × AS)) : Prop where
  fn : ∀ f args s r, call f args s = some r → ∃ fn, P.funcs[f]? = some fn ∧ fn.body.isNone = false ∧ (fn.name == "runtime.NumGoroutine") = false
  calls : ∀ f args s v s', call f args s = some (v, s') → (∀ u, v ≠ .pan u) → ∀ E w (xs : Array Value), HR E s.get w → Fresh E s.n → VL E args xs.toList → Calls P f xs w (CallEnd E s w v s')
  pans : ∀ f args s u s', call f args s = some (.pan u, s') → ∀ E w (xs : Array Value), HR E s.get w → Fresh E s.n → VL E args xs.toList → Calls P f xs w (PanEnd E s w u s')
/-- An operation that is carried out. -/
theorem callA_ok [Tab] {P : Program} {call : Nat → List AV → AS → Option (AV × AS)} (hc : CallOK P call) {o : Oper} {c : Call} {ev : Operand → AV} {a : Act} {s s' : AS} {v : AV} {E : AEnv} {w : World} (ho : o.op = .call c) (hρ : ∀ x, VR E (ev x) (a.eval x)) (h : HR E s.get w) (hf : Fresh E s.n) (he : callA P call c ev s = some (v, s')) (hnp : ∀ u, v ≠ .pan u)
    {next : Act → World → Prop} {Q : Exit → Act → World → Prop} (hk : ∀ x E' w', VR E' v x → HR E' s'.get w' → Stp E s.get w E' s'.get w' → Grow E s.n E' s'.n → next (a.put o.dst x) w') : o.wp P a w next Q := by
  unfold callA at he
  split at he
  · rename_i f hcal
    split at he
    · rename_i g cs hg
      have hv := hρ f
      rw [hg] at hv
      obtain ⟨caps, hfe, hcaps⟩ := hv.fn_inv
      obtain ⟨fn, h1, h2, h3⟩ := hc.fn _ _ _ _ he
      have hcalls := hc.calls _ _ _ _ _ he hnp E w (c.args.map a.eval ++ caps) h hf (by rw [Array.toList_append]; exact (map_VL hρ c.args).append hcaps)
      have hrun : (execOp a.eval o).run P w = .ok (.enter g (c.args.map a.eval ++ caps)) w := by
        have h2' : fn.body ≠ none := fun e => by rw [e] at h2; cases h2
        have h3' : fn.name ≠ "runtime.NumGoroutine" := fun e => by rw [e] at h3; simp at h3
        simp [execOp, ho, resolve, hcal, hfe, Deferred.ofValue, invoke, callFunc, h1, h2', h3']
      unfold Oper.wp
      rw [hrun]
      show Calls P g _ w _
      refine hcalls.mono fun e w' hq => ?_
      obtain ⟨x, E', rfl, q1, q2, q3, q4⟩ := hq
      exact hk x E' w' q1 q2 q3 q4
    · rename_i g cs hg
      have hv := hρ f
      rw [hg] at hv
      obtain ⟨caps, hfe, hcaps⟩ := hv.fnm_inv
      obtain ⟨fn, h1, h2, h3⟩ := hc.fn _ _ _ _ he
      have hcalls := hc.calls _ _ _ _ _ he hnp E w (caps ++ c.args.map a.eval) h hf (by rw [Array.toList_append]; exact hcaps.append (map_VL hρ c.args))
      have hrun : (execOp a.eval o).run P w = .ok (.enter g (caps ++ c.args.map a.eval)) w := by
        have h2' : fn.body ≠ none := fun e => by rw [e] at h2; cases h2
        have h3' : fn.name ≠ "runtime.NumGoroutine" := fun e => by rw [e] at h3; simp at h3
        simp [execOp, ho, resolve, hcal, hfe, Deferred.ofValue, invoke, callFunc, h1, h2', h3']
      unfold Oper.wp
      rw [hrun]
      show Calls P g _ w _
      refine hcalls.mono fun e w' hq => ?_
      obtain ⟨x, E', rfl, q1, q2, q3, q4⟩ := hq
      exact hk x E' w' q1 q2 q3 q4
    · cases he
  · rename_i b hcal
    have fin : (∃ x w' E', (builtin b c.argTypes o.type (c.args.map fun | .const _ => true | _ => false) (c.args.map a.eval)).run P w = .ok (.value x) w' ∧ VR E' v x ∧ HR E' s'.get w' ∧ Stp E s.get w E' s'.get w' ∧ Grow E s.n E' s'.n) → o.wp P a w next Q := by
      rintro ⟨x, w', E', q0, q1, q2, q3, q4⟩
      have hrun : (execOp a.eval o).run P w = .ok (.value x) w' := by
        rw [← q0]
        have e : execOp a.eval o = (resolve a.eval c o.type >>= fun d => invoke d.target d.args) := by
          unfold execOp
          rw [ho]
        rw [e]
        unfold resolve
        rw [hcal]
        rfl
      unfold Oper.wp
      rw [hrun]
      exact hk x E' w' q1 q2 q3 q4
    refine fin ?_
    unfold builtinA at he
    split at he
    · split at he
      · rename_i t ts x hts hargs
        obtain ⟨y, hy1, hy2⟩ : ∃ y, (c.args.map a.eval) = #[y] ∧ VR E x y := by
          have := map_VL hρ c.args
          rw [hargs] at this
          have hl := this.len
          match hm : (c.args.map a.eval).toList with
          | [y] =>
            rw [hm] at this
            exact ⟨y, by apply Array.ext'; simpa using hm, this.head⟩
          | [] => rw [hm] at hl; simp at hl
          | _ :: _ :: _ => rw [hm] at hl; simp at hl
        cases hle : lenA P t x s with
        | none => rw [hle] at he; cases he
        | some u =>
          rw [hle] at he
          injection he with he
          injection he with e1 e2
          subst e1
          subst e2
          obtain ⟨z, q1, q2⟩ := lenA_ok (ts := c.argTypes) (ty := o.type) (by rw [← Array.getElem?_toList, hts]; rfl) h hy2 hle
          exact ⟨z, w, E, by rw [hy1]; simp [builtin, q1], q2, h, Stp.refl _ _ _, Grow.refl _ _⟩
      · cases he
    · split at he
      · rename_i u x hargs
        split at he
        · rename_i t tx hts
          obtain ⟨y, z, hy1, hy2, hy3⟩ : ∃ y z, (c.args.map a.eval) = #[y, z] ∧ VR E u y ∧ VR E x z := by
            have := map_VL hρ c.args
            rw [hargs] at this
            have hl := this.len
            match hm : (c.args.map a.eval).toList with
            | [y, z] =>
              rw [hm] at this
              exact ⟨y, z, by apply Array.ext'; simpa using hm, this.head, this.tail.head⟩
            | [] => rw [hm] at hl; simp at hl
            | [_] => rw [hm] at hl; simp at hl
            | _ :: _ :: _ :: _ => rw [hm] at hl; simp at hl
          have hts' : c.argTypes = #[t, tx] := by apply Array.ext'; simpa using hts
          obtain ⟨r, w', E', q1, q2, q3, q4, q5⟩ := appendA_ok (ty := o.type) h hf.not hy2 hy3 rfl he
          exact ⟨r, w', E', by rw [hy1, hts']; simp [builtin, q1], q2, q3, q4, q5⟩
        · cases he
      · cases he
    · split at he
      · rename_i k x k' y hargs
        injection he with he
        injection he with e1 e2
        subst e1
        subst e2
        have hy1 : (c.args.map a.eval) = #[.int k x, .int k' y] := by
          have := map_VL hρ c.args
          rw [hargs] at this
          have hl := this.len
          match hm : (c.args.map a.eval).toList with
          | [p, q] =>
            rw [hm] at this
            have h1 := this.head
            have h2 := this.tail.head
            cases h1
            cases h2
            apply Array.ext'
            simpa using hm
          | [] => rw [hm] at hl; simp at hl
          | [_] => rw [hm] at hl; simp at hl
          | _ :: _ :: _ :: _ => rw [hm] at hl; simp at hl
        exact ⟨.int k (if y < x then y else x), w, E, by rw [hy1]; simp [builtin, Builtin.min_, Builtin.min2], by rw [cond_dec]; exact .int _ _, h, Stp.refl _ _ _, Grow.refl _ _⟩
      · cases he
    · split at he
      · rename_i k x k' y hargs
        injection he with he
        injection he with e1 e2
        subst e1
        subst e2
        have hy1 : (c.args.map a.eval) = #[.int k x, .int k' y] := by
          have := map_VL hρ c.args
          rw [hargs] at this
          have hl := this.len
          match hm : (c.args.map a.eval).toList with
          | [p, q] =>
            rw [hm] at this
            have h1 := this.head
            have h2 := this.tail.head
            cases h1
            cases h2
            apply Array.ext'
            simpa using hm
          | [] => rw [hm] at hl; simp at hl
          | [_] => rw [hm] at hl; simp at hl
          | _ :: _ :: _ :: _ => rw [hm] at hl; simp at hl
        exact ⟨.int k (if x < y then y else x), w, E, by rw [hy1]; simp [builtin, Builtin.max_, Builtin.max2], by rw [cond_dec]; exact .int _ _, h, Stp.refl _ _ _, Grow.refl _ _⟩
      · cases he
    · split at he
      · rename_i m k hargs
        split at he
        · rename_i t ts hts
          split at he
          · rename_i s2 hdel
            injection he with he
            injection he with e1 e2
            subst e1
            subst e2
            obtain ⟨y, z, hy1, hy2, hy3⟩ : ∃ y z, (c.args.map a.eval) = #[y, z] ∧ VR E m y ∧ VR E k z := by
              have := map_VL hρ c.args
              rw [hargs] at this
              have hl := this.len
              match hm : (c.args.map a.eval).toList with
              | [y, z] =>
                rw [hm] at this
                exact ⟨y, z, by apply Array.ext'; simpa using hm, this.head, this.tail.head⟩
              | [] => rw [hm] at hl; simp at hl
              | [_] => rw [hm] at hl; simp at hl
              | _ :: _ :: _ :: _ => rw [hm] at hl; simp at hl
            obtain ⟨w', q1, q2, q3, q4⟩ := delA_ok (ts := c.argTypes) (ty := o.type) (by rw [← Array.getElem?_toList, hts]; rfl) h hy2 hy3 hdel
            exact ⟨_, w', E, by rw [hy1]; simp [builtin, q1], VL.nil.tup (a := #[]), q2, q3, q4 ▸ Grow.refl _ _⟩
          · cases he
        · cases he
      · cases he
    · cases he
  · cases he
/-- A call that panics; a panic. -/
noncomputable def panA (call : Nat → List AV → AS → Option (AV × AS)) (c : Call) (ev : Operand → AV) (s : AS) : Option (Value × AS) := match c.callee with
  | .value f => match ev f with
    | .fn g cs => unPan (call g (List.append (c.args.toList.map ev) cs) s)
    | .fnm g cs => unPan (call g (List.append cs (c.args.toList.map ev)) s)
    | _ => none
  | _ => none
noncomputable def panO (call : Nat → List AV → AS → Option (AV × AS)) (o : Oper) (ev : Operand → AV) (s : AS) : Option (Value × AS) := match o.op with
  | .call c => panA call c ev s
  | .panic x => match conA (ev x) with
    | some (.iface t v) => some (.iface t v, s)
    | _ => none
  | _ => none
theorem panO_ok [Tab] {P : Program} {call : Nat → List AV → AS → Option (AV × AS)} (hc : CallOK P call) {o : Oper} {ev : Operand → AV} {a : Act} {s s' : AS} {u : Value} {E : AEnv} {w : World} (hρ : ∀ x, VR E (ev x) (a.eval x)) (h : HR E s.get w) (hf : Fresh E s.n) (he : panO call o ev s = some (u, s'))
    {next : Act → World → Prop} {Q : Exit → Act → World → Prop} (hk : ∀ E' w', HR E' s'.get w' → Stp E s.get w E' s'.get w' → Grow E s.n E' s'.n → Q (.panic [{ v := u, recovered := false }]) a w') : o.wp P a w next Q := by
  unfold panO at he
  split at he
  · rename_i c ho
    unfold panA at he
    split at he
    · rename_i f hcal
      split at he
      · rename_i g cs hg
        have hv := hρ f
        rw [hg] at hv
        obtain ⟨caps, hfe, hcaps⟩ := hv.fn_inv
        have he := unPan_ok he
        obtain ⟨fn, h1, h2, h3⟩ := hc.fn _ _ _ _ he
        have hcalls := hc.pans _ _ _ _ _ he E w (c.args.map a.eval ++ caps) h hf (by rw [Array.toList_append]; exact (map_VL hρ c.args).append hcaps)
        have hrun : (execOp a.eval o).run P w = .ok (.enter g (c.args.map a.eval ++ caps)) w := by
          have h2' : fn.body ≠ none := fun e => by rw [e] at h2; cases h2
          have h3' : fn.name ≠ "runtime.NumGoroutine" := fun e => by rw [e] at h3; simp at h3
          simp [execOp, ho, resolve, hcal, hfe, Deferred.ofValue, invoke, callFunc, h1, h2', h3']
        unfold Oper.wp
        rw [hrun]
        show Calls P g _ w _
        refine hcalls.mono fun e w' hq => ?_
        obtain ⟨E', rfl, q2, q3, q4⟩ := hq
        exact hk E' w' q2 q3 q4
      · rename_i g cs hg
        have hv := hρ f
        rw [hg] at hv
        obtain ⟨caps, hfe, hcaps⟩ := hv.fnm_inv
        have he := unPan_ok he
        obtain ⟨fn, h1, h2, h3⟩ := hc.fn _ _ _ _ he
        have hcalls := hc.pans _ _ _ _ _ he E w (caps ++ c.args.map a.eval) h hf (by rw [Array.toList_append]; exact hcaps.append (map_VL hρ c.args))
        have hrun : (execOp a.eval o).run P w = .ok (.enter g (caps ++ c.args.map a.eval)) w := by
          have h2' : fn.body ≠ none := fun e => by rw [e] at h2; cases h2
          have h3' : fn.name ≠ "runtime.NumGoroutine" := fun e => by rw [e] at h3; simp at h3
          simp [execOp, ho, resolve, hcal, hfe, Deferred.ofValue, invoke, callFunc, h1, h2', h3']
        unfold Oper.wp
        rw [hrun]
        show Calls P g _ w _
        refine hcalls.mono fun e w' hq => ?_
        obtain ⟨E', rfl, q2, q3, q4⟩ := hq
        exact hk E' w' q2 q3 q4
      · cases he
    · cases he
  · rename_i x ho
    split at he
    · rename_i t v hx
      injection he with he
      injection he with e1 e2
      subst e1
      subst e2
      have e := conA_ok (hρ x) hx
      have hrun : (execOp a.eval o).run P w = .halt (.panic (.iface t v)) w := by
        simp [execOp, ho, e, Instr.panic]
      unfold Oper.wp
      rw [hrun]
      exact hk E w h (Stp.refl _ _ _) (Grow.refl _ _)
    · cases he
  · cases he
end Go.Proofs.YtambgppdjlhdaaaGreatDoor
