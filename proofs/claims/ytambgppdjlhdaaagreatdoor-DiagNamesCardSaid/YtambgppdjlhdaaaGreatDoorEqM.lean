/-
  Answers told beforehand: a closed call that was gone through once, from no memory, serves wherever it is called with the same arguments. No program.
-/
import Derived.Test.YtambgppdjlhdaaaGreatDoorEqD
namespace Go.Proofs.YtambgppdjlhdaaaGreatDoor
open Go.RowKit

noncomputable def u8 (n : Nat) : UInt8 := UInt8.ofNat n
/-- Blocks' numbers moved up. -/
noncomputable def AV.sh (k : Nat) (x : AV) : AV := AV.rec (motive_1 := fun _ => AV) (motive_2 := fun _ => List AV) .top .undef (fun k n => .int k n) (fun b => .bool b) (fun l => .str l) .nilp (fun b o => .ptr (Nat.add k b) o) .nils (fun b o n c => .sl (Nat.add k b) o n c) (fun b o n e => .slu (Nat.add k b) o n e) .nilm (fun b => .mapp (Nat.add k b)) .nilfn (fun f _ ih => .fn f ih) (fun f _ ih => .fnm f ih) .nili (fun t _ ih => .ifc t ih) (fun _ ih => .agg ih) (fun _ ih => .tup ih) (fun w => .pan w) (fun b j lo hi => .symI (Nat.add k b) j lo hi) (fun b => .symS (Nat.add k b)) (fun b lo hi => .symT (Nat.add k b) lo hi) (fun n => .symZ n) .sle [] (fun _ _ h t => h :: t) x
noncomputable def shL (k : Nat) : List AV → List AV := fun l => List.rec (motive := fun _ => List AV) [] (fun v _ ih => v.sh k :: ih) l
theorem shL_rec (k : Nat) (l : List AV) : AV.rec_1 (motive_1 := fun _ => AV) (motive_2 := fun _ => List AV) .top .undef (fun k n => .int k n) (fun b => .bool b) (fun l => .str l) .nilp (fun b o => .ptr (Nat.add k b) o) .nils (fun b o n c => .sl (Nat.add k b) o n c) (fun b o n e => .slu (Nat.add k b) o n e) .nilm (fun b => .mapp (Nat.add k b)) .nilfn (fun f _ ih => .fn f ih) (fun f _ ih => .fnm f ih) .nili (fun t _ ih => .ifc t ih) (fun _ ih => .agg ih) (fun _ ih => .tup ih) (fun w => .pan w) (fun b j lo hi => .symI (Nat.add k b) j lo hi) (fun b => .symS (Nat.add k b)) (fun b lo hi => .symT (Nat.add k b) lo hi) (fun n => .symZ n) .sle [] (fun _ _ h t => h :: t) l = shL k l := by
  induction l with
  | nil => rfl
  | cons v l ih => exact congrArg (fun q => v.sh k :: q) ih
theorem sh_fn [Tab] (k f : Nat) (cs : List AV) : (AV.fn f cs).sh k = .fn f (shL k cs) := congrArg (AV.fn f) (shL_rec k cs)
theorem sh_fnm [Tab] (k f : Nat) (cs : List AV) : (AV.fnm f cs).sh k = .fnm f (shL k cs) := congrArg (AV.fnm f) (shL_rec k cs)
theorem sh_agg [Tab] (k : Nat) (cs : List AV) : (AV.agg cs).sh k = .agg (shL k cs) := congrArg AV.agg (shL_rec k cs)
theorem sh_tup [Tab] (k : Nat) (cs : List AV) : (AV.tup cs).sh k = .tup (shL k cs) := congrArg AV.tup (shL_rec k cs)
theorem shL_map (k : Nat) (l : List AV) : shL k l = l.map (AV.sh k) := by
  induction l with
  | nil => rfl
  | cons v l ih => exact congrArg (fun q => v.sh k :: q) ih
theorem shL_len [Tab] (k : Nat) (l : List AV) : (shL k l).length = l.length := by rw [shL_map, List.length_map]
theorem shL_at [Tab] {k : Nat} {l : List AV} {i : Nat} {c : AV} (h : (shL k l)[i]? = some c) : ∃ d, l[i]? = some d ∧ c = d.sh k := by
  rw [shL_map, List.getElem?_map] at h
  cases hl : l[i]? with
  | none => rw [hl] at h; cases h
  | some d => rw [hl] at h; injection h with h; exact ⟨d, rfl, h.symm⟩
/-- How the moved blocks lie. -/
structure Mv (k : Nat) (E F : AEnv) : Prop where
  ok : ∀ b, E.ok b → F.ok (k + b)
  r : ∀ b, E.ok b → F.r (k + b) = E.r b
  k : ∀ b, E.ok b → F.k (k + b) = E.k b
theorem VR.sh [Tab] {k : Nat} {E F : AEnv} (m : Mv k E F) {a : AV} {v : Value} (h : VR E a v) : VR F (a.sh k) v := by
  induction h with
  | top v => exact .top v
  | undef => exact .undef
  | int k n => exact .int k n
  | bool b => exact .bool b
  | str l => exact .str l
  | nilp => exact .nilp
  | ptr b o h => rw [← m.r b h]; exact .ptr (k + b) o (m.ok b h)
  | nils => exact .nils
  | sl b o len cap h => rw [← m.r b h]; exact .sl (k + b) o len cap (m.ok b h)
  | slu b o len esz cap h hl hk => rw [← m.r b h]; exact .slu (k + b) o len esz cap (m.ok b h) hl (by rw [hk, m.k b h])
  | nilm => exact .nilm
  | mapp b h => rw [← m.r b h]; exact .mapp (k + b) (m.ok b h)
  | nilfn => exact .nilfn
  | fn f cs vs hl h ih => rw [sh_fn]; exact .fn f _ vs (by rw [shL_len, hl]) fun i c v h1 h2 => by obtain ⟨d, h3, rfl⟩ := shL_at h1; exact ih i d v h3 h2
  | fnm f cs vs hl h ih => rw [sh_fnm]; exact .fnm f _ vs (by rw [shL_len, hl]) fun i c v h1 h2 => by obtain ⟨d, h3, rfl⟩ := shL_at h1; exact ih i d v h3 h2
  | nili => exact .nili
  | ifc t a v h ih => exact .ifc t (a.sh k) v ih
  | agg cs vs hl h ih => rw [sh_agg]; exact .agg _ vs (by rw [shL_len, hl]) fun i c v h1 h2 => by obtain ⟨d, h3, rfl⟩ := shL_at h1; exact ih i d v h3 h2
  | tup cs vs hl h ih => rw [sh_tup]; exact .tup _ vs (by rw [shL_len, hl]) fun i c v h1 h2 => by obtain ⟨d, h3, rfl⟩ := shL_at h1; exact ih i d v h3 h2
  | symI b j lo hi n h hn h1 h2 => exact .symI (k + b) j lo hi n (m.ok b h) (by rw [m.k b h]; exact hn) h1 h2
  | symS b s h hs => exact .symS (k + b) s (m.ok b h) (by rw [m.k b h]; exact hs)
  | symT b lo hi n h hn h1 h2 => exact .symT (k + b) lo hi n (m.ok b h) (by rw [m.k b h]; exact hn) h1 h2
  | symZ n s hn => exact .symZ n s hn
  | sle a c => exact .sle a c
theorem VL.sh [Tab] {k : Nat} {E F : AEnv} (m : Mv k E F) {l : List AV} {a : List Value} (h : VL E l a) : VL F (shL k l) a :=
  ⟨by rw [shL_len, h.len], fun i c v h1 h2 => by obtain ⟨d, h3, rfl⟩ := shL_at h1; exact (h.at_ i d v h3 h2).sh m⟩
noncomputable def AB.sh (k : Nat) (x : AB) : AB := match x with
  | .cells cs ty => .cells (shL k cs) ty
  | .froz cs ty => .froz (shL k cs) ty
  | .mapb es clock => .mapb (es.map fun e => (e.1.sh k, e.2.1.sh k, e.2.2)) clock
  | _ => .none
theorem BR.sh [Tab] {k : Nat} {E F : AEnv} (m : Mv k E F) {b : Nat} (hb : E.ok b) {x : AB} {o : Obj} (h : BR E b x o) : BR F (k + b) (x.sh k) o := by
  cases x with
  | none => trivial
  | mapb es clock =>
    obtain ⟨xs, h1, h2, h3, h4⟩ := h
    refine ⟨xs, h1, ?_, ?_, ?_⟩
    · have := h2.sh m
      rw [shL_map, List.map_map] at this
      rw [List.map_map]
      exact this
    · have := h3.sh m
      rw [shL_map, List.map_map] at this
      rw [List.map_map]
      exact this
    · rw [List.map_map]
      exact h4
  | iter a clock cur => trivial
  | zero a ty => trivial
  | cells cs ty =>
    obtain ⟨c, fz, h1, h2, h3, h4, h5⟩ := h
    refine ⟨c, fz, h1, by rw [m.k b hb]; exact h2, by rw [shL_len]; exact h3, ?_, h5⟩
    rw [shL_len]
    exact h4.sh m
  | froz cs ty =>
    obtain ⟨c, fz, h1, h2, h3, h4⟩ := h
    refine ⟨c, fz, h1, by rw [m.k b hb]; exact h2, by rw [shL_len]; exact h3, ?_⟩
    rw [shL_len]
    exact h4.sh m
/-- Like arguments, without blocks. -/
noncomputable def eqBy : List UInt8 → List UInt8 → Bool := fun l => List.rec (motive := fun _ => List UInt8 → Bool) (fun m => List.rec (motive := fun _ => Bool) true (fun _ _ _ => false) m) (fun a _ ih m => List.rec (motive := fun _ => Bool) false (fun b r _ => Bool.rec (motive := fun _ => Bool) false (ih r) (Nat.beq a.toNat b.toNat)) m) l
theorem eqBy_eq [Tab] : ∀ {l m : List UInt8}, eqBy l m = true → l = m
  | [], [], _ => rfl
  | [], _ :: _, h => by cases h
  | _ :: _, [], h => by cases h
  | a :: l, b :: m, h => by
    replace h : Bool.rec (motive := fun _ => Bool) false (eqBy l m) (Nat.beq a.toNat b.toNat) = true := h
    cases hb : Nat.beq a.toNat b.toNat with
    | false => rw [hb] at h; cases h
    | true =>
      rw [hb] at h
      rw [eqBy_eq h, UInt8.toNat_inj.1 (Nat.eq_of_beq_eq_true hb)]
noncomputable def argIs (a b : AV) : Bool := match a, b with
  | .str l, .str m => eqBy l m
  | .int k n, .int j m => decide (k = j) && decide (n = m)
  | .bool x, .bool y => decide (x = y)
  | .nils, .nils => true
  | .nilp, .nilp => true
  | _, _ => false
theorem argIs_ok [Tab] {a b : AV} (h : argIs a b = true) : a = b ∧ ∀ E F v, VR E b v → VR F b v := by
  unfold argIs at h
  split at h
  · rw [eqBy_eq h]; exact ⟨rfl, fun E F v h => by cases h; exact .str _⟩
  · rw [Bool.and_eq_true, decide_eq_true_iff, decide_eq_true_iff] at h
    rw [h.1, h.2]; exact ⟨rfl, fun E F v h => by cases h; exact .int _ _⟩
  · rw [decide_eq_true_iff] at h
    rw [h]; exact ⟨rfl, fun E F v h => by cases h; exact .bool _⟩
  · exact ⟨rfl, fun E F v h => by cases h; exact .nils⟩
  · exact ⟨rfl, fun E F v h => by cases h; exact .nilp⟩
  · cases h
noncomputable def argsAre : List AV → List AV → Bool
  | [], [] => true
  | a :: l, b :: m => cond (argIs a b) (argsAre l m) false
  | _, _ => false
theorem argsAre_ok [Tab] : ∀ {l m : List AV}, argsAre l m = true → l = m ∧ ∀ E F xs, VL E m xs → VL F m xs
  | [], [], _ => ⟨rfl, fun E F xs h => by
    match xs, h with
    | [], _ => exact .nil
    | _ :: _, h => have := h.len; simp at this⟩
  | [], _ :: _, h => by cases h
  | _ :: _, [], h => by cases h
  | a :: l, b :: m, h => by
    replace h : cond (argIs a b) (argsAre l m) false = true := h
    cases hb : argIs a b with
    | false => rw [hb] at h; cases h
    | true =>
      rw [hb] at h
      obtain ⟨e1, h1⟩ := argIs_ok hb
      obtain ⟨e2, h2⟩ := argsAre_ok (l := l) (m := m) h
      refine ⟨by rw [e1, e2], fun E F xs h => ?_⟩
      match xs, h with
      | [], h => have := h.len; simp at this
      | x :: xs, h => exact .cons (h1 E F x h.head) (h2 E F xs h.tail)
/-- A call told beforehand. -/
structure Mem where
  args : List AV
  v : AV
  bl : List (Nat × AB)
  n : Nat
noncomputable def layL (k : Nat) (bl : List (Nat × AB)) (h : Hp) : Hp := List.rec (motive := fun _ => Hp → Hp) (fun h => h) (fun p _ ih h => ih (h.set (Nat.add k p.1) (p.2.sh k))) bl h
theorem layL_get [Tab] (k : Nat) : ∀ (bl : List (Nat × AB)) (h : Hp) (b : Nat), (layL k bl h).get b = h.get b ∨ ∃ p ∈ bl, b = k + p.1 ∧ (layL k bl h).get b = p.2.sh k
  | [], h, b => .inl rfl
  | p :: bl, h, b => by
    show (layL k bl (h.set (k + p.1) (p.2.sh k))).get b = h.get b ∨ ∃ q ∈ p :: bl, b = k + q.1 ∧ (layL k bl (h.set (k + p.1) (p.2.sh k))).get b = q.2.sh k
    rcases layL_get k bl (h.set (k + p.1) (p.2.sh k)) b with h1 | ⟨q, hq, h1, h2⟩
    · by_cases e : b = k + p.1
      · refine .inr ⟨p, List.mem_cons_self, e, ?_⟩
        rw [h1, e, Hp.get_set]
      · left
        rw [h1, Hp.get_set_ne _ _ e]
    · exact .inr ⟨q, List.mem_cons_of_mem _ hq, h1, h2⟩
noncomputable def memoA : List Mem → List AV → AS → Option (AV × AS)
  | [], _, _ => none
  | e :: l, args, s => cond (argsAre args e.args) (cond (Nat.ble (Nat.add s.n e.n) 1000000000) (some (e.v.sh s.n, ⟨layL s.n e.bl s.h, Nat.add s.n e.n⟩)) none) (memoA l args s)
structure MemOK [Tab] (P : Program) (f : Nat) (e : Mem) : Prop where
  run : ∃ call s, CallOK P call ∧ call f e.args AS.nil = some (e.v, s) ∧ (∀ u, e.v ≠ .pan u) ∧ s.n = e.n ∧ ∀ p ∈ e.bl, p.2.sh 0 = .none ∨ s.get p.1 = p.2
theorem MemOK.fn [Tab] {P : Program} {f : Nat} {e : Mem} (h : MemOK P f e) : ∃ fn, P.funcs[f]? = some fn ∧ fn.body.isNone = false ∧ (fn.name == "runtime.NumGoroutine") = false := by
  obtain ⟨call, s, hc, h1, _⟩ := h.run
  exact hc.fn _ _ _ _ h1
theorem AB.sh_none {x : AB} (j : Nat) {k : Nat} (h : x.sh k = .none) : x.sh j = .none := by
  cases x <;> first | rfl | cases h
theorem sh_pan {v : AV} {k : Nat} {u : Value} (h : v.sh k = .pan u) : v = .pan u := by
  cases v <;> first | (cases h; done) | (rw [sh_fn] at h; cases h) | (rw [sh_fnm] at h; cases h) | (rw [sh_agg] at h; cases h) | (rw [sh_tup] at h; cases h) | exact h
theorem mem_run [Tab] {P : Program} {f : Nat} {e : Mem} (hm : MemOK P f e) {s : AS} (hn : s.n + e.n ≤ 1000000000) {E : AEnv} {w : World} {xs : Array Value} (h : HR E s.get w) (hf : Fresh E s.n) (hx : ∀ F, VL F e.args xs.toList) : Calls P f xs w (CallEnd E s w (e.v.sh s.n) ⟨layL s.n e.bl s.h, s.n + e.n⟩) := by
  obtain ⟨call, s0, hc, h1, hp, hn0, hbl⟩ := hm.run
  have h0 : ∀ b, AS.nil.get b = .none := AS.get_nil 0
  refine (hc.calls f e.args AS.nil e.v s0 h1 hp ⟨fun _ => False, fun _ => 0, fun _ => 0, fun _ => .deferred none⟩ w xs (HR.start h0 h.tab) (fun b hb => hb.elim) (hx _)).mono fun en w' hq => ?_
  obtain ⟨x, E', rfl, q1, q2, q3, q4⟩ := hq
  have hbel : Below w.heap.size w w' := q3.below h0
  have hlt : ∀ b, E'.ok b → b < e.n := fun b hb => by
    rcases q4.ok b hb with h | ⟨_, h⟩
    · exact h.elim
    · rw [← hn0]; exact h
  let F : AEnv := ⟨fun b => E.ok b ∨ (s.n ≤ b ∧ E'.ok (b - s.n)), fun b => if b < s.n then E.r b else E'.r (b - s.n), fun b => if b < s.n then E.k b else E'.k (b - s.n), fun b => if b < s.n then E.z b else E'.z (b - s.n)⟩
  have le : E.le F := ⟨fun b hb => .inl hb, fun b hb => if_pos (hf b hb), fun b hb => if_pos (hf b hb)⟩
  have hz : ∀ b, E.ok b → F.z b = E.z b := fun b hb => if_pos (hf b hb)
  have r2 : ∀ c, F.r (s.n + c) = E'.r c := fun c => by
    show (if s.n + c < s.n then E.r (s.n + c) else E'.r (s.n + c - s.n)) = E'.r c
    rw [if_neg (by omega), Nat.add_sub_cancel_left]
  have k2 : ∀ c, F.k (s.n + c) = E'.k c := fun c => by
    show (if s.n + c < s.n then E.k (s.n + c) else E'.k (s.n + c - s.n)) = E'.k c
    rw [if_neg (by omega), Nat.add_sub_cancel_left]
  have ok2 : ∀ c, E'.ok c → F.ok (s.n + c) := fun c hc => .inr ⟨Nat.le_add_right _ _, by rw [Nat.add_sub_cancel_left]; exact hc⟩
  have mv : Mv s.n E' F := ⟨ok2, fun b _ => r2 b, fun b _ => k2 b⟩
  -- what a block of the new memory is
  have look : ∀ b, (AS.mk (layL s.n e.bl s.h) (s.n + e.n)).get b ≠ .none → (b < s.n ∧ E.ok b ∧ s.get b ≠ .none ∧ (AS.mk (layL s.n e.bl s.h) (s.n + e.n)).get b = s.get b) ∨ ∃ c, b = s.n + c ∧ E'.ok c ∧ s0.get c ≠ .none ∧ (AS.mk (layL s.n e.bl s.h) (s.n + e.n)).get b = (s0.get c).sh s.n := fun b hb => by
    rcases layL_get s.n e.bl s.h b with h3 | ⟨p, hp1, h3, h4⟩
    · left
      have h3 : (AS.mk (layL s.n e.bl s.h) (s.n + e.n)).get b = s.get b := h3
      have h5 : s.get b ≠ .none := fun e => hb (h3.trans e)
      have h6 := (h.at_ b h5).1
      exact ⟨hf b h6, h6, h5, h3⟩
    · right
      have h4 : (AS.mk (layL s.n e.bl s.h) (s.n + e.n)).get b = p.2.sh s.n := h4
      rcases hbl p hp1 with h5 | h5
      · exact absurd (h4.trans (AB.sh_none _ h5)) hb
      · have h6 : s0.get p.1 ≠ .none := fun e => hb (by rw [h4, ← h5, e]; rfl)
        exact ⟨p.1, h3, (q2.at_ _ h6).1, h6, by rw [h4, h5]⟩
  have new : ∀ c, s0.get c ≠ .none → w.heap.size ≤ E'.r c := fun c hc => by
    rcases q3.dom c hc with h | ⟨d, hd, _⟩
    · exact h
    · exact absurd (h0 d) hd
  have old : ∀ b, s.get b ≠ .none → E.r b < w.heap.size := fun b hb => by
    obtain ⟨_, _, o, h4, _⟩ := h.at_ b hb
    exact (Array.getElem?_eq_some_iff.1 h4).1
  suffices hq : (HR0 F (AS.mk (layL s.n e.bl s.h) (s.n + e.n)).get w' ∧ Stp E s.get w F (AS.mk (layL s.n e.bl s.h) (s.n + e.n)).get w') ∧ Grow E s.n F (s.n + e.n) by
    obtain ⟨h1, h2⟩ := h.lift hq.1
    exact ⟨x, F, rfl, q1.sh mv, h1, h2, hq.2⟩
  refine ⟨⟨⟨fun b hb => ?_, fun b c hb hc he => ?_⟩, ⟨hbel.os, hbel.tape, hbel.output, hbel.size, le, hz, fun d hd _ => hbel.block d hd, fun b hb => ?_⟩⟩, Nat.le_add_right _ _, fun b hb => ?_⟩
  · rcases look b hb with ⟨h3, h4, h5, h6⟩ | ⟨c, rfl, h4, h5, h6⟩
    · obtain ⟨h7, h8, o, h9, h10⟩ := h.at_ b h5
      refine ⟨.inl h4, h8, o, ?_, ?_⟩
      · rw [le.r b h4, hbel.block _ (old b h5)]; exact h9
      · rw [h6]; exact h10.mono le h4 (hz b h4)
    · obtain ⟨h7, h8, o, h9, h10⟩ := q2.at_ c h5
      have := hlt c h4
      refine ⟨ok2 c h4, by omega, o, ?_, ?_⟩
      · rw [r2]; exact h9
      · rw [h6]; exact h10.sh mv h4
  · rcases look b hb with ⟨h3, h4, h5, h6⟩ | ⟨b', rfl, h4, h5, h6⟩ <;> rcases look c hc with ⟨g3, g4, g5, g6⟩ | ⟨c', rfl, g4, g5, g6⟩
    · rw [le.r b h4, le.r c g4] at he
      exact h.inj b c h5 g5 he
    · rw [le.r b h4, r2] at he
      have := old b h5
      have := new c' g5
      omega
    · rw [r2, le.r c g4] at he
      have := old c g5
      have := new b' h5
      omega
    · rw [r2, r2] at he
      rw [q2.inj b' c' h5 g5 he]
  · rcases look b hb with ⟨h3, h4, h5, h6⟩ | ⟨c, rfl, h4, h5, h6⟩
    · exact .inr ⟨b, h5, (le.r b h4).symm⟩
    · left
      rw [r2]
      exact new c h5
  · rcases hb with h3 | ⟨h3, h4⟩
    · exact .inl h3
    · have := hlt _ h4
      exact .inr ⟨h3, by show b < s.n + e.n; omega⟩
theorem memoA_pan [Tab] {P : Program} {f : Nat} : ∀ (l : List Mem), (∀ e ∈ l, MemOK P f e) → ∀ {args : List AV} {s s' : AS} {u : Value}, memoA l args s ≠ some (.pan u, s')
  | [], _, _, _, _, _, h => by cases h
  | e :: l, hl, args, s, s', u, h => by
    replace h : cond (argsAre args e.args) (cond (Nat.ble (Nat.add s.n e.n) 1000000000) (some (e.v.sh s.n, ⟨layL s.n e.bl s.h, Nat.add s.n e.n⟩)) none) (memoA l args s) = some (.pan u, s') := h
    cases ha : argsAre args e.args with
    | false => rw [ha] at h; exact memoA_pan l (fun e he => hl e (List.mem_cons_of_mem _ he)) h
    | true =>
      rw [ha] at h
      cases hb : Nat.ble (Nat.add s.n e.n) 1000000000 with
      | false => rw [hb] at h; cases h
      | true =>
        rw [hb] at h
        injection h with h
        injection h with h1 h2
        obtain ⟨call, s0, hc, k1, hp, _⟩ := (hl e List.mem_cons_self).run
        exact hp u (sh_pan h1)
theorem memoA_calls [Tab] {P : Program} {f : Nat} : ∀ (l : List Mem), (∀ e ∈ l, MemOK P f e) → ∀ {args : List AV} {s s' : AS} {v : AV}, memoA l args s = some (v, s') → ∀ E w (xs : Array Value), HR E s.get w → Fresh E s.n → VL E args xs.toList → Calls P f xs w (CallEnd E s w v s')
  | [], _, _, _, _, _, h => by cases h
  | e :: l, hl, args, s, s', v, h => by
    replace h : cond (argsAre args e.args) (cond (Nat.ble (Nat.add s.n e.n) 1000000000) (some (e.v.sh s.n, ⟨layL s.n e.bl s.h, Nat.add s.n e.n⟩)) none) (memoA l args s) = some (v, s') := h
    cases ha : argsAre args e.args with
    | false => rw [ha] at h; exact memoA_calls l (fun e he => hl e (List.mem_cons_of_mem _ he)) h
    | true =>
      rw [ha] at h
      cases hb : Nat.ble (Nat.add s.n e.n) 1000000000 with
      | false => rw [hb] at h; cases h
      | true =>
        rw [hb] at h
        injection h with h
        injection h with h1 h2
        subst h1
        subst h2
        intro E w xs hr hf hv
        obtain ⟨e1, hx⟩ := argsAre_ok ha
        subst e1
        exact mem_run (hl e List.mem_cons_self) (Nat.le_of_ble_eq_true hb) hr hf fun F => hx E F _ hv
theorem memo_one [Tab] {P : Program} {f : Nat} {e : Mem} {l : List Mem} (h : ∀ x ∈ e :: l, MemOK P f x) : OneOK P f (memoA (e :: l)) :=
  ⟨(h e List.mem_cons_self).fn, fun _ _ _ _ he _ => memoA_calls _ h he, fun _ _ _ _ he => absurd he (memoA_pan _ h)⟩
/-- The kernel's question. -/
noncomputable def encB (x : AB) : AV := match x with
  | .cells cs ty => .fn ty cs
  | .froz cs ty => .fnm ty cs
  | .mapb es clock => .agg (.int .i64 (Int.ofNat clock) :: es.map fun e => .tup [e.1, e.2.1, .int .i64 (Int.ofNat e.2.2)])
  | _ => .top
theorem encE_inj [Tab] : ∀ {es fs : List (AV × AV × Nat)}, (es.map fun e => AV.tup [e.1, e.2.1, .int .i64 (Int.ofNat e.2.2)]) = (fs.map fun e => AV.tup [e.1, e.2.1, .int .i64 (Int.ofNat e.2.2)]) → es = fs
  | [], [], _ => rfl
  | [], _ :: _, h => by simp at h
  | _ :: _, [], h => by simp at h
  | e :: es, f :: fs, h => by
    simp only [List.map_cons, List.cons.injEq, AV.tup.injEq, AV.int.injEq, true_and, and_true] at h
    obtain ⟨⟨h1, h2, h3⟩, h4⟩ := h
    obtain ⟨a, b, c⟩ := e
    obtain ⟨a', b', c'⟩ := f
    dsimp only at h1 h2 h3
    subst h1
    subst h2
    have h3 : c = c' := by injection h3
    subst h3
    rw [encE_inj h4]
theorem encB_inj [Tab] {x y : AB} (h : encB x = encB y) (hy : y.sh 0 ≠ .none) : x = y := by
  cases y with
  | none => exact absurd rfl hy
  | mapb a b =>
    cases x <;> first | (cases h; done) | skip
    rename_i es clock
    unfold encB at h
    simp only [AV.agg.injEq, List.cons.injEq, AV.int.injEq, true_and] at h
    have h1 : clock = b := by have := h.1; injection this
    rw [h1, encE_inj h.2]
  | iter a b c => exact absurd rfl hy
  | zero a b => exact absurd rfl hy
  | cells cs ty => cases x <;> first | (cases h; done) | (injection h with h1 h2; rw [h1, h2])
  | froz cs ty => cases x <;> first | (cases h; done) | (injection h with h1 h2; rw [h1, h2])
mutual
noncomputable def eqV : AV → AV → Bool
  | .top, .top => true
  | .undef, .undef => true
  | .int k n, .int j m => decide (k = j) && decide (n = m)
  | .bool x, .bool y => decide (x = y)
  | .str l, .str m => eqBy l m
  | .nilp, .nilp => true
  | .ptr b o, .ptr b' o' => Nat.beq b b' && Nat.beq o o'
  | .nils, .nils => true
  | .sl b o n c, .sl b' o' n' c' => (Nat.beq b b' && Nat.beq o o') && (Nat.beq n n' && Nat.beq c c')
  | .slu b o n c, .slu b' o' n' c' => (Nat.beq b b' && Nat.beq o o') && (Nat.beq n n' && Nat.beq c c')
  | .nilm, .nilm => true
  | .mapp b, .mapp b' => Nat.beq b b'
  | .nilfn, .nilfn => true
  | .sle, .sle => true
  | .nili, .nili => true
  | .fn f cs, .fn g ds => Nat.beq f g && eqVs cs ds
  | .fnm f cs, .fnm g ds => Nat.beq f g && eqVs cs ds
  | .ifc t v, .ifc u w => Nat.beq t u && eqV v w
  | .agg cs, .agg ds => eqVs cs ds
  | .tup cs, .tup ds => eqVs cs ds
  | _, _ => false
noncomputable def eqVs : List AV → List AV → Bool
  | [], [] => true
  | a :: l, b :: m => eqV a b && eqVs l m
  | _, _ => false
end
mutual
theorem eqV_eq [Tab] : ∀ (a b : AV), eqV a b = true → a = b := fun a b h => by
  unfold eqV at h
  split at h <;> (try simp only [Bool.and_eq_true, decide_eq_true_iff] at h)
  all_goals first
    | rfl
    | (cases h; done)
    | (obtain ⟨h1, h2⟩ := h; subst h1; subst h2; rfl)
    | (subst h; rfl)
    | (rw [Nat.eq_of_beq_eq_true h])
    | (rw [eqBy_eq h])
    | (obtain ⟨h1, h2⟩ := h; rw [Nat.eq_of_beq_eq_true h1, Nat.eq_of_beq_eq_true h2])
    | (obtain ⟨⟨h1, h2⟩, h3, h4⟩ := h; rw [Nat.eq_of_beq_eq_true h1, Nat.eq_of_beq_eq_true h2, Nat.eq_of_beq_eq_true h3, Nat.eq_of_beq_eq_true h4])
    | (obtain ⟨h1, h2⟩ := h; rw [Nat.eq_of_beq_eq_true h1, eqVs_eq _ _ h2])
    | (obtain ⟨h1, h2⟩ := h; rw [Nat.eq_of_beq_eq_true h1, eqV_eq _ _ h2])
    | (rw [eqVs_eq _ _ h])
theorem eqVs_eq [Tab] : ∀ (a b : List AV), eqVs a b = true → a = b := fun a b h => by
  unfold eqVs at h
  split at h
  · rfl
  · rw [Bool.and_eq_true] at h
    rw [eqV_eq _ _ h.1, eqVs_eq _ _ h.2]
  · cases h
end
noncomputable def blQ (s : AS) : List (Nat × AB) → Bool := fun l => List.rec (motive := fun _ => Bool) true (fun p _ ih => Bool.rec (motive := fun _ => Bool) false ih (eqV (encB (s.get p.1)) (encB p.2))) l
theorem blQ_ok [Tab] {s : AS} : ∀ {l : List (Nat × AB)}, blQ s l = true → ∀ p ∈ l, p.2.sh 0 = .none ∨ s.get p.1 = p.2
  | [], _, p, hp => by cases hp
  | q :: l, h, p, hp => by
    replace h : Bool.rec (motive := fun _ => Bool) false (blQ s l) (eqV (encB (s.get q.1)) (encB q.2)) = true := h
    cases hb : eqV (encB (s.get q.1)) (encB q.2) with
    | false => rw [hb] at h; cases h
    | true =>
      rw [hb] at h
      rcases List.mem_cons.1 hp with rfl | hp
      · by_cases hn : p.2.sh 0 = .none
        · exact .inl hn
        · exact .inr (encB_inj (eqV_eq _ _ hb) hn)
      · exact blQ_ok (l := l) h p hp
noncomputable def memZ (e : Mem) (v : AV) (s : AS) : Bool := Bool.rec (motive := fun _ => Bool) false (Bool.rec (motive := fun _ => Bool) false (blQ s e.bl) (Nat.beq s.n e.n)) (eqV v e.v)
noncomputable def isMemQ (e : Mem) (x : RR) : Bool := match x with
  | some (.val v s) => memZ e v s
  | _ => false
noncomputable def memB' (e : Mem) (cq : CallQ) (f : Nat) : Bool := isMemQ e (cq f e.args AS.nil trueK)
noncomputable def noPanB (v : AV) : Bool := match v with
  | .pan _ => false
  | _ => true
theorem mem_ok [Tab] {P : Program} {call : Nat → List AV → AS → Option (AV × AS)} (hc : CallOK P call) {cq : CallQ} (hr : CallRel call cq) {f : Nat} {e : Mem} (hp : noPanB e.v = true) (h : memB' e cq f = true) : MemOK P f e := by
  unfold memB' isMemQ at h
  split at h
  · rename_i v s he
    obtain ⟨v1, s1, h1, h2⟩ := hr _ _ _ _ _ he
    injection h2 with h2
    injection h2 with e1 e2
    subst e1
    subst e2
    unfold memZ at h
    cases hv : eqV v1 e.v with
    | false => rw [hv] at h; cases h
    | true =>
      cases hn : Nat.beq s1.n e.n with
      | false => rw [hv, hn] at h; cases h
      | true =>
        rw [hv, hn] at h
        refine ⟨call, s1, hc, by rw [h1, eqV_eq _ _ hv], fun u e => ?_, Nat.eq_of_beq_eq_true hn, blQ_ok h⟩
        rw [e] at hp
        cases hp
  · cases h
end Go.Proofs.YtambgppdjlhdaaaGreatDoor
