/-
  The abstract machine: tables of functions; bytes in strings. No program.
-/
import Derived.Test.YtambgppdjlhdaaaGreatDoorEvV
import Derived.Lib.Bytealg
namespace Go.Proofs.YtambgppdjlhdaaaGreatDoor
open Go.RowKit

/-- A tree whose entries are the program's functions. -/
inductive FT (P : Program) : Tr (Option Func) → Nat → Nat → Prop
  | leaf (a b : Nat) : FT P .leaf a b
  | none (a b : Nat) {l r : Tr (Option Func)} (hl : FT P l (2 * a) (a + b)) (hr : FT P r (2 * a) (2 * a + b)) : FT P (.node l .none r) a b
  | some (a b : Nat) {l r : Tr (Option Func)} {fn : Func} (h : P.funcs[b]? = .some fn) (h2 : (fn.name == "runtime.NumGoroutine") = false) (hl : FT P l (2 * a) (a + b)) (hr : FT P r (2 * a) (2 * a + b)) : FT P (.node l (.some fn) r) a b
theorem FT.get {P : Program} {t : Tr (Option Func)} {a b : Nat} (h : FT P t a b) : ∀ (k : Nat) (fn : Func), t.get .none k = .some fn → P.funcs[a * k + b]? = .some fn ∧ (fn.name == "runtime.NumGoroutine") = false := by
  have ix : ∀ (a b k : Nat), ¬ k = 0 → k % 2 = 1 → 2 * a * (k / 2) + (a + b) = a * k + b := fun a b k h0 h1 => by
    have e : k = 2 * (k / 2) + 1 := by omega
    calc 2 * a * (k / 2) + (a + b) = a * (2 * (k / 2) + 1) + b := by rw [Nat.mul_add, Nat.mul_one, Nat.mul_comm 2 a, Nat.mul_assoc]; omega
      _ = a * k + b := by rw [← e]
  have iy : ∀ (a b k : Nat), ¬ k = 0 → ¬ k % 2 = 1 → 2 * a * (k / 2 - 1) + (2 * a + b) = a * k + b := fun a b k h0 h1 => by
    have e : k = 2 * (k / 2 - 1) + 2 := by omega
    calc 2 * a * (k / 2 - 1) + (2 * a + b) = a * (2 * (k / 2 - 1) + 2) + b := by rw [Nat.mul_add, Nat.mul_comm 2 a, Nat.mul_assoc]; omega
      _ = a * k + b := by rw [← e]
  induction h with
  | leaf a b => intro k fn h; cases h
  | none a b hl hr ihl ihr =>
    intro k fn h
    rw [Tr.get_node] at h
    split at h
    · cases h
    · rename_i h0
      split at h
      · rename_i h1
        have := ihl _ fn h
        rwa [ix a b k h0 h1] at this
      · rename_i h1
        have := ihr _ fn h
        rwa [iy a b k h0 h1] at this
  | some a b h1 h2 hl hr ihl ihr =>
    intro k fn h
    rw [Tr.get_node] at h
    split at h
    · rename_i h0
      injection h with h
      subst h
      subst h0
      exact ⟨by simpa using h1, h2⟩
    · rename_i h0
      split at h
      · rename_i h1
        have := ihl _ fn h
        rwa [ix a b k h0 h1] at this
      · rename_i h1
        have := ihr _ fn h
        rwa [iy a b k h0 h1] at this
theorem FT.fns [Tab] {P : Program} {t : Tr (Option Func)} (h : FT P t 1 0) : FnsOK P (t.get .none) := ⟨fun f fn hf => by
  have := h.get f fn hf
  rwa [Nat.one_mul, Nat.add_zero] at this⟩
/-- A byte in a string? -/
noncomputable def memB (c : UInt8) : List UInt8 → Bool
  | [] => false
  | b :: r => cond (Nat.beq b.toNat c.toNat) true (memB c r)
theorem memB_eq [Tab] (c : UInt8) : ∀ l : List UInt8, memB c l = decide (0 ≤ Lib.indexByte l c)
  | [] => rfl
  | b :: r => by
    have ih := memB_eq c r
    have hge := Lib.indexByte_ge r c
    unfold memB Lib.indexByte
    by_cases h : b = c
    · subst h
      have e : Nat.beq b.toNat b.toNat = true := Nat.beq_refl _
      rw [e, if_pos (by simp)]
      rfl
    · have e : Nat.beq b.toNat c.toNat = false := by
        rw [Bool.eq_false_iff]
        exact fun h' => h (UInt8.toNat_inj.1 (Nat.eq_of_beq_eq_true h'))
      rw [e, if_neg (by simpa using h)]
      show memB c r = _
      rw [ih]
      by_cases h3 : Lib.indexByte r c = -1
      · rw [h3]; rfl
      · have h4 : (Lib.indexByte r c == -1) = false := by simpa using h3
        rw [h4]
        simp only [Bool.false_eq_true, if_false]
        congr 1
        exact propext ⟨fun h => by omega, fun h => by omega⟩
noncomputable def containsA (args : List AV) (s : AS) : Option (AV × AS) := match args with
  | [.str l, .str [c]] => some (.bool (memB c l), s)
  | _ => none
/-- Library functions by their contracts. -/
noncomputable def orcL : List (Nat × (List AV → AS → Option (AV × AS))) → Nat → Option (List AV → AS → Option (AV × AS))
  | [], _ => none
  | p :: r, f => cond (Nat.beq f p.1) (some p.2) (orcL r f)
structure OneOK [Tab] (P : Program) (f : Nat) (g : List AV → AS → Option (AV × AS)) : Prop where
  fn : ∃ fn, P.funcs[f]? = some fn ∧ fn.body.isNone = false ∧ (fn.name == "runtime.NumGoroutine") = false
  calls : ∀ args s v s', g args s = some (v, s') → (∀ u, v ≠ .pan u) → ∀ E w (xs : Array Value), HR E s.get w → Fresh E s.n → VL E args xs.toList → Calls P f xs w (CallEnd E s w v s')
  pans : ∀ args s u s', g args s = some (.pan u, s') → ∀ E w (xs : Array Value), HR E s.get w → Fresh E s.n → VL E args xs.toList → Calls P f xs w (PanEnd E s w u s')
theorem orcL_mem [Tab] : ∀ {l : List (Nat × (List AV → AS → Option (AV × AS)))} {f : Nat} {g : List AV → AS → Option (AV × AS)}, orcL l f = some g → (f, g) ∈ l
  | [], _, _, h => by cases h
  | p :: r, f, g, h => by
    unfold orcL at h
    cases hb : Nat.beq f p.1 with
    | true =>
      rw [hb] at h
      injection h with h
      subst h
      rw [Nat.eq_of_beq_eq_true hb]
      exact List.mem_cons_self
    | false =>
      rw [hb] at h
      exact List.mem_cons_of_mem _ (orcL_mem h)
theorem orcL_ok [Tab] {P : Program} {l : List (Nat × (List AV → AS → Option (AV × AS)))} (h : ∀ p ∈ l, OneOK P p.1 p.2) : CallOK P fun f args s => match orcL l f with | some g => g args s | none => none := by
  refine ⟨fun f args s r he => ?_, fun f args s v s' he => ?_, fun f args s u s' he => ?_⟩
  · split at he
    · rename_i g hg
      exact (h _ (orcL_mem hg)).fn
    · cases he
  · split at he
    · rename_i g hg
      exact (h _ (orcL_mem hg)).calls args s v s' he
    · cases he
  · split at he
    · rename_i g hg
      exact (h _ (orcL_mem hg)).pans args s u s' he
    · cases he
theorem HR.below [Tab] {E : AEnv} {g : Nat → AB} {w w' : World} (h : HR E g w) (hb : Below w.heap.size w w') : HR E g w' :=
  ⟨⟨fun b hg => by
    obtain ⟨q1, q2, o, q3, q4⟩ := h.at_ b hg
    exact ⟨q1, q2, o, by rw [hb.block _ ((Array.getElem?_eq_some_iff.1 q3).1)]; exact q3, q4⟩, h.inj⟩, h.tab.trans (hb.mono h.tab.size), h.apart⟩
theorem Stp.ofBelow {E : AEnv} {g : Nat → AB} {w w' : World} (hb : Below w.heap.size w w') : Stp E g w E g w' :=
  ⟨hb.os, hb.tape, hb.output, hb.size, AEnv.le.refl E, fun _ _ => rfl, fun d hd _ => hb.block d hd, fun b hg => .inr ⟨b, hg, rfl⟩⟩
/-- A call that hands back a value without blocks. -/
theorem callEnd_below [Tab] {P : Program} {f : Nat} {xs : Array Value} {E : AEnv} {s : AS} {w : World} {v : AV} {y : Value} (h : HR E s.get w) (hv : VR E v y) (hc : Calls P f xs w fun e w' => e = .returned y ∧ Below w.heap.size w w') : Calls P f xs w (CallEnd E s w v s) :=
  hc.mono fun e w' hq => ⟨y, E, hq.1, hv, h.below hq.2, Stp.ofBelow hq.2, Grow.refl _ _⟩
theorem contains_one [Tab] {P : Program} {f : Nat} (hfn : ∃ fn, P.funcs[f]? = some fn ∧ fn.body.isNone = false ∧ (fn.name == "runtime.NumGoroutine") = false)
    (hc : ∀ (s : ByteArray) (c : UInt8) (w : World), Calls P f #[.string s, .string ⟨#[c]⟩] w fun e w' => e = .returned (.bool (decide (0 ≤ Lib.indexByte s.data.toList c))) ∧ w' = w) : OneOK P f containsA := by
  refine ⟨hfn, fun args s v s' he _ E w xs h hf hv => ?_, fun args s u s' he => ?_⟩
  · unfold containsA at he
    split at he
    · rename_i l c
      injection he with he
      injection he with e1 e2
      subst e1
      subst e2
      match hx : xs.toList, hv with
      | [x, y], hv =>
        have h1 := hv.head
        have h2 := hv.tail.head
        cases h1
        cases h2
        have e : xs = #[.string ⟨l.toArray⟩, .string ⟨#[c]⟩] := by apply Array.ext'; rw [hx]
        rw [e]
        exact callEnd_below h (by rw [memB_eq]; exact .bool _) ((hc ⟨l.toArray⟩ c w).mono fun e w' hq => ⟨hq.1, by rw [hq.2]; exact Below.refl _ _⟩)
      | [], hv => have := hv.len; simp at this
      | [_], hv => have := hv.len; simp at this
      | _ :: _ :: _ :: _, hv => have := hv.len; simp at this
    · cases he
  · unfold containsA at he
    split at he <;> cases he
end Go.Proofs.YtambgppdjlhdaaaGreatDoor
