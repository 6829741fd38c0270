/-
  The abstract machine at the program: library functions by their contracts, over the laid tables: strings.Fields, utf8.ValidString.
-/
import Derived.Test.YtbnpifafgadjgaaGreatDoorEwB
import Derived.Test.YtbnpifafgadjgaaGreatDoorShelf
import Derived.Lib.LaidTab
import Derived.Lib.Fields
namespace Go.Proofs.YtbnpifafgadjgaaGreatDoor
open Go.RowKit

/-- What the calls ask of memory. -/
def EnvQ (w : World) : Prop := Lib.TabIs Tryz.prog w "strings.asciiSpace" .u8 Lib.asciiSpaceTab ∧ Lib.Utf8Tabs 0 1 w
theorem EnvQ.at {w w' : World} {B : Nat} (h : EnvQ w) (hB : w.heap.size ≤ B) (hb0 : Below B w w') : EnvQ w' := by
  have hb : Below w.heap.size w w' := hb0.mono hB
  obtain ⟨h1, h2, h3⟩ := h
  refine ⟨?_, fun c hc => (hb.cell (World.block_lt_of_cell? w _ (h2 c hc))).trans (h2 c hc),
    fun i hi => ⟨(hb.cell (World.block_lt_of_cell? w _ (h3 i hi).1)).trans (h3 i hi).1, (hb.cell (World.block_lt_of_cell? w _ (h3 i hi).2)).trans (h3 i hi).2⟩⟩
  have hg : Tryz.prog.globalNamed "strings.asciiSpace" = some 2 := by kernel_rfl
  have hlt : 2 < w.heap.size := by
    rcases Nat.lt_or_ge 2 w.heap.size with h' | h'
    · exact h'
    · unfold Lib.TabIs World.var? at h1
      rw [hg] at h1
      simp only [Option.bind_some, Array.getElem?_eq_none h'] at h1
      cases h1
  unfold Lib.TabIs World.var? at h1 ⊢
  rw [hg] at h1 ⊢
  simp only [Option.bind_some] at h1 ⊢
  rw [hb.block _ hlt]
  exact h1
theorem envOf [Tab] (hT : EnvQ Tab.w0) {E : AEnv} {g : Nat → AB} {w : World} (h : HR E g w) : EnvQ w := hT.at (Nat.le_refl _) h.tab
theorem one_arg {E : AEnv} {a : AV} {xs : Array Value} (hv : VL E [a] xs.toList) : ∃ x, xs = #[x] ∧ VR E a x := by
  match hx : xs.toList, hv with
  | [x], hv => exact ⟨x, by apply Array.ext'; rw [hx], hv.head⟩
  | [], hv => have := hv.len; simp at this
  | _ :: _ :: _, hv => have := hv.len; simp at this
theorem two_arg {E : AEnv} {a b : AV} {xs : Array Value} (hv : VL E [a, b] xs.toList) : ∃ x y, xs = #[x, y] ∧ VR E a x ∧ VR E b y := by
  match hx : xs.toList, hv with
  | [x, y], hv => exact ⟨x, y, by apply Array.ext'; rw [hx], hv.head, hv.tail.head⟩
  | [], hv => have := hv.len; simp at this
  | [_], hv => have := hv.len; simp at this
  | _ :: _ :: _ :: _, hv => have := hv.len; simp at this
/-- strings.Fields, of ASCII bytes. -/
noncomputable def asciiB : List UInt8 → Bool
  | [] => true
  | b :: l => cond (Nat.ble b.toNat 127) (asciiB l) false
theorem asciiB_ok [Tab] : ∀ {l : List UInt8}, asciiB l = true → ∀ (j : Nat) (b : UInt8), l[j]? = some b → b.toNat < 128
  | [], _, j, b, h => by simp at h
  | c :: l, h, j, b, hj => by
    unfold asciiB at h
    cases hc : Nat.ble c.toNat 127 with
    | false => rw [hc] at h; cases h
    | true =>
      rw [hc] at h
      cases j with
      | zero =>
        simp at hj
        subst hj
        have := Nat.le_of_ble_eq_true hc
        omega
      | succ j => exact asciiB_ok (l := l) h j b (by simpa using hj)
noncomputable def strsA : List (List UInt8) → List AV
  | [] => []
  | l :: r => .str l :: strsA r
theorem strsA_ok [Tab] (E : AEnv) : ∀ r : List (List UInt8), VL E (strsA r) (r.map fun l => Value.string ⟨l.toArray⟩)
  | [] => VL.nil
  | l :: r => VL.cons (.str l) (strsA_ok E r)
noncomputable def fieldsA (args : List AV) (s : AS) : Option (AV × AS) := match args with
  | [.str l] => cond (asciiB l) (cond (Nat.ble l.length 1000000) (cond (Nat.ble (Nat.succ s.n) 1000000000) (some (.sl s.n 0 (Lib.fields l).length (Lib.fields l).length, s.new (.cells (strsA (Lib.fields l)) 9))) none) none) none
  | _ => none
theorem fieldsA_ok [Tab] (hT : EnvQ Tab.w0) : OneOK Tryz.prog 138 fieldsA := by
  refine ⟨⟨_, Tryz.func138, by rfl, by rfl⟩, fun args s v s' he _ E w xs h hf hv => ?_, fun args s u s' he => ?_⟩
  · unfold fieldsA at he
    split at he
    · rename_i l
      cases hr : asciiB l with
      | false => rw [hr] at he; cases he
      | true =>
      cases hr2 : Nat.ble l.length 1000000 with
      | false => rw [hr, hr2] at he; cases he
      | true =>
      cases hr3 : Nat.ble (Nat.succ s.n) 1000000000 with
      | false => rw [hr, hr2, hr3] at he; cases he
      | true =>
        rw [hr, hr2, hr3] at he
        injection he with he
        injection he with e1 e2
        subst e1
        subst e2
        obtain ⟨x, rfl, hx⟩ := one_arg hv
        cases hx
        have hn : l.length ≤ 1000000 := Nat.le_of_ble_eq_true hr2
        have hl : s.n < 1000000000 := Nat.le_of_ble_eq_true hr3
        have hi : ¬ E.ok s.n := fun h => Nat.lt_irrefl _ (hf _ h)
        refine (Tryz.strings_Fields ⟨l.toArray⟩ w (by show l.toArray.size < _; simp; omega) (fun j b hb => asciiB_ok hr j b (by simpa using hb)) (envOf hT h).1).mono fun e w' hq => ?_
        obtain ⟨he, hw⟩ := hq
        have hs : VL E (strsA (Lib.fields l)) ((((Lib.fields l).map fun l => Value.string ⟨l.toArray⟩).toArray).toList) := by
          simpa using strsA_ok E (Lib.fields l)
        have hlen := hs.len
        obtain ⟨r1, r2⟩ := h.newCells (cs := strsA (Lib.fields l)) (c := ((Lib.fields l).map fun l => Value.string ⟨l.toArray⟩).toArray) (ty := 9) hi hl (by rw [List.take_of_length_le (Nat.le_of_eq hlen.symm)]; exact hs) (by simpa using Nat.le_of_eq hlen) w' (.inl hw)
        refine ⟨_, _, he, ?_, r1, r2, E.grow_more _ _ _⟩
        have := VR.sl (E := E.more s.n w.heap.size (((Lib.fields l).map fun l => Value.string ⟨l.toArray⟩).toArray).size) s.n 0 (Lib.fields l).length (Lib.fields l).length (E.more_ok _ _ _)
        rw [AEnv.more_r] at this
        exact this
    · cases he
  · exfalso
    unfold fieldsA at he
    split at he
    · have h1 := cond_some (cond_some (cond_some he))
      cases h1
    · cases he
noncomputable def validA (args : List AV) (s : AS) : Option (AV × AS) := match args with
  | [.str l] => cond (Nat.ble l.length 1000000) (some (.bool (Lib.validD l), s)) none
  | _ => none
theorem validA_ok [Tab] (hT : EnvQ Tab.w0) : OneOK Tryz.prog 97 validA := by
  refine ⟨⟨_, Tryz.func97, by rfl, by rfl⟩, fun args s v s' he _ E w xs h hf hv => ?_, fun args s u s' he => ?_⟩
  · unfold validA at he
    split at he
    · rename_i l
      cases hr : Nat.ble l.length 1000000 with
      | false => rw [hr] at he; cases he
      | true =>
        rw [hr] at he
        injection he with he
        injection he with e1 e2
        subst e1
        subst e2
        obtain ⟨x, rfl, hx⟩ := one_arg hv
        cases hx
        have hm : l.length ≤ 1000000 := Nat.le_of_ble_eq_true hr
        exact callEnd_below h (.bool _) (Tryz.utf8_ValidString ⟨l.toArray⟩ w (by show l.toArray.size ≤ _; simp; omega) (envOf hT h).2)
    · cases he
  · unfold validA at he
    split at he
    · exact absurd he (by cases Nat.ble _ 1000000 <;> (intro e; cases e))
    · cases he
/-- The library's functions. -/
noncomputable def orcB : List (Nat × (List AV → AS → Option (AV × AS))) := [(138, fieldsA), (75, copyCheckA 118), (47, stringA), (97, validA)]
theorem orcB_ok [Tab] (hT : EnvQ Tab.w0) : ∀ p ∈ orcB, OneOK Tryz.prog p.1 p.2 :=
  List.forall_mem_cons.2 ⟨fieldsA_ok hT, List.forall_mem_cons.2 ⟨copyCheckA_ok, List.forall_mem_cons.2 ⟨stringA_ok, List.forall_mem_cons.2 ⟨validA_ok hT, fun _ h => nomatch h⟩⟩⟩⟩
end Go.Proofs.YtbnpifafgadjgaaGreatDoor
