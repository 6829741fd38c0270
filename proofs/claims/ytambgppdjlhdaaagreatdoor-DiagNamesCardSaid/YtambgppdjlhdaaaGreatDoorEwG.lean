/-
  The abstract machine at the program: library functions by their contracts, over the laid tables: strings.Fields, utf8.ValidString, strconv.Itoa.
-/
import Derived.Test.YtambgppdjlhdaaaGreatDoorEwB
import Derived.Test.YtambgppdjlhdaaaGreatDoorShelf
import Derived.Lib.LaidTab
import Derived.Lib.ItoaNum
import Derived.Lib.Fields
namespace Go.Proofs.YtambgppdjlhdaaaGreatDoor
open Go.RowKit

theorem tab_at {w w' : World} {nm : String} {k : IntKind} {zs : List Int} {g : Nat} (hg : Tryz.prog.globalNamed nm = some g) (h1 : Lib.TabIs Tryz.prog w nm k zs) (hb : Below w.heap.size w w') : Lib.TabIs Tryz.prog w' nm k zs := by
  have hlt : g < w.heap.size := by
    rcases Nat.lt_or_ge g w.heap.size with h' | h'
    · exact h'
    · unfold Lib.TabIs World.var? at h1
      rw [hg] at h1
      simp only [Option.bind_some, Array.getElem?_eq_none h'] at h1
      cases h1
  unfold Lib.TabIs World.var? at h1 ⊢
  rw [hg] at h1 ⊢
  simp only [Option.bind_some] at h1 ⊢
  rw [hb.block _ hlt]
  exact h1
/-- What the calls ask of memory. -/
def EnvQ (w : World) : Prop := Lib.TabIs Tryz.prog w "internal/strconv.uint64pow10" .u64 Lib.pow10Tab ∧ Lib.TabIs Tryz.prog w "strings.asciiSpace" .u8 Lib.asciiSpaceTab ∧ Lib.Utf8Tabs 0 1 w
theorem EnvQ.at {w w' : World} {B : Nat} (h : EnvQ w) (hB : w.heap.size ≤ B) (hb0 : Below B w w') : EnvQ w' := by
  have hb : Below w.heap.size w w' := hb0.mono hB
  obtain ⟨h0, h1, h2, h3⟩ := h
  exact ⟨tab_at (g := 3) (by kernel_rfl) h0 hb, tab_at (g := 2) (by kernel_rfl) h1 hb, fun c hc => (hb.cell (World.block_lt_of_cell? w _ (h2 c hc))).trans (h2 c hc),
    fun i hi => ⟨(hb.cell (World.block_lt_of_cell? w _ (h3 i hi).1)).trans (h3 i hi).1, (hb.cell (World.block_lt_of_cell? w _ (h3 i hi).2)).trans (h3 i hi).2⟩⟩
theorem envOf [Tab] (hT : EnvQ Tab.w0) {E : AEnv} {g : Nat → AB} {w : World} (h : HR E g w) : EnvQ w := hT.at (Nat.le_refl _) h.tab
theorem one_arg {E : AEnv} {a : AV} {xs : Array Value} (hv : VL E [a] xs.toList) : ∃ x, xs = #[x] ∧ VR E a x := by
  match hx : xs.toList, hv with
  | [x], hv => exact ⟨x, by apply Array.ext'; rw [hx], hv.head⟩
  | [], hv => have := hv.len; simp at this
  | _ :: _ :: _, hv => have := hv.len; simp at this
theorem two_arg {E : AEnv} {a b : AV} {xs : Array Value} (hv : VL E [a, b] xs.toList) : ∃ x y, xs = #[x, y] ∧ VR E a x ∧ VR E b y := by
  match hx : xs.toList, hv with
  | [x, y], hv => exact ⟨x, y, by apply Array.ext'; rw [hx], hv.head, hv.tail.head⟩
  | [], hv => have := hv.len; simp at this
  | [_], hv => have := hv.len; simp at this
  | _ :: _ :: _ :: _, hv => have := hv.len; simp at this
/-- Whole numbers as texts. -/
noncomputable def decF : Nat → Nat → List UInt8
  | 0, u => [UInt8.ofNat (48 + u)]
  | f + 1, u => cond (Nat.ble u 9) [UInt8.ofNat (48 + u)] (decF f (u / 10) ++ [UInt8.ofNat (48 + u % 10)])
theorem decF_eq [Tab] : ∀ (f u : Nat), u < 10 ^ (f + 1) → decF f u = Lib.decDigits u
  | 0, u, h => by
    rw [Lib.decDigits, dif_pos (by omega)]
    rfl
  | f + 1, u, h => by
    rw [Lib.decDigits]
    unfold decF
    by_cases h9 : u < 10
    · rw [dif_pos h9, Nat.ble_eq_true_of_le (by omega)]
      rfl
    · rw [dif_neg h9, show Nat.ble u 9 = false from by rw [Bool.eq_false_iff]; exact fun e => h9 (by have := Nat.le_of_ble_eq_true e; omega)]
      show decF f (u / 10) ++ _ = _
      rw [decF_eq f (u / 10) (by rw [Nat.pow_succ] at h; omega)]
noncomputable def itoaQ (n : Int) : List UInt8 := match n with
  | .ofNat m => decF 20 m
  | .negSucc m => 45 :: decF 20 (m + 1)
theorem itoaQ_eq [Tab] {n : Int} (h0 : -9223372036854775808 ≤ n) (h1 : n ≤ 9223372036854775807) : itoaQ n = Lib.itoa n := by
  unfold Lib.itoa
  cases n with
  | ofNat m =>
    rw [if_neg (by simp)]
    exact decF_eq 20 m (by have h1 : (m : Int) ≤ 9223372036854775807 := h1; omega)
  | negSucc m =>
    rw [if_pos (Int.negSucc_lt_zero m)]
    show 45 :: decF 20 (m + 1) = _
    rw [decF_eq 20 (m + 1) (by omega)]
    rfl
noncomputable def rangeB (n : Int) : Bool := decide (-9223372036854775808 ≤ n) && decide (n ≤ 9223372036854775807)
theorem rangeB_ok {n : Int} (h : rangeB n = true) : -9223372036854775808 ≤ n ∧ n ≤ 9223372036854775807 := by
  unfold rangeB at h
  rw [Bool.and_eq_true, decide_eq_true_iff, decide_eq_true_iff] at h
  exact h
noncomputable def itoaA (args : List AV) (s : AS) : Option (AV × AS) := match args with
  | [.int .i64 n] => cond (rangeB n) (some (.str (itoaQ n), s)) none
  | _ => none
theorem grow_bel (w : World) (k : Nat) (os : Array Obj) : Below w.heap.size w (Sort.grow (w.drewN k) os) := by
  refine ⟨rfl, rfl, rfl, ?_, fun i hi => ?_⟩
  · show w.heap.size ≤ (w.heap ++ os).size
    rw [Array.size_append]; omega
  · show (w.heap ++ os)[i]? = _
    rw [Array.getElem?_append_left hi]
theorem itoaA_ok [Tab] (hT : EnvQ Tab.w0) : OneOK Tryz.prog 69 itoaA := by
  refine ⟨⟨_, Tryz.func69, by rfl, by rfl⟩, fun args s v s' he _ E w xs h hf hv => ?_, fun args s u s' he => ?_⟩
  · unfold itoaA at he
    split at he
    · rename_i n
      cases hr : rangeB n with
      | false => rw [hr] at he; cases he
      | true =>
        rw [hr] at he
        injection he with he
        injection he with e1 e2
        subst e1
        subst e2
        obtain ⟨x, rfl, hx⟩ := one_arg hv
        cases hx
        obtain ⟨h0, h1⟩ := rangeB_ok hr
        refine callEnd_below h (.str _) ((Tryz.strconv_Itoa n h0 h1 w (envOf hT h).1).mono fun e w' hq => ?_)
        obtain ⟨he, k, os, hw⟩ := hq
        rw [itoaQ_eq h0 h1, hw]
        exact ⟨he, grow_bel w k os⟩
    · cases he
  · unfold itoaA at he
    split at he
    · exact absurd he (by cases rangeB _ <;> (intro e; cases e))
    · cases he
/-- strings.Fields, of ASCII bytes. -/
noncomputable def asciiB : List UInt8 → Bool
  | [] => true
  | b :: l => cond (Nat.ble b.toNat 127) (asciiB l) false
theorem asciiB_ok [Tab] : ∀ {l : List UInt8}, asciiB l = true → ∀ (j : Nat) (b : UInt8), l[j]? = some b → b.toNat < 128
  | [], _, j, b, h => by simp at h
  | c :: l, h, j, b, hj => by
    unfold asciiB at h
    cases hc : Nat.ble c.toNat 127 with
    | false => rw [hc] at h; cases h
    | true =>
      rw [hc] at h
      cases j with
      | zero =>
        simp at hj
        subst hj
        have := Nat.le_of_ble_eq_true hc
        omega
      | succ j => exact asciiB_ok (l := l) h j b (by simpa using hj)
noncomputable def strsA : List (List UInt8) → List AV
  | [] => []
  | l :: r => .str l :: strsA r
theorem strsA_ok [Tab] (E : AEnv) : ∀ r : List (List UInt8), VL E (strsA r) (r.map fun l => Value.string ⟨l.toArray⟩)
  | [] => VL.nil
  | l :: r => VL.cons (.str l) (strsA_ok E r)
noncomputable def fieldsA (args : List AV) (s : AS) : Option (AV × AS) := match args with
  | [.str l] => cond (asciiB l) (cond (Nat.ble l.length 1000000) (cond (Nat.ble (Nat.succ s.n) 1000000000) (some (.sl s.n 0 (Lib.fields l).length (Lib.fields l).length, s.new (.cells (strsA (Lib.fields l)) 9))) none) none) none
  | _ => none
theorem fieldsA_ok [Tab] (hT : EnvQ Tab.w0) : OneOK Tryz.prog 202 fieldsA := by
  refine ⟨⟨_, Tryz.func202, by rfl, by rfl⟩, fun args s v s' he _ E w xs h hf hv => ?_, fun args s u s' he => ?_⟩
  · unfold fieldsA at he
    split at he
    · rename_i l
      cases hr : asciiB l with
      | false => rw [hr] at he; cases he
      | true =>
      cases hr2 : Nat.ble l.length 1000000 with
      | false => rw [hr, hr2] at he; cases he
      | true =>
      cases hr3 : Nat.ble (Nat.succ s.n) 1000000000 with
      | false => rw [hr, hr2, hr3] at he; cases he
      | true =>
        rw [hr, hr2, hr3] at he
        injection he with he
        injection he with e1 e2
        subst e1
        subst e2
        obtain ⟨x, rfl, hx⟩ := one_arg hv
        cases hx
        have hn : l.length ≤ 1000000 := Nat.le_of_ble_eq_true hr2
        have hl : s.n < 1000000000 := Nat.le_of_ble_eq_true hr3
        have hi : ¬ E.ok s.n := fun h => Nat.lt_irrefl _ (hf _ h)
        refine (Tryz.strings_Fields ⟨l.toArray⟩ w (by show l.toArray.size < _; simp; omega) (fun j b hb => asciiB_ok hr j b (by simpa using hb)) (envOf hT h).2.1).mono fun e w' hq => ?_
        obtain ⟨he, hw⟩ := hq
        have hs : VL E (strsA (Lib.fields l)) ((((Lib.fields l).map fun l => Value.string ⟨l.toArray⟩).toArray).toList) := by
          simpa using strsA_ok E (Lib.fields l)
        have hlen := hs.len
        obtain ⟨r1, r2⟩ := h.newCells (cs := strsA (Lib.fields l)) (c := ((Lib.fields l).map fun l => Value.string ⟨l.toArray⟩).toArray) (ty := 9) hi hl (by rw [List.take_of_length_le (Nat.le_of_eq hlen.symm)]; exact hs) (by simpa using Nat.le_of_eq hlen) w' (.inl hw)
        refine ⟨_, _, he, ?_, r1, r2, E.grow_more _ _ _⟩
        have := VR.sl (E := E.more s.n w.heap.size (((Lib.fields l).map fun l => Value.string ⟨l.toArray⟩).toArray).size) s.n 0 (Lib.fields l).length (Lib.fields l).length (E.more_ok _ _ _)
        rw [AEnv.more_r] at this
        exact this
    · cases he
  · exfalso
    unfold fieldsA at he
    split at he
    · have h1 := cond_some (cond_some (cond_some he))
      cases h1
    · cases he
noncomputable def validA (args : List AV) (s : AS) : Option (AV × AS) := match args with
  | [.str l] => cond (Nat.ble l.length 1000000) (some (.bool (Lib.validD l), s)) none
  | _ => none
theorem validA_ok [Tab] (hT : EnvQ Tab.w0) : OneOK Tryz.prog 147 validA := by
  refine ⟨⟨_, Tryz.func147, by rfl, by rfl⟩, fun args s v s' he _ E w xs h hf hv => ?_, fun args s u s' he => ?_⟩
  · unfold validA at he
    split at he
    · rename_i l
      cases hr : Nat.ble l.length 1000000 with
      | false => rw [hr] at he; cases he
      | true =>
        rw [hr] at he
        injection he with he
        injection he with e1 e2
        subst e1
        subst e2
        obtain ⟨x, rfl, hx⟩ := one_arg hv
        cases hx
        have hm : l.length ≤ 1000000 := Nat.le_of_ble_eq_true hr
        exact callEnd_below h (.bool _) (Tryz.utf8_ValidString ⟨l.toArray⟩ w (by show l.toArray.size ≤ _; simp; omega) (envOf hT h).2.2)
    · cases he
  · unfold validA at he
    split at he
    · exact absurd he (by cases Nat.ble _ 1000000 <;> (intro e; cases e))
    · cases he
/-- A byte's place in a text. -/
noncomputable def idxF (m : Nat) : List UInt8 → Nat → Int := fun l => List.rec (motive := fun _ => Nat → Int) (fun _ => -1) (fun b _ ih k => Bool.rec (motive := fun _ => Int) (ih (Nat.succ k)) (Int.ofNat k) (Nat.beq b.toNat m)) l
theorem idxF_eq [Tab] (c : UInt8) : ∀ (l : List UInt8) (k : Nat), idxF c.toNat l k = if Lib.indexByte l c = -1 then -1 else Lib.indexByte l c + k
  | [], k => rfl
  | b :: l, k => by
    have ih := idxF_eq c l (k + 1)
    have hge := Lib.indexByte_ge l c
    show Bool.rec (motive := fun _ => Int) (idxF c.toNat l (k + 1)) (Int.ofNat k) (Nat.beq b.toNat c.toNat) = _
    by_cases h : b = c
    · subst h
      have e : Lib.indexByte (b :: l) b = 0 := by simp [Lib.indexByte]
      rw [e, show Nat.beq b.toNat b.toNat = true from Nat.beq_refl _]
      simp
    · have e : Lib.indexByte (b :: l) c = if Lib.indexByte l c = -1 then -1 else Lib.indexByte l c + 1 := by simp [Lib.indexByte, h]
      rw [e, show Nat.beq b.toNat c.toNat = false from by rw [Bool.eq_false_iff]; exact fun e => h (UInt8.toNat_inj.1 (Nat.eq_of_beq_eq_true e))]
      show idxF c.toNat l (k + 1) = _
      rw [ih]
      by_cases h2 : Lib.indexByte l c = -1
      · rw [if_pos h2, if_pos h2]; rfl
      · rw [if_neg h2, if_neg h2, if_neg (by omega)]
        omega
noncomputable def indexByteA (args : List AV) (s : AS) : Option (AV × AS) := match args with
  | [.str l, .int .u8 (.ofNat m)] => cond (Nat.ble m 255) (some (.int .i64 (idxF m l 0), s)) none
  | _ => none
theorem indexByteA_ok [Tab] : OneOK Tryz.prog 152 indexByteA := by
  refine ⟨⟨_, Tryz.func152, by rfl, by rfl⟩, fun args s v s' he _ E w xs h hf hv => ?_, fun args s u s' he => ?_⟩
  · unfold indexByteA at he
    split at he
    · rename_i l m
      cases hr : Nat.ble m 255 with
      | false => rw [hr] at he; cases he
      | true =>
        rw [hr] at he
        injection he with he
        injection he with e1 e2
        subst e1
        subst e2
        obtain ⟨x, y, rfl, hx, hy⟩ := two_arg hv
        cases hx
        cases hy
        have hm : m ≤ 255 := Nat.le_of_ble_eq_true hr
        have hc : ((Int.ofNat m).toNat.toUInt8).toNat = m := by
          show (UInt8.ofNat m).toNat = m
          rw [UInt8.toNat_ofNat']; omega
        have hi := idxF_eq ((Int.ofNat m).toNat.toUInt8) l 0
        rw [hc] at hi
        refine callEnd_below h (.int _ _) ((Tryz.strings_IndexByte ⟨l.toArray⟩ (Int.ofNat m) w).mono fun e w' hq => ?_)
        refine ⟨?_, by rw [hq.2]; exact Below.refl _ _⟩
        rw [hq.1, hi]
        show Ending.returned (.int .i64 (Lib.indexByte l (Int.ofNat m).toNat.toUInt8)) = _
        congr 2
        split
        · rename_i h3; exact h3
        · simp
    · cases he
  · unfold indexByteA at he
    split at he
    · exact absurd he (by cases Nat.ble _ 255 <;> (intro e; cases e))
    · cases he
/-- The library's functions. -/
noncomputable def orcB0 : List (Nat × (List AV → AS → Option (AV × AS))) := [(202, fieldsA), (180, copyCheckA 219), (127, stringA), (147, validA), (69, itoaA), (152, indexByteA)]
theorem orcB0_ok [Tab] (hT : EnvQ Tab.w0) : ∀ p ∈ orcB0, OneOK Tryz.prog p.1 p.2 :=
  List.forall_mem_cons.2 ⟨fieldsA_ok hT, List.forall_mem_cons.2 ⟨copyCheckA_ok, List.forall_mem_cons.2 ⟨stringA_ok, List.forall_mem_cons.2 ⟨validA_ok hT, List.forall_mem_cons.2 ⟨itoaA_ok hT, List.forall_mem_cons.2 ⟨indexByteA_ok, fun _ h => nomatch h⟩⟩⟩⟩⟩⟩
end Go.Proofs.YtambgppdjlhdaaaGreatDoor
