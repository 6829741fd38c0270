/-
  The walk of lsp.Caps.
-/
import Derived.Test.YtlnkjacbdolhnaaGreatDoorLwG
import Derived.Test.YtlnkjacbdolhnaaGreatDoorM14
namespace Go.Proofs.YtlnkjacbdolhnaaGreatDoor
open Go.RowKit

def capNames : List ByteArray := [⟨#[100, 105, 97, 103, 110, 111, 115, 116, 105, 99]⟩, ⟨#[100, 101, 102, 105, 110, 105, 116, 105, 111, 110]⟩, ⟨#[102, 111, 114, 109, 97, 116, 116, 105, 110, 103]⟩, ⟨#[104, 111, 118, 101, 114]⟩, ⟨#[114, 101, 110, 97, 109, 101]⟩]
def lSync : ByteArray := ⟨#[115, 121, 110, 99]⟩
def lCapabilities : ByteArray := ⟨#[99, 97, 112, 97, 98, 105, 108, 105, 116, 105, 101, 115]⟩
def trueJ : Jsn := ⟨2, ⟨#[]⟩, [], []⟩
def capsIn : Jsn := mkO (capNames ++ [lSync]) [trueJ, trueJ, trueJ, trueJ, trueJ, numJ 2]
def capsJ : Jsn := mkO [lCapabilities] [capsIn]
def namedCells (nm : ByteArray) (x : Jsn) (xn xl : Value) : List Value := [.string nm, .int .u8 x.kind, .string x.text, xn, xl]
def namedRow (ns : List ByteArray) : List Value := ns.flatMap fun nm => namedCells nm trueJ (.slice none 0 0) (.slice none 0 0)
/-- A row's cells. -/
theorem row_cells {w : World} {B k n : Nat} {t : TypeId} {v : Value} {xs : List Value} (h : w.ownsRow B t k v n xs) (hn : 0 < n) : ∃ g cap, v = .slice (some ⟨g, 0, none⟩) n cap ∧ B ≤ g ∧ g < w.heap.size ∧ ∀ (i : Nat) u, xs[i]? = some u → w.cell? ⟨g, i, none⟩ = some u := by
  rcases h.2 with ⟨_, hz⟩ | ⟨g, cap, cur, e, h1, h2, h3, h4, h5, h6⟩
  · omega
  · refine ⟨g, cap, e, h1, (Array.getElem?_eq_some_iff.1 h2).1, fun i u hu => ?_⟩
    rw [(show Cel w g t cur from h2).cell]
    rw [← h6, List.getElem?_take] at hu
    split at hu
    · rw [← Array.getElem?_toList]; exact hu
    · cases hu
end Go.Proofs.YtlnkjacbdolhnaaGreatDoor


/-
  The document's objects: rows that lie in blocks of their own, read only; the walk of rostrumref08.Obj.
-/
namespace Go.Proofs.YtlnkjacbdolhnaaGreatDoor
open Go.RowKit

/-- How a call ends that hands a value that is only read. -/
def JvEnd (j : Jsn) (w : World) (e : Ending) (w' : World) : Prop := ∃ vn vl, e = .returned (.agg #[.int .u8 j.kind, .string j.text, vn, vl]) ∧ JV w' (fun k => w.heap.size ≤ k) j vn vl ∧ Below w.heap.size w w'
theorem encRow_at : ∀ (zs : List JE) (i : Nat) (z : JE), zs[i]? = some z → ∀ (q : Nat) (v : Value), (encJ z)[q]? = some v → (zs.flatMap encJ)[i * 4 + q]? = some v
  | [], _, _, h, _, _, _ => by simp at h
  | y :: zs, 0, z, h1, q, v, h3 => by
    simp at h1; subst h1
    have hq : q < (encJ y).length := (List.getElem?_eq_some_iff.1 h3).1
    rw [List.flatMap_cons, Nat.zero_mul, Nat.zero_add, List.getElem?_append_left hq]
    exact h3
  | y :: zs, i + 1, z, h1, q, v, h3 => by
    have := encRow_at zs i z (by simpa using h1) q v h3
    rw [List.flatMap_cons, List.getElem?_append_right (by show 4 ≤ _; omega)]
    show (zs.flatMap encJ)[(i + 1) * 4 + q - 4]? = some v
    rw [show (i + 1) * 4 + q - 4 = i * 4 + q by omega]
    exact this
/-- Names and values, each in a block made for them. -/
theorem jv_rows {w : World} {X : Nat → Prop} {k : Int} {s : ByteArray} {ns : List ByteArray} {zs : List JE} {l : List Jsn} {gn gl cn cl : Nat} (hk0 : 0 ≤ k) (hk1 : k ≤ 255) (hXn : X gn) (hXl : X gl) (hN : Cel w gn 9 (ns.map Value.string).toArray) (hz : zs.map (·.1) = l)
    (h2 : ∀ z ∈ zs, JV w X z.1 z.2.1 z.2.2) (hL : Cel w gl 25 (zs.flatMap encJ).toArray) :
    JV w X ⟨k, s, ns, l⟩ (.slice (some ⟨gn, 0, none⟩) ns.length cn) (.slice (some ⟨gl, 0, none⟩) zs.length cl) := by
  refine JV.of_elems hk0 hk1 ⟨_, cn, rfl, fun hp => ⟨gn, 0, rfl, hXn, hN.lt, fun j x hx => ?_⟩⟩ hz h2 fun hp => ⟨gl, 0, rfl, hXl, hL.lt, fun j z hj i u hu => ?_⟩
  · rw [Nat.zero_add, hN.cell, List.getElem?_toArray, List.getElem?_map, hx]; rfl
  · rw [Nat.zero_add, hL.cell, List.getElem?_toArray]; exact encRow_at zs j z hj i u hu
set_option maxHeartbeats 2000000 in
theorem refObj8_any (w : World) (An : Option Addr) (nn cn : Nat) (Al : Option Addr) (nl cl : Nat) :
    Calls Tryz.prog 61 #[.slice An nn cn, .slice Al nl cl] w fun e w' => e = .returned (.agg #[.int .u8 7, .string ⟨#[]⟩, .slice An nn cn, .slice Al nl cl]) ∧ Below w.heap.size w w' := by
  go_enter Tryz.func61, Tryz.ntmps61
  obtain ⟨dj, hd1, hd2⟩ := jsnDesc
  replace hd1 := Lib.hid hd1
  replace hd2 := Lib.hid hd2
  go_wp2
  exact bodyPost_ret (results_cel1 Tryz.results61 _ _ _ _ _ dj rfl (Cel.fresh w 25 _) hd1.out hd2.out jsnInfo) rfl ⟨rfl, (Below.refl _ _).alloc (Nat.le_refl _) _⟩
end Go.Proofs.YtlnkjacbdolhnaaGreatDoor


/-
  A region that draws its order, by what is known of the operations that came up: shown once for each operation, whatever came up before. No program.
-/
namespace Go.Proofs.YtlnkjacbdolhnaaGreatDoor

theorem count_set : ∀ (l : List Bool) (i : Nat), l[i]? = some false → (l.set i true).count false + 1 = l.count false
  | [], _, h => by simp at h
  | b :: l, 0, h => by
    simp at h; subst h
    simp
  | b :: l, i + 1, h => by
    have := count_set l i (by simpa using h)
    rw [List.set_cons_succ, List.count_cons, List.count_cons]
    omega
section
variable {P : Program} {ops : Array Oper} {Q : Exit → Act → World → Prop} {md : Region.Mode}
/-- What is known (I) is kept by each operation that may come up; at the end it suffices. -/
theorem wpAny_inv (I : Array Bool → Act → World → Prop) (hstep : ∀ listed a w i, I listed a w → i ∈ Region.ready md ops listed → wpOp P ops Q i (I (listed.setIfInBounds i true)) a w)
    (hend : ∀ listed a w, I listed a w → Region.ready md ops listed = [] → Q .normal a w) :
    ∀ (fuel : Nat) (listed : Array Bool) (a : Act) (w : World), listed.toList.count false ≤ fuel → I listed a w → wpAny P md ops Q fuel listed a w := by
  intro fuel
  induction fuel with
  | zero =>
    intro listed a w hc hI
    have hr : Region.ready md ops listed = [] := by
      rcases h : Region.ready md ops listed with _ | ⟨i, rs⟩
      · rfl
      · exfalso
        have hi : i ∈ Region.ready md ops listed := by rw [h]; exact List.mem_cons_self
        have h1 := (mem_ready.1 hi).1
        have h2 : listed[i]? = some false := by
          rw [Array.getD_eq_getD_getElem?] at h1
          rcases h3 : listed[i]? with _ | b
          · rw [h3] at h1; simp at h1
          · rw [h3] at h1; simp at h1; rw [h1]
        have := count_set listed.toList i (by rw [Array.getElem?_toList]; exact h2)
        omega
    exact ⟨hr, hend listed a w hI hr⟩
  | succ fuel ih =>
    intro listed a w hc hI
    refine ⟨fun hr => hend listed a w hI hr, fun i hi => wpOp_mono (fun a' w' hI' => ih _ a' w' ?_ hI') (hstep listed a w i hI hi)⟩
    have h1 := (mem_ready.1 hi).1
    have h2 : listed[i]? = some false := by
      rw [Array.getD_eq_getD_getElem?] at h1
      rcases h3 : listed[i]? with _ | b
      · rw [h3] at h1; simp at h1
      · rw [h3] at h1; simp at h1; rw [h1]
    have := count_set listed.toList i (by rw [Array.getElem?_toList]; exact h2)
    rw [Array.toList_setIfInBounds]
    omega
/-- A region that draws: from what is known when nothing has come up. -/
theorem wp_region_inv {id : Nat} {a : Act} {w : World} (I : Array Bool → Act → World → Prop) (hm : P.follows .mixedOrders = true) (h0 : I (Array.replicate ops.size false) a w.drew)
    (hstep : ∀ listed a w i, I listed a w → i ∈ Region.ready .any ops listed → wpOp P ops Q i (I (listed.setIfInBounds i true)) a w)
    (hend : ∀ listed a w, I listed a w → Region.ready .any ops listed = [] → Q .normal a w) : (Code.region id ops true).wp P Q a w :=
  wp_region_any hm (wpAny_inv I hstep hend _ _ _ _ (by simp) h0)
end
section
variable {P : Program} {ops : Array Oper} {Q : Exit → Act → World → Prop}
/-- The value of an operation's slot. -/
def valD (d : Option Tmp) (b : Act) : Value := match d with
  | some t => b.tmps.getD t undef
  | none => undef
theorem valD_put {b : Act} {d e : Option Tmp} {v : Value} (h : ∀ t, d = some t → e ≠ some t) : valD d (b.put e v) = valD d b := by
  cases d with
  | none => rfl
  | some t =>
    cases e with
    | none => rfl
    | some u =>
      have hne : u ≠ t := fun q => h t rfl (by rw [q])
      simp [valD, Act.put, Array.getD_eq_getD_getElem?, Array.getElem?_setIfInBounds_ne hne]
theorem valD_self {b : Act} {t : Tmp} {v : Value} (h : t < b.tmps.size) : valD (some t) (b.put (some t) v) = v := by
  simp [valD, Act.put, Array.getD_eq_getD_getElem?, h]
/-- What is known of a region that draws. -/
structure FactI (ops : Array Oper) (a : Act) (S : World → Prop) (Phi : Nat → Value → World → Prop) (listed : Array Bool) (b : Act) (w : World) : Prop where
  s : S w
  defers : b.defers = a.defers
  size : b.tmps.size = a.tmps.size
  lsize : listed.size = ops.size
  frame : ∀ t, (∀ o ∈ ops, o.dst ≠ some t) → b.tmps.getD t undef = a.tmps.getD t undef
  fact : ∀ i o, ops[i]? = some o → listed.getD i false = true → Phi i (valD o.dst b) w
set_option maxHeartbeats 1000000 in
/-- Each operation shown once. -/
theorem wp_region_facts {id : Nat} {a : Act} {w : World} (S : World → Prop) (Keep : Nat → World → World → Prop) (Phi : Nat → Value → World → Prop) (hm : P.follows .mixedOrders = true) (hS0 : S w.drew)
    (hSk : ∀ i w w', S w → Keep i w w' → S w') (hPk : ∀ i j v w w', j ≠ i → Phi j v w → Keep i w w' → Phi j v w')
    (hg : ∀ o ∈ ops, o.guard = none) (hd : ∀ (i j : Nat) (o o' : Oper) (t : Tmp), ops[i]? = some o → ops[j]? = some o' → o.dst = some t → o'.dst = some t → i = j) (hb : ∀ o ∈ ops, ∀ t, o.dst = some t → t < a.tmps.size)
    (hlow : ∀ (i : Nat) (o : Oper), ops[i]? = some o → ∀ e ∈ o.after, e.on < i)
    (hstep : ∀ (i : Nat) (o : Oper), ops[i]? = some o → ∀ (b : Act) (w : World), S w → b.defers = a.defers → (∀ t, (∀ o ∈ ops, o.dst ≠ some t) → b.tmps.getD t undef = a.tmps.getD t undef) →
      (∀ e ∈ o.after, Region.binds .any e = true → ∀ od, ops[e.on]? = some od → Phi e.on (valD od.dst b) w) → ∀ K : Act → World → Prop, (∀ v w', (o.dst = none → v = undef) → Phi i v w' → Keep i w w' → K (b.put o.dst v) w') → Oper.wp P o b w K Q)
    (hend : ∀ (b : Act) (w : World), S w → b.defers = a.defers → b.tmps.size = a.tmps.size → (∀ t, (∀ o ∈ ops, o.dst ≠ some t) → b.tmps.getD t undef = a.tmps.getD t undef) → (∀ (i : Nat) (o : Oper), ops[i]? = some o → Phi i (valD o.dst b) w) → Q .normal b w) :
    (Code.region id ops true).wp P Q a w := by
  refine wp_region_inv (FactI ops a S Phi) hm ⟨hS0, rfl, rfl, by simp, fun _ _ => rfl, fun i o ho hl => ?_⟩ (fun listed b w i hI hi => ?_) (fun listed b w hI hr => ?_)
  · exfalso
    rw [Array.getD_eq_getD_getElem?, Array.getElem?_replicate] at hl
    split at hl <;> simp at hl
  · obtain ⟨hun, o, ho, hall⟩ := mem_ready.1 hi
    have hom : o ∈ ops := Array.mem_of_getElem? ho
    unfold wpOp
    rw [ho]
    dsimp only
    rw [if_pos (by unfold Region.wanted; rw [hg o hom])]
    refine .inl (hstep i o ho b w hI.s hI.defers hI.frame (fun e he hbnd od hod => hI.fact _ od hod (hall e he hbnd)) _ fun v w' hv hP hK => ?_)
    have hil : i < listed.size := by rw [hI.lsize]; exact (Array.getElem?_eq_some_iff.1 ho).1
    refine ⟨hSk _ _ _ hI.s hK, ?_, ?_, by rw [Array.size_setIfInBounds]; exact hI.lsize, fun t ht => ?_, fun j oj hoj hlj => ?_⟩
    · cases o.dst <;> exact hI.defers
    · cases h : o.dst with
      | none => exact hI.size
      | some t => simp [Act.put]; exact hI.size
    · have := valD_put (b := b) (d := some t) (e := o.dst) (v := v) (fun u hu he => ht o hom (by rw [he]; exact hu.symm ▸ rfl))
      exact this.trans (hI.frame t ht)
    · by_cases hji : j = i
      · subst hji
        rw [ho] at hoj
        injection hoj with hoj
        subst hoj
        cases h : o.dst with
        | none => rw [h] at hv; have := hv rfl; subst this; exact hP
        | some t => rw [valD_self (by rw [hI.size]; exact hb o hom t h)]; exact hP
      · rw [valD_put (fun t ht he => hji (hd j i oj o t hoj ho ht he))]
        refine hPk _ _ _ _ _ hji (hI.fact j oj hoj ?_) hK
        rw [Array.getD_eq_getD_getElem?, Array.getElem?_setIfInBounds_ne (Ne.symm hji)] at hlj
        rw [Array.getD_eq_getD_getElem?]
        exact hlj
  · have hall : ∀ n i o, i < n → ops[i]? = some o → listed.getD i false = true := by
      intro n
      induction n with
      | zero => intro i o hi; omega
      | succ n ih =>
        intro i o hi ho
        rcases hl : listed.getD i true with _ | _
        · exfalso
          have hmem : i ∈ Region.ready .any ops listed := mem_ready.2 ⟨hl, o, ho, fun e he _ => by
            have h1 := hlow i o ho e he
            have h2 : i < ops.size := (Array.getElem?_eq_some_iff.1 ho).1
            exact ih e.on _ (by omega) (Array.getElem?_eq_getElem (by omega))⟩
          rw [hr] at hmem
          cases hmem
        · have h2 : i < listed.size := by rw [hI.lsize]; exact (Array.getElem?_eq_some_iff.1 ho).1
          rw [Array.getD_eq_getD_getElem?, Array.getElem?_eq_getElem h2] at hl ⊢
          exact hl
    exact hend b w hI.s hI.defers hI.size hI.frame fun i o ho => hI.fact i o ho (hall (i + 1) i o (by omega) ho)
end
/-- No guards; slots within n, each written once; each waits for earlier ones alone. -/
def tidyB (ops : Array Oper) (n : Nat) : Bool := (List.range ops.size).all fun i => match ops[i]? with
  | some o => o.guard.isNone && (match o.dst with | some t => decide (t < n) | none => true) && o.after.all (fun e => decide (e.on < i)) &&
    (List.range ops.size).all (fun j => match ops[j]? with | some o' => decide (i = j) || (match o.dst, o'.dst with | some t, some u => !decide (t = u) | _, _ => true) | none => true)
  | none => true
theorem tidy_at {ops : Array Oper} {n : Nat} (h : tidyB ops n = true) (i : Nat) (o : Oper) (ho : ops[i]? = some o) :
    o.guard = none ∧ (∀ t, o.dst = some t → t < n) ∧ (∀ e ∈ o.after, e.on < i) ∧ (∀ (j : Nat) (o' : Oper) (t : Tmp), ops[j]? = some o' → o.dst = some t → o'.dst = some t → i = j) := by
  have hi : i < ops.size := (Array.getElem?_eq_some_iff.1 ho).1
  unfold tidyB at h
  rw [List.all_eq_true] at h
  have := h i (List.mem_range.2 hi)
  rw [ho] at this
  simp only [Bool.and_eq_true] at this
  obtain ⟨⟨⟨h1, h2⟩, h3⟩, h4⟩ := this
  refine ⟨by simpa using h1, fun t ht => ?_, fun e he => ?_, fun j o' t hj h5 h6 => ?_⟩
  · rw [ht] at h2; simpa using h2
  · rw [Array.all_eq_true_iff_forall_mem] at h3
    simpa using h3 e he
  · rw [List.all_eq_true] at h4
    have h7 := h4 j (List.mem_range.2 (Array.getElem?_eq_some_iff.1 hj).1)
    rw [hj] at h7
    dsimp only at h7
    rw [h5, h6] at h7
    simpa using h7
/-- The same, with what must hold of the operations' form as one Bool. -/
theorem wp_region_tidy {P : Program} {ops : Array Oper} {Q : Exit → Act → World → Prop} {id : Nat} {a : Act} {w : World} (S : World → Prop) (Keep : Nat → World → World → Prop) (Phi : Nat → Value → World → Prop) (hm : P.follows .mixedOrders = true) (htd : tidyB ops a.tmps.size = true) (hS0 : S w.drew)
    (hSk : ∀ i w w', S w → Keep i w w' → S w') (hPk : ∀ i j v w w', j ≠ i → Phi j v w → Keep i w w' → Phi j v w')
    (hstep : ∀ (i : Nat) (o : Oper), ops[i]? = some o → ∀ (b : Act) (w : World), S w → b.defers = a.defers → (∀ t, (∀ o ∈ ops, o.dst ≠ some t) → b.tmps.getD t undef = a.tmps.getD t undef) →
      (∀ e ∈ o.after, Region.binds .any e = true → ∀ od, ops[e.on]? = some od → Phi e.on (valD od.dst b) w) → ∀ K : Act → World → Prop, (∀ v w', (o.dst = none → v = undef) → Phi i v w' → Keep i w w' → K (b.put o.dst v) w') → Oper.wp P o b w K Q)
    (hend : ∀ (b : Act) (w : World), S w → b.defers = a.defers → b.tmps.size = a.tmps.size → (∀ t, (∀ o ∈ ops, o.dst ≠ some t) → b.tmps.getD t undef = a.tmps.getD t undef) → (∀ (i : Nat) (o : Oper), ops[i]? = some o → Phi i (valD o.dst b) w) → Q .normal b w) :
    (Code.region id ops true).wp P Q a w :=
  wp_region_facts S Keep Phi hm hS0 hSk hPk (fun o ho => by obtain ⟨i, hi⟩ := Array.mem_iff_getElem?.1 ho; exact (tidy_at htd i o hi).1) (fun i j o o' t h1 h2 h3 h4 => (tidy_at htd i o h1).2.2.2 j o' t h2 h3 h4)
    (fun o ho t ht => by obtain ⟨i, hi⟩ := Array.mem_iff_getElem?.1 ho; exact (tidy_at htd i o hi).2.1 t ht) (fun i o ho => (tidy_at htd i o ho).2.2.1) hstep hend
end Go.Proofs.YtlnkjacbdolhnaaGreatDoor
