/-
  A region that draws its order, each operation shown once: facts over all slots; and what holds until an operation came up. No program.
-/
import Derived.Test.YtlnkjacbdolhnaaGreatDoorM24
import Derived.Test.YtlnkjacbdolhnaaGreatDoorM25
namespace Go.Proofs.YtlnkjacbdolhnaaGreatDoor

/-- Does operation q wait for operation i? -/
def waitB (ops : Array Oper) (q i : Nat) : Bool := match ops[q]? with
  | some o => o.after.any (fun e => decide (e.on = i) && Region.binds .any e)
  | none => false
/-- The slots. -/
def slotF (b : Act) (t : Tmp) : Value := b.tmps.getD t undef
/-- The slots, one of them written. -/
def updF (f : Tmp → Value) (d : Option Tmp) (v : Value) (t : Tmp) : Value := match d with
  | some s => if s = t then v else f t
  | none => f t
theorem slotF_put {b : Act} {d : Option Tmp} {v : Value} (h : ∀ t, d = some t → t < b.tmps.size) : slotF (b.put d v) = updF (slotF b) d v := by
  funext t
  cases d with
  | none => rfl
  | some s =>
    have hs := h s rfl
    by_cases hst : s = t
    · subst hst
      simp [slotF, updF, Act.put, Array.getD_eq_getD_getElem?, hs]
    · simp [slotF, updF, Act.put, Array.getD_eq_getD_getElem?, Array.getElem?_setIfInBounds_ne hst, hst]
/-- A fact's slots are written by no operation that may come behind it. -/
def rdB (ops : Array Oper) (rd : Nat → List Tmp) : Bool := (List.range ops.size).all fun i => match ops[i]? with
  | some o => match o.dst with
    | some t => (List.range ops.size).all fun j => decide (i = j) || waitB ops j i || !(rd j).contains t
    | none => true
  | none => true
theorem rd_at {ops : Array Oper} {rd : Nat → List Tmp} (h : rdB ops rd = true) {i j : Nat} {o : Oper} {t : Tmp} (ho : ops[i]? = some o) (ht : o.dst = some t) (hj : j < ops.size) (hij : j ≠ i) (hw : waitB ops j i = false) : t ∉ rd j := by
  have hi : i < ops.size := (Array.getElem?_eq_some_iff.1 ho).1
  unfold rdB at h
  rw [List.all_eq_true] at h
  have h1 := h i (List.mem_range.2 hi)
  rw [ho] at h1
  dsimp only at h1
  rw [ht] at h1
  dsimp only at h1
  rw [List.all_eq_true] at h1
  have h2 := h1 j (List.mem_range.2 hj)
  rw [hw] at h2
  have h3 : ¬ i = j := fun e => hij e.symm
  simpa [h3] using h2
section
variable {P : Program} {ops : Array Oper} {Q : Exit → Act → World → Prop}
structure FactP (ops : Array Oper) (a : Act) (S : World → Prop) (U : Nat → World → Prop) (Phi : Nat → (Tmp → Value) → World → Prop) (listed : Array Bool) (b : Act) (w : World) : Prop where
  s : S w
  u : ∀ q, q < ops.size → listed.getD q false = false → U q w
  closed : ∀ q i, listed.getD q false = true → waitB ops q i = true → listed.getD i false = true
  defers : b.defers = a.defers
  size : b.tmps.size = a.tmps.size
  lsize : listed.size = ops.size
  frame : ∀ t, (∀ o ∈ ops, o.dst ≠ some t) → b.tmps.getD t undef = a.tmps.getD t undef
  fact : ∀ i, i < ops.size → listed.getD i false = true → Phi i (slotF b) w
theorem wait_lt {q i : Nat} (h : waitB ops q i = true) : q < ops.size := by
  unfold waitB at h
  rcases ho : ops[q]? with _ | o
  · rw [ho] at h; cases h
  · exact (Array.getElem?_eq_some_iff.1 ho).1
theorem wait_edge {q i : Nat} {o : Oper} (ho : ops[q]? = some o) (h : waitB ops q i = true) : ∃ e ∈ o.after, e.on = i ∧ Region.binds .any e = true := by
  unfold waitB at h
  rw [ho] at h
  dsimp only at h
  rw [Array.any_eq_true] at h
  obtain ⟨k, hk, h2⟩ := h
  rw [Bool.and_eq_true] at h2
  exact ⟨_, Array.getElem_mem hk, by simpa using h2.1, h2.2⟩
theorem getD_set {l : Array Bool} {i j : Nat} (h : l.getD j false = true) : (l.setIfInBounds i true).getD j false = true := by
  rw [Array.getD_eq_getD_getElem?] at h ⊢
  by_cases hij : i = j
  · subst hij
    rcases h3 : l[i]? with _ | b
    · rw [h3] at h; cases h
    · have := (Array.getElem?_eq_some_iff.1 h3).1
      rw [Array.getElem?_setIfInBounds]; simp [this]
  · rw [Array.getElem?_setIfInBounds_ne hij]; exact h
theorem getD_set_ne {l : Array Bool} {i j : Nat} (hij : j ≠ i) : (l.setIfInBounds i true).getD j false = l.getD j false := by
  rw [Array.getD_eq_getD_getElem?, Array.getD_eq_getD_getElem?, Array.getElem?_setIfInBounds_ne (Ne.symm hij)]
set_option maxHeartbeats 1000000 in
/-- Each operation shown once. U q: what holds until operation q came up. -/
theorem wp_region_plan {id : Nat} {a : Act} {w : World} (rd : Nat → List Tmp) (S : World → Prop) (U : Nat → World → Prop) (Keep : Nat → World → World → Prop) (Phi : Nat → (Tmp → Value) → World → Prop)
    (hm : P.follows .mixedOrders = true) (htd : tidyB ops a.tmps.size = true) (hrd : rdB ops rd = true)
    (hS0 : S w.drew) (hU0 : ∀ q, U q w.drew)
    (hSk : ∀ i w w', S w → Keep i w w' → S w') (hUk : ∀ i q w w', i ≠ q → S w → U q w → Keep i w w' → U q w')
    (hPk : ∀ i j f w w', j ≠ i → waitB ops j i = false → S w → Phi j f w → Keep i w w' → Phi j f w')
    (hPf : ∀ j f f' w, (∀ t ∈ rd j, f' t = f t) → Phi j f w → Phi j f' w)
    (hstep : ∀ (i : Nat) (o : Oper), ops[i]? = some o → ∀ (b : Act) (w : World), S w → (∀ q, i = q ∨ waitB ops q i = true → U q w) → b.defers = a.defers → b.tmps.size = a.tmps.size → (∀ t, (∀ o ∈ ops, o.dst ≠ some t) → b.tmps.getD t undef = a.tmps.getD t undef) →
      (∀ j, waitB ops i j = true → Phi j (slotF b) w) → ∀ K : Act → World → Prop, (∀ v w', (o.dst = none → v = undef) → Phi i (updF (slotF b) o.dst v) w' → Keep i w w' → K (b.put o.dst v) w') → Oper.wp P o b w K Q)
    (hend : ∀ (b : Act) (w : World), S w → b.defers = a.defers → b.tmps.size = a.tmps.size → (∀ t, (∀ o ∈ ops, o.dst ≠ some t) → b.tmps.getD t undef = a.tmps.getD t undef) → (∀ i, i < ops.size → Phi i (slotF b) w) → Q .normal b w) :
    (Code.region id ops true).wp P Q a w := by
  refine wp_region_inv (FactP ops a S U Phi) hm ⟨hS0, fun q _ _ => hU0 q, fun q i hl => ?_, rfl, rfl, by simp, fun _ _ => rfl, fun i ho hl => ?_⟩ (fun listed b w i hI hi => ?_) (fun listed b w hI hr => ?_)
  · exfalso
    rw [Array.getD_eq_getD_getElem?, Array.getElem?_replicate] at hl
    split at hl <;> simp at hl
  · exfalso
    rw [Array.getD_eq_getD_getElem?, Array.getElem?_replicate] at hl
    split at hl <;> simp at hl
  · obtain ⟨hun, o, ho, hall⟩ := mem_ready.1 hi
    have hom : o ∈ ops := Array.mem_of_getElem? ho
    have hio : i < ops.size := (Array.getElem?_eq_some_iff.1 ho).1
    have hil : i < listed.size := by rw [hI.lsize]; exact hio
    have hunl : listed.getD i false = false := by
      rw [Array.getD_eq_getD_getElem?, Array.getElem?_eq_getElem hil] at hun ⊢
      exact hun
    obtain ⟨hg, hb, _, _⟩ := tidy_at htd i o ho
    have hwaits : ∀ j, waitB ops i j = true → listed.getD j false = true := fun j hj => by
      obtain ⟨e, he, h1, h2⟩ := wait_edge ho hj
      rw [← h1]; exact hall e he h2
    unfold wpOp
    rw [ho]
    dsimp only
    rw [if_pos (by unfold Region.wanted; rw [hg])]
    refine .inl (hstep i o ho b w hI.s (fun q hq => ?_) hI.defers hI.size hI.frame (fun j hj => hI.fact j ?_ (hwaits j hj)) _ fun v w' hv hP hK => ?_)
    · rcases hq with rfl | hq
      · exact hI.u _ hio hunl
      · refine hI.u _ (wait_lt hq) ?_
        rcases h : listed.getD q false with _ | _
        · rfl
        · have := hI.closed q i h hq
          rw [hunl] at this; cases this
    · obtain ⟨e, he, h1, _⟩ := wait_edge ho hj
      have := (tidy_at htd i o ho).2.2.1 e he
      omega
    have hput : slotF (b.put o.dst v) = updF (slotF b) o.dst v := slotF_put fun t ht => by rw [hI.size]; exact hb t ht
    refine ⟨hSk _ _ _ hI.s hK, fun q hq hql => ?_, fun q j hql hw => ?_, ?_, ?_, by rw [Array.size_setIfInBounds]; exact hI.lsize, fun t ht => ?_, fun j hj hlj => ?_⟩
    · have hqi : q ≠ i := fun e => by
        subst e
        rw [Array.getD_eq_getD_getElem?, Array.getElem?_setIfInBounds] at hql
        simp [hil] at hql
      rw [getD_set_ne hqi] at hql
      exact hUk i q _ _ (Ne.symm hqi) hI.s (hI.u q hq hql) hK
    · by_cases hqi : q = i
      · subst hqi
        exact getD_set (hwaits j hw)
      · rw [getD_set_ne hqi] at hql
        exact getD_set (hI.closed q j hql hw)
    · cases o.dst <;> exact hI.defers
    · cases h : o.dst with
      | none => exact hI.size
      | some t => simp [Act.put]; exact hI.size
    · have := valD_put (b := b) (d := some t) (e := o.dst) (v := v) (fun u hu he => ht o hom (by rw [he]; exact hu.symm ▸ rfl))
      exact this.trans (hI.frame t ht)
    · rw [hput]
      by_cases hji : j = i
      · subst hji
        exact hP
      · rw [getD_set_ne hji] at hlj
        have hw : waitB ops j i = false := by
          rcases h : waitB ops j i with _ | _
          · rfl
          · have := hI.closed j i hlj h
            rw [hunl] at this; cases this
        refine hPf j (slotF b) _ _ (fun t ht => ?_) (hPk i j _ _ _ hji hw hI.s (hI.fact j hj hlj) hK)
        cases hd : o.dst with
        | none => rfl
        | some s =>
          have := rd_at hrd ho hd hj hji hw
          have hst : s ≠ t := fun e => this (by rw [e]; exact ht)
          simp [updF, hst]
  · have hall : ∀ n i o, i < n → ops[i]? = some o → listed.getD i false = true := by
      intro n
      induction n with
      | zero => intro i o hi; omega
      | succ n ih =>
        intro i o hi ho
        rcases hl : listed.getD i true with _ | _
        · exfalso
          have hmem : i ∈ Region.ready .any ops listed := mem_ready.2 ⟨hl, o, ho, fun e he _ => by
            have h1 := (tidy_at htd i o ho).2.2.1 e he
            have h2 : i < ops.size := (Array.getElem?_eq_some_iff.1 ho).1
            exact ih e.on _ (by omega) (Array.getElem?_eq_getElem (by omega))⟩
          rw [hr] at hmem
          cases hmem
        · have h2 : i < listed.size := by rw [hI.lsize]; exact (Array.getElem?_eq_some_iff.1 ho).1
          rw [Array.getD_eq_getD_getElem?, Array.getElem?_eq_getElem h2] at hl ⊢
          exact hl
    exact hend b w hI.s hI.defers hI.size hI.frame fun i hi => hI.fact i hi (hall (i + 1) i _ (by omega) (Array.getElem?_eq_getElem hi))
end
/-- A frame in which the masked slots are forgotten. -/
def frameU : List Bool → Nat → List Value → (Nat → Value) → List Value
  | true :: m, k, _ :: l, u => u k :: frameU m (k + 1) l u
  | false :: m, k, x :: l, u => x :: frameU m (k + 1) l u
  | _, _, l, _ => l
theorem frameU_of (u : Nat → Value) : ∀ (m : List Bool) (k : Nat) (l l' : List Value), m.length = l.length → l'.length = l.length → (∀ j : Nat, m[j]? = some false → l'[j]? = l[j]?) → (∀ (j : Nat) (x : Value), l'[j]? = some x → u (k + j) = x) → l' = frameU m k l u
  | [], k, l, l', h1, h2, _, _ => by
    have h3 : l = [] := List.eq_nil_of_length_eq_zero h1.symm
    subst h3
    exact List.eq_nil_of_length_eq_zero h2
  | b :: m, k, [], l', h1, _, _, _ => by simp at h1
  | b :: m, k, x :: l, [], _, h2, _, _ => by simp at h2
  | b :: m, k, x :: l, y :: l', h1, h2, h3, h4 => by
    have ih := frameU_of u m (k + 1) l l' (by simpa using h1) (by simpa using h2) (fun j hj => by simpa using h3 (j + 1) (by simpa using hj)) (fun j z hz => by
      have := h4 (j + 1) z (by simpa using hz)
      rwa [show k + (j + 1) = k + 1 + j by omega] at this)
    cases b with
    | true =>
      have h5 := h4 0 y rfl
      rw [Nat.add_zero] at h5
      unfold frameU
      rw [h5, ← ih]
    | false =>
      have h5 := h3 0 rfl
      simp at h5
      unfold frameU
      rw [h5, ← ih]
def maskB (ops : Array Oper) (m : List Bool) : Bool := (List.range m.length).all fun j => m.getD j true || ops.all fun o => match o.dst with | some t => !decide (t = j) | none => true
section
variable {P : Program} {ops : Array Oper} {Q : Exit → Act → World → Prop}
set_option maxHeartbeats 1000000 in
/-- The same; at the end the frame is told, with the slots forgotten that the region writes. -/
theorem wp_region_planF {id : Nat} {tmps : Array Value} {w : World} (mask : List Bool) (rd : Nat → List Tmp) (S : World → Prop) (U : Nat → World → Prop) (Keep : Nat → World → World → Prop) (Phi : Nat → (Tmp → Value) → World → Prop)
    (hm : P.follows .mixedOrders = true) (htd : tidyB ops tmps.size = true) (hrd : rdB ops rd = true) (hml : mask.length = tmps.size) (hmk : maskB ops mask = true)
    (hS0 : S w.drew) (hU0 : ∀ q, U q w.drew)
    (hSk : ∀ i w w', S w → Keep i w w' → S w') (hUk : ∀ i q w w', i ≠ q → S w → U q w → Keep i w w' → U q w')
    (hPk : ∀ i j f w w', j ≠ i → waitB ops j i = false → S w → Phi j f w → Keep i w w' → Phi j f w')
    (hPf : ∀ j f f' w, (∀ t ∈ rd j, f' t = f t) → Phi j f w → Phi j f' w)
    (hstep : ∀ (i : Nat) (o : Oper), ops[i]? = some o → ∀ (b : Act) (w : World), S w → (∀ q, i = q ∨ waitB ops q i = true → U q w) → b.defers = [] → b.tmps.size = tmps.size → (∀ t, (∀ o ∈ ops, o.dst ≠ some t) → b.tmps.getD t undef = tmps.getD t undef) →
      (∀ j, waitB ops i j = true → Phi j (slotF b) w) → ∀ K : Act → World → Prop, (∀ v w', (o.dst = none → v = undef) → Phi i (updF (slotF b) o.dst v) w' → Keep i w w' → K (b.put o.dst v) w') → Oper.wp P o b w K Q)
    (hend : ∀ (u : Nat → Value) (w : World), S w → (∀ i, i < ops.size → Phi i (slotF ⟨(frameU mask 0 tmps.toList u).toArray, []⟩) w) → Q .normal ⟨(frameU mask 0 tmps.toList u).toArray, []⟩ w) :
    (Code.region id ops true).wp P Q ⟨tmps, []⟩ w := by
  refine wp_region_plan (a := ⟨tmps, []⟩) rd S U Keep Phi hm htd hrd hS0 hU0 hSk hUk hPk hPf hstep fun b w hS hd hz hf hfact => ?_
  obtain ⟨tm, df⟩ := b
  dsimp only at hd hz hf
  subst hd
  have key : tm.toList = frameU mask 0 tmps.toList (fun k => tm.getD k undef) := by
    refine frameU_of _ _ _ _ _ (by simpa using hml) (by simpa using hz) (fun j hj => ?_) (fun j x hx => ?_)
    · have hjl : j < mask.length := (List.getElem?_eq_some_iff.1 hj).1
      have h1 := hf j (fun o ho => by
        unfold maskB at hmk
        rw [List.all_eq_true] at hmk
        have h2 := hmk j (List.mem_range.2 hjl)
        rw [List.getD_eq_getElem?_getD, hj] at h2
        simp only [Option.getD_some, Bool.false_or] at h2
        rw [Array.all_eq_true_iff_forall_mem] at h2
        have h3 := h2 o ho
        intro e
        rw [e] at h3
        simp at h3)
      have h4 : j < tm.size := by omega
      have h5 : j < tmps.size := by omega
      rw [Array.getElem?_toList, Array.getElem?_toList, Array.getElem?_eq_getElem h4, Array.getElem?_eq_getElem h5]
      rw [Array.getD_eq_getD_getElem?, Array.getD_eq_getD_getElem?, Array.getElem?_eq_getElem h4, Array.getElem?_eq_getElem h5] at h1
      simpa using h1
    · rw [Nat.zero_add, Array.getD_eq_getD_getElem?, ← Array.getElem?_toList, hx]
      rfl
  have key2 : tm = (frameU mask 0 tmps.toList (fun k => tm.getD k undef)).toArray := by rw [← key]
  have h1 := hend (fun k => tm.getD k undef) w hS
  rw [← key2] at h1
  exact h1 hfact
end
end Go.Proofs.YtlnkjacbdolhnaaGreatDoor


/-
  Facts of a region that makes values which are only read; a row of such values under construction.
-/
namespace Go.Proofs.YtlnkjacbdolhnaaGreatDoor
open Go.RowKit

/-- A row of names in a block made for it. -/
def pN (w : World) (B : Nat) (ns : List ByteArray) (v : Value) : Prop := ∃ g, v = .slice (some ⟨g, 0, none⟩) ns.length ns.length ∧ B ≤ g ∧ Cel w g 9 (ns.map Value.string).toArray
/-- A value that is only read. -/
def pJ (w : World) (B : Nat) (j : Jsn) (v : Value) : Prop := ∃ vn vl, v = jvV j vn vl ∧ JV w (fun k => B ≤ k) j vn vl
/-- A row of such values in a block made for it. -/
def pR (w : World) (B : Nat) (l : List Jsn) (v : Value) : Prop := ∃ (g : Nat) (zs : List JE), v = .slice (some ⟨g, 0, none⟩) zs.length zs.length ∧ B ≤ g ∧ Cel w g 25 (zs.flatMap encJ).toArray ∧ zs.map (·.1) = l ∧ ∀ z ∈ zs, JV w (fun k => B ≤ k) z.1 z.2.1 z.2.2
section
variable {w w' : World} {B : Nat} {v : Value}
theorem pN.keep {ns : List ByteArray} (h : pN w B ns v) (hk : ∀ k, B ≤ k → k < w.heap.size → w'.heap[k]? = w.heap[k]?) : pN w' B ns v := by
  obtain ⟨g, e, hg, hC⟩ := h
  exact ⟨g, e, hg, (hk g hg hC.lt).trans hC⟩
theorem JV.keepB {j : Jsn} {vn vl : Value} (h : JV w (fun k => B ≤ k) j vn vl) (hs : w.heap.size ≤ w'.heap.size) (hk : ∀ k, B ≤ k → k < w.heap.size → w'.heap[k]? = w.heap[k]?) : JV w' (fun k => B ≤ k) j vn vl :=
  JV.keep hs (fun p h1 h2 => World.cell?_of_block (hk p.block h1 h2)) (fun _ h _ => h) j h
theorem pJ.keep {j : Jsn} (h : pJ w B j v) (hs : w.heap.size ≤ w'.heap.size) (hk : ∀ k, B ≤ k → k < w.heap.size → w'.heap[k]? = w.heap[k]?) : pJ w' B j v := by
  obtain ⟨vn, vl, e, hJ⟩ := h
  exact ⟨vn, vl, e, hJ.keepB hs hk⟩
theorem pR.keep {l : List Jsn} (h : pR w B l v) (hs : w.heap.size ≤ w'.heap.size) (hk : ∀ k, B ≤ k → k < w.heap.size → w'.heap[k]? = w.heap[k]?) : pR w' B l v := by
  obtain ⟨g, zs, e, hg, hC, hz, hJ⟩ := h
  exact ⟨g, zs, e, hg, (hk g hg hC.lt).trans hC, hz, fun z hz' => (hJ z hz').keepB hs hk⟩
end
/-- An object out of its two rows. -/
theorem obj_rows {w : World} {B : Nat} {ns : List ByteArray} {l : List Jsn} {u v : Value} (h1 : pN w B ns u) (h2 : pR w B l v) : ∃ gn gl, u = .slice (some ⟨gn, 0, none⟩) ns.length ns.length ∧ v = .slice (some ⟨gl, 0, none⟩) l.length l.length ∧ JV w (fun k => B ≤ k) (mkO ns l) u v := by
  obtain ⟨gn, rfl, hg, hC⟩ := h1
  obtain ⟨gl, zs, rfl, hgl, hL, hz, hJ⟩ := h2
  have hlen : zs.length = l.length := by rw [← hz, List.length_map]
  refine ⟨gn, gl, rfl, by rw [hlen], ?_⟩
  unfold mkO
  exact jv_rows (by omega) (by omega) hg hgl hC hz hJ hL
/-- A row of values under construction: each is only read, and the row's block is not among its blocks. -/
def RowV (w : World) (B : Nat) (v : Value) (l : List Jsn) : Prop := ∃ zs : List JE, zs.map (·.1) = l ∧ w.ownsRow B 25 4 v l.length (zs.flatMap encJ) ∧ ∀ z ∈ zs, JV w (fun k => B ≤ k ∧ v.ownBlock ≠ some k) z.1 z.2.1 z.2.2
theorem RowV.nil (w : World) (B : Nat) : RowV w B (.slice none 0 0) [] := ⟨[], rfl, World.ownsRow_nil _ _ _ _, fun _ h => by cases h⟩
theorem ownsRow_blk {w w' : World} {B k n : Nat} {e : TypeId} {v : Value} {xs : List Value} (h : w.ownsRow B e k v n xs) (hk : ∀ b, v.ownBlock = some b → w'.heap[b]? = w.heap[b]?) : w'.ownsRow B e k v n xs :=
  ⟨h.1, h.2.imp id (fun ⟨g, cap, cur, e1, e2, e3, r⟩ => ⟨g, cap, cur, e1, e2, (hk g (by rw [e1]; rfl)).trans e3, r⟩)⟩
theorem RowV.keep {w w' : World} {B : Nat} {v : Value} {l : List Jsn} (h : RowV w B v l) (hs : w.heap.size ≤ w'.heap.size) (hk : ∀ k, B ≤ k → k < w.heap.size → w'.heap[k]? = w.heap[k]?) : RowV w' B v l := by
  obtain ⟨zs, hz, ho, hJ⟩ := h
  refine ⟨zs, hz, ownsRow_blk ho fun b hb => hk b (ho.lt b hb).1 (ho.lt b hb).2, fun z hz' => ?_⟩
  exact JV.keep hs (fun p h1 h2 => World.cell?_of_block (hk p.block h1.1 h2)) (fun _ h _ => h) _ (hJ z hz')
theorem RowV.form {w : World} {B : Nat} {v : Value} {l : List Jsn} (h : RowV w B v l) : ∃ A c, v = .slice A l.length c := by
  obtain ⟨zs, hz, ho, hJ⟩ := h
  rcases ho.2 with ⟨rfl, h0⟩ | ⟨g, cap, cur, rfl, _⟩
  · exact ⟨none, 0, by rw [h0]⟩
  · exact ⟨_, _, rfl⟩
theorem RowV.lt {w : World} {B : Nat} {v : Value} {l : List Jsn} (h : RowV w B v l) : ∀ g, v.ownBlock = some g → B ≤ g ∧ g < w.heap.size := by
  obtain ⟨zs, hz, ho, hJ⟩ := h
  exact ho.lt
end Go.Proofs.YtlnkjacbdolhnaaGreatDoor
