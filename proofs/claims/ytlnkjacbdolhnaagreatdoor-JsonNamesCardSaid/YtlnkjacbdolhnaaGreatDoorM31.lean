/-
  The small functions of JsonNames: a String, a Number, an Array of a list, a text many times.
-/
import Derived.Test.YtlnkjacbdolhnaaGreatDoorM07
import Derived.Test.YtlnkjacbdolhnaaGreatDoorM30
import Derived.Test.YtlnkjacbdolhnaaGreatDoorM22
import Derived.Laws.MakeOwn
import Derived.Test.YtlnkjacbdolhnaaGreatDoorM06
import Derived.Lib.ItoaLen
import Derived.Test.YtlnkjacbdolhnaaGreatDoorM25
import Derived.OrdersHeld
import Derived.Deep.RegionHeld
import Derived.Test.YtlnkjacbdolhnaaGreatDoorM00
namespace Go.Proofs.YtlnkjacbdolhnaaGreatDoor
open Go.RowKit

set_option maxHeartbeats 2000000 in
theorem nmStr_any (s : ByteArray) (w : World) : Calls Tryz.prog 16 #[.string s] w (OwnJEnd ⟨5, s, [], []⟩ w) := by
  go_enter Tryz.func16, Tryz.ntmps16
  go_wp2
  refine bodyPost_ret (v := .agg #[.int .u8 5, .string s, .slice none 0 0, .slice none 0 0]) (by simp [results, Tryz.results16, go_sem]) rfl ?_
  exact ⟨_, _, rfl, flat_own _ _ _ 5 s _ _ (by omega) (by omega), (Below.refl _ _).alloc (Nat.le_refl _) _⟩
set_option maxHeartbeats 2000000 in
theorem nmNum_any (s : ByteArray) (w : World) : Calls Tryz.prog 17 #[.string s] w (OwnJEnd ⟨4, s, [], []⟩ w) := by
  go_enter Tryz.func17, Tryz.ntmps17
  go_wp2
  refine bodyPost_ret (v := .agg #[.int .u8 4, .string s, .slice none 0 0, .slice none 0 0]) (by simp [results, Tryz.results17, go_sem]) rfl ?_
  exact ⟨_, _, rfl, flat_own _ _ _ 4 s _ _ (by omega) (by omega), (Below.refl _ _).alloc (Nat.le_refl _) _⟩
set_option maxHeartbeats 2000000 in
theorem nmList_any (A : Option Addr) (n c : Nat) (w : World) : Calls Tryz.prog 15 #[.slice A n c] w fun e w' => e = .returned (.agg #[.int .u8 6, .string ⟨#[]⟩, .slice none 0 0, .slice A n c]) ∧ Below w.heap.size w w' := by
  go_enter Tryz.func15, Tryz.ntmps15
  go_wp2
  refine bodyPost_ret (v := .agg #[.int .u8 6, .string ⟨#[]⟩, .slice none 0 0, .slice A n c]) (by simp [results, Tryz.results15, go_sem]) rfl ?_
  exact ⟨rfl, (Below.refl _ _).alloc (Nat.le_refl _) _⟩
theorem nm_convert (w : World) : (convert 84 9 (.slice none 0 0)).run Tryz.prog w = .ok (.string ⟨#[]⟩) w := by kernel_rfl
theorem nm_convert0 {w : World} {B : Nat} {v : Value} {l : List UInt8} (h : RowB w B v l) : (convert 84 9 v).run Tryz.prog w = .ok (.string (ofL l)) w := by
  by_cases hne : l = []
  · subst hne
    obtain ⟨_, ⟨rfl, _⟩ | ⟨g, cap, cur, rfl, hg, hh, hnc, hcm, hcs, htk⟩⟩ := h
    · exact nm_convert w
    · exact Lib.run_convert_whole (P := Tryz.prog) w 84 5 9 Tryz.underlying84 Tryz.underlying5 Tryz.underlying9 g 0 ⟨#[]⟩ (fun i hi => absurd hi (Nat.not_lt_zero _)) cap
  · exact row_convert h hne
theorem nm_form {w : World} {B : Nat} {v : Value} {l : List UInt8} (h : RowB w B v l) : ∃ A c, v = .slice A l.length c := by
  rcases h.2 with ⟨rfl, h0⟩ | ⟨g, cap, cur, rfl, _⟩
  · exact ⟨none, 0, by rw [h0]⟩
  · exact ⟨_, _, rfl⟩
theorem nm_app {w : World} {B : Nat} {v : Value} {l : List UInt8} (h : RowB w B v l) (hB : B ≤ w.heap.size) (s : ByteArray) (hl : l.length + s.size ≤ 100000000000000) :
    ∃ v' w', (Builtin.append_ #[84, 9] 84 #[v, .string s]).run Tryz.prog w = .ok v' w' ∧ RowB w' B v' (l ++ s.data.toList) ∧ w.grownBy w' v.ownBlock := by
  obtain ⟨i0, hi0, hz0, hz1, hz2⟩ := info_parts infoB
  obtain ⟨v', w', hr, h2, h3, _⟩ := Lib.run_append_own_string (P := Tryz.prog) w B 84 9 84 5 i0 Tryz.underlying84 Tryz.underlying9 hi0 hz0 hz1 hz2 v l.length _ h s (by unfold maxLen; omega) (by omega) hB
  exact ⟨v', w', hr, RowB.snoc h2, h3⟩
set_option maxRecDepth 100000 in
set_option maxHeartbeats 8000000 in
theorem nmMany_any (n : Nat) (s : ByteArray) (w : World) (hn : n ≤ 1000000) (hs : s.size ≤ 100) : Calls Tryz.prog 12 #[.int .i64 n, .string s] w fun e w' => e = .returned (.string (ofL (manyB n s.data.toList))) ∧ Below w.heap.size w w' := by
  have hmul : n * s.size ≤ 1000000 * 100 := Nat.mul_le_mul hn hs
  obtain ⟨i0, hi0, hz0, hz1, hz2⟩ := info_parts infoB
  obtain ⟨w1, hmake, hown, hgr⟩ := run_make_own (P := Tryz.prog) w w.heap.size 84 5 i0 (.int .u8 0) 1 Tryz.underlying84 hi0 hz0 hz1 .i64 .i64 (n * s.size) (by rw [hz2]; omega) (by unfold maxLen; omega) (Nat.le_refl _)
  have hR0 : RowB w1 w.heap.size (.slice (some ⟨w.heap.size, 0, none⟩) 0 (n * s.size)) (manyB 0 s.data.toList) := hown
  have hB1 : Below w.heap.size w w1 := Below.grown (Below.refl _ _) hgr (Nat.le_refl _) (fun k hk => by cases hk)
  have hlen : ∀ q, q ≤ n → (manyB q s.data.toList).length ≤ 1000000 * 100 := fun q hq => by
    rw [manyB_len, Array.length_toList]
    exact Nat.le_trans (Nat.mul_le_mul hq (Nat.le_refl _)) hmul
  push_cast at hmake
  have hw : (n : Int) * (s.size : Int) ≤ 100000000 := by rw [← Int.natCast_mul]; omega
  have hw0 : (0 : Int) ≤ (n : Int) * (s.size : Int) := by rw [← Int.natCast_mul]; omega
  have hE : manyB n s.data.toList = manyB n s.data.toList := rfl
  replace hR0 := Lib.hid hR0
  replace hB1 := Lib.hid hB1
  replace hlen := Lib.hid hlen
  replace hmul := Lib.hid hmul
  clear hown hgr hE
  go_enter Tryz.func12, Tryz.ntmps12
  go_wp2_with fail
  go_loopw [5, 6] (fun v i wr => ∃ q : Nat, q ≤ n ∧ i = .int .i64 q ∧ RowB wr w.heap.size v (manyB q s.data.toList) ∧ Below w.heap.size w wr) (fun _ i _ => n - (intOf i).toNat)
  case atStart => exact ⟨0, Nat.zero_le _, rfl, hR0.out, hB1.out⟩
  case round =>
    obtain ⟨q, hq, rfl, hR, hB⟩ := hrel
    obtain ⟨RA, rc, hv⟩ := nm_form hR
    subst hv
    by_cases hlt : q < n
    · obtain ⟨v', w2, hrun, hR2, hg2⟩ := nm_app hR hB.size s (by have := hlen.out q hq; omega)
      rw [← manyB_snoc] at hR2
      have hB2 := Lib.hid (Below.grown hB hg2 hB.size (fun k hk => (World.ownsRow.lt hR k hk).1))
      have hq1 : (q : Int) < (n : Int) := by omega
      replace hR2 := Lib.hid hR2
      replace hrun := Lib.hid hrun
      clear hR hB hg2
      go_wp2_with (at_builtin; refine jl_append_run (by rfl) _ _ 84 9 rfl _ _ _ rfl rfl hrun.out ?_)
      go_roundw
      case rel => exact ⟨q + 1, by omega, by go_num, hR2.out, hB2.out⟩
      case measure => simp [intOf]; omega
    · have hqe : q = n := by omega
      subst hqe
      have hcv := nm_convert0 hR
      replace hR := Lib.hid hR
      replace hB := Lib.hid hB
      go_wp2_with fail
      exact bodyPost_ret (v := .string (ofL (manyB q s.data.toList))) (by simp [results, Tryz.results12, go_sem]) rfl ⟨rfl, hB.out⟩
theorem nm_zeros (m j i : Nat) (u : Value) (hj : j < m) (hu : (encJ ((⟨0, ⟨#[]⟩, [], []⟩ : Jsn), .slice none 0 0, .slice none 0 0))[i]? = some u) : (madeCells (Value.agg #[.int .u8 0, .string ByteArray.empty, .slice none 0 0, .slice none 0 0]).cells (m * 4))[j * 4 + i]? = some u := by
  have hi : i < 4 := by
    have := (List.getElem?_eq_some_iff.1 hu).1
    simpa [encJ] using this
  have h2 : (j * 4 + i) % 4 = i := by omega
  have hc : (Value.agg #[.int .u8 0, .string ByteArray.empty, .slice none 0 0, .slice none 0 0]).cells = #[.int .u8 0, .string ByteArray.empty, .slice none 0 0, .slice none 0 0] := rfl
  rw [hc]
  unfold madeCells
  rw [Array.getElem?_map, Array.getElem?_range, if_pos (by omega), Option.map_some]
  have hs : (#[Value.int .u8 0, .string ByteArray.empty, .slice none 0 0, .slice none 0 0] : Array Value).size = 4 := rfl
  rw [hs, h2, ← hu]
  match i, hi with
  | 0, _ => rfl
  | 1, _ => rfl
  | 2, _ => rfl
  | 3, _ => rfl
/-- make of a list of values: all zero. -/
theorem nm_wide (m : Nat) (hm : m ≤ 1000000) : ∃ Z : Array Value, (∀ W : World, (Instr.makeSlice 23 (.int .i64 m) (.int .i64 m)).run Tryz.prog W = .ok (.slice (some ⟨W.heap.size, 0, none⟩) m m) (W.alloc (.cells Z 25))) ∧
    ∀ (W : World) (b : Nat), Cel W b 25 Z → JV W (fun k => b ≤ k) (wideN m) (.slice none 0 0) (.slice (some ⟨b, 0, none⟩) m m) := by
  obtain ⟨i0, hi0, hz0, hz1, hz2⟩ := info_parts infoJ
  refine ⟨madeCells (Value.agg #[.int .u8 0, .string ByteArray.empty, .slice none 0 0, .slice none 0 0]).cells (m * 4), fun W => ?_, fun W b hC => ?_⟩
  · have := run_make (P := Tryz.prog) W 23 25 i0 _ Tryz.underlying23 hi0 hz0 .i64 .i64 (m : Int) (m : Int) (by omega) (Int.le_refl _) (by rw [hz2]; omega) (by omega)
    rw [hz1] at this
    exact this
  · have := JV.of_elems (w := W) (X := fun k => b ≤ k) (k := 6) (s := ⟨#[]⟩) (ns := []) (vn := .slice none 0 0) (A := some ⟨b, 0, none⟩) (c := m) (zs := List.replicate m ((⟨0, ⟨#[]⟩, [], []⟩ : Jsn), (.slice none 0 0 : Value), (.slice none 0 0 : Value))) (l := List.replicate m ⟨0, ⟨#[]⟩, [], []⟩) (by omega) (by omega) ⟨none, 0, rfl, fun h => by simp at h⟩ (by rw [List.map_replicate]) (fun z hz => by
        rw [(List.mem_replicate.1 hz).2]
        exact JV.of_elems (zs := []) (by omega) (by omega) ⟨none, 0, rfl, fun h => by simp at h⟩ rfl (fun z hz => by cases hz) (fun h => by simp at h)) (fun _ => ⟨b, 0, rfl, Nat.le_refl _, hC.lt, fun j z hj i u hu => by
        rw [List.getElem?_replicate] at hj
        split at hj
        · rename_i hjm
          replace hj := Option.some.inj hj
          rw [← hj] at hu
          rw [Nat.zero_add, hC.cell]
          exact nm_zeros m j i u hjm hu
        · cases hj⟩)
    rw [List.length_replicate] at this
    exact this
/-- What the example has at "a". -/
def exA : Jsn := ⟨6, ⟨#[]⟩, [], [⟨4, ⟨#[49, 53, 101, 45, 49]⟩, [], []⟩, ⟨1, ⟨#[]⟩, [], []⟩]⟩
theorem get_exA : jget exJ ⟨#[97]⟩ = some exA := by kernel_rfl
theorem get_exB : jget exJ ⟨#[98]⟩ = none := by kernel_rfl
theorem get_exL : jget ⟨6, ⟨#[]⟩, [], [exJ]⟩ ⟨#[97]⟩ = none := rfl
theorem exA_bulk : jbulk exA ≤ 1000 := by
  unfold exA
  simp only [jbulk_eq, jbulks, List.map_cons, List.map_nil]
  decide +kernel
theorem jv_flat {w : World} {X : Nat → Prop} {k : Int} {s : ByteArray} {vn vl : Value} (h : JV w X ⟨k, s, [], []⟩ vn vl) (w' : World) (Y : Nat → Prop) : JV w' Y ⟨k, s, [], []⟩ vn vl := by
  rw [JV_eq] at h ⊢
  obtain ⟨h1, h2, ⟨A, c, e, _⟩, A', c', e', _⟩ := h
  exact ⟨h1, h2, ⟨A, c, e, fun hp => by simp at hp⟩, A', c', e', fun hp => by simp at hp⟩
theorem nmInfo : (Tryz.prog.info? 25).map (·.size) = some 4 := by kernel_rfl
theorem nmDesc : ∃ d, Tryz.prog.underlying 25 = some d ∧ d.isRow = true := ⟨_, Tryz.underlying25, rfl⟩
end Go.Proofs.YtlnkjacbdolhnaaGreatDoor


/-
  What the JSON reader refuses with, and how great a value is that it read. Plain.
-/
namespace Go.Proofs.YtlnkjacbdolhnaaGreatDoor

theorem jloopF_err {σ : Type} {one : σ → List UInt8 → Except Int (σ × List UInt8)} (h : ∀ st s c, one st s = .error c → c ≠ 0) (b : UInt8) : ∀ (k : Nat) (st : σ) (s : List UInt8) (c : Int), jloopF one b k st s = .error c → c ≠ 0
  | 0, _, _, _, he => by injection he with he; subst he; decide
  | k + 1, st, s, c, he => by
    unfold jloopF at he
    split at he
    · rename_i ho
      injection he with he
      subst he
      exact h _ _ _ ho
    · split at he
      · injection he with he; subst he; decide
      · split at he
        · exact jloopF_err h b k _ _ _ he
        · split at he
          · cases he
          · injection he with he; subst he; decide
theorem jList_err {σ : Type} {one : σ → List UInt8 → Except Int (σ × List UInt8)} (h : ∀ st s c, one st s = .error c → c ≠ 0) (b : UInt8) (st : σ) (s : List UInt8) (c : Int) (he : jList one b st s = .error c) : c ≠ 0 := by
  unfold jList at he
  split at he
  · exact jloopF_err h b _ _ _ _ he
  · split at he
    · cases he
    · exact jloopF_err h b _ _ _ _ he
theorem jval_err {Own : List UInt8 → List UInt8 × Int} {Val : List UInt8 → Bool} : ∀ (f it : Nat) (s : List UInt8) (c : Int), jval Own Val f it s = .error c → c ≠ 0
  | 0, _, _, _, h => by injection h with h; subst h; decide
  | f + 1, it, s, c, h => by
    have hA : ∀ (st : SA) (s : List UInt8) (c : Int), jitA (fun it s => jval Own Val f it s) st s = .error c → c ≠ 0 := fun st s c he => by
      unfold jitA at he
      split at he
      · rename_i hv
        injection he with he
        subst he
        exact jval_err f _ _ _ hv
      · cases he
    have hO : ∀ (st : SO) (s : List UInt8) (c : Int), jitO Val (fun it s => jval Own Val f it s) st s = .error c → c ≠ 0 := fun st s c he => by
      unfold jitO at he
      split at he
      · split at he
        · injection he with he; subst he; decide
        · split at he
          · injection he with he; subst he; decide
          · split at he
            · split at he
              · rename_i hv
                injection he with he
                subst he
                exact jval_err f _ _ _ hv
              · cases he
            · injection he with he; subst he; decide
      · injection he with he; subst he; decide
    unfold jval at h
    repeat' split at h
    all_goals first
      | (injection h with h; subst h; first | decide | assumption | (rename_i hv; exact jList_err hA _ _ _ _ hv) | (rename_i hv; exact jList_err hO _ _ _ _ hv))
      | cases h
theorem jparse_err {Own : List UInt8 → List UInt8 × Int} {Val : List UInt8 → Bool} {s : List UInt8} {c : Int} (h : jparse Own Val s = .error c) : c ≠ 0 := by
  unfold jparse at h
  split at h
  · injection h with h; subst h; decide
  · split at h
    · rename_i hv
      injection h with h
      subst h
      exact jval_err _ _ _ _ hv
    · split at h
      · cases h
      · injection h with h; subst h; decide
end Go.Proofs.YtlnkjacbdolhnaaGreatDoor


/-
  A region that draws its order, by what is known of the operations that came up: shown once for each operation, whatever came up before. No program.
-/
namespace Go.Proofs.YtlnkjacbdolhnaaGreatDoor

theorem count_set : ∀ (l : List Bool) (i : Nat), l[i]? = some false → (l.set i true).count false + 1 = l.count false
  | [], _, h => by simp at h
  | b :: l, 0, h => by
    simp at h; subst h
    simp
  | b :: l, i + 1, h => by
    have := count_set l i (by simpa using h)
    rw [List.set_cons_succ, List.count_cons, List.count_cons]
    omega
section
variable {P : Program} {ops : Array Oper} {Q : Exit → Act → World → Prop} {md : Region.Mode}
/-- What is known (I) is kept by each operation that may come up; at the end it suffices. -/
theorem wpAny_inv (I : Array Bool → Act → World → Prop) (hstep : ∀ listed a w i, I listed a w → i ∈ Region.ready md ops listed → wpOp P ops Q i (I (listed.setIfInBounds i true)) a w)
    (hend : ∀ listed a w, I listed a w → Region.ready md ops listed = [] → Q .normal a w) :
    ∀ (fuel : Nat) (listed : Array Bool) (a : Act) (w : World), listed.toList.count false ≤ fuel → I listed a w → wpAny P md ops Q fuel listed a w := by
  intro fuel
  induction fuel with
  | zero =>
    intro listed a w hc hI
    have hr : Region.ready md ops listed = [] := by
      rcases h : Region.ready md ops listed with _ | ⟨i, rs⟩
      · rfl
      · exfalso
        have hi : i ∈ Region.ready md ops listed := by rw [h]; exact List.mem_cons_self
        have h1 := (mem_ready.1 hi).1
        have h2 : listed[i]? = some false := by
          rw [Array.getD_eq_getD_getElem?] at h1
          rcases h3 : listed[i]? with _ | b
          · rw [h3] at h1; simp at h1
          · rw [h3] at h1; simp at h1; rw [h1]
        have := count_set listed.toList i (by rw [Array.getElem?_toList]; exact h2)
        omega
    exact ⟨hr, hend listed a w hI hr⟩
  | succ fuel ih =>
    intro listed a w hc hI
    refine ⟨fun hr => hend listed a w hI hr, fun i hi => wpOp_mono (fun a' w' hI' => ih _ a' w' ?_ hI') (hstep listed a w i hI hi)⟩
    have h1 := (mem_ready.1 hi).1
    have h2 : listed[i]? = some false := by
      rw [Array.getD_eq_getD_getElem?] at h1
      rcases h3 : listed[i]? with _ | b
      · rw [h3] at h1; simp at h1
      · rw [h3] at h1; simp at h1; rw [h1]
    have := count_set listed.toList i (by rw [Array.getElem?_toList]; exact h2)
    rw [Array.toList_setIfInBounds]
    omega
/-- A region that draws: from what is known when nothing has come up. -/
theorem wp_region_inv {id : Nat} {a : Act} {w : World} (I : Array Bool → Act → World → Prop) (hm : P.follows .mixedOrders = true) (h0 : I (Array.replicate ops.size false) a w.drew)
    (hstep : ∀ listed a w i, I listed a w → i ∈ Region.ready .any ops listed → wpOp P ops Q i (I (listed.setIfInBounds i true)) a w)
    (hend : ∀ listed a w, I listed a w → Region.ready .any ops listed = [] → Q .normal a w) : (Code.region id ops true).wp P Q a w :=
  wp_region_any hm (wpAny_inv I hstep hend _ _ _ _ (by simp) h0)
end
section
variable {P : Program} {ops : Array Oper} {Q : Exit → Act → World → Prop}
/-- The value of an operation's slot. -/
def valD (d : Option Tmp) (b : Act) : Value := match d with
  | some t => b.tmps.getD t undef
  | none => undef
theorem valD_put {b : Act} {d e : Option Tmp} {v : Value} (h : ∀ t, d = some t → e ≠ some t) : valD d (b.put e v) = valD d b := by
  cases d with
  | none => rfl
  | some t =>
    cases e with
    | none => rfl
    | some u =>
      have hne : u ≠ t := fun q => h t rfl (by rw [q])
      simp [valD, Act.put, Array.getD_eq_getD_getElem?, Array.getElem?_setIfInBounds_ne hne]
/-- What is known of a region that draws. -/
structure FactI (ops : Array Oper) (a : Act) (S : World → Prop) (Phi : Nat → Value → World → Prop) (listed : Array Bool) (b : Act) (w : World) : Prop where
  s : S w
  defers : b.defers = a.defers
  size : b.tmps.size = a.tmps.size
  lsize : listed.size = ops.size
  frame : ∀ t, (∀ o ∈ ops, o.dst ≠ some t) → b.tmps.getD t undef = a.tmps.getD t undef
  fact : ∀ i o, ops[i]? = some o → listed.getD i false = true → Phi i (valD o.dst b) w
end
/-- No guards; slots within n, each written once; each waits for earlier ones alone. -/
def tidyB (ops : Array Oper) (n : Nat) : Bool := (List.range ops.size).all fun i => match ops[i]? with
  | some o => o.guard.isNone && (match o.dst with | some t => decide (t < n) | none => true) && o.after.all (fun e => decide (e.on < i)) &&
    (List.range ops.size).all (fun j => match ops[j]? with | some o' => decide (i = j) || (match o.dst, o'.dst with | some t, some u => !decide (t = u) | _, _ => true) | none => true)
  | none => true
theorem tidy_at {ops : Array Oper} {n : Nat} (h : tidyB ops n = true) (i : Nat) (o : Oper) (ho : ops[i]? = some o) :
    o.guard = none ∧ (∀ t, o.dst = some t → t < n) ∧ (∀ e ∈ o.after, e.on < i) ∧ (∀ (j : Nat) (o' : Oper) (t : Tmp), ops[j]? = some o' → o.dst = some t → o'.dst = some t → i = j) := by
  have hi : i < ops.size := (Array.getElem?_eq_some_iff.1 ho).1
  unfold tidyB at h
  rw [List.all_eq_true] at h
  have := h i (List.mem_range.2 hi)
  rw [ho] at this
  simp only [Bool.and_eq_true] at this
  obtain ⟨⟨⟨h1, h2⟩, h3⟩, h4⟩ := this
  refine ⟨by simpa using h1, fun t ht => ?_, fun e he => ?_, fun j o' t hj h5 h6 => ?_⟩
  · rw [ht] at h2; simpa using h2
  · rw [Array.all_eq_true_iff_forall_mem] at h3
    simpa using h3 e he
  · rw [List.all_eq_true] at h4
    have h7 := h4 j (List.mem_range.2 (Array.getElem?_eq_some_iff.1 hj).1)
    rw [hj] at h7
    dsimp only at h7
    rw [h5, h6] at h7
    simpa using h7
end Go.Proofs.YtlnkjacbdolhnaaGreatDoor


/-
  A region that draws its order, each operation shown once: facts over all slots; and what holds until an operation came up. No program.
-/
namespace Go.Proofs.YtlnkjacbdolhnaaGreatDoor

/-- Does operation q wait for operation i? -/
def waitB (ops : Array Oper) (q i : Nat) : Bool := match ops[q]? with
  | some o => o.after.any (fun e => decide (e.on = i) && Region.binds .any e)
  | none => false
/-- The slots. -/
def slotF (b : Act) (t : Tmp) : Value := b.tmps.getD t undef
/-- The slots, one of them written. -/
def updF (f : Tmp → Value) (d : Option Tmp) (v : Value) (t : Tmp) : Value := match d with
  | some s => if s = t then v else f t
  | none => f t
theorem slotF_put {b : Act} {d : Option Tmp} {v : Value} (h : ∀ t, d = some t → t < b.tmps.size) : slotF (b.put d v) = updF (slotF b) d v := by
  funext t
  cases d with
  | none => rfl
  | some s =>
    have hs := h s rfl
    by_cases hst : s = t
    · subst hst
      simp [slotF, updF, Act.put, Array.getD_eq_getD_getElem?, hs]
    · simp [slotF, updF, Act.put, Array.getD_eq_getD_getElem?, Array.getElem?_setIfInBounds_ne hst, hst]
/-- A fact's slots are written by no operation that may come behind it. -/
def rdB (ops : Array Oper) (rd : Nat → List Tmp) : Bool := (List.range ops.size).all fun i => match ops[i]? with
  | some o => match o.dst with
    | some t => (List.range ops.size).all fun j => decide (i = j) || waitB ops j i || !(rd j).contains t
    | none => true
  | none => true
theorem rd_at {ops : Array Oper} {rd : Nat → List Tmp} (h : rdB ops rd = true) {i j : Nat} {o : Oper} {t : Tmp} (ho : ops[i]? = some o) (ht : o.dst = some t) (hj : j < ops.size) (hij : j ≠ i) (hw : waitB ops j i = false) : t ∉ rd j := by
  have hi : i < ops.size := (Array.getElem?_eq_some_iff.1 ho).1
  unfold rdB at h
  rw [List.all_eq_true] at h
  have h1 := h i (List.mem_range.2 hi)
  rw [ho] at h1
  dsimp only at h1
  rw [ht] at h1
  dsimp only at h1
  rw [List.all_eq_true] at h1
  have h2 := h1 j (List.mem_range.2 hj)
  rw [hw] at h2
  have h3 : ¬ i = j := fun e => hij e.symm
  simpa [h3] using h2
section
variable {P : Program} {ops : Array Oper} {Q : Exit → Act → World → Prop}
structure FactP (ops : Array Oper) (a : Act) (S : World → Prop) (U : Nat → World → Prop) (Phi : Nat → (Tmp → Value) → World → Prop) (listed : Array Bool) (b : Act) (w : World) : Prop where
  s : S w
  u : ∀ q, q < ops.size → listed.getD q false = false → U q w
  closed : ∀ q i, listed.getD q false = true → waitB ops q i = true → listed.getD i false = true
  defers : b.defers = a.defers
  size : b.tmps.size = a.tmps.size
  lsize : listed.size = ops.size
  frame : ∀ t, (∀ o ∈ ops, o.dst ≠ some t) → b.tmps.getD t undef = a.tmps.getD t undef
  fact : ∀ i, i < ops.size → listed.getD i false = true → Phi i (slotF b) w
theorem wait_lt {q i : Nat} (h : waitB ops q i = true) : q < ops.size := by
  unfold waitB at h
  rcases ho : ops[q]? with _ | o
  · rw [ho] at h; cases h
  · exact (Array.getElem?_eq_some_iff.1 ho).1
theorem wait_edge {q i : Nat} {o : Oper} (ho : ops[q]? = some o) (h : waitB ops q i = true) : ∃ e ∈ o.after, e.on = i ∧ Region.binds .any e = true := by
  unfold waitB at h
  rw [ho] at h
  dsimp only at h
  rw [Array.any_eq_true] at h
  obtain ⟨k, hk, h2⟩ := h
  rw [Bool.and_eq_true] at h2
  exact ⟨_, Array.getElem_mem hk, by simpa using h2.1, h2.2⟩
theorem getD_set {l : Array Bool} {i j : Nat} (h : l.getD j false = true) : (l.setIfInBounds i true).getD j false = true := by
  rw [Array.getD_eq_getD_getElem?] at h ⊢
  by_cases hij : i = j
  · subst hij
    rcases h3 : l[i]? with _ | b
    · rw [h3] at h; cases h
    · have := (Array.getElem?_eq_some_iff.1 h3).1
      rw [Array.getElem?_setIfInBounds]; simp [this]
  · rw [Array.getElem?_setIfInBounds_ne hij]; exact h
theorem getD_set_ne {l : Array Bool} {i j : Nat} (hij : j ≠ i) : (l.setIfInBounds i true).getD j false = l.getD j false := by
  rw [Array.getD_eq_getD_getElem?, Array.getD_eq_getD_getElem?, Array.getElem?_setIfInBounds_ne (Ne.symm hij)]
set_option maxHeartbeats 1000000 in
/-- Each operation shown once. U q: what holds until operation q came up. -/
theorem wp_region_plan {id : Nat} {a : Act} {w : World} (rd : Nat → List Tmp) (S : World → Prop) (U : Nat → World → Prop) (Keep : Nat → World → World → Prop) (Phi : Nat → (Tmp → Value) → World → Prop)
    (hm : P.follows .mixedOrders = true) (htd : tidyB ops a.tmps.size = true) (hrd : rdB ops rd = true)
    (hS0 : S w.drew) (hU0 : ∀ q, U q w.drew)
    (hSk : ∀ i w w', S w → Keep i w w' → S w') (hUk : ∀ i q w w', i ≠ q → S w → U q w → Keep i w w' → U q w')
    (hPk : ∀ i j f w w', j ≠ i → waitB ops j i = false → S w → Phi j f w → Keep i w w' → Phi j f w')
    (hPf : ∀ j f f' w, (∀ t ∈ rd j, f' t = f t) → Phi j f w → Phi j f' w)
    (hstep : ∀ (i : Nat) (o : Oper), ops[i]? = some o → ∀ (b : Act) (w : World), S w → (∀ q, i = q ∨ waitB ops q i = true → U q w) → b.defers = a.defers → b.tmps.size = a.tmps.size → (∀ t, (∀ o ∈ ops, o.dst ≠ some t) → b.tmps.getD t undef = a.tmps.getD t undef) →
      (∀ j, waitB ops i j = true → Phi j (slotF b) w) → ∀ K : Act → World → Prop, (∀ v w', (o.dst = none → v = undef) → Phi i (updF (slotF b) o.dst v) w' → Keep i w w' → K (b.put o.dst v) w') → Oper.wp P o b w K Q)
    (hend : ∀ (b : Act) (w : World), S w → b.defers = a.defers → b.tmps.size = a.tmps.size → (∀ t, (∀ o ∈ ops, o.dst ≠ some t) → b.tmps.getD t undef = a.tmps.getD t undef) → (∀ i, i < ops.size → Phi i (slotF b) w) → Q .normal b w) :
    (Code.region id ops true).wp P Q a w := by
  refine wp_region_inv (FactP ops a S U Phi) hm ⟨hS0, fun q _ _ => hU0 q, fun q i hl => ?_, rfl, rfl, by simp, fun _ _ => rfl, fun i ho hl => ?_⟩ (fun listed b w i hI hi => ?_) (fun listed b w hI hr => ?_)
  · exfalso
    rw [Array.getD_eq_getD_getElem?, Array.getElem?_replicate] at hl
    split at hl <;> simp at hl
  · exfalso
    rw [Array.getD_eq_getD_getElem?, Array.getElem?_replicate] at hl
    split at hl <;> simp at hl
  · obtain ⟨hun, o, ho, hall⟩ := mem_ready.1 hi
    have hom : o ∈ ops := Array.mem_of_getElem? ho
    have hio : i < ops.size := (Array.getElem?_eq_some_iff.1 ho).1
    have hil : i < listed.size := by rw [hI.lsize]; exact hio
    have hunl : listed.getD i false = false := by
      rw [Array.getD_eq_getD_getElem?, Array.getElem?_eq_getElem hil] at hun ⊢
      exact hun
    obtain ⟨hg, hb, _, _⟩ := tidy_at htd i o ho
    have hwaits : ∀ j, waitB ops i j = true → listed.getD j false = true := fun j hj => by
      obtain ⟨e, he, h1, h2⟩ := wait_edge ho hj
      rw [← h1]; exact hall e he h2
    unfold wpOp
    rw [ho]
    dsimp only
    rw [if_pos (by unfold Region.wanted; rw [hg])]
    refine .inl (hstep i o ho b w hI.s (fun q hq => ?_) hI.defers hI.size hI.frame (fun j hj => hI.fact j ?_ (hwaits j hj)) _ fun v w' hv hP hK => ?_)
    · rcases hq with rfl | hq
      · exact hI.u _ hio hunl
      · refine hI.u _ (wait_lt hq) ?_
        rcases h : listed.getD q false with _ | _
        · rfl
        · have := hI.closed q i h hq
          rw [hunl] at this; cases this
    · obtain ⟨e, he, h1, _⟩ := wait_edge ho hj
      have := (tidy_at htd i o ho).2.2.1 e he
      omega
    have hput : slotF (b.put o.dst v) = updF (slotF b) o.dst v := slotF_put fun t ht => by rw [hI.size]; exact hb t ht
    refine ⟨hSk _ _ _ hI.s hK, fun q hq hql => ?_, fun q j hql hw => ?_, ?_, ?_, by rw [Array.size_setIfInBounds]; exact hI.lsize, fun t ht => ?_, fun j hj hlj => ?_⟩
    · have hqi : q ≠ i := fun e => by
        subst e
        rw [Array.getD_eq_getD_getElem?, Array.getElem?_setIfInBounds] at hql
        simp [hil] at hql
      rw [getD_set_ne hqi] at hql
      exact hUk i q _ _ (Ne.symm hqi) hI.s (hI.u q hq hql) hK
    · by_cases hqi : q = i
      · subst hqi
        exact getD_set (hwaits j hw)
      · rw [getD_set_ne hqi] at hql
        exact getD_set (hI.closed q j hql hw)
    · cases o.dst <;> exact hI.defers
    · cases h : o.dst with
      | none => exact hI.size
      | some t => simp [Act.put]; exact hI.size
    · have := valD_put (b := b) (d := some t) (e := o.dst) (v := v) (fun u hu he => ht o hom (by rw [he]; exact hu.symm ▸ rfl))
      exact this.trans (hI.frame t ht)
    · rw [hput]
      by_cases hji : j = i
      · subst hji
        exact hP
      · rw [getD_set_ne hji] at hlj
        have hw : waitB ops j i = false := by
          rcases h : waitB ops j i with _ | _
          · rfl
          · have := hI.closed j i hlj h
            rw [hunl] at this; cases this
        refine hPf j (slotF b) _ _ (fun t ht => ?_) (hPk i j _ _ _ hji hw hI.s (hI.fact j hj hlj) hK)
        cases hd : o.dst with
        | none => rfl
        | some s =>
          have := rd_at hrd ho hd hj hji hw
          have hst : s ≠ t := fun e => this (by rw [e]; exact ht)
          simp [updF, hst]
  · have hall : ∀ n i o, i < n → ops[i]? = some o → listed.getD i false = true := by
      intro n
      induction n with
      | zero => intro i o hi; omega
      | succ n ih =>
        intro i o hi ho
        rcases hl : listed.getD i true with _ | _
        · exfalso
          have hmem : i ∈ Region.ready .any ops listed := mem_ready.2 ⟨hl, o, ho, fun e he _ => by
            have h1 := (tidy_at htd i o ho).2.2.1 e he
            have h2 : i < ops.size := (Array.getElem?_eq_some_iff.1 ho).1
            exact ih e.on _ (by omega) (Array.getElem?_eq_getElem (by omega))⟩
          rw [hr] at hmem
          cases hmem
        · have h2 : i < listed.size := by rw [hI.lsize]; exact (Array.getElem?_eq_some_iff.1 ho).1
          rw [Array.getD_eq_getD_getElem?, Array.getElem?_eq_getElem h2] at hl ⊢
          exact hl
    exact hend b w hI.s hI.defers hI.size hI.frame fun i hi => hI.fact i hi (hall (i + 1) i _ (by omega) (Array.getElem?_eq_getElem hi))
end
/-- A frame in which the masked slots are forgotten. -/
def frameU : List Bool → Nat → List Value → (Nat → Value) → List Value
  | true :: m, k, _ :: l, u => u k :: frameU m (k + 1) l u
  | false :: m, k, x :: l, u => x :: frameU m (k + 1) l u
  | _, _, l, _ => l
theorem frameU_of (u : Nat → Value) : ∀ (m : List Bool) (k : Nat) (l l' : List Value), m.length = l.length → l'.length = l.length → (∀ j : Nat, m[j]? = some false → l'[j]? = l[j]?) → (∀ (j : Nat) (x : Value), l'[j]? = some x → u (k + j) = x) → l' = frameU m k l u
  | [], k, l, l', h1, h2, _, _ => by
    have h3 : l = [] := List.eq_nil_of_length_eq_zero h1.symm
    subst h3
    exact List.eq_nil_of_length_eq_zero h2
  | b :: m, k, [], l', h1, _, _, _ => by simp at h1
  | b :: m, k, x :: l, [], _, h2, _, _ => by simp at h2
  | b :: m, k, x :: l, y :: l', h1, h2, h3, h4 => by
    have ih := frameU_of u m (k + 1) l l' (by simpa using h1) (by simpa using h2) (fun j hj => by simpa using h3 (j + 1) (by simpa using hj)) (fun j z hz => by
      have := h4 (j + 1) z (by simpa using hz)
      rwa [show k + (j + 1) = k + 1 + j by omega] at this)
    cases b with
    | true =>
      have h5 := h4 0 y rfl
      rw [Nat.add_zero] at h5
      unfold frameU
      rw [h5, ← ih]
    | false =>
      have h5 := h3 0 rfl
      simp at h5
      unfold frameU
      rw [h5, ← ih]
def maskB (ops : Array Oper) (m : List Bool) : Bool := (List.range m.length).all fun j => m.getD j true || ops.all fun o => match o.dst with | some t => !decide (t = j) | none => true
section
variable {P : Program} {ops : Array Oper} {Q : Exit → Act → World → Prop}
set_option maxHeartbeats 1000000 in
/-- The same; at the end the frame is told, with the slots forgotten that the region writes. -/
theorem wp_region_planF {id : Nat} {tmps : Array Value} {w : World} (mask : List Bool) (rd : Nat → List Tmp) (S : World → Prop) (U : Nat → World → Prop) (Keep : Nat → World → World → Prop) (Phi : Nat → (Tmp → Value) → World → Prop)
    (hm : P.follows .mixedOrders = true) (htd : tidyB ops tmps.size = true) (hrd : rdB ops rd = true) (hml : mask.length = tmps.size) (hmk : maskB ops mask = true)
    (hS0 : S w.drew) (hU0 : ∀ q, U q w.drew)
    (hSk : ∀ i w w', S w → Keep i w w' → S w') (hUk : ∀ i q w w', i ≠ q → S w → U q w → Keep i w w' → U q w')
    (hPk : ∀ i j f w w', j ≠ i → waitB ops j i = false → S w → Phi j f w → Keep i w w' → Phi j f w')
    (hPf : ∀ j f f' w, (∀ t ∈ rd j, f' t = f t) → Phi j f w → Phi j f' w)
    (hstep : ∀ (i : Nat) (o : Oper), ops[i]? = some o → ∀ (b : Act) (w : World), S w → (∀ q, i = q ∨ waitB ops q i = true → U q w) → b.defers = [] → b.tmps.size = tmps.size → (∀ t, (∀ o ∈ ops, o.dst ≠ some t) → b.tmps.getD t undef = tmps.getD t undef) →
      (∀ j, waitB ops i j = true → Phi j (slotF b) w) → ∀ K : Act → World → Prop, (∀ v w', (o.dst = none → v = undef) → Phi i (updF (slotF b) o.dst v) w' → Keep i w w' → K (b.put o.dst v) w') → Oper.wp P o b w K Q)
    (hend : ∀ (u : Nat → Value) (w : World), S w → (∀ i, i < ops.size → Phi i (slotF ⟨(frameU mask 0 tmps.toList u).toArray, []⟩) w) → Q .normal ⟨(frameU mask 0 tmps.toList u).toArray, []⟩ w) :
    (Code.region id ops true).wp P Q ⟨tmps, []⟩ w := by
  refine wp_region_plan (a := ⟨tmps, []⟩) rd S U Keep Phi hm htd hrd hS0 hU0 hSk hUk hPk hPf hstep fun b w hS hd hz hf hfact => ?_
  obtain ⟨tm, df⟩ := b
  dsimp only at hd hz hf
  subst hd
  have key : tm.toList = frameU mask 0 tmps.toList (fun k => tm.getD k undef) := by
    refine frameU_of _ _ _ _ _ (by simpa using hml) (by simpa using hz) (fun j hj => ?_) (fun j x hx => ?_)
    · have hjl : j < mask.length := (List.getElem?_eq_some_iff.1 hj).1
      have h1 := hf j (fun o ho => by
        unfold maskB at hmk
        rw [List.all_eq_true] at hmk
        have h2 := hmk j (List.mem_range.2 hjl)
        rw [List.getD_eq_getElem?_getD, hj] at h2
        simp only [Option.getD_some, Bool.false_or] at h2
        rw [Array.all_eq_true_iff_forall_mem] at h2
        have h3 := h2 o ho
        intro e
        rw [e] at h3
        simp at h3)
      have h4 : j < tm.size := by omega
      have h5 : j < tmps.size := by omega
      rw [Array.getElem?_toList, Array.getElem?_toList, Array.getElem?_eq_getElem h4, Array.getElem?_eq_getElem h5]
      rw [Array.getD_eq_getD_getElem?, Array.getD_eq_getD_getElem?, Array.getElem?_eq_getElem h4, Array.getElem?_eq_getElem h5] at h1
      simpa using h1
    · rw [Nat.zero_add, Array.getD_eq_getD_getElem?, ← Array.getElem?_toList, hx]
      rfl
  have key2 : tm = (frameU mask 0 tmps.toList (fun k => tm.getD k undef)).toArray := by rw [← key]
  have h1 := hend (fun k => tm.getD k undef) w hS
  rw [← key2] at h1
  exact h1 hfact
end
end Go.Proofs.YtlnkjacbdolhnaaGreatDoor


/-
  A region that draws its order, kept under one condition S: one operation alone, one taken first, one that is not wanted. No program.
-/
namespace Go.Proofs.YtlnkjacbdolhnaaGreatDoor
open Go.RowKit

theorem Cel.rng {w : World} {b : Nat} {t : TypeId} {l : List Value} (h : Cel w b t l.toArray) : w.rangeAt b 0 l := fun j v hv => by rw [h.cell]; simpa using hv
section
variable {P : Program} {ops : Array Oper} {Q : Exit → Act → World → Prop} {md : Region.Mode} {S : World → Prop}
/-- One operation alone may come up. -/
theorem hOne {i : Nat} {o : Oper} {fuel : Nat} {listed : Array Bool} {a : Act} {w : World} (hr : Region.ready md ops listed = [i]) (ho' : ops.toList[i]? = some o)
    (h : ∀ K' : Act → World → Prop, Shut (∀ a w, S w → wpAnyH P md ops Q S fuel (listed.setIfInBounds i true) a w → K' a w) → if Region.wanted o (yielded ops a.tmps) = true then Oper.wp P o a w K' Q else K' (a.put o.dst undef) w) : wpAnyH P md ops Q S (fuel + 1) listed a w :=
  wpAnyH_ready hr (by simp) (AllReadyH.cons (by rw [← Array.getElem?_toList]; exact ho') (fun K' hK => h K' (fun a w hS hW => hK.out a w hS (fun _ => hW))) AllReadyH.nil)
/-- What yields wherever S holds is taken first. -/
theorem hTake {i : Nat} {oi : Oper} {v : Value} {fuel : Nat} {listed : Array Bool} {a : Act} {w : World} (hi : ops.toList[i]? = some oi)
    (hs : Region.noSelect ops = true) (hf : Region.free md ops listed i = true) (hr : (Region.ready md ops listed).contains i = true)
    (hQ : ∀ c a w, Q (.panic c) (a.put oi.dst v) w → Q (.panic c) a w) (hy : YieldsIf P ops S oi v a) (hS : S w)
    (h : wpAnyH P md ops Q S fuel (listed.setIfInBounds i true) (a.put oi.dst v) w) : wpAnyH P md ops Q S (fuel + 1) listed a w :=
  wpAnyH_take (by rw [← Array.getElem?_toList]; exact hi) hs hf hr hQ hy hS h
end
end Go.Proofs.YtlnkjacbdolhnaaGreatDoor
