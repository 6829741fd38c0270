/-
  The walk of the JSON reader's number.
-/
import Derived.Test.YtlnkjacbdolhnaaGreatDoorM17
import Derived.Deep.RegionHeld3
import Derived.Test.YtlnkjacbdolhnaaGreatDoorM13
import Derived.Test.YtlnkjacbdolhnaaGreatDoorM14
import Derived.Test.YtlnkjacbdolhnaaGreatDoorM10
namespace Go.Proofs.YtlnkjacbdolhnaaGreatDoor
open Go.RowKit

def numB : ByteArray := ⟨#[48, 49, 50, 51, 52, 53, 54, 55, 56, 57, 43, 45, 46, 101, 69]⟩
def NumEnd (b it : Nat) (w : World) (s : List UInt8) (r : List UInt8 × Int) (e : Ending) (w' : World) : Prop := But w.heap.size b w w' ∧ (if r.2 = 0 then e = .returned (.agg #[.int .u8 4, .string (ofL r.1), .slice none 0 0, .slice none 0 0]) ∧ RJ w' b s it else e = Pan r.2)
end Go.Proofs.YtlnkjacbdolhnaaGreatDoor


/-
  The walk of the JSON reader's list: things with commas between, by a closure.
-/
namespace Go.Proofs.YtlnkjacbdolhnaaGreatDoor
open Go.RowKit

/-- What a closure that reads one thing leaves; what list leaves. -/
def LEnd {σ : Type} (I : σ → List UInt8 → World → Prop) (K : World → Prop) (R : Except Int (σ × List UInt8)) (e : Ending) (w' : World) : Prop := match R with
  | .error c => e = Pan c ∧ K w'
  | .ok (st, s) => e = .returned (.tuple #[]) ∧ I st s w'
def jEnd {σ : Type} (endb : UInt8) (st : σ) (s : List UInt8) : Except Int (σ × List UInt8) := if ([endb] : List UInt8).isPrefixOf s = true then .ok (st, s.drop 1) else .error 4
def yes01 : Value → Nat
  | .bool true => 1
  | _ => 0
/-- What a round of list knows. -/
def LstI {σ : Type} (one : σ → List UInt8 → Except Int (σ × List UInt8)) (endb : UInt8) (I : σ → List UInt8 → World → Prop) (R : Except Int (σ × List UInt8)) (m : Value) (wr : World) : Prop :=
  ∃ st s, I st s wr ∧ s.length ≤ 1000000 ∧ ((m = .bool true ∧ jLoop one endb st s = R) ∨ (m = .bool false ∧ jEnd endb st s = R))
end Go.Proofs.YtlnkjacbdolhnaaGreatDoor


/-
  The walk of the JSON reader's closure that reads one item of an Array.
-/
namespace Go.Proofs.YtlnkjacbdolhnaaGreatDoor
open Go.RowKit

theorem RowO.keep {w w' : World} {B : Nat} {tS tJ : TypeId} {v : Value} {l : List Jsn} (h : RowO w B tS tJ v l) (hk : ∀ k, B ≤ k → k < w.heap.size → w'.heap[k]? = w.heap[k]?) (hs : w.heap.size ≤ w'.heap.size) : RowO w' B tS tJ v l := by
  obtain ⟨ws, h1, h2, h3, h4⟩ := h
  refine ⟨ws, h1, ⟨h2.1, ?_⟩, fun i x u hx hu => ?_, h4⟩
  · rcases h2.2 with e | ⟨g, cap, cur, e1, e2, e3, e4⟩
    · exact .inl e
    · exact .inr ⟨g, cap, cur, e1, e2, (hk g e2 (Array.getElem?_eq_some_iff.1 e3).1).trans e3, e4⟩
  · obtain ⟨q1, q2, q3, q4, q5⟩ := h3 i x u hx hu
    exact ⟨q1, q2, Nat.le_trans q3 hs, q4, OwnJ.keep x q5 (fun b hb1 hb2 => hk b (by omega) (by omega)) (Nat.le_refl _) (Nat.le_refl _)⟩
theorem RowO.but {w w' : World} {B b : Nat} {tS tJ : TypeId} {v : Value} {l : List Jsn} (h : RowO w B tS tJ v l) (hb : But w.heap.size b w w') (hlt : b < B) : RowO w' B tS tJ v l := h.keep (fun k h1 h2 => hb.block k h2 (by omega)) hb.size
/-- A world cut off behind so many blocks. -/
def wcut (w : World) (n : Nat) : World := { w with heap := w.heap.extract 0 n }
def zero4 : List Value := [.int .u8 0, .string ⟨#[]⟩, .slice none 0 0, .slice none 0 0]
/-- A value laid over the place behind a row. -/
def lay4 (w : World) (g n : Nat) (a b c d : Value) : World := (((w.setCell ⟨g, n, none⟩ a).setCell ⟨g, n + 1, none⟩ b).setCell ⟨g, n + 2, none⟩ c).setCell ⟨g, n + 3, none⟩ d
theorem lay4_size (w : World) (g n : Nat) (a b c d : Value) : (lay4 w g n a b c d).heap.size = w.heap.size := by unfold lay4; simp
theorem lay4_other (w : World) (g n : Nat) (a b c d : Value) {k : Nat} (hk : k ≠ g) : (lay4 w g n a b c d).heap[k]? = w.heap[k]? := by
  unfold lay4
  rw [Below.heap_setCell _ _ _ _ hk, Below.heap_setCell _ _ _ _ hk, Below.heap_setCell _ _ _ _ hk, Below.heap_setCell _ _ _ _ hk]
/-- One value more, somewhere in memory of the call's own (w3), appended (w4). -/
theorem RowW.snoc2 {w3 w4 : World} {B lo hi : Nat} {tS tJ : TypeId} {v v' : Value} {l : List Jsn} {ws : List OE} {x : Jsn} {vn vl : Value} (h : RowW w3 B tS tJ v l ws) (hend : ∀ u ∈ ws, u.2.2.2 ≤ lo) (hBl : B ≤ lo) (hlh : lo ≤ hi) (hhi : hi ≤ w3.heap.size)
    (hx : OwnJ w3 tS tJ x lo hi vn vl) (hout : ∀ g, v.ownBlock = some g → ¬ (lo ≤ g ∧ g < hi))
    (hown : w4.ownsRow B tJ 4 v' (l.length + 1) (rowCells l ws ++ encJ (x, vn, vl)))
    (hgr : w3.grownBy w4 v.ownBlock) (hbl : v'.ownBlock = v.ownBlock ∨ ∃ k, v'.ownBlock = some k ∧ w3.heap.size ≤ k) : RowW w4 B tS tJ v' (l ++ [x]) (ws ++ [(vn, vl, lo, hi)]) := by
  obtain ⟨h1, h2, h3, h4⟩ := h
  have hgs := hgr.size
  have hkeep : ∀ (y : Jsn) (a b : Nat) (yn yl : Value), OwnJ w3 tS tJ y a b yn yl → b ≤ w3.heap.size → (∀ g, v.ownBlock = some g → ¬ (a ≤ g ∧ g < b)) → OwnJ w4 tS tJ y a b yn yl := fun y a b yn yl hy hb hg =>
    OwnJ.keep y hy (fun c h5 h6 => hgr.block c (by omega) (fun e => hg c e.symm ⟨h5, h6⟩)) (Nat.le_refl _) (Nat.le_refl _)
  have hvb : ∀ (a b : Nat), b ≤ w3.heap.size → (∀ g, v.ownBlock = some g → ¬ (a ≤ g ∧ g < b)) → ∀ g, v'.ownBlock = some g → ¬ (a ≤ g ∧ g < b) := fun a b hb hg g hg' => by
    rcases hbl with e | ⟨k, e, hk⟩
    · exact hg g (by rw [← e]; exact hg')
    · rw [e] at hg'; injection hg' with hg'; omega
  refine ⟨by simp [h1], ?_, fun i y u hy hu => ?_, fun i j u z hij hu hz => ?_⟩
  · rw [rowCells_snoc h1, List.length_append]
    exact hown
  · by_cases hi' : i < l.length
    · rw [List.getElem?_append_left hi'] at hy
      rw [List.getElem?_append_left (by omega)] at hu
      obtain ⟨q1, q2, q3, q4, q5⟩ := h3 i y u hy hu
      exact ⟨q1, q2, by omega, hvb _ _ (by omega) q4, hkeep y _ _ _ _ q5 (by omega) q4⟩
    · rw [List.getElem?_append_right (by omega)] at hy
      rw [List.getElem?_append_right (by omega)] at hu
      have hi0 : i - l.length = 0 := by
        have := (List.getElem?_eq_some_iff.1 hy).1
        simp at this; omega
      rw [h1, hi0] at hu
      rw [hi0] at hy
      simp at hy hu
      subst hy
      subst hu
      exact ⟨hBl, hlh, by dsimp only; omega, hvb _ _ hhi hout, hkeep _ _ _ _ _ hx hhi hout⟩
  · have hjl : j < (ws ++ [(vn, vl, lo, hi)]).length := (List.getElem?_eq_some_iff.1 hz).1
    simp at hjl
    rw [List.getElem?_append_left (by omega)] at hu
    by_cases hj : j < ws.length
    · rw [List.getElem?_append_left hj] at hz
      exact h4 i j u z hij hu hz
    · rw [List.getElem?_append_right (by omega), show j - ws.length = 0 by omega] at hz
      simp at hz
      subst hz
      exact hend u (List.mem_of_getElem? hu)
end Go.Proofs.YtlnkjacbdolhnaaGreatDoor


/-
  The walk of the JSON reader's closure that reads one item of an Array.
-/
namespace Go.Proofs.YtlnkjacbdolhnaaGreatDoor
open Go.RowKit

/-- What value leaves. -/
def ValJ (b : Nat) (w : World) (R : JR) (e : Ending) (w' : World) : Prop := But w.heap.size b w w' ∧ (match R with
  | .error c => e = Pan c
  | .ok (j, it, r) => ∃ vn vl, e = .returned (.agg #[.int .u8 j.kind, .string j.text, vn, vl]) ∧ RJ w' b r it ∧ OwnJ w' 9 25 j w.heap.size w'.heap.size vn vl ∧ it ≤ 65536)
/-- value, one level further in. -/
def ValSaysJ (b : Nat) (d : Int) (val : Nat → List UInt8 → JR) : Prop := ∀ (s : List UInt8) (it : Nat) (W : World), EnvB b W → RJ W b s it → s.length ≤ 1000000 → it ≤ 65536 →
  Calls Tryz.prog 35 #[.pointer (some ⟨b, 0, none⟩), .int .i64 d] W (ValJ b W (val it s))
/-- What is known between the items of an Array: the reader; the call's variables, in blocks A, A + 1, A + 2; the Array, in block g. -/
structure IA (w : World) (b : Nat) (d : Int) (g B : Nat) (st : SA) (s : List UInt8) (W : World) : Prop where
  rj : RJ W b s st.1
  env : EnvB b w
  but : But w.heap.size b w W
  it : st.1 ≤ 65536
  size : B ≤ W.heap.size
  lt : b < w.heap.size ∧ w.heap.size + 2 < g ∧ g < B
  c0 : Cel W w.heap.size 86 #[.pointer (some ⟨b, 0, none⟩)]
  c1 : Cel W (w.heap.size + 1) 3 #[.int .i64 d]
  c2 : Cel W (w.heap.size + 2) 25 zero4.toArray
  row : ∃ v, Cel W g 25 #[.int .u8 6, .string ⟨#[]⟩, .slice none 0 0, v] ∧ RowO W B 9 25 v st.2 ∧ st.2.length ≤ st.1
theorem IA.step {w : World} {b : Nat} {d : Int} {g B : Nat} {st : SA} {s s' : List UInt8} {W W' : World} (h : IA w b d g B st s W) (hb : But W.heap.size b W W') (hr : RJ W' b s' st.1) : IA w b d g B st s' W' := by
  obtain ⟨h1, h2, h3, h4, h5, ⟨h6, h6', h6''⟩, h7, h8, h9, v, h10, h11, h12⟩ := h
  have hs := h3.size
  exact ⟨hr, h2, h3.trans (hb.mono hs), h4, Nat.le_trans h5 hb.size, ⟨h6, h6', h6''⟩, h7.but hb h7.lt (by omega), h8.but hb h8.lt (by omega), h9.but hb h9.lt (by omega), v, h10.but hb h10.lt (by omega), h11.but hb (by omega), h12⟩
theorem lay4_set (w4 : World) (gg n g : Nat) (a1 a2 a3 a4 v' : Value) {k : Nat} (hk : k ≠ gg) (hk2 : k ≠ g) : ((lay4 w4 gg n a1 a2 a3 a4).setCell ⟨g, 3, none⟩ v').heap[k]? = w4.heap[k]? :=
  (Below.heap_setCell _ ⟨g, 3, none⟩ _ k hk2).trans (lay4_other _ _ _ _ _ _ _ hk)
set_option maxHeartbeats 2000000 in
/-- One item more. -/
theorem IA.put {w W w3 w4 : World} {b : Nat} {d : Int} {g B gg n it2 : Nat} {st : SA} {s r : List UInt8} {x : Jsn} {v' a1 a2 a3 a4 : Value} (h : IA w b d g B st s W) (h3 : But W.heap.size b W w3) (hr : RJ w3 b r it2) (hit : it2 ≤ 65536) (hlt : st.1 < it2)
    (hgg : B ≤ gg) (hlow : ∀ k, k < B → w4.heap[k]? = w3.heap[k]?) (hsz : w3.heap.size ≤ w4.heap.size) (hos : w4.os = w3.os) (htp : w4.tape = w3.tape) (hou : w4.output = w3.output)
    (hrow : RowO (lay4 w4 gg n a1 a2 a3 a4) B 9 25 v' (st.2 ++ [x])) : IA w b d g B (it2, st.2 ++ [x]) r ((lay4 w4 gg n a1 a2 a3 a4).setCell ⟨g, 3, none⟩ v') := by
  obtain ⟨h1, h2, hB, h4, h5, ⟨h6, h6', h6''⟩, h7, h8, h9, v, h10, h11, h12⟩ := h
  have hs := hB.size
  have hs3 := h3.size
  obtain ⟨W6, hW6⟩ : ∃ W6, (lay4 w4 gg n a1 a2 a3 a4).setCell ⟨g, 3, none⟩ v' = W6 := ⟨_, rfl⟩
  have hat : ∀ k, k < B → k ≠ g → W6.heap[k]? = w3.heap[k]? := fun k hk hg => by
    have h := lay4_set w4 gg n g a1 a2 a3 a4 v' (k := k) (by omega) hg
    rw [hW6] at h
    exact h.trans (hlow k hk)
  have hat2 : ∀ k, k < B → k ≠ g → k ≠ b → W6.heap[k]? = W.heap[k]? := fun k hk hg hb => (hat k hk hg).trans (h3.block k (by omega) hb)
  have hsize : W6.heap.size = w4.heap.size := by rw [← hW6]; simp [lay4_size]
  have hg0 : (lay4 w4 gg n a1 a2 a3 a4).heap[g]? = W.heap[g]? := (lay4_other w4 gg n a1 a2 a3 a4 (k := g) (by omega)).trans ((hlow g h6'').trans (h3.block g (by omega) (by omega)))
  have hc : Cel (lay4 w4 gg n a1 a2 a3 a4) g 25 #[.int .u8 6, .string ⟨#[]⟩, .slice none 0 0, v] := hg0.trans h10
  have hc2 : Cel W6 g 25 #[.int .u8 6, .string ⟨#[]⟩, .slice none 0 0, v'] := by rw [← hW6]; exact hc.set 3 v'
  have hr2 : RowO W6 B 9 25 v' (st.2 ++ [x]) := by
    rw [← hW6]
    exact hrow.keep (fun k h1 h2 => Below.heap_setCell _ _ _ _ (by show k ≠ g; omega)) (by simp)
  have e1 : W6.os = w.os := by rw [← hB.os, ← h3.os, ← hos, ← hW6]; rfl
  have e2 : W6.tape = w.tape := by rw [← hB.tape, ← h3.tape, ← htp, ← hW6]; rfl
  have e3 : W6.output = w.output := by rw [← hB.output, ← h3.output, ← hou, ← hW6]; rfl
  rw [hW6]
  clear hW6
  refine ⟨(hat b (by omega) (by omega)).trans hr, h2, ⟨e1, e2, e3, by rw [hsize]; omega, fun k hk hb => (hat2 k (by omega) (by omega) hb).trans (hB.block k hk hb)⟩, hit, by rw [hsize]; omega, ⟨h6, h6', h6''⟩, (hat2 _ (by omega) (by omega) (by omega)).trans h7, (hat2 _ (by omega) (by omega) (by omega)).trans h8, (hat2 _ (by omega) (by omega) (by omega)).trans h9, v', hc2, hr2, ?_⟩
  simp; omega
end Go.Proofs.YtlnkjacbdolhnaaGreatDoor


/-
  The walk of the JSON reader's closure that reads one member of an Object: what is known between the members.
-/
namespace Go.Proofs.YtlnkjacbdolhnaaGreatDoor
open Go.RowKit Go.WideMaps Go.Maps

theorem RowW.keep {w w' : World} {B : Nat} {tS tJ : TypeId} {v : Value} {l : List Jsn} {ws : List OE} (h : RowW w B tS tJ v l ws) (hk : ∀ k, B ≤ k → k < w.heap.size → w'.heap[k]? = w.heap[k]?) (hs : w.heap.size ≤ w'.heap.size) : RowW w' B tS tJ v l ws := by
  obtain ⟨h1, h2, h3, h4⟩ := h
  refine ⟨h1, ⟨h2.1, ?_⟩, fun i x u hx hu => ?_, h4⟩
  · rcases h2.2 with e | ⟨g, cap, cur, e1, e2, e3, e4⟩
    · exact .inl e
    · exact .inr ⟨g, cap, cur, e1, e2, (hk g e2 (Array.getElem?_eq_some_iff.1 e3).1).trans e3, e4⟩
  · obtain ⟨q1, q2, q3, q4, q5⟩ := h3 i x u hx hu
    exact ⟨q1, q2, Nat.le_trans q3 hs, q4, OwnJ.keep x q5 (fun b hb1 hb2 => hk b (by omega) (by omega)) (Nat.le_refl _) (Nat.le_refl _)⟩
theorem RowW.ends {w : World} {B : Nat} {tS tJ : TypeId} {v : Value} {l : List Jsn} {ws : List OE} (h : RowW w B tS tJ v l ws) : ∀ u ∈ ws, u.2.2.2 ≤ w.heap.size := fun u hu => by
  obtain ⟨i, hi'⟩ := List.mem_iff_getElem?.1 hu
  have hil : i < l.length := by have := (List.getElem?_eq_some_iff.1 hi').1; rw [h.1] at this; exact this
  exact (h.2.2.1 i _ u (List.getElem?_eq_getElem hil) hi').2.2.1
theorem ownRow_keep {w w' : World} {B k : Nat} {t : TypeId} {v : Value} {n : Nat} {xs : List Value} (h : w.ownsRow B t k v n xs) (hk : ∀ g, v.ownBlock = some g → w'.heap[g]? = w.heap[g]?) : w'.ownsRow B t k v n xs := by
  refine ⟨h.1, ?_⟩
  rcases h.2 with e | ⟨g, cap, cur, e1, e2, e3, e4⟩
  · exact .inl e
  · exact .inr ⟨g, cap, cur, e1, e2, (hk g (by rw [e1]; rfl)).trans e3, e4⟩
/-- What the map holds: each name once. -/
def SeenN (D : DataW Unit) (ns : List ByteArray) : Prop := ∀ x : ByteArray, D.atKey (.string x.data.toList) (.lit (.int .i64 0)) = .lit (.int .i64 (if hasB ns x = true then 1 else 0))
theorem SeenN.step {D : DataW Unit} {ns : List ByteArray} {S : ByteArray} (h : SeenN D ns) (hD : IsMap D) : SeenN (D.put (.string S.data.toList) (.lit (.int .i64 1))) (ns ++ [S]) := fun x => by
  have h1 : hasB (ns ++ [S]) x = (hasB ns x || decide (S = x)) := by unfold hasB; simp
  rw [h1]
  by_cases e : x = S
  · subst e
    rw [atKey_put_same hD (key_lit x)]; simp
  · rw [atKey_put_other (fun he => e (jstr_ext (by injection he)))]
    rw [h x, decide_eq_false (fun he => e he.symm), Bool.or_false]
/-- The names' row lies apart from the values. -/
def ApartN (vN vL : Value) (ws : List OE) : Prop := ∀ gn, vN.ownBlock = some gn → vL.ownBlock ≠ some gn ∧ ∀ u ∈ ws, ¬ (u.2.2.1 ≤ gn ∧ gn < u.2.2.2)
/-- What is known within a member of an Object: ms: the names in the map; ns: those in the row. -/
structure IO (w : World) (b : Nat) (d : Int) (g B it : Nat) (ms ns : List ByteArray) (l : List Jsn) (s : List UInt8) (W : World) : Prop where
  rj : RJ W b s it
  env : EnvB b w
  but : But w.heap.size b w W
  it' : it ≤ 65536
  size : B ≤ W.heap.size
  lt : b < w.heap.size ∧ w.heap.size + 2 < g ∧ g + 2 < B
  c0 : Cel W w.heap.size 86 #[.pointer (some ⟨b, 0, none⟩)]
  c1 : Cel W (w.heap.size + 1) 3 #[.int .i64 d]
  c2 : Cel W (w.heap.size + 2) 25 zero4.toArray
  c3 : Cel W (g + 2) 140 #[.map (some (g + 1))]
  map : ∃ D k, k ≤ ms.length ∧ W.ownsMap Tryz.prog 9 (plainElem Tryz.prog 3) (g + 1) k D ∧ SeenN D ms
  row : ∃ vN vL ws, Cel W g 25 #[.int .u8 7, .string ⟨#[]⟩, vN, vL] ∧ W.ownsRow B 9 1 vN ns.length (ns.map Value.string) ∧ RowW W B 9 25 vL l ws ∧ ApartN vN vL ws
  len : l.length ≤ it
section
variable {w W W' : World} {b : Nat} {d : Int} {g B it : Nat} {ms ms' ns : List ByteArray} {l : List Jsn} {s s' : List UInt8}
theorem IO.keep (h : IO w b d g B it ms ns l s W) (hos : W'.os = W.os) (htp : W'.tape = W.tape) (hou : W'.output = W.output) (hsz : W.heap.size ≤ W'.heap.size) (hblk : ∀ k, k < W.heap.size → k ≠ b → k ≠ g + 1 → W'.heap[k]? = W.heap[k]?)
    (hr : RJ W' b s' it) (hm : ∃ D k, k ≤ ms'.length ∧ W'.ownsMap Tryz.prog 9 (plainElem Tryz.prog 3) (g + 1) k D ∧ SeenN D ms') : IO w b d g B it ms' ns l s' W' := by
  obtain ⟨h1, h2, h3, h4, h5, ⟨h6, h6', h6''⟩, h7, h8, h9, h10, h11, ⟨vN, vL, ws, q1, q2, q3, q4⟩, h13⟩ := h
  have hs := h3.size
  refine ⟨hr, h2, ⟨hos.trans h3.os, htp.trans h3.tape, hou.trans h3.output, Nat.le_trans hs hsz, fun k hk hb => (hblk k (by omega) hb (by omega)).trans (h3.block k hk hb)⟩, h4, by omega, ⟨h6, h6', h6''⟩,
    (hblk _ (by omega) (by omega) (by omega)).trans h7, (hblk _ (by omega) (by omega) (by omega)).trans h8, (hblk _ (by omega) (by omega) (by omega)).trans h9, (hblk _ (by omega) (by omega) (by omega)).trans h10, hm,
    ⟨vN, vL, ws, (hblk _ (by omega) (by omega) (by omega)).trans q1, ownRow_keep q2 (fun k hk => ?_), q3.keep (fun k hk1 hk2 => hblk k hk2 (by omega) (by omega)) hsz, q4⟩, h13⟩
  have := q2.lt k hk
  exact hblk k this.2 (by omega) (by omega)
theorem IO.step (h : IO w b d g B it ms ns l s W) (hb : But W.heap.size b W W') (hr : RJ W' b s' it) : IO w b d g B it ms ns l s' W' := by
  refine h.keep hb.os hb.tape hb.output hb.size (fun k h1 h2 _ => hb.block k h1 h2) hr ?_
  obtain ⟨D, k, h1, h2, h3⟩ := h.map
  exact ⟨D, k, h1, h2.kept hb.grow (by have := h.lt; simp; omega), h3⟩
theorem IO.envW (h : IO w b d g B it ms ns l s W) : EnvB b W := h.env.but h.but
set_option maxRecDepth 100000 in
/-- A name more. -/
theorem IO.name (h : IO w b d g B it ms ns l s W) (S : ByteArray) (hn : ns.length ≤ 1000000) :
    ∃ A cn v' w4 A' cn', W.cell? ⟨g, 2, none⟩ = some (.slice A ns.length cn) ∧ (Builtin.append_ #[22, 22] 22 #[.slice A ns.length cn, .slice (some ⟨W.heap.size, 0, none⟩) 1 1]).run Tryz.prog (W.alloc (.cells #[.string S] 9)) = .ok v' w4 ∧
      v' = .slice A' (ns.length + 1) cn' ∧ w4.cell? ⟨g, 2, none⟩ = some (.slice A ns.length cn) ∧ w4.frozen? ⟨g, 2, none⟩ = false ∧ IO w b d g B it ms (ns ++ [S]) l s (w4.setCell ⟨g, 2, none⟩ v') := by
  obtain ⟨h1, h2, h3, h4, h5, ⟨h6, h6', h6''⟩, h7, h8, h9, h10, ⟨D, k, m1, m2, m3⟩, ⟨vN, vL, ws, q1, q2, q3, q4⟩, h13⟩ := h
  obtain ⟨i0, hi0, hz0, hz1, hz2⟩ := info_parts infoS
  have hs := h3.size
  obtain ⟨A, cn, rfl⟩ : ∃ A cn, vN = .slice A ns.length cn := by
    rcases q2.2 with ⟨e, h0⟩ | ⟨gn, cap, cur, e, _⟩
    · exact ⟨none, 0, by rw [e, h0]⟩
    · exact ⟨_, cap, e⟩
  obtain ⟨v', w4, hrun, r2, r3, _, r5⟩ := run_append_own_at (P := Tryz.prog) (W.alloc (.cells #[.string S] 9)) B 22 22 9 i0 _ 1 16 Tryz.underlying22 hi0 hz0 hz1 hz2 rfl (by decide) _ ns.length (ns.map Value.string) (q2.alloc _) ⟨W.heap.size, 0, none⟩ 1 1 [.string S] rfl
    (fun j u hu => by
      have hadd : (⟨W.heap.size, 0, none⟩ : Addr).add j = ⟨W.heap.size, j, none⟩ := by unfold Addr.add; split <;> simp_all
      rw [hadd, (Cel.fresh W 9 #[.string S]).cell]
      simpa using hu)
    (fun u hu => by simp at hu; rw [hu]; rfl) (by unfold maxLen; omega) (by omega) (by simp; omega)
  have hvn := q2.lt
  have hvb : ∀ g', Value.ownBlock v' = some g' → Value.ownBlock (.slice A ns.length cn) = some g' ∨ W.heap.size + 1 = g' := fun g' hg => by
    rcases r5 with e | e
    · exact .inl (e ▸ hg)
    · right; rw [e] at hg; injection hg with hg; simpa using hg
  obtain ⟨A', cn', e'⟩ : ∃ A' cn', v' = .slice A' (ns.length + 1) cn' := by
    rcases r2.2 with ⟨e, h0⟩ | ⟨gn, cap, cur, e, _⟩
    · omega
    · exact ⟨_, cap, e⟩
  have hblk : ∀ k, k < W.heap.size → Value.ownBlock (.slice A ns.length cn) ≠ some k → w4.heap[k]? = W.heap[k]? := fun k hk hne =>
    (r3.block k (by simp; omega) (fun e => hne e.symm)).trans (Below.heap_alloc W _ k hk)
  have hbl : ∀ k, k < W.heap.size → k < B → w4.heap[k]? = W.heap[k]? := fun k hk hkB => hblk k hk (fun e => by have := (hvn k e).1; omega)
  have hsz : W.heap.size ≤ w4.heap.size := by have := r3.size; simp at this; omega
  have hgb := hbl g (by omega) (by omega)
  refine ⟨A, cn, v', w4, A', cn', q1.cell 2, hrun, e', (World.cell?_of_block (a := ⟨g, 2, none⟩) hgb).trans (q1.cell 2), (World.frozen?_of_block (a := ⟨g, 2, none⟩) hgb).trans (q1.froz 2), ?_⟩
  obtain ⟨W6, hW6⟩ : ∃ W6, w4.setCell ⟨g, 2, none⟩ v' = W6 := ⟨_, rfl⟩
  have hsz6 : W6.heap.size = w4.heap.size := by rw [← hW6]; simp
  have h6b : ∀ k, k ≠ g → W6.heap[k]? = w4.heap[k]? := fun k hk => by rw [← hW6]; exact Below.heap_setCell w4 ⟨g, 2, none⟩ v' k hk
  have hcg : Cel W6 g 25 #[.int .u8 7, .string ⟨#[]⟩, v', vL] := by rw [← hW6]; exact Cel.set (hgb.trans q1) 2 v'
  have e1 : W6.os = W.os := by rw [← hW6]; exact r3.os
  have e2 : W6.tape = W.tape := by rw [← hW6]; exact r3.tape
  have e3 : W6.output = W.output := by rw [← hW6]; exact r3.output
  rw [hW6]
  clear hW6
  have hlow : ∀ k, k < W.heap.size → k < B → k ≠ g → W6.heap[k]? = W.heap[k]? := fun k hk hkB hkg => (h6b k hkg).trans (hbl k hk hkB)
  refine ⟨(hlow b (by omega) (by omega) (by omega)).trans h1, h2, ⟨e1.trans h3.os, e2.trans h3.tape, e3.trans h3.output, by omega, fun k hk hb => (hlow k (by omega) (by omega) (by omega)).trans (h3.block k hk hb)⟩, h4, by omega, ⟨h6, h6', h6''⟩,
    (hlow _ (by omega) (by omega) (by omega)).trans h7, (hlow _ (by omega) (by omega) (by omega)).trans h8, (hlow _ (by omega) (by omega) (by omega)).trans h9, (hlow _ (by omega) (by omega) (by omega)).trans h10, ⟨D, k, m1, ?_, m3⟩, ⟨v', vL, ws, hcg, ?_, ?_, ?_⟩, h13⟩
  · obtain ⟨es, clock, hb, F, p1, p2⟩ := m2
    exact ⟨es, clock, (hlow _ (by omega) (by omega) (by omega)).trans hb, F, p1, p2⟩
  · have : (ns ++ [S]).map Value.string = ns.map Value.string ++ [.string S] := by simp
    rw [this, List.length_append]
    exact ownRow_keep r2 (fun k hk => h6b k (by have := r2.lt k hk; omega))
  · refine ⟨q3.1, ownRow_keep q3.2.1 (fun k hk => ?_), fun i x u hx hu => ?_, q3.2.2.2⟩
    · have := q3.2.1.lt k hk
      exact (h6b k (by omega)).trans (hblk k this.2 (fun e => (q4 k e).1 hk))
    · obtain ⟨p1, p2, p3, p4, p5⟩ := q3.2.2.1 i x u hx hu
      exact ⟨p1, p2, by omega, p4, OwnJ.keep x p5 (fun c hc1 hc2 => (h6b c (by omega)).trans (hblk c (by omega) (fun e => (q4 c e).2 u (List.mem_of_getElem? hu) ⟨hc1, hc2⟩))) (Nat.le_refl _) (Nat.le_refl _)⟩
  · intro gn hgn
    rcases hvb gn hgn with e | e
    · exact q4 gn e
    · refine ⟨fun e2 => ?_, fun u hu => ?_⟩
      · have := q3.2.1.lt gn e2; omega
      · have := q3.ends u hu; omega
end
end Go.Proofs.YtlnkjacbdolhnaaGreatDoor


/-
  The walk of the JSON reader's closure that reads one member of an Object.
-/
namespace Go.Proofs.YtlnkjacbdolhnaaGreatDoor
open Go.RowKit Go.WideMaps Go.Maps

set_option maxHeartbeats 2000000 in
/-- One member more. -/
theorem IO.put {w W w3 w4 : World} {b : Nat} {d : Int} {g B gg n it it2 lo hi : Nat} {ms ns : List ByteArray} {l : List Jsn} {s r : List UInt8} {x : Jsn} {vN vL vn vl a1 a2 a3 a4 : Value} {ws : List OE} {c1 c2 : Nat} (h : IO w b d g B it ms ns l s W)
    (hC : Cel W g 25 #[.int .u8 7, .string ⟨#[]⟩, vN, vL]) (hN : W.ownsRow B 9 1 vN ns.length (ns.map Value.string)) (hA : ApartN vN vL ws)
    (h3 : But W.heap.size b W w3) (hr : RJ w3 b r it2) (hit : it2 ≤ 65536) (hlt : it < it2) (hlo : W.heap.size ≤ lo)
    (hgg : B ≤ gg) (hlow : ∀ k, k < B → w4.heap[k]? = w3.heap[k]?) (hsz : w3.heap.size ≤ w4.heap.size) (hos : w4.os = w3.os) (htp : w4.tape = w3.tape) (hou : w4.output = w3.output) (hge : vL.ownBlock = some gg ∨ gg = w3.heap.size) (hgr : w3.grownBy w4 vL.ownBlock)
    (hrow : RowW (lay4 w4 gg n a1 a2 a3 a4) B 9 25 (.slice (some ⟨gg, 0, none⟩) c1 c2) (l ++ [x]) (ws ++ [(vn, vl, lo, hi)])) : IO w b d g B it2 ms ns (l ++ [x]) r ((lay4 w4 gg n a1 a2 a3 a4).setCell ⟨g, 3, none⟩ (.slice (some ⟨gg, 0, none⟩) c1 c2)) := by
  obtain ⟨h1, h2, hB, h4, h5, ⟨h6, h6', h6''⟩, h7, h8, h9, h10, ⟨D, k, m1, m2, m3⟩, _, h13⟩ := h
  obtain ⟨v', hv'⟩ : ∃ v' : Value, .slice (some ⟨gg, 0, none⟩) c1 c2 = v' := ⟨_, rfl⟩
  have hvb : v'.ownBlock = some gg := by rw [← hv']; rfl
  rw [hv'] at hrow ⊢
  clear hv'
  have hs := hB.size
  have hs3 := h3.size
  obtain ⟨W6, hW6⟩ : ∃ W6, (lay4 w4 gg n a1 a2 a3 a4).setCell ⟨g, 3, none⟩ v' = W6 := ⟨_, rfl⟩
  have hoth : ∀ k, k ≠ gg → k ≠ g → W6.heap[k]? = w4.heap[k]? := fun k hk hg => by
    have h := lay4_set w4 gg n g a1 a2 a3 a4 v' hk hg
    rw [hW6] at h
    exact h
  have hat2 : ∀ k, k < B → k ≠ g → k ≠ b → W6.heap[k]? = W.heap[k]? := fun k hk hg hb => (hoth k (by omega) hg).trans ((hlow k hk).trans (h3.block k (by omega) hb))
  have hsize : W6.heap.size = w4.heap.size := by rw [← hW6]; simp [lay4_size]
  have hg0 : (lay4 w4 gg n a1 a2 a3 a4).heap[g]? = W.heap[g]? := (lay4_other w4 gg n a1 a2 a3 a4 (k := g) (by omega)).trans ((hlow g (by omega)).trans (h3.block g (by omega) (by omega)))
  have hc2 : Cel W6 g 25 #[.int .u8 7, .string ⟨#[]⟩, vN, v'] := by rw [← hW6]; exact Cel.set (hg0.trans hC) 3 v'
  have hr2 : RowW W6 B 9 25 v' (l ++ [x]) (ws ++ [(vn, vl, lo, hi)]) := by
    rw [← hW6]
    exact hrow.keep (fun k h1 h2 => Below.heap_setCell _ _ _ _ (by show k ≠ g; omega)) (by simp)
  have e1 : W6.os = w.os := by rw [← hB.os, ← h3.os, ← hos, ← hW6]; rfl
  have e2 : W6.tape = w.tape := by rw [← hB.tape, ← h3.tape, ← htp, ← hW6]; rfl
  have e3 : W6.output = w.output := by rw [← hB.output, ← h3.output, ← hou, ← hW6]; rfl
  rw [hW6]
  clear hW6
  have hNb : ∀ gn, vN.ownBlock = some gn → B ≤ gn ∧ gn < W.heap.size ∧ gn ≠ gg := fun gn hgn => by
    have := hN.lt gn hgn
    refine ⟨this.1, this.2, fun e => ?_⟩
    rcases hge with e2 | e2
    · exact (hA gn hgn).1 (by rw [e2, e])
    · omega
  refine ⟨(hoth b (by omega) (by omega)).trans ((hlow b (by omega)).trans hr), h2, ⟨e1, e2, e3, by rw [hsize]; omega, fun k hk hb => (hat2 k (by omega) (by omega) hb).trans (hB.block k hk hb)⟩, hit, by rw [hsize]; omega, ⟨h6, h6', h6''⟩,
    (hat2 _ (by omega) (by omega) (by omega)).trans h7, (hat2 _ (by omega) (by omega) (by omega)).trans h8, (hat2 _ (by omega) (by omega) (by omega)).trans h9, (hat2 _ (by omega) (by omega) (by omega)).trans h10, ⟨D, k, m1, ?_, m3⟩, ⟨vN, v', _, hc2, ?_, hr2, ?_⟩, ?_⟩
  · obtain ⟨es, clock, hb, F, p1, p2⟩ := m2
    exact ⟨es, clock, (hat2 _ (by omega) (by omega) (by omega)).trans hb, F, p1, p2⟩
  · refine ownRow_keep hN fun gn hgn => ?_
    obtain ⟨p1, p2, p3⟩ := hNb gn hgn
    refine (hoth gn p3 (by omega)).trans ((hgr.block gn (by omega) (fun e => (hA gn hgn).1 e.symm)).trans (h3.block gn p2 (by omega)))
  · intro gn hgn
    obtain ⟨p1, p2, p3⟩ := hNb gn hgn
    refine ⟨fun e => p3 (by rw [hvb] at e; injection e with e; exact e.symm), fun u hu => ?_⟩
    rcases List.mem_append.1 hu with hu | hu
    · exact (hA gn hgn).2 u hu
    · simp at hu; subst hu; dsimp only; omega
  · simp; omega
end Go.Proofs.YtlnkjacbdolhnaaGreatDoor
