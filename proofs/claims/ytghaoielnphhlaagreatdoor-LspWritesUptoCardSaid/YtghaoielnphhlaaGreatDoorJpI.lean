/-
  The walk of the JSON reader's closure that reads one item of an Array.
-/
import Derived.Test.YtghaoielnphhlaaGreatDoorM24
import Derived.Test.YtghaoielnphhlaaGreatDoorM18
namespace Go.Proofs.YtghaoielnphhlaaGreatDoor
open Go.RowKit

/-- What value leaves. -/
def ValJ (b : Nat) (w : World) (R : JR) (e : Ending) (w' : World) : Prop := But w.heap.size b w w' ∧ (match R with
  | .error c => e = Pan c
  | .ok (j, it, r) => ∃ vn vl, e = .returned (.agg #[.int .u8 j.kind, .string j.text, vn, vl]) ∧ RJ w' b r it ∧ OwnJ w' 9 25 j w.heap.size w'.heap.size vn vl ∧ it ≤ 65536)
/-- value, one level further in. -/
def ValSaysJ (b : Nat) (d : Int) (val : Nat → List UInt8 → JR) : Prop := ∀ (s : List UInt8) (it : Nat) (W : World), EnvB b W → RJ W b s it → s.length ≤ 1000000 → it ≤ 65536 →
  Calls Tryz.prog 57 #[.pointer (some ⟨b, 0, none⟩), .int .i64 d] W (ValJ b W (val it s))
/-- What is known between the items of an Array: the reader; the call's variables, in blocks A, A + 1, A + 2; the Array, in block g. -/
structure IA (w : World) (b : Nat) (d : Int) (g B : Nat) (st : SA) (s : List UInt8) (W : World) : Prop where
  rj : RJ W b s st.1
  env : EnvB b w
  but : But w.heap.size b w W
  it : st.1 ≤ 65536
  size : B ≤ W.heap.size
  lt : b < w.heap.size ∧ w.heap.size + 2 < g ∧ g < B
  c0 : Cel W w.heap.size 95 #[.pointer (some ⟨b, 0, none⟩)]
  c1 : Cel W (w.heap.size + 1) 3 #[.int .i64 d]
  c2 : Cel W (w.heap.size + 2) 25 zero4.toArray
  row : ∃ v, Cel W g 25 #[.int .u8 6, .string ⟨#[]⟩, .slice none 0 0, v] ∧ RowO W B 9 25 v st.2 ∧ st.2.length ≤ st.1
theorem IA.step {w : World} {b : Nat} {d : Int} {g B : Nat} {st : SA} {s s' : List UInt8} {W W' : World} (h : IA w b d g B st s W) (hb : But W.heap.size b W W') (hr : RJ W' b s' st.1) : IA w b d g B st s' W' := by
  obtain ⟨h1, h2, h3, h4, h5, ⟨h6, h6', h6''⟩, h7, h8, h9, v, h10, h11, h12⟩ := h
  have hs := h3.size
  exact ⟨hr, h2, h3.trans (hb.mono hs), h4, Nat.le_trans h5 hb.size, ⟨h6, h6', h6''⟩, h7.but hb h7.lt (by omega), h8.but hb h8.lt (by omega), h9.but hb h9.lt (by omega), v, h10.but hb h10.lt (by omega), h11.but hb (by omega), h12⟩
theorem lay4_set (w4 : World) (gg n g : Nat) (a1 a2 a3 a4 v' : Value) {k : Nat} (hk : k ≠ gg) (hk2 : k ≠ g) : ((lay4 w4 gg n a1 a2 a3 a4).setCell ⟨g, 3, none⟩ v').heap[k]? = w4.heap[k]? :=
  (Below.heap_setCell _ ⟨g, 3, none⟩ _ k hk2).trans (lay4_other _ _ _ _ _ _ _ hk)
set_option maxHeartbeats 2000000 in
/-- One item more. -/
theorem IA.put {w W w3 w4 : World} {b : Nat} {d : Int} {g B gg n it2 : Nat} {st : SA} {s r : List UInt8} {x : Jsn} {v' a1 a2 a3 a4 : Value} (h : IA w b d g B st s W) (h3 : But W.heap.size b W w3) (hr : RJ w3 b r it2) (hit : it2 ≤ 65536) (hlt : st.1 < it2)
    (hgg : B ≤ gg) (hlow : ∀ k, k < B → w4.heap[k]? = w3.heap[k]?) (hsz : w3.heap.size ≤ w4.heap.size) (hos : w4.os = w3.os) (htp : w4.tape = w3.tape) (hou : w4.output = w3.output)
    (hrow : RowO (lay4 w4 gg n a1 a2 a3 a4) B 9 25 v' (st.2 ++ [x])) : IA w b d g B (it2, st.2 ++ [x]) r ((lay4 w4 gg n a1 a2 a3 a4).setCell ⟨g, 3, none⟩ v') := by
  obtain ⟨h1, h2, hB, h4, h5, ⟨h6, h6', h6''⟩, h7, h8, h9, v, h10, h11, h12⟩ := h
  have hs := hB.size
  have hs3 := h3.size
  obtain ⟨W6, hW6⟩ : ∃ W6, (lay4 w4 gg n a1 a2 a3 a4).setCell ⟨g, 3, none⟩ v' = W6 := ⟨_, rfl⟩
  have hat : ∀ k, k < B → k ≠ g → W6.heap[k]? = w3.heap[k]? := fun k hk hg => by
    have h := lay4_set w4 gg n g a1 a2 a3 a4 v' (k := k) (by omega) hg
    rw [hW6] at h
    exact h.trans (hlow k hk)
  have hat2 : ∀ k, k < B → k ≠ g → k ≠ b → W6.heap[k]? = W.heap[k]? := fun k hk hg hb => (hat k hk hg).trans (h3.block k (by omega) hb)
  have hsize : W6.heap.size = w4.heap.size := by rw [← hW6]; simp [lay4_size]
  have hg0 : (lay4 w4 gg n a1 a2 a3 a4).heap[g]? = W.heap[g]? := (lay4_other w4 gg n a1 a2 a3 a4 (k := g) (by omega)).trans ((hlow g h6'').trans (h3.block g (by omega) (by omega)))
  have hc : Cel (lay4 w4 gg n a1 a2 a3 a4) g 25 #[.int .u8 6, .string ⟨#[]⟩, .slice none 0 0, v] := hg0.trans h10
  have hc2 : Cel W6 g 25 #[.int .u8 6, .string ⟨#[]⟩, .slice none 0 0, v'] := by rw [← hW6]; exact hc.set 3 v'
  have hr2 : RowO W6 B 9 25 v' (st.2 ++ [x]) := by
    rw [← hW6]
    exact hrow.keep (fun k h1 h2 => Below.heap_setCell _ _ _ _ (by show k ≠ g; omega)) (by simp)
  have e1 : W6.os = w.os := by rw [← hB.os, ← h3.os, ← hos, ← hW6]; rfl
  have e2 : W6.tape = w.tape := by rw [← hB.tape, ← h3.tape, ← htp, ← hW6]; rfl
  have e3 : W6.output = w.output := by rw [← hB.output, ← h3.output, ← hou, ← hW6]; rfl
  rw [hW6]
  clear hW6
  refine ⟨(hat b (by omega) (by omega)).trans hr, h2, ⟨e1, e2, e3, by rw [hsize]; omega, fun k hk hb => (hat2 k (by omega) (by omega) hb).trans (hB.block k hk hb)⟩, hit, by rw [hsize]; omega, ⟨h6, h6', h6''⟩, (hat2 _ (by omega) (by omega) (by omega)).trans h7, (hat2 _ (by omega) (by omega) (by omega)).trans h8, (hat2 _ (by omega) (by omega) (by omega)).trans h9, v', hc2, hr2, ?_⟩
  simp; omega
end Go.Proofs.YtghaoielnphhlaaGreatDoor
