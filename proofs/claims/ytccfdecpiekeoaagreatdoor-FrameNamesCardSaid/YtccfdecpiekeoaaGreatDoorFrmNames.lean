/-
  FrameNames answers true, in every memory in which the library's variables lie as the program lays them.
-/
import Derived.Test.YtccfdecpiekeoaaGreatDoorFraV
import Derived.Test.YtccfdecpiekeoaaGreatDoorFrmChunks
import Derived.Deep.RegionHeld3
namespace Go.Proofs.YtccfdecpiekeoaaGreatDoor
open Go.RowKit

set_option maxHeartbeats 1000000 in
theorem frmFeed_nil (A : Option Addr) (n c : Nat) (w : World) :
    Calls Tryz.prog 13 #[.pointer none, .slice A n c] w fun e w' => e = .returned (.tuple #[.slice none 0 0, .int .i64 2]) ∧ w = w' := by
  go_enter Tryz.func13, Tryz.ntmps13
  go_wp2_with fail
  go_ret2
  exact ⟨rfl, rfl⟩
set_option maxHeartbeats 1000000 in
theorem frmCopy_nil (w : World) :
    Calls Tryz.prog 19 #[.pointer none] w fun e w' => e = .returned (.pointer none) ∧ w = w' := by
  go_enter Tryz.func19, Tryz.ntmps19
  go_wp2_with fail
  go_ret
  exact ⟨rfl, rfl⟩

/-- string(make([]byte, n)). -/
theorem make_str (n : Nat) (k : Int) (hk : k = (n : Int)) (hn : n ≤ 1000000) : ∃ (Z : Array Value) (S : ByteArray), S.data.toList = List.replicate n 0 ∧
    (∀ w : World, (Instr.makeSlice 27 (.int .i64 k) (.int .i64 k)).run Tryz.prog w = .ok (.slice (some ⟨w.heap.size, 0, none⟩) n n) (w.alloc (.cells Z 5))) ∧
    ∀ w : World, (convert 27 9 (.slice (some ⟨w.heap.size, 0, none⟩) n n)).run Tryz.prog (w.alloc (.cells Z 5)) = .ok (.string S) (w.alloc (.cells Z 5)) := by
  obtain ⟨i0, hi, hz0, hz1, hz2⟩ := info_parts infoU8
  have hZ : madeCells (Value.int .u8 0).cells (n * i0.size) = ((List.replicate n (0 : UInt8)).map fun u => Value.int .u8 u.toNat).toArray := by
    rw [hz1, Nat.mul_one]
    apply Array.ext
    · simp [madeCells, Value.cells]
    · intro i h1 h2
      simp [madeCells, Value.cells, Nat.mod_one]
  refine ⟨((List.replicate n (0 : UInt8)).map fun u => Value.int .u8 u.toNat).toArray, ⟨(List.replicate n 0).toArray⟩, by simp, fun w => ?_, fun w => ?_⟩
  · have := run_makeSlice (P := Tryz.prog) (w := w) 27 5 i0 (.int .u8 0) Tryz.underlying27 hi hz0 .i64 .i64 k k (by omega) (Int.le_refl _) (by rw [hz1, hk]; simp; omega) (by rw [hz2, hk]; omega) (by omega)
    subst hk
    simp only [Int.toNat_natCast] at this
    rw [hZ] at this
    exact this
  · have hb := byt_lit w (List.replicate n (0 : UInt8)) (0, 0) (by simpa using hn)
    have := conv_str hb
    rwa [List.length_replicate] at this

/-- The table of the examples. -/
def nmTab : List (List UInt8 × List Evt) := [
  ([120, 58, 32, 121, 13, 10, 13, 10, 102, 111, 111, 32, 67, 111, 110, 116, 101, 110, 116, 45, 76, 101, 110, 103, 116, 104, 58, 32, 49, 13, 10, 13, 10, 122], [([], 72), ([122], 0)]),
  ([67, 111, 110, 116, 101, 110, 116, 45, 76, 101, 110, 103, 116, 104, 58, 32, 57, 57, 57, 57, 57, 57, 57, 57, 57, 57, 57, 57, 13, 10, 13, 10, 67, 111, 110, 116, 101, 110, 116, 45, 76, 101, 110, 103, 116, 104, 58, 32, 48, 13, 10, 13, 10], [([], 40), ([], 0)]),
  ([67, 111, 110, 116, 101, 110, 116, 45, 76, 101, 110, 103, 116, 104, 58, 32, 48, 48, 55, 13, 10, 13, 10], [([], 72)]),
  ([13, 10, 13, 10], [([], 72)]),
  ([67, 79, 78, 84, 69, 78, 84, 45, 108, 101, 110, 103, 116, 104, 58, 9, 32, 49, 32, 13, 10, 13, 10, 113], [([113], 0)]),
  ([67, 111, 110, 116, 101, 110, 116, 45, 76, 101, 110, 103, 116, 104, 58, 32, 49, 13, 10, 67, 111, 110, 116, 101, 110, 116, 45, 76, 101, 110, 103, 116, 104, 58, 32, 49, 13, 10, 13, 10, 113], [([], 72), ([113], 0)]),
  ([67, 111, 110, 116, 101, 110, 116, 45, 76, 101, 110, 103, 116, 104, 32, 58, 32, 49, 13, 10, 13, 10, 113], [([], 72)]),
  ([67, 111, 110, 116, 101, 110, 116, 45, 76, 101, 110, 103, 116, 104, 58, 32, 50, 54, 50, 49, 52, 53, 13, 10, 13, 10], [([], 40)])]
theorem nmTab_run : ∀ x ∈ nmTab, (runF x.1 false).evs = x.2 := by
  have : (nmTab.map fun x => (runF x.1 false).evs) = nmTab.map (·.2) := by kernel_rfl
  intro x hx
  obtain ⟨i, hi⟩ := List.mem_iff_getElem?.1 hx
  have h2 := congrArg (·[i]?) this
  simp only [List.getElem?_map, hi, Option.map_some] at h2
  exact Option.some.inj h2

/-- The examples' events, laid one behind the other; the table in front of them. -/
def nmW (w : World) : List (List Evt) → World
  | [] => w
  | e :: r => nmW (w.alloc (.cells (evCells e).toArray 51)) r
theorem nmW_size : ∀ (L : List (List Evt)) (w : World), (nmW w L).heap.size = w.heap.size + L.length
  | [], w => rfl
  | e :: r, w => by rw [nmW, nmW_size r]; simp; omega
theorem nmW_below : ∀ (L : List (List Evt)) (w : World) (B : Nat), B ≤ w.heap.size → Below B w (nmW w L)
  | [], w, B, _ => Below.refl _ _
  | e :: r, w, B, h => ((Below.refl B w).alloc h _).trans (nmW_below r _ B (by simp; omega))
theorem nmW_cel : ∀ (L : List (List Evt)) (w : World) (j : Nat) (e : List Evt), L[j]? = some e → Cel (nmW w L) (w.heap.size + j) 51 (evCells e).toArray
  | [], w, j, e, h => by simp at h
  | x :: r, w, 0, e, h => by
    simp at h; subst h
    exact (Cel.fresh w _ _).below (nmW_below r (w.alloc (.cells (evCells x).toArray 51)) (w.alloc (.cells (evCells x).toArray 51)).heap.size (Nat.le_refl _)) (by simp)
  | x :: r, w, j + 1, e, h => by
    have := nmW_cel r (w.alloc (.cells (evCells x).toArray 51)) j e (by simpa using h)
    simp at this
    rw [nmW, show w.heap.size + (j + 1) = w.heap.size + 1 + j by omega]
    exact this
def nmCells (b : Nat) : Nat → List (List UInt8 × List Evt) → List Value
  | _, [] => []
  | k, x :: r => .string ⟨x.1.toArray⟩ :: .slice (some ⟨b + k, 0, none⟩) x.2.length x.2.length :: nmCells b (k + 1) r
theorem nmCells_at (b : Nat) : ∀ (l : List (List UInt8 × List Evt)) (k j : Nat) (x : List UInt8 × List Evt), l[j]? = some x → (nmCells b k l)[j * 2]? = some (.string ⟨x.1.toArray⟩) ∧ (nmCells b k l)[j * 2 + 1]? = some (.slice (some ⟨b + (k + j), 0, none⟩) x.2.length x.2.length)
  | [], _, _, _, h => by simp at h
  | y :: r, k, 0, x, h => by simp at h; subst h; exact ⟨rfl, rfl⟩
  | y :: r, k, j + 1, x, h => by
    have := nmCells_at b r (k + 1) j x (by simpa using h)
    rw [show k + (j + 1) = k + 1 + j by omega, show (j + 1) * 2 = j * 2 + 1 + 1 by omega]
    exact this
/-- The table lies in block g. -/
def NmAt (g : Nat) (wr : World) : Prop := ∀ (k : Nat) (x : List UInt8 × List Evt), nmTab[k]? = some x → ∃ A, wr.cell? ⟨g, k * 2, none⟩ = some (.string ⟨x.1.toArray⟩) ∧ wr.cell? ⟨g, k * 2 + 1, none⟩ = some (.slice A x.2.length x.2.length) ∧ EvR wr wr.heap.size A x.2 ∧ g < wr.heap.size
theorem nm_start (w : World) (t : TypeId) : NmAt (w.heap.size + 8) ((nmW w (nmTab.map (·.2))).alloc (.cells (nmCells w.heap.size 0 nmTab).toArray t)) := by
  intro k x hx
  have hsz : (nmW w (nmTab.map (·.2))).heap.size = w.heap.size + 8 := by rw [nmW_size]; rfl
  have hC := Cel.fresh (nmW w (nmTab.map (·.2))) t (nmCells w.heap.size 0 nmTab).toArray
  rw [hsz] at hC
  obtain ⟨h1, h2⟩ := nmCells_at w.heap.size nmTab 0 k x hx
  refine ⟨_, (hC.cell _).trans (by simpa using h1), (hC.cell _).trans (by simpa using h2), ?_, hC.lt⟩
  intro hp
  have hE := (nmW_cel (nmTab.map (·.2)) w k x.2 (by rw [List.getElem?_map, hx]; rfl)).alloc (.cells (nmCells w.heap.size 0 nmTab).toArray t)
  refine ⟨w.heap.size + k, 0, rfl, hE.lt, fun j u hu => ?_⟩
  · rw [Nat.zero_add, hE.cell]
    simpa using hu
theorem NmAt.below {g : Nat} {w w' : World} (h : NmAt g w) (hb : Below w.heap.size w w') : NmAt g w' := by
  intro k x hx
  obtain ⟨A, h1, h2, h3, h4⟩ := h k x hx
  exact ⟨A, (hb.cell (p := ⟨g, k * 2, none⟩) h4).trans h1, (hb.cell (p := ⟨g, k * 2 + 1, none⟩) h4).trans h2, (h3.below hb).more hb.size, Nat.lt_of_lt_of_le h4 hb.size⟩
theorem nmTab_len : nmTab.length = 8 := rfl
theorem nmTab_small : ∀ x ∈ nmTab, x.1.length ≤ 100 ∧ x.2.length ≤ 2 := by decide +kernel

def np1 : List UInt8 := [110, 111, 13, 10, 13, 10, 46, 46, 67, 111, 110, 116, 101, 110, 116, 45, 76, 101, 110, 103, 116, 104]
def np2 : List UInt8 := [58, 32, 49, 13, 10, 13, 10, 113]
def np14 : List UInt8 := [67, 111, 110, 116, 101, 110, 116, 45, 76, 101, 110, 103, 116, 104]
def nHead : List UInt8 := [67, 111, 110, 116, 101, 110, 116, 45, 76, 101, 110, 103, 116, 104, 58, 32, 48, 13, 10, 120, 58, 32]
theorem np_run1 : runF ([] ++ np1) false = ⟨[([], 72)], np14, true⟩ := by kernel_rfl
theorem np_run2 : runF (np14 ++ np2) true = ⟨[([113], 0)], [], false⟩ := by kernel_rfl
set_option maxRecDepth 1000000 in
theorem nh_run1 : (runF (nHead ++ List.replicate 1002 121 ++ [13, 10, 13, 10]) false).evs = [([], 0)] := by kernel_rfl
set_option maxRecDepth 1000000 in
theorem nh_run2 : (runF (nHead ++ List.replicate 1002 121 ++ [121, 13, 10, 13, 10]) false).evs = [([], 72)] := by kernel_rfl
set_option maxRecDepth 1000000 in
theorem nh_run3 : (runF (nHead ++ List.replicate 1002 121) false).evs = [] := by kernel_rfl
set_option maxRecDepth 1000000 in
theorem nh_run4 : runF ([] ++ (nHead ++ List.replicate 1002 121 ++ [13, 10, 13])) false = ⟨[], nHead ++ List.replicate 1002 121 ++ [13, 10, 13], false⟩ := by kernel_rfl
set_option maxRecDepth 1000000 in
theorem nh_run5 : runF ((nHead ++ List.replicate 1002 121 ++ [13, 10, 13]) ++ [10]) false = ⟨[([], 0)], [], false⟩ := by kernel_rfl
theorem frame_run (n : Nat) (h : n ≤ 262144) : (runF (frameT (List.replicate n 0)) false).evs = [(List.replicate n 0, 0)] := by
  have := run_frames [List.replicate n 0] (fun b hb => by simp at hb; subst hb; simpa using h)
  have e : framesT [List.replicate n (0 : UInt8)] = frameT (List.replicate n 0) := by simp [framesT]
  rwa [e] at this

theorem frameRep_len (n : Nat) (h : n ≤ 262144) : (frameT (List.replicate n 0)).length ≤ n + 27 := by
  unfold frameT
  have h0 := decDigits_len 7 n (by omega) (by omega)
  have h1 : fMark.length = 15 := rfl
  have h2 : fEnd.length = 4 := rfl
  simp only [List.length_append, List.length_cons, List.length_replicate]
  omega
/-- One event, in a slice of its own. -/
def One (w : World) (A : Option Addr) (s : ByteArray) (n : Int) : Prop := ∃ g, A = some ⟨g, 0, none⟩ ∧ g < w.heap.size ∧ w.cell? ⟨g, 0, none⟩ = some (.string s) ∧ w.cell? ⟨g, 1, none⟩ = some (.int .i64 n)
theorem One.below {w w' : World} {A : Option Addr} {s : ByteArray} {n : Int} (h : One w A s n) (hb : Below w.heap.size w w') : One w' A s n := by
  obtain ⟨g, q1, q2, q3, q4⟩ := h
  exact ⟨g, q1, Nat.lt_of_lt_of_le q2 hb.size, (hb.cell (p := ⟨g, 0, none⟩) q2).trans q3, (hb.cell (p := ⟨g, 1, none⟩) q2).trans q4⟩
theorem own_one {w : World} {B t : Nat} {v : Value} {x : Evt} (h : w.ownsRow B t 2 v [x].length (evCells [x])) : ∃ A c, v = .slice A 1 c ∧ One w A ⟨x.1.toArray⟩ x.2 := by
  obtain ⟨g, cap, rfl⟩ := Go.Joins.ownsRow_form h (by simp)
  have h0 : w.cell? ⟨g, 0, none⟩ = some (.string ⟨x.1.toArray⟩) := h.cells (g := g) rfl 0 _ rfl
  exact ⟨_, cap, rfl, g, rfl, World.block_lt_of_cell? w _ h0, h0, h.cells (g := g) rfl 1 _ rfl⟩
def AllOne (s : ByteArray) (n : Int) (w : World) (e : Ending) (w' : World) : Prop := ∃ A c, e = .returned (.slice A 1 c) ∧ One w' A s n ∧ Below w.heap.size w w'
def AllNone (w : World) (e : Ending) (w' : World) : Prop := ∃ A c, e = .returned (.slice A 0 c) ∧ Below w.heap.size w w'
theorem all_one (s : ByteArray) (l : List UInt8) (x : Evt) (S : ByteArray) (hs : s.data.toList = l) (hr : (runF l false).evs = [x]) (hS : S = ⟨x.1.toArray⟩) (w : World) (hE : EnvF w) (hl : s.size ≤ 400000) :
    Calls Tryz.prog 17 #[.string s] w (AllOne S x.2 w) := by
  have := all_any s w hE (by omega)
  rw [hs, hr] at this
  refine this.mono ?_
  rintro e w' ⟨v, rfl, hown, hB⟩
  obtain ⟨A, c, rfl, h1⟩ := own_one hown
  subst hS
  exact ⟨A, c, rfl, h1, hB⟩
theorem all_none (s : ByteArray) (l : List UInt8) (hs : s.data.toList = l) (hr : (runF l false).evs = []) (w : World) (hE : EnvF w) (hl : s.size ≤ 400000) :
    Calls Tryz.prog 17 #[.string s] w (AllNone w) := by
  have := all_any s w hE (by omega)
  rw [hs, hr] at this
  refine this.mono ?_
  rintro e w' ⟨v, rfl, hown, hB⟩
  obtain ⟨A, c, rfl⟩ := own_form hown
  exact ⟨A, c, rfl, hB⟩
theorem cat_data (a b : ByteArray) (l m : List UInt8) (h1 : a.data.toList = l) (h2 : b.data.toList = m) : (a ++ b).data.toList = l ++ m := by
  rw [ByteArray.data_append, Array.toList_append, h1, h2]

set_option maxRecDepth 100000 in
set_option maxHeartbeats 4000000 in
theorem frameNames_any (w : World) (hE : EnvF w) :
    Calls Tryz.prog 8 #[] w fun en w' => en = .returned (.bool true) ∧ Below w.heap.size w w' := by
  obtain ⟨Z1, S1, hS1, hm1, hc1⟩ := make_str 262145 262145 (by omega) (by omega)
  obtain ⟨Z2, S2, hS2, hm2, hc2⟩ := make_str 262144 262144 (by omega) (by omega)
  have hw1 := fun W hE => frmWrite_any S1 W hE (by rw [← bytes_len, hS1, List.length_replicate]; omega)
  have hw2 := fun W hE => frmWrite_any S2 W hE (by rw [← bytes_len, hS2, List.length_replicate]; omega)
  have hl1 : writeL S1.data.toList = ([], 40) := by unfold writeL; rw [if_pos (by rw [hS1, List.length_replicate]; omega)]
  have hl2 : writeL S2.data.toList = (frameT (List.replicate 262144 0), 0) := by unfold writeL; rw [if_neg (by rw [hS2, List.length_replicate]; omega), hS2]
  rw [hl1] at hw1
  rw [hl2] at hw2
  obtain ⟨F2, hF2⟩ : ∃ F : ByteArray, F = ⟨(frameT (List.replicate 262144 (0 : UInt8))).toArray⟩ := ⟨_, rfl⟩
  unfold WriteEnd at hw2
  rw [← hF2] at hw2
  clear hl1 hl2 hS1 hS2
  replace hw1 := Lib.hid hw1
  replace hw2 := Lib.hid hw2
  replace hF2 := Lib.hid hF2
  have hE0 := Lib.hid hE
  clear hE
  go_enter Tryz.func8, Tryz.ntmps8
  go_wp2_with fail
  refine (frmFeed_nil _ _ _ _).mono ?_
  rintro e w1 ⟨rfl, rfl⟩
  have hB1 : Below w.heap.size w (w.alloc (.cells Z1 5)) := (Below.refl _ _).alloc (Nat.le_refl _) _
  have hk1 := hw1.out _ (hE0.out.below hB1)
  clear hw1
  replace hk1 := Lib.hid hk1
  replace hB1 := Lib.hid hB1
  go_wp2_with fail
  refine hk1.out.mono ?_
  rintro e w2 ⟨rfl, hB2⟩
  have hs2 : w.heap.size ≤ w2.heap.size := by have := hB2.size; simp at this; omega
  have hB3 := (hB1.out.trans (hB2.mono (by simp))).alloc hs2 (.cells Z2 5)
  have hk2 := hw2.out _ (hE0.out.below hB3)
  clear hw2 hk1 hm1 hc1 hB1 hB2
  replace hk2 := Lib.hid hk2
  replace hB3 := Lib.hid hB3
  dsimp only
  go_wp2_with fail
  refine hk2.out.mono ?_
  rintro e w3 ⟨rfl, hB4⟩
  have hB5 := hB3.out.trans (hB4.mono (by simp; omega))
  clear hk2 hm2 hc2 hB3 hB4
  replace hB5 := Lib.hid hB5
  dsimp only
  go_wp2_with fail
  have hst := nm_start w3 52
  obtain ⟨g, hg⟩ : ∃ g, w3.heap.size + 8 = g := ⟨_, rfl⟩
  have hg' : w3.heap.size + 1 + 1 + 1 + 1 + 1 + 1 + 1 + 1 = g := by omega
  rw [hg] at hst
  rw [hg']
  have hsw : w.heap.size ≤ w3.heap.size := hB5.out.size
  go_loopw [70] (fun i wr => ∃ k : Nat, k ≤ 8 ∧ i = .int .i64 k ∧ NmAt g wr ∧ Below w.heap.size w wr) (fun i _ => 8 - (intOf i).toNat)
  case atStart =>
    refine ⟨0, by omega, rfl, hst, ?_⟩
    repeat' (first | exact hB5.out | refine Below.alloc ?_ ?_ _)
    all_goals (first | exact hsw | (simp; omega))
  case round =>
    obtain ⟨k, hk, rfl, hN, hB⟩ := hrel
    clear hst hg hg' hB5
    by_cases hlt : k < 8
    · have hx : nmTab[k]? = some nmTab[k] := List.getElem?_eq_getElem hlt
      have hxm : nmTab[k] ∈ nmTab := List.getElem_mem hlt
      obtain ⟨x, hx2⟩ : ∃ x, nmTab[k] = x := ⟨_, rfl⟩
      rw [hx2] at hx hxm
      obtain ⟨A, c0, c1, hev, hgl⟩ := hN k x hx
      have hrx := nmTab_run x hxm
      obtain ⟨hs1, hs2⟩ := nmTab_small x hxm
      obtain ⟨sx, ex⟩ := x
      obtain ⟨sb, hsb⟩ : ∃ sb : ByteArray, (⟨sx.toArray⟩ : ByteArray) = sb := ⟨_, rfl⟩
      have hsd : sb.data.toList = sx := by rw [← hsb]
      dsimp only at c0 c1 hev hrx hs1 hs2
      rw [hsb] at c0
      rw [← hsd] at hrx hs1
      rw [bytes_len] at hs1
      clear hsb hsd hx hxm hx2
      obtain ⟨w0, hw0⟩ : ∃ w0, wr.alloc (.cells #[.string sb, .slice A ex.length ex.length] 52) = w0 := ⟨_, rfl⟩
      have hZ0 : Below wr.heap.size wr w0 := by rw [← hw0]; exact (Below.refl _ _).alloc (Nat.le_refl _) _
      have hC0 : Cel w0 wr.heap.size 52 #[.string sb, .slice A ex.length ex.length] := by rw [← hw0]; exact Cel.fresh _ _ _
      have hZB : ∀ W, Below w0.heap.size w0 W → Below wr.heap.size wr W := fun W h => hZ0.trans (h.mono hZ0.size)
      have hall : ∀ W, Below w0.heap.size w0 W → Calls Tryz.prog 17 #[.string sb] W (EvEnd 42 W ex) := fun W h => by
        have := all_any sb W (hE0.out.below (hB.trans ((hZB W h).mono hB.size))) (by omega)
        rwa [hrx] at this
      have hsm : ∀ W A9 c9, Below w0.heap.size w0 W → EvR W W.heap.size A9 ex → Calls Tryz.prog 14 #[.slice A9 ex.length c9, .slice A ex.length ex.length] W fun e w' => e = .returned (.bool true) ∧ ∃ n, w' = W.drewN n :=
        fun W A9 c9 h h9 => refSame_any A9 A c9 ex.length ex W.heap.size W h9 ((hev.below (hZB W h)).more (hZB W h).size) (by omega)
      have hS : ∀ W, Below w0.heap.size w0 W → (W.cell? ⟨wr.heap.size, 0, none⟩ = some (.string sb) ∧ W.cell? ⟨wr.heap.size, 1, none⟩ = some (.slice A ex.length ex.length)) ∧ Below w0.heap.size w0 W := fun W h => ⟨⟨(h.cell (p := ⟨wr.heap.size, 0, none⟩) hC0.lt).trans (hC0.cell 0), (h.cell (p := ⟨wr.heap.size, 1, none⟩) hC0.lt).trans (hC0.cell 1)⟩, h⟩
      have hfin : ∀ W, Below w0.heap.size w0 W → NmAt g W ∧ Below w.heap.size w W := fun W h => ⟨hN.below (hZB W h), hB.trans ((hZB W h).mono hB.size)⟩
      clear hC0 hZB hZ0 hrx hev hN hB hF2
      replace hall := Lib.hid hall
      replace hsm := Lib.hid hsm
      replace hS := Lib.hid hS
      replace hfin := Lib.hid hfin
      have hw0' := Lib.hid hw0
      clear hw0
      go_wp2_with fail
      rw [hw0'.out]
      clear c0 c1 hw0'
      go_region_held3 (fun w' => (w'.cell? ⟨wr.heap.size, 0, none⟩ = some (.string sb) ∧ w'.cell? ⟨wr.heap.size, 1, none⟩ = some (.slice A ex.length ex.length)) ∧ Below w0.heap.size w0 w')
        (first | exact hS.out _ (bel_drawn w0 1) | exact hS.out _ hZ5 | exact hS.out _ hZ6 | exact hS.out _ (bel_drewN hZ6 n7))
        (first
          | (go_at_call 17; (with_reducible refine (hall.out _ ?_).mono ?_); exact bel_drawn w0 1; rintro e w5 ⟨v5, rfl, hown5, hB5⟩; obtain ⟨A5, c5, rfl, he5, _⟩ := evr_own hown5; have hZ5 : Below w0.heap.size w0 w5 := (bel_drawn w0 1).trans hB5; replace he5 := Lib.hid he5; clear hown5 hB5)
          | (go_at_call 15; (with_reducible refine (back_any A5 c5 ex w5 ?_ ?_).mono ?_); exact he5.out; omega; rintro e w6 ⟨v6, rfl, hown6, hB6⟩; obtain ⟨A6, c6, rfl, he6, _⟩ := evr_own hown6; have hZ6 : Below w0.heap.size w0 w6 := hZ5.trans (hB6.mono hZ5.size); replace he6 := Lib.hid he6; clear hown6 hB6)
          | (go_at_call 14; (with_reducible refine (hsm.out _ A6 c6 ?_ ?_).mono ?_); exact hZ6; exact he6.out; rintro e w7 ⟨rfl, n7, rfl⟩))
      all_goals
        have hf := hfin.out _ (bel_drewN hZ6 n7)
        clear hall hsm hS hfin he5 he6
        replace hf := Lib.hid hf
        go_wp2_with fail
        go_roundw
        case rel => exact ⟨k + 1, by omega, by go_num, hf.out.1, hf.out.2⟩
        case measure => simp [intOf]; omega
    · clear hN
      have hnew := frmNew_any wr (fun j => j = wr.heap.size)
      have hEr := (hE0.out.below hB).base
      have hsb := hB.size
      obtain ⟨b, hb⟩ : ∃ b, wr.heap.size = b := ⟨_, rfl⟩
      rw [hb] at hnew hEr hsb
      clear hb
      replace hnew := Lib.hid hnew
      replace hB := Lib.hid hB
      go_wp2_with fail
      refine hnew.out.mono ?_
      rintro e w4 ⟨rfl, hR4, hB4⟩
      have hBw4 := hB.out.trans (hB4.mono hsb)
      have hfd := feed_lit b [] np1 false w4 _ np_run1 hEr (hE0.out.below hBw4) hR4 (by decide)
      have hcv := conv_const w4 #[.int .u8 110, .int .u8 111, .int .u8 13, .int .u8 10, .int .u8 13, .int .u8 10, .int .u8 46, .int .u8 46, .int .u8 67, .int .u8 111, .int .u8 110, .int .u8 116, .int .u8 101, .int .u8 110, .int .u8 116, .int .u8 45, .int .u8 76, .int .u8 101, .int .u8 110, .int .u8 103, .int .u8 116, .int .u8 104]
      clear hnew hB hR4 hB4
      replace hfd := Lib.hid hfd
      replace hBw4 := Lib.hid hBw4
      go_wp2_with fail
      refine hfd.out.mono ?_
      rintro e w5 ⟨⟨v1, BB1, rfl, _, ho1⟩, hR5, hE5, hB5⟩
      obtain ⟨A1, c1, rfl⟩ := own_form ho1
      dsimp only at hR5 ⊢
      clear hfd hcv
      have hfd := feed_lit b np14 np2 true w5 _ np_run2 hEr hE5 hR5 (by decide)
      have hcv := conv_const w5 #[.int .u8 58, .int .u8 32, .int .u8 49, .int .u8 13, .int .u8 10, .int .u8 13, .int .u8 10, .int .u8 113]
      have hBw5 := hBw4.out.trans (hB5.mono hsb)
      clear ho1 hR5 hE5 hB5 hBw4
      replace hfd := Lib.hid hfd
      replace hBw5 := Lib.hid hBw5
      go_wp2_with fail
      refine hfd.out.mono ?_
      rintro e w6 ⟨⟨v2, BB2, rfl, _, ho2⟩, _, _, hB6⟩
      obtain ⟨g2, cap2, rfl⟩ := Go.Joins.ownsRow_form ho2 (by decide)
      have hc0 : w6.cell? ⟨g2, 0, none⟩ = some (.string ⟨#[113]⟩) := ho2.cells (g := g2) rfl 0 _ rfl
      have hBw6 := hBw5.out.trans (hB6.mono hsb)
      clear hfd ho2 hB6 hBw5
      replace hBw6 := Lib.hid hBw6
      dsimp only
      go_wp2_with fail
      clear hcv hc0
      go_loop [15] (fun v => ∃ (m : Nat) (S : ByteArray), m ≤ 1002 ∧ v = .string S ∧ S.data.toList = nHead ++ List.replicate m 121) (fun v => 2000 - szOf v)
      case atStart => exact ⟨0, ⟨nHead.toArray⟩, by omega, rfl, rfl⟩
      case round =>
        obtain ⟨m, S, hm, rfl, hSd⟩ := hrel
        have hSz : S.size = 22 + m := by rw [← bytes_len, hSd, List.length_append, List.length_replicate]; rfl
        have hS1 : S.size ≤ 22 + m := by omega
        have hS2 : 22 + m ≤ S.size := by omega
        clear hSz
        by_cases hlt2 : m < 1002
        · have hadd := add_ok S ⟨#[121]⟩ (by show S.size + 1 ≤ _; omega)
          have hnd : (S ++ (⟨#[121]⟩ : ByteArray)).data.toList = nHead ++ List.replicate (m + 1) 121 := by
            rw [cat_data S ⟨#[121]⟩ _ [121] hSd rfl, List.append_assoc, List.replicate_succ']
          have hns : (S ++ (⟨#[121]⟩ : ByteArray)).size = S.size + 1 := by rw [ByteArray.size_append]; rfl
          replace hnd := Lib.hid hnd
          replace hSd := Lib.hid hSd
          replace hns := Lib.hid hns
          go_wp2_with fail
          go_round
          case rel => exact ⟨m + 1, _, by omega, rfl, hnd.out⟩
          case measure => show 2000 - (S ++ (⟨#[121]⟩ : ByteArray)).size < 2000 - S.size; rw [hns.out]; omega
        · obtain rfl : m = 1002 := by omega
          have hadd1 := add_ok S ⟨#[13, 10, 13, 10]⟩ (by show S.size + 4 ≤ _; omega)
          have hadd2 := add_ok S ⟨#[121, 13, 10, 13, 10]⟩ (by show S.size + 5 ≤ _; omega)
          have hadd3 := add_ok S ⟨#[13, 10, 13]⟩ (by show S.size + 3 ≤ _; omega)
          have hz1 : (S ++ (⟨#[13, 10, 13, 10]⟩ : ByteArray)).size ≤ 400000 := by rw [ByteArray.size_append]; show S.size + 4 ≤ _; omega
          have hz2 : (S ++ (⟨#[121, 13, 10, 13, 10]⟩ : ByteArray)).size ≤ 400000 := by rw [ByteArray.size_append]; show S.size + 5 ≤ _; omega
          have hz3 : (S ++ (⟨#[13, 10, 13]⟩ : ByteArray)).size ≤ 400000 := by rw [ByteArray.size_append]; show S.size + 3 ≤ _; omega
          have ha1 := all_one _ _ _ ⟨#[]⟩ (cat_data S ⟨#[13, 10, 13, 10]⟩ _ [13, 10, 13, 10] hSd rfl) nh_run1 rfl w6 (hE0.out.below hBw6.out) hz1
          have ha2 := fun W hE => all_one _ _ _ ⟨#[]⟩ (cat_data S ⟨#[121, 13, 10, 13, 10]⟩ _ [121, 13, 10, 13, 10] hSd rfl) nh_run2 rfl W hE hz2
          have ha3 := fun W hE => all_none S _ hSd nh_run3 W hE (by omega)
          obtain ⟨E1, hE1⟩ : ∃ E : ByteArray, S ++ (⟨#[13, 10, 13]⟩ : ByteArray) = E := ⟨_, rfl⟩
          have hE1d := cat_data S ⟨#[13, 10, 13]⟩ _ [13, 10, 13] hSd rfl
          rw [hE1] at hadd3 hz3 hE1d
          have hF2d : F2.data.toList = frameT (List.replicate 262144 0) := by rw [hF2.out]
          obtain ⟨Fb, hFb⟩ : ∃ E : ByteArray, E = ⟨(List.replicate 262144 (0 : UInt8)).toArray⟩ := ⟨_, rfl⟩
          have hFs : Fb.size = 262144 := by rw [hFb]; show (List.replicate 262144 (0 : UInt8)).toArray.size = _; rw [List.size_toArray, List.length_replicate]
          have hF2s : F2.size ≤ 400000 := by
            rw [← bytes_len, hF2d]
            exact Nat.le_trans (frameRep_len 262144 (by omega)) (by omega)
          have ha4 := fun W hE => all_one F2 _ _ Fb hF2d (frame_run 262144 (by omega)) hFb W hE hF2s
          have hFt : ((Fb.size : Int) == 262144) = true := beq_iff_eq.2 (by omega)
          clear hFs hFb hF2d hF2s hz1 hz2 hE1 hSd hF2
          replace ha1 := Lib.hid ha1
          replace ha2 := Lib.hid ha2
          replace ha3 := Lib.hid ha3
          replace ha4 := Lib.hid ha4
          replace hE1d := Lib.hid hE1d
          have hFt' := Lib.hid hFt
          clear hFt
          go_wp2_with fail
          refine ha1.out.mono ?_
          rintro e w7 ⟨A7, c7, rfl, ho7, hB7⟩
          have hBw7 := hBw6.out.trans (hB7.mono hBw6.out.size)
          have ha2' := ha2.out _ (hE0.out.below hBw7)
          clear ha1 ha2 hB7 hBw6
          replace ha2' := Lib.hid ha2'
          replace hBw7 := Lib.hid hBw7
          replace ho7 := Lib.hid ho7
          go_wp2_with fail
          refine ha2'.out.mono ?_
          rintro e w8 ⟨A8, c8, rfl, ho8, hB8⟩
          have hBw8 := hBw7.out.trans (hB8.mono hBw7.out.size)
          replace ho7 := Lib.hid (ho7.out.below hB8)
          have ha4' := ha4.out _ (hE0.out.below hBw8)
          clear ha2' ha4 hB8 hBw7
          replace ha4' := Lib.hid ha4'
          replace hBw8 := Lib.hid hBw8
          replace ho8 := Lib.hid ho8
          go_wp2_with fail
          refine ha4'.out.mono ?_
          rintro e w9 ⟨A9, c9, rfl, ho9, hB9⟩
          have hBw9 := hBw8.out.trans (hB9.mono hBw8.out.size)
          replace ho7 := Lib.hid (ho7.out.below hB9)
          replace ho8 := Lib.hid (ho8.out.below hB9)
          have hnew := frmNew_any w9 (fun j => j = w9.heap.size)
          have hEr9 := (hE0.out.below hBw9).base
          have hsb9 := hBw9.size
          obtain ⟨b9, hb9⟩ : ∃ b, w9.heap.size = b := ⟨_, rfl⟩
          rw [hb9] at hnew hEr9 hsb9
          have hb9' := Lib.hid hb9
          clear ha4' hB9 hBw8 hb9
          replace hnew := Lib.hid hnew
          replace hBw9 := Lib.hid hBw9
          replace ho9 := Lib.hid ho9
          go_wp2_with fail
          refine hnew.out.mono ?_
          rintro e w10 ⟨rfl, hR10, hB10⟩
          have hb9w := hR10.lt
          obtain ⟨cy, w11, hcv, hY11, hB11, hs11⟩ := byt_conv w10 E1 (by omega)
          have hB911 : Below b9 w9 w11 := hB10.trans (hB11.mono (by omega))
          have hBw11 := hBw9.out.trans (hB911.mono hsb9)
          have hZ11 := Lib.hid hB911
          have hR11 := hR10.below hB11
          have hfd := frmFeed_any b9 [] E1.data.toList false (fun j => j = b9) (fun _ => False) _ _ w11 rfl (fun j hj => by have : j = b9 := hj; subst this; omega) hEr9 (hE0.out.below hBw11) hR11 hY11 (by rw [bytes_len]; simp; omega)
          have hr4 : runF ([] ++ E1.data.toList) false = ⟨[], E1.data.toList, false⟩ := by rw [hE1d.out]; exact nh_run4
          have hr5 : runF (E1.data.toList ++ [10]) false = ⟨[([], 0)], [], false⟩ := by rw [hE1d.out]; exact nh_run5
          rw [hr4] at hfd
          have hLz := bytes_len E1
          obtain ⟨L1, hL1⟩ : ∃ L, E1.data.toList = L := ⟨_, rfl⟩
          rw [hL1] at hfd hr5 hcv hLz
          have hLz2 : L1.length ≤ 400000 := by omega
          clear hr4 hE1d hnew hB10 hB11 hY11 hR10 hR11 hB911 hL1 hLz
          replace hfd := Lib.hid hfd
          replace hr5 := Lib.hid hr5
          replace hBw11 := Lib.hid hBw11
          go_wp2_with fail
          refine hfd.out.mono ?_
          rintro e w12 ⟨v12, BB, rfl, _, _, hown12, hR12, hg12⟩
          obtain ⟨A12, c12, rfl⟩ := own_form hown12
          dsimp only at hR12 hown12 ⊢
          have hB12 : Below b9 w11 w12 := below_of_grown hg12 (by omega)
          have hBw12 := hBw11.out.trans (hB12.mono hsb9)
          have hZ12 := hZ11.out.trans hB12
          have hR13 := hR12.mono (Y := fun j => j = b9) (fun j hj => Or.inl hj)
          have hfd5 := feed_lit b9 L1 [10] false w12 _ hr5.out hEr9 (hE0.out.below hBw12) hR13 (by simp; omega)
          have hcv2 := conv_const w12 #[.int .u8 10]
          clear hown12 hR12 hg12 hB12 hR13 hfd hcv hBw11 hZ11
          replace hfd5 := Lib.hid hfd5
          replace hZ12 := Lib.hid hZ12
          replace hBw12 := Lib.hid hBw12
          go_wp2_with fail
          refine hfd5.out.mono ?_
          rintro e w13 ⟨⟨v13, BB13, rfl, _, ho13⟩, _, _, hB13⟩
          obtain ⟨Ay, cy2, rfl, hoy⟩ := own_one ho13
          have hZ13 := hZ12.out.trans hB13
          have hBw13 := hBw12.out.trans (hB13.mono hsb9)
          have hg7 := ho7.out.below (by rw [hb9'.out]; exact hZ13)
          have hg8 := ho8.out.below (by rw [hb9'.out]; exact hZ13)
          have hg9 := ho9.out.below (by rw [hb9'.out]; exact hZ13)
          obtain ⟨gy, rfl, _, y0, y1⟩ := hoy
          obtain ⟨gd, rfl, _, d0, d1⟩ := hg7
          obtain ⟨ge, rfl, _, e0, e1⟩ := hg8
          have ha3' := ha3.out _ (hE0.out.below hBw13)
          clear hfd5 hcv2 ho13 hB13 hZ12 hBw12 ha3 ho7 ho8 ho9 hZ13
          replace ha3' := Lib.hid ha3'
          replace hBw13 := Lib.hid hBw13
          replace hg9 := Lib.hid hg9
          have hcn := Lib.hid (fun W => frmCopy_nil W)
          have haw := Lib.hid (fun W (hE : EnvF W) => awake_any W hE)
          dsimp only
          go_wp2_with fail
          refine (hcn.out _).mono ?_
          rintro e w14 ⟨rfl, rfl⟩
          go_wp2_with fail
          refine ha3'.out.mono ?_
          rintro e w15 ⟨A15, c15, rfl, hB15⟩
          obtain ⟨gf, rfl, _, f0, f1⟩ := hg9.out.below hB15
          have hBw15 := hBw13.out.trans (hB15.mono hBw13.out.size)
          have haw' := haw.out _ (hE0.out.below hBw15)
          have hFt2 := hFt'.out
          clear ha3' hB15 hBw13 haw hg9
          replace haw' := Lib.hid haw'
          replace hBw15 := Lib.hid hBw15
          go_wp2_with fail
          refine haw'.out.mono ?_
          rintro e w16 ⟨rfl, hB16⟩
          clear haw'
          replace hB16 := Lib.hid hB16
          go_wp2_with fail
          go_ret
          exact ⟨rfl, hBw15.out.trans (hB16.out.mono hBw15.out.size)⟩
end Go.Proofs.YtccfdecpiekeoaaGreatDoor
