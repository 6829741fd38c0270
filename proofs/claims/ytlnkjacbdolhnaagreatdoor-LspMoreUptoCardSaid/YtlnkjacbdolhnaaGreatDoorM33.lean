/-
  The walk of the document's Place.
-/
import Derived.Test.YtlnkjacbdolhnaaGreatDoorM31
import Derived.Test.YtlnkjacbdolhnaaGreatDoorM22
import Derived.Test.YtlnkjacbdolhnaaGreatDoorM24
import Derived.Test.YtlnkjacbdolhnaaGreatDoorM26
namespace Go.Proofs.YtlnkjacbdolhnaaGreatDoor
open Go.RowKit

def PlcPhi (w0 : World) (n k : Int) (s : ByteArray) (vn vl : Value) (aJ J : Jsn) (i : Nat) (f : Tmp → Value) (w : World) : Prop := match i with
  | 0 => pN w (w0.heap.size + 2) [lVersion, lRange] (f 15)
  | 1 => f 16 = .int .i64 n
  | 2 => pJ w (w0.heap.size + 2) (numJ n) (f 17)
  | 3 => f 18 = .agg #[.int .u8 k, .string s, vn, vl]
  | 4 => pR w (w0.heap.size + 2) [numJ n, aJ] (f 19)
  | 5 => pJ w (w0.heap.size + 2) (J) (f 20)
  | 6 => ∃ vn vl, Cel w w0.heap.size 25 #[.int .u8 7, .string ⟨#[]⟩, vn, vl] ∧ JV w (fun k => w0.heap.size + 2 ≤ k) (J) vn vl
  | _ => True
end Go.Proofs.YtlnkjacbdolhnaaGreatDoor


/-
  The walk of the document's Edits.
-/
namespace Go.Proofs.YtlnkjacbdolhnaaGreatDoor
open Go.RowKit

def EdtPhi (w0 : World) (r0 g0 o0 q0 : Nat) (iq : Int) (vl vL : Value) (p : Pt) (l : List Jsn) (i : Nat) (f : Tmp → Value) (w : World) : Prop := match i with
  | 0 => f 14 = .pointer (some ⟨w0.heap.size + 1, 3, none⟩)
  | 1 => f 15 = vL
  | 2 => pN w r0 [lRange, lNewText] (f 16)
  | 3 => f 17 = vl
  | 4 => f 18 = .int .i64 iq
  | 5 => f 19 = .pointer (some ⟨g0, o0 + q0 * 6, none⟩)
  | 6 => f 20 = .pointer (some ⟨g0, o0 + q0 * 6, none⟩)
  | 7 => f 21 = .agg #[.int .i64 p.a, .int .i64 p.b, .int .i64 p.c, .int .i64 p.d]
  | 8 => pJ w r0 (rangeJ p.a p.b p.c p.d) (f 22)
  | 9 => f 23 = vl
  | 10 => f 24 = .int .i64 iq
  | 11 => f 25 = .pointer (some ⟨g0, o0 + q0 * 6, none⟩)
  | 12 => f 26 = .pointer (some ⟨g0, o0 + q0 * 6 + 5, none⟩)
  | 13 => f 27 = .string p.s
  | 14 => pJ w r0 (strJ p.s) (f 28)
  | 15 => pR w (r0) [rangeJ p.a p.b p.c p.d, strJ p.s] (f 29)
  | 16 => pJ w (r0) (editJ p.a p.b p.c p.d p.s) (f 30)
  | 17 => pR w (r0) [editJ p.a p.b p.c p.d p.s] (f 31)
  | 18 => RowV w (w0.heap.size + 2) (f 32) (l ++ [editJ p.a p.b p.c p.d p.s])
  | 19 => f 33 = .pointer (some ⟨w0.heap.size + 1, 3, none⟩)
  | 20 => ∃ v, RowV w (w0.heap.size + 2) v (l ++ [editJ p.a p.b p.c p.d p.s]) ∧ Cel w (w0.heap.size + 1) 25 #[.int .u8 6, .string ⟨#[]⟩, .slice none 0 0, v]
  | _ => True
def EdtPhiT (w0 : World) (n k : Int) (s : ByteArray) (vn vl : Value) (aJ J : Jsn) (i : Nat) (f : Tmp → Value) (w : World) : Prop := match i with
  | 0 => pN w (w0.heap.size + 2) [lVersion, lEdits] (f 34)
  | 1 => f 35 = .int .i64 n
  | 2 => pJ w (w0.heap.size + 2) (numJ n) (f 36)
  | 3 => f 37 = .agg #[.int .u8 k, .string s, vn, vl]
  | 4 => pR w (w0.heap.size + 2) [numJ n, aJ] (f 38)
  | 5 => pJ w (w0.heap.size + 2) (J) (f 39)
  | 6 => ∃ vn vl, Cel w w0.heap.size 25 #[.int .u8 7, .string ⟨#[]⟩, vn, vl] ∧ JV w (fun k => w0.heap.size + 2 ≤ k) (J) vn vl
  | _ => True
end Go.Proofs.YtlnkjacbdolhnaaGreatDoor


/-
  The walk of the document's Items.
-/
namespace Go.Proofs.YtlnkjacbdolhnaaGreatDoor
open Go.RowKit

def ItmPhi (w0 : World) (r0 g0 o0 q0 : Nat) (iq : Int) (vl vL : Value) (p : Pt) (l : List Jsn) (i : Nat) (f : Tmp → Value) (w : World) : Prop := match i with
  | 0 => f 14 = .pointer (some ⟨w0.heap.size + 1, 3, none⟩)
  | 1 => f 15 = vL
  | 2 => pN w r0 [lRange, lCode, lMessage] (f 16)
  | 3 => f 17 = vl
  | 4 => f 18 = .int .i64 iq
  | 5 => f 19 = .pointer (some ⟨g0, o0 + q0 * 6, none⟩)
  | 6 => f 20 = .pointer (some ⟨g0, o0 + q0 * 6, none⟩)
  | 7 => f 21 = .agg #[.int .i64 p.a, .int .i64 p.b, .int .i64 p.c, .int .i64 p.d]
  | 8 => pJ w r0 (rangeJ p.a p.b p.c p.d) (f 22)
  | 9 => f 23 = vl
  | 10 => f 24 = .int .i64 iq
  | 11 => f 25 = .pointer (some ⟨g0, o0 + q0 * 6, none⟩)
  | 12 => f 26 = .pointer (some ⟨g0, o0 + q0 * 6 + 4, none⟩)
  | 13 => f 27 = .int .i64 p.k
  | 14 => pJ w r0 (numJ p.k) (f 28)
  | 15 => f 29 = vl
  | 16 => f 30 = .int .i64 iq
  | 17 => f 31 = .pointer (some ⟨g0, o0 + q0 * 6, none⟩)
  | 18 => f 32 = .pointer (some ⟨g0, o0 + q0 * 6 + 5, none⟩)
  | 19 => f 33 = .string p.s
  | 20 => pJ w r0 (strJ p.s) (f 34)
  | 21 => pR w (r0) [rangeJ p.a p.b p.c p.d, numJ p.k, strJ p.s] (f 35)
  | 22 => pJ w (r0) (itemJ p.a p.b p.c p.d p.k p.s) (f 36)
  | 23 => pR w (r0) [itemJ p.a p.b p.c p.d p.k p.s] (f 37)
  | 24 => RowV w (w0.heap.size + 2) (f 38) (l ++ [itemJ p.a p.b p.c p.d p.k p.s])
  | 25 => f 39 = .pointer (some ⟨w0.heap.size + 1, 3, none⟩)
  | 26 => ∃ v, RowV w (w0.heap.size + 2) v (l ++ [itemJ p.a p.b p.c p.d p.k p.s]) ∧ Cel w (w0.heap.size + 1) 25 #[.int .u8 6, .string ⟨#[]⟩, .slice none 0 0, v]
  | _ => True
def ItmPhiT (w0 : World) (n k : Int) (s : ByteArray) (vn vl : Value) (aJ J : Jsn) (i : Nat) (f : Tmp → Value) (w : World) : Prop := match i with
  | 0 => pN w (w0.heap.size + 2) [lVersion, lItems] (f 40)
  | 1 => f 41 = .int .i64 n
  | 2 => pJ w (w0.heap.size + 2) (numJ n) (f 42)
  | 3 => f 43 = .agg #[.int .u8 k, .string s, vn, vl]
  | 4 => pR w (w0.heap.size + 2) [numJ n, aJ] (f 44)
  | 5 => pJ w (w0.heap.size + 2) (J) (f 45)
  | 6 => ∃ vn vl, Cel w w0.heap.size 25 #[.int .u8 7, .string ⟨#[]⟩, vn, vl] ∧ JV w (fun k => w0.heap.size + 2 ≤ k) (J) vn vl
  | _ => True
end Go.Proofs.YtlnkjacbdolhnaaGreatDoor


/-
  The walk of rostrumlaw08.given: the document's parts as the program's, in new memory.
-/
namespace Go.Proofs.YtlnkjacbdolhnaaGreatDoor
open Go.RowKit

def partsRow (ps : List Pt) : List Value := ps.flatMap ptCells
def GivenEnd8 (ps : List Pt) (w : World) (e : Ending) (w' : World) : Prop := ∃ A g c, e = .returned (.slice A ps.length c) ∧ PRow w' g 0 ps ∧ (0 < ps.length → A = some ⟨g, 0, none⟩ ∧ g < w'.heap.size) ∧ Below w.heap.size w w'
end Go.Proofs.YtlnkjacbdolhnaaGreatDoor
