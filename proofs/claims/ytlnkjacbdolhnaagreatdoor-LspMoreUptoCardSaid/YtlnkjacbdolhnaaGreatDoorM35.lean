/-
  The walk of rostrumlaw08.spoil: it writes over a value of the call's own, and nothing else.
-/
import Derived.Test.YtlnkjacbdolhnaaGreatDoorM03
import Derived.Test.YtlnkjacbdolhnaaGreatDoorM10
import Derived.Test.YtlnkjacbdolhnaaGreatDoorM15
import Derived.Lib.ItoaMem
import Derived.Lib.ItoaLen
import Derived.Test.YtlnkjacbdolhnaaGreatDoorM32
import Derived.Test.YtlnkjacbdolhnaaGreatDoorM33
import Derived.Test.YtlnkjacbdolhnaaGreatDoorLwS
import Derived.Test.YtlnkjacbdolhnaaGreatDoorM12
import Derived.Test.YtlnkjacbdolhnaaGreatDoorLmA
namespace Go.Proofs.YtlnkjacbdolhnaaGreatDoor
open Go.RowKit

/-- Nothing but the blocks from lo up to ahead of hi has changed. -/
def Spoilt8 (lo hi : Nat) (w w' : World) : Prop := Below lo w w' ∧ ∀ b, hi ≤ b → b < w.heap.size → w'.heap[b]? = w.heap[b]?
theorem Spoilt8.trans {lo hi a b : Nat} {w w1 w2 : World} (h : Spoilt8 lo hi w w1) (k : Spoilt8 a b w1 w2) (ha : lo ≤ a) (hb : b ≤ hi) : Spoilt8 lo hi w w2 :=
  ⟨h.1.trans (k.1.mono ha), fun c h1 h2 => (k.2 c (by omega) (Nat.lt_of_lt_of_le h2 h.1.size)).trans (h.2 c h1 h2)⟩
theorem Spoilt8.set {lo hi : Nat} {w w1 : World} (h : Spoilt8 lo hi w w1) (p : Addr) (u : Value) (h1 : lo ≤ p.block) (h2 : p.block < hi) : Spoilt8 lo hi w (w1.setCell p u) :=
  ⟨h.1.setCell h1 u, fun c h3 h4 => (Below.heap_setCell w1 p u c (by omega)).trans (h.2 c h3 h4)⟩
def SpoilEnd8 (lo hi : Nat) (w : World) (e : Ending) (w' : World) : Prop := e = .returned (.tuple #[]) ∧ Spoilt8 lo hi w w'

end Go.Proofs.YtlnkjacbdolhnaaGreatDoor


/-
  The own form of a number is a JSON number, and its own own form; the first example, read and printed. Plain.
-/
namespace Go.Proofs.YtlnkjacbdolhnaaGreatDoor

/-- The first example, its text, and its text as it is printed. -/
def exJ : Jsn := ⟨7, ⟨#[]⟩, [⟨#[97]⟩, ⟨#[195, 169]⟩], [⟨6, ⟨#[]⟩, [], [⟨4, ⟨#[49, 53, 101, 45, 49]⟩, [], []⟩, ⟨1, ⟨#[]⟩, [], []⟩]⟩, ⟨5, ⟨#[240, 157, 132, 158]⟩, [], []⟩]⟩
def exS : ByteArray := ⟨#[123, 32, 34, 97, 34, 32, 58, 32, 91, 49, 46, 53, 48, 44, 32, 110, 117, 108, 108, 93, 44, 32, 34, 92, 117, 48, 48, 101, 57, 34, 32, 58, 32, 34, 92, 117, 100, 56, 51, 52, 92, 117, 100, 100, 49, 101, 34, 32, 125]⟩
def exT : ByteArray := ⟨#[123, 34, 97, 34, 58, 91, 49, 53, 101, 45, 49, 44, 110, 117, 108, 108, 93, 44, 34, 195, 169, 34, 58, 34, 240, 157, 132, 158, 34, 125]⟩
end Go.Proofs.YtlnkjacbdolhnaaGreatDoor


/-
  What the JSON reader refuses with, and how great a value is that it read. Plain.
-/
namespace Go.Proofs.YtlnkjacbdolhnaaGreatDoor

theorem nDig4 {u : Nat} (h : u < 10000) : Lib.nDigits u ≤ 4 := by
  by_cases h1 : u < 10
  · rw [Lib.nDigits_small h1]; omega
  rw [Lib.nDigits_big h1]
  by_cases h2 : u / 10 < 10
  · rw [Lib.nDigits_small h2]; omega
  rw [Lib.nDigits_big h2]
  by_cases h3 : u / 10 / 10 < 10
  · rw [Lib.nDigits_small h3]; omega
  rw [Lib.nDigits_big h3, Lib.nDigits_small (by omega)]
  omega
theorem itoa5 {n : Int} (h0 : -9999 ≤ n) (h1 : n ≤ 9999) : (Lib.itoa n).length ≤ 5 := by
  unfold Lib.itoa
  split
  · rw [List.length_cons, Lib.decDigits_length]
    have := nDig4 (u := n.natAbs) (by omega)
    omega
  · rw [Lib.decDigits_length]
    have := nDig4 (u := n.toNat) (by omega)
    omega
theorem ownL_len2 (l : List UInt8) : (ownL l).1.length ≤ 207 := by
  unfold ownL
  split
  · have h := get_nrm l
    have h1 := h.len
    have h2 := itoa5 h.lo h.hi
    dsimp only
    unfold formL
    split
    · simp
    · rw [List.length_append]
      split <;> split <;> simp <;> omega
  · simp
end Go.Proofs.YtlnkjacbdolhnaaGreatDoor


/-
  The walk of rostrumlaw08.like; the law: answers as JSON are the document's.
-/
namespace Go.Proofs.YtlnkjacbdolhnaaGreatDoor
open Go.RowKit

theorem of_len8 (n : Int) (h : I64 n) : (ofNL n).length ≤ 207 := by
  have h1 := own_itoa n h.1 h.2
  have h2 := ownL_len2 (Lib.itoa n)
  rw [h1] at h2
  exact h2
theorem num_bulk8 (n : Int) (h : I64 n) : jbulk (numJ n) ≤ 300 := by
  have : (⟨(ofNL n).toArray⟩ : ByteArray).size = (ofNL n).length := by show (ofNL n).toArray.size = _; exact List.size_toArray
  have h2 := of_len8 n h
  unfold numJ
  rw [jbulk_eq, this]
  show 1 + (ofNL n).length + 0 + 0 ≤ 300
  omega
theorem str_bulk8 (s : ByteArray) : jbulk (strJ s) = 1 + s.size := by
  unfold strJ
  rw [jbulk_eq]
  rfl
theorem obj_bulk8 (ns : List ByteArray) (l : List Jsn) {a b : Nat} (h1 : (ns.map fun b => b.size + 1).sum ≤ a) (h2 : jbulks l ≤ b) : jbulk (mkO ns l) ≤ 1 + a + b := by
  unfold mkO
  rw [jbulk_eq]
  show 1 + 0 + _ + _ ≤ _
  omega
theorem bulks_nil : jbulks [] = 0 := rfl
theorem bulks_cons (x : Jsn) (l : List Jsn) : jbulks (x :: l) = jbulk x + jbulks l := by unfold jbulks; simp
theorem pos_bulk8 (a b : Int) (ha : I64 a) (hb : I64 b) : jbulk (posJ a b) ≤ 700 := by
  have h1 := num_bulk8 a ha
  have h2 := num_bulk8 b hb
  exact Nat.le_trans (obj_bulk8 _ _ (a := 90) (b := 600) (by decide) (by rw [bulks_cons, bulks_cons, bulks_nil]; omega)) (by omega)
end Go.Proofs.YtlnkjacbdolhnaaGreatDoor


/-
  rostrumlaw08.awake answers true: by contracts.
-/
namespace Go.Proofs.YtlnkjacbdolhnaaGreatDoor
open Go.RowKit

def aA : ByteArray := ⟨#[97]⟩
theorem dec_one : ldec mName6 (askedJ aA 1 2) = (⟨6, aA, 0, ⟨#[]⟩, 1, 2, 0, ⟨0, ⟨#[]⟩, [], []⟩, []⟩, 0) := by kernel_rfl
theorem dec_two : ldec mName6 (askedJ aA 1 (-2)) = (zeroLM 0, 69) := by kernel_rfl
theorem asked_bulk (u : ByteArray) (a b : Int) (ha : I64 a) (hb : I64 b) (hu : u.size ≤ 1048576) : jbulk (askedJ u a b) ≤ 1000000000000 := by
  have h1 := pos_bulk8 a b ha hb
  have h2 := str_bulk8 u
  have h3 : jbulk (mkO [yUri] [strJ u]) ≤ 1200000 := Nat.le_trans (obj_bulk8 _ _ (a := 90) (b := 1100000) (by decide) (by rw [bulks_cons, bulks_nil]; omega)) (by omega)
  exact Nat.le_trans (obj_bulk8 _ _ (a := 90) (b := 1300000) (by decide) (by rw [bulks_cons, bulks_cons, bulks_nil]; omega)) (by omega)
theorem text_three : (⟨(ofNL 3).toArray⟩ : ByteArray) = ⟨#[51]⟩ := by kernel_rfl
/-- What lies where in a place's value. -/
theorem place_cells {w : World} {X : Nat → Prop} {vn vl : Value} (h : JV w X (placeJ 3 []) vn vl) : ∃ gn on cn gl ol cl, vn = .slice (some ⟨gn, on, none⟩) 2 cn ∧ vl = .slice (some ⟨gl, ol, none⟩) 2 cl ∧ gn < w.heap.size ∧ gl < w.heap.size ∧
    w.cell? ⟨gn, on, none⟩ = some (.string lVersion) ∧ w.cell? ⟨gl, ol + 1, none⟩ = some (.string ⟨#[51]⟩) ∧ w.cell? ⟨gl, ol + 4, none⟩ = some (.int .u8 1) := by
  obtain ⟨A, c, e1, h1⟩ := h.names
  obtain ⟨gn, on, rfl, _, hg, hc⟩ := h1 (by decide)
  obtain ⟨A2, c2, zs, e2, hz, h2, h3⟩ := JV.elems (show JV w X ⟨7, ⟨#[]⟩, [lVersion, lRange], [numJ 3, placeR []]⟩ vn vl from h)
  have hlen : zs.length = 2 := by have := congrArg List.length hz; simpa using this
  obtain ⟨gl, ol, rfl, _, hg2, hc2⟩ := h3 (by omega)
  match zs, hz, hlen with
  | [z0, z1], hz, _ =>
    simp at hz
    have a1 := hc2 0 z0 rfl 1 (.string z0.1.text) rfl
    have a2 := hc2 1 z1 rfl 0 (.int .u8 z1.1.kind) rfl
    rw [hz.1] at a1
    rw [hz.2] at a2
    refine ⟨gn, on, c, gl, ol, c2, e1, by simpa using e2, hg, hg2, by simpa using hc 0 lVersion rfl, ?_, ?_⟩
    · have : (numJ 3).text = ⟨#[51]⟩ := text_three
      rw [this] at a1
      simpa using a1
    · simpa [placeR] using a2
set_option maxRecDepth 100000 in
set_option maxHeartbeats 8000000 in
theorem awake8_any (w : World) (hE : Env w) : Calls Tryz.prog 7 #[] w fun e w' => e = .returned (.bool true) ∧ Below w.heap.size w w' := by
  have hAsk1 := Lib.hid (asked_any aA 1 2 w hE ⟨by omega, by omega⟩ ⟨by omega, by omega⟩)
  have hAsk2 := Lib.hid (fun (W : World) (hb : Below w.heap.size w W) => asked_any aA 1 (-2) W (hE.below hb) ⟨by omega, by omega⟩ ⟨by omega, by omega⟩)
  have hPlace := Lib.hid (fun (W : World) (hb : Below w.heap.size w W) => lspPlace_any 3 [] none 0 0 W (hE.below hb) ⟨by omega, by omega⟩ (fun i p h => by simp at h) (fun h => by simp at h) (fun p h => by cases h) (by simp))
  have hb1 := asked_bulk aA 1 2 ⟨by omega, by omega⟩ ⟨by omega, by omega⟩ (by decide)
  have hb2 := asked_bulk aA 1 (-2) ⟨by omega, by omega⟩ ⟨by omega, by omega⟩ (by decide)
  clear hE
  go_enter Tryz.func7, Tryz.ntmps7
  go_wp2_with fail
  refine hAsk1.out.mono ?_
  rintro e w1 ⟨un, ul, he, hJ1, hB1⟩
  unfold askedJ mkO at he
  dsimp only at he
  subst he
  obtain ⟨A, n, c, A', n', c', rfl, rfl⟩ := hJ1.forms
  have hdec := Lib.hid (lspDecode_any mName6 _ _ w1 _ _ hJ1 hb1 (fun h => absurd h (by decide)))
  replace hB1 := Lib.hid hB1
  clear hAsk1 hJ1 hb1
  go_wp2_with fail
  refine hdec.out.mono ?_
  rintro e w2 ⟨idn, idl, chv, he, hJ2, hrow2, hB2⟩
  rw [dec_one] at he hJ2 hrow2
  unfold mCells at he
  dsimp only at he
  subst he
  obtain ⟨I1, i1, i2, I2, i3, i4, rfl, rfl⟩ := hJ2.forms
  obtain ⟨CA, ca, cc, rfl⟩ : ∃ A n c, chv = .slice A n c := by
    rcases hrow2.2 with ⟨e, _⟩ | ⟨g, cap, cur, e, _⟩
    · exact ⟨_, _, _, e⟩
    · exact ⟨_, _, _, e⟩
  obtain ⟨w3, hw3⟩ : ∃ W, w2.alloc (.cells #[.int .u8 6, .string aA, .int .i64 0, .string ⟨#[]⟩, .int .i64 1, .int .i64 2, .int .i64 0, .int .u8 0, .string ⟨#[]⟩, .slice I1 i1 i2, .slice I2 i3 i4, .slice CA ca cc] 32) = W := ⟨_, rfl⟩
  have hC3 : Cel w3 w2.heap.size 32 #[.int .u8 6, .string aA, .int .i64 0, .string ⟨#[]⟩, .int .i64 1, .int .i64 2, .int .i64 0, .int .u8 0, .string ⟨#[]⟩, .slice I1 i1 i2, .slice I2 i3 i4, .slice CA ca cc] := by rw [← hw3]; exact Cel.fresh _ _ _
  have hB3 : Below w.heap.size w w3 := by
    rw [← hw3]
    exact (hB1.out.trans (hB2.mono hB1.out.size)).alloc (Nat.le_trans hB1.out.size hB2.size) _
  replace hw3 := Lib.hid hw3
  replace hC3 := Lib.hid hC3
  replace hB3 := Lib.hid hB3
  clear hJ2 hrow2 hB2 hdec hB1
  go_upto_region 2 with fail
  rw [hw3.out]
  clear hw3
  go_wp2_with fail
  refine (hAsk2.out w3 hB3.out).mono ?_
  rintro e w4 ⟨vn, vl, he, hJ4, hB4⟩
  unfold askedJ mkO at he
  dsimp only at he
  subst he
  obtain ⟨A, n, c, A', n', c', rfl, rfl⟩ := hJ4.forms
  have hdec := Lib.hid (lspDecode_any mName6 _ _ w4 _ _ hJ4 hb2 (fun h => absurd h (by decide)))
  have hC4 := Lib.hid (hC3.out.below hB4 hC3.out.lt)
  replace hB4 := Lib.hid (hB3.out.trans (hB4.mono hB3.out.size))
  clear hAsk2 hJ4 hb2 hC3 hB3
  go_wp2_with fail
  refine hdec.out.mono ?_
  rintro e w5 ⟨idn, idl, chv, he, hJ5, hrow5, hB5⟩
  rw [dec_two] at he hJ5 hrow5
  unfold mCells zeroLM at he
  dsimp only at he
  subst he
  obtain ⟨K1, k1, k2, K2, k3, k4, rfl, rfl⟩ := hJ5.forms
  obtain ⟨CB, cb, cd, rfl⟩ : ∃ A n c, chv = .slice A n c := by
    rcases hrow5.2 with ⟨e, _⟩ | ⟨g, cap, cur, e, _⟩
    · exact ⟨_, _, _, e⟩
    · exact ⟨_, _, _, e⟩
  obtain ⟨w6, hw6⟩ : ∃ W, w5.alloc (.cells #[.int .u8 0, .string ⟨#[]⟩, .int .i64 0, .string ⟨#[]⟩, .int .i64 0, .int .i64 0, .int .i64 0, .int .u8 0, .string ⟨#[]⟩, .slice K1 k1 k2, .slice K2 k3 k4, .slice CB cb cd] 32) = W := ⟨_, rfl⟩
  have hb56 : Below w5.heap.size w5 w6 := by rw [← hw6]; exact (Below.refl _ _).alloc (Nat.le_refl _) _
  have hC6 := (hC4.out.below hB5 hC4.out.lt).below hb56 (Nat.lt_of_lt_of_le hC4.out.lt hB5.size)
  have hB6 : Below w.heap.size w w6 := (hB4.out.trans (hB5.mono hB4.out.size)).trans (hb56.mono (Nat.le_trans hB4.out.size hB5.size))
  replace hw6 := Lib.hid hw6
  replace hC6 := Lib.hid hC6
  replace hB6 := Lib.hid hB6
  clear hJ5 hrow5 hB5 hdec hB4 hb56 hC4
  go_upto_region 3 with fail
  rw [hw6.out]
  clear hw6
  go_wp2_with fail
  refine (hPlace.out w6 hB6.out).mono ?_
  rintro e w7 ⟨xn, xl, he, hO, hB7⟩
  obtain ⟨gn, on, cn, gl, ol, cl, rfl, rfl, hgn, hgl, hc1, hc2, hc3⟩ := place_cells (OwnJ.jv _ hO)
  unfold placeJ mkO at he
  dsimp only at he
  subst he
  have hC7 := hC6.out.below hB7 hC6.out.lt
  have hB8 := Lib.hid (hB6.out.trans (hB7.mono hB6.out.size))
  obtain ⟨w8, hw8⟩ : ∃ W, w7.alloc (.cells #[.int .u8 7, .string ⟨#[]⟩, .slice (some ⟨gn, on, none⟩) 2 cn, .slice (some ⟨gl, ol, none⟩) 2 cl] 25) = W := ⟨_, rfl⟩
  have hb78 : Below w7.heap.size w7 w8 := by rw [← hw8]; exact (Below.refl _ _).alloc (Nat.le_refl _) _
  have hC8 := hC7.below hb78 hC7.lt
  have hP8 : Cel w8 w7.heap.size 25 #[.int .u8 7, .string ⟨#[]⟩, .slice (some ⟨gn, on, none⟩) 2 cn, .slice (some ⟨gl, ol, none⟩) 2 cl] := by rw [← hw8]; exact Cel.fresh _ _ _
  have d1 : w8.cell? ⟨gn, on, none⟩ = some (.string lVersion) := (hb78.cell (p := ⟨gn, on, none⟩) hgn).trans hc1
  have d2 : w8.cell? ⟨gl, ol + 1, none⟩ = some (.string ⟨#[51]⟩) := (hb78.cell (p := ⟨gl, ol + 1, none⟩) hgl).trans hc2
  have d3 : w8.cell? ⟨gl, ol + 4, none⟩ = some (.int .u8 1) := (hb78.cell (p := ⟨gl, ol + 4, none⟩) hgl).trans hc3
  have m0 : w8.cell? ⟨w2.heap.size, 0, none⟩ = some (.int .u8 6) := hC8.cell 0
  have m1 : w8.cell? ⟨w2.heap.size, 1, none⟩ = some (.string aA) := hC8.cell 1
  have m4 : w8.cell? ⟨w2.heap.size, 4, none⟩ = some (.int .i64 1) := hC8.cell 4
  have m5 : w8.cell? ⟨w2.heap.size, 5, none⟩ = some (.int .i64 2) := hC8.cell 5
  have n2 : w8.cell? ⟨w7.heap.size, 2, none⟩ = some (.slice (some ⟨gn, on, none⟩) 2 cn) := hP8.cell 2
  have n3 : w8.cell? ⟨w7.heap.size, 3, none⟩ = some (.slice (some ⟨gl, ol, none⟩) 2 cl) := hP8.cell 3
  have hB9 := Lib.hid (hB8.out.trans (hb78.mono hB8.out.size))
  have hMeth := Lib.hid (show Calls Tryz.prog 30 #[.int .u8 4] w8 (fun e w' => e = .returned (.string ⟨#[116, 101, 120, 116, 68, 111, 99, 117, 109, 101, 110, 116, 47, 114, 101, 110, 97, 109, 101]⟩) ∧ Below w8.heap.size w8 w') from lspMethod4_any w8)
  replace hw8 := Lib.hid hw8
  clear hC7 hC8 hP8 hb78 hc1 hc2 hc3 hO hB7 hB8 hC6 hB6 hPlace hgn hgl
  go_upto_region 4 with fail
  rw [hw8.out]
  clear hw8
  unfold aA at m1
  unfold lVersion at d1
  go_wp2_with fail
  refine hMeth.out.mono ?_
  rintro e w9 ⟨rfl, hB10⟩
  have hfin := Lib.hid (hB9.out.trans (hB10.mono hB9.out.size))
  clear hMeth hB10 hB9 m0 m1 m4 m5 n2 n3 d1 d2 d3
  go_wp2_with fail
  exact bodyPost_ret (v := .bool true) (by simp [results, Tryz.results7, go_sem]) rfl ⟨rfl, hfin.out⟩
end Go.Proofs.YtlnkjacbdolhnaaGreatDoor


/-
  The walk of rostrumlaw08.weight: some number, never more than the bulk.
-/
namespace Go.Proofs.YtlnkjacbdolhnaaGreatDoor
open Go.RowKit

def WEnd (j : Jsn) (w : World) (e : Ending) (w' : World) : Prop := ∃ k : Int, e = .returned (.int .i64 k) ∧ 0 ≤ k ∧ k ≤ (jbulk j : Int) ∧ Below w.heap.size w w'
theorem jbulks_next {l : List Jsn} {q : Nat} {x : Jsn} (h : l[q]? = some x) : jbulks (l.take (q + 1)) = jbulks (l.take q) + jbulk x := by
  rw [List.take_add_one, h]
  simp [jbulks]
theorem jbulks_part (l : List Jsn) (q : Nat) : jbulks (l.take q) ≤ jbulks l := by
  have h : jbulks (l.take q ++ l.drop q) = jbulks (l.take q) + jbulks (l.drop q) := by unfold jbulks; rw [List.map_append, List.sum_append]
  rw [List.take_append_drop] at h
  omega
set_option maxRecDepth 100000 in
set_option maxHeartbeats 4000000 in
theorem weight_any : ∀ (M : Nat) (j : Jsn), jbulk j ≤ M → ∀ (X : Nat → Prop) (w : World) (vn vl : Value) (lim : Int), JV w X j vn vl → M ≤ 1000000000000 → 0 < lim → lim ≤ 1000000 →
    Calls Tryz.prog 6 #[.agg #[.int .u8 j.kind, .string j.text, vn, vl], .int .i64 lim] w (WEnd j w) := by
  intro M
  induction M with
  | zero => intro j h; have := jbulk_pos j; omega
  | succ M ih =>
    intro j hj X w vn vl lim hV hM hl0 hl1
    obtain ⟨k, s, n, l⟩ := j
    have hbk : jbulk ⟨k, s, n, l⟩ ≤ 1000000000000 := by omega
    obtain ⟨hts, hn, hl, _, hkids⟩ := bulk_parts hbk
    dsimp only at hl hkids hn hts
    have hnam := hV.names
    obtain ⟨An, cn, rfl⟩ := hnam.len
    obtain ⟨A, c, zs, rfl, hz, h2, h3⟩ := hV.elems
    dsimp only at hnam ⊢
    have hlen : zs.length = l.length := by rw [← hz, List.length_map]
    rw [← hlen] at hl
    have hjb := jbulk_eq k s n l
    have hnb := len_le_sum (fun b : ByteArray => b.size + 1) (fun _ => by omega) n
    obtain ⟨w0, hw0⟩ : ∃ w0, w.alloc (.cells #[.int .u8 k, .string s, .slice An n.length cn, .slice A zs.length c] 25) = w0 := ⟨_, rfl⟩
    have hB0 : Below w.heap.size w w0 := by rw [← hw0]; exact (Below.refl _ _).alloc (Nat.le_refl _) _
    have hC1 : Cel w0 w.heap.size 25 #[.int .u8 k, .string s, .slice An n.length cn, .slice A zs.length c] := by rw [← hw0]; exact Cel.fresh _ _ _
    have hs0 : w0.heap.size = w.heap.size + 1 := by rw [← hw0]; simp
    have hat := Lib.hid (fun (wr : World) (hB : Below w.heap.size w wr) (i : Nat) (hi : i < zs.length) => JV.at h2 h3 hB hi)
    have hih := Lib.hid (fun (z : JE) (hz : z ∈ zs) (wr : World) (lm : Int) (h : JV wr X z.1 z.2.1 z.2.2) (h1 : 0 < lm) (h2 : lm ≤ 1000000) => ih z.1 (by have := hkids z.1 (by rw [← ‹zs.map (·.1) = l›]; exact List.mem_map_of_mem (f := (·.1)) hz); omega) X wr z.2.1 z.2.2 lm h (by omega) h1 h2)
    obtain ⟨a0, a1, a2, a3⟩ := hC1.d4
    have htd : ((s.size : Int)).tdiv 50 = (s.size : Int) / 50 := Int.tdiv_eq_ediv_of_nonneg (by omega)
    have hd0 : (0 : Int) ≤ (s.size : Int) / 50 := by omega
    have hd1 : (s.size : Int) / 50 ≤ (s.size : Int) := by omega
    have hbound : ∀ q, 1 + s.size + n.length + jbulks (l.take q) ≤ jbulk ⟨k, s, n, l⟩ := fun q => by
      have := jbulks_part l q
      omega
    replace hbound := Lib.hid hbound
    replace hlen := Lib.hid hlen
    replace hz := Lib.hid hz
    replace hw0 := Lib.hid hw0
    replace hB0 := Lib.hid hB0
    replace hC1 := Lib.hid hC1
    clear hV h3 h2 hnam hkids ih hjb hnb
    go_enter Tryz.func6, Tryz.ntmps6
    go_upto_region 1 with fail
    rw [hw0.out]
    clear hw0
    go_wp2_with fail
    go_loopw [5, 6] (fun z i wr => ∃ (q : Nat) (v : Int), q ≤ zs.length ∧ z = .int .i64 v ∧ i = .int .i64 q ∧ 0 ≤ v ∧ v ≤ 1 + s.size + n.length + jbulks (l.take q) ∧ Below w0.heap.size w0 wr) (fun _ i _ => zs.length - (intOf i).toNat)
    case atStart =>
      refine ⟨0, _, Nat.zero_le _, rfl, rfl, ?_, ?_, Below.refl _ _⟩
      · omega
      · push_cast; omega
    case round =>
      obtain ⟨q, v, hq, rfl, rfl, hv0, hv1, hB⟩ := hrel
      have hz1 := hbound.out q
      have hjM : (jbulk ⟨k, s, n, l⟩ : Int) ≤ 1000000000000 := by omega
      obtain ⟨c0, c1, c2, c3⟩ := (hC1.out.below hB (by omega)).d4
      by_cases hlt : q < zs.length
      · by_cases hvl : v < lim
        · obtain ⟨g, o, ⟨z, vx, vy⟩, hzq, hzm, rfl, hVz, e0, e1, e2, e3⟩ := hat.out wr (hB0.out.trans (hB.mono (by omega))) q hlt
          dsimp only at hVz e0 e1 e2 e3
          obtain ⟨Ax, nx, cx, Ay, ny, cy, rfl, rfl⟩ := hVz.forms
          have hcall := Lib.hid (hih.out _ hzm wr (lim - v) hVz (by omega) (by omega))
          have hlq : l[q]? = some z := by rw [← hz.out, List.getElem?_map, hzq]; rfl
          have hnx := jbulks_next hlq
          have hz2 := hbound.out (q + 1)
          have hq0 : (0 : Int) ≤ (q : Int) := by omega
          have hq1 : (q : Int) < (zs.length : Int) := by omega
          replace hB := Lib.hid hB
          replace hlq := Lib.hid hlq
          clear hVz hzm hzq hat hih
          go_wp2_with fail
          refine hcall.out.mono ?_
          rintro e u ⟨kk, rfl, hk0, hk1, hu⟩
          clear hcall c0 c1 c2 c3 e0 e1 e2 e3
          have hB2 := Lib.hid (hB.out.trans (hu.mono hB.out.size))
          clear hu
          go_wp2_with fail
          go_roundw
          case rel => exact ⟨q + 1, v + kk, by omega, by go_num, by go_num, by omega, by push_cast at *; omega, hB2.out⟩
          case measure => simp [intOf]; omega
        · have hq1 : (q : Int) < (zs.length : Int) := by omega
          replace hB := Lib.hid hB
          clear hat hih
          go_wp2_with fail
          exact bodyPost_ret (v := .int .i64 v) (by simp [results, Tryz.results6, go_sem]) rfl ⟨v, rfl, hv0, by omega, hB0.out.trans (hB.out.mono (by omega))⟩
      · have hq1 : ¬ (q : Int) < (zs.length : Int) := by omega
        replace hB := Lib.hid hB
        clear hat hih
        go_wp2_with fail
        exact bodyPost_ret (v := .int .i64 v) (by simp [results, Tryz.results6, go_sem]) rfl ⟨v, rfl, hv0, by omega, hB0.out.trans (hB.out.mono (by omega))⟩
end Go.Proofs.YtlnkjacbdolhnaaGreatDoor
