/-
  The own form of a number is a JSON number, and its own own form; the first example, read and printed. Plain.
-/
import Derived.Test.YtghaoielnphhlaaGreatDoorM14
import Derived.Test.YtghaoielnphhlaaGreatDoorM19
import Derived.Lib.ItoaMem
import Derived.Lib.ItoaLen
import Derived.Test.YtghaoielnphhlaaGreatDoorLwQ
import Derived.Test.YtghaoielnphhlaaGreatDoorLwPi
import Derived.Test.YtghaoielnphhlaaGreatDoorLwR
import Derived.Test.YtghaoielnphhlaaGreatDoorM44
import Derived.Test.YtghaoielnphhlaaGreatDoorM17
namespace Go.Proofs.YtghaoielnphhlaaGreatDoor

/-- The first example, its text, and its text as it is printed. -/
def exJ : Jsn := ⟨7, ⟨#[]⟩, [⟨#[97]⟩, ⟨#[195, 169]⟩], [⟨6, ⟨#[]⟩, [], [⟨4, ⟨#[49, 53, 101, 45, 49]⟩, [], []⟩, ⟨1, ⟨#[]⟩, [], []⟩]⟩, ⟨5, ⟨#[240, 157, 132, 158]⟩, [], []⟩]⟩
def exS : ByteArray := ⟨#[123, 32, 34, 97, 34, 32, 58, 32, 91, 49, 46, 53, 48, 44, 32, 110, 117, 108, 108, 93, 44, 32, 34, 92, 117, 48, 48, 101, 57, 34, 32, 58, 32, 34, 92, 117, 100, 56, 51, 52, 92, 117, 100, 100, 49, 101, 34, 32, 125]⟩
def exT : ByteArray := ⟨#[123, 34, 97, 34, 58, 91, 49, 53, 101, 45, 49, 44, 110, 117, 108, 108, 93, 44, 34, 195, 169, 34, 58, 34, 240, 157, 132, 158, 34, 125]⟩
end Go.Proofs.YtghaoielnphhlaaGreatDoor


/-
  What the JSON reader refuses with, and how great a value is that it read. Plain.
-/
namespace Go.Proofs.YtghaoielnphhlaaGreatDoor

theorem nDig4 {u : Nat} (h : u < 10000) : Lib.nDigits u ≤ 4 := by
  by_cases h1 : u < 10
  · rw [Lib.nDigits_small h1]; omega
  rw [Lib.nDigits_big h1]
  by_cases h2 : u / 10 < 10
  · rw [Lib.nDigits_small h2]; omega
  rw [Lib.nDigits_big h2]
  by_cases h3 : u / 10 / 10 < 10
  · rw [Lib.nDigits_small h3]; omega
  rw [Lib.nDigits_big h3, Lib.nDigits_small (by omega)]
  omega
theorem itoa5 {n : Int} (h0 : -9999 ≤ n) (h1 : n ≤ 9999) : (Lib.itoa n).length ≤ 5 := by
  unfold Lib.itoa
  split
  · rw [List.length_cons, Lib.decDigits_length]
    have := nDig4 (u := n.natAbs) (by omega)
    omega
  · rw [Lib.decDigits_length]
    have := nDig4 (u := n.toNat) (by omega)
    omega
theorem ownL_len2 (l : List UInt8) : (ownL l).1.length ≤ 207 := by
  unfold ownL
  split
  · have h := get_nrm l
    have h1 := h.len
    have h2 := itoa5 h.lo h.hi
    dsimp only
    unfold formL
    split
    · simp
    · rw [List.length_append]
      split <;> split <;> simp <;> omega
  · simp
end Go.Proofs.YtghaoielnphhlaaGreatDoor


/-
  The walk of rostrumlaw08.like; the law: answers as JSON are the document's.
-/
namespace Go.Proofs.YtghaoielnphhlaaGreatDoor
open Go.RowKit

theorem of_len8 (n : Int) (h : I64 n) : (ofNL n).length ≤ 207 := by
  have h1 := own_itoa n h.1 h.2
  have h2 := ownL_len2 (Lib.itoa n)
  rw [h1] at h2
  exact h2
theorem num_bulk8 (n : Int) (h : I64 n) : jbulk (numJ n) ≤ 300 := by
  have : (⟨(ofNL n).toArray⟩ : ByteArray).size = (ofNL n).length := by show (ofNL n).toArray.size = _; exact List.size_toArray
  have h2 := of_len8 n h
  unfold numJ
  rw [jbulk_eq, this]
  show 1 + (ofNL n).length + 0 + 0 ≤ 300
  omega
theorem str_bulk8 (s : ByteArray) : jbulk (strJ s) = 1 + s.size := by
  unfold strJ
  rw [jbulk_eq]
  rfl
theorem some_bulk8 (s : ByteArray) : jbulk (someJ s) ≤ 1 + s.size := by
  unfold someJ
  split
  · rw [jbulk_eq]
    show 1 + 0 + 0 + 0 ≤ _
    omega
  · rw [str_bulk8]; exact Nat.le_refl _
theorem obj_bulk8 (ns : List ByteArray) (l : List Jsn) {a b : Nat} (h1 : (ns.map fun b => b.size + 1).sum ≤ a) (h2 : jbulks l ≤ b) : jbulk (mkO ns l) ≤ 1 + a + b := by
  unfold mkO
  rw [jbulk_eq]
  show 1 + 0 + _ + _ ≤ _
  omega
theorem bulks_nil : jbulks [] = 0 := rfl
theorem bulks_cons (x : Jsn) (l : List Jsn) : jbulks (x :: l) = jbulk x + jbulks l := by unfold jbulks; simp
theorem bulks_le {l : List Jsn} {c : Nat} (h : ∀ x ∈ l, jbulk x ≤ c) : jbulks l ≤ l.length * c := by
  induction l with
  | nil => exact Nat.zero_le _
  | cons x l ih =>
    have h1 := h x (by simp)
    have h2 := ih (fun y hy => h y (by simp [hy]))
    rw [bulks_cons, List.length_cons, Nat.add_mul]
    omega
theorem arr_bulk8 {l : List Jsn} {c : Nat} (h : ∀ x ∈ l, jbulk x ≤ c) : jbulk (arrJ l) ≤ 1 + l.length * c := by
  unfold arrJ
  rw [jbulk_eq]
  have := bulks_le h
  show 1 + 0 + 0 + _ ≤ _
  omega
theorem pos_bulk8 (a b : Int) (ha : I64 a) (hb : I64 b) : jbulk (posJ a b) ≤ 700 := by
  have h1 := num_bulk8 a ha
  have h2 := num_bulk8 b hb
  exact Nat.le_trans (obj_bulk8 _ _ (a := 90) (b := 600) (by decide) (by rw [bulks_cons, bulks_cons, bulks_nil]; omega)) (by omega)
theorem range_bulk8 (a b c d : Int) (ha : I64 a) (hb : I64 b) (hc : I64 c) (hd : I64 d) : jbulk (rangeJ a b c d) ≤ 1500 := by
  have h1 := pos_bulk8 a b ha hb
  have h2 := pos_bulk8 c d hc hd
  exact Nat.le_trans (obj_bulk8 _ _ (a := 90) (b := 1400) (by decide) (by rw [bulks_cons, bulks_cons, bulks_nil]; omega)) (by omega)
theorem edit_bulk8 (p : Pt) (h : PtOK p) (hs : p.s.size ≤ 1048576) : jbulk (editP p) ≤ 1060000 := by
  have h1 := range_bulk8 _ _ _ _ h.1 h.2.1 h.2.2.1 h.2.2.2.1
  have h2 := str_bulk8 p.s
  exact Nat.le_trans (obj_bulk8 _ _ (a := 90) (b := 1055000) (by decide) (by rw [bulks_cons, bulks_cons, bulks_nil]; omega)) (by omega)
theorem item_bulk8 (p : Pt) (h : PtOK p) (hs : p.s.size ≤ 1048576) : jbulk (itemP p) ≤ 1060000 := by
  have h1 := range_bulk8 _ _ _ _ h.1 h.2.1 h.2.2.1 h.2.2.2.1
  have h2 := str_bulk8 p.s
  have h3 := num_bulk8 _ h.2.2.2.2
  exact Nat.le_trans (obj_bulk8 _ _ (a := 90) (b := 1055000) (by decide) (by rw [bulks_cons, bulks_cons, bulks_cons, bulks_nil]; omega)) (by omega)
theorem edits_bulk8 (n : Int) (ps : List Pt) (hn : I64 n) (hok : ∀ p ∈ ps, PtOK p) (hs : ∀ p ∈ ps, p.s.size ≤ 1048576) (hl : ps.length ≤ 1000) : jbulk (editsJ n ps) ≤ 1000000000000 := by
  have h1 := num_bulk8 n hn
  have h2 := arr_bulk8 (l := ps.map editP) (c := 1060000) (fun x hx => by obtain ⟨p, hp, rfl⟩ := List.mem_map.1 hx; exact edit_bulk8 p (hok p hp) (hs p hp))
  rw [List.length_map] at h2
  exact Nat.le_trans (obj_bulk8 _ _ (a := 90) (b := 1100000000) (by decide) (by rw [bulks_cons, bulks_cons, bulks_nil]; omega)) (by omega)
theorem items_bulk8 (n : Int) (ps : List Pt) (hn : I64 n) (hok : ∀ p ∈ ps, PtOK p) (hs : ∀ p ∈ ps, p.s.size ≤ 1048576) (hl : ps.length ≤ 1000) : jbulk (itemsJ n ps) ≤ 1000000000000 := by
  have h1 := num_bulk8 n hn
  have h2 := arr_bulk8 (l := ps.map itemP) (c := 1060000) (fun x hx => by obtain ⟨p, hp, rfl⟩ := List.mem_map.1 hx; exact item_bulk8 p (hok p hp) (hs p hp))
  rw [List.length_map] at h2
  exact Nat.le_trans (obj_bulk8 _ _ (a := 90) (b := 1100000000) (by decide) (by rw [bulks_cons, bulks_cons, bulks_nil]; omega)) (by omega)
theorem place_bulk8 (n : Int) (ps : List Pt) (hn : I64 n) (hok : ∀ p ∈ ps, PtOK p) : jbulk (placeJ n ps) ≤ 1000000000000 := by
  have h1 := num_bulk8 n hn
  have h2 : jbulk (placeR ps) ≤ 1500 := by
    cases ps with
    | nil => unfold placeR; rw [jbulk_eq]; show 1 + 0 + 0 + 0 ≤ _; omega
    | cons p pt =>
      have h := hok p (by simp)
      exact range_bulk8 _ _ _ _ h.1 h.2.1 h.2.2.1 h.2.2.2.1
  exact Nat.le_trans (obj_bulk8 _ _ (a := 90) (b := 2000) (by decide) (by rw [bulks_cons, bulks_cons, bulks_nil]; omega)) (by omega)
theorem shown_bulk8 (n : Int) (s t : ByteArray) (hn : I64 n) (hs : s.size ≤ 1048576) (ht : t.size ≤ 1048576) : jbulk (shownJ n s t) ≤ 1000000000000 := by
  have h1 := num_bulk8 n hn
  have h2 := some_bulk8 s
  have h3 := some_bulk8 t
  exact Nat.le_trans (obj_bulk8 _ _ (a := 90) (b := 2200000) (by decide) (by rw [bulks_cons, bulks_cons, bulks_cons, bulks_nil]; omega)) (by omega)
theorem log_bulk8 (n : Int) (s : ByteArray) (hn : I64 n) (hs : s.size ≤ 1048576) : jbulk (logJ n s) ≤ 1000000000000 := by
  have h1 := num_bulk8 n hn
  have h2 := str_bulk8 s
  exact Nat.le_trans (obj_bulk8 _ _ (a := 90) (b := 2200000) (by decide) (by rw [bulks_cons, bulks_cons, bulks_nil]; omega)) (by omega)
theorem caps_bulk8 : jbulk capsJ ≤ 1000000000000 := by
  have h1 := num_bulk8 2 ⟨by omega, by omega⟩
  have h2 : jbulk trueJ = 1 := by unfold trueJ; rw [jbulk_eq]; rfl
  have h3 : jbulk capsIn ≤ 1000 := Nat.le_trans (obj_bulk8 _ _ (a := 190) (b := 400) (by decide) (by simp only [bulks_cons, bulks_nil]; omega)) (by omega)
  exact Nat.le_trans (obj_bulk8 _ _ (a := 90) (b := 1000) (by decide) (by rw [bulks_cons, bulks_nil]; omega)) (by omega)
set_option maxHeartbeats 4000000 in
theorem like8_any (j : Jsn) (lo hi : Nat) (X : Nat → Prop) (w : World) (vn vl un ul : Value) (hO : OwnJ w 9 25 j lo hi vn vl) (hV : JV w X j un ul) (hlo : lo ≤ hi) (hhi : hi ≤ w.heap.size) (hb : jbulk j ≤ 1000000000000) :
    Calls Tryz.prog 11 #[.agg #[.int .u8 j.kind, .string j.text, vn, vl], .agg #[.int .u8 j.kind, .string j.text, un, ul]] w fun e w' => e = .returned (.bool true) ∧ Below lo w w' := by
  obtain ⟨A, n, c, A', n', c', rfl, rfl⟩ := hO.forms
  obtain ⟨B, m, d, B', m', d', rfl, rfl⟩ := hV.forms
  obtain ⟨V, hV0⟩ : ∃ V, (w.alloc (.cells #[.int .u8 j.kind, .string j.text, .slice A n c, .slice A' n' c'] 25)).alloc (.cells #[.int .u8 j.kind, .string j.text, .slice B m d, .slice B' m' d'] 25) = V := ⟨_, rfl⟩
  have hB0 : Below w.heap.size w V := by rw [← hV0]; exact ((Below.refl _ _).alloc (Nat.le_refl _) _).alloc (by simp) _
  have hC1 : Cel V w.heap.size 25 #[.int .u8 j.kind, .string j.text, .slice A n c, .slice A' n' c'] := by rw [← hV0]; exact (Cel.fresh _ _ _).alloc _
  have hC2 : Cel V (w.heap.size + 1) 25 #[.int .u8 j.kind, .string j.text, .slice B m d, .slice B' m' d'] := by
    rw [← hV0]
    have := Cel.fresh (w.alloc (.cells #[.int .u8 j.kind, .string j.text, .slice A n c, .slice A' n' c'] 25)) 25 #[.int .u8 j.kind, .string j.text, .slice B m d, .slice B' m' d']
    simpa using this
  have hO1 := OwnJ.keep (w' := V) j hO (fun k _ hk => hB0.block k (by omega)) (Nat.le_refl _) (Nat.le_refl _)
  have hsame := refSame8_any j j _ _ V _ _ _ _ (OwnJ.jv j hO1) (hV.later hB0) (by omega) (by omega)
  rw [jsame_refl] at hsame
  have hspoil := fun (W : World) (hbb : Below V.heap.size V W) => spoil8_any j lo hi W _ _ (OwnJ.keep (w' := W) j hO1 (fun k _ hk => hbb.block k (by have := hB0.size; omega)) (Nat.le_refl _) (Nat.le_refl _)) hlo (by have := hB0.size; have := hbb.size; omega) hb
  obtain ⟨a0, a1, a2, a3⟩ := hC1.c4
  obtain ⟨b0, b1, b2, b3⟩ := hC2.c4
  replace hV0 := Lib.hid hV0
  replace hsame := Lib.hid hsame
  replace hspoil := Lib.hid hspoil
  replace hB0 := Lib.hid hB0
  replace hC1 := Lib.hid hC1
  have hlw : lo ≤ w.heap.size := by omega
  clear hO hV hO1 hC2 hb hlo
  go_enter Tryz.func11, Tryz.ntmps11
  go_upto_region 1 with fail
  rw [hV0.out]
  clear hV0
  go_wp2_with fail
  refine hsame.out.mono ?_
  rintro e u1 ⟨rfl, hb1⟩
  obtain ⟨z0, z1, z2, z3⟩ := (hC1.out.below hb1 hC1.out.lt).c4
  have hsp := Lib.hid (hspoil.out u1 hb1)
  have hB1 := Lib.hid (hB0.out.trans (hb1.mono hB0.out.size))
  clear hsame hspoil hB0 hC1 hb1 a0 a1 a2 a3 b0 b1 b2 b3
  go_wp2_with fail
  refine hsp.out.mono ?_
  rintro e u2 ⟨rfl, hsb⟩
  have hfin := Lib.hid ((hB1.out.mono hlw).trans hsb.1)
  clear hsp hsb hB1 z0 z1 z2 z3
  go_wp2_with fail
  exact bodyPost_ret (v := .bool true) (by simp [results, Tryz.results11, go_sem]) rfl ⟨rfl, hfin.out⟩
set_option maxRecDepth 100000 in
set_option maxHeartbeats 8000000 in
theorem lspWrites_any (n : Int) (ps : List Pt) (A : Option Addr) (g o c : Nat) (s t : ByteArray) (w : World) (hE : Env w) (hn : I64 n) (hP : PRow w g o ps) (hA : 0 < ps.length → A = some ⟨g, o, none⟩ ∧ g < w.heap.size) (hok : ∀ p ∈ ps, PtOK p) (hps : ∀ p ∈ ps, p.s.size ≤ 1048576) (hs : s.size ≤ 1048576) (ht : t.size ≤ 1048576)
    (hAw : ∀ W, Below w.heap.size w W → Calls Tryz.prog 7 #[] W fun e w' => e = .returned (.bool true) ∧ Below W.heap.size W w') :
    Calls Tryz.prog 4 #[.int .i64 n, .slice A ps.length c, .string s, .string t] w fun e w' => e = .returned (.bool true) ∧ Below w.heap.size w w' := by
  replace hAw := Lib.hid hAw
  by_cases hl : 200 < ps.length
  · have hl2 : (200 : Int) < (ps.length : Int) := by omega
    clear hE hn hP hA hok hps hs ht
    go_enter Tryz.func4, Tryz.ntmps4
    go_wp2_with fail
    refine (hAw.out w (Below.refl _ _)).mono ?_
    rintro e w1 ⟨rfl, hb⟩
    replace hb := Lib.hid hb
    go_wp2_with fail
    exact bodyPost_ret (v := .bool true) (by simp [results, Tryz.results4, go_sem]) rfl ⟨rfl, hb.out⟩
  · have hl1 : ps.length ≤ 1000 := by omega
    have hl2 : ¬ (200 : Int) < (ps.length : Int) := by omega
    have hGiven := Lib.hid (fun (W : World) (hb : Below w.heap.size w W) => given8_any ps A g o c W (hP.later hb (fun h => (hA h).2)) (fun h => ⟨(hA h).1, Nat.lt_of_lt_of_le (hA h).2 hb.size⟩) hl1)
    have hEdits1 := Lib.hid (fun (W : World) (A1 : Option Addr) (g1 c1 : Nat) (hb : Below w.heap.size w W) (hp : PRow W g1 0 ps) (ha : 0 < ps.length → A1 = some ⟨g1, 0, none⟩ ∧ g1 < W.heap.size) => lspEdits_any n ps A1 g1 c1 W (hE.below hb) hn hp ha hok hl1)
    have hEdits2 := Lib.hid (fun (W : World) (hb : Below w.heap.size w W) => refEdits8_any n ps A g o c W (hE.below hb) hn (hP.later hb (fun h => (hA h).2)) (fun h => ⟨(hA h).1, Nat.lt_of_lt_of_le (hA h).2 hb.size⟩) hok hl1)
    have bEdits := Lib.hid (edits_bulk8 n ps hn hok hps hl1)
    have hPlace1 := Lib.hid (fun (W : World) (A1 : Option Addr) (g1 c1 : Nat) (hb : Below w.heap.size w W) (hp : PRow W g1 0 ps) (ha : 0 < ps.length → A1 = some ⟨g1, 0, none⟩ ∧ g1 < W.heap.size) => lspPlace_any n ps A1 g1 c1 W (hE.below hb) hn hp ha hok hl1)
    have hPlace2 := Lib.hid (fun (W : World) (hb : Below w.heap.size w W) => refPlace8_any n ps A g o c W (hE.below hb) hn (hP.later hb (fun h => (hA h).2)) (fun h => ⟨(hA h).1, Nat.lt_of_lt_of_le (hA h).2 hb.size⟩) hok hl1)
    have bPlace := Lib.hid (place_bulk8 n ps hn hok)
    have hItems1 := Lib.hid (fun (W : World) (A1 : Option Addr) (g1 c1 : Nat) (hb : Below w.heap.size w W) (hp : PRow W g1 0 ps) (ha : 0 < ps.length → A1 = some ⟨g1, 0, none⟩ ∧ g1 < W.heap.size) => lspItems_any n ps A1 g1 c1 W (hE.below hb) hn hp ha hok hl1)
    have hItems2 := Lib.hid (fun (W : World) (hb : Below w.heap.size w W) => refItems8_any n ps A g o c W (hE.below hb) hn (hP.later hb (fun h => (hA h).2)) (fun h => ⟨(hA h).1, Nat.lt_of_lt_of_le (hA h).2 hb.size⟩) hok hl1)
    have bItems := Lib.hid (items_bulk8 n ps hn hok hps hl1)
    have hShown1 := Lib.hid (fun (W : World) (hb : Below w.heap.size w W) => lspShown_any n s t W (hE.below hb) hn)
    have hShown2 := Lib.hid (fun (W : World) (hb : Below w.heap.size w W) => refShown8_any n s t W (hE.below hb) hn)
    have bShown := Lib.hid (shown_bulk8 n s t hn hs ht)
    have hLog1 := Lib.hid (fun (W : World) (hb : Below w.heap.size w W) => lspLog_any n s W (hE.below hb) hn)
    have hLog2 := Lib.hid (fun (W : World) (hb : Below w.heap.size w W) => refLog8_any n s W (hE.below hb) hn)
    have bLog := Lib.hid (log_bulk8 n s hn hs)
    have hCaps1 := Lib.hid (fun (W : World) (hb : Below w.heap.size w W) => lspCaps_any  W (hE.below hb))
    have hCaps2 := Lib.hid (fun (W : World) (hb : Below w.heap.size w W) => refCaps8_any  W (hE.below hb))
    have bCaps := Lib.hid (caps_bulk8)
    clear hE hn hP hA hok hps hs ht hl1
    go_enter Tryz.func4, Tryz.ntmps4
    go_wp2_with fail
    go_loopw [9] (fun i wr => ∃ k : Nat, k ≤ 2 ∧ i = .int .i64 k ∧ Below w.heap.size w wr) (fun i _ => 2 - (intOf i).toNat)
    case atStart => exact ⟨0, by omega, rfl, Below.refl _ _⟩
    case round =>
      obtain ⟨k, hk, rfl, hB⟩ := hrel
      replace hB := Lib.hid hB
      by_cases hlt : k < 2
      · have hk1 : (k : Int) < 2 := by omega
        go_wp2_with fail
        refine (hGiven.out _ hB.out).mono ?_
        rintro e w1 ⟨A1, g1, c1, rfl, hp1, ha1, hb⟩
        replace hB := Lib.hid (hB.out.trans (hb.mono hB.out.size))
        replace hp1 := Lib.hid hp1
        replace ha1 := Lib.hid ha1
        clear hb
        go_wp2_with fail
        refine (hEdits1.out _ _ _ _ hB.out hp1.out ha1.out).mono ?_
        rintro e w2 ⟨xn, xl, he, hO, hb⟩
        have hlo := hB.out.size
        have hlh := hb.size
        obtain ⟨xA, xa, xc, xB, xb, xd, rfl, rfl⟩ := hO.forms
        replace hB := Lib.hid (hB.out.trans (hb.mono hB.out.size))
        replace hO := Lib.hid hO
        clear hb hp1 ha1
        obtain ⟨j, hj⟩ : ∃ j, editsJ n ps = j := ⟨_, rfl⟩
        have hbj := bEdits.out
        have href := hEdits2.out _ hB.out
        rw [hj] at he hO hbj href
        replace hj := Lib.hid hj
        replace href := Lib.hid href
        subst he
        go_wp2_with fail
        refine href.out.mono ?_
        rintro e w3 ⟨yn, yl, rfl, hV, hb⟩
        obtain ⟨yA, ya, yc, yB, yb, yd, rfl, rfl⟩ := hV.forms
        have hlike := Lib.hid (like8_any j _ _ _ w3 _ _ _ _ (OwnJ.keep (w' := w3) j hO.out (fun k _ hk => hb.block k hk) (Nat.le_refl _) (Nat.le_refl _)) hV hlh hb.size hbj)
        replace hB := Lib.hid (hB.out.trans (hb.mono hB.out.size))
        clear hb hV hO hbj hj href
        go_wp2_with fail
        refine hlike.out.mono ?_
        rintro e w4 ⟨rfl, hb⟩
        replace hB := Lib.hid (hB.out.trans (hb.mono hlo))
        clear hb hlike hlo hlh
        go_wp2_with fail
        refine (hGiven.out _ hB.out).mono ?_
        rintro e w1 ⟨A1, g1, c1, rfl, hp1, ha1, hb⟩
        replace hB := Lib.hid (hB.out.trans (hb.mono hB.out.size))
        replace hp1 := Lib.hid hp1
        replace ha1 := Lib.hid ha1
        clear hb
        go_wp2_with fail
        refine (hPlace1.out _ _ _ _ hB.out hp1.out ha1.out).mono ?_
        rintro e w2 ⟨xn, xl, he, hO, hb⟩
        have hlo := hB.out.size
        have hlh := hb.size
        obtain ⟨xA, xa, xc, xB, xb, xd, rfl, rfl⟩ := hO.forms
        replace hB := Lib.hid (hB.out.trans (hb.mono hB.out.size))
        replace hO := Lib.hid hO
        clear hb hp1 ha1
        obtain ⟨j, hj⟩ : ∃ j, placeJ n ps = j := ⟨_, rfl⟩
        have hbj := bPlace.out
        have href := hPlace2.out _ hB.out
        rw [hj] at he hO hbj href
        replace hj := Lib.hid hj
        replace href := Lib.hid href
        subst he
        go_wp2_with fail
        refine href.out.mono ?_
        rintro e w3 ⟨yn, yl, rfl, hV, hb⟩
        obtain ⟨yA, ya, yc, yB, yb, yd, rfl, rfl⟩ := hV.forms
        have hlike := Lib.hid (like8_any j _ _ _ w3 _ _ _ _ (OwnJ.keep (w' := w3) j hO.out (fun k _ hk => hb.block k hk) (Nat.le_refl _) (Nat.le_refl _)) hV hlh hb.size hbj)
        replace hB := Lib.hid (hB.out.trans (hb.mono hB.out.size))
        clear hb hV hO hbj hj href
        go_wp2_with fail
        refine hlike.out.mono ?_
        rintro e w4 ⟨rfl, hb⟩
        replace hB := Lib.hid (hB.out.trans (hb.mono hlo))
        clear hb hlike hlo hlh
        go_wp2_with fail
        refine (hGiven.out _ hB.out).mono ?_
        rintro e w1 ⟨A1, g1, c1, rfl, hp1, ha1, hb⟩
        replace hB := Lib.hid (hB.out.trans (hb.mono hB.out.size))
        replace hp1 := Lib.hid hp1
        replace ha1 := Lib.hid ha1
        clear hb
        go_wp2_with fail
        refine (hItems1.out _ _ _ _ hB.out hp1.out ha1.out).mono ?_
        rintro e w2 ⟨xn, xl, he, hO, hb⟩
        have hlo := hB.out.size
        have hlh := hb.size
        obtain ⟨xA, xa, xc, xB, xb, xd, rfl, rfl⟩ := hO.forms
        replace hB := Lib.hid (hB.out.trans (hb.mono hB.out.size))
        replace hO := Lib.hid hO
        clear hb hp1 ha1
        obtain ⟨j, hj⟩ : ∃ j, itemsJ n ps = j := ⟨_, rfl⟩
        have hbj := bItems.out
        have href := hItems2.out _ hB.out
        rw [hj] at he hO hbj href
        replace hj := Lib.hid hj
        replace href := Lib.hid href
        subst he
        go_wp2_with fail
        refine href.out.mono ?_
        rintro e w3 ⟨yn, yl, rfl, hV, hb⟩
        obtain ⟨yA, ya, yc, yB, yb, yd, rfl, rfl⟩ := hV.forms
        have hlike := Lib.hid (like8_any j _ _ _ w3 _ _ _ _ (OwnJ.keep (w' := w3) j hO.out (fun k _ hk => hb.block k hk) (Nat.le_refl _) (Nat.le_refl _)) hV hlh hb.size hbj)
        replace hB := Lib.hid (hB.out.trans (hb.mono hB.out.size))
        clear hb hV hO hbj hj href
        go_wp2_with fail
        refine hlike.out.mono ?_
        rintro e w4 ⟨rfl, hb⟩
        replace hB := Lib.hid (hB.out.trans (hb.mono hlo))
        clear hb hlike hlo hlh
        go_wp2_with fail
        refine (hShown1.out _ hB.out).mono ?_
        rintro e w2 ⟨xn, xl, he, hO, hb⟩
        have hlo := hB.out.size
        have hlh := hb.size
        obtain ⟨xA, xa, xc, xB, xb, xd, rfl, rfl⟩ := hO.forms
        replace hB := Lib.hid (hB.out.trans (hb.mono hB.out.size))
        replace hO := Lib.hid hO
        clear hb 
        obtain ⟨j, hj⟩ : ∃ j, shownJ n s t = j := ⟨_, rfl⟩
        have hbj := bShown.out
        have href := hShown2.out _ hB.out
        rw [hj] at he hO hbj href
        replace hj := Lib.hid hj
        replace href := Lib.hid href
        subst he
        go_wp2_with fail
        refine href.out.mono ?_
        rintro e w3 ⟨yn, yl, rfl, hV, hb⟩
        obtain ⟨yA, ya, yc, yB, yb, yd, rfl, rfl⟩ := hV.forms
        have hlike := Lib.hid (like8_any j _ _ _ w3 _ _ _ _ (OwnJ.keep (w' := w3) j hO.out (fun k _ hk => hb.block k hk) (Nat.le_refl _) (Nat.le_refl _)) hV hlh hb.size hbj)
        replace hB := Lib.hid (hB.out.trans (hb.mono hB.out.size))
        clear hb hV hO hbj hj href
        go_wp2_with fail
        refine hlike.out.mono ?_
        rintro e w4 ⟨rfl, hb⟩
        replace hB := Lib.hid (hB.out.trans (hb.mono hlo))
        clear hb hlike hlo hlh
        go_wp2_with fail
        refine (hLog1.out _ hB.out).mono ?_
        rintro e w2 ⟨xn, xl, he, hO, hb⟩
        have hlo := hB.out.size
        have hlh := hb.size
        obtain ⟨xA, xa, xc, xB, xb, xd, rfl, rfl⟩ := hO.forms
        replace hB := Lib.hid (hB.out.trans (hb.mono hB.out.size))
        replace hO := Lib.hid hO
        clear hb 
        obtain ⟨j, hj⟩ : ∃ j, logJ n s = j := ⟨_, rfl⟩
        have hbj := bLog.out
        have href := hLog2.out _ hB.out
        rw [hj] at he hO hbj href
        replace hj := Lib.hid hj
        replace href := Lib.hid href
        subst he
        go_wp2_with fail
        refine href.out.mono ?_
        rintro e w3 ⟨yn, yl, rfl, hV, hb⟩
        obtain ⟨yA, ya, yc, yB, yb, yd, rfl, rfl⟩ := hV.forms
        have hlike := Lib.hid (like8_any j _ _ _ w3 _ _ _ _ (OwnJ.keep (w' := w3) j hO.out (fun k _ hk => hb.block k hk) (Nat.le_refl _) (Nat.le_refl _)) hV hlh hb.size hbj)
        replace hB := Lib.hid (hB.out.trans (hb.mono hB.out.size))
        clear hb hV hO hbj hj href
        go_wp2_with fail
        refine hlike.out.mono ?_
        rintro e w4 ⟨rfl, hb⟩
        replace hB := Lib.hid (hB.out.trans (hb.mono hlo))
        clear hb hlike hlo hlh
        go_wp2_with fail
        refine (hCaps1.out _ hB.out).mono ?_
        rintro e w2 ⟨xn, xl, he, hO, hb⟩
        have hlo := hB.out.size
        have hlh := hb.size
        obtain ⟨xA, xa, xc, xB, xb, xd, rfl, rfl⟩ := hO.forms
        replace hB := Lib.hid (hB.out.trans (hb.mono hB.out.size))
        replace hO := Lib.hid hO
        clear hb 
        obtain ⟨j, hj⟩ : ∃ j, capsJ = j := ⟨_, rfl⟩
        have hbj := bCaps.out
        have href := hCaps2.out _ hB.out
        rw [hj] at he hO hbj href
        replace hj := Lib.hid hj
        replace href := Lib.hid href
        subst he
        go_wp2_with fail
        refine href.out.mono ?_
        rintro e w3 ⟨yn, yl, rfl, hV, hb⟩
        obtain ⟨yA, ya, yc, yB, yb, yd, rfl, rfl⟩ := hV.forms
        have hlike := Lib.hid (like8_any j _ _ _ w3 _ _ _ _ (OwnJ.keep (w' := w3) j hO.out (fun k _ hk => hb.block k hk) (Nat.le_refl _) (Nat.le_refl _)) hV hlh hb.size hbj)
        replace hB := Lib.hid (hB.out.trans (hb.mono hB.out.size))
        clear hb hV hO hbj hj href
        go_wp2_with fail
        refine hlike.out.mono ?_
        rintro e w4 ⟨rfl, hb⟩
        replace hB := Lib.hid (hB.out.trans (hb.mono hlo))
        clear hb hlike hlo hlh
        clear hGiven hEdits1 hEdits2 bEdits hPlace1 hPlace2 bPlace hItems1 hItems2 bItems hShown1 hShown2 bShown hLog1 hLog2 bLog hCaps1 hCaps2 bCaps
        go_wp2_with fail
        go_roundw
        case rel => exact ⟨k + 1, by omega, by go_num, hB.out⟩
        case measure => simp [intOf]; omega
      · have hk1 : ¬ (k : Int) < 2 := by omega
        clear hGiven hEdits1 hEdits2 bEdits hPlace1 hPlace2 bPlace hItems1 hItems2 bItems hShown1 hShown2 bShown hLog1 hLog2 bLog hCaps1 hCaps2 bCaps
        go_wp2_with fail
        refine (hAw.out wr hB.out).mono ?_
        rintro e w1 ⟨rfl, hb⟩
        have hfin := Lib.hid (hB.out.trans (hb.mono hB.out.size))
        clear hb
        go_wp2_with fail
        exact bodyPost_ret (v := .bool true) (by simp [results, Tryz.results4, go_sem]) rfl ⟨rfl, hfin.out⟩
end Go.Proofs.YtghaoielnphhlaaGreatDoor
