/-
  The walks of rpc's whole, id and params, and of the document's Whole and IsID.
-/
import Derived.Test.YtdjfoabinjfnfaaGreatDoorM13
import Derived.Test.YtdjfoabinjfnfaaGreatDoorM23
import Derived.Test.YtdjfoabinjfnfaaGreatDoorDecF
import Derived.Maps.StringElems
import Derived.Test.YtdjfoabinjfnfaaGreatDoorM10
import Derived.Lib.SlicesS
import Derived.Deep.MidRow
namespace Go.Proofs.YtdjfoabinjfnfaaGreatDoor
open Go.RowKit
def jwhole (j : Jsn) : Int × Bool := if j.kind = 4 then ((intL j.text.data.toList).1, decide ((intL j.text.data.toList).2 = 0)) else (0, false)
def jisid (j : Jsn) : Bool := (jwhole j).2 || decide (j.kind = 5)
def jispar (j : Jsn) : Bool := decide (j.kind = 6) || decide (j.kind = 7)
def IntSays (f : Nat) : Prop := ∀ (s : ByteArray) (w : World), s.size ≤ 1000000 →
    Calls Tryz.prog f #[.string s] w fun en w' => en = .returned (.tuple #[.int .i64 (intL s.data.toList).1, .int .i64 (intL s.data.toList).2]) ∧ Below w.heap.size w w'
def WholeEnd (j : Jsn) (w : World) (e : Ending) (w' : World) : Prop := e = .returned (.tuple #[.int .i64 (jwhole j).1, .bool (jwhole j).2]) ∧ Below w.heap.size w w'
set_option maxHeartbeats 1000000 in
theorem rpcWhole_any (j : Jsn) (X : Nat → Prop) (w : World) (vn vl : Value) (hV : JV w X j vn vl) (hbk : jbulk j ≤ 1000000) :
    Calls Tryz.prog 138 #[.agg #[.int .u8 j.kind, .string j.text, vn, vl]] w (WholeEnd j w) := by
  obtain ⟨An, nn, cn, Al, nl, cl, rfl, rfl⟩ := hV.forms
  obtain ⟨hsz, _⟩ := bulk_parts hbk
  obtain ⟨k, s, n, l⟩ := j
  dsimp only at hsz ⊢
  have hB0 := (Below.refl w.heap.size w).alloc (Nat.le_refl _) (.cells #[.int .u8 k, .string s, .slice An nn cn, .slice Al nl cl] 25)
  obtain ⟨R, hR⟩ : ∃ R, jwhole ⟨k, s, n, l⟩ = R := ⟨_, rfl⟩
  unfold WholeEnd
  rw [hR]
  unfold jwhole at hR
  dsimp only at hR
  have hc := Lib.hid (decInt_any s (w.alloc (.cells #[.int .u8 k, .string s, .slice An nn cn, .slice Al nl cl] 25)) (by omega))
  clear hV hbk hsz
  by_cases hk : k = 4
  · rw [if_pos hk] at hR
    subst hk
    subst hR
    obtain ⟨⟨u, e⟩, hu⟩ : ∃ x, intL s.data.toList = x := ⟨_, rfl⟩
    rw [hu] at hc ⊢
    clear hu
    dsimp only at hc ⊢
    replace hB0 := Lib.hid hB0
    go_enter Tryz.func138, Tryz.ntmps138
    go_wp2_with fail
    refine hc.out.mono ?_
    rintro en w1 ⟨rfl, hb⟩
    have hB1 := Lib.hid (hB0.out.trans (hb.mono (by simp)))
    clear hc hb hB0
    by_cases he : e = 0
    · subst he
      go_wp2_with fail
      refine bodyPost_ret (v := .tuple #[.int .i64 u, .bool true]) (by simp [results, Tryz.results138, go_sem]) rfl ⟨rfl, hB1.out⟩
    · have he2 : (e == 0) = false := beq_eq_false_iff_ne.2 he
      replace he := Lib.hid he
      go_wp2_with fail
      refine bodyPost_ret (v := .tuple #[.int .i64 u, .bool false]) (by simp [results, Tryz.results138, go_sem]) rfl ⟨by rw [decide_eq_false he.out], hB1.out⟩
  · rw [if_neg hk] at hR
    subst hR
    have hk2 : (k == 4) = false := beq_eq_false_iff_ne.2 hk
    have hk3 : (k != 4) = true := by simp [hk]
    replace hB0 := Lib.hid hB0
    clear hc hk
    go_enter Tryz.func138, Tryz.ntmps138
    go_wp2_with fail
    refine bodyPost_ret (v := .tuple #[.int .i64 0, .bool false]) (by simp [results, Tryz.results138, go_sem]) rfl ⟨rfl, hB0.out⟩
set_option maxHeartbeats 1000000 in
theorem rpcId_any (j : Jsn) (X : Nat → Prop) (w : World) (vn vl : Value) (hV : JV w X j vn vl) (hbk : jbulk j ≤ 1000000) :
    Calls Tryz.prog 132 #[.agg #[.int .u8 j.kind, .string j.text, vn, vl]] w (ValEnd (jisid j) w) := by
  obtain ⟨W0, hW0⟩ : ∃ W0, w.alloc (.cells #[.int .u8 j.kind, .string j.text, vn, vl] 25) = W0 := ⟨_, rfl⟩
  have hB0 : Below w.heap.size w W0 := by rw [← hW0]; exact (Below.refl _ _).alloc (Nat.le_refl _) _
  have hC0 : Cel W0 w.heap.size 25 #[.int .u8 j.kind, .string j.text, vn, vl] := by rw [← hW0]; exact Cel.fresh _ _ _
  have hc := Lib.hid (rpcWhole_any j X W0 vn vl (hV.later hB0) hbk)
  obtain ⟨An, nn, cn, Al, nl, cl, rfl, rfl⟩ := hV.forms
  unfold WholeEnd at hc
  obtain ⟨R, hR⟩ : ∃ R, jisid j = R := ⟨_, rfl⟩
  rw [hR]
  unfold jisid at hR
  obtain ⟨⟨u, b⟩, hu⟩ : ∃ x, jwhole j = x := ⟨_, rfl⟩
  rw [hu] at hc hR
  clear hu hV hbk
  obtain ⟨k, s, n, l⟩ := j
  dsimp only at hW0 hC0 hc hR ⊢
  have h0 := Lib.hid (And.intro hC0 hB0)
  obtain ⟨p0, p1, p2, p3⟩ := box_cells hC0
  replace hW0 := Lib.hid hW0
  clear hC0 hB0
  go_enter Tryz.func132, Tryz.ntmps132
  go_wp2_with fail
  rw [hW0.out]
  clear hW0
  refine hc.out.mono ?_
  rintro en w1 ⟨rfl, hb⟩
  have h1 := Lib.hid (box_step h0.out hb)
  clear p0 p1 p2 p3 h0 hb hc
  obtain ⟨p0, p1, p2, p3⟩ := box_cells h1.out.1
  cases b
  · rw [Bool.false_or] at hR
    by_cases hk : k = 5
    · rw [decide_eq_true hk] at hR
      subst hk
      subst hR
      go_wp2_with fail
      go_ret
      exact ⟨rfl, h1.out.2⟩
    · rw [decide_eq_false hk] at hR
      subst hR
      have hk2 : (k == 5) = false := beq_eq_false_iff_ne.2 hk
      clear hk
      go_wp2_with fail
      go_ret
      exact ⟨rfl, h1.out.2⟩
  · rw [Bool.true_or] at hR
    subst hR
    go_wp2_with fail
    go_ret
    exact ⟨rfl, h1.out.2⟩
set_option maxHeartbeats 1000000 in
theorem rpcParams_any (j : Jsn) (X : Nat → Prop) (w : World) (vn vl : Value) (hV : JV w X j vn vl) :
    Calls Tryz.prog 133 #[.agg #[.int .u8 j.kind, .string j.text, vn, vl]] w (ValEnd (jispar j) w) := by
  obtain ⟨An, nn, cn, Al, nl, cl, rfl, rfl⟩ := hV.forms
  obtain ⟨k, s, n, l⟩ := j
  have hB0 := Lib.hid ((Below.refl w.heap.size w).alloc (Nat.le_refl _) (.cells #[.int .u8 k, .string s, .slice An nn cn, .slice Al nl cl] 25))
  obtain ⟨R, hR⟩ : ∃ R, jispar ⟨k, s, n, l⟩ = R := ⟨_, rfl⟩
  rw [hR]
  unfold jispar at hR
  dsimp only at hR ⊢
  clear hV
  by_cases h6 : k = 6
  · rw [decide_eq_true h6] at hR
    subst h6
    subst hR
    go_enter Tryz.func133, Tryz.ntmps133
    go_wp2_with fail
    go_ret
    exact ⟨rfl, hB0.out⟩
  rw [decide_eq_false h6, Bool.false_or] at hR
  have g6 : (k == 6) = false := beq_eq_false_iff_ne.2 h6
  clear h6
  by_cases h7 : k = 7
  · rw [decide_eq_true h7] at hR
    subst h7
    subst hR
    go_enter Tryz.func133, Tryz.ntmps133
    go_wp2_with fail
    go_ret
    exact ⟨rfl, hB0.out⟩
  · rw [decide_eq_false h7] at hR
    subst hR
    have g7 : (k == 7) = false := beq_eq_false_iff_ne.2 h7
    clear h7
    go_enter Tryz.func133, Tryz.ntmps133
    go_wp2_with fail
    go_ret
    exact ⟨rfl, hB0.out⟩
end Go.Proofs.YtdjfoabinjfnfaaGreatDoor
namespace Go.Proofs.YtdjfoabinjfnfaaGreatDoor
open Go.RowKit Go.WideMaps Go.Maps
def aboutS (c : Int) : ByteArray :=
  if c = -32700 then ⟨#[110, 111, 32, 74, 83, 79, 78]⟩ else
  if c = -32600 then ⟨#[110, 111, 32, 114, 101, 113, 117, 101, 115, 116]⟩ else
  if c = -32601 then ⟨#[110, 111, 32, 115, 117, 99, 104, 32, 109, 101, 116, 104, 111, 100]⟩ else
  if c = -32602 then ⟨#[119, 114, 111, 110, 103, 32, 112, 97, 114, 97, 109, 101, 116, 101, 114, 115]⟩ else
  if c = -32002 then ⟨#[110, 111, 116, 32, 105, 110, 105, 116, 105, 97, 108, 105, 122, 101, 100]⟩ else
  if c = -32800 then ⟨#[99, 97, 110, 99, 101, 108, 108, 101, 100]⟩ else
  if c = -32803 then ⟨#[114, 101, 102, 117, 115, 101, 100]⟩ else
  if c = -32000 then ⟨#[116, 104, 101, 32, 113, 117, 101, 117, 101, 32, 105, 115, 32, 102, 117, 108, 108]⟩ else
  if c = -32001 then ⟨#[116, 111, 111, 32, 103, 114, 101, 97, 116]⟩ else
  ⟨#[]⟩
def aboutD : DataW Unit :=
  ((((((((((.map [] : DataW Unit).put (.int .i64 (-32700)) (.lit (.string [110, 111, 32, 74, 83, 79, 78]))).put (.int .i64 (-32600)) (.lit (.string [110, 111, 32, 114, 101, 113, 117, 101, 115, 116]))).put (.int .i64 (-32601)) (.lit (.string [110, 111, 32, 115, 117, 99, 104, 32, 109, 101, 116, 104, 111, 100]))).put (.int .i64 (-32602)) (.lit (.string [119, 114, 111, 110, 103, 32, 112, 97, 114, 97, 109, 101, 116, 101, 114, 115]))).put (.int .i64 (-32002)) (.lit (.string [110, 111, 116, 32, 105, 110, 105, 116, 105, 97, 108, 105, 122, 101, 100]))).put (.int .i64 (-32800)) (.lit (.string [99, 97, 110, 99, 101, 108, 108, 101, 100]))).put (.int .i64 (-32803)) (.lit (.string [114, 101, 102, 117, 115, 101, 100]))).put (.int .i64 (-32000)) (.lit (.string [116, 104, 101, 32, 113, 117, 101, 117, 101, 32, 105, 115, 32, 102, 117, 108, 108]))).put (.int .i64 (-32001)) (.lit (.string [116, 111, 111, 32, 103, 114, 101, 97, 116])))
end Go.Proofs.YtdjfoabinjfnfaaGreatDoor
namespace Go.Proofs.YtdjfoabinjfnfaaGreatDoor
open Go.RowKit
def findI (L : List ByteArray) (x : ByteArray) : Int := match jfind L x with | none => -1 | some i => (i : Int)
theorem idxFromS_find (x : ByteArray) : ∀ (L : List ByteArray) (i : Nat), Go.Lib.idxFromS L x i = match jfind L x with | none => -1 | some k => ((i + k : Nat) : Int)
  | [], i => by simp [Go.Lib.idxFromS, jfind]
  | z :: L, i => by
    have ih := idxFromS_find x L (i + 1)
    unfold jfind at ih ⊢
    by_cases h : z = x
    · simp [Go.Lib.idxFromS, List.findIdx?_cons, h]
    · simp only [Go.Lib.idxFromS, List.findIdx?_cons, h, if_false, decide_false]
      rw [ih]
      rcases L.findIdx? (fun b => decide (b = x)) with _ | k
      · rfl
      · simp only [Option.map_some]
        show ((i + 1 + k : Nat) : Int) = ((i + (k + 1) : Nat) : Int)
        omega
theorem idxOfS_find (L : List ByteArray) (x : ByteArray) : Go.Lib.idxOfS L x = findI L x := by
  unfold Go.Lib.idxOfS findI
  rw [idxFromS_find]
  rcases jfind L x with _ | k
  · rfl
  · simp
theorem indexStr_any (X : Nat → Prop) (v : Value) (L : List ByteArray) (x : ByteArray) (w : World) (hv : StrL w X v L) (hl : L.length ≤ 1000000000000) :
    Calls Tryz.prog 74 #[v, .string x] w fun e w' => e = .returned (.int .i64 (findI L x)) ∧ w = w' := by
  obtain ⟨A, c, rfl, h1⟩ := hv
  by_cases h0 : L.length = 0
  · have e1 : L = [] := List.eq_nil_of_length_eq_zero h0
    subst e1
    refine (Tryz.slices_Index_string_empty A c x w).mono ?_
    rintro e w' ⟨rfl, rfl⟩
    exact ⟨by rw [idxOfS_find], rfl⟩
  · obtain ⟨g, o, rfl, _, _, q1⟩ := h1 (by omega)
    refine (Tryz.slices_Index_string g o L.length c L x w (Nat.le_refl _) (by omega) (fun j hj => by rw [q1 j _ (List.getElem?_eq_getElem hj)]; simp [List.getD, hj])).mono ?_
    rintro e w' ⟨rfl, rfl⟩
    rw [List.take_of_length_le (Nat.le_refl _)]
    exact ⟨by rw [idxOfS_find], rfl⟩
theorem findI_bd (L : List ByteArray) (x : ByteArray) : -1 ≤ findI L x ∧ findI L x < L.length ∨ findI L x = -1 := by
  unfold findI
  rcases h : jfind L x with _ | k
  · exact Or.inr rfl
  · left
    have := (List.findIdx?_eq_some_iff_findIdx_eq.1 h).1
    constructor
    · simp only; omega
    · simp only; omega
def zeroJ : Jsn := ⟨0, ⟨#[]⟩, [], []⟩
def GetJEnd (r : Option Jsn) (w : World) (e : Ending) (w' : World) : Prop := ∃ vn vl, e = .returned (.tuple #[.agg #[.int .u8 (r.getD zeroJ).kind, .string (r.getD zeroJ).text, vn, vl], .bool r.isSome]) ∧ OwnJ w' 9 25 (r.getD zeroJ) w.heap.size w'.heap.size vn vl ∧ Below w.heap.size w w'
theorem zero_own (w : World) (tS tJ : TypeId) (lo hi : Nat) : OwnJ w tS tJ zeroJ lo hi (.slice none 0 0) (.slice none 0 0) := by
  unfold zeroJ
  rw [OwnJ_eq]
  exact ⟨by omega, by omega, 0, 0, #[], none, 0, [], ⟨none, 0, rfl, fun h => by simp at h⟩, rfl, (fun h => by simp at h), rfl, (fun i x u h => by simp at h), (fun i j u v _ h => by simp at h)⟩
set_option maxRecDepth 100000 in
set_option maxHeartbeats 2000000 in
theorem jsnGet_any (j : Jsn) (X : Nat → Prop) (w : World) (vn vl : Value) (x : ByteArray) (hV : JV w X j vn vl) (hbk : jbulk j ≤ 1000000000000) :
    Calls Tryz.prog 36 #[.agg #[.int .u8 j.kind, .string j.text, vn, vl], .string x] w (GetJEnd (jget j x) w) := by
  obtain ⟨k, s, n, l⟩ := j
  obtain ⟨_, hn, hl, _, hkids⟩ := bulk_parts hbk
  dsimp only at hl hkids hn
  have hnam := hV.names
  obtain ⟨An, cn, rfl⟩ := hnam.len
  obtain ⟨A, c, zs, rfl, hz, h2, h3⟩ := hV.elems
  dsimp only at hnam ⊢
  have hlen : zs.length = l.length := by rw [← hz, List.length_map]
  rw [← hlen] at hl
  have hB0 : Below w.heap.size w ((w.alloc (.cells #[.int .u8 k, .string s, .slice An n.length cn, .slice A zs.length c] 25)).alloc (.cells #[.int .u8 0, .string ⟨#[]⟩, .slice none 0 0, .slice none 0 0] 25)) := ((Below.refl _ _).alloc (Nat.le_refl _) _).alloc (by simp) _
  have hix := indexStr_any X _ n x _ (hnam.later hB0) hn
  obtain ⟨I, hI⟩ : ∃ I, findI n x = I := ⟨_, rfl⟩
  have hbd := findI_bd n x
  rw [hI] at hix hbd
  obtain ⟨r, hr⟩ : ∃ r, jget ⟨k, s, n, l⟩ x = r := ⟨_, rfl⟩
  rw [hr]
  by_cases hyes : k = 7 ∧ 0 ≤ I ∧ I < zs.length
  · obtain ⟨rfl, hI0, hI1⟩ := hyes
    obtain ⟨i, rfl⟩ : ∃ i : Nat, I = (i : Int) := ⟨I.toNat, by omega⟩
    have hlt : i < zs.length := by omega
    obtain ⟨g, o, ⟨y, vx, vy⟩, hzq, hzm, rfl, hVz, a0, a1, a2, a3⟩ := JV.at h2 h3 hB0 hlt
    dsimp only at hVz a0 a1 a2 a3
    have hym : y ∈ l := by rw [← hz]; exact List.mem_map_of_mem (f := (·.1)) hzm
    have hrv : r = some y := by
      rw [← hr]
      unfold jget
      rw [if_pos rfl]
      unfold findI at hI
      rcases hj : jfind n x with _ | kk
      · rw [hj] at hI; simp only at hI; omega
      · rw [hj] at hI
        simp only at hI ⊢
        have : kk = i := by omega
        subst this
        show l[kk]? = some y
        rw [← hz, List.getElem?_map, hzq]; rfl
    subst hrv
    obtain ⟨Ax, nx, cx, Ay, ny, cy, rfl, rfl⟩ := hVz.forms
    have hcall := jsnOwn_any y X _ _ _ hVz (by have := hkids y hym; omega)
    clear hV h2 h3 hkids hbk hlen hI hr hnam hzq hzm hVz hz
    replace hix := Lib.hid hix
    replace hcall := Lib.hid hcall
    replace hB0 := Lib.hid hB0
    have hi0 : (0 : Int) ≤ (i : Int) := by omega
    have hi1 : (i : Int) < (zs.length : Int) := by omega
    go_enter Tryz.func36, Tryz.ntmps36
    go_wp2_with fail
    refine hix.out.mono ?_
    rintro e w1 ⟨rfl, rfl⟩
    clear hix
    go_wp2_with fail
    refine hcall.out.mono ?_
    rintro e w2 ⟨vN, vL, rfl, hO, hB2⟩
    obtain ⟨A3, n3, c3, A4, n4, c4, rfl, rfl⟩ := hO.forms
    have hC2 : Cel ((w.alloc (.cells #[.int .u8 7, .string s, .slice An n.length cn, .slice (some ⟨g, o, none⟩) zs.length c] 25)).alloc (.cells #[.int .u8 0, .string ⟨#[]⟩, .slice none 0 0, .slice none 0 0] 25)) (w.heap.size + 1) 25 #[.int .u8 0, .string ⟨#[]⟩, .slice none 0 0, .slice none 0 0] := by
      have := Cel.fresh (w.alloc (.cells #[.int .u8 7, .string s, .slice An n.length cn, .slice (some ⟨g, o, none⟩) zs.length c] 25)) 25 #[.int .u8 0, .string ⟨#[]⟩, .slice none 0 0, .slice none 0 0]
      simpa using this
    have hD2 := hC2.below hB2 hC2.lt
    have hB3 := hB0.out.trans (hB2.mono (by simp; omega))
    have hs3 := hB2.size
    simp at hs3
    have r0 := hD2.cell 0
    have r1 := hD2.cell 1
    have r2 := hD2.cell 2
    have r3 := hD2.cell 3
    have s0 := hD2.froz 0
    have s1 := hD2.froz 1
    have s2 := hD2.froz 2
    have s3 := hD2.froz 3
    simp only [List.getElem?_toArray, List.getElem?_cons_zero, List.getElem?_cons_succ] at r0 r1 r2 r3
    clear hcall hB2 hB0 hC2 hD2 a0 a1 a2 a3
    replace hO := Lib.hid hO
    replace hB3 := Lib.hid hB3
    go_wp2_with fail
    refine bodyPost_ret (v := .tuple #[.agg #[.int .u8 y.kind, .string y.text, .slice A3 n3 c3, .slice A4 n4 c4], .bool true]) (by simp [results, Tryz.results36, go_sem, r0, r1, r2, r3]) rfl ⟨_, _, rfl, ?_, ?_⟩
    · refine OwnJ.keep _ hO.out (fun b h1 _ => ?_) (by simp; omega) (by simp [World.setCell])
      simp at h1
      rw [Below.heap_setCell _ _ _ _ (by simp; omega), Below.heap_setCell _ _ _ _ (by simp; omega), Below.heap_setCell _ _ _ _ (by simp; omega), Below.heap_setCell _ _ _ _ (by simp; omega)]
    · exact (((hB3.out.setCell (by simp) _).setCell (by simp) _).setCell (by simp) _).setCell (by simp) _
  · have hrv : r = none := by
      rw [← hr]
      unfold jget
      by_cases hk : k = 7
      · rw [if_pos hk]
        unfold findI at hI
        show (match jfind n x with | none => none | some i => l[i]?) = none
        rcases hj : jfind n x with _ | kk
        · rfl
        · rw [hj] at hI
          simp only at hI ⊢
          exact List.getElem?_eq_none (by omega)
      · rw [if_neg hk]
    subst hrv
    clear hV h2 h3 hkids hbk hI hr hz hnam
    replace hix := Lib.hid hix
    replace hB0 := Lib.hid hB0
    clear hlen
    by_cases hk : k = 7
    · subst hk
      by_cases hI0 : I < 0
      · clear hyes hB0
        go_enter Tryz.func36, Tryz.ntmps36
        go_wp2_with fail
        refine hix.out.mono ?_
        rintro e w1 ⟨rfl, rfl⟩
        clear hix
        go_wp2_with fail
        exact bodyPost_ret (v := .tuple #[.agg #[.int .u8 0, .string ⟨#[]⟩, .slice none 0 0, .slice none 0 0], .bool false]) (by simp [results, Tryz.results36, go_sem]) rfl ⟨_, _, rfl, zero_own _ _ _ _ _, ((Below.refl _ _).alloc (Nat.le_refl _) _).alloc (by simp) _⟩
      · have hI1 : (zs.length : Int) ≤ I := by
          rcases Int.lt_or_le I (zs.length : Int) with h | h
          · exact absurd ⟨rfl, by omega, h⟩ hyes
          · exact h
        clear hyes hB0
        go_enter Tryz.func36, Tryz.ntmps36
        go_wp2_with fail
        refine hix.out.mono ?_
        rintro e w1 ⟨rfl, rfl⟩
        clear hix
        go_wp2_with fail
        exact bodyPost_ret (v := .tuple #[.agg #[.int .u8 0, .string ⟨#[]⟩, .slice none 0 0, .slice none 0 0], .bool false]) (by simp [results, Tryz.results36, go_sem]) rfl ⟨_, _, rfl, zero_own _ _ _ _ _, ((Below.refl _ _).alloc (Nat.le_refl _) _).alloc (by simp) _⟩
    · have hk1 : (k == 7) = false := beq_eq_false_iff_ne.2 hk
      have hk2 : (k != 7) = true := by simp [hk]
      · clear hyes hB0
        go_enter Tryz.func36, Tryz.ntmps36
        go_wp2_with fail
        refine hix.out.mono ?_
        rintro e w1 ⟨rfl, rfl⟩
        clear hix
        go_wp2_with fail
        exact bodyPost_ret (v := .tuple #[.agg #[.int .u8 0, .string ⟨#[]⟩, .slice none 0 0, .slice none 0 0], .bool false]) (by simp [results, Tryz.results36, go_sem]) rfl ⟨_, _, rfl, zero_own _ _ _ _ _, ((Below.refl _ _).alloc (Nat.le_refl _) _).alloc (by simp) _⟩
def putA (cs : Array Value) : Nat → List Value → Array Value
  | _, [] => cs
  | o, v :: r => putA (cs.setIfInBounds o v) (o + 1) r
theorem putA_over : ∀ (vs cs pre : List Value), vs.length = cs.length → putA (pre ++ cs).toArray pre.length vs = (pre ++ vs).toArray
  | [], [], pre, _ => by simp [putA]
  | v :: r, c :: cs, pre, h => by
    show putA ((pre ++ c :: cs).toArray.setIfInBounds pre.length v) (pre.length + 1) r = _
    have h1 : (pre ++ c :: cs).toArray.setIfInBounds pre.length v = ((pre ++ [v]) ++ cs).toArray := by simp
    have h2 := putA_over r cs (pre ++ [v]) (by simpa using h)
    rw [h1]
    simpa using h2
theorem putA_whole (vs cs : List Value) (h : vs.length = cs.length) : putA cs.toArray 0 vs = vs.toArray := by
  simpa using putA_over vs cs [] h
theorem Cel.sets {b : Nat} {t : TypeId} : ∀ (vs : List Value) (o : Nat) (cs : Array Value) (w : World), Cel w b t cs → Cel (w.setCells b o vs) b t (putA cs o vs)
  | [], _, _, _, h => h
  | v :: r, o, cs, w, h => Cel.sets r (o + 1) (cs.setIfInBounds o v) (w.setCell ⟨b, o, none⟩ v) (h.set o v)
theorem sets_below {b : Nat} : ∀ (vs : List Value) (o : Nat) (w : World), (∀ B, B ≤ b → Below B w (w.setCells b o vs)) ∧ (∀ d, d ≠ b → (w.setCells b o vs).heap[d]? = w.heap[d]?) ∧ (w.setCells b o vs).heap.size = w.heap.size
  | [], _, w => ⟨fun B _ => Below.refl B w, fun _ _ => rfl, rfl⟩
  | v :: r, o, w => by
    obtain ⟨h1, h2, h3⟩ := sets_below r (o + 1) (w.setCell ⟨b, o, none⟩ v)
    refine ⟨fun B hB => ((Below.refl B w).setCell (p := ⟨b, o, none⟩) hB v).trans (h1 B hB), fun d hd => (h2 d hd).trans (Below.heap_setCell _ _ _ _ hd), h3.trans (by simp [World.setCell])⟩
def Alone (b : Nat) (w w' : World) : Prop := (∀ B, B ≤ b → Below B w w') ∧ (∀ d, d ≠ b → w'.heap[d]? = w.heap[d]?) ∧ w'.heap.size = w.heap.size
theorem Alone.cel {b d : Nat} {w w' : World} (h : Alone b w w') {t : TypeId} {cs : Array Value} (hC : Cel w d t cs) (hd : d ≠ b) : Cel w' d t cs := (h.2.1 d hd).trans hC
theorem wpList_store_cel {P : Program} {ops : Array Oper} {rest : List Oper} {op : Oper} {a : Act} {w : World} {Q : Exit → Act → World → Prop} (hgd : op.guard = none) (ty : TypeId) (x y : Operand) (ho : op.op = .store ty x y)
    (b o : Nat) (cells cs new : Array Value) (t : TypeId) (hx : a.eval x = .pointer (some ⟨b, o, none⟩)) (hy : a.eval y = .agg cells) (hC : Cel w b t cs) (hlen : o + cells.size ≤ cs.size) (hnew : putA cs o cells.toList = new)
    (hi : (P.info? ty).map (·.size) = some cells.size) (h1 : cells.all (·.oneCell') = true)
    (h : ∀ w', Cel w' b t new → Alone b w w' → wpList P ops Q rest (a.put op.dst undef) w') : wpList P ops Q (op :: rest) a w :=
  wpList_store_mid hgd ty x y ho b o cells hx hy (fun j hj => ⟨by rw [hC.cell]; rw [Array.getElem?_eq_getElem (by omega)]; rfl, hC.froz _⟩) hi h1 (h _ (by have := Cel.sets cells.toList o cs w hC; rwa [hnew] at this) (sets_below cells.toList o w))
theorem wpList_load_cel {P : Program} {ops : Array Oper} {rest : List Oper} {op : Oper} {a : Act} {w : World} {Q : Exit → Act → World → Prop} (hgd : op.guard = none) (ty : TypeId) (x : Operand) (ho : op.op = .load ty x)
    (b o : Nat) (cs : Array Value) (sub : List Value) (t : TypeId) (d : TypeDesc) (hx : a.eval x = .pointer (some ⟨b, o, none⟩)) (hC : Cel w b t cs) (hsub : ∀ j v, sub[j]? = some v → cs[o + j]? = some v)
    (hu : P.underlying ty = some d) (hd : d.isRow = true) (hi : (P.info? ty).map (·.size) = some sub.length)
    (h : wpList P ops Q rest (a.put op.dst (.agg sub.toArray)) w) : wpList P ops Q (op :: rest) a w :=
  wpList_load_mid hgd ty x ho b o hx sub d (fun j v hv => by rw [hC.cell]; exact hsub j v hv) hu hd hi h
theorem wpList_load_all {P : Program} {ops : Array Oper} {rest : List Oper} {op : Oper} {a : Act} {w : World} {Q : Exit → Act → World → Prop} (hgd : op.guard = none) (ty : TypeId) (x : Operand) (ho : op.op = .load ty x)
    (b : Nat) (cs : Array Value) (t : TypeId) (d : TypeDesc) (hx : a.eval x = .pointer (some ⟨b, 0, none⟩)) (hC : Cel w b t cs)
    (hu : P.underlying ty = some d) (hd : d.isRow = true) (hi : (P.info? ty).map (·.size) = some cs.size)
    (h : wpList P ops Q rest (a.put op.dst (.agg cs)) w) : wpList P ops Q (op :: rest) a w :=
  wpList_load_cel hgd ty x ho b 0 cs cs.toList t d hx hC (fun j v hv => by simpa using hv) hu hd (by simpa using hi) (by simpa using h)
theorem results_cel2 {P : Program} {fn : Func} {p q : Tmp} {ty : TypeId} (h : fn.results = #[.cell p ty, .tmp q]) (tmps : Array Value) (w : World) (g : Nat) (t : TypeId) (cs : Array Value) (d : TypeDesc)
    (hp : tmps.getD p undef = .pointer (some ⟨g, 0, none⟩)) (hg : Cel w g t cs) (hu : P.underlying ty = some d) (hd : d.isRow = true) (hi : (P.info? ty).map (·.size) = some cs.size) :
    (results fn tmps).run P w = .ok (.tuple #[.agg cs, tmps.getD q undef]) w := by
  have hp' : tmps[p]?.getD undef = .pointer (some ⟨g, 0, none⟩) := by simpa using hp
  have hl : (loadVar ty ⟨g, 0, none⟩).run P w = .ok (.agg cs) w := by
    have := run_loadVar_mid (P := P) w g 0 ty cs.toList d (fun j v hv => by rw [hg.cell]; simpa using hv) hu hd (by simpa using hi)
    simpa using this
  simp [results, h, hp', asAddr, hl]
theorem msgDesc : ∃ d, Tryz.prog.underlying 73 = some d ∧ d.isRow = true := ⟨_, Tryz.underlying73, rfl⟩
theorem msgInfo : (Tryz.prog.info? 73).map (·.size) = some 16 := by kernel_rfl
theorem jsnInfo : (Tryz.prog.info? 25).map (·.size) = some 4 := by kernel_rfl
theorem jsnDesc : ∃ d, Tryz.prog.underlying 25 = some d ∧ d.isRow = true := ⟨_, Tryz.underlying25, rfl⟩
end Go.Proofs.YtdjfoabinjfnfaaGreatDoor
