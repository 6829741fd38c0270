/-
  The walk of the closure that lsp.methods makes of others: a document's name, then what the others read.
-/
import Derived.Test.YtghaoielnphhlaaGreatDoorM08
import Derived.Maps.StringElems
namespace Go.Proofs.YtghaoielnphhlaaGreatDoor
open Go.RowKit

theorem LMem.more {w : World} {X Y : Nat → Prop} {B b : Nat} {m : LM} (h : LMem w X B b m) (hXY : ∀ k, X k → k < w.heap.size → Y k) : LMem w Y B b m := by
  obtain ⟨idn, idl, chv, h1, h2, h3, h4⟩ := h
  exact ⟨idn, idl, chv, h1, h2.more hXY, h3, h4⟩
def ReadSaysK (F : Nat) (caps : Array Value) (rd : Rd) (K : Nat → World → Prop) : Prop := ∀ (j : Jsn) (X : Nat → Prop) (B b : Nat) (m : LM) (w : World) (vn vl : Value), K b w → JV w X j vn vl → jbulk j ≤ 1000000000000 → (∀ k, X k → k < w.heap.size → k ≠ b ∧ k < B) → LMem w X B b m → m.chs = [] → b < B → B ≤ w.heap.size →
  Calls Tryz.prog F (#[.pointer (some ⟨b, 0, none⟩), .agg #[.int .u8 j.kind, .string j.text, vn, vl]] ++ caps) w (ReadEndM (rd j m) X B b w)
/-- The functions that a closure of doc hands on to, as they lie. -/
def DocK (g h cap : Nat) (Af : Option Addr) (fs : List (Nat × Rd)) (b : Nat) (w : World) : Prop := g ≠ b ∧ g < w.heap.size ∧ Cel w g 111 #[.slice Af fs.length cap] ∧ (0 < fs.length → h ≠ b ∧ Af = some ⟨h, 0, none⟩ ∧ Cel w h 72 (fs.map fun p => Value.func (.func p.1) #[] #[]).toArray)
theorem docK_fun {g h cap : Nat} {Af : Option Addr} {fs : List (Nat × Rd)} {b : Nat} {w : World} (hk : DocK g h cap Af fs b w) {q : Nat} {p : Nat × Rd} (hq : fs[q]? = some p) : Af = some ⟨h, 0, none⟩ ∧ w.cell? ⟨h, q, none⟩ = some (.func (.func p.1) #[] #[]) := by
  have hlt := (List.getElem?_eq_some_iff.1 hq).1
  obtain ⟨_, _, _, h5⟩ := hk
  obtain ⟨_, e, hC⟩ := h5 (by omega)
  refine ⟨e, ?_⟩
  rw [hC.cell, List.getElem?_toArray, List.getElem?_map, hq]
  rfl
theorem DocK.but {g h cap : Nat} {Af : Option Addr} {fs : List (Nat × Rd)} {b : Nat} {w w' : World} (hk : DocK g h cap Af fs b w) {B : Nat} (hb : But B b w w') (hB : w.heap.size ≤ B) : DocK g h cap Af fs b w' := by
  obtain ⟨h1, h3, h4, h5⟩ := hk
  exact ⟨h1, Nat.lt_of_lt_of_le h3 hb.size, h4.but hb (by omega) h1, fun hp => ⟨(h5 hp).1, (h5 hp).2.1, (h5 hp).2.2.but hb (by have := (h5 hp).2.2.lt; omega) (h5 hp).1⟩⟩
set_option maxRecDepth 100000 in
set_option maxHeartbeats 4000000 in
theorem doc_says (g h cap : Nat) (Af : Option Addr) (fs : List (Nat × Rd)) (hfs : ∀ p ∈ fs, ReadSays p.1 #[] p.2 (fun _ => True)) (heF : ∀ p ∈ fs, ∀ args w, (callFunc p.1 args).run Tryz.prog w = .ok (.enter p.1 args) w) (hfl : fs.length ≤ 1000)
    (hnil : ∀ (j : Jsn) (a : Bool × LM), a.2.chs = [] → ∀ q, q < fs.length → (((fs.take q).map (·.2)).foldl (docStep j) a).2.chs = []) :
    ReadSaysK 70 #[.pointer (some ⟨g, 0, none⟩)] (rDoc (fs.map (·.2))) (DocK g h cap Af fs) := by
  intro j X0 B b m w vn vl hK0 hV0 hbk hX0 hL0 h0 hbB hBw
  suffices hsuf : ∀ X : Nat → Prop, (∀ k, X k → X0 k ∧ k < w.heap.size) → JV w X j vn vl → LMem w X B b m → Calls Tryz.prog 70 (#[.pointer (some ⟨b, 0, none⟩), .agg #[.int .u8 j.kind, .string j.text, vn, vl]] ++ #[.pointer (some ⟨g, 0, none⟩)]) w (ReadEndM (rDoc (fs.map (·.2)) j m) X B b w) by
    refine (hsuf (fun k => X0 k ∧ k < w.heap.size) (fun k h => h) (hV0.more (fun k h1 h2 => ⟨h1, h2⟩)) (hL0.more (fun k h1 h2 => ⟨h1, h2⟩))).mono ?_
    rintro e w' ⟨h1, h2, h3⟩
    exact ⟨h1, h2.more (fun k h _ => h.1), h3⟩
  intro X hXX hV hL
  have hX : ∀ k, X k → k ≠ b ∧ k < B := fun k h => hX0 k (hXX k h).1 (hXX k h).2
  clear hV0 hL0 hX0
  obtain ⟨A, n, c, A', n', c', rfl, rfl⟩ := hV.forms
  obtain ⟨Ai, ni, ci, Ai', ni', ci', hMm, hJi⟩ := hL.open0 h0
  obtain ⟨w0, hw0⟩ : ∃ w0, w.alloc (.cells #[.int .u8 j.kind, .string j.text, .slice A n c, .slice A' n' c'] 25) = w0 := ⟨_, rfl⟩
  have hB0 : Below w.heap.size w w0 := by rw [← hw0]; exact (Below.refl _ _).alloc (Nat.le_refl _) _
  have hs0 : w0.heap.size = w.heap.size + 1 := by rw [← hw0]; simp
  have hC1 : Cel w0 w.heap.size 25 #[.int .u8 j.kind, .string j.text, .slice A n c, .slice A' n' c'] := by rw [← hw0]; exact Cel.fresh _ _ _
  have hblt := hMm.lt
  have hM := (hMm.below hB0 hMm.lt).drew
  have hback : ∀ W, But w0.heap.size b w0 W → But w.heap.size b w W := fun W h => (But.of hB0).trans (h.mono (by omega))
  have hXb : ∀ k, X k → k < w.heap.size → k < w.heap.size ∧ k ≠ b := fun k h1 h2 => ⟨h2, (hX k h1).1⟩
  have hJ : ∀ W, But w0.heap.size b w0 W → JV W X j (.slice A n c) (.slice A' n' c') := fun W h => hV.but (hback W h) hXb
  have hId : ∀ W, But w0.heap.size b w0 W → JV W X m.id (.slice Ai ni ci) (.slice Ai' ni' ci') := fun W h => hJi.but (hback W h) hXb
  have hZ : But w0.heap.size b w0 w0.drew := (But.refl _ _ _).drew
  have hwb : w.heap.size ≠ b := by omega
  replace hw0 := Lib.hid hw0
  replace hback := Lib.hid hback
  replace hs0 := Lib.hid hs0
  replace hC1 := Lib.hid hC1
  replace hM := Lib.hid hM
  replace hZ := Lib.hid hZ
  replace hId := Lib.hid hId
  replace h0 := Lib.hid h0
  have hm0 := Lib.hid (fun (W : World) (hz : But w0.heap.size b w0 W) => (show Calls Tryz.prog 72 #[.agg #[.int .u8 j.kind, .string j.text, .slice A n c, .slice A' n' c'], .string ⟨#[116, 101, 120, 116, 68, 111, 99, 117, 109, 101, 110, 116]⟩] W (MemEnd (memJ j yTextDocument) X W) from lspMember_any j X W _ _ _ (hJ W hz) hbk))
  have hm1 := Lib.hid (fun (W : World) (un ul : Value) (hz : JV W X (memJ j yTextDocument) un ul) => (show Calls Tryz.prog 72 #[.agg #[.int .u8 (memJ j yTextDocument).kind, .string (memJ j yTextDocument).text, un, ul], .string ⟨#[117, 114, 105]⟩] W (MemEnd (memJ (memJ j yTextDocument) yUri) X W) from lspMember_any (memJ j yTextDocument) X W _ _ _ hz (memJ_bulk _ _ hbk)))
  have hc := Lib.hid (fun (W : World) (un ul : Value) (h1 : JV W X (memJ (memJ j yTextDocument) yUri) un ul) (h2 : Cel W b 32 (mCells m (.slice Ai ni ci) (.slice Ai' ni' ci') (.slice none 0 0))) => lspStr_any (memJ (memJ j yTextDocument) yUri) X b 1 32 (mCells m (.slice Ai ni ci) (.slice Ai' ni' ci') (.slice none 0 0)) m.uri W un ul h1 h2 rfl)
  have hdk := Lib.hid (fun (W : World) (hz : But w0.heap.size b w0 W) => DocK.but hK0 (hback.out W hz) (Nat.le_refl _))
  have hread := Lib.hid (fun (q : Nat) (p : Nat × Rd) (hq : fs[q]? = some p) (m1 : LM) (W : World) (hz : But w0.heap.size b w0 W) (hLm : LMem W X B b m1) (hn : m1.chs = []) => hfs p (List.mem_of_getElem? hq) j X B b m1 W _ _ trivial (hJ W hz) hbk (fun k h1 _ => hX k h1) hLm hn hbB (Nat.le_trans hBw (by have := hz.size; have := hs0.out; omega)))
  obtain ⟨R, hR⟩ : ∃ R, rDoc (fs.map (·.2)) j m = R := ⟨_, rfl⟩
  rw [hR]
  replace hR := Lib.hid hR
  have hXX2 := hXX
  clear hV hbk hL hB0 hMm hJ hJi hblt hXb hK0 hfs hXX hXX2
  go_enter Tryz.func70, Tryz.ntmps70
  go_upto_region 1 with fail
  rw [hw0.out]
  clear hw0
  refine wp_region_held_drew (S := fun W => Cel W w.heap.size 25 #[.int .u8 j.kind, .string j.text, .slice A n c, .slice A' n' c']) (by kernel_rfl) hC1.out.drew (fun hS => ?_)
  try dsimp only at hS
  have hS : Cel w0.drew w.heap.size 25 #[.int .u8 j.kind, .string j.text, .slice A n c, .slice A' n' c'] := hS
  refine hTake (i := 0) (v := .agg #[.int .u8 j.kind, .string j.text, .slice A n c, .slice A' n' c']) rfl (by kernel_rfl) (by kernel_rfl) (by kernel_rfl) (fun _ _ _ h => h) (Or.inl ⟨by rfl, by
    intro w' hSw
    obtain ⟨e0, e1, e2, e3⟩ := hSw.d4
    go_simp⟩) hS ?_
  try simp only [Act.put, List.setIfInBounds_toArray, List.set_cons_zero, List.set_cons_succ]
  refine hTake (i := 3) (v := .pointer (some ⟨b, 0, none⟩)) rfl (by kernel_rfl) (by kernel_rfl) (by kernel_rfl) (fun _ _ _ h => h) (Or.inl ⟨by rfl, by
    intro w' hSw
    go_simp⟩) hS ?_
  try simp only [Act.put, List.setIfInBounds_toArray, List.set_cons_zero, List.set_cons_succ]
  refine hTake (i := 4) (v := .pointer (some ⟨b, 0, none⟩)) rfl (by kernel_rfl) (by kernel_rfl) (by kernel_rfl) (fun _ _ _ h => h) (Or.inl ⟨by rfl, by
    intro w' hSw
    go_simp⟩) hS ?_
  try simp only [Act.put, List.setIfInBounds_toArray, List.set_cons_zero, List.set_cons_succ]
  refine hTake (i := 5) (v := .pointer (some ⟨b, 1, none⟩)) rfl (by kernel_rfl) (by kernel_rfl) (by kernel_rfl) (fun _ _ _ h => h) (Or.inl ⟨by rfl, by
    intro w' hSw
    go_simp⟩) hS ?_
  try simp only [Act.put, List.setIfInBounds_toArray, List.set_cons_zero, List.set_cons_succ]
  refine hOne (i := 1) (by kernel_rfl) rfl (fun K hK => ?_)
  go_simp
  refine (hm0.out _ hZ.out).mono ?_
  rintro e u0 ⟨un, ul, rfl, hJ0, hu⟩
  obtain ⟨A0, n0, c0, B0, m0, d0, rfl, rfl⟩ := hJ0.forms
  replace hM := Lib.hid (hM.out.below hu hM.out.lt)
  have hS2 := hS.below hu hS.lt
  replace hZ := Lib.hid (hZ.out.trans ((But.of hu).mono hZ.out.size))
  replace hJ0 := Lib.hid hJ0
  clear hS hu
  have hS := hS2
  clear hS2
  refine hK.out _ _ hS ?_
  clear hK
  try simp only [Act.put, List.setIfInBounds_toArray, List.set_cons_zero, List.set_cons_succ]
  refine hOne (i := 2) (by kernel_rfl) rfl (fun K hK => ?_)
  go_simp
  refine (hm1.out _ _ _ hJ0.out).mono ?_
  rintro e u1 ⟨un, ul, rfl, hJ1, hu⟩
  obtain ⟨A1, n1, c1, B1, m1, d1, rfl, rfl⟩ := hJ1.forms
  replace hM := Lib.hid (hM.out.below hu hM.out.lt)
  have hS2 := hS.below hu hS.lt
  replace hZ := Lib.hid (hZ.out.trans ((But.of hu).mono hZ.out.size))
  replace hJ1 := Lib.hid hJ1
  clear hS hu
  have hS := hS2
  clear hS2
  refine hK.out _ _ hS ?_
  clear hK
  try simp only [Act.put, List.setIfInBounds_toArray, List.set_cons_zero, List.set_cons_succ]
  refine hOne (i := 6) (by kernel_rfl) rfl (fun K hK => ?_)
  go_simp
  refine (hc.out _ _ _ hJ1.out hM.out).mono ?_
  rintro e u4 ⟨rfl, hM2, hu⟩
  have hS2 := hS.but hu hS.lt hwb
  replace hZ := Lib.hid (hZ.out.trans (hu.mono hZ.out.size))
  clear hS hu hM
  have hS := hS2
  clear hS2
  have hM := Lib.hid hM2
  clear hM2
  refine hK.out _ _ hS ?_
  clear hK
  try simp only [Act.put, List.setIfInBounds_toArray, List.set_cons_zero, List.set_cons_succ]
  refine hTake (i := 7) (v := .bool (lTxt (memJ (memJ j yTextDocument) yUri) m.uri).1) rfl (by kernel_rfl) (by kernel_rfl) (by kernel_rfl) (fun _ _ _ h => h) (Or.inl ⟨by rfl, by
    intro w' hSw
    go_simp⟩) hS ?_
  try simp only [Act.put, List.setIfInBounds_toArray, List.set_cons_zero, List.set_cons_succ]
  refine wpAnyH_done (by kernel_rfl) ?_ _
  obtain ⟨st0, hst0⟩ : ∃ a : Bool × LM, ((lTxt (memJ (memJ j yTextDocument) yUri) m.uri).1, { m with uri := (lTxt (memJ (memJ j yTextDocument) yUri) m.uri).2 }) = a := ⟨_, rfl⟩
  have hL4 : LMem u4 X B b st0.2 := by rw [← hst0]; exact LMem.shut0 (by exact hM.out) (hId.out _ hZ.out) h0.out
  have hn4 : st0.2.chs = [] := by rw [← hst0]; exact h0.out
  have hst1 : (lTxt (memJ (memJ j yTextDocument) yUri) m.uri).1 = st0.1 := by rw [← hst0]
  have hres : rDoc (fs.map (·.2)) j m = (fs.map (·.2)).foldl (docStep j) st0 := by rw [← hst0]; rfl
  rw [hst1]
  have hR2 := hR.out
  rw [hres] at hR2
  clear hR
  have hR := Lib.hid hR2
  clear hR2
  have hni := Lib.hid (fun (q : Nat) (hq : q < fs.length) => hnil j st0 hn4 q hq)
  replace hL4 := Lib.hid hL4
  clear hc hm0 hm1 hJ0 hJ1 hM hId hst0 hst1 hres hn4 hnil
  obtain ⟨ok0, hok0⟩ : ∃ v, Value.bool st0.1 = v := ⟨_, rfl⟩
  rw [hok0]
  have hd4 := hdk.out _ hZ.out
  have x2 : u4.cell? ⟨g, 0, none⟩ = some (.slice Af fs.length cap) := hd4.2.2.1.cell 0
  clear hd4
  have hS4 := Lib.hid hS
  clear hS
  go_wp2_with fail
  go_loopw [6, 18] (fun ok i wr => ∃ q : Nat, q ≤ fs.length ∧ i = .int .i64 q ∧ ok = .bool (((fs.take q).map (·.2)).foldl (docStep j) st0).1 ∧ LMem wr X B b (((fs.take q).map (·.2)).foldl (docStep j) st0).2 ∧ Cel wr w.heap.size 25 #[.int .u8 j.kind, .string j.text, .slice A n c, .slice A' n' c'] ∧ But w0.heap.size b w0 wr) (fun ok i _ => fs.length - (intOf i).toNat)
  case atStart => exact ⟨0, Nat.zero_le _, rfl, hok0.symm, hL4.out, hS4.out, hZ.out⟩
  case round =>
    obtain ⟨q, hq, rfl, rfl, hLq, hSq, hZq⟩ := hrel
    by_cases hlt : q < fs.length
    · obtain ⟨p, hp⟩ : ∃ p, fs[q]? = some p := ⟨_, List.getElem?_eq_getElem hlt⟩
      have hdq := hdk.out _ hZq
      obtain ⟨rfl, hcell⟩ := docK_fun hdq hp
      have eF := heF p (List.mem_of_getElem? hp)
      have hcall := Lib.hid (hread.out q p hp _ wr hZq hLq (hni.out q hlt))
      have hq0 : (0 : Int) ≤ (q : Int) := by omega
      have hq1 : (q : Int) < (fs.length : Int) := by omega
      have hstep : ((fs.take (q + 1)).map (·.2)).foldl (docStep j) st0 = docStep j (((fs.take q).map (·.2)).foldl (docStep j) st0) p.2 := by
        rw [List.take_add_one, hp]
        simp [List.foldl_append]
      obtain ⟨⟨ok, m1⟩, hacc⟩ : ∃ a, ((fs.take q).map (·.2)).foldl (docStep j) st0 = a := ⟨_, rfl⟩
      rw [hacc] at hstep hcall ⊢
      obtain ⟨e0, e1, e2, e3⟩ := hSq.d4
      have hSl := hSq.lt
      replace hstep := Lib.hid hstep
      replace hSq := Lib.hid hSq
      replace hZq := Lib.hid hZq
      obtain ⟨F2, rd2⟩ := p
      dsimp only at hcell eF hcall hstep ⊢
      clear hLq hread hdk hni hacc hdq heF hp hL4 hS4 hok0 x2
      have hst2 : docStep j (ok, m1) rd2 = ((rd2 j m1).1 && ok, (rd2 j m1).2) := rfl
      obtain ⟨⟨r1, m2⟩, hr1⟩ : ∃ a, rd2 j m1 = a := ⟨_, rfl⟩
      rw [hr1] at hcall hst2
      replace hst2 := Lib.hid hst2
      replace hr1 := Lib.hid hr1
      cases r1 with
      | true =>
        go_wp2_with fail
        refine hcall.out.mono ?_
        rintro e u5 ⟨rfl, hL5, hb5⟩
        have hZ5 := Lib.hid (hZq.out.trans (hb5.mono hZq.out.size))
        have hS5 := Lib.hid (hSq.out.but hb5 hSl hwb)
        replace hL5 := Lib.hid hL5
        clear hb5 hcall
        go_wp2_with fail
        go_roundw
        case rel => exact ⟨q + 1, by omega, by go_num, by rw [hstep.out, hst2.out]; simp, by rw [hstep.out, hst2.out]; exact hL5.out, hS5.out, hZ5.out⟩
        case measure => simp [intOf]; omega
      | false =>
        go_wp2_with fail
        refine hcall.out.mono ?_
        rintro e u5 ⟨rfl, hL5, hb5⟩
        have hZ5 := Lib.hid (hZq.out.trans (hb5.mono hZq.out.size))
        have hS5 := Lib.hid (hSq.out.but hb5 hSl hwb)
        replace hL5 := Lib.hid hL5
        clear hb5 hcall
        go_wp2_with fail
        go_roundw
        case rel => exact ⟨q + 1, by omega, by go_num, by rw [hstep.out, hst2.out]; simp, by rw [hstep.out, hst2.out]; exact hL5.out, hS5.out, hZ5.out⟩
        case measure => simp [intOf]; omega
    · have hfull : (fs.take q).map (·.2) = fs.map (·.2) := by rw [List.take_of_length_le (by omega)]
      rw [hfull, hR.out] at hLq
      rw [hfull, hR.out]
      have hq1 : ¬ (q : Int) < (fs.length : Int) := by omega
      have hfin := Lib.hid (hback.out _ hZq)
      replace hLq := Lib.hid hLq
      clear hread hdk hni heF hfull hSq hZq hL4 hS4 hok0 x2
      go_wp2_with fail
      exact bodyPost_ret (v := .bool R.1) (by simp [results, Tryz.results70, go_sem]) rfl ⟨rfl, hLq.out, hfin.out⟩
end Go.Proofs.YtghaoielnphhlaaGreatDoor


/-
  The walk of lsp.methods: a map of methods, their readers as closures.
-/
namespace Go.Proofs.YtghaoielnphhlaaGreatDoor
open Go.RowKit Go.WideMaps Go.Maps

/-- A closure: none, or a function and the block that it holds. -/
def mFn : Option (Nat × Option Nat) → Value
  | none => .nilFunc
  | some (F, none) => .func (.func F) #[] #[]
  | some (F, some g) => .func (.func F) #[] #[.pointer (some ⟨g, 0, none⟩)]
abbrev ME := ByteArray × Option (Nat × Option Nat)
def mV (x : ME) : Value := .agg #[.string x.1, mFn x.2]
theorem mFn_inj {x y : Option (Nat × Option Nat)} (h : mFn x = mFn y) : x = y := by
  rcases x with _ | ⟨F, _ | g⟩ <;> rcases y with _ | ⟨F', _ | g'⟩ <;> simp [mFn] at h
  · rfl
  · subst h; rfl
  · obtain ⟨rfl, rfl⟩ := h; rfl
theorem mV_inj {x y : ME} (h : mV x = mV y) : x = y := by
  unfold mV at h
  simp at h
  exact Prod.ext h.1 (mFn_inj h.2)
def mC : Option (Nat × Option Nat) → Int × Int
  | none => (-1, -1)
  | some (F, none) => (F, -1)
  | some (F, some g) => (F, g)
theorem mC_inj {x y : Option (Nat × Option Nat)} (h : mC x = mC y) : x = y := by
  rcases x with _ | ⟨F, _ | g⟩ <;> rcases y with _ | ⟨F', _ | g'⟩ <;> simp only [mC, Prod.mk.injEq] at h <;> first | rfl | (exfalso; omega) | (rw [show F = F' by omega]; done) | (rw [show F = F' by omega, show g = g' by omega])
def mCode (x : ME) : DataW Unit := .agg [.lit (.string x.1.data.toList), .lit (.int .i64 (mC x.2).1), .lit (.int .i64 (mC x.2).2)]
theorem mCode_inj {x y : ME} (h : mCode x = mCode y) : x = y := by
  unfold mCode at h
  simp at h
  obtain ⟨h1, h2, h3⟩ := h
  refine Prod.ext ?_ (mC_inj (Prod.ext h2 h3))
  obtain ⟨⟨⟨a⟩⟩, _⟩ := x
  obtain ⟨⟨⟨b⟩⟩, _⟩ := y
  simp at h1
  subst h1
  rfl
open Classical in
/-- How a method's value reads. -/
noncomputable def RM (v : Value) : Option (DataW Unit × List MemPlace) := if h : ∃ x, v = mV x then some (mCode h.choose, []) else none
theorem RM_mV (x : ME) : RM (mV x) = some (mCode x, []) := by
  unfold RM
  have h : ∃ y, mV x = mV y := ⟨x, rfl⟩
  rw [dif_pos h, ← mV_inj h.choose_spec]
theorem RM_inv {v : Value} {y : DataW Unit × List MemPlace} (h : RM v = some y) : ∃ x, v = mV x ∧ y = (mCode x, []) := by
  unfold RM at h
  split at h
  · next hx =>
    injection h with h
    exact ⟨hx.choose, hx.choose_spec, h.symm⟩
  · cases h
theorem lawU : Keyed Tryz.prog 5 := int_keyed Tryz.underlying5
/-- The methods: kind, name, closure; G: the blocks that doc's closures hold. -/
def mEnts (G : Nat → Nat) : List (Nat × ME) := [(1, mName1, some (78, none)), (2, mName2, some (77, none)), (3, mName3, some (70, some (G 3))), (4, mName4, some (70, some (G 4))), (5, mName5, some (70, some (G 5))), (6, mName6, some (70, some (G 6))), (7, mName7, some (70, some (G 7))), (8, mName8, some (77, none)), (9, mName9, some (77, none)), (10, mName10, some (81, none)), (11, mName11, some (70, some (G 11))), (12, mName12, some (70, some (G 12))), (13, mName13, some (70, some (G 13)))]
def mPut (D : DataW Unit) (p : Nat × ME) : DataW Unit := D.put (.int .u8 p.1) (mCode p.2)
def methD (G : Nat → Nat) : DataW Unit := (mEnts G).foldl mPut (.map [])
theorem puts_at : ∀ (es : List (Nat × ME)) (D : DataW Unit), IsMap D → ∀ (k : Nat) (z : DataW Unit), (∃ p ∈ es, p.1 = k ∧ (es.foldl mPut D).atKey (.int .u8 k) z = mCode p.2) ∨ (es.foldl mPut D).atKey (.int .u8 k) z = D.atKey (.int .u8 k) z
  | [], D, _, k, z => Or.inr rfl
  | p :: es, D, hD, k, z => by
    rcases puts_at es (mPut D p) (hD.put _ _) k z with ⟨q, hq, h1, h2⟩ | h
    · exact Or.inl ⟨q, by simp [hq], h1, h2⟩
    · by_cases hk : p.1 = k
      · left
        refine ⟨p, by simp, hk, ?_⟩
        rw [List.foldl_cons, h]
        unfold mPut
        rw [hk]
        exact atKey_put_same hD (by trivial) _ _
      · right
        rw [List.foldl_cons, h]
        unfold mPut
        have hne : (Lit.int .u8 (k : Int)) ≠ Lit.int .u8 (p.1 : Int) := fun e => hk (by injection e with _ e2; omega)
        exact atKey_put_other hne _ _
theorem meth_at {G : Nat → Nat} {x : Int} {c : ME} (h : ∀ z, (methD G).atKey (.int .u8 x) z = mCode c) : ∃ p ∈ mEnts G, (p.1 : Int) = x ∧ p.2 = c := by
  have hm : IsMap (.map [] : DataW Unit) := isMap_empty
  have hx : ∃ k : Nat, (k : Int) = x := by
    by_cases h0 : 0 ≤ x
    · exact ⟨x.toNat, by omega⟩
    · exfalso
      have h1 := h .nil
      have key : ∀ (es : List (Nat × ME)) (D : DataW Unit), IsMap D → (es.foldl mPut D).atKey (.int .u8 x) .nil = D.atKey (.int .u8 x) .nil := by
        intro es
        induction es with
        | nil => intro D _; rfl
        | cons p es ih =>
          intro D hD
          rw [List.foldl_cons, ih (mPut D p) (hD.put _ _)]
          unfold mPut
          have hne : (Lit.int .u8 x) ≠ Lit.int .u8 (p.1 : Int) := fun e => by injection e with _ e2; omega
          exact atKey_put_other hne _ _
      unfold methD at h1
      rw [key _ _ hm] at h1
      cases h1
  obtain ⟨k, rfl⟩ := hx
  rcases puts_at (mEnts G) (.map []) hm k .nil with ⟨p, hp, h1, h2⟩ | h1
  · refine ⟨p, hp, by omega, ?_⟩
    have h3 := h .nil
    unfold methD at h3
    rw [h2] at h3
    exact mCode_inj h3
  · exfalso
    have h3 := h .nil
    unfold methD at h3
    rw [h1] at h3
    cases h3
/-- What doc was given. -/
def docFs : Nat → List (Nat × Rd)
  | 3 => [(79, rFmt)]
  | 4 => [(73, rAt), (80, rName)]
  | 5 => [(73, rAt)]
  | 6 => [(73, rAt)]
  | 7 => []
  | 11 => [(75, rVer), (83, rText)]
  | 12 => [(75, rVer), (84, rChs)]
  | 13 => []
  | _ => []
def DocC (b0 : Nat) (w : World) (g h : Nat) (fs : List (Nat × Rd)) : Prop := b0 ≤ g ∧ g < w.heap.size ∧ ∃ Af cap, Cel w g 111 #[.slice Af fs.length cap] ∧ (0 < fs.length → Af = some ⟨h, 0, none⟩ ∧ b0 ≤ h ∧ Cel w h 72 (fs.map fun p => Value.func (.func p.1) #[] #[]).toArray)
theorem DocC.keep {b0 : Nat} {w w' : World} {g h : Nat} {fs : List (Nat × Rd)} (hd : DocC b0 w g h fs) (hs : w.heap.size ≤ w'.heap.size) (hk : ∀ k, b0 ≤ k → k < w.heap.size → w'.heap[k]? = w.heap[k]?) : DocC b0 w' g h fs := by
  obtain ⟨h1, h2, Af, cap, h3, h4⟩ := hd
  exact ⟨h1, by omega, Af, cap, (hk g h1 h2).trans h3, fun hp => ⟨(h4 hp).1, (h4 hp).2.1, (hk h (h4 hp).2.1 (h4 hp).2.2.lt).trans (h4 hp).2.2⟩⟩
def MethodsEnd (w : World) (e : Ending) (w' : World) : Prop := ∃ G H : Nat → Nat, e = .returned (.map (some w.heap.size)) ∧ w'.ownsMap Tryz.prog 5 RM w.heap.size 13 (methD G) ∧ (∀ k ∈ [3, 4, 5, 6, 7, 11, 12, 13], DocC (w.heap.size + 1) w' (G k) (H k) (docFs k)) ∧ Below w.heap.size w w'
set_option maxHeartbeats 1000000 in
theorem methods1_any (A : Option Addr) (n c : Nat) (w : World) : Calls Tryz.prog 69 #[.slice A n c] w fun e w' => e = .returned (.func (.func 70) #[] #[.pointer (some ⟨w.heap.size, 0, none⟩)]) ∧ w' = w.alloc (.cells #[.slice A n c] 111) := by
  go_enter Tryz.func69, Tryz.ntmps69
  go_wp2_with fail
  exact bodyPost_ret (v := .func (.func 70) #[] #[.pointer (some ⟨w.heap.size, 0, none⟩)]) (by simp [results, Tryz.results69, go_sem]) rfl ⟨rfl, rfl⟩
/-- What is known in the midst of lsp.methods. -/
def MSt (w : World) (ds : List (Nat × Nat × Nat)) (n : Nat) (D : DataW Unit) (W : World) : Prop := W.ownsMap Tryz.prog 5 RM w.heap.size n D ∧ (∀ d ∈ ds, DocC (w.heap.size + 1) W d.2.1 d.2.2 (docFs d.1)) ∧ Below w.heap.size w W ∧ w.heap.size < W.heap.size
theorem MSt.insert {w W W' : World} {ds : List (Nat × Nat × Nat)} {n : Nat} {D D' : DataW Unit} (h : MSt w ds n D W) (h1 : W'.ownsMap Tryz.prog 5 RM w.heap.size (n + 1) D') (hg : W.grownBy W' (some w.heap.size)) : MSt w ds (n + 1) D' W' :=
  ⟨h1, fun d hd => (h.2.1 d hd).keep hg.size (fun k h1 h2 => hg.block k h2 (fun e => by injection e with e; omega)), Below.grown h.2.2.1 hg (by have := h.2.2.2; omega) (fun j hj => by injection hj with hj; omega), Nat.lt_of_lt_of_le h.2.2.2 hg.size⟩
theorem MSt.below {w W W' : World} {ds : List (Nat × Nat × Nat)} {n : Nat} {D : DataW Unit} (h : MSt w ds n D W) (o : Obj) (hW : W' = W.alloc o) : MSt w ds n D W' := by
  subst hW
  have hb := (Below.refl W.heap.size W).alloc (Nat.le_refl _) o
  exact ⟨h.1.alloc _, fun d hd => (h.2.1 d hd).keep hb.size (fun k _ h2 => hb.block k h2), h.2.2.1.trans (hb.mono (by have := h.2.2.2; omega)), Nat.lt_of_lt_of_le h.2.2.2 hb.size⟩
theorem MSt.doc {w W : World} {ds : List (Nat × Nat × Nat)} {n : Nat} {D : DataW Unit} (h : MSt w ds n D W) (k m : Nat) (fns : Array Value) (hm : m = (docFs k).length) (hf : fns = ((docFs k).map fun p => Value.func (.func p.1) #[] #[]).toArray) :
    MSt w ((k, W.heap.size + 1, W.heap.size) :: ds) n D ((W.alloc (.cells fns 72)).alloc (.cells #[.slice (some ⟨W.heap.size, 0, none⟩) m m] 111)) := by
  have h1 := (h.below (.cells fns 72) rfl).below (.cells #[.slice (some ⟨W.heap.size, 0, none⟩) m m] 111) rfl
  refine ⟨h1.1, fun d hd => ?_, h1.2.2⟩
  rcases List.mem_cons.1 hd with rfl | hd
  · have hlt := h.2.2.2
    have hC := Cel.fresh (W.alloc (.cells fns 72)) 111 #[.slice (some ⟨W.heap.size, 0, none⟩) m m]
    rw [show (W.alloc (.cells fns 72)).heap.size = W.heap.size + 1 by simp] at hC
    subst hm
    exact ⟨by dsimp only; omega, hC.lt, _, _, hC, fun _ => ⟨rfl, by dsimp only; omega, by rw [← hf]; exact (Cel.fresh W 72 fns).alloc _⟩⟩
  · exact h1.2.1 d hd
theorem MSt.doc0 {w W : World} {ds : List (Nat × Nat × Nat)} {n : Nat} {D : DataW Unit} (h : MSt w ds n D W) (k : Nat) (hm : docFs k = []) : MSt w ((k, W.heap.size, 0) :: ds) n D (W.alloc (.cells #[.slice none 0 0] 111)) := by
  have h1 := h.below (.cells #[.slice none 0 0] 111) rfl
  refine ⟨h1.1, fun d hd => ?_, h1.2.2⟩
  rcases List.mem_cons.1 hd with rfl | hd
  · have hlt := h.2.2.2
    have hC := Cel.fresh W 111 #[.slice none 0 0]
    refine ⟨by dsimp only; omega, hC.lt, none, 0, ?_, fun hp => ?_⟩
    · dsimp only; rw [hm]; exact hC
    · dsimp only at hp; rw [hm] at hp; simp at hp
  · exact h1.2.1 d hd
set_option maxRecDepth 100000 in
set_option maxHeartbeats 8000000 in
theorem methods_any (w : World) : Calls Tryz.prog 39 #[] w (MethodsEnd w) := by
  have hmm := @run_makeMap Tryz.prog
  have hst : MSt w [] 0 (.map []) (w.alloc (.map #[] 0)) := ⟨World.ownsMap_made (H := Unit) w Tryz.prog 5 RM, (fun d hd => by cases hd), (Below.refl _ _).alloc (Nat.le_refl _) _, by simp⟩
  obtain ⟨w1, hr1, ho1, hg1⟩ := hst.1.update lawU Tryz.underlying70 (by unfold maxLen; omega) (keyOf_int_mk (a := 1) Tryz.underlying5 (by decide)) (RM_mV (mName1, some (78, none)))
  have hst1 := hst.insert ho1 hg1
  clear hst ho1 hg1
  have hst := hst1
  clear hst1
  replace hr1 : (Instr.mapUpdate 70 (.map (some w.heap.size)) (.int .u8 1) (.agg #[.string ⟨#[105, 110, 105, 116, 105, 97, 108, 105, 122, 101]⟩, .func (.func 78) #[] #[]])).run Tryz.prog (w.alloc (.map #[] 0)) = .ok () w1 := hr1
  obtain ⟨w2, hr2, ho2, hg2⟩ := hst.1.update lawU Tryz.underlying70 (by unfold maxLen; omega) (keyOf_int_mk (a := 2) Tryz.underlying5 (by decide)) (RM_mV (mName2, some (77, none)))
  have hst1 := hst.insert ho2 hg2
  clear hst ho2 hg2
  have hst := hst1
  clear hst1
  replace hr2 : (Instr.mapUpdate 70 (.map (some w.heap.size)) (.int .u8 2) (.agg #[.string ⟨#[115, 104, 117, 116, 100, 111, 119, 110]⟩, .func (.func 77) #[] #[]])).run Tryz.prog w1 = .ok () w2 := hr2
  go_enter Tryz.func39, Tryz.ntmps39
  go_wp2_with fail
  clear hr1 hr2
  refine (methods1_any _ 1 1 _).mono ?_
  rintro e w2 ⟨rfl, rfl⟩
  have hst2 := hst.doc 3 1 #[.func (.func 79) #[] #[]] rfl rfl
  obtain ⟨V, hV⟩ : ∃ V, (w2.alloc (.cells #[.func (.func 79) #[] #[]] 72)).alloc (.cells #[.slice (some ⟨w2.heap.size, 0, none⟩) 1 1] 111) = V := ⟨_, rfl⟩
  rw [show (w2.alloc (.cells #[.func (.func 79) #[] #[]] 72)).heap.size = w2.heap.size + 1 by simp]
  rw [hV] at hst2 ⊢
  obtain ⟨g3, hg3⟩ : ∃ g, w2.heap.size + 1 = g := ⟨_, rfl⟩
  rw [hg3] at hst2 ⊢
  obtain ⟨h3, hh3⟩ : ∃ g, w2.heap.size = g := ⟨_, rfl⟩
  rw [hh3] at hst2
  clear hst hV hg3 hh3
  have hst := hst2
  clear hst2
  obtain ⟨w3, hr3, ho3, hg3⟩ := hst.1.update lawU Tryz.underlying70 (by unfold maxLen; omega) (keyOf_int_mk (a := 3) Tryz.underlying5 (by decide)) (RM_mV (mName3, some (70, some g3)))
  have hst1 := hst.insert ho3 hg3
  clear hst ho3 hg3
  have hst := hst1
  clear hst1
  replace hr3 : (Instr.mapUpdate 70 (.map (some w.heap.size)) (.int .u8 3) (.agg #[.string ⟨#[116, 101, 120, 116, 68, 111, 99, 117, 109, 101, 110, 116, 47, 102, 111, 114, 109, 97, 116, 116, 105, 110, 103]⟩, .func (.func 70) #[] #[.pointer (some ⟨g3, 0, none⟩)]])).run Tryz.prog V = .ok () w3 := hr3
  go_wp2_with fail
  clear hr3
  refine (methods1_any _ 2 2 _).mono ?_
  rintro e w2 ⟨rfl, rfl⟩
  have hst2 := hst.doc 4 2 #[.func (.func 73) #[] #[], .func (.func 80) #[] #[]] rfl rfl
  obtain ⟨V, hV⟩ : ∃ V, (w3.alloc (.cells #[.func (.func 73) #[] #[], .func (.func 80) #[] #[]] 72)).alloc (.cells #[.slice (some ⟨w3.heap.size, 0, none⟩) 2 2] 111) = V := ⟨_, rfl⟩
  rw [show (w3.alloc (.cells #[.func (.func 73) #[] #[], .func (.func 80) #[] #[]] 72)).heap.size = w3.heap.size + 1 by simp]
  rw [hV] at hst2 ⊢
  obtain ⟨g4, hg4⟩ : ∃ g, w3.heap.size + 1 = g := ⟨_, rfl⟩
  rw [hg4] at hst2 ⊢
  obtain ⟨h4, hh4⟩ : ∃ g, w3.heap.size = g := ⟨_, rfl⟩
  rw [hh4] at hst2
  clear hst hV hg4 hh4
  have hst := hst2
  clear hst2
  obtain ⟨w4, hr4, ho4, hg4⟩ := hst.1.update lawU Tryz.underlying70 (by unfold maxLen; omega) (keyOf_int_mk (a := 4) Tryz.underlying5 (by decide)) (RM_mV (mName4, some (70, some g4)))
  have hst1 := hst.insert ho4 hg4
  clear hst ho4 hg4
  have hst := hst1
  clear hst1
  replace hr4 : (Instr.mapUpdate 70 (.map (some w.heap.size)) (.int .u8 4) (.agg #[.string ⟨#[116, 101, 120, 116, 68, 111, 99, 117, 109, 101, 110, 116, 47, 114, 101, 110, 97, 109, 101]⟩, .func (.func 70) #[] #[.pointer (some ⟨g4, 0, none⟩)]])).run Tryz.prog V = .ok () w4 := hr4
  go_wp2_with fail
  clear hr4
  refine (methods1_any _ 1 1 _).mono ?_
  rintro e w2 ⟨rfl, rfl⟩
  have hst2 := hst.doc 5 1 #[.func (.func 73) #[] #[]] rfl rfl
  obtain ⟨V, hV⟩ : ∃ V, (w4.alloc (.cells #[.func (.func 73) #[] #[]] 72)).alloc (.cells #[.slice (some ⟨w4.heap.size, 0, none⟩) 1 1] 111) = V := ⟨_, rfl⟩
  rw [show (w4.alloc (.cells #[.func (.func 73) #[] #[]] 72)).heap.size = w4.heap.size + 1 by simp]
  rw [hV] at hst2 ⊢
  obtain ⟨g5, hg5⟩ : ∃ g, w4.heap.size + 1 = g := ⟨_, rfl⟩
  rw [hg5] at hst2 ⊢
  obtain ⟨h5, hh5⟩ : ∃ g, w4.heap.size = g := ⟨_, rfl⟩
  rw [hh5] at hst2
  clear hst hV hg5 hh5
  have hst := hst2
  clear hst2
  obtain ⟨w5, hr5, ho5, hg5⟩ := hst.1.update lawU Tryz.underlying70 (by unfold maxLen; omega) (keyOf_int_mk (a := 5) Tryz.underlying5 (by decide)) (RM_mV (mName5, some (70, some g5)))
  have hst1 := hst.insert ho5 hg5
  clear hst ho5 hg5
  have hst := hst1
  clear hst1
  replace hr5 : (Instr.mapUpdate 70 (.map (some w.heap.size)) (.int .u8 5) (.agg #[.string ⟨#[116, 101, 120, 116, 68, 111, 99, 117, 109, 101, 110, 116, 47, 100, 101, 102, 105, 110, 105, 116, 105, 111, 110]⟩, .func (.func 70) #[] #[.pointer (some ⟨g5, 0, none⟩)]])).run Tryz.prog V = .ok () w5 := hr5
  go_wp2_with fail
  clear hr5
  refine (methods1_any _ 1 1 _).mono ?_
  rintro e w2 ⟨rfl, rfl⟩
  have hst2 := hst.doc 6 1 #[.func (.func 73) #[] #[]] rfl rfl
  obtain ⟨V, hV⟩ : ∃ V, (w5.alloc (.cells #[.func (.func 73) #[] #[]] 72)).alloc (.cells #[.slice (some ⟨w5.heap.size, 0, none⟩) 1 1] 111) = V := ⟨_, rfl⟩
  rw [show (w5.alloc (.cells #[.func (.func 73) #[] #[]] 72)).heap.size = w5.heap.size + 1 by simp]
  rw [hV] at hst2 ⊢
  obtain ⟨g6, hg6⟩ : ∃ g, w5.heap.size + 1 = g := ⟨_, rfl⟩
  rw [hg6] at hst2 ⊢
  obtain ⟨h6, hh6⟩ : ∃ g, w5.heap.size = g := ⟨_, rfl⟩
  rw [hh6] at hst2
  clear hst hV hg6 hh6
  have hst := hst2
  clear hst2
  obtain ⟨w6, hr6, ho6, hg6⟩ := hst.1.update lawU Tryz.underlying70 (by unfold maxLen; omega) (keyOf_int_mk (a := 6) Tryz.underlying5 (by decide)) (RM_mV (mName6, some (70, some g6)))
  have hst1 := hst.insert ho6 hg6
  clear hst ho6 hg6
  have hst := hst1
  clear hst1
  replace hr6 : (Instr.mapUpdate 70 (.map (some w.heap.size)) (.int .u8 6) (.agg #[.string ⟨#[116, 101, 120, 116, 68, 111, 99, 117, 109, 101, 110, 116, 47, 104, 111, 118, 101, 114]⟩, .func (.func 70) #[] #[.pointer (some ⟨g6, 0, none⟩)]])).run Tryz.prog V = .ok () w6 := hr6
  go_wp2_with fail
  clear hr6
  refine (methods1_any none 0 0 _).mono ?_
  rintro e w2 ⟨rfl, rfl⟩
  have hst2 := hst.doc0 7 rfl
  obtain ⟨V, hV⟩ : ∃ V, w6.alloc (.cells #[.slice none 0 0] 111) = V := ⟨_, rfl⟩
  rw [hV] at hst2 ⊢
  obtain ⟨g7, hg7⟩ : ∃ g, w6.heap.size = g := ⟨_, rfl⟩
  rw [hg7] at hst2 ⊢
  clear hst hg7
  replace hV := Lib.hid hV
  have hst := hst2
  clear hst2
  obtain ⟨w7, hr7, ho7, hg7⟩ := hst.1.update lawU Tryz.underlying70 (by unfold maxLen; omega) (keyOf_int_mk (a := 7) Tryz.underlying5 (by decide)) (RM_mV (mName7, some (70, some g7)))
  have hst1 := hst.insert ho7 hg7
  clear hst ho7 hg7
  have hst := hst1
  clear hst1
  replace hr7 : (Instr.mapUpdate 70 (.map (some w.heap.size)) (.int .u8 7) (.agg #[.string ⟨#[116, 101, 120, 116, 68, 111, 99, 117, 109, 101, 110, 116, 47, 100, 105, 97, 103, 110, 111, 115, 116, 105, 99]⟩, .func (.func 70) #[] #[.pointer (some ⟨g7, 0, none⟩)]])).run Tryz.prog V = .ok () w7 := hr7
  obtain ⟨w8, hr8, ho8, hg8⟩ := hst.1.update lawU Tryz.underlying70 (by unfold maxLen; omega) (keyOf_int_mk (a := 8) Tryz.underlying5 (by decide)) (RM_mV (mName8, some (77, none)))
  have hst1 := hst.insert ho8 hg8
  clear hst ho8 hg8
  have hst := hst1
  clear hst1
  replace hr8 : (Instr.mapUpdate 70 (.map (some w.heap.size)) (.int .u8 8) (.agg #[.string ⟨#[105, 110, 105, 116, 105, 97, 108, 105, 122, 101, 100]⟩, .func (.func 77) #[] #[]])).run Tryz.prog w7 = .ok () w8 := hr8
  obtain ⟨w9, hr9, ho9, hg9⟩ := hst.1.update lawU Tryz.underlying70 (by unfold maxLen; omega) (keyOf_int_mk (a := 9) Tryz.underlying5 (by decide)) (RM_mV (mName9, some (77, none)))
  have hst1 := hst.insert ho9 hg9
  clear hst ho9 hg9
  have hst := hst1
  clear hst1
  replace hr9 : (Instr.mapUpdate 70 (.map (some w.heap.size)) (.int .u8 9) (.agg #[.string ⟨#[101, 120, 105, 116]⟩, .func (.func 77) #[] #[]])).run Tryz.prog w8 = .ok () w9 := hr9
  obtain ⟨w10, hr10, ho10, hg10⟩ := hst.1.update lawU Tryz.underlying70 (by unfold maxLen; omega) (keyOf_int_mk (a := 10) Tryz.underlying5 (by decide)) (RM_mV (mName10, some (81, none)))
  have hst1 := hst.insert ho10 hg10
  clear hst ho10 hg10
  have hst := hst1
  clear hst1
  replace hr10 : (Instr.mapUpdate 70 (.map (some w.heap.size)) (.int .u8 10) (.agg #[.string ⟨#[36, 47, 99, 97, 110, 99, 101, 108, 82, 101, 113, 117, 101, 115, 116]⟩, .func (.func 81) #[] #[]])).run Tryz.prog w9 = .ok () w10 := hr10
  go_wp2_with fail
  clear hr7 hr8 hr9 hr10
  refine (methods1_any _ 2 2 _).mono ?_
  rintro e w2 ⟨rfl, rfl⟩
  have hst2 := hst.doc 11 2 #[.func (.func 75) #[] #[], .func (.func 83) #[] #[]] rfl rfl
  obtain ⟨V, hV⟩ : ∃ V, (w10.alloc (.cells #[.func (.func 75) #[] #[], .func (.func 83) #[] #[]] 72)).alloc (.cells #[.slice (some ⟨w10.heap.size, 0, none⟩) 2 2] 111) = V := ⟨_, rfl⟩
  rw [show (w10.alloc (.cells #[.func (.func 75) #[] #[], .func (.func 83) #[] #[]] 72)).heap.size = w10.heap.size + 1 by simp]
  rw [hV] at hst2 ⊢
  obtain ⟨g11, hg11⟩ : ∃ g, w10.heap.size + 1 = g := ⟨_, rfl⟩
  rw [hg11] at hst2 ⊢
  obtain ⟨h11, hh11⟩ : ∃ g, w10.heap.size = g := ⟨_, rfl⟩
  rw [hh11] at hst2
  clear hst hV hg11 hh11
  have hst := hst2
  clear hst2
  obtain ⟨w11, hr11, ho11, hg11⟩ := hst.1.update lawU Tryz.underlying70 (by unfold maxLen; omega) (keyOf_int_mk (a := 11) Tryz.underlying5 (by decide)) (RM_mV (mName11, some (70, some g11)))
  have hst1 := hst.insert ho11 hg11
  clear hst ho11 hg11
  have hst := hst1
  clear hst1
  replace hr11 : (Instr.mapUpdate 70 (.map (some w.heap.size)) (.int .u8 11) (.agg #[.string ⟨#[116, 101, 120, 116, 68, 111, 99, 117, 109, 101, 110, 116, 47, 100, 105, 100, 79, 112, 101, 110]⟩, .func (.func 70) #[] #[.pointer (some ⟨g11, 0, none⟩)]])).run Tryz.prog V = .ok () w11 := hr11
  go_wp2_with fail
  clear hr11
  refine (methods1_any _ 2 2 _).mono ?_
  rintro e w2 ⟨rfl, rfl⟩
  have hst2 := hst.doc 12 2 #[.func (.func 75) #[] #[], .func (.func 84) #[] #[]] rfl rfl
  obtain ⟨V, hV⟩ : ∃ V, (w11.alloc (.cells #[.func (.func 75) #[] #[], .func (.func 84) #[] #[]] 72)).alloc (.cells #[.slice (some ⟨w11.heap.size, 0, none⟩) 2 2] 111) = V := ⟨_, rfl⟩
  rw [show (w11.alloc (.cells #[.func (.func 75) #[] #[], .func (.func 84) #[] #[]] 72)).heap.size = w11.heap.size + 1 by simp]
  rw [hV] at hst2 ⊢
  obtain ⟨g12, hg12⟩ : ∃ g, w11.heap.size + 1 = g := ⟨_, rfl⟩
  rw [hg12] at hst2 ⊢
  obtain ⟨h12, hh12⟩ : ∃ g, w11.heap.size = g := ⟨_, rfl⟩
  rw [hh12] at hst2
  clear hst hV hg12 hh12
  have hst := hst2
  clear hst2
  obtain ⟨w12, hr12, ho12, hg12⟩ := hst.1.update lawU Tryz.underlying70 (by unfold maxLen; omega) (keyOf_int_mk (a := 12) Tryz.underlying5 (by decide)) (RM_mV (mName12, some (70, some g12)))
  have hst1 := hst.insert ho12 hg12
  clear hst ho12 hg12
  have hst := hst1
  clear hst1
  replace hr12 : (Instr.mapUpdate 70 (.map (some w.heap.size)) (.int .u8 12) (.agg #[.string ⟨#[116, 101, 120, 116, 68, 111, 99, 117, 109, 101, 110, 116, 47, 100, 105, 100, 67, 104, 97, 110, 103, 101]⟩, .func (.func 70) #[] #[.pointer (some ⟨g12, 0, none⟩)]])).run Tryz.prog V = .ok () w12 := hr12
  go_wp2_with fail
  clear hr12
  refine (methods1_any none 0 0 _).mono ?_
  rintro e w2 ⟨rfl, rfl⟩
  have hst2 := hst.doc0 13 rfl
  obtain ⟨V, hV⟩ : ∃ V, w12.alloc (.cells #[.slice none 0 0] 111) = V := ⟨_, rfl⟩
  rw [hV] at hst2 ⊢
  obtain ⟨g13, hg13⟩ : ∃ g, w12.heap.size = g := ⟨_, rfl⟩
  rw [hg13] at hst2 ⊢
  clear hst hg13
  replace hV := Lib.hid hV
  have hst := hst2
  clear hst2
  obtain ⟨w13, hr13, ho13, hg13⟩ := hst.1.update lawU Tryz.underlying70 (by unfold maxLen; omega) (keyOf_int_mk (a := 13) Tryz.underlying5 (by decide)) (RM_mV (mName13, some (70, some g13)))
  have hst1 := hst.insert ho13 hg13
  clear hst ho13 hg13
  have hst := hst1
  clear hst1
  replace hr13 : (Instr.mapUpdate 70 (.map (some w.heap.size)) (.int .u8 13) (.agg #[.string ⟨#[116, 101, 120, 116, 68, 111, 99, 117, 109, 101, 110, 116, 47, 100, 105, 100, 67, 108, 111, 115, 101]⟩, .func (.func 70) #[] #[.pointer (some ⟨g13, 0, none⟩)]])).run Tryz.prog V = .ok () w13 := hr13
  go_wp2_with fail
  clear hr13
  obtain ⟨st1, st2, st3, st4⟩ := hst
  refine bodyPost_ret (v := .map (some w.heap.size)) (by simp [results, Tryz.results39, go_sem]) rfl ⟨(fun k => match k with | 3 => g3 | 4 => g4 | 5 => g5 | 6 => g6 | 7 => g7 | 11 => g11 | 12 => g12 | 13 => g13 | _ => 0), (fun k => match k with | 3 => h3 | 4 => h4 | 5 => h5 | 6 => h6 | 7 => 0 | 11 => h11 | 12 => h12 | 13 => 0 | _ => 0), rfl, st1, fun k hk => ?_, st3⟩
  simp only [List.mem_cons, List.not_mem_nil, or_false] at hk
  rcases hk with rfl | rfl | rfl | rfl | rfl | rfl | rfl | rfl
  · exact st2 (3, g3, h3) (by simp)
  · exact st2 (4, g4, h4) (by simp)
  · exact st2 (5, g5, h5) (by simp)
  · exact st2 (6, g6, h6) (by simp)
  · exact st2 (7, g7, 0) (by simp)
  · exact st2 (11, g11, h11) (by simp)
  · exact st2 (12, g12, h12) (by simp)
  · exact st2 (13, g13, 0) (by simp)
end Go.Proofs.YtghaoielnphhlaaGreatDoor


/-
  The walks of lsp.Decode and of lsp.Method.
-/
namespace Go.Proofs.YtghaoielnphhlaaGreatDoor
open Go.RowKit Go.WideMaps Go.Maps

theorem ReadSays.k {F : Nat} {caps : Array Value} {rd : Rd} (h : ReadSays F caps rd (fun _ => True)) : ReadSaysK F caps rd (fun _ _ => True) := fun j X B b m w vn vl _ => h j X B b m w vn vl trivial
/-- What is known of a method's entry. -/
def EntOK (W : World) (p : Nat × ME) : Prop := ∃ rd F caps, lMethods.find? (fun x => decide (x.1 = p.2.1)) = some (p.2.1, (p.1 : Int), rd) ∧ mFn p.2.2 = .func (.func F) #[] caps ∧ (∀ args w, (callFunc F args).run Tryz.prog w = .ok (.enter F args) w) ∧
  ∃ K : Nat → World → Prop, ReadSaysK F caps rd K ∧ ∀ b, W.heap.size ≤ b → ∀ W', Below W.heap.size W W' → K b W'
theorem en_changes : ∀ args w, (callFunc 84 args).run Tryz.prog w = .ok (.enter 84 args) w := fun _ _ => by kernel_rfl
theorem en_methods_1_1 : ∀ args w, (callFunc 70 args).run Tryz.prog w = .ok (.enter 70 args) w := fun _ _ => by kernel_rfl
theorem en_methods_2 : ∀ args w, (callFunc 73 args).run Tryz.prog w = .ok (.enter 73 args) w := fun _ _ => by kernel_rfl
theorem en_methods_3 : ∀ args w, (callFunc 75 args).run Tryz.prog w = .ok (.enter 75 args) w := fun _ _ => by kernel_rfl
theorem en_methods_4 : ∀ args w, (callFunc 77 args).run Tryz.prog w = .ok (.enter 77 args) w := fun _ _ => by kernel_rfl
theorem en_methods_5 : ∀ args w, (callFunc 78 args).run Tryz.prog w = .ok (.enter 78 args) w := fun _ _ => by kernel_rfl
theorem en_methods_6 : ∀ args w, (callFunc 79 args).run Tryz.prog w = .ok (.enter 79 args) w := fun _ _ => by kernel_rfl
theorem en_methods_7 : ∀ args w, (callFunc 80 args).run Tryz.prog w = .ok (.enter 80 args) w := fun _ _ => by kernel_rfl
theorem en_methods_8 : ∀ args w, (callFunc 81 args).run Tryz.prog w = .ok (.enter 81 args) w := fun _ _ => by kernel_rfl
theorem en_methods_9 : ∀ args w, (callFunc 83 args).run Tryz.prog w = .ok (.enter 83 args) w := fun _ _ => by kernel_rfl
theorem doc_ent {b0 : Nat} {W : World} {G H : Nat → Nat} {k : Nat} (hd : DocC b0 W (G k) (H k) (docFs k)) (nm : ByteArray) (hf : lMethods.find? (fun x => decide (x.1 = nm)) = some (nm, (k : Int), rDoc ((docFs k).map (·.2)))) (hfs : ∀ p ∈ docFs k, ReadSays p.1 #[] p.2 (fun _ => True)) (heF : ∀ p ∈ docFs k, ∀ args w, (callFunc p.1 args).run Tryz.prog w = .ok (.enter p.1 args) w) (hfl : (docFs k).length ≤ 1000)
    (hnil : ∀ (j : Jsn) (a : Bool × LM), a.2.chs = [] → ∀ q, q < (docFs k).length → ((((docFs k).take q).map (·.2)).foldl (docStep j) a).2.chs = []) : EntOK W (k, nm, some (70, some (G k))) := by
  obtain ⟨h1, h2, Af, cap, h3, h4⟩ := hd
  refine ⟨_, 70, #[.pointer (some ⟨G k, 0, none⟩)], hf, rfl, en_methods_1_1, DocK (G k) (H k) cap Af (docFs k), doc_says (G k) (H k) cap Af (docFs k) hfs heF hfl hnil, fun b hb W' hbW => ⟨by omega, Nat.lt_of_lt_of_le h2 hbW.size, h3.below hbW h2, fun hp => ?_⟩⟩
  obtain ⟨e, h5, h6⟩ := h4 hp
  have := h6.lt
  exact ⟨by omega, e, h6.below hbW h6.lt⟩
theorem nil_one (f : Nat × Rd) : ∀ (j : Jsn) (a : Bool × LM), a.2.chs = [] → ∀ q, q < [f].length → ((([f].take q).map (·.2)).foldl (docStep j) a).2.chs = [] := fun j a h q hq => by
  have : q = 0 := by simp at hq; omega
  subst this
  exact h
theorem nil_two (f g : Nat × Rd) (hf : ∀ j m, m.chs = [] → (f.2 j m).2.chs = []) : ∀ (j : Jsn) (a : Bool × LM), a.2.chs = [] → ∀ q, q < [f, g].length → ((([f, g].take q).map (·.2)).foldl (docStep j) a).2.chs = [] := fun j a h q hq => by
  match q, hq with
  | 0, _ => exact h
  | 1, _ => exact hf j a.2 h
  | q + 2, hq => simp at hq; omega
set_option maxRecDepth 100000 in
theorem ent_ok {b0 : Nat} {W : World} {G H : Nat → Nat} (hd : ∀ k ∈ [3, 4, 5, 6, 7, 11, 12, 13], DocC b0 W (G k) (H k) (docFs k)) : ∀ p ∈ mEnts G, (p.1 = 12 → ReadSays 84 #[] rChs (fun _ => True)) → EntOK W p := by
  intro p hp hch
  unfold mEnts at hp
  simp only [List.mem_cons, List.not_mem_nil, or_false] at hp
  rcases hp with rfl | rfl | rfl | rfl | rfl | rfl | rfl | rfl | rfl | rfl | rfl | rfl | rfl
  · exact ⟨_, 78, #[], by kernel_rfl, rfl, en_methods_5, _, (rInit_says).k, fun _ _ _ _ => trivial⟩
  · exact ⟨_, 77, #[], by kernel_rfl, rfl, en_methods_4, _, (rLoose_says).k, fun _ _ _ _ => trivial⟩
  · exact doc_ent (hd 3 (by simp)) mName3 (by kernel_rfl) (fun p hp => by
      simp only [docFs, List.mem_cons, List.not_mem_nil, or_false] at hp
      subst hp; exact rFmt_says) (fun p hp => by
      simp only [docFs, List.mem_cons, List.not_mem_nil, or_false] at hp
      subst hp; exact en_methods_6) (by simp [docFs]) (nil_one _)
  · exact doc_ent (hd 4 (by simp)) mName4 (by kernel_rfl) (fun p hp => by
      simp only [docFs, List.mem_cons, List.not_mem_nil, or_false] at hp
      rcases hp with rfl | rfl
      · exact rAt_says
      · exact rName_says) (fun p hp => by
      simp only [docFs, List.mem_cons, List.not_mem_nil, or_false] at hp
      rcases hp with rfl | rfl
      · exact en_methods_2
      · exact en_methods_7) (by simp [docFs]) (nil_two _ _ (fun j m h => h))
  · exact doc_ent (hd 5 (by simp)) mName5 (by kernel_rfl) (fun p hp => by
      simp only [docFs, List.mem_cons, List.not_mem_nil, or_false] at hp
      subst hp; exact rAt_says) (fun p hp => by
      simp only [docFs, List.mem_cons, List.not_mem_nil, or_false] at hp
      subst hp; exact en_methods_2) (by simp [docFs]) (nil_one _)
  · exact doc_ent (hd 6 (by simp)) mName6 (by kernel_rfl) (fun p hp => by
      simp only [docFs, List.mem_cons, List.not_mem_nil, or_false] at hp
      subst hp; exact rAt_says) (fun p hp => by
      simp only [docFs, List.mem_cons, List.not_mem_nil, or_false] at hp
      subst hp; exact en_methods_2) (by simp [docFs]) (nil_one _)
  · exact doc_ent (hd 7 (by simp)) mName7 (by kernel_rfl) (fun p hp => by simp [docFs] at hp) (fun p hp => by simp [docFs] at hp) (by simp [docFs]) (fun _ _ _ q hq => by simp [docFs] at hq)
  · exact ⟨_, 77, #[], by kernel_rfl, rfl, en_methods_4, _, (rLoose_says).k, fun _ _ _ _ => trivial⟩
  · exact ⟨_, 77, #[], by kernel_rfl, rfl, en_methods_4, _, (rLoose_says).k, fun _ _ _ _ => trivial⟩
  · exact ⟨_, 81, #[], by kernel_rfl, rfl, en_methods_8, _, (rCancel_says).k, fun _ _ _ _ => trivial⟩
  · exact doc_ent (hd 11 (by simp)) mName11 (by kernel_rfl) (fun p hp => by
      simp only [docFs, List.mem_cons, List.not_mem_nil, or_false] at hp
      rcases hp with rfl | rfl
      · exact rVer_says
      · exact rText_says) (fun p hp => by
      simp only [docFs, List.mem_cons, List.not_mem_nil, or_false] at hp
      rcases hp with rfl | rfl
      · exact en_methods_3
      · exact en_methods_9) (by simp [docFs]) (nil_two _ _ (fun j m h => h))
  · exact doc_ent (hd 12 (by simp)) mName12 (by kernel_rfl) (fun p hp => by
      simp only [docFs, List.mem_cons, List.not_mem_nil, or_false] at hp
      rcases hp with rfl | rfl
      · exact rVer_says
      · exact (hch rfl)) (fun p hp => by
      simp only [docFs, List.mem_cons, List.not_mem_nil, or_false] at hp
      rcases hp with rfl | rfl
      · exact en_methods_3
      · exact en_changes) (by simp [docFs]) (nil_two _ _ (fun j m h => h))
  · exact doc_ent (hd 13 (by simp)) mName13 (by kernel_rfl) (fun p hp => by simp [docFs] at hp) (fun p hp => by simp [docFs] at hp) (by simp [docFs]) (fun _ _ _ q hq => by simp [docFs] at hq)
end Go.Proofs.YtghaoielnphhlaaGreatDoor
