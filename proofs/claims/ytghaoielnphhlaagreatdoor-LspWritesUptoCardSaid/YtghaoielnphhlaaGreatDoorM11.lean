/-
  The walks of slices.Index over strings, and of json.Get.
-/
import Derived.Test.YtghaoielnphhlaaGreatDoorM10
import Derived.Lib.SlicesS
import Derived.Deep.MidRow
import Derived.Test.YtghaoielnphhlaaGreatDoorM09
import Derived.Lib.ValidLaws
namespace Go.Proofs.YtghaoielnphhlaaGreatDoor
open Go.RowKit

def findI (L : List ByteArray) (x : ByteArray) : Int := match jfind L x with | none => -1 | some i => (i : Int)
def zeroJ : Jsn := ⟨0, ⟨#[]⟩, [], []⟩
/-- How a call ends that hands a value of its own, and whether there is one. -/
def GetJEnd (r : Option Jsn) (w : World) (e : Ending) (w' : World) : Prop := ∃ vn vl, e = .returned (.tuple #[.agg #[.int .u8 (r.getD zeroJ).kind, .string (r.getD zeroJ).text, vn, vl], .bool r.isSome]) ∧ OwnJ w' 9 25 (r.getD zeroJ) w.heap.size w'.heap.size vn vl ∧ Below w.heap.size w w'
end Go.Proofs.YtghaoielnphhlaaGreatDoor


/-
  A box of cells, a struct's worth of them read and written at once.
-/
namespace Go.Proofs.YtghaoielnphhlaaGreatDoor
open Go.RowKit

/-- Cells put over cells, from an offset on. -/
def putA (cs : Array Value) : Nat → List Value → Array Value
  | _, [] => cs
  | o, v :: r => putA (cs.setIfInBounds o v) (o + 1) r
theorem putA_over : ∀ (vs cs pre : List Value), vs.length = cs.length → putA (pre ++ cs).toArray pre.length vs = (pre ++ vs).toArray
  | [], [], pre, _ => by simp [putA]
  | v :: r, c :: cs, pre, h => by
    show putA ((pre ++ c :: cs).toArray.setIfInBounds pre.length v) (pre.length + 1) r = _
    have h1 : (pre ++ c :: cs).toArray.setIfInBounds pre.length v = ((pre ++ [v]) ++ cs).toArray := by simp
    have h2 := putA_over r cs (pre ++ [v]) (by simpa using h)
    rw [h1]
    simpa using h2
theorem putA_whole (vs cs : List Value) (h : vs.length = cs.length) : putA cs.toArray 0 vs = vs.toArray := by
  simpa using putA_over vs cs [] h
theorem Cel.sets {b : Nat} {t : TypeId} : ∀ (vs : List Value) (o : Nat) (cs : Array Value) (w : World), Cel w b t cs → Cel (w.setCells b o vs) b t (putA cs o vs)
  | [], _, _, _, h => h
  | v :: r, o, cs, w, h => Cel.sets r (o + 1) (cs.setIfInBounds o v) (w.setCell ⟨b, o, none⟩ v) (h.set o v)
theorem sets_below {b : Nat} : ∀ (vs : List Value) (o : Nat) (w : World), (∀ B, B ≤ b → Below B w (w.setCells b o vs)) ∧ (∀ d, d ≠ b → (w.setCells b o vs).heap[d]? = w.heap[d]?) ∧ (w.setCells b o vs).heap.size = w.heap.size
  | [], _, w => ⟨fun B _ => Below.refl B w, fun _ _ => rfl, rfl⟩
  | v :: r, o, w => by
    obtain ⟨h1, h2, h3⟩ := sets_below r (o + 1) (w.setCell ⟨b, o, none⟩ v)
    refine ⟨fun B hB => ((Below.refl B w).setCell (p := ⟨b, o, none⟩) hB v).trans (h1 B hB), fun d hd => (h2 d hd).trans (Below.heap_setCell _ _ _ _ hd), h3.trans (by simp [World.setCell])⟩
/-- The world has changed at one block alone. -/
def Alone (b : Nat) (w w' : World) : Prop := (∀ B, B ≤ b → Below B w w') ∧ (∀ d, d ≠ b → w'.heap[d]? = w.heap[d]?) ∧ w'.heap.size = w.heap.size
theorem Alone.cel {b d : Nat} {w w' : World} (h : Alone b w w') {t : TypeId} {cs : Array Value} (hC : Cel w d t cs) (hd : d ≠ b) : Cel w' d t cs := (h.2.1 d hd).trans hC
theorem wpList_store_cel {P : Program} {ops : Array Oper} {rest : List Oper} {op : Oper} {a : Act} {w : World} {Q : Exit → Act → World → Prop} (hgd : op.guard = none) (ty : TypeId) (x y : Operand) (ho : op.op = .store ty x y)
    (b o : Nat) (cells cs new : Array Value) (t : TypeId) (hx : a.eval x = .pointer (some ⟨b, o, none⟩)) (hy : a.eval y = .agg cells) (hC : Cel w b t cs) (hlen : o + cells.size ≤ cs.size) (hnew : putA cs o cells.toList = new)
    (hi : (P.info? ty).map (·.size) = some cells.size) (h1 : cells.all (·.oneCell') = true)
    (h : ∀ w', Cel w' b t new → Alone b w w' → wpList P ops Q rest (a.put op.dst undef) w') : wpList P ops Q (op :: rest) a w :=
  wpList_store_mid hgd ty x y ho b o cells hx hy (fun j hj => ⟨by rw [hC.cell]; rw [Array.getElem?_eq_getElem (by omega)]; rfl, hC.froz _⟩) hi h1 (h _ (by have := Cel.sets cells.toList o cs w hC; rwa [hnew] at this) (sets_below cells.toList o w))
theorem wpList_load_cel {P : Program} {ops : Array Oper} {rest : List Oper} {op : Oper} {a : Act} {w : World} {Q : Exit → Act → World → Prop} (hgd : op.guard = none) (ty : TypeId) (x : Operand) (ho : op.op = .load ty x)
    (b o : Nat) (cs : Array Value) (sub : List Value) (t : TypeId) (d : TypeDesc) (hx : a.eval x = .pointer (some ⟨b, o, none⟩)) (hC : Cel w b t cs) (hsub : ∀ j v, sub[j]? = some v → cs[o + j]? = some v)
    (hu : P.underlying ty = some d) (hd : d.isRow = true) (hi : (P.info? ty).map (·.size) = some sub.length)
    (h : wpList P ops Q rest (a.put op.dst (.agg sub.toArray)) w) : wpList P ops Q (op :: rest) a w :=
  wpList_load_mid hgd ty x ho b o hx sub d (fun j v hv => by rw [hC.cell]; exact hsub j v hv) hu hd hi h
theorem wpList_load_all {P : Program} {ops : Array Oper} {rest : List Oper} {op : Oper} {a : Act} {w : World} {Q : Exit → Act → World → Prop} (hgd : op.guard = none) (ty : TypeId) (x : Operand) (ho : op.op = .load ty x)
    (b : Nat) (cs : Array Value) (t : TypeId) (d : TypeDesc) (hx : a.eval x = .pointer (some ⟨b, 0, none⟩)) (hC : Cel w b t cs)
    (hu : P.underlying ty = some d) (hd : d.isRow = true) (hi : (P.info? ty).map (·.size) = some cs.size)
    (h : wpList P ops Q rest (a.put op.dst (.agg cs)) w) : wpList P ops Q (op :: rest) a w :=
  wpList_load_cel hgd ty x ho b 0 cs cs.toList t d hx hC (fun j v hv => by simpa using hv) hu hd (by simpa using hi) (by simpa using h)
/-- Results: a struct's cell, and a slot. -/
theorem results_cel2 {P : Program} {fn : Func} {p q : Tmp} {ty : TypeId} (h : fn.results = #[.cell p ty, .tmp q]) (tmps : Array Value) (w : World) (g : Nat) (t : TypeId) (cs : Array Value) (d : TypeDesc)
    (hp : tmps.getD p undef = .pointer (some ⟨g, 0, none⟩)) (hg : Cel w g t cs) (hu : P.underlying ty = some d) (hd : d.isRow = true) (hi : (P.info? ty).map (·.size) = some cs.size) :
    (results fn tmps).run P w = .ok (.tuple #[.agg cs, tmps.getD q undef]) w := by
  have hp' : tmps[p]?.getD undef = .pointer (some ⟨g, 0, none⟩) := by simpa using hp
  have hl : (loadVar ty ⟨g, 0, none⟩).run P w = .ok (.agg cs) w := by
    have := run_loadVar_mid (P := P) w g 0 ty cs.toList d (fun j v hv => by rw [hg.cell]; simpa using hv) hu hd (by simpa using hi)
    simpa using this
  simp [results, h, hp', asAddr, hl]
theorem jsnInfo : (Tryz.prog.info? 25).map (·.size) = some 4 := by kernel_rfl
theorem jsnDesc : ∃ d, Tryz.prog.underlying 25 = some d ∧ d.isRow = true := ⟨_, Tryz.underlying25, rfl⟩
end Go.Proofs.YtghaoielnphhlaaGreatDoor


/-
  The walk of lsp.Decode.
-/
namespace Go.Proofs.YtghaoielnphhlaaGreatDoor
open Go.RowKit Go.WideMaps Go.Maps

/-- How lsp.Decode ends. -/
def DecEnd (r : LM × Int) (X : Nat → Prop) (w : World) (e : Ending) (w' : World) : Prop := ∃ idn idl chv, e = .returned (.tuple #[.agg (mCells r.1 idn idl chv), .int .i64 r.2]) ∧ JV w' X r.1.id idn idl ∧ w'.ownsRow w.heap.size 80 6 chv r.1.chs.length (chRow r.1.chs) ∧ Below w.heap.size w w'
theorem ent_keys (G : Nat → Nat) : ∀ p ∈ mEnts G, ∀ q ∈ mEnts G, p.1 = q.1 → p = q := by
  intro p hp q hq h
  unfold mEnts at hp hq
  simp only [List.mem_cons, List.not_mem_nil, or_false] at hp hq
  rcases hp with rfl | rfl | rfl | rfl | rfl | rfl | rfl | rfl | rfl | rfl | rfl | rfl | rfl <;> rcases hq with rfl | rfl | rfl | rfl | rfl | rfl | rfl | rfl | rfl | rfl | rfl | rfl | rfl <;> first | rfl | (simp at h)
theorem ent_has (G : Nat → Nat) : ∀ p ∈ mEnts G, Maps.has (methD G) (.int .u8 p.1) = true := by
  intro p hp
  unfold mEnts at hp
  simp only [List.mem_cons, List.not_mem_nil, or_false] at hp
  rcases hp with rfl | rfl | rfl | rfl | rfl | rfl | rfl | rfl | rfl | rfl | rfl | rfl | rfl <;> kernel_rfl
theorem ent_none (G : Nat → Nat) (s : ByteArray) (h : ∀ p ∈ mEnts G, p.2.1 ≠ s) : lMethods.find? (fun p => decide (p.1 = s)) = none := by
  rw [List.find?_eq_none]
  intro x hx
  have key : ∀ x ∈ lMethods, ∃ p ∈ mEnts G, p.2.1 = x.1 := by
    intro x hx
    unfold lMethods at hx
    simp only [List.mem_cons, List.not_mem_nil, or_false] at hx
    unfold mEnts
    rcases hx with rfl | rfl | rfl | rfl | rfl | rfl | rfl | rfl | rfl | rfl | rfl | rfl | rfl <;> simp
  obtain ⟨p, hp, e⟩ := key x hx
  have := h p hp
  rw [e] at this
  simpa using this
theorem ownsRow_same {w w' : World} {B k n : Nat} {e : TypeId} {v : Value} {xs : List Value} (h : w.ownsRow B e k v n xs) (hk : ∀ b, v.ownBlock = some b → w'.heap[b]? = w.heap[b]?) : w'.ownsRow B e k v n xs :=
  ⟨h.1, h.2.imp id (fun ⟨g, cap, cur, e1, e2, e3, r⟩ => ⟨g, cap, cur, e1, e2, (hk g (by rw [e1]; rfl)).trans e3, r⟩)⟩
theorem ownsRow_base {w : World} {B B' k n : Nat} {e : TypeId} {v : Value} {xs : List Value} (h : w.ownsRow B e k v n xs) (hB : B' ≤ B) : w.ownsRow B' e k v n xs :=
  ⟨h.1, h.2.imp id (fun ⟨g, cap, cur, e1, e2, r⟩ => ⟨g, cap, cur, e1, Nat.le_trans hB e2, r⟩)⟩
theorem ent_shape (G : Nat → Nat) : ∀ p ∈ mEnts G, ∃ F caps, mFn p.2.2 = .func (.func F) #[] caps := by
  intro p hp
  unfold mEnts at hp
  simp only [List.mem_cons, List.not_mem_nil, or_false] at hp
  rcases hp with rfl | rfl | rfl | rfl | rfl | rfl | rfl | rfl | rfl | rfl | rfl | rfl | rfl <;> exact ⟨_, _, rfl⟩
theorem ent_12 (G : Nat → Nat) (p : Nat × ME) (hp : p ∈ mEnts G) (h : p.1 = 12) : p.2.1 = mName12 := by
  unfold mEnts at hp
  simp only [List.mem_cons, List.not_mem_nil, or_false] at hp
  rcases hp with rfl | rfl | rfl | rfl | rfl | rfl | rfl | rfl | rfl | rfl | rfl | rfl | rfl <;> first | rfl | (simp at h)
theorem lmsgDesc : ∃ d, Tryz.prog.underlying 32 = some d ∧ d.isRow = true := ⟨_, Tryz.underlying32, rfl⟩
theorem lmsgInfo : (Tryz.prog.info? 32).map (·.size) = some 12 := by kernel_rfl
theorem methInfo : (Tryz.prog.info? 74).map (·.size) = some 2 := by kernel_rfl
set_option maxRecDepth 100000 in
set_option maxHeartbeats 8000000 in
theorem lspDecode_any (s : ByteArray) (j : Jsn) (X : Nat → Prop) (w : World) (vn vl : Value) (hV : JV w X j vn vl) (hbk : jbulk j ≤ 1000000000000) (hch : s = mName12 → ReadSays 84 #[] rChs (fun _ => True)) :
    Calls Tryz.prog 8 #[.string s, .agg #[.int .u8 j.kind, .string j.text, vn, vl]] w (DecEnd (ldec s j) X w) := by
  obtain ⟨A, n, c, A', n', c', rfl, rfl⟩ := hV.forms
  obtain ⟨W0, hW0⟩ : ∃ W0, (w.alloc (.cells #[.int .u8 j.kind, .string j.text, .slice A n c, .slice A' n' c'] 25)).alloc (.cells #[.int .u8 0, .string ⟨#[]⟩, .int .i64 0, .string ⟨#[]⟩, .int .i64 0, .int .i64 0, .int .i64 0, .int .u8 0, .string ⟨#[]⟩, .slice none 0 0, .slice none 0 0, .slice none 0 0] 32) = W0 := ⟨_, rfl⟩
  have hB0 : Below w.heap.size w W0 := by rw [← hW0]; exact ((Below.refl _ _).alloc (Nat.le_refl _) _).alloc (by simp) _
  have hs0 : W0.heap.size = w.heap.size + 2 := by rw [← hW0]; simp
  have hC3 : Cel W0 w.heap.size 25 #[.int .u8 j.kind, .string j.text, .slice A n c, .slice A' n' c'] := by rw [← hW0]; exact (Cel.fresh _ _ _).alloc _
  have hC4 : Cel W0 (w.heap.size + 1) 32 #[.int .u8 0, .string ⟨#[]⟩, .int .i64 0, .string ⟨#[]⟩, .int .i64 0, .int .i64 0, .int .i64 0, .int .u8 0, .string ⟨#[]⟩, .slice none 0 0, .slice none 0 0, .slice none 0 0] := by
    rw [← hW0]
    have := Cel.fresh (w.alloc (.cells #[.int .u8 j.kind, .string j.text, .slice A n c, .slice A' n' c'] 25)) 32 #[.int .u8 0, .string ⟨#[]⟩, .int .i64 0, .string ⟨#[]⟩, .int .i64 0, .int .i64 0, .int .i64 0, .int .u8 0, .string ⟨#[]⟩, .slice none 0 0, .slice none 0 0, .slice none 0 0]
    simpa using this
  have hmeth := methods_any W0
  obtain ⟨R, hR⟩ : ∃ R, ldec s j = R := ⟨_, rfl⟩
  rw [hR]
  replace hR := Lib.hid hR
  replace hW0 := Lib.hid hW0
  replace hmeth := Lib.hid hmeth
  replace hC3 := Lib.hid hC3
  replace hC4 := Lib.hid hC4
  replace hB0 := Lib.hid hB0
  replace hs0 := Lib.hid hs0
  replace hV := Lib.hid hV
  go_enter Tryz.func8, Tryz.ntmps8
  go_upto_region 1 with fail
  rw [hW0.out]
  clear hW0
  go_wp2_with fail
  refine hmeth.out.mono ?_
  rintro e w1 ⟨G, H, rfl, hown, hdocs, hb1⟩
  obtain ⟨w2, hrun2, hrg, hgr2, hs2⟩ := hown.range lawU Tryz.underlying70
  have hb2 : Below w1.heap.size w1 w2 := Below.grown (Below.refl _ _) hgr2 (Nat.le_refl _) (fun k hk => by cases hk)
  have hB02 : Below W0.heap.size W0 w2 := hb1.trans (hb2.mono hb1.size)
  have h32 := hC3.out.below hB02 hC3.out.lt
  have h42 := hC4.out.below hB02 hC4.out.lt
  have hBw := hB0.out.trans (hB02.mono hB0.out.size)
  have hr1 := hb1.size
  have hbm := hown.lt
  have hs02 := hs0.out
  have hent := Lib.hid (fun p hp hc => ent_ok hdocs p hp hc)
  have hb2h := Lib.hid hb2
  replace hs2 := Lib.hid hs2
  replace h32 := Lib.hid h32
  replace h42 := Lib.hid h42
  replace hBw := Lib.hid hBw
  replace hrg := Lib.hid hrg
  replace hs02 := Lib.hid hs02
  clear hown hdocs hgr2 hb1 hb2 hB02 hmeth hC3 hC4 hB0 hs0
  go_wp2_with fail
  clear hrun2
  go_loopw [6] (fun _ wr => ∃ left cnt, wr.ranges Tryz.prog 5 RM W0.heap.size w1.heap.size 13 (methD G) left cnt ∧ (∀ p ∈ mEnts G, p.2.1 = s → left (.int .u8 p.1) = true) ∧ Cel wr w.heap.size 25 #[.int .u8 j.kind, .string j.text, .slice A n c, .slice A' n' c'] ∧ Cel wr (w.heap.size + 1) 32 #[.int .u8 0, .string ⟨#[]⟩, .int .i64 0, .string ⟨#[]⟩, .int .i64 0, .int .i64 0, .int .i64 0, .int .u8 0, .string ⟨#[]⟩, .slice none 0 0, .slice none 0 0, .slice none 0 0] ∧ Below w.heap.size w wr ∧ Below w1.heap.size w1 wr) (fun _ wr => wr.rangeLeft W0.heap.size w1.heap.size)
  case atStart => exact ⟨_, _, hrg.out, fun p hp _ => ent_has G p hp, h32.out, h42.out, hBw.out, hb2h.out⟩
  case round =>
    obtain ⟨left, cnt, hrg3, hleft, hC3, hC4, hB, hB1⟩ := hrel
    have hrne : w1.heap.size ≠ w.heap.size ∧ w1.heap.size ≠ w.heap.size + 1 ∧ w.heap.size < w1.heap.size := by have := hs02.out; omega
    obtain ⟨dm, hdm⟩ := lmsgDesc
    replace hdm := Lib.hid hdm
    have hent2 := hent
    rcases hrg3.next lawU 0 with ⟨h0, hl, hrun⟩ | ⟨key, v, kl, y, wn, cnt', hkey, hlk, hv, hat, hrun, hrg4, hlt, hgr, hsz4, hen⟩
    · have hnone : ∀ p ∈ mEnts G, p.2.1 ≠ s := fun p hp e => by
        have := hleft p hp e
        rw [hl] at this
        cases this
      have hR2 : R = (zeroLM 0, 68) := by rw [← hR.out]; unfold ldec; rw [ent_none G s hnone]
      subst hR2
      replace hC4 := Lib.hid hC4
      replace hB := Lib.hid hB
      clear hent hent2 hnone hl hleft hrg3 hR hB1 hrg h32 h42 hBw hC3 hV
      go_wp2_with (refine wpList_store_cel rfl 32 (.tmp 4) (.tmp 29) (by rfl) (w.heap.size + 1) 0 #[.int .u8 0, .string ⟨#[]⟩, .int .i64 0, .string ⟨#[]⟩, .int .i64 0, .int .i64 0, .int .i64 0, .int .u8 0, .string ⟨#[]⟩, .slice none 0 0, .slice none 0 0, .slice none 0 0] _ #[.int .u8 0, .string ⟨#[]⟩, .int .i64 0, .string ⟨#[]⟩, .int .i64 0, .int .i64 0, .int .i64 0, .int .u8 0, .string ⟨#[]⟩, .slice none 0 0, .slice none 0 0, .slice none 0 0] 32 (by rfl) (by rfl) hC4.out (Nat.le_refl _) (putA_whole _ _ rfl) lmsgInfo (by simp [Value.oneCell']) ?_; intro w5 hC5 hA5)
      exact bodyPost_ret (results_cel2 Tryz.results8 _ _ _ _ _ dm rfl hC5 hdm.out.1 hdm.out.2 lmsgInfo) rfl ⟨_, _, _, rfl, zero8_jv _ _, World.ownsRow_nil _ _ _ _, hB.out.trans (hA5.1 _ (by omega))⟩
    · obtain ⟨x, rfl, rfl, hwf⟩ := keyOf_int_inv Tryz.underlying5 hkey
      obtain ⟨cm, rfl, hy⟩ := RM_inv hv
      obtain ⟨p, hp, hpx, hpc⟩ := meth_at (G := G) (x := x) (c := cm) (fun z => by have := hat z; rw [hy] at this; exact this)
      subst hpx
      subst hpc
      have hC3n : Cel wn w.heap.size 25 #[.int .u8 j.kind, .string j.text, .slice A n c, .slice A' n' c'] := (hgr.block _ hC3.lt (fun e => by injection e with e; omega)).trans hC3
      have hC4n : Cel wn (w.heap.size + 1) 32 #[.int .u8 0, .string ⟨#[]⟩, .int .i64 0, .string ⟨#[]⟩, .int .i64 0, .int .i64 0, .int .i64 0, .int .u8 0, .string ⟨#[]⟩, .slice none 0 0, .slice none 0 0, .slice none 0 0] := (hgr.block _ hC4.lt (fun e => by injection e with e; omega)).trans hC4
      have hBn : Below w.heap.size w wn := Below.grown hB hgr hB.size (fun k hk => by injection hk with hk; omega)
      have hB1n : Below w1.heap.size w1 wn := Below.grown hB1 hgr hB1.size (fun k hk => by injection hk with hk; omega)
      have hleft4 : ∀ q ∈ mEnts G, q.2.1 = s → p.2.1 ≠ s → (fun z : Lit => left z && !z.sameKey (.int .u8 p.1)) (.int .u8 q.1) = true := fun q hq e hne => by
        have h1 := hleft q hq e
        have h2 : q.1 ≠ p.1 := fun e2 => hne (by rw [← ent_keys G q hq p hp e2]; exact e)
        dsimp only
        rw [h1]
        have h3 : ((q.1 : Nat) : Int) ≠ (p.1 : Int) := by omega
        simp [Lit.sameKey, h3]
      obtain ⟨F0, caps0, hsh⟩ := ent_shape G p hp
      have hmv : mV p.2 = .agg #[.string p.2.1, .func (.func F0) #[] caps0] := by unfold mV; rw [hsh]
      rw [hmv] at hrun hen
      have h12 := ent_12 G p hp
      have hentp := fun hc => hent.out p hp hc
      obtain ⟨k, ⟨nm, fn⟩⟩ := p
      dsimp only at hrun hen hleft4 hsh h12 hlt hrg4
      replace hleft4 := Lib.hid hleft4
      replace hrg4 := Lib.hid hrg4
      replace hentp := Lib.hid hentp
      replace hB1n := Lib.hid hB1n
      replace hBn := Lib.hid hBn
      replace hC4n := Lib.hid hC4n
      have hC3h := Lib.hid hC3n
      obtain ⟨e0, e1, e2, e3⟩ := hC3n.d4
      have hm := hrg3.left_eq
      have hrlt := hrg3.lt
      have hszn : w1.heap.size ≤ wn.heap.size := hB1n.out.size
      have hwsn : w.heap.size ≤ wn.heap.size := hBn.out.size
      replace hsz4 := Lib.hid hsz4
      clear hC3 hC4 hB hB1 hleft hat hy hv hlk hkey hgr hent hent2 hmv hrg h32 h42 hBw hC3n hp
      replace hrg3 := Lib.hid hrg3
      by_cases hnm : nm = s
      · subst hnm
        obtain ⟨rd, F, caps, hfind, hfn, heF, K, hread, hK⟩ := hentp.out (fun h => hch (h12 h))
        dsimp only at hfind hfn
        rw [hsh] at hfn
        injection hfn with hfn1 _ hfn2
        injection hfn1 with hfn1
        subst hfn1
        subst hfn2
        have hR2 : R = ldecOf k rd j := by rw [← hR.out]; unfold ldec; rw [hfind]
        clear hR hfind hentp hsh h12 hleft4 hrg4 hrg3 hm
        replace hR2 := Lib.hid hR2
        replace hread := Lib.hid hread
        replace hK := Lib.hid hK
        go_upto_region 6 with (first | (refine wpList_store_cel rfl 74 (.tmp 7) (.tmp 15) (by rfl) wn.heap.size 0 #[.string nm, .func (.func F0) #[] caps0] #[.string ⟨#[]⟩, .nilFunc] #[.string nm, .func (.func F0) #[] caps0] 74 (by rfl) (by rfl) (Cel.fresh _ _ _) (Nat.le_refl _) (putA_whole _ _ rfl) methInfo (by simp [Value.oneCell']) ?_; intro w5 hC7 hA7; have hA7h := Lib.hid hA7; have c0 : w5.cell? ⟨wn.heap.size, 0, none⟩ = some (.string nm) := hC7.cell 0; have c1 : w5.cell? ⟨wn.heap.size, 1, none⟩ = some (.func (.func F0) #[] caps0) := hC7.cell 1; have hC7h := Lib.hid hC7; obtain ⟨y0, y1, y2, y3⟩ := (hA7.cel (hC3h.out.alloc _) (Nat.ne_of_lt hC3h.out.lt)).d4; have hs5 : w5.heap.size = wn.heap.size + 1 := hA7.2.2.trans (by simp); have h5a : wn.heap.size < w5.heap.size := (by omega); have h5b : w.heap.size < w5.heap.size := (by omega); replace hs5 := Lib.hid hs5; clear hC7 hA7))
        go_wp2_with fail
        obtain ⟨w6, hw6⟩ : ∃ W, w5.alloc (.cells #[.int .u8 k, .string ⟨#[]⟩, .int .i64 0, .string ⟨#[]⟩, .int .i64 0, .int .i64 0, .int .i64 0, .int .u8 0, .string ⟨#[]⟩, .slice none 0 0, .slice none 0 0, .slice none 0 0] 32) = W := ⟨_, rfl⟩
        rw [hw6]
        have hC8 : Cel w6 w5.heap.size 32 #[.int .u8 k, .string ⟨#[]⟩, .int .i64 0, .string ⟨#[]⟩, .int .i64 0, .int .i64 0, .int .i64 0, .int .u8 0, .string ⟨#[]⟩, .slice none 0 0, .slice none 0 0, .slice none 0 0] := by rw [← hw6]; exact Cel.fresh _ _ _
        have hs6 : w6.heap.size = w5.heap.size + 1 := by rw [← hw6]; simp
        have hb56 : Below w5.heap.size w5 w6 := by rw [← hw6]; exact (Below.refl _ _).alloc (Nat.le_refl _) _
        have hbn5 : Below wn.heap.size wn w5 := ((Below.refl wn.heap.size wn).alloc (Nat.le_refl _) _).trans (hA7h.out.1 _ (Nat.le_refl _))
        have hb6 : Below wn.heap.size wn w6 := hbn5.trans (hb56.mono (by omega))
        have hBw6 : Below w.heap.size w w6 := hBn.out.trans (hb6.mono hwsn)
        have hB16 : Below w1.heap.size w1 w6 := hB1n.out.trans (hb6.mono hszn)
        have hC46 : Cel w6 (w.heap.size + 1) 32 #[.int .u8 0, .string ⟨#[]⟩, .int .i64 0, .string ⟨#[]⟩, .int .i64 0, .int .i64 0, .int .i64 0, .int .u8 0, .string ⟨#[]⟩, .slice none 0 0, .slice none 0 0, .slice none 0 0] := hC4n.out.below hb6 hC4n.out.lt
        have hc4lt := hC4n.out.lt
        have hL : LMem w6 (fun i => X i ∧ i < w.heap.size) (w5.heap.size + 1) w5.heap.size (zeroLM k) := LMem.shut0 (idn := .slice none 0 0) (idl := .slice none 0 0) hC8 (zero8_jv _ _) rfl
        have hVj : JV w6 (fun i => X i ∧ i < w.heap.size) j (.slice A n c) (.slice A' n' c') := (hV.out.more (Y := fun i => X i ∧ i < w.heap.size) (fun i h1 h2 => ⟨h1, h2⟩)).later hBw6
        have hcall := hread.out j (fun i => X i ∧ i < w.heap.size) (w5.heap.size + 1) w5.heap.size (zeroLM k) w6 _ _ (hK.out w5.heap.size (by omega) w6 hB16) hVj hbk (fun i h1 h2 => ⟨by omega, by omega⟩) hL rfl (Nat.lt_succ_self _) (by omega)
        obtain ⟨⟨ok, m2⟩, hrd⟩ : ∃ a, rd j (zeroLM k) = a := ⟨_, rfl⟩
        rw [hrd] at hcall
        have hR3 := hR2.out
        unfold ldecOf at hR3
        rw [hrd] at hR3
        replace hcall := Lib.hid hcall
        replace hrd := Lib.hid hrd
        replace hw6 := Lib.hid hw6
        replace hs6 := Lib.hid hs6
        clear hR2 hread hK hch heF hL hVj hB16 hC8 hb56 hbn5 hC7h hA7h c0 c1 y0 y1 y2 y3 e0 e1 e2 e3 hC3h hB1n hrun hen hlt hwf hb2h hV
        refine hcall.out.mono ?_
        rintro e w7 ⟨rfl, hL7, hbut7⟩
        have hC47 : Cel w7 (w.heap.size + 1) 32 #[.int .u8 0, .string ⟨#[]⟩, .int .i64 0, .string ⟨#[]⟩, .int .i64 0, .int .i64 0, .int .i64 0, .int .u8 0, .string ⟨#[]⟩, .slice none 0 0, .slice none 0 0, .slice none 0 0] := hC46.but hbut7 hC46.lt (by omega)
        have hB7 : Below w.heap.size w w7 := hBw6.trans (hbut7.below (by omega) hBw6.size)
        replace hC47 := Lib.hid hC47
        replace hB7 := Lib.hid hB7
        clear hcall hC46 hBw6 hb6
        cases ok with
        | false =>
          simp only [Bool.false_eq_true, if_false] at hR3
          subst hR3
          clear hL7
          go_wp2_with (refine wpList_store_cel rfl 32 (.tmp 4) (.tmp 27) (by rfl) (w.heap.size + 1) 0 #[.int .u8 0, .string ⟨#[]⟩, .int .i64 0, .string ⟨#[]⟩, .int .i64 0, .int .i64 0, .int .i64 0, .int .u8 0, .string ⟨#[]⟩, .slice none 0 0, .slice none 0 0, .slice none 0 0] _ #[.int .u8 0, .string ⟨#[]⟩, .int .i64 0, .string ⟨#[]⟩, .int .i64 0, .int .i64 0, .int .i64 0, .int .u8 0, .string ⟨#[]⟩, .slice none 0 0, .slice none 0 0, .slice none 0 0] 32 (by rfl) (by rfl) hC47.out (Nat.le_refl _) (putA_whole _ _ rfl) lmsgInfo (by simp [Value.oneCell']) ?_; intro w8 hC9 hA9)
          exact bodyPost_ret (results_cel2 Tryz.results8 _ _ _ _ _ dm rfl hC9 hdm.out.1 hdm.out.2 lmsgInfo) rfl ⟨_, _, _, rfl, zero8_jv _ _, World.ownsRow_nil _ _ _ _, hB7.out.trans (hA9.1 _ (by omega))⟩
        | true =>
          simp only [if_true] at hR3
          subst hR3
          obtain ⟨idn, idl, chv, hC9, hJ9, hrow9, _⟩ := hL7
          obtain ⟨I1, i1, i2, I2, i3, i4, rfl, rfl⟩ := hJ9.forms
          obtain ⟨CA, ca, cc, hcv⟩ : ∃ A n c, chv = .slice A n c := by
            rcases hrow9.2 with ⟨e, _⟩ | ⟨g, cap, cur, e, _⟩
            · exact ⟨_, _, _, e⟩
            · exact ⟨_, _, _, e⟩
          subst hcv
          obtain ⟨mk, mu, mv, mt, ml, mch, mw, mid, mcs⟩ := m2
          replace hC9 := Lib.hid hC9
          replace hJ9 := Lib.hid hJ9
          replace hrow9 := Lib.hid hrow9
          go_wp2_with (first | (refine wpList_load_all rfl 32 (.tmp 8) (by rfl) w5.heap.size _ 32 dm (by rfl) hC9.out hdm.out.1 hdm.out.2 lmsgInfo ?_) | (refine wpList_store_cel rfl 32 (.tmp 4) (.tmp 28) (by rfl) (w.heap.size + 1) 0 (mCells ⟨mk, mu, mv, mt, ml, mch, mw, mid, mcs⟩ (.slice I1 i1 i2) (.slice I2 i3 i4) (.slice CA ca cc)) _ (mCells ⟨mk, mu, mv, mt, ml, mch, mw, mid, mcs⟩ (.slice I1 i1 i2) (.slice I2 i3 i4) (.slice CA ca cc)) 32 (by rfl) (by rfl) hC47.out (Nat.le_refl _) (putA_whole _ _ rfl) lmsgInfo (by simp [Value.oneCell', mCells]) ?_; intro w8 hC10 hA10))
          refine bodyPost_ret (results_cel2 Tryz.results8 _ _ _ _ _ dm rfl hC10 hdm.out.1 hdm.out.2 lmsgInfo) rfl ⟨_, _, _, rfl, ?_, ?_, hB7.out.trans (hA10.1 _ (by omega))⟩
          · exact (JV.keep (by rw [hA10.2.2]; exact Nat.le_refl _) (fun p h1 h2 => World.cell?_of_block (hA10.2.1 p.block (by have := h1.2; omega))) (fun i h1 _ => h1.1) _ hJ9.out)
          · exact ownsRow_base (ownsRow_same hrow9.out (fun i hi => hA10.2.1 i (by have := (hrow9.out.lt i hi).1; omega))) (by omega)
      · have hn1 := jeq_f hnm
        replace hnm := Lib.hid hnm
        go_wp2_with (refine wpList_store_cel rfl 74 (.tmp 7) (.tmp 15) (by rfl) wn.heap.size 0 #[.string nm, .func (.func F0) #[] caps0] #[.string ⟨#[]⟩, .nilFunc] #[.string nm, .func (.func F0) #[] caps0] 74 (by rfl) (by rfl) (Cel.fresh _ _ _) (Nat.le_refl _) (putA_whole _ _ rfl) methInfo (by simp [Value.oneCell']) ?_; intro w5 hC7 hA7; have c0 : w5.cell? ⟨wn.heap.size, 0, none⟩ = some (.string nm) := hC7.cell 0; have c1 : w5.cell? ⟨wn.heap.size, 1, none⟩ = some (.func (.func F0) #[] caps0) := hC7.cell 1; replace hC7 := Lib.hid hC7; replace hA7 := Lib.hid hA7)
        have hk7 : ∀ i, i < wn.heap.size → w5.heap[i]? = wn.heap[i]? := fun i hi => (hA7.out.2.1 i (by omega)).trans (Below.heap_alloc wn _ i hi)
        have hs7 : w5.heap.size = wn.heap.size + 1 := hA7.out.2.2.trans (by simp)
        have hg7 : wn.grownBy w5 none := ⟨(hA7.out.1 0 (Nat.zero_le _)).os, (hA7.out.1 0 (Nat.zero_le _)).tape, (hA7.out.1 0 (Nat.zero_le _)).output, by omega, fun i hi _ => hk7 i hi⟩
        have hrg5 := hrg4.out.kept hg7 (by simp) (by simp)
        go_roundw
        case rel => exact ⟨_, _, hrg5, fun q hq e => hleft4.out q hq e hnm.out, (hk7 _ hC3h.out.lt).trans hC3h.out, (hk7 _ hC4n.out.lt).trans hC4n.out, hBn.out.trans ((Below.refl wn.heap.size wn).alloc (Nat.le_refl _) _ |>.trans (hA7.out.1 _ (Nat.le_refl _)) |>.mono hwsn), hB1n.out.trans ((Below.refl wn.heap.size wn).alloc (Nat.le_refl _) _ |>.trans (hA7.out.1 _ (Nat.le_refl _)) |>.mono hszn)⟩
        case measure => rw [hrg5.left_eq, hm]; omega
end Go.Proofs.YtghaoielnphhlaaGreatDoor


/-
  The walk of json.Same.
-/
namespace Go.Proofs.YtghaoielnphhlaaGreatDoor
open Go.RowKit

end Go.Proofs.YtghaoielnphhlaaGreatDoor


/-
  Plain facts on characters: the document's Put, bits and Rune as functions of bytes, and that a text is valid in the document's words just if it is so in the library's. No program.
-/
namespace Go.Proofs.YtghaoielnphhlaaGreatDoor

/-- A code point's bytes, as numbers. -/
def rputN (p : Nat) : List Nat :=
  if 1114111 < p ∨ (55296 ≤ p ∧ p ≤ 57343) then []
  else if p < 128 then [p]
  else if p < 2048 then [192 + p / 64, 128 + p % 64]
  else if p < 65536 then [224 + p / 4096, 128 + p / 64 % 64, 128 + p % 64]
  else [240 + p / 262144, 128 + p / 4096 % 64, 128 + p / 64 % 64, 128 + p % 64]
def rput (p : Int) : List UInt8 := if p < 0 then [] else (rputN p.toNat).map UInt8.ofNat
/-- What the bytes would be of. -/
def rhead (n : Nat) : Int := if n = 2 then 192 else if n = 3 then 224 else if n = 4 then 240 else 0
def rbits : List UInt8 → Int
  | [] => 0
  | a :: t => t.foldl (fun o b => o * 64 + b.toNat - 128) ((a.toNat : Int) - rhead (t.length + 1))
/-- Are the first k bytes a character's? -/
def rok (l : List UInt8) (k : Nat) : Bool := decide (0 ≤ rbits (l.take k)) && decide (rput (rbits (l.take k)) = l.take k)
/-- The first character. -/
def rrune (l : List UInt8) : Int × Nat :=
  if l = [] then (-1, 0)
  else if rok l 1 = true then (rbits (l.take 1), 1)
  else if 2 ≤ l.length ∧ rok l 2 = true then (rbits (l.take 2), 2)
  else if 3 ≤ l.length ∧ rok l 3 = true then (rbits (l.take 3), 3)
  else if 4 ≤ l.length ∧ rok l 4 = true then (rbits (l.take 4), 4)
  else (-1, 1)

/-- Three bytes of a character; four. -/
def R3 (a b c : Nat) : Prop := 224 ≤ a ∧ a ≤ 239 ∧ 128 ≤ b ∧ b ≤ 191 ∧ 128 ≤ c ∧ c ≤ 191 ∧ (a = 224 → 160 ≤ b) ∧ (a = 237 → b ≤ 159)
def R4 (a b c d : Nat) : Prop := 240 ≤ a ∧ a ≤ 244 ∧ 128 ≤ b ∧ b ≤ 191 ∧ 128 ≤ c ∧ c ≤ 191 ∧ 128 ≤ d ∧ d ≤ 191 ∧ (a = 240 → 144 ≤ b) ∧ (a = 244 → b ≤ 143)
end Go.Proofs.YtghaoielnphhlaaGreatDoor
