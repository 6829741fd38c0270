/-
  The walk of json.Print.
-/
import Derived.Test.YtlnkjacbdolhnaaGreatDoorM21
import Derived.Test.YtlnkjacbdolhnaaGreatDoorM17
namespace Go.Proofs.YtlnkjacbdolhnaaGreatDoor
open Go.RowKit

theorem bd_made (w : World) : BD (w.alloc (.cells #[.pointer none, .slice none 0 0] 93)) w.heap.size [] :=
  ⟨_, _, .inl rfl, Cel.fresh w 93 #[.pointer none, .slice none 0 0], ⟨rfl, .inl ⟨rfl, rfl⟩⟩, by simp [Value.ownBlock]⟩
theorem nobuf_made (w : World) (k : Nat) : ¬ IsBuf (w.alloc (.cells #[.pointer none, .slice none 0 0] 93)) w.heap.size k := by
  rintro ⟨n, c, e⟩
  have h := (Cel.fresh w 93 #[.pointer none, .slice none 0 0]).cell 1
  rw [h] at e
  simp at e
/-- A builder that was made behind B, and written since. -/
theorem bd_lib {W w : World} {b : Nat} {l : List UInt8} (h : BD w b l) (hW : Wr b W w) (hn : ∀ k, ¬ IsBuf W b k) (hb : b < W.heap.size) : Lib.IsBuilder 93 5 b b (Lib.byteCells l) w := by
  obtain ⟨p, v, hp, h1, h2, h3⟩ := h
  have hl : (Lib.byteCells l).length = l.length := Lib.byteCells_length l
  have h4 : Lib.BuilderAt 93 5 b b p (Lib.byteCells l) w := by
    refine ⟨Nat.le_refl _, v, h1, ?_, h3⟩
    rw [hl]
    refine ⟨h2.1, ?_⟩
    rcases h2.2 with h5 | ⟨g, cap, cur, rfl, _, r⟩
    · exact .inl h5
    · refine .inr ⟨g, cap, cur, rfl, ?_, r⟩
      have hB : BDv w b p (.slice (some ⟨g, 0, none⟩) l.length cap) l := ⟨h1, h2, h3⟩
      have := (hW.buf g (hB.isBuf.2 rfl)).resolve_right (hn g)
      omega
  rcases hp with rfl | rfl
  · exact .inl h4
  · exact .inr h4
theorem below_wr {w W w' : World} {b : Nat} (hB : Below w.heap.size w W) (hW : Wr b W w') (hb : w.heap.size ≤ b) (hn : ∀ k, ¬ IsBuf W b k) : Below w.heap.size w w' :=
  ⟨hW.os.trans hB.os, hW.tape.trans hB.tape, hW.output.trans hB.output, Nat.le_trans hB.size hW.size,
    fun k hk => (hW.block k (Nat.lt_of_lt_of_le hk hB.size) (by omega) (hn k)).trans (hB.block k hk)⟩

set_option maxRecDepth 20000 in
set_option maxHeartbeats 2000000 in
theorem jsnPrint_any (j : Jsn) (X : Nat → Prop) (w : World) (vn vl : Value) (hE : EnvU w) (hV : JV w X j vn vl) (hbk : jbulk j ≤ 1000000) :
    Calls Tryz.prog 18 #[.agg #[.int .u8 j.kind, .string j.text, vn, vl]] w fun e w' => e = .returned (.tuple #[.string ⟨(jprint ownL Lib.validD j).1.toArray⟩, .int .i64 (jprint ownL Lib.validD j).2]) ∧ Below w.heap.size w w' := by
  obtain ⟨W0, hW0⟩ : ∃ W0, w.alloc (.cells #[.int .u8 j.kind, .string j.text, vn, vl] 25) = W0 := ⟨_, rfl⟩
  have hB0 : Below w.heap.size w W0 := by rw [← hW0]; exact (Below.refl _ _).alloc (Nat.le_refl _) _
  have hC0 : Cel W0 w.heap.size 25 #[.int .u8 j.kind, .string j.text, vn, vl] := by rw [← hW0]; exact Cel.fresh _ _ _
  have hD := Lib.hid (fun (wr : World) (hB : Below w.heap.size w wr) => jsnCheck_any j X wr vn vl (hE.below hB) (hV.later hB) hbk)
  have hF := Lib.hid (fun (wr : World) (hB : Below w.heap.size w wr) (hg : jcheck ownL Lib.validD j = 0) =>
    jsnWrite_any ownL Lib.validD j wr.heap.size [] (fun k => X k ∧ k < w.heap.size) (wr.alloc (.cells #[.pointer none, .slice none 0 0] 93)) vn vl (bd_made wr)
      (((hV.more (Y := fun k => X k ∧ k < w.heap.size) (fun b h1 h2 => ⟨h1, h2⟩)).later hB).alloc _)
      (fun k hk => ⟨by have := hB.size; simp; omega, by have := hB.size; omega, nobuf_made wr k⟩) hbk (check_form hg) (by simp; omega))
  obtain ⟨R, hR⟩ : ∃ R, jprint ownL Lib.validD j = R := ⟨_, rfl⟩
  rw [hR]
  unfold jprint at hR
  obtain ⟨An, nn, cn, Al, nl, cl, rfl, rfl⟩ := hV.forms
  obtain ⟨k, s, n, l⟩ := j
  obtain ⟨d, hd⟩ : ∃ d, jcheck ownL Lib.validD ⟨k, s, n, l⟩ = d := ⟨_, rfl⟩
  obtain ⟨T, hT⟩ : ∃ T, jtext ⟨k, s, n, l⟩ = T := ⟨_, rfl⟩
  rw [hd] at hD hF hR
  rw [hT] at hF hR
  clear hd hT hV hE
  dsimp only at hW0 hC0 hD hF ⊢
  simp only [List.nil_append] at hF
  replace hR := Lib.hid hR
  have h0 := Lib.hid (And.intro hC0 hB0)
  obtain ⟨p0, p1, p2, p3⟩ := box_cells hC0
  replace hW0 := Lib.hid hW0
  clear hC0 hB0 hbk
  go_enter Tryz.func18, Tryz.ntmps18
  go_wp2_with fail
  rw [hW0.out]
  clear hW0
  refine (hD.out _ h0.out.2).mono ?_
  rintro e w1 ⟨rfl, hb⟩
  have h1 := Lib.hid (box_step h0.out hb)
  clear p0 p1 p2 p3 h0 hb hD
  obtain ⟨p0, p1, p2, p3⟩ := box_cells h1.out.1
  by_cases c1 : d = 0
  case neg =>
    have e1 : R = ([], d) := by rw [← hR.out, if_pos c1]
    subst e1
    have e2 : (d == 0) = false := beq_eq_false_iff_ne.2 c1
    have e3 : (d != 0) = true := by simp [c1]
    go_wp2_with fail
    refine bodyPost_ret (v := .tuple #[.string ⟨#[]⟩, .int .i64 d]) (by simp [results, Tryz.results18, go_sem]) rfl ⟨rfl, h1.out.2⟩
  subst c1
  replace hR := Lib.hid (by have := hR.out; rwa [if_neg (by simp)] at this)
  have hlt := h1.out.1.lt
  have hwr := Lib.hid (hF.out w1 h1.out.2 rfl)
  clear hF
  go_wp2_with fail
  refine hwr.out.mono ?_
  rintro e w2 ⟨rfl, hBd, hWr⟩
  have hbel : Below w.heap.size w w2 := below_wr (h1.out.2.alloc h1.out.2.size _) hWr h1.out.2.size (nobuf_made w1)
  have hlib := bd_lib hBd hWr (nobuf_made w1) (by simp)
  have hlen := Lib.hid (Tryz.Builder_Len w1.heap.size w1.heap.size _ w2 hlib)
  have hsz : w1.heap.size ≤ w2.heap.size := Nat.le_of_lt hBd.lt
  have hstr := Lib.hid (Tryz.Builder_String_any w1.heap.size w1.heap.size T w2 hlib hsz)
  have hws : w.heap.size ≤ w1.heap.size := h1.out.2.size
  rw [Lib.byteCells_length] at hlen
  replace hbel := Lib.hid hbel
  clear hwr hBd hWr hlib p0 p1 p2 p3 h1
  go_wp2_with fail
  refine hlen.out.mono ?_
  rintro e w3 ⟨rfl, rfl⟩
  clear hlen
  by_cases c2 : 262144 < T.length
  · have e1 : R = ([], 40) := by rw [← hR.out, if_pos c2]
    subst e1
    have c3 : (262144 : Int) < (T.length : Int) := by omega
    clear c2 hR hstr
    go_wp2_with fail
    refine bodyPost_ret (v := .tuple #[.string ⟨#[]⟩, .int .i64 40]) (by simp [results, Tryz.results18, go_sem]) rfl ⟨rfl, hbel.out⟩
  · have e1 : R = (T, 0) := by rw [← hR.out, if_neg c2]
    subst e1
    have c3 : ¬ (262144 : Int) < (T.length : Int) := by omega
    clear c2 hR
    go_wp2_with fail
    refine hstr.out.mono ?_
    rintro e w4 ⟨rfl, hb⟩
    have hfin := Lib.hid (hbel.out.trans (hb.mono hws))
    obtain ⟨S, hS⟩ : ∃ S : ByteArray, ⟨T.toArray⟩ = S := ⟨_, rfl⟩
    dsimp only
    rw [hS]
    clear hstr hb hbel
    replace hS := Lib.hid hS
    go_wp2_with fail
    refine bodyPost_ret (v := .tuple #[.string S, .int .i64 0]) (by simp [results, Tryz.results18, go_sem]) rfl ⟨by rw [← hS.out], hfin.out⟩
end Go.Proofs.YtlnkjacbdolhnaaGreatDoor


/-
  A builder of a call's own; what String hands back, more than once.
-/
namespace Go.Proofs.YtlnkjacbdolhnaaGreatDoor
open Go.RowKit

theorem But.grow {b : Nat} {w w' : World} (h : But w.heap.size b w w') : w.grownBy w' (some b) := ⟨h.os, h.tape, h.output, h.size, fun k hk hn => h.block k hk (fun e => hn (by rw [e]))⟩
theorem BD.but {b bb : Nat} {w w' : World} {l : List UInt8} (h : BD w bb l) (hb : But w.heap.size b w w') (hne : b ≠ bb) (hnb : ¬ IsBuf w bb b) : BD w' bb l := by
  obtain ⟨p, v, hp, h0⟩ := h
  have hv : v.ownBlock ≠ some b := fun e => hnb (h0.isBuf.2 e)
  exact ⟨p, v, hp, (hb.block bb h0.lt (Ne.symm hne)).trans h0.1, World.ownsRow.kept h0.2.1 hb.grow (Or.inr hv), h0.2.2⟩
/-- A builder that was made behind B, as its buffer was. -/
def OB (B : Nat) (w : World) (bb : Nat) (l : List UInt8) : Prop := BD w bb l ∧ B ≤ bb ∧ (∀ k, IsBuf w bb k → B ≤ k) ∧ (l = [] → w.cell? ⟨bb, 1, none⟩ = some (.slice none 0 0))
theorem OB.made {B : Nat} {w : World} (hB : B ≤ w.heap.size) : OB B (w.alloc (.cells #[.pointer none, .slice none 0 0] 93)) w.heap.size [] :=
  ⟨bd_made w, hB, fun k hk => absurd hk (nobuf_made w k), fun _ => (Cel.fresh w 93 #[.pointer none, .slice none 0 0]).cell 1⟩
theorem OB.wr {B bb : Nat} {w w' : World} {l l' : List UInt8} (h : OB B w bb l) (hE : WrEnd bb l' w w') (hl : l' ≠ []) : OB B w' bb l' ∧ Below B w w' := by
  obtain ⟨h1, h2, h3, _⟩ := h
  obtain ⟨q1, q2⟩ := hE
  have hBs : B ≤ w.heap.size := Nat.le_trans h2 (Nat.le_of_lt h1.lt)
  refine ⟨⟨q1, h2, fun k hk => (q2.buf k hk).elim (fun e => Nat.le_trans hBs e) (h3 k), fun e => absurd e hl⟩, q2.os, q2.tape, q2.output, q2.size, fun k hk => q2.block k (Nat.lt_of_lt_of_le hk hBs) (by omega) (fun hb => by have := h3 k hb; omega)⟩
theorem OB.but {B b bb : Nat} {w w' : World} {l : List UInt8} (h : OB B w bb l) (hb : But w.heap.size b w w') (hlt : b < B) : OB B w' bb l := by
  obtain ⟨h1, h2, h3, h4⟩ := h
  have hnb : ¬ IsBuf w bb b := fun e => by have := h3 b e; omega
  have hne : b ≠ bb := by omega
  have hc : w'.cell? ⟨bb, 1, none⟩ = w.cell? ⟨bb, 1, none⟩ := hb.cell (p := ⟨bb, 1, none⟩) h1.lt (Ne.symm hne)
  exact ⟨h1.but hb hne hnb, h2, fun k ⟨n, c, e⟩ => h3 k ⟨n, c, hc ▸ e⟩, fun e => hc.trans (h4 e)⟩
theorem RJ.bel {B b it : Nat} {w w' : World} {s : List UInt8} (h : RJ w b s it) (hb : Below B w w') (hlt : b < B) : RJ w' b s it := Cel.below h hb hlt

/-- What may be read of a builder. -/
def BS (B : Nat) (w : World) (bb : Nat) (l : List UInt8) : Prop := bb < w.heap.size ∧ B ≤ bb ∧ ((l = [] ∧ w.cell? ⟨bb, 1, none⟩ = some (.slice none 0 0)) ∨
  (l ≠ [] ∧ ∃ (g cap : Nat) (cur : Array Value) (fz : Nat × Nat), B ≤ g ∧ g ≠ bb ∧ w.cell? ⟨bb, 1, none⟩ = some (.slice (some ⟨g, 0, none⟩) l.length cap) ∧ w.heap[g]? = some (.cells cur 5 fz) ∧ l.length ≤ cap ∧ l.length ≤ cur.size ∧ ∀ (j : Nat) (x : UInt8), l[j]? = some x → cur[j]? = some (.int .u8 x.toNat)))
theorem OB.bs {B bb : Nat} {w : World} {l : List UInt8} (h : OB B w bb l) : BS B w bb l := by
  obtain ⟨h1, h2, h3, h4⟩ := h
  refine ⟨h1.lt, h2, ?_⟩
  by_cases hl : l = []
  · exact .inl ⟨hl, h4 hl⟩
  · refine .inr ⟨hl, ?_⟩
    obtain ⟨p, v, hp, h0⟩ := h1
    have hv := h0.cell1
    rcases h0.2.1.2 with ⟨rfl, hn⟩ | ⟨g, cap, cur, rfl, _, hg, hc1, hc2, hcs, htk⟩
    · exact absurd (List.eq_nil_of_length_eq_zero hn) hl
    · refine ⟨g, cap, cur, (0, 0), h3 g ⟨_, _, hv⟩, fun e => h0.2.2 (by rw [← e]; rfl), hv, hg, hc1, by omega, fun j x hx => ?_⟩
      have hj : j < l.length := (List.getElem?_eq_some_iff.1 hx).1
      have h5 : (cur.toList.take (l.length * 1))[j]? = (l.map fun b => Value.int .u8 b.toNat)[j]? := by rw [htk]
      rw [List.getElem?_take, if_pos (by omega), List.getElem?_map, hx, Array.getElem?_toList] at h5
      exact h5
theorem BS.bel {B bb : Nat} {w w' : World} {l : List UInt8} (h : BS B w bb l) (hb : Below w.heap.size w w') : BS B w' bb l := by
  obtain ⟨h1, h2, h3⟩ := h
  have hc : w'.cell? ⟨bb, 1, none⟩ = w.cell? ⟨bb, 1, none⟩ := hb.cell (p := ⟨bb, 1, none⟩) h1
  refine ⟨Nat.lt_of_lt_of_le h1 hb.size, h2, ?_⟩
  rcases h3 with ⟨e, h4⟩ | ⟨e, g, cap, cur, fz, q1, q2, q3, q4, q5⟩
  · exact .inl ⟨e, hc.trans h4⟩
  · exact .inr ⟨e, g, cap, cur, fz, q1, q2, hc.trans q3, (hb.block g (Array.getElem?_eq_some_iff.1 q4).1).trans q4, q5⟩
set_option maxRecDepth 100000 in
set_option maxHeartbeats 1000000 in
theorem bdStr1 (b g n cap : Nat) (l : List UInt8) (w : World) (hl : l ≠ []) (hb1 : w.cell? ⟨b, 1, none⟩ = some (.slice (some ⟨g, 0, none⟩) l.length cap)) (hcap : l.length ≤ cap) (hsh : w.shape? g = some (5, n)) (hn : l.length ≤ n) (hlim : l.length ≤ 140737488355328) (hcell : ∀ j x, l[j]? = some x → w.cell? ⟨g, j, none⟩ = some (.int .u8 x.toNat)) :
    Calls Tryz.prog 39 #[.pointer (some ⟨b, 0, none⟩)] w fun e w' => e = .returned (.string ⟨l.toArray⟩) ∧ w' = w.drew.freeze ⟨g, 0, none⟩ l.length := by
  have hl0 : l.length ≠ 0 := by simpa using hl
  have c1 : w.drew.cell? ⟨b, 1, none⟩ = some (.slice (some ⟨g, 0, none⟩) l.length cap) := hb1
  have hSD : (Builtin.unsafeSliceData_ #[84] 148 #[.slice (some ⟨g, 0, none⟩) l.length cap]).run Tryz.prog w.drew = .ok (.pointer (some ⟨g, 0, none⟩)) w.drew :=
    Lib.run_unsafeSliceData_row _ _ _ _ _ _ (by omega)
  have hUS : (Builtin.unsafeString_ #[148, 3] 9 #[.pointer (some ⟨g, 0, none⟩), .int .i64 l.length]).run Tryz.prog w.drew = .ok (.string ⟨l.toArray⟩) (w.drew.freeze ⟨g, 0, none⟩ l.length) :=
    Lib.run_unsafeString_row w.drew 148 3 9 5 Tryz.underlying148 (by kernel_rfl) g n hsh l hl hn (by omega) fun j x hx => by
      rw [Addr.add_mid, Nat.zero_add]
      exact hcell j x hx
  have mixed : Tryz.prog.follows .mixedOrders = true := by kernel_rfl
  go_enter Tryz.func39, Tryz.ntmps39
  go_wp2
  go_region_o
  all_goals (go_wp2; go_ret; exact ⟨rfl, rfl⟩)
set_option maxRecDepth 100000 in
set_option maxHeartbeats 1000000 in
theorem bdStr0 (b : Nat) (w : World) (hb1 : w.cell? ⟨b, 1, none⟩ = some (.slice none 0 0)) :
    Calls Tryz.prog 39 #[.pointer (some ⟨b, 0, none⟩)] w fun e w' => e = .returned (.string ⟨#[]⟩) ∧ w' = w.drew := by
  have c1 : w.drew.cell? ⟨b, 1, none⟩ = some (.slice none 0 0) := hb1
  have hSD : (Builtin.unsafeSliceData_ #[84] 148 #[.slice none 0 0]).run Tryz.prog w.drew = .ok (.pointer none) w.drew := rfl
  have hUS := fun q => Lib.run_unsafeString_none (P := Tryz.prog) w.drew 148 3 9 q
  have mixed : Tryz.prog.follows .mixedOrders = true := by kernel_rfl
  go_enter Tryz.func39, Tryz.ntmps39
  go_wp2
  go_region_o
  all_goals (go_wp2; go_ret; exact ⟨rfl, rfl⟩)
theorem bsString_any (B bb : Nat) (l : List UInt8) (w : World) (h : BS B w bb l) (hl : l.length ≤ 140737488355328) : Calls Tryz.prog 39 #[.pointer (some ⟨bb, 0, none⟩)] w fun e w' => e = .returned (.string (ofL l)) ∧ BS B w' bb l ∧ Below B w w' := by
  obtain ⟨h1, h2, h3⟩ := h
  rcases h3 with ⟨rfl, h4⟩ | ⟨hne, g, cap, cur, fz, q1, q2, q3, q4, q5, q6, q7⟩
  · refine (bdStr0 bb w h4).mono ?_
    rintro e w' ⟨rfl, rfl⟩
    exact ⟨rfl, ⟨h1, h2, .inl ⟨rfl, h4⟩⟩, bel_drewN (Below.refl _ _) 1⟩
  · refine (bdStr1 bb g cur.size cap l w hne q3 q5 (by unfold World.shape?; rw [q4]) q6 hl (fun j x hx => by unfold World.cell?; rw [q4]; exact q7 j x hx)).mono ?_
    rintro e w' ⟨rfl, rfl⟩
    have hb : Below B w (w.drew.freeze ⟨g, 0, none⟩ l.length) := Lib.below_freeze (bel_drewN (Below.refl _ _) 1) q1 _
    have hl0 : l.length ≠ 0 := by simpa using hne
    have hoth : ∀ k, k ≠ g → (w.drew.freeze ⟨g, 0, none⟩ l.length).heap[k]? = w.heap[k]? := fun k hk => by
      unfold World.freeze
      rw [if_neg hl0]
      show (w.heap.modify g _)[k]? = _
      rw [Array.getElem?_modify, if_neg (fun e => hk e.symm)]
    have hat : ∃ fz', (w.drew.freeze ⟨g, 0, none⟩ l.length).heap[g]? = some (.cells cur 5 fz') := by
      unfold World.freeze
      rw [if_neg hl0]
      obtain ⟨lo, hi⟩ := fz
      exact ⟨_, by show (w.heap.modify g _)[g]? = _; rw [Array.getElem?_modify, if_pos rfl, q4]; first | done | rfl⟩
    obtain ⟨fz', hat⟩ := hat
    have hc : (w.drew.freeze ⟨g, 0, none⟩ l.length).cell? ⟨bb, 1, none⟩ = w.cell? ⟨bb, 1, none⟩ := World.cell?_of_block (w := w) (hoth bb (Ne.symm q2))
    exact ⟨rfl, ⟨Nat.lt_of_lt_of_le h1 hb.size, h2, .inr ⟨hne, g, cap, cur, fz', q1, q2, hc.trans q3, hat, q5, q6, q7⟩⟩, hb⟩
end Go.Proofs.YtlnkjacbdolhnaaGreatDoor


/-
  Four hex digits, one by one. No program.
-/
namespace Go.Proofs.YtlnkjacbdolhnaaGreatDoor

theorem hexL_take : ∀ (L : List UInt8) (n m : Nat), hexL n L = some m → ∀ c ∈ L, (jhl c).isSome = true
  | [], _, _, _, c, hc => by cases hc
  | x :: r, n, m, h, c, hc => by
    unfold hexL at h
    split at h
    · cases h
    · rename_i k hk
      rcases List.mem_cons.1 hc with rfl | hc
      · rw [hk]; rfl
      · exact hexL_take r _ _ h c hc
theorem hexL_all : ∀ (L : List UInt8) (n : Nat), (∀ c ∈ L, (jhl c).isSome = true) → ∃ m, hexL n L = some m
  | [], n, _ => ⟨n, rfl⟩
  | x :: r, n, h => by
    obtain ⟨k, hk⟩ := Option.isSome_iff_exists.1 (h x List.mem_cons_self)
    unfold hexL
    rw [hk]
    exact hexL_all r _ fun c hc => h c (List.mem_cons_of_mem _ hc)
theorem hexV_low : ∀ (l : List UInt8) (n m : Nat), hexV n l = some m → ∀ c ∈ l, c.toNat < 128
  | [], _, _, _, c, hc => by cases hc
  | x :: r, n, m, h, c, hc => by
    unfold hexV at h
    split at h
    · cases h
    · rename_i k hk
      rcases List.mem_cons.1 hc with rfl | hc
      · unfold jhv at hk
        split at hk
        · omega
        · split at hk
          · omega
          · split at hk
            · omega
            · cases hk
      · exact hexV_low r _ _ h c hc
/-- Where all that comes out are digits, there are as many as there were bytes. -/
theorem lower_len {l : List UInt8} (h : ∀ c ∈ Lib.toLowerD l, (jhl c).isSome = true) : (Lib.toLowerD l).length = l.length := by
  obtain ⟨m, hm⟩ := hexL_all _ 0 h
  rw [lower_hex l.length l 0 (Nat.le_refl _)] at hm
  rw [Lib.toLowerD_ascii l (hexV_low l 0 m hm)]
  unfold Lib.toLowerA
  simp
theorem jhl_lt {c : UInt8} {k : Nat} (h : jhl c = some k) : k < 16 := by
  unfold jhl at h
  split at h
  · injection h with h; omega
  · split at h
    · injection h with h; omega
    · cases h
/-- The place of a byte among the digits. -/
theorem hex_ix : ∀ n : Fin 256, Lib.indexByte [48, 49, 50, 51, 52, 53, 54, 55, 56, 57, 97, 98, 99, 100, 101, 102] (UInt8.ofNat n.val) = (match jhl (UInt8.ofNat n.val) with | some k => (k : Int) | none => -1) := by decide +kernel
theorem hexL_step {L : List UInt8} {q n : Nat} (hq : q < L.length) {k : Nat} (hk : jhl L[q] = some k) : hexL n (L.drop q) = hexL (n * 16 + k) (L.drop (q + 1)) := by
  rw [List.drop_eq_getElem_cons hq]
  conv => lhs; unfold hexL
  rw [hk]
/-- How far the digits have been read. -/
def HexAt (L : List UInt8) (q : Nat) (v : Int) : Prop := (∀ c ∈ L.take q, (jhl c).isSome = true) ∧ (q ≤ 4 → ∃ n : Nat, v = n ∧ hexL 0 L = hexL n (L.drop q) ∧ n < 16 ^ q)
theorem HexAt.start (L : List UInt8) : HexAt L 0 0 := ⟨fun c hc => by simp at hc, fun _ => ⟨0, rfl, by simp, by simp⟩⟩
theorem HexAt.step {L : List UInt8} {q : Nat} {v v' : Int} {k : Nat} (h : HexAt L q v) (hq : q < L.length) (hk : jhl L[q] = some k) (hv : q < 4 → 0 ≤ v → v < 65536 → v' = v * 16 + k) : HexAt L (q + 1) v' := by
  refine ⟨fun c hc => ?_, fun h4 => ?_⟩
  · rw [List.take_add_one, List.getElem?_eq_getElem hq] at hc
    rcases List.mem_append.1 hc with hc | hc
    · exact h.1 c hc
    · simp at hc; subst hc; rw [hk]; rfl
  · obtain ⟨n, h1, h2, h3⟩ := h.2 (by omega)
    have h5 : 16 ^ q ≤ 16 ^ 3 := Nat.pow_le_pow_right (by omega) (by omega)
    have h6 : (16 : Nat) ^ 3 = 4096 := by decide
    refine ⟨n * 16 + k, ?_, ?_, ?_⟩
    · rw [hv (by omega) (by omega) (by omega), h1]; omega
    · rw [h2, hexL_step hq hk]
    · have := jhl_lt hk
      rw [Nat.pow_succ]; omega
theorem enc_le4 (z : Int) : (Lib.encodeRune z).length ≤ 4 := by
  unfold Lib.encodeRune Lib.encodeRuneZ
  rw [List.length_map]
  repeat' split
  all_goals simp
theorem mapD_le4 (f : Int → Int) : ∀ (n : Nat) (l : List UInt8), l.length ≤ n → (Lib.mapD f l).length ≤ 4 * l.length
  | 0, l, hn => by
    have : l = [] := List.eq_nil_of_length_eq_zero (by omega)
    subst this
    simp [Lib.mapD_nil]
  | n + 1, l, hn => by
    by_cases hne : l = []
    · subst hne
      simp [Lib.mapD_nil]
    · have hw := Lib.decodeL_width l
      have hle := Lib.decodeL_le l hne
      have ih := mapD_le4 f n (l.drop (Lib.decodeL l).2) (by rw [List.length_drop]; omega)
      rw [List.length_drop] at ih
      rw [Lib.mapD_step f l hne, List.length_append]
      have hh : (if 0 ≤ f (Lib.decodeL l).1 then Lib.encodeRune (f (Lib.decodeL l).1) else []).length ≤ 4 := by
        split
        · exact enc_le4 _
        · simp
      omega
theorem lower_le (l : List UInt8) : (Lib.toLowerD l).length ≤ 4 * l.length := mapD_le4 _ _ l (Nat.le_refl _)
end Go.Proofs.YtlnkjacbdolhnaaGreatDoor
