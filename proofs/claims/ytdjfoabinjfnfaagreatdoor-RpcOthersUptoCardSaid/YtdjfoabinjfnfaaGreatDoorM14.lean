/-
  The walk of json.Print.
-/
import Derived.Test.YtdjfoabinjfnfaaGreatDoorM13
import Derived.Test.YtdjfoabinjfnfaaGreatDoorM09
import Derived.Shelf.Strings.CaseAny
namespace Go.Proofs.YtdjfoabinjfnfaaGreatDoor
open Go.RowKit
theorem bd_made (w : World) : BD (w.alloc (.cells #[.pointer none, .slice none 0 0] 116)) w.heap.size [] :=
  ⟨_, _, .inl rfl, Cel.fresh w 116 #[.pointer none, .slice none 0 0], ⟨rfl, .inl ⟨rfl, rfl⟩⟩, by simp [Value.ownBlock]⟩
theorem nobuf_made (w : World) (k : Nat) : ¬ IsBuf (w.alloc (.cells #[.pointer none, .slice none 0 0] 116)) w.heap.size k := by
  rintro ⟨n, c, e⟩
  have h := (Cel.fresh w 116 #[.pointer none, .slice none 0 0]).cell 1
  rw [h] at e
  simp at e
theorem bd_lib {W w : World} {b : Nat} {l : List UInt8} (h : BD w b l) (hW : Wr b W w) (hn : ∀ k, ¬ IsBuf W b k) (hb : b < W.heap.size) : Lib.IsBuilder 116 5 b b (Lib.byteCells l) w := by
  obtain ⟨p, v, hp, h1, h2, h3⟩ := h
  have hl : (Lib.byteCells l).length = l.length := Lib.byteCells_length l
  have h4 : Lib.BuilderAt 116 5 b b p (Lib.byteCells l) w := by
    refine ⟨Nat.le_refl _, v, h1, ?_, h3⟩
    rw [hl]
    refine ⟨h2.1, ?_⟩
    rcases h2.2 with h5 | ⟨g, cap, cur, rfl, _, r⟩
    · exact .inl h5
    · refine .inr ⟨g, cap, cur, rfl, ?_, r⟩
      have hB : BDv w b p (.slice (some ⟨g, 0, none⟩) l.length cap) l := ⟨h1, h2, h3⟩
      have := (hW.buf g (hB.isBuf.2 rfl)).resolve_right (hn g)
      omega
  rcases hp with rfl | rfl
  · exact .inl h4
  · exact .inr h4
theorem below_wr {w W w' : World} {b : Nat} (hB : Below w.heap.size w W) (hW : Wr b W w') (hb : w.heap.size ≤ b) (hn : ∀ k, ¬ IsBuf W b k) : Below w.heap.size w w' :=
  ⟨hW.os.trans hB.os, hW.tape.trans hB.tape, hW.output.trans hB.output, Nat.le_trans hB.size hW.size,
    fun k hk => (hW.block k (Nat.lt_of_lt_of_le hk hB.size) (by omega) (hn k)).trans (hB.block k hk)⟩
set_option maxRecDepth 20000 in
set_option maxHeartbeats 2000000 in
theorem jsnPrint_any (j : Jsn) (X : Nat → Prop) (w : World) (vn vl : Value) (hE : EnvU w) (hV : JV w X j vn vl) (hbk : jbulk j ≤ 1000000) :
    Calls Tryz.prog 34 #[.agg #[.int .u8 j.kind, .string j.text, vn, vl]] w fun e w' => e = .returned (.tuple #[.string ⟨(jprint ownL Lib.validD j).1.toArray⟩, .int .i64 (jprint ownL Lib.validD j).2]) ∧ Below w.heap.size w w' := by
  obtain ⟨W0, hW0⟩ : ∃ W0, w.alloc (.cells #[.int .u8 j.kind, .string j.text, vn, vl] 25) = W0 := ⟨_, rfl⟩
  have hB0 : Below w.heap.size w W0 := by rw [← hW0]; exact (Below.refl _ _).alloc (Nat.le_refl _) _
  have hC0 : Cel W0 w.heap.size 25 #[.int .u8 j.kind, .string j.text, vn, vl] := by rw [← hW0]; exact Cel.fresh _ _ _
  have hD := Lib.hid (fun (wr : World) (hB : Below w.heap.size w wr) => jsnCheck_any j X wr vn vl (hE.below hB) (hV.later hB) hbk)
  have hF := Lib.hid (fun (wr : World) (hB : Below w.heap.size w wr) (hg : jcheck ownL Lib.validD j = 0) =>
    jsnWrite_any ownL Lib.validD j wr.heap.size [] (fun k => X k ∧ k < w.heap.size) (wr.alloc (.cells #[.pointer none, .slice none 0 0] 116)) vn vl (bd_made wr)
      (((hV.more (Y := fun k => X k ∧ k < w.heap.size) (fun b h1 h2 => ⟨h1, h2⟩)).later hB).alloc _)
      (fun k hk => ⟨by have := hB.size; simp; omega, by have := hB.size; omega, nobuf_made wr k⟩) hbk (check_form hg) (by simp; omega))
  obtain ⟨R, hR⟩ : ∃ R, jprint ownL Lib.validD j = R := ⟨_, rfl⟩
  rw [hR]
  unfold jprint at hR
  obtain ⟨An, nn, cn, Al, nl, cl, rfl, rfl⟩ := hV.forms
  obtain ⟨k, s, n, l⟩ := j
  obtain ⟨d, hd⟩ : ∃ d, jcheck ownL Lib.validD ⟨k, s, n, l⟩ = d := ⟨_, rfl⟩
  obtain ⟨T, hT⟩ : ∃ T, jtext ⟨k, s, n, l⟩ = T := ⟨_, rfl⟩
  rw [hd] at hD hF hR
  rw [hT] at hF hR
  clear hd hT hV hE
  dsimp only at hW0 hC0 hD hF ⊢
  simp only [List.nil_append] at hF
  replace hR := Lib.hid hR
  have h0 := Lib.hid (And.intro hC0 hB0)
  obtain ⟨p0, p1, p2, p3⟩ := box_cells hC0
  replace hW0 := Lib.hid hW0
  clear hC0 hB0 hbk
  go_enter Tryz.func34, Tryz.ntmps34
  go_wp2_with fail
  rw [hW0.out]
  clear hW0
  refine (hD.out _ h0.out.2).mono ?_
  rintro e w1 ⟨rfl, hb⟩
  have h1 := Lib.hid (box_step h0.out hb)
  clear p0 p1 p2 p3 h0 hb hD
  obtain ⟨p0, p1, p2, p3⟩ := box_cells h1.out.1
  by_cases c1 : d = 0
  case neg =>
    have e1 : R = ([], d) := by rw [← hR.out, if_pos c1]
    subst e1
    have e2 : (d == 0) = false := beq_eq_false_iff_ne.2 c1
    have e3 : (d != 0) = true := by simp [c1]
    go_wp2_with fail
    refine bodyPost_ret (v := .tuple #[.string ⟨#[]⟩, .int .i64 d]) (by simp [results, Tryz.results34, go_sem]) rfl ⟨rfl, h1.out.2⟩
  subst c1
  replace hR := Lib.hid (by have := hR.out; rwa [if_neg (by simp)] at this)
  have hlt := h1.out.1.lt
  have hwr := Lib.hid (hF.out w1 h1.out.2 rfl)
  clear hF
  go_wp2_with fail
  refine hwr.out.mono ?_
  rintro e w2 ⟨rfl, hBd, hWr⟩
  have hbel : Below w.heap.size w w2 := below_wr (h1.out.2.alloc h1.out.2.size _) hWr h1.out.2.size (nobuf_made w1)
  have hlib := bd_lib hBd hWr (nobuf_made w1) (by simp)
  have hlen := Lib.hid (Tryz.Builder_Len w1.heap.size w1.heap.size _ w2 hlib)
  have hsz : w1.heap.size ≤ w2.heap.size := Nat.le_of_lt hBd.lt
  have hstr := Lib.hid (Tryz.Builder_String_any w1.heap.size w1.heap.size T w2 hlib hsz)
  have hws : w.heap.size ≤ w1.heap.size := h1.out.2.size
  rw [Lib.byteCells_length] at hlen
  replace hbel := Lib.hid hbel
  clear hwr hBd hWr hlib p0 p1 p2 p3 h1
  go_wp2_with fail
  refine hlen.out.mono ?_
  rintro e w3 ⟨rfl, rfl⟩
  clear hlen
  by_cases c2 : 262144 < T.length
  · have e1 : R = ([], 40) := by rw [← hR.out, if_pos c2]
    subst e1
    have c3 : (262144 : Int) < (T.length : Int) := by omega
    clear c2 hR hstr
    go_wp2_with fail
    refine bodyPost_ret (v := .tuple #[.string ⟨#[]⟩, .int .i64 40]) (by simp [results, Tryz.results34, go_sem]) rfl ⟨rfl, hbel.out⟩
  · have e1 : R = (T, 0) := by rw [← hR.out, if_neg c2]
    subst e1
    have c3 : ¬ (262144 : Int) < (T.length : Int) := by omega
    clear c2 hR
    go_wp2_with fail
    refine hstr.out.mono ?_
    rintro e w4 ⟨rfl, hb⟩
    have hfin := Lib.hid (hbel.out.trans (hb.mono hws))
    obtain ⟨S, hS⟩ : ∃ S : ByteArray, ⟨T.toArray⟩ = S := ⟨_, rfl⟩
    dsimp only
    rw [hS]
    clear hstr hb hbel
    replace hS := Lib.hid hS
    go_wp2_with fail
    refine bodyPost_ret (v := .tuple #[.string S, .int .i64 0]) (by simp [results, Tryz.results34, go_sem]) rfl ⟨by rw [← hS.out], hfin.out⟩
theorem But.grow {b : Nat} {w w' : World} (h : But w.heap.size b w w') : w.grownBy w' (some b) := ⟨h.os, h.tape, h.output, h.size, fun k hk hn => h.block k hk (fun e => hn (by rw [e]))⟩
theorem BD.but {b bb : Nat} {w w' : World} {l : List UInt8} (h : BD w bb l) (hb : But w.heap.size b w w') (hne : b ≠ bb) (hnb : ¬ IsBuf w bb b) : BD w' bb l := by
  obtain ⟨p, v, hp, h0⟩ := h
  have hv : v.ownBlock ≠ some b := fun e => hnb (h0.isBuf.2 e)
  exact ⟨p, v, hp, (hb.block bb h0.lt (Ne.symm hne)).trans h0.1, World.ownsRow.kept h0.2.1 hb.grow (Or.inr hv), h0.2.2⟩
def OB (B : Nat) (w : World) (bb : Nat) (l : List UInt8) : Prop := BD w bb l ∧ B ≤ bb ∧ (∀ k, IsBuf w bb k → B ≤ k) ∧ (l = [] → w.cell? ⟨bb, 1, none⟩ = some (.slice none 0 0))
theorem OB.made {B : Nat} {w : World} (hB : B ≤ w.heap.size) : OB B (w.alloc (.cells #[.pointer none, .slice none 0 0] 116)) w.heap.size [] :=
  ⟨bd_made w, hB, fun k hk => absurd hk (nobuf_made w k), fun _ => (Cel.fresh w 116 #[.pointer none, .slice none 0 0]).cell 1⟩
theorem OB.wr {B bb : Nat} {w w' : World} {l l' : List UInt8} (h : OB B w bb l) (hE : WrEnd bb l' w w') (hl : l' ≠ []) : OB B w' bb l' ∧ Below B w w' := by
  obtain ⟨h1, h2, h3, _⟩ := h
  obtain ⟨q1, q2⟩ := hE
  have hBs : B ≤ w.heap.size := Nat.le_trans h2 (Nat.le_of_lt h1.lt)
  refine ⟨⟨q1, h2, fun k hk => (q2.buf k hk).elim (fun e => Nat.le_trans hBs e) (h3 k), fun e => absurd e hl⟩, q2.os, q2.tape, q2.output, q2.size, fun k hk => q2.block k (Nat.lt_of_lt_of_le hk hBs) (by omega) (fun hb => by have := h3 k hb; omega)⟩
theorem OB.but {B b bb : Nat} {w w' : World} {l : List UInt8} (h : OB B w bb l) (hb : But w.heap.size b w w') (hlt : b < B) : OB B w' bb l := by
  obtain ⟨h1, h2, h3, h4⟩ := h
  have hnb : ¬ IsBuf w bb b := fun e => by have := h3 b e; omega
  have hne : b ≠ bb := by omega
  have hc : w'.cell? ⟨bb, 1, none⟩ = w.cell? ⟨bb, 1, none⟩ := hb.cell (p := ⟨bb, 1, none⟩) h1.lt (Ne.symm hne)
  exact ⟨h1.but hb hne hnb, h2, fun k ⟨n, c, e⟩ => h3 k ⟨n, c, hc ▸ e⟩, fun e => hc.trans (h4 e)⟩
theorem RJ.bel {B b it : Nat} {w w' : World} {s : List UInt8} (h : RJ w b s it) (hb : Below B w w') (hlt : b < B) : RJ w' b s it := Cel.below h hb hlt
def BS (B : Nat) (w : World) (bb : Nat) (l : List UInt8) : Prop := bb < w.heap.size ∧ B ≤ bb ∧ ((l = [] ∧ w.cell? ⟨bb, 1, none⟩ = some (.slice none 0 0)) ∨
  (l ≠ [] ∧ ∃ (g cap : Nat) (cur : Array Value) (fz : Nat × Nat), B ≤ g ∧ g ≠ bb ∧ w.cell? ⟨bb, 1, none⟩ = some (.slice (some ⟨g, 0, none⟩) l.length cap) ∧ w.heap[g]? = some (.cells cur 5 fz) ∧ l.length ≤ cap ∧ l.length ≤ cur.size ∧ ∀ (j : Nat) (x : UInt8), l[j]? = some x → cur[j]? = some (.int .u8 x.toNat)))
theorem OB.bs {B bb : Nat} {w : World} {l : List UInt8} (h : OB B w bb l) : BS B w bb l := by
  obtain ⟨h1, h2, h3, h4⟩ := h
  refine ⟨h1.lt, h2, ?_⟩
  by_cases hl : l = []
  · exact .inl ⟨hl, h4 hl⟩
  · refine .inr ⟨hl, ?_⟩
    obtain ⟨p, v, hp, h0⟩ := h1
    have hv := h0.cell1
    rcases h0.2.1.2 with ⟨rfl, hn⟩ | ⟨g, cap, cur, rfl, _, hg, hc1, hc2, hcs, htk⟩
    · exact absurd (List.eq_nil_of_length_eq_zero hn) hl
    · refine ⟨g, cap, cur, (0, 0), h3 g ⟨_, _, hv⟩, fun e => h0.2.2 (by rw [← e]; rfl), hv, hg, hc1, by omega, fun j x hx => ?_⟩
      have hj : j < l.length := (List.getElem?_eq_some_iff.1 hx).1
      have h5 : (cur.toList.take (l.length * 1))[j]? = (l.map fun b => Value.int .u8 b.toNat)[j]? := by rw [htk]
      rw [List.getElem?_take, if_pos (by omega), List.getElem?_map, hx, Array.getElem?_toList] at h5
      exact h5
theorem BS.bel {B bb : Nat} {w w' : World} {l : List UInt8} (h : BS B w bb l) (hb : Below w.heap.size w w') : BS B w' bb l := by
  obtain ⟨h1, h2, h3⟩ := h
  have hc : w'.cell? ⟨bb, 1, none⟩ = w.cell? ⟨bb, 1, none⟩ := hb.cell (p := ⟨bb, 1, none⟩) h1
  refine ⟨Nat.lt_of_lt_of_le h1 hb.size, h2, ?_⟩
  rcases h3 with ⟨e, h4⟩ | ⟨e, g, cap, cur, fz, q1, q2, q3, q4, q5⟩
  · exact .inl ⟨e, hc.trans h4⟩
  · exact .inr ⟨e, g, cap, cur, fz, q1, q2, hc.trans q3, (hb.block g (Array.getElem?_eq_some_iff.1 q4).1).trans q4, q5⟩
set_option maxRecDepth 100000 in
set_option maxHeartbeats 1000000 in
theorem bdStr1 (b g n cap : Nat) (l : List UInt8) (w : World) (hl : l ≠ []) (hb1 : w.cell? ⟨b, 1, none⟩ = some (.slice (some ⟨g, 0, none⟩) l.length cap)) (hcap : l.length ≤ cap) (hsh : w.shape? g = some (5, n)) (hn : l.length ≤ n) (hlim : l.length ≤ 140737488355328) (hcell : ∀ j x, l[j]? = some x → w.cell? ⟨g, j, none⟩ = some (.int .u8 x.toNat)) :
    Calls Tryz.prog 73 #[.pointer (some ⟨b, 0, none⟩)] w fun e w' => e = .returned (.string ⟨l.toArray⟩) ∧ w' = w.drew.freeze ⟨g, 0, none⟩ l.length := by
  have hl0 : l.length ≠ 0 := by simpa using hl
  have c1 : w.drew.cell? ⟨b, 1, none⟩ = some (.slice (some ⟨g, 0, none⟩) l.length cap) := hb1
  have hSD : (Builtin.unsafeSliceData_ #[108] 151 #[.slice (some ⟨g, 0, none⟩) l.length cap]).run Tryz.prog w.drew = .ok (.pointer (some ⟨g, 0, none⟩)) w.drew :=
    Lib.run_unsafeSliceData_row _ _ _ _ _ _ (by omega)
  have hUS : (Builtin.unsafeString_ #[151, 3] 9 #[.pointer (some ⟨g, 0, none⟩), .int .i64 l.length]).run Tryz.prog w.drew = .ok (.string ⟨l.toArray⟩) (w.drew.freeze ⟨g, 0, none⟩ l.length) :=
    Lib.run_unsafeString_row w.drew 151 3 9 5 Tryz.underlying151 (by kernel_rfl) g n hsh l hl hn (by omega) fun j x hx => by
      rw [Addr.add_mid, Nat.zero_add]
      exact hcell j x hx
  have mixed : Tryz.prog.follows .mixedOrders = true := by kernel_rfl
  go_enter Tryz.func73, Tryz.ntmps73
  go_wp2
  go_region_o
  all_goals (go_wp2; go_ret; exact ⟨rfl, rfl⟩)
set_option maxRecDepth 100000 in
set_option maxHeartbeats 1000000 in
theorem bdStr0 (b : Nat) (w : World) (hb1 : w.cell? ⟨b, 1, none⟩ = some (.slice none 0 0)) :
    Calls Tryz.prog 73 #[.pointer (some ⟨b, 0, none⟩)] w fun e w' => e = .returned (.string ⟨#[]⟩) ∧ w' = w.drew := by
  have c1 : w.drew.cell? ⟨b, 1, none⟩ = some (.slice none 0 0) := hb1
  have hSD : (Builtin.unsafeSliceData_ #[108] 151 #[.slice none 0 0]).run Tryz.prog w.drew = .ok (.pointer none) w.drew := rfl
  have hUS := fun q => Lib.run_unsafeString_none (P := Tryz.prog) w.drew 151 3 9 q
  have mixed : Tryz.prog.follows .mixedOrders = true := by kernel_rfl
  go_enter Tryz.func73, Tryz.ntmps73
  go_wp2
  go_region_o
  all_goals (go_wp2; go_ret; exact ⟨rfl, rfl⟩)
theorem bsString_any (B bb : Nat) (l : List UInt8) (w : World) (h : BS B w bb l) (hl : l.length ≤ 140737488355328) : Calls Tryz.prog 73 #[.pointer (some ⟨bb, 0, none⟩)] w fun e w' => e = .returned (.string (ofL l)) ∧ BS B w' bb l ∧ Below B w w' := by
  obtain ⟨h1, h2, h3⟩ := h
  rcases h3 with ⟨rfl, h4⟩ | ⟨hne, g, cap, cur, fz, q1, q2, q3, q4, q5, q6, q7⟩
  · refine (bdStr0 bb w h4).mono ?_
    rintro e w' ⟨rfl, rfl⟩
    exact ⟨rfl, ⟨h1, h2, .inl ⟨rfl, h4⟩⟩, bel_drewN (Below.refl _ _) 1⟩
  · refine (bdStr1 bb g cur.size cap l w hne q3 q5 (by unfold World.shape?; rw [q4]) q6 hl (fun j x hx => by unfold World.cell?; rw [q4]; exact q7 j x hx)).mono ?_
    rintro e w' ⟨rfl, rfl⟩
    have hb : Below B w (w.drew.freeze ⟨g, 0, none⟩ l.length) := Lib.below_freeze (bel_drewN (Below.refl _ _) 1) q1 _
    have hl0 : l.length ≠ 0 := by simpa using hne
    have hoth : ∀ k, k ≠ g → (w.drew.freeze ⟨g, 0, none⟩ l.length).heap[k]? = w.heap[k]? := fun k hk => by
      unfold World.freeze
      rw [if_neg hl0]
      show (w.heap.modify g _)[k]? = _
      rw [Array.getElem?_modify, if_neg (fun e => hk e.symm)]
    have hat : ∃ fz', (w.drew.freeze ⟨g, 0, none⟩ l.length).heap[g]? = some (.cells cur 5 fz') := by
      unfold World.freeze
      rw [if_neg hl0]
      obtain ⟨lo, hi⟩ := fz
      exact ⟨_, by show (w.heap.modify g _)[g]? = _; rw [Array.getElem?_modify, if_pos rfl, q4]; first | done | rfl⟩
    obtain ⟨fz', hat⟩ := hat
    have hc : (w.drew.freeze ⟨g, 0, none⟩ l.length).cell? ⟨bb, 1, none⟩ = w.cell? ⟨bb, 1, none⟩ := World.cell?_of_block (w := w) (hoth bb (Ne.symm q2))
    exact ⟨rfl, ⟨Nat.lt_of_lt_of_le h1 hb.size, h2, .inr ⟨hne, g, cap, cur, fz', q1, q2, hc.trans q3, hat, q5, q6, q7⟩⟩, hb⟩
end Go.Proofs.YtdjfoabinjfnfaaGreatDoor
namespace Go.Proofs.YtdjfoabinjfnfaaGreatDoor
theorem hexL_take : ∀ (L : List UInt8) (n m : Nat), hexL n L = some m → ∀ c ∈ L, (jhl c).isSome = true
  | [], _, _, _, c, hc => by cases hc
  | x :: r, n, m, h, c, hc => by
    unfold hexL at h
    split at h
    · cases h
    · rename_i k hk
      rcases List.mem_cons.1 hc with rfl | hc
      · rw [hk]; rfl
      · exact hexL_take r _ _ h c hc
theorem hexL_all : ∀ (L : List UInt8) (n : Nat), (∀ c ∈ L, (jhl c).isSome = true) → ∃ m, hexL n L = some m
  | [], n, _ => ⟨n, rfl⟩
  | x :: r, n, h => by
    obtain ⟨k, hk⟩ := Option.isSome_iff_exists.1 (h x List.mem_cons_self)
    unfold hexL
    rw [hk]
    exact hexL_all r _ fun c hc => h c (List.mem_cons_of_mem _ hc)
theorem hexV_low : ∀ (l : List UInt8) (n m : Nat), hexV n l = some m → ∀ c ∈ l, c.toNat < 128
  | [], _, _, _, c, hc => by cases hc
  | x :: r, n, m, h, c, hc => by
    unfold hexV at h
    split at h
    · cases h
    · rename_i k hk
      rcases List.mem_cons.1 hc with rfl | hc
      · unfold jhv at hk
        split at hk
        · omega
        · split at hk
          · omega
          · split at hk
            · omega
            · cases hk
      · exact hexV_low r _ _ h c hc
theorem lower_len {l : List UInt8} (h : ∀ c ∈ Lib.toLowerD l, (jhl c).isSome = true) : (Lib.toLowerD l).length = l.length := by
  obtain ⟨m, hm⟩ := hexL_all _ 0 h
  rw [lower_hex l.length l 0 (Nat.le_refl _)] at hm
  rw [Lib.toLowerD_ascii l (hexV_low l 0 m hm)]
  unfold Lib.toLowerA
  simp
theorem jhl_lt {c : UInt8} {k : Nat} (h : jhl c = some k) : k < 16 := by
  unfold jhl at h
  split at h
  · injection h with h; omega
  · split at h
    · injection h with h; omega
    · cases h
theorem hex_ix : ∀ n : Fin 256, Lib.indexByte [48, 49, 50, 51, 52, 53, 54, 55, 56, 57, 97, 98, 99, 100, 101, 102] (UInt8.ofNat n.val) = (match jhl (UInt8.ofNat n.val) with | some k => (k : Int) | none => -1) := by decide +kernel
theorem hexL_step {L : List UInt8} {q n : Nat} (hq : q < L.length) {k : Nat} (hk : jhl L[q] = some k) : hexL n (L.drop q) = hexL (n * 16 + k) (L.drop (q + 1)) := by
  rw [List.drop_eq_getElem_cons hq]
  conv => lhs; unfold hexL
  rw [hk]
def HexAt (L : List UInt8) (q : Nat) (v : Int) : Prop := (∀ c ∈ L.take q, (jhl c).isSome = true) ∧ (q ≤ 4 → ∃ n : Nat, v = n ∧ hexL 0 L = hexL n (L.drop q) ∧ n < 16 ^ q)
theorem HexAt.start (L : List UInt8) : HexAt L 0 0 := ⟨fun c hc => by simp at hc, fun _ => ⟨0, rfl, by simp, by simp⟩⟩
theorem HexAt.step {L : List UInt8} {q : Nat} {v v' : Int} {k : Nat} (h : HexAt L q v) (hq : q < L.length) (hk : jhl L[q] = some k) (hv : q < 4 → 0 ≤ v → v < 65536 → v' = v * 16 + k) : HexAt L (q + 1) v' := by
  refine ⟨fun c hc => ?_, fun h4 => ?_⟩
  · rw [List.take_add_one, List.getElem?_eq_getElem hq] at hc
    rcases List.mem_append.1 hc with hc | hc
    · exact h.1 c hc
    · simp at hc; subst hc; rw [hk]; rfl
  · obtain ⟨n, h1, h2, h3⟩ := h.2 (by omega)
    have h5 : 16 ^ q ≤ 16 ^ 3 := Nat.pow_le_pow_right (by omega) (by omega)
    have h6 : (16 : Nat) ^ 3 = 4096 := by decide
    refine ⟨n * 16 + k, ?_, ?_, ?_⟩
    · rw [hv (by omega) (by omega) (by omega), h1]; omega
    · rw [h2, hexL_step hq hk]
    · have := jhl_lt hk
      rw [Nat.pow_succ]; omega
theorem enc_le4 (z : Int) : (Lib.encodeRune z).length ≤ 4 := by
  unfold Lib.encodeRune Lib.encodeRuneZ
  rw [List.length_map]
  repeat' split
  all_goals simp
theorem mapD_le4 (f : Int → Int) : ∀ (n : Nat) (l : List UInt8), l.length ≤ n → (Lib.mapD f l).length ≤ 4 * l.length
  | 0, l, hn => by
    have : l = [] := List.eq_nil_of_length_eq_zero (by omega)
    subst this
    simp [Lib.mapD_nil]
  | n + 1, l, hn => by
    by_cases hne : l = []
    · subst hne
      simp [Lib.mapD_nil]
    · have hw := Lib.decodeL_width l
      have hle := Lib.decodeL_le l hne
      have ih := mapD_le4 f n (l.drop (Lib.decodeL l).2) (by rw [List.length_drop]; omega)
      rw [List.length_drop] at ih
      rw [Lib.mapD_step f l hne, List.length_append]
      have hh : (if 0 ≤ f (Lib.decodeL l).1 then Lib.encodeRune (f (Lib.decodeL l).1) else []).length ≤ 4 := by
        split
        · exact enc_le4 _
        · simp
      omega
theorem lower_le (l : List UInt8) : (Lib.toLowerD l).length ≤ 4 * l.length := mapD_le4 _ _ l (Nat.le_refl _)
end Go.Proofs.YtdjfoabinjfnfaaGreatDoor
namespace Go.Proofs.YtdjfoabinjfnfaaGreatDoor
open Go.RowKit
def EnvC (w : World) : Prop := EnvU w ∧ Lib.CaseVar 6 Lib.caseA w
theorem EnvC.below {w w' : World} (h : EnvC w) (hb : Below w.heap.size w w') : EnvC w' := ⟨h.1.below hb, Lib.CaseVar_below h.2 hb⟩
theorem EnvC.at {w w' : World} {B : Nat} (h : EnvC w) (hB : w.heap.size ≤ B) (hb : Below B w w') : EnvC w' := h.below (hb.mono hB)
theorem size_ofL (s : List UInt8) : (ofL s).size = s.length := by simp [ofL, ByteArray.size]
theorem of_bytes {a : ByteArray} {l : List UInt8} (h : a.data.toList = l) : a = ofL l := by subst h; exact (ofL_toList a).symm
theorem jxt_take (s : List UInt8) (k : Nat) : (ofL s).extract 0 k = ofL (s.take k) := of_bytes (by rw [Lib.extract_data, toList_ofL]; simp)
theorem jxt_drop (s : List UInt8) (k : Nat) : (ofL s).extract k (ofL s).size = ofL (s.drop k) := of_bytes (by rw [Lib.extract_to_end, toList_ofL])
theorem conv_bytes (W : World) (s : ByteArray) : ∃ (c : Nat) (W' : World), (convert 9 108 (.string s)).run Tryz.prog W = .ok (.slice (some ⟨W.heap.size, 0, none⟩) s.size c) W' ∧ s.size ≤ c ∧ (∀ (j : Nat) (x : UInt8), s.data.toList[j]? = some x → W'.cell? ⟨W.heap.size, j, none⟩ = some (.int .u8 x.toNat)) ∧ Below W.heap.size W W' :=
  ⟨grownCap W s.size 0 5, Lib.bytesWorld W 5 s, Lib.run_convert_string_bytes (P := Tryz.prog) W 9 108 5 s Tryz.underlying9 Tryz.underlying108 Tryz.underlying5, grownCap_ge _ _ _ _, fun j x hx => by
    have hj : j < s.size := by
      have := (List.getElem?_eq_some_iff.1 hx).1
      rwa [bytes_len] at this
    rw [Lib.bytesWorld_cell W _ s j hj]
    simp [List.getD, hx], Lib.bytesWorld_below _ _ _⟩
def UnitEnd (b it : Nat) (w : World) (R : Option (Nat × List UInt8)) (e : Ending) (w' : World) : Prop := But w.heap.size b w w' ∧ (match R with | none => e = Pan 4 | some (n, r) => e = .returned (.int .i64 (n : Int)) ∧ RJ w' b r it)
set_option maxRecDepth 100000 in
set_option maxHeartbeats 4000000 in
theorem jrUnit_any (b : Nat) (s : List UInt8) (it : Nat) (w : World) (hE : EnvC w) (h : RJ w b s it) :
    Calls Tryz.prog 171 #[.pointer (some ⟨b, 0, none⟩)] w (UnitEnd b it w (junit s)) := by
  have p0 := Cel.cell h 0
  simp only [List.getElem?_toArray, List.getElem?_cons_zero] at p0
  have hlt := h.lt
  by_cases hs : s.length < 4
  · rw [junit_short hs]
    obtain ⟨S, hS⟩ : ∃ S, ofL s = S := ⟨_, rfl⟩
    have hz : S.size < 4 := by rw [← hS, size_ofL]; exact hs
    have hzi : (S.size : Int) < 4 := by omega
    rw [hS] at p0
    clear hS hs hE h hz
    go_enter Tryz.func171, Tryz.ntmps171
    go_wp2_with fail
    refine (jrFail_any 4 _).mono ?_
    rintro e w1 ⟨rfl, rfl⟩
    exact ⟨rfl, But.refl _ _ _, rfl⟩
  · rw [junit_lower (by omega)]
    have hT := Tryz.strings_ToLower_any (ofL (s.take 4)) w (by rw [size_ofL]; simp; omega) hE.2 hE.1.2
    rw [toList_ofL] at hT
    obtain ⟨L, hL⟩ : ∃ L, Lib.toLowerD (s.take 4) = L := ⟨_, rfl⟩
    have hlen : (∀ c ∈ L, (jhl c).isSome = true) → L.length = 4 := by
      intro hh
      rw [← hL] at hh ⊢
      rw [lower_len hh]; simp; omega
    rw [hL] at hT ⊢
    obtain ⟨R, hR0⟩ : ∃ R, hexL 0 L = R := ⟨_, rfl⟩
    rw [hR0]
    replace hR0 := Lib.hid hR0
    have hLb : L.length ≤ 16 := by rw [← hL]; have := lower_le (s.take 4); simp at this; omega
    obtain ⟨SL, hSL⟩ : ∃ SL : ByteArray, ⟨L.toArray⟩ = SL := ⟨_, rfl⟩
    have hSLl : SL.data.toList = L := by rw [← hSL]
    have hSLz : SL.size = L.length := by rw [← hSL]; simp [ByteArray.size]
    rw [hSL] at hT
    have hx4 := jxt_take s 4
    have hx5 := jxt_drop s 4
    have hz : ¬ (ofL s).size < 4 := by rw [size_ofL]; exact hs
    obtain ⟨S, hS⟩ : ∃ S, ofL s = S := ⟨_, rfl⟩
    obtain ⟨S4, hS4⟩ : ∃ S4, ofL (s.take 4) = S4 := ⟨_, rfl⟩
    obtain ⟨S5, hS5⟩ : ∃ S5, ofL (s.drop 4) = S5 := ⟨_, rfl⟩
    rw [hS, hS4] at hx4
    rw [hS, hS5] at hx5
    rw [hS] at p0 hz
    rw [hS4] at hT
    have hzi : ¬ (S.size : Int) < 4 := by omega
    have hzj : (4 : Int) ≤ (S.size : Int) := by omega
    replace hS5 := Lib.hid hS5
    replace hS := Lib.hid hS
    replace hT := Lib.hid hT
    replace h := Lib.hid h
    replace hlen := Lib.hid hlen
    clear hs hE hL hSL hS4
    go_enter Tryz.func171, Tryz.ntmps171
    go_wp2_with fail
    refine hT.out.mono ?_
    rintro e w1 ⟨rfl, hb⟩
    obtain ⟨cc, W, hrun, hcc, hcell, hbW⟩ := conv_bytes w1 SL
    have hB : Below w.heap.size w W := hb.trans (hbW.mono hb.size)
    have hR := h.out.below hB
    have q0 := Cel.cell hR 0
    have f0 := Cel.froz hR 0
    simp only [List.getElem?_toArray, List.getElem?_cons_zero] at q0
    rw [hSLl] at hcell
    rw [hS.out] at q0
    clear hT p0 hb hbW h hSLl hlt
    replace hB := Lib.hid hB
    replace hR := Lib.hid hR
    replace hcell := Lib.hid hcell
    go_wp2_with fail
    go_loopw [3, 22] (fun n i wr => ∃ (q : Nat) (v : Int), q ≤ L.length ∧ n = .int .i64 v ∧ i = .int .i64 q ∧ HexAt L q v ∧ wr = W) (fun _ i _ => L.length - (intOf i).toNat)
    case atStart => exact ⟨0, 0, Nat.zero_le _, rfl, rfl, HexAt.start L, rfl⟩
    case round =>
      obtain ⟨q, v, hq, rfl, rfl, hAt, rfl⟩ := hrel
      by_cases hlt : q < L.length
      · have hc := hcell.out q L[q] (List.getElem?_eq_getElem hlt)
        have hbd := L[q].toNat_lt
        have hix := hex_ix ⟨L[q].toNat, hbd⟩
        rw [UInt8.ofNat_toNat] at hix
        obtain ⟨c, hcc2⟩ : ∃ c : Int, (L[q].toNat : Int) = c := ⟨_, rfl⟩
        have hI := Tryz.strings_IndexByte ⟨#[48, 49, 50, 51, 52, 53, 54, 55, 56, 57, 97, 98, 99, 100, 101, 102]⟩ c wr
        have he : c.toNat.toUInt8 = L[q] := by rw [← hcc2]; simp
        have hx : (⟨#[48, 49, 50, 51, 52, 53, 54, 55, 56, 57, 97, 98, 99, 100, 101, 102]⟩ : ByteArray).data.toList = [48, 49, 50, 51, 52, 53, 54, 55, 56, 57, 97, 98, 99, 100, 101, 102] := rfl
        rw [hx, he, hix] at hI
        rw [hcc2] at hc
        have hq0 : (0 : Int) ≤ (q : Int) := by omega
        have hq1 : (q : Int) < (L.length : Int) := by omega
        have hq2 : (q : Int) < (SL.size : Int) := by omega
        rcases hj : jhl L[q] with _ | k
        · rw [hj] at hI
          have hnone : hexL 0 L = none := by
            cases hh : hexL 0 L with
            | none => rfl
            | some m => have := hexL_take L 0 m hh L[q] (List.getElem_mem hlt); rw [hj] at this; cases this
          rw [hR0.out] at hnone
          subst hnone
          dsimp only at hI
          clear hj hx hix hcell hAt hlen hS5 hx5 hR0 he hcc2 hbd
          replace hI := Lib.hid hI
          go_wp2_with fail
          refine hI.out.mono ?_
          rintro e w2 ⟨rfl, rfl⟩
          clear hI
          go_wp2_with fail
          refine (jrFail_any 4 _).mono ?_
          rintro e w3 ⟨rfl, rfl⟩
          exact ⟨rfl, But.of hB.out, rfl⟩
        · rw [hj] at hI
          dsimp only at hI
          have hk := jhl_lt hj
          have hstep : ∀ v', (q < 4 → 0 ≤ v → v < 65536 → v' = v * 16 + (k : Int)) → HexAt L (q + 1) v' := fun v' h => hAt.step hlt hj h
          obtain ⟨kk, hkk⟩ : ∃ kk : Int, (k : Int) = kk := ⟨_, rfl⟩
          rw [hkk] at hI hstep
          have hk0 : ¬ kk < 0 := by omega
          have hk1 : kk < 16 := by omega
          clear hj hx hix hAt hlen hS5 hx5 hR0 he hcc2 hbd hkk hk
          replace hI := Lib.hid hI
          replace hstep := Lib.hid hstep
          go_wp2_with fail
          refine hI.out.mono ?_
          rintro e w2 ⟨rfl, rfl⟩
          clear hI
          go_wp2_with fail
          go_roundw
          case rel => exact ⟨q + 1, _, by omega, rfl, by go_num, hstep.out _ (fun h1 h2 h3 => by
            have e1 : wrap64 (v * 16) = v * 16 := by unfold wrap64; omega
            rw [e1]
            unfold wrap64; omega), by first | rfl | trivial⟩
          case measure => simp [intOf]; omega
      · have hfull : ∀ c ∈ L, (jhl c).isSome = true := fun c hc => hAt.1 c (by rw [List.take_of_length_le (by omega)]; exact hc)
        have h4 := hlen.out hfull
        obtain ⟨n, hn1, hn2, _⟩ := hAt.2 (by omega)
        rw [hR0.out, List.drop_eq_nil_of_le (by omega)] at hn2
        have hn3 : R = some n := hn2
        subst hn3
        subst hn1
        clear hfull h4 hn2 hAt hlen hR0 hcell
        go_wp2_with fail
        go_ret
        refine ⟨(But.of hB.out).trans (But.set0 _ |>.mono hB.out.size), ?_⟩
        show _ ∧ _
        refine ⟨rfl, ?_⟩
        rw [← hS5.out]
        exact hR.out.set
def EnvB (b : Nat) (w : World) : Prop := ∃ W0, EnvC W0 ∧ W0.heap.size ≤ b ∧ Below W0.heap.size W0 w
theorem EnvB.env {b : Nat} {w : World} (h : EnvB b w) : EnvC w := by
  obtain ⟨W0, h1, _, h3⟩ := h
  exact h1.below h3
theorem EnvB.but {b : Nat} {w w' : World} (h : EnvB b w) (hb : But w.heap.size b w w') : EnvB b w' := by
  obtain ⟨W0, h1, h2, h3⟩ := h
  exact ⟨W0, h1, h2, h3.trans (hb.below h2 h3.size)⟩
theorem EnvB.below {b : Nat} {w w' : World} (h : EnvB b w) (hb : Below w.heap.size w w') : EnvB b w' := h.but (But.of hb)
def EscEnd (b it : Nat) (w : World) (R : Option (List UInt8 × List UInt8)) (e : Ending) (w' : World) : Prop := But w.heap.size b w w' ∧ (match R with | none => e = Pan 4 | some (t, r) => e = .returned (.string (ofL t)) ∧ RJ w' b r it)
def mkOK (c : UInt8) : Bool := match jmark c with
  | some m => decide (0 ≤ Lib.indexByte [34, 92, 98, 102, 110, 114, 116] c) && decide (Lib.indexByte [34, 92, 98, 102, 110, 114, 116] c < 7) && decide (([34, 92, 8, 12, 10, 13, 9] : List UInt8).getD (Lib.indexByte [34, 92, 98, 102, 110, 114, 116] c).toNat 0 = m)
  | none => decide (Lib.indexByte [34, 92, 98, 102, 110, 114, 116] c = -1)
theorem mk_all : ∀ n : Fin 256, n.val ≠ 47 → mkOK (UInt8.ofNat n.val) = true := by decide +kernel
theorem mk_ext : ∀ k : Fin 7, (⟨#[34, 92, 8, 12, 10, 13, 9]⟩ : ByteArray).extract k.val (k.val + 1) = ofL [([34, 92, 8, 12, 10, 13, 9] : List UInt8).getD k.val 0] := by decide +kernel
theorem head_facts (c : UInt8) (r : List UInt8) : 0 < (ofL (c :: r)).size ∧ (∀ h : 0 < (ofL (c :: r)).size, (ofL (c :: r))[0] = c) ∧ (ofL (c :: r)).extract 1 (ofL (c :: r)).size = ofL r ∧ (ofL (c :: r)).toList.isEmpty = false :=
  ⟨by rw [size_ofL]; simp, fun _ => rfl, jxt_drop (c :: r) 1, by rw [Lib.toList_data, toList_ofL]; rfl⟩
set_option maxRecDepth 100000 in
set_option maxHeartbeats 4000000 in
theorem jrEscape_any (b : Nat) (s : List UInt8) (it : Nat) (w : World) (hE : EnvB b w) (h : RJ w b s it) :
    Calls Tryz.prog 149 #[.pointer (some ⟨b, 0, none⟩)] w (EscEnd b it w (jescape s)) := by
  have p0 := Cel.cell h 0
  simp only [List.getElem?_toArray, List.getElem?_cons_zero] at p0
  have f0 := Cel.froz h 0
  rcases s with _ | ⟨c, r⟩
  · have e1 : jescape [] = none := rfl
    rw [e1]
    have e2 : ofL [] = ByteArray.empty := rfl
    rw [e2] at p0
    clear hE h
    go_enter Tryz.func149, Tryz.ntmps149
    go_wp2_with fail
    refine (jrFail_any 4 _).mono ?_
    rintro e w1 ⟨rfl, rfl⟩
    exact ⟨rfl, But.refl _ _ _, rfl⟩
  · obtain ⟨g1, g2, g3, g4⟩ := head_facts c r
    rw [jescape_cons]
    obtain ⟨S, hS⟩ : ∃ S, ofL (c :: r) = S := ⟨_, rfl⟩
    obtain ⟨S1, hS1⟩ : ∃ S1, ofL r = S1 := ⟨_, rfl⟩
    rw [hS] at p0 g1 g2 g3 g4
    rw [hS1] at g3
    have g5 := g2 g1
    have hbd := c.toNat_lt
    obtain ⟨ci, hci⟩ : ∃ ci : Int, (c.toNat : Int) = ci := ⟨_, rfl⟩
    have g6 : (S[0].toNat : Int) = ci := by rw [g5]; exact hci
    have hw1 : RJ (w.setCell ⟨b, 0, none⟩ (.string S1)) b r it := by rw [← hS1]; exact h.set
    have hE1 : EnvB b (w.setCell ⟨b, 0, none⟩ (.string S1)) := hE.but (But.set0 _)
    have hsz : (1 : Int) ≤ (S.size : Int) := by omega
    clear g2 hE hS
    replace hS1 := Lib.hid hS1
    replace hw1 := Lib.hid hw1
    replace hE1 := Lib.hid hE1
    by_cases c47 : c = 47
    · have e1 : jmark c = some 47 := by rw [c47]; rfl
      rw [e1]
      have e2 : ci = 47 := by rw [← hci, c47]; rfl
      subst e2
      clear hci g5 c47 h hE1
      go_enter Tryz.func149, Tryz.ntmps149
      go_wp2_with fail
      go_ret
      exact ⟨But.set0 _, rfl, hw1.out⟩
    · have e2 : ¬ ci = 47 := by
        intro e
        apply c47
        rw [← hci] at e
        exact UInt8.toNat_inj.1 (by show c.toNat = 47; omega)
      have hm := mk_all ⟨c.toNat, hbd⟩ (fun e => c47 (UInt8.toNat_inj.1 e))
      rw [UInt8.ofNat_toNat] at hm
      have hI := Lib.hid (fun (W : World) => Tryz.strings_IndexByte ⟨#[34, 92, 98, 102, 110, 114, 116]⟩ ci W)
      have he : ci.toNat.toUInt8 = c := by rw [← hci]; simp
      have hx : (⟨#[34, 92, 98, 102, 110, 114, 116]⟩ : ByteArray).data.toList = [34, 92, 98, 102, 110, 114, 116] := rfl
      rw [hx, he] at hI
      unfold mkOK at hm
      rcases hj : jmark c with _ | m
      · rw [hj] at hm
        rw [of_decide_eq_true hm] at hI
        clear hm hj he hx g5 c47 h
        by_cases c117 : c = 117
        · rw [if_pos c117]
          have e3 : ci = 117 := by rw [← hci, c117]; rfl
          subst e3
          have hU := Lib.hid (jrUnit_any b r it _ hE1.out.env hw1.out)
          have hul := @junit_lt r
          obtain ⟨U, hUe⟩ : ∃ U, junit r = U := ⟨_, rfl⟩
          obtain ⟨R, hR⟩ : ∃ R, jescU r = R := ⟨_, rfl⟩
          rw [hR]
          unfold jescU at hR
          rw [hUe] at hU hul hR
          clear hci c117
          replace hR := Lib.hid hR
          go_enter Tryz.func149, Tryz.ntmps149
          go_wp2_with fail
          refine (hI.out _).mono ?_
          rintro e w1 ⟨rfl, rfl⟩
          clear hI
          go_wp2_with fail
          refine hU.out.mono ?_
          rintro e w2 ⟨hB2, hx⟩
          clear hU
          rcases U with _ | ⟨a, r1⟩
          · dsimp only at hx
            subst hx
            have e4 : R = none := hR.out.symm
            subst e4
            exact ⟨rfl, (But.set0 _).trans (hB2.mono (by simp)), rfl⟩
          · dsimp only at hx
            obtain ⟨rfl, hR2⟩ := hx
            have ha := (hul rfl).2
            replace hR := Lib.hid (show (if rput (a : Int) ≠ [] then some (rput (a : Int), r1) else _) = R from hR.out)
            have hE2 := Lib.hid (hE1.out.but hB2)
            have hB2' := Lib.hid (show But w.heap.size b w w2 from (But.set0 _).trans (hB2.mono (by simp)))
            clear hB2 hE1 hw1 hul p0 f0 g3 g4 g6 hS1
            replace hR2 := Lib.hid hR2
            go_wp2_with fail
            refine (utfPut_any a (by omega) (by omega) w2).mono ?_
            rintro e w3 ⟨rfl, rfl⟩
            obtain ⟨P, hP⟩ : ∃ P, rput (a : Int) = P := ⟨_, rfl⟩
            rw [hP] at hR ⊢
            by_cases hP0 : P = []
            · subst hP0
              have hR' := hR.out
              rw [if_neg (by simp)] at hR'
              have hM := jrMust_any b r1 it ⟨#[92, 117]⟩ w3 hR2.out
              have hx2 : (⟨#[92, 117]⟩ : ByteArray).data.toList = [92, 117] := rfl
              rw [hx2] at hM
              have hem : (ofL []).toList.isEmpty = true := by rw [Lib.toList_data, toList_ofL]; rfl
              by_cases hpre : ([92, 117] : List UInt8).isPrefixOf r1 = true
              · obtain ⟨r2, rfl⟩ : ∃ r2, r1 = 92 :: 117 :: r2 := by
                  obtain ⟨t, ht⟩ := List.isPrefixOf_iff_prefix.1 hpre
                  exact ⟨t, ht.symm⟩
                have hR'' : (match junit r2 with | none => none | some (b, r3) => match jpair a b with | none => none | some p => some (rput (p : Int), r3)) = R := hR'
                simp only [hpre, if_true, List.length_cons, List.length_nil, List.drop_succ_cons, List.drop_zero] at hM
                have hul2 := @junit_lt r2
                obtain ⟨V, hVe⟩ : ∃ V, junit r2 = V := ⟨_, rfl⟩
                have hU2 := fun (W : World) (hE : EnvB b W) (hW : RJ W b r2 it) => jrUnit_any b r2 it W hE.env hW
                rw [hVe] at hR'' hul2
                rw [hVe] at hU2
                replace hM := Lib.hid hM
                replace hU2 := Lib.hid hU2
                replace hR := Lib.hid hR''
                clear hP hR' hR'' hpre hVe hx2
                go_wp2_with fail
                refine hM.out.mono ?_
                rintro e w4 ⟨hB4, rfl, hR4⟩
                have hE4 := hE2.out.but hB4
                have hB4' := Lib.hid (hB2'.out.trans (hB4.mono hB2'.out.size))
                have hu2 := Lib.hid (hU2.out w4 hE4 hR4)
                clear hM hB4 hR4 hU2 hE2 hB2' hR2
                go_wp2_with fail
                refine hu2.out.mono ?_
                rintro e w5 ⟨hB5, hx⟩
                have hB5' := Lib.hid (hB4'.out.trans (hB5.mono hB4'.out.size))
                clear hu2 hB5 hB4' hE4
                rcases V with _ | ⟨d, r3⟩
                · dsimp only at hx
                  subst hx
                  have e4 : R = none := hR.out.symm
                  subst e4
                  exact ⟨rfl, hB5'.out, rfl⟩
                · dsimp only at hx
                  obtain ⟨rfl, hR5⟩ := hx
                  have hd := (hul2 rfl).2
                  replace hR5 := Lib.hid hR5
                  have hpr := utfPair_any a d ha hd w5
                  have hR6 : (match jpair a d with | none => none | some p => some (rput p, r3)) = R := hR.out
                  unfold pairV at hpr
                  rcases hjp : jpair a d with _ | p
                  · rw [hjp] at hpr hR6
                    dsimp only at hpr hR6
                    subst hR6
                    replace hpr := Lib.hid hpr
                    clear hR hul2 hjp
                    go_wp2_with fail
                    refine hpr.out.mono ?_
                    rintro e w6 ⟨rfl, rfl⟩
                    clear hpr
                    go_wp2_with fail
                    refine (jrFail_any 4 _).mono ?_
                    rintro e w7 ⟨rfl, rfl⟩
                    exact ⟨rfl, hB5'.out, rfl⟩
                  · rw [hjp] at hpr hR6
                    dsimp only at hpr hR6
                    subst hR6
                    have hpl : p < 2000000 := by
                      unfold jpair at hjp
                      split at hjp
                      · injection hjp with hjp; omega
                      · cases hjp
                    replace hpr := Lib.hid hpr
                    have hput := Lib.hid (utfPut_any p (by omega) (by omega) w5)
                    clear hR hul2 hjp
                    go_wp2_with fail
                    refine hpr.out.mono ?_
                    rintro e w6 ⟨rfl, rfl⟩
                    clear hpr
                    go_wp2_with fail
                    refine hput.out.mono ?_
                    rintro e w7 ⟨rfl, rfl⟩
                    clear hput
                    go_wp2_with fail
                    go_ret
                    exact ⟨hB5'.out, rfl, hR5.out⟩
              · simp only [if_neg hpre] at hM
                have e4 : R = none := by
                  rw [← hR']
                  split
                  · exact absurd rfl hpre
                  · rfl
                subst e4
                replace hM := Lib.hid hM
                clear hP hR' hpre hx2 hR
                go_wp2_with fail
                refine hM.out.mono ?_
                rintro e w4 ⟨hB4, rfl⟩
                exact ⟨rfl, hB2'.out.trans (hB4.mono hB2'.out.size), rfl⟩
            · have hR' := hR.out
              rw [if_pos hP0] at hR'
              subst hR'
              have hem : (ofL P).toList.isEmpty = false := by
                rw [Lib.toList_data, toList_ofL]
                cases P with
                | nil => exact absurd rfl hP0
                | cons _ _ => rfl
              clear hP hP0 hR
              go_wp2_with fail
              go_ret
              exact ⟨hB2'.out, rfl, hR2.out⟩
        · rw [if_neg c117]
          have e3 : (ci != 117) = true := by
            rw [← hci]
            have : c.toNat ≠ 117 := fun e => c117 (UInt8.toNat_inj.1 e)
            simpa using (by omega : (c.toNat : Int) ≠ 117)
          clear hE1 hci
          go_enter Tryz.func149, Tryz.ntmps149
          go_wp2_with fail
          refine (hI.out _).mono ?_
          rintro e w1 ⟨rfl, rfl⟩
          clear hI
          go_wp2_with fail
          refine (jrFail_any 4 _).mono ?_
          rintro e w1 ⟨rfl, rfl⟩
          exact ⟨rfl, But.set0 _, rfl⟩
      · rw [hj] at hm
        simp only [Bool.and_eq_true, decide_eq_true_eq] at hm
        obtain ⟨⟨m0, m1⟩, m2⟩ := hm
        obtain ⟨k, hk⟩ := Int.eq_ofNat_of_zero_le m0
        rw [hk] at hI m1 m2
        have hk7 : k < 7 := by omega
        have hext := mk_ext ⟨k, hk7⟩
        simp only [Int.toNat_natCast] at m2
        dsimp only at hext
        rw [m2] at hext
        have k0 : (0 : Int) ≤ (k : Int) := by omega
        have k1 : (k : Int) < 7 := m1
        clear m0 m1 m2 hk hj he hx hci g5 c47 h hE1 hk7
        go_enter Tryz.func149, Tryz.ntmps149
        go_wp2_with fail
        refine (hI.out _).mono ?_
        rintro e w1 ⟨rfl, rfl⟩
        clear hI
        go_wp2_with fail
        go_ret
        exact ⟨But.set0 _, rfl, hw1.out⟩
end Go.Proofs.YtdjfoabinjfnfaaGreatDoor
