/-
  The walk of json.Print.
-/
import Derived.Test.YtamcbgkppgdniaaGreatDoorJsBc
namespace Go.Proofs.YtamcbgkppgdniaaGreatDoor
open Go.RowKit

theorem bd_made (w : World) : BD (w.alloc (.cells #[.pointer none, .slice none 0 0] 130)) w.heap.size [] :=
  ⟨_, _, .inl rfl, Cel.fresh w 130 #[.pointer none, .slice none 0 0], ⟨rfl, .inl ⟨rfl, rfl⟩⟩, by simp [Value.ownBlock]⟩
theorem nobuf_made (w : World) (k : Nat) : ¬ IsBuf (w.alloc (.cells #[.pointer none, .slice none 0 0] 130)) w.heap.size k := by
  rintro ⟨n, c, e⟩
  have h := (Cel.fresh w 130 #[.pointer none, .slice none 0 0]).cell 1
  rw [h] at e
  simp at e
/-- A builder that was made behind B, and written since. -/
theorem bd_lib {W w : World} {b : Nat} {l : List UInt8} (h : BD w b l) (hW : Wr b W w) (hn : ∀ k, ¬ IsBuf W b k) (hb : b < W.heap.size) : Lib.IsBuilder 130 5 b b (Lib.byteCells l) w := by
  obtain ⟨p, v, hp, h1, h2, h3⟩ := h
  have hl : (Lib.byteCells l).length = l.length := Lib.byteCells_length l
  have h4 : Lib.BuilderAt 130 5 b b p (Lib.byteCells l) w := by
    refine ⟨Nat.le_refl _, v, h1, ?_, h3⟩
    rw [hl]
    refine ⟨h2.1, ?_⟩
    rcases h2.2 with h5 | ⟨g, cap, cur, rfl, _, r⟩
    · exact .inl h5
    · refine .inr ⟨g, cap, cur, rfl, ?_, r⟩
      have hB : BDv w b p (.slice (some ⟨g, 0, none⟩) l.length cap) l := ⟨h1, h2, h3⟩
      have := (hW.buf g (hB.isBuf.2 rfl)).resolve_right (hn g)
      omega
  rcases hp with rfl | rfl
  · exact .inl h4
  · exact .inr h4
theorem below_wr {w W w' : World} {b : Nat} (hB : Below w.heap.size w W) (hW : Wr b W w') (hb : w.heap.size ≤ b) (hn : ∀ k, ¬ IsBuf W b k) : Below w.heap.size w w' :=
  ⟨hW.os.trans hB.os, hW.tape.trans hB.tape, hW.output.trans hB.output, Nat.le_trans hB.size hW.size,
    fun k hk => (hW.block k (Nat.lt_of_lt_of_le hk hB.size) (by omega) (hn k)).trans (hB.block k hk)⟩

set_option maxRecDepth 20000 in
set_option maxHeartbeats 2000000 in
theorem jsnPrint_any (j : Jsn) (X : Nat → Prop) (w : World) (vn vl : Value) (hE : EnvU w) (hV : JV w X j vn vl) (hbk : jbulk j ≤ 1000000) :
    Calls Tryz.prog 48 #[.agg #[.int .u8 j.kind, .string j.text, vn, vl]] w fun e w' => e = .returned (.tuple #[.string ⟨(jprint ownL Lib.validD j).1.toArray⟩, .int .i64 (jprint ownL Lib.validD j).2]) ∧ Below w.heap.size w w' := by
  obtain ⟨W0, hW0⟩ : ∃ W0, w.alloc (.cells #[.int .u8 j.kind, .string j.text, vn, vl] 25) = W0 := ⟨_, rfl⟩
  have hB0 : Below w.heap.size w W0 := by rw [← hW0]; exact (Below.refl _ _).alloc (Nat.le_refl _) _
  have hC0 : Cel W0 w.heap.size 25 #[.int .u8 j.kind, .string j.text, vn, vl] := by rw [← hW0]; exact Cel.fresh _ _ _
  have hD := Lib.hid (fun (wr : World) (hB : Below w.heap.size w wr) => jsnCheck_any j X wr vn vl (hE.below hB) (hV.later hB) hbk)
  have hF := Lib.hid (fun (wr : World) (hB : Below w.heap.size w wr) (hg : jcheck ownL Lib.validD j = 0) =>
    jsnWrite_any ownL Lib.validD j wr.heap.size [] (fun k => X k ∧ k < w.heap.size) (wr.alloc (.cells #[.pointer none, .slice none 0 0] 130)) vn vl (bd_made wr)
      (((hV.more (Y := fun k => X k ∧ k < w.heap.size) (fun b h1 h2 => ⟨h1, h2⟩)).later hB).alloc _)
      (fun k hk => ⟨by have := hB.size; simp; omega, by have := hB.size; omega, nobuf_made wr k⟩) hbk (check_form hg) (by simp; omega))
  obtain ⟨R, hR⟩ : ∃ R, jprint ownL Lib.validD j = R := ⟨_, rfl⟩
  rw [hR]
  unfold jprint at hR
  obtain ⟨An, nn, cn, Al, nl, cl, rfl, rfl⟩ := hV.forms
  obtain ⟨k, s, n, l⟩ := j
  obtain ⟨d, hd⟩ : ∃ d, jcheck ownL Lib.validD ⟨k, s, n, l⟩ = d := ⟨_, rfl⟩
  obtain ⟨T, hT⟩ : ∃ T, jtext ⟨k, s, n, l⟩ = T := ⟨_, rfl⟩
  rw [hd] at hD hF hR
  rw [hT] at hF hR
  clear hd hT hV hE
  dsimp only at hW0 hC0 hD hF ⊢
  simp only [List.nil_append] at hF
  replace hR := Lib.hid hR
  have h0 := Lib.hid (And.intro hC0 hB0)
  obtain ⟨p0, p1, p2, p3⟩ := box_cells hC0
  replace hW0 := Lib.hid hW0
  clear hC0 hB0 hbk
  go_enter Tryz.func48, Tryz.ntmps48
  go_wp2_with fail
  rw [hW0.out]
  clear hW0
  refine (hD.out _ h0.out.2).mono ?_
  rintro e w1 ⟨rfl, hb⟩
  have h1 := Lib.hid (box_step h0.out hb)
  clear p0 p1 p2 p3 h0 hb hD
  obtain ⟨p0, p1, p2, p3⟩ := box_cells h1.out.1
  by_cases c1 : d = 0
  case neg =>
    have e1 : R = ([], d) := by rw [← hR.out, if_pos c1]
    subst e1
    have e2 : (d == 0) = false := beq_eq_false_iff_ne.2 c1
    have e3 : (d != 0) = true := by simp [c1]
    go_wp2_with fail
    refine bodyPost_ret (v := .tuple #[.string ⟨#[]⟩, .int .i64 d]) (by simp [results, Tryz.results48, go_sem]) rfl ⟨rfl, h1.out.2⟩
  subst c1
  replace hR := Lib.hid (by have := hR.out; rwa [if_neg (by simp)] at this)
  have hlt := h1.out.1.lt
  have hwr := Lib.hid (hF.out w1 h1.out.2 rfl)
  clear hF
  go_wp2_with fail
  refine hwr.out.mono ?_
  rintro e w2 ⟨rfl, hBd, hWr⟩
  have hbel : Below w.heap.size w w2 := below_wr (h1.out.2.alloc h1.out.2.size _) hWr h1.out.2.size (nobuf_made w1)
  have hlib := bd_lib hBd hWr (nobuf_made w1) (by simp)
  have hlen := Lib.hid (Tryz.Builder_Len w1.heap.size w1.heap.size _ w2 hlib)
  have hsz : w1.heap.size ≤ w2.heap.size := Nat.le_of_lt hBd.lt
  have hstr := Lib.hid (Tryz.Builder_String_any w1.heap.size w1.heap.size T w2 hlib hsz)
  have hws : w.heap.size ≤ w1.heap.size := h1.out.2.size
  rw [Lib.byteCells_length] at hlen
  replace hbel := Lib.hid hbel
  clear hwr hBd hWr hlib p0 p1 p2 p3 h1
  go_wp2_with fail
  refine hlen.out.mono ?_
  rintro e w3 ⟨rfl, rfl⟩
  clear hlen
  by_cases c2 : 262144 < T.length
  · have e1 : R = ([], 40) := by rw [← hR.out, if_pos c2]
    subst e1
    have c3 : (262144 : Int) < (T.length : Int) := by omega
    clear c2 hR hstr
    go_wp2_with fail
    refine bodyPost_ret (v := .tuple #[.string ⟨#[]⟩, .int .i64 40]) (by simp [results, Tryz.results48, go_sem]) rfl ⟨rfl, hbel.out⟩
  · have e1 : R = (T, 0) := by rw [← hR.out, if_neg c2]
    subst e1
    have c3 : ¬ (262144 : Int) < (T.length : Int) := by omega
    clear c2 hR
    go_wp2_with fail
    refine hstr.out.mono ?_
    rintro e w4 ⟨rfl, hb⟩
    have hfin := Lib.hid (hbel.out.trans (hb.mono hws))
    obtain ⟨S, hS⟩ : ∃ S : ByteArray, ⟨T.toArray⟩ = S := ⟨_, rfl⟩
    dsimp only
    rw [hS]
    clear hstr hb hbel
    replace hS := Lib.hid hS
    go_wp2_with fail
    refine bodyPost_ret (v := .tuple #[.string S, .int .i64 0]) (by simp [results, Tryz.results48, go_sem]) rfl ⟨by rw [← hS.out], hfin.out⟩
end Go.Proofs.YtamcbgkppgdniaaGreatDoor
