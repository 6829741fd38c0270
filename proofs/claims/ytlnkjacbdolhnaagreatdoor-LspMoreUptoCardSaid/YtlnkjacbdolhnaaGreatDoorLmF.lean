/-
  The walk of lsp.changes.
-/
import Derived.Test.YtlnkjacbdolhnaaGreatDoorM28
import Derived.Test.YtlnkjacbdolhnaaGreatDoorM19
import Derived.Test.YtlnkjacbdolhnaaGreatDoorM13
namespace Go.Proofs.YtlnkjacbdolhnaaGreatDoor
open Go.RowKit

theorem chRow_snoc (l : List Ch) (c : Ch) : chRow (l ++ [c]) = chRow l ++ chCells c := by unfold chRow; simp
theorem infoCh : (Tryz.prog.info? 83).map (fun i => (i.zero, i.size, i.bytes)) = some (some (.agg #[.bool false, .int .i64 0, .int .i64 0, .int .i64 0, .int .i64 0, .string ByteArray.empty]), 6, 56) := by kernel_rfl
theorem chInfo : (Tryz.prog.info? 83).map (·.size) = some 6 := by kernel_rfl
theorem chDesc : ∃ d, Tryz.prog.underlying 83 = some d ∧ d.isRow = true := ⟨_, Tryz.underlying83, rfl⟩
/-- A change more in a row. -/
theorem rowCh_more {W : World} {B gs : Nat} {v : Value} {l : List Ch} (h : W.ownsRow B 83 6 v l.length (chRow l)) (hB : B ≤ W.heap.size) (c : Ch) (hc : Cel W gs 83 #[.bool c.whole, .int .i64 c.a, .int .i64 c.b, .int .i64 c.c, .int .i64 c.d, .string c.t]) (hn : l.length ≤ 1000000000000) :
    ∃ v' w4, (Builtin.append_ #[30, 30] 30 #[v, .slice (some ⟨gs, 0, none⟩) 1 1]).run Tryz.prog W = .ok v' w4 ∧ w4.ownsRow B 83 6 v' (l.length + 1) (chRow (l ++ [c])) ∧ W.grownBy w4 v.ownBlock := by
  obtain ⟨i0, hi0, hz0, hz1, hz2⟩ := info_parts infoCh
  obtain ⟨v', w4, hrun, r2, r3, _, r5⟩ := run_append_own_at (P := Tryz.prog) W B 30 30 83 i0 _ 6 56 Tryz.underlying30 hi0 hz0 hz1 hz2 rfl (by decide) v l.length (chRow l) h ⟨gs, 0, none⟩ 1 1 (chCells c) rfl
    (fun j u hu => by
      have hadd : (⟨gs, 0, none⟩ : Addr).add j = ⟨gs, j, none⟩ := by unfold Addr.add; split <;> simp_all
      rw [hadd, hc.cell]
      simpa [chCells] using hu)
    (fun u hu => by simp [chCells] at hu; rcases hu with rfl | rfl | rfl | rfl | rfl | rfl <;> rfl) (by unfold maxLen; omega) (by omega) hB
  exact ⟨v', w4, hrun, by rw [chRow_snoc]; exact r2, r3⟩
theorem chgs_cons (x : Jsn) (l : List Jsn) (acc : List Ch) : chgs (x :: l) acc = match oneCh x with | some c => chgs l (acc ++ [c]) | none => (false, acc) := rfl
/-- An element of a list that lies where nothing was turned. -/
theorem elem_at {w wr : World} {Y : Nat → Prop} {zs : List JE} {A : Option Addr} (h2 : ∀ z ∈ zs, JV w Y z.1 z.2.1 z.2.2)
    (h3 : 0 < zs.length → ∃ g o, A = some ⟨g, o, none⟩ ∧ Y g ∧ g < w.heap.size ∧ ∀ (j : Nat) z, zs[j]? = some z → ∀ (i : Nat) (u : Value), (encJ z)[i]? = some u → w.cell? ⟨g, o + j * 4 + i, none⟩ = some u)
    (hs : w.heap.size ≤ wr.heap.size) (hk : ∀ k, Y k → k < w.heap.size → wr.heap[k]? = w.heap[k]?) {i : Nat} {z : JE} (hz : zs[i]? = some z) :
    ∃ g o, A = some ⟨g, o, none⟩ ∧ JV wr Y z.1 z.2.1 z.2.2 ∧ wr.cell? ⟨g, o + i * 4, none⟩ = some (.int .u8 z.1.kind) ∧ wr.cell? ⟨g, o + i * 4 + 1, none⟩ = some (.string z.1.text) ∧ wr.cell? ⟨g, o + i * 4 + 2, none⟩ = some z.2.1 ∧ wr.cell? ⟨g, o + i * 4 + 3, none⟩ = some z.2.2 := by
  have hlt := (List.getElem?_eq_some_iff.1 hz).1
  obtain ⟨g, o, rfl, hY, hg, hc⟩ := h3 (by omega)
  have key : ∀ (j : Nat) u, (encJ z)[j]? = some u → wr.cell? ⟨g, o + i * 4 + j, none⟩ = some u := fun j u hu => (World.cell?_of_block (w := w) (a := ⟨g, o + i * 4 + j, none⟩) (hk g hY hg)).trans (hc i z hz j u hu)
  exact ⟨g, o, rfl, JV.keep hs (fun p h1 h2 => World.cell?_of_block (hk p.block h1 h2)) (fun _ h _ => h) _ (h2 z (List.mem_of_getElem? hz)), key 0 _ rfl, key 1 _ rfl, key 2 _ rfl, key 3 _ rfl⟩
set_option maxRecDepth 100000 in
set_option maxHeartbeats 8000000 in
theorem rChs_says : ReadSays 82 #[] rChs (fun _ => True) := by
  intro j X B b m w vn vl _ hV hbk hX hL h0 hbB hBw
  obtain ⟨A, n, c, A', n', c', rfl, rfl⟩ := hV.forms
  obtain ⟨Ai, ni, ci, Ai', ni', ci', hMm, hJi⟩ := hL.open0 h0
  obtain ⟨Y, hY⟩ : ∃ Y : Nat → Prop, (fun k => k < w.heap.size ∧ k ≠ b) = Y := ⟨_, rfl⟩
  have hVY : JV w Y j (.slice A n c) (.slice A' n' c') := by rw [← hY]; exact hV.more (fun k h1 h2 => ⟨h2, (hX k h1 h2).1⟩)
  have hYl : ∀ k, Y k → k < w.heap.size ∧ k ≠ b := fun k h => by rw [← hY] at h; exact h
  obtain ⟨w0, hw0⟩ : ∃ w0, w.alloc (.cells #[.int .u8 j.kind, .string j.text, .slice A n c, .slice A' n' c'] 25) = w0 := ⟨_, rfl⟩
  have hB0 : Below w.heap.size w w0 := by rw [← hw0]; exact (Below.refl _ _).alloc (Nat.le_refl _) _
  have hC1 : Cel w0 w.heap.size 25 #[.int .u8 j.kind, .string j.text, .slice A n c, .slice A' n' c'] := by rw [← hw0]; exact Cel.fresh _ _ _
  have hblt := hMm.lt
  have hm0 := Lib.hid (show Calls Tryz.prog 70 #[.agg #[.int .u8 j.kind, .string j.text, .slice A n c, .slice A' n' c'], .string ⟨#[99, 111, 110, 116, 101, 110, 116, 67, 104, 97, 110, 103, 101, 115]⟩] w0 (MemEnd (memJ j yContentChanges) Y w0) from lspMember_any j Y w0 _ _ _ (hVY.later hB0) hbk)
  have hlb : jbulk (memJ j yContentChanges) ≤ 1000000000000 := memJ_bulk _ _ hbk
  obtain ⟨R, hR⟩ : ∃ R, rChs j m = R := ⟨_, rfl⟩
  rw [hR]
  unfold rChs at hR
  obtain ⟨l, hl⟩ : ∃ l, memJ j yContentChanges = l := ⟨_, rfl⟩
  rw [hl] at hm0 hlb hR
  clear hl
  obtain ⟨a0, a1, a2, a3⟩ := hC1.d4
  have hId : ∀ W, But w.heap.size b w W → JV W X m.id (.slice Ai ni ci) (.slice Ai' ni' ci') := fun W h => hJi.but h (fun k h1 h2 => ⟨h2, (hX k h1 h2).1⟩)
  replace hR := Lib.hid hR
  replace hw0 := Lib.hid hw0
  replace hId := Lib.hid hId
  replace hB0 := Lib.hid hB0
  replace hMm := Lib.hid hMm
  clear hV hbk hL hJi hVY hC1 hX hY
  go_enter Tryz.func82, Tryz.ntmps82
  go_upto_region 1 with fail
  rw [hw0.out]
  clear hw0
  go_wp2_with fail
  refine hm0.out.mono ?_
  rintro e u1 ⟨un, ul, rfl, hJl, hu⟩
  obtain ⟨La, la, lc, Lb, lb, ld, rfl, rfl⟩ := hJl.forms
  obtain ⟨W2, hW2⟩ : ∃ W, u1.alloc (.cells #[.int .u8 l.kind, .string l.text, .slice La la lc, .slice Lb lb ld] 25) = W := ⟨_, rfl⟩
  have hb2 : Below u1.heap.size u1 W2 := by rw [← hW2]; exact (Below.refl _ _).alloc (Nat.le_refl _) _
  have hX5 : Cel W2 u1.heap.size 25 #[.int .u8 l.kind, .string l.text, .slice La la lc, .slice Lb lb ld] := by rw [← hW2]; exact Cel.fresh _ _ _
  have hBu := hB0.out.trans (hu.mono hB0.out.size)
  have hBW2 := hBu.trans (hb2.mono hBu.size)
  have hM2 := hMm.out.below hBW2 hMm.out.lt
  have hJ2 := hJl.later hb2
  obtain ⟨e0, e1, e2, e3⟩ := hX5.d4
  replace hW2 := Lib.hid hW2
  clear hm0 hu hb2 hB0 hMm hJl hX5 hBu
  by_cases hk6 : l.kind = 6
  case neg =>
    have hk1 : (l.kind == 6) = false := by simpa using hk6
    have hR2 := hR.out
    rw [if_neg hk6] at hR2
    subst hR2
    have hLf := Lib.hid (show LMem W2 X B b m from LMem.shut0 hM2 (hId.out _ (But.of hBW2)) h0)
    have hfin := Lib.hid (But.of (b := b) hBW2)
    replace hk6 := Lib.hid hk6
    clear hR hM2 hBW2 hJ2 h0 hlb hId
    go_upto_region 2 with fail
    rw [hW2.out]
    clear hW2 a0 a1 a2 a3
    go_wp2_with fail
    exact bodyPost_ret (v := .bool false) (by simp [results, Tryz.results82, go_sem]) rfl ⟨rfl, hLf.out, hfin.out⟩
  case pos =>
    have hR2 := hR.out
    rw [if_pos hk6] at hR2
    rw [h0] at hR2
    clear hR
    obtain ⟨lk, lt, ln, ll⟩ := l
    dsimp only at hk6 hR2 e0 e1 e2 e3
    subst hk6
    obtain ⟨LA, lcap, zs, hls, hzs, hz2, hz3⟩ := hJ2.elems
    injection hls with q1 q2 q3
    subst q1
    subst q2
    subst q3
    have hzl : zs.length ≤ 1000000000000 := by
      have h1 := (bulk_parts hlb).2.2.1
      rw [← hzs] at h1
      simpa using h1
    have hzb : ∀ z ∈ zs, jbulk z.1 ≤ 1000000000000 := fun z hz => by
      have h1 := (bulk_parts hlb).2.2.2.2 z.1 (by show z.1 ∈ ll; rw [← hzs]; exact List.mem_map_of_mem (f := (·.1)) hz)
      omega
    rw [← hzs] at hR2
    have hat := Lib.hid (fun (wr : World) (hs : W2.heap.size ≤ wr.heap.size) (hk : ∀ k, k < w.heap.size → k ≠ b → wr.heap[k]? = W2.heap[k]?) (i : Nat) (z : JE) (hz : zs[i]? = some z) => elem_at hz2 hz3 hs (fun k h1 _ => hk k (hYl k h1).1 (hYl k h1).2) hz)
    have hws := hBW2.size
    replace hR2 := Lib.hid hR2
    replace hYl := Lib.hid hYl
    replace hM2 := Lib.hid hM2
    replace hBW2 := Lib.hid hBW2
    replace hzb := Lib.hid hzb
    clear hJ2 hz2 hz3 hlb hzs
    go_upto_region 2 with fail
    rw [hW2.out]
    clear hW2 a0 a1 a2 a3
    go_wp2_with fail
    go_loopw [18] (fun i wr => ∃ (q : Nat) (acc : List Ch) (chv : Value), q ≤ zs.length ∧ i = .int .i64 q ∧ chgs ((zs.map (·.1)).drop q) acc = chgs (zs.map (·.1)) [] ∧ acc.length = q ∧ Cel wr b 32 (mCells m (.slice Ai ni ci) (.slice Ai' ni' ci') chv) ∧ wr.ownsRow w.heap.size 83 6 chv acc.length (chRow acc) ∧ (acc = [] → chv = .slice none 0 0) ∧ W2.heap.size ≤ wr.heap.size ∧ (∀ k, k < w.heap.size → k ≠ b → wr.heap[k]? = W2.heap[k]?) ∧ But w.heap.size b w wr) (fun i _ => zs.length - (intOf i).toNat)
    case atStart => exact ⟨0, [], .slice none 0 0, Nat.zero_le _, rfl, rfl, rfl, hM2.out, World.ownsRow_nil _ _ _ _, fun _ => rfl, Nat.le_refl _, fun _ _ _ => rfl, But.of hBW2.out⟩
    case round =>
      obtain ⟨q, acc, chv, hq, rfl, hch, hal, hM, hrow, hnil, hsz, hkk, hbut⟩ := hrel
      obtain ⟨CA, cc, hcv⟩ : ∃ A c, chv = .slice A acc.length c := by
        rcases hrow.2 with ⟨e, h1⟩ | ⟨g, cap, cur, e, _⟩
        · exact ⟨none, 0, by rw [e, h1]⟩
        · exact ⟨_, _, e⟩
      subst hcv
      have hMlt := hM.lt
      have hrlt := hrow.lt
      by_cases hlt : q < zs.length
      · obtain ⟨⟨z, vx, vy⟩, hze⟩ : ∃ ze, zs[q]? = some ze := ⟨_, List.getElem?_eq_getElem hlt⟩
        have hzbk := hzb.out _ (List.mem_of_getElem? hze)
        have hdrop : (zs.map (·.1)).drop q = z :: (zs.map (·.1)).drop (q + 1) := by
          rw [List.drop_eq_getElem_cons (by simpa using hlt)]
          congr 1
          simp [(List.getElem?_eq_some_iff.1 hze).2]
        obtain ⟨g, o, hgo, hJz, c0, c1, c2, c3⟩ := hat.out wr hsz hkk q _ hze
        subst hgo
        dsimp only at hJz c0 c1 c2 c3 hzbk
        obtain ⟨Za, za, zc, Zb, zb, zd, rfl, rfl⟩ := hJz.forms
        have hfail : oneCh z = none → ∀ W, Below wr.heap.size wr W → ReadEndM R X B b w (.returned (.bool false)) W := fun hn W hW => by
          have hR3 := hR2.out
          rw [← hch, hdrop, chgs_cons, hn] at hR3
          have hR4 : R = (false, { m with chs := acc }) := hR3.symm
          rw [hR4]
          have hrW : W.ownsRow w.heap.size 83 6 (.slice CA acc.length cc) acc.length (chRow acc) := hrow.kept (row := none) ⟨hW.os, hW.tape, hW.output, hW.size, fun k hk _ => hW.block k hk⟩ (by rcases hv : (Value.slice CA acc.length cc).ownBlock with _ | g <;> simp)
          exact ⟨rfl, ⟨_, _, _, hM.below hW hM.lt, hId.out _ (hbut.trans (But.of (hW.mono (by omega)))), (⟨hrW.1, hrW.2.imp id (fun ⟨g, cap, cur, e1, e2, r⟩ => ⟨g, cap, cur, e1, Nat.le_trans hBw e2, r⟩)⟩ : W.ownsRow B 83 6 _ _ _), hnil⟩, hbut.trans (But.of (hW.mono (by omega)))⟩
        obtain ⟨V1, hV1⟩ : ∃ W, (wr.alloc (.cells #[.int .u8 z.kind, .string z.text, .slice Za za zc, .slice Zb zb zd] 25)).alloc (.cells #[.bool false, .int .i64 0, .int .i64 0, .int .i64 0, .int .i64 0, .string ⟨#[]⟩] 83) = W := ⟨_, rfl⟩
        have hBV1 : Below wr.heap.size wr V1 := by rw [← hV1]; exact ((Below.refl _ _).alloc (Nat.le_refl _) _).alloc (by simp) _
        have hY1 : Cel V1 wr.heap.size 25 #[.int .u8 z.kind, .string z.text, .slice Za za zc, .slice Zb zb zd] := by rw [← hV1]; exact (Cel.fresh _ _ _).alloc _
        have hC1 : Cel V1 (wr.heap.size + 1) 83 #[.bool false, .int .i64 0, .int .i64 0, .int .i64 0, .int .i64 0, .string ⟨#[]⟩] := by
          rw [← hV1]
          have := Cel.fresh (wr.alloc (.cells #[.int .u8 z.kind, .string z.text, .slice Za za zc, .slice Zb zb zd] 25)) 83 #[.bool false, .int .i64 0, .int .i64 0, .int .i64 0, .int .i64 0, .string ⟨#[]⟩]
          simpa using this
        have hs1 : V1.heap.size = wr.heap.size + 2 := by rw [← hV1]; simp
        obtain ⟨r, hr⟩ : ∃ r, memJ z yRange = r := ⟨_, rfl⟩
        obtain ⟨t, ht⟩ : ∃ t, memJ z yText = t := ⟨_, rfl⟩
        obtain ⟨st, hse⟩ : ∃ t, memJ r yStart = t := ⟨_, rfl⟩
        obtain ⟨et, hee⟩ : ∃ t, memJ r yEnd = t := ⟨_, rfl⟩
        have hrb : jbulk r ≤ 1000000000000 := by rw [← hr]; exact memJ_bulk _ _ hzbk
        have hsb : jbulk st ≤ 1000000000000 := by rw [← hse]; exact memJ_bulk _ _ hrb
        have heb : jbulk et ≤ 1000000000000 := by rw [← hee]; exact memJ_bulk _ _ hrb
        have hone : oneCh z = if t.kind = 5 then (if r.kind = 0 then some ⟨true, 0, 0, 0, 0, t.text⟩ else match lPos st (0, 0), lPos et (0, 0) with | (true, a, b), (true, c, d) => some ⟨false, a, b, c, d, t.text⟩ | _, _ => none) else none := by
          rw [← hee, ← hse, ← hr, ← ht]
          rfl
        have hm1 : Calls Tryz.prog 70 #[.agg #[.int .u8 z.kind, .string z.text, .slice Za za zc, .slice Zb zb zd], .string ⟨#[114, 97, 110, 103, 101]⟩] V1 (MemEnd (memJ z yRange) Y V1) := lspMember_any z Y V1 _ _ _ (hJz.later hBV1) hzbk
        rw [hr] at hm1
        have hzJ := Lib.hid (fun (W : World) (h : Below wr.heap.size wr W) => hJz.later h)
        have hq1 : (q : Int) < (zs.length : Int) := by omega
        have hq0 : (0 : Int) ≤ (q : Int) := by omega
        obtain ⟨y0, y1, y2, y3⟩ := hY1.d4
        replace hm1 := Lib.hid hm1
        replace hV1 := Lib.hid hV1
        replace hBV1 := Lib.hid hBV1
        replace hY1 := Lib.hid hY1
        replace hC1 := Lib.hid hC1
        replace hfail := Lib.hid hfail
        replace hone := Lib.hid hone
        replace hch := Lib.hid hch
        replace hal := Lib.hid hal
        replace hdrop := Lib.hid hdrop
        replace hM := Lib.hid hM
        replace hrow := Lib.hid hrow
        replace hkk := Lib.hid hkk
        replace hbut := Lib.hid hbut
        clear hJz hze hat hnil hzb
        go_upto_region 8 with fail
        rw [hV1.out]
        clear hV1 c0 c1 c2 c3
        go_wp2_with fail
        refine hm1.out.mono ?_
        rintro e u2 ⟨un, ul, rfl, hJr, hu2⟩
        obtain ⟨Ra, ra, rc, Rb, rb, rd, rfl, rfl⟩ := hJr.forms
        obtain ⟨V3, hV3⟩ : ∃ W, u2.alloc (.cells #[.int .u8 r.kind, .string r.text, .slice Ra ra rc, .slice Rb rb rd] 25) = W := ⟨_, rfl⟩
        have hs2 := hu2.size
        have hb3 : Below u2.heap.size u2 V3 := by rw [← hV3]; exact (Below.refl _ _).alloc (Nat.le_refl _) _
        have hs3 : V3.heap.size = u2.heap.size + 1 := by rw [← hV3]; simp
        have hX3 := Lib.hid (show Cel V3 u2.heap.size 25 #[.int .u8 r.kind, .string r.text, .slice Ra ra rc, .slice Rb rb rd] by rw [← hV3]; exact Cel.fresh _ _ _)
        have hBu2 := Lib.hid (hBV1.out.trans (hu2.mono (by omega)))
        have hQ3 := Lib.hid (hb3.mono (show wr.heap.size ≤ u2.heap.size by omega))
        have hY3 := Lib.hid ((hY1.out.below hu2 hY1.out.lt).below hb3 (by omega))
        have hC3 := Lib.hid ((hC1.out.below hu2 hC1.out.lt).below hb3 (by omega))
        have hrJ := Lib.hid (fun (W : World) (h : Below wr.heap.size u2 W) => JV.keep h.size (fun p h1 _ => World.cell?_of_block (h.block p.block (by have := hYl.out _ h1; omega))) (fun _ h _ => h) _ hJr)
        replace hV3 := Lib.hid hV3
        clear hm1 y0 y1 y2 y3 hJr hu2 hb3 hBV1 hY1 hC1
        go_upto_region 9 with fail
        rw [hV3.out]
        clear hV3
        by_cases htk : t.kind = 5
        case neg =>
          have hnone := Lib.hid (show oneCh z = none by rw [hone.out, if_neg htk])
          replace htk := Lib.hid htk
          by_cases hr0 : r.kind = 0
          · obtain ⟨V4, hV4⟩ : ∃ W, V3.setCell ⟨wr.heap.size + 1, 0, none⟩ (.bool true) = W := ⟨_, rfl⟩
            have hQ4 : Below wr.heap.size u2 V4 := by rw [← hV4]; exact hQ3.out.setCell (by simp) _
            have hs4 : u2.heap.size + 1 ≤ V4.heap.size := by rw [← hV4]; simp [World.setCell]; omega
            have hY4 : Cel V4 wr.heap.size 25 #[.int .u8 z.kind, .string z.text, .slice Za za zc, .slice Zb zb zd] := by rw [← hV4]; exact hY3.out.away (p := ⟨wr.heap.size + 1, 0, none⟩) (by show wr.heap.size ≠ wr.heap.size + 1; omega) _
            have hX4 : Cel V4 u2.heap.size 25 #[.int .u8 r.kind, .string r.text, .slice Ra ra rc, .slice Rb rb rd] := by rw [← hV4]; exact hX3.out.away (p := ⟨wr.heap.size + 1, 0, none⟩) (by show u2.heap.size ≠ wr.heap.size + 1; omega) _
            have hC4 : Cel V4 (wr.heap.size + 1) 83 #[.bool true, .int .i64 0, .int .i64 0, .int .i64 0, .int .i64 0, .string ⟨#[]⟩] := by rw [← hV4]; exact hC3.out.set 0 _
            have s0 := hC3.out.froz 0
            have cW : V3.cell? ⟨wr.heap.size + 1, 0, none⟩ = some (.bool false) := hC3.out.cell 0
            have hm2 : Calls Tryz.prog 70 #[.agg #[.int .u8 z.kind, .string z.text, .slice Za za zc, .slice Zb zb zd], .string ⟨#[116, 101, 120, 116]⟩] V4 (MemEnd (memJ z yText) Y V4) := lspMember_any z Y V4 _ _ _ (hzJ.out _ (hBu2.out.trans hQ4)) hzbk
            rw [ht] at hm2
            obtain ⟨x0, x1, x2, x3⟩ := hX3.out.d4
            rw [hr0] at x0
            obtain ⟨y0, y1, y2, y3⟩ := hY4.d4
            replace hm2 := Lib.hid hm2
            replace hV4 := Lib.hid hV4
            replace hQ4 := Lib.hid hQ4
            replace hX4 := Lib.hid hX4
            replace hC4 := Lib.hid hC4
            clear hX3 hY3 hC3 hY4 hQ3
            go_upto_region 10 with fail
            rw [hV4.out]
            clear hV4 x0 x1 x2 x3 s0 cW
            go_wp2_with fail
            refine hm2.out.mono ?_
            rintro e u5 ⟨un, ul, rfl, hJt, hu5⟩
            obtain ⟨Ta, ta, tc, Tb, tb, td, rfl, rfl⟩ := hJt.forms
            have hst := lspStr_any t Y (wr.heap.size + 1) 5 83 #[.bool true, .int .i64 0, .int .i64 0, .int .i64 0, .int .i64 0, .string ⟨#[]⟩] ⟨#[]⟩ u5 _ _ hJt (hC4.out.below hu5 hC4.out.lt) rfl
            rw [show lTxt t ⟨#[]⟩ = (false, ⟨#[]⟩) by unfold lTxt; rw [if_neg htk.out]] at hst
            dsimp only at hst
            have hs5 := hu5.size
            have hQ5 := Lib.hid (hQ4.out.trans (hu5.mono (by omega)))
            have hX5 := Lib.hid (hX4.out.below hu5 hX4.out.lt)
            replace hst := Lib.hid hst
            clear hm2 y0 y1 y2 y3 hJt hC4 hX4 hQ4 hu5
            go_wp2_with fail
            refine hst.out.mono ?_
            rintro e W ⟨rfl, hC6, hb6⟩
            have hBW := Lib.hid (hBu2.out.trans (hQ5.out.trans (hb6.below (by omega) (by omega))))
            clear hst hX5 hQ5 hb6
            have hend := Lib.hid (hfail.out hnone.out _ hBW.out)
            clear hfail hnone hM hrow hkk hbut hch hdrop hBW
            go_wp2_with fail
            exact bodyPost_ret (v := .bool false) (by simp [results, Tryz.results82, go_sem]) rfl hend.out
          · have hr1 : (r.kind == 0) = false := by simpa using hr0
            replace hr0 := Lib.hid hr0
            obtain ⟨V4, hV4⟩ : ∃ W, V3.setCell ⟨wr.heap.size + 1, 0, none⟩ (.bool false) = W := ⟨_, rfl⟩
            have hQ4 : Below wr.heap.size u2 V4 := by rw [← hV4]; exact hQ3.out.setCell (by simp) _
            have hs4 : u2.heap.size + 1 ≤ V4.heap.size := by rw [← hV4]; simp [World.setCell]; omega
            have hY4 : Cel V4 wr.heap.size 25 #[.int .u8 z.kind, .string z.text, .slice Za za zc, .slice Zb zb zd] := by rw [← hV4]; exact hY3.out.away (p := ⟨wr.heap.size + 1, 0, none⟩) (by show wr.heap.size ≠ wr.heap.size + 1; omega) _
            have hX4 : Cel V4 u2.heap.size 25 #[.int .u8 r.kind, .string r.text, .slice Ra ra rc, .slice Rb rb rd] := by rw [← hV4]; exact hX3.out.away (p := ⟨wr.heap.size + 1, 0, none⟩) (by show u2.heap.size ≠ wr.heap.size + 1; omega) _
            have hC4 : Cel V4 (wr.heap.size + 1) 83 #[.bool false, .int .i64 0, .int .i64 0, .int .i64 0, .int .i64 0, .string ⟨#[]⟩] := by rw [← hV4]; exact hC3.out.set 0 _
            have s0 := hC3.out.froz 0
            have cW : V3.cell? ⟨wr.heap.size + 1, 0, none⟩ = some (.bool false) := hC3.out.cell 0
            have hm2 : Calls Tryz.prog 70 #[.agg #[.int .u8 z.kind, .string z.text, .slice Za za zc, .slice Zb zb zd], .string ⟨#[116, 101, 120, 116]⟩] V4 (MemEnd (memJ z yText) Y V4) := lspMember_any z Y V4 _ _ _ (hzJ.out _ (hBu2.out.trans hQ4)) hzbk
            rw [ht] at hm2
            obtain ⟨x0, x1, x2, x3⟩ := hX3.out.d4

            obtain ⟨y0, y1, y2, y3⟩ := hY4.d4
            replace hm2 := Lib.hid hm2
            replace hV4 := Lib.hid hV4
            replace hQ4 := Lib.hid hQ4
            replace hX4 := Lib.hid hX4
            replace hC4 := Lib.hid hC4
            clear hX3 hY3 hC3 hY4 hQ3
            go_upto_region 10 with fail
            rw [hV4.out]
            clear hV4 x0 x1 x2 x3 s0 cW
            go_wp2_with fail
            refine hm2.out.mono ?_
            rintro e u5 ⟨un, ul, rfl, hJt, hu5⟩
            obtain ⟨Ta, ta, tc, Tb, tb, td, rfl, rfl⟩ := hJt.forms
            have hst := lspStr_any t Y (wr.heap.size + 1) 5 83 #[.bool false, .int .i64 0, .int .i64 0, .int .i64 0, .int .i64 0, .string ⟨#[]⟩] ⟨#[]⟩ u5 _ _ hJt (hC4.out.below hu5 hC4.out.lt) rfl
            rw [show lTxt t ⟨#[]⟩ = (false, ⟨#[]⟩) by unfold lTxt; rw [if_neg htk.out]] at hst
            dsimp only at hst
            have hs5 := hu5.size
            have hQ5 := Lib.hid (hQ4.out.trans (hu5.mono (by omega)))
            have hX5 := Lib.hid (hX4.out.below hu5 hX4.out.lt)
            replace hst := Lib.hid hst
            clear hm2 y0 y1 y2 y3 hJt hC4 hX4 hQ4 hu5
            go_wp2_with fail
            refine hst.out.mono ?_
            rintro e W ⟨rfl, hC6, hb6⟩
            have hBW := Lib.hid (hBu2.out.trans (hQ5.out.trans (hb6.below (by omega) (by omega))))
            clear hst hX5 hQ5 hb6
            have hend := Lib.hid (hfail.out hnone.out _ hBW.out)
            clear hfail hnone hM hrow hkk hbut hch hdrop hBW
            go_wp2_with fail
            exact bodyPost_ret (v := .bool false) (by simp [results, Tryz.results82, go_sem]) rfl hend.out
        case pos =>
          by_cases hr0 : r.kind = 0
          · replace htk := Lib.hid htk
            obtain ⟨V4, hV4⟩ : ∃ W, V3.setCell ⟨wr.heap.size + 1, 0, none⟩ (.bool true) = W := ⟨_, rfl⟩
            have hQ4 : Below wr.heap.size u2 V4 := by rw [← hV4]; exact hQ3.out.setCell (by simp) _
            have hs4 : u2.heap.size + 1 ≤ V4.heap.size := by rw [← hV4]; simp [World.setCell]; omega
            have hY4 : Cel V4 wr.heap.size 25 #[.int .u8 z.kind, .string z.text, .slice Za za zc, .slice Zb zb zd] := by rw [← hV4]; exact hY3.out.away (p := ⟨wr.heap.size + 1, 0, none⟩) (by show wr.heap.size ≠ wr.heap.size + 1; omega) _
            have hX4 : Cel V4 u2.heap.size 25 #[.int .u8 r.kind, .string r.text, .slice Ra ra rc, .slice Rb rb rd] := by rw [← hV4]; exact hX3.out.away (p := ⟨wr.heap.size + 1, 0, none⟩) (by show u2.heap.size ≠ wr.heap.size + 1; omega) _
            have hC4 : Cel V4 (wr.heap.size + 1) 83 #[.bool true, .int .i64 0, .int .i64 0, .int .i64 0, .int .i64 0, .string ⟨#[]⟩] := by rw [← hV4]; exact hC3.out.set 0 _
            have s0 := hC3.out.froz 0
            have cW : V3.cell? ⟨wr.heap.size + 1, 0, none⟩ = some (.bool false) := hC3.out.cell 0
            have hm2 : Calls Tryz.prog 70 #[.agg #[.int .u8 z.kind, .string z.text, .slice Za za zc, .slice Zb zb zd], .string ⟨#[116, 101, 120, 116]⟩] V4 (MemEnd (memJ z yText) Y V4) := lspMember_any z Y V4 _ _ _ (hzJ.out _ (hBu2.out.trans hQ4)) hzbk
            rw [ht] at hm2
            obtain ⟨x0, x1, x2, x3⟩ := hX3.out.d4
            rw [hr0] at x0
            obtain ⟨y0, y1, y2, y3⟩ := hY4.d4
            replace hm2 := Lib.hid hm2
            replace hV4 := Lib.hid hV4
            replace hQ4 := Lib.hid hQ4
            replace hX4 := Lib.hid hX4
            replace hC4 := Lib.hid hC4
            clear hX3 hY3 hC3 hY4 hQ3
            go_upto_region 10 with fail
            rw [hV4.out]
            clear hV4 x0 x1 x2 x3 s0 cW
            go_wp2_with fail
            refine hm2.out.mono ?_
            rintro e u5 ⟨un, ul, rfl, hJt, hu5⟩
            obtain ⟨Ta, ta, tc, Tb, tb, td, rfl, rfl⟩ := hJt.forms
            have hst := lspStr_any t Y (wr.heap.size + 1) 5 83 #[.bool true, .int .i64 0, .int .i64 0, .int .i64 0, .int .i64 0, .string ⟨#[]⟩] ⟨#[]⟩ u5 _ _ hJt (hC4.out.below hu5 hC4.out.lt) rfl
            rw [show lTxt t ⟨#[]⟩ = (true, t.text) by unfold lTxt; rw [if_pos htk.out]] at hst
            dsimp only at hst
            have hs5 := hu5.size
            have hQ5 := Lib.hid (hQ4.out.trans (hu5.mono (by omega)))
            have hX5 := Lib.hid (hX4.out.below hu5 hX4.out.lt)
            replace hst := Lib.hid hst
            clear hm2 y0 y1 y2 y3 hJt hC4 hX4 hQ4 hu5
            go_wp2_with fail
            refine hst.out.mono ?_
            rintro e W ⟨rfl, hC6, hb6⟩
            have hBW := Lib.hid (hBu2.out.trans (hQ5.out.trans (hb6.below (by omega) (by omega))))
            clear hst hX5 hQ5 hb6
            have hC : Cel W (wr.heap.size + 1) 83 #[.bool true, .int .i64 0, .int .i64 0, .int .i64 0, .int .i64 0, .string t.text] := hC6
            have c60 : W.cell? ⟨wr.heap.size + 1, 0, none⟩ = some (.bool true) := hC.cell 0
            have hX7 := hC
            have hX9 := hC
            replace hC := Lib.hid hC
            replace hX7 := Lib.hid hX7
            replace hX9 := Lib.hid hX9
            clear hC6
            have hcx : oneCh z = some ⟨true, 0, 0, 0, 0, t.text⟩ := by rw [hone.out, if_pos htk.out, if_pos hr0]
            have hchn : chgs ((zs.map (·.1)).drop (q + 1)) (acc ++ [⟨true, 0, 0, 0, 0, t.text⟩]) = chgs (zs.map (·.1)) [] := by
              rw [← hch.out, hdrop.out, chgs_cons, hcx]
            obtain ⟨dc, hdc⟩ := chDesc
            replace hdc := Lib.hid hdc
            replace hchn := Lib.hid hchn
            have hMW := hM.out.below hBW.out (by omega)
            have hrowW : W.ownsRow w.heap.size 83 6 (.slice CA acc.length cc) acc.length (chRow acc) := hrow.out.kept (row := none) ⟨hBW.out.os, hBW.out.tape, hBW.out.output, hBW.out.size, fun k hk _ => hBW.out.block k hk⟩ (by rcases hv : (Value.slice CA acc.length cc).ownBlock with _ | g <;> simp)
            have hWs := hBW.out.size
            obtain ⟨v', w4, hrun, hrow4, hgr⟩ := rowCh_more (W := W.drew.alloc (.cells #[.bool true, .int .i64 0, .int .i64 0, .int .i64 0, .int .i64 0, .string t.text] 83)) (gs := W.heap.size) (c := ⟨true, 0, 0, 0, 0, t.text⟩) ((show W.drew.ownsRow w.heap.size 83 6 (.slice CA acc.length cc) acc.length (chRow acc) from hrowW).alloc _) (by simp; omega) (Cel.fresh W.drew 83 #[.bool true, .int .i64 0, .int .i64 0, .int .i64 0, .int .i64 0, .string t.text]) (by have := hal.out; omega)
            obtain ⟨LB, ld, hLB⟩ : ∃ A c, v' = .slice A (acc.length + 1) c := by
              rcases hrow4.2 with ⟨_, h1⟩ | ⟨g, cap, cur, e, _⟩
              · omega
              · exact ⟨_, _, e⟩
            subst hLB
            have hgs := hgr.size
            simp at hgs
            have hk4 : ∀ k, k < W.heap.size → (Value.slice CA acc.length cc).ownBlock ≠ some k → w4.heap[k]? = W.heap[k]? := fun k hk hne => (hgr.block k (by simp; omega) (fun e => hne e.symm)).trans (Below.heap_alloc W.drew _ k hk)
            have hbr : ∀ g, (Value.slice CA acc.length cc).ownBlock = some g → w.heap.size ≤ g := fun g hg => (hrow.out.lt g hg).1
            have hM4 : Cel w4 b 32 (mCells m (.slice Ai ni ci) (.slice Ai' ni' ci') (.slice CA acc.length cc)) := (hk4 _ hMW.lt (fun e => by have := hbr _ e; omega)).trans hMW
            have hCW := hC.out
            obtain ⟨W5, hW5⟩ : ∃ X, w4.setCell ⟨b, 11, none⟩ (.slice LB (acc.length + 1) ld) = X := ⟨_, rfl⟩
            have hk5 : ∀ k, k ≠ b → W5.heap[k]? = w4.heap[k]? := fun k hk => by rw [← hW5]; exact Below.heap_setCell w4 _ _ k hk
            have hs5 : W5.heap.size = w4.heap.size := by rw [← hW5]; simp [World.setCell]
            have hM5 : Cel W5 b 32 (mCells m (.slice Ai ni ci) (.slice Ai' ni' ci') (.slice LB (acc.length + 1) ld)) := by rw [← hW5]; exact hM4.set 11 _
            have hrow5 : W5.ownsRow w.heap.size 83 6 (.slice LB (acc.length + 1) ld) (acc.length + 1) (chRow (acc ++ [⟨true, 0, 0, 0, 0, t.text⟩])) := hrow4.kept (row := some b) ⟨by rw [← hW5]; rfl, by rw [← hW5]; rfl, by rw [← hW5]; rfl, by omega, fun k hk hne => hk5 k (fun e => hne (by rw [e]))⟩ (Or.inr fun e => by have := hrow4.lt _ e; omega)
            have hkk5 : ∀ k, k < w.heap.size → k ≠ b → W5.heap[k]? = W2.heap[k]? := fun k h1 h2 => (hk5 k h2).trans ((hk4 k (by omega) (fun e => by have := hbr _ e; omega)).trans ((hBW.out.block k (by omega)).trans (hkk.out k h1 h2)))
            have hbut5 : But w.heap.size b w W5 := by
              have hD : Below W.heap.size W (W.drew.alloc (.cells #[.bool true, .int .i64 0, .int .i64 0, .int .i64 0, .int .i64 0, .string t.text] 83)) := (bel_drew (Below.refl W.heap.size W)).alloc (Nat.le_refl _) _
              have h1 : But w.heap.size b wr w4 := (But.of (hBW.out.mono (by omega))).trans (But.of (Below.grown (hD.mono (show w.heap.size ≤ W.heap.size by omega)) hgr (show w.heap.size ≤ (W.heap.push _).size by rw [Array.size_push]; omega) hbr))
              have h2 := (hbut.out.trans h1).set 11 (.slice LB (acc.length + 1) ld)
              rw [hW5] at h2
              exact h2
            have hx11 : w4.cell? ⟨b, 11, none⟩ = some (.slice CA acc.length cc) := hM4.cell 11
            have hf11 := hM4.froz 11
            have hCW4 : Cel w4 (wr.heap.size + 1) 83 #[.bool true, .int .i64 0, .int .i64 0, .int .i64 0, .int .i64 0, .string t.text] := (hk4 _ hCW.lt (fun e => by have := hrow.out.lt _ e; omega)).trans hCW
            have hsz5 : W2.heap.size ≤ W5.heap.size := by have := hsz; omega
            replace hrun := Lib.hid hrun
            replace hW5 := Lib.hid hW5
            have hS := Lib.hid (show Cel W.drew b 32 (mCells m (.slice Ai ni ci) (.slice Ai' ni' ci') (.slice CA acc.length cc)) from hMW.drew)
            have hT := Lib.hid (show Cel W.drew (wr.heap.size + 1) 83 #[.bool true, .int .i64 0, .int .i64 0, .int .i64 0, .int .i64 0, .string t.text] from hCW.drew)
            have hM4h := Lib.hid hM4
            have hM5h := Lib.hid hM5
            have hrow5h := Lib.hid hrow5
            have hkk5h := Lib.hid hkk5
            have hbut5h := Lib.hid hbut5
            have hCW4h := Lib.hid hCW4
            have hlen5 := Lib.hid (show (acc ++ [(⟨true, 0, 0, 0, 0, t.text⟩ : Ch)]).length = acc.length + 1 by simp)
            have hsz5h := Lib.hid hsz5
            have hbs : b ≠ wr.heap.size + 1 := by omega
            clear hMW hrowW hrow4 hgr hk4 hbr hM4 hCW hk5 hM5 hrow5 hkk5 hbut5 hCW4 hsz5 hcx hBW hC hX7 hX9 hfail hM hrow hkk hbut hgs hs5
            go_upto_region 12 with fail
            refine wp_region_T 10 (fun W => Cel W (wr.heap.size + 1) 83 #[.bool true, .int .i64 0, .int .i64 0, .int .i64 0, .int .i64 0, .string t.text]) (fun W => Cel W b 32 (mCells m (.slice Ai ni ci) (.slice Ai' ni' ci') (.slice CA acc.length cc))) (by kernel_rfl) ?_
            refine wpAnyT_takeW (i := 0) (v := .pointer (some ⟨b, 0, none⟩)) rfl (by kernel_rfl) (by kernel_rfl) (by kernel_rfl) (by decide) (fun _ _ _ h => h) (Or.inl ⟨by rfl, by
              intro w' hSw
              try dsimp only at hSw
              go_simp⟩) hS.out hT.out ?_
            try simp only [Act.put, List.setIfInBounds_toArray]
            refine wpAnyT_takeW (i := 1) (v := .pointer (some ⟨b, 0, none⟩)) rfl (by kernel_rfl) (by kernel_rfl) (by kernel_rfl) (by decide) (fun _ _ _ h => h) (Or.inl ⟨by rfl, by
              intro w' hSw
              try dsimp only at hSw
              go_simp⟩) hS.out hT.out ?_
            try simp only [Act.put]
            refine wpAnyT_takeW (i := 2) (v := .pointer (some ⟨b, 0, none⟩)) rfl (by kernel_rfl) (by kernel_rfl) (by kernel_rfl) (by decide) (fun _ _ _ h => h) (Or.inl ⟨by rfl, by
              intro w' hSw
              try dsimp only at hSw
              go_simp⟩) hS.out hT.out ?_
            try simp only [Act.put]
            refine wpAnyT_takeW (i := 3) (v := .pointer (some ⟨b, 11, none⟩)) rfl (by kernel_rfl) (by kernel_rfl) (by kernel_rfl) (by decide) (fun _ _ _ h => h) (Or.inl ⟨by rfl, by
              intro w' hSw
              try dsimp only at hSw
              go_simp⟩) hS.out hT.out ?_
            try simp only [Act.put]
            refine wpAnyT_take (i := 4) (v := .slice CA acc.length cc) rfl (by kernel_rfl) (by kernel_rfl) (by kernel_rfl) (by kernel_rfl) (by rfl) (fun _ _ _ h => h) (Or.inl ⟨by rfl, by
              intro w' hSw
              try dsimp only at hSw
              have c11 : w'.cell? ⟨b, 11, none⟩ = some (.slice CA acc.length cc) := hSw.cell 11
              go_simp⟩) hS.out hT.out ?_
            try simp only [Act.put]
            refine wpAnyT_takeW (i := 5) (v := .agg #[.bool true, .int .i64 0, .int .i64 0, .int .i64 0, .int .i64 0, .string t.text]) rfl (by kernel_rfl) (by kernel_rfl) (by kernel_rfl) (by decide) (fun _ _ _ h => h) (yieldsIf_load_mid (by rfl) 83 (.tmp 8) rfl (wr.heap.size + 1) 0 (by rfl) [.bool true, .int .i64 0, .int .i64 0, .int .i64 0, .int .i64 0, .string t.text] dc (fun W hW => Cel.rng hW) hdc.out.1 hdc.out.2 chInfo) hS.out hT.out ?_
            try simp only [Act.put]
            refine wpAnyT_one (i := 6) (by kernel_rfl) rfl (fun K hK => ?_)
            go_simp
            refine hK.out _ _ (fun _ => hS.out.alloc _) (hT.out.alloc _) ?_
            clear hK
            try simp only [Act.put, List.setIfInBounds_toArray, List.set_cons_zero, List.set_cons_succ]
            refine wpAnyT_one (i := 7) (by kernel_rfl) rfl (fun K hK => ?_)
            refine jl_step_run (by rfl) (.tmp 58) (.tmp 60) 30 30 (by rfl) (.slice CA acc.length cc) (.slice (some ⟨W.heap.size, 0, none⟩) 1 1) _ w4 (by rfl) (by rfl) hrun.out ?_
            refine hK.out _ _ (fun _ => hM4h.out) hCW4h.out ?_
            clear hK hrun hS hT
            try simp only [Act.put, List.setIfInBounds_toArray, List.set_cons_zero, List.set_cons_succ]
            refine wpAnyT_takeW (i := 8) (v := .pointer (some ⟨b, 0, none⟩)) rfl (by kernel_rfl) (by kernel_rfl) (by kernel_rfl) (by decide) (fun _ _ _ h => h) (Or.inl ⟨by rfl, by
              intro w' hSw
              go_simp⟩) hM4h.out hCW4h.out ?_
            try simp only [Act.put, List.setIfInBounds_toArray]
            refine wpAnyT_takeW (i := 9) (v := .pointer (some ⟨b, 11, none⟩)) rfl (by kernel_rfl) (by kernel_rfl) (by kernel_rfl) (by decide) (fun _ _ _ h => h) (Or.inl ⟨by rfl, by
              intro w' hSw
              go_simp⟩) hM4h.out hCW4h.out ?_
            try simp only [Act.put]
            refine wpAnyT_one (i := 10) (by kernel_rfl) rfl (fun K hK => ?_)
            go_simp
            rw [hW5.out]
            refine hK.out _ _ (fun h => by cases h) (by rw [← hW5.out]; exact hCW4h.out.away (p := ⟨b, 11, none⟩) (by show wr.heap.size + 1 ≠ b; omega) _) ?_
            clear hK hx11 hf11
            refine wpAnyT_done (by kernel_rfl) ?_
            go_wp2_with fail
            go_roundw
            case rel => exact ⟨q + 1, acc ++ [⟨true, 0, 0, 0, 0, t.text⟩], _, by omega, by go_num, hchn.out, by simp [hal.out], hM5h.out, by rw [hlen5.out]; exact hrow5h.out, fun h => by simp at h, hsz5h.out, hkk5h.out, hbut5h.out⟩
            case measure => simp [intOf]; omega
          · have hr1 : (r.kind == 0) = false := by simpa using hr0
            have hone2 := hone.out
            rw [if_pos htk, if_neg hr0] at hone2
            replace hr0 := Lib.hid hr0
            replace htk := Lib.hid htk
            rcases hps : lPos st (0, 0) with ⟨_ | _, pa, pb⟩
            · rw [hps] at hone2
              have hnone := Lib.hid hone2
              clear hone2
              obtain ⟨V4, hV4⟩ : ∃ W, V3.setCell ⟨wr.heap.size + 1, 0, none⟩ (.bool false) = W := ⟨_, rfl⟩
              have hQ4 : Below wr.heap.size u2 V4 := by rw [← hV4]; exact hQ3.out.setCell (by simp) _
              have hs4 : u2.heap.size + 1 ≤ V4.heap.size := by rw [← hV4]; simp [World.setCell]; omega
              have hY4 : Cel V4 wr.heap.size 25 #[.int .u8 z.kind, .string z.text, .slice Za za zc, .slice Zb zb zd] := by rw [← hV4]; exact hY3.out.away (p := ⟨wr.heap.size + 1, 0, none⟩) (by show wr.heap.size ≠ wr.heap.size + 1; omega) _
              have hX4 : Cel V4 u2.heap.size 25 #[.int .u8 r.kind, .string r.text, .slice Ra ra rc, .slice Rb rb rd] := by rw [← hV4]; exact hX3.out.away (p := ⟨wr.heap.size + 1, 0, none⟩) (by show u2.heap.size ≠ wr.heap.size + 1; omega) _
              have hC4 : Cel V4 (wr.heap.size + 1) 83 #[.bool false, .int .i64 0, .int .i64 0, .int .i64 0, .int .i64 0, .string ⟨#[]⟩] := by rw [← hV4]; exact hC3.out.set 0 _
              have s0 := hC3.out.froz 0
              have cW : V3.cell? ⟨wr.heap.size + 1, 0, none⟩ = some (.bool false) := hC3.out.cell 0
              have hm2 : Calls Tryz.prog 70 #[.agg #[.int .u8 z.kind, .string z.text, .slice Za za zc, .slice Zb zb zd], .string ⟨#[116, 101, 120, 116]⟩] V4 (MemEnd (memJ z yText) Y V4) := lspMember_any z Y V4 _ _ _ (hzJ.out _ (hBu2.out.trans hQ4)) hzbk
              rw [ht] at hm2
              obtain ⟨x0, x1, x2, x3⟩ := hX3.out.d4

              obtain ⟨y0, y1, y2, y3⟩ := hY4.d4
              replace hm2 := Lib.hid hm2
              replace hV4 := Lib.hid hV4
              replace hQ4 := Lib.hid hQ4
              replace hX4 := Lib.hid hX4
              replace hC4 := Lib.hid hC4
              clear hX3 hY3 hC3 hY4 hQ3
              go_upto_region 10 with fail
              rw [hV4.out]
              clear hV4 x0 x1 x2 x3 s0 cW
              go_wp2_with fail
              refine hm2.out.mono ?_
              rintro e u5 ⟨un, ul, rfl, hJt, hu5⟩
              obtain ⟨Ta, ta, tc, Tb, tb, td, rfl, rfl⟩ := hJt.forms
              have hst := lspStr_any t Y (wr.heap.size + 1) 5 83 #[.bool false, .int .i64 0, .int .i64 0, .int .i64 0, .int .i64 0, .string ⟨#[]⟩] ⟨#[]⟩ u5 _ _ hJt (hC4.out.below hu5 hC4.out.lt) rfl
              rw [show lTxt t ⟨#[]⟩ = (true, t.text) by unfold lTxt; rw [if_pos htk.out]] at hst
              dsimp only at hst
              have hs5 := hu5.size
              have hQ5 := Lib.hid (hQ4.out.trans (hu5.mono (by omega)))
              have hX5 := Lib.hid (hX4.out.below hu5 hX4.out.lt)
              replace hst := Lib.hid hst
              clear hm2 y0 y1 y2 y3 hJt hC4 hX4 hQ4 hu5
              go_wp2_with fail
              refine hst.out.mono ?_
              rintro e u6 ⟨rfl, hC6, hb6⟩
              have hC6 : Cel u6 (wr.heap.size + 1) 83 #[.bool false, .int .i64 0, .int .i64 0, .int .i64 0, .int .i64 0, .string t.text] := hC6
              have hs6 := hb6.size
              have hQ6 := hQ5.out.trans (hb6.below (show wr.heap.size ≤ wr.heap.size + 1 by omega) (by omega))
              have hX6 := hX5.out.but hb6 hX5.out.lt (by omega)
              have c60 : u6.cell? ⟨wr.heap.size + 1, 0, none⟩ = some (.bool false) := hC6.cell 0
              have hm3 : Calls Tryz.prog 70 #[.agg #[.int .u8 r.kind, .string r.text, .slice Ra ra rc, .slice Rb rb rd], .string ⟨#[115, 116, 97, 114, 116]⟩] u6 (MemEnd (memJ r yStart) Y u6) := lspMember_any r Y u6 _ _ _ (hrJ.out _ hQ6) hrb
              rw [hse] at hm3
              obtain ⟨x0, x1, x2, x3⟩ := hX6.d4
              replace hm3 := Lib.hid hm3
              replace hC6 := Lib.hid hC6
              replace hX6 := Lib.hid hX6
              replace hQ6 := Lib.hid hQ6
              clear hst hX5 hQ5 hb6
              go_wp2_with fail
              refine hm3.out.mono ?_
              rintro e u7 ⟨un, ul, rfl, hJs, hu7⟩
              obtain ⟨Sa, sa, sc, Sb, sb, sd, rfl, rfl⟩ := hJs.forms
              have hps2 := lspPosition_any st Y (wr.heap.size + 1) 1 83 #[.bool false, .int .i64 0, .int .i64 0, .int .i64 0, .int .i64 0, .string t.text] (0, 0) u7 _ _ hJs hsb (fun k h1 _ => by have := hYl.out k h1; omega) (hC6.out.below hu7 hC6.out.lt) rfl rfl
              rw [hps] at hps2
              have hs7 := hu7.size
              have hQ7 := Lib.hid (hQ6.out.trans (hu7.mono (by omega)))
              have hX7 := Lib.hid (hX6.out.below hu7 hX6.out.lt)
              replace hps2 := Lib.hid hps2
              clear hm3 x0 x1 x2 x3 hJs hC6 hX6 hQ6 hu7 c60
              go_wp2_with fail
              refine hps2.out.mono ?_
              rintro e W ⟨rfl, hC8, hb8⟩
              have hBW := Lib.hid (hBu2.out.trans (hQ7.out.trans (hb8.below (by omega) (by omega))))
              clear hps2 hX7 hQ7 hb8
              have hend := Lib.hid (hfail.out hnone.out _ hBW.out)
              clear hfail hnone hM hrow hkk hbut hch hdrop hBW
              go_wp2_with fail
              exact bodyPost_ret (v := .bool false) (by simp [results, Tryz.results82, go_sem]) rfl hend.out
            · rcases hpe : lPos et (0, 0) with ⟨_ | _, pc, pd⟩
              · rw [hps, hpe] at hone2
                have hnone := Lib.hid hone2
                clear hone2
                obtain ⟨V4, hV4⟩ : ∃ W, V3.setCell ⟨wr.heap.size + 1, 0, none⟩ (.bool false) = W := ⟨_, rfl⟩
                have hQ4 : Below wr.heap.size u2 V4 := by rw [← hV4]; exact hQ3.out.setCell (by simp) _
                have hs4 : u2.heap.size + 1 ≤ V4.heap.size := by rw [← hV4]; simp [World.setCell]; omega
                have hY4 : Cel V4 wr.heap.size 25 #[.int .u8 z.kind, .string z.text, .slice Za za zc, .slice Zb zb zd] := by rw [← hV4]; exact hY3.out.away (p := ⟨wr.heap.size + 1, 0, none⟩) (by show wr.heap.size ≠ wr.heap.size + 1; omega) _
                have hX4 : Cel V4 u2.heap.size 25 #[.int .u8 r.kind, .string r.text, .slice Ra ra rc, .slice Rb rb rd] := by rw [← hV4]; exact hX3.out.away (p := ⟨wr.heap.size + 1, 0, none⟩) (by show u2.heap.size ≠ wr.heap.size + 1; omega) _
                have hC4 : Cel V4 (wr.heap.size + 1) 83 #[.bool false, .int .i64 0, .int .i64 0, .int .i64 0, .int .i64 0, .string ⟨#[]⟩] := by rw [← hV4]; exact hC3.out.set 0 _
                have s0 := hC3.out.froz 0
                have cW : V3.cell? ⟨wr.heap.size + 1, 0, none⟩ = some (.bool false) := hC3.out.cell 0
                have hm2 : Calls Tryz.prog 70 #[.agg #[.int .u8 z.kind, .string z.text, .slice Za za zc, .slice Zb zb zd], .string ⟨#[116, 101, 120, 116]⟩] V4 (MemEnd (memJ z yText) Y V4) := lspMember_any z Y V4 _ _ _ (hzJ.out _ (hBu2.out.trans hQ4)) hzbk
                rw [ht] at hm2
                obtain ⟨x0, x1, x2, x3⟩ := hX3.out.d4

                obtain ⟨y0, y1, y2, y3⟩ := hY4.d4
                replace hm2 := Lib.hid hm2
                replace hV4 := Lib.hid hV4
                replace hQ4 := Lib.hid hQ4
                replace hX4 := Lib.hid hX4
                replace hC4 := Lib.hid hC4
                clear hX3 hY3 hC3 hY4 hQ3
                go_upto_region 10 with fail
                rw [hV4.out]
                clear hV4 x0 x1 x2 x3 s0 cW
                go_wp2_with fail
                refine hm2.out.mono ?_
                rintro e u5 ⟨un, ul, rfl, hJt, hu5⟩
                obtain ⟨Ta, ta, tc, Tb, tb, td, rfl, rfl⟩ := hJt.forms
                have hst := lspStr_any t Y (wr.heap.size + 1) 5 83 #[.bool false, .int .i64 0, .int .i64 0, .int .i64 0, .int .i64 0, .string ⟨#[]⟩] ⟨#[]⟩ u5 _ _ hJt (hC4.out.below hu5 hC4.out.lt) rfl
                rw [show lTxt t ⟨#[]⟩ = (true, t.text) by unfold lTxt; rw [if_pos htk.out]] at hst
                dsimp only at hst
                have hs5 := hu5.size
                have hQ5 := Lib.hid (hQ4.out.trans (hu5.mono (by omega)))
                have hX5 := Lib.hid (hX4.out.below hu5 hX4.out.lt)
                replace hst := Lib.hid hst
                clear hm2 y0 y1 y2 y3 hJt hC4 hX4 hQ4 hu5
                go_wp2_with fail
                refine hst.out.mono ?_
                rintro e u6 ⟨rfl, hC6, hb6⟩
                have hC6 : Cel u6 (wr.heap.size + 1) 83 #[.bool false, .int .i64 0, .int .i64 0, .int .i64 0, .int .i64 0, .string t.text] := hC6
                have hs6 := hb6.size
                have hQ6 := hQ5.out.trans (hb6.below (show wr.heap.size ≤ wr.heap.size + 1 by omega) (by omega))
                have hX6 := hX5.out.but hb6 hX5.out.lt (by omega)
                have c60 : u6.cell? ⟨wr.heap.size + 1, 0, none⟩ = some (.bool false) := hC6.cell 0
                have hm3 : Calls Tryz.prog 70 #[.agg #[.int .u8 r.kind, .string r.text, .slice Ra ra rc, .slice Rb rb rd], .string ⟨#[115, 116, 97, 114, 116]⟩] u6 (MemEnd (memJ r yStart) Y u6) := lspMember_any r Y u6 _ _ _ (hrJ.out _ hQ6) hrb
                rw [hse] at hm3
                obtain ⟨x0, x1, x2, x3⟩ := hX6.d4
                replace hm3 := Lib.hid hm3
                replace hC6 := Lib.hid hC6
                replace hX6 := Lib.hid hX6
                replace hQ6 := Lib.hid hQ6
                clear hst hX5 hQ5 hb6
                go_wp2_with fail
                refine hm3.out.mono ?_
                rintro e u7 ⟨un, ul, rfl, hJs, hu7⟩
                obtain ⟨Sa, sa, sc, Sb, sb, sd, rfl, rfl⟩ := hJs.forms
                have hps2 := lspPosition_any st Y (wr.heap.size + 1) 1 83 #[.bool false, .int .i64 0, .int .i64 0, .int .i64 0, .int .i64 0, .string t.text] (0, 0) u7 _ _ hJs hsb (fun k h1 _ => by have := hYl.out k h1; omega) (hC6.out.below hu7 hC6.out.lt) rfl rfl
                rw [hps] at hps2
                have hs7 := hu7.size
                have hQ7 := Lib.hid (hQ6.out.trans (hu7.mono (by omega)))
                have hX7 := Lib.hid (hX6.out.below hu7 hX6.out.lt)
                replace hps2 := Lib.hid hps2
                clear hm3 x0 x1 x2 x3 hJs hC6 hX6 hQ6 hu7 c60
                go_wp2_with fail
                refine hps2.out.mono ?_
                rintro e u8 ⟨rfl, hC8, hb8⟩
                have hC8 : Cel u8 (wr.heap.size + 1) 83 #[.bool false, .int .i64 pa, .int .i64 pb, .int .i64 0, .int .i64 0, .string t.text] := hC8
                have hs8 := hb8.size
                have hQ8 := hQ7.out.trans (hb8.below (show wr.heap.size ≤ wr.heap.size + 1 by omega) (by omega))
                have hX8 := hX7.out.but hb8 hX7.out.lt (by omega)
                have hm4 : Calls Tryz.prog 70 #[.agg #[.int .u8 r.kind, .string r.text, .slice Ra ra rc, .slice Rb rb rd], .string ⟨#[101, 110, 100]⟩] u8 (MemEnd (memJ r yEnd) Y u8) := lspMember_any r Y u8 _ _ _ (hrJ.out _ hQ8) hrb
                rw [hee] at hm4
                obtain ⟨x0, x1, x2, x3⟩ := hX8.d4
                replace hm4 := Lib.hid hm4
                replace hC8 := Lib.hid hC8
                replace hX8 := Lib.hid hX8
                replace hQ8 := Lib.hid hQ8
                clear hps2 hX7 hQ7 hb8
                go_wp2_with fail
                refine hm4.out.mono ?_
                rintro e u9 ⟨un, ul, rfl, hJs, hu9⟩
                obtain ⟨Ea, ea, ec, Eb, eb, ed, rfl, rfl⟩ := hJs.forms
                have hpe2 := lspPosition_any et Y (wr.heap.size + 1) 3 83 #[.bool false, .int .i64 pa, .int .i64 pb, .int .i64 0, .int .i64 0, .string t.text] (0, 0) u9 _ _ hJs heb (fun k h1 _ => by have := hYl.out k h1; omega) (hC8.out.below hu9 hC8.out.lt) rfl rfl
                rw [hpe] at hpe2
                have hs9 := hu9.size
                have hQ9 := Lib.hid (hQ8.out.trans (hu9.mono (by omega)))
                replace hpe2 := Lib.hid hpe2
                clear hm4 x0 x1 x2 x3 hJs hC8 hX8 hQ8 hu9
                go_wp2_with fail
                refine hpe2.out.mono ?_
                rintro e W ⟨rfl, hC10, hb10⟩
                have hBW := Lib.hid (hBu2.out.trans (hQ9.out.trans (hb10.below (by omega) (by omega))))
                clear hpe2 hQ9 hb10
                have hend := Lib.hid (hfail.out hnone.out _ hBW.out)
                clear hfail hnone hM hrow hkk hbut hch hdrop hBW
                go_wp2_with fail
                exact bodyPost_ret (v := .bool false) (by simp [results, Tryz.results82, go_sem]) rfl hend.out
              · clear hone2
                obtain ⟨V4, hV4⟩ : ∃ W, V3.setCell ⟨wr.heap.size + 1, 0, none⟩ (.bool false) = W := ⟨_, rfl⟩
                have hQ4 : Below wr.heap.size u2 V4 := by rw [← hV4]; exact hQ3.out.setCell (by simp) _
                have hs4 : u2.heap.size + 1 ≤ V4.heap.size := by rw [← hV4]; simp [World.setCell]; omega
                have hY4 : Cel V4 wr.heap.size 25 #[.int .u8 z.kind, .string z.text, .slice Za za zc, .slice Zb zb zd] := by rw [← hV4]; exact hY3.out.away (p := ⟨wr.heap.size + 1, 0, none⟩) (by show wr.heap.size ≠ wr.heap.size + 1; omega) _
                have hX4 : Cel V4 u2.heap.size 25 #[.int .u8 r.kind, .string r.text, .slice Ra ra rc, .slice Rb rb rd] := by rw [← hV4]; exact hX3.out.away (p := ⟨wr.heap.size + 1, 0, none⟩) (by show u2.heap.size ≠ wr.heap.size + 1; omega) _
                have hC4 : Cel V4 (wr.heap.size + 1) 83 #[.bool false, .int .i64 0, .int .i64 0, .int .i64 0, .int .i64 0, .string ⟨#[]⟩] := by rw [← hV4]; exact hC3.out.set 0 _
                have s0 := hC3.out.froz 0
                have cW : V3.cell? ⟨wr.heap.size + 1, 0, none⟩ = some (.bool false) := hC3.out.cell 0
                have hm2 : Calls Tryz.prog 70 #[.agg #[.int .u8 z.kind, .string z.text, .slice Za za zc, .slice Zb zb zd], .string ⟨#[116, 101, 120, 116]⟩] V4 (MemEnd (memJ z yText) Y V4) := lspMember_any z Y V4 _ _ _ (hzJ.out _ (hBu2.out.trans hQ4)) hzbk
                rw [ht] at hm2
                obtain ⟨x0, x1, x2, x3⟩ := hX3.out.d4

                obtain ⟨y0, y1, y2, y3⟩ := hY4.d4
                replace hm2 := Lib.hid hm2
                replace hV4 := Lib.hid hV4
                replace hQ4 := Lib.hid hQ4
                replace hX4 := Lib.hid hX4
                replace hC4 := Lib.hid hC4
                clear hX3 hY3 hC3 hY4 hQ3
                go_upto_region 10 with fail
                rw [hV4.out]
                clear hV4 x0 x1 x2 x3 s0 cW
                go_wp2_with fail
                refine hm2.out.mono ?_
                rintro e u5 ⟨un, ul, rfl, hJt, hu5⟩
                obtain ⟨Ta, ta, tc, Tb, tb, td, rfl, rfl⟩ := hJt.forms
                have hst := lspStr_any t Y (wr.heap.size + 1) 5 83 #[.bool false, .int .i64 0, .int .i64 0, .int .i64 0, .int .i64 0, .string ⟨#[]⟩] ⟨#[]⟩ u5 _ _ hJt (hC4.out.below hu5 hC4.out.lt) rfl
                rw [show lTxt t ⟨#[]⟩ = (true, t.text) by unfold lTxt; rw [if_pos htk.out]] at hst
                dsimp only at hst
                have hs5 := hu5.size
                have hQ5 := Lib.hid (hQ4.out.trans (hu5.mono (by omega)))
                have hX5 := Lib.hid (hX4.out.below hu5 hX4.out.lt)
                replace hst := Lib.hid hst
                clear hm2 y0 y1 y2 y3 hJt hC4 hX4 hQ4 hu5
                go_wp2_with fail
                refine hst.out.mono ?_
                rintro e u6 ⟨rfl, hC6, hb6⟩
                have hC6 : Cel u6 (wr.heap.size + 1) 83 #[.bool false, .int .i64 0, .int .i64 0, .int .i64 0, .int .i64 0, .string t.text] := hC6
                have hs6 := hb6.size
                have hQ6 := hQ5.out.trans (hb6.below (show wr.heap.size ≤ wr.heap.size + 1 by omega) (by omega))
                have hX6 := hX5.out.but hb6 hX5.out.lt (by omega)
                have c60 : u6.cell? ⟨wr.heap.size + 1, 0, none⟩ = some (.bool false) := hC6.cell 0
                have hm3 : Calls Tryz.prog 70 #[.agg #[.int .u8 r.kind, .string r.text, .slice Ra ra rc, .slice Rb rb rd], .string ⟨#[115, 116, 97, 114, 116]⟩] u6 (MemEnd (memJ r yStart) Y u6) := lspMember_any r Y u6 _ _ _ (hrJ.out _ hQ6) hrb
                rw [hse] at hm3
                obtain ⟨x0, x1, x2, x3⟩ := hX6.d4
                replace hm3 := Lib.hid hm3
                replace hC6 := Lib.hid hC6
                replace hX6 := Lib.hid hX6
                replace hQ6 := Lib.hid hQ6
                clear hst hX5 hQ5 hb6
                go_wp2_with fail
                refine hm3.out.mono ?_
                rintro e u7 ⟨un, ul, rfl, hJs, hu7⟩
                obtain ⟨Sa, sa, sc, Sb, sb, sd, rfl, rfl⟩ := hJs.forms
                have hps2 := lspPosition_any st Y (wr.heap.size + 1) 1 83 #[.bool false, .int .i64 0, .int .i64 0, .int .i64 0, .int .i64 0, .string t.text] (0, 0) u7 _ _ hJs hsb (fun k h1 _ => by have := hYl.out k h1; omega) (hC6.out.below hu7 hC6.out.lt) rfl rfl
                rw [hps] at hps2
                have hs7 := hu7.size
                have hQ7 := Lib.hid (hQ6.out.trans (hu7.mono (by omega)))
                have hX7 := Lib.hid (hX6.out.below hu7 hX6.out.lt)
                replace hps2 := Lib.hid hps2
                clear hm3 x0 x1 x2 x3 hJs hC6 hX6 hQ6 hu7 c60
                go_wp2_with fail
                refine hps2.out.mono ?_
                rintro e u8 ⟨rfl, hC8, hb8⟩
                have hC8 : Cel u8 (wr.heap.size + 1) 83 #[.bool false, .int .i64 pa, .int .i64 pb, .int .i64 0, .int .i64 0, .string t.text] := hC8
                have hs8 := hb8.size
                have hQ8 := hQ7.out.trans (hb8.below (show wr.heap.size ≤ wr.heap.size + 1 by omega) (by omega))
                have hX8 := hX7.out.but hb8 hX7.out.lt (by omega)
                have hm4 : Calls Tryz.prog 70 #[.agg #[.int .u8 r.kind, .string r.text, .slice Ra ra rc, .slice Rb rb rd], .string ⟨#[101, 110, 100]⟩] u8 (MemEnd (memJ r yEnd) Y u8) := lspMember_any r Y u8 _ _ _ (hrJ.out _ hQ8) hrb
                rw [hee] at hm4
                obtain ⟨x0, x1, x2, x3⟩ := hX8.d4
                replace hm4 := Lib.hid hm4
                replace hC8 := Lib.hid hC8
                replace hX8 := Lib.hid hX8
                replace hQ8 := Lib.hid hQ8
                clear hps2 hX7 hQ7 hb8
                go_wp2_with fail
                refine hm4.out.mono ?_
                rintro e u9 ⟨un, ul, rfl, hJs, hu9⟩
                obtain ⟨Ea, ea, ec, Eb, eb, ed, rfl, rfl⟩ := hJs.forms
                have hpe2 := lspPosition_any et Y (wr.heap.size + 1) 3 83 #[.bool false, .int .i64 pa, .int .i64 pb, .int .i64 0, .int .i64 0, .string t.text] (0, 0) u9 _ _ hJs heb (fun k h1 _ => by have := hYl.out k h1; omega) (hC8.out.below hu9 hC8.out.lt) rfl rfl
                rw [hpe] at hpe2
                have hs9 := hu9.size
                have hQ9 := Lib.hid (hQ8.out.trans (hu9.mono (by omega)))
                replace hpe2 := Lib.hid hpe2
                clear hm4 x0 x1 x2 x3 hJs hC8 hX8 hQ8 hu9
                go_wp2_with fail
                refine hpe2.out.mono ?_
                rintro e W ⟨rfl, hC10, hb10⟩
                have hBW := Lib.hid (hBu2.out.trans (hQ9.out.trans (hb10.below (by omega) (by omega))))
                clear hpe2 hQ9 hb10
                have hC : Cel W (wr.heap.size + 1) 83 #[.bool false, .int .i64 pa, .int .i64 pb, .int .i64 pc, .int .i64 pd, .string t.text] := hC10
                have hX7 := hC
                have hX9 := hC
                replace hC := Lib.hid hC
                replace hX7 := Lib.hid hX7
                replace hX9 := Lib.hid hX9
                clear hC10
                have hcx : oneCh z = some ⟨false, pa, pb, pc, pd, t.text⟩ := by rw [hone.out, if_pos htk.out, if_neg hr0.out, hps, hpe]
                have hchn : chgs ((zs.map (·.1)).drop (q + 1)) (acc ++ [⟨false, pa, pb, pc, pd, t.text⟩]) = chgs (zs.map (·.1)) [] := by
                  rw [← hch.out, hdrop.out, chgs_cons, hcx]
                obtain ⟨dc, hdc⟩ := chDesc
                replace hdc := Lib.hid hdc
                replace hchn := Lib.hid hchn
                have hMW := hM.out.below hBW.out (by omega)
                have hrowW : W.ownsRow w.heap.size 83 6 (.slice CA acc.length cc) acc.length (chRow acc) := hrow.out.kept (row := none) ⟨hBW.out.os, hBW.out.tape, hBW.out.output, hBW.out.size, fun k hk _ => hBW.out.block k hk⟩ (by rcases hv : (Value.slice CA acc.length cc).ownBlock with _ | g <;> simp)
                have hWs := hBW.out.size
                obtain ⟨v', w4, hrun, hrow4, hgr⟩ := rowCh_more (W := W.drew.alloc (.cells #[.bool false, .int .i64 pa, .int .i64 pb, .int .i64 pc, .int .i64 pd, .string t.text] 83)) (gs := W.heap.size) (c := ⟨false, pa, pb, pc, pd, t.text⟩) ((show W.drew.ownsRow w.heap.size 83 6 (.slice CA acc.length cc) acc.length (chRow acc) from hrowW).alloc _) (by simp; omega) (Cel.fresh W.drew 83 #[.bool false, .int .i64 pa, .int .i64 pb, .int .i64 pc, .int .i64 pd, .string t.text]) (by have := hal.out; omega)
                obtain ⟨LB, ld, hLB⟩ : ∃ A c, v' = .slice A (acc.length + 1) c := by
                  rcases hrow4.2 with ⟨_, h1⟩ | ⟨g, cap, cur, e, _⟩
                  · omega
                  · exact ⟨_, _, e⟩
                subst hLB
                have hgs := hgr.size
                simp at hgs
                have hk4 : ∀ k, k < W.heap.size → (Value.slice CA acc.length cc).ownBlock ≠ some k → w4.heap[k]? = W.heap[k]? := fun k hk hne => (hgr.block k (by simp; omega) (fun e => hne e.symm)).trans (Below.heap_alloc W.drew _ k hk)
                have hbr : ∀ g, (Value.slice CA acc.length cc).ownBlock = some g → w.heap.size ≤ g := fun g hg => (hrow.out.lt g hg).1
                have hM4 : Cel w4 b 32 (mCells m (.slice Ai ni ci) (.slice Ai' ni' ci') (.slice CA acc.length cc)) := (hk4 _ hMW.lt (fun e => by have := hbr _ e; omega)).trans hMW
                have hCW := hC.out
                obtain ⟨W5, hW5⟩ : ∃ X, w4.setCell ⟨b, 11, none⟩ (.slice LB (acc.length + 1) ld) = X := ⟨_, rfl⟩
                have hk5 : ∀ k, k ≠ b → W5.heap[k]? = w4.heap[k]? := fun k hk => by rw [← hW5]; exact Below.heap_setCell w4 _ _ k hk
                have hs5 : W5.heap.size = w4.heap.size := by rw [← hW5]; simp [World.setCell]
                have hM5 : Cel W5 b 32 (mCells m (.slice Ai ni ci) (.slice Ai' ni' ci') (.slice LB (acc.length + 1) ld)) := by rw [← hW5]; exact hM4.set 11 _
                have hrow5 : W5.ownsRow w.heap.size 83 6 (.slice LB (acc.length + 1) ld) (acc.length + 1) (chRow (acc ++ [⟨false, pa, pb, pc, pd, t.text⟩])) := hrow4.kept (row := some b) ⟨by rw [← hW5]; rfl, by rw [← hW5]; rfl, by rw [← hW5]; rfl, by omega, fun k hk hne => hk5 k (fun e => hne (by rw [e]))⟩ (Or.inr fun e => by have := hrow4.lt _ e; omega)
                have hkk5 : ∀ k, k < w.heap.size → k ≠ b → W5.heap[k]? = W2.heap[k]? := fun k h1 h2 => (hk5 k h2).trans ((hk4 k (by omega) (fun e => by have := hbr _ e; omega)).trans ((hBW.out.block k (by omega)).trans (hkk.out k h1 h2)))
                have hbut5 : But w.heap.size b w W5 := by
                  have hD : Below W.heap.size W (W.drew.alloc (.cells #[.bool false, .int .i64 pa, .int .i64 pb, .int .i64 pc, .int .i64 pd, .string t.text] 83)) := (bel_drew (Below.refl W.heap.size W)).alloc (Nat.le_refl _) _
                  have h1 : But w.heap.size b wr w4 := (But.of (hBW.out.mono (by omega))).trans (But.of (Below.grown (hD.mono (show w.heap.size ≤ W.heap.size by omega)) hgr (show w.heap.size ≤ (W.heap.push _).size by rw [Array.size_push]; omega) hbr))
                  have h2 := (hbut.out.trans h1).set 11 (.slice LB (acc.length + 1) ld)
                  rw [hW5] at h2
                  exact h2
                have hx11 : w4.cell? ⟨b, 11, none⟩ = some (.slice CA acc.length cc) := hM4.cell 11
                have hf11 := hM4.froz 11
                have hCW4 : Cel w4 (wr.heap.size + 1) 83 #[.bool false, .int .i64 pa, .int .i64 pb, .int .i64 pc, .int .i64 pd, .string t.text] := (hk4 _ hCW.lt (fun e => by have := hrow.out.lt _ e; omega)).trans hCW
                have hsz5 : W2.heap.size ≤ W5.heap.size := by have := hsz; omega
                replace hrun := Lib.hid hrun
                replace hW5 := Lib.hid hW5
                have hS := Lib.hid (show Cel W.drew b 32 (mCells m (.slice Ai ni ci) (.slice Ai' ni' ci') (.slice CA acc.length cc)) from hMW.drew)
                have hT := Lib.hid (show Cel W.drew (wr.heap.size + 1) 83 #[.bool false, .int .i64 pa, .int .i64 pb, .int .i64 pc, .int .i64 pd, .string t.text] from hCW.drew)
                have hM4h := Lib.hid hM4
                have hM5h := Lib.hid hM5
                have hrow5h := Lib.hid hrow5
                have hkk5h := Lib.hid hkk5
                have hbut5h := Lib.hid hbut5
                have hCW4h := Lib.hid hCW4
                have hlen5 := Lib.hid (show (acc ++ [(⟨false, pa, pb, pc, pd, t.text⟩ : Ch)]).length = acc.length + 1 by simp)
                have hsz5h := Lib.hid hsz5
                have hbs : b ≠ wr.heap.size + 1 := by omega
                clear hMW hrowW hrow4 hgr hk4 hbr hM4 hCW hk5 hM5 hrow5 hkk5 hbut5 hCW4 hsz5 hcx hBW hC hX7 hX9 hfail hM hrow hkk hbut hgs hs5
                go_upto_region 12 with fail
                refine wp_region_T 10 (fun W => Cel W (wr.heap.size + 1) 83 #[.bool false, .int .i64 pa, .int .i64 pb, .int .i64 pc, .int .i64 pd, .string t.text]) (fun W => Cel W b 32 (mCells m (.slice Ai ni ci) (.slice Ai' ni' ci') (.slice CA acc.length cc))) (by kernel_rfl) ?_
                refine wpAnyT_takeW (i := 0) (v := .pointer (some ⟨b, 0, none⟩)) rfl (by kernel_rfl) (by kernel_rfl) (by kernel_rfl) (by decide) (fun _ _ _ h => h) (Or.inl ⟨by rfl, by
                  intro w' hSw
                  try dsimp only at hSw
                  go_simp⟩) hS.out hT.out ?_
                try simp only [Act.put, List.setIfInBounds_toArray]
                refine wpAnyT_takeW (i := 1) (v := .pointer (some ⟨b, 0, none⟩)) rfl (by kernel_rfl) (by kernel_rfl) (by kernel_rfl) (by decide) (fun _ _ _ h => h) (Or.inl ⟨by rfl, by
                  intro w' hSw
                  try dsimp only at hSw
                  go_simp⟩) hS.out hT.out ?_
                try simp only [Act.put]
                refine wpAnyT_takeW (i := 2) (v := .pointer (some ⟨b, 0, none⟩)) rfl (by kernel_rfl) (by kernel_rfl) (by kernel_rfl) (by decide) (fun _ _ _ h => h) (Or.inl ⟨by rfl, by
                  intro w' hSw
                  try dsimp only at hSw
                  go_simp⟩) hS.out hT.out ?_
                try simp only [Act.put]
                refine wpAnyT_takeW (i := 3) (v := .pointer (some ⟨b, 11, none⟩)) rfl (by kernel_rfl) (by kernel_rfl) (by kernel_rfl) (by decide) (fun _ _ _ h => h) (Or.inl ⟨by rfl, by
                  intro w' hSw
                  try dsimp only at hSw
                  go_simp⟩) hS.out hT.out ?_
                try simp only [Act.put]
                refine wpAnyT_take (i := 4) (v := .slice CA acc.length cc) rfl (by kernel_rfl) (by kernel_rfl) (by kernel_rfl) (by kernel_rfl) (by rfl) (fun _ _ _ h => h) (Or.inl ⟨by rfl, by
                  intro w' hSw
                  try dsimp only at hSw
                  have c11 : w'.cell? ⟨b, 11, none⟩ = some (.slice CA acc.length cc) := hSw.cell 11
                  go_simp⟩) hS.out hT.out ?_
                try simp only [Act.put]
                refine wpAnyT_takeW (i := 5) (v := .agg #[.bool false, .int .i64 pa, .int .i64 pb, .int .i64 pc, .int .i64 pd, .string t.text]) rfl (by kernel_rfl) (by kernel_rfl) (by kernel_rfl) (by decide) (fun _ _ _ h => h) (yieldsIf_load_mid (by rfl) 83 (.tmp 8) rfl (wr.heap.size + 1) 0 (by rfl) [.bool false, .int .i64 pa, .int .i64 pb, .int .i64 pc, .int .i64 pd, .string t.text] dc (fun W hW => Cel.rng hW) hdc.out.1 hdc.out.2 chInfo) hS.out hT.out ?_
                try simp only [Act.put]
                refine wpAnyT_one (i := 6) (by kernel_rfl) rfl (fun K hK => ?_)
                go_simp
                refine hK.out _ _ (fun _ => hS.out.alloc _) (hT.out.alloc _) ?_
                clear hK
                try simp only [Act.put, List.setIfInBounds_toArray, List.set_cons_zero, List.set_cons_succ]
                refine wpAnyT_one (i := 7) (by kernel_rfl) rfl (fun K hK => ?_)
                refine jl_step_run (by rfl) (.tmp 58) (.tmp 60) 30 30 (by rfl) (.slice CA acc.length cc) (.slice (some ⟨W.heap.size, 0, none⟩) 1 1) _ w4 (by rfl) (by rfl) hrun.out ?_
                refine hK.out _ _ (fun _ => hM4h.out) hCW4h.out ?_
                clear hK hrun hS hT
                try simp only [Act.put, List.setIfInBounds_toArray, List.set_cons_zero, List.set_cons_succ]
                refine wpAnyT_takeW (i := 8) (v := .pointer (some ⟨b, 0, none⟩)) rfl (by kernel_rfl) (by kernel_rfl) (by kernel_rfl) (by decide) (fun _ _ _ h => h) (Or.inl ⟨by rfl, by
                  intro w' hSw
                  go_simp⟩) hM4h.out hCW4h.out ?_
                try simp only [Act.put, List.setIfInBounds_toArray]
                refine wpAnyT_takeW (i := 9) (v := .pointer (some ⟨b, 11, none⟩)) rfl (by kernel_rfl) (by kernel_rfl) (by kernel_rfl) (by decide) (fun _ _ _ h => h) (Or.inl ⟨by rfl, by
                  intro w' hSw
                  go_simp⟩) hM4h.out hCW4h.out ?_
                try simp only [Act.put]
                refine wpAnyT_one (i := 10) (by kernel_rfl) rfl (fun K hK => ?_)
                go_simp
                rw [hW5.out]
                refine hK.out _ _ (fun h => by cases h) (by rw [← hW5.out]; exact hCW4h.out.away (p := ⟨b, 11, none⟩) (by show wr.heap.size + 1 ≠ b; omega) _) ?_
                clear hK hx11 hf11
                refine wpAnyT_done (by kernel_rfl) ?_
                go_wp2_with fail
                go_roundw
                case rel => exact ⟨q + 1, acc ++ [⟨false, pa, pb, pc, pd, t.text⟩], _, by omega, by go_num, hchn.out, by simp [hal.out], hM5h.out, by rw [hlen5.out]; exact hrow5h.out, fun h => by simp at h, hsz5h.out, hkk5h.out, hbut5h.out⟩
                case measure => simp [intOf]; omega
      · have hfull : (zs.map (·.1)).drop q = [] := List.drop_eq_nil_of_le (by simp; omega)
        rw [hfull] at hch
        have hR3 := hR2.out
        rw [← hch] at hR3
        have hR4 : R = (true, { m with chs := acc }) := hR3.symm
        subst hR4
        have hq1 : ¬ (q : Int) < (zs.length : Int) := by omega
        have hLf := Lib.hid (show LMem wr X B b { m with chs := acc } from ⟨_, _, _, hM, hId.out _ hbut, (⟨hrow.1, hrow.2.imp id (fun ⟨g, cap, cur, e1, e2, r⟩ => ⟨g, cap, cur, e1, Nat.le_trans hBw e2, r⟩)⟩ : wr.ownsRow B 83 6 _ _ _), hnil⟩)
        replace hbut := Lib.hid hbut
        clear hR3 hch hfull hM hrow hnil hkk hat hzb hR2 hrlt
        go_wp2_with fail
        exact bodyPost_ret (v := .bool true) (by simp [results, Tryz.results82, go_sem]) rfl ⟨rfl, hLf.out, hbut.out⟩
end Go.Proofs.YtlnkjacbdolhnaaGreatDoor
