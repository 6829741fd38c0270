/-
  The walk of lsp.member: an object's member, as it lies.
-/
import Derived.Test.YtlnkjacbdolhnaaGreatDoorJsB
import Derived.Deep.CutBlock
import Derived.Test.YtlnkjacbdolhnaaGreatDoorM00
namespace Go.Proofs.YtlnkjacbdolhnaaGreatDoor
open Go.RowKit

/-- How a call ends that hands a value out of another. -/
def MemEnd (r : Jsn) (X : Nat → Prop) (w : World) (e : Ending) (w' : World) : Prop := ∃ vn vl, e = .returned (.agg #[.int .u8 r.kind, .string r.text, vn, vl]) ∧ JV w' X r vn vl ∧ Below w.heap.size w w'
theorem zero8_jv (w : World) (X : Nat → Prop) : JV w X ⟨0, ⟨#[]⟩, [], []⟩ (.slice none 0 0) (.slice none 0 0) := by
  rw [JV_eq]
  exact ⟨by omega, by omega, ⟨none, 0, rfl, fun h => by simp at h⟩, none, 0, rfl, fun h => by simp at h⟩
theorem Cel.d4 {w : World} {b : Nat} {t : TypeId} {x0 x1 x2 x3 : Value} (h : Cel w b t #[x0, x1, x2, x3]) :
    w.cell? ⟨b, 0, none⟩ = some x0 ∧ w.cell? ⟨b, 1, none⟩ = some x1 ∧ w.cell? ⟨b, 2, none⟩ = some x2 ∧ w.cell? ⟨b, 3, none⟩ = some x3 := ⟨h.cell 0, h.cell 1, h.cell 2, h.cell 3⟩
theorem find_at {n : List ByteArray} {x : ByteArray} {q : Nat} (hq : n[q]? = some x) (h : ∀ (m : Nat) y, m < q → n[m]? = some y → y ≠ x) : jfind n x = some q := by
  unfold jfind
  have hlt := (List.getElem?_eq_some_iff.1 hq).1
  rw [List.findIdx?_eq_some_iff_getElem]
  refine ⟨hlt, by simpa using (List.getElem?_eq_some_iff.1 hq).2, fun m hm => ?_⟩
  simpa using h m _ hm (List.getElem?_eq_getElem (by omega))
theorem mem_none {k : Int} {s : ByteArray} {n : List ByteArray} {l : List Jsn} {x : ByteArray} (h : ∀ (m : Nat) y, n[m]? = some y → m < l.length → y ≠ x) : memJ ⟨k, s, n, l⟩ x = ⟨0, ⟨#[]⟩, [], []⟩ := by
  unfold memJ jget
  by_cases hk : k = 7
  · rw [if_pos hk]
    dsimp only
    rcases hf : jfind n x with _ | i
    · rfl
    · have h1 : i < n.length ∧ n[i]? = some x := by
        unfold jfind at hf
        rw [List.findIdx?_eq_some_iff_getElem] at hf
        obtain ⟨a, b, _⟩ := hf
        exact ⟨a, by rw [List.getElem?_eq_getElem a]; simpa using b⟩
      dsimp only
      rw [List.getElem?_eq_none (by
        by_cases hi : i < l.length
        · exact absurd rfl (h i x h1.2 hi)
        · omega)]
      rfl
  · rw [if_neg hk]; rfl
set_option maxRecDepth 100000 in
set_option maxHeartbeats 2000000 in
theorem lspMember_any (j : Jsn) (X : Nat → Prop) (w : World) (vn vl : Value) (x : ByteArray) (hV : JV w X j vn vl) (hbk : jbulk j ≤ 1000000000000) :
    Calls Tryz.prog 70 #[.agg #[.int .u8 j.kind, .string j.text, vn, vl], .string x] w (MemEnd (memJ j x) X w) := by
  obtain ⟨k, s, n, l⟩ := j
  obtain ⟨_, hn, hl, _, hkids⟩ := bulk_parts hbk
  dsimp only at hl hkids hn
  have hnam := hV.names
  obtain ⟨An, cn, rfl⟩ := hnam.len
  obtain ⟨A, c, zs, rfl, hz, h2, h3⟩ := hV.elems
  dsimp only at hnam ⊢
  have hlen : zs.length = l.length := by rw [← hz, List.length_map]
  rw [← hlen] at hl
  obtain ⟨w0, hw0⟩ : ∃ w0, (w.alloc (.cells #[.int .u8 k, .string s, .slice An n.length cn, .slice A zs.length c] 25)).alloc (.cells #[.int .u8 0, .string ⟨#[]⟩, .slice none 0 0, .slice none 0 0] 25) = w0 := ⟨_, rfl⟩
  have hB0 : Below w.heap.size w w0 := by rw [← hw0]; exact ((Below.refl _ _).alloc (Nat.le_refl _) _).alloc (by simp) _
  have hC1 : Cel w0 w.heap.size 25 #[.int .u8 k, .string s, .slice An n.length cn, .slice A zs.length c] := by rw [← hw0]; exact (Cel.fresh _ _ _).alloc _
  have hC2 : Cel w0 (w.heap.size + 1) 25 #[.int .u8 0, .string ⟨#[]⟩, .slice none 0 0, .slice none 0 0] := by
    rw [← hw0]
    have := Cel.fresh (w.alloc (.cells #[.int .u8 k, .string s, .slice An n.length cn, .slice A zs.length c] 25)) 25 #[.int .u8 0, .string ⟨#[]⟩, .slice none 0 0, .slice none 0 0]
    simpa using this
  have hna := hnam.later hB0
  have hat := Lib.hid (fun (i : Nat) (hi : i < zs.length) => JV.at h2 h3 hB0 hi)
  obtain ⟨a0, a1, a2, a3⟩ := hC1.d4
  obtain ⟨b0, b1, b2, b3⟩ := hC2.d4
  have s0 := hC2.froz 0
  have s1 := hC2.froz 1
  have s2 := hC2.froz 2
  have s3 := hC2.froz 3
  obtain ⟨r, hr⟩ : ∃ r, memJ ⟨k, s, n, l⟩ x = r := ⟨_, rfl⟩
  rw [hr]
  replace hr := Lib.hid hr
  replace hw0 := Lib.hid hw0
  replace hna := Lib.hid hna
  replace hz := Lib.hid hz
  replace hB0 := Lib.hid hB0
  replace hlen := Lib.hid hlen
  replace h2 := Lib.hid h2
  clear hV h3 hnam hbk hkids hC1 hC2
  have hzero : r = ⟨0, ⟨#[]⟩, [], []⟩ → ∀ e, e = .returned (.agg #[.int .u8 0, .string ⟨#[]⟩, .slice none 0 0, .slice none 0 0]) → MemEnd r X w e ((((w0.setCell ⟨w.heap.size + 1, 0, none⟩ (.int .u8 0)).setCell ⟨w.heap.size + 1, 1, none⟩ (.string ⟨#[]⟩)).setCell ⟨w.heap.size + 1, 2, none⟩ (.slice none 0 0)).setCell ⟨w.heap.size + 1, 3, none⟩ (.slice none 0 0)) := by
    rintro h e rfl
    subst h
    exact ⟨_, _, rfl, zero8_jv _ _, (((hB0.out.setCell (by simp) _).setCell (by simp) _).setCell (by simp) _).setCell (by simp) _⟩
  replace hzero := Lib.hid hzero
  by_cases hk : k = 7
  · subst hk
    go_enter Tryz.func70, Tryz.ntmps70
    go_upto_region 1 with fail
    rw [hw0.out]
    clear hw0
    go_wp2_with fail
    go_loopw [14] (fun i wr => ∃ q : Nat, q ≤ n.length ∧ i = .int .i64 q ∧ wr = w0 ∧ ∀ (m : Nat) y, m < q → n[m]? = some y → m < zs.length → y ≠ x) (fun i _ => n.length - (intOf i).toNat)
    case atStart => exact ⟨0, Nat.zero_le _, rfl, rfl, fun m y h => by omega⟩
    case round =>
      obtain ⟨q, hq, rfl, hwr, hno⟩ := hrel
      subst hwr
      replace hno := Lib.hid hno
      by_cases hlt : q < n.length
      · obtain ⟨A', c', he, h1⟩ := hna.out
        obtain ⟨g, o, rfl, _, hg, hcell⟩ := h1 (by omega)
        injection he with he1 he2 he3
        subst he1
        obtain ⟨y, hy⟩ : ∃ y, n[q]? = some y := ⟨_, List.getElem?_eq_getElem hlt⟩
        have d0 := hcell q y hy
        clear h1 hcell he2 he3
        have hq0 : (0 : Int) ≤ (q : Int) := by omega
        have hq1 : (q : Int) < (n.length : Int) := by omega
        by_cases hyx : y = x
        · subst hyx
          by_cases hqz : q < zs.length
          · have hqz1 : (q : Int) < (zs.length : Int) := by omega
            obtain ⟨g2, o2, ⟨z, vx, vy⟩, hzq, hzm, rfl, hVz, e0, e1, e2, e3⟩ := hat.out q hqz
            dsimp only at hVz e0 e1 e2 e3
            obtain ⟨Ax, nx, cx, Ay, ny, cy, rfl, rfl⟩ := hVz.forms
            have hrz : r = z := by
              rw [← hr.out]
              unfold memJ jget
              rw [if_pos rfl, find_at hy (fun m y' hm hy' => hno.out m y' hm hy' (by omega))]
              dsimp only
              rw [← hz.out, List.getElem?_map, hzq]
              rfl
            subst hrz
            have hVw := Lib.hid (h2.out _ hzm)
            clear hVz h2
            clear hzero hat hr hno hzq hzm
            go_wp2_with fail
            refine bodyPost_ret (v := .agg #[.int .u8 r.kind, .string r.text, .slice Ax nx cx, .slice Ay ny cy]) (by simp [results, Tryz.results70, go_sem, b0, b1, b2, b3]) rfl ⟨_, _, rfl, hVw.out.later ?_, ?_⟩
            all_goals exact (((hB0.out.setCell (by simp) _).setCell (by simp) _).setCell (by simp) _).setCell (by simp) _
          · have hqz1 : ¬ (q : Int) < (zs.length : Int) := by omega
            clear hat hzero h2
            go_wp2_with fail
            go_roundw
            case rel => exact ⟨q + 1, by omega, by go_num, trivial, fun m y' hm hy' hmz => hno.out m y' (by omega) hy' hmz⟩
            case measure => simp [intOf]; omega
        · have hyx1 := jeq_f hyx
          replace hyx := Lib.hid hyx
          clear hat hzero h2
          go_wp2_with fail
          go_roundw
          case rel =>
            refine ⟨q + 1, by omega, by go_num, trivial, fun m y' hm hy' hmz => ?_⟩
            by_cases hmq : m = q
            · subst hmq
              rw [hy] at hy'
              injection hy' with hy'
              subst hy'
              exact hyx.out
            · exact hno.out m y' (by omega) hy' hmz
          case measure => simp [intOf]; omega
      · have hq1 : ¬ (q : Int) < (n.length : Int) := by omega
        have hrz : r = ⟨0, ⟨#[]⟩, [], []⟩ := by rw [← hr.out]; exact mem_none fun m y hy hml => hno.out m y (by have := (List.getElem?_eq_some_iff.1 hy).1; omega) hy (by rw [hlen.out]; exact hml)
        have hfin := Lib.hid (hzero.out hrz)
        clear h2 hzero hat hr hrz hno
        go_wp2_with fail
        refine bodyPost_ret (v := .agg #[.int .u8 0, .string ⟨#[]⟩, .slice none 0 0, .slice none 0 0]) (by simp [results, Tryz.results70, go_sem, b0, b1, b2, b3]) rfl (hfin.out _ rfl)
  · have hk1 : (k == 7) = false := by simpa using hk
    have hrz : r = ⟨0, ⟨#[]⟩, [], []⟩ := by
      rw [← hr.out]
      unfold memJ jget
      rw [if_neg hk]
      rfl
    have hfin := Lib.hid (hzero.out hrz)
    replace hk := Lib.hid hk
    clear h2 hzero hat hr hrz
    go_enter Tryz.func70, Tryz.ntmps70
    go_upto_region 1 with fail
    rw [hw0.out]
    clear hw0
    go_wp2_with fail
    refine bodyPost_ret (v := .agg #[.int .u8 0, .string ⟨#[]⟩, .slice none 0 0, .slice none 0 0]) (by simp [results, Tryz.results70, go_sem, b0, b1, b2, b3]) rfl (hfin.out _ rfl)
end Go.Proofs.YtlnkjacbdolhnaaGreatDoor
