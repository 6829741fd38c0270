/-
  The walks of rpc.ID, of the document's ID, and of its Same over messages.
-/
import Derived.Test.YtamcbgkppgdniaaGreatDoorRpE
import Derived.Test.YtamcbgkppgdniaaGreatDoorJma
import Derived.Test.YtamcbgkppgdniaaGreatDoorJsJ
import Derived.Test.YtamcbgkppgdniaaGreatDoorJmo
import Derived.Test.YtamcbgkppgdniaaGreatDoorJsQ
import Derived.Test.YtamcbgkppgdniaaGreatDoorJmu
import Derived.Test.YtamcbgkppgdniaaGreatDoorRpI
namespace Go.Proofs.YtamcbgkppgdniaaGreatDoor
open Go.RowKit

theorem refOwnG_says : OwnSaysS 161 ownL := fun s w hs => (refOwn_any s w hs).mono fun e w' ⟨g, hg, he, hB⟩ => ⟨by
  rw [he, ← hg], hB⟩
theorem refFormG_says : FormSays 107 (jform ownL Lib.validD) := refFormJ_any ownL Lib.validD refOwnG_says refValid_any
/-- The id that an envelope names. -/
def nullJ : Jsn := ⟨1, ⟨#[]⟩, [], []⟩
def jrid (Own : List UInt8 → List UInt8 × Int) (Val : List UInt8 → Bool) (j : Jsn) : Jsn :=
  if jgs j kId = false ∨ jcheck Own Val j ≠ 0 ∨ jisid (jgd j kId) = false then nullJ else jgd j kId
theorem flat_ownR (w : World) (tS tJ : TypeId) (k : Int) (t : ByteArray) (lo hi : Nat) (h0 : 0 ≤ k) (h1 : k ≤ 255) : OwnJ w tS tJ ⟨k, t, [], []⟩ lo hi (.slice none 0 0) (.slice none 0 0) := by
  rw [OwnJ_eq]
  exact ⟨h0, h1, 0, 0, #[], none, 0, [], ⟨none, 0, rfl, fun h => by simp at h⟩, rfl, (fun h => by simp at h), rfl, (fun i x u h => by simp at h), (fun i j u v _ h => by simp at h)⟩
theorem null_own (w : World) (tS tJ : TypeId) (lo hi : Nat) : OwnJ w tS tJ nullJ lo hi (.slice none 0 0) (.slice none 0 0) := flat_ownR w tS tJ 1 ⟨#[]⟩ lo hi (by decide) (by decide)
theorem null_jv (w : World) (X : Nat → Prop) : JV w X nullJ (.slice none 0 0) (.slice none 0 0) := (null_own w 9 25 0 0).jv _ |>.more (fun b h _ => by omega)
def IdEnd (x : Jsn) (w : World) (e : Ending) (w' : World) : Prop := ∃ vn vl, e = .returned (.agg #[.int .u8 x.kind, .string x.text, vn, vl]) ∧ OwnJ w' 9 25 x w.heap.size w'.heap.size vn vl ∧ Below w.heap.size w w'
def RIdEnd (x : Jsn) (w : World) (e : Ending) (w' : World) : Prop := ∃ vn vl, e = .returned (.agg #[.int .u8 x.kind, .string x.text, vn, vl]) ∧ JV w' (fun b => b < w.heap.size) x vn vl ∧ Below w.heap.size w w'
/-- On ID's way. -/
structure IdI (j : Jsn) (jn jl : Value) (w W : World) : Prop where
  cj : Cel W w.heap.size 25 #[.int .u8 j.kind, .string j.text, jn, jl]
  c2 : Cel W (w.heap.size + 1) 25 #[.int .u8 0, .string ⟨#[]⟩, .slice none 0 0, .slice none 0 0]
  bel : Below w.heap.size w W
  sz : w.heap.size + 2 ≤ W.heap.size
theorem IdI.step {j : Jsn} {jn jl : Value} {w W W' : World} (h : IdI j jn jl w W) (hb : Below W.heap.size W W') : IdI j jn jl w W' :=
  ⟨h.cj.below hb h.cj.lt, h.c2.below hb h.c2.lt, h.bel.trans (hb.mono h.bel.size), Nat.le_trans h.sz hb.size⟩
def laid4 (W : World) (A : Nat) (a1 a2 a3 a4 : Value) : World := (((W.setCell ⟨A, 0, none⟩ a1).setCell ⟨A, 1, none⟩ a2).setCell ⟨A, 2, none⟩ a3).setCell ⟨A, 3, none⟩ a4
theorem laid4_below {B A : Nat} {w W : World} (h : Below B w W) (hA : B ≤ A) (a1 a2 a3 a4 : Value) : Below B w (laid4 W A a1 a2 a3 a4) :=
  (((h.setCell (p := ⟨A, 0, none⟩) hA _).setCell (p := ⟨A, 1, none⟩) hA _).setCell (p := ⟨A, 2, none⟩) hA _).setCell (p := ⟨A, 3, none⟩) hA _
theorem laid4_other {A k : Nat} {W : World} (a1 a2 a3 a4 : Value) (h : k ≠ A) : (laid4 W A a1 a2 a3 a4).heap[k]? = W.heap[k]? := by
  unfold laid4
  rw [Below.heap_setCell _ _ _ _ h, Below.heap_setCell _ _ _ _ h, Below.heap_setCell _ _ _ _ h, Below.heap_setCell _ _ _ _ h]
theorem laid4_size {A : Nat} {W : World} (a1 a2 a3 a4 : Value) : (laid4 W A a1 a2 a3 a4).heap.size = W.heap.size := by unfold laid4; simp
theorem IdI.null {j : Jsn} {jn jl : Value} {w W : World} (h : IdI j jn jl w W) : IdEnd nullJ w (.returned (.agg #[.int .u8 1, .string ⟨#[]⟩, .slice none 0 0, .slice none 0 0])) (laid4 W (w.heap.size + 1) (.int .u8 1) (.string ⟨#[]⟩) (.slice none 0 0) (.slice none 0 0)) :=
  ⟨.slice none 0 0, .slice none 0 0, rfl, null_own _ _ _ _ _, laid4_below h.bel (by omega) _ _ _ _⟩
theorem IdI.rnull {j : Jsn} {jn jl : Value} {w W : World} (h : IdI j jn jl w W) : RIdEnd nullJ w (.returned (.agg #[.int .u8 1, .string ⟨#[]⟩, .slice none 0 0, .slice none 0 0])) (laid4 W (w.heap.size + 1) (.int .u8 1) (.string ⟨#[]⟩) (.slice none 0 0) (.slice none 0 0)) :=
  ⟨.slice none 0 0, .slice none 0 0, rfl, null_jv _ _, laid4_below h.bel (by omega) _ _ _ _⟩
set_option maxRecDepth 20000 in
set_option maxHeartbeats 8000000 in
theorem rpcID_any (j : Jsn) (X : Nat → Prop) (w : World) (jn jl : Value) (hE : EnvU w) (hV0 : JV w X j jn jl) (hbj : jbulk j ≤ 1000000) :
    Calls Tryz.prog 33 #[jvV j jn jl] w (IdEnd (jrid ownL Lib.validD j) w) := by
  have hJ : JV w (fun b => b < w.heap.size) j jn jl := hV0.more (fun _ _ h => h)
  have hCk := Lib.hid (fun (W : World) (hB : Below w.heap.size w W) => jsnCheck_any j _ W _ _ (hE.below hB) (hJ.later hB) hbj)
  have hGet := fun (W : World) (hB : Below w.heap.size w W) => jsnGet_any j _ W _ _ kId (hJ.later hB) (by omega)
  unfold GetJEnd at hGet
  have hbk := jgd_bulk j kId
  obtain ⟨A1, n1, c1, A2, n2, c2, rfl, rfl⟩ := hJ.forms
  obtain ⟨W0, hW0⟩ : ∃ W0, (w.alloc (.cells #[.int .u8 j.kind, .string j.text, .slice A1 n1 c1, .slice A2 n2 c2] 25)).alloc (.cells #[.int .u8 0, .string ⟨#[]⟩, .slice none 0 0, .slice none 0 0] 25) = W0 := ⟨_, rfl⟩
  have hV : IdI j (.slice A1 n1 c1) (.slice A2 n2 c2) w W0 := by
    rw [← hW0]
    refine ⟨(Cel.fresh w 25 _).alloc _, ?_, ((Below.refl _ _).alloc (Nat.le_refl _) _).alloc (by simp) _, by simp⟩
    have := Cel.fresh (w.alloc (.cells #[.int .u8 j.kind, .string j.text, .slice A1 n1 c1, .slice A2 n2 c2] 25)) 25 #[.int .u8 0, .string ⟨#[]⟩, .slice none 0 0, .slice none 0 0]
    simpa using this
  obtain ⟨R, hR⟩ : ∃ R, jrid ownL Lib.validD j = R := ⟨_, rfl⟩
  rw [hR]
  unfold jrid at hR
  obtain ⟨ck, hck⟩ : ∃ ck, jcheck ownL Lib.validD j = ck := ⟨_, rfl⟩
  rw [hck] at hR hCk
  clear hck hV0 hJ hE
  replace hW0 := Lib.hid hW0
  replace hGet := Lib.hid hGet
  replace hV := Lib.hid hV
  replace hR := Lib.hid hR
  unfold jvV
  go_enter Tryz.func33, Tryz.ntmps33
  go_upto_region 1 with fail
  rw [hW0.out]
  clear hW0
  obtain ⟨q0, q1, q2, q3⟩ := hV.out.cj.c4
  go_wp2_with fail
  refine (hGet.out _ hV.out.bel).mono ?_
  rintro e w1 ⟨idn, idl, rfl, hJid, hbid⟩
  obtain ⟨id, hid⟩ : ∃ x, (jget j kId).getD zeroJ = x := ⟨_, rfl⟩
  obtain ⟨hasid, hhid⟩ : ∃ x, (jget j kId).isSome = x := ⟨_, rfl⟩
  rw [hid] at hJid
  rw [hid, hhid]
  have hg : jgd j kId = id := hid
  have hs : jgs j kId = hasid := hhid
  replace hR := hR.out
  rw [hg, hs] at hR
  replace hR := Lib.hid hR
  rw [hg] at hbk
  obtain ⟨idA, ida, idb, idB, idc, idd, rfl, rfl⟩ := hJid.forms
  obtain ⟨WW, hWW⟩ : ∃ W, w1.alloc (.cells #[.int .u8 id.kind, .string id.text, .slice idA ida idb, .slice idB idc idd] 25) = W := ⟨_, rfl⟩
  have hxid : Below w1.heap.size w1 WW := by rw [← hWW]; exact (Below.refl _ _).alloc (Nat.le_refl _) _
  have hyid := hbid.trans (hxid.mono hbid.size)
  have hC : Cel WW w1.heap.size 25 #[.int .u8 id.kind, .string id.text, .slice idA ida idb, .slice idB idc idd] := by rw [← hWW]; exact Cel.fresh _ _ _
  have hO := Lib.hid (OwnJ.keep (w' := WW) id hJid (fun k _ hk => hxid.block k hk) (Nat.le_refl _) (Nat.le_refl _))
  have hz0 := hV.out.sz
  have hz1 := hbid.size
  have hz2 := hC.lt
  replace hV := Lib.hid (hV.out.step hyid)
  replace hC := Lib.hid hC
  replace hWW := Lib.hid hWW
  clear q0 q1 q2 q3 hGet hJid hbid hxid hyid hid hhid hg hs
  go_upto_region 2 with fail
  rw [hWW.out]
  clear hWW
  cases hasid
  · skip
    obtain ⟨⟨x0, x1, x2, x3⟩, y0, y1, y2, y3⟩ := And.intro hV.out.c2.c4 hV.out.c2.f4
    go_wp2_with fail
    have hRe : R = nullJ := by rw [← hR.out]; exact if_pos (Or.inl (by first | trivial | rfl))
    subst hRe
    exact bodyPost_ret (v := .agg #[.int .u8 1, .string ⟨#[]⟩, .slice none 0 0, .slice none 0 0]) (by simp [results, Tryz.results33, go_sem, x0, x1, x2, x3]) rfl hV.out.null
  obtain ⟨q0, q1, q2, q3⟩ := hV.out.cj.c4
  go_wp2_with fail
  refine (hCk.out _ hV.out.bel).mono ?_
  rintro e w2 ⟨rfl, hb⟩
  have hz3 := hb.size
  replace hO := Lib.hid (OwnJ.keep (w' := w2) id hO.out (fun k _ hk => hb.block k (by omega)) (Nat.le_refl _) (Nat.le_refl _))
  replace hV := Lib.hid (hV.out.step hb)
  replace hC := Lib.hid (hC.out.below hb hz2)
  clear q0 q1 q2 q3 hb hCk
  by_cases hc0 : ck = 0
  · subst hc0
    obtain ⟨i0, i1, i2, i3⟩ := hC.out.c4
    have hI := rpcId_any id _ w2 _ _ (OwnJ.jv _ hO.out) (by omega)
    obtain ⟨ii, hii⟩ : ∃ ii, jisid id = ii := ⟨_, rfl⟩
    rw [hii] at hI
    replace hI := Lib.hid hI
    replace hii := Lib.hid hii
    go_wp2_with fail
    refine hI.out.mono ?_
    rintro e w3 ⟨rfl, hb⟩
    have hz4 := hb.size
    replace hO := Lib.hid (OwnJ.keep (w' := w3) id hO.out (fun k _ hk => hb.block k (by omega)) (Nat.le_refl _) (Nat.le_refl _))
    replace hV := Lib.hid (hV.out.step hb)
    replace hC := Lib.hid (hC.out.below hb (by omega))
    clear i0 i1 i2 i3 hb hI
    cases ii
    · skip
      obtain ⟨⟨x0, x1, x2, x3⟩, y0, y1, y2, y3⟩ := And.intro hV.out.c2.c4 hV.out.c2.f4
      go_wp2_with fail
      have hRe : R = nullJ := by rw [← hR.out]; exact if_pos (Or.inr (Or.inr hii.out))
      subst hRe
      exact bodyPost_ret (v := .agg #[.int .u8 1, .string ⟨#[]⟩, .slice none 0 0, .slice none 0 0]) (by simp [results, Tryz.results33, go_sem, x0, x1, x2, x3]) rfl hV.out.null
    · obtain ⟨i0, i1, i2, i3⟩ := hC.out.c4
      obtain ⟨⟨x0, x1, x2, x3⟩, y0, y1, y2, y3⟩ := And.intro hV.out.c2.c4 hV.out.c2.f4
      go_wp2_with fail
      have hRe : R = id := by
        rw [← hR.out, if_neg]
        rintro (h | h | h)
        · first | exact h | cases h
        · exact h (by first | rfl | trivial)
        · rw [hii.out] at h; cases h
      rw [hRe]
      exact bodyPost_ret (v := .agg #[.int .u8 id.kind, .string id.text, .slice idA ida idb, .slice idB idc idd]) (by simp [results, Tryz.results33, go_sem, x0, x1, x2, x3]) rfl ⟨_, _, rfl, OwnJ.keep (lo' := w.heap.size) (hi' := (laid4 w3 (w.heap.size + 1) (.int .u8 id.kind) (.string id.text) (.slice idA ida idb) (.slice idB idc idd)).heap.size) id hO.out (fun k h1 _ => laid4_other _ _ _ _ (by omega)) (by omega) (by rw [laid4_size]; omega), laid4_below hV.out.bel (by omega) _ _ _ _⟩
  · have hc0' : (ck != 0) = true := by simp [hc0]
    replace hc0 := Lib.hid hc0
    obtain ⟨⟨x0, x1, x2, x3⟩, y0, y1, y2, y3⟩ := And.intro hV.out.c2.c4 hV.out.c2.f4
    go_wp2_with fail
    have hRe : R = nullJ := by rw [← hR.out]; exact if_pos (Or.inr (Or.inl hc0.out))
    subst hRe
    exact bodyPost_ret (v := .agg #[.int .u8 1, .string ⟨#[]⟩, .slice none 0 0, .slice none 0 0]) (by simp [results, Tryz.results33, go_sem, x0, x1, x2, x3]) rfl hV.out.null

set_option maxRecDepth 20000 in
set_option maxHeartbeats 8000000 in
theorem refIDm_any (j : Jsn) (X : Nat → Prop) (w : World) (jn jl : Value) (hV0 : JV w X j jn jl) (hbj : jbulk j ≤ 1000000) :
    Calls Tryz.prog 37 #[jvV j jn jl] w (RIdEnd (jrid ownL Lib.validD j) w) := by
  have hJ : JV w (fun b => b < w.heap.size) j jn jl := hV0.more (fun _ _ h => h)
  have hCk := Lib.hid (fun (W : World) (hB : Below w.heap.size w W) => refCheck_any ownL Lib.validD refFormG_says j _ W _ _ (hJ.later hB) hbj)
  have hGet := fun (W : World) (hB : Below w.heap.size w W) => refGetJ_any j _ W _ _ kId (hJ.later hB) (by omega)
  unfold RefGetEnd at hGet
  have hbk := jgd_bulk j kId
  obtain ⟨A1, n1, c1, A2, n2, c2, rfl, rfl⟩ := hJ.forms
  obtain ⟨W0, hW0⟩ : ∃ W0, (w.alloc (.cells #[.int .u8 j.kind, .string j.text, .slice A1 n1 c1, .slice A2 n2 c2] 25)).alloc (.cells #[.int .u8 0, .string ⟨#[]⟩, .slice none 0 0, .slice none 0 0] 25) = W0 := ⟨_, rfl⟩
  have hV : IdI j (.slice A1 n1 c1) (.slice A2 n2 c2) w W0 := by
    rw [← hW0]
    refine ⟨(Cel.fresh w 25 _).alloc _, ?_, ((Below.refl _ _).alloc (Nat.le_refl _) _).alloc (by simp) _, by simp⟩
    have := Cel.fresh (w.alloc (.cells #[.int .u8 j.kind, .string j.text, .slice A1 n1 c1, .slice A2 n2 c2] 25)) 25 #[.int .u8 0, .string ⟨#[]⟩, .slice none 0 0, .slice none 0 0]
    simpa using this
  obtain ⟨R, hR⟩ : ∃ R, jrid ownL Lib.validD j = R := ⟨_, rfl⟩
  rw [hR]
  unfold jrid at hR
  obtain ⟨ck, hck⟩ : ∃ ck, jcheck ownL Lib.validD j = ck := ⟨_, rfl⟩
  rw [hck] at hR hCk
  clear hck hV0 hJ
  replace hW0 := Lib.hid hW0
  replace hGet := Lib.hid hGet
  replace hV := Lib.hid hV
  replace hR := Lib.hid hR
  unfold jvV
  go_enter Tryz.func37, Tryz.ntmps37
  go_upto_region 1 with fail
  rw [hW0.out]
  clear hW0
  obtain ⟨q0, q1, q2, q3⟩ := hV.out.cj.c4
  go_wp2_with fail
  refine (hGet.out _ hV.out.bel).mono ?_
  rintro e w1 ⟨idn, idl, rfl, hJid, hbid⟩
  obtain ⟨id, hid⟩ : ∃ x, (jget j kId).getD zeroJ = x := ⟨_, rfl⟩
  obtain ⟨hasid, hhid⟩ : ∃ x, (jget j kId).isSome = x := ⟨_, rfl⟩
  rw [hid] at hJid
  rw [hid, hhid]
  have hg : jgd j kId = id := hid
  have hs : jgs j kId = hasid := hhid
  replace hR := hR.out
  rw [hg, hs] at hR
  replace hR := Lib.hid hR
  rw [hg] at hbk
  obtain ⟨idA, ida, idb, idB, idc, idd, rfl, rfl⟩ := hJid.forms
  obtain ⟨WW, hWW⟩ : ∃ W, w1.alloc (.cells #[.int .u8 id.kind, .string id.text, .slice idA ida idb, .slice idB idc idd] 25) = W := ⟨_, rfl⟩
  have hxid : Below w1.heap.size w1 WW := by rw [← hWW]; exact (Below.refl _ _).alloc (Nat.le_refl _) _
  have hyid := hbid.trans (hxid.mono hbid.size)
  have hC : Cel WW w1.heap.size 25 #[.int .u8 id.kind, .string id.text, .slice idA ida idb, .slice idB idc idd] := by rw [← hWW]; exact Cel.fresh _ _ _
  have hO := Lib.hid (hJid.below (hxid.mono (Nat.le_trans hV.out.bel.size hbid.size)) (fun _ h _ => h))
  have hz0 := hV.out.sz
  have hz1 := hbid.size
  have hz2 := hC.lt
  replace hV := Lib.hid (hV.out.step hyid)
  replace hC := Lib.hid hC
  replace hWW := Lib.hid hWW
  clear q0 q1 q2 q3 hGet hJid hbid hxid hyid hid hhid hg hs
  go_upto_region 2 with fail
  rw [hWW.out]
  clear hWW
  cases hasid
  · skip
    obtain ⟨⟨x0, x1, x2, x3⟩, y0, y1, y2, y3⟩ := And.intro hV.out.c2.c4 hV.out.c2.f4
    go_wp2_with fail
    have hRe : R = nullJ := by rw [← hR.out]; exact if_pos (Or.inl (by first | trivial | rfl))
    subst hRe
    exact bodyPost_ret (v := .agg #[.int .u8 1, .string ⟨#[]⟩, .slice none 0 0, .slice none 0 0]) (by simp [results, Tryz.results37, go_sem, x0, x1, x2, x3]) rfl hV.out.rnull
  obtain ⟨q0, q1, q2, q3⟩ := hV.out.cj.c4
  go_wp2_with fail
  refine (hCk.out _ hV.out.bel).mono ?_
  rintro e w2 ⟨rfl, hb⟩
  have hz3 := hb.size
  replace hO := Lib.hid (hO.out.below (hb.mono (Nat.le_trans hV.out.bel.size (Nat.le_refl _))) (fun _ h _ => h))
  replace hV := Lib.hid (hV.out.step hb)
  replace hC := Lib.hid (hC.out.below hb hz2)
  clear q0 q1 q2 q3 hb hCk
  by_cases hc0 : ck = 0
  · subst hc0
    obtain ⟨i0, i1, i2, i3⟩ := hC.out.c4
    have hI := refIsID_any id _ w2 _ _ hO.out (by omega)
    obtain ⟨ii, hii⟩ : ∃ ii, jisid id = ii := ⟨_, rfl⟩
    rw [hii] at hI
    replace hI := Lib.hid hI
    replace hii := Lib.hid hii
    go_wp2_with fail
    refine hI.out.mono ?_
    rintro e w3 ⟨rfl, hb⟩
    have hz4 := hb.size
    replace hO := Lib.hid (hO.out.below (hb.mono (Nat.le_trans hV.out.bel.size (Nat.le_refl _))) (fun _ h _ => h))
    replace hV := Lib.hid (hV.out.step hb)
    replace hC := Lib.hid (hC.out.below hb (by omega))
    clear i0 i1 i2 i3 hb hI
    cases ii
    · skip
      obtain ⟨⟨x0, x1, x2, x3⟩, y0, y1, y2, y3⟩ := And.intro hV.out.c2.c4 hV.out.c2.f4
      go_wp2_with fail
      have hRe : R = nullJ := by rw [← hR.out]; exact if_pos (Or.inr (Or.inr hii.out))
      subst hRe
      exact bodyPost_ret (v := .agg #[.int .u8 1, .string ⟨#[]⟩, .slice none 0 0, .slice none 0 0]) (by simp [results, Tryz.results37, go_sem, x0, x1, x2, x3]) rfl hV.out.rnull
    · obtain ⟨i0, i1, i2, i3⟩ := hC.out.c4
      obtain ⟨⟨x0, x1, x2, x3⟩, y0, y1, y2, y3⟩ := And.intro hV.out.c2.c4 hV.out.c2.f4
      go_wp2_with fail
      have hRe : R = id := by
        rw [← hR.out, if_neg]
        rintro (h | h | h)
        · first | exact h | cases h
        · exact h (by first | rfl | trivial)
        · rw [hii.out] at h; cases h
      rw [hRe]
      exact bodyPost_ret (v := .agg #[.int .u8 id.kind, .string id.text, .slice idA ida idb, .slice idB idc idd]) (by simp [results, Tryz.results37, go_sem, x0, x1, x2, x3]) rfl ⟨_, _, rfl, hO.out.below (laid4_below (Below.refl w.heap.size _) (by omega) _ _ _ _) (fun _ h _ => h), laid4_below hV.out.bel (by omega) _ _ _ _⟩
  · have hc0' : (ck != 0) = true := by simp [hc0]
    replace hc0 := Lib.hid hc0
    obtain ⟨⟨x0, x1, x2, x3⟩, y0, y1, y2, y3⟩ := And.intro hV.out.c2.c4 hV.out.c2.f4
    go_wp2_with fail
    have hRe : R = nullJ := by rw [← hR.out]; exact if_pos (Or.inr (Or.inl hc0.out))
    subst hRe
    exact bodyPost_ret (v := .agg #[.int .u8 1, .string ⟨#[]⟩, .slice none 0 0, .slice none 0 0]) (by simp [results, Tryz.results37, go_sem, x0, x1, x2, x3]) rfl hV.out.rnull

end Go.Proofs.YtamcbgkppgdniaaGreatDoor


/-
  How great the values of a message are that was read: plain.
-/
namespace Go.Proofs.YtamcbgkppgdniaaGreatDoor

theorem zeroJ_bulk : jbulk zeroJ = 1 := by rw [zeroJ, jbulk_eq]; rfl
theorem zeroM_bulk : MsgBulk zeroM := by
  have h := zeroJ_bulk
  refine ⟨?_, ?_, ?_⟩ <;> (show jbulk zeroJ ≤ _; omega)
theorem jread_bulk {Own : List UInt8 → List UInt8 × Int} {Val : List UInt8 → Bool} {j : Jsn} (h : jbulk j ≤ 1000000) : MsgBulk (jread Own Val j).1 := by
  have hz := zeroJ_bulk
  have h1 := jgd_bulk j kId
  have h2 := jgd_bulk j kPar
  have h3 := jgd_bulk j kRes
  unfold jread
  split
  · exact zeroM_bulk
  · split
    · exact zeroM_bulk
    · split
      · unfold jasks
        split
        · exact zeroM_bulk
        · refine ⟨?_, ?_, ?_⟩
          · show jbulk (jgd j kId) ≤ _; omega
          · show jbulk (jgd j kPar) ≤ _; omega
          · show jbulk zeroJ ≤ _; omega
      · unfold janswers
        split
        · exact zeroM_bulk
        · split
          · split
            · exact zeroM_bulk
            · refine ⟨?_, ?_, ?_⟩
              · show jbulk (jgd j kId) ≤ _; omega
              · show jbulk zeroJ ≤ _; omega
              · show jbulk (jgd j kRes) ≤ _; omega
          · split
            · exact zeroM_bulk
            · refine ⟨?_, ?_, ?_⟩
              · show jbulk (jgd j kId) ≤ _; omega
              · show jbulk zeroJ ≤ _; omega
              · show jbulk zeroJ ≤ _; omega
theorem jrid_bulk {Own : List UInt8 → List UInt8 × Int} {Val : List UInt8 → Bool} {j : Jsn} (h : jbulk j ≤ 1000000) : jbulk (jrid Own Val j) ≤ 1000000 := by
  have h1 := jgd_bulk j kId
  have hn : jbulk nullJ = 1 := by rw [nullJ, jbulk_eq]; rfl
  unfold jrid
  split
  · omega
  · omega
end Go.Proofs.YtamcbgkppgdniaaGreatDoor
