/-
  The walk of rostrumlaw07.RpcOthers: the law answers true.
-/
import Derived.Test.YtdjfoabinjfnfaaGreatDoorRwW
import Derived.Test.YtdjfoabinjfnfaaGreatDoorM39
import Derived.Test.YtdjfoabinjfnfaaGreatDoorOrdH
import Derived.Test.YtdjfoabinjfnfaaGreatDoorN00
import Derived.Test.YtdjfoabinjfnfaaGreatDoorM30
namespace Go.Proofs.YtdjfoabinjfnfaaGreatDoor
open Go.RowKit
theorem refMDesc2 : ∃ d, Tryz.prog.underlying 69 = some d ∧ d.isRow = true := ⟨_, Tryz.underlying69, rfl⟩
theorem refMInfo2 : (Tryz.prog.info? 69).map (·.size) = some 16 := by kernel_rfl
def PickR (W : World) (v : Value) (pn : Nat) : Prop := ∃ A c, v = .slice A pn c ∧ (0 < pn → ∃ g o, A = some ⟨g, o, none⟩ ∧ g < W.heap.size ∧ ∀ j, j < pn → ∃ p : Int, W.cell? ⟨g, o + j, none⟩ = some (.int .i64 p) ∧ -9223372036854775808 ≤ p ∧ p ≤ 9223372036854775807)
theorem PickR.below {W W' : World} {v : Value} {pn : Nat} (h : PickR W v pn) (hb : Below W.heap.size W W') : PickR W' v pn := by
  obtain ⟨A, c, e, h1⟩ := h
  refine ⟨A, c, e, fun hp => ?_⟩
  obtain ⟨g, o, e2, hg, h2⟩ := h1 hp
  refine ⟨g, o, e2, by have := hb.size; omega, fun j hj => ?_⟩
  obtain ⟨p, hp1, hp2⟩ := h2 j hj
  exact ⟨p, (hb.cell (p := ⟨g, o + j, none⟩) hg).trans hp1, hp2⟩
theorem write_ok (M : Msg) (h : (jwrite ownL Lib.validD M).2 = 0) : 1 ≤ M.kind ∧ M.kind ≤ 4 ∧ mok M = true ∧ (jwrite ownL Lib.validD M).1 = menv M ∧ jcheck ownL Lib.validD (menv M) = 0 := by
  unfold jwrite at h ⊢
  split at h
  · cases h
  rename_i hk
  rw [if_neg hk]
  split at h
  · cases h
  rename_i hm
  rw [if_neg hm]
  split at h
  · rename_i hc; exact absurd h hc
  rename_i hc
  rw [if_neg hc]
  exact ⟨by omega, by omega, by simpa using hm, rfl, by simpa using hc⟩
theorem menv_pos (M : Msg) : 0 < (menv M).names.length := by
  have h := env_get M kVer
  rw [if_pos rfl, get_lkp (menv_ok M).1] at h
  unfold lkp at h
  rcases hf : jfind (menv M).names kVer with _ | i
  · rw [hf] at h; cases h
  · have := (find_lt hf).1; omega
theorem menv_few (M : Msg) : (menv M).names.length ≤ 100 := by
  have h0 : Sm 0 objJ := ⟨Nat.le_refl _, Nat.le_refl _⟩
  have h2 : Sm 2 (headJ M) := (h0.put kVer verJ).put kId M.id
  have h4 : Sm 4 (askJ M) := by
    unfold askJ
    split
    · exact (h2.put kMeth (strJ M.method)).put kPar M.params
    · exact ⟨by have := h2.1; omega, by have := h2.2; omega⟩
  have h5 : Sm 5 (resJ M) := h4.put kRes M.result
  have h6 : Sm 6 (menv M) := by
    unfold menv
    split
    · exact h5.put kErr (errJ M)
    · exact ⟨by have := h5.1; omega, by have := h5.2; omega⟩
  have := h6.1; omega
theorem ValR.jv {W : World} {Y : Nat → Prop} {v : Value} {V : List JE} (h : ValR W Y v V) : ∀ z ∈ V, JV W Y z.1 z.2.1 z.2.2 := by
  obtain ⟨_, _, _, _, _, h2⟩ := h
  exact h2
def lenV : Value → Nat
  | .slice _ n _ => n
  | _ => 0
theorem pick_n (p : Int) (N : Nat) (h : 0 < N) (h2 : N ≤ 101) : ∃ n : Nat, wrap64 ((IntKind.u64.wrap p).tmod (N : Int)) = (n : Int) ∧ n < N := by
  have hu : 0 ≤ IntKind.u64.wrap p := by
    have h64 : (2 : Int) ^ 64 ≠ 0 := by decide
    simp only [IntKind.wrap, IntKind.signed, IntKind.bits]
    exact Int.emod_nonneg _ h64
  rw [Int.tmod_eq_emod_of_nonneg hu]
  have h3 := Int.emod_nonneg (IntKind.u64.wrap p) (show (N : Int) ≠ 0 by omega)
  have h4 := Int.emod_lt_of_pos (IntKind.u64.wrap p) (show (0 : Int) < (N : Int) by omega)
  refine ⟨(IntKind.u64.wrap p % N).toNat, ?_, by omega⟩
  unfold wrap64
  omega
theorem map_erase {α β : Type} (f : α → β) (n : Nat) (l : List α) : (l.eraseIdx n).map f = (l.map f).eraseIdx n := by
  rw [List.eraseIdx_eq_take_drop_succ, List.eraseIdx_eq_take_drop_succ, List.map_append, List.map_take, List.map_drop]
theorem bulk_zip : ∀ (n : List ByteArray) (l : List Jsn), n.length = l.length → (n.map fun b => b.size + 1).sum + jbulks l = ((n.zip l).map fun p => p.1.size + 1 + jbulk p.2).sum
  | [], [], _ => rfl
  | [], _ :: _, h => by simp at h
  | _ :: _, [], h => by simp at h
  | a :: n, x :: l, h => by
    have ih := bulk_zip n l (by simpa using h)
    have e : jbulks (x :: l) = jbulk x + jbulks l := by simp [jbulks]
    rw [List.zip_cons_cons, List.map_cons, List.map_cons, List.sum_cons, List.sum_cons, e]
    dsimp only
    omega
theorem sum_perm {α : Type} (f : α → Nat) {l m : List α} (h : l.Perm m) : (l.map f).sum = (m.map f).sum := (h.map f).sum_nat
theorem bulk_perm {n n' : List ByteArray} {l l' : List Jsn} {k : Int} {s : ByteArray} (h : (n.zip l).Perm (n'.zip l')) (h1 : n.length = l.length) (h2 : n'.length = l'.length) : jbulk ⟨k, s, n, l⟩ = jbulk ⟨k, s, n', l'⟩ := by
  rw [jbulk_eq, jbulk_eq]
  have e1 := bulk_zip n l h1
  have e2 := bulk_zip n' l' h2
  have e3 := sum_perm (fun p : ByteArray × Jsn => p.1.size + 1 + jbulk p.2) h
  omega
theorem others_bulk (M : Msg) (name : ByteArray) (x : Jsn) {E : Jsn} (hE : E = menv M) (h0 : -9223372036854775808 ≤ M.code) (h1 : M.code ≤ 9223372036854775807) : jbulk (⟨7, ⟨#[]⟩, name :: E.names, x :: E.list⟩ : Jsn) ≤ name.size + jbulk x + jbulk M.id + jbulk M.params + jbulk M.result + M.method.size + M.text.size + 1000 := by
  have hb := env_bulk M
  have hl := of_len M.code h0 h1
  rw [← hE] at hb
  obtain ⟨k, t, n, l⟩ := E
  rw [jbulk_eq] at hb
  rw [jbulk_eq]
  have e : jbulks (x :: l) = jbulk x + jbulks l := by simp [jbulks]
  dsimp only
  rw [e, List.map_cons, List.sum_cons]
  have z : (⟨#[]⟩ : ByteArray).size = 0 := rfl
  omega
theorem start_ot {w W9 W10 : World} {kb : Nat} {name : ByteArray} {E x : Jsn} {zs : List JE} {vN vV g1 g2 : Value} {B C : Nat} (hkb : W9.heap.size = kb) (hb : Below W9.heap.size W9 W10) (hC : Cel W10 kb 25 #[.int .u8 7, .string ⟨#[]⟩, .slice none 0 0, .slice none 0 0])
    (hN : W9.ownsRow B 9 1 vN (name :: E.names).length ((name :: E.names).map Value.string)) (hV : W9.ownsRow C 25 4 vV ((x, g1, g2) :: zs : List JE).length (((x, g1, g2) :: zs : List JE).flatMap encJ)) (hx : JV W9 (fun _ => True) x g1 g2) (hz : ∀ z ∈ zs, JV W9 (fun _ => True) z.1 z.2.1 z.2.2) (hB : Below w.heap.size w W9) :
    OtI w kb (name :: E.names) ((x, g1, g2) :: zs) [] [] vN vV (.slice none 0 0) (.slice none 0 0) W10 := by
  have hlt := hC.lt
  have hN' := ownRow_keep (w' := W10) hN (fun g hg => hb.block g (hN.lt g hg).2)
  have hV' := ownRow_keep (w' := W10) hV (fun g hg => hb.block g (hV.lt g hg).2)
  have hE : ∀ g, g < W9.heap.size → Els W10 kb (.slice none 0 0) (.slice none 0 0) g := fun g hg => ⟨by omega, by omega, (fun e => by cases e), (fun e => by cases e)⟩
  have hj : ∀ z ∈ ((x, g1, g2) :: zs : List JE), JV W10 (Els W10 kb (.slice none 0 0) (.slice none 0 0)) z.1 z.2.1 z.2.2 := fun z hz' => by
    have h0 : JV W9 (fun _ => True) z.1 z.2.1 z.2.2 := by
      rcases List.mem_cons.1 hz' with e | hz'
      · subst e; exact hx
      · exact hz z hz'
    exact JV.keep hb.size (fun p _ hp => hb.cell hp) (fun g _ hg => hE g hg) _ h0
  refine ⟨hC, ⟨rfl, .inl ⟨rfl, rfl⟩⟩, ⟨rfl, .inl ⟨rfl, rfl⟩⟩, (fun g hg => by cases hg), own_str hN' (fun g hg => hE g (hN.lt g hg).2), ?_, (fun z hz => by cases hz), hB.trans (hb.mono (by have := hB.size; omega)), by have := hB.size; omega⟩
  rcases hV'.2 with ⟨e, h0⟩ | ⟨g', cap, cur, e, hg', hh, hnc, hcm, hcs, htk⟩
  · simp at h0
  · have hc' := hV'.cells (g := g') (by rw [e]; rfl)
    have hlt' := hV.lt g' (by rw [e]; rfl)
    refine ⟨some ⟨g', 0, none⟩, cap, e, hnc, fun hp => ⟨g', 0, rfl, hE g' hlt'.2, by have := hb.size; omega, fun j z hz i u hu => ?_⟩, hj⟩
    have := hc' (j * 4 + i) u (flat_get _ j i z u hz hu)
    rw [addr_add] at this
    rwa [show 0 + j * 4 + i = 0 + (j * 4 + i) by omega]
def keyL : List ByteArray := [kVer, kId, kMeth, kPar, kRes, kErr]
set_option maxRecDepth 100000 in
set_option maxHeartbeats 32000000 in
theorem rpcOthers_any (M : Msg) (name : ByteArray) (x : Jsn) (X : Nat → Prop) (w : World) (x1 x2 p1 p2 r1 r2 jn jl pk : Value) (pn : Nat) (hE : EnvC w) (hA : MsgJ w M x1 x2 p1 p2 r1 r2) (hV : JV w X x jn jl) (hPk : PickR w pk pn) (hpn : pn ≤ 1000000000) (hk0 : 0 ≤ M.kind) (hk1 : M.kind ≤ 255) (hco0 : -9223372036854775808 ≤ M.code) (hco1 : M.code ≤ 9223372036854775807)
    (k1 : jbulk M.id ≤ 10000000) (k2 : jbulk M.params ≤ 10000000) (k3 : jbulk M.result ≤ 10000000) (k4 : M.method.size ≤ 10000000) (k5 : M.text.size ≤ 10000000) (k6 : jbulk x ≤ 10000000) (k7 : name.size ≤ 10000000) :
    Calls Tryz.prog 7 #[msgV M x1 x2 p1 p2 r1 r2, .string name, jvV x jn jl, pk] w fun e w' => e = .returned (.bool true) ∧ Below w.heap.size w w' := by
  have hEl := Lib.hid (fun (W : World) (hB : Below w.heap.size w W) => hE.below hB)
  have hMl := Lib.hid (fun (W : World) (hB : Below w.heap.size w W) => hA.later hB)
  have hPl := Lib.hid (fun (W : World) (hB : Below w.heap.size w W) => hPk.below hB)
  have hWt := Lib.hid (fun (W : World) (hB : Below w.heap.size w W) => weight7_any x X W _ _ (hV.later hB) (by omega))
  have hHu := Lib.hid (fun (W : World) (hB : Below w.heap.size w W) => huge_any M W _ _ _ _ _ _ (hA.later hB) k1 k2 k3 k4 k5)
  have hGj := Lib.hid (fun (W : World) (hB : Below w.heap.size w W) => given7_any x _ W _ _ (hV.later hB) (by omega))
  have hjb := bulk_jw x
  obtain ⟨jA, ja, jb, jB, jc, jd, rfl, rfl⟩ := hV.forms
  obtain ⟨xA, xa, xb, xB, xc, xd, rfl, rfl⟩ := hA.1.forms
  obtain ⟨pA, pa, pb, pB, pc, pd, rfl, rfl⟩ := hA.2.1.forms
  obtain ⟨rA, ra, rb, rB, rc, rd, rfl, rfl⟩ := hA.2.2.forms
  obtain ⟨KA, kc, rfl, _⟩ := id hPk
  obtain ⟨dm, hdm⟩ := msgDesc
  replace hdm := Lib.hid hdm
  obtain ⟨dr, hdr⟩ := refMDesc2
  replace hdr := Lib.hid hdr
  obtain ⟨dj, hdj⟩ := jsnDesc
  replace hdj := Lib.hid hdj
  obtain ⟨W0, hW0⟩ : ∃ W0, (w.alloc (.cells #[.int .u8 M.kind, .int .u8 M.id.kind, .string M.id.text, .slice xA xa xb, .slice xB xc xd, .string M.method, .int .u8 M.params.kind, .string M.params.text, .slice pA pa pb, .slice pB pc pd, .int .u8 M.result.kind, .string M.result.text, .slice rA ra rb, .slice rB rc rd, .int .i64 M.code, .string M.text] 69)).alloc (.cells #[.int .u8 x.kind, .string x.text, .slice jA ja jb, .slice jB jc jd] 25) = W0 := ⟨_, rfl⟩
  have hCm : Hid (Cel W0 w.heap.size 69 #[.int .u8 M.kind, .int .u8 M.id.kind, .string M.id.text, .slice xA xa xb, .slice xB xc xd, .string M.method, .int .u8 M.params.kind, .string M.params.text, .slice pA pa pb, .slice pB pc pd, .int .u8 M.result.kind, .string M.result.text, .slice rA ra rb, .slice rB rc rd, .int .i64 M.code, .string M.text]) := Lib.hid (by rw [← hW0]; exact (Cel.fresh _ _ _).alloc _)
  have hCj : Hid (Cel W0 (w.heap.size + 1) 25 #[.int .u8 x.kind, .string x.text, .slice jA ja jb, .slice jB jc jd]) := Lib.hid (by
    rw [← hW0]
    have := Cel.fresh (w.alloc (.cells #[.int .u8 M.kind, .int .u8 M.id.kind, .string M.id.text, .slice xA xa xb, .slice xB xc xd, .string M.method, .int .u8 M.params.kind, .string M.params.text, .slice pA pa pb, .slice pB pc pd, .int .u8 M.result.kind, .string M.result.text, .slice rA ra rb, .slice rB rc rd, .int .i64 M.code, .string M.text] 69)) 25 #[.int .u8 x.kind, .string x.text, .slice jA ja jb, .slice jB jc jd]
    simpa using this)
  have hB : Hid (Below w.heap.size w W0) := Lib.hid (by rw [← hW0]; exact ((Below.refl _ _).alloc (Nat.le_refl _) _).alloc (by simp) _)
  replace hW0 := Lib.hid hW0
  clear hE hA hV hPk
  unfold jvV msgV
  go_enter Tryz.func7, Tryz.ntmps7
  go_upto_region 1 with fail
  rw [hW0.out]
  clear hW0
  go_wp2_with fail
  refine (works7_any _ (hEl.out _ hB.out)).mono ?_
  rintro e w1 ⟨rfl, hb⟩
  replace hCm := Lib.hid (hCm.out.below hb hCm.out.lt)
  replace hCj := Lib.hid (hCj.out.below hb hCj.out.lt)
  replace hB := Lib.hid (hB.out.trans (hb.mono hB.out.size))
  clear hb
  go_wp2_with ((with_reducible refine wpl ?_); refine wpList_load_allG (by rfl) 69 (.tmp 4) (by rfl) w.heap.size _ 69 dr (by rfl) hCm.out hdr.out.1 hdr.out.2 refMInfo2 ?_)
  refine (hHu.out _ hB.out).mono ?_
  rintro e w2 ⟨R, rfl, hR, hb⟩
  replace hCm := Lib.hid (hCm.out.below hb hCm.out.lt)
  replace hCj := Lib.hid (hCj.out.below hb hCj.out.lt)
  replace hB := Lib.hid (hB.out.trans (hb.mono hB.out.size))
  clear hb hHu
  cases R
  case true =>
    clear hR
    go_wp2_with fail
    refine (works7_any _ (hEl.out _ hB.out)).mono ?_
    rintro e w94 ⟨rfl, hb⟩
    replace hB := Lib.hid (hB.out.trans (hb.mono hB.out.size))
    clear hb
    go_wp2_with fail
    go_ret
    exact ⟨rfl, hB.out⟩
  obtain ⟨d1, d2, d3, d4⟩ := hR rfl
  clear hR
  obtain ⟨q0, q1, q2, q3⟩ := hCj.out.c4
  go_wp2_with fail
  refine (hWt.out _ hB.out).mono ?_
  rintro e w3 ⟨ma, rfl, hm1, hm2, hb⟩
  replace hCm := Lib.hid (hCm.out.below hb hCm.out.lt)
  replace hCj := Lib.hid (hCj.out.below hb hCj.out.lt)
  replace hB := Lib.hid (hB.out.trans (hb.mono hB.out.size))
  clear hb hWt q0 q1 q2 q3
  by_cases ca0 : 500 ≤ (ma : Int)
  case pos =>
    clear hm1 hm2
    go_wp2_with fail
    refine (works7_any _ (hEl.out _ hB.out)).mono ?_
    rintro e w95 ⟨rfl, hb⟩
    replace hB := Lib.hid (hB.out.trans (hb.mono hB.out.size))
    clear hb
    go_wp2_with fail
    go_ret
    exact ⟨rfl, hB.out⟩
  have hja : jbulk x ≤ 96000 := by omega
  clear hm1 hm2 hjb
  by_cases cb0 : 1000 < (name.size : Int)
  case pos =>
    go_wp2_with fail
    refine (works7_any _ (hEl.out _ hB.out)).mono ?_
    rintro e w96 ⟨rfl, hb⟩
    replace hB := Lib.hid (hB.out.trans (hb.mono hB.out.size))
    clear hb
    go_wp2_with fail
    go_ret
    exact ⟨rfl, hB.out⟩
  have hks : name.size ≤ 1000 := by omega
  obtain ⟨V3, hV3⟩ : ∃ W, w3.alloc (.cells #[.string kVer, .string kId, .string kMeth, .string kPar, .string kRes, .string kErr] 9) = W := ⟨_, rfl⟩
  have hx : Below w3.heap.size w3 V3 := by rw [← hV3]; exact (Below.refl _ _).alloc (Nat.le_refl _) _
  have hCk : Hid (Cel V3 w3.heap.size 9 #[.string kVer, .string kId, .string kMeth, .string kPar, .string kRes, .string kErr]) := Lib.hid (by rw [← hV3]; exact Cel.fresh _ _ _)
  replace hCm := Lib.hid (hCm.out.below hx hCm.out.lt)
  replace hCj := Lib.hid (hCj.out.below hx hCj.out.lt)
  replace hB := Lib.hid (hB.out.trans (hx.mono hB.out.size))
  replace hV3 := Lib.hid hV3
  clear hx
  have hkc : ∀ q, q < 6 → ∃ y, keyL[q]? = some y ∧ V3.cell? ⟨w3.heap.size, q, none⟩ = some (.string y) := fun q hq => by
    match q, hq with
    | 0, _ => exact ⟨_, rfl, hCk.out.cell 0⟩
    | 1, _ => exact ⟨_, rfl, hCk.out.cell 1⟩
    | 2, _ => exact ⟨_, rfl, hCk.out.cell 2⟩
    | 3, _ => exact ⟨_, rfl, hCk.out.cell 3⟩
    | 4, _ => exact ⟨_, rfl, hCk.out.cell 4⟩
    | 5, _ => exact ⟨_, rfl, hCk.out.cell 5⟩
  replace hkc := Lib.hid hkc
  clear hCk
  go_upto_region 3 with fail
  unfold kVer kId kMeth kPar kRes kErr at hV3
  go_wp2_with fail
  rw [hV3.out]
  clear hV3
  go_loopw [10, 39] (fun _ i wr => wr = V3 ∧ ∃ q : Nat, q ≤ 6 ∧ i = .int .i64 q ∧ ∀ p y, p < q → keyL[p]? = some y → y ≠ name) (fun _ i _ => 6 - (intOf i).toNat)
  case atStart => exact ⟨rfl, 0, by omega, rfl, fun p y h => by omega⟩
  case round =>
    obtain ⟨rfl, q, hq, rfl, hne⟩ := hrel
    by_cases hlt : q < 6
    · obtain ⟨y, hy, hyc⟩ := hkc.out q hlt
      by_cases hyn : y = name
      · subst hyn
        clear hne
        go_wp2_with fail
        go_ret
        exact ⟨rfl, hB.out⟩
      · have hyf : (y.toList == name.toList) = false := by
          rw [ByteArray.toList_eq, ByteArray.toList_eq]
          cases hc : (y.data.toList == name.data.toList)
          · rfl
          · exact absurd (Go.WideShapes.bytes_inj (by simpa using hc)) hyn
        replace hyn := Lib.hid hyn
        replace hne := Lib.hid hne
        replace hy := Lib.hid hy
        go_wp2_with fail
        go_roundw
        case rel => exact ⟨by first | rfl | trivial, q + 1, by omega, by go_num, fun p y' hp hy' => by
          rcases Nat.lt_or_ge p q with h' | h'
          · exact hne.out p y' h' hy'
          · have : p = q := by omega
            subst this
            rw [hy.out] at hy'
            injection hy' with hy'
            rw [← hy']; exact hyn.out⟩
        case measure => simp [intOf]; omega
    · have hall := Lib.hid (fun p y (hp : p < 6) hy => hne p y (by omega) hy)
      clear hne
      go_upto_region 9 with fail
      clear hkc
      have hTo := Lib.hid (to_any M _ _ _ _ _ _ _ (hMl.out _ hB.out) ⟨by omega, by omega, by omega⟩)
      go_wp2_with ((with_reducible refine wpl ?_); refine wpList_load_all rfl 69 (.tmp 4) (by rfl) w.heap.size _ 69 dr (by rfl) hCm.out hdr.out.1 hdr.out.2 refMInfo2 ?_)
      refine hTo.out.mono ?_
      rintro e w4 ⟨u1, u2, t1, t2, o1, o2, he, hMu, hb⟩
      obtain ⟨uA, ua, ub, uB, uc, ud, rfl, rfl⟩ := hMu.1.forms
      obtain ⟨tA, ta, tb, tB, tc, td, rfl, rfl⟩ := hMu.2.1.forms
      obtain ⟨oA, oa, ob, oB, oc, od, rfl, rfl⟩ := hMu.2.2.forms
      replace hCm := Lib.hid (hCm.out.below hb hCm.out.lt)
      replace hCj := Lib.hid (hCj.out.below hb hCj.out.lt)
      replace hB := Lib.hid (hB.out.trans (hb.mono hB.out.size))
      have hWr := Lib.hid (rpcWrite_any M _ w4 _ _ _ _ _ _ (hEl.out _ hB.out).1 hMu.1 hMu.2.1 hMu.2.2 (by omega) (by omega) (by omega) (by omega) (by omega) hco0 hco1 hk0 hk1)
      unfold msgV at he
      subst he
      clear hb hMu hTo
      go_wp2_with fail
      refine hWr.out.mono ?_
      intro e w5 hz
      obtain ⟨vn, vl, he, hO, hb⟩ := hz
      obtain ⟨eA, ea, eb, eB, ec, ed, rfl, rfl⟩ := hO.forms
      have hWk := write_ok M
      obtain ⟨⟨E, c5⟩, hEE⟩ : ∃ E, jwrite ownL Lib.validD M = E := ⟨_, rfl⟩
      rw [hEE] at he hO hWk
      dsimp only at he hO hWk
      unfold jvV at he
      subst he
      obtain ⟨W5, hW5⟩ : ∃ W, w5.alloc (.cells #[.int .u8 E.kind, .string E.text, .slice eA ea eb, .slice eB ec ed] 25) = W := ⟨_, rfl⟩
      have hx : Below w5.heap.size w5 W5 := by rw [← hW5]; exact (Below.refl _ _).alloc (Nat.le_refl _) _
      have hCe : Hid (Cel W5 w5.heap.size 25 #[.int .u8 E.kind, .string E.text, .slice eA ea eb, .slice eB ec ed]) := Lib.hid (by rw [← hW5]; exact Cel.fresh _ _ _)
      have hy := hb.trans (hx.mono hb.size)
      have hO4 := OwnJ.keep (w' := W5) E hO (fun k _ hk => hx.block k hk) (Nat.le_refl _) (Nat.le_refl _)
      replace hCm := Lib.hid (hCm.out.below hy hCm.out.lt)
      replace hCj := Lib.hid (hCj.out.below hy hCj.out.lt)
      replace hB := Lib.hid (hB.out.trans (hy.mono hB.out.size))
      have hJE := Lib.hid ((OwnJ.jv E hO4).more (fun _ _ _ => trivial))
      replace hW5 := Lib.hid hW5
      replace hWk := Lib.hid hWk
      clear hx hy hb hO hO4 hWr hEE
      go_upto_region 10 with fail
      rw [hW5.out]
      clear hW5
      by_cases hc5 : c5 = 0
      case neg =>
        have hc6 : (c5 != 0) = true := by simp [hc5]
        replace hc5 := Lib.hid hc5
        go_wp2_with fail
        go_ret
        exact ⟨rfl, hB.out⟩
      subst hc5
      obtain ⟨n1, n4, nok, hEm, nck⟩ := hWk.out rfl
      have hEk : ObjK E := by rw [hEm]; exact menv_ok M
      have hE0 : 0 < E.names.length := by rw [hEm]; exact menv_pos M
      have hE1 : E.names.length ≤ 100 := by rw [hEm]; exact menv_few M
      have hEll := Lib.hid (hEk.2.2.symm)
      replace hEm := Lib.hid hEm
      replace nok := Lib.hid nok
      replace nck := Lib.hid nck
      replace hEk := Lib.hid hEk
      clear hWk
      have hnm := hJE.out.names
      obtain ⟨eN, ecc, een, hnc⟩ := id hnm
      obtain ⟨ng, no, rfl, _, hng, hncell⟩ := hnc hE0
      have hz5 := hCe.out.lt
      obtain ⟨i0, hi0, hz0, hz1, hz2⟩ := info_parts infoS
      obtain ⟨W6, hW6⟩ : ∃ W, W5.alloc (.cells #[.string name] 9) = W := ⟨_, rfl⟩
      have hb6 : Below W5.heap.size W5 W6 := by rw [← hW6]; exact (Below.refl _ _).alloc (Nat.le_refl _) _
      have hs6 : W6.heap.size = W5.heap.size + 1 := by rw [← hW6]; simp
      have ho6 : W6.ownsRow W5.heap.size 9 1 (.slice (some ⟨W5.heap.size, 0, none⟩) 1 1) 1 [.string name] := ⟨rfl, .inr ⟨_, _, #[.string name], rfl, Nat.le_refl _, by rw [← hW6]; exact Cel.fresh W5 9 #[.string name], Nat.le_refl _, by unfold maxLen; omega, rfl, rfl⟩⟩
      obtain ⟨vN, W7, hr7, ho7, hg7, _, _⟩ := run_append_own_at (P := Tryz.prog) W6 W5.heap.size 22 22 9 i0 _ 1 16 Tryz.underlying22 hi0 hz0 hz1 hz2 rfl (by decide) _ 1 _ ho6 ⟨ng, no, none⟩ E.names.length ecc (E.names.map Value.string) (by simp)
        (fun j u hu => by
          rw [addr_add]
          rw [List.getElem?_map] at hu
          rcases hx : E.names[j]? with _ | y
          · rw [hx] at hu; cases hu
          · rw [hx] at hu; injection hu with hu; rw [← hu]; exact (hb6.cell (p := ⟨ng, no + j, none⟩) hng).trans (hncell j y hx)) (fun u hu => by obtain ⟨y, _, rfl⟩ := List.mem_map.1 hu; rfl) (by unfold maxLen; omega) (by omega) (by omega)
      have hb7 : Below W5.heap.size W5 W7 := hb6.trans (grown_keep hg7 (fun g' hg' => by injection hg' with hg'; rw [← hg']; exact Nat.le_refl _) (by omega))
      rw [← hW6] at hr7
      replace hr7 := Lib.hid hr7
      have e7 : [Value.string name] ++ E.names.map Value.string = (name :: E.names).map Value.string := rfl
      rw [e7, show 1 + E.names.length = (name :: E.names).length by rw [List.length_cons]; omega] at ho7
      replace ho7 := Lib.hid ho7
      replace hW6 := Lib.hid hW6
      obtain ⟨q0, q1, q2, q3⟩ := hCe.out.c4
      injection een with eq1 eq2 eq3
      subst eq1 eq2 eq3
      clear hnm hnc hncell ho6 hb6 hg7 hs6 hi0 hz0 hz1 hz2 i0
      go_upto_region 13 with (at_builtin; refine jl_append_run (by rfl) (.tmp 56) (.tmp 58) 22 22 rfl (.slice (some ⟨W5.heap.size, 0, none⟩) 1 1) (.slice (some ⟨ng, no, none⟩) E.names.length eb) _ rfl rfl hr7.out ?_)
      replace hCm := Lib.hid (hCm.out.below hb7 hCm.out.lt)
      replace hCj := Lib.hid (hCj.out.below hb7 hCj.out.lt)
      replace hCe := Lib.hid (hCe.out.below hb7 hCe.out.lt)
      replace hB := Lib.hid (hB.out.trans (hb7.mono hB.out.size))
      replace hJE := Lib.hid (hJE.out.later hb7)
      have hz7 := hb7.size
      clear q0 q1 q2 q3 hr7 hb7 hW6
      have hGv := Lib.hid (fun (W : World) (hB' : Below W7.heap.size W7 W) => hGj.out W (hB.out.trans (hB'.mono hB.out.size)))
      have hRj := Lib.hid (fun (W : World) (hB : Below W7.heap.size W7 W) => (hCj.out.below hB hCj.out.lt).rng)
      have hRe := Lib.hid (fun (W : World) (hB : Below W7.heap.size W7 W) => (hCe.out.below hB hCe.out.lt))
      refine wp_region_held_drew (S := fun W => Below W7.heap.size W7 W) (by kernel_rfl) (bel_drew (Below.refl _ _)) (fun hS => ?_)
      refine hTake (i := 0) (v := .agg #[.int .u8 x.kind, .string x.text, .slice jA ja jb, .slice jB jc jd]) rfl (by kernel_rfl) (by kernel_rfl) (by kernel_rfl) (fun _ _ _ h => h) (yieldsIf_load_mid (by rfl) 25 (.tmp 6) rfl (w.heap.size + 1) 0 (by rfl) [.int .u8 x.kind, .string x.text, .slice jA ja jb, .slice jB jc jd] dj hRj.out hdj.out.1 hdj.out.2 jsnInfo) hS ?_
      try simp only [Act.put, List.setIfInBounds_toArray, List.set_cons_zero, List.set_cons_succ]
      refine hTake (i := 3) (v := .pointer (some ⟨w5.heap.size, 3, none⟩)) rfl (by kernel_rfl) (by kernel_rfl) (by kernel_rfl) (fun _ _ _ h => h) (Or.inl ⟨by rfl, by
        intro w' hSw
        go_simp⟩) hS ?_
      try simp only [Act.put, List.setIfInBounds_toArray, List.set_cons_zero, List.set_cons_succ]
      refine hTake (i := 4) (v := .slice eB ec ed) rfl (by kernel_rfl) (by kernel_rfl) (by kernel_rfl) (fun _ _ _ h => h) (Or.inl ⟨by rfl, by
        intro w' hSw
        have c3 := (hRe.out _ hSw).cell 3
        simp only [List.getElem?_toArray, List.getElem?_cons_zero, List.getElem?_cons_succ] at c3
        go_simp⟩) hS ?_
      try simp only [Act.put, List.setIfInBounds_toArray, List.set_cons_zero, List.set_cons_succ]
      refine hOne (i := 1) (by kernel_rfl) rfl (fun K hK => ?_)
      go_simp
      refine (hGv.out _ hS).mono ?_
      rintro e v1 ⟨gn, gl, rfl, hOg, hb⟩
      obtain ⟨gA, ga, gb, gB, gc, gd, rfl, rfl⟩ := hOg.forms
      have hS1 : Below W7.heap.size W7 v1 := hS.trans (hb.mono hS.size)
      have hv0 := hS.size
      have hv1 := hb.size
      clear hb hS
      have hS := hS1
      refine hK.out _ _ hS ?_
      clear hK
      try simp only [Act.put, List.setIfInBounds_toArray, List.set_cons_zero, List.set_cons_succ]
      have hJE1 := hJE.out.later hS
      obtain ⟨eN2, ec2, zs, ezs, hzm, hzj, hzc⟩ := (by obtain ⟨ek, et, en, el⟩ := E; exact hJE1.elems : ∃ (A : Option Addr) (c : Nat) (zs : List JE), Value.slice eB ec ed = .slice A zs.length c ∧ zs.map (·.1) = E.list ∧ (∀ z ∈ zs, JV v1 (fun _ => True) z.1 z.2.1 z.2.2) ∧
        (0 < zs.length → ∃ g o, A = some ⟨g, o, none⟩ ∧ True ∧ g < v1.heap.size ∧ ∀ j z, zs[j]? = some z → ∀ (i : Nat) (u : Value), (encJ z)[i]? = some u → v1.cell? ⟨g, o + j * 4 + i, none⟩ = some u))
      have hzl : zs.length = E.list.length := by rw [← hzm, List.length_map]
      have hzp : 0 < zs.length := by have := hEll.out; omega
      have hzq : zs.length ≤ 100 := by have := hEll.out; omega
      replace hzl := Lib.hid hzl
      replace hzm := Lib.hid hzm
      obtain ⟨zg, zo, rfl, _, hzg, hzcell⟩ := hzc hzp
      obtain ⟨i0, hi0, hz0, hz1, hz2⟩ := info_parts infoJ
      obtain ⟨W8, hW8⟩ : ∃ W, v1.alloc (.cells #[.int .u8 x.kind, .string x.text, .slice gA ga gb, .slice gB gc gd] 25) = W := ⟨_, rfl⟩
      have hb8 : Below v1.heap.size v1 W8 := by rw [← hW8]; exact (Below.refl _ _).alloc (Nat.le_refl _) _
      have hs8 : W8.heap.size = v1.heap.size + 1 := by rw [← hW8]; simp
      have ho8 : W8.ownsRow v1.heap.size 25 4 (.slice (some ⟨v1.heap.size, 0, none⟩) 1 1) 1 (encJ (x, .slice gA ga gb, .slice gB gc gd)) := ⟨rfl, .inr ⟨_, _, #[.int .u8 x.kind, .string x.text, .slice gA ga gb, .slice gB gc gd], rfl, Nat.le_refl _, by rw [← hW8]; exact Cel.fresh v1 25 _, Nat.le_refl _, by unfold maxLen; omega, rfl, rfl⟩⟩
      obtain ⟨vV, W9, hr9, ho9, hg9, _, _⟩ := run_append_own_at (P := Tryz.prog) W8 v1.heap.size 23 23 25 i0 _ 4 72 Tryz.underlying23 hi0 hz0 hz1 hz2 rfl (by decide) _ 1 _ ho8 ⟨zg, zo, none⟩ zs.length ec2 (zs.flatMap encJ) (by rw [flat_len])
        (fun j u hu => by
          rw [addr_add]
          have hj1 := (List.getElem?_eq_some_iff.1 hu).1
          rw [flat_len] at hj1
          have hq : j / 4 < zs.length := by omega
          have hz := List.getElem?_eq_getElem hq
          have hm : j % 4 < (encJ zs[j / 4]).length := by rw [encJ_len]; omega
          have h3 := flat_get zs (j / 4) (j % 4) _ _ hz (List.getElem?_eq_getElem hm)
          rw [show j / 4 * 4 + j % 4 = j by omega, hu] at h3
          have h4 := hzcell (j / 4) _ hz (j % 4) _ (List.getElem?_eq_getElem hm)
          rw [show zo + j / 4 * 4 + j % 4 = zo + j by omega] at h4
          rw [h3]; exact (hb8.cell (p := ⟨zg, zo + j, none⟩) hzg).trans h4) (fun u hu => by
          obtain ⟨z, hz, hu⟩ := List.mem_flatMap.1 hu
          obtain ⟨Ax, nx, cx, Ay, ny, cy, e1, e2⟩ := (hzj z hz).forms
          simp [encJ] at hu
          rcases hu with hu | hu | hu | hu
          · rw [hu]; rfl
          · rw [hu]; rfl
          · rw [hu, e1]; rfl
          · rw [hu, e2]; rfl) (by unfold maxLen; omega) (by omega) (by omega)
      have hb9 : Below v1.heap.size v1 W9 := hb8.trans (grown_keep hg9 (fun g' hg' => by injection hg' with hg'; rw [← hg']; exact Nat.le_refl _) (by omega))
      have hJg : JV W9 (fun _ => True) x (.slice gA ga gb) (.slice gB gc gd) := ((OwnJ.jv x hOg).more (fun _ _ _ => trivial)).later hb9
      have hJz : ∀ z ∈ zs, JV W9 (fun _ => True) z.1 z.2.1 z.2.2 := fun z hz => (hzj z hz).later hb9
      have e9 : encJ (x, .slice gA ga gb, .slice gB gc gd) ++ zs.flatMap encJ = ((x, .slice gA ga gb, .slice gB gc gd) :: zs : List JE).flatMap encJ := rfl
      rw [e9, show 1 + zs.length = ((x, .slice gA ga gb, .slice gB gc gd) :: zs : List JE).length by rw [List.length_cons]; omega] at ho9
      rw [← hW8] at hr9
      rw [ezs]
      replace hW8 := Lib.hid hW8
      refine hOne (i := 2) (by kernel_rfl) rfl (fun K hK => ?_)
      go_simp
      refine hK.out _ (v1.alloc (.cells #[.int .u8 x.kind, .string x.text, .slice gA ga gb, .slice gB gc gd] 25)) (by rw [hW8.out]; exact hS.trans (hb8.mono hS.size)) ?_
      clear hK
      try simp only [Act.put, List.setIfInBounds_toArray, List.set_cons_zero, List.set_cons_succ]
      refine hOne (i := 5) (by kernel_rfl) rfl (fun K hK => ?_)
      refine jl_step_run (by rfl) (.tmp 62) (.tmp 64) 23 23 (by rfl) (.slice (some ⟨v1.heap.size, 0, none⟩) 1 1) (.slice (some ⟨zg, zo, none⟩) zs.length ec2) _ W9 (by rfl) (by rfl) hr9 ?_
      have hS9 : Below W7.heap.size W7 W9 := hS.trans (hb9.mono hS.size)
      refine hK.out _ _ hS9 ?_
      clear hK hS hS1
      have hS := hS9
      try simp only [Act.put, List.setIfInBounds_toArray, List.set_cons_zero, List.set_cons_succ]
      refine hOne (i := 6) (by kernel_rfl) rfl (fun K hK => ?_)
      go_simp
      refine hK.out _ _ hS ?_
      clear hK
      refine wpAnyH_done (by kernel_rfl) ?_ _
      have ho7' := ownRow_keep (w' := W9) ho7.out (fun g hg => hS.block g (ho7.out.lt g hg).2)
      obtain ⟨kb, hkb⟩ : ∃ k, W9.heap.size = k := ⟨_, rfl⟩
      obtain ⟨W10, hW10⟩ : ∃ W, W9.alloc (.cells #[.int .u8 7, .string ⟨#[]⟩, .slice none 0 0, .slice none 0 0] 25) = W := ⟨_, rfl⟩
      have hb10 : Below W9.heap.size W9 W10 := by rw [← hW10]; exact (Below.refl _ _).alloc (Nat.le_refl _) _
      have hs10 : W10.heap.size = kb + 1 := by rw [← hW10, ← hkb]; simp
      have hI := start_ot (w := W9) (kb := kb) (name := name) (zs := zs) (E := E) (W9 := W9) (W10 := W10) hkb hb10 (by rw [← hW10, ← hkb]; exact Cel.fresh _ _ _) ho7' ho9 hJg hJz (Below.refl _ _)
      replace hCm := Lib.hid (hCm.out.below hS hCm.out.lt)
      replace hCj := Lib.hid (hCj.out.below hS hCj.out.lt)
      replace hB := Lib.hid (hB.out.trans (hS.mono hB.out.size))
      replace hI := Lib.hid hI
      replace hkb := Lib.hid hkb
      replace hW10 := Lib.hid hW10
      clear hS hS9 ho7' ho9 hJg hJz hJE1 hr9 hb9 hb8 hW8 hs8 ho8 hg9 hzc hzj hzcell ho7 hOg hv0 hv1 hi0 hz0 hz1 hz2 i0 hRe hRj hGv hJE
      go_upto_region 15 with fail
      rw [hW10.out]
      clear hW10
      try rw [hkb.out]
      go_wp2_with fail
      go_loopw [13, 14, 16] (fun vN' vV' i wr => ∃ (N : List ByteArray) (V : List JE) (K : List ByteArray) (L : List JE) (kN kL : Value), OtI W9 kb N V K L vN' vV' kN kL wr ∧ i = .int .i64 (K.length : Int) ∧ N.length = V.length ∧ K.length = L.length ∧ K.length + N.length ≤ 101 ∧ (K.zip (L.map (·.1)) ++ N.zip (V.map (·.1))).Perm ((name, x) :: E.names.zip E.list)) (fun vN' _ _ _ => lenV vN')
      case atStart =>
        refine ⟨name :: E.names, _, [], [], _, _, hI.out, rfl, ?_, rfl, ?_, ?_⟩
        · have := hzl.out; have := hEll.out; simp only [List.length_cons]; omega
        · simp only [List.length_cons, List.length_nil]; omega
        · simp only [List.map_cons, List.zip_cons_cons, List.map_nil, List.zip_nil_right, List.nil_append]
          rw [hzm.out]
      case round =>
        obtain ⟨N, V, K, L, kN, kL, hI2, rfl, hl1, hl2, hbd, hperm⟩ := hrel
        clear hI
        by_cases hlt : 0 < N.length
        · obtain ⟨gN, oN, cN, rfl, hcN, hYN, hgN, hceN⟩ := hI2.nam.at hlt
          obtain ⟨nA, nn, nc, rfl⟩ := own_form hI2.kn
          obtain ⟨lA, ll, lc, rfl⟩ := own_form hI2.kl
          replace hperm := Lib.hid hperm
          replace hl1 := Lib.hid hl1
          replace hl2 := Lib.hid hl2
          have hPw := hPl.out wr (hB.out.trans (hI2.bel.mono hB.out.size))
          replace hI2 := Lib.hid hI2
          by_cases hp : (K.length : Int) < (pn : Int)
          · obtain ⟨_, _, ep, hpc⟩ := hPw
            injection ep with e1 _ _
            obtain ⟨pg, po, e2, _, hpc2⟩ := hpc (by omega)
            rw [← e1] at e2
            subst e2
            obtain ⟨p, hpc3, hp0, hp1⟩ := hpc2 K.length (by omega)
            clear hpc hpc2 e1
            obtain ⟨n, hn, hnl⟩ := pick_n p N.length hlt (by omega)
            go_upto_region 21 with fail
            rw [hn]
            clear hn hpc3 hp0 hp1
            clear hp
            have hnv : n < V.length := by have := hl1.out; omega
            have hn100 : (n : Int) < 101 := by omega
            have hVs : V.length ≤ 101 := by have := hl1.out; omega
            have hw1 : IntKind.i64.wrap ((n : Int) + 1) = (n : Int) + 1 := by rw [IntKind.wrap_i64]; omega
            have hD := hI2.out.drew
            have hDz : wr.drew.heap.size = wr.heap.size := rfl
            obtain ⟨av, hav⟩ : ∃ av, N[n]? = some av := ⟨_, List.getElem?_eq_getElem hnl⟩
            have hTc : wr.drew.cell? ⟨gN, oN + n, none⟩ = some (.string av) := hceN n av hav
            have hK1 : K.length ≤ 1000000 := by omega
            obtain ⟨kN2, w4, hrun, hC4, hI3, hk4⟩ := hD.name av hK1
            obtain ⟨mA, mn, mc, rfl⟩ := own_form hI3.kn
            have hTc4 : w4.cell? ⟨gN, oN + n, none⟩ = some (.string av) := (World.cell?_of_block (hk4 gN hYN)).trans hTc
            have hDb : Cel wr.drew kb 25 #[.int .u8 7, .string ⟨#[]⟩, .slice nA nn nc, .slice lA ll lc] := hD.box
            obtain ⟨W3, hW3⟩ : ∃ W, w4.setCell ⟨kb, 2, none⟩ (.slice mA mn mc) = W := ⟨_, rfl⟩
            rw [hW3] at hI3
            have hTc3 : W3.cell? ⟨gN, oN + n, none⟩ = some (.string av) := by
              rw [← hW3]
              exact (World.cell?_of_block (a := ⟨gN, oN + n, none⟩) (Below.heap_setCell w4 ⟨kb, 2, none⟩ _ gN hYN.2.1)).trans hTc4
            replace hW3 := Lib.hid hW3
            replace hI3 := Lib.hid hI3
            replace hk4 := Lib.hid hk4
            replace hav := Lib.hid hav
            clear hD hceN
            have hS := hDb
            have hT := hTc
            refine wp_region_T 9 (fun W => W.cell? ⟨gN, oN + n, none⟩ = some (.string av)) (fun W => Cel W kb 25 #[.int .u8 7, .string ⟨#[]⟩, .slice nA nn nc, .slice lA ll lc]) (by kernel_rfl) ?_
            refine wpAnyT_takeW (i := 0) (v := .pointer (some ⟨kb, 2, none⟩)) rfl (by kernel_rfl) (by kernel_rfl) (by kernel_rfl) (by decide) (fun _ _ _ h => h) (Or.inl ⟨by rfl, by
              intro w' hSw
              go_simp⟩) hS hT ?_
            try simp only [Act.put, List.setIfInBounds_toArray]
            refine wpAnyT_take (i := 1) (v := .slice nA nn nc) rfl (by kernel_rfl) (by kernel_rfl) (by kernel_rfl) (by kernel_rfl) (by rfl) (fun _ _ _ h => h) (Or.inl ⟨by rfl, by
              intro w' hSw
              have c2 := hSw.cell 2
              simp only [List.getElem?_toArray, List.getElem?_cons_zero, List.getElem?_cons_succ] at c2
              go_simp⟩) hS hT ?_
            try simp only [Act.put]
            refine wpAnyT_takeW (i := 2) (v := .slice (some ⟨gN, oN, none⟩) N.length cN) rfl (by kernel_rfl) (by kernel_rfl) (by kernel_rfl) (by decide) (fun _ _ _ h => h) (Or.inl ⟨by rfl, by
              intro w' hSw
              go_simp⟩) hS hT ?_
            try simp only [Act.put]
            refine wpAnyT_takeW (i := 3) (v := .int .i64 (n : Int)) rfl (by kernel_rfl) (by kernel_rfl) (by kernel_rfl) (by decide) (fun _ _ _ h => h) (Or.inl ⟨by rfl, by
              intro w' hSw
              go_simp⟩) hS hT ?_
            try simp only [Act.put]
            refine wpAnyT_takeW (i := 4) (v := .pointer (some ⟨gN, oN + n, none⟩)) rfl (by kernel_rfl) (by kernel_rfl) (by kernel_rfl) (by decide) (fun _ _ _ h => h) (Or.inl ⟨by rfl, by
              intro w' hSw
              go_simp⟩) hS hT ?_
            try simp only [Act.put]
            refine wpAnyT_takeW (i := 5) (v := .string av) rfl (by kernel_rfl) (by kernel_rfl) (by kernel_rfl) (by decide) (fun _ _ _ h => h) (Or.inl ⟨by rfl, by
              intro w' hSw
              try dsimp only at hSw
              go_simp⟩) hS hT ?_
            try simp only [Act.put]
            refine wpAnyT_one (i := 6) (by kernel_rfl) rfl (fun K' hK => ?_)
            go_simp
            refine hK.out _ (wr.drew.alloc (.cells #[.string av] 9)) (fun _ => hDb.alloc _) ((World.cell?_alloc_lt wr.drew _ ⟨gN, oN + n, none⟩ (show gN < wr.drew.heap.size from hgN)).trans hTc) ?_
            clear hK
            try simp only [Act.put, List.setIfInBounds_toArray, List.set_cons_zero, List.set_cons_succ]
            refine wpAnyT_one (i := 7) (by kernel_rfl) rfl (fun K' hK => ?_)
            refine jl_step_run (by rfl) (.tmp 87) (.tmp 92) 22 22 (by rfl) (.slice nA nn nc) (.slice (some ⟨wr.drew.heap.size, 0, none⟩) 1 1) _ w4 (by rfl) (by rfl) hrun ?_
            refine hK.out _ _ (fun _ => hC4) hTc4 ?_
            clear hK hS hT hrun
            try simp only [Act.put, List.setIfInBounds_toArray, List.set_cons_zero, List.set_cons_succ]
            have hS := hC4
            have hT := hTc4
            refine wpAnyT_takeW (i := 8) (v := .pointer (some ⟨kb, 2, none⟩)) rfl (by kernel_rfl) (by kernel_rfl) (by kernel_rfl) (by decide) (fun _ _ _ h => h) (Or.inl ⟨by rfl, by
              intro w' hSw
              go_simp⟩) hS hT ?_
            try simp only [Act.put, List.setIfInBounds_toArray]
            have x2 : w4.cell? ⟨kb, 2, none⟩ = some (.slice nA nn nc) := hC4.cell 2
            have f2 := hC4.froz 2
            clear hS hT hDb hTc
            refine wpAnyT_one (i := 9) (by kernel_rfl) rfl (fun K' hK => ?_)
            go_simp
            rw [hW3.out]
            refine hK.out _ _ (fun h => by cases h) hTc3 ?_
            clear hK x2 f2 hC4 hTc4 hTc3 hW3
            refine wpAnyT_done (by kernel_rfl) ?_
            go_upto_region 22 with fail
            obtain ⟨gV, oV, cV, rfl, hcV, hYV, hgV, hceV⟩ := hI3.out.val.at hnv
            have hD := hI3.out.drew
            obtain ⟨zv, hzv⟩ : ∃ zv, V[n]? = some zv := ⟨_, List.getElem?_eq_getElem hnv⟩
            have hzj := (hI3.out.val.jv zv (List.mem_of_getElem? hzv)).drew
            obtain ⟨⟨zk, zt, zn', zl'⟩, za1, za2⟩ := zv
            have hTc : W3.drew.rangeAt gV (oV + n * 4) [.int .u8 zk, .string zt, za1, za2] := fun j u hu => by have := hceV n _ hzv j u hu; simpa using this
            have hL1 : L.length ≤ 1000000 := by have := hl2.out; omega
            obtain ⟨kL2, w6, hrun, hC6, hI4, hk6⟩ := hD.value _ hzj hL1
            obtain ⟨bA', bn, bc, rfl⟩ := own_form hI4.kl
            obtain ⟨zA, zn, zc, zB, zm, zd, rfl, rfl⟩ := hzj.forms
            have hTc6 : w6.rangeAt gV (oV + n * 4) [.int .u8 zk, .string zt, .slice zA zn zc, .slice zB zm zd] := fun j u hu => (World.cell?_of_block (a := ⟨gV, oV + n * 4 + j, none⟩) (hk6 gV hYV)).trans (hTc j u hu)
            have hDb : Cel W3.drew kb 25 #[.int .u8 7, .string ⟨#[]⟩, .slice mA mn mc, .slice lA ll lc] := hD.box
            obtain ⟨W5', hW5'⟩ : ∃ W, w6.setCell ⟨kb, 3, none⟩ (.slice bA' bn bc) = W := ⟨_, rfl⟩
            rw [hW5'] at hI4
            have hTc5 : W5'.rangeAt gV (oV + n * 4) [.int .u8 zk, .string zt, .slice zA zn zc, .slice zB zm zd] := by
              rw [← hW5']
              exact fun j u hu => (World.cell?_of_block (a := ⟨gV, oV + n * 4 + j, none⟩) (Below.heap_setCell w6 ⟨kb, 3, none⟩ _ gV hYV.2.1)).trans (hTc6 j u hu)
            replace hW5' := Lib.hid hW5'
            replace hI4 := Lib.hid hI4
            replace hk6 := Lib.hid hk6
            replace hzv := Lib.hid hzv
            replace hzj := Lib.hid hzj
            clear hD hceV
            have hS := hDb
            have hT := hTc
            refine wp_region_T 9 (fun W => W.rangeAt gV (oV + n * 4) [.int .u8 zk, .string zt, .slice zA zn zc, .slice zB zm zd]) (fun W => Cel W kb 25 #[.int .u8 7, .string ⟨#[]⟩, .slice mA mn mc, .slice lA ll lc]) (by kernel_rfl) ?_
            refine wpAnyT_takeW (i := 0) (v := .pointer (some ⟨kb, 3, none⟩)) rfl (by kernel_rfl) (by kernel_rfl) (by kernel_rfl) (by decide) (fun _ _ _ h => h) (Or.inl ⟨by rfl, by
              intro w' hSw
              go_simp⟩) hS hT ?_
            try simp only [Act.put, List.setIfInBounds_toArray]
            refine wpAnyT_take (i := 1) (v := .slice lA ll lc) rfl (by kernel_rfl) (by kernel_rfl) (by kernel_rfl) (by kernel_rfl) (by rfl) (fun _ _ _ h => h) (Or.inl ⟨by rfl, by
              intro w' hSw
              have c3 := hSw.cell 3
              simp only [List.getElem?_toArray, List.getElem?_cons_zero, List.getElem?_cons_succ] at c3
              go_simp⟩) hS hT ?_
            try simp only [Act.put]
            refine wpAnyT_takeW (i := 2) (v := .slice (some ⟨gV, oV, none⟩) V.length cV) rfl (by kernel_rfl) (by kernel_rfl) (by kernel_rfl) (by decide) (fun _ _ _ h => h) (Or.inl ⟨by rfl, by
              intro w' hSw
              go_simp⟩) hS hT ?_
            try simp only [Act.put]
            refine wpAnyT_takeW (i := 3) (v := .int .i64 (n : Int)) rfl (by kernel_rfl) (by kernel_rfl) (by kernel_rfl) (by decide) (fun _ _ _ h => h) (Or.inl ⟨by rfl, by
              intro w' hSw
              go_simp⟩) hS hT ?_
            try simp only [Act.put]
            refine wpAnyT_takeW (i := 4) (v := .pointer (some ⟨gV, oV + n * 4, none⟩)) rfl (by kernel_rfl) (by kernel_rfl) (by kernel_rfl) (by decide) (fun _ _ _ h => h) (Or.inl ⟨by rfl, by
              intro w' hSw
              go_simp⟩) hS hT ?_
            try simp only [Act.put]
            refine wpAnyT_takeW (i := 5) (v := .agg #[.int .u8 zk, .string zt, .slice zA zn zc, .slice zB zm zd]) rfl (by kernel_rfl) (by kernel_rfl) (by kernel_rfl) (by decide) (fun _ _ _ h => h) (yieldsIf_load_mid (by rfl) 25 (.tmp 99) rfl gV (oV + n * 4) (by rfl) [.int .u8 zk, .string zt, .slice zA zn zc, .slice zB zm zd] dj (fun _ h => h) hdj.out.1 hdj.out.2 jsnInfo) hS hT ?_
            try simp only [Act.put]
            refine wpAnyT_one (i := 6) (by kernel_rfl) rfl (fun K' hK => ?_)
            go_simp
            refine hK.out _ (W3.drew.alloc (.cells #[.int .u8 zk, .string zt, .slice zA zn zc, .slice zB zm zd] 25)) (fun _ => hDb.alloc _) (fun j u hu => (World.cell?_alloc_lt W3.drew _ ⟨gV, oV + n * 4 + j, none⟩ (show gV < W3.drew.heap.size from hgV)).trans (hTc j u hu)) ?_
            clear hK
            try simp only [Act.put, List.setIfInBounds_toArray, List.set_cons_zero, List.set_cons_succ]
            refine wpAnyT_one (i := 7) (by kernel_rfl) rfl (fun K' hK => ?_)
            refine jl_step_run (by rfl) (.tmp 96) (.tmp 101) 23 23 (by rfl) (.slice lA ll lc) (.slice (some ⟨W3.drew.heap.size, 0, none⟩) 1 1) _ w6 (by rfl) (by rfl) hrun ?_
            refine hK.out _ _ (fun _ => hC6) hTc6 ?_
            clear hK hS hT hrun
            try simp only [Act.put, List.setIfInBounds_toArray, List.set_cons_zero, List.set_cons_succ]
            have hS := hC6
            have hT := hTc6
            refine wpAnyT_takeW (i := 8) (v := .pointer (some ⟨kb, 3, none⟩)) rfl (by kernel_rfl) (by kernel_rfl) (by kernel_rfl) (by decide) (fun _ _ _ h => h) (Or.inl ⟨by rfl, by
              intro w' hSw
              go_simp⟩) hS hT ?_
            try simp only [Act.put, List.setIfInBounds_toArray]
            have x3 : w6.cell? ⟨kb, 3, none⟩ = some (.slice lA ll lc) := hC6.cell 3
            have f3 := hC6.froz 3
            clear hS hT hDb hTc
            refine wpAnyT_one (i := 9) (by kernel_rfl) rfl (fun K' hK => ?_)
            go_simp
            rw [hW5'.out]
            refine hK.out _ _ (fun h => by cases h) hTc5 ?_
            clear hK x3 f3 hC6 hTc6 hTc5 hW5'
            refine wpAnyT_done (by kernel_rfl) ?_
            go_upto_region 23 with fail
            have hD := hI4.out.drew
            obtain ⟨S1, S2, y1, u1, y2, u2, hs1, hs2, hr1, hr2, hI5⟩ := hD.cutN hnl (by omega)
            replace hI5 := Lib.hid hI5
            clear hD
            refine wp_region_held_drew (S := fun _ => True) (by kernel_rfl) trivial (fun hS => ?_)
            refine hTake (i := 1) (v := .slice (some ⟨gN, oN, none⟩) N.length cN) rfl (by kernel_rfl) (by kernel_rfl) (by kernel_rfl) (fun _ _ _ h => h) (Or.inl ⟨by rfl, by
              intro w' hSw
              go_simp⟩) hS ?_
            try simp only [Act.put, List.setIfInBounds_toArray, List.set_cons_zero, List.set_cons_succ]
            refine hTake (i := 2) (v := .int .i64 (n : Int)) rfl (by kernel_rfl) (by kernel_rfl) (by kernel_rfl) (fun _ _ _ h => h) (Or.inl ⟨by rfl, by
              intro w' hSw
              go_simp⟩) hS ?_
            try simp only [Act.put, List.setIfInBounds_toArray, List.set_cons_zero, List.set_cons_succ]
            refine hTake (i := 3) (v := S1) rfl (by kernel_rfl) (by kernel_rfl) (by kernel_rfl) (fun _ _ _ h => h) (yields_cut (by rfl) 22 (.tmp 105) none (some (.tmp 106)) rfl (.slice (some ⟨gN, oN, none⟩) N.length cN) none (some (.int .i64 (n : Int))) (by rfl) (by rfl) (by rfl) hs1) hS ?_
            try simp only [Act.put, List.setIfInBounds_toArray, List.set_cons_zero, List.set_cons_succ]
            refine hTake (i := 5) (v := .slice (some ⟨gN, oN, none⟩) N.length cN) rfl (by kernel_rfl) (by kernel_rfl) (by kernel_rfl) (fun _ _ _ h => h) (Or.inl ⟨by rfl, by
              intro w' hSw
              go_simp⟩) hS ?_
            try simp only [Act.put, List.setIfInBounds_toArray, List.set_cons_zero, List.set_cons_succ]
            refine hTake (i := 6) (v := .int .i64 (n : Int)) rfl (by kernel_rfl) (by kernel_rfl) (by kernel_rfl) (fun _ _ _ h => h) (Or.inl ⟨by rfl, by
              intro w' hSw
              go_simp⟩) hS ?_
            try simp only [Act.put, List.setIfInBounds_toArray, List.set_cons_zero, List.set_cons_succ]
            refine hTake (i := 7) (v := .int .i64 ((n : Int) + 1)) rfl (by kernel_rfl) (by kernel_rfl) (by kernel_rfl) (fun _ _ _ h => h) (Or.inl ⟨by rfl, by
              intro w' hSw
              go_simp⟩) hS ?_
            try simp only [Act.put, List.setIfInBounds_toArray, List.set_cons_zero, List.set_cons_succ]
            refine hTake (i := 8) (v := S2) rfl (by kernel_rfl) (by kernel_rfl) (by kernel_rfl) (fun _ _ _ h => h) (yields_cut (by rfl) 22 (.tmp 109) (some (.tmp 111)) none rfl (.slice (some ⟨gN, oN, none⟩) N.length cN) (some (.int .i64 ((n : Int) + 1))) none (by rfl) (by rfl) (by rfl) hs2) hS ?_
            try simp only [Act.put, List.setIfInBounds_toArray, List.set_cons_zero, List.set_cons_succ]
            refine hOne (i := 0) (by kernel_rfl) rfl (fun K' hK => ?_)
            go_simp
            refine hK.out _ (W5'.drew.alloc (.cells #[] 9)) trivial ?_
            clear hK
            try simp only [Act.put, List.setIfInBounds_toArray, List.set_cons_zero, List.set_cons_succ]
            refine hOne (i := 4) (by kernel_rfl) rfl (fun K' hK => ?_)
            refine jl_step_run (by rfl) (.tmp 104) (.tmp 107) 22 22 (by rfl) (.slice (some ⟨W5'.drew.heap.size, 0, none⟩) 0 0) S1 _ u1 (by rfl) (by rfl) hr1 ?_
            refine hK.out _ _ trivial ?_
            clear hK
            try simp only [Act.put, List.setIfInBounds_toArray, List.set_cons_zero, List.set_cons_succ]
            refine hOne (i := 9) (by kernel_rfl) rfl (fun K' hK => ?_)
            refine jl_step_run (by rfl) (.tmp 108) (.tmp 112) 22 22 (by rfl) y1 S2 _ u2 (by rfl) (by rfl) hr2 ?_
            refine hK.out _ _ trivial ?_
            clear hK
            try simp only [Act.put, List.setIfInBounds_toArray, List.set_cons_zero, List.set_cons_succ]
            refine hOne (i := 10) (by kernel_rfl) rfl (fun K' hK => ?_)
            go_simp
            refine hK.out _ _ trivial ?_
            clear hK hr1 hr2 hs1 hs2 
            refine wpAnyH_done (by kernel_rfl) ?_ _
            go_upto_region 24 with fail
            have hD := hI5.out.drew
            obtain ⟨S1, S2, y3, u3, y4, u4, hs1, hs2, hr1, hr2, hI6⟩ := hD.cutV hnv (by omega)
            replace hI6 := Lib.hid hI6
            clear hD
            refine wp_region_held_drew (S := fun _ => True) (by kernel_rfl) trivial (fun hS => ?_)
            refine hTake (i := 1) (v := .slice (some ⟨gV, oV, none⟩) V.length cV) rfl (by kernel_rfl) (by kernel_rfl) (by kernel_rfl) (fun _ _ _ h => h) (Or.inl ⟨by rfl, by
              intro w' hSw
              go_simp⟩) hS ?_
            try simp only [Act.put, List.setIfInBounds_toArray, List.set_cons_zero, List.set_cons_succ]
            refine hTake (i := 2) (v := .int .i64 (n : Int)) rfl (by kernel_rfl) (by kernel_rfl) (by kernel_rfl) (fun _ _ _ h => h) (Or.inl ⟨by rfl, by
              intro w' hSw
              go_simp⟩) hS ?_
            try simp only [Act.put, List.setIfInBounds_toArray, List.set_cons_zero, List.set_cons_succ]
            refine hTake (i := 3) (v := S1) rfl (by kernel_rfl) (by kernel_rfl) (by kernel_rfl) (fun _ _ _ h => h) (yields_cut (by rfl) 23 (.tmp 115) none (some (.tmp 116)) rfl (.slice (some ⟨gV, oV, none⟩) V.length cV) none (some (.int .i64 (n : Int))) (by rfl) (by rfl) (by rfl) hs1) hS ?_
            try simp only [Act.put, List.setIfInBounds_toArray, List.set_cons_zero, List.set_cons_succ]
            refine hTake (i := 5) (v := .slice (some ⟨gV, oV, none⟩) V.length cV) rfl (by kernel_rfl) (by kernel_rfl) (by kernel_rfl) (fun _ _ _ h => h) (Or.inl ⟨by rfl, by
              intro w' hSw
              go_simp⟩) hS ?_
            try simp only [Act.put, List.setIfInBounds_toArray, List.set_cons_zero, List.set_cons_succ]
            refine hTake (i := 6) (v := .int .i64 (n : Int)) rfl (by kernel_rfl) (by kernel_rfl) (by kernel_rfl) (fun _ _ _ h => h) (Or.inl ⟨by rfl, by
              intro w' hSw
              go_simp⟩) hS ?_
            try simp only [Act.put, List.setIfInBounds_toArray, List.set_cons_zero, List.set_cons_succ]
            refine hTake (i := 7) (v := .int .i64 ((n : Int) + 1)) rfl (by kernel_rfl) (by kernel_rfl) (by kernel_rfl) (fun _ _ _ h => h) (Or.inl ⟨by rfl, by
              intro w' hSw
              go_simp⟩) hS ?_
            try simp only [Act.put, List.setIfInBounds_toArray, List.set_cons_zero, List.set_cons_succ]
            refine hTake (i := 8) (v := S2) rfl (by kernel_rfl) (by kernel_rfl) (by kernel_rfl) (fun _ _ _ h => h) (yields_cut (by rfl) 23 (.tmp 119) (some (.tmp 121)) none rfl (.slice (some ⟨gV, oV, none⟩) V.length cV) (some (.int .i64 ((n : Int) + 1))) none (by rfl) (by rfl) (by rfl) hs2) hS ?_
            try simp only [Act.put, List.setIfInBounds_toArray, List.set_cons_zero, List.set_cons_succ]
            refine hOne (i := 0) (by kernel_rfl) rfl (fun K' hK => ?_)
            go_simp
            refine hK.out _ (u2.drew.alloc (.cells #[] 25)) trivial ?_
            clear hK
            try simp only [Act.put, List.setIfInBounds_toArray, List.set_cons_zero, List.set_cons_succ]
            refine hOne (i := 4) (by kernel_rfl) rfl (fun K' hK => ?_)
            refine jl_step_run (by rfl) (.tmp 114) (.tmp 117) 23 23 (by rfl) (.slice (some ⟨u2.drew.heap.size, 0, none⟩) 0 0) S1 _ u3 (by rfl) (by rfl) hr1 ?_
            refine hK.out _ _ trivial ?_
            clear hK
            try simp only [Act.put, List.setIfInBounds_toArray, List.set_cons_zero, List.set_cons_succ]
            refine hOne (i := 9) (by kernel_rfl) rfl (fun K' hK => ?_)
            refine jl_step_run (by rfl) (.tmp 118) (.tmp 122) 23 23 (by rfl) y3 S2 _ u4 (by rfl) (by rfl) hr2 ?_
            refine hK.out _ _ trivial ?_
            clear hK
            try simp only [Act.put, List.setIfInBounds_toArray, List.set_cons_zero, List.set_cons_succ]
            refine hOne (i := 10) (by kernel_rfl) rfl (fun K' hK => ?_)
            go_simp
            refine hK.out _ _ trivial ?_
            clear hK hr1 hr2 hs1 hs2 
            refine wpAnyH_done (by kernel_rfl) ?_ _
            obtain ⟨_, cf, rfl, _⟩ := id hI6.out.nam.2
            go_wp2_with fail
            go_roundw
            case rel =>
              first
                | refine ⟨_, _, _, ⟨N.eraseIdx n, V.eraseIdx n, K ++ [av], L ++ [_], ⟨_, _, hI6.out⟩, ?_, ?_, ?_, ?_, ?_⟩, rfl, rfl, rfl⟩
                | refine ⟨N.eraseIdx n, V.eraseIdx n, K ++ [av], L ++ [_], _, _, hI6.out, ?_, ?_, ?_, ?_, ?_⟩
              · simp only [List.length_append, List.length_cons, List.length_nil]; go_num
              · rw [List.length_eraseIdx_of_lt hnl, List.length_eraseIdx_of_lt hnv, hl1.out]
              · simp only [List.length_append, List.length_cons, List.length_nil, hl2.out]
              · rw [List.length_eraseIdx_of_lt hnl, List.length_append]; simp only [List.length_cons, List.length_nil]; omega
              · have hpp := pick_perm (K := K) (L := L.map (·.1)) (N := N) (V := V.map (·.1)) (n := n) hav.out (by rw [List.getElem?_map, hzv.out]; rfl) (by rw [List.length_map]; exact hl1.out) (by rw [List.length_map]; exact hl2.out)
                refine List.Perm.trans ?_ hperm.out
                rw [List.map_append, map_erase]
                exact hpp
            case measure =>
              have := List.length_eraseIdx_of_lt hnl
              simp only [lenV]; omega
          · have hnl : 0 < N.length := hlt
            go_upto_region 21 with fail
            clear hPw
            clear hp
            have hnv : 0 < V.length := by have := hl1.out; omega
            have hn100 : 0 < 101 := by omega
            have hVs : V.length ≤ 101 := by have := hl1.out; omega
            have hw1 : IntKind.i64.wrap 1 = 1 := by decide
            have hD := hI2.out.drew
            have hDz : wr.drew.heap.size = wr.heap.size := rfl
            obtain ⟨av, hav⟩ : ∃ av, N[0]? = some av := ⟨_, List.getElem?_eq_getElem hnl⟩
            have hTc : wr.drew.cell? ⟨gN, oN, none⟩ = some (.string av) := hceN 0 av hav
            have hK1 : K.length ≤ 1000000 := by omega
            obtain ⟨kN2, w4, hrun, hC4, hI3, hk4⟩ := hD.name av hK1
            obtain ⟨mA, mn, mc, rfl⟩ := own_form hI3.kn
            have hTc4 : w4.cell? ⟨gN, oN, none⟩ = some (.string av) := (World.cell?_of_block (hk4 gN hYN)).trans hTc
            have hDb : Cel wr.drew kb 25 #[.int .u8 7, .string ⟨#[]⟩, .slice nA nn nc, .slice lA ll lc] := hD.box
            obtain ⟨W3, hW3⟩ : ∃ W, w4.setCell ⟨kb, 2, none⟩ (.slice mA mn mc) = W := ⟨_, rfl⟩
            rw [hW3] at hI3
            have hTc3 : W3.cell? ⟨gN, oN, none⟩ = some (.string av) := by
              rw [← hW3]
              exact (World.cell?_of_block (a := ⟨gN, oN, none⟩) (Below.heap_setCell w4 ⟨kb, 2, none⟩ _ gN hYN.2.1)).trans hTc4
            replace hW3 := Lib.hid hW3
            replace hI3 := Lib.hid hI3
            replace hk4 := Lib.hid hk4
            replace hav := Lib.hid hav
            clear hD hceN
            have hS := hDb
            have hT := hTc
            refine wp_region_T 9 (fun W => W.cell? ⟨gN, oN, none⟩ = some (.string av)) (fun W => Cel W kb 25 #[.int .u8 7, .string ⟨#[]⟩, .slice nA nn nc, .slice lA ll lc]) (by kernel_rfl) ?_
            refine wpAnyT_takeW (i := 0) (v := .pointer (some ⟨kb, 2, none⟩)) rfl (by kernel_rfl) (by kernel_rfl) (by kernel_rfl) (by decide) (fun _ _ _ h => h) (Or.inl ⟨by rfl, by
              intro w' hSw
              go_simp⟩) hS hT ?_
            try simp only [Act.put, List.setIfInBounds_toArray]
            refine wpAnyT_take (i := 1) (v := .slice nA nn nc) rfl (by kernel_rfl) (by kernel_rfl) (by kernel_rfl) (by kernel_rfl) (by rfl) (fun _ _ _ h => h) (Or.inl ⟨by rfl, by
              intro w' hSw
              have c2 := hSw.cell 2
              simp only [List.getElem?_toArray, List.getElem?_cons_zero, List.getElem?_cons_succ] at c2
              go_simp⟩) hS hT ?_
            try simp only [Act.put]
            refine wpAnyT_takeW (i := 2) (v := .slice (some ⟨gN, oN, none⟩) N.length cN) rfl (by kernel_rfl) (by kernel_rfl) (by kernel_rfl) (by decide) (fun _ _ _ h => h) (Or.inl ⟨by rfl, by
              intro w' hSw
              go_simp⟩) hS hT ?_
            try simp only [Act.put]
            refine wpAnyT_takeW (i := 3) (v := .int .i64 0) rfl (by kernel_rfl) (by kernel_rfl) (by kernel_rfl) (by decide) (fun _ _ _ h => h) (Or.inl ⟨by rfl, by
              intro w' hSw
              go_simp⟩) hS hT ?_
            try simp only [Act.put]
            refine wpAnyT_takeW (i := 4) (v := .pointer (some ⟨gN, oN, none⟩)) rfl (by kernel_rfl) (by kernel_rfl) (by kernel_rfl) (by decide) (fun _ _ _ h => h) (Or.inl ⟨by rfl, by
              intro w' hSw
              go_simp⟩) hS hT ?_
            try simp only [Act.put]
            refine wpAnyT_takeW (i := 5) (v := .string av) rfl (by kernel_rfl) (by kernel_rfl) (by kernel_rfl) (by decide) (fun _ _ _ h => h) (Or.inl ⟨by rfl, by
              intro w' hSw
              try dsimp only at hSw
              go_simp⟩) hS hT ?_
            try simp only [Act.put]
            refine wpAnyT_one (i := 6) (by kernel_rfl) rfl (fun K' hK => ?_)
            go_simp
            refine hK.out _ (wr.drew.alloc (.cells #[.string av] 9)) (fun _ => hDb.alloc _) ((World.cell?_alloc_lt wr.drew _ ⟨gN, oN, none⟩ (show gN < wr.drew.heap.size from hgN)).trans hTc) ?_
            clear hK
            try simp only [Act.put, List.setIfInBounds_toArray, List.set_cons_zero, List.set_cons_succ]
            refine wpAnyT_one (i := 7) (by kernel_rfl) rfl (fun K' hK => ?_)
            refine jl_step_run (by rfl) (.tmp 87) (.tmp 92) 22 22 (by rfl) (.slice nA nn nc) (.slice (some ⟨wr.drew.heap.size, 0, none⟩) 1 1) _ w4 (by rfl) (by rfl) hrun ?_
            refine hK.out _ _ (fun _ => hC4) hTc4 ?_
            clear hK hS hT hrun
            try simp only [Act.put, List.setIfInBounds_toArray, List.set_cons_zero, List.set_cons_succ]
            have hS := hC4
            have hT := hTc4
            refine wpAnyT_takeW (i := 8) (v := .pointer (some ⟨kb, 2, none⟩)) rfl (by kernel_rfl) (by kernel_rfl) (by kernel_rfl) (by decide) (fun _ _ _ h => h) (Or.inl ⟨by rfl, by
              intro w' hSw
              go_simp⟩) hS hT ?_
            try simp only [Act.put, List.setIfInBounds_toArray]
            have x2 : w4.cell? ⟨kb, 2, none⟩ = some (.slice nA nn nc) := hC4.cell 2
            have f2 := hC4.froz 2
            clear hS hT hDb hTc
            refine wpAnyT_one (i := 9) (by kernel_rfl) rfl (fun K' hK => ?_)
            go_simp
            rw [hW3.out]
            refine hK.out _ _ (fun h => by cases h) hTc3 ?_
            clear hK x2 f2 hC4 hTc4 hTc3 hW3
            refine wpAnyT_done (by kernel_rfl) ?_
            go_upto_region 22 with fail
            obtain ⟨gV, oV, cV, rfl, hcV, hYV, hgV, hceV⟩ := hI3.out.val.at hnv
            have hD := hI3.out.drew
            obtain ⟨zv, hzv⟩ : ∃ zv, V[0]? = some zv := ⟨_, List.getElem?_eq_getElem hnv⟩
            have hzj := (hI3.out.val.jv zv (List.mem_of_getElem? hzv)).drew
            obtain ⟨⟨zk, zt, zn', zl'⟩, za1, za2⟩ := zv
            have hTc : W3.drew.rangeAt gV (oV) [.int .u8 zk, .string zt, za1, za2] := fun j u hu => by have := hceV 0 _ hzv j u hu; simpa using this
            have hL1 : L.length ≤ 1000000 := by have := hl2.out; omega
            obtain ⟨kL2, w6, hrun, hC6, hI4, hk6⟩ := hD.value _ hzj hL1
            obtain ⟨bA', bn, bc, rfl⟩ := own_form hI4.kl
            obtain ⟨zA, zn, zc, zB, zm, zd, rfl, rfl⟩ := hzj.forms
            have hTc6 : w6.rangeAt gV (oV) [.int .u8 zk, .string zt, .slice zA zn zc, .slice zB zm zd] := fun j u hu => (World.cell?_of_block (a := ⟨gV, oV + j, none⟩) (hk6 gV hYV)).trans (hTc j u hu)
            have hDb : Cel W3.drew kb 25 #[.int .u8 7, .string ⟨#[]⟩, .slice mA mn mc, .slice lA ll lc] := hD.box
            obtain ⟨W5', hW5'⟩ : ∃ W, w6.setCell ⟨kb, 3, none⟩ (.slice bA' bn bc) = W := ⟨_, rfl⟩
            rw [hW5'] at hI4
            have hTc5 : W5'.rangeAt gV (oV) [.int .u8 zk, .string zt, .slice zA zn zc, .slice zB zm zd] := by
              rw [← hW5']
              exact fun j u hu => (World.cell?_of_block (a := ⟨gV, oV + j, none⟩) (Below.heap_setCell w6 ⟨kb, 3, none⟩ _ gV hYV.2.1)).trans (hTc6 j u hu)
            replace hW5' := Lib.hid hW5'
            replace hI4 := Lib.hid hI4
            replace hk6 := Lib.hid hk6
            replace hzv := Lib.hid hzv
            replace hzj := Lib.hid hzj
            clear hD hceV
            have hS := hDb
            have hT := hTc
            refine wp_region_T 9 (fun W => W.rangeAt gV (oV) [.int .u8 zk, .string zt, .slice zA zn zc, .slice zB zm zd]) (fun W => Cel W kb 25 #[.int .u8 7, .string ⟨#[]⟩, .slice mA mn mc, .slice lA ll lc]) (by kernel_rfl) ?_
            refine wpAnyT_takeW (i := 0) (v := .pointer (some ⟨kb, 3, none⟩)) rfl (by kernel_rfl) (by kernel_rfl) (by kernel_rfl) (by decide) (fun _ _ _ h => h) (Or.inl ⟨by rfl, by
              intro w' hSw
              go_simp⟩) hS hT ?_
            try simp only [Act.put, List.setIfInBounds_toArray]
            refine wpAnyT_take (i := 1) (v := .slice lA ll lc) rfl (by kernel_rfl) (by kernel_rfl) (by kernel_rfl) (by kernel_rfl) (by rfl) (fun _ _ _ h => h) (Or.inl ⟨by rfl, by
              intro w' hSw
              have c3 := hSw.cell 3
              simp only [List.getElem?_toArray, List.getElem?_cons_zero, List.getElem?_cons_succ] at c3
              go_simp⟩) hS hT ?_
            try simp only [Act.put]
            refine wpAnyT_takeW (i := 2) (v := .slice (some ⟨gV, oV, none⟩) V.length cV) rfl (by kernel_rfl) (by kernel_rfl) (by kernel_rfl) (by decide) (fun _ _ _ h => h) (Or.inl ⟨by rfl, by
              intro w' hSw
              go_simp⟩) hS hT ?_
            try simp only [Act.put]
            refine wpAnyT_takeW (i := 3) (v := .int .i64 0) rfl (by kernel_rfl) (by kernel_rfl) (by kernel_rfl) (by decide) (fun _ _ _ h => h) (Or.inl ⟨by rfl, by
              intro w' hSw
              go_simp⟩) hS hT ?_
            try simp only [Act.put]
            refine wpAnyT_takeW (i := 4) (v := .pointer (some ⟨gV, oV, none⟩)) rfl (by kernel_rfl) (by kernel_rfl) (by kernel_rfl) (by decide) (fun _ _ _ h => h) (Or.inl ⟨by rfl, by
              intro w' hSw
              go_simp⟩) hS hT ?_
            try simp only [Act.put]
            refine wpAnyT_takeW (i := 5) (v := .agg #[.int .u8 zk, .string zt, .slice zA zn zc, .slice zB zm zd]) rfl (by kernel_rfl) (by kernel_rfl) (by kernel_rfl) (by decide) (fun _ _ _ h => h) (yieldsIf_load_mid (by rfl) 25 (.tmp 99) rfl gV (oV) (by rfl) [.int .u8 zk, .string zt, .slice zA zn zc, .slice zB zm zd] dj (fun _ h => h) hdj.out.1 hdj.out.2 jsnInfo) hS hT ?_
            try simp only [Act.put]
            refine wpAnyT_one (i := 6) (by kernel_rfl) rfl (fun K' hK => ?_)
            go_simp
            refine hK.out _ (W3.drew.alloc (.cells #[.int .u8 zk, .string zt, .slice zA zn zc, .slice zB zm zd] 25)) (fun _ => hDb.alloc _) (fun j u hu => (World.cell?_alloc_lt W3.drew _ ⟨gV, oV + j, none⟩ (show gV < W3.drew.heap.size from hgV)).trans (hTc j u hu)) ?_
            clear hK
            try simp only [Act.put, List.setIfInBounds_toArray, List.set_cons_zero, List.set_cons_succ]
            refine wpAnyT_one (i := 7) (by kernel_rfl) rfl (fun K' hK => ?_)
            refine jl_step_run (by rfl) (.tmp 96) (.tmp 101) 23 23 (by rfl) (.slice lA ll lc) (.slice (some ⟨W3.drew.heap.size, 0, none⟩) 1 1) _ w6 (by rfl) (by rfl) hrun ?_
            refine hK.out _ _ (fun _ => hC6) hTc6 ?_
            clear hK hS hT hrun
            try simp only [Act.put, List.setIfInBounds_toArray, List.set_cons_zero, List.set_cons_succ]
            have hS := hC6
            have hT := hTc6
            refine wpAnyT_takeW (i := 8) (v := .pointer (some ⟨kb, 3, none⟩)) rfl (by kernel_rfl) (by kernel_rfl) (by kernel_rfl) (by decide) (fun _ _ _ h => h) (Or.inl ⟨by rfl, by
              intro w' hSw
              go_simp⟩) hS hT ?_
            try simp only [Act.put, List.setIfInBounds_toArray]
            have x3 : w6.cell? ⟨kb, 3, none⟩ = some (.slice lA ll lc) := hC6.cell 3
            have f3 := hC6.froz 3
            clear hS hT hDb hTc
            refine wpAnyT_one (i := 9) (by kernel_rfl) rfl (fun K' hK => ?_)
            go_simp
            rw [hW5'.out]
            refine hK.out _ _ (fun h => by cases h) hTc5 ?_
            clear hK x3 f3 hC6 hTc6 hTc5 hW5'
            refine wpAnyT_done (by kernel_rfl) ?_
            go_upto_region 23 with fail
            have hD := hI4.out.drew
            obtain ⟨S1, S2, y1, u1, y2, u2, hs1, hs2, hr1, hr2, hI5⟩ := hD.cutN hnl (by omega)
            replace hI5 := Lib.hid hI5
            clear hD
            refine wp_region_held_drew (S := fun _ => True) (by kernel_rfl) trivial (fun hS => ?_)
            refine hTake (i := 1) (v := .slice (some ⟨gN, oN, none⟩) N.length cN) rfl (by kernel_rfl) (by kernel_rfl) (by kernel_rfl) (fun _ _ _ h => h) (Or.inl ⟨by rfl, by
              intro w' hSw
              go_simp⟩) hS ?_
            try simp only [Act.put, List.setIfInBounds_toArray, List.set_cons_zero, List.set_cons_succ]
            refine hTake (i := 2) (v := .int .i64 0) rfl (by kernel_rfl) (by kernel_rfl) (by kernel_rfl) (fun _ _ _ h => h) (Or.inl ⟨by rfl, by
              intro w' hSw
              go_simp⟩) hS ?_
            try simp only [Act.put, List.setIfInBounds_toArray, List.set_cons_zero, List.set_cons_succ]
            refine hTake (i := 3) (v := S1) rfl (by kernel_rfl) (by kernel_rfl) (by kernel_rfl) (fun _ _ _ h => h) (yields_cut (by rfl) 22 (.tmp 105) none (some (.tmp 106)) rfl (.slice (some ⟨gN, oN, none⟩) N.length cN) none (some (.int .i64 0)) (by rfl) (by rfl) (by rfl) hs1) hS ?_
            try simp only [Act.put, List.setIfInBounds_toArray, List.set_cons_zero, List.set_cons_succ]
            refine hTake (i := 5) (v := .slice (some ⟨gN, oN, none⟩) N.length cN) rfl (by kernel_rfl) (by kernel_rfl) (by kernel_rfl) (fun _ _ _ h => h) (Or.inl ⟨by rfl, by
              intro w' hSw
              go_simp⟩) hS ?_
            try simp only [Act.put, List.setIfInBounds_toArray, List.set_cons_zero, List.set_cons_succ]
            refine hTake (i := 6) (v := .int .i64 0) rfl (by kernel_rfl) (by kernel_rfl) (by kernel_rfl) (fun _ _ _ h => h) (Or.inl ⟨by rfl, by
              intro w' hSw
              go_simp⟩) hS ?_
            try simp only [Act.put, List.setIfInBounds_toArray, List.set_cons_zero, List.set_cons_succ]
            refine hTake (i := 7) (v := .int .i64 1) rfl (by kernel_rfl) (by kernel_rfl) (by kernel_rfl) (fun _ _ _ h => h) (Or.inl ⟨by rfl, by
              intro w' hSw
              go_simp⟩) hS ?_
            try simp only [Act.put, List.setIfInBounds_toArray, List.set_cons_zero, List.set_cons_succ]
            refine hTake (i := 8) (v := S2) rfl (by kernel_rfl) (by kernel_rfl) (by kernel_rfl) (fun _ _ _ h => h) (yields_cut (by rfl) 22 (.tmp 109) (some (.tmp 111)) none rfl (.slice (some ⟨gN, oN, none⟩) N.length cN) (some (.int .i64 1)) none (by rfl) (by rfl) (by rfl) hs2) hS ?_
            try simp only [Act.put, List.setIfInBounds_toArray, List.set_cons_zero, List.set_cons_succ]
            refine hOne (i := 0) (by kernel_rfl) rfl (fun K' hK => ?_)
            go_simp
            refine hK.out _ (W5'.drew.alloc (.cells #[] 9)) trivial ?_
            clear hK
            try simp only [Act.put, List.setIfInBounds_toArray, List.set_cons_zero, List.set_cons_succ]
            refine hOne (i := 4) (by kernel_rfl) rfl (fun K' hK => ?_)
            refine jl_step_run (by rfl) (.tmp 104) (.tmp 107) 22 22 (by rfl) (.slice (some ⟨W5'.drew.heap.size, 0, none⟩) 0 0) S1 _ u1 (by rfl) (by rfl) hr1 ?_
            refine hK.out _ _ trivial ?_
            clear hK
            try simp only [Act.put, List.setIfInBounds_toArray, List.set_cons_zero, List.set_cons_succ]
            refine hOne (i := 9) (by kernel_rfl) rfl (fun K' hK => ?_)
            refine jl_step_run (by rfl) (.tmp 108) (.tmp 112) 22 22 (by rfl) y1 S2 _ u2 (by rfl) (by rfl) hr2 ?_
            refine hK.out _ _ trivial ?_
            clear hK
            try simp only [Act.put, List.setIfInBounds_toArray, List.set_cons_zero, List.set_cons_succ]
            refine hOne (i := 10) (by kernel_rfl) rfl (fun K' hK => ?_)
            go_simp
            refine hK.out _ _ trivial ?_
            clear hK hr1 hr2 hs1 hs2 
            refine wpAnyH_done (by kernel_rfl) ?_ _
            go_upto_region 24 with fail
            have hD := hI5.out.drew
            obtain ⟨S1, S2, y3, u3, y4, u4, hs1, hs2, hr1, hr2, hI6⟩ := hD.cutV hnv (by omega)
            replace hI6 := Lib.hid hI6
            clear hD
            refine wp_region_held_drew (S := fun _ => True) (by kernel_rfl) trivial (fun hS => ?_)
            refine hTake (i := 1) (v := .slice (some ⟨gV, oV, none⟩) V.length cV) rfl (by kernel_rfl) (by kernel_rfl) (by kernel_rfl) (fun _ _ _ h => h) (Or.inl ⟨by rfl, by
              intro w' hSw
              go_simp⟩) hS ?_
            try simp only [Act.put, List.setIfInBounds_toArray, List.set_cons_zero, List.set_cons_succ]
            refine hTake (i := 2) (v := .int .i64 0) rfl (by kernel_rfl) (by kernel_rfl) (by kernel_rfl) (fun _ _ _ h => h) (Or.inl ⟨by rfl, by
              intro w' hSw
              go_simp⟩) hS ?_
            try simp only [Act.put, List.setIfInBounds_toArray, List.set_cons_zero, List.set_cons_succ]
            refine hTake (i := 3) (v := S1) rfl (by kernel_rfl) (by kernel_rfl) (by kernel_rfl) (fun _ _ _ h => h) (yields_cut (by rfl) 23 (.tmp 115) none (some (.tmp 116)) rfl (.slice (some ⟨gV, oV, none⟩) V.length cV) none (some (.int .i64 0)) (by rfl) (by rfl) (by rfl) hs1) hS ?_
            try simp only [Act.put, List.setIfInBounds_toArray, List.set_cons_zero, List.set_cons_succ]
            refine hTake (i := 5) (v := .slice (some ⟨gV, oV, none⟩) V.length cV) rfl (by kernel_rfl) (by kernel_rfl) (by kernel_rfl) (fun _ _ _ h => h) (Or.inl ⟨by rfl, by
              intro w' hSw
              go_simp⟩) hS ?_
            try simp only [Act.put, List.setIfInBounds_toArray, List.set_cons_zero, List.set_cons_succ]
            refine hTake (i := 6) (v := .int .i64 0) rfl (by kernel_rfl) (by kernel_rfl) (by kernel_rfl) (fun _ _ _ h => h) (Or.inl ⟨by rfl, by
              intro w' hSw
              go_simp⟩) hS ?_
            try simp only [Act.put, List.setIfInBounds_toArray, List.set_cons_zero, List.set_cons_succ]
            refine hTake (i := 7) (v := .int .i64 1) rfl (by kernel_rfl) (by kernel_rfl) (by kernel_rfl) (fun _ _ _ h => h) (Or.inl ⟨by rfl, by
              intro w' hSw
              go_simp⟩) hS ?_
            try simp only [Act.put, List.setIfInBounds_toArray, List.set_cons_zero, List.set_cons_succ]
            refine hTake (i := 8) (v := S2) rfl (by kernel_rfl) (by kernel_rfl) (by kernel_rfl) (fun _ _ _ h => h) (yields_cut (by rfl) 23 (.tmp 119) (some (.tmp 121)) none rfl (.slice (some ⟨gV, oV, none⟩) V.length cV) (some (.int .i64 1)) none (by rfl) (by rfl) (by rfl) hs2) hS ?_
            try simp only [Act.put, List.setIfInBounds_toArray, List.set_cons_zero, List.set_cons_succ]
            refine hOne (i := 0) (by kernel_rfl) rfl (fun K' hK => ?_)
            go_simp
            refine hK.out _ (u2.drew.alloc (.cells #[] 25)) trivial ?_
            clear hK
            try simp only [Act.put, List.setIfInBounds_toArray, List.set_cons_zero, List.set_cons_succ]
            refine hOne (i := 4) (by kernel_rfl) rfl (fun K' hK => ?_)
            refine jl_step_run (by rfl) (.tmp 114) (.tmp 117) 23 23 (by rfl) (.slice (some ⟨u2.drew.heap.size, 0, none⟩) 0 0) S1 _ u3 (by rfl) (by rfl) hr1 ?_
            refine hK.out _ _ trivial ?_
            clear hK
            try simp only [Act.put, List.setIfInBounds_toArray, List.set_cons_zero, List.set_cons_succ]
            refine hOne (i := 9) (by kernel_rfl) rfl (fun K' hK => ?_)
            refine jl_step_run (by rfl) (.tmp 118) (.tmp 122) 23 23 (by rfl) y3 S2 _ u4 (by rfl) (by rfl) hr2 ?_
            refine hK.out _ _ trivial ?_
            clear hK
            try simp only [Act.put, List.setIfInBounds_toArray, List.set_cons_zero, List.set_cons_succ]
            refine hOne (i := 10) (by kernel_rfl) rfl (fun K' hK => ?_)
            go_simp
            refine hK.out _ _ trivial ?_
            clear hK hr1 hr2 hs1 hs2 
            refine wpAnyH_done (by kernel_rfl) ?_ _
            obtain ⟨_, cf, rfl, _⟩ := id hI6.out.nam.2
            go_wp2_with fail
            go_roundw
            case rel =>
              first
                | refine ⟨_, _, _, ⟨N.eraseIdx 0, V.eraseIdx 0, K ++ [av], L ++ [_], ⟨_, _, hI6.out⟩, ?_, ?_, ?_, ?_, ?_⟩, rfl, rfl, rfl⟩
                | refine ⟨N.eraseIdx 0, V.eraseIdx 0, K ++ [av], L ++ [_], _, _, hI6.out, ?_, ?_, ?_, ?_, ?_⟩
              · simp only [List.length_append, List.length_cons, List.length_nil]; go_num
              · rw [List.length_eraseIdx_of_lt hnl, List.length_eraseIdx_of_lt hnv, hl1.out]
              · simp only [List.length_append, List.length_cons, List.length_nil, hl2.out]
              · rw [List.length_eraseIdx_of_lt hnl, List.length_append]; simp only [List.length_cons, List.length_nil]; omega
              · have hpp := pick_perm (K := K) (L := L.map (·.1)) (N := N) (V := V.map (·.1)) (n := 0) hav.out (by rw [List.getElem?_map, hzv.out]; rfl) (by rw [List.length_map]; exact hl1.out) (by rw [List.length_map]; exact hl2.out)
                refine List.Perm.trans ?_ hperm.out
                rw [List.map_append, map_erase]
                exact hpp
            case measure =>
              have := List.length_eraseIdx_of_lt hnl
              simp only [lenV]; omega
        · have hN0 : N = [] := List.eq_nil_of_length_eq_zero (by omega)
          have hV0 : V = [] := List.eq_nil_of_length_eq_zero (by omega)
          subst hN0
          subst hV0
          obtain ⟨A0, c0', rfl, _⟩ := id hI2.nam.2
          obtain ⟨nA, nn, nc, rfl⟩ := own_form hI2.kn
          obtain ⟨lA, ll, lc, rfl⟩ := own_form hI2.kl
          have hks1 := own_str (Y := fun _ => True) hI2.kn (fun _ _ => trivial)
          have hkj := (own_jsn (Y := fun _ => True) (k := 7) (s := ⟨#[]⟩) (by omega) (by omega) hks1.1 hI2.kl (fun _ _ => trivial) (fun z hz => (hI2.lj z hz).more (fun _ _ _ => trivial))).1
          obtain ⟨J, hJ⟩ : ∃ J : Jsn, (⟨7, ⟨#[]⟩, K, L.map (·.1)⟩ : Jsn) = J := ⟨_, rfl⟩
          have hJo : ObjK J := by rw [← hJ]; exact ⟨rfl, rfl, by rw [List.length_map]; exact hl2⟩
          have hJp : (J.names.zip J.list).Perm ((name, x) :: (menv M).names.zip (menv M).list) := by
            rw [← hJ, ← hEm.out]
            simpa using hperm
          have hJb : jbulk J ≤ 1000000 := by
            have h1 : jbulk J = jbulk (⟨7, ⟨#[]⟩, name :: E.names, x :: E.list⟩ : Jsn) := by
              rw [← hJ]
              exact bulk_perm (by simpa using hperm) (by rw [List.length_map]; exact hl2) (by have := hEll.out; simp only [List.length_cons]; omega)
            rw [h1]
            have h2 := others_bulk M name x (E := E) hEm.out hco0 hco1
            omega
          rw [hJ] at hkj
          have hne : name ≠ kVer ∧ name ≠ kId ∧ name ≠ kMeth ∧ name ≠ kPar ∧ name ≠ kRes ∧ name ≠ kErr :=
            ⟨(hall.out 0 _ (by omega) rfl).symm, (hall.out 1 _ (by omega) rfl).symm, (hall.out 2 _ (by omega) rfl).symm, (hall.out 3 _ (by omega) rfl).symm, (hall.out 4 _ (by omega) rfl).symm, (hall.out 5 _ (by omega) rfl).symm⟩
          have hrd := others_read (Own := ownL) (Val := Lib.validD) n1 n4 nok.out nck.out (back_int M.code hco0 hco1) hJo hJp hne.1 hne.2.1 hne.2.2.1 hne.2.2.2.1 hne.2.2.2.2.1 hne.2.2.2.2.2
          have hB2 := Lib.hid (hB.out.trans (hI2.bel.mono hB.out.size))
          have hRd := rpcRead_any J _ wr _ _ (hEl.out _ hB2.out).1 hkj hJb
          have hRc := Lib.hid (fun (W : World) (hB : Below wr.heap.size wr W) => refCheck_any ownL Lib.validD refFormR_says J _ W _ _ (hkj.later hB) hJb)
          have hck := check_not (Own := ownL) (Val := Lib.validD) J
          rw [hrd] at hRd
          obtain ⟨c, hc⟩ : ∃ c, jcheck ownL Lib.validD J = c := ⟨_, rfl⟩
          rw [hc] at hRd hRc hck
          have hbox : Cel wr kb 25 #[.int .u8 J.kind, .string J.text, .slice nA nn nc, .slice lA ll lc] := by rw [← hJ]; exact hI2.box
          replace hbox := Lib.hid hbox
          replace hCm := Lib.hid (hCm.out.below hI2.bel hCm.out.lt)
          clear hB
          have hB := hB2
          clear hB2
          replace hRd := Lib.hid hRd
          obtain ⟨q0, q1, q2, q3⟩ := hbox.out.c4
          clear hJ hJo hJp hJb hne hrd hc hkj hks1 hI2 hperm hbd hl1 hl2 hlt hCj
          by_cases hc0 : c = 0
          · subst hc0
            rw [if_pos rfl] at hRd
            replace hRd := Lib.hid hRd
            clear hck
            go_upto_region 25 with fail
            go_wp2_with fail
            refine hRd.out.mono ?_
            intro e w25 hz
            obtain ⟨x1, x2, p1, p2, r1, r2, s1, s2, he, hs0, hs1, hs2, hOx, hOp, hOr, hb⟩ := hz
            obtain ⟨fA, fa, fb, fB, fc, fd, rfl, rfl⟩ := hOx.forms
            obtain ⟨gA, ga, gb, gB, gc, gd, rfl, rfl⟩ := hOp.forms
            obtain ⟨hA', ha, hb', hB', hc', hd, rfl, rfl⟩ := hOr.forms
            have hMd : MsgJ w25 M (.slice fA fa fb) (.slice fB fc fd) (.slice gA ga gb) (.slice gB gc gd) (.slice hA' ha hb') (.slice hB' hc' hd) := ⟨(OwnJ.jv _ hOx).more (fun _ _ _ => trivial), (OwnJ.jv _ hOp).more (fun _ _ _ => trivial), (OwnJ.jv _ hOr).more (fun _ _ _ => trivial)⟩
            dsimp only at he
            unfold msgV at he
            subst he
            replace hCm := Lib.hid (hCm.out.below hb hCm.out.lt)
            replace hbox := Lib.hid (hbox.out.below hb hbox.out.lt)
            replace hB := Lib.hid (hB.out.trans (hb.mono hB.out.size))
            have hbw := Lib.hid hb
            clear hb hs0 hs1 hs2 hOx hOp hOr hRd q0 q1 q2 q3
            go_upto_region 26 with ((with_reducible refine wpl ?_); refine wpList_store_cel rfl 73 (.tmp 18) (.tmp 127) (by rfl) w25.heap.size 0 #[.int .u8 M.kind, .int .u8 M.id.kind, .string M.id.text, .slice fA fa fb, .slice fB fc fd, .string M.method, .int .u8 M.params.kind, .string M.params.text, .slice gA ga gb, .slice gB gc gd, .int .u8 M.result.kind, .string M.result.text, .slice hA' ha hb', .slice hB' hc' hd, .int .i64 M.code, .string M.text] _ #[.int .u8 M.kind, .int .u8 M.id.kind, .string M.id.text, .slice fA fa fb, .slice fB fc fd, .string M.method, .int .u8 M.params.kind, .string M.params.text, .slice gA ga gb, .slice gB gc gd, .int .u8 M.result.kind, .string M.result.text, .slice hA' ha hb', .slice hB' hc' hd, .int .i64 M.code, .string M.text] 73 (by rfl) (by rfl) (Cel.fresh w25 73 _) (Nat.le_refl 16) (putA_whole _ _ rfl) msgInfo (by first | (simp; done) | (simp [Value.oneCell']; done)) ?_; intro V25 hCd hA; replace hCd := Lib.hid hCd; replace hA := Lib.hid hA)
            have hx : Below w25.heap.size w25 V25 := ((Below.refl _ _).alloc (Nat.le_refl _) _).trans (hA.out.1 _ (Nat.le_refl _))
            replace hCm := Lib.hid (hCm.out.below hx hCm.out.lt)
            replace hbox := Lib.hid (hbox.out.below hx hbox.out.lt)
            replace hMd := Lib.hid (hMd.later hx)
            replace hB := Lib.hid (hB.out.trans (hx.mono hB.out.size))
            have hwz := hbw.out.size
            replace hbw := Lib.hid (hbw.out.trans (hx.mono hwz))
            clear hA hx
            have hRm := Lib.hid (fun (W : World) (hB : Below V25.heap.size V25 W) => (hCm.out.below hB hCm.out.lt).rng)
            have hRd := Lib.hid (fun (W : World) (hB : Below V25.heap.size V25 W) => (hCd.out.below hB hCd.out.lt).rng)
            have hRk := Lib.hid (fun (W : World) (hB : Below V25.heap.size V25 W) => (hbox.out.below hB hbox.out.lt).rng)
            have hBx := Lib.hid (fun (W : World) (hS : Below V25.heap.size V25 W) => hB.out.trans (hS.mono (show w.heap.size ≤ V25.heap.size from hB.out.size)))
            have hWx := Lib.hid (fun (W : World) (hS : Below V25.heap.size V25 W) => hbw.out.trans (hS.mono (show wr.heap.size ≤ V25.heap.size from hbw.out.size)))
            have hMx := Lib.hid (fun (W : World) (hS : Below V25.heap.size V25 W) => hMl.out W (hBx.out W hS))
            refine wp_region_held_drew (S := fun W => Below V25.heap.size V25 W) (by kernel_rfl) (bel_drew (Below.refl _ _)) (fun hS => ?_)
            refine hTake (i := 0) (v := .int .i64 0) rfl (by kernel_rfl) (by kernel_rfl) (by kernel_rfl) (fun _ _ _ h => h) (Or.inl ⟨by rfl, by
              intro w' hSw
              go_simp⟩) hS ?_
            try simp only [Act.put, List.setIfInBounds_toArray, List.set_cons_zero, List.set_cons_succ]
            refine hTake (i := 1) (v := .bool true) rfl (by kernel_rfl) (by kernel_rfl) (by kernel_rfl) (fun _ _ _ h => h) (Or.inl ⟨by rfl, by
              intro w' hSw
              go_simp⟩) hS ?_
            try simp only [Act.put, List.setIfInBounds_toArray, List.set_cons_zero, List.set_cons_succ]
            refine hTake (i := 2) (v := .bool true) rfl (by kernel_rfl) (by kernel_rfl) (by kernel_rfl) (fun _ _ _ h => h) (Or.inl ⟨by rfl, by
              intro w' hSw
              go_simp⟩) hS ?_
            try simp only [Act.put, List.setIfInBounds_toArray, List.set_cons_zero, List.set_cons_succ]
            refine hTake (i := 3) (v := .agg #[.int .u8 M.kind, .int .u8 M.id.kind, .string M.id.text, .slice fA fa fb, .slice fB fc fd, .string M.method, .int .u8 M.params.kind, .string M.params.text, .slice gA ga gb, .slice gB gc gd, .int .u8 M.result.kind, .string M.result.text, .slice hA' ha hb', .slice hB' hc' hd, .int .i64 M.code, .string M.text]) rfl (by kernel_rfl) (by kernel_rfl) (by kernel_rfl) (fun _ _ _ h => h) (yieldsIf_load_mid (by rfl) 73 (.tmp 18) rfl w25.heap.size 0 (by rfl) [.int .u8 M.kind, .int .u8 M.id.kind, .string M.id.text, .slice fA fa fb, .slice fB fc fd, .string M.method, .int .u8 M.params.kind, .string M.params.text, .slice gA ga gb, .slice gB gc gd, .int .u8 M.result.kind, .string M.result.text, .slice hA' ha hb', .slice hB' hc' hd, .int .i64 M.code, .string M.text] dm hRd.out hdm.out.1 hdm.out.2 msgInfo) hS ?_
            try simp only [Act.put, List.setIfInBounds_toArray, List.set_cons_zero, List.set_cons_succ]
            refine hTake (i := 5) (v := .agg #[.int .u8 M.kind, .int .u8 M.id.kind, .string M.id.text, .slice xA xa xb, .slice xB xc xd, .string M.method, .int .u8 M.params.kind, .string M.params.text, .slice pA pa pb, .slice pB pc pd, .int .u8 M.result.kind, .string M.result.text, .slice rA ra rb, .slice rB rc rd, .int .i64 M.code, .string M.text]) rfl (by kernel_rfl) (by kernel_rfl) (by kernel_rfl) (fun _ _ _ h => h) (yieldsIf_load_mid (by rfl) 69 (.tmp 4) rfl w.heap.size 0 (by rfl) [.int .u8 M.kind, .int .u8 M.id.kind, .string M.id.text, .slice xA xa xb, .slice xB xc xd, .string M.method, .int .u8 M.params.kind, .string M.params.text, .slice pA pa pb, .slice pB pc pd, .int .u8 M.result.kind, .string M.result.text, .slice rA ra rb, .slice rB rc rd, .int .i64 M.code, .string M.text] dr hRm.out hdr.out.1 hdr.out.2 refMInfo2) hS ?_
            try simp only [Act.put, List.setIfInBounds_toArray, List.set_cons_zero, List.set_cons_succ]
            refine hOne (i := 4) (by kernel_rfl) rfl (fun K' hK => ?_)
            go_simp
            refine (of_any M _ _ _ _ _ _ _ (hMd.out.later hS) ⟨by omega, by omega, by omega⟩).mono ?_
            rintro e v1 ⟨u1, u2, t1, t2, o1, o2, he, hMu, hb⟩
            obtain ⟨uA, ua, ub, uB, uc, ud, rfl, rfl⟩ := hMu.1.forms
            obtain ⟨tA, ta, tb, tB, tc, td, rfl, rfl⟩ := hMu.2.1.forms
            obtain ⟨oA, oa, ob, oB, oc, od, rfl, rfl⟩ := hMu.2.2.forms
            unfold msgV at he
            subst he
            replace hMu := Lib.hid hMu
            have hS1 : Below V25.heap.size V25 v1 := hS.trans (hb.mono hS.size)
            clear hb hS
            have hS := hS1
            refine hK.out _ _ hS ?_
            clear hK
            try simp only [Act.put, List.setIfInBounds_toArray, List.set_cons_zero, List.set_cons_succ]
            refine hOne (i := 6) (by kernel_rfl) rfl (fun K' hK => ?_)
            go_simp
            refine (refSameM_any M _ _ _ _ _ _ _ _ _ _ _ _ _ hMu.out (hMx.out _ hS) ⟨by omega, by omega, by omega⟩).mono ?_
            rintro e v3 ⟨rfl, hb⟩
            have hS3 : Below V25.heap.size V25 v3 := hS.trans (hb.mono hS.size)
            clear hb hS hS1 hMu
            have hS := hS3
            refine hK.out _ _ hS ?_
            clear hK
            try simp only [Act.put, List.setIfInBounds_toArray, List.set_cons_zero, List.set_cons_succ]
            refine hTake (i := 7) (v := .bool true) rfl (by kernel_rfl) (by kernel_rfl) (by kernel_rfl) (fun _ _ _ h => h) (Or.inl ⟨by rfl, by
              intro w' hSw
              go_simp⟩) hS ?_
            try simp only [Act.put, List.setIfInBounds_toArray, List.set_cons_zero, List.set_cons_succ]
            refine hTake (i := 8) (v := .bool true) rfl (by kernel_rfl) (by kernel_rfl) (by kernel_rfl) (fun _ _ _ h => h) (Or.inl ⟨by rfl, by
              intro w' hSw
              go_simp⟩) hS ?_
            try simp only [Act.put, List.setIfInBounds_toArray, List.set_cons_zero, List.set_cons_succ]
            refine hTake (i := 9) (v := undef) rfl (by kernel_rfl) (by kernel_rfl) (by kernel_rfl) (fun _ _ _ h => h) (Or.inr ⟨by rfl, rfl⟩) hS ?_
            try simp only [Act.put, List.setIfInBounds_toArray, List.set_cons_zero, List.set_cons_succ]
            refine hTake (i := 10) (v := undef) rfl (by kernel_rfl) (by kernel_rfl) (by kernel_rfl) (fun _ _ _ h => h) (Or.inr ⟨by rfl, rfl⟩) hS ?_
            try simp only [Act.put, List.setIfInBounds_toArray, List.set_cons_zero, List.set_cons_succ]
            refine hTake (i := 11) (v := undef) rfl (by kernel_rfl) (by kernel_rfl) (by kernel_rfl) (fun _ _ _ h => h) (Or.inr ⟨by rfl, rfl⟩) hS ?_
            try simp only [Act.put, List.setIfInBounds_toArray, List.set_cons_zero, List.set_cons_succ]
            refine hTake (i := 12) (v := undef) rfl (by kernel_rfl) (by kernel_rfl) (by kernel_rfl) (fun _ _ _ h => h) (Or.inr ⟨by rfl, rfl⟩) hS ?_
            try simp only [Act.put, List.setIfInBounds_toArray, List.set_cons_zero, List.set_cons_succ]
            refine hTake (i := 13) (v := undef) rfl (by kernel_rfl) (by kernel_rfl) (by kernel_rfl) (fun _ _ _ h => h) (Or.inr ⟨by rfl, rfl⟩) hS ?_
            try simp only [Act.put, List.setIfInBounds_toArray, List.set_cons_zero, List.set_cons_succ]
            refine hTake (i := 14) (v := undef) rfl (by kernel_rfl) (by kernel_rfl) (by kernel_rfl) (fun _ _ _ h => h) (Or.inr ⟨by rfl, rfl⟩) hS ?_
            try simp only [Act.put, List.setIfInBounds_toArray, List.set_cons_zero, List.set_cons_succ]
            refine hTake (i := 15) (v := undef) rfl (by kernel_rfl) (by kernel_rfl) (by kernel_rfl) (fun _ _ _ h => h) (Or.inr ⟨by rfl, rfl⟩) hS ?_
            try simp only [Act.put, List.setIfInBounds_toArray, List.set_cons_zero, List.set_cons_succ]
            refine hTake (i := 16) (v := undef) rfl (by kernel_rfl) (by kernel_rfl) (by kernel_rfl) (fun _ _ _ h => h) (Or.inr ⟨by rfl, rfl⟩) hS ?_
            try simp only [Act.put, List.setIfInBounds_toArray, List.set_cons_zero, List.set_cons_succ]
            refine hTake (i := 17) (v := undef) rfl (by kernel_rfl) (by kernel_rfl) (by kernel_rfl) (fun _ _ _ h => h) (Or.inr ⟨by rfl, rfl⟩) hS ?_
            try simp only [Act.put, List.setIfInBounds_toArray, List.set_cons_zero, List.set_cons_succ]
            refine hTake (i := 18) (v := undef) rfl (by kernel_rfl) (by kernel_rfl) (by kernel_rfl) (fun _ _ _ h => h) (Or.inr ⟨by rfl, rfl⟩) hS ?_
            try simp only [Act.put, List.setIfInBounds_toArray, List.set_cons_zero, List.set_cons_succ]
            refine hTake (i := 19) (v := undef) rfl (by kernel_rfl) (by kernel_rfl) (by kernel_rfl) (fun _ _ _ h => h) (Or.inr ⟨by rfl, rfl⟩) hS ?_
            try simp only [Act.put, List.setIfInBounds_toArray, List.set_cons_zero, List.set_cons_succ]
            refine hTake (i := 20) (v := undef) rfl (by kernel_rfl) (by kernel_rfl) (by kernel_rfl) (fun _ _ _ h => h) (Or.inr ⟨by rfl, rfl⟩) hS ?_
            try simp only [Act.put, List.setIfInBounds_toArray, List.set_cons_zero, List.set_cons_succ]
            refine hTake (i := 21) (v := .bool true) rfl (by kernel_rfl) (by kernel_rfl) (by kernel_rfl) (fun _ _ _ h => h) (Or.inl ⟨by rfl, by
              intro w' hSw
              go_simp⟩) hS ?_
            try simp only [Act.put, List.setIfInBounds_toArray, List.set_cons_zero, List.set_cons_succ]
            refine hOne (i := 22) (by kernel_rfl) rfl (fun K' hK => ?_)
            go_simp
            refine hK.out _ _ hS ?_
            clear hK
            refine wpAnyH_done (by kernel_rfl) ?_ _
            have hfin := Lib.hid (hBx.out _ hS)
            clear hS hS3
            go_wp2_with fail
            go_ret
            exact ⟨rfl, hfin.out⟩
          · have hcf : (c == 0) = false := by simp [hc0]
            rw [if_neg hc0] at hRd
            replace hRd := Lib.hid hRd
            have hcn : (c != 0) = true := by simp [hc0]
            have hcm : (c != 73) = true := by simp [hck]
            replace hc0 := Lib.hid hc0
            replace hck := Lib.hid hck
            go_upto_region 25 with fail
            go_wp2_with fail
            refine hRd.out.mono ?_
            intro e w25 hz
            obtain ⟨x1, x2, p1, p2, r1, r2, s1, s2, he, hs0, hs1, hs2, hOx, hOp, hOr, hb⟩ := hz
            obtain ⟨fA, fa, fb, fB, fc, fd, rfl, rfl⟩ := hOx.forms
            obtain ⟨gA, ga, gb, gB, gc, gd, rfl, rfl⟩ := hOp.forms
            obtain ⟨hA', ha, hb', hB', hc', hd, rfl, rfl⟩ := hOr.forms
            have hMd : MsgJ w25 zeroM (.slice fA fa fb) (.slice fB fc fd) (.slice gA ga gb) (.slice gB gc gd) (.slice hA' ha hb') (.slice hB' hc' hd) := ⟨(OwnJ.jv _ hOx).more (fun _ _ _ => trivial), (OwnJ.jv _ hOp).more (fun _ _ _ => trivial), (OwnJ.jv _ hOr).more (fun _ _ _ => trivial)⟩
            dsimp only at he
            unfold msgV at he
            subst he
            replace hCm := Lib.hid (hCm.out.below hb hCm.out.lt)
            replace hbox := Lib.hid (hbox.out.below hb hbox.out.lt)
            replace hB := Lib.hid (hB.out.trans (hb.mono hB.out.size))
            have hbw := Lib.hid hb
            clear hb hs0 hs1 hs2 hOx hOp hOr hRd q0 q1 q2 q3
            go_upto_region 26 with ((with_reducible refine wpl ?_); refine wpList_store_cel rfl 73 (.tmp 18) (.tmp 127) (by rfl) w25.heap.size 0 #[.int .u8 zeroM.kind, .int .u8 zeroM.id.kind, .string zeroM.id.text, .slice fA fa fb, .slice fB fc fd, .string zeroM.method, .int .u8 zeroM.params.kind, .string zeroM.params.text, .slice gA ga gb, .slice gB gc gd, .int .u8 zeroM.result.kind, .string zeroM.result.text, .slice hA' ha hb', .slice hB' hc' hd, .int .i64 zeroM.code, .string zeroM.text] _ #[.int .u8 zeroM.kind, .int .u8 zeroM.id.kind, .string zeroM.id.text, .slice fA fa fb, .slice fB fc fd, .string zeroM.method, .int .u8 zeroM.params.kind, .string zeroM.params.text, .slice gA ga gb, .slice gB gc gd, .int .u8 zeroM.result.kind, .string zeroM.result.text, .slice hA' ha hb', .slice hB' hc' hd, .int .i64 zeroM.code, .string zeroM.text] 73 (by rfl) (by rfl) (Cel.fresh w25 73 _) (Nat.le_refl 16) (putA_whole _ _ rfl) msgInfo (by first | (simp; done) | (simp [Value.oneCell']; done)) ?_; intro V25 hCd hA; replace hCd := Lib.hid hCd; replace hA := Lib.hid hA)
            have hx : Below w25.heap.size w25 V25 := ((Below.refl _ _).alloc (Nat.le_refl _) _).trans (hA.out.1 _ (Nat.le_refl _))
            replace hCm := Lib.hid (hCm.out.below hx hCm.out.lt)
            replace hbox := Lib.hid (hbox.out.below hx hbox.out.lt)
            replace hMd := Lib.hid (hMd.later hx)
            replace hB := Lib.hid (hB.out.trans (hx.mono hB.out.size))
            have hwz := hbw.out.size
            replace hbw := Lib.hid (hbw.out.trans (hx.mono hwz))
            clear hA hx
            have hRm := Lib.hid (fun (W : World) (hB : Below V25.heap.size V25 W) => (hCm.out.below hB hCm.out.lt).rng)
            have hRd := Lib.hid (fun (W : World) (hB : Below V25.heap.size V25 W) => (hCd.out.below hB hCd.out.lt).rng)
            have hRk := Lib.hid (fun (W : World) (hB : Below V25.heap.size V25 W) => (hbox.out.below hB hbox.out.lt).rng)
            have hBx := Lib.hid (fun (W : World) (hS : Below V25.heap.size V25 W) => hB.out.trans (hS.mono (show w.heap.size ≤ V25.heap.size from hB.out.size)))
            have hWx := Lib.hid (fun (W : World) (hS : Below V25.heap.size V25 W) => hbw.out.trans (hS.mono (show wr.heap.size ≤ V25.heap.size from hbw.out.size)))
            have hMx := Lib.hid (fun (W : World) (hS : Below V25.heap.size V25 W) => hMl.out W (hBx.out W hS))
            refine wp_region_held_drew (S := fun W => Below V25.heap.size V25 W) (by kernel_rfl) (bel_drew (Below.refl _ _)) (fun hS => ?_)
            refine hTake (i := 0) (v := .int .i64 c) rfl (by kernel_rfl) (by kernel_rfl) (by kernel_rfl) (fun _ _ _ h => h) (Or.inl ⟨by rfl, by
              intro w' hSw
              go_simp⟩) hS ?_
            try simp only [Act.put, List.setIfInBounds_toArray, List.set_cons_zero, List.set_cons_succ]
            refine hTake (i := 1) (v := .bool false) rfl (by kernel_rfl) (by kernel_rfl) (by kernel_rfl) (fun _ _ _ h => h) (Or.inl ⟨by rfl, by
              intro w' hSw
              go_simp⟩) hS ?_
            try simp only [Act.put, List.setIfInBounds_toArray, List.set_cons_zero, List.set_cons_succ]
            refine hTake (i := 2) (v := .bool false) rfl (by kernel_rfl) (by kernel_rfl) (by kernel_rfl) (fun _ _ _ h => h) (Or.inl ⟨by rfl, by
              intro w' hSw
              go_simp⟩) hS ?_
            try simp only [Act.put, List.setIfInBounds_toArray, List.set_cons_zero, List.set_cons_succ]
            refine hTake (i := 3) (v := undef) rfl (by kernel_rfl) (by kernel_rfl) (by kernel_rfl) (fun _ _ _ h => h) (Or.inr ⟨by rfl, rfl⟩) hS ?_
            try simp only [Act.put, List.setIfInBounds_toArray, List.set_cons_zero, List.set_cons_succ]
            refine hTake (i := 4) (v := undef) rfl (by kernel_rfl) (by kernel_rfl) (by kernel_rfl) (fun _ _ _ h => h) (Or.inr ⟨by rfl, rfl⟩) hS ?_
            try simp only [Act.put, List.setIfInBounds_toArray, List.set_cons_zero, List.set_cons_succ]
            refine hTake (i := 5) (v := undef) rfl (by kernel_rfl) (by kernel_rfl) (by kernel_rfl) (fun _ _ _ h => h) (Or.inr ⟨by rfl, rfl⟩) hS ?_
            try simp only [Act.put, List.setIfInBounds_toArray, List.set_cons_zero, List.set_cons_succ]
            refine hTake (i := 6) (v := undef) rfl (by kernel_rfl) (by kernel_rfl) (by kernel_rfl) (fun _ _ _ h => h) (Or.inr ⟨by rfl, rfl⟩) hS ?_
            try simp only [Act.put, List.setIfInBounds_toArray, List.set_cons_zero, List.set_cons_succ]
            refine hTake (i := 7) (v := .bool false) rfl (by kernel_rfl) (by kernel_rfl) (by kernel_rfl) (fun _ _ _ h => h) (Or.inl ⟨by rfl, by
              intro w' hSw
              go_simp⟩) hS ?_
            try simp only [Act.put, List.setIfInBounds_toArray, List.set_cons_zero, List.set_cons_succ]
            refine hTake (i := 8) (v := .bool false) rfl (by kernel_rfl) (by kernel_rfl) (by kernel_rfl) (fun _ _ _ h => h) (Or.inl ⟨by rfl, by
              intro w' hSw
              go_simp⟩) hS ?_
            try simp only [Act.put, List.setIfInBounds_toArray, List.set_cons_zero, List.set_cons_succ]
            refine hTake (i := 9) (v := .int .i64 c) rfl (by kernel_rfl) (by kernel_rfl) (by kernel_rfl) (fun _ _ _ h => h) (Or.inl ⟨by rfl, by
              intro w' hSw
              go_simp⟩) hS ?_
            try simp only [Act.put, List.setIfInBounds_toArray, List.set_cons_zero, List.set_cons_succ]
            refine hTake (i := 10) (v := .bool true) rfl (by kernel_rfl) (by kernel_rfl) (by kernel_rfl) (fun _ _ _ h => h) (Or.inl ⟨by rfl, by
              intro w' hSw
              go_simp⟩) hS ?_
            try simp only [Act.put, List.setIfInBounds_toArray, List.set_cons_zero, List.set_cons_succ]
            refine hTake (i := 11) (v := .bool true) rfl (by kernel_rfl) (by kernel_rfl) (by kernel_rfl) (fun _ _ _ h => h) (Or.inl ⟨by rfl, by
              intro w' hSw
              go_simp⟩) hS ?_
            try simp only [Act.put, List.setIfInBounds_toArray, List.set_cons_zero, List.set_cons_succ]
            refine hTake (i := 12) (v := .int .i64 c) rfl (by kernel_rfl) (by kernel_rfl) (by kernel_rfl) (fun _ _ _ h => h) (Or.inl ⟨by rfl, by
              intro w' hSw
              go_simp⟩) hS ?_
            try simp only [Act.put, List.setIfInBounds_toArray, List.set_cons_zero, List.set_cons_succ]
            refine hTake (i := 13) (v := .bool true) rfl (by kernel_rfl) (by kernel_rfl) (by kernel_rfl) (fun _ _ _ h => h) (Or.inl ⟨by rfl, by
              intro w' hSw
              go_simp⟩) hS ?_
            try simp only [Act.put, List.setIfInBounds_toArray, List.set_cons_zero, List.set_cons_succ]
            refine hTake (i := 14) (v := .bool true) rfl (by kernel_rfl) (by kernel_rfl) (by kernel_rfl) (fun _ _ _ h => h) (Or.inl ⟨by rfl, by
              intro w' hSw
              go_simp⟩) hS ?_
            try simp only [Act.put, List.setIfInBounds_toArray, List.set_cons_zero, List.set_cons_succ]
            refine hTake (i := 15) (v := .bool true) rfl (by kernel_rfl) (by kernel_rfl) (by kernel_rfl) (fun _ _ _ h => h) (Or.inl ⟨by rfl, by
              intro w' hSw
              go_simp⟩) hS ?_
            try simp only [Act.put, List.setIfInBounds_toArray, List.set_cons_zero, List.set_cons_succ]
            refine hTake (i := 16) (v := .agg #[.int .u8 J.kind, .string J.text, .slice nA nn nc, .slice lA ll lc]) rfl (by kernel_rfl) (by kernel_rfl) (by kernel_rfl) (fun _ _ _ h => h) (yieldsIf_load_mid (by rfl) 25 (.tmp 15) rfl kb 0 (by rfl) [.int .u8 J.kind, .string J.text, .slice nA nn nc, .slice lA ll lc] dj hRk.out hdj.out.1 hdj.out.2 jsnInfo) hS ?_
            try simp only [Act.put, List.setIfInBounds_toArray, List.set_cons_zero, List.set_cons_succ]
            refine hTake (i := 18) (v := .int .i64 c) rfl (by kernel_rfl) (by kernel_rfl) (by kernel_rfl) (fun _ _ _ h => h) (Or.inl ⟨by rfl, by
              intro w' hSw
              go_simp⟩) hS ?_
            try simp only [Act.put, List.setIfInBounds_toArray, List.set_cons_zero, List.set_cons_succ]
            refine hOne (i := 17) (by kernel_rfl) rfl (fun K' hK => ?_)
            go_simp
            refine (hRc.out _ (hWx.out _ hS)).mono ?_
            rintro e v3 ⟨rfl, hb⟩
            have hS3 : Below V25.heap.size V25 v3 := hS.trans (hb.mono hS.size)
            clear hb hS
            have hS := hS3
            refine hK.out _ _ hS ?_
            clear hK
            try simp only [Act.put, List.setIfInBounds_toArray, List.set_cons_zero, List.set_cons_succ]
            refine hTake (i := 19) (v := .bool true) rfl (by kernel_rfl) (by kernel_rfl) (by kernel_rfl) (fun _ _ _ h => h) (Or.inl ⟨by rfl, by
              intro w' hSw
              go_simp⟩) hS ?_
            try simp only [Act.put, List.setIfInBounds_toArray, List.set_cons_zero, List.set_cons_succ]
            refine hTake (i := 20) (v := .bool true) rfl (by kernel_rfl) (by kernel_rfl) (by kernel_rfl) (fun _ _ _ h => h) (Or.inl ⟨by rfl, by
              intro w' hSw
              go_simp⟩) hS ?_
            try simp only [Act.put, List.setIfInBounds_toArray, List.set_cons_zero, List.set_cons_succ]
            refine hTake (i := 21) (v := .bool true) rfl (by kernel_rfl) (by kernel_rfl) (by kernel_rfl) (fun _ _ _ h => h) (Or.inl ⟨by rfl, by
              intro w' hSw
              go_simp⟩) hS ?_
            try simp only [Act.put, List.setIfInBounds_toArray, List.set_cons_zero, List.set_cons_succ]
            refine hOne (i := 22) (by kernel_rfl) rfl (fun K' hK => ?_)
            go_simp
            refine hK.out _ _ hS ?_
            clear hK
            refine wpAnyH_done (by kernel_rfl) ?_ _
            have hfin := Lib.hid (hBx.out _ hS)
            clear hS hS3
            go_wp2_with fail
            go_ret
            exact ⟨rfl, hfin.out⟩
end Go.Proofs.YtdjfoabinjfnfaaGreatDoor
