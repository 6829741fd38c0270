/-
  The walks of lsp.str, lsp.count, lsp.IsID.
-/
import Derived.Test.YtlnkjacbdolhnaaGreatDoorLmA
import Derived.Test.YtlnkjacbdolhnaaGreatDoorM12
import Derived.Test.YtlnkjacbdolhnaaGreatDoorM15
import Derived.Test.YtlnkjacbdolhnaaGreatDoorM21
namespace Go.Proofs.YtlnkjacbdolhnaaGreatDoor
open Go.RowKit

theorem set_own {cs : Array Value} {o : Nat} {v : Value} (h : cs[o]? = some v) : cs.setIfInBounds o v = cs := by
  apply Array.ext
  · simp
  · intro i h1 h2
    rw [Array.getElem_setIfInBounds (by simpa using h1)]
    split
    · next e =>
      subst e
      have := (Array.getElem?_eq_some_iff.1 h).2
      exact this.symm
    · rfl
/-- How a call ends that reads into a cell. -/
def CellEnd (r : Bool) (b o : Nat) (tM : TypeId) (cs : Array Value) (u : Value) (w : World) (e : Ending) (w' : World) : Prop := e = .returned (.bool r) ∧ Cel w' b tM (cs.setIfInBounds o u) ∧ But w.heap.size b w w'
set_option maxHeartbeats 2000000 in
theorem lspStr_any (j : Jsn) (X : Nat → Prop) (b o : Nat) (tM : TypeId) (cs : Array Value) (t : ByteArray) (w : World) (vn vl : Value) (hV : JV w X j vn vl) (hC : Cel w b tM cs) (ho : cs[o]? = some (.string t)) :
    Calls Tryz.prog 69 #[.agg #[.int .u8 j.kind, .string j.text, vn, vl], .pointer (some ⟨b, o, none⟩)] w (CellEnd (lTxt j t).1 b o tM cs (.string (lTxt j t).2) w) := by
  obtain ⟨A, n, c, A', n', c', rfl, rfl⟩ := hV.forms
  obtain ⟨k, s, ns, l⟩ := j
  dsimp only
  clear hV
  obtain ⟨w0, hw0⟩ : ∃ w0, w.alloc (.cells #[.int .u8 k, .string s, .slice A n c, .slice A' n' c'] 25) = w0 := ⟨_, rfl⟩
  have hB0 : Below w.heap.size w w0 := by rw [← hw0]; exact (Below.refl _ _).alloc (Nat.le_refl _) _
  have hC1 : Cel w0 w.heap.size 25 #[.int .u8 k, .string s, .slice A n c, .slice A' n' c'] := by rw [← hw0]; exact Cel.fresh _ _ _
  have hM := hC.below hB0 hC.lt
  have hb0 := But.of (b := b) hB0
  obtain ⟨a0, a1, a2, a3⟩ := hC1.d4
  have m0 : w0.cell? ⟨b, o, none⟩ = some (.string t) := (hM.cell o).trans ho
  have f0 := hM.froz o
  replace hw0 := Lib.hid hw0
  clear hC hC1 hB0
  unfold lTxt
  dsimp only
  by_cases hk : k = 5
  · subst hk
    rw [if_pos rfl]
    have hM2 := hM.set o (.string s)
    have hb2 := hb0.set o (.string s)
    replace hM2 := Lib.hid hM2
    replace hb2 := Lib.hid hb2
    clear hM hb0
    go_enter Tryz.func69, Tryz.ntmps69
    go_upto_region 1 with fail
    rw [hw0.out]
    clear hw0
    go_wp2_with fail
    exact bodyPost_ret (by simp [results, Tryz.results69, go_sem]) rfl ⟨rfl, hM2.out, hb2.out⟩
  · rw [if_neg hk]
    have hk1 : (k == 5) = false := by simpa using hk
    replace hk := Lib.hid hk
    rw [← set_own ho] at hM
    replace hM := Lib.hid hM
    replace hb0 := Lib.hid hb0
    go_enter Tryz.func69, Tryz.ntmps69
    go_upto_region 1 with fail
    rw [hw0.out]
    clear hw0
    go_wp2_with fail
    exact bodyPost_ret (by simp [results, Tryz.results69, go_sem]) rfl ⟨rfl, hM.out, hb0.out⟩
set_option maxHeartbeats 4000000 in
theorem lspCount_any (j : Jsn) (X : Nat → Prop) (b o : Nat) (tM : TypeId) (cs : Array Value) (t : Int) (w : World) (vn vl : Value) (hV : JV w X j vn vl) (hbk : jbulk j ≤ 1000000000000) (hC : Cel w b tM cs) (ho : cs[o]? = some (.int .i64 t)) :
    Calls Tryz.prog 74 #[.agg #[.int .u8 j.kind, .string j.text, vn, vl], .pointer (some ⟨b, o, none⟩)] w (CellEnd (lNum j t).1 b o tM cs (.int .i64 (lNum j t).2) w) := by
  obtain ⟨A, n, c, A', n', c', rfl, rfl⟩ := hV.forms
  obtain ⟨hts, _⟩ := bulk_parts hbk
  obtain ⟨k, s, ns, l⟩ := j
  dsimp only at hts ⊢
  clear hV hbk
  obtain ⟨w0, hw0⟩ : ∃ w0, w.alloc (.cells #[.int .u8 k, .string s, .slice A n c, .slice A' n' c'] 25) = w0 := ⟨_, rfl⟩
  have hB0 : Below w.heap.size w w0 := by rw [← hw0]; exact (Below.refl _ _).alloc (Nat.le_refl _) _
  have hC1 : Cel w0 w.heap.size 25 #[.int .u8 k, .string s, .slice A n c, .slice A' n' c'] := by rw [← hw0]; exact Cel.fresh _ _ _
  have hM0 := hC.below hB0 hC.lt
  have hb0 := But.of (b := b) hB0
  have hs0 := hB0.size
  have hcall := decInt_any s w0 (by omega)
  have hcnt : cntJ ⟨k, s, ns, l⟩ = if k = 4 ∧ (intL s.data.toList).2 = 0 ∧ 0 ≤ (intL s.data.toList).1 ∧ (intL s.data.toList).1 ≤ 2147483647 then some (intL s.data.toList).1 else none := rfl
  obtain ⟨⟨a, q⟩, haq⟩ : ∃ r, intL s.data.toList = r := ⟨_, rfl⟩
  rw [haq] at hcall hcnt
  dsimp only at hcall hcnt
  replace hw0 := Lib.hid hw0
  replace ho := Lib.hid ho
  replace hM0 := Lib.hid hM0
  replace hb0 := Lib.hid hb0
  replace hs0 := Lib.hid hs0
  replace hC1 := Lib.hid hC1
  replace hcall := Lib.hid hcall
  clear hC hB0 hts haq
  unfold lNum
  have hbad : ¬ (k = 4 ∧ q = 0 ∧ 0 ≤ a ∧ a ≤ 2147483647) → cntJ ⟨k, s, ns, l⟩ = none := fun h => by rw [hcnt, if_neg h]
  by_cases hk : k = 4
  case neg =>
    have hk1 : (k == 4) = false := by simpa using hk
    replace hbad := Lib.hid (hbad (fun h => hk h.1))
    replace hk := Lib.hid hk
    clear hcnt
    rw [hbad.out]
    dsimp only
    clear hbad
    obtain ⟨z0, z1, z2, z3⟩ := hC1.out.d4
    go_enter Tryz.func74, Tryz.ntmps74
    go_upto_region 1 with fail
    rw [hw0.out]
    clear hw0
    go_wp2_with fail
    clear z0 z1 z2 z3
    refine hcall.out.mono ?_
    rintro en w1 ⟨rfl, hB1⟩
    have hM := hM0.out.below hB1 hM0.out.lt
    have hb1 := hb0.out.trans ((But.of (b := b) hB1).mono hs0.out)
    obtain ⟨a0, a1, a2, a3⟩ := (hC1.out.below hB1 hC1.out.lt).d4
    have m0 : w1.cell? ⟨b, o, none⟩ = some (.int .i64 t) := (hM.cell o).trans ho.out
    have f0 := hM.froz o
    clear hcall hM0 hb0 hC1 hB1 hs0
    rw [← set_own ho.out] at hM
    replace hM := Lib.hid hM
    replace hb1 := Lib.hid hb1
    clear ho
    go_wp2_with fail
    exact bodyPost_ret (by simp [results, Tryz.results74, go_sem]) rfl ⟨rfl, hM.out, hb1.out⟩
  subst hk
  by_cases hq : q = 0
  case neg =>
    have hq1 : (q == 0) = false := by simpa using hq
    replace hbad := Lib.hid (hbad (fun h => hq h.2.1))
    replace hq := Lib.hid hq
    clear hcnt
    rw [hbad.out]
    dsimp only
    clear hbad
    obtain ⟨z0, z1, z2, z3⟩ := hC1.out.d4
    go_enter Tryz.func74, Tryz.ntmps74
    go_upto_region 1 with fail
    rw [hw0.out]
    clear hw0
    go_wp2_with fail
    clear z0 z1 z2 z3
    refine hcall.out.mono ?_
    rintro en w1 ⟨rfl, hB1⟩
    have hM := hM0.out.below hB1 hM0.out.lt
    have hb1 := hb0.out.trans ((But.of (b := b) hB1).mono hs0.out)
    obtain ⟨a0, a1, a2, a3⟩ := (hC1.out.below hB1 hC1.out.lt).d4
    have m0 : w1.cell? ⟨b, o, none⟩ = some (.int .i64 t) := (hM.cell o).trans ho.out
    have f0 := hM.froz o
    clear hcall hM0 hb0 hC1 hB1 hs0
    rw [← set_own ho.out] at hM
    replace hM := Lib.hid hM
    replace hb1 := Lib.hid hb1
    clear ho
    go_wp2_with fail
    exact bodyPost_ret (by simp [results, Tryz.results74, go_sem]) rfl ⟨rfl, hM.out, hb1.out⟩
  subst hq
  by_cases h0 : 0 ≤ a
  case neg =>
    have h01 : a < 0 := by omega
    replace hbad := Lib.hid (hbad (fun h => h0 h.2.2.1))
    clear hcnt h0
    rw [hbad.out]
    dsimp only
    clear hbad
    obtain ⟨z0, z1, z2, z3⟩ := hC1.out.d4
    go_enter Tryz.func74, Tryz.ntmps74
    go_upto_region 1 with fail
    rw [hw0.out]
    clear hw0
    go_wp2_with fail
    clear z0 z1 z2 z3
    refine hcall.out.mono ?_
    rintro en w1 ⟨rfl, hB1⟩
    have hM := hM0.out.below hB1 hM0.out.lt
    have hb1 := hb0.out.trans ((But.of (b := b) hB1).mono hs0.out)
    obtain ⟨a0, a1, a2, a3⟩ := (hC1.out.below hB1 hC1.out.lt).d4
    have m0 : w1.cell? ⟨b, o, none⟩ = some (.int .i64 t) := (hM.cell o).trans ho.out
    have f0 := hM.froz o
    clear hcall hM0 hb0 hC1 hB1 hs0
    rw [← set_own ho.out] at hM
    replace hM := Lib.hid hM
    replace hb1 := Lib.hid hb1
    clear ho
    go_wp2_with fail
    exact bodyPost_ret (by simp [results, Tryz.results74, go_sem]) rfl ⟨rfl, hM.out, hb1.out⟩
  by_cases h1 : a ≤ 2147483647
  case neg =>
    have h01 : ¬ a < 0 := by omega
    have h11 : 2147483647 < a := by omega
    replace hbad := Lib.hid (hbad (fun h => h1 h.2.2.2))
    clear hcnt h0 h1
    rw [hbad.out]
    dsimp only
    clear hbad
    obtain ⟨z0, z1, z2, z3⟩ := hC1.out.d4
    go_enter Tryz.func74, Tryz.ntmps74
    go_upto_region 1 with fail
    rw [hw0.out]
    clear hw0
    go_wp2_with fail
    clear z0 z1 z2 z3
    refine hcall.out.mono ?_
    rintro en w1 ⟨rfl, hB1⟩
    have hM := hM0.out.below hB1 hM0.out.lt
    have hb1 := hb0.out.trans ((But.of (b := b) hB1).mono hs0.out)
    obtain ⟨a0, a1, a2, a3⟩ := (hC1.out.below hB1 hC1.out.lt).d4
    have m0 : w1.cell? ⟨b, o, none⟩ = some (.int .i64 t) := (hM.cell o).trans ho.out
    have f0 := hM.froz o
    clear hcall hM0 hb0 hC1 hB1 hs0
    rw [← set_own ho.out] at hM
    replace hM := Lib.hid hM
    replace hb1 := Lib.hid hb1
    clear ho
    go_wp2_with fail
    exact bodyPost_ret (by simp [results, Tryz.results74, go_sem]) rfl ⟨rfl, hM.out, hb1.out⟩
  case pos =>
    rw [hcnt, if_pos ⟨rfl, rfl, h0, h1⟩]
    dsimp only
    have h01 : ¬ a < 0 := by omega
    have h11 : ¬ 2147483647 < a := by omega
    clear hcnt hbad h0 h1
    obtain ⟨z0, z1, z2, z3⟩ := hC1.out.d4
    go_enter Tryz.func74, Tryz.ntmps74
    go_upto_region 1 with fail
    rw [hw0.out]
    clear hw0
    go_wp2_with fail
    clear z0 z1 z2 z3
    refine hcall.out.mono ?_
    rintro en w1 ⟨rfl, hB1⟩
    have hM := hM0.out.below hB1 hM0.out.lt
    have hb1 := hb0.out.trans ((But.of (b := b) hB1).mono hs0.out)
    obtain ⟨a0, a1, a2, a3⟩ := (hC1.out.below hB1 hC1.out.lt).d4
    have m0 : w1.cell? ⟨b, o, none⟩ = some (.int .i64 t) := (hM.cell o).trans ho.out
    have f0 := hM.froz o
    clear hcall hM0 hb0 hC1 hB1 hs0
    have hM2 := hM.set o (.int .i64 a)
    have hb2 := hb1.set o (.int .i64 a)
    replace hM2 := Lib.hid hM2
    replace hb2 := Lib.hid hb2
    clear hM hb1
    clear ho
    go_wp2_with fail
    exact bodyPost_ret (by simp [results, Tryz.results74, go_sem]) rfl ⟨rfl, hM2.out, hb2.out⟩
set_option maxHeartbeats 4000000 in
theorem lspIsID_any (j : Jsn) (X : Nat → Prop) (w : World) (vn vl : Value) (hV : JV w X j vn vl) (hbk : jbulk j ≤ 1000000000000) :
    Calls Tryz.prog 80 #[.agg #[.int .u8 j.kind, .string j.text, vn, vl]] w fun e w' => e = .returned (.bool (isIdJ j)) ∧ Below w.heap.size w w' := by
  obtain ⟨A, n, c, A', n', c', rfl, rfl⟩ := hV.forms
  obtain ⟨hts, _⟩ := bulk_parts hbk
  obtain ⟨k, s, ns, l⟩ := j
  dsimp only at hts ⊢
  clear hV hbk
  obtain ⟨w0, hw0⟩ : ∃ w0, w.alloc (.cells #[.int .u8 k, .string s, .slice A n c, .slice A' n' c'] 25) = w0 := ⟨_, rfl⟩
  have hB0 : Below w.heap.size w w0 := by rw [← hw0]; exact (Below.refl _ _).alloc (Nat.le_refl _) _
  have hC1 : Cel w0 w.heap.size 25 #[.int .u8 k, .string s, .slice A n c, .slice A' n' c'] := by rw [← hw0]; exact Cel.fresh _ _ _
  have hcall := decInt_any s w0 (by omega)
  have hid : isIdJ ⟨k, s, ns, l⟩ = (decide (k = 5) || decide (k = 4) && decide ((intL s.data.toList).2 = 0)) := rfl
  obtain ⟨⟨a, q⟩, haq⟩ : ∃ r, intL s.data.toList = r := ⟨_, rfl⟩
  rw [haq] at hcall hid
  dsimp only at hcall hid
  replace hw0 := Lib.hid hw0
  replace hB0 := Lib.hid hB0
  replace hC1 := Lib.hid hC1
  replace hcall := Lib.hid hcall
  clear hts haq
  have hcases : k = 5 ∨ (k = 4 ∧ q = 0) ∨ (k = 4 ∧ q ≠ 0) ∨ (k ≠ 5 ∧ k ≠ 4) := by omega
  rcases hcases with rfl | ⟨rfl, rfl⟩ | ⟨rfl, hq⟩ | ⟨hk, hk4⟩
  · have hval := Lib.hid (show isIdJ ⟨5, s, ns, l⟩ = true by rw [hid]; rfl)
    clear hid
    obtain ⟨z0, z1, z2, z3⟩ := hC1.out.d4
    go_enter Tryz.func80, Tryz.ntmps80
    go_upto_region 1 with fail
    rw [hw0.out]
    clear hw0
    go_wp2_with fail
    clear z0 z1 z2 z3
    refine hcall.out.mono ?_
    rintro en w1 ⟨rfl, hB1⟩
    obtain ⟨a0, a1, a2, a3⟩ := (hC1.out.below hB1 hC1.out.lt).d4
    have hB2 := Lib.hid (hB0.out.trans (hB1.mono hB0.out.size))
    clear hcall hB0 hC1 hB1
    go_wp2_with fail
    exact bodyPost_ret (v := .bool true) (by simp [results, Tryz.results80, go_sem]) rfl ⟨by rw [hval.out], hB2.out⟩
  · have hval := Lib.hid (show isIdJ ⟨4, s, ns, l⟩ = true by rw [hid]; rfl)
    clear hid
    obtain ⟨z0, z1, z2, z3⟩ := hC1.out.d4
    go_enter Tryz.func80, Tryz.ntmps80
    go_upto_region 1 with fail
    rw [hw0.out]
    clear hw0
    go_wp2_with fail
    clear z0 z1 z2 z3
    refine hcall.out.mono ?_
    rintro en w1 ⟨rfl, hB1⟩
    obtain ⟨a0, a1, a2, a3⟩ := (hC1.out.below hB1 hC1.out.lt).d4
    have hB2 := Lib.hid (hB0.out.trans (hB1.mono hB0.out.size))
    clear hcall hB0 hC1 hB1
    go_wp2_with fail
    exact bodyPost_ret (v := .bool true) (by simp [results, Tryz.results80, go_sem]) rfl ⟨by rw [hval.out], hB2.out⟩
  · have hq1 : (q == 0) = false := by simpa using hq
    have hval := Lib.hid (show isIdJ ⟨4, s, ns, l⟩ = false by rw [hid]; simp [hq])
    clear hid
    replace hq := Lib.hid hq
    obtain ⟨z0, z1, z2, z3⟩ := hC1.out.d4
    go_enter Tryz.func80, Tryz.ntmps80
    go_upto_region 1 with fail
    rw [hw0.out]
    clear hw0
    go_wp2_with fail
    clear z0 z1 z2 z3
    refine hcall.out.mono ?_
    rintro en w1 ⟨rfl, hB1⟩
    obtain ⟨a0, a1, a2, a3⟩ := (hC1.out.below hB1 hC1.out.lt).d4
    have hB2 := Lib.hid (hB0.out.trans (hB1.mono hB0.out.size))
    clear hcall hB0 hC1 hB1
    go_wp2_with fail
    exact bodyPost_ret (v := .bool false) (by simp [results, Tryz.results80, go_sem]) rfl ⟨by rw [hval.out], hB2.out⟩
  · have hk1 : (k == 5) = false := by simpa using hk
    have hk2 : (k == 4) = false := by simpa using hk4
    have hval := Lib.hid (show isIdJ ⟨k, s, ns, l⟩ = false by rw [hid]; simp [hk, hk4])
    clear hid
    replace hk := Lib.hid hk
    replace hk4 := Lib.hid hk4
    obtain ⟨z0, z1, z2, z3⟩ := hC1.out.d4
    go_enter Tryz.func80, Tryz.ntmps80
    go_upto_region 1 with fail
    rw [hw0.out]
    clear hw0
    go_wp2_with fail
    clear z0 z1 z2 z3
    refine hcall.out.mono ?_
    rintro en w1 ⟨rfl, hB1⟩
    obtain ⟨a0, a1, a2, a3⟩ := (hC1.out.below hB1 hC1.out.lt).d4
    have hB2 := Lib.hid (hB0.out.trans (hB1.mono hB0.out.size))
    clear hcall hB0 hC1 hB1
    go_wp2_with fail
    exact bodyPost_ret (v := .bool false) (by simp [results, Tryz.results80, go_sem]) rfl ⟨by rw [hval.out], hB2.out⟩
end Go.Proofs.YtlnkjacbdolhnaaGreatDoor


/-
  The walk of lsp.position.
-/
namespace Go.Proofs.YtlnkjacbdolhnaaGreatDoor
open Go.RowKit

theorem memJ_bulk (j : Jsn) (x : ByteArray) {m : Nat} (h : jbulk j ≤ m) : jbulk (memJ j x) ≤ m := by
  unfold memJ
  rcases hg : jget j x with _ | y
  · exact Nat.le_trans (show jbulk ⟨0, ⟨#[]⟩, [], []⟩ ≤ 1 by rw [jbulk_eq]; exact Nat.le_refl 1) (Nat.le_trans (jbulk_pos j) h)
  · have hy : y ∈ j.list := by
      unfold jget at hg
      split at hg
      · split at hg
        · cases hg
        · exact List.mem_of_getElem? hg
      · cases hg
    have := (bulk_parts h).2.2.2.2 y hy
    show jbulk y ≤ m
    omega
theorem JV.but {w w' : World} {X : Nat → Prop} {B b : Nat} {j : Jsn} {vn vl : Value} (h : JV w X j vn vl) (hb : But B b w w') (hX : ∀ k, X k → k < w.heap.size → k < B ∧ k ≠ b) : JV w' X j vn vl :=
  JV.keep hb.size (fun p h1 h2 => World.cell?_of_block (hb.block p.block (hX _ h1 h2).1 (hX _ h1 h2).2)) (fun _ h _ => h) j h
def PosEnd (r : Bool × Int × Int) (b o : Nat) (tM : TypeId) (cs : Array Value) (w : World) (e : Ending) (w' : World) : Prop := e = .returned (.bool r.1) ∧ Cel w' b tM ((cs.setIfInBounds o (.int .i64 r.2.1)).setIfInBounds (o + 1) (.int .i64 r.2.2)) ∧ But w.heap.size b w w'
set_option maxRecDepth 100000 in
set_option maxHeartbeats 4000000 in
theorem lspPosition_any (j : Jsn) (X : Nat → Prop) (b o : Nat) (tM : TypeId) (cs : Array Value) (p : Int × Int) (w : World) (vn vl : Value) (hV : JV w X j vn vl) (hbk : jbulk j ≤ 1000000000000) (hX : ∀ k, X k → k < w.heap.size → k ≠ b) (hC : Cel w b tM cs) (ho : cs[o]? = some (.int .i64 p.1)) (ho1 : cs[o + 1]? = some (.int .i64 p.2)) :
    Calls Tryz.prog 72 #[.agg #[.int .u8 j.kind, .string j.text, vn, vl], .pointer (some ⟨b, o, none⟩)] w (PosEnd (lPos j p) b o tM cs w) := by
  obtain ⟨A, n, c, A', n', c', rfl, rfl⟩ := hV.forms
  obtain ⟨w0, hw0⟩ : ∃ w0, w.alloc (.cells #[.int .u8 j.kind, .string j.text, .slice A n c, .slice A' n' c'] 25) = w0 := ⟨_, rfl⟩
  have hB0 : Below w.heap.size w w0 := by rw [← hw0]; exact (Below.refl _ _).alloc (Nat.le_refl _) _
  have hs0 : w0.heap.size = w.heap.size + 1 := by rw [← hw0]; simp
  have hC1 : Cel w0 w.heap.size 25 #[.int .u8 j.kind, .string j.text, .slice A n c, .slice A' n' c'] := by rw [← hw0]; exact Cel.fresh _ _ _
  have hblt := hC.lt
  have hM0 := hC.below hB0 hC.lt
  have hback : ∀ W, But w0.heap.size b w0 W → But w.heap.size b w W := fun W h => (But.of hB0).trans (h.mono (by omega))
  have hJ : ∀ W, But w0.heap.size b w0 W → JV W X j (.slice A n c) (.slice A' n' c') := fun W h => hV.but (hback W h) (fun k h1 h2 => ⟨h2, hX k h1 h2⟩)
  have hm1 : ∀ W, But w0.heap.size b w0 W → Calls Tryz.prog 70 #[.agg #[.int .u8 j.kind, .string j.text, .slice A n c, .slice A' n' c'], .string ⟨#[108, 105, 110, 101]⟩] W (MemEnd (memJ j yLine) X W) := fun W h => lspMember_any j X W _ _ yLine (hJ W h) hbk
  have hm2 : ∀ W, But w0.heap.size b w0 W → Calls Tryz.prog 70 #[.agg #[.int .u8 j.kind, .string j.text, .slice A n c, .slice A' n' c'], .string ⟨#[99, 104, 97, 114, 97, 99, 116, 101, 114]⟩] W (MemEnd (memJ j yCharacter) X W) := fun W h => lspMember_any j X W _ _ yCharacter (hJ W h) hbk
  have hc1 := fun (W : World) (un ul : Value) (h1 : JV W X (memJ j yLine) un ul) (h2 : Cel W b tM cs) => lspCount_any (memJ j yLine) X b o tM cs p.1 W un ul h1 (memJ_bulk j _ hbk) h2 ho
  have hc2 := fun (W : World) (un ul : Value) (a : Int) (h1 : JV W X (memJ j yCharacter) un ul) (h2 : Cel W b tM (cs.setIfInBounds o (.int .i64 a))) => lspCount_any (memJ j yCharacter) X b (o + 1) tM (cs.setIfInBounds o (.int .i64 a)) p.2 W un ul h1 (memJ_bulk j _ hbk) h2 (by rw [Array.getElem?_setIfInBounds_ne (by omega)]; exact ho1)
  have hS : ∀ W, But w0.heap.size b w0 W → W.cell? ⟨w.heap.size, 0, none⟩ = some (.int .u8 j.kind) ∧ W.cell? ⟨w.heap.size, 1, none⟩ = some (.string j.text) ∧ W.cell? ⟨w.heap.size, 2, none⟩ = some (.slice A n c) ∧ W.cell? ⟨w.heap.size, 3, none⟩ = some (.slice A' n' c') := fun W h =>
    (hC1.but h (by omega) (by omega)).d4
  have hs1 : cs.setIfInBounds o (.int .i64 p.1) = cs := set_own ho
  have hs2 : ∀ a, (cs.setIfInBounds o (.int .i64 a)).setIfInBounds (o + 1) (.int .i64 p.2) = cs.setIfInBounds o (.int .i64 a) := fun a => set_own (by rw [Array.getElem?_setIfInBounds_ne (by omega)]; exact ho1)
  have hZ0 : But w0.heap.size b w0 w0.drew := (But.refl _ _ _).drew
  have hM1 : Cel w0.drew b tM cs := hM0.drew
  obtain ⟨q, hq⟩ : ∃ q, lPos j p = q := ⟨_, rfl⟩
  rw [hq]
  replace hq := Lib.hid hq
  replace hw0 := Lib.hid hw0
  replace hback := Lib.hid hback
  replace hm1 := Lib.hid hm1
  replace hm2 := Lib.hid hm2
  replace hc1 := Lib.hid hc1
  replace hc2 := Lib.hid hc2
  replace hs0 := Lib.hid hs0
  replace hs1 := Lib.hid hs1
  replace hs2 := Lib.hid hs2
  replace hZ0 := Lib.hid hZ0
  have hM := Lib.hid hM1
  have hZ := hZ0
  have hwb : w.heap.size ≠ b := by omega
  replace hC1 := Lib.hid hC1
  clear hZ0 hM1
  clear hV hbk hX hC ho ho1 hB0 hM0 hJ hblt hS
  rcases hcase : cntJ (memJ j yLine) with _ | a
  · have hr : q = (false, p) := by rw [← hq.out]; unfold lPos lNum; rw [hcase]
    have hl : lNum (memJ j yLine) p.1 = (false, p.1) := by unfold lNum; rw [hcase]
    rw [hl] at hc1
    subst hr
    clear hcase hl hq hm2 hc2
    go_enter Tryz.func72, Tryz.ntmps72
    go_upto_region 1 with fail
    rw [hw0.out]
    clear hw0
    refine wp_region_held_drew (S := fun W => Cel W w.heap.size 25 #[.int .u8 j.kind, .string j.text, .slice A n c, .slice A' n' c']) (by kernel_rfl) hC1.out.drew (fun hS => ?_)
    try dsimp only at hS
    have hS : Cel w0.drew w.heap.size 25 #[.int .u8 j.kind, .string j.text, .slice A n c, .slice A' n' c'] := hS
    refine hTake (i := 0) (v := .agg #[.int .u8 j.kind, .string j.text, .slice A n c, .slice A' n' c']) rfl (by kernel_rfl) (by kernel_rfl) (by kernel_rfl) (fun _ _ _ h => h) (Or.inl ⟨by rfl, by
      intro w' hSw
      obtain ⟨e0, e1, e2, e3⟩ := hSw.d4
      go_simp⟩) hS ?_
    try simp only [Act.put, List.setIfInBounds_toArray, List.set_cons_zero, List.set_cons_succ]
    refine hTake (i := 2) (v := .pointer (some ⟨b, o, none⟩)) rfl (by kernel_rfl) (by kernel_rfl) (by kernel_rfl) (fun _ _ _ h => h) (Or.inl ⟨by rfl, by
      intro w' hSw
      go_simp⟩) hS ?_
    try simp only [Act.put, List.setIfInBounds_toArray, List.set_cons_zero, List.set_cons_succ]
    refine hTake (i := 3) (v := .pointer (some ⟨b, o, none⟩)) rfl (by kernel_rfl) (by kernel_rfl) (by kernel_rfl) (fun _ _ _ h => h) (Or.inl ⟨by rfl, by
      intro w' hSw
      go_simp⟩) hS ?_
    try simp only [Act.put, List.setIfInBounds_toArray, List.set_cons_zero, List.set_cons_succ]
    refine hTake (i := 4) (v := .pointer (some ⟨b, o, none⟩)) rfl (by kernel_rfl) (by kernel_rfl) (by kernel_rfl) (fun _ _ _ h => h) (Or.inl ⟨by rfl, by
      intro w' hSw
      go_simp⟩) hS ?_
    try simp only [Act.put, List.setIfInBounds_toArray, List.set_cons_zero, List.set_cons_succ]
    refine hOne (i := 1) (by kernel_rfl) rfl (fun K hK => ?_)
    go_simp
    refine (hm1.out _ hZ.out).mono ?_
    rintro e u1 ⟨un, ul, rfl, hJ1, hu⟩
    obtain ⟨A1, n1, c1, B1, m1, d1, rfl, rfl⟩ := hJ1.forms
    replace hM := Lib.hid (hM.out.below hu hM.out.lt)
    have hS2 := hS.below hu hS.lt
    replace hZ := Lib.hid (hZ.out.trans ((But.of hu).mono hZ.out.size))
    replace hJ1 := Lib.hid hJ1
    clear hS hu
    have hS := hS2
    clear hS2
    refine hK.out _ _ hS ?_
    clear hK
    try simp only [Act.put, List.setIfInBounds_toArray, List.set_cons_zero, List.set_cons_succ]
    refine hOne (i := 5) (by kernel_rfl) rfl (fun K hK => ?_)
    go_simp
    refine (hc1.out _ _ _ hJ1.out hM.out).mono ?_
    rintro e u2 ⟨rfl, hM2, hu⟩
    have hS2 := hS.but hu hS.lt hwb
    replace hZ := Lib.hid (hZ.out.trans (hu.mono hZ.out.size))
    clear hS hu hM
    have hS := hS2
    clear hS2
    have hM := Lib.hid hM2
    clear hM2
    refine hK.out _ _ hS ?_
    clear hK
    try simp only []
    refine hTake (i := 6) (v := .bool false) rfl (by kernel_rfl) (by kernel_rfl) (by kernel_rfl) (fun _ _ _ h => h) (Or.inl ⟨by rfl, by
      intro w' hSw
      go_simp⟩) hS ?_
    try simp only [Act.put, List.setIfInBounds_toArray, List.set_cons_zero, List.set_cons_succ]
    refine hTake (i := 7) (v := undef) rfl (by kernel_rfl) (by kernel_rfl) (by kernel_rfl) (fun _ _ _ h => h) (Or.inr ⟨by rfl, rfl⟩) hS ?_
    try simp only [Act.put, List.setIfInBounds_toArray, List.set_cons_zero, List.set_cons_succ]
    refine hTake (i := 8) (v := undef) rfl (by kernel_rfl) (by kernel_rfl) (by kernel_rfl) (fun _ _ _ h => h) (Or.inr ⟨by rfl, rfl⟩) hS ?_
    try simp only [Act.put, List.setIfInBounds_toArray, List.set_cons_zero, List.set_cons_succ]
    refine hTake (i := 9) (v := undef) rfl (by kernel_rfl) (by kernel_rfl) (by kernel_rfl) (fun _ _ _ h => h) (Or.inr ⟨by rfl, rfl⟩) hS ?_
    try simp only [Act.put, List.setIfInBounds_toArray, List.set_cons_zero, List.set_cons_succ]
    refine hTake (i := 10) (v := undef) rfl (by kernel_rfl) (by kernel_rfl) (by kernel_rfl) (fun _ _ _ h => h) (Or.inr ⟨by rfl, rfl⟩) hS ?_
    try simp only [Act.put, List.setIfInBounds_toArray, List.set_cons_zero, List.set_cons_succ]
    refine hTake (i := 11) (v := undef) rfl (by kernel_rfl) (by kernel_rfl) (by kernel_rfl) (fun _ _ _ h => h) (Or.inr ⟨by rfl, rfl⟩) hS ?_
    try simp only [Act.put, List.setIfInBounds_toArray, List.set_cons_zero, List.set_cons_succ]
    refine hTake (i := 12) (v := undef) rfl (by kernel_rfl) (by kernel_rfl) (by kernel_rfl) (fun _ _ _ h => h) (Or.inr ⟨by rfl, rfl⟩) hS ?_
    try simp only [Act.put, List.setIfInBounds_toArray, List.set_cons_zero, List.set_cons_succ]
    refine hTake (i := 13) (v := .bool false) rfl (by kernel_rfl) (by kernel_rfl) (by kernel_rfl) (fun _ _ _ h => h) (Or.inl ⟨by rfl, by
      intro w' hSw
      go_simp⟩) hS ?_
    try simp only [Act.put, List.setIfInBounds_toArray, List.set_cons_zero, List.set_cons_succ]
    refine hTake (i := 14) (v := .bool false) rfl (by kernel_rfl) (by kernel_rfl) (by kernel_rfl) (fun _ _ _ h => h) (Or.inl ⟨by rfl, by
      intro w' hSw
      go_simp⟩) hS ?_
    try simp only [Act.put, List.setIfInBounds_toArray, List.set_cons_zero, List.set_cons_succ]
    refine wpAnyH_done (by kernel_rfl) ?_ _
    rw [hs1.out] at hM
    have hfin := Lib.hid (hback.out _ hZ.out)
    clear hm1 hc1 hJ1 hS hZ
    go_wp2_with fail
    exact bodyPost_ret (v := .bool false) (by simp [results, Tryz.results72, go_sem]) rfl ⟨rfl, by show Cel _ _ _ ((cs.setIfInBounds o (.int .i64 p.1)).setIfInBounds (o + 1) (.int .i64 p.2)); rw [hs1.out, ← hs1.out, hs2.out, hs1.out]; exact hM.out, hfin.out⟩
  · have hr : q = ((lNum (memJ j yCharacter) p.2).1, a, (lNum (memJ j yCharacter) p.2).2) := by rw [← hq.out]; unfold lPos; rw [show lNum (memJ j yLine) p.1 = (true, a) by unfold lNum; rw [hcase]]
    have hl : lNum (memJ j yLine) p.1 = (true, a) := by unfold lNum; rw [hcase]
    rw [hl] at hc1
    subst hr
    clear hcase hl hq hs1 hs2
    go_enter Tryz.func72, Tryz.ntmps72
    go_upto_region 1 with fail
    rw [hw0.out]
    clear hw0
    refine wp_region_held_drew (S := fun W => Cel W w.heap.size 25 #[.int .u8 j.kind, .string j.text, .slice A n c, .slice A' n' c']) (by kernel_rfl) hC1.out.drew (fun hS => ?_)
    try dsimp only at hS
    have hS : Cel w0.drew w.heap.size 25 #[.int .u8 j.kind, .string j.text, .slice A n c, .slice A' n' c'] := hS
    refine hTake (i := 0) (v := .agg #[.int .u8 j.kind, .string j.text, .slice A n c, .slice A' n' c']) rfl (by kernel_rfl) (by kernel_rfl) (by kernel_rfl) (fun _ _ _ h => h) (Or.inl ⟨by rfl, by
      intro w' hSw
      obtain ⟨e0, e1, e2, e3⟩ := hSw.d4
      go_simp⟩) hS ?_
    try simp only [Act.put, List.setIfInBounds_toArray, List.set_cons_zero, List.set_cons_succ]
    refine hTake (i := 2) (v := .pointer (some ⟨b, o, none⟩)) rfl (by kernel_rfl) (by kernel_rfl) (by kernel_rfl) (fun _ _ _ h => h) (Or.inl ⟨by rfl, by
      intro w' hSw
      go_simp⟩) hS ?_
    try simp only [Act.put, List.setIfInBounds_toArray, List.set_cons_zero, List.set_cons_succ]
    refine hTake (i := 3) (v := .pointer (some ⟨b, o, none⟩)) rfl (by kernel_rfl) (by kernel_rfl) (by kernel_rfl) (fun _ _ _ h => h) (Or.inl ⟨by rfl, by
      intro w' hSw
      go_simp⟩) hS ?_
    try simp only [Act.put, List.setIfInBounds_toArray, List.set_cons_zero, List.set_cons_succ]
    refine hTake (i := 4) (v := .pointer (some ⟨b, o, none⟩)) rfl (by kernel_rfl) (by kernel_rfl) (by kernel_rfl) (fun _ _ _ h => h) (Or.inl ⟨by rfl, by
      intro w' hSw
      go_simp⟩) hS ?_
    try simp only [Act.put, List.setIfInBounds_toArray, List.set_cons_zero, List.set_cons_succ]
    refine hOne (i := 1) (by kernel_rfl) rfl (fun K hK => ?_)
    go_simp
    refine (hm1.out _ hZ.out).mono ?_
    rintro e u1 ⟨un, ul, rfl, hJ1, hu⟩
    obtain ⟨A1, n1, c1, B1, m1, d1, rfl, rfl⟩ := hJ1.forms
    replace hM := Lib.hid (hM.out.below hu hM.out.lt)
    have hS2 := hS.below hu hS.lt
    replace hZ := Lib.hid (hZ.out.trans ((But.of hu).mono hZ.out.size))
    replace hJ1 := Lib.hid hJ1
    clear hS hu
    have hS := hS2
    clear hS2
    refine hK.out _ _ hS ?_
    clear hK
    try simp only [Act.put, List.setIfInBounds_toArray, List.set_cons_zero, List.set_cons_succ]
    refine hOne (i := 5) (by kernel_rfl) rfl (fun K hK => ?_)
    go_simp
    refine (hc1.out _ _ _ hJ1.out hM.out).mono ?_
    rintro e u2 ⟨rfl, hM2, hu⟩
    have hS2 := hS.but hu hS.lt hwb
    replace hZ := Lib.hid (hZ.out.trans (hu.mono hZ.out.size))
    clear hS hu hM
    have hS := hS2
    clear hS2
    have hM := Lib.hid hM2
    clear hM2
    refine hK.out _ _ hS ?_
    clear hK
    try simp only []
    refine hTake (i := 6) (v := .bool true) rfl (by kernel_rfl) (by kernel_rfl) (by kernel_rfl) (fun _ _ _ h => h) (Or.inl ⟨by rfl, by
      intro w' hSw
      go_simp⟩) hS ?_
    try simp only [Act.put, List.setIfInBounds_toArray, List.set_cons_zero, List.set_cons_succ]
    refine hTake (i := 7) (v := .agg #[.int .u8 j.kind, .string j.text, .slice A n c, .slice A' n' c']) rfl (by kernel_rfl) (by kernel_rfl) (by kernel_rfl) (fun _ _ _ h => h) (Or.inl ⟨by rfl, by
      intro w' hSw
      obtain ⟨e0, e1, e2, e3⟩ := hSw.d4
      go_simp⟩) hS ?_
    try simp only [Act.put, List.setIfInBounds_toArray, List.set_cons_zero, List.set_cons_succ]
    refine hTake (i := 9) (v := .pointer (some ⟨b, o, none⟩)) rfl (by kernel_rfl) (by kernel_rfl) (by kernel_rfl) (fun _ _ _ h => h) (Or.inl ⟨by rfl, by
      intro w' hSw
      go_simp⟩) hS ?_
    try simp only [Act.put, List.setIfInBounds_toArray, List.set_cons_zero, List.set_cons_succ]
    refine hTake (i := 10) (v := .pointer (some ⟨b, o, none⟩)) rfl (by kernel_rfl) (by kernel_rfl) (by kernel_rfl) (fun _ _ _ h => h) (Or.inl ⟨by rfl, by
      intro w' hSw
      go_simp⟩) hS ?_
    try simp only [Act.put, List.setIfInBounds_toArray, List.set_cons_zero, List.set_cons_succ]
    refine hTake (i := 11) (v := .pointer (some ⟨b, o + 1, none⟩)) rfl (by kernel_rfl) (by kernel_rfl) (by kernel_rfl) (fun _ _ _ h => h) (Or.inl ⟨by rfl, by
      intro w' hSw
      go_simp⟩) hS ?_
    try simp only [Act.put, List.setIfInBounds_toArray, List.set_cons_zero, List.set_cons_succ]
    refine hOne (i := 8) (by kernel_rfl) rfl (fun K hK => ?_)
    go_simp
    refine (hm2.out _ hZ.out).mono ?_
    rintro e u3 ⟨un, ul, rfl, hJ2, hu⟩
    obtain ⟨A2, n2, c2, B2, m2, d2, rfl, rfl⟩ := hJ2.forms
    replace hM := Lib.hid (hM.out.below hu hM.out.lt)
    have hS2 := hS.below hu hS.lt
    replace hZ := Lib.hid (hZ.out.trans ((But.of hu).mono hZ.out.size))
    replace hJ2 := Lib.hid hJ2
    clear hS hu
    have hS := hS2
    clear hS2
    refine hK.out _ _ hS ?_
    clear hK
    try simp only [Act.put, List.setIfInBounds_toArray, List.set_cons_zero, List.set_cons_succ]
    refine hOne (i := 12) (by kernel_rfl) rfl (fun K hK => ?_)
    go_simp
    refine (hc2.out _ _ _ a hJ2.out hM.out).mono ?_
    rintro e u4 ⟨rfl, hM2, hu⟩
    have hS2 := hS.but hu hS.lt hwb
    replace hZ := Lib.hid (hZ.out.trans (hu.mono hZ.out.size))
    clear hS hu hM
    have hS := hS2
    clear hS2
    have hM := Lib.hid hM2
    clear hM2
    refine hK.out _ _ hS ?_
    clear hK
    try simp only [Act.put, List.setIfInBounds_toArray, List.set_cons_zero, List.set_cons_succ]
    refine hTake (i := 13) (v := .bool (lNum (memJ j yCharacter) p.2).1) rfl (by kernel_rfl) (by kernel_rfl) (by kernel_rfl) (fun _ _ _ h => h) (Or.inl ⟨by rfl, by
      intro w' hSw
      go_simp⟩) hS ?_
    try simp only [Act.put, List.setIfInBounds_toArray, List.set_cons_zero, List.set_cons_succ]
    refine hTake (i := 14) (v := .bool (lNum (memJ j yCharacter) p.2).1) rfl (by kernel_rfl) (by kernel_rfl) (by kernel_rfl) (fun _ _ _ h => h) (Or.inl ⟨by rfl, by
      intro w' hSw
      go_simp⟩) hS ?_
    try simp only [Act.put, List.setIfInBounds_toArray, List.set_cons_zero, List.set_cons_succ]
    refine wpAnyH_done (by kernel_rfl) ?_ _
    have hfin := Lib.hid (hback.out _ hZ.out)
    clear hm1 hc1 hm2 hc2 hJ1 hJ2 hS hZ
    go_wp2_with fail
    exact bodyPost_ret (v := .bool (lNum (memJ j yCharacter) p.2).1) (by simp [results, Tryz.results72, go_sem]) rfl ⟨rfl, hM.out, hfin.out⟩
end Go.Proofs.YtlnkjacbdolhnaaGreatDoor


/-
  A message in memory; the walks of the closures of lsp.methods that read one thing.
-/
namespace Go.Proofs.YtlnkjacbdolhnaaGreatDoor
open Go.RowKit

def mCells (m : LM) (idn idl chv : Value) : Array Value := #[.int .u8 m.kind, .string m.uri, .int .i64 m.version, .string m.text, .int .i64 m.line, .int .i64 m.char, .int .i64 m.width, .int .u8 m.id.kind, .string m.id.text, idn, idl, chv]
def chCells (c : Ch) : List Value := [.bool c.whole, .int .i64 c.a, .int .i64 c.b, .int .i64 c.c, .int .i64 c.d, .string c.t]
def chRow (l : List Ch) : List Value := l.flatMap chCells
/-- A message in block b; its changes in memory from B on. -/
def LMem (w : World) (X : Nat → Prop) (B b : Nat) (m : LM) : Prop := ∃ idn idl chv, Cel w b 32 (mCells m idn idl chv) ∧ JV w X m.id idn idl ∧ w.ownsRow B 83 6 chv m.chs.length (chRow m.chs) ∧ (m.chs = [] → chv = .slice none 0 0)
theorem LMem.open0 {w : World} {X : Nat → Prop} {B b : Nat} {m : LM} (h : LMem w X B b m) (h0 : m.chs = []) : ∃ A n c A' n' c', Cel w b 32 (mCells m (.slice A n c) (.slice A' n' c') (.slice none 0 0)) ∧ JV w X m.id (.slice A n c) (.slice A' n' c') := by
  obtain ⟨idn, idl, chv, h1, h2, h3, h4⟩ := h
  obtain ⟨A, n, c, A', n', c', rfl, rfl⟩ := h2.forms
  rw [h4 h0] at h1
  exact ⟨A, n, c, A', n', c', h1, h2⟩
theorem LMem.shut0 {w : World} {X : Nat → Prop} {B b : Nat} {m : LM} {idn idl : Value} (h1 : Cel w b 32 (mCells m idn idl (.slice none 0 0))) (h2 : JV w X m.id idn idl) (h0 : m.chs = []) : LMem w X B b m :=
  ⟨idn, idl, _, h1, h2, by rw [h0]; exact World.ownsRow_nil _ _ _ _, fun _ => rfl⟩
/-- How a call ends that reads into a message. -/
def ReadEndM (r : Bool × LM) (X : Nat → Prop) (B b : Nat) (w : World) (e : Ending) (w' : World) : Prop := e = .returned (.bool r.1) ∧ LMem w' X B b r.2 ∧ But w.heap.size b w w'
/-- What a closure that reads into a message does. -/
def ReadSays (F : Nat) (caps : Array Value) (rd : Rd) (K : World → Prop) : Prop := ∀ (j : Jsn) (X : Nat → Prop) (B b : Nat) (m : LM) (w : World) (vn vl : Value), K w → JV w X j vn vl → jbulk j ≤ 1000000000000 → (∀ k, X k → k < w.heap.size → k ≠ b ∧ k < B) → LMem w X B b m → m.chs = [] → b < B → B ≤ w.heap.size →
  Calls Tryz.prog F (#[.pointer (some ⟨b, 0, none⟩), .agg #[.int .u8 j.kind, .string j.text, vn, vl]] ++ caps) w (ReadEndM (rd j m) X B b w)
set_option maxRecDepth 100000 in
set_option maxHeartbeats 4000000 in
theorem rVer_says : ReadSays 73 #[] rVer (fun _ => True) := by
  intro j X B b m w vn vl _ hV hbk hX hL h0 hbB hBw
  obtain ⟨A, n, c, A', n', c', rfl, rfl⟩ := hV.forms
  obtain ⟨Ai, ni, ci, Ai', ni', ci', hMm, hJi⟩ := hL.open0 h0
  obtain ⟨w0, hw0⟩ : ∃ w0, w.alloc (.cells #[.int .u8 j.kind, .string j.text, .slice A n c, .slice A' n' c'] 25) = w0 := ⟨_, rfl⟩
  have hB0 : Below w.heap.size w w0 := by rw [← hw0]; exact (Below.refl _ _).alloc (Nat.le_refl _) _
  have hs0 : w0.heap.size = w.heap.size + 1 := by rw [← hw0]; simp
  have hC1 : Cel w0 w.heap.size 25 #[.int .u8 j.kind, .string j.text, .slice A n c, .slice A' n' c'] := by rw [← hw0]; exact Cel.fresh _ _ _
  have hblt := hMm.lt
  have hM := (hMm.below hB0 hMm.lt).drew
  have hback : ∀ W, But w0.heap.size b w0 W → But w.heap.size b w W := fun W h => (But.of hB0).trans (h.mono (by omega))
  have hXb : ∀ k, X k → k < w.heap.size → k < w.heap.size ∧ k ≠ b := fun k h1 h2 => ⟨h2, (hX k h1 h2).1⟩
  have hJ : ∀ W, But w0.heap.size b w0 W → JV W X j (.slice A n c) (.slice A' n' c') := fun W h => hV.but (hback W h) hXb
  have hId : ∀ W, But w0.heap.size b w0 W → JV W X m.id (.slice Ai ni ci) (.slice Ai' ni' ci') := fun W h => hJi.but (hback W h) hXb
  have hZ : But w0.heap.size b w0 w0.drew := (But.refl _ _ _).drew
  have hwb : w.heap.size ≠ b := by omega
  have hm0 := Lib.hid (fun (W : World) (h : But w0.heap.size b w0 W) => (show Calls Tryz.prog 70 #[.agg #[.int .u8 j.kind, .string j.text, .slice A n c, .slice A' n' c'], .string ⟨#[116, 101, 120, 116, 68, 111, 99, 117, 109, 101, 110, 116]⟩] W (MemEnd (memJ j yTextDocument) X W) from lspMember_any j X W _ _ _ (hJ W h) hbk))
  have hm1 := Lib.hid (fun (W : World) (un ul : Value) (h : JV W X (memJ j yTextDocument) un ul) => (show Calls Tryz.prog 70 #[.agg #[.int .u8 (memJ j yTextDocument).kind, .string (memJ j yTextDocument).text, un, ul], .string ⟨#[118, 101, 114, 115, 105, 111, 110]⟩] W (MemEnd (memJ (memJ j yTextDocument) yVersion) X W) from lspMember_any (memJ j yTextDocument) X W _ _ _ h (memJ_bulk _ _ hbk)))
  have hc := Lib.hid (fun (W : World) (un ul : Value) (h1 : JV W X (memJ (memJ j yTextDocument) yVersion) un ul) (h2 : Cel W b 32 (mCells m (.slice Ai ni ci) (.slice Ai' ni' ci') (.slice none 0 0))) => lspCount_any (memJ (memJ j yTextDocument) yVersion) X b 2 32 (mCells m (.slice Ai ni ci) (.slice Ai' ni' ci') (.slice none 0 0)) m.version W un ul h1 (memJ_bulk _ _ (memJ_bulk _ _ hbk)) h2 rfl)
  replace hw0 := Lib.hid hw0
  replace hback := Lib.hid hback
  replace hs0 := Lib.hid hs0
  replace hC1 := Lib.hid hC1
  replace hM := Lib.hid hM
  replace hZ := Lib.hid hZ
  replace hId := Lib.hid hId
  replace h0 := Lib.hid h0
  have hXX : ∀ k, X k → k < w.heap.size → k ≠ b := fun k h1 h2 => (hX k h1 h2).1
  clear hV hbk hL hB0 hMm hJ hJi hblt hXb
  go_enter Tryz.func73, Tryz.ntmps73
  go_upto_region 1 with fail
  rw [hw0.out]
  clear hw0
  refine wp_region_held_drew (S := fun W => Cel W w.heap.size 25 #[.int .u8 j.kind, .string j.text, .slice A n c, .slice A' n' c']) (by kernel_rfl) hC1.out.drew (fun hS => ?_)
  try dsimp only at hS
  have hS : Cel w0.drew w.heap.size 25 #[.int .u8 j.kind, .string j.text, .slice A n c, .slice A' n' c'] := hS

  refine hTake (i := 0) (v := .agg #[.int .u8 j.kind, .string j.text, .slice A n c, .slice A' n' c']) rfl (by kernel_rfl) (by kernel_rfl) (by kernel_rfl) (fun _ _ _ h => h) (Or.inl ⟨by rfl, by
    intro w' hSw
    obtain ⟨e0, e1, e2, e3⟩ := hSw.d4
    go_simp⟩) hS ?_
  try simp only [Act.put, List.setIfInBounds_toArray, List.set_cons_zero, List.set_cons_succ]
  refine hTake (i := 3) (v := .pointer (some ⟨b, 0, none⟩)) rfl (by kernel_rfl) (by kernel_rfl) (by kernel_rfl) (fun _ _ _ h => h) (Or.inl ⟨by rfl, by
    intro w' hSw
    go_simp⟩) hS ?_
  try simp only [Act.put, List.setIfInBounds_toArray, List.set_cons_zero, List.set_cons_succ]
  refine hTake (i := 4) (v := .pointer (some ⟨b, 0, none⟩)) rfl (by kernel_rfl) (by kernel_rfl) (by kernel_rfl) (fun _ _ _ h => h) (Or.inl ⟨by rfl, by
    intro w' hSw
    go_simp⟩) hS ?_
  try simp only [Act.put, List.setIfInBounds_toArray, List.set_cons_zero, List.set_cons_succ]
  refine hTake (i := 5) (v := .pointer (some ⟨b, 2, none⟩)) rfl (by kernel_rfl) (by kernel_rfl) (by kernel_rfl) (fun _ _ _ h => h) (Or.inl ⟨by rfl, by
    intro w' hSw
    go_simp⟩) hS ?_
  try simp only [Act.put, List.setIfInBounds_toArray, List.set_cons_zero, List.set_cons_succ]
  refine hOne (i := 1) (by kernel_rfl) rfl (fun K hK => ?_)
  go_simp
  refine (hm0.out _ hZ.out).mono ?_
  rintro e u0 ⟨un, ul, rfl, hJ0, hu⟩
  obtain ⟨A0, n0, c0, B0, m0, d0, rfl, rfl⟩ := hJ0.forms
  replace hM := Lib.hid (hM.out.below hu hM.out.lt)
  have hS2 := hS.below hu hS.lt
  replace hZ := Lib.hid (hZ.out.trans ((But.of hu).mono hZ.out.size))
  replace hJ0 := Lib.hid hJ0
  clear hS hu
  have hS := hS2
  clear hS2
  refine hK.out _ _ hS ?_
  clear hK
  try simp only [Act.put, List.setIfInBounds_toArray, List.set_cons_zero, List.set_cons_succ]
  refine hOne (i := 2) (by kernel_rfl) rfl (fun K hK => ?_)
  go_simp
  refine (hm1.out _ _ _ hJ0.out).mono ?_
  rintro e u1 ⟨un, ul, rfl, hJ1, hu⟩
  obtain ⟨A1, n1, c1, B1, m1, d1, rfl, rfl⟩ := hJ1.forms
  replace hM := Lib.hid (hM.out.below hu hM.out.lt)
  have hS2 := hS.below hu hS.lt
  replace hZ := Lib.hid (hZ.out.trans ((But.of hu).mono hZ.out.size))
  replace hJ1 := Lib.hid hJ1
  clear hS hu
  have hS := hS2
  clear hS2
  refine hK.out _ _ hS ?_
  clear hK
  try simp only [Act.put, List.setIfInBounds_toArray, List.set_cons_zero, List.set_cons_succ]
  refine hOne (i := 6) (by kernel_rfl) rfl (fun K hK => ?_)
  go_simp
  refine (hc.out _ _ _ hJ1.out hM.out).mono ?_
  rintro e u4 ⟨rfl, hM2, hu⟩
  have hS2 := hS.but hu hS.lt hwb
  replace hZ := Lib.hid (hZ.out.trans (hu.mono hZ.out.size))
  clear hS hu hM
  have hS := hS2
  clear hS2
  have hM := Lib.hid hM2
  clear hM2
  refine hK.out _ _ hS ?_
  clear hK
  try simp only [Act.put, List.setIfInBounds_toArray, List.set_cons_zero, List.set_cons_succ]
  refine hTake (i := 7) (v := .bool (lNum (memJ (memJ j yTextDocument) yVersion) m.version).1) rfl (by kernel_rfl) (by kernel_rfl) (by kernel_rfl) (fun _ _ _ h => h) (Or.inl ⟨by rfl, by
    intro w' hSw
    go_simp⟩) hS ?_
  try simp only [Act.put, List.setIfInBounds_toArray, List.set_cons_zero, List.set_cons_succ]
  refine wpAnyH_done (by kernel_rfl) ?_ _
  have hJf := hId.out _ hZ.out
  have hfin := Lib.hid (hback.out _ hZ.out)
  have hLf : LMem u4 X B b { m with version := (lNum (memJ (memJ j yTextDocument) yVersion) m.version).2 } := LMem.shut0 (by exact hM.out) (by exact hJf) h0.out
  replace hLf := Lib.hid hLf
  clear hc hS hZ hJf hM hId hm0 hm1
  go_wp2_with fail
  exact bodyPost_ret (v := .bool (lNum (memJ (memJ j yTextDocument) yVersion) m.version).1) (by simp [results, Tryz.results73, go_sem]) rfl ⟨rfl, hLf.out, hfin.out⟩
set_option maxRecDepth 100000 in
set_option maxHeartbeats 4000000 in
theorem rName_says : ReadSays 78 #[] rName (fun _ => True) := by
  intro j X B b m w vn vl _ hV hbk hX hL h0 hbB hBw
  obtain ⟨A, n, c, A', n', c', rfl, rfl⟩ := hV.forms
  obtain ⟨Ai, ni, ci, Ai', ni', ci', hMm, hJi⟩ := hL.open0 h0
  obtain ⟨w0, hw0⟩ : ∃ w0, w.alloc (.cells #[.int .u8 j.kind, .string j.text, .slice A n c, .slice A' n' c'] 25) = w0 := ⟨_, rfl⟩
  have hB0 : Below w.heap.size w w0 := by rw [← hw0]; exact (Below.refl _ _).alloc (Nat.le_refl _) _
  have hs0 : w0.heap.size = w.heap.size + 1 := by rw [← hw0]; simp
  have hC1 : Cel w0 w.heap.size 25 #[.int .u8 j.kind, .string j.text, .slice A n c, .slice A' n' c'] := by rw [← hw0]; exact Cel.fresh _ _ _
  have hblt := hMm.lt
  have hM := (hMm.below hB0 hMm.lt).drew
  have hback : ∀ W, But w0.heap.size b w0 W → But w.heap.size b w W := fun W h => (But.of hB0).trans (h.mono (by omega))
  have hXb : ∀ k, X k → k < w.heap.size → k < w.heap.size ∧ k ≠ b := fun k h1 h2 => ⟨h2, (hX k h1 h2).1⟩
  have hJ : ∀ W, But w0.heap.size b w0 W → JV W X j (.slice A n c) (.slice A' n' c') := fun W h => hV.but (hback W h) hXb
  have hId : ∀ W, But w0.heap.size b w0 W → JV W X m.id (.slice Ai ni ci) (.slice Ai' ni' ci') := fun W h => hJi.but (hback W h) hXb
  have hZ : But w0.heap.size b w0 w0.drew := (But.refl _ _ _).drew
  have hwb : w.heap.size ≠ b := by omega
  have hm0 := Lib.hid (fun (W : World) (h : But w0.heap.size b w0 W) => (show Calls Tryz.prog 70 #[.agg #[.int .u8 j.kind, .string j.text, .slice A n c, .slice A' n' c'], .string ⟨#[110, 101, 119, 78, 97, 109, 101]⟩] W (MemEnd (memJ j yNewName) X W) from lspMember_any j X W _ _ _ (hJ W h) hbk))
  have hc := Lib.hid (fun (W : World) (un ul : Value) (h1 : JV W X (memJ j yNewName) un ul) (h2 : Cel W b 32 (mCells m (.slice Ai ni ci) (.slice Ai' ni' ci') (.slice none 0 0))) => lspStr_any (memJ j yNewName) X b 3 32 (mCells m (.slice Ai ni ci) (.slice Ai' ni' ci') (.slice none 0 0)) m.text W un ul h1 h2 rfl)
  replace hw0 := Lib.hid hw0
  replace hback := Lib.hid hback
  replace hs0 := Lib.hid hs0
  replace hC1 := Lib.hid hC1
  replace hM := Lib.hid hM
  replace hZ := Lib.hid hZ
  replace hId := Lib.hid hId
  replace h0 := Lib.hid h0
  have hXX : ∀ k, X k → k < w.heap.size → k ≠ b := fun k h1 h2 => (hX k h1 h2).1
  clear hV hbk hL hB0 hMm hJ hJi hblt hXb
  go_enter Tryz.func78, Tryz.ntmps78
  go_upto_region 1 with fail
  rw [hw0.out]
  clear hw0
  refine wp_region_held_drew (S := fun W => Cel W w.heap.size 25 #[.int .u8 j.kind, .string j.text, .slice A n c, .slice A' n' c']) (by kernel_rfl) hC1.out.drew (fun hS => ?_)
  try dsimp only at hS
  have hS : Cel w0.drew w.heap.size 25 #[.int .u8 j.kind, .string j.text, .slice A n c, .slice A' n' c'] := hS

  refine hTake (i := 0) (v := .agg #[.int .u8 j.kind, .string j.text, .slice A n c, .slice A' n' c']) rfl (by kernel_rfl) (by kernel_rfl) (by kernel_rfl) (fun _ _ _ h => h) (Or.inl ⟨by rfl, by
    intro w' hSw
    obtain ⟨e0, e1, e2, e3⟩ := hSw.d4
    go_simp⟩) hS ?_
  try simp only [Act.put, List.setIfInBounds_toArray, List.set_cons_zero, List.set_cons_succ]
  refine hTake (i := 2) (v := .pointer (some ⟨b, 0, none⟩)) rfl (by kernel_rfl) (by kernel_rfl) (by kernel_rfl) (fun _ _ _ h => h) (Or.inl ⟨by rfl, by
    intro w' hSw
    go_simp⟩) hS ?_
  try simp only [Act.put, List.setIfInBounds_toArray, List.set_cons_zero, List.set_cons_succ]
  refine hTake (i := 3) (v := .pointer (some ⟨b, 0, none⟩)) rfl (by kernel_rfl) (by kernel_rfl) (by kernel_rfl) (fun _ _ _ h => h) (Or.inl ⟨by rfl, by
    intro w' hSw
    go_simp⟩) hS ?_
  try simp only [Act.put, List.setIfInBounds_toArray, List.set_cons_zero, List.set_cons_succ]
  refine hTake (i := 4) (v := .pointer (some ⟨b, 3, none⟩)) rfl (by kernel_rfl) (by kernel_rfl) (by kernel_rfl) (fun _ _ _ h => h) (Or.inl ⟨by rfl, by
    intro w' hSw
    go_simp⟩) hS ?_
  try simp only [Act.put, List.setIfInBounds_toArray, List.set_cons_zero, List.set_cons_succ]
  refine hOne (i := 1) (by kernel_rfl) rfl (fun K hK => ?_)
  go_simp
  refine (hm0.out _ hZ.out).mono ?_
  rintro e u0 ⟨un, ul, rfl, hJ0, hu⟩
  obtain ⟨A0, n0, c0, B0, m0, d0, rfl, rfl⟩ := hJ0.forms
  replace hM := Lib.hid (hM.out.below hu hM.out.lt)
  have hS2 := hS.below hu hS.lt
  replace hZ := Lib.hid (hZ.out.trans ((But.of hu).mono hZ.out.size))
  replace hJ0 := Lib.hid hJ0
  clear hS hu
  have hS := hS2
  clear hS2
  refine hK.out _ _ hS ?_
  clear hK
  try simp only [Act.put, List.setIfInBounds_toArray, List.set_cons_zero, List.set_cons_succ]
  refine hOne (i := 5) (by kernel_rfl) rfl (fun K hK => ?_)
  go_simp
  refine (hc.out _ _ _ hJ0.out hM.out).mono ?_
  rintro e u4 ⟨rfl, hM2, hu⟩
  have hS2 := hS.but hu hS.lt hwb
  replace hZ := Lib.hid (hZ.out.trans (hu.mono hZ.out.size))
  clear hS hu hM
  have hS := hS2
  clear hS2
  have hM := Lib.hid hM2
  clear hM2
  refine hK.out _ _ hS ?_
  clear hK
  try simp only [Act.put, List.setIfInBounds_toArray, List.set_cons_zero, List.set_cons_succ]
  refine hTake (i := 6) (v := .bool (lTxt (memJ j yNewName) m.text).1) rfl (by kernel_rfl) (by kernel_rfl) (by kernel_rfl) (fun _ _ _ h => h) (Or.inl ⟨by rfl, by
    intro w' hSw
    go_simp⟩) hS ?_
  try simp only [Act.put, List.setIfInBounds_toArray, List.set_cons_zero, List.set_cons_succ]
  refine wpAnyH_done (by kernel_rfl) ?_ _
  have hJf := hId.out _ hZ.out
  have hfin := Lib.hid (hback.out _ hZ.out)
  have hLf : LMem u4 X B b { m with text := (lTxt (memJ j yNewName) m.text).2 } := LMem.shut0 (by exact hM.out) (by exact hJf) h0.out
  replace hLf := Lib.hid hLf
  clear hc hS hZ hJf hM hId hm0
  go_wp2_with fail
  exact bodyPost_ret (v := .bool (lTxt (memJ j yNewName) m.text).1) (by simp [results, Tryz.results78, go_sem]) rfl ⟨rfl, hLf.out, hfin.out⟩
set_option maxRecDepth 100000 in
set_option maxHeartbeats 4000000 in
theorem rText_says : ReadSays 81 #[] rText (fun _ => True) := by
  intro j X B b m w vn vl _ hV hbk hX hL h0 hbB hBw
  obtain ⟨A, n, c, A', n', c', rfl, rfl⟩ := hV.forms
  obtain ⟨Ai, ni, ci, Ai', ni', ci', hMm, hJi⟩ := hL.open0 h0
  obtain ⟨w0, hw0⟩ : ∃ w0, w.alloc (.cells #[.int .u8 j.kind, .string j.text, .slice A n c, .slice A' n' c'] 25) = w0 := ⟨_, rfl⟩
  have hB0 : Below w.heap.size w w0 := by rw [← hw0]; exact (Below.refl _ _).alloc (Nat.le_refl _) _
  have hs0 : w0.heap.size = w.heap.size + 1 := by rw [← hw0]; simp
  have hC1 : Cel w0 w.heap.size 25 #[.int .u8 j.kind, .string j.text, .slice A n c, .slice A' n' c'] := by rw [← hw0]; exact Cel.fresh _ _ _
  have hblt := hMm.lt
  have hM := (hMm.below hB0 hMm.lt).drew
  have hback : ∀ W, But w0.heap.size b w0 W → But w.heap.size b w W := fun W h => (But.of hB0).trans (h.mono (by omega))
  have hXb : ∀ k, X k → k < w.heap.size → k < w.heap.size ∧ k ≠ b := fun k h1 h2 => ⟨h2, (hX k h1 h2).1⟩
  have hJ : ∀ W, But w0.heap.size b w0 W → JV W X j (.slice A n c) (.slice A' n' c') := fun W h => hV.but (hback W h) hXb
  have hId : ∀ W, But w0.heap.size b w0 W → JV W X m.id (.slice Ai ni ci) (.slice Ai' ni' ci') := fun W h => hJi.but (hback W h) hXb
  have hZ : But w0.heap.size b w0 w0.drew := (But.refl _ _ _).drew
  have hwb : w.heap.size ≠ b := by omega
  have hm0 := Lib.hid (fun (W : World) (h : But w0.heap.size b w0 W) => (show Calls Tryz.prog 70 #[.agg #[.int .u8 j.kind, .string j.text, .slice A n c, .slice A' n' c'], .string ⟨#[116, 101, 120, 116, 68, 111, 99, 117, 109, 101, 110, 116]⟩] W (MemEnd (memJ j yTextDocument) X W) from lspMember_any j X W _ _ _ (hJ W h) hbk))
  have hm1 := Lib.hid (fun (W : World) (un ul : Value) (h : JV W X (memJ j yTextDocument) un ul) => (show Calls Tryz.prog 70 #[.agg #[.int .u8 (memJ j yTextDocument).kind, .string (memJ j yTextDocument).text, un, ul], .string ⟨#[116, 101, 120, 116]⟩] W (MemEnd (memJ (memJ j yTextDocument) yText) X W) from lspMember_any (memJ j yTextDocument) X W _ _ _ h (memJ_bulk _ _ hbk)))
  have hc := Lib.hid (fun (W : World) (un ul : Value) (h1 : JV W X (memJ (memJ j yTextDocument) yText) un ul) (h2 : Cel W b 32 (mCells m (.slice Ai ni ci) (.slice Ai' ni' ci') (.slice none 0 0))) => lspStr_any (memJ (memJ j yTextDocument) yText) X b 3 32 (mCells m (.slice Ai ni ci) (.slice Ai' ni' ci') (.slice none 0 0)) m.text W un ul h1 h2 rfl)
  replace hw0 := Lib.hid hw0
  replace hback := Lib.hid hback
  replace hs0 := Lib.hid hs0
  replace hC1 := Lib.hid hC1
  replace hM := Lib.hid hM
  replace hZ := Lib.hid hZ
  replace hId := Lib.hid hId
  replace h0 := Lib.hid h0
  have hXX : ∀ k, X k → k < w.heap.size → k ≠ b := fun k h1 h2 => (hX k h1 h2).1
  clear hV hbk hL hB0 hMm hJ hJi hblt hXb
  go_enter Tryz.func81, Tryz.ntmps81
  go_upto_region 1 with fail
  rw [hw0.out]
  clear hw0
  refine wp_region_held_drew (S := fun W => Cel W w.heap.size 25 #[.int .u8 j.kind, .string j.text, .slice A n c, .slice A' n' c']) (by kernel_rfl) hC1.out.drew (fun hS => ?_)
  try dsimp only at hS
  have hS : Cel w0.drew w.heap.size 25 #[.int .u8 j.kind, .string j.text, .slice A n c, .slice A' n' c'] := hS

  refine hTake (i := 0) (v := .agg #[.int .u8 j.kind, .string j.text, .slice A n c, .slice A' n' c']) rfl (by kernel_rfl) (by kernel_rfl) (by kernel_rfl) (fun _ _ _ h => h) (Or.inl ⟨by rfl, by
    intro w' hSw
    obtain ⟨e0, e1, e2, e3⟩ := hSw.d4
    go_simp⟩) hS ?_
  try simp only [Act.put, List.setIfInBounds_toArray, List.set_cons_zero, List.set_cons_succ]
  refine hTake (i := 3) (v := .pointer (some ⟨b, 0, none⟩)) rfl (by kernel_rfl) (by kernel_rfl) (by kernel_rfl) (fun _ _ _ h => h) (Or.inl ⟨by rfl, by
    intro w' hSw
    go_simp⟩) hS ?_
  try simp only [Act.put, List.setIfInBounds_toArray, List.set_cons_zero, List.set_cons_succ]
  refine hTake (i := 4) (v := .pointer (some ⟨b, 0, none⟩)) rfl (by kernel_rfl) (by kernel_rfl) (by kernel_rfl) (fun _ _ _ h => h) (Or.inl ⟨by rfl, by
    intro w' hSw
    go_simp⟩) hS ?_
  try simp only [Act.put, List.setIfInBounds_toArray, List.set_cons_zero, List.set_cons_succ]
  refine hTake (i := 5) (v := .pointer (some ⟨b, 3, none⟩)) rfl (by kernel_rfl) (by kernel_rfl) (by kernel_rfl) (fun _ _ _ h => h) (Or.inl ⟨by rfl, by
    intro w' hSw
    go_simp⟩) hS ?_
  try simp only [Act.put, List.setIfInBounds_toArray, List.set_cons_zero, List.set_cons_succ]
  refine hOne (i := 1) (by kernel_rfl) rfl (fun K hK => ?_)
  go_simp
  refine (hm0.out _ hZ.out).mono ?_
  rintro e u0 ⟨un, ul, rfl, hJ0, hu⟩
  obtain ⟨A0, n0, c0, B0, m0, d0, rfl, rfl⟩ := hJ0.forms
  replace hM := Lib.hid (hM.out.below hu hM.out.lt)
  have hS2 := hS.below hu hS.lt
  replace hZ := Lib.hid (hZ.out.trans ((But.of hu).mono hZ.out.size))
  replace hJ0 := Lib.hid hJ0
  clear hS hu
  have hS := hS2
  clear hS2
  refine hK.out _ _ hS ?_
  clear hK
  try simp only [Act.put, List.setIfInBounds_toArray, List.set_cons_zero, List.set_cons_succ]
  refine hOne (i := 2) (by kernel_rfl) rfl (fun K hK => ?_)
  go_simp
  refine (hm1.out _ _ _ hJ0.out).mono ?_
  rintro e u1 ⟨un, ul, rfl, hJ1, hu⟩
  obtain ⟨A1, n1, c1, B1, m1, d1, rfl, rfl⟩ := hJ1.forms
  replace hM := Lib.hid (hM.out.below hu hM.out.lt)
  have hS2 := hS.below hu hS.lt
  replace hZ := Lib.hid (hZ.out.trans ((But.of hu).mono hZ.out.size))
  replace hJ1 := Lib.hid hJ1
  clear hS hu
  have hS := hS2
  clear hS2
  refine hK.out _ _ hS ?_
  clear hK
  try simp only [Act.put, List.setIfInBounds_toArray, List.set_cons_zero, List.set_cons_succ]
  refine hOne (i := 6) (by kernel_rfl) rfl (fun K hK => ?_)
  go_simp
  refine (hc.out _ _ _ hJ1.out hM.out).mono ?_
  rintro e u4 ⟨rfl, hM2, hu⟩
  have hS2 := hS.but hu hS.lt hwb
  replace hZ := Lib.hid (hZ.out.trans (hu.mono hZ.out.size))
  clear hS hu hM
  have hS := hS2
  clear hS2
  have hM := Lib.hid hM2
  clear hM2
  refine hK.out _ _ hS ?_
  clear hK
  try simp only [Act.put, List.setIfInBounds_toArray, List.set_cons_zero, List.set_cons_succ]
  refine hTake (i := 7) (v := .bool (lTxt (memJ (memJ j yTextDocument) yText) m.text).1) rfl (by kernel_rfl) (by kernel_rfl) (by kernel_rfl) (fun _ _ _ h => h) (Or.inl ⟨by rfl, by
    intro w' hSw
    go_simp⟩) hS ?_
  try simp only [Act.put, List.setIfInBounds_toArray, List.set_cons_zero, List.set_cons_succ]
  refine wpAnyH_done (by kernel_rfl) ?_ _
  have hJf := hId.out _ hZ.out
  have hfin := Lib.hid (hback.out _ hZ.out)
  have hLf : LMem u4 X B b { m with text := (lTxt (memJ (memJ j yTextDocument) yText) m.text).2 } := LMem.shut0 (by exact hM.out) (by exact hJf) h0.out
  replace hLf := Lib.hid hLf
  clear hc hS hZ hJf hM hId hm0 hm1
  go_wp2_with fail
  exact bodyPost_ret (v := .bool (lTxt (memJ (memJ j yTextDocument) yText) m.text).1) (by simp [results, Tryz.results81, go_sem]) rfl ⟨rfl, hLf.out, hfin.out⟩
set_option maxRecDepth 100000 in
set_option maxHeartbeats 4000000 in
theorem rAt_says : ReadSays 71 #[] rAt (fun _ => True) := by
  intro j X B b m w vn vl _ hV hbk hX hL h0 hbB hBw
  obtain ⟨A, n, c, A', n', c', rfl, rfl⟩ := hV.forms
  obtain ⟨Ai, ni, ci, Ai', ni', ci', hMm, hJi⟩ := hL.open0 h0
  obtain ⟨w0, hw0⟩ : ∃ w0, w.alloc (.cells #[.int .u8 j.kind, .string j.text, .slice A n c, .slice A' n' c'] 25) = w0 := ⟨_, rfl⟩
  have hB0 : Below w.heap.size w w0 := by rw [← hw0]; exact (Below.refl _ _).alloc (Nat.le_refl _) _
  have hs0 : w0.heap.size = w.heap.size + 1 := by rw [← hw0]; simp
  have hC1 : Cel w0 w.heap.size 25 #[.int .u8 j.kind, .string j.text, .slice A n c, .slice A' n' c'] := by rw [← hw0]; exact Cel.fresh _ _ _
  have hblt := hMm.lt
  have hM := (hMm.below hB0 hMm.lt).drew
  have hback : ∀ W, But w0.heap.size b w0 W → But w.heap.size b w W := fun W h => (But.of hB0).trans (h.mono (by omega))
  have hXb : ∀ k, X k → k < w.heap.size → k < w.heap.size ∧ k ≠ b := fun k h1 h2 => ⟨h2, (hX k h1 h2).1⟩
  have hVn : JV w (fun k => k ≠ b) j (.slice A n c) (.slice A' n' c') := hV.more (fun k h1 h2 => (hX k h1 h2).1)
  have hJ : ∀ W, But w0.heap.size b w0 W → JV W (fun k => k ≠ b) j (.slice A n c) (.slice A' n' c') := fun W h => hVn.but (hback W h) (fun k h1 h2 => ⟨h2, h1⟩)
  have hId : ∀ W, But w0.heap.size b w0 W → JV W X m.id (.slice Ai ni ci) (.slice Ai' ni' ci') := fun W h => hJi.but (hback W h) hXb
  have hZ : But w0.heap.size b w0 w0.drew := (But.refl _ _ _).drew
  have hwb : w.heap.size ≠ b := by omega
  have hm0 := Lib.hid (fun (W : World) (h : But w0.heap.size b w0 W) => (show Calls Tryz.prog 70 #[.agg #[.int .u8 j.kind, .string j.text, .slice A n c, .slice A' n' c'], .string ⟨#[112, 111, 115, 105, 116, 105, 111, 110]⟩] W (MemEnd (memJ j yPosition) (fun k => k ≠ b) W) from lspMember_any j (fun k => k ≠ b) W _ _ _ (hJ W h) hbk))
  have hc := Lib.hid (fun (W : World) (un ul : Value) (h1 : JV W (fun k => k ≠ b) (memJ j yPosition) un ul) (h2 : Cel W b 32 (mCells m (.slice Ai ni ci) (.slice Ai' ni' ci') (.slice none 0 0))) => lspPosition_any (memJ j yPosition) (fun k => k ≠ b) b 4 32 (mCells m (.slice Ai ni ci) (.slice Ai' ni' ci') (.slice none 0 0)) (m.line, m.char) W un ul h1 (memJ_bulk _ _ hbk) (fun k h _ => h) h2 rfl rfl)
  replace hw0 := Lib.hid hw0
  replace hback := Lib.hid hback
  replace hs0 := Lib.hid hs0
  replace hC1 := Lib.hid hC1
  replace hM := Lib.hid hM
  replace hZ := Lib.hid hZ
  replace hId := Lib.hid hId
  replace h0 := Lib.hid h0
  have hXX : ∀ k, X k → k < w.heap.size → k ≠ b := fun k h1 h2 => (hX k h1 h2).1
  clear hVn hV hbk hL hB0 hMm hJ hJi hblt hXb
  go_enter Tryz.func71, Tryz.ntmps71
  go_upto_region 1 with fail
  rw [hw0.out]
  clear hw0
  refine wp_region_held_drew (S := fun W => Cel W w.heap.size 25 #[.int .u8 j.kind, .string j.text, .slice A n c, .slice A' n' c']) (by kernel_rfl) hC1.out.drew (fun hS => ?_)
  try dsimp only at hS
  have hS : Cel w0.drew w.heap.size 25 #[.int .u8 j.kind, .string j.text, .slice A n c, .slice A' n' c'] := hS

  refine hTake (i := 0) (v := .agg #[.int .u8 j.kind, .string j.text, .slice A n c, .slice A' n' c']) rfl (by kernel_rfl) (by kernel_rfl) (by kernel_rfl) (fun _ _ _ h => h) (Or.inl ⟨by rfl, by
    intro w' hSw
    obtain ⟨e0, e1, e2, e3⟩ := hSw.d4
    go_simp⟩) hS ?_
  try simp only [Act.put, List.setIfInBounds_toArray, List.set_cons_zero, List.set_cons_succ]
  refine hTake (i := 2) (v := .pointer (some ⟨b, 0, none⟩)) rfl (by kernel_rfl) (by kernel_rfl) (by kernel_rfl) (fun _ _ _ h => h) (Or.inl ⟨by rfl, by
    intro w' hSw
    go_simp⟩) hS ?_
  try simp only [Act.put, List.setIfInBounds_toArray, List.set_cons_zero, List.set_cons_succ]
  refine hTake (i := 3) (v := .pointer (some ⟨b, 0, none⟩)) rfl (by kernel_rfl) (by kernel_rfl) (by kernel_rfl) (fun _ _ _ h => h) (Or.inl ⟨by rfl, by
    intro w' hSw
    go_simp⟩) hS ?_
  try simp only [Act.put, List.setIfInBounds_toArray, List.set_cons_zero, List.set_cons_succ]
  refine hTake (i := 4) (v := .pointer (some ⟨b, 4, none⟩)) rfl (by kernel_rfl) (by kernel_rfl) (by kernel_rfl) (fun _ _ _ h => h) (Or.inl ⟨by rfl, by
    intro w' hSw
    go_simp⟩) hS ?_
  try simp only [Act.put, List.setIfInBounds_toArray, List.set_cons_zero, List.set_cons_succ]
  refine hOne (i := 1) (by kernel_rfl) rfl (fun K hK => ?_)
  go_simp
  refine (hm0.out _ hZ.out).mono ?_
  rintro e u0 ⟨un, ul, rfl, hJ0, hu⟩
  obtain ⟨A0, n0, c0, B0, m0, d0, rfl, rfl⟩ := hJ0.forms
  replace hM := Lib.hid (hM.out.below hu hM.out.lt)
  have hS2 := hS.below hu hS.lt
  replace hZ := Lib.hid (hZ.out.trans ((But.of hu).mono hZ.out.size))
  replace hJ0 := Lib.hid hJ0
  clear hS hu
  have hS := hS2
  clear hS2
  refine hK.out _ _ hS ?_
  clear hK
  try simp only [Act.put, List.setIfInBounds_toArray, List.set_cons_zero, List.set_cons_succ]
  refine hOne (i := 5) (by kernel_rfl) rfl (fun K hK => ?_)
  go_simp
  refine (hc.out _ _ _ hJ0.out hM.out).mono ?_
  rintro e u4 ⟨rfl, hM2, hu⟩
  have hS2 := hS.but hu hS.lt hwb
  replace hZ := Lib.hid (hZ.out.trans (hu.mono hZ.out.size))
  clear hS hu hM
  have hS := hS2
  clear hS2
  have hM := Lib.hid hM2
  clear hM2
  refine hK.out _ _ hS ?_
  clear hK
  try simp only [Act.put, List.setIfInBounds_toArray, List.set_cons_zero, List.set_cons_succ]
  refine hTake (i := 6) (v := .bool (lPos (memJ j yPosition) (m.line, m.char)).1) rfl (by kernel_rfl) (by kernel_rfl) (by kernel_rfl) (fun _ _ _ h => h) (Or.inl ⟨by rfl, by
    intro w' hSw
    go_simp⟩) hS ?_
  try simp only [Act.put, List.setIfInBounds_toArray, List.set_cons_zero, List.set_cons_succ]
  refine wpAnyH_done (by kernel_rfl) ?_ _
  have hJf := hId.out _ hZ.out
  have hfin := Lib.hid (hback.out _ hZ.out)
  have hLf : LMem u4 X B b { m with line := (lPos (memJ j yPosition) (m.line, m.char)).2.1, char := (lPos (memJ j yPosition) (m.line, m.char)).2.2 } := LMem.shut0 (by exact hM.out) (by exact hJf) h0.out
  replace hLf := Lib.hid hLf
  clear hc hS hZ hJf hM hId hm0
  go_wp2_with fail
  exact bodyPost_ret (v := .bool (lPos (memJ j yPosition) (m.line, m.char)).1) (by simp [results, Tryz.results71, go_sem]) rfl ⟨rfl, hLf.out, hfin.out⟩
end Go.Proofs.YtlnkjacbdolhnaaGreatDoor


/-
  The walks of the closures of lsp.methods that look at kinds, that take an id, that read a width.
-/
namespace Go.Proofs.YtlnkjacbdolhnaaGreatDoor
open Go.RowKit

set_option maxRecDepth 100000 in
set_option maxHeartbeats 4000000 in
theorem rLoose_says : ReadSays 75 #[] rLoose (fun _ => True) := by
  intro j X B b m w vn vl _ hV hbk hX hL h0 hbB hBw
  obtain ⟨A, n, c, A', n', c', rfl, rfl⟩ := hV.forms
  obtain ⟨Ai, ni, ci, Ai', ni', ci', hMm, hJi⟩ := hL.open0 h0
  obtain ⟨w0, hw0⟩ : ∃ w0, w.alloc (.cells #[.int .u8 j.kind, .string j.text, .slice A n c, .slice A' n' c'] 25) = w0 := ⟨_, rfl⟩
  have hB0 : Below w.heap.size w w0 := by rw [← hw0]; exact (Below.refl _ _).alloc (Nat.le_refl _) _
  have hs0 : w0.heap.size = w.heap.size + 1 := by rw [← hw0]; simp
  have hC1 : Cel w0 w.heap.size 25 #[.int .u8 j.kind, .string j.text, .slice A n c, .slice A' n' c'] := by rw [← hw0]; exact Cel.fresh _ _ _
  have hblt := hMm.lt
  have hM := (hMm.below hB0 hMm.lt).drew
  have hback : ∀ W, But w0.heap.size b w0 W → But w.heap.size b w W := fun W h => (But.of hB0).trans (h.mono (by omega))
  have hXb : ∀ k, X k → k < w.heap.size → k < w.heap.size ∧ k ≠ b := fun k h1 h2 => ⟨h2, (hX k h1 h2).1⟩
  have hJ : ∀ W, But w0.heap.size b w0 W → JV W X j (.slice A n c) (.slice A' n' c') := fun W h => hV.but (hback W h) hXb
  have hId : ∀ W, But w0.heap.size b w0 W → JV W X m.id (.slice Ai ni ci) (.slice Ai' ni' ci') := fun W h => hJi.but (hback W h) hXb
  have hZ : But w0.heap.size b w0 w0.drew := (But.refl _ _ _).drew
  have hwb : w.heap.size ≠ b := by omega
  replace hw0 := Lib.hid hw0
  replace hback := Lib.hid hback
  replace hs0 := Lib.hid hs0
  replace hC1 := Lib.hid hC1
  replace hM := Lib.hid hM
  replace hZ := Lib.hid hZ
  replace hId := Lib.hid hId
  replace h0 := Lib.hid h0
  obtain ⟨a0, a1, a2, a3⟩ := hC1.out.d4
  have hLf := Lib.hid (show LMem w0 X B b m from LMem.shut0 (hMm.below hB0 hMm.lt) (hJi.later hB0) h0.out)
  have hfin := Lib.hid (But.of (b := b) hB0)
  obtain ⟨k, hk⟩ : ∃ k, j.kind = k := ⟨_, rfl⟩
  unfold rLoose
  rw [hk] at a0 ⊢
  rw [hk] at hw0
  clear hV hbk hL hB0 hMm hJ hJi hblt hXb hback hM hZ hId hC1 hX hbB hBw h0 hwb hk
  have hcases : k = 0 ∨ k = 1 ∨ k = 7 ∨ (k ≠ 0 ∧ k ≠ 1 ∧ k ≠ 7) := by omega
  rcases hcases with rfl | rfl | rfl | ⟨h0, h1, h7⟩
  · go_enter Tryz.func75, Tryz.ntmps75
    go_upto_region 1 with fail
    rw [hw0.out]
    clear hw0
    go_wp2_with fail
    exact bodyPost_ret (v := .bool true) (by simp [results, Tryz.results75, go_sem]) rfl ⟨rfl, hLf.out, hfin.out⟩
  · go_enter Tryz.func75, Tryz.ntmps75
    go_upto_region 1 with fail
    rw [hw0.out]
    clear hw0
    go_wp2_with fail
    exact bodyPost_ret (v := .bool true) (by simp [results, Tryz.results75, go_sem]) rfl ⟨rfl, hLf.out, hfin.out⟩
  · go_enter Tryz.func75, Tryz.ntmps75
    go_upto_region 1 with fail
    rw [hw0.out]
    clear hw0
    go_wp2_with fail
    exact bodyPost_ret (v := .bool true) (by simp [results, Tryz.results75, go_sem]) rfl ⟨rfl, hLf.out, hfin.out⟩
  · have n0 : (k == 0) = false := by simpa using h0
    have n1 : (k == 1) = false := by simpa using h1
    have n7 : (k == 7) = false := by simpa using h7
    have hval := Lib.hid (show (decide (k = 0) || decide (k = 1) || decide (k = 7)) = false by simp [h0, h1, h7])
    replace h0 := Lib.hid h0
    replace h1 := Lib.hid h1
    replace h7 := Lib.hid h7
    go_enter Tryz.func75, Tryz.ntmps75
    go_upto_region 1 with fail
    rw [hw0.out]
    clear hw0
    go_wp2_with fail
    exact bodyPost_ret (v := .bool false) (by simp [results, Tryz.results75, go_sem]) rfl ⟨by rw [hval.out], hLf.out, hfin.out⟩
set_option maxRecDepth 100000 in
set_option maxHeartbeats 4000000 in
theorem rInit_says : ReadSays 76 #[] rInit (fun _ => True) := by
  intro j X B b m w vn vl _ hV hbk hX hL h0 hbB hBw
  obtain ⟨A, n, c, A', n', c', rfl, rfl⟩ := hV.forms
  obtain ⟨Ai, ni, ci, Ai', ni', ci', hMm, hJi⟩ := hL.open0 h0
  obtain ⟨w0, hw0⟩ : ∃ w0, w.alloc (.cells #[.int .u8 j.kind, .string j.text, .slice A n c, .slice A' n' c'] 25) = w0 := ⟨_, rfl⟩
  have hB0 : Below w.heap.size w w0 := by rw [← hw0]; exact (Below.refl _ _).alloc (Nat.le_refl _) _
  have hs0 : w0.heap.size = w.heap.size + 1 := by rw [← hw0]; simp
  have hC1 : Cel w0 w.heap.size 25 #[.int .u8 j.kind, .string j.text, .slice A n c, .slice A' n' c'] := by rw [← hw0]; exact Cel.fresh _ _ _
  have hblt := hMm.lt
  have hM := (hMm.below hB0 hMm.lt).drew
  have hback : ∀ W, But w0.heap.size b w0 W → But w.heap.size b w W := fun W h => (But.of hB0).trans (h.mono (by omega))
  have hXb : ∀ k, X k → k < w.heap.size → k < w.heap.size ∧ k ≠ b := fun k h1 h2 => ⟨h2, (hX k h1 h2).1⟩
  have hJ : ∀ W, But w0.heap.size b w0 W → JV W X j (.slice A n c) (.slice A' n' c') := fun W h => hV.but (hback W h) hXb
  have hId : ∀ W, But w0.heap.size b w0 W → JV W X m.id (.slice Ai ni ci) (.slice Ai' ni' ci') := fun W h => hJi.but (hback W h) hXb
  have hZ : But w0.heap.size b w0 w0.drew := (But.refl _ _ _).drew
  have hwb : w.heap.size ≠ b := by omega
  replace hw0 := Lib.hid hw0
  replace hback := Lib.hid hback
  replace hs0 := Lib.hid hs0
  replace hC1 := Lib.hid hC1
  replace hM := Lib.hid hM
  replace hZ := Lib.hid hZ
  replace hId := Lib.hid hId
  replace h0 := Lib.hid h0
  obtain ⟨a0, a1, a2, a3⟩ := hC1.out.d4
  have hLf := Lib.hid (show LMem w0 X B b m from LMem.shut0 (hMm.below hB0 hMm.lt) (hJi.later hB0) h0.out)
  have hfin := Lib.hid (But.of (b := b) hB0)
  obtain ⟨k, hk⟩ : ∃ k, j.kind = k := ⟨_, rfl⟩
  unfold rInit
  rw [hk] at a0 ⊢
  rw [hk] at hw0
  clear hV hbk hL hB0 hMm hJ hJi hblt hXb hback hM hZ hId hC1 hX hbB hBw h0 hwb hk
  have hcases : k = 0 ∨ k = 7 ∨ (k ≠ 0 ∧ k ≠ 7) := by omega
  rcases hcases with rfl | rfl | ⟨h0, h7⟩
  · go_enter Tryz.func76, Tryz.ntmps76
    go_upto_region 1 with fail
    rw [hw0.out]
    clear hw0
    go_wp2_with fail
    exact bodyPost_ret (v := .bool true) (by simp [results, Tryz.results76, go_sem]) rfl ⟨rfl, hLf.out, hfin.out⟩
  · go_enter Tryz.func76, Tryz.ntmps76
    go_upto_region 1 with fail
    rw [hw0.out]
    clear hw0
    go_wp2_with fail
    exact bodyPost_ret (v := .bool true) (by simp [results, Tryz.results76, go_sem]) rfl ⟨rfl, hLf.out, hfin.out⟩
  · have n0 : (k == 0) = false := by simpa using h0
    have n7 : (k == 7) = false := by simpa using h7
    have hval := Lib.hid (show (decide (k = 0) || decide (k = 7)) = false by simp [h0, h7])
    replace h0 := Lib.hid h0
    replace h7 := Lib.hid h7
    go_enter Tryz.func76, Tryz.ntmps76
    go_upto_region 1 with fail
    rw [hw0.out]
    clear hw0
    go_wp2_with fail
    exact bodyPost_ret (v := .bool false) (by simp [results, Tryz.results76, go_sem]) rfl ⟨by rw [hval.out], hLf.out, hfin.out⟩
set_option maxRecDepth 100000 in
set_option maxHeartbeats 4000000 in
theorem rCancel_says : ReadSays 79 #[] rCancel (fun _ => True) := by
  intro j X B b m w vn vl _ hV hbk hX hL h0 hbB hBw
  obtain ⟨A, n, c, A', n', c', rfl, rfl⟩ := hV.forms
  obtain ⟨Ai, ni, ci, Ai', ni', ci', hMm, hJi⟩ := hL.open0 h0
  obtain ⟨w0, hw0⟩ : ∃ w0, w.alloc (.cells #[.int .u8 j.kind, .string j.text, .slice A n c, .slice A' n' c'] 25) = w0 := ⟨_, rfl⟩
  have hB0 : Below w.heap.size w w0 := by rw [← hw0]; exact (Below.refl _ _).alloc (Nat.le_refl _) _
  have hs0 : w0.heap.size = w.heap.size + 1 := by rw [← hw0]; simp
  have hC1 : Cel w0 w.heap.size 25 #[.int .u8 j.kind, .string j.text, .slice A n c, .slice A' n' c'] := by rw [← hw0]; exact Cel.fresh _ _ _
  have hblt := hMm.lt
  have hM := (hMm.below hB0 hMm.lt).drew
  have hback : ∀ W, But w0.heap.size b w0 W → But w.heap.size b w W := fun W h => (But.of hB0).trans (h.mono (by omega))
  have hXb : ∀ k, X k → k < w.heap.size → k < w.heap.size ∧ k ≠ b := fun k h1 h2 => ⟨h2, (hX k h1 h2).1⟩
  have hJ : ∀ W, But w0.heap.size b w0 W → JV W X j (.slice A n c) (.slice A' n' c') := fun W h => hV.but (hback W h) hXb
  have hId : ∀ W, But w0.heap.size b w0 W → JV W X m.id (.slice Ai ni ci) (.slice Ai' ni' ci') := fun W h => hJi.but (hback W h) hXb
  have hZ : But w0.heap.size b w0 w0.drew := (But.refl _ _ _).drew
  have hwb : w.heap.size ≠ b := by omega
  replace hw0 := Lib.hid hw0
  replace hback := Lib.hid hback
  replace hs0 := Lib.hid hs0
  replace hC1 := Lib.hid hC1
  replace hM := Lib.hid hM
  replace hZ := Lib.hid hZ
  replace hId := Lib.hid hId
  replace h0 := Lib.hid h0
  obtain ⟨a0, a1, a2, a3⟩ := hC1.out.d4
  have hm0 := Lib.hid (show Calls Tryz.prog 70 #[.agg #[.int .u8 j.kind, .string j.text, .slice A n c, .slice A' n' c'], .string ⟨#[105, 100]⟩] w0 (MemEnd (memJ j yId) X w0) from lspMember_any j X w0 _ _ _ (hV.later hB0) hbk)
  have hid := Lib.hid (fun (W : World) (un ul : Value) (h : JV W X (memJ j yId) un ul) => lspIsID_any (memJ j yId) X W un ul h (memJ_bulk _ _ hbk))
  have hM0 := Lib.hid (hMm.below hB0 hMm.lt)
  have hB1 := Lib.hid hB0
  have hXw := Lib.hid hXb
  have hblt2 := hblt
  clear hV hbk hL hB0 hMm hJ hJi hblt hXb hback hM hZ hId hC1 hX hbB hBw hwb
  go_enter Tryz.func79, Tryz.ntmps79
  go_upto_region 1 with fail
  rw [hw0.out]
  clear hw0
  go_wp2_with fail
  refine hm0.out.mono ?_
  rintro e w1 ⟨un, ul, rfl, hJ1, hu⟩
  obtain ⟨A1, n1, c1, B1, m1, d1, rfl, rfl⟩ := hJ1.forms
  have hM1 := hM0.out.below hu hM0.out.lt
  have s7 := hM1.froz 7
  have s8 := hM1.froz 8
  have s9 := hM1.froz 9
  have s10 := hM1.froz 10
  have p7 : w1.cell? ⟨b, 7, none⟩ = some (.int .u8 m.id.kind) := hM1.cell 7
  have p8 : w1.cell? ⟨b, 8, none⟩ = some (.string m.id.text) := hM1.cell 8
  have p9 : w1.cell? ⟨b, 9, none⟩ = some (.slice Ai ni ci) := hM1.cell 9
  have p10 : w1.cell? ⟨b, 10, none⟩ = some (.slice Ai' ni' ci') := hM1.cell 10
  obtain ⟨W5, hW5⟩ : ∃ W, (((w1.setCell ⟨b, 7, none⟩ (.int .u8 (memJ j yId).kind)).setCell ⟨b, 8, none⟩ (.string (memJ j yId).text)).setCell ⟨b, 9, none⟩ (.slice A1 n1 c1)).setCell ⟨b, 10, none⟩ (.slice B1 m1 d1) = W := ⟨_, rfl⟩
  have hB01 := hB1.out.trans (hu.mono hB1.out.size)
  have hbut : But w.heap.size b w W5 := by rw [← hW5]; exact ((((But.of hB01).set 7 _).set 8 _).set 9 _).set 10 _
  have hM5 : Cel W5 b 32 (mCells { m with id := memJ j yId } (.slice A1 n1 c1) (.slice B1 m1 d1) (.slice none 0 0)) := by
    rw [← hW5]
    exact ((((hM1.set 7 (.int .u8 (memJ j yId).kind)).set 8 (.string (memJ j yId).text)).set 9 (.slice A1 n1 c1)).set 10 (.slice B1 m1 d1))
  have hsz5 : W5.heap.size = w1.heap.size := by rw [← hW5]; simp [World.setCell]
  have hk5 : ∀ k, k ≠ b → W5.heap[k]? = w1.heap[k]? := fun k hk => by
    rw [← hW5, Below.heap_setCell _ _ _ _ hk, Below.heap_setCell _ _ _ _ hk, Below.heap_setCell _ _ _ _ hk, Below.heap_setCell _ _ _ _ hk]
  have hJ5 : JV W5 X (memJ j yId) (.slice A1 n1 c1) (.slice B1 m1 d1) := JV.keep (by omega) (fun p h1 h2 => World.cell?_of_block (hk5 p.block (fun e => by
    by_cases hlt : p.block < w.heap.size
    · exact (hXw.out _ h1 hlt).2 e
    · omega))) (fun _ h _ => h) _ hJ1
  have hcid := Lib.hid (hid.out W5 _ _ hJ5)
  have q7 : W5.cell? ⟨b, 7, none⟩ = some (.int .u8 (memJ j yId).kind) := hM5.cell 7
  have q8 : W5.cell? ⟨b, 8, none⟩ = some (.string (memJ j yId).text) := hM5.cell 8
  have q9 : W5.cell? ⟨b, 9, none⟩ = some (.slice A1 n1 c1) := hM5.cell 9
  have q10 : W5.cell? ⟨b, 10, none⟩ = some (.slice B1 m1 d1) := hM5.cell 10
  have hL5 : LMem W5 X B b { m with id := memJ j yId } := LMem.shut0 hM5 hJ5 h0.out
  have hblt5 := hM5.lt
  replace hL5 := Lib.hid hL5
  replace hbut := Lib.hid hbut
  replace hW5 := Lib.hid hW5
  have hJ5h := Lib.hid hJ5
  have hM5h := Lib.hid hM5
  clear hM1 hJ1 hJ5 hM5 hk5 hid hm0 hB01 hu hB1 hM0 hsz5 hL5 a0 a1 a2 a3
  go_upto_region 2 with fail
  rw [hW5.out]
  clear hW5 p7 p8 p9 p10 s7 s8 s9 s10
  go_wp2_with fail
  refine hcid.out.mono ?_
  rintro e u2 ⟨rfl, hu⟩
  have hfin := Lib.hid (hbut.out.trans ((But.of (b := b) hu).mono hbut.out.size))
  have hL := Lib.hid (show LMem u2 X B b { m with id := memJ j yId } from LMem.shut0 (hM5h.out.below hu hblt5) (hJ5h.out.later hu) h0.out)
  clear hcid hu hbut hM5h hJ5h q7 q8 q9 q10
  go_wp2_with fail
  exact bodyPost_ret (v := .bool (isIdJ (memJ j yId))) (by simp [results, Tryz.results79, go_sem]) rfl ⟨rfl, hL.out, hfin.out⟩
set_option maxRecDepth 100000 in
set_option maxHeartbeats 8000000 in
theorem rFmt_says : ReadSays 77 #[] rFmt (fun _ => True) := by
  intro j X B b m w vn vl _ hV hbk hX hL h0 hbB hBw
  obtain ⟨A, n, c, A', n', c', rfl, rfl⟩ := hV.forms
  obtain ⟨Ai, ni, ci, Ai', ni', ci', hMm, hJi⟩ := hL.open0 h0
  obtain ⟨w0, hw0⟩ : ∃ w0, w.alloc (.cells #[.int .u8 j.kind, .string j.text, .slice A n c, .slice A' n' c'] 25) = w0 := ⟨_, rfl⟩
  have hB0 : Below w.heap.size w w0 := by rw [← hw0]; exact (Below.refl _ _).alloc (Nat.le_refl _) _
  have hs0 : w0.heap.size = w.heap.size + 1 := by rw [← hw0]; simp
  have hC1 : Cel w0 w.heap.size 25 #[.int .u8 j.kind, .string j.text, .slice A n c, .slice A' n' c'] := by rw [← hw0]; exact Cel.fresh _ _ _
  have hblt := hMm.lt
  have hM := (hMm.below hB0 hMm.lt).drew
  have hback : ∀ W, But w0.heap.size b w0 W → But w.heap.size b w W := fun W h => (But.of hB0).trans (h.mono (by omega))
  have hXb : ∀ k, X k → k < w.heap.size → k < w.heap.size ∧ k ≠ b := fun k h1 h2 => ⟨h2, (hX k h1 h2).1⟩
  have hJ : ∀ W, But w0.heap.size b w0 W → JV W X j (.slice A n c) (.slice A' n' c') := fun W h => hV.but (hback W h) hXb
  have hId : ∀ W, But w0.heap.size b w0 W → JV W X m.id (.slice Ai ni ci) (.slice Ai' ni' ci') := fun W h => hJi.but (hback W h) hXb
  have hZ : But w0.heap.size b w0 w0.drew := (But.refl _ _ _).drew
  have hwb : w.heap.size ≠ b := by omega
  replace hw0 := Lib.hid hw0
  replace hback := Lib.hid hback
  replace hs0 := Lib.hid hs0
  replace hC1 := Lib.hid hC1
  replace hM := Lib.hid hM
  replace hZ := Lib.hid hZ
  replace hId := Lib.hid hId
  replace h0 := Lib.hid h0
  obtain ⟨a0, a1, a2, a3⟩ := hC1.out.d4
  have hM00 := hMm.below hB0 hMm.lt
  have p6 : w0.cell? ⟨b, 6, none⟩ = some (.int .i64 m.width) := hM00.cell 6
  have s6 := hM00.froz 6
  obtain ⟨W1, hW1⟩ : ∃ W, w0.setCell ⟨b, 6, none⟩ (.int .i64 80) = W := ⟨_, rfl⟩
  have hbut1 : But w0.heap.size b w0 W1 := by rw [← hW1]; exact (But.refl _ _ _).set 6 _
  have hM1 : Cel W1 b 32 (mCells { m with width := 80 } (.slice Ai ni ci) (.slice Ai' ni' ci') (.slice none 0 0)) := by rw [← hW1]; exact hM00.set 6 _
  obtain ⟨z0, z1, z2, z3⟩ := (hC1.out.but hbut1 hC1.out.lt hwb).d4
  have hm0 := Lib.hid (show Calls Tryz.prog 70 #[.agg #[.int .u8 j.kind, .string j.text, .slice A n c, .slice A' n' c'], .string ⟨#[119, 105, 100, 116, 104]⟩] W1 (MemEnd (memJ j yWidth) (fun k => k ≠ b) W1) from lspMember_any j (fun k => k ≠ b) W1 _ _ _ ((hJ W1 hbut1).more (fun k h1 h2 => fun e => by
    by_cases hlt : k < w.heap.size
    · exact (hX k h1 hlt).1 e
    · omega)) hbk)
  obtain ⟨r, hr⟩ : ∃ r, memJ j yWidth = r := ⟨_, rfl⟩
  have hrb : jbulk r ≤ 1000000000000 := by rw [← hr]; exact memJ_bulk _ _ hbk
  rw [hr] at hm0
  obtain ⟨R, hR⟩ : ∃ R, rFmt j m = R := ⟨_, rfl⟩
  rw [hR]
  unfold rFmt at hR
  rw [hr] at hR
  replace hR := Lib.hid hR
  obtain ⟨rk, rt, rn, rl⟩ := r
  dsimp only at hm0 hR
  replace hM1 := Lib.hid hM1
  replace hbut1 := Lib.hid hbut1
  replace hW1 := Lib.hid hW1
  replace hrb := Lib.hid hrb
  clear hV hbk hL hB0 hMm hJ hJi hblt hXb hM hZ hX hbB hBw hM00 hr
  go_enter Tryz.func77, Tryz.ntmps77
  go_upto_region 1 with fail
  rw [hw0.out]
  clear hw0
  go_upto_region 2 with fail
  rw [hW1.out]
  clear hW1 a0 a1 a2 a3 p6 s6
  go_wp2_with fail
  refine hm0.out.mono ?_
  rintro e u1 ⟨un, ul, rfl, hJ1, hu⟩
  obtain ⟨A1, n1, c1, B1, m1, d1, rfl, rfl⟩ := hJ1.forms
  obtain ⟨W3, hW3⟩ : ∃ W, u1.alloc (.cells #[.int .u8 rk, .string rt, .slice A1 n1 c1, .slice B1 m1 d1] 25) = W := ⟨_, rfl⟩
  have hb3 : Below u1.heap.size u1 W3 := by rw [← hW3]; exact (Below.refl _ _).alloc (Nat.le_refl _) _
  have hX3 : Cel W3 u1.heap.size 25 #[.int .u8 rk, .string rt, .slice A1 n1 c1, .slice B1 m1 d1] := by rw [← hW3]; exact Cel.fresh _ _ _
  have hb13 : Below W1.heap.size W1 W3 := hu.trans (hb3.mono hu.size)
  have hbut3 : But w0.heap.size b w0 W3 := hbut1.out.trans ((But.of hb13).mono hbut1.out.size)
  have hM3 : Cel W3 b 32 (mCells { m with width := 80 } (.slice Ai ni ci) (.slice Ai' ni' ci') (.slice none 0 0)) := hM1.out.below hb13 hM1.out.lt
  have hJ3 : JV W3 (fun k => k ≠ b) ⟨rk, rt, rn, rl⟩ (.slice A1 n1 c1) (.slice B1 m1 d1) := hJ1.later hb3
  have hc := Lib.hid (fun (W : World) (hz : But W3.heap.size b W3 W) (h2 : Cel W b 32 (mCells { m with width := 80 } (.slice Ai ni ci) (.slice Ai' ni' ci') (.slice none 0 0))) => lspCount_any ⟨rk, rt, rn, rl⟩ (fun k => k ≠ b) b 6 32 (mCells { m with width := 80 } (.slice Ai ni ci) (.slice Ai' ni' ci') (.slice none 0 0)) 80 W _ _ (hJ3.but hz (fun k h1 h2 => ⟨h2, h1⟩)) hrb.out h2 rfl)
  dsimp only at hc
  have hback3 := Lib.hid (fun (W : World) (hz : But W3.heap.size b W3 W) => hback.out W (hbut3.trans (hz.mono hbut3.size)))
  have hId3 := Lib.hid (fun (W : World) (hz : But W3.heap.size b W3 W) => hId.out W (hbut3.trans (hz.mono hbut3.size)))
  have hwb3 : u1.heap.size ≠ b := by have := hM1.out.lt; have := hu.size; omega
  replace hW3 := Lib.hid hW3
  replace hX3 := Lib.hid hX3
  replace hM3 := Lib.hid hM3
  clear hm0 hJ1 hu hb3 hb13 hbut3 hJ3 hId hback hM1 hbut1 hC1 hs0 hrb
  go_upto_region 3 with fail
  rw [hW3.out]
  clear hW3 z0 z1 z2 z3
  by_cases hk0 : rk = 0
  · subst hk0
    have hR2 := hR.out
    rw [if_pos rfl] at hR2
    subst hR2
    clear hR
    refine wp_region_held_drew (S := fun W => Cel W u1.heap.size 25 #[.int .u8 0, .string rt, .slice A1 n1 c1, .slice B1 m1 d1]) (by kernel_rfl) hX3.out.drew (fun hS => ?_)
    try dsimp only at hS
    have hS : Cel W3.drew u1.heap.size 25 #[.int .u8 0, .string rt, .slice A1 n1 c1, .slice B1 m1 d1] := hS
    have hM := Lib.hid hM3.out.drew
    have hZ := Lib.hid (But.refl W3.heap.size b W3).drew
    refine hTake (i := 0) (v := .pointer (some ⟨u1.heap.size, 0, none⟩)) rfl (by kernel_rfl) (by kernel_rfl) (by kernel_rfl) (fun _ _ _ h => h) (Or.inl ⟨by rfl, by
      intro w' hSw
      go_simp⟩) hS ?_
    try simp only [Act.put, List.setIfInBounds_toArray, List.set_cons_zero, List.set_cons_succ]
    refine hTake (i := 1) (v := .int .u8 0) rfl (by kernel_rfl) (by kernel_rfl) (by kernel_rfl) (fun _ _ _ h => h) (Or.inl ⟨by rfl, by
      intro w' hSw
      obtain ⟨e0, e1, e2, e3⟩ := hSw.d4
      go_simp⟩) hS ?_
    try simp only [Act.put, List.setIfInBounds_toArray, List.set_cons_zero, List.set_cons_succ]
    refine hTake (i := 2) (v := .bool true) rfl (by kernel_rfl) (by kernel_rfl) (by kernel_rfl) (fun _ _ _ h => h) (Or.inl ⟨by rfl, by
      intro w' hSw
      go_simp⟩) hS ?_
    try simp only [Act.put, List.setIfInBounds_toArray, List.set_cons_zero, List.set_cons_succ]
    refine hTake (i := 3) (v := .bool true) rfl (by kernel_rfl) (by kernel_rfl) (by kernel_rfl) (fun _ _ _ h => h) (Or.inl ⟨by rfl, by
      intro w' hSw
      go_simp⟩) hS ?_
    try simp only [Act.put, List.setIfInBounds_toArray, List.set_cons_zero, List.set_cons_succ]
    refine hTake (i := 4) (v := undef) rfl (by kernel_rfl) (by kernel_rfl) (by kernel_rfl) (fun _ _ _ h => h) (Or.inr ⟨by rfl, rfl⟩) hS ?_
    try simp only [Act.put, List.setIfInBounds_toArray, List.set_cons_zero, List.set_cons_succ]
    refine hTake (i := 5) (v := undef) rfl (by kernel_rfl) (by kernel_rfl) (by kernel_rfl) (fun _ _ _ h => h) (Or.inr ⟨by rfl, rfl⟩) hS ?_
    try simp only [Act.put, List.setIfInBounds_toArray, List.set_cons_zero, List.set_cons_succ]
    refine hTake (i := 6) (v := undef) rfl (by kernel_rfl) (by kernel_rfl) (by kernel_rfl) (fun _ _ _ h => h) (Or.inr ⟨by rfl, rfl⟩) hS ?_
    try simp only [Act.put, List.setIfInBounds_toArray, List.set_cons_zero, List.set_cons_succ]
    refine hTake (i := 7) (v := undef) rfl (by kernel_rfl) (by kernel_rfl) (by kernel_rfl) (fun _ _ _ h => h) (Or.inr ⟨by rfl, rfl⟩) hS ?_
    try simp only [Act.put, List.setIfInBounds_toArray, List.set_cons_zero, List.set_cons_succ]
    refine hTake (i := 8) (v := undef) rfl (by kernel_rfl) (by kernel_rfl) (by kernel_rfl) (fun _ _ _ h => h) (Or.inr ⟨by rfl, rfl⟩) hS ?_
    try simp only [Act.put, List.setIfInBounds_toArray, List.set_cons_zero, List.set_cons_succ]
    refine hTake (i := 9) (v := undef) rfl (by kernel_rfl) (by kernel_rfl) (by kernel_rfl) (fun _ _ _ h => h) (Or.inr ⟨by rfl, rfl⟩) hS ?_
    try simp only [Act.put, List.setIfInBounds_toArray, List.set_cons_zero, List.set_cons_succ]
    refine hTake (i := 10) (v := undef) rfl (by kernel_rfl) (by kernel_rfl) (by kernel_rfl) (fun _ _ _ h => h) (Or.inr ⟨by rfl, rfl⟩) hS ?_
    try simp only [Act.put, List.setIfInBounds_toArray, List.set_cons_zero, List.set_cons_succ]
    refine hTake (i := 11) (v := undef) rfl (by kernel_rfl) (by kernel_rfl) (by kernel_rfl) (fun _ _ _ h => h) (Or.inr ⟨by rfl, rfl⟩) hS ?_
    try simp only [Act.put, List.setIfInBounds_toArray, List.set_cons_zero, List.set_cons_succ]
    refine hTake (i := 12) (v := undef) rfl (by kernel_rfl) (by kernel_rfl) (by kernel_rfl) (fun _ _ _ h => h) (Or.inr ⟨by rfl, rfl⟩) hS ?_
    try simp only [Act.put, List.setIfInBounds_toArray, List.set_cons_zero, List.set_cons_succ]
    refine hTake (i := 13) (v := undef) rfl (by kernel_rfl) (by kernel_rfl) (by kernel_rfl) (fun _ _ _ h => h) (Or.inr ⟨by rfl, rfl⟩) hS ?_
    try simp only [Act.put, List.setIfInBounds_toArray, List.set_cons_zero, List.set_cons_succ]
    refine hTake (i := 14) (v := undef) rfl (by kernel_rfl) (by kernel_rfl) (by kernel_rfl) (fun _ _ _ h => h) (Or.inr ⟨by rfl, rfl⟩) hS ?_
    try simp only [Act.put, List.setIfInBounds_toArray, List.set_cons_zero, List.set_cons_succ]
    refine hTake (i := 15) (v := undef) rfl (by kernel_rfl) (by kernel_rfl) (by kernel_rfl) (fun _ _ _ h => h) (Or.inr ⟨by rfl, rfl⟩) hS ?_
    try simp only [Act.put, List.setIfInBounds_toArray, List.set_cons_zero, List.set_cons_succ]
    refine hTake (i := 16) (v := undef) rfl (by kernel_rfl) (by kernel_rfl) (by kernel_rfl) (fun _ _ _ h => h) (Or.inr ⟨by rfl, rfl⟩) hS ?_
    try simp only [Act.put, List.setIfInBounds_toArray, List.set_cons_zero, List.set_cons_succ]
    refine hTake (i := 17) (v := undef) rfl (by kernel_rfl) (by kernel_rfl) (by kernel_rfl) (fun _ _ _ h => h) (Or.inr ⟨by rfl, rfl⟩) hS ?_
    try simp only [Act.put, List.setIfInBounds_toArray, List.set_cons_zero, List.set_cons_succ]
    refine hTake (i := 18) (v := undef) rfl (by kernel_rfl) (by kernel_rfl) (by kernel_rfl) (fun _ _ _ h => h) (Or.inr ⟨by rfl, rfl⟩) hS ?_
    try simp only [Act.put, List.setIfInBounds_toArray, List.set_cons_zero, List.set_cons_succ]
    refine hTake (i := 19) (v := undef) rfl (by kernel_rfl) (by kernel_rfl) (by kernel_rfl) (fun _ _ _ h => h) (Or.inr ⟨by rfl, rfl⟩) hS ?_
    try simp only [Act.put, List.setIfInBounds_toArray, List.set_cons_zero, List.set_cons_succ]
    refine hTake (i := 20) (v := undef) rfl (by kernel_rfl) (by kernel_rfl) (by kernel_rfl) (fun _ _ _ h => h) (Or.inr ⟨by rfl, rfl⟩) hS ?_
    try simp only [Act.put, List.setIfInBounds_toArray, List.set_cons_zero, List.set_cons_succ]
    refine hTake (i := 21) (v := undef) rfl (by kernel_rfl) (by kernel_rfl) (by kernel_rfl) (fun _ _ _ h => h) (Or.inr ⟨by rfl, rfl⟩) hS ?_
    try simp only [Act.put, List.setIfInBounds_toArray, List.set_cons_zero, List.set_cons_succ]
    refine hTake (i := 22) (v := undef) rfl (by kernel_rfl) (by kernel_rfl) (by kernel_rfl) (fun _ _ _ h => h) (Or.inr ⟨by rfl, rfl⟩) hS ?_
    try simp only [Act.put, List.setIfInBounds_toArray, List.set_cons_zero, List.set_cons_succ]
    refine hTake (i := 23) (v := .bool true) rfl (by kernel_rfl) (by kernel_rfl) (by kernel_rfl) (fun _ _ _ h => h) (Or.inl ⟨by rfl, by
      intro w' hSw
      go_simp⟩) hS ?_
    try simp only [Act.put, List.setIfInBounds_toArray, List.set_cons_zero, List.set_cons_succ]
    refine hTake (i := 24) (v := .bool true) rfl (by kernel_rfl) (by kernel_rfl) (by kernel_rfl) (fun _ _ _ h => h) (Or.inl ⟨by rfl, by
      intro w' hSw
      go_simp⟩) hS ?_
    try simp only [Act.put, List.setIfInBounds_toArray, List.set_cons_zero, List.set_cons_succ]
    refine wpAnyH_done (by kernel_rfl) ?_ _
    have hfin := Lib.hid (hback3.out _ hZ.out)
    have hLf := Lib.hid (show LMem W3.drew X B b { m with width := 80 } from LMem.shut0 (by exact hM.out) (hId3.out _ hZ.out) h0.out)
    clear hc hS hZ hM hId3 hback3
    go_wp2_with fail
    exact bodyPost_ret (v := .bool true) (by simp [results, Tryz.results77, go_sem]) rfl ⟨rfl, hLf.out, hfin.out⟩
  · have hR2 := hR.out
    rw [if_neg hk0] at hR2
    clear hR
    have hk1 : (rk == 0) = false := by simpa using hk0
    replace hk0 := Lib.hid hk0
    rcases hcase : cntJ ⟨rk, rt, rn, rl⟩ with _ | a
    · have hl : lNum ⟨rk, rt, rn, rl⟩ 80 = (false, 80) := by unfold lNum; rw [hcase]
      rw [hl] at hc hR2
      dsimp only at hc hR2
      clear hcase hl
      simp only [Bool.false_and] at hR2
      subst hR2
      refine wp_region_held_drew (S := fun W => Cel W u1.heap.size 25 #[.int .u8 rk, .string rt, .slice A1 n1 c1, .slice B1 m1 d1]) (by kernel_rfl) hX3.out.drew (fun hS => ?_)
      try dsimp only at hS
      have hS : Cel W3.drew u1.heap.size 25 #[.int .u8 rk, .string rt, .slice A1 n1 c1, .slice B1 m1 d1] := hS
      have hM := Lib.hid hM3.out.drew
      have hZ := Lib.hid (But.refl W3.heap.size b W3).drew
      refine hTake (i := 0) (v := .pointer (some ⟨u1.heap.size, 0, none⟩)) rfl (by kernel_rfl) (by kernel_rfl) (by kernel_rfl) (fun _ _ _ h => h) (Or.inl ⟨by rfl, by
        intro w' hSw
        go_simp⟩) hS ?_
      try simp only [Act.put, List.setIfInBounds_toArray, List.set_cons_zero, List.set_cons_succ]
      refine hTake (i := 1) (v := .int .u8 rk) rfl (by kernel_rfl) (by kernel_rfl) (by kernel_rfl) (fun _ _ _ h => h) (Or.inl ⟨by rfl, by
        intro w' hSw
        obtain ⟨e0, e1, e2, e3⟩ := hSw.d4
        go_simp⟩) hS ?_
      try simp only [Act.put, List.setIfInBounds_toArray, List.set_cons_zero, List.set_cons_succ]
      refine hTake (i := 2) (v := .bool false) rfl (by kernel_rfl) (by kernel_rfl) (by kernel_rfl) (fun _ _ _ h => h) (Or.inl ⟨by rfl, by
        intro w' hSw
        go_simp⟩) hS ?_
      try simp only [Act.put, List.setIfInBounds_toArray, List.set_cons_zero, List.set_cons_succ]
      refine hTake (i := 3) (v := .bool false) rfl (by kernel_rfl) (by kernel_rfl) (by kernel_rfl) (fun _ _ _ h => h) (Or.inl ⟨by rfl, by
        intro w' hSw
        go_simp⟩) hS ?_
      try simp only [Act.put, List.setIfInBounds_toArray, List.set_cons_zero, List.set_cons_succ]
      refine hTake (i := 4) (v := .agg #[.int .u8 rk, .string rt, .slice A1 n1 c1, .slice B1 m1 d1]) rfl (by kernel_rfl) (by kernel_rfl) (by kernel_rfl) (fun _ _ _ h => h) (Or.inl ⟨by rfl, by
        intro w' hSw
        obtain ⟨e0, e1, e2, e3⟩ := hSw.d4
        go_simp⟩) hS ?_
      try simp only [Act.put, List.setIfInBounds_toArray, List.set_cons_zero, List.set_cons_succ]
      refine hTake (i := 5) (v := .pointer (some ⟨b, 0, none⟩)) rfl (by kernel_rfl) (by kernel_rfl) (by kernel_rfl) (fun _ _ _ h => h) (Or.inl ⟨by rfl, by
        intro w' hSw
        go_simp⟩) hS ?_
      try simp only [Act.put, List.setIfInBounds_toArray, List.set_cons_zero, List.set_cons_succ]
      refine hTake (i := 6) (v := .pointer (some ⟨b, 0, none⟩)) rfl (by kernel_rfl) (by kernel_rfl) (by kernel_rfl) (fun _ _ _ h => h) (Or.inl ⟨by rfl, by
        intro w' hSw
        go_simp⟩) hS ?_
      try simp only [Act.put, List.setIfInBounds_toArray, List.set_cons_zero, List.set_cons_succ]
      refine hTake (i := 7) (v := .pointer (some ⟨b, 6, none⟩)) rfl (by kernel_rfl) (by kernel_rfl) (by kernel_rfl) (fun _ _ _ h => h) (Or.inl ⟨by rfl, by
        intro w' hSw
        go_simp⟩) hS ?_
      try simp only [Act.put, List.setIfInBounds_toArray, List.set_cons_zero, List.set_cons_succ]
      refine hOne (i := 8) (by kernel_rfl) rfl (fun K hK => ?_)
      go_simp
      refine (hc.out _ hZ.out hM.out).mono ?_
      rintro e u2 ⟨rfl, hM2, hu⟩
      have hS2 := hS.but hu hS.lt hwb3
      replace hZ := Lib.hid (hZ.out.trans (hu.mono hZ.out.size))
      clear hS hu hM hc
      have hS := hS2
      clear hS2
      have hM := Lib.hid hM2
      clear hM2
      refine hK.out _ _ hS ?_
      clear hK
      try simp only [Act.put, List.setIfInBounds_toArray, List.set_cons_zero, List.set_cons_succ]
      refine hTake (i := 9) (v := .bool false) rfl (by kernel_rfl) (by kernel_rfl) (by kernel_rfl) (fun _ _ _ h => h) (Or.inl ⟨by rfl, by
        intro w' hSw
        go_simp⟩) hS ?_
      try simp only [Act.put, List.setIfInBounds_toArray, List.set_cons_zero, List.set_cons_succ]
      refine hTake (i := 10) (v := undef) rfl (by kernel_rfl) (by kernel_rfl) (by kernel_rfl) (fun _ _ _ h => h) (Or.inr ⟨by rfl, rfl⟩) hS ?_
      try simp only [Act.put, List.setIfInBounds_toArray, List.set_cons_zero, List.set_cons_succ]
      refine hTake (i := 11) (v := undef) rfl (by kernel_rfl) (by kernel_rfl) (by kernel_rfl) (fun _ _ _ h => h) (Or.inr ⟨by rfl, rfl⟩) hS ?_
      try simp only [Act.put, List.setIfInBounds_toArray, List.set_cons_zero, List.set_cons_succ]
      refine hTake (i := 12) (v := undef) rfl (by kernel_rfl) (by kernel_rfl) (by kernel_rfl) (fun _ _ _ h => h) (Or.inr ⟨by rfl, rfl⟩) hS ?_
      try simp only [Act.put, List.setIfInBounds_toArray, List.set_cons_zero, List.set_cons_succ]
      refine hTake (i := 13) (v := undef) rfl (by kernel_rfl) (by kernel_rfl) (by kernel_rfl) (fun _ _ _ h => h) (Or.inr ⟨by rfl, rfl⟩) hS ?_
      try simp only [Act.put, List.setIfInBounds_toArray, List.set_cons_zero, List.set_cons_succ]
      refine hTake (i := 14) (v := undef) rfl (by kernel_rfl) (by kernel_rfl) (by kernel_rfl) (fun _ _ _ h => h) (Or.inr ⟨by rfl, rfl⟩) hS ?_
      try simp only [Act.put, List.setIfInBounds_toArray, List.set_cons_zero, List.set_cons_succ]
      refine hTake (i := 15) (v := .bool false) rfl (by kernel_rfl) (by kernel_rfl) (by kernel_rfl) (fun _ _ _ h => h) (Or.inl ⟨by rfl, by
        intro w' hSw
        go_simp⟩) hS ?_
      try simp only [Act.put, List.setIfInBounds_toArray, List.set_cons_zero, List.set_cons_succ]
      refine hTake (i := 16) (v := .bool false) rfl (by kernel_rfl) (by kernel_rfl) (by kernel_rfl) (fun _ _ _ h => h) (Or.inl ⟨by rfl, by
        intro w' hSw
        go_simp⟩) hS ?_
      try simp only [Act.put, List.setIfInBounds_toArray, List.set_cons_zero, List.set_cons_succ]
      refine hTake (i := 17) (v := undef) rfl (by kernel_rfl) (by kernel_rfl) (by kernel_rfl) (fun _ _ _ h => h) (Or.inr ⟨by rfl, rfl⟩) hS ?_
      try simp only [Act.put, List.setIfInBounds_toArray, List.set_cons_zero, List.set_cons_succ]
      refine hTake (i := 18) (v := undef) rfl (by kernel_rfl) (by kernel_rfl) (by kernel_rfl) (fun _ _ _ h => h) (Or.inr ⟨by rfl, rfl⟩) hS ?_
      try simp only [Act.put, List.setIfInBounds_toArray, List.set_cons_zero, List.set_cons_succ]
      refine hTake (i := 19) (v := undef) rfl (by kernel_rfl) (by kernel_rfl) (by kernel_rfl) (fun _ _ _ h => h) (Or.inr ⟨by rfl, rfl⟩) hS ?_
      try simp only [Act.put, List.setIfInBounds_toArray, List.set_cons_zero, List.set_cons_succ]
      refine hTake (i := 20) (v := undef) rfl (by kernel_rfl) (by kernel_rfl) (by kernel_rfl) (fun _ _ _ h => h) (Or.inr ⟨by rfl, rfl⟩) hS ?_
      try simp only [Act.put, List.setIfInBounds_toArray, List.set_cons_zero, List.set_cons_succ]
      refine hTake (i := 21) (v := undef) rfl (by kernel_rfl) (by kernel_rfl) (by kernel_rfl) (fun _ _ _ h => h) (Or.inr ⟨by rfl, rfl⟩) hS ?_
      try simp only [Act.put, List.setIfInBounds_toArray, List.set_cons_zero, List.set_cons_succ]
      refine hTake (i := 22) (v := .bool false) rfl (by kernel_rfl) (by kernel_rfl) (by kernel_rfl) (fun _ _ _ h => h) (Or.inl ⟨by rfl, by
        intro w' hSw
        go_simp⟩) hS ?_
      try simp only [Act.put, List.setIfInBounds_toArray, List.set_cons_zero, List.set_cons_succ]
      refine hTake (i := 23) (v := .bool false) rfl (by kernel_rfl) (by kernel_rfl) (by kernel_rfl) (fun _ _ _ h => h) (Or.inl ⟨by rfl, by
        intro w' hSw
        go_simp⟩) hS ?_
      try simp only [Act.put, List.setIfInBounds_toArray, List.set_cons_zero, List.set_cons_succ]
      refine hTake (i := 24) (v := .bool false) rfl (by kernel_rfl) (by kernel_rfl) (by kernel_rfl) (fun _ _ _ h => h) (Or.inl ⟨by rfl, by
        intro w' hSw
        go_simp⟩) hS ?_
      try simp only [Act.put, List.setIfInBounds_toArray, List.set_cons_zero, List.set_cons_succ]
      refine wpAnyH_done (by kernel_rfl) ?_ _
      have hfin := Lib.hid (hback3.out _ hZ.out)
      have hLf := Lib.hid (show LMem u2 X B b { m with width := 80 } from LMem.shut0 (by exact hM.out) (hId3.out _ hZ.out) h0.out)
      clear hS hZ hM hId3 hback3
      go_wp2_with fail
      exact bodyPost_ret (v := .bool false) (by simp [results, Tryz.results77, go_sem]) rfl ⟨rfl, hLf.out, hfin.out⟩
    · have hl : lNum ⟨rk, rt, rn, rl⟩ 80 = (true, a) := by unfold lNum; rw [hcase]
      rw [hl] at hc hR2
      dsimp only at hc hR2
      clear hcase hl
      by_cases h20 : 20 ≤ a
      · by_cases h200 : a ≤ 200
        · rw [show (true && decide (20 ≤ a) && decide (a ≤ 200)) = true by simp [h20, h200]] at hR2
          subst hR2
          refine wp_region_held_drew (S := fun W => Cel W u1.heap.size 25 #[.int .u8 rk, .string rt, .slice A1 n1 c1, .slice B1 m1 d1]) (by kernel_rfl) hX3.out.drew (fun hS => ?_)
          try dsimp only at hS
          have hS : Cel W3.drew u1.heap.size 25 #[.int .u8 rk, .string rt, .slice A1 n1 c1, .slice B1 m1 d1] := hS
          have hM := Lib.hid hM3.out.drew
          have hZ := Lib.hid (But.refl W3.heap.size b W3).drew
          refine hTake (i := 0) (v := .pointer (some ⟨u1.heap.size, 0, none⟩)) rfl (by kernel_rfl) (by kernel_rfl) (by kernel_rfl) (fun _ _ _ h => h) (Or.inl ⟨by rfl, by
            intro w' hSw
            go_simp⟩) hS ?_
          try simp only [Act.put, List.setIfInBounds_toArray, List.set_cons_zero, List.set_cons_succ]
          refine hTake (i := 1) (v := .int .u8 rk) rfl (by kernel_rfl) (by kernel_rfl) (by kernel_rfl) (fun _ _ _ h => h) (Or.inl ⟨by rfl, by
            intro w' hSw
            obtain ⟨e0, e1, e2, e3⟩ := hSw.d4
            go_simp⟩) hS ?_
          try simp only [Act.put, List.setIfInBounds_toArray, List.set_cons_zero, List.set_cons_succ]
          refine hTake (i := 2) (v := .bool false) rfl (by kernel_rfl) (by kernel_rfl) (by kernel_rfl) (fun _ _ _ h => h) (Or.inl ⟨by rfl, by
            intro w' hSw
            go_simp⟩) hS ?_
          try simp only [Act.put, List.setIfInBounds_toArray, List.set_cons_zero, List.set_cons_succ]
          refine hTake (i := 3) (v := .bool false) rfl (by kernel_rfl) (by kernel_rfl) (by kernel_rfl) (fun _ _ _ h => h) (Or.inl ⟨by rfl, by
            intro w' hSw
            go_simp⟩) hS ?_
          try simp only [Act.put, List.setIfInBounds_toArray, List.set_cons_zero, List.set_cons_succ]
          refine hTake (i := 4) (v := .agg #[.int .u8 rk, .string rt, .slice A1 n1 c1, .slice B1 m1 d1]) rfl (by kernel_rfl) (by kernel_rfl) (by kernel_rfl) (fun _ _ _ h => h) (Or.inl ⟨by rfl, by
            intro w' hSw
            obtain ⟨e0, e1, e2, e3⟩ := hSw.d4
            go_simp⟩) hS ?_
          try simp only [Act.put, List.setIfInBounds_toArray, List.set_cons_zero, List.set_cons_succ]
          refine hTake (i := 5) (v := .pointer (some ⟨b, 0, none⟩)) rfl (by kernel_rfl) (by kernel_rfl) (by kernel_rfl) (fun _ _ _ h => h) (Or.inl ⟨by rfl, by
            intro w' hSw
            go_simp⟩) hS ?_
          try simp only [Act.put, List.setIfInBounds_toArray, List.set_cons_zero, List.set_cons_succ]
          refine hTake (i := 6) (v := .pointer (some ⟨b, 0, none⟩)) rfl (by kernel_rfl) (by kernel_rfl) (by kernel_rfl) (fun _ _ _ h => h) (Or.inl ⟨by rfl, by
            intro w' hSw
            go_simp⟩) hS ?_
          try simp only [Act.put, List.setIfInBounds_toArray, List.set_cons_zero, List.set_cons_succ]
          refine hTake (i := 7) (v := .pointer (some ⟨b, 6, none⟩)) rfl (by kernel_rfl) (by kernel_rfl) (by kernel_rfl) (fun _ _ _ h => h) (Or.inl ⟨by rfl, by
            intro w' hSw
            go_simp⟩) hS ?_
          try simp only [Act.put, List.setIfInBounds_toArray, List.set_cons_zero, List.set_cons_succ]
          refine hOne (i := 8) (by kernel_rfl) rfl (fun K hK => ?_)
          go_simp
          refine (hc.out _ hZ.out hM.out).mono ?_
          rintro e u2 ⟨rfl, hM2, hu⟩
          have hS2 := hS.but hu hS.lt hwb3
          replace hZ := Lib.hid (hZ.out.trans (hu.mono hZ.out.size))
          clear hS hu hM hc
          have hS := hS2
          clear hS2
          have hM := Lib.hid hM2
          clear hM2
          refine hK.out _ _ hS ?_
          clear hK
          try simp only [Act.put, List.setIfInBounds_toArray, List.set_cons_zero, List.set_cons_succ]
          refine hTake (i := 9) (v := .bool true) rfl (by kernel_rfl) (by kernel_rfl) (by kernel_rfl) (fun _ _ _ h => h) (Or.inl ⟨by rfl, by
            intro w' hSw
            go_simp⟩) hS ?_
          try simp only [Act.put, List.setIfInBounds_toArray, List.set_cons_zero, List.set_cons_succ]
          refine hTake (i := 10) (v := .pointer (some ⟨b, 0, none⟩)) rfl (by kernel_rfl) (by kernel_rfl) (by kernel_rfl) (fun _ _ _ h => h) (Or.inl ⟨by rfl, by
            intro w' hSw
            go_simp⟩) hS ?_
          try simp only [Act.put, List.setIfInBounds_toArray, List.set_cons_zero, List.set_cons_succ]
          refine hTake (i := 11) (v := .pointer (some ⟨b, 0, none⟩)) rfl (by kernel_rfl) (by kernel_rfl) (by kernel_rfl) (fun _ _ _ h => h) (Or.inl ⟨by rfl, by
            intro w' hSw
            go_simp⟩) hS ?_
          try simp only [Act.put, List.setIfInBounds_toArray, List.set_cons_zero, List.set_cons_succ]
          refine hTake (i := 12) (v := .pointer (some ⟨b, 6, none⟩)) rfl (by kernel_rfl) (by kernel_rfl) (by kernel_rfl) (fun _ _ _ h => h) (Or.inl ⟨by rfl, by
            intro w' hSw
            go_simp⟩) hS ?_
          try simp only [Act.put, List.setIfInBounds_toArray, List.set_cons_zero, List.set_cons_succ]
          have q6 : u2.cell? ⟨b, 6, none⟩ = some (.int .i64 a) := hM.out.cell 6
          refine hOne (i := 13) (by kernel_rfl) rfl (fun K hK => ?_)
          go_simp
          clear q6
          refine hK.out _ _ hS ?_
          clear hK
          try simp only [Act.put, List.setIfInBounds_toArray, List.set_cons_zero, List.set_cons_succ]
          refine hTake (i := 14) (v := .bool true) rfl (by kernel_rfl) (by kernel_rfl) (by kernel_rfl) (fun _ _ _ h => h) (Or.inl ⟨by rfl, by
            intro w' hSw
            go_simp⟩) hS ?_
          try simp only [Act.put, List.setIfInBounds_toArray, List.set_cons_zero, List.set_cons_succ]
          refine hTake (i := 15) (v := .bool true) rfl (by kernel_rfl) (by kernel_rfl) (by kernel_rfl) (fun _ _ _ h => h) (Or.inl ⟨by rfl, by
            intro w' hSw
            go_simp⟩) hS ?_
          try simp only [Act.put, List.setIfInBounds_toArray, List.set_cons_zero, List.set_cons_succ]
          refine hTake (i := 16) (v := .bool true) rfl (by kernel_rfl) (by kernel_rfl) (by kernel_rfl) (fun _ _ _ h => h) (Or.inl ⟨by rfl, by
            intro w' hSw
            go_simp⟩) hS ?_
          try simp only [Act.put, List.setIfInBounds_toArray, List.set_cons_zero, List.set_cons_succ]
          refine hTake (i := 17) (v := .pointer (some ⟨b, 0, none⟩)) rfl (by kernel_rfl) (by kernel_rfl) (by kernel_rfl) (fun _ _ _ h => h) (Or.inl ⟨by rfl, by
            intro w' hSw
            go_simp⟩) hS ?_
          try simp only [Act.put, List.setIfInBounds_toArray, List.set_cons_zero, List.set_cons_succ]
          refine hTake (i := 18) (v := .pointer (some ⟨b, 0, none⟩)) rfl (by kernel_rfl) (by kernel_rfl) (by kernel_rfl) (fun _ _ _ h => h) (Or.inl ⟨by rfl, by
            intro w' hSw
            go_simp⟩) hS ?_
          try simp only [Act.put, List.setIfInBounds_toArray, List.set_cons_zero, List.set_cons_succ]
          refine hTake (i := 19) (v := .pointer (some ⟨b, 6, none⟩)) rfl (by kernel_rfl) (by kernel_rfl) (by kernel_rfl) (fun _ _ _ h => h) (Or.inl ⟨by rfl, by
            intro w' hSw
            go_simp⟩) hS ?_
          try simp only [Act.put, List.setIfInBounds_toArray, List.set_cons_zero, List.set_cons_succ]
          have q6 : u2.cell? ⟨b, 6, none⟩ = some (.int .i64 a) := hM.out.cell 6
          refine hOne (i := 20) (by kernel_rfl) rfl (fun K hK => ?_)
          go_simp
          clear q6
          refine hK.out _ _ hS ?_
          clear hK
          try simp only [Act.put, List.setIfInBounds_toArray, List.set_cons_zero, List.set_cons_succ]
          refine hTake (i := 21) (v := .bool true) rfl (by kernel_rfl) (by kernel_rfl) (by kernel_rfl) (fun _ _ _ h => h) (Or.inl ⟨by rfl, by
            intro w' hSw
            go_simp⟩) hS ?_
          try simp only [Act.put, List.setIfInBounds_toArray, List.set_cons_zero, List.set_cons_succ]
          refine hTake (i := 22) (v := .bool true) rfl (by kernel_rfl) (by kernel_rfl) (by kernel_rfl) (fun _ _ _ h => h) (Or.inl ⟨by rfl, by
            intro w' hSw
            go_simp⟩) hS ?_
          try simp only [Act.put, List.setIfInBounds_toArray, List.set_cons_zero, List.set_cons_succ]
          refine hTake (i := 23) (v := .bool true) rfl (by kernel_rfl) (by kernel_rfl) (by kernel_rfl) (fun _ _ _ h => h) (Or.inl ⟨by rfl, by
            intro w' hSw
            go_simp⟩) hS ?_
          try simp only [Act.put, List.setIfInBounds_toArray, List.set_cons_zero, List.set_cons_succ]
          refine hTake (i := 24) (v := .bool true) rfl (by kernel_rfl) (by kernel_rfl) (by kernel_rfl) (fun _ _ _ h => h) (Or.inl ⟨by rfl, by
            intro w' hSw
            go_simp⟩) hS ?_
          try simp only [Act.put, List.setIfInBounds_toArray, List.set_cons_zero, List.set_cons_succ]
          refine wpAnyH_done (by kernel_rfl) ?_ _
          have hfin := Lib.hid (hback3.out _ hZ.out)
          have hLf := Lib.hid (show LMem u2 X B b { m with width := a } from LMem.shut0 (by exact hM.out) (hId3.out _ hZ.out) h0.out)
          clear hS hZ hM hId3 hback3
          go_wp2_with fail
          exact bodyPost_ret (v := .bool true) (by simp [results, Tryz.results77, go_sem]) rfl ⟨rfl, hLf.out, hfin.out⟩
        · rw [show (true && decide (20 ≤ a) && decide (a ≤ 200)) = false by simp [h200]] at hR2
          subst hR2
          refine wp_region_held_drew (S := fun W => Cel W u1.heap.size 25 #[.int .u8 rk, .string rt, .slice A1 n1 c1, .slice B1 m1 d1]) (by kernel_rfl) hX3.out.drew (fun hS => ?_)
          try dsimp only at hS
          have hS : Cel W3.drew u1.heap.size 25 #[.int .u8 rk, .string rt, .slice A1 n1 c1, .slice B1 m1 d1] := hS
          have hM := Lib.hid hM3.out.drew
          have hZ := Lib.hid (But.refl W3.heap.size b W3).drew
          refine hTake (i := 0) (v := .pointer (some ⟨u1.heap.size, 0, none⟩)) rfl (by kernel_rfl) (by kernel_rfl) (by kernel_rfl) (fun _ _ _ h => h) (Or.inl ⟨by rfl, by
            intro w' hSw
            go_simp⟩) hS ?_
          try simp only [Act.put, List.setIfInBounds_toArray, List.set_cons_zero, List.set_cons_succ]
          refine hTake (i := 1) (v := .int .u8 rk) rfl (by kernel_rfl) (by kernel_rfl) (by kernel_rfl) (fun _ _ _ h => h) (Or.inl ⟨by rfl, by
            intro w' hSw
            obtain ⟨e0, e1, e2, e3⟩ := hSw.d4
            go_simp⟩) hS ?_
          try simp only [Act.put, List.setIfInBounds_toArray, List.set_cons_zero, List.set_cons_succ]
          refine hTake (i := 2) (v := .bool false) rfl (by kernel_rfl) (by kernel_rfl) (by kernel_rfl) (fun _ _ _ h => h) (Or.inl ⟨by rfl, by
            intro w' hSw
            go_simp⟩) hS ?_
          try simp only [Act.put, List.setIfInBounds_toArray, List.set_cons_zero, List.set_cons_succ]
          refine hTake (i := 3) (v := .bool false) rfl (by kernel_rfl) (by kernel_rfl) (by kernel_rfl) (fun _ _ _ h => h) (Or.inl ⟨by rfl, by
            intro w' hSw
            go_simp⟩) hS ?_
          try simp only [Act.put, List.setIfInBounds_toArray, List.set_cons_zero, List.set_cons_succ]
          refine hTake (i := 4) (v := .agg #[.int .u8 rk, .string rt, .slice A1 n1 c1, .slice B1 m1 d1]) rfl (by kernel_rfl) (by kernel_rfl) (by kernel_rfl) (fun _ _ _ h => h) (Or.inl ⟨by rfl, by
            intro w' hSw
            obtain ⟨e0, e1, e2, e3⟩ := hSw.d4
            go_simp⟩) hS ?_
          try simp only [Act.put, List.setIfInBounds_toArray, List.set_cons_zero, List.set_cons_succ]
          refine hTake (i := 5) (v := .pointer (some ⟨b, 0, none⟩)) rfl (by kernel_rfl) (by kernel_rfl) (by kernel_rfl) (fun _ _ _ h => h) (Or.inl ⟨by rfl, by
            intro w' hSw
            go_simp⟩) hS ?_
          try simp only [Act.put, List.setIfInBounds_toArray, List.set_cons_zero, List.set_cons_succ]
          refine hTake (i := 6) (v := .pointer (some ⟨b, 0, none⟩)) rfl (by kernel_rfl) (by kernel_rfl) (by kernel_rfl) (fun _ _ _ h => h) (Or.inl ⟨by rfl, by
            intro w' hSw
            go_simp⟩) hS ?_
          try simp only [Act.put, List.setIfInBounds_toArray, List.set_cons_zero, List.set_cons_succ]
          refine hTake (i := 7) (v := .pointer (some ⟨b, 6, none⟩)) rfl (by kernel_rfl) (by kernel_rfl) (by kernel_rfl) (fun _ _ _ h => h) (Or.inl ⟨by rfl, by
            intro w' hSw
            go_simp⟩) hS ?_
          try simp only [Act.put, List.setIfInBounds_toArray, List.set_cons_zero, List.set_cons_succ]
          refine hOne (i := 8) (by kernel_rfl) rfl (fun K hK => ?_)
          go_simp
          refine (hc.out _ hZ.out hM.out).mono ?_
          rintro e u2 ⟨rfl, hM2, hu⟩
          have hS2 := hS.but hu hS.lt hwb3
          replace hZ := Lib.hid (hZ.out.trans (hu.mono hZ.out.size))
          clear hS hu hM hc
          have hS := hS2
          clear hS2
          have hM := Lib.hid hM2
          clear hM2
          refine hK.out _ _ hS ?_
          clear hK
          try simp only [Act.put, List.setIfInBounds_toArray, List.set_cons_zero, List.set_cons_succ]
          refine hTake (i := 9) (v := .bool true) rfl (by kernel_rfl) (by kernel_rfl) (by kernel_rfl) (fun _ _ _ h => h) (Or.inl ⟨by rfl, by
            intro w' hSw
            go_simp⟩) hS ?_
          try simp only [Act.put, List.setIfInBounds_toArray, List.set_cons_zero, List.set_cons_succ]
          refine hTake (i := 10) (v := .pointer (some ⟨b, 0, none⟩)) rfl (by kernel_rfl) (by kernel_rfl) (by kernel_rfl) (fun _ _ _ h => h) (Or.inl ⟨by rfl, by
            intro w' hSw
            go_simp⟩) hS ?_
          try simp only [Act.put, List.setIfInBounds_toArray, List.set_cons_zero, List.set_cons_succ]
          refine hTake (i := 11) (v := .pointer (some ⟨b, 0, none⟩)) rfl (by kernel_rfl) (by kernel_rfl) (by kernel_rfl) (fun _ _ _ h => h) (Or.inl ⟨by rfl, by
            intro w' hSw
            go_simp⟩) hS ?_
          try simp only [Act.put, List.setIfInBounds_toArray, List.set_cons_zero, List.set_cons_succ]
          refine hTake (i := 12) (v := .pointer (some ⟨b, 6, none⟩)) rfl (by kernel_rfl) (by kernel_rfl) (by kernel_rfl) (fun _ _ _ h => h) (Or.inl ⟨by rfl, by
            intro w' hSw
            go_simp⟩) hS ?_
          try simp only [Act.put, List.setIfInBounds_toArray, List.set_cons_zero, List.set_cons_succ]
          have q6 : u2.cell? ⟨b, 6, none⟩ = some (.int .i64 a) := hM.out.cell 6
          refine hOne (i := 13) (by kernel_rfl) rfl (fun K hK => ?_)
          go_simp
          clear q6
          refine hK.out _ _ hS ?_
          clear hK
          try simp only [Act.put, List.setIfInBounds_toArray, List.set_cons_zero, List.set_cons_succ]
          refine hTake (i := 14) (v := .bool true) rfl (by kernel_rfl) (by kernel_rfl) (by kernel_rfl) (fun _ _ _ h => h) (Or.inl ⟨by rfl, by
            intro w' hSw
            go_simp⟩) hS ?_
          try simp only [Act.put, List.setIfInBounds_toArray, List.set_cons_zero, List.set_cons_succ]
          refine hTake (i := 15) (v := .bool true) rfl (by kernel_rfl) (by kernel_rfl) (by kernel_rfl) (fun _ _ _ h => h) (Or.inl ⟨by rfl, by
            intro w' hSw
            go_simp⟩) hS ?_
          try simp only [Act.put, List.setIfInBounds_toArray, List.set_cons_zero, List.set_cons_succ]
          refine hTake (i := 16) (v := .bool true) rfl (by kernel_rfl) (by kernel_rfl) (by kernel_rfl) (fun _ _ _ h => h) (Or.inl ⟨by rfl, by
            intro w' hSw
            go_simp⟩) hS ?_
          try simp only [Act.put, List.setIfInBounds_toArray, List.set_cons_zero, List.set_cons_succ]
          refine hTake (i := 17) (v := .pointer (some ⟨b, 0, none⟩)) rfl (by kernel_rfl) (by kernel_rfl) (by kernel_rfl) (fun _ _ _ h => h) (Or.inl ⟨by rfl, by
            intro w' hSw
            go_simp⟩) hS ?_
          try simp only [Act.put, List.setIfInBounds_toArray, List.set_cons_zero, List.set_cons_succ]
          refine hTake (i := 18) (v := .pointer (some ⟨b, 0, none⟩)) rfl (by kernel_rfl) (by kernel_rfl) (by kernel_rfl) (fun _ _ _ h => h) (Or.inl ⟨by rfl, by
            intro w' hSw
            go_simp⟩) hS ?_
          try simp only [Act.put, List.setIfInBounds_toArray, List.set_cons_zero, List.set_cons_succ]
          refine hTake (i := 19) (v := .pointer (some ⟨b, 6, none⟩)) rfl (by kernel_rfl) (by kernel_rfl) (by kernel_rfl) (fun _ _ _ h => h) (Or.inl ⟨by rfl, by
            intro w' hSw
            go_simp⟩) hS ?_
          try simp only [Act.put, List.setIfInBounds_toArray, List.set_cons_zero, List.set_cons_succ]
          have q6 : u2.cell? ⟨b, 6, none⟩ = some (.int .i64 a) := hM.out.cell 6
          refine hOne (i := 20) (by kernel_rfl) rfl (fun K hK => ?_)
          go_simp
          clear q6
          refine hK.out _ _ hS ?_
          clear hK
          try simp only [Act.put, List.setIfInBounds_toArray, List.set_cons_zero, List.set_cons_succ]
          refine hTake (i := 21) (v := .bool false) rfl (by kernel_rfl) (by kernel_rfl) (by kernel_rfl) (fun _ _ _ h => h) (Or.inl ⟨by rfl, by
            intro w' hSw
            go_simp⟩) hS ?_
          try simp only [Act.put, List.setIfInBounds_toArray, List.set_cons_zero, List.set_cons_succ]
          refine hTake (i := 22) (v := .bool false) rfl (by kernel_rfl) (by kernel_rfl) (by kernel_rfl) (fun _ _ _ h => h) (Or.inl ⟨by rfl, by
            intro w' hSw
            go_simp⟩) hS ?_
          try simp only [Act.put, List.setIfInBounds_toArray, List.set_cons_zero, List.set_cons_succ]
          refine hTake (i := 23) (v := .bool false) rfl (by kernel_rfl) (by kernel_rfl) (by kernel_rfl) (fun _ _ _ h => h) (Or.inl ⟨by rfl, by
            intro w' hSw
            go_simp⟩) hS ?_
          try simp only [Act.put, List.setIfInBounds_toArray, List.set_cons_zero, List.set_cons_succ]
          refine hTake (i := 24) (v := .bool false) rfl (by kernel_rfl) (by kernel_rfl) (by kernel_rfl) (fun _ _ _ h => h) (Or.inl ⟨by rfl, by
            intro w' hSw
            go_simp⟩) hS ?_
          try simp only [Act.put, List.setIfInBounds_toArray, List.set_cons_zero, List.set_cons_succ]
          refine wpAnyH_done (by kernel_rfl) ?_ _
          have hfin := Lib.hid (hback3.out _ hZ.out)
          have hLf := Lib.hid (show LMem u2 X B b { m with width := a } from LMem.shut0 (by exact hM.out) (hId3.out _ hZ.out) h0.out)
          clear hS hZ hM hId3 hback3
          go_wp2_with fail
          exact bodyPost_ret (v := .bool false) (by simp [results, Tryz.results77, go_sem]) rfl ⟨rfl, hLf.out, hfin.out⟩
      · rw [show (true && decide (20 ≤ a) && decide (a ≤ 200)) = false by simp [h20]] at hR2
        subst hR2
        refine wp_region_held_drew (S := fun W => Cel W u1.heap.size 25 #[.int .u8 rk, .string rt, .slice A1 n1 c1, .slice B1 m1 d1]) (by kernel_rfl) hX3.out.drew (fun hS => ?_)
        try dsimp only at hS
        have hS : Cel W3.drew u1.heap.size 25 #[.int .u8 rk, .string rt, .slice A1 n1 c1, .slice B1 m1 d1] := hS
        have hM := Lib.hid hM3.out.drew
        have hZ := Lib.hid (But.refl W3.heap.size b W3).drew
        refine hTake (i := 0) (v := .pointer (some ⟨u1.heap.size, 0, none⟩)) rfl (by kernel_rfl) (by kernel_rfl) (by kernel_rfl) (fun _ _ _ h => h) (Or.inl ⟨by rfl, by
          intro w' hSw
          go_simp⟩) hS ?_
        try simp only [Act.put, List.setIfInBounds_toArray, List.set_cons_zero, List.set_cons_succ]
        refine hTake (i := 1) (v := .int .u8 rk) rfl (by kernel_rfl) (by kernel_rfl) (by kernel_rfl) (fun _ _ _ h => h) (Or.inl ⟨by rfl, by
          intro w' hSw
          obtain ⟨e0, e1, e2, e3⟩ := hSw.d4
          go_simp⟩) hS ?_
        try simp only [Act.put, List.setIfInBounds_toArray, List.set_cons_zero, List.set_cons_succ]
        refine hTake (i := 2) (v := .bool false) rfl (by kernel_rfl) (by kernel_rfl) (by kernel_rfl) (fun _ _ _ h => h) (Or.inl ⟨by rfl, by
          intro w' hSw
          go_simp⟩) hS ?_
        try simp only [Act.put, List.setIfInBounds_toArray, List.set_cons_zero, List.set_cons_succ]
        refine hTake (i := 3) (v := .bool false) rfl (by kernel_rfl) (by kernel_rfl) (by kernel_rfl) (fun _ _ _ h => h) (Or.inl ⟨by rfl, by
          intro w' hSw
          go_simp⟩) hS ?_
        try simp only [Act.put, List.setIfInBounds_toArray, List.set_cons_zero, List.set_cons_succ]
        refine hTake (i := 4) (v := .agg #[.int .u8 rk, .string rt, .slice A1 n1 c1, .slice B1 m1 d1]) rfl (by kernel_rfl) (by kernel_rfl) (by kernel_rfl) (fun _ _ _ h => h) (Or.inl ⟨by rfl, by
          intro w' hSw
          obtain ⟨e0, e1, e2, e3⟩ := hSw.d4
          go_simp⟩) hS ?_
        try simp only [Act.put, List.setIfInBounds_toArray, List.set_cons_zero, List.set_cons_succ]
        refine hTake (i := 5) (v := .pointer (some ⟨b, 0, none⟩)) rfl (by kernel_rfl) (by kernel_rfl) (by kernel_rfl) (fun _ _ _ h => h) (Or.inl ⟨by rfl, by
          intro w' hSw
          go_simp⟩) hS ?_
        try simp only [Act.put, List.setIfInBounds_toArray, List.set_cons_zero, List.set_cons_succ]
        refine hTake (i := 6) (v := .pointer (some ⟨b, 0, none⟩)) rfl (by kernel_rfl) (by kernel_rfl) (by kernel_rfl) (fun _ _ _ h => h) (Or.inl ⟨by rfl, by
          intro w' hSw
          go_simp⟩) hS ?_
        try simp only [Act.put, List.setIfInBounds_toArray, List.set_cons_zero, List.set_cons_succ]
        refine hTake (i := 7) (v := .pointer (some ⟨b, 6, none⟩)) rfl (by kernel_rfl) (by kernel_rfl) (by kernel_rfl) (fun _ _ _ h => h) (Or.inl ⟨by rfl, by
          intro w' hSw
          go_simp⟩) hS ?_
        try simp only [Act.put, List.setIfInBounds_toArray, List.set_cons_zero, List.set_cons_succ]
        refine hOne (i := 8) (by kernel_rfl) rfl (fun K hK => ?_)
        go_simp
        refine (hc.out _ hZ.out hM.out).mono ?_
        rintro e u2 ⟨rfl, hM2, hu⟩
        have hS2 := hS.but hu hS.lt hwb3
        replace hZ := Lib.hid (hZ.out.trans (hu.mono hZ.out.size))
        clear hS hu hM hc
        have hS := hS2
        clear hS2
        have hM := Lib.hid hM2
        clear hM2
        refine hK.out _ _ hS ?_
        clear hK
        try simp only [Act.put, List.setIfInBounds_toArray, List.set_cons_zero, List.set_cons_succ]
        refine hTake (i := 9) (v := .bool true) rfl (by kernel_rfl) (by kernel_rfl) (by kernel_rfl) (fun _ _ _ h => h) (Or.inl ⟨by rfl, by
          intro w' hSw
          go_simp⟩) hS ?_
        try simp only [Act.put, List.setIfInBounds_toArray, List.set_cons_zero, List.set_cons_succ]
        refine hTake (i := 10) (v := .pointer (some ⟨b, 0, none⟩)) rfl (by kernel_rfl) (by kernel_rfl) (by kernel_rfl) (fun _ _ _ h => h) (Or.inl ⟨by rfl, by
          intro w' hSw
          go_simp⟩) hS ?_
        try simp only [Act.put, List.setIfInBounds_toArray, List.set_cons_zero, List.set_cons_succ]
        refine hTake (i := 11) (v := .pointer (some ⟨b, 0, none⟩)) rfl (by kernel_rfl) (by kernel_rfl) (by kernel_rfl) (fun _ _ _ h => h) (Or.inl ⟨by rfl, by
          intro w' hSw
          go_simp⟩) hS ?_
        try simp only [Act.put, List.setIfInBounds_toArray, List.set_cons_zero, List.set_cons_succ]
        refine hTake (i := 12) (v := .pointer (some ⟨b, 6, none⟩)) rfl (by kernel_rfl) (by kernel_rfl) (by kernel_rfl) (fun _ _ _ h => h) (Or.inl ⟨by rfl, by
          intro w' hSw
          go_simp⟩) hS ?_
        try simp only [Act.put, List.setIfInBounds_toArray, List.set_cons_zero, List.set_cons_succ]
        have q6 : u2.cell? ⟨b, 6, none⟩ = some (.int .i64 a) := hM.out.cell 6
        refine hOne (i := 13) (by kernel_rfl) rfl (fun K hK => ?_)
        go_simp
        clear q6
        refine hK.out _ _ hS ?_
        clear hK
        try simp only [Act.put, List.setIfInBounds_toArray, List.set_cons_zero, List.set_cons_succ]
        refine hTake (i := 14) (v := .bool false) rfl (by kernel_rfl) (by kernel_rfl) (by kernel_rfl) (fun _ _ _ h => h) (Or.inl ⟨by rfl, by
          intro w' hSw
          go_simp⟩) hS ?_
        try simp only [Act.put, List.setIfInBounds_toArray, List.set_cons_zero, List.set_cons_succ]
        refine hTake (i := 15) (v := .bool false) rfl (by kernel_rfl) (by kernel_rfl) (by kernel_rfl) (fun _ _ _ h => h) (Or.inl ⟨by rfl, by
          intro w' hSw
          go_simp⟩) hS ?_
        try simp only [Act.put, List.setIfInBounds_toArray, List.set_cons_zero, List.set_cons_succ]
        refine hTake (i := 16) (v := .bool false) rfl (by kernel_rfl) (by kernel_rfl) (by kernel_rfl) (fun _ _ _ h => h) (Or.inl ⟨by rfl, by
          intro w' hSw
          go_simp⟩) hS ?_
        try simp only [Act.put, List.setIfInBounds_toArray, List.set_cons_zero, List.set_cons_succ]
        refine hTake (i := 17) (v := undef) rfl (by kernel_rfl) (by kernel_rfl) (by kernel_rfl) (fun _ _ _ h => h) (Or.inr ⟨by rfl, rfl⟩) hS ?_
        try simp only [Act.put, List.setIfInBounds_toArray, List.set_cons_zero, List.set_cons_succ]
        refine hTake (i := 18) (v := undef) rfl (by kernel_rfl) (by kernel_rfl) (by kernel_rfl) (fun _ _ _ h => h) (Or.inr ⟨by rfl, rfl⟩) hS ?_
        try simp only [Act.put, List.setIfInBounds_toArray, List.set_cons_zero, List.set_cons_succ]
        refine hTake (i := 19) (v := undef) rfl (by kernel_rfl) (by kernel_rfl) (by kernel_rfl) (fun _ _ _ h => h) (Or.inr ⟨by rfl, rfl⟩) hS ?_
        try simp only [Act.put, List.setIfInBounds_toArray, List.set_cons_zero, List.set_cons_succ]
        refine hTake (i := 20) (v := undef) rfl (by kernel_rfl) (by kernel_rfl) (by kernel_rfl) (fun _ _ _ h => h) (Or.inr ⟨by rfl, rfl⟩) hS ?_
        try simp only [Act.put, List.setIfInBounds_toArray, List.set_cons_zero, List.set_cons_succ]
        refine hTake (i := 21) (v := undef) rfl (by kernel_rfl) (by kernel_rfl) (by kernel_rfl) (fun _ _ _ h => h) (Or.inr ⟨by rfl, rfl⟩) hS ?_
        try simp only [Act.put, List.setIfInBounds_toArray, List.set_cons_zero, List.set_cons_succ]
        refine hTake (i := 22) (v := .bool false) rfl (by kernel_rfl) (by kernel_rfl) (by kernel_rfl) (fun _ _ _ h => h) (Or.inl ⟨by rfl, by
          intro w' hSw
          go_simp⟩) hS ?_
        try simp only [Act.put, List.setIfInBounds_toArray, List.set_cons_zero, List.set_cons_succ]
        refine hTake (i := 23) (v := .bool false) rfl (by kernel_rfl) (by kernel_rfl) (by kernel_rfl) (fun _ _ _ h => h) (Or.inl ⟨by rfl, by
          intro w' hSw
          go_simp⟩) hS ?_
        try simp only [Act.put, List.setIfInBounds_toArray, List.set_cons_zero, List.set_cons_succ]
        refine hTake (i := 24) (v := .bool false) rfl (by kernel_rfl) (by kernel_rfl) (by kernel_rfl) (fun _ _ _ h => h) (Or.inl ⟨by rfl, by
          intro w' hSw
          go_simp⟩) hS ?_
        try simp only [Act.put, List.setIfInBounds_toArray, List.set_cons_zero, List.set_cons_succ]
        refine wpAnyH_done (by kernel_rfl) ?_ _
        have hfin := Lib.hid (hback3.out _ hZ.out)
        have hLf := Lib.hid (show LMem u2 X B b { m with width := a } from LMem.shut0 (by exact hM.out) (hId3.out _ hZ.out) h0.out)
        clear hS hZ hM hId3 hback3
        go_wp2_with fail
        exact bodyPost_ret (v := .bool false) (by simp [results, Tryz.results77, go_sem]) rfl ⟨rfl, hLf.out, hfin.out⟩
end Go.Proofs.YtlnkjacbdolhnaaGreatDoor
