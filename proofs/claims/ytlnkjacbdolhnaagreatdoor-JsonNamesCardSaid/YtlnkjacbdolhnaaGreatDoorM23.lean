/-
  The walks of the JSON reader's unit and escape.
-/
import Derived.Test.YtlnkjacbdolhnaaGreatDoorM18
import Derived.Test.YtlnkjacbdolhnaaGreatDoorM22
import Derived.Shelf.Strings.CaseAny
namespace Go.Proofs.YtlnkjacbdolhnaaGreatDoor
open Go.RowKit

/-- What reading asks of memory: the tables of numbers, of utf8, of cases. -/
def EnvC (w : World) : Prop := EnvU w ∧ Lib.CaseVar 4 Lib.caseA w
theorem EnvC.below {w w' : World} (h : EnvC w) (hb : Below w.heap.size w w') : EnvC w' := ⟨h.1.below hb, Lib.CaseVar_below h.2 hb⟩
theorem EnvC.at {w w' : World} {B : Nat} (h : EnvC w) (hB : w.heap.size ≤ B) (hb : Below B w w') : EnvC w' := h.below (hb.mono hB)
theorem size_ofL (s : List UInt8) : (ofL s).size = s.length := by simp [ofL, ByteArray.size]
theorem of_bytes {a : ByteArray} {l : List UInt8} (h : a.data.toList = l) : a = ofL l := by subst h; exact (ofL_toList a).symm
theorem jxt_take (s : List UInt8) (k : Nat) : (ofL s).extract 0 k = ofL (s.take k) := of_bytes (by rw [Lib.extract_data, toList_ofL]; simp)
theorem jxt_drop (s : List UInt8) (k : Nat) : (ofL s).extract k (ofL s).size = ofL (s.drop k) := of_bytes (by rw [Lib.extract_to_end, toList_ofL])
/-- A string's bytes in new memory. -/
theorem conv_bytes (W : World) (s : ByteArray) : ∃ (c : Nat) (W' : World), (convert 9 84 (.string s)).run Tryz.prog W = .ok (.slice (some ⟨W.heap.size, 0, none⟩) s.size c) W' ∧ s.size ≤ c ∧ (∀ (j : Nat) (x : UInt8), s.data.toList[j]? = some x → W'.cell? ⟨W.heap.size, j, none⟩ = some (.int .u8 x.toNat)) ∧ Below W.heap.size W W' :=
  ⟨grownCap W s.size 0 5, Lib.bytesWorld W 5 s, Lib.run_convert_string_bytes (P := Tryz.prog) W 9 84 5 s Tryz.underlying9 Tryz.underlying84 Tryz.underlying5, grownCap_ge _ _ _ _, fun j x hx => by
    have hj : j < s.size := by
      have := (List.getElem?_eq_some_iff.1 hx).1
      rwa [bytes_len] at this
    rw [Lib.bytesWorld_cell W _ s j hj]
    simp [List.getD, hx], Lib.bytesWorld_below _ _ _⟩
def UnitEnd (b it : Nat) (w : World) (R : Option (Nat × List UInt8)) (e : Ending) (w' : World) : Prop := But w.heap.size b w w' ∧ (match R with | none => e = Pan 4 | some (n, r) => e = .returned (.int .i64 (n : Int)) ∧ RJ w' b r it)
set_option maxRecDepth 100000 in
set_option maxHeartbeats 4000000 in
theorem jrUnit_any (b : Nat) (s : List UInt8) (it : Nat) (w : World) (hE : EnvC w) (h : RJ w b s it) :
    Calls Tryz.prog 175 #[.pointer (some ⟨b, 0, none⟩)] w (UnitEnd b it w (junit s)) := by
  have p0 := Cel.cell h 0
  simp only [List.getElem?_toArray, List.getElem?_cons_zero] at p0
  have hlt := h.lt
  by_cases hs : s.length < 4
  · rw [junit_short hs]
    obtain ⟨S, hS⟩ : ∃ S, ofL s = S := ⟨_, rfl⟩
    have hz : S.size < 4 := by rw [← hS, size_ofL]; exact hs
    have hzi : (S.size : Int) < 4 := by omega
    rw [hS] at p0
    clear hS hs hE h hz
    go_enter Tryz.func175, Tryz.ntmps175
    go_wp2_with fail
    refine (jrFail_any 4 _).mono ?_
    rintro e w1 ⟨rfl, rfl⟩
    exact ⟨rfl, But.refl _ _ _, rfl⟩
  · rw [junit_lower (by omega)]
    have hT := Tryz.strings_ToLower_any (ofL (s.take 4)) w (by rw [size_ofL]; simp; omega) hE.2 hE.1.2
    rw [toList_ofL] at hT
    obtain ⟨L, hL⟩ : ∃ L, Lib.toLowerD (s.take 4) = L := ⟨_, rfl⟩
    have hlen : (∀ c ∈ L, (jhl c).isSome = true) → L.length = 4 := by
      intro hh
      rw [← hL] at hh ⊢
      rw [lower_len hh]; simp; omega
    rw [hL] at hT ⊢
    obtain ⟨R, hR0⟩ : ∃ R, hexL 0 L = R := ⟨_, rfl⟩
    rw [hR0]
    replace hR0 := Lib.hid hR0
    have hLb : L.length ≤ 16 := by rw [← hL]; have := lower_le (s.take 4); simp at this; omega
    obtain ⟨SL, hSL⟩ : ∃ SL : ByteArray, ⟨L.toArray⟩ = SL := ⟨_, rfl⟩
    have hSLl : SL.data.toList = L := by rw [← hSL]
    have hSLz : SL.size = L.length := by rw [← hSL]; simp [ByteArray.size]
    rw [hSL] at hT
    have hx4 := jxt_take s 4
    have hx5 := jxt_drop s 4
    have hz : ¬ (ofL s).size < 4 := by rw [size_ofL]; exact hs
    obtain ⟨S, hS⟩ : ∃ S, ofL s = S := ⟨_, rfl⟩
    obtain ⟨S4, hS4⟩ : ∃ S4, ofL (s.take 4) = S4 := ⟨_, rfl⟩
    obtain ⟨S5, hS5⟩ : ∃ S5, ofL (s.drop 4) = S5 := ⟨_, rfl⟩
    rw [hS, hS4] at hx4
    rw [hS, hS5] at hx5
    rw [hS] at p0 hz
    rw [hS4] at hT
    have hzi : ¬ (S.size : Int) < 4 := by omega
    have hzj : (4 : Int) ≤ (S.size : Int) := by omega
    replace hS5 := Lib.hid hS5
    replace hS := Lib.hid hS
    replace hT := Lib.hid hT
    replace h := Lib.hid h
    replace hlen := Lib.hid hlen
    clear hs hE hL hSL hS4
    go_enter Tryz.func175, Tryz.ntmps175
    go_wp2_with fail
    refine hT.out.mono ?_
    rintro e w1 ⟨rfl, hb⟩
    obtain ⟨cc, W, hrun, hcc, hcell, hbW⟩ := conv_bytes w1 SL
    have hB : Below w.heap.size w W := hb.trans (hbW.mono hb.size)
    have hR := h.out.below hB
    have q0 := Cel.cell hR 0
    have f0 := Cel.froz hR 0
    simp only [List.getElem?_toArray, List.getElem?_cons_zero] at q0
    rw [hSLl] at hcell
    rw [hS.out] at q0
    clear hT p0 hb hbW h hSLl hlt
    replace hB := Lib.hid hB
    replace hR := Lib.hid hR
    replace hcell := Lib.hid hcell
    go_wp2_with fail
    go_loopw [3, 22] (fun n i wr => ∃ (q : Nat) (v : Int), q ≤ L.length ∧ n = .int .i64 v ∧ i = .int .i64 q ∧ HexAt L q v ∧ wr = W) (fun _ i _ => L.length - (intOf i).toNat)
    case atStart => exact ⟨0, 0, Nat.zero_le _, rfl, rfl, HexAt.start L, rfl⟩
    case round =>
      obtain ⟨q, v, hq, rfl, rfl, hAt, rfl⟩ := hrel
      by_cases hlt : q < L.length
      · have hc := hcell.out q L[q] (List.getElem?_eq_getElem hlt)
        have hbd := L[q].toNat_lt
        have hix := hex_ix ⟨L[q].toNat, hbd⟩
        rw [UInt8.ofNat_toNat] at hix
        obtain ⟨c, hcc2⟩ : ∃ c : Int, (L[q].toNat : Int) = c := ⟨_, rfl⟩
        have hI := Tryz.strings_IndexByte ⟨#[48, 49, 50, 51, 52, 53, 54, 55, 56, 57, 97, 98, 99, 100, 101, 102]⟩ c wr
        have he : c.toNat.toUInt8 = L[q] := by rw [← hcc2]; simp
        have hx : (⟨#[48, 49, 50, 51, 52, 53, 54, 55, 56, 57, 97, 98, 99, 100, 101, 102]⟩ : ByteArray).data.toList = [48, 49, 50, 51, 52, 53, 54, 55, 56, 57, 97, 98, 99, 100, 101, 102] := rfl
        rw [hx, he, hix] at hI
        rw [hcc2] at hc
        have hq0 : (0 : Int) ≤ (q : Int) := by omega
        have hq1 : (q : Int) < (L.length : Int) := by omega
        have hq2 : (q : Int) < (SL.size : Int) := by omega
        rcases hj : jhl L[q] with _ | k
        · rw [hj] at hI
          have hnone : hexL 0 L = none := by
            cases hh : hexL 0 L with
            | none => rfl
            | some m => have := hexL_take L 0 m hh L[q] (List.getElem_mem hlt); rw [hj] at this; cases this
          rw [hR0.out] at hnone
          subst hnone
          dsimp only at hI
          clear hj hx hix hcell hAt hlen hS5 hx5 hR0 he hcc2 hbd
          replace hI := Lib.hid hI
          go_wp2_with fail
          refine hI.out.mono ?_
          rintro e w2 ⟨rfl, rfl⟩
          clear hI
          go_wp2_with fail
          refine (jrFail_any 4 _).mono ?_
          rintro e w3 ⟨rfl, rfl⟩
          exact ⟨rfl, But.of hB.out, rfl⟩
        · rw [hj] at hI
          dsimp only at hI
          have hk := jhl_lt hj
          have hstep : ∀ v', (q < 4 → 0 ≤ v → v < 65536 → v' = v * 16 + (k : Int)) → HexAt L (q + 1) v' := fun v' h => hAt.step hlt hj h
          obtain ⟨kk, hkk⟩ : ∃ kk : Int, (k : Int) = kk := ⟨_, rfl⟩
          rw [hkk] at hI hstep
          have hk0 : ¬ kk < 0 := by omega
          have hk1 : kk < 16 := by omega
          clear hj hx hix hAt hlen hS5 hx5 hR0 he hcc2 hbd hkk hk
          replace hI := Lib.hid hI
          replace hstep := Lib.hid hstep
          go_wp2_with fail
          refine hI.out.mono ?_
          rintro e w2 ⟨rfl, rfl⟩
          clear hI
          go_wp2_with fail
          go_roundw
          case rel => exact ⟨q + 1, _, by omega, rfl, by go_num, hstep.out _ (fun h1 h2 h3 => by
            have e1 : wrap64 (v * 16) = v * 16 := by unfold wrap64; omega
            rw [e1]
            unfold wrap64; omega), by first | rfl | trivial⟩
          case measure => simp [intOf]; omega
      · have hfull : ∀ c ∈ L, (jhl c).isSome = true := fun c hc => hAt.1 c (by rw [List.take_of_length_le (by omega)]; exact hc)
        have h4 := hlen.out hfull
        obtain ⟨n, hn1, hn2, _⟩ := hAt.2 (by omega)
        rw [hR0.out, List.drop_eq_nil_of_le (by omega)] at hn2
        have hn3 : R = some n := hn2
        subst hn3
        subst hn1
        clear hfull h4 hn2 hAt hlen hR0 hcell
        go_wp2_with fail
        go_ret
        refine ⟨(But.of hB.out).trans (But.set0 _ |>.mono hB.out.size), ?_⟩
        show _ ∧ _
        refine ⟨rfl, ?_⟩
        rw [← hS5.out]
        exact hR.out.set
end Go.Proofs.YtlnkjacbdolhnaaGreatDoor


/-
  The walk of the JSON reader's escape.
-/
namespace Go.Proofs.YtlnkjacbdolhnaaGreatDoor
open Go.RowKit

/-- The tables, laid ahead of the reader's block. -/
def EnvB (b : Nat) (w : World) : Prop := ∃ W0, EnvC W0 ∧ W0.heap.size ≤ b ∧ Below W0.heap.size W0 w
theorem EnvB.env {b : Nat} {w : World} (h : EnvB b w) : EnvC w := by
  obtain ⟨W0, h1, _, h3⟩ := h
  exact h1.below h3
theorem EnvB.but {b : Nat} {w w' : World} (h : EnvB b w) (hb : But w.heap.size b w w') : EnvB b w' := by
  obtain ⟨W0, h1, h2, h3⟩ := h
  exact ⟨W0, h1, h2, h3.trans (hb.below h2 h3.size)⟩
theorem EnvB.below {b : Nat} {w w' : World} (h : EnvB b w) (hb : Below w.heap.size w w') : EnvB b w' := h.but (But.of hb)
def EscEnd (b it : Nat) (w : World) (R : Option (List UInt8 × List UInt8)) (e : Ending) (w' : World) : Prop := But w.heap.size b w w' ∧ (match R with | none => e = Pan 4 | some (t, r) => e = .returned (.string (ofL t)) ∧ RJ w' b r it)
def mkOK (c : UInt8) : Bool := match jmark c with
  | some m => decide (0 ≤ Lib.indexByte [34, 92, 98, 102, 110, 114, 116] c) && decide (Lib.indexByte [34, 92, 98, 102, 110, 114, 116] c < 7) && decide (([34, 92, 8, 12, 10, 13, 9] : List UInt8).getD (Lib.indexByte [34, 92, 98, 102, 110, 114, 116] c).toNat 0 = m)
  | none => decide (Lib.indexByte [34, 92, 98, 102, 110, 114, 116] c = -1)
theorem mk_all : ∀ n : Fin 256, n.val ≠ 47 → mkOK (UInt8.ofNat n.val) = true := by decide +kernel
theorem mk_ext : ∀ k : Fin 7, (⟨#[34, 92, 8, 12, 10, 13, 9]⟩ : ByteArray).extract k.val (k.val + 1) = ofL [([34, 92, 8, 12, 10, 13, 9] : List UInt8).getD k.val 0] := by decide +kernel
/-- A text's first byte, and the rest. -/
theorem head_facts (c : UInt8) (r : List UInt8) : 0 < (ofL (c :: r)).size ∧ (∀ h : 0 < (ofL (c :: r)).size, (ofL (c :: r))[0] = c) ∧ (ofL (c :: r)).extract 1 (ofL (c :: r)).size = ofL r ∧ (ofL (c :: r)).toList.isEmpty = false :=
  ⟨by rw [size_ofL]; simp, fun _ => rfl, jxt_drop (c :: r) 1, by rw [Lib.toList_data, toList_ofL]; rfl⟩
set_option maxRecDepth 100000 in
set_option maxHeartbeats 4000000 in
theorem jrEscape_any (b : Nat) (s : List UInt8) (it : Nat) (w : World) (hE : EnvB b w) (h : RJ w b s it) :
    Calls Tryz.prog 133 #[.pointer (some ⟨b, 0, none⟩)] w (EscEnd b it w (jescape s)) := by
  have p0 := Cel.cell h 0
  simp only [List.getElem?_toArray, List.getElem?_cons_zero] at p0
  have f0 := Cel.froz h 0
  rcases s with _ | ⟨c, r⟩
  · have e1 : jescape [] = none := rfl
    rw [e1]
    have e2 : ofL [] = ByteArray.empty := rfl
    rw [e2] at p0
    clear hE h
    go_enter Tryz.func133, Tryz.ntmps133
    go_wp2_with fail
    refine (jrFail_any 4 _).mono ?_
    rintro e w1 ⟨rfl, rfl⟩
    exact ⟨rfl, But.refl _ _ _, rfl⟩
  · obtain ⟨g1, g2, g3, g4⟩ := head_facts c r
    rw [jescape_cons]
    obtain ⟨S, hS⟩ : ∃ S, ofL (c :: r) = S := ⟨_, rfl⟩
    obtain ⟨S1, hS1⟩ : ∃ S1, ofL r = S1 := ⟨_, rfl⟩
    rw [hS] at p0 g1 g2 g3 g4
    rw [hS1] at g3
    have g5 := g2 g1
    have hbd := c.toNat_lt
    obtain ⟨ci, hci⟩ : ∃ ci : Int, (c.toNat : Int) = ci := ⟨_, rfl⟩
    have g6 : (S[0].toNat : Int) = ci := by rw [g5]; exact hci
    have hw1 : RJ (w.setCell ⟨b, 0, none⟩ (.string S1)) b r it := by rw [← hS1]; exact h.set
    have hE1 : EnvB b (w.setCell ⟨b, 0, none⟩ (.string S1)) := hE.but (But.set0 _)
    have hsz : (1 : Int) ≤ (S.size : Int) := by omega
    clear g2 hE hS
    replace hS1 := Lib.hid hS1
    replace hw1 := Lib.hid hw1
    replace hE1 := Lib.hid hE1
    by_cases c47 : c = 47
    · have e1 : jmark c = some 47 := by rw [c47]; rfl
      rw [e1]
      have e2 : ci = 47 := by rw [← hci, c47]; rfl
      subst e2
      clear hci g5 c47 h hE1
      go_enter Tryz.func133, Tryz.ntmps133
      go_wp2_with fail
      go_ret
      exact ⟨But.set0 _, rfl, hw1.out⟩
    · have e2 : ¬ ci = 47 := by
        intro e
        apply c47
        rw [← hci] at e
        exact UInt8.toNat_inj.1 (by show c.toNat = 47; omega)
      have hm := mk_all ⟨c.toNat, hbd⟩ (fun e => c47 (UInt8.toNat_inj.1 e))
      rw [UInt8.ofNat_toNat] at hm
      have hI := Lib.hid (fun (W : World) => Tryz.strings_IndexByte ⟨#[34, 92, 98, 102, 110, 114, 116]⟩ ci W)
      have he : ci.toNat.toUInt8 = c := by rw [← hci]; simp
      have hx : (⟨#[34, 92, 98, 102, 110, 114, 116]⟩ : ByteArray).data.toList = [34, 92, 98, 102, 110, 114, 116] := rfl
      rw [hx, he] at hI
      unfold mkOK at hm
      rcases hj : jmark c with _ | m
      · rw [hj] at hm
        rw [of_decide_eq_true hm] at hI
        clear hm hj he hx g5 c47 h
        by_cases c117 : c = 117
        · rw [if_pos c117]
          have e3 : ci = 117 := by rw [← hci, c117]; rfl
          subst e3
          have hU := Lib.hid (jrUnit_any b r it _ hE1.out.env hw1.out)
          have hul := @junit_lt r
          obtain ⟨U, hUe⟩ : ∃ U, junit r = U := ⟨_, rfl⟩
          obtain ⟨R, hR⟩ : ∃ R, jescU r = R := ⟨_, rfl⟩
          rw [hR]
          unfold jescU at hR
          rw [hUe] at hU hul hR
          clear hci c117
          replace hR := Lib.hid hR
          go_enter Tryz.func133, Tryz.ntmps133
          go_wp2_with fail
          refine (hI.out _).mono ?_
          rintro e w1 ⟨rfl, rfl⟩
          clear hI
          go_wp2_with fail
          refine hU.out.mono ?_
          rintro e w2 ⟨hB2, hx⟩
          clear hU
          rcases U with _ | ⟨a, r1⟩
          · dsimp only at hx
            subst hx
            have e4 : R = none := hR.out.symm
            subst e4
            exact ⟨rfl, (But.set0 _).trans (hB2.mono (by simp)), rfl⟩
          · dsimp only at hx
            obtain ⟨rfl, hR2⟩ := hx
            have ha := (hul rfl).2
            replace hR := Lib.hid (show (if rput (a : Int) ≠ [] then some (rput (a : Int), r1) else _) = R from hR.out)
            have hE2 := Lib.hid (hE1.out.but hB2)
            have hB2' := Lib.hid (show But w.heap.size b w w2 from (But.set0 _).trans (hB2.mono (by simp)))
            clear hB2 hE1 hw1 hul p0 f0 g3 g4 g6 hS1
            replace hR2 := Lib.hid hR2
            go_wp2_with fail
            refine (utfPut_any a (by omega) (by omega) w2).mono ?_
            rintro e w3 ⟨rfl, rfl⟩
            obtain ⟨P, hP⟩ : ∃ P, rput (a : Int) = P := ⟨_, rfl⟩
            rw [hP] at hR ⊢
            by_cases hP0 : P = []
            · subst hP0
              have hR' := hR.out
              rw [if_neg (by simp)] at hR'
              have hM := jrMust_any b r1 it ⟨#[92, 117]⟩ w3 hR2.out
              have hx2 : (⟨#[92, 117]⟩ : ByteArray).data.toList = [92, 117] := rfl
              rw [hx2] at hM
              have hem : (ofL []).toList.isEmpty = true := by rw [Lib.toList_data, toList_ofL]; rfl
              by_cases hpre : ([92, 117] : List UInt8).isPrefixOf r1 = true
              · obtain ⟨r2, rfl⟩ : ∃ r2, r1 = 92 :: 117 :: r2 := by
                  obtain ⟨t, ht⟩ := List.isPrefixOf_iff_prefix.1 hpre
                  exact ⟨t, ht.symm⟩
                have hR'' : (match junit r2 with | none => none | some (b, r3) => match jpair a b with | none => none | some p => some (rput (p : Int), r3)) = R := hR'
                simp only [hpre, if_true, List.length_cons, List.length_nil, List.drop_succ_cons, List.drop_zero] at hM
                have hul2 := @junit_lt r2
                obtain ⟨V, hVe⟩ : ∃ V, junit r2 = V := ⟨_, rfl⟩
                have hU2 := fun (W : World) (hE : EnvB b W) (hW : RJ W b r2 it) => jrUnit_any b r2 it W hE.env hW
                rw [hVe] at hR'' hul2
                rw [hVe] at hU2
                replace hM := Lib.hid hM
                replace hU2 := Lib.hid hU2
                replace hR := Lib.hid hR''
                clear hP hR' hR'' hpre hVe hx2
                go_wp2_with fail
                refine hM.out.mono ?_
                rintro e w4 ⟨hB4, rfl, hR4⟩
                have hE4 := hE2.out.but hB4
                have hB4' := Lib.hid (hB2'.out.trans (hB4.mono hB2'.out.size))
                have hu2 := Lib.hid (hU2.out w4 hE4 hR4)
                clear hM hB4 hR4 hU2 hE2 hB2' hR2
                go_wp2_with fail
                refine hu2.out.mono ?_
                rintro e w5 ⟨hB5, hx⟩
                have hB5' := Lib.hid (hB4'.out.trans (hB5.mono hB4'.out.size))
                clear hu2 hB5 hB4' hE4
                rcases V with _ | ⟨d, r3⟩
                · dsimp only at hx
                  subst hx
                  have e4 : R = none := hR.out.symm
                  subst e4
                  exact ⟨rfl, hB5'.out, rfl⟩
                · dsimp only at hx
                  obtain ⟨rfl, hR5⟩ := hx
                  have hd := (hul2 rfl).2
                  replace hR5 := Lib.hid hR5
                  have hpr := utfPair_any a d ha hd w5
                  have hR6 : (match jpair a d with | none => none | some p => some (rput p, r3)) = R := hR.out
                  unfold pairV at hpr
                  rcases hjp : jpair a d with _ | p
                  · rw [hjp] at hpr hR6
                    dsimp only at hpr hR6
                    subst hR6
                    replace hpr := Lib.hid hpr
                    clear hR hul2 hjp
                    go_wp2_with fail
                    refine hpr.out.mono ?_
                    rintro e w6 ⟨rfl, rfl⟩
                    clear hpr
                    go_wp2_with fail
                    refine (jrFail_any 4 _).mono ?_
                    rintro e w7 ⟨rfl, rfl⟩
                    exact ⟨rfl, hB5'.out, rfl⟩
                  · rw [hjp] at hpr hR6
                    dsimp only at hpr hR6
                    subst hR6
                    have hpl : p < 2000000 := by
                      unfold jpair at hjp
                      split at hjp
                      · injection hjp with hjp; omega
                      · cases hjp
                    replace hpr := Lib.hid hpr
                    have hput := Lib.hid (utfPut_any p (by omega) (by omega) w5)
                    clear hR hul2 hjp
                    go_wp2_with fail
                    refine hpr.out.mono ?_
                    rintro e w6 ⟨rfl, rfl⟩
                    clear hpr
                    go_wp2_with fail
                    refine hput.out.mono ?_
                    rintro e w7 ⟨rfl, rfl⟩
                    clear hput
                    go_wp2_with fail
                    go_ret
                    exact ⟨hB5'.out, rfl, hR5.out⟩
              · simp only [if_neg hpre] at hM
                have e4 : R = none := by
                  rw [← hR']
                  split
                  · exact absurd rfl hpre
                  · rfl
                subst e4
                replace hM := Lib.hid hM
                clear hP hR' hpre hx2 hR
                go_wp2_with fail
                refine hM.out.mono ?_
                rintro e w4 ⟨hB4, rfl⟩
                exact ⟨rfl, hB2'.out.trans (hB4.mono hB2'.out.size), rfl⟩
            · have hR' := hR.out
              rw [if_pos hP0] at hR'
              subst hR'
              have hem : (ofL P).toList.isEmpty = false := by
                rw [Lib.toList_data, toList_ofL]
                cases P with
                | nil => exact absurd rfl hP0
                | cons _ _ => rfl
              clear hP hP0 hR
              go_wp2_with fail
              go_ret
              exact ⟨hB2'.out, rfl, hR2.out⟩
        · rw [if_neg c117]
          have e3 : (ci != 117) = true := by
            rw [← hci]
            have : c.toNat ≠ 117 := fun e => c117 (UInt8.toNat_inj.1 e)
            simpa using (by omega : (c.toNat : Int) ≠ 117)
          clear hE1 hci
          go_enter Tryz.func133, Tryz.ntmps133
          go_wp2_with fail
          refine (hI.out _).mono ?_
          rintro e w1 ⟨rfl, rfl⟩
          clear hI
          go_wp2_with fail
          refine (jrFail_any 4 _).mono ?_
          rintro e w1 ⟨rfl, rfl⟩
          exact ⟨rfl, But.set0 _, rfl⟩
      · rw [hj] at hm
        simp only [Bool.and_eq_true, decide_eq_true_eq] at hm
        obtain ⟨⟨m0, m1⟩, m2⟩ := hm
        obtain ⟨k, hk⟩ := Int.eq_ofNat_of_zero_le m0
        rw [hk] at hI m1 m2
        have hk7 : k < 7 := by omega
        have hext := mk_ext ⟨k, hk7⟩
        simp only [Int.toNat_natCast] at m2
        dsimp only at hext
        rw [m2] at hext
        have k0 : (0 : Int) ≤ (k : Int) := by omega
        have k1 : (k : Int) < 7 := m1
        clear m0 m1 m2 hk hj he hx hci g5 c47 h hE1 hk7
        go_enter Tryz.func133, Tryz.ntmps133
        go_wp2_with fail
        refine (hI.out _).mono ?_
        rintro e w1 ⟨rfl, rfl⟩
        clear hI
        go_wp2_with fail
        go_ret
        exact ⟨But.set0 _, rfl, hw1.out⟩
end Go.Proofs.YtlnkjacbdolhnaaGreatDoor


/-
  The walk of the JSON reader's text.
-/
namespace Go.Proofs.YtlnkjacbdolhnaaGreatDoor
open Go.RowKit

theorem pair_ge {a b p : Nat} (h : jpair a b = some p) : 65536 ≤ p ∧ p ≤ 1114111 := by
  unfold jpair at h
  split at h
  · injection h with h; omega
  · cases h
theorem rput_four {p : Nat} (h : 65536 ≤ p) (h1 : p ≤ 1114111) : rput (p : Int) ≠ [] := by
  rw [rput_pos (by omega)]
  rcases rputN_cases ((p : Int).toNat) with ⟨e, q⟩ | ⟨e, q⟩ | ⟨e, q⟩ | ⟨e, q⟩ | ⟨e, q⟩
  · omega
  all_goals (rw [e]; simp)
theorem jescape_ne {s t r : List UInt8} (h : jescape s = some (t, r)) : t ≠ [] := by
  unfold jescape at h
  split at h
  · cases h
  · split at h
    · injection h with h; injection h with h1 h2; subst h1; simp
    · split at h
      · unfold jescU at h
        split at h
        · cases h
        · split at h
          · rename_i hp
            injection h with h; injection h with h1 h2; subst h1; exact hp
          · split at h
            · split at h
              · cases h
              · split at h
                · cases h
                · rename_i p hp
                  injection h with h; injection h with h1 h2; subst h1
                  exact rput_four (pair_ge hp).1 (pair_ge hp).2
            · cases h
      · cases h
/-- How much is left. -/
def lenAt (w : World) (b : Nat) : Nat := match w.cell? ⟨b, 0, none⟩ with
  | some (.string S) => S.size
  | _ => 0
theorem lenAt_of {w : World} {b it : Nat} {s : List UInt8} (h : RJ w b s it) : lenAt w b = s.length := by
  have : w.cell? ⟨b, 0, none⟩ = some (.string (ofL s)) := Cel.cell h 0
  unfold lenAt
  rw [this]
  exact size_ofL s
/-- A String, from its first quote on. -/
def jtxt (s : List UInt8) : Option (List UInt8 × List UInt8) := match s with
  | 34 :: r => jStr Lib.validD [] r
  | _ => none
theorem jtxt_no {s : List UInt8} (h : ¬ ([34] : List UInt8).isPrefixOf s = true) : jtxt s = none := by
  unfold jtxt
  split
  · exact absurd rfl h
  · rfl
theorem pre_cons {c : UInt8} {s : List UInt8} (h : ([c] : List UInt8).isPrefixOf s = true) : ∃ r, s = c :: r := by
  obtain ⟨t, ht⟩ := List.isPrefixOf_iff_prefix.1 h
  exact ⟨t, ht.symm⟩
theorem EnvB.bel {b B : Nat} {w w' : World} (h : EnvB b w) (hb : Below B w w') (hlt : b < B) : EnvB b w' := by
  obtain ⟨W0, h1, h2, h3⟩ := h
  exact ⟨W0, h1, h2, h3.trans (hb.mono (by omega))⟩
/-- What a round of text knows. -/
def TxtI (b it B bb : Nat) (w : World) (R : Option (List UInt8 × List UInt8)) (wr : World) : Prop :=
  ∃ acc s' : List UInt8, OB B wr bb acc ∧ RJ wr b s' it ∧ But B b w wr ∧ EnvB b wr ∧ jStr Lib.validD acc s' = R ∧ acc.length + s'.length ≤ 1000000
set_option maxRecDepth 100000 in
set_option maxHeartbeats 4000000 in
theorem jrText_any (b : Nat) (s : List UInt8) (it : Nat) (w : World) (hE : EnvB b w) (h : RJ w b s it) (hs : s.length ≤ 1000000) :
    Calls Tryz.prog 86 #[.pointer (some ⟨b, 0, none⟩)] w (EscEnd b it w (jtxt s)) := by
  have hM := jrMust_any b s it ⟨#[34]⟩ w h
  have hx2 : (⟨#[34]⟩ : ByteArray).data.toList = [34] := rfl
  rw [hx2] at hM
  have hlt := h.lt
  by_cases hpre : ([34] : List UInt8).isPrefixOf s = true
  · obtain ⟨r, rfl⟩ := pre_cons hpre
    have e1 : jtxt (34 :: r) = jStr Lib.validD [] r := rfl
    rw [e1]
    obtain ⟨R, hR⟩ : ∃ R, jStr Lib.validD [] r = R := ⟨_, rfl⟩
    rw [hR]
    simp only [hpre, if_true, List.length_cons, List.length_nil, List.drop_succ_cons, List.drop_zero] at hM
    replace hM := Lib.hid hM
    replace hR := Lib.hid hR
    clear h hpre hx2 e1
    go_enter Tryz.func86, Tryz.ntmps86
    go_wp2_with fail
    refine hM.out.mono ?_
    rintro e w1 ⟨hB1, rfl, hR1⟩
    have hE1 := hE.but hB1
    have hsz := hB1.size
    have hlen : r.length ≤ 1000000 := by simp at hs; omega
    have hI0 : TxtI b it w.heap.size w1.heap.size w R (w1.alloc (.cells #[.pointer none, .slice none 0 0] 93)) :=
      ⟨[], r, OB.made hsz, hR1.below ((Below.refl _ _).alloc (Nat.le_refl _) _), hB1.trans (But.of (((Below.refl w1.heap.size w1).alloc (Nat.le_refl _) _).mono hsz)), hE1.below ((Below.refl _ _).alloc (Nat.le_refl _) _), hR.out, by simpa using hlen⟩
    obtain ⟨bb, hbb⟩ : ∃ bb, w1.heap.size = bb := ⟨_, rfl⟩
    clear hM hE hB1 hR1 hE1 hR hlen hs
    rw [hbb] at hI0 hsz
    replace hI0 := Lib.hid hI0
    go_wp2_with fail
    clear hbb
    go_loopw [4] (fun i wr => TxtI b it w.heap.size bb w R wr) (fun _ wr => lenAt wr b)
    case atStart => exact hI0.out
    case round =>
      obtain ⟨acc, s', hO, hRj, hB, hE, hS, hln⟩ := hrel
      have p0 : wr.cell? ⟨b, 0, none⟩ = some (.string (ofL s')) := Cel.cell hRj 0
      have f0 := Cel.froz hRj 0
      have hm := lenAt_of hRj
      clear hI0
      rcases s' with _ | ⟨c, r'⟩
      · rw [jStr_nil] at hS
        subst hS
        have e2 : ofL [] = ByteArray.empty := rfl
        rw [e2] at p0
        replace hB := Lib.hid hB
        clear hO hRj hE hm
        go_wp2_with fail
        refine (jrFail_any 4 _).mono ?_
        rintro e w2 ⟨rfl, rfl⟩
        exact ⟨rfl, hB.out, rfl⟩
      · obtain ⟨g1, g2, g3, g4⟩ := head_facts c r'
        obtain ⟨S, hSS⟩ : ∃ S, ofL (c :: r') = S := ⟨_, rfl⟩
        obtain ⟨S1, hS1⟩ : ∃ S1, ofL r' = S1 := ⟨_, rfl⟩
        rw [hSS] at p0 g1 g2 g3 g4
        rw [hS1] at g3
        have g5 := g2 g1
        have hbd := c.toNat_lt
        obtain ⟨ci, hci⟩ : ∃ ci : Int, (c.toNat : Int) = ci := ⟨_, rfl⟩
        have g6 : (S[0].toNat : Int) = ci := by rw [g5]; exact hci
        have hzz : (1 : Int) ≤ (S.size : Int) := by omega
        have hw2 : RJ (wr.setCell ⟨b, 0, none⟩ (.string S1)) b r' it := by rw [← hS1]; exact hRj.set
        have hE2 : EnvB b (wr.setCell ⟨b, 0, none⟩ (.string S1)) := hE.but (But.set0 _)
        have hO2 : OB w.heap.size (wr.setCell ⟨b, 0, none⟩ (.string S1)) bb acc := hO.but (But.set0 _) hlt
        have hB2 : But w.heap.size b w (wr.setCell ⟨b, 0, none⟩ (.string S1)) := hB.set 0 _
        by_cases c32 : c.toNat < 32
        · rw [jStr_low _ _ _ c32] at hS
          subst hS
          have e3 : ci < 32 := by omega
          replace hB := Lib.hid hB
          clear hO hRj hE hm hw2 hE2 hO2 hB2 hci g5 hS1 g2 hSS c32
          go_wp2_with fail
          refine (jrFail_any 4 _).mono ?_
          rintro e w2 ⟨rfl, rfl⟩
          exact ⟨rfl, hB.out, rfl⟩
        have e32 : ¬ ci < 32 := by omega
        have hw2z : (wr.setCell ⟨b, 0, none⟩ (.string S1)).heap.size = wr.heap.size := by simp
        clear hO hRj hE hB g2 hSS hS1 g5
        replace hw2 := Lib.hid hw2
        replace hE2 := Lib.hid hE2
        replace hO2 := Lib.hid hO2
        replace hB2 := Lib.hid hB2
        by_cases c34 : c = 34
        · subst c34
          have e2 : ci = 34 := hci.symm
          subst e2
          rw [jStr_quote] at hS
          have hst := Lib.hid (bsString_any w.heap.size bb acc _ hO2.out.bs (by omega))
          obtain ⟨V, hV⟩ : ∃ V, Lib.validD acc = V := ⟨_, rfl⟩
          rw [hV] at hS
          replace hV := Lib.hid hV
          replace hS := Lib.hid hS
          clear hm hci
          go_wp2_with fail
          refine hst.out.mono ?_
          rintro e w3 ⟨rfl, hbs3, hb3⟩
          have hR3 := hw2.out.bel hb3 hlt
          have hB3 := hB2.out.trans (But.of hb3)
          have hE3 := hE2.out.bel hb3 hlt
          have hv := utfValid_any (ofL acc) w3 hE3.env.1 (by rw [size_ofL]; omega)
          rw [toList_ofL, hV.out] at hv
          have hsz3 := hB3.size
          clear hst hw2 hB2 hE2 hO2 hb3 hE3 hV
          replace hv := Lib.hid hv
          replace hR3 := Lib.hid hR3
          replace hB3 := Lib.hid hB3
          replace hbs3 := Lib.hid hbs3
          go_wp2_with fail
          refine hv.out.mono ?_
          rintro e w4 ⟨rfl, hb4⟩
          have hR4 := Lib.hid (hR3.out.below hb4)
          have hB4 := Lib.hid (hB3.out.trans (But.of (hb4.mono hsz3)))
          have hbs4 := Lib.hid (hbs3.out.bel hb4)
          clear hv hR3 hB3 hbs3 hb4
          cases V
          · have hS' := hS.out
            rw [if_neg (by decide)] at hS'
            subst hS'
            go_wp2_with fail
            refine (jrFail_any 4 _).mono ?_
            rintro e w5 ⟨rfl, rfl⟩
            exact ⟨rfl, hB4.out, rfl⟩
          · have hS' := hS.out
            rw [if_pos rfl] at hS'
            subst hS'
            have hst2 := Lib.hid (bsString_any w.heap.size bb acc _ hbs4.out (by omega))
            go_wp2_with fail
            refine hst2.out.mono ?_
            rintro e w5 ⟨rfl, _, hb5⟩
            have hR5 := Lib.hid (hR4.out.bel hb5 hlt)
            have hB5 := Lib.hid (hB4.out.trans (But.of hb5))
            clear hst2 hR4 hB4 hbs4 hb5
            go_wp2_with fail
            go_ret
            exact ⟨hB5.out, rfl, hR5.out⟩
        have n34 : (ci == 34) = false := by
          rw [← hci]
          have : c.toNat ≠ 34 := fun e => c34 (UInt8.toNat_inj.1 e)
          simpa using (by omega : (c.toNat : Int) ≠ 34)
        by_cases c92 : c = 92
        · subst c92
          have e2 : ci = 92 := hci.symm
          subst e2
          rw [jStr_esc] at hS
          have hEsc := jrEscape_any b r' it _ hE2.out hw2.out
          have hel := @jescape_lt r'
          have hen := @jescape_ne r'
          obtain ⟨X, hX⟩ : ∃ X, jescape r' = X := ⟨_, rfl⟩
          rw [hX] at hEsc hel hen hS
          replace hEsc := Lib.hid hEsc
          clear hX hci
          go_wp2_with fail
          refine hEsc.out.mono ?_
          rintro e w3 ⟨hB3, hx⟩
          have hB3' := hB2.out.trans (hB3.mono hB2.out.size)
          have hO3 := hO2.out.but hB3 hlt
          have hE3 := hE2.out.but hB3
          clear hEsc hO2 hE2 hw2 hB2
          rcases X with _ | ⟨t, r2⟩
          · dsimp only at hx hS
            subst hx
            subst hS
            exact ⟨rfl, hB3', rfl⟩
          · dsimp only at hx hS
            obtain ⟨rfl, hR3⟩ := hx
            obtain ⟨hl1, hl2⟩ := hel rfl
            have hne := hen rfl
            have hws := wStr_any bb acc (ofL t) w3 hO3.1 (by rw [size_ofL]; simp at hln; omega)
            rw [toList_ofL] at hws
            replace hws := Lib.hid hws
            clear hB3 hel hen
            replace hB3' := Lib.hid hB3'
            replace hO3 := Lib.hid hO3
            replace hE3 := Lib.hid hE3
            replace hR3 := Lib.hid hR3
            go_wp2_with fail
            refine hws.out.mono ?_
            rintro e w4 ⟨rfl, hW4⟩
            obtain ⟨hO4, hb4⟩ := hO3.out.wr hW4 (by simp [hne])
            have hI4 : TxtI b it w.heap.size bb w R w4 := ⟨acc ++ t, r2, hO4, hR3.out.bel hb4 hlt, hB3'.out.trans (But.of hb4), hE3.out.bel hb4 hlt, hS, by rw [List.length_append]; simp at hln; omega⟩
            have hm4 : lenAt w4 b < lenAt wr b := by rw [lenAt_of (hR3.out.bel hb4 hlt), hm]; simp; omega
            clear hws hB3' hO3 hE3 hR3 hW4 hO4 hb4 hS hm
            replace hI4 := Lib.hid hI4
            replace hm4 := Lib.hid hm4
            go_wp2_with fail
            go_roundw
            case rel => exact hI4.out
            case measure => exact hm4.out
        · have n92 : (ci == 92) = false := by
            rw [← hci]
            have : c.toNat ≠ 92 := fun e => c92 (UInt8.toNat_inj.1 e)
            simpa using (by omega : (c.toNat : Int) ≠ 92)
          rw [jStr_else _ _ _ c34 c92 c32] at hS
          have hws := Lib.hid (wByte_any bb acc c ci hci.symm _ hO2.out.1 (by simp at hln; omega))
          clear hci
          go_wp2_with fail
          refine hws.out.mono ?_
          rintro e w4 ⟨rfl, hW4⟩
          obtain ⟨hO4, hb4⟩ := hO2.out.wr hW4 (by simp)
          have hI4 : TxtI b it w.heap.size bb w R w4 := ⟨acc ++ [c], r', hO4, hw2.out.bel hb4 hlt, hB2.out.trans (But.of hb4), hE2.out.bel hb4 hlt, hS, by rw [List.length_append]; simp at hln ⊢; omega⟩
          have hm4 : lenAt w4 b < lenAt wr b := by rw [lenAt_of (hw2.out.bel hb4 hlt), hm]; simp
          clear hws hB2 hO2 hE2 hw2 hW4 hO4 hb4 hS hm
          replace hI4 := Lib.hid hI4
          replace hm4 := Lib.hid hm4
          go_wp2_with fail
          go_roundw
          case rel => exact hI4.out
          case measure => exact hm4.out
  · rw [jtxt_no hpre]
    simp only [if_neg hpre] at hM
    replace hM := Lib.hid hM
    clear h hpre hx2 hE
    go_enter Tryz.func86, Tryz.ntmps86
    go_wp2_with fail
    refine hM.out.mono ?_
    rintro e w4 ⟨hB4, rfl⟩
    exact ⟨rfl, hB4, rfl⟩
end Go.Proofs.YtlnkjacbdolhnaaGreatDoor
