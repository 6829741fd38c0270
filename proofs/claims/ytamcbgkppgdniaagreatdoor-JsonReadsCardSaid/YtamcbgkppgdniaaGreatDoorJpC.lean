/-
  The walks of the JSON reader's unit and escape.
-/
import Derived.Test.YtamcbgkppgdniaaGreatDoorJpB
import Derived.Test.YtamcbgkppgdniaaGreatDoorJpS
import Derived.Test.YtamcbgkppgdniaaGreatDoorJrC
import Derived.Shelf.Strings.CaseAny
namespace Go.Proofs.YtamcbgkppgdniaaGreatDoor
open Go.RowKit

/-- What reading asks of memory: the tables of numbers, of utf8, of cases. -/
def EnvC (w : World) : Prop := EnvU w ∧ Lib.CaseVar 6 Lib.caseA w
theorem EnvC.below {w w' : World} (h : EnvC w) (hb : Below w.heap.size w w') : EnvC w' := ⟨h.1.below hb, Lib.CaseVar_below h.2 hb⟩
theorem EnvC.at {w w' : World} {B : Nat} (h : EnvC w) (hB : w.heap.size ≤ B) (hb : Below B w w') : EnvC w' := h.below (hb.mono hB)
theorem size_ofL (s : List UInt8) : (ofL s).size = s.length := by simp [ofL, ByteArray.size]
theorem of_bytes {a : ByteArray} {l : List UInt8} (h : a.data.toList = l) : a = ofL l := by subst h; exact (ofL_toList a).symm
theorem jxt_take (s : List UInt8) (k : Nat) : (ofL s).extract 0 k = ofL (s.take k) := of_bytes (by rw [Lib.extract_data, toList_ofL]; simp)
theorem jxt_drop (s : List UInt8) (k : Nat) : (ofL s).extract k (ofL s).size = ofL (s.drop k) := of_bytes (by rw [Lib.extract_to_end, toList_ofL])
/-- A string's bytes in new memory. -/
theorem conv_bytes (W : World) (s : ByteArray) : ∃ (c : Nat) (W' : World), (convert 9 127 (.string s)).run Tryz.prog W = .ok (.slice (some ⟨W.heap.size, 0, none⟩) s.size c) W' ∧ s.size ≤ c ∧ (∀ (j : Nat) (x : UInt8), s.data.toList[j]? = some x → W'.cell? ⟨W.heap.size, j, none⟩ = some (.int .u8 x.toNat)) ∧ Below W.heap.size W W' :=
  ⟨grownCap W s.size 0 5, Lib.bytesWorld W 5 s, Lib.run_convert_string_bytes (P := Tryz.prog) W 9 127 5 s Tryz.underlying9 Tryz.underlying127 Tryz.underlying5, grownCap_ge _ _ _ _, fun j x hx => by
    have hj : j < s.size := by
      have := (List.getElem?_eq_some_iff.1 hx).1
      rwa [bytes_len] at this
    rw [Lib.bytesWorld_cell W _ s j hj]
    simp [List.getD, hx], Lib.bytesWorld_below _ _ _⟩
def UnitEnd (b it : Nat) (w : World) (R : Option (Nat × List UInt8)) (e : Ending) (w' : World) : Prop := But w.heap.size b w w' ∧ (match R with | none => e = Pan 4 | some (n, r) => e = .returned (.int .i64 (n : Int)) ∧ RJ w' b r it)
set_option maxRecDepth 100000 in
set_option maxHeartbeats 4000000 in
theorem jrUnit_any (b : Nat) (s : List UInt8) (it : Nat) (w : World) (hE : EnvC w) (h : RJ w b s it) :
    Calls Tryz.prog 195 #[.pointer (some ⟨b, 0, none⟩)] w (UnitEnd b it w (junit s)) := by
  have p0 := Cel.cell h 0
  simp only [List.getElem?_toArray, List.getElem?_cons_zero] at p0
  have hlt := h.lt
  by_cases hs : s.length < 4
  · rw [junit_short hs]
    obtain ⟨S, hS⟩ : ∃ S, ofL s = S := ⟨_, rfl⟩
    have hz : S.size < 4 := by rw [← hS, size_ofL]; exact hs
    have hzi : (S.size : Int) < 4 := by omega
    rw [hS] at p0
    clear hS hs hE h hz
    go_enter Tryz.func195, Tryz.ntmps195
    go_wp2_with fail
    refine (jrFail_any 4 _).mono ?_
    rintro e w1 ⟨rfl, rfl⟩
    exact ⟨rfl, But.refl _ _ _, rfl⟩
  · rw [junit_lower (by omega)]
    have hT := Tryz.strings_ToLower_any (ofL (s.take 4)) w (by rw [size_ofL]; simp; omega) hE.2 hE.1.2
    rw [toList_ofL] at hT
    obtain ⟨L, hL⟩ : ∃ L, Lib.toLowerD (s.take 4) = L := ⟨_, rfl⟩
    have hlen : (∀ c ∈ L, (jhl c).isSome = true) → L.length = 4 := by
      intro hh
      rw [← hL] at hh ⊢
      rw [lower_len hh]; simp; omega
    rw [hL] at hT ⊢
    obtain ⟨R, hR0⟩ : ∃ R, hexL 0 L = R := ⟨_, rfl⟩
    rw [hR0]
    replace hR0 := Lib.hid hR0
    have hLb : L.length ≤ 16 := by rw [← hL]; have := lower_le (s.take 4); simp at this; omega
    obtain ⟨SL, hSL⟩ : ∃ SL : ByteArray, ⟨L.toArray⟩ = SL := ⟨_, rfl⟩
    have hSLl : SL.data.toList = L := by rw [← hSL]
    have hSLz : SL.size = L.length := by rw [← hSL]; simp [ByteArray.size]
    rw [hSL] at hT
    have hx4 := jxt_take s 4
    have hx5 := jxt_drop s 4
    have hz : ¬ (ofL s).size < 4 := by rw [size_ofL]; exact hs
    obtain ⟨S, hS⟩ : ∃ S, ofL s = S := ⟨_, rfl⟩
    obtain ⟨S4, hS4⟩ : ∃ S4, ofL (s.take 4) = S4 := ⟨_, rfl⟩
    obtain ⟨S5, hS5⟩ : ∃ S5, ofL (s.drop 4) = S5 := ⟨_, rfl⟩
    rw [hS, hS4] at hx4
    rw [hS, hS5] at hx5
    rw [hS] at p0 hz
    rw [hS4] at hT
    have hzi : ¬ (S.size : Int) < 4 := by omega
    have hzj : (4 : Int) ≤ (S.size : Int) := by omega
    replace hS5 := Lib.hid hS5
    replace hS := Lib.hid hS
    replace hT := Lib.hid hT
    replace h := Lib.hid h
    replace hlen := Lib.hid hlen
    clear hs hE hL hSL hS4
    go_enter Tryz.func195, Tryz.ntmps195
    go_wp2_with fail
    refine hT.out.mono ?_
    rintro e w1 ⟨rfl, hb⟩
    obtain ⟨cc, W, hrun, hcc, hcell, hbW⟩ := conv_bytes w1 SL
    have hB : Below w.heap.size w W := hb.trans (hbW.mono hb.size)
    have hR := h.out.below hB
    have q0 := Cel.cell hR 0
    have f0 := Cel.froz hR 0
    simp only [List.getElem?_toArray, List.getElem?_cons_zero] at q0
    rw [hSLl] at hcell
    rw [hS.out] at q0
    clear hT p0 hb hbW h hSLl hlt
    replace hB := Lib.hid hB
    replace hR := Lib.hid hR
    replace hcell := Lib.hid hcell
    go_wp2_with fail
    go_loopw [3, 22] (fun n i wr => ∃ (q : Nat) (v : Int), q ≤ L.length ∧ n = .int .i64 v ∧ i = .int .i64 q ∧ HexAt L q v ∧ wr = W) (fun _ i _ => L.length - (intOf i).toNat)
    case atStart => exact ⟨0, 0, Nat.zero_le _, rfl, rfl, HexAt.start L, rfl⟩
    case round =>
      obtain ⟨q, v, hq, rfl, rfl, hAt, rfl⟩ := hrel
      by_cases hlt : q < L.length
      · have hc := hcell.out q L[q] (List.getElem?_eq_getElem hlt)
        have hbd := L[q].toNat_lt
        have hix := hex_ix ⟨L[q].toNat, hbd⟩
        rw [UInt8.ofNat_toNat] at hix
        obtain ⟨c, hcc2⟩ : ∃ c : Int, (L[q].toNat : Int) = c := ⟨_, rfl⟩
        have hI := Tryz.strings_IndexByte ⟨#[48, 49, 50, 51, 52, 53, 54, 55, 56, 57, 97, 98, 99, 100, 101, 102]⟩ c wr
        have he : c.toNat.toUInt8 = L[q] := by rw [← hcc2]; simp
        have hx : (⟨#[48, 49, 50, 51, 52, 53, 54, 55, 56, 57, 97, 98, 99, 100, 101, 102]⟩ : ByteArray).data.toList = [48, 49, 50, 51, 52, 53, 54, 55, 56, 57, 97, 98, 99, 100, 101, 102] := rfl
        rw [hx, he, hix] at hI
        rw [hcc2] at hc
        have hq0 : (0 : Int) ≤ (q : Int) := by omega
        have hq1 : (q : Int) < (L.length : Int) := by omega
        have hq2 : (q : Int) < (SL.size : Int) := by omega
        rcases hj : jhl L[q] with _ | k
        · rw [hj] at hI
          have hnone : hexL 0 L = none := by
            cases hh : hexL 0 L with
            | none => rfl
            | some m => have := hexL_take L 0 m hh L[q] (List.getElem_mem hlt); rw [hj] at this; cases this
          rw [hR0.out] at hnone
          subst hnone
          dsimp only at hI
          clear hj hx hix hcell hAt hlen hS5 hx5 hR0 he hcc2 hbd
          replace hI := Lib.hid hI
          go_wp2_with fail
          refine hI.out.mono ?_
          rintro e w2 ⟨rfl, rfl⟩
          clear hI
          go_wp2_with fail
          refine (jrFail_any 4 _).mono ?_
          rintro e w3 ⟨rfl, rfl⟩
          exact ⟨rfl, But.of hB.out, rfl⟩
        · rw [hj] at hI
          dsimp only at hI
          have hk := jhl_lt hj
          have hstep : ∀ v', (q < 4 → 0 ≤ v → v < 65536 → v' = v * 16 + (k : Int)) → HexAt L (q + 1) v' := fun v' h => hAt.step hlt hj h
          obtain ⟨kk, hkk⟩ : ∃ kk : Int, (k : Int) = kk := ⟨_, rfl⟩
          rw [hkk] at hI hstep
          have hk0 : ¬ kk < 0 := by omega
          have hk1 : kk < 16 := by omega
          clear hj hx hix hAt hlen hS5 hx5 hR0 he hcc2 hbd hkk hk
          replace hI := Lib.hid hI
          replace hstep := Lib.hid hstep
          go_wp2_with fail
          refine hI.out.mono ?_
          rintro e w2 ⟨rfl, rfl⟩
          clear hI
          go_wp2_with fail
          go_roundw
          case rel => exact ⟨q + 1, _, by omega, rfl, by go_num, hstep.out _ (fun h1 h2 h3 => by
            have e1 : wrap64 (v * 16) = v * 16 := by unfold wrap64; omega
            rw [e1]
            unfold wrap64; omega), by first | rfl | trivial⟩
          case measure => simp [intOf]; omega
      · have hfull : ∀ c ∈ L, (jhl c).isSome = true := fun c hc => hAt.1 c (by rw [List.take_of_length_le (by omega)]; exact hc)
        have h4 := hlen.out hfull
        obtain ⟨n, hn1, hn2, _⟩ := hAt.2 (by omega)
        rw [hR0.out, List.drop_eq_nil_of_le (by omega)] at hn2
        have hn3 : R = some n := hn2
        subst hn3
        subst hn1
        clear hfull h4 hn2 hAt hlen hR0 hcell
        go_wp2_with fail
        go_ret
        refine ⟨(But.of hB.out).trans (But.set0 _ |>.mono hB.out.size), ?_⟩
        show _ ∧ _
        refine ⟨rfl, ?_⟩
        rw [← hS5.out]
        exact hR.out.set
end Go.Proofs.YtamcbgkppgdniaaGreatDoor
