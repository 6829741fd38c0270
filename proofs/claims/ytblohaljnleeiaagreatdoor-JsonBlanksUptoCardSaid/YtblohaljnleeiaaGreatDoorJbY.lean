/-
  The walk of rostrumlaw05.JsonBlanks: the law answers true.
-/
import Derived.Test.YtblohaljnleeiaaGreatDoorJbB
import Derived.Test.YtblohaljnleeiaaGreatDoorJbX
namespace Go.Proofs.YtblohaljnleeiaaGreatDoor
open Go.RowKit

/-- The picks that come in. -/
def U8r (a : Option Addr) (xs : List Int) (W : World) : Prop :=
  (∀ x, x ∈ xs → 0 ≤ x ∧ x ≤ 255) ∧ (0 < xs.length → ∃ b o, a = some ⟨b, o, none⟩ ∧ b < W.heap.size ∧ ∀ i, i < xs.length → W.cell? ⟨b, o + i, none⟩ = some (.int .u8 (xs.getD i 0)))
theorem U8r.below {a : Option Addr} {xs : List Int} {W W' : World} (h : U8r a xs W) (hB : Below W.heap.size W W') : U8r a xs W' := by
  refine ⟨h.1, fun h0 => ?_⟩
  obtain ⟨b, o, ha, hb, hc⟩ := h.2 h0
  exact ⟨b, o, ha, Nat.lt_of_lt_of_le hb hB.size, fun i hi => (hB.cell (p := ⟨b, o + i, none⟩) hb).trans (hc i hi)⟩
/-- One blank: where it is read, and what is read. -/
theorem pick_at {a : Option Addr} {P : List Int} {W : World} {g : Nat} (h : U8r a P W) (hg : Cel W g 9 (bs5.map Value.string).toArray) (h0 : P ≠ []) (m : Nat) :
    ∃ b o q r : Nat, ∃ (x : Int) (B : ByteArray), a = some ⟨b, o, none⟩ ∧ (m : Int).tmod (P.length : Int) = (q : Int) ∧ (q : Int) < (P.length : Int) ∧ (0 : Int) ≤ (q : Int) ∧ W.cell? ⟨b, o + q, none⟩ = some (.int .u8 x) ∧ 0 ≤ x ∧ x ≤ 255 ∧ x.tmod 5 = (r : Int) ∧ (r : Int) < 5 ∧ (0 : Int) ≤ (r : Int) ∧ W.cell? ⟨g, r, none⟩ = some (.string B) ∧ B.data.toList = blP P m ∧ B.size ≤ 2 := by
  have hp : 0 < P.length := List.length_pos_iff.2 h0
  obtain ⟨b, o, ha, hb, hc⟩ := h.2 hp
  have hq : m % P.length < P.length := Nat.mod_lt _ hp
  have hx : 0 ≤ P.getD (m % P.length) 0 ∧ P.getD (m % P.length) 0 ≤ 255 := by
    rw [List.getD_eq_getElem?_getD, List.getElem?_eq_getElem hq]
    exact h.1 _ (List.getElem_mem hq)
  obtain ⟨x, hxe⟩ : ∃ x, P.getD (m % P.length) 0 = x := ⟨_, rfl⟩
  rw [hxe] at hx
  have hr : (x % 5).toNat < 5 := by omega
  refine ⟨b, o, m % P.length, (x % 5).toNat, x, bkA x, ha, by rw [Int.tmod_eq_emod_of_nonneg (by omega)]; omega, by omega, by omega, by rw [hc _ hq, hxe], hx.1, hx.2, by rw [Int.tmod_eq_emod_of_nonneg hx.1]; omega, by omega, by omega, ?_, by unfold blP; rw [if_neg h0, hxe], ?_⟩
  · have h5 : (bs5.map Value.string).toArray[(x % 5).toNat]? = some (.string (bkA x)) := by
      rw [List.getElem?_toArray, List.getElem?_map]
      unfold bkA
      rw [List.getD_eq_getElem?_getD, List.getElem?_eq_getElem (show (x % 5).toNat < bs5.length from hr)]
      rfl
    rw [hg.cell]
    exact h5
  · have := (bkA_ok x).2
    rw [Array.length_toList] at this
    exact this
theorem xt1 (S : ByteArray) (k : Nat) (hk : k < S.size) : (S.extract k (k + 1)).data.toList = [S[k]] ∧ (S.extract k (k + 1)).size ≤ 1 ∧ S.data.toList.drop k = S[k] :: S.data.toList.drop (k + 1) := by
  have hl : S.data.toList.length = S.size := by rw [Array.length_toList]; rfl
  have h1 : S.data.toList[k]'(by omega) = S[k] := by rw [Array.getElem_toList]; rfl
  have hd : S.data.toList.drop k = S[k] :: S.data.toList.drop (k + 1) := by rw [← h1]; exact List.drop_eq_getElem_cons (by omega)
  have h2 : (S.extract k (k + 1)).data.toList = [S[k]] := by
    rw [Lib.extract_data, hd]
    simp
  refine ⟨h2, ?_, hd⟩
  have h3 : (S.extract k (k + 1)).data.toList.length = (S.extract k (k + 1)).size := by rw [Array.length_toList]; rfl
  rw [← h3, h2]
  simp
theorem cat_data (a b : ByteArray) : (a ++ b).data.toList = a.data.toList ++ b.data.toList := by rw [ByteArray.data_append, Array.toList_append]
theorem cat_size (a b : ByteArray) : (a ++ b).size = a.size + b.size := ByteArray.size_append
/-- What a round of the law's loop knows. -/
def BlkR (P : List Int) (S : ByteArray) (k m N : Nat) (O : ByteArray) (b : Bool) : Prop := k ≤ S.size ∧ (P ≠ [] → N = m) ∧ (P = [] → N = 0) ∧ m ≤ 2 * k ∧ O.size ≤ 5 * k ∧ O.data.toList ++ jspr (blP P) b m (S.data.toList.drop k) = jspr (blP P) false 0 S.data.toList

set_option maxRecDepth 100000 in
set_option maxHeartbeats 16000000 in
theorem jsonBlanks_any (a : Jsn) (P : List Int) (pa : Option Addr) (pcap : Nat) (X : Nat → Prop) (w : World) (va1 va2 : Value) (hE : EnvC w) (hVa : JV w X a va1 va2) (hPk : U8r pa P w) (hba : jbulk a ≤ 10000000) :
    Calls Tryz.prog 8 #[.agg #[.int .u8 a.kind, .string a.text, va1, va2], .slice pa P.length pcap] w fun e w' => e = .returned (.bool true) ∧ Below w.heap.size w w' := by
  obtain ⟨W0, hW0⟩ : ∃ W0, w.alloc (.cells #[.int .u8 a.kind, .string a.text, va1, va2] 25) = W0 := ⟨_, rfl⟩
  have hB0 : Below w.heap.size w W0 := by rw [← hW0]; exact (Below.refl _ _).alloc (Nat.le_refl _) _
  have hA0 : Cel W0 w.heap.size 25 #[.int .u8 a.kind, .string a.text, va1, va2] := by rw [← hW0]; exact Cel.fresh _ _ _
  have hWk := Lib.hid (fun (W : World) (hB : Below w.heap.size w W) => works_any W (hE.below hB))
  have hwa := Lib.hid (fun (W : World) (hB : Below w.heap.size w W) => weight_any a X W _ _ (hVa.later hB) (by omega))
  have hjb := bulk_jw a
  replace hPk := Lib.hid hPk
  obtain ⟨A1, n1, c1, A2, n2, c2, rfl, rfl⟩ := hVa.forms
  have hZ0 := Lib.hid (And.intro hA0 hB0)
  obtain ⟨p0, p1, p2, p3⟩ := cel4' hA0
  replace hW0 := Lib.hid hW0
  replace hVa := Lib.hid hVa
  replace hE := Lib.hid hE
  clear hA0 hB0
  go_enter Tryz.func8, Tryz.ntmps8
  go_wp2_with fail
  rw [hW0.out]
  clear hW0
  refine (hWk.out _ hZ0.out.2).mono ?_
  rintro e w1 ⟨rfl, hb⟩
  have hZ1 := Lib.hid (And.intro (hZ0.out.1.below hb hZ0.out.1.lt) (hZ0.out.2.trans (hb.mono hZ0.out.2.size)))
  clear p0 p1 p2 p3 hZ0 hb
  obtain ⟨p0, p1, p2, p3⟩ := cel4' hZ1.out.1
  go_wp2_with fail
  refine (hwa.out _ hZ1.out.2).mono ?_
  rintro e w2 ⟨ma, rfl, hm1, hm2, hb⟩
  have hZ2 := Lib.hid (And.intro (hZ1.out.1.below hb hZ1.out.1.lt) (hZ1.out.2.trans (hb.mono hZ1.out.2.size)))
  clear p0 p1 p2 p3 hZ1 hb hwa
  obtain ⟨p0, p1, p2, p3⟩ := cel4' hZ2.out.1
  by_cases ca : 700 ≤ (ma : Int)
  · clear hm1 hm2 hVa hE hPk
    go_wp2_with fail
    refine (hWk.out _ hZ2.out.2).mono ?_
    rintro e w3 ⟨rfl, hb⟩
    have hfin := Lib.hid (hZ2.out.2.trans (hb.mono hZ2.out.2.size))
    clear p0 p1 p2 p3 hZ2 hb
    go_wp2_with fail
    go_ret
    exact ⟨rfl, hfin.out⟩
  have hja : jbulk a ≤ 96000 := by omega
  clear hm1 hm2 hjb
  by_cases cn : 200 < (P.length : Int)
  · clear hVa hE hPk
    go_wp2_with fail
    refine (hWk.out _ hZ2.out.2).mono ?_
    rintro e w3 ⟨rfl, hb⟩
    have hfin := Lib.hid (hZ2.out.2.trans (hb.mono hZ2.out.2.size))
    clear p0 p1 p2 p3 hZ2 hb
    go_wp2_with fail
    go_ret
    exact ⟨rfl, hfin.out⟩
  have hs4 : P.length ≤ 200 := by omega
  have hg := Lib.hid (given_any a X w2 _ _ (hVa.out.later hZ2.out.2) (by omega))
  go_wp2_with fail
  clear cn ca hWk
  refine hg.out.mono ?_
  rintro e w3 ⟨vn, vl, rfl, hO, hb⟩
  obtain ⟨I1, i1, j1, I2, i2, j2, rfl, rfl⟩ := hO.forms
  have hZ3 := Lib.hid (And.intro (hZ2.out.1.below hb hZ2.out.1.lt) (hZ2.out.2.trans (hb.mono hZ2.out.2.size)))
  clear p0 p1 p2 p3 hZ2 hb hg
  obtain ⟨p0, p1, p2, p3⟩ := cel4' hZ3.out.1
  have hP := jsnPrint_any a _ w3 _ _ (hE.out.below hZ3.out.2).1 (OwnJ.jv a hO) (by omega)
  obtain ⟨PS, hPS⟩ : ∃ PS : ByteArray, ⟨(jprint ownL Lib.validD a).1.toArray⟩ = PS := ⟨_, rfl⟩
  obtain ⟨pe, hpe⟩ : ∃ pe, (jprint ownL Lib.validD a).2 = pe := ⟨_, rfl⟩
  rw [hPS, hpe] at hP
  replace hP := Lib.hid hP
  clear hO
  go_wp2_with fail
  refine hP.out.mono ?_
  rintro e w4 ⟨rfl, hb⟩
  have hZ4 := Lib.hid (And.intro (hZ3.out.1.below hb hZ3.out.1.lt) (hZ3.out.2.trans (hb.mono hZ3.out.2.size)))
  clear p0 p1 p2 p3 hZ3 hb hP
  obtain ⟨p0, p1, p2, p3⟩ := cel4' hZ4.out.1
  by_cases hp0 : pe = 0
  rotate_left
  · have hp1 : (pe != 0) = true := by simp [hp0]
    have hfin := Lib.hid hZ4.out.2
    clear hPS hpe hPk hVa hE hZ4 p0 p1 p2 p3
    go_wp2_with fail
    go_ret
    exact ⟨rfl, hfin.out⟩
  subst hp0
  by_cases hbig : 20000 < (PS.size : Int)
  · have hfin := Lib.hid hZ4.out.2
    clear hPS hpe hPk hVa hE hZ4 p0 p1 p2 p3
    go_wp2_with fail
    go_ret
    exact ⟨rfl, hfin.out⟩
  obtain ⟨t1, t2, _⟩ := jprint_ok hpe
  have hPSd : PS.data.toList = jtext a := by rw [← hPS, t1]
  clear t1 hpe hPS
  obtain ⟨W4, hW4⟩ : ∃ W4, w4.alloc (.cells (bs5.map Value.string).toArray 9) = W4 := ⟨_, rfl⟩
  have hCb : Cel W4 w4.heap.size 9 (bs5.map Value.string).toArray := by rw [← hW4]; exact Cel.fresh _ _ _
  have hb4 : Below w.heap.size w W4 := by rw [← hW4]; exact hZ4.out.2.alloc hZ4.out.2.size _
  have hA4 := hZ4.out.1.alloc (.cells (bs5.map Value.string).toArray 9)
  rw [hW4] at hA4
  have hpk4 := hPk.out.below hb4
  have hpick := Lib.hid (fun (h0 : P ≠ []) (m : Nat) => pick_at hpk4 hCb h0 m)
  have hW4' : w4.alloc (.cells #[.string ⟨#[]⟩, .string ⟨#[32]⟩, .string ⟨#[10]⟩, .string ⟨#[9, 13]⟩, .string ⟨#[32, 32]⟩] 9) = W4 := hW4
  clear hW4
  have hW4 := Lib.hid hW4'
  clear hW4'
  replace hb4 := Lib.hid hb4
  replace hA4 := Lib.hid hA4
  replace hPSd := Lib.hid hPSd
  clear hZ4 p0 p1 p2 p3 hPk hCb hpk4
  go_upto_region 7 with fail
  rw [hW4.out]
  clear hW4
  go_wp2_with fail
  go_loopw [8, 9, 10, 11] (fun ov wv nv iv wr => wr = W4 ∧ ∃ (k m N : Nat) (O : ByteArray) (b : Bool), ov = .string O ∧ wv = .bool b ∧ nv = .int .i64 (N : Int) ∧ iv = .int .i64 (k : Int) ∧ BlkR P PS k m N O b) (fun _ _ _ i _ => PS.size - (intOf i).toNat)
  case atStart => exact ⟨rfl, 0, 0, 0, ⟨#[]⟩, false, rfl, rfl, rfl, rfl, Nat.zero_le _, fun _ => rfl, fun _ => rfl, Nat.zero_le _, Nat.zero_le _, rfl⟩
  case round =>
    obtain ⟨hwr, k, m, N, O, b, rfl, rfl, rfl, rfl, hk, hN1, hN2, hm2, hO5, hO⟩ := hrel
    subst hwr
    have hpl2 : (P.length : Int) ≤ 200 := by omega
    have hpl0 : (0 : Int) ≤ (P.length : Int) := by omega
    by_cases hlt : k < PS.size
    · obtain ⟨hx1, hx2, hx3⟩ := xt1 PS k hlt
      obtain ⟨bI, hc⟩ : ∃ bI : Int, (PS[k].toNat : Int) = bI := ⟨_, rfl⟩
      obtain ⟨c, hcv⟩ : ∃ c, PS[k] = c := ⟨_, rfl⟩
      rw [hcv] at hx1 hx3
      have hc' : (c.toNat : Int) = bI := by rw [← hcv]; exact hc
      have hbd0 : 0 ≤ bI := by omega
      have hbd1 : bI < 256 := by have := c.toNat_lt; omega
      have hnum := jmk_num c bI hc'
      have hi34 := byte_num hc' 34 (by decide)
      have hi92 := byte_num hc' 92 (by decide)
      rw [hx3] at hO
      have hk0 : (0 : Int) ≤ (k : Int) := by omega
      have hsz20 : PS.size ≤ 20000 := by omega
      clear hcv hc' hx3
      replace hpick := hpick
      rcases b with _ | _
      · by_cases hmk : jmk c = true
        · rw [spr_mark hmk] at hO
          rw [hmk] at hnum
          have h6 : (bI = 91 ∨ bI = 93 ∨ bI = 123 ∨ bI = 125 ∨ bI = 44 ∨ bI = 58) := by have := hnum.symm; simp only [Bool.or_eq_true, decide_eq_true_eq] at this; omega
          clear hi34 hi92 hnum
          by_cases hP0 : P = []
          · have hbl : ∀ m, blP P m = [] := fun m => by unfold blP; rw [if_pos hP0]
            rw [hbl, hbl] at hO
            have hpl : ¬ (0 : Int) < (P.length : Int) := by rw [hP0]; decide
            have hA0 := jstr_add O (PS.extract k (k + 1)) (by omega)
            have hnew := Lib.hid (show BlkR P PS (k + 1) (m + 2) N (O ++ PS.extract k (k + 1)) false from ⟨by omega, fun h => absurd hP0 h, fun _ => hN2 hP0, by omega, by rw [cat_size]; omega, by rw [cat_data, hx1]; simpa using hO⟩)
            clear hO hN1 hN2 hbl hx1 hP0 hpick
            rcases h6 with rfl | rfl | rfl | rfl | rfl | rfl
            all_goals
              go_wp2_with fail
              go_roundw
              case rel => exact ⟨trivial, _, _, _, _, _, rfl, rfl, by go_num, by go_num, hnew.out⟩
              case measure => simp [intOf]; omega
          · obtain rfl := hN1 hP0
            obtain ⟨b1, o1, q1, r1, x1, B1, hpa, u1, u2, u3, u4, u5, u6, u7, u8, u9, u10, u11, u12⟩ := hpick.out hP0 N
            obtain ⟨b2, o2, q2, r2, x2, B2, hpa2, v1, v2, v3, v4, v5, v6, v7, v8, v9, v10, v11, v12⟩ := hpick.out hP0 (N + 1)
            rw [hpa] at hpa2
            injection hpa2 with hpa2
            injection hpa2 with e1 e2 _
            subst e1
            subst e2
            subst hpa
            have v1' : ((N : Int) + 1).tmod (P.length : Int) = (q2 : Int) := by have := v1; simpa using this
            have hpl : (0 : Int) < (P.length : Int) := by have := List.length_pos_iff.2 hP0; omega
            have hpln : ¬ (P.length : Int) = 0 := by omega
            have hN0 : (0 : Int) ≤ (N : Int) := by omega
            have hNb : (N : Int) ≤ 40000 := by omega
            have hA0 := jstr_add O B1 (by omega)
            have hA1 := jstr_add (O ++ B1) (PS.extract k (k + 1)) (by simp only [cat_size]; omega)
            have hA2 := jstr_add ((O ++ B1) ++ PS.extract k (k + 1)) B2 (by simp only [cat_size]; omega)
            have hnew := Lib.hid (show BlkR P PS (k + 1) (N + 2) (N + 2) (((O ++ B1) ++ PS.extract k (k + 1)) ++ B2) false from ⟨by omega, fun _ => rfl, fun h => absurd h hP0, by omega, by simp only [cat_size]; omega, by simp only [cat_data, hx1, u11, v11]; simpa using hO⟩)
            clear hO hN1 hN2 hx1 hP0 hpick v1 u11 v11
            rcases h6 with rfl | rfl | rfl | rfl | rfl | rfl
            all_goals
              go_wp2_with fail
              go_roundw
              case rel => exact ⟨trivial, _, _, _, _, _, rfl, rfl, by go_num, by go_num, hnew.out⟩
              case measure => simp [intOf]; omega
        · have hmk2 : jmk c = false := Bool.eq_false_iff.2 hmk
          rw [hmk2] at hnum
          have h6 : ¬ (bI = 91 ∨ bI = 93 ∨ bI = 123 ∨ bI = 125 ∨ bI = 44 ∨ bI = 58) := fun h => by
            have := hnum.symm
            simp only [Bool.or_eq_false_iff, decide_eq_false_iff_not] at this
            omega
          have t91 : (bI == 91) = false := beq_eq_false_iff_ne.2 (by omega)
          have t93 : (bI == 93) = false := beq_eq_false_iff_ne.2 (by omega)
          have t123 : (bI == 123) = false := beq_eq_false_iff_ne.2 (by omega)
          have t125 : (bI == 125) = false := beq_eq_false_iff_ne.2 (by omega)
          have t44 : (bI == 44) = false := beq_eq_false_iff_ne.2 (by omega)
          have t58 : (bI == 58) = false := beq_eq_false_iff_ne.2 (by omega)
          have hA0 := jstr_add O (PS.extract k (k + 1)) (by omega)
          clear hnum h6 hi92 hpick
          by_cases h34 : bI = 34
          · have hc34 : c = 34 := hi34.1 h34
            subst hc34
            rw [spr_34] at hO
            have hnew := Lib.hid (show BlkR P PS (k + 1) m N (O ++ PS.extract k (k + 1)) true from ⟨by omega, hN1, hN2, by omega, by rw [cat_size]; omega, by rw [cat_data, hx1]; simpa using hO⟩)
            clear hO hN1 hN2 hx1 hi34 t91 t93 t123 t125 t44 t58
            subst h34
            go_wp2_with fail
            go_roundw
            case rel => exact ⟨trivial, _, _, _, _, _, rfl, rfl, by go_num, by go_num, hnew.out⟩
            case measure => simp [intOf]; omega
          · have hc34 : c ≠ 34 := fun e => h34 (hi34.2 e)
            rw [spr_else hmk2 hc34] at hO
            have t34 : (bI == 34) = false := beq_eq_false_iff_ne.2 h34
            have hnew := Lib.hid (show BlkR P PS (k + 1) m N (O ++ PS.extract k (k + 1)) false from ⟨by omega, hN1, hN2, by omega, by rw [cat_size]; omega, by rw [cat_data, hx1]; simpa using hO⟩)
            clear hO hN1 hN2 hx1 hi34 h34 hc34
            go_wp2_with fail
            go_roundw
            case rel => exact ⟨trivial, _, _, _, _, _, rfl, rfl, by go_num, by go_num, hnew.out⟩
            case measure => simp [intOf]; omega
      · have hA0 := jstr_add O (PS.extract k (k + 1)) (by omega)
        clear hnum hpick
        by_cases h92 : bI = 92
        · have hc92 : c = 92 := hi92.1 h92
          subst hc92
          by_cases hend : k + 1 < PS.size
          · obtain ⟨hy1, hy2, hy3⟩ := xt1 PS (k + 1) hend
            rw [hy3, spr_esc] at hO
            have hA1 := jstr_add (O ++ PS.extract k (k + 1)) (PS.extract (k + 1) (k + 1 + 1)) (by simp only [cat_size]; omega)
            have hnew := Lib.hid (show BlkR P PS (k + 2) m N ((O ++ PS.extract k (k + 1)) ++ PS.extract (k + 1) (k + 1 + 1)) true from ⟨by omega, hN1, hN2, by omega, by simp only [cat_size]; omega, by simp only [cat_data, hx1, hy1]; simpa using hO⟩)
            clear hO hN1 hN2 hx1 hy1 hy3 hi34 hi92
            subst h92
            go_wp2_with fail
            go_roundw
            case rel => exact ⟨trivial, _, _, _, _, _, rfl, rfl, by go_num, by go_num, hnew.out⟩
            case measure => simp [intOf]; omega
          · have hke : k + 1 = PS.size := by omega
            have hnil : PS.data.toList.drop (k + 1) = [] := List.drop_eq_nil_of_le (by rw [Array.length_toList]; show PS.size ≤ k + 1; omega)
            rw [hnil, spr_92] at hO
            have hnew := Lib.hid (show BlkR P PS (k + 1) m N (O ++ PS.extract k (k + 1)) true from ⟨by omega, hN1, hN2, by omega, by rw [cat_size]; omega, by rw [cat_data, hx1, hnil, spr_nil]; simpa using hO⟩)
            have hnew2 : BlkR P PS (k + 1) m N (O ++ PS.extract k PS.size) true := by
              have := hnew.out
              rwa [show PS.extract k (k + 1) = PS.extract k PS.size from by rw [hke]] at this
            clear hnew
            have hnew := Lib.hid hnew2
            clear hnew2
            clear hO hN1 hN2 hx1 hi34 hi92 hnil
            subst h92
            go_wp2_with fail
            go_roundw
            case rel => exact ⟨trivial, _, _, _, _, _, rfl, rfl, by go_num, by go_num, hnew.out⟩
            case measure => simp [intOf]; omega
        · have t92 : (bI == 92) = false := beq_eq_false_iff_ne.2 h92
          have hc92 : c ≠ 92 := fun e => h92 (hi92.2 e)
          by_cases h34 : bI = 34
          · have hc34 : c = 34 := hi34.1 h34
            subst hc34
            rw [spr_43] at hO
            have hnew := Lib.hid (show BlkR P PS (k + 1) m N (O ++ PS.extract k (k + 1)) false from ⟨by omega, hN1, hN2, by omega, by rw [cat_size]; omega, by rw [cat_data, hx1]; simpa using hO⟩)
            clear hO hN1 hN2 hx1 hi34 hi92 t92 h92 hc92
            subst h34
            go_wp2_with fail
            go_roundw
            case rel => exact ⟨trivial, _, _, _, _, _, rfl, rfl, by go_num, by go_num, hnew.out⟩
            case measure => simp [intOf]; omega
          · have hc34 : c ≠ 34 := fun e => h34 (hi34.2 e)
            rw [spr_in hc92 hc34] at hO
            have t34 : (bI == 34) = false := beq_eq_false_iff_ne.2 h34
            have hnew := Lib.hid (show BlkR P PS (k + 1) m N (O ++ PS.extract k (k + 1)) true from ⟨by omega, hN1, hN2, by omega, by rw [cat_size]; omega, by rw [cat_data, hx1]; simpa using hO⟩)
            clear hO hN1 hN2 hx1 hi34 hi92 h34 h92 hc34 hc92
            go_wp2_with fail
            go_roundw
            case rel => exact ⟨trivial, _, _, _, _, _, rfl, rfl, by go_num, by go_num, hnew.out⟩
            case measure => simp [intOf]; omega
    · have hke : k = PS.size := by omega
      have hnil : PS.data.toList.drop k = [] := List.drop_eq_nil_of_le (by rw [Array.length_toList]; show PS.size ≤ k; omega)
      rw [hnil, spr_nil, List.append_nil, hPSd.out] at hO
      have hA0 := jstr_add (⟨#[10, 32]⟩ : ByteArray) O (by have : (⟨#[10, 32]⟩ : ByteArray).size = 2 := rfl; omega)
      have hA1 := jstr_add ((⟨#[10, 32]⟩ : ByteArray) ++ O) (⟨#[9]⟩ : ByteArray) (by have : (⟨#[10, 32]⟩ : ByteArray).size = 2 := rfl; have : (⟨#[9]⟩ : ByteArray).size = 1 := rfl; rw [cat_size]; omega)
      obtain ⟨T, hT⟩ : ∃ T : ByteArray, ((⟨#[10, 32]⟩ : ByteArray) ++ O) ++ (⟨#[9]⟩ : ByteArray) = T := ⟨_, rfl⟩
      have hTd : T.data.toList = ([10, 32] ++ jspr (blP P) false 0 (jtext a)) ++ [9] := by rw [← hT, cat_data, cat_data, hO]
      have hTs : T.data.toList.length = T.size := by rw [Array.length_toList]; rfl
      have hTz : T.size ≤ 262144 := by
        rw [← hT, cat_size, cat_size]
        have : (⟨#[10, 32]⟩ : ByteArray).size = 2 := rfl
        have : (⟨#[9]⟩ : ByteArray).size = 1 := rfl
        omega
      have hpar : jparse ownL Lib.validD T.data.toList = .ok a := by
        rw [hTd] at hTs ⊢
        exact jparse_spr own_num t2 (fun m => (blP_ok P m).1) (by intro c hc; simp at hc; rcases hc with rfl | rfl <;> decide) (by intro c hc; simp at hc; subst hc; decide) (by omega)
      rw [hT] at hA1
      have hQ := jsnParse_any T wr (hE.out.below hb4.out)
      rw [hpar] at hQ
      replace hQ := Lib.hid hQ
      clear hpar hTz hTs hTd hT hnil hO hO5 hN1 hN2 hpick hk hlt
      go_wp2_with fail
      refine hQ.out.mono ?_
      rintro e w7 ⟨hb7, vn, vl, rfl, hO7⟩
      clear hQ
      obtain ⟨Lx, nx, ox, Ly, ny, oy, rfl, rfl⟩ := hO7.forms
      obtain ⟨W7, hW7⟩ : ∃ W7, w7.alloc (.cells #[.int .u8 a.kind, .string a.text, .slice Lx nx ox, .slice Ly ny oy] 25) = W7 := ⟨_, rfl⟩
      have hC7 : Cel W7 w7.heap.size 25 #[.int .u8 a.kind, .string a.text, .slice Lx nx ox, .slice Ly ny oy] := by rw [← hW7]; exact Cel.fresh _ _ _
      have hb67 : Below wr.heap.size wr W7 := by rw [← hW7]; exact hb7.alloc hb7.size _
      have hO7' := OwnJ.keep (w' := W7) a hO7 (fun i _ hi => by rw [← hW7]; exact Below.heap_alloc w7 _ i hi) (Nat.le_refl _) (Nat.le_refl _)
      have hA7 := hA4.out.below hb67 hA4.out.lt
      obtain ⟨p0, p1, p2, p3⟩ := cel4' hA7
      obtain ⟨q0, q1, q2, q3⟩ := cel4' hC7
      have hb7' := Lib.hid (hb4.out.trans (hb67.mono hb4.out.size))
      have hSm := refSameJ_any a a _ _ W7 _ _ _ _ (OwnJ.jv a hO7') (hVa.out.later hb7'.out) (by omega) (by omega)
      rw [jsame_refl] at hSm
      replace hSm := Lib.hid hSm
      replace hW7 := Lib.hid hW7
      clear hO7 hO7' hA7 hC7 hA4 hb67 hb7
      go_upto_region 28 with fail
      rw [hW7.out]
      go_wp2_with fail
      refine hSm.out.mono ?_
      rintro e w8 ⟨rfl, hb8⟩
      have hfin := Lib.hid (hb7'.out.trans (hb8.mono hb7'.out.size))
      clear hSm hW7 hb7' hb8 p0 p1 p2 p3 q0 q1 q2 q3
      go_wp2_with fail
      go_ret
      exact ⟨rfl, hfin.out⟩
end Go.Proofs.YtblohaljnleeiaaGreatDoor
