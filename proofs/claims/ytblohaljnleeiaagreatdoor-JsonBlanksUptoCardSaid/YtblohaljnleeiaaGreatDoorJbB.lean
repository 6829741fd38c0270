/-
  The walk of rostrumlaw05.JsonBack: the law answers true.
-/
import Derived.Test.YtblohaljnleeiaaGreatDoorJbW
import Derived.Test.YtblohaljnleeiaaGreatDoorJmq
import Derived.Test.YtblohaljnleeiaaGreatDoorJsK
import Derived.Test.YtblohaljnleeiaaGreatDoorJsL
namespace Go.Proofs.YtblohaljnleeiaaGreatDoor
open Go.RowKit

theorem jprint_ok {Own : List UInt8 → List UInt8 × Int} {Val : List UInt8 → Bool} {j : Jsn} (h : (jprint Own Val j).2 = 0) : (jprint Own Val j).1 = jtext j ∧ jcheck Own Val j = 0 ∧ ¬ 262144 < (jtext j).length := by
  unfold jprint at h ⊢
  split at h
  · rename_i hc; exact absurd h hc
  · rename_i hc
    split at h
    · cases h
    · rename_i hl
      rw [if_neg hc, if_neg hl]
      exact ⟨rfl, by simpa using hc, hl⟩
theorem jprint_long {Own : List UInt8 → List UInt8 × Int} {Val : List UInt8 → Bool} {j : Jsn} (h : jcheck Own Val j = 0) (hl : 262144 < (jtext j).length) : jprint Own Val j = ([], 40) := by
  unfold jprint; rw [h, if_neg (by decide), if_pos hl]
theorem jprint_short {Own : List UInt8 → List UInt8 × Int} {Val : List UInt8 → Bool} {j : Jsn} (h : jcheck Own Val j = 0) (hl : ¬ 262144 < (jtext j).length) : jprint Own Val j = (jtext j, 0) := by
  unfold jprint; rw [h, if_neg (by decide), if_neg hl]

set_option maxRecDepth 100000 in
set_option maxHeartbeats 16000000 in
theorem jsonBack_any (a : Jsn) (s : ByteArray) (X : Nat → Prop) (w : World) (va1 va2 : Value) (hE : EnvC w) (hVa : JV w X a va1 va2) (hba : jbulk a ≤ 10000000) :
    Calls Tryz.prog 7 #[.agg #[.int .u8 a.kind, .string a.text, va1, va2], .string s] w fun e w' => e = .returned (.bool true) ∧ Below w.heap.size w w' := by
  obtain ⟨W0, hW0⟩ : ∃ W0, w.alloc (.cells #[.int .u8 a.kind, .string a.text, va1, va2] 25) = W0 := ⟨_, rfl⟩
  have hB0 : Below w.heap.size w W0 := by rw [← hW0]; exact (Below.refl _ _).alloc (Nat.le_refl _) _
  have hA0 : Cel W0 w.heap.size 25 #[.int .u8 a.kind, .string a.text, va1, va2] := by rw [← hW0]; exact Cel.fresh _ _ _
  have hWk := Lib.hid (fun (W : World) (hB : Below w.heap.size w W) => works_any W (hE.below hB))
  have hwa := Lib.hid (fun (W : World) (hB : Below w.heap.size w W) => weight_any a X W _ _ (hVa.later hB) (by omega))
  have hjb := bulk_jw a
  have hsz : s.data.toList.length = s.size := by rw [Array.length_toList]; rfl
  obtain ⟨A1, n1, c1, A2, n2, c2, rfl, rfl⟩ := hVa.forms
  have hZ0 := Lib.hid (And.intro hA0 hB0)
  obtain ⟨p0, p1, p2, p3⟩ := cel4' hA0
  replace hW0 := Lib.hid hW0
  replace hVa := Lib.hid hVa
  replace hE := Lib.hid hE
  clear hA0 hB0
  go_enter Tryz.func7, Tryz.ntmps7
  go_wp2_with fail
  rw [hW0.out]
  clear hW0
  refine (hWk.out _ hZ0.out.2).mono ?_
  rintro e w1 ⟨rfl, hb⟩
  have hZ1 := Lib.hid (And.intro (hZ0.out.1.below hb hZ0.out.1.lt) (hZ0.out.2.trans (hb.mono hZ0.out.2.size)))
  clear p0 p1 p2 p3 hZ0 hb
  obtain ⟨p0, p1, p2, p3⟩ := cel4' hZ1.out.1
  go_wp2_with fail
  refine (hwa.out _ hZ1.out.2).mono ?_
  rintro e w2 ⟨ma, rfl, hm1, hm2, hb⟩
  have hZ2 := Lib.hid (And.intro (hZ1.out.1.below hb hZ1.out.1.lt) (hZ1.out.2.trans (hb.mono hZ1.out.2.size)))
  clear p0 p1 p2 p3 hZ1 hb hwa
  obtain ⟨p0, p1, p2, p3⟩ := cel4' hZ2.out.1
  by_cases ca : 1500 ≤ (ma : Int)
  · clear hm1 hm2 hVa hE
    go_wp2_with fail
    refine (hWk.out _ hZ2.out.2).mono ?_
    rintro e w3 ⟨rfl, hb⟩
    have hfin := Lib.hid (hZ2.out.2.trans (hb.mono hZ2.out.2.size))
    clear p0 p1 p2 p3 hZ2 hb
    go_wp2_with fail
    go_ret
    exact ⟨rfl, hfin.out⟩
  have hja : jbulk a ≤ 96000 := by omega
  clear hm1 hm2 hjb
  by_cases cn : 4000 < (s.size : Int)
  · clear hVa hE
    go_wp2_with fail
    refine (hWk.out _ hZ2.out.2).mono ?_
    rintro e w3 ⟨rfl, hb⟩
    have hfin := Lib.hid (hZ2.out.2.trans (hb.mono hZ2.out.2.size))
    clear p0 p1 p2 p3 hZ2 hb
    go_wp2_with fail
    go_ret
    exact ⟨rfl, hfin.out⟩
  have hs4 : s.size ≤ 4000 := by omega
  have hg := Lib.hid (given_any a X w2 _ _ (hVa.out.later hZ2.out.2) (by omega))
  go_wp2_with fail
  clear cn ca hWk
  refine hg.out.mono ?_
  rintro e w3 ⟨vn, vl, rfl, hO, hb⟩
  obtain ⟨I1, i1, j1, I2, i2, j2, rfl, rfl⟩ := hO.forms
  have hZ3 := Lib.hid (And.intro (hZ2.out.1.below hb hZ2.out.1.lt) (hZ2.out.2.trans (hb.mono hZ2.out.2.size)))
  clear p0 p1 p2 p3 hZ2 hb hg
  obtain ⟨p0, p1, p2, p3⟩ := cel4' hZ3.out.1
  have hP := jsnPrint_any a _ w3 _ _ (hE.out.below hZ3.out.2).1 (OwnJ.jv a hO) (by omega)
  obtain ⟨PS, hPS⟩ : ∃ PS : ByteArray, ⟨(jprint ownL Lib.validD a).1.toArray⟩ = PS := ⟨_, rfl⟩
  obtain ⟨pe, hpe⟩ : ∃ pe, (jprint ownL Lib.validD a).2 = pe := ⟨_, rfl⟩
  rw [hPS, hpe] at hP
  replace hP := Lib.hid hP
  clear hO
  go_wp2_with fail
  refine hP.out.mono ?_
  rintro e w4 ⟨rfl, hb⟩
  have hZ4 := Lib.hid (And.intro (hZ3.out.1.below hb hZ3.out.1.lt) (hZ3.out.2.trans (hb.mono hZ3.out.2.size)))
  clear p0 p1 p2 p3 hZ3 hb hP
  obtain ⟨p0, p1, p2, p3⟩ := cel4' hZ4.out.1
  by_cases hp0 : pe = 0
  · subst hp0
    obtain ⟨t1, t2, t3⟩ := jprint_ok hpe
    have hTd : jparse ownL Lib.validD PS.data.toList = .ok a := by rw [← hPS, t1]; exact jparse_text own_num t2 (by omega)
    have hQ := jsnParse_any PS w4 (hE.out.below hZ4.out.2)
    rw [hTd] at hQ
    replace hQ := Lib.hid hQ
    clear t1 t2 t3 hTd hpe hPS
    go_wp2_with fail
    refine hQ.out.mono ?_
    rintro e w5 ⟨hb5, vn, vl, rfl, hO5⟩
    obtain ⟨Lx, nx, ox, Ly, ny, oy, rfl, rfl⟩ := hO5.forms
    obtain ⟨W5, hW5⟩ : ∃ W5, w5.alloc (.cells #[.int .u8 a.kind, .string a.text, .slice Lx nx ox, .slice Ly ny oy] 25) = W5 := ⟨_, rfl⟩
    have hC5 : Cel W5 w5.heap.size 25 #[.int .u8 a.kind, .string a.text, .slice Lx nx ox, .slice Ly ny oy] := by rw [← hW5]; exact Cel.fresh _ _ _
    have hb45 : Below w4.heap.size w4 W5 := by rw [← hW5]; exact hb5.alloc hb5.size _
    have hO5' := OwnJ.keep (w' := W5) a hO5 (fun i _ hi => by rw [← hW5]; exact Below.heap_alloc w5 _ i hi) (Nat.le_refl _) (Nat.le_refl _)
    have hZ5 := Lib.hid (And.intro (hZ4.out.1.below hb45 hZ4.out.1.lt) (hZ4.out.2.trans (hb45.mono hZ4.out.2.size)))
    clear p0 p1 p2 p3
    obtain ⟨p0, p1, p2, p3⟩ := cel4' hZ5.out.1
    obtain ⟨q0, q1, q2, q3⟩ := cel4' hC5
    have hSm := refSameJ_any a a _ _ W5 _ _ _ _ (OwnJ.jv a hO5') (hVa.out.later hZ5.out.2) (by omega) (by omega)
    rw [jsame_refl] at hSm
    replace hSm := Lib.hid hSm
    replace hW5 := Lib.hid hW5
    clear hO5 hO5' hC5 hb45 hb5 hZ4 hQ
    go_upto_region 6 with fail
    rw [hW5.out]
    go_wp2_with fail
    refine hSm.out.mono ?_
    rintro e w6 ⟨rfl, hb6⟩
    have hbW := hZ5.out.2.trans (hb6.mono hZ5.out.2.size)
    clear hSm hW5 hZ5 hb6 p0 p1 p2 p3 q0 q1 q2 q3
    have hE4 := hE.out.below hbW
    have hR := jsnParse_any s w6 hE4
    obtain ⟨Z, hZ⟩ : ∃ Z, jparse ownL Lib.validD s.data.toList = Z := ⟨_, rfl⟩
    rw [hZ] at hR
    replace hR := Lib.hid hR
    replace hbW := Lib.hid hbW
    replace hZ := Lib.hid hZ
    clear hE4
    go_wp2_with fail
    refine hR.out.mono ?_
    intro e w5 hx
    clear hR
    rcases Z with c | k
    · obtain ⟨hb5, rfl⟩ := hx
      have hc := jparse_err hZ.out
      have hc2 : (c != 0) = true := by simp [hc]
      have hfin := Lib.hid ((hbW.out.trans (hb5.mono hbW.out.size)).alloc (Nat.le_trans hbW.out.size hb5.size) (.cells #[.int .u8 0, .string ⟨#[]⟩, .slice none 0 0, .slice none 0 0] 25))
      clear hb5 hZ hbW
      go_wp2_with fail
      go_ret
      exact ⟨rfl, hfin.out⟩
    obtain ⟨hb5, vn, vl, rfl, hO5⟩ := hx
    obtain ⟨Kx, kx, lx, Ky, ky, ly, rfl, rfl⟩ := hO5.forms
    have hbk := jparse_bulk hZ.out
    have hck := jparse_check own_own hZ.out
    rw [hsz] at hbk
    obtain ⟨W5, hW5⟩ : ∃ W5, w5.alloc (.cells #[.int .u8 k.kind, .string k.text, .slice Kx kx lx, .slice Ky ky ly] 25) = W5 := ⟨_, rfl⟩
    have hC5 : Cel W5 w5.heap.size 25 #[.int .u8 k.kind, .string k.text, .slice Kx kx lx, .slice Ky ky ly] := by rw [← hW5]; exact Cel.fresh _ _ _
    have hb5' : Below w.heap.size w W5 := by rw [← hW5]; exact (hbW.out.trans (hb5.mono hbW.out.size)).alloc (Nat.le_trans hbW.out.size hb5.size) _
    have hOW := OwnJ.keep (w' := W5) k hO5 (fun i _ hi => by rw [← hW5]; exact Below.heap_alloc w5 _ i hi) (Nat.le_refl _) (Nat.le_refl _)
    have hJ5 := OwnJ.jv k hOW
    have hE5 := hE.out.below hb5'
    have hP5 := jsnPrint_any k _ W5 _ _ hE5.1 hJ5 (by omega)
    replace hW5 := Lib.hid hW5
    replace hb5' := Lib.hid hb5'
    replace hJ5 := Lib.hid hJ5
    obtain ⟨p0, p1, p2, p3⟩ := cel4' hC5
    replace hC5 := Lib.hid hC5
    clear hO5 hb5 hOW hE5 hZ hbW
    by_cases hlen : 262144 < (jtext k).length
    · rw [jprint_long hck hlen] at hP5
      replace hP5 := Lib.hid hP5
      go_upto_region 9 with fail
      rw [hW5.out]
      go_wp2_with fail
      refine hP5.out.mono ?_
      rintro e w6 ⟨rfl, hb6⟩
      have hC6 := hC5.out.below hb6 hC5.out.lt
      clear p0 p1 p2 p3
      obtain ⟨p0, p1, p2, p3⟩ := cel4' hC6
      have hE6 := hE.out.below (hb5'.out.trans (hb6.mono hb5'.out.size))
      have hCk := jsnCheck_any k _ w6 _ _ hE6.1 (hJ5.out.later hb6) (by omega)
      rw [hck] at hCk
      have hb6' := Lib.hid (hb5'.out.trans (hb6.mono hb5'.out.size))
      replace hCk := Lib.hid hCk
      clear hC6 hE6 hb6 hP5 hW5 hC5 hJ5 hb5'
      go_wp2_with fail
      refine hCk.out.mono ?_
      rintro e w7 ⟨rfl, hb7⟩
      have hfin := Lib.hid (hb6'.out.trans (hb7.mono hb6'.out.size))
      clear hCk hb6' hb7 p0 p1 p2 p3
      go_wp2_with fail
      go_ret
      exact ⟨rfl, hfin.out⟩
    · rw [jprint_short hck hlen] at hP5
      obtain ⟨T, hT⟩ : ∃ T : ByteArray, ⟨(jtext k).toArray⟩ = T := ⟨_, rfl⟩
      have hTd : jparse ownL Lib.validD T.data.toList = .ok k := by rw [← hT]; exact jparse_text own_num hck (by omega)
      dsimp only at hP5
      rw [hT] at hP5
      replace hP5 := Lib.hid hP5
      clear hT
      go_upto_region 9 with fail
      rw [hW5.out]
      go_wp2_with fail
      refine hP5.out.mono ?_
      rintro e w6 ⟨rfl, hb6⟩
      have hC6 := hC5.out.below hb6 hC5.out.lt
      have hb6' := hb5'.out.trans (hb6.mono hb5'.out.size)
      have hQ6 := jsnParse_any T w6 (hE.out.below hb6')
      rw [hTd] at hQ6
      have hJ6 := hJ5.out.later hb6
      clear p0 p1 p2 p3 hP5 hW5 hC5 hJ5 hb5' hb6 hTd
      replace hC6 := Lib.hid hC6
      replace hJ6 := Lib.hid hJ6
      replace hb6' := Lib.hid hb6'
      replace hQ6 := Lib.hid hQ6
      go_wp2_with fail
      refine hQ6.out.mono ?_
      rintro e w7 ⟨hb7, vn, vl, rfl, hO7⟩
      clear hQ6
      obtain ⟨Lx, nx, ox, Ly, ny, oy, rfl, rfl⟩ := hO7.forms
      obtain ⟨W7, hW7⟩ : ∃ W7, w7.alloc (.cells #[.int .u8 k.kind, .string k.text, .slice Lx nx ox, .slice Ly ny oy] 25) = W7 := ⟨_, rfl⟩
      have hC7 : Cel W7 w7.heap.size 25 #[.int .u8 k.kind, .string k.text, .slice Lx nx ox, .slice Ly ny oy] := by rw [← hW7]; exact Cel.fresh _ _ _
      have hb67 : Below w6.heap.size w6 W7 := by rw [← hW7]; exact hb7.alloc hb7.size _
      have hO7' := OwnJ.keep (w' := W7) k hO7 (fun i _ hi => by rw [← hW7]; exact Below.heap_alloc w7 _ i hi) (Nat.le_refl _) (Nat.le_refl _)
      have hC6' := hC6.out.below hb67 hC6.out.lt
      obtain ⟨p0, p1, p2, p3⟩ := cel4' hC6'
      obtain ⟨q0, q1, q2, q3⟩ := cel4' hC7
      have hSm := refSameJ_any k k _ _ W7 _ _ _ _ (hJ6.out.later hb67) (OwnJ.jv k hO7') (by omega) (by omega)
      rw [jsame_refl] at hSm
      have hb7' := Lib.hid (hb6'.out.trans (hb67.mono hb6'.out.size))
      replace hSm := Lib.hid hSm
      replace hW7 := Lib.hid hW7
      clear hO7 hO7' hC6' hC7 hJ6 hC6 hb6' hb67 hb7
      go_upto_region 15 with fail
      rw [hW7.out]
      go_wp2_with fail
      refine hSm.out.mono ?_
      rintro e w8 ⟨rfl, hb8⟩
      have hfin := Lib.hid (hb7'.out.trans (hb8.mono hb7'.out.size))
      clear hSm hW7 hb7' hb8 p0 p1 p2 p3 q0 q1 q2 q3
      go_wp2_with fail
      go_ret
      exact ⟨rfl, hfin.out⟩
  · have hp1 : (pe == 0) = false := by simp [hp0]
    have hbW := hZ4.out.2
    clear hpe hPS hZ4 p0 p1 p2 p3
    have hE4 := hE.out.below hbW
    have hR := jsnParse_any s w4 hE4
    obtain ⟨Z, hZ⟩ : ∃ Z, jparse ownL Lib.validD s.data.toList = Z := ⟨_, rfl⟩
    rw [hZ] at hR
    replace hR := Lib.hid hR
    replace hbW := Lib.hid hbW
    replace hZ := Lib.hid hZ
    clear hE4
    go_wp2_with fail
    refine hR.out.mono ?_
    intro e w5 hx
    clear hR
    rcases Z with c | k
    · obtain ⟨hb5, rfl⟩ := hx
      have hc := jparse_err hZ.out
      have hc2 : (c != 0) = true := by simp [hc]
      have hfin := Lib.hid ((hbW.out.trans (hb5.mono hbW.out.size)).alloc (Nat.le_trans hbW.out.size hb5.size) (.cells #[.int .u8 0, .string ⟨#[]⟩, .slice none 0 0, .slice none 0 0] 25))
      clear hb5 hZ hbW
      go_wp2_with fail
      go_ret
      exact ⟨rfl, hfin.out⟩
    obtain ⟨hb5, vn, vl, rfl, hO5⟩ := hx
    obtain ⟨Kx, kx, lx, Ky, ky, ly, rfl, rfl⟩ := hO5.forms
    have hbk := jparse_bulk hZ.out
    have hck := jparse_check own_own hZ.out
    rw [hsz] at hbk
    obtain ⟨W5, hW5⟩ : ∃ W5, w5.alloc (.cells #[.int .u8 k.kind, .string k.text, .slice Kx kx lx, .slice Ky ky ly] 25) = W5 := ⟨_, rfl⟩
    have hC5 : Cel W5 w5.heap.size 25 #[.int .u8 k.kind, .string k.text, .slice Kx kx lx, .slice Ky ky ly] := by rw [← hW5]; exact Cel.fresh _ _ _
    have hb5' : Below w.heap.size w W5 := by rw [← hW5]; exact (hbW.out.trans (hb5.mono hbW.out.size)).alloc (Nat.le_trans hbW.out.size hb5.size) _
    have hOW := OwnJ.keep (w' := W5) k hO5 (fun i _ hi => by rw [← hW5]; exact Below.heap_alloc w5 _ i hi) (Nat.le_refl _) (Nat.le_refl _)
    have hJ5 := OwnJ.jv k hOW
    have hE5 := hE.out.below hb5'
    have hP5 := jsnPrint_any k _ W5 _ _ hE5.1 hJ5 (by omega)
    replace hW5 := Lib.hid hW5
    replace hb5' := Lib.hid hb5'
    replace hJ5 := Lib.hid hJ5
    obtain ⟨p0, p1, p2, p3⟩ := cel4' hC5
    replace hC5 := Lib.hid hC5
    clear hO5 hb5 hOW hE5 hZ hbW
    by_cases hlen : 262144 < (jtext k).length
    · rw [jprint_long hck hlen] at hP5
      replace hP5 := Lib.hid hP5
      go_upto_region 9 with fail
      rw [hW5.out]
      go_wp2_with fail
      refine hP5.out.mono ?_
      rintro e w6 ⟨rfl, hb6⟩
      have hC6 := hC5.out.below hb6 hC5.out.lt
      clear p0 p1 p2 p3
      obtain ⟨p0, p1, p2, p3⟩ := cel4' hC6
      have hE6 := hE.out.below (hb5'.out.trans (hb6.mono hb5'.out.size))
      have hCk := jsnCheck_any k _ w6 _ _ hE6.1 (hJ5.out.later hb6) (by omega)
      rw [hck] at hCk
      have hb6' := Lib.hid (hb5'.out.trans (hb6.mono hb5'.out.size))
      replace hCk := Lib.hid hCk
      clear hC6 hE6 hb6 hP5 hW5 hC5 hJ5 hb5'
      go_wp2_with fail
      refine hCk.out.mono ?_
      rintro e w7 ⟨rfl, hb7⟩
      have hfin := Lib.hid (hb6'.out.trans (hb7.mono hb6'.out.size))
      clear hCk hb6' hb7 p0 p1 p2 p3
      go_wp2_with fail
      go_ret
      exact ⟨rfl, hfin.out⟩
    · rw [jprint_short hck hlen] at hP5
      obtain ⟨T, hT⟩ : ∃ T : ByteArray, ⟨(jtext k).toArray⟩ = T := ⟨_, rfl⟩
      have hTd : jparse ownL Lib.validD T.data.toList = .ok k := by rw [← hT]; exact jparse_text own_num hck (by omega)
      dsimp only at hP5
      rw [hT] at hP5
      replace hP5 := Lib.hid hP5
      clear hT
      go_upto_region 9 with fail
      rw [hW5.out]
      go_wp2_with fail
      refine hP5.out.mono ?_
      rintro e w6 ⟨rfl, hb6⟩
      have hC6 := hC5.out.below hb6 hC5.out.lt
      have hb6' := hb5'.out.trans (hb6.mono hb5'.out.size)
      have hQ6 := jsnParse_any T w6 (hE.out.below hb6')
      rw [hTd] at hQ6
      have hJ6 := hJ5.out.later hb6
      clear p0 p1 p2 p3 hP5 hW5 hC5 hJ5 hb5' hb6 hTd
      replace hC6 := Lib.hid hC6
      replace hJ6 := Lib.hid hJ6
      replace hb6' := Lib.hid hb6'
      replace hQ6 := Lib.hid hQ6
      go_wp2_with fail
      refine hQ6.out.mono ?_
      rintro e w7 ⟨hb7, vn, vl, rfl, hO7⟩
      clear hQ6
      obtain ⟨Lx, nx, ox, Ly, ny, oy, rfl, rfl⟩ := hO7.forms
      obtain ⟨W7, hW7⟩ : ∃ W7, w7.alloc (.cells #[.int .u8 k.kind, .string k.text, .slice Lx nx ox, .slice Ly ny oy] 25) = W7 := ⟨_, rfl⟩
      have hC7 : Cel W7 w7.heap.size 25 #[.int .u8 k.kind, .string k.text, .slice Lx nx ox, .slice Ly ny oy] := by rw [← hW7]; exact Cel.fresh _ _ _
      have hb67 : Below w6.heap.size w6 W7 := by rw [← hW7]; exact hb7.alloc hb7.size _
      have hO7' := OwnJ.keep (w' := W7) k hO7 (fun i _ hi => by rw [← hW7]; exact Below.heap_alloc w7 _ i hi) (Nat.le_refl _) (Nat.le_refl _)
      have hC6' := hC6.out.below hb67 hC6.out.lt
      obtain ⟨p0, p1, p2, p3⟩ := cel4' hC6'
      obtain ⟨q0, q1, q2, q3⟩ := cel4' hC7
      have hSm := refSameJ_any k k _ _ W7 _ _ _ _ (hJ6.out.later hb67) (OwnJ.jv k hO7') (by omega) (by omega)
      rw [jsame_refl] at hSm
      have hb7' := Lib.hid (hb6'.out.trans (hb67.mono hb6'.out.size))
      replace hSm := Lib.hid hSm
      replace hW7 := Lib.hid hW7
      clear hO7 hO7' hC6' hC7 hJ6 hC6 hb6' hb67 hb7
      go_upto_region 15 with fail
      rw [hW7.out]
      go_wp2_with fail
      refine hSm.out.mono ?_
      rintro e w8 ⟨rfl, hb8⟩
      have hfin := Lib.hid (hb7'.out.trans (hb8.mono hb7'.out.size))
      clear hSm hW7 hb7' hb8 p0 p1 p2 p3 q0 q1 q2 q3
      go_wp2_with fail
      go_ret
      exact ⟨rfl, hfin.out⟩
end Go.Proofs.YtblohaljnleeiaaGreatDoor
