/-
  The walks of json.marks and json.quote.
-/
import Derived.Test.YtdjfoabinjfnfaaGreatDoorM10
import Derived.Test.YtdjfoabinjfnfaaGreatDoorM03
namespace Go.Proofs.YtdjfoabinjfnfaaGreatDoor
open Go.RowKit
def markI (b : Int) : Int × Bool :=
  if b = 34 then (34, true) else if b = 92 then (92, true) else if b = 8 then (98, true) else if b = 12 then (102, true) else if b = 10 then (110, true) else if b = 13 then (114, true) else if b = 9 then (116, true) else (0, false)
def markIx (b : Int) : Int :=
  if b = 34 then 0 else if b = 92 then 1 else if b = 8 then 2 else if b = 12 then 3 else if b = 10 then 4 else if b = 13 then 5 else if b = 9 then 6 else -1
theorem markIx_of (b : Int) (h0 : 0 ≤ b) (h1 : b < 256) : Lib.indexByte [34, 92, 8, 12, 10, 13, 9] b.toNat.toUInt8 = markIx b := by
  obtain ⟨n, rfl⟩ := Int.eq_ofNat_of_zero_le h0
  have hn : n < 256 := by omega
  have key : ∀ k : Fin 256, Lib.indexByte [34, 92, 8, 12, 10, 13, 9] (k.val : Int).toNat.toUInt8 = markIx (k.val : Int) := by decide +kernel
  exact key ⟨n, hn⟩
def MarkEnd (b : Int) (w : World) (e : Ending) (w' : World) : Prop := e = .returned (.tuple #[.int .u8 (markI b).1, .bool (markI b).2]) ∧ w' = w
set_option maxRecDepth 100000 in
set_option maxHeartbeats 2000000 in
theorem marks_any (b : Int) (h0 : 0 ≤ b) (h1 : b < 256) (w : World) : Calls Tryz.prog 151 #[.int .u8 b] w (MarkEnd b w) := by
  have hi := Tryz.strings_IndexByte ⟨#[34, 92, 8, 12, 10, 13, 9]⟩ b w
  have hx : (⟨#[34, 92, 8, 12, 10, 13, 9]⟩ : ByteArray).data.toList = [34, 92, 8, 12, 10, 13, 9] := rfl
  rw [hx, markIx_of b h0 h1] at hi
  clear hx h0 h1
  obtain ⟨M, hM⟩ : ∃ M, markI b = M := ⟨_, rfl⟩
  unfold MarkEnd
  rw [hM]
  unfold markI at hM
  unfold markIx at hi
  by_cases c34 : b = 34
  · rw [if_pos c34] at hM hi
    subst hM
    subst c34
    go_enter Tryz.func151, Tryz.ntmps151
    go_wp2_with fail
    refine hi.mono ?_
    rintro e w1 ⟨rfl, rfl⟩
    clear hi
    go_wp2_with fail
    refine bodyPost_ret (v := .tuple #[.int .u8 34, .bool true]) (by simp [results, Tryz.results151, go_sem] <;> rfl) rfl ⟨rfl, rfl⟩
  rw [if_neg c34] at hM hi
  by_cases c92 : b = 92
  · rw [if_pos c92] at hM hi
    subst hM
    subst c92
    go_enter Tryz.func151, Tryz.ntmps151
    go_wp2_with fail
    refine hi.mono ?_
    rintro e w1 ⟨rfl, rfl⟩
    clear hi
    go_wp2_with fail
    refine bodyPost_ret (v := .tuple #[.int .u8 92, .bool true]) (by simp [results, Tryz.results151, go_sem] <;> rfl) rfl ⟨rfl, rfl⟩
  rw [if_neg c92] at hM hi
  by_cases c8 : b = 8
  · rw [if_pos c8] at hM hi
    subst hM
    subst c8
    go_enter Tryz.func151, Tryz.ntmps151
    go_wp2_with fail
    refine hi.mono ?_
    rintro e w1 ⟨rfl, rfl⟩
    clear hi
    go_wp2_with fail
    refine bodyPost_ret (v := .tuple #[.int .u8 98, .bool true]) (by simp [results, Tryz.results151, go_sem] <;> rfl) rfl ⟨rfl, rfl⟩
  rw [if_neg c8] at hM hi
  by_cases c12 : b = 12
  · rw [if_pos c12] at hM hi
    subst hM
    subst c12
    go_enter Tryz.func151, Tryz.ntmps151
    go_wp2_with fail
    refine hi.mono ?_
    rintro e w1 ⟨rfl, rfl⟩
    clear hi
    go_wp2_with fail
    refine bodyPost_ret (v := .tuple #[.int .u8 102, .bool true]) (by simp [results, Tryz.results151, go_sem] <;> rfl) rfl ⟨rfl, rfl⟩
  rw [if_neg c12] at hM hi
  by_cases c10 : b = 10
  · rw [if_pos c10] at hM hi
    subst hM
    subst c10
    go_enter Tryz.func151, Tryz.ntmps151
    go_wp2_with fail
    refine hi.mono ?_
    rintro e w1 ⟨rfl, rfl⟩
    clear hi
    go_wp2_with fail
    refine bodyPost_ret (v := .tuple #[.int .u8 110, .bool true]) (by simp [results, Tryz.results151, go_sem] <;> rfl) rfl ⟨rfl, rfl⟩
  rw [if_neg c10] at hM hi
  by_cases c13 : b = 13
  · rw [if_pos c13] at hM hi
    subst hM
    subst c13
    go_enter Tryz.func151, Tryz.ntmps151
    go_wp2_with fail
    refine hi.mono ?_
    rintro e w1 ⟨rfl, rfl⟩
    clear hi
    go_wp2_with fail
    refine bodyPost_ret (v := .tuple #[.int .u8 114, .bool true]) (by simp [results, Tryz.results151, go_sem] <;> rfl) rfl ⟨rfl, rfl⟩
  rw [if_neg c13] at hM hi
  by_cases c9 : b = 9
  · rw [if_pos c9] at hM hi
    subst hM
    subst c9
    go_enter Tryz.func151, Tryz.ntmps151
    go_wp2_with fail
    refine hi.mono ?_
    rintro e w1 ⟨rfl, rfl⟩
    clear hi
    go_wp2_with fail
    refine bodyPost_ret (v := .tuple #[.int .u8 116, .bool true]) (by simp [results, Tryz.results151, go_sem] <;> rfl) rfl ⟨rfl, rfl⟩
  rw [if_neg c9] at hM hi
  subst hM
  go_enter Tryz.func151, Tryz.ntmps151
  go_wp2_with fail
  refine hi.mono ?_
  rintro e w1 ⟨rfl, rfl⟩
  clear hi
  go_wp2_with fail
  refine bodyPost_ret (v := .tuple #[.int .u8 0, .bool false]) (by simp [results, Tryz.results151, go_sem] <;> rfl) rfl ⟨rfl, rfl⟩
theorem jescI_mark (b : Int) (h : (markI b).2 = true) : jescI b = [92, UInt8.ofNat (markI b).1.toNat] ∧ 0 ≤ (markI b).1 ∧ (markI b).1 < 256 := by
  unfold markI at h ⊢
  unfold jescI
  by_cases c34 : b = 34
  · simp only [if_pos c34]; exact ⟨rfl, by decide, by decide⟩
  simp only [if_neg c34] at h ⊢
  by_cases c92 : b = 92
  · simp only [if_pos c92]; exact ⟨rfl, by decide, by decide⟩
  simp only [if_neg c92] at h ⊢
  by_cases c8 : b = 8
  · simp only [if_pos c8]; exact ⟨rfl, by decide, by decide⟩
  simp only [if_neg c8] at h ⊢
  by_cases c12 : b = 12
  · simp only [if_pos c12]; exact ⟨rfl, by decide, by decide⟩
  simp only [if_neg c12] at h ⊢
  by_cases c10 : b = 10
  · simp only [if_pos c10]; exact ⟨rfl, by decide, by decide⟩
  simp only [if_neg c10] at h ⊢
  by_cases c13 : b = 13
  · simp only [if_pos c13]; exact ⟨rfl, by decide, by decide⟩
  simp only [if_neg c13] at h ⊢
  by_cases c9 : b = 9
  · simp only [if_pos c9]; exact ⟨rfl, by decide, by decide⟩
  simp only [if_neg c9] at h ⊢
  cases h
theorem jescI_plain (b : Int) (h : (markI b).2 = false) : jescI b = if b < 32 then [92, 117, 48, 48, jhex (b.toNat / 16), jhex (b.toNat % 16)] else [UInt8.ofNat b.toNat] := by
  unfold markI at h
  unfold jescI
  by_cases c34 : b = 34
  · simp only [if_pos c34] at h; cases h
  simp only [if_neg c34] at h ⊢
  by_cases c92 : b = 92
  · simp only [if_pos c92] at h; cases h
  simp only [if_neg c92] at h ⊢
  by_cases c8 : b = 8
  · simp only [if_pos c8] at h; cases h
  simp only [if_neg c8] at h ⊢
  by_cases c12 : b = 12
  · simp only [if_pos c12] at h; cases h
  simp only [if_neg c12] at h ⊢
  by_cases c10 : b = 10
  · simp only [if_pos c10] at h; cases h
  simp only [if_neg c10] at h ⊢
  by_cases c13 : b = 13
  · simp only [if_pos c13] at h; cases h
  simp only [if_neg c13] at h ⊢
  by_cases c9 : b = 9
  · simp only [if_pos c9] at h; cases h
  simp only [if_neg c9] at h ⊢
def hexA : ByteArray := ⟨#[48, 49, 50, 51, 52, 53, 54, 55, 56, 57, 97, 98, 99, 100, 101, 102]⟩
theorem hex_all : ∀ k : Fin 16, hexA.data.toList.getD k.val 0 = jhex k.val := by decide
theorem hex_at (k : Nat) (h : k < hexA.size) : hexA[k] = jhex k := by
  rw [← getD_at hexA k h]; exact hex_all ⟨k, h⟩
theorem hex_num {k : Nat} {h : k < hexA.size} {m : Nat} (e : k = m) : (hexA[k].toNat : Int) = ((jhex m).toNat : Int) := by subst e; rw [hex_at k h]
theorem hex_lit {k : Nat} {h : k < (⟨#[48, 49, 50, 51, 52, 53, 54, 55, 56, 57, 97, 98, 99, 100, 101, 102]⟩ : ByteArray).size} {m : Nat} (e : k = m) : ((⟨#[48, 49, 50, 51, 52, 53, 54, 55, 56, 57, 97, 98, 99, 100, 101, 102]⟩ : ByteArray)[k].toNat : Int) = ((jhex m).toNat : Int) := hex_num (h := h) e
set_option maxRecDepth 100000 in
set_option maxHeartbeats 4000000 in
theorem jsnQuote_any (b : Nat) (l : List UInt8) (s : ByteArray) (hs : s.size ≤ 1000000) (w : World) (h : BD w b l) (hl : l.length ≤ 100000000000) :
    Calls Tryz.prog 122 #[.pointer (some ⟨b, 0, none⟩), .string s] w fun e w' => e = .returned (.tuple #[]) ∧ WrEnd b (l ++ jquote s.data.toList) w w' := by
  have h0 := Lib.hid (wByte_any b l 34 34 rfl w h (by omega))
  clear h
  go_enter Tryz.func122, Tryz.ntmps122
  go_wp2_with fail
  refine h0.out.mono ?_
  rintro e w1 ⟨rfl, hB1, hW1⟩
  clear h0
  replace hB1 := Lib.hid hB1
  replace hW1 := Lib.hid hW1
  go_wp2_with fail
  go_loopw [12] (fun i wr => ∃ q : Nat, q ≤ s.size ∧ i = .int .i64 q ∧ BD wr b (l ++ qHeld s.data.toList q) ∧ Wr b w wr) (fun i _ => s.size - (intOf i).toNat)
  case atStart => exact ⟨0, Nat.zero_le _, rfl, hB1.out, hW1.out⟩
  case round =>
    clear hB1 hW1
    obtain ⟨q, hq, rfl, hB, hW⟩ := hrel
    have hln := qHeld_len s.data.toList q
    have hsl : s.data.toList.length = s.size := by rw [Array.length_toList]; rfl
    rw [hsl] at hln
    have hl2 : (l ++ qHeld s.data.toList q).length ≤ 100007000000 := by rw [List.length_append]; omega
    by_cases hlt : q < s.size
    · obtain ⟨c, hc⟩ : ∃ c : Int, (s[q].toNat : Int) = c := ⟨_, rfl⟩
      have hbd : 0 ≤ c ∧ c < 256 := by have := s[q].toNat_lt; omega
      obtain ⟨hb0, hb1⟩ := hbd
      have hq1 : s.data.toList[q]? = some s[q] := by rw [Array.getElem?_toList]; exact Array.getElem?_eq_getElem hlt
      have hst := qHeld_step hq1
      rw [jesc_num _ c hc] at hst
      obtain ⟨L, hL⟩ : ∃ L, l ++ qHeld s.data.toList q = L := ⟨_, rfl⟩
      have hst2 : l ++ qHeld s.data.toList (q + 1) = L ++ jescI c := by rw [hst, ← List.append_assoc, hL]
      rw [hL] at hB hl2
      clear hL hq1 hsl hst hln
      have hmk := marks_any c hb0 hb1 wr
      have hj1 := jescI_mark c
      have hj2 := jescI_plain c
      unfold MarkEnd at hmk
      obtain ⟨⟨m, ok⟩, hm⟩ : ∃ x, markI c = x := ⟨_, rfl⟩
      rw [hm] at hmk hj1 hj2
      dsimp only at hmk hj1 hj2
      have hq0 : (0 : Int) ≤ (q : Int) := by omega
      replace hst2 := Lib.hid hst2
      replace hW := Lib.hid hW
      replace hmk := Lib.hid hmk
      clear hm
      cases ok
      · replace hj2 := Lib.hid (hj2 rfl)
        clear hj1
        by_cases h32 : c < 32
        · replace hj2 := Lib.hid (by have := hj2.out; rwa [if_pos h32] at this)
          go_wp2_with fail
          refine hmk.out.mono ?_
          rintro e w2 ⟨rfl, rfl⟩
          clear hmk
          have hs1 := Lib.hid (wStr_any b L ⟨#[92, 117, 48, 48]⟩ w2 hB (by show _ + 4 ≤ _; omega))
          clear hB
          go_wp2_with fail
          refine hs1.out.mono ?_
          rintro e w3 ⟨rfl, hB3, hW3⟩
          have hW4 := Lib.hid (hW.out.trans hW3)
          clear hs1 hW hW3
          have hk1 : (c / 16).toNat = c.toNat / 16 := by omega
          have hs2 := Lib.hid (fun W hW => wByte_any b (L ++ [92, 117, 48, 48]) (jhex (c.toNat / 16)) _ rfl W hW (by rw [List.length_append]; show _ + 4 ≤ _; omega))
          go_wp2_with fail
          rw [hex_lit (m := c.toNat / 16) rfl]
          refine (hs2.out _ hB3).mono ?_
          rintro e w4 ⟨rfl, hB4, hW4'⟩
          have hW5 := Lib.hid (hW4.out.trans hW4')
          clear hW4 hW4' hB3 hk1 hs2
          have hk2 : (c % 16).toNat = c.toNat % 16 := by omega
          have hs3 := Lib.hid (fun W hW => wByte_any b (L ++ [92, 117, 48, 48] ++ [jhex (c.toNat / 16)]) (jhex (c.toNat % 16)) _ rfl W hW (by rw [List.length_append, List.length_append]; show _ + 4 + 1 ≤ _; omega))
          go_wp2_with fail
          rw [hex_lit (m := c.toNat % 16) rfl]
          refine (hs3.out _ hB4).mono ?_
          rintro e w5 ⟨rfl, hB5, hW5'⟩
          have hW6 := Lib.hid (hW5.out.trans hW5')
          have hfin : BD w5 b (l ++ qHeld s.data.toList (q + 1)) := by
            rw [hst2.out, hj2.out]
            simpa using hB5
          clear hW5 hW5' hB4 hk2 hs3 hB5
          replace hfin := Lib.hid hfin
          go_wp2_with fail
          go_roundw
          case rel => exact ⟨q + 1, by omega, by go_num, hfin.out, hW6.out⟩
          case measure => simp [intOf]; omega
        · replace hj2 := Lib.hid (by have := hj2.out; rwa [if_neg h32] at this)
          have hub : c = ((UInt8.ofNat c.toNat).toNat : Int) := by rw [UInt8.toNat_ofNat']; omega
          obtain ⟨U, hU⟩ : ∃ U, UInt8.ofNat c.toNat = U := ⟨_, rfl⟩
          rw [hU] at hj2 hub
          clear hU
          have hs1 := Lib.hid (wByte_any b L U c hub wr hB (by omega))
          clear hub hB
          go_wp2_with fail
          refine hmk.out.mono ?_
          rintro e w2 ⟨rfl, rfl⟩
          clear hmk
          go_wp2_with fail
          refine hs1.out.mono ?_
          rintro e w3 ⟨rfl, hB3, hW3⟩
          have hW4 := Lib.hid (hW.out.trans hW3)
          have hfin : BD w3 b (l ++ qHeld s.data.toList (q + 1)) := by
            rw [hst2.out, hj2.out]; exact hB3
          clear hs1 hW hW3 hB3
          replace hfin := Lib.hid hfin
          go_wp2_with fail
          go_roundw
          case rel => exact ⟨q + 1, by omega, by go_num, hfin.out, hW4.out⟩
          case measure => simp [intOf]; omega
      · obtain ⟨hj, hm0, hm1⟩ := hj1 rfl
        clear hj2
        have hub : m = ((UInt8.ofNat m.toNat).toNat : Int) := by rw [UInt8.toNat_ofNat']; omega
        obtain ⟨U, hU⟩ : ∃ U, UInt8.ofNat m.toNat = U := ⟨_, rfl⟩
        rw [hU] at hj hub
        clear hU
        have hs1 := Lib.hid (wByte_any b L 92 92 rfl wr hB (by omega))
        have hs2 := Lib.hid (fun W hW => wByte_any b (L ++ [92]) U m hub W hW (by rw [List.length_append]; show _ + 1 ≤ _; omega))
        replace hj := Lib.hid hj
        clear hub hB
        go_wp2_with fail
        refine hmk.out.mono ?_
        rintro e w2 ⟨rfl, rfl⟩
        clear hmk
        go_wp2_with fail
        refine hs1.out.mono ?_
        rintro e w3 ⟨rfl, hB3, hW3⟩
        have hW4 := Lib.hid (hW.out.trans hW3)
        clear hs1 hW hW3
        go_wp2_with fail
        refine (hs2.out _ hB3).mono ?_
        rintro e w4 ⟨rfl, hB4, hW4'⟩
        have hW5 := Lib.hid (hW4.out.trans hW4')
        have hfin : BD w4 b (l ++ qHeld s.data.toList (q + 1)) := by
          rw [hst2.out, hj.out]
          simpa using hB4
        clear hs2 hW4 hW4' hB3 hB4
        replace hfin := Lib.hid hfin
        go_wp2_with fail
        go_roundw
        case rel => exact ⟨q + 1, by omega, by go_num, hfin.out, hW5.out⟩
        case measure => simp [intOf]; omega
    · have hqe : q = s.size := by omega
      have hall : qHeld s.data.toList q ++ [34] = jquote s.data.toList := by
        rw [hqe, ← hsl]; unfold qHeld jquote; rw [List.take_length]; rfl
      have hs1 := Lib.hid (wByte_any b _ 34 34 rfl wr hB (by omega))
      have hall2 : l ++ jquote s.data.toList = l ++ qHeld s.data.toList q ++ [34] := by rw [← hall, List.append_assoc]
      replace hall2 := Lib.hid hall2
      replace hW := Lib.hid hW
      clear hall hB hsl hln hl2 hqe
      go_wp2_with fail
      refine hs1.out.mono ?_
      rintro e w3 ⟨rfl, hB3, hW3⟩
      have hW4 := Lib.hid (hW.out.trans hW3)
      have hfin : BD w3 b (l ++ jquote s.data.toList) := by rw [hall2.out]; exact hB3
      clear hs1 hW hW3 hB3
      replace hfin := Lib.hid hfin
      go_wp2_with fail
      go_end0
      exact ⟨rfl, hfin.out, hW4.out⟩
end Go.Proofs.YtdjfoabinjfnfaaGreatDoor
