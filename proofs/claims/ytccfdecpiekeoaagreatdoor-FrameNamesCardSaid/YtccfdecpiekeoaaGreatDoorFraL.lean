/-
  The walks of rostrumlaw06's written and all.
-/
import Derived.Test.YtccfdecpiekeoaaGreatDoorFraK
import Derived.Lib.ConvBytes
import Derived.Lib.AtoiErrMem
namespace Go.Proofs.YtccfdecpiekeoaaGreatDoor
open Go.RowKit

/-- A slice of strings that came in: it lies below block B. -/
def StrS (w : World) (B : Nat) (A : Option Addr) (L : List ByteArray) : Prop :=
  0 < L.length → ∃ ad, A = some ad ∧ ad.block < B ∧ ∀ j x, L[j]? = some x → w.cell? (ad.add j) = some (.string x)
theorem StrS.below {w w' : World} {B : Nat} {A : Option Addr} {L : List ByteArray} (h : StrS w B A L) (hB : Below B w w') : StrS w' B A L := by
  intro hp
  obtain ⟨ad, e, hb, hc⟩ := h hp
  exact ⟨ad, e, hb, fun j x hx => (hB.cell (by rw [block_add]; exact hb)).trans (hc j x hx)⟩
theorem StrS.at {w : World} {B : Nat} {A : Option Addr} {L : List ByteArray} (h : StrS w B A L) {k : Nat} (hk : k < L.length) : ∃ ad, A = some ad ∧ w.cell? (ad.add k) = some (.string L[k]) := by
  obtain ⟨ad, e, _, hc⟩ := h (by omega)
  exact ⟨ad, e, hc k _ (List.getElem?_eq_getElem hk)⟩

/-- Bodies as frames, one behind the other; or they are too many. -/
def WrittenEnd (L : List ByteArray) (w : World) (e : Ending) (w' : World) : Prop :=
  ∃ (s : ByteArray) (ok : Bool), e = .returned (.tuple #[.string s, .bool ok]) ∧ (ok = true → s.data.toList = framesT (L.map fun b => b.data.toList) ∧ (∀ b ∈ L, b.size ≤ 3000) ∧ s.size ≤ 200000 ∧ L.length ≤ 50) ∧ Below w.heap.size w w'
theorem written_no {L : List ByteArray} {w w' : World} {s : ByteArray} (hB : Below w.heap.size w w') : WrittenEnd L w (.returned (.tuple #[.string s, .bool false])) w' :=
  ⟨_, _, rfl, (fun h => by cases h), hB⟩

theorem frameT_len (b : List UInt8) (h : b.length ≤ 3000) : (frameT b).length ≤ 3100 := by
  unfold frameT
  have := decDigits_len 4 b.length (by omega) (by have : (10 : Nat) ^ 4 = 10000 := by decide
                                                  omega)
  simp only [List.length_append, List.length_cons]
  have h15 : fMark.length = 15 := rfl
  have h4 : fEnd.length = 4 := rfl
  omega

set_option maxHeartbeats 2000000 in
theorem written_any (A : Option Addr) (c : Nat) (L : List ByteArray) (w : World) (hE : EnvF w) (hL : StrS w w.heap.size A L) (hl : L.length ≤ 9223372036854775807) (hls : ∀ b ∈ L, b.size ≤ 9223372036854775807) :
    Calls Tryz.prog 16 #[.slice A L.length c] w (WrittenEnd L w) := by
  have hE0 := Lib.hid hE
  clear hE
  by_cases h50 : 50 < L.length
  · clear hls hL
    go_enter Tryz.func16, Tryz.ntmps16
    go_wp2_with fail
    go_ret2
    exact written_no (Below.refl _ _)
  · replace hL := Lib.hid hL
    replace hls := Lib.hid hls
    go_enter Tryz.func16, Tryz.ntmps16
    go_wp2_with fail
    go_loopw [4, 5] (fun s i wr => ∃ (k : Nat) (S : ByteArray), k ≤ L.length ∧ s = .string S ∧ i = .int .i64 k ∧ S.data.toList = framesT ((L.take k).map fun b => b.data.toList) ∧ (∀ b ∈ L.take k, b.size ≤ 3000) ∧ S.size ≤ 3100 * k ∧ Below w.heap.size w wr) (fun _ i _ => L.length - (intOf i).toNat)
    case atStart => exact ⟨0, ⟨#[]⟩, Nat.zero_le _, rfl, rfl, rfl, by simp, by show 0 ≤ _; omega, Below.refl _ _⟩
    case round =>
      obtain ⟨k, S, hk, rfl, rfl, hS, hsm, hSs, hB⟩ := hrel
      replace hS := Lib.hid hS
      replace hsm := Lib.hid hsm
      by_cases hlt : k < L.length
      · obtain ⟨ad, rfl, hcell⟩ := (hL.out.below hB).at hlt
        have hxs := hls.out _ (List.getElem_mem hlt)
        have htk : L.take (k + 1) = L.take k ++ [L[k]] := by rw [List.take_add_one, List.getElem?_eq_getElem hlt]; rfl
        obtain ⟨x, hx⟩ : ∃ x, L[k] = x := ⟨_, rfl⟩
        rw [hx] at hcell hxs htk
        have hwr := frmWrite_any x wr (hE0.out.below hB)
        clear hx
        replace hB := Lib.hid hB
        replace htk := Lib.hid htk
        by_cases hbig : 3000 < x.size
        · clear hwr
          go_wp2_with fail
          go_ret2
          exact written_no hB.out
        · by_cases hbs : 6000 < S.size
          · clear hwr
            go_wp2_with fail
            go_ret2
            exact written_no hB.out
          · have hwl : writeL x.data.toList = (frameT x.data.toList, 0) := by unfold writeL; rw [if_neg (by rw [bytes_len]; omega)]
            rw [hwl] at hwr
            have hwr2 := hwr (by omega)
            have hfl := frameT_len x.data.toList (by rw [bytes_len]; omega)
            obtain ⟨F, hF⟩ : ∃ F : ByteArray, (⟨(frameT x.data.toList).toArray⟩ : ByteArray) = F := ⟨_, rfl⟩
            have hFd : F.data.toList = frameT x.data.toList := by rw [← hF]
            have hFs : F.size ≤ 3100 := by rw [← bytes_len, hFd]; exact hfl
            have hadd := add_ok S F (by omega)
            have hcat : (S ++ F).data.toList = framesT ((L.take (k + 1)).map fun b => b.data.toList) := by
              rw [ByteArray.data_append, Array.toList_append, hS.out, hFd, htk.out, List.map_append, List.map_cons, List.map_nil, framesT_snoc]
            have hsm2 : ∀ b ∈ L.take (k + 1), b.size ≤ 3000 := by
              rw [htk.out]
              intro b hb
              rw [List.mem_append, List.mem_singleton] at hb
              rcases hb with hb | hb
              · exact hsm.out b hb
              · subst hb; omega
            have hsz : (S ++ F).size ≤ 3100 * (k + 1) := by rw [ByteArray.size_append]; omega
            clear hwr hwl hfl hFd
            replace hwr2 := Lib.hid hwr2
            replace hF := Lib.hid hF
            replace hcat := Lib.hid hcat
            replace hsm2 := Lib.hid hsm2
            replace hsz := Lib.hid hsz
            go_wp2_with fail
            refine hwr2.out.mono ?_
            rintro e w2 ⟨rfl, hB2⟩
            dsimp only
            rw [hF.out]
            have hB3 := Lib.hid (hB.out.trans (hB2.mono hB.out.size))
            clear hwr2 hcell hB2
            go_wp2_with fail
            go_roundw
            case rel => exact ⟨k + 1, S ++ F, by omega, rfl, by go_num, hcat.out, hsm2.out, hsz.out, hB3.out⟩
            case measure => simp [intOf]; omega
      · have hfull : L.take k = L := List.take_of_length_le (by omega)
        have h1 := hS.out
        have h2 := hsm.out
        rw [hfull] at h1 h2
        have hfin : S.data.toList = framesT (L.map fun b => b.data.toList) ∧ (∀ b ∈ L, b.size ≤ 3000) ∧ S.size ≤ 200000 ∧ L.length ≤ 50 := ⟨h1, h2, by omega, by omega⟩
        clear h1 h2 hfull hS hsm
        replace hfin := Lib.hid hfin
        replace hB := Lib.hid hB
        go_wp2_with fail
        go_ret2
        exact ⟨S, true, rfl, fun _ => hfin.out, hB.out⟩

/-- A string's bytes in new memory. -/
theorem byt_conv (W : World) (s : ByteArray) (hs : s.size ≤ 1099511627776) :
    ∃ (c : Nat) (W' : World), (convert 9 27 (.string s)).run Tryz.prog W = .ok (.slice (some ⟨W.heap.size, 0, none⟩) s.data.toList.length c) W' ∧ Byt W' (some ⟨W.heap.size, 0, none⟩) c s.data.toList (fun _ => False) ∧ Below W.heap.size W W' ∧ W.heap.size < W'.heap.size := by
  refine ⟨grownCap W s.size 0 5, Lib.bytesWorld W 5 s, ?_, ?_, Lib.bytesWorld_below _ _ _, by rw [Lib.bytesWorld_size]; omega⟩
  · rw [bytes_len]
    exact Lib.run_convert_string_bytes (P := Tryz.prog) W 9 27 5 s Tryz.underlying9 Tryz.underlying27 Tryz.underlying5
  · refine ⟨by rw [bytes_len]; exact grownCap_ge _ _ _ _, ?_, Or.inr ⟨_, rfl, fun _ => ⟨by rw [Lib.bytesWorld_size]; show W.heap.size < _; omega, fun h => h⟩, fun j u hu => ?_⟩⟩
    · have := grownCap_le_maxLen W s.size 0 5 (by unfold maxLen; omega)
      unfold maxLen at this; omega
    · have hadd : (⟨W.heap.size, 0, none⟩ : Addr).add j = ⟨W.heap.size, j, none⟩ := by unfold Addr.add; split <;> simp_all
      have hj : j < s.size := by
        have := (List.getElem?_eq_some_iff.1 hu).1
        rw [bytes_len] at this; exact this
      rw [hadd, Lib.bytesWorld_cell W _ s j hj]
      simp [List.getD, hu]

set_option maxHeartbeats 1000000 in
theorem all_any (s : ByteArray) (w : World) (hE : EnvF w) (hs : s.size ≤ 500000000) :
    Calls Tryz.prog 17 #[.string s] w (EvEnd 42 w (runF s.data.toList false).evs) := by
  have hbE := hE.base
  have hnew := frmNew_any w (fun j => j = w.heap.size)
  obtain ⟨b, hb⟩ : ∃ b, w.heap.size = b := ⟨_, rfl⟩
  rw [hb] at hnew hbE
  replace hnew := Lib.hid hnew
  have hb' := Lib.hid hb
  clear hb
  have hsl := Lib.hid (bytes_len s)
  go_enter Tryz.func17, Tryz.ntmps17
  go_wp2_with fail
  refine hnew.out.mono ?_
  rintro e w1 ⟨rfl, hR1, hB1⟩
  obtain ⟨c, w2, hcv, hY, hB2, hz2⟩ := byt_conv w1 s (by omega)
  have hbl := hR1.lt
  have hE2 : EnvF w2 := (hE.from hbE hB1).below hB2
  have hfd := frmFeed_any b [] s.data.toList false (fun j => j = b) (fun _ => False) _ _ w2 rfl (fun j hj => by have : j = b := hj; subst this; omega) hbE hE2 (hR1.below hB2) hY (by rw [hsl.out]; simp; omega)
  have hB3 := hB1.trans (hB2.mono (Nat.le_of_lt hbl))
  rw [List.nil_append] at hfd
  clear hnew hR1 hB1 hY hB2 hE2
  replace hfd := Lib.hid hfd
  replace hB3 := Lib.hid hB3
  go_wp2_with fail
  refine hfd.out.mono ?_
  rintro e w3 ⟨v, BB, rfl, h1, h2, h3, h4, h5⟩
  have h6 := hB3.out.trans (below_of_grown h5 (by omega))
  have h7 := Go.Joins.ownsRow_le h3 (base' := b) (by omega)
  clear hfd hB3 h1 h2 h3 h4 h5 hcv
  replace h6 := Lib.hid h6
  replace h7 := Lib.hid h7
  dsimp only
  go_wp2_with fail
  go_ret
  exact ⟨v, rfl, by rw [hb'.out]; exact h7.out, by rw [hb'.out]; exact h6.out⟩
end Go.Proofs.YtccfdecpiekeoaaGreatDoor
