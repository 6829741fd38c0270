/-
  FrameAgain answers true, whatever the bytes and the bodies, in every memory in which the library's variables lie as the program lays them.
-/
import Derived.Test.YtccfdecpiekeoaaGreatDoorFrmBack
namespace Go.Proofs.YtccfdecpiekeoaaGreatDoor
open Go.RowKit

def noHeadB : ByteArray := ⟨#[110, 111, 32, 104, 101, 97, 100, 13, 10, 13, 10]⟩
theorem StrS.more {w : World} {B B' : Nat} {A : Option Addr} {L : List ByteArray} (h : StrS w B A L) (hB : B ≤ B') : StrS w B' A L := fun hp => by
  obtain ⟨ad, q1, q2, q3⟩ := h hp
  exact ⟨ad, q1, by omega, q3⟩
theorem byt_at {w : World} {A : Option Addr} {c : Nat} {h : List UInt8} {X : Nat → Prop} (hb : Byt w A c h X) {k : Nat} (hk : k < h.length) : ∃ ad, A = some ad ∧ w.cell? (ad.add k) = some (.int .u8 (h[k]).toNat) := by
  obtain ⟨_, _, h3⟩ := hb
  rcases h3 with ⟨_, rfl, _⟩ | ⟨ad, rfl, _, h5⟩
  · simp at hk
  · exact ⟨ad, rfl, h5 k _ (List.getElem?_eq_getElem hk)⟩

set_option maxHeartbeats 4000000 in
theorem frameAgain_any (C : Option Addr) (cc : Nat) (bl : List UInt8) (A : Option Addr) (c : Nat) (L : List ByteArray) (w : World) (hE : EnvF w) (hb : Byt w C cc bl (fun _ => False)) (hL : StrS w w.heap.size A L) (hl : L.length ≤ 9223372036854775807) (hls : ∀ b ∈ L, b.size ≤ 9223372036854775807) :
    Calls Tryz.prog 6 #[.slice C bl.length cc, .slice A L.length c] w fun en w' => en = .returned (.bool true) ∧ Below w.heap.size w w' := by
  have haw := Lib.hid (fun W (hE : EnvF W) => awake_any W hE)
  have hwr := Lib.hid (fun W (hE : EnvF W) hL => written_any A c L W hE hL hl hls)
  have hb1 := hb.1
  have hb2 := hb.2.1
  by_cases hbig : 3000 < bl.length
  · go_enter Tryz.func6, Tryz.ntmps6
    go_wp2_with fail
    refine (haw.out _ hE).mono ?_
    rintro en w1 ⟨rfl, hB⟩
    go_wp2
    go_ret
    exact ⟨rfl, hB⟩
  have hL0 := Lib.hid hL
  have hE0 := Lib.hid hE
  have hb0 := Lib.hid hb
  clear hL hb hls
  go_enter Tryz.func6, Tryz.ntmps6
  go_wp2_with fail
  refine (haw.out _ hE).mono ?_
  rintro e w1 ⟨rfl, hB1⟩
  have hE1 := hE0.out.below hB1
  have hL1 : StrS w1 w1.heap.size A L := (hL0.out.below hB1).more hB1.size
  have hY1 := hb0.out.below hB1
  have hw2 := hwr.out w1 hE1 hL1
  clear haw hwr hL1 hE
  replace hw2 := Lib.hid hw2
  replace hB1 := Lib.hid hB1
  replace hE1 := Lib.hid hE1
  replace hY1 := Lib.hid hY1
  go_wp2_with fail
  go_loop [5] (fun i => ∃ k : Nat, k ≤ bl.length ∧ i = .int .i64 k ∧ ∀ c ∈ bl.take k, c ≠ 67) (fun i => bl.length - (intOf i).toNat)
  case atStart => exact ⟨0, Nat.zero_le _, rfl, by simp⟩
  case round =>
    obtain ⟨k, hk, rfl, hno⟩ := hrel
    replace hno := Lib.hid hno
    by_cases hlt : k < bl.length
    · obtain ⟨ad, rfl, hcell⟩ := byt_at hY1.out hlt
      obtain ⟨x, hx⟩ : ∃ x, bl[k] = x := ⟨_, rfl⟩
      have htk : bl.take (k + 1) = bl.take k ++ [x] := by rw [List.take_add_one, List.getElem?_eq_getElem hlt, hx]; rfl
      rw [hx] at hcell
      clear hx
      by_cases h67 : ((x.toNat : Int) == 67) = true
      · clear htk
        go_wp2_with fail
        go_ret
        exact ⟨rfl, hB1.out⟩
      · have h67' : ((x.toNat : Int) == 67) = false := by simpa using h67
        have hno2 : ∀ c ∈ bl.take (k + 1), c ≠ 67 := by
          rw [htk]
          intro c hc
          rw [List.mem_append, List.mem_singleton] at hc
          rcases hc with hc | hc
          · exact hno.out c hc
          · subst hc
            intro e
            apply h67
            rw [e]; rfl
        clear htk h67
        replace hno2 := Lib.hid hno2
        go_wp2_with fail
        go_round
        case rel => exact ⟨k + 1, by omega, by go_num, hno2.out⟩
        case measure => simp [intOf]; omega
    · have hno2 : ∀ c ∈ bl, c ≠ 67 := by
        have := hno.out
        rw [List.take_of_length_le (by omega)] at this
        exact this
      clear hno
      replace hno2 := Lib.hid hno2
      go_wp2_with fail
      refine hw2.out.mono ?_
      rintro e w2 ⟨s, ok, rfl, hok, hB2⟩
      have hE2 := hE1.out.below hB2
      have hB3 := Lib.hid (hB1.out.trans (hB2.mono hB1.out.size))
      have hY2 := hY1.out.below hB2
      clear hw2 hB1 hE1 hB2 hY1
      cases ok
      · clear hok
        replace hY2 := Lib.hid hY2
        go_wp2_with fail
        go_ret
        exact ⟨rfl, hB3.out⟩
      · obtain ⟨h1, h2, h3, h4⟩ := hok rfl
        obtain ⟨Bs, hBs⟩ : ∃ Bs : ByteArray, (⟨bl.toArray⟩ : ByteArray) = Bs := ⟨_, rfl⟩
        have hBd : Bs.data.toList = bl := by rw [← hBs]
        have hBsz : Bs.size ≤ 3000 := by rw [← bytes_len, hBd]; omega
        have hcs := conv_str hY2
        rw [hBs] at hcs
        have ha1 := add_ok noHeadB Bs (by show 11 + Bs.size ≤ _; omega)
        have ha2 := add_ok (noHeadB ++ Bs) s (by rw [ByteArray.size_append]; show 11 + Bs.size + s.size ≤ _; omega)
        have hh : noHeadB = ⟨#[110, 111, 32, 104, 101, 97, 100, 13, 10, 13, 10]⟩ := rfl
        have hall := all_any (noHeadB ++ Bs ++ s) w2 hE2 (by rw [ByteArray.size_append, ByteArray.size_append]; show 11 + Bs.size + s.size ≤ _; omega)
        have hcat : (noHeadB ++ Bs ++ s).data.toList = noHead ++ bl ++ framesT (L.map fun b => b.data.toList) := by
          rw [ByteArray.data_append, Array.toList_append, ByteArray.data_append, Array.toList_append, hBd, h1]; rfl
        rw [hcat, run_again bl _ hno2.out (by
          intro b hb
          rw [List.mem_map] at hb
          obtain ⟨x, hx, rfl⟩ := hb
          rw [bytes_len]
          have := h2 x hx; omega)] at hall
        obtain ⟨evs, hevs⟩ : ∃ evs : List Evt, (([], 72) : Evt) :: (L.map fun b => b.data.toList).map (fun b => ((b, 0) : Evt)) = evs := ⟨_, rfl⟩
        have hel : evs.length = L.length + 1 := by rw [← hevs]; simp
        have hev : ∀ k (h : k < L.length), evs[k + 1]? = some (L[k].data.toList, 0) := fun k h => by rw [← hevs]; simp [h]
        have hev0 : evs[0]? = some ([], 72) := by rw [← hevs]; rfl
        rw [hevs] at hall
        rw [hh] at ha1 ha2 hall
        clear h1 h2 hok hevs hE2 hBs hBd hcat hh hY2 hno2
        replace hall := Lib.hid hall
        replace hev := Lib.hid hev
        replace hel := Lib.hid hel
        replace hev0 := Lib.hid hev0
        go_wp2_with fail
        refine hall.out.mono ?_
        rintro e w3 ⟨v, rfl, hown, hB4⟩
        have hB5 := hB3.out.trans (hB4.mono hB3.out.size)
        have hL5 := hL0.out.below hB5
        obtain ⟨g, cap, hform⟩ := Go.Joins.ownsRow_form hown (by rw [hel.out]; omega)
        subst hform
        obtain ⟨hd0, hd1⟩ := ev_at hown hev0.out
        simp only [Nat.zero_mul, Nat.zero_add] at hd0 hd1
        clear hall hB3 hB4 hcs ha1 ha2
        have hel1 := hel.out
        rw [hel1] at hown ⊢
        clear hel1
        replace hown := Lib.hid hown
        replace hB5 := Lib.hid hB5
        replace hL5 := Lib.hid hL5
        go_wp2_with fail
        clear hd0 hd1
        go_loopw [9] (fun i wr => ∃ k n : Nat, k ≤ L.length ∧ i = .int .i64 k ∧ wr = w3.drewN n) (fun i _ => L.length - (intOf i).toNat)
        case atStart => exact ⟨0, 0, Nat.zero_le _, rfl, rfl⟩
        case round =>
          obtain ⟨q, n, hq, rfl, rfl⟩ := hrel
          by_cases hlt2 : q < L.length
          · obtain ⟨ad, rfl, hcell⟩ := hL5.out.at hlt2
            have hown' := hown.out
            rw [← hel.out] at hown'
            obtain ⟨hc0, hc1⟩ := ev_at hown' (hev.out q hlt2)
            simp only at hc0 hc1
            rw [fbytes] at hc0
            obtain ⟨x, hx⟩ : ∃ x, L[q] = x := ⟨_, rfl⟩
            rw [hx] at hcell hc0
            clear hx hown'
            go_wp2_with fail
            go_quiet (fail)
            go_wp2_with fail
            go_roundw
            case rel => exact ⟨q + 1, n + nq, by omega, by go_num, by first | rfl | rw [World.drewN_drewN]⟩
            case measure => simp [intOf]; omega
          · go_wp2_with fail
            go_ret
            exact ⟨rfl, bel_drewN hB5.out n⟩
end Go.Proofs.YtccfdecpiekeoaaGreatDoor
