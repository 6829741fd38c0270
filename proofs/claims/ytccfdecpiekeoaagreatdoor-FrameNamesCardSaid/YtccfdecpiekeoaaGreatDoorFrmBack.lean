/-
  FrameBack answers true, whatever the bodies, in every memory in which the library's variables lie as the program lays them.
-/
import Derived.Test.YtccfdecpiekeoaaGreatDoorFraL
namespace Go.Proofs.YtccfdecpiekeoaaGreatDoor
open Go.RowKit

theorem ev_cells_at : ∀ (l : List Evt) (j : Nat) (x : Evt), l[j]? = some x → (evCells l)[j * 2]? = some (.string ⟨x.1.toArray⟩) ∧ (evCells l)[j * 2 + 1]? = some (.int .i64 x.2)
  | [], j, x, h => by simp at h
  | y :: l, 0, x, h => by
    injection h with h
    subst h
    exact ⟨rfl, rfl⟩
  | y :: l, j + 1, x, h => by
    have h' : l[j]? = some x := h
    obtain ⟨h1, h2⟩ := ev_cells_at l j x h'
    have e : evCells (y :: l) = .string ⟨y.1.toArray⟩ :: .int .i64 y.2 :: evCells l := rfl
    rw [e, show (j + 1) * 2 = j * 2 + 2 by omega]
    exact ⟨h1, h2⟩
/-- The two cells of an event. -/
theorem ev_at {w : World} {B t n : Nat} {g cap : Nat} {l : List Evt} (h : w.ownsRow B t 2 (.slice (some ⟨g, 0, none⟩) n cap) l.length (evCells l)) {j : Nat} {x : Evt} (hx : l[j]? = some x) :
    w.cell? ⟨g, j * 2, none⟩ = some (.string ⟨x.1.toArray⟩) ∧ w.cell? ⟨g, j * 2 + 1, none⟩ = some (.int .i64 x.2) := by
  have hadd : ∀ j, (⟨g, 0, none⟩ : Addr).add j = ⟨g, j, none⟩ := by intro j; unfold Addr.add; split <;> simp_all
  obtain ⟨h1, h2⟩ := ev_cells_at l j x hx
  have c1 := h.cells (g := g) rfl _ _ h1
  have c2 := h.cells (g := g) rfl _ _ h2
  rw [hadd] at c1 c2
  exact ⟨c1, c2⟩

set_option maxHeartbeats 2000000 in
theorem frameBack_any (A : Option Addr) (c : Nat) (L : List ByteArray) (w : World) (hE : EnvF w) (hL : StrS w w.heap.size A L) (hl : L.length ≤ 9223372036854775807) (hls : ∀ b ∈ L, b.size ≤ 9223372036854775807) :
    Calls Tryz.prog 5 #[.slice A L.length c] w fun en w' => en = .returned (.bool true) ∧ Below w.heap.size w w' := by
  have haw := Lib.hid (awake_any w hE)
  have hwr := Lib.hid (fun W (hE : EnvF W) hL => written_any A c L W hE hL hl hls)
  have hL0 := Lib.hid hL
  have hE0 := Lib.hid hE
  clear hE hL hls
  go_enter Tryz.func5, Tryz.ntmps5
  go_wp2_with fail
  refine haw.out.mono ?_
  rintro e w1 ⟨rfl, hB1⟩
  have hE1 := hE0.out.below hB1
  have hL1 : StrS w1 w1.heap.size A L := fun hp => by
    obtain ⟨ad, q1, q2, q3⟩ := (hL0.out.below hB1) hp
    exact ⟨ad, q1, by have := hB1.size; omega, q3⟩
  have hw2 := hwr.out w1 hE1 hL1
  clear haw hwr hL1
  replace hw2 := Lib.hid hw2
  replace hB1 := Lib.hid hB1
  replace hE1 := Lib.hid hE1
  go_wp2_with fail
  refine hw2.out.mono ?_
  rintro e w2 ⟨s, ok, rfl, hok, hB2⟩
  have hE2 := hE1.out.below hB2
  have hB3 := Lib.hid (hB1.out.trans (hB2.mono hB1.out.size))
  clear hw2 hB1 hE1 hB2
  cases ok
  · clear hok
    go_wp2_with fail
    go_ret
    exact ⟨rfl, hB3.out⟩
  · obtain ⟨h1, h2, h3, h4⟩ := hok rfl
    have hall := all_any s w2 hE2 (by omega)
    rw [h1, run_frames _ (by
      intro b hb
      rw [List.mem_map] at hb
      obtain ⟨x, hx, rfl⟩ := hb
      rw [bytes_len]
      have := h2 x hx; omega)] at hall
    obtain ⟨evs, hevs⟩ : ∃ evs : List Evt, (L.map fun b => b.data.toList).map (fun b => ((b, 0) : Evt)) = evs := ⟨_, rfl⟩
    have hel : evs.length = L.length := by rw [← hevs]; simp
    have hev : ∀ k (h : k < L.length), evs[k]? = some (L[k].data.toList, 0) := fun k h => by rw [← hevs]; simp [h]
    rw [hevs] at hall
    clear h1 h2 hok hevs hE2
    replace hall := Lib.hid hall
    replace hev := Lib.hid hev
    replace hel := Lib.hid hel
    go_wp2_with fail
    refine hall.out.mono ?_
    rintro e w3 ⟨v, rfl, hown, hB4⟩
    rw [hel.out] at hown
    have hB5 := hB3.out.trans (hB4.mono hB3.out.size)
    have hL5 := hL0.out.below hB5
    obtain ⟨AA, cc, rfl⟩ := own_form hown
    clear hall hB3 hB4
    replace hown := Lib.hid hown
    replace hB5 := Lib.hid hB5
    replace hL5 := Lib.hid hL5
    go_wp2_with fail
    go_loopw [6] (fun i wr => ∃ k n : Nat, k ≤ L.length ∧ i = .int .i64 k ∧ wr = w3.drewN n) (fun i _ => L.length - (intOf i).toNat)
    case atStart => exact ⟨0, 0, Nat.zero_le _, rfl, rfl⟩
    case round =>
      obtain ⟨k, n, hk, rfl, rfl⟩ := hrel
      by_cases hlt : k < L.length
      · obtain ⟨ad, rfl, hcell⟩ := hL5.out.at hlt
        obtain ⟨g, cap, hform⟩ := Go.Joins.ownsRow_form hown.out (by omega)
        injection hform with q1 q2 q3
        subst q1
        subst q3
        have hown' := hown.out
        rw [← hel.out] at hown'
        obtain ⟨hc0, hc1⟩ := ev_at hown' (hev.out k hlt)
        simp only at hc0 hc1
        rw [fbytes] at hc0
        obtain ⟨x, hx⟩ : ∃ x, L[k] = x := ⟨_, rfl⟩
        rw [hx] at hcell hc0
        clear hx hown'
        go_wp2_with fail
        go_quiet (fail)
        go_wp2_with fail
        go_roundw
        case rel => exact ⟨k + 1, n + nq, by omega, by go_num, by first | rfl | rw [World.drewN_drewN]⟩
        case measure => simp [intOf]; omega
      · go_wp2_with fail
        go_ret
        exact ⟨rfl, bel_drewN hB5.out n⟩
end Go.Proofs.YtccfdecpiekeoaaGreatDoor
