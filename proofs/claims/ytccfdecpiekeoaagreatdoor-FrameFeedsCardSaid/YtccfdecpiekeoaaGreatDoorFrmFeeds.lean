/-
  FrameFeeds answers true, whatever the chunks, in every memory in which the library's variables lie as the program lays them.
-/
import Derived.Test.YtccfdecpiekeoaaGreatDoorFraV
import Derived.Test.YtccfdecpiekeoaaGreatDoorFrmChunks
import Derived.Deep.RegionHeld3
namespace Go.Proofs.YtccfdecpiekeoaaGreatDoor
open Go.RowKit

/-- What a loop that writes over a row of the call's own has left. -/
def Scr (w0 w : World) (t sz : Nat) (A : Option Addr) (n B T : Nat) : Prop :=
  (∃ g cs, A = some ⟨g, 0, none⟩ ∧ B ≤ g ∧ g < T ∧ Cel w g t cs ∧ n * sz ≤ cs.size ∧ w0.grownBy w (some g)) ∨ (n = 0 ∧ w = w0)
theorem Scr.start {w : World} {t sz B T n : Nat} {A : Option Addr} (h : OwnC w B T t sz A n) : Scr w w t sz A n B T := by
  by_cases hp : 0 < n
  · obtain ⟨g, cs, q1, q2, q3, q4, q5⟩ := h hp
    exact Or.inl ⟨g, cs, q1, q2, q3, q4, q5, grown_of_below (Below.refl _ _) _⟩
  · exact Or.inr ⟨by omega, rfl⟩
theorem Scr.pos {w0 w : World} {t sz B T n : Nat} {A : Option Addr} (h : Scr w0 w t sz A n B T) (hp : 0 < n) : ∃ g cs, A = some ⟨g, 0, none⟩ ∧ B ≤ g ∧ g < T ∧ Cel w g t cs ∧ n * sz ≤ cs.size ∧ w0.grownBy w (some g) := by
  rcases h with h | ⟨h, _⟩
  · exact h
  · omega
theorem Scr.set {w0 w : World} {t sz B T n g : Nat} {cs : Array Value} (h1 : B ≤ g) (h2 : g < T) (h3 : Cel w g t cs) (h4 : n * sz ≤ cs.size) (h5 : w0.grownBy w (some g)) (i : Nat) (v : Value) : Scr w0 (w.setCell ⟨g, i, none⟩ v) t sz (some ⟨g, 0, none⟩) n B T :=
  Or.inl ⟨g, _, rfl, h1, h2, h3.set i v, by rw [Array.size_setIfInBounds]; exact h4, grown_trans' h5 (grown_set1 h3.lt)⟩
theorem Scr.row {w0 w : World} {t sz B T n : Nat} {A : Option Addr} (h : Scr w0 w t sz A n B T) : ∃ row, w0.grownBy w row ∧ ∀ g, row = some g → B ≤ g ∧ g < T := by
  rcases h with ⟨g, cs, _, q2, q3, _, _, q6⟩ | ⟨_, rfl⟩
  · exact ⟨some g, q6, fun g' e => by injection e with e; subst e; exact ⟨q2, q3⟩⟩
  · exact ⟨none, grown_of_below (Below.refl _ _) _, fun g e => by cases e⟩
theorem below_row {w w' : World} {b : Nat} {row : Option Nat} (h : w.grownBy w' row) (hb : b ≤ w.heap.size) (hr : ∀ g, row = some g → b ≤ g) : Below b w w' :=
  ⟨h.os, h.tape, h.output, h.size, fun k hk => h.block k (Nat.lt_of_lt_of_le hk hb) (fun e => by have := hr _ e.symm; omega)⟩

set_option maxRecDepth 100000 in
set_option maxHeartbeats 4000000 in
theorem frameFeeds_any (A : Option Addr) (c : Nat) (L : List Chk) (w : World) (hE : EnvF w) (hL : ChkS w w.heap.size A L) (hl : L.length ≤ 9223372036854775807) :
    Calls Tryz.prog 7 #[.slice A L.length c] w fun en w' => en = .returned (.bool true) ∧ Below w.heap.size w w' := by
  have haw := Lib.hid (fun W (hE : EnvF W) => awake_any W hE)
  have hlong := Lib.hid (long_any A c L w hL hl)
  have hbE := hE.base
  have hnew := frmNew_any w (fun j => j = w.heap.size)
  have hLF : ∀ W, Below w.heap.size w W → ChkS W w.heap.size A L := fun W h => hL.below rfl h
  obtain ⟨b, hb⟩ : ∃ b, w.heap.size = b := ⟨_, rfl⟩
  rw [hb] at hnew hbE hLF
  have hEF : ∀ W, Below b w W → EnvF W := fun W h => hE.from hbE h
  replace hnew := Lib.hid hnew
  replace hLF := Lib.hid hLF
  replace hEF := Lib.hid hEF
  have hE0 := Lib.hid hE
  clear hL hE
  go_enter Tryz.func7, Tryz.ntmps7
  go_wp2_with fail
  refine hlong.out.mono ?_
  rintro e w0 ⟨r, rfl, hr, rfl⟩
  clear hlong
  cases r
  case true =>
    clear hr
    go_wp2_with fail
    refine (haw.out _ hE0.out).mono ?_
    rintro e w1 ⟨rfl, hB⟩
    go_wp2
    go_ret
    exact ⟨rfl, hB⟩
  case false =>
    obtain ⟨h300, h6⟩ := hr rfl
    clear hr
    go_wp2_with fail
    refine hnew.out.mono ?_
    rintro e w2 ⟨rfl, hR2, hB2⟩
    have hb2 := hR2.lt
    have hb' := Lib.hid hb
    clear hnew hb hE0
    obtain ⟨xb, hxb⟩ : ∃ xb, w2.heap.size = xb := ⟨_, rfl⟩
    have hC3 := Cel.fresh w2 49 #[.string ByteArray.empty, .int .i64 0]
    have hR3 := (hR2.wide (Y := fun j => j = b ∨ j = xb) (fun j hj hy => by rcases hy with hy | hy; exact hy; omega)).alloc (.cells #[.string ByteArray.empty, .int .i64 0] 49)
    have hB3 := hB2.alloc (Nat.le_of_lt hb2) (.cells #[.string ByteArray.empty, .int .i64 0] 49)
    rw [hxb] at hC3 hb2
    clear hR2 hB2
    replace hC3 := Lib.hid hC3
    replace hR3 := Lib.hid hR3
    replace hB3 := Lib.hid hB3
    go_wp2_with fail
    clear hxb
    go_loopw [5] (fun i wr => ∃ (k : Nat) (al : ByteArray) (evs : List Evt) (h : List UInt8) (kk : Bool), k ≤ L.length ∧ i = .int .i64 k ∧ al.size = chkSum (L.take k) ∧ runF al.data.toList false = ⟨evs, h, kk⟩ ∧ RdAt wr b h kk (fun j => j = b ∨ j = xb) ∧ Cel wr xb 49 #[.string al, .int .i64 evs.length] ∧ Below b w wr) (fun i _ => L.length - (intOf i).toNat)
    case atStart => exact ⟨0, ByteArray.empty, [], [], false, Nat.zero_le _, rfl, rfl, rfl, hR3.out, hC3.out, hB3.out⟩
    case round =>
      obtain ⟨k, al, evs, h, kk, hk, rfl, hal, hrun, hR, hC, hB⟩ := hrel
      clear hR3 hC3 hB3
      have hsz := hC.lt
      by_cases hlt : k < L.length
      · have hLr := hLF.out wr hB
        obtain ⟨ad, rfl, hcell⟩ := hLr.at hlt
        have hY := hLr.2 _ (List.getElem_mem hlt)
        have hst := chkSum_take L hlt
        have hle := chkSum_le L (k + 1)
        rw [hst, ← hal] at hle
        rw [← hal] at hst
        rcases hy : L[k] with ⟨Cy, cy, ly⟩
        rw [hy] at hcell hY hst hle
        dsimp only at hcell hY hst hle
        have hcell2 := (World.cell?_alloc_lt wr (.cells #[] 5) (ad.add k) (World.block_lt_of_cell? wr _ hcell)).trans hcell
        have hlen := runF_len _ al.data.toList false (Nat.lt_succ_self _)
        rw [hrun, bytes_len] at hlen
        dsimp only at hlen
        obtain ⟨A1, c1, w4, hrun4, hY4, hB4, hO4⟩ := run_append_fresh (w := wr.alloc (.cells #[] 5)) (hY.alloc _) (g0 := wr.heap.size) (by omega) 27
        have hB4' : Below wr.heap.size wr w4 := ((Below.refl wr.heap.size wr).alloc (Nat.le_refl _) _).trans (hB4.mono (by simp))
        have hs4 : wr.heap.size < w4.heap.size := by have := hB4.size; simp at this; omega
        have hR4 : RdAt w4 b h kk (fun j => (j = b ∨ j = xb) ∨ wr.heap.size ≤ j) := (hR.wide (fun j hj hy => by rcases hy with hy | hy; exact hy; omega)).below hB4'
        have hC4 := hC.below hB4' hsz
        have hYs : Byt w4 A1 c1 ly (fun j => j < wr.heap.size ∨ w4.heap.size ≤ j) := hY4.mono (fun j _ hj => by simp; omega)
        have hOs : OwnC w4 wr.heap.size w4.heap.size 5 1 A1 ly.length := fun hp => by
          obtain ⟨g, cs, q1, q2, q3⟩ := hO4 hp
          exact ⟨g, cs, q1, by simp at q2; omega, q3⟩
        have hBw4 : Below b w w4 := hB.trans (hB4'.mono (by omega))
        clear hO4 hY4 hB4 hLr hC hR hY
        replace hrun4 := Lib.hid hrun4
        replace hYs := Lib.hid hYs
        replace hOs := Lib.hid hOs
        replace hC4 := Lib.hid hC4
        replace hBw4 := Lib.hid hBw4
        replace hB4' := Lib.hid hB4'
        replace hrun := Lib.hid hrun
        replace hal := Lib.hid hal
        replace hst := Lib.hid hst
        replace hy := Lib.hid hy
        replace hB := Lib.hid hB
        have hcp := Lib.hid (frmCopy_any b h kk _ w4 hR4 (by omega))
        replace hR4 := Lib.hid hR4
        go_wp2_with (at_builtin; refine wpList_append_run (by rfl) _ _ 27 27 rfl (.slice (some ⟨wr.heap.size, 0, none⟩) 0 0) (.slice Cy ly.length cy) _ rfl rfl hrun4.out ?_)
        refine hcp.out.mono ?_
        rintro e w5 ⟨rc, rfl, hrc, hRc5, hB5⟩
        have hs5 : w4.heap.size ≤ w5.heap.size := hB5.size
        have hrc5 := hRc5.lt
        have hR5 := hR4.out.below hB5
        have hC5 := hC4.out.below hB5 hC4.out.lt
        have hY5 := hYs.out.below hB5
        have hO5 := hOs.out.keep (fun g _ _ hg => hB5.block g hg)
        have hBw5 := hBw4.out.trans (hB5.mono (by omega))
        have hbX : b < wr.heap.size := by omega
        have hfd := frmFeed_any b h ly kk (fun j => (j = b ∨ j = xb) ∨ (wr.heap.size ≤ j ∧ j < w5.heap.size)) _ _ _ w5 (Or.inl (Or.inl rfl)) (fun j hj => by rcases hj with (hj | hj) | hj <;> omega) hbE (hEF.out _ hBw5) (hR5.mono (fun j hj => by rcases hj with hj | hj; exact Or.inl hj; exact Or.inr hj.1)) hY5 (by omega)
        have hrun2 := run_cut al.data.toList ly false
        rw [hrun.out] at hrun2
        dsimp only at hrun2
        have hlr := runF_len _ (h ++ ly) kk (Nat.lt_succ_self _)
        rw [List.length_append] at hlr
        obtain ⟨r, hr⟩ : ∃ r, runF (h ++ ly) kk = r := ⟨_, rfl⟩
        rw [hr] at hfd hrun2 hlr
        replace hr := Lib.hid hr
        clear hcp hrun4 hR4 hC4 hYs hOs hBw4 hR5 hcell2 hrun
        replace hfd := Lib.hid hfd
        replace hrun2 := Lib.hid hrun2
        replace hRc5 := Lib.hid hRc5
        replace hC5 := Lib.hid hC5
        replace hY5 := Lib.hid hY5
        replace hO5 := Lib.hid hO5
        replace hBw5 := Lib.hid hBw5
        replace hB5 := Lib.hid hB5
        go_wp2_with fail
        refine hfd.out.mono ?_
        rintro e w6 ⟨va, Ba, rfl, hBa1, hBa2, hown6, hR6, hg6⟩
        have hBw6 := hBw5.out.trans (below_of_grown hg6 (by omega))
        have hs6 : w5.heap.size ≤ w6.heap.size := hg6.size
        have hC6 : Cel w6 xb 49 #[.string al, .int .i64 evs.length] := (hg6.block xb (by omega) (fun e => by injection e with e; omega)).trans hC5.out
        have hRc6 := hRc5.out.grow hg6 (fun g e => by injection e with e; subst e; exact ⟨Or.inr (by omega), by omega⟩)
        have hY6 := hY5.out.grown (b := b) (Or.inl hbX) hg6
        have hO6 := hO5.out.keep (w' := w6) (fun g h1 _ h2 => hg6.block g h2 (fun e => by injection e with e; omega))
        have hL6 := hLF.out w6 hBw6
        obtain ⟨ad', hae, hcell6⟩ := hL6.at hlt
        injection hae with hae
        subst hae
        have hYl6 := hL6.2 _ (List.getElem_mem hlt)
        rw [hy.out] at hcell6 hYl6
        dsimp only at hcell6 hYl6
        have hE6 : (runF (al ++ ⟨ly.toArray⟩).data.toList false).evs = evs ++ r.evs := by
          rw [ByteArray.data_append, Array.toList_append]
          show (runF (al.data.toList ++ ly) false).evs = _
          rw [hrun2.out]
        have hrf := refFeed_any xb al evs.length Cy cy ly _ (evs ++ r.evs) w6 hC6 hYl6 (by omega) hE6 (by simp) (by rw [List.length_append]; omega)
        rw [List.drop_left] at hrf
        clear hfd hL6 hYl6 hC6 hRc5 hC5 hY5 hO5 hBw5 hE6
        replace hrf := Lib.hid hrf
        replace hBw6 := Lib.hid hBw6
        replace hRc6 := Lib.hid hRc6
        replace hY6 := Lib.hid hY6
        replace hO6 := Lib.hid hO6
        replace hR6 := Lib.hid hR6
        replace hown6 := Lib.hid hown6
        clear hg6
        dsimp only
        go_wp2_with fail
        refine hrf.out.mono ?_
        rintro e w7 ⟨Ar, cr, rfl, hn7, hC7, hg7⟩
        have hBw7 := hBw6.out.trans ((below_of_grown hg7 (by omega)).mono (by omega))
        have hs7 : w6.heap.size ≤ w7.heap.size := hg7.size
        have hown7 := hown6.out.kept hg7 (Or.inr (fun e => by have := (hown6.out.lt _ e).1; omega))
        have hR7 := hR6.out.grow hg7 (fun g e => by injection e with e; subst e; exact ⟨Or.inl (Or.inl (Or.inr rfl)), by omega⟩)
        have hRc7 := hRc6.out.grow hg7 (fun g e => by injection e with e; subst e; exact ⟨Or.inr (by omega), by omega⟩)
        have hY7 := hY6.out.grown (b := xb) (Or.inl hsz) hg7
        have hO7 := hO6.out.keep (w' := w7) (fun g h1 _ h2 => hg7.block g h2 (fun e => by injection e with e; omega))
        have hfd2 := frmFeed_any rc h ly kk (fun j => j = rc ∨ j < w4.heap.size) _ _ _ w7 (Or.inl rfl) (fun j hj => by rcases hj with hj | hj <;> omega) (hbE.mono (by omega)) (hEF.out w7 hBw7) hRc7 hY7 (by omega)
        rw [hr.out] at hfd2
        clear hrf hBw6 hown6 hR6 hRc6 hY6 hO6 hg7 hRc7 hcell6
        replace hfd2 := Lib.hid hfd2
        replace hBw7 := Lib.hid hBw7
        replace hown7 := Lib.hid hown7
        replace hR7 := Lib.hid hR7
        replace hY7 := Lib.hid hY7
        replace hO7 := Lib.hid hO7
        replace hn7 := Lib.hid hn7
        replace hC7 := Lib.hid hC7
        dsimp only
        go_wp2_with fail
        refine hfd2.out.mono ?_
        rintro e w8 ⟨vd, Bd, rfl, hBd1, hBd2, hown8, _, hg8⟩
        have hBw8 := hBw7.out.trans ((below_of_grown hg8 (by omega)).mono (by omega))
        have hs8 : w7.heap.size ≤ w8.heap.size := hg8.size
        have howna := hown7.out.kept hg8 (Or.inr (fun e => by have := (hown7.out.lt _ e).1; omega))
        have hR8 := hR7.out.grow hg8 (fun g e => by injection e with e; subst e; exact ⟨Or.inl (Or.inr (by omega)), by omega⟩)
        have hC8 : Cel w8 xb 49 _ := (hg8.block xb (by omega) (fun e => by injection e with e; omega)).trans hC7.out
        have hY8 := hY7.out.grown (b := rc) (Or.inr (by omega)) hg8
        have hO8 := hO7.out.keep (w' := w8) (fun g h1 h3 h2 => hg8.block g h2 (fun e => by injection e with e; omega))
        have hn8 := hn7.out.grow hg8 (fun g e => by injection e with e; omega)
        have hL8 := hLF.out w8 hBw8
        obtain ⟨ad', hae, hcell8⟩ := hL8.at hlt
        injection hae with hae
        subst hae
        have hYl8 := hL8.2 _ (List.getElem_mem hlt)
        rw [hy.out] at hcell8 hYl8
        dsimp only at hcell8 hYl8
        obtain ⟨Aa, ca, rfl, hea, _⟩ := evr_own howna
        obtain ⟨A2, c3, he2, hOa⟩ := own_ownC howna
        injection he2 with he2 he4 he3
        subst he2
        subst he3
        clear he4
        obtain ⟨Ad, cd, rfl, hed, _⟩ := evr_own hown8
        have hadb : ad.block < w8.heap.size := by have := World.block_lt_of_cell? w8 _ hcell8; rwa [block_add] at this
        have hbkA : ∀ W, Below w8.heap.size w8 W → Calls Tryz.prog 15 #[.slice Aa r.evs.length ca] W (EvEnd 51 W r.evs) := fun W h => back_any Aa ca r.evs W ((hea.below h).more h.size) (by omega)
        have hbkD : ∀ W, Below w8.heap.size w8 W → Calls Tryz.prog 15 #[.slice Ad r.evs.length cd] W (EvEnd 51 W r.evs) := fun W h => back_any Ad cd r.evs W ((hed.below h).more h.size) (by omega)
        have hsm := fun W A9 c9 (h : Below w8.heap.size w8 W) (h9 : EvR W W.heap.size A9 r.evs) => refSame_any A9 Ar c9 cr r.evs W.heap.size W h9 ((hn8.evr.below h).more h.size) (by omega)
        clear hfd2 hown7 howna hown8 hR7 hC7 hY7 hO7 hn7 hg8 hL8 hea hed hn8 hcell
        replace hbkA := Lib.hid hbkA
        replace hbkD := Lib.hid hbkD
        replace hsm := Lib.hid hsm
        replace hY8 := Lib.hid hY8
        replace hYl8 := Lib.hid hYl8
        replace hO8 := Lib.hid hO8
        replace hOa := Lib.hid hOa
        replace hR8 := Lib.hid hR8
        replace hC8 := Lib.hid hC8
        replace hBw8 := Lib.hid hBw8
        dsimp only
        go_upto_region 15 with (fail)
        refine wp_cut (fun a' wc => ∃ (u : Nat → Value), a' = ⟨#[.slice (some ad) L.length c, undef, u 2, .pointer (some ⟨b, 0, none⟩), .pointer (some ⟨xb, 0, none⟩), .int .i64 k, .slice A1 ly.length c1, u 7, .slice Aa r.evs.length ca, u 9, u 10, u 11, u 12, u 13, u 14, .slice (some ad) L.length c, .bool false, undef, .pointer (some ⟨b, 0, none⟩), .agg #[.string ⟨#[]⟩, .int .i64 0], .pointer (some ⟨xb, 0, none⟩), .pointer (some ⟨b, 0, none⟩), .bool false, u 23, u 24, u 25, u 26, u 27, u 28, u 29, u 30, u 31, u 32, u 33, u 34, u 35, u 36, u 37, u 38, u 39, u 40, u 41, u 42, u 43, u 44, u 45, u 46, u 47, u 48, u 49, u 50, u 51, u 52, u 53, u 54, u 55, u 56, u 57, u 58, u 59, u 60, u 61, u 62, u 63, u 64, u 65, u 66, u 67, u 68, u 69, u 70, u 71, u 72, u 73, u 74, u 75, u 76, u 77, u 78, u 79, u 80, u 81, u 82, u 83, .bool false, u 85, u 86, u 87, u 88, u 89, u 90, u 91, u 92, u 93, u 94, u 95, u 96, u 97, u 98, u 99, u 100, u 101, u 102, u 103, undef], []⟩ ∧ (Below w8.heap.size w8 wc)) ?rest ?first
        case first =>
          intro J K' hJ hK'
          have hk0 : (0 : Int) ≤ (k : Int) := by omega
          have hk1 : (k : Int) < (L.length : Int) := by omega
          clear hLF hEF hbE hO8 hOa hR8 hC8 hBw8 hrun2 haw hal hst hr hB4' hB hb' hk hy hlt hl h300 hle hBw7
          have hq : ∀ W, Below w8.heap.size w8 W → W.cell? (ad.add k) = some (.slice Cy ly.length cy) := fun W h => (h.cell (p := ad.add k) (by rw [block_add]; exact hadb)).trans hcell8
          have hcvA : ∀ W, Below w8.heap.size w8 W → (convert 27 9 (.slice A1 ly.length c1)).run Tryz.prog W = .ok (.string ⟨ly.toArray⟩) W := fun W h => conv_str (hY8.out.below h)
          have hcvB : ∀ W, Below w8.heap.size w8 W → (convert 27 9 (.slice Cy ly.length cy)).run Tryz.prog W = .ok (.string ⟨ly.toArray⟩) W := fun W h => conv_str (hYl8.out.below h)
          replace hq := Lib.hid hq
          replace hcvA := Lib.hid hcvA
          replace hcvB := Lib.hid hcvB
          have hS : ∀ W, Below w8.heap.size w8 W → W.cell? (ad.add k) = some (.slice Cy ly.length cy) ∧ ((convert 27 9 (.slice A1 ly.length c1)).run Tryz.prog W = .ok (.string ⟨ly.toArray⟩) W ∧ (convert 27 9 (.slice Cy ly.length cy)).run Tryz.prog W = .ok (.string ⟨ly.toArray⟩) W) ∧ Below w8.heap.size w8 W := fun W h => ⟨hq.out _ h, ⟨hcvA.out _ h, hcvB.out _ h⟩, h⟩
          replace hS := Lib.hid hS
          clear hq hcvA hcvB hcell8 hY8 hYl8
          go_region_held3 (fun w' => w'.cell? (ad.add k) = some (.slice Cy ly.length cy) ∧ ((convert 27 9 (.slice A1 ly.length c1)).run Tryz.prog w' = .ok (.string ⟨ly.toArray⟩) w' ∧ (convert 27 9 (.slice Cy ly.length cy)).run Tryz.prog w' = .ok (.string ⟨ly.toArray⟩) w') ∧ Below w8.heap.size w8 w')
            (first | exact hS.out _ (bel_drawn w8 1) | exact hS.out _ hZ9 | exact hS.out _ (bel_drewN hZ9 n10) | exact hS.out _ hZ11 | exact hS.out _ (bel_drewN hZ11 n12))
            (first
              | (go_at_call 15; (with_reducible refine (hbkA.out _ ?_).mono ?_); exact bel_drawn w8 1; rintro e w9 ⟨v9, rfl, hown9, hB9⟩; obtain ⟨A9, c9, rfl, he9, _⟩ := evr_own hown9; have hZ9 : Below w8.heap.size w8 w9 := (bel_drawn w8 1).trans hB9; replace he9 := Lib.hid he9; clear hown9 hB9)
              | (go_at_call 14; (with_reducible refine (hsm.out _ A9 c9 ?_ ?_).mono ?_); exact hZ9; exact he9.out; rintro e w10 ⟨rfl, n10, rfl⟩)
              | (go_at_call 15; (with_reducible refine (hbkD.out _ ?_).mono ?_); exact bel_drewN hZ9 n10; rintro e w11 ⟨v11, rfl, hown11, hB11⟩; obtain ⟨A11, c11, rfl, he11, _⟩ := evr_own hown11; have hZ11 : Below w8.heap.size w8 w11 := (bel_drewN hZ9 n10).trans (hB11.mono hZ9.size); replace he11 := Lib.hid he11; clear hown11 hB11)
              | (go_at_call 14; (with_reducible refine (hsm.out _ A11 c11 ?_ ?_).mono ?_); exact hZ11; exact he11.out; rintro e w12 ⟨rfl, n12, rfl⟩))
          all_goals
            go_wp2
            refine Met.intro (hJ _ _ ?_)
            exact meetF (by kernel_rfl) (bel_drewN hZ11 n12)
        case rest =>
          rintro a' wc ⟨u', rfl, hZ⟩
          have hOc := Scr.start (hO8.out.keep (w' := wc) (fun g _ _ hg => hZ.block g hg))
          have hOac := hOa.out.keep (w' := wc) (fun g _ _ hg => hZ.block g hg)
          have hrest : ∀ W, Below b w8 W → RdAt W b r.h r.k (fun j => j = b ∨ j = xb) → Cel W xb 49 #[.string (al ++ ⟨ly.toArray⟩), .int .i64 (evs ++ r.evs).length] →
              ∃ (k2 : Nat) (al2 : ByteArray) (evs2 : List Evt) (h2 : List UInt8) (kk2 : Bool), k2 ≤ L.length ∧ Value.int .i64 ((k : Int) + 1) = .int .i64 k2 ∧ al2.size = chkSum (L.take k2) ∧ runF al2.data.toList false = ⟨evs2, h2, kk2⟩ ∧ RdAt W b h2 kk2 (fun j => j = b ∨ j = xb) ∧ Cel W xb 49 #[.string al2, .int .i64 evs2.length] ∧ Below b w W := by
            intro W h1 h2 h3
            refine ⟨k + 1, al ++ ⟨ly.toArray⟩, evs ++ r.evs, r.h, r.k, by omega, by go_num, ?_, ?_, h2, h3, hBw8.out.trans h1⟩
            · rw [hst.out, ByteArray.size_append]; rfl
            · rw [ByteArray.data_append, Array.toList_append]
              exact hrun2.out
          have hk1 : (k : Int) < (L.length : Int) := by omega
          replace hrest := Lib.hid hrest
          replace hOc := Lib.hid hOc
          replace hOac := Lib.hid hOac
          replace hZ := Lib.hid hZ
          clear haw hLF hEF hbE hB4' hy hal hst hB hbkA hbkD hsm hYl8 hY8 hrun2 hcell8 hr hO8 hOa hBw8 hb' hBw7 hB5
          obtain ⟨wo, rfl⟩ : ∃ wo : World, wo = wr := ⟨_, rfl⟩
          go_wp2_with fail
          go_loopw [13] (fun i wq => ∃ q : Nat, q ≤ ly.length ∧ i = .int .i64 q ∧ Scr wc wq 5 1 A1 ly.length wo.heap.size w4.heap.size) (fun i _ => ly.length - (intOf i).toNat)
          case atStart => exact ⟨0, Nat.zero_le _, rfl, hOc.out⟩
          case round =>
            obtain ⟨q, hq, rfl, hsc⟩ := hrel
            by_cases hlt2 : q < ly.length
            · obtain ⟨g, cs, rfl, hg1, hg2, hCg, hcs, hgr⟩ := hsc.pos (by omega)
              have hx : cs[q]? = some cs[q] := Array.getElem?_eq_getElem (by omega)
              obtain ⟨x, hx2⟩ : ∃ x, cs[q] = x := ⟨_, rfl⟩
              rw [hx2] at hx
              clear hx2
              have hcc : wr.cell? ⟨g, q, none⟩ = some x := (hCg.cell q).trans hx
              have hff := hCg.froz q
              have hnx := fun v => Scr.set hg1 hg2 hCg hcs hgr q v
              clear hsc hx
              replace hCg := Lib.hid hCg
              replace hgr := Lib.hid hgr
              replace hnx := Lib.hid hnx
              go_wp2_with fail
              go_roundw
              case rel => exact ⟨q + 1, by omega, by go_num, hnx.out _⟩
              case measure => simp [intOf]; omega
            · obtain ⟨row, hrow, hrow2⟩ := hsc.row
              have hB3 : Below b wc wr := below_row hrow (by have := hZ.out.size; omega) (fun g e => by have := hrow2 g e; omega)
              have hR9 := ((hR8.out.below hZ.out).grow hrow (fun g e => ⟨Or.inl (Or.inr (by have := hrow2 g e; omega)), by have := hrow2 g e; omega⟩))
              have hC9 : Cel wr xb 49 _ := (hrow.block xb (by have := hZ.out.size; omega) (fun e => by have := hrow2 _ e.symm; omega)).trans (hC8.out.below hZ.out (by omega))
              have hO9 := Scr.start (hOac.out.keep (w' := wr) (fun g hg1 hg2 hg3 => hrow.block g hg3 (fun e => by have := hrow2 _ e.symm; omega)))
              have hsz9 := hrow.size
              have hszc := hZ.out.size
              have hB9 := (hZ.out.mono (show b ≤ w8.heap.size by omega)).trans hB3
              clear hsc hOc hrow hrow2 hB3 hOac hR8 hC8 hZ
              obtain ⟨w9, rfl⟩ : ∃ w9 : World, w9 = wr := ⟨_, rfl⟩
              replace hR9 := Lib.hid hR9
              replace hC9 := Lib.hid hC9
              replace hO9 := Lib.hid hO9
              replace hB9 := Lib.hid hB9
              go_wp2_with fail
              go_loopw [14] (fun i wq => ∃ q : Nat, q ≤ r.evs.length ∧ i = .int .i64 q ∧ Scr w9 wq 42 2 Aa r.evs.length Ba w8.heap.size) (fun i _ => r.evs.length - (intOf i).toNat)
              case atStart => exact ⟨0, Nat.zero_le _, rfl, hO9.out⟩
              case round =>
                obtain ⟨q, hq, rfl, hsc⟩ := hrel
                by_cases hlt2 : q < r.evs.length
                · obtain ⟨g, cs, rfl, hg1, hg2, hCg, hcs, hgr⟩ := hsc.pos (by omega)
                  have hx : cs[q * 2]? = some cs[q * 2] := Array.getElem?_eq_getElem (by omega)
                  obtain ⟨x, hx2⟩ : ∃ x, cs[q * 2] = x := ⟨_, rfl⟩
                  rw [hx2] at hx
                  clear hx2
                  have hcc : wr.cell? ⟨g, q * 2, none⟩ = some x := (hCg.cell _).trans hx
                  have hff := hCg.froz (q * 2)
                  have hnx := fun v => Scr.set hg1 hg2 hCg hcs hgr (q * 2) v
                  clear hsc hx
                  replace hCg := Lib.hid hCg
                  replace hgr := Lib.hid hgr
                  replace hnx := Lib.hid hnx
                  go_wp2_with fail
                  go_roundw
                  case rel => exact ⟨q + 1, by omega, by go_num, hnx.out _⟩
                  case measure => simp [intOf]; omega
                · obtain ⟨row, hrow, hrow2⟩ := hsc.row
                  have hB3 : Below b w9 wr := below_row hrow (by omega) (fun g e => by have := hrow2 g e; omega)
                  have hR10 := (hR9.out.grow hrow (fun g e => ⟨Or.inr (by have := hrow2 g e; omega), by have := hrow2 g e; omega⟩)).mono (Y := fun j => j = b ∨ j = xb) (fun j hj => Or.inl (Or.inl hj))
                  have hC10 : Cel wr xb 49 _ := (hrow.block xb (by omega) (fun e => by have := hrow2 _ e.symm; omega)).trans hC9.out
                  have hfin := hrest.out wr (hB9.out.trans hB3) hR10 hC10
                  clear hsc hrow hrow2 hB3 hR9 hC9 hO9 hrest hB9
                  replace hfin := Lib.hid hfin
                  replace hR10 := Lib.hid hR10
                  replace hC10 := Lib.hid hC10
                  go_wp2_with fail
                  go_roundw
                  case rel => exact hfin.out
                  case measure => simp [intOf]; omega
      · go_wp2_with fail
        refine (haw.out _ (hEF.out _ hB)).mono ?_
        rintro e w9 ⟨rfl, hB9⟩
        go_wp2
        go_ret
        exact ⟨rfl, by rw [hb'.out]; exact hB.trans (hB9.mono (by omega))⟩
end Go.Proofs.YtccfdecpiekeoaaGreatDoor
