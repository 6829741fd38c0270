/-
  The walk of rostrumlaw07.weight.
-/
import Derived.Test.YtamcbgkppgdniaaGreatDoorJma
import Derived.Test.YtamcbgkppgdniaaGreatDoorJsW
import Derived.Test.YtamcbgkppgdniaaGreatDoorJsG
namespace Go.Proofs.YtamcbgkppgdniaaGreatDoor
open Go.RowKit

def WeightEnd7 (j : Jsn) (w : World) (e : Ending) (w' : World) : Prop := ∃ m : Nat, e = .returned (.int .i64 m) ∧ (2000 ≤ m ∨ m = jw j) ∧ m ≤ jw j ∧ Below w.heap.size w w'
set_option maxRecDepth 100000 in
set_option maxHeartbeats 2000000 in
theorem weight7_any : ∀ (j : Jsn) (X : Nat → Prop) (w : World) (vn vl : Value), JV w X j vn vl → jbulk j ≤ 1000000000000000 →
    Calls Tryz.prog 29 #[.agg #[.int .u8 j.kind, .string j.text, vn, vl]] w (WeightEnd7 j w) := by
  refine Jsn.ind fun k s n l ih X w vn vl hV hbk => ?_
  obtain ⟨hs, hn, hl, hns, hkids⟩ := bulk_parts hbk
  dsimp only at hl hkids hn hs hns
  have hjw := jw_bulk ⟨k, s, n, l⟩
  rw [jw_eq] at hjw
  have hjwb : 1 + s.size / 64 + n.length + nsum n + jws l ≤ 1000000000000000 := by omega
  have hnam := hV.names
  obtain ⟨An, cn, rfl⟩ := hnam.len
  obtain ⟨A, c, zs, rfl, hz, h2, h3⟩ := hV.elems
  dsimp only at hnam ⊢
  have hlen : zs.length = l.length := by rw [← hz, List.length_map]
  rw [← hlen] at hl
  have hB0 : Below w.heap.size w (w.alloc (.cells #[.int .u8 k, .string s, .slice An n.length cn, .slice A zs.length c] 25)) := (Below.refl _ _).alloc (Nat.le_refl _) _
  have hat := Lib.hid (fun (i : Nat) (hi : i < n.length) => hnam.at hB0 hi)
  have hw := Lib.hid (fun (wr : World) (i : Nat) (hB : Below w.heap.size w wr) (hi : i < zs.length) => JV.at h2 h3 hB hi)
  have hb1 : ∀ x ∈ l, jbulk x ≤ 1000000000000000 := fun x hx => by have := hkids x hx; omega
  have hsz0 : ∀ (i : Nat) (hi : i < n.length), n[i].size ≤ 1000000000000000 := fun i hi => hns _ (List.getElem_mem hi)
  clear hV h2 h3 hnam hkids hlen hbk hjw hns
  replace ih := Lib.hid ih
  replace hb1 := Lib.hid hb1
  replace hz := Lib.hid hz
  replace hB0 := Lib.hid hB0
  replace hsz0 := Lib.hid hsz0
  obtain ⟨P, hP⟩ : ∃ P, 1 + s.size / 64 + n.length = P := ⟨_, rfl⟩
  obtain ⟨T, hT⟩ : ∃ T, nsum n = T := ⟨_, rfl⟩
  obtain ⟨U, hU⟩ : ∃ U, jws l = U := ⟨_, rfl⟩
  have hjwE := jw_eq k s n l
  rw [hP, hT, hU] at hjwb hjwE
  replace hjwE := Lib.hid hjwE
  replace hT := Lib.hid hT
  replace hU := Lib.hid hU
  have hPe : (1 : Int) + (s.size : Int) / 64 + (n.length : Int) = (P : Int) := by omega
  have hP0 := Lib.hid hP
  clear hP
  replace hPe := Lib.hid hPe
  go_enter Tryz.func29, Tryz.ntmps29
  go_wp2_with fail
  go_loop [3, 4] (fun v i => ∃ q m : Nat, q ≤ n.length ∧ i = .int .i64 q ∧ v = .int .i64 m ∧ (2000 ≤ m ∨ m = P + nsum (n.take q)) ∧ m ≤ P + nsum (n.take q)) (fun _ i => n.length - (intOf i).toNat)
  case atStart => exact ⟨0, P, Nat.zero_le _, rfl, by rw [hPe.out], Or.inr (by simp [nsum]), by omega⟩
  case round =>
    obtain ⟨q, m, hq, rfl, rfl, hm, hmle⟩ := hrel
    have htk := nsum_take n q
    rw [hT.out] at htk
    have hmb : m ≤ 1000000000000000 := by omega
    by_cases hgo : q < n.length ∧ m < 2000
    · obtain ⟨hlt, hm2⟩ := hgo
      obtain ⟨g1, o1, rfl, y1⟩ := hat.out q hlt
      have hsn : nsum (n.take (q + 1)) = nsum (n.take q) + (n[q]).size / 64 := by
        rw [List.take_add_one, List.getElem?_eq_getElem hlt, nsum_app]; show _ + nsum [n[q]] = _; rw [nsum_one]
      have hsq := hsz0.out q hlt
      obtain ⟨S, hS⟩ : ∃ S, n[q] = S := ⟨_, rfl⟩
      rw [hS] at y1 hsn hsq
      have hq0 : (0 : Int) ≤ (q : Int) := by omega
      have hnx : (2000 ≤ m + S.size / 64 ∨ m + S.size / 64 = P + nsum (n.take (q + 1))) ∧ m + S.size / 64 ≤ P + nsum (n.take (q + 1)) := by omega
      have hcast : (m : Int) + (S.size : Int) / 64 = ((m + S.size / 64 : Nat) : Int) := by omega
      clear hS hsn hm hmle htk hat hw ih
      replace hnx := Lib.hid hnx
      replace hcast := Lib.hid hcast
      go_wp2_with fail
      go_round
      case rel => exact ⟨q + 1, m + S.size / 64, by omega, by go_num, by rw [hcast.out], hnx.out.1, hnx.out.2⟩
      case measure => simp [intOf]; omega
    · have hx : (2000 ≤ m ∨ m = P + T) ∧ m ≤ P + T := by
        refine ⟨?_, by omega⟩
        rcases hm with h | h
        · exact Or.inl h
        · by_cases hm2 : 2000 ≤ m
          · exact Or.inl hm2
          · right
            have hql : n.length ≤ q := by
              rcases Nat.lt_or_ge q n.length with h2 | h2
              · exact absurd ⟨h2, by omega⟩ hgo
              · exact h2
            rw [List.take_of_length_le hql, hT.out] at h
            exact h
      have hgd : q < n.length → ¬ m < 2000 := fun h1 h2 => hgo ⟨h1, h2⟩
      clear hm hmle htk hat hgo
      obtain ⟨hx1, hx2⟩ := hx
      have hC1 := Lib.hid (Cel.fresh w 25 #[.int .u8 k, .string s, .slice An n.length cn, .slice A zs.length c])
      replace hx1 := Lib.hid hx1
      have hUt : ∀ q, jws ((zs.take q).map (·.1)) ≤ U := fun q => by
        have := jws_app ((zs.take q).map (·.1)) ((zs.drop q).map (·.1))
        rw [← List.map_append, List.take_append_drop, hz.out, hU.out] at this; omega
      replace hUt := Lib.hid hUt
      by_cases hlt : q < n.length
      all_goals
        try (have hgd2 := hgd hlt)
        clear hgd
        go_wp2_with fail
        go_loopw [3, 5] (fun v i wr => ∃ q m : Nat, q ≤ zs.length ∧ i = .int .i64 q ∧ v = .int .i64 m ∧ (2000 ≤ m ∨ m = P + T + jws ((zs.take q).map (·.1))) ∧ m ≤ P + T + jws ((zs.take q).map (·.1)) ∧ Cel wr w.heap.size 25 #[.int .u8 k, .string s, .slice An n.length cn, .slice A zs.length c] ∧ Below w.heap.size w wr) (fun _ i _ => zs.length - (intOf i).toNat)
        case atStart => exact ⟨0, m, Nat.zero_le _, rfl, rfl, by simpa [jws] using hx1.out, by simpa [jws] using hx2, hC1.out, hB0.out⟩
        case round =>
          obtain ⟨q2, m2, hq2, rfl, rfl, hm2, hle2, hCl, hB⟩ := hrel
          have x13 : wr.cell? ⟨w.heap.size, 3, none⟩ = some (.slice A zs.length c) := hCl.cell 3
          have hsz := hCl.lt
          have hu := hUt.out q2
          have hmb2 : m2 ≤ 1000000000000000 := by omega
          by_cases hgo2 : q2 < zs.length ∧ m2 < 2000
          · obtain ⟨hlt2, hm20⟩ := hgo2
            obtain ⟨g, o, ⟨x, vx, vy⟩, hzq, hzm, rfl, hVz, a0, a1, a2, a3⟩ := hw.out wr q2 hB hlt2
            dsimp only at hVz a0 a1 a2 a3
            have hxm : x ∈ l := by rw [← hz.out]; exact List.mem_map_of_mem (f := (·.1)) hzm
            obtain ⟨Ax, nx, cx, Ay, ny, cy, rfl, rfl⟩ := hVz.forms
            have hsn : jws ((zs.take (q2 + 1)).map (·.1)) = jws ((zs.take q2).map (·.1)) + jw x := by
              rw [List.take_add_one, hzq, List.map_append, jws_app]; show _ + jws [x] = _; rw [jws_one]
            have hu2 := hUt.out (q2 + 1)
            have hcall := ih.out x hxm X wr _ _ hVz (hb1.out x hxm)
            have hnx : ∀ m3, (2000 ≤ m3 ∨ m3 = jw x) → m3 ≤ jw x → (2000 ≤ m2 + m3 ∨ m2 + m3 = P + T + jws ((zs.take (q2 + 1)).map (·.1))) ∧ m2 + m3 ≤ P + T + jws ((zs.take (q2 + 1)).map (·.1)) ∧ m2 + m3 ≤ 2000000000000000 := fun m3 h1 h2 => by
              rw [hsn]
              refine ⟨?_, by omega, by omega⟩
              rcases h1 with h1 | h1
              · left; omega
              · right; omega
            have hny : ∀ w1, Below wr.heap.size wr w1 → Cel w1 w.heap.size 25 #[.int .u8 k, .string s, .slice An n.length cn, .slice (some ⟨g, o, none⟩) zs.length c] ∧ Below w.heap.size w w1 := fun w1 h => ⟨hCl.below h hsz, hB.trans (h.mono (by omega))⟩
            clear hCl hB hVz hzq hzm hw ih hsn hm2 hle2 hu hu2
            replace hcall := Lib.hid hcall
            replace hnx := Lib.hid hnx
            replace hny := Lib.hid hny
            go_wp2_with fail
            refine hcall.out.mono ?_
            rintro e w1 ⟨m3, rfl, hm3, hm4, hB1⟩
            obtain ⟨r1, r2, r3⟩ := hnx.out m3 hm3 hm4
            obtain ⟨r4, r5⟩ := hny.out w1 hB1
            clear hcall hnx hny hm3 hm4 hB1 a0 a1 a2 a3 x13
            replace r1 := Lib.hid r1
            replace r4 := Lib.hid r4
            replace r5 := Lib.hid r5
            go_wp2_with fail
            go_roundw
            case rel => exact ⟨q2 + 1, m2 + m3, by omega, by go_num, by go_num, r1.out, r2, r4.out, r5.out⟩
            case measure => simp [intOf]; omega
          · have hend : (2000 ≤ m2 ∨ m2 = P + T + U) ∧ m2 ≤ P + T + U := by
              refine ⟨?_, by omega⟩
              rcases hm2 with h | h
              · exact Or.inl h
              · by_cases hm3 : 2000 ≤ m2
                · exact Or.inl hm3
                · right
                  have hql : zs.length ≤ q2 := by
                    rcases Nat.lt_or_ge q2 zs.length with h2 | h2
                    · exact absurd ⟨h2, by omega⟩ hgo2
                    · exact h2
                  rw [List.take_of_length_le hql, hz.out, hU.out] at h
                  exact h
            rw [← hjwE.out] at hend
            have hgd3 : q2 < zs.length → ¬ m2 < 2000 := fun h1 h2 => hgo2 ⟨h1, h2⟩
            clear hCl hw ih hgo2 hm2 hle2
            replace hend := Lib.hid hend
            replace hB := Lib.hid hB
            by_cases hlt2 : q2 < zs.length
            all_goals
              try (have hgd4 := hgd3 hlt2)
              clear hgd3
              go_wp2_with fail
              go_ret
              exact ⟨m2, rfl, hend.out.1, hend.out.2, hB.out⟩
end Go.Proofs.YtamcbgkppgdniaaGreatDoor


/-
  The walk of rostrumlaw07.spoil: it writes over a value of the call's own, and nothing else.
-/
namespace Go.Proofs.YtamcbgkppgdniaaGreatDoor
open Go.RowKit

/-- Nothing but the blocks from lo up to ahead of hi has changed. -/
def Spoilt7 (lo hi : Nat) (w w' : World) : Prop := Below lo w w' ∧ ∀ b, hi ≤ b → b < w.heap.size → w'.heap[b]? = w.heap[b]?
theorem Spoilt7.of_below {lo hi : Nat} {w w' : World} (h : Below w.heap.size w w') (hl : lo ≤ w.heap.size) : Spoilt7 lo hi w w' := ⟨h.mono hl, fun b _ hb => h.block b hb⟩
theorem Spoilt7.trans {lo hi a b : Nat} {w w1 w2 : World} (h : Spoilt7 lo hi w w1) (k : Spoilt7 a b w1 w2) (ha : lo ≤ a) (hb : b ≤ hi) : Spoilt7 lo hi w w2 :=
  ⟨h.1.trans (k.1.mono ha), fun c h1 h2 => (k.2 c (by omega) (Nat.lt_of_lt_of_le h2 h.1.size)).trans (h.2 c h1 h2)⟩
theorem Spoilt7.set {lo hi : Nat} {w w1 : World} (h : Spoilt7 lo hi w w1) (p : Addr) (u : Value) (h1 : lo ≤ p.block) (h2 : p.block < hi) : Spoilt7 lo hi w (w1.setCell p u) :=
  ⟨h.1.setCell h1 u, fun c h3 h4 => (Below.heap_setCell w1 p u c (by omega)).trans (h.2 c h3 h4)⟩
def SpoilEnd7 (lo hi : Nat) (w : World) (e : Ending) (w' : World) : Prop := e = .returned (.tuple #[]) ∧ Spoilt7 lo hi w w'

set_option maxRecDepth 100000 in
set_option maxHeartbeats 2000000 in
theorem spoil7_any : ∀ (j : Jsn) (lo hi : Nat) (w : World) (vn vl : Value), OwnJ w 9 25 j lo hi vn vl → lo ≤ hi → hi ≤ w.heap.size → jbulk j ≤ 1000000000000 →
    Calls Tryz.prog 40 #[.agg #[.int .u8 j.kind, .string j.text, vn, vl]] w (SpoilEnd7 lo hi w) := by
  refine Jsn.ind fun k s n l ih lo hi w vn vl hO hlh hhi hbk => ?_
  obtain ⟨_, hn, hl, _, hkids⟩ := bulk_parts hbk
  dsimp only at hl hkids hn ⊢
  rw [OwnJ_eq] at hO
  obtain ⟨_, _, gn, gl, cs, A, c, ws, ⟨An, cn, rfl, hnam⟩, rfl, hrow, hwl, hkid, hsort⟩ := hO
  rw [List.length_map] at hwl
  have hkid' : ∀ (i : Nat) x u, l[i]? = some x → ws[i]? = some u → (∀ (q : Nat) (v : Value), (encJ (x, u.1, u.2.1))[q]? = some v → cs[i * 4 + q]? = some v) ∧ lo ≤ u.2.2.1 ∧ u.2.2.1 ≤ u.2.2.2 ∧ u.2.2.2 ≤ hi ∧
      ¬ (u.2.2.1 ≤ gl ∧ gl < u.2.2.2) ∧ ¬ (u.2.2.1 ≤ gn ∧ gn < u.2.2.2) ∧ OwnJ w 9 25 x u.2.2.1 u.2.2.2 u.1 u.2.1 := fun i x u hx hu =>
    hkid i (x, OwnJ w 9 25 x) u (by rw [List.getElem?_map, hx]; rfl) hu
  have hb1 : ∀ x ∈ l, jbulk x ≤ 1000000000000 := fun x hx => by have := hkids x hx; omega
  clear hkid hkids hbk
  replace ih := Lib.hid ih
  replace hb1 := Lib.hid hb1
  replace hkid' := Lib.hid hkid'
  replace hsort := Lib.hid hsort
  replace hnam := Lib.hid hnam
  replace hrow := Lib.hid hrow
  replace hwl := Lib.hid hwl
  go_enter Tryz.func40, Tryz.ntmps40
  go_wp2_with fail
  go_loopw [2] (fun i wr => ∃ q : Nat, q ≤ l.length ∧ i = .int .i64 q ∧ Cel wr w.heap.size 25 #[.int .u8 k, .string s, .slice An n.length cn, .slice A l.length c] ∧ Spoilt7 lo hi w wr ∧
      (∀ (i : Nat) x u, q ≤ i → l[i]? = some x → ws[i]? = some u → OwnJ wr 9 25 x u.2.2.1 u.2.2.2 u.1 u.2.1) ∧
      (0 < l.length → ∃ cs', Cel wr gl 25 cs' ∧ ∀ i, q * 4 ≤ i → cs'[i]? = cs[i]?) ∧ (gn < w.heap.size → 0 < n.length → wr.heap[gn]? = w.heap[gn]?)) (fun i _ => l.length - (intOf i).toNat)
  case atStart =>
    have hB : Below w.heap.size w (w.alloc (.cells #[.int .u8 k, .string s, .slice An n.length cn, .slice A l.length c] 25)) := (Below.refl _ _).alloc (Nat.le_refl _) _
    refine ⟨0, Nat.zero_le _, rfl, Cel.fresh _ _ _, ?_, fun i x u _ hx hu => ?_, fun hp => ?_, fun hg _ => hB.block gn hg⟩
    · exact Spoilt7.of_below hB (by omega)
    · obtain ⟨_, _, _, q4, _, _, q7⟩ := hkid'.out i x u hx hu
      exact OwnJ.keep x q7 (fun b _ h2 => hB.block b (by omega)) (Nat.le_refl _) (Nat.le_refl _)
    · obtain ⟨q1, q2, q3, _, q5⟩ := hrow.out hp
      exact ⟨cs, q5.alloc _, fun _ _ => rfl⟩
  case round =>
    obtain ⟨q, hq, rfl, hC, hS, hK, hR, hN⟩ := hrel
    have hsz := hC.lt
    have x13 : wr.cell? ⟨w.heap.size, 3, none⟩ = some (.slice A l.length c) := hC.cell 3
    by_cases hlt : q < l.length
    · obtain ⟨rfl, hg1, hg2, hgne, _⟩ := hrow.out (by omega)
      obtain ⟨cs', hCg, hcs⟩ := hR (by omega)
      have hxq : l[q]? = some l[q] := List.getElem?_eq_getElem hlt
      have hxm : l[q] ∈ l := List.getElem_mem hlt
      obtain ⟨x, hx⟩ : ∃ x, l[q] = x := ⟨_, rfl⟩
      rw [hx] at hxq hxm
      have hwlt : q < ws.length := by rw [hwl.out]; exact hlt
      have huq : ws[q]? = some ws[q] := List.getElem?_eq_getElem hwlt
      obtain ⟨⟨vx, vy, a, b⟩, hu⟩ : ∃ u, ws[q] = u := ⟨_, rfl⟩
      rw [hu] at huq
      obtain ⟨k1, k2, k3, k4, k5, k6, _⟩ := hkid'.out q x _ hxq huq
      have hOx := hK q x _ (Nat.le_refl _) hxq huq
      dsimp only at k1 k2 k3 k4 k5 k6 hOx
      obtain ⟨Bx, mx, ex, By, my, ey, rfl, rfl⟩ := hOx.forms
      have hws := hS.1.size
      have hcall := ih.out x hxm a b wr _ _ hOx k3 (by omega) (hb1.out x hxm)
      have hce : ∀ (j : Nat) (v : Value), (encJ (x, .slice Bx mx ex, .slice By my ey))[j]? = some v → wr.cell? ⟨gl, q * 4 + j, none⟩ = some v := fun j v hv => by rw [hCg.cell, hcs _ (by omega)]; exact k1 j v hv
      have c0 := hce 0 _ rfl
      have c1 := hce 1 _ rfl
      have c2 := hce 2 _ rfl
      have c3 := hce 3 _ rfl
      rw [Nat.add_zero] at c0
      have hsz4 : q * 4 + 3 < cs'.size := by
        have := (hCg.cell (q * 4 + 3)).symm.trans c3
        exact (Array.getElem?_eq_some_iff.1 this).1
      have hsr := hsort.out
      clear hx hu hce
      replace hcall := Lib.hid hcall
      replace hK := Lib.hid hK
      replace hcs := Lib.hid hcs
      replace hC := Lib.hid hC
      replace hS := Lib.hid hS
      replace hCg := Lib.hid hCg
      replace hN := Lib.hid hN
      replace k1 := Lib.hid k1
      replace hOx := Lib.hid hOx
      replace hsr := Lib.hid hsr
      replace hxq := Lib.hid hxq
      replace huq := Lib.hid huq
      go_wp2_with fail
      refine hcall.out.mono ?_
      rintro e w2 ⟨rfl, hS2⟩
      have hblk : ∀ d, d < wr.heap.size → (d < a ∨ b ≤ d) → w2.heap[d]? = wr.heap[d]? := fun d h1 h2 => by
        rcases h2 with h2 | h2
        · exact hS2.1.block d h2
        · exact hS2.2 d h2 h1
      have hC2 : Cel w2 w.heap.size 25 _ := (hblk _ hsz (Or.inr (by omega))).trans hC.out
      have hCg2 : Cel w2 gl 25 cs' := (hblk _ hCg.out.lt (by omega)).trans hCg.out
      have hK2 : ∀ (i : Nat) x u, q + 1 ≤ i → l[i]? = some x → ws[i]? = some u → OwnJ w2 9 25 x u.2.2.1 u.2.2.2 u.1 u.2.1 := fun i x u h1 h2 h3 => by
        obtain ⟨_, _, _, r4, _⟩ := hkid'.out i x u h2 h3
        have h5 := hsr.out q i _ u (by omega) huq.out h3
        exact OwnJ.keep x (hK.out i x u (by omega) h2 h3) (fun d h6 h7 => hblk d (by omega) (Or.inr (by dsimp only at h5; omega))) (Nat.le_refl _) (Nat.le_refl _)
      have hN2 : gn < w.heap.size → 0 < n.length → w2.heap[gn]? = w.heap[gn]? := fun h1 h2 => (hblk gn (by omega) (by omega)).trans (hN.out h1 h2)
      have hS3 : Spoilt7 lo hi w w2 := hS.out.trans hS2 k2 k4
      have hnx : ∀ (v0 v1 v2 v3 : Value), Cel ((((w2.setCell ⟨gl, q * 4, none⟩ v0).setCell ⟨gl, q * 4 + 1, none⟩ v1).setCell ⟨gl, q * 4 + 2, none⟩ v2).setCell ⟨gl, q * 4 + 3, none⟩ v3) w.heap.size 25 #[.int .u8 k, .string s, .slice An n.length cn, .slice (some ⟨gl, 0, none⟩) l.length c] ∧
          Spoilt7 lo hi w ((((w2.setCell ⟨gl, q * 4, none⟩ v0).setCell ⟨gl, q * 4 + 1, none⟩ v1).setCell ⟨gl, q * 4 + 2, none⟩ v2).setCell ⟨gl, q * 4 + 3, none⟩ v3) ∧
          (∀ (i : Nat) x u, q + 1 ≤ i → l[i]? = some x → ws[i]? = some u → OwnJ ((((w2.setCell ⟨gl, q * 4, none⟩ v0).setCell ⟨gl, q * 4 + 1, none⟩ v1).setCell ⟨gl, q * 4 + 2, none⟩ v2).setCell ⟨gl, q * 4 + 3, none⟩ v3) 9 25 x u.2.2.1 u.2.2.2 u.1 u.2.1) ∧
          (0 < l.length → ∃ cs', Cel ((((w2.setCell ⟨gl, q * 4, none⟩ v0).setCell ⟨gl, q * 4 + 1, none⟩ v1).setCell ⟨gl, q * 4 + 2, none⟩ v2).setCell ⟨gl, q * 4 + 3, none⟩ v3) gl 25 cs' ∧ ∀ i, (q + 1) * 4 ≤ i → cs'[i]? = cs[i]?) ∧
          (gn < w.heap.size → 0 < n.length → ((((w2.setCell ⟨gl, q * 4, none⟩ v0).setCell ⟨gl, q * 4 + 1, none⟩ v1).setCell ⟨gl, q * 4 + 2, none⟩ v2).setCell ⟨gl, q * 4 + 3, none⟩ v3).heap[gn]? = w.heap[gn]?) := by
        intro v0 v1 v2 v3
        have hfr : ∀ d, d ≠ gl → ((((w2.setCell ⟨gl, q * 4, none⟩ v0).setCell ⟨gl, q * 4 + 1, none⟩ v1).setCell ⟨gl, q * 4 + 2, none⟩ v2).setCell ⟨gl, q * 4 + 3, none⟩ v3).heap[d]? = w2.heap[d]? := fun d hd => by
          rw [Below.heap_setCell _ _ _ _ hd, Below.heap_setCell _ _ _ _ hd, Below.heap_setCell _ _ _ _ hd, Below.heap_setCell _ _ _ _ hd]
        refine ⟨(hfr _ (by omega)).trans hC2, (((hS3.set _ _ hg1 hg2).set _ _ hg1 hg2).set _ _ hg1 hg2).set _ _ hg1 hg2, fun i x u h1 h2 h3 => ?_, fun _ => ⟨_, (((hCg2.set _ v0).set _ v1).set _ v2).set _ v3, fun i hi => ?_⟩, fun h1 h2 => (hfr gn (Ne.symm hgne)).trans (hN2 h1 h2)⟩
        · obtain ⟨_, _, _, _, r5, _⟩ := hkid'.out i x u h2 h3
          exact OwnJ.keep x (hK2 i x u h1 h2 h3) (fun d h6 h7 => hfr d (fun e => r5 (by subst e; exact ⟨h6, h7⟩))) (Nat.le_refl _) (Nat.le_refl _)
        · rw [Array.getElem?_setIfInBounds_ne (by omega), Array.getElem?_setIfInBounds_ne (by omega), Array.getElem?_setIfInBounds_ne (by omega), Array.getElem?_setIfInBounds_ne (by omega)]
          exact hcs.out i (by omega)
      have d0 := (hCg2.cell (q * 4)).trans ((hCg.out.cell (q * 4)).symm.trans c0)
      have d1 := (hCg2.cell (q * 4 + 1)).trans ((hCg.out.cell (q * 4 + 1)).symm.trans c1)
      have d2 := (hCg2.cell (q * 4 + 2)).trans ((hCg.out.cell (q * 4 + 2)).symm.trans c2)
      have d3 := (hCg2.cell (q * 4 + 3)).trans ((hCg.out.cell (q * 4 + 3)).symm.trans c3)
      have f0 := hCg2.froz (q * 4)
      have f1 := hCg2.froz (q * 4 + 1)
      have f2 := hCg2.froz (q * 4 + 2)
      have f3 := hCg2.froz (q * 4 + 3)
      have y13 : w2.cell? ⟨w.heap.size, 3, none⟩ = some (.slice (some ⟨gl, 0, none⟩) l.length c) := hC2.cell 3
      clear hcall hK hcs hC hS hCg hN k1 hOx hsr hxq huq hS2 hblk hC2 hCg2 hK2 hN2 hS3 c0 c1 c2 c3 x13 ih hkid' hsort hnam hrow hb1
      replace hnx := Lib.hid hnx
      go_wp2_with fail
      go_roundw
      case rel => exact ⟨q + 1, by omega, by go_num, (hnx.out _ _ _ _).1, (hnx.out _ _ _ _).2.1, (hnx.out _ _ _ _).2.2.1, (hnx.out _ _ _ _).2.2.2.1, (hnx.out _ _ _ _).2.2.2.2⟩
      case measure => simp [intOf]; omega
    · clear hK hR ih hkid' hsort hb1 hrow hwl
      replace hC := Lib.hid hC
      replace hS := Lib.hid hS
      replace hN := Lib.hid hN
      go_wp2_with fail
      clear x13
      obtain ⟨w0, rfl⟩ : ∃ w0 : World, w0 = wr := ⟨_, rfl⟩
      have hst : 0 < n.length → ∃ cs', Cel w0 gn 9 cs' ∧ n.length ≤ cs'.size := fun hp => by
        obtain ⟨_, _, g2, cc, g3, g4⟩ := hnam.out hp
        refine ⟨cc, (hN.out (by omega) hp).trans g3, ?_⟩
        have := (Array.getElem?_eq_some_iff.1 (g4 (n.length - 1) _ (List.getElem?_eq_getElem (by omega)))).1
        omega
      replace hst := Lib.hid hst
      clear hN
      go_loopw [3] (fun i wr => ∃ q : Nat, q ≤ n.length ∧ i = .int .i64 q ∧ Cel wr w.heap.size 25 #[.int .u8 k, .string s, .slice An n.length cn, .slice A l.length c] ∧ Spoilt7 lo hi w wr ∧ (0 < n.length → ∃ cs', Cel wr gn 9 cs' ∧ n.length ≤ cs'.size)) (fun i _ => n.length - (intOf i).toNat)
      case atStart => exact ⟨0, Nat.zero_le _, rfl, hC.out, hS.out, hst.out⟩
      case round =>
        obtain ⟨q, hq, rfl, hC, hS, hR⟩ := hrel
        have x12 : wr.cell? ⟨w.heap.size, 2, none⟩ = some (.slice An n.length cn) := hC.cell 2
        have hsz := hC.lt
        by_cases hlt2 : q < n.length
        · obtain ⟨rfl, hg1, hg2, _⟩ := hnam.out (by omega)
          obtain ⟨cs', hCg, hcs⟩ := hR (by omega)
          obtain ⟨y, hy⟩ : ∃ y, cs'[q]? = some y := ⟨_, Array.getElem?_eq_getElem (by omega)⟩
          have d0 : wr.cell? ⟨gn, q, none⟩ = some y := (hCg.cell q).trans hy
          have f0 := hCg.froz q
          have hnx : ∀ v, Cel (wr.setCell ⟨gn, q, none⟩ v) w.heap.size 25 #[.int .u8 k, .string s, .slice (some ⟨gn, 0, none⟩) n.length cn, .slice A l.length c] ∧ Spoilt7 lo hi w (wr.setCell ⟨gn, q, none⟩ v) ∧ (0 < n.length → ∃ cs', Cel (wr.setCell ⟨gn, q, none⟩ v) gn 9 cs' ∧ n.length ≤ cs'.size) := fun v =>
            ⟨hC.away (p := ⟨gn, q, none⟩) (by show w.heap.size ≠ gn; omega) v, hS.set _ _ hg1 hg2, fun _ => ⟨_, hCg.set q v, by rw [Array.size_setIfInBounds]; exact hcs⟩⟩
          clear hC hS hR hCg hy hst
          replace hnx := Lib.hid hnx
          go_wp2_with fail
          go_roundw
          case rel => exact ⟨q + 1, by omega, by go_num, (hnx.out _).1, (hnx.out _).2.1, (hnx.out _).2.2⟩
          case measure => simp [intOf]; omega
        · clear hR hC hst
          replace hS := Lib.hid hS
          go_wp2_with fail
          go_end0
          exact ⟨rfl, hS.out⟩
end Go.Proofs.YtamcbgkppgdniaaGreatDoor
