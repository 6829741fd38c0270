/-
  The walk of rostrumlaw05.weight.
-/
import Derived.Test.YtblohaljnleeiaaGreatDoorJma
import Derived.Test.YtblohaljnleeiaaGreatDoorJsW
namespace Go.Proofs.YtblohaljnleeiaaGreatDoor
open Go.RowKit

def WeightEnd (j : Jsn) (w : World) (e : Ending) (w' : World) : Prop := ∃ m : Nat, e = .returned (.int .i64 m) ∧ (2000 ≤ m ∨ m = jw j) ∧ m ≤ jw j ∧ Below w.heap.size w w'
set_option maxRecDepth 100000 in
set_option maxHeartbeats 2000000 in
theorem weight_any : ∀ (j : Jsn) (X : Nat → Prop) (w : World) (vn vl : Value), JV w X j vn vl → jbulk j ≤ 1000000000000000 →
    Calls Tryz.prog 46 #[.agg #[.int .u8 j.kind, .string j.text, vn, vl]] w (WeightEnd j w) := by
  refine Jsn.ind fun k s n l ih X w vn vl hV hbk => ?_
  obtain ⟨hs, hn, hl, hns, hkids⟩ := bulk_parts hbk
  dsimp only at hl hkids hn hs hns
  have hjw := jw_bulk ⟨k, s, n, l⟩
  rw [jw_eq] at hjw
  have hjwb : 1 + s.size / 64 + n.length + nsum n + jws l ≤ 1000000000000000 := by omega
  have hnam := hV.names
  obtain ⟨An, cn, rfl⟩ := hnam.len
  obtain ⟨A, c, zs, rfl, hz, h2, h3⟩ := hV.elems
  dsimp only at hnam ⊢
  have hlen : zs.length = l.length := by rw [← hz, List.length_map]
  rw [← hlen] at hl
  have hB0 : Below w.heap.size w (w.alloc (.cells #[.int .u8 k, .string s, .slice An n.length cn, .slice A zs.length c] 25)) := (Below.refl _ _).alloc (Nat.le_refl _) _
  have hat := Lib.hid (fun (i : Nat) (hi : i < n.length) => hnam.at hB0 hi)
  have hw := Lib.hid (fun (wr : World) (i : Nat) (hB : Below w.heap.size w wr) (hi : i < zs.length) => JV.at h2 h3 hB hi)
  have hb1 : ∀ x ∈ l, jbulk x ≤ 1000000000000000 := fun x hx => by have := hkids x hx; omega
  have hsz0 : ∀ (i : Nat) (hi : i < n.length), n[i].size ≤ 1000000000000000 := fun i hi => hns _ (List.getElem_mem hi)
  clear hV h2 h3 hnam hkids hlen hbk hjw hns
  replace ih := Lib.hid ih
  replace hb1 := Lib.hid hb1
  replace hz := Lib.hid hz
  replace hB0 := Lib.hid hB0
  replace hsz0 := Lib.hid hsz0
  obtain ⟨P, hP⟩ : ∃ P, 1 + s.size / 64 + n.length = P := ⟨_, rfl⟩
  obtain ⟨T, hT⟩ : ∃ T, nsum n = T := ⟨_, rfl⟩
  obtain ⟨U, hU⟩ : ∃ U, jws l = U := ⟨_, rfl⟩
  have hjwE := jw_eq k s n l
  rw [hP, hT, hU] at hjwb hjwE
  replace hjwE := Lib.hid hjwE
  replace hT := Lib.hid hT
  replace hU := Lib.hid hU
  have hPe : (1 : Int) + (s.size : Int) / 64 + (n.length : Int) = (P : Int) := by omega
  have hP0 := Lib.hid hP
  clear hP
  replace hPe := Lib.hid hPe
  go_enter Tryz.func46, Tryz.ntmps46
  go_wp2_with fail
  go_loop [3, 4] (fun v i => ∃ q m : Nat, q ≤ n.length ∧ i = .int .i64 q ∧ v = .int .i64 m ∧ (2000 ≤ m ∨ m = P + nsum (n.take q)) ∧ m ≤ P + nsum (n.take q)) (fun _ i => n.length - (intOf i).toNat)
  case atStart => exact ⟨0, P, Nat.zero_le _, rfl, by rw [hPe.out], Or.inr (by simp [nsum]), by omega⟩
  case round =>
    obtain ⟨q, m, hq, rfl, rfl, hm, hmle⟩ := hrel
    have htk := nsum_take n q
    rw [hT.out] at htk
    have hmb : m ≤ 1000000000000000 := by omega
    by_cases hgo : q < n.length ∧ m < 2000
    · obtain ⟨hlt, hm2⟩ := hgo
      obtain ⟨g1, o1, rfl, y1⟩ := hat.out q hlt
      have hsn : nsum (n.take (q + 1)) = nsum (n.take q) + (n[q]).size / 64 := by
        rw [List.take_add_one, List.getElem?_eq_getElem hlt, nsum_app]; show _ + nsum [n[q]] = _; rw [nsum_one]
      have hsq := hsz0.out q hlt
      obtain ⟨S, hS⟩ : ∃ S, n[q] = S := ⟨_, rfl⟩
      rw [hS] at y1 hsn hsq
      have hq0 : (0 : Int) ≤ (q : Int) := by omega
      have hnx : (2000 ≤ m + S.size / 64 ∨ m + S.size / 64 = P + nsum (n.take (q + 1))) ∧ m + S.size / 64 ≤ P + nsum (n.take (q + 1)) := by omega
      have hcast : (m : Int) + (S.size : Int) / 64 = ((m + S.size / 64 : Nat) : Int) := by omega
      clear hS hsn hm hmle htk hat hw ih
      replace hnx := Lib.hid hnx
      replace hcast := Lib.hid hcast
      go_wp2_with fail
      go_round
      case rel => exact ⟨q + 1, m + S.size / 64, by omega, by go_num, by rw [hcast.out], hnx.out.1, hnx.out.2⟩
      case measure => simp [intOf]; omega
    · have hx : (2000 ≤ m ∨ m = P + T) ∧ m ≤ P + T := by
        refine ⟨?_, by omega⟩
        rcases hm with h | h
        · exact Or.inl h
        · by_cases hm2 : 2000 ≤ m
          · exact Or.inl hm2
          · right
            have hql : n.length ≤ q := by
              rcases Nat.lt_or_ge q n.length with h2 | h2
              · exact absurd ⟨h2, by omega⟩ hgo
              · exact h2
            rw [List.take_of_length_le hql, hT.out] at h
            exact h
      have hgd : q < n.length → ¬ m < 2000 := fun h1 h2 => hgo ⟨h1, h2⟩
      clear hm hmle htk hat hgo
      obtain ⟨hx1, hx2⟩ := hx
      have hC1 := Lib.hid (Cel.fresh w 25 #[.int .u8 k, .string s, .slice An n.length cn, .slice A zs.length c])
      replace hx1 := Lib.hid hx1
      have hUt : ∀ q, jws ((zs.take q).map (·.1)) ≤ U := fun q => by
        have := jws_app ((zs.take q).map (·.1)) ((zs.drop q).map (·.1))
        rw [← List.map_append, List.take_append_drop, hz.out, hU.out] at this; omega
      replace hUt := Lib.hid hUt
      by_cases hlt : q < n.length
      all_goals
        try (have hgd2 := hgd hlt)
        clear hgd
        go_wp2_with fail
        go_loopw [3, 5] (fun v i wr => ∃ q m : Nat, q ≤ zs.length ∧ i = .int .i64 q ∧ v = .int .i64 m ∧ (2000 ≤ m ∨ m = P + T + jws ((zs.take q).map (·.1))) ∧ m ≤ P + T + jws ((zs.take q).map (·.1)) ∧ Cel wr w.heap.size 25 #[.int .u8 k, .string s, .slice An n.length cn, .slice A zs.length c] ∧ Below w.heap.size w wr) (fun _ i _ => zs.length - (intOf i).toNat)
        case atStart => exact ⟨0, m, Nat.zero_le _, rfl, rfl, by simpa [jws] using hx1.out, by simpa [jws] using hx2, hC1.out, hB0.out⟩
        case round =>
          obtain ⟨q2, m2, hq2, rfl, rfl, hm2, hle2, hCl, hB⟩ := hrel
          have x13 : wr.cell? ⟨w.heap.size, 3, none⟩ = some (.slice A zs.length c) := hCl.cell 3
          have hsz := hCl.lt
          have hu := hUt.out q2
          have hmb2 : m2 ≤ 1000000000000000 := by omega
          by_cases hgo2 : q2 < zs.length ∧ m2 < 2000
          · obtain ⟨hlt2, hm20⟩ := hgo2
            obtain ⟨g, o, ⟨x, vx, vy⟩, hzq, hzm, rfl, hVz, a0, a1, a2, a3⟩ := hw.out wr q2 hB hlt2
            dsimp only at hVz a0 a1 a2 a3
            have hxm : x ∈ l := by rw [← hz.out]; exact List.mem_map_of_mem (f := (·.1)) hzm
            obtain ⟨Ax, nx, cx, Ay, ny, cy, rfl, rfl⟩ := hVz.forms
            have hsn : jws ((zs.take (q2 + 1)).map (·.1)) = jws ((zs.take q2).map (·.1)) + jw x := by
              rw [List.take_add_one, hzq, List.map_append, jws_app]; show _ + jws [x] = _; rw [jws_one]
            have hu2 := hUt.out (q2 + 1)
            have hcall := ih.out x hxm X wr _ _ hVz (hb1.out x hxm)
            have hnx : ∀ m3, (2000 ≤ m3 ∨ m3 = jw x) → m3 ≤ jw x → (2000 ≤ m2 + m3 ∨ m2 + m3 = P + T + jws ((zs.take (q2 + 1)).map (·.1))) ∧ m2 + m3 ≤ P + T + jws ((zs.take (q2 + 1)).map (·.1)) ∧ m2 + m3 ≤ 2000000000000000 := fun m3 h1 h2 => by
              rw [hsn]
              refine ⟨?_, by omega, by omega⟩
              rcases h1 with h1 | h1
              · left; omega
              · right; omega
            have hny : ∀ w1, Below wr.heap.size wr w1 → Cel w1 w.heap.size 25 #[.int .u8 k, .string s, .slice An n.length cn, .slice (some ⟨g, o, none⟩) zs.length c] ∧ Below w.heap.size w w1 := fun w1 h => ⟨hCl.below h hsz, hB.trans (h.mono (by omega))⟩
            clear hCl hB hVz hzq hzm hw ih hsn hm2 hle2 hu hu2
            replace hcall := Lib.hid hcall
            replace hnx := Lib.hid hnx
            replace hny := Lib.hid hny
            go_wp2_with fail
            refine hcall.out.mono ?_
            rintro e w1 ⟨m3, rfl, hm3, hm4, hB1⟩
            obtain ⟨r1, r2, r3⟩ := hnx.out m3 hm3 hm4
            obtain ⟨r4, r5⟩ := hny.out w1 hB1
            clear hcall hnx hny hm3 hm4 hB1 a0 a1 a2 a3 x13
            replace r1 := Lib.hid r1
            replace r4 := Lib.hid r4
            replace r5 := Lib.hid r5
            go_wp2_with fail
            go_roundw
            case rel => exact ⟨q2 + 1, m2 + m3, by omega, by go_num, by go_num, r1.out, r2, r4.out, r5.out⟩
            case measure => simp [intOf]; omega
          · have hend : (2000 ≤ m2 ∨ m2 = P + T + U) ∧ m2 ≤ P + T + U := by
              refine ⟨?_, by omega⟩
              rcases hm2 with h | h
              · exact Or.inl h
              · by_cases hm3 : 2000 ≤ m2
                · exact Or.inl hm3
                · right
                  have hql : zs.length ≤ q2 := by
                    rcases Nat.lt_or_ge q2 zs.length with h2 | h2
                    · exact absurd ⟨h2, by omega⟩ hgo2
                    · exact h2
                  rw [List.take_of_length_le hql, hz.out, hU.out] at h
                  exact h
            rw [← hjwE.out] at hend
            have hgd3 : q2 < zs.length → ¬ m2 < 2000 := fun h1 h2 => hgo2 ⟨h1, h2⟩
            clear hCl hw ih hgo2 hm2 hle2
            replace hend := Lib.hid hend
            replace hB := Lib.hid hB
            by_cases hlt2 : q2 < zs.length
            all_goals
              try (have hgd4 := hgd3 hlt2)
              clear hgd3
              go_wp2_with fail
              go_ret
              exact ⟨m2, rfl, hend.out.1, hend.out.2, hB.out⟩
end Go.Proofs.YtblohaljnleeiaaGreatDoor
