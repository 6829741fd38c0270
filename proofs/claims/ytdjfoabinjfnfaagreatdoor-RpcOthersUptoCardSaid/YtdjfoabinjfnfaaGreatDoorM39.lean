/-
  The walk of rostrumlaw07.weight.
-/
import Derived.Test.YtdjfoabinjfnfaaGreatDoorM02
import Derived.Test.YtdjfoabinjfnfaaGreatDoorM38
import Derived.Test.YtdjfoabinjfnfaaGreatDoorM29
import Derived.Test.YtdjfoabinjfnfaaGreatDoorM32
import Derived.Test.YtdjfoabinjfnfaaGreatDoorM36
import Derived.Test.YtdjfoabinjfnfaaGreatDoorM20
import Derived.Test.YtdjfoabinjfnfaaGreatDoorM23
namespace Go.Proofs.YtdjfoabinjfnfaaGreatDoor
open Go.RowKit
def WeightEnd7 (j : Jsn) (w : World) (e : Ending) (w' : World) : Prop := ∃ m : Nat, e = .returned (.int .i64 m) ∧ (2000 ≤ m ∨ m = jw j) ∧ m ≤ jw j ∧ Below w.heap.size w w'
set_option maxRecDepth 100000 in
set_option maxHeartbeats 2000000 in
theorem weight7_any : ∀ (j : Jsn) (X : Nat → Prop) (w : World) (vn vl : Value), JV w X j vn vl → jbulk j ≤ 1000000000000000 →
    Calls Tryz.prog 41 #[.agg #[.int .u8 j.kind, .string j.text, vn, vl]] w (WeightEnd7 j w) := by
  refine Jsn.ind fun k s n l ih X w vn vl hV hbk => ?_
  obtain ⟨hs, hn, hl, hns, hkids⟩ := bulk_parts hbk
  dsimp only at hl hkids hn hs hns
  have hjw := jw_bulk ⟨k, s, n, l⟩
  rw [jw_eq] at hjw
  have hjwb : 1 + s.size / 64 + n.length + nsum n + jws l ≤ 1000000000000000 := by omega
  have hnam := hV.names
  obtain ⟨An, cn, rfl⟩ := hnam.len
  obtain ⟨A, c, zs, rfl, hz, h2, h3⟩ := hV.elems
  dsimp only at hnam ⊢
  have hlen : zs.length = l.length := by rw [← hz, List.length_map]
  rw [← hlen] at hl
  have hB0 : Below w.heap.size w (w.alloc (.cells #[.int .u8 k, .string s, .slice An n.length cn, .slice A zs.length c] 25)) := (Below.refl _ _).alloc (Nat.le_refl _) _
  have hat := Lib.hid (fun (i : Nat) (hi : i < n.length) => hnam.at hB0 hi)
  have hw := Lib.hid (fun (wr : World) (i : Nat) (hB : Below w.heap.size w wr) (hi : i < zs.length) => JV.at h2 h3 hB hi)
  have hb1 : ∀ x ∈ l, jbulk x ≤ 1000000000000000 := fun x hx => by have := hkids x hx; omega
  have hsz0 : ∀ (i : Nat) (hi : i < n.length), n[i].size ≤ 1000000000000000 := fun i hi => hns _ (List.getElem_mem hi)
  clear hV h2 h3 hnam hkids hlen hbk hjw hns
  replace ih := Lib.hid ih
  replace hb1 := Lib.hid hb1
  replace hz := Lib.hid hz
  replace hB0 := Lib.hid hB0
  replace hsz0 := Lib.hid hsz0
  obtain ⟨P, hP⟩ : ∃ P, 1 + s.size / 64 + n.length = P := ⟨_, rfl⟩
  obtain ⟨T, hT⟩ : ∃ T, nsum n = T := ⟨_, rfl⟩
  obtain ⟨U, hU⟩ : ∃ U, jws l = U := ⟨_, rfl⟩
  have hjwE := jw_eq k s n l
  rw [hP, hT, hU] at hjwb hjwE
  replace hjwE := Lib.hid hjwE
  replace hT := Lib.hid hT
  replace hU := Lib.hid hU
  have hPe : (1 : Int) + (s.size : Int) / 64 + (n.length : Int) = (P : Int) := by omega
  have hP0 := Lib.hid hP
  clear hP
  replace hPe := Lib.hid hPe
  go_enter Tryz.func41, Tryz.ntmps41
  go_wp2_with fail
  go_loop [3, 4] (fun v i => ∃ q m : Nat, q ≤ n.length ∧ i = .int .i64 q ∧ v = .int .i64 m ∧ (2000 ≤ m ∨ m = P + nsum (n.take q)) ∧ m ≤ P + nsum (n.take q)) (fun _ i => n.length - (intOf i).toNat)
  case atStart => exact ⟨0, P, Nat.zero_le _, rfl, by rw [hPe.out], Or.inr (by simp [nsum]), by omega⟩
  case round =>
    obtain ⟨q, m, hq, rfl, rfl, hm, hmle⟩ := hrel
    have htk := nsum_take n q
    rw [hT.out] at htk
    have hmb : m ≤ 1000000000000000 := by omega
    by_cases hgo : q < n.length ∧ m < 2000
    · obtain ⟨hlt, hm2⟩ := hgo
      obtain ⟨g1, o1, rfl, y1⟩ := hat.out q hlt
      have hsn : nsum (n.take (q + 1)) = nsum (n.take q) + (n[q]).size / 64 := by
        rw [List.take_add_one, List.getElem?_eq_getElem hlt, nsum_app]; show _ + nsum [n[q]] = _; rw [nsum_one]
      have hsq := hsz0.out q hlt
      obtain ⟨S, hS⟩ : ∃ S, n[q] = S := ⟨_, rfl⟩
      rw [hS] at y1 hsn hsq
      have hq0 : (0 : Int) ≤ (q : Int) := by omega
      have hnx : (2000 ≤ m + S.size / 64 ∨ m + S.size / 64 = P + nsum (n.take (q + 1))) ∧ m + S.size / 64 ≤ P + nsum (n.take (q + 1)) := by omega
      have hcast : (m : Int) + (S.size : Int) / 64 = ((m + S.size / 64 : Nat) : Int) := by omega
      clear hS hsn hm hmle htk hat hw ih
      replace hnx := Lib.hid hnx
      replace hcast := Lib.hid hcast
      go_wp2_with fail
      go_round
      case rel => exact ⟨q + 1, m + S.size / 64, by omega, by go_num, by rw [hcast.out], hnx.out.1, hnx.out.2⟩
      case measure => simp [intOf]; omega
    · have hx : (2000 ≤ m ∨ m = P + T) ∧ m ≤ P + T := by
        refine ⟨?_, by omega⟩
        rcases hm with h | h
        · exact Or.inl h
        · by_cases hm2 : 2000 ≤ m
          · exact Or.inl hm2
          · right
            have hql : n.length ≤ q := by
              rcases Nat.lt_or_ge q n.length with h2 | h2
              · exact absurd ⟨h2, by omega⟩ hgo
              · exact h2
            rw [List.take_of_length_le hql, hT.out] at h
            exact h
      have hgd : q < n.length → ¬ m < 2000 := fun h1 h2 => hgo ⟨h1, h2⟩
      clear hm hmle htk hat hgo
      obtain ⟨hx1, hx2⟩ := hx
      have hC1 := Lib.hid (Cel.fresh w 25 #[.int .u8 k, .string s, .slice An n.length cn, .slice A zs.length c])
      replace hx1 := Lib.hid hx1
      have hUt : ∀ q, jws ((zs.take q).map (·.1)) ≤ U := fun q => by
        have := jws_app ((zs.take q).map (·.1)) ((zs.drop q).map (·.1))
        rw [← List.map_append, List.take_append_drop, hz.out, hU.out] at this; omega
      replace hUt := Lib.hid hUt
      by_cases hlt : q < n.length
      all_goals
        try (have hgd2 := hgd hlt)
        clear hgd
        go_wp2_with fail
        go_loopw [3, 5] (fun v i wr => ∃ q m : Nat, q ≤ zs.length ∧ i = .int .i64 q ∧ v = .int .i64 m ∧ (2000 ≤ m ∨ m = P + T + jws ((zs.take q).map (·.1))) ∧ m ≤ P + T + jws ((zs.take q).map (·.1)) ∧ Cel wr w.heap.size 25 #[.int .u8 k, .string s, .slice An n.length cn, .slice A zs.length c] ∧ Below w.heap.size w wr) (fun _ i _ => zs.length - (intOf i).toNat)
        case atStart => exact ⟨0, m, Nat.zero_le _, rfl, rfl, by simpa [jws] using hx1.out, by simpa [jws] using hx2, hC1.out, hB0.out⟩
        case round =>
          obtain ⟨q2, m2, hq2, rfl, rfl, hm2, hle2, hCl, hB⟩ := hrel
          have x13 : wr.cell? ⟨w.heap.size, 3, none⟩ = some (.slice A zs.length c) := hCl.cell 3
          have hsz := hCl.lt
          have hu := hUt.out q2
          have hmb2 : m2 ≤ 1000000000000000 := by omega
          by_cases hgo2 : q2 < zs.length ∧ m2 < 2000
          · obtain ⟨hlt2, hm20⟩ := hgo2
            obtain ⟨g, o, ⟨x, vx, vy⟩, hzq, hzm, rfl, hVz, a0, a1, a2, a3⟩ := hw.out wr q2 hB hlt2
            dsimp only at hVz a0 a1 a2 a3
            have hxm : x ∈ l := by rw [← hz.out]; exact List.mem_map_of_mem (f := (·.1)) hzm
            obtain ⟨Ax, nx, cx, Ay, ny, cy, rfl, rfl⟩ := hVz.forms
            have hsn : jws ((zs.take (q2 + 1)).map (·.1)) = jws ((zs.take q2).map (·.1)) + jw x := by
              rw [List.take_add_one, hzq, List.map_append, jws_app]; show _ + jws [x] = _; rw [jws_one]
            have hu2 := hUt.out (q2 + 1)
            have hcall := ih.out x hxm X wr _ _ hVz (hb1.out x hxm)
            have hnx : ∀ m3, (2000 ≤ m3 ∨ m3 = jw x) → m3 ≤ jw x → (2000 ≤ m2 + m3 ∨ m2 + m3 = P + T + jws ((zs.take (q2 + 1)).map (·.1))) ∧ m2 + m3 ≤ P + T + jws ((zs.take (q2 + 1)).map (·.1)) ∧ m2 + m3 ≤ 2000000000000000 := fun m3 h1 h2 => by
              rw [hsn]
              refine ⟨?_, by omega, by omega⟩
              rcases h1 with h1 | h1
              · left; omega
              · right; omega
            have hny : ∀ w1, Below wr.heap.size wr w1 → Cel w1 w.heap.size 25 #[.int .u8 k, .string s, .slice An n.length cn, .slice (some ⟨g, o, none⟩) zs.length c] ∧ Below w.heap.size w w1 := fun w1 h => ⟨hCl.below h hsz, hB.trans (h.mono (by omega))⟩
            clear hCl hB hVz hzq hzm hw ih hsn hm2 hle2 hu hu2
            replace hcall := Lib.hid hcall
            replace hnx := Lib.hid hnx
            replace hny := Lib.hid hny
            go_wp2_with fail
            refine hcall.out.mono ?_
            rintro e w1 ⟨m3, rfl, hm3, hm4, hB1⟩
            obtain ⟨r1, r2, r3⟩ := hnx.out m3 hm3 hm4
            obtain ⟨r4, r5⟩ := hny.out w1 hB1
            clear hcall hnx hny hm3 hm4 hB1 a0 a1 a2 a3 x13
            replace r1 := Lib.hid r1
            replace r4 := Lib.hid r4
            replace r5 := Lib.hid r5
            go_wp2_with fail
            go_roundw
            case rel => exact ⟨q2 + 1, m2 + m3, by omega, by go_num, by go_num, r1.out, r2, r4.out, r5.out⟩
            case measure => simp [intOf]; omega
          · have hend : (2000 ≤ m2 ∨ m2 = P + T + U) ∧ m2 ≤ P + T + U := by
              refine ⟨?_, by omega⟩
              rcases hm2 with h | h
              · exact Or.inl h
              · by_cases hm3 : 2000 ≤ m2
                · exact Or.inl hm3
                · right
                  have hql : zs.length ≤ q2 := by
                    rcases Nat.lt_or_ge q2 zs.length with h2 | h2
                    · exact absurd ⟨h2, by omega⟩ hgo2
                    · exact h2
                  rw [List.take_of_length_le hql, hz.out, hU.out] at h
                  exact h
            rw [← hjwE.out] at hend
            have hgd3 : q2 < zs.length → ¬ m2 < 2000 := fun h1 h2 => hgo2 ⟨h1, h2⟩
            clear hCl hw ih hgo2 hm2 hle2
            replace hend := Lib.hid hend
            replace hB := Lib.hid hB
            by_cases hlt2 : q2 < zs.length
            all_goals
              try (have hgd4 := hgd3 hlt2)
              clear hgd3
              go_wp2_with fail
              go_ret
              exact ⟨m2, rfl, hend.out.1, hend.out.2, hB.out⟩
theorem wpList_load_allG {P : Program} {ops : Array Oper} {rest : List Oper} {op : Oper} {a : Act} {w : World} {Q : Exit → Act → World → Prop} (hw : Region.wanted op (yielded ops a.tmps) = true) (ty : TypeId) (x : Operand) (ho : op.op = .load ty x)
    (b : Nat) (cs : Array Value) (t : TypeId) (d : TypeDesc) (hx : a.eval x = .pointer (some ⟨b, 0, none⟩)) (hC : Cel w b t cs)
    (hu : P.underlying ty = some d) (hd : d.isRow = true) (hi : (P.info? ty).map (·.size) = some cs.size)
    (h : wpList P ops Q rest (a.put op.dst (.agg cs)) w) : wpList P ops Q (op :: rest) a w :=
  wpList_step fun K hK => by
    rw [if_pos hw]
    exact wp_load_mid ty x ho b 0 hx cs.toList d (fun j v hv => by rw [hC.cell]; simpa using hv) hu hd (by simpa using hi) (by simpa using hK _ _ h)
set_option maxRecDepth 100000 in
set_option maxHeartbeats 8000000 in
theorem to_any (M : Msg) (w : World) (x1 x2 p1 p2 r1 r2 : Value) (hA : MsgJ w M x1 x2 p1 p2 r1 r2) (hbk : MsgBulk M) :
    Calls Tryz.prog 43 #[msgV M x1 x2 p1 p2 r1 r2] w (OfEnd M w) := by
  obtain ⟨ax, ap, ar⟩ := hA
  obtain ⟨k1, k2, k3⟩ := hbk
  have hGi := fun (W : World) (hb : Below w.heap.size w W) => given7_any M.id _ W _ _ (ax.later hb) (by omega)
  have hGp := fun (W : World) (hb : Below w.heap.size w W) => given7_any M.params _ W _ _ (ap.later hb) (by omega)
  have hGr := fun (W : World) (hb : Below w.heap.size w W) => given7_any M.result _ W _ _ (ar.later hb) (by omega)
  obtain ⟨xA, xa, xb, xB, xc, xd, rfl, rfl⟩ := ax.forms
  obtain ⟨pA, pa, pb, pB, pc, pd, rfl, rfl⟩ := ap.forms
  obtain ⟨rA, ra, rb, rB, rc, rd, rfl, rfl⟩ := ar.forms
  obtain ⟨W0, hW0⟩ : ∃ W0, (w.alloc (.cells #[.int .u8 M.kind, .int .u8 M.id.kind, .string M.id.text, .slice xA xa xb, .slice xB xc xd, .string M.method, .int .u8 M.params.kind, .string M.params.text, .slice pA pa pb, .slice pB pc pd, .int .u8 M.result.kind, .string M.result.text, .slice rA ra rb, .slice rB rc rd, .int .i64 M.code, .string M.text] 69)).alloc (.cells #[.int .u8 0, .int .u8 0, .string ⟨#[]⟩, .slice none 0 0, .slice none 0 0, .string ⟨#[]⟩, .int .u8 0, .string ⟨#[]⟩, .slice none 0 0, .slice none 0 0, .int .u8 0, .string ⟨#[]⟩, .slice none 0 0, .slice none 0 0, .int .i64 0, .string ⟨#[]⟩] 73) = W0 := ⟨_, rfl⟩
  have hC1 : Cel W0 w.heap.size 69 #[.int .u8 M.kind, .int .u8 M.id.kind, .string M.id.text, .slice xA xa xb, .slice xB xc xd, .string M.method, .int .u8 M.params.kind, .string M.params.text, .slice pA pa pb, .slice pB pc pd, .int .u8 M.result.kind, .string M.result.text, .slice rA ra rb, .slice rB rc rd, .int .i64 M.code, .string M.text] := by rw [← hW0]; exact (Cel.fresh _ _ _).alloc _
  have hC2 : Cel W0 (w.heap.size + 1) 73 #[.int .u8 0, .int .u8 0, .string ⟨#[]⟩, .slice none 0 0, .slice none 0 0, .string ⟨#[]⟩, .int .u8 0, .string ⟨#[]⟩, .slice none 0 0, .slice none 0 0, .int .u8 0, .string ⟨#[]⟩, .slice none 0 0, .slice none 0 0, .int .i64 0, .string ⟨#[]⟩] := by
    rw [← hW0]
    have := Cel.fresh (w.alloc (.cells #[.int .u8 M.kind, .int .u8 M.id.kind, .string M.id.text, .slice xA xa xb, .slice xB xc xd, .string M.method, .int .u8 M.params.kind, .string M.params.text, .slice pA pa pb, .slice pB pc pd, .int .u8 M.result.kind, .string M.result.text, .slice rA ra rb, .slice rB rc rd, .int .i64 M.code, .string M.text] 69)) 73 #[.int .u8 0, .int .u8 0, .string ⟨#[]⟩, .slice none 0 0, .slice none 0 0, .string ⟨#[]⟩, .int .u8 0, .string ⟨#[]⟩, .slice none 0 0, .slice none 0 0, .int .u8 0, .string ⟨#[]⟩, .slice none 0 0, .slice none 0 0, .int .i64 0, .string ⟨#[]⟩]
    simpa using this
  have hb0 : Below w.heap.size w W0 := by rw [← hW0]; exact ((Below.refl _ _).alloc (Nat.le_refl _) _).alloc (by simp) _
  have hz0 : W0.heap.size = w.heap.size + 2 := by rw [← hW0]; simp
  replace hGi := Lib.hid hGi
  replace hGp := Lib.hid hGp
  replace hGr := Lib.hid hGr
  replace hW0 := Lib.hid hW0
  replace hC1 := Lib.hid (show Cel W0.drew w.heap.size 69 #[.int .u8 M.kind, .int .u8 M.id.kind, .string M.id.text, .slice xA xa xb, .slice xB xc xd, .string M.method, .int .u8 M.params.kind, .string M.params.text, .slice pA pa pb, .slice pB pc pd, .int .u8 M.result.kind, .string M.result.text, .slice rA ra rb, .slice rB rc rd, .int .i64 M.code, .string M.text] from hC1.drew)
  replace hC2 := Lib.hid (show Cel W0.drew (w.heap.size + 1) 73 #[.int .u8 0, .int .u8 0, .string ⟨#[]⟩, .slice none 0 0, .slice none 0 0, .string ⟨#[]⟩, .int .u8 0, .string ⟨#[]⟩, .slice none 0 0, .slice none 0 0, .int .u8 0, .string ⟨#[]⟩, .slice none 0 0, .slice none 0 0, .int .i64 0, .string ⟨#[]⟩] from hC2.drew)
  replace hb0 := Lib.hid (bel_drew hb0)
  have hzd : w.heap.size + 2 ≤ W0.drew.heap.size := by show _ ≤ W0.heap.size; omega
  clear ax ap ar k1 k2 k3 hz0
  obtain ⟨dm, hdm⟩ := msgDesc
  replace hdm := Lib.hid hdm
  unfold msgV
  go_enter Tryz.func43, Tryz.ntmps43
  go_upto_region 1 with fail
  rw [hW0.out]
  clear hW0
  refine wp_region_Q 18 (fun W => Cel W w.heap.size 69 #[.int .u8 M.kind, .int .u8 M.id.kind, .string M.id.text, .slice xA xa xb, .slice xB xc xd, .string M.method, .int .u8 M.params.kind, .string M.params.text, .slice pA pa pb, .slice pB pc pd, .int .u8 M.result.kind, .string M.result.text, .slice rA ra rb, .slice rB rc rd, .int .i64 M.code, .string M.text]) (by kernel_rfl) ?_
  refine wpAnyQ_take (i := 0) (v := .pointer (some ⟨w.heap.size, 0, none⟩)) rfl (by kernel_rfl) (by kernel_rfl) (by kernel_rfl) (by kernel_rfl) (by rfl) (fun _ _ _ h => h) (Or.inl ⟨by rfl, by
    intro w' hSw
    try dsimp only at hSw
    skip
    go_simp⟩) hC1.out ?_
  try simp only [Act.put, List.setIfInBounds_toArray]
  refine wpAnyQ_take (i := 1) (v := .int .u8 M.kind) rfl (by kernel_rfl) (by kernel_rfl) (by kernel_rfl) (by kernel_rfl) (by rfl) (fun _ _ _ h => h) (Or.inl ⟨by rfl, by
    intro w' hSw
    try dsimp only at hSw
    have c0 := hSw.cell 0
    simp only [List.getElem?_toArray, List.getElem?_cons_zero] at c0
    go_simp⟩) hC1.out ?_
  try simp only [Act.put]
  refine wpAnyQ_take (i := 2) (v := .pointer (some ⟨w.heap.size, 1, none⟩)) rfl (by kernel_rfl) (by kernel_rfl) (by kernel_rfl) (by kernel_rfl) (by rfl) (fun _ _ _ h => h) (Or.inl ⟨by rfl, by
    intro w' hSw
    try dsimp only at hSw
    skip
    go_simp⟩) hC1.out ?_
  try simp only [Act.put]
  refine wpAnyQ_take (i := 3) (v := .agg #[.int .u8 M.id.kind, .string M.id.text, .slice xA xa xb, .slice xB xc xd]) rfl (by kernel_rfl) (by kernel_rfl) (by kernel_rfl) (by kernel_rfl) (by rfl) (fun _ _ _ h => h) (Or.inl ⟨by rfl, by
    intro w' hSw
    try dsimp only at hSw
    have c1 := hSw.cell 1
    have c2 := hSw.cell 2
    have c3 := hSw.cell 3
    have c4 := hSw.cell 4
    simp only [List.getElem?_toArray, List.getElem?_cons_zero, List.getElem?_cons_succ] at c1 c2 c3 c4
    go_simp⟩) hC1.out ?_
  try simp only [Act.put]
  refine wpAnyQ_take (i := 5) (v := .pointer (some ⟨w.heap.size, 5, none⟩)) rfl (by kernel_rfl) (by kernel_rfl) (by kernel_rfl) (by kernel_rfl) (by rfl) (fun _ _ _ h => h) (Or.inl ⟨by rfl, by
    intro w' hSw
    try dsimp only at hSw
    skip
    go_simp⟩) hC1.out ?_
  try simp only [Act.put]
  refine wpAnyQ_take (i := 6) (v := .string M.method) rfl (by kernel_rfl) (by kernel_rfl) (by kernel_rfl) (by kernel_rfl) (by rfl) (fun _ _ _ h => h) (Or.inl ⟨by rfl, by
    intro w' hSw
    try dsimp only at hSw
    have c5 := hSw.cell 5
    simp only [List.getElem?_toArray, List.getElem?_cons_zero, List.getElem?_cons_succ] at c5
    go_simp⟩) hC1.out ?_
  try simp only [Act.put]
  refine wpAnyQ_take (i := 7) (v := .pointer (some ⟨w.heap.size, 6, none⟩)) rfl (by kernel_rfl) (by kernel_rfl) (by kernel_rfl) (by kernel_rfl) (by rfl) (fun _ _ _ h => h) (Or.inl ⟨by rfl, by
    intro w' hSw
    try dsimp only at hSw
    skip
    go_simp⟩) hC1.out ?_
  try simp only [Act.put]
  refine wpAnyQ_take (i := 8) (v := .agg #[.int .u8 M.params.kind, .string M.params.text, .slice pA pa pb, .slice pB pc pd]) rfl (by kernel_rfl) (by kernel_rfl) (by kernel_rfl) (by kernel_rfl) (by rfl) (fun _ _ _ h => h) (Or.inl ⟨by rfl, by
    intro w' hSw
    try dsimp only at hSw
    have c6 := hSw.cell 6
    have c7 := hSw.cell 7
    have c8 := hSw.cell 8
    have c9 := hSw.cell 9
    simp only [List.getElem?_toArray, List.getElem?_cons_zero, List.getElem?_cons_succ] at c6 c7 c8 c9
    go_simp⟩) hC1.out ?_
  try simp only [Act.put]
  refine wpAnyQ_take (i := 10) (v := .pointer (some ⟨w.heap.size, 10, none⟩)) rfl (by kernel_rfl) (by kernel_rfl) (by kernel_rfl) (by kernel_rfl) (by rfl) (fun _ _ _ h => h) (Or.inl ⟨by rfl, by
    intro w' hSw
    try dsimp only at hSw
    skip
    go_simp⟩) hC1.out ?_
  try simp only [Act.put]
  refine wpAnyQ_take (i := 11) (v := .agg #[.int .u8 M.result.kind, .string M.result.text, .slice rA ra rb, .slice rB rc rd]) rfl (by kernel_rfl) (by kernel_rfl) (by kernel_rfl) (by kernel_rfl) (by rfl) (fun _ _ _ h => h) (Or.inl ⟨by rfl, by
    intro w' hSw
    try dsimp only at hSw
    have c10 := hSw.cell 10
    have c11 := hSw.cell 11
    have c12 := hSw.cell 12
    have c13 := hSw.cell 13
    simp only [List.getElem?_toArray, List.getElem?_cons_zero, List.getElem?_cons_succ] at c10 c11 c12 c13
    go_simp⟩) hC1.out ?_
  try simp only [Act.put]
  refine wpAnyQ_take (i := 13) (v := .pointer (some ⟨w.heap.size, 14, none⟩)) rfl (by kernel_rfl) (by kernel_rfl) (by kernel_rfl) (by kernel_rfl) (by rfl) (fun _ _ _ h => h) (Or.inl ⟨by rfl, by
    intro w' hSw
    try dsimp only at hSw
    skip
    go_simp⟩) hC1.out ?_
  try simp only [Act.put]
  refine wpAnyQ_take (i := 14) (v := .int .i64 M.code) rfl (by kernel_rfl) (by kernel_rfl) (by kernel_rfl) (by kernel_rfl) (by rfl) (fun _ _ _ h => h) (Or.inl ⟨by rfl, by
    intro w' hSw
    try dsimp only at hSw
    have c14 := hSw.cell 14
    simp only [List.getElem?_toArray, List.getElem?_cons_zero, List.getElem?_cons_succ] at c14
    go_simp⟩) hC1.out ?_
  try simp only [Act.put]
  refine wpAnyQ_take (i := 15) (v := .pointer (some ⟨w.heap.size, 15, none⟩)) rfl (by kernel_rfl) (by kernel_rfl) (by kernel_rfl) (by kernel_rfl) (by rfl) (fun _ _ _ h => h) (Or.inl ⟨by rfl, by
    intro w' hSw
    try dsimp only at hSw
    skip
    go_simp⟩) hC1.out ?_
  try simp only [Act.put]
  refine wpAnyQ_take (i := 16) (v := .string M.text) rfl (by kernel_rfl) (by kernel_rfl) (by kernel_rfl) (by kernel_rfl) (by rfl) (fun _ _ _ h => h) (Or.inl ⟨by rfl, by
    intro w' hSw
    try dsimp only at hSw
    have c15 := hSw.cell 15
    simp only [List.getElem?_toArray, List.getElem?_cons_zero, List.getElem?_cons_succ] at c15
    go_simp⟩) hC1.out ?_
  try simp only [Act.put]
  refine wpAnyQ_one (i := 4) (by kernel_rfl) rfl (fun K hK => ?_)
  go_simp
  refine (hGi.out _ hb0.out).mono ?_
  rintro e w4 ⟨un, ul, rfl, hOu, hb⟩
  obtain ⟨uA, ua, ub, uB, uc, ud, rfl, rfl⟩ := hOu.forms
  have hzu := hb.size
  replace hC1 := Lib.hid (hC1.out.below hb hC1.out.lt)
  replace hC2 := Lib.hid (hC2.out.below hb hC2.out.lt)
  replace hb0 := Lib.hid (hb0.out.trans (hb.mono (by omega)))
  replace hOu := Lib.hid hOu
  clear hb hGi
  refine hK.out _ _ (fun _ => hC1.out) ?_
  clear hK
  try simp only [Act.put, List.setIfInBounds_toArray, List.set_cons_zero, List.set_cons_succ]
  refine wpAnyQ_one (i := 9) (by kernel_rfl) rfl (fun K hK => ?_)
  go_simp
  refine (hGp.out _ hb0.out).mono ?_
  rintro e w9 ⟨tn, tl, rfl, hOt, hb⟩
  obtain ⟨tA, ta, tb, tB, tc, td, rfl, rfl⟩ := hOt.forms
  have hzt := hb.size
  replace hC1 := Lib.hid (hC1.out.below hb hC1.out.lt)
  replace hC2 := Lib.hid (hC2.out.below hb hC2.out.lt)
  replace hb0 := Lib.hid (hb0.out.trans (hb.mono (by omega)))
  replace hOu := Lib.hid (OwnJ.keep (w' := w9) _ hOu.out (fun k _ hk => hb.block k (by omega)) (Nat.le_refl _) (Nat.le_refl _))
  replace hOt := Lib.hid hOt
  clear hb hGp
  refine hK.out _ _ (fun _ => hC1.out) ?_
  clear hK
  try simp only [Act.put, List.setIfInBounds_toArray, List.set_cons_zero, List.set_cons_succ]
  refine wpAnyQ_one (i := 12) (by kernel_rfl) rfl (fun K hK => ?_)
  go_simp
  refine (hGr.out _ hb0.out).mono ?_
  rintro e w12 ⟨zn, zl, rfl, hOz, hb⟩
  obtain ⟨zA, za, zb, zB, zc, zd, rfl, rfl⟩ := hOz.forms
  have hzz := hb.size
  replace hC1 := Lib.hid (hC1.out.below hb hC1.out.lt)
  replace hC2 := Lib.hid (hC2.out.below hb hC2.out.lt)
  replace hb0 := Lib.hid (hb0.out.trans (hb.mono (by omega)))
  replace hOu := Lib.hid (OwnJ.keep (w' := w12) _ hOu.out (fun k _ hk => hb.block k (by omega)) (Nat.le_refl _) (Nat.le_refl _))
  replace hOt := Lib.hid (OwnJ.keep (w' := w12) _ hOt.out (fun k _ hk => hb.block k (by omega)) (Nat.le_refl _) (Nat.le_refl _))
  replace hOz := Lib.hid hOz
  clear hb hGr
  refine hK.out _ _ (fun _ => hC1.out) ?_
  clear hK
  try simp only [Act.put, List.setIfInBounds_toArray, List.set_cons_zero, List.set_cons_succ]
  refine wpAnyQ_one (i := 17) (by kernel_rfl) rfl (fun K hK => ?_)
  go_simp
  refine hK.out _ _ (fun _ => hC1.out) ?_
  clear hK
  try simp only [Act.put, List.setIfInBounds_toArray, List.set_cons_zero, List.set_cons_succ]
  refine wpAnyQ_one (i := 18) (by kernel_rfl) rfl (fun K hK => ?_)
  refine jl_step_store (by rfl) 73 (.tmp 2) (.tmp 20) (by rfl) (w.heap.size + 1) 0 #[.int .u8 M.kind, .int .u8 M.id.kind, .string M.id.text, .slice uA ua ub, .slice uB uc ud, .string M.method, .int .u8 M.params.kind, .string M.params.text, .slice tA ta tb, .slice tB tc td, .int .u8 M.result.kind, .string M.result.text, .slice zA za zb, .slice zB zc zd, .int .i64 M.code, .string M.text] _ #[.int .u8 M.kind, .int .u8 M.id.kind, .string M.id.text, .slice uA ua ub, .slice uB uc ud, .string M.method, .int .u8 M.params.kind, .string M.params.text, .slice tA ta tb, .slice tB tc td, .int .u8 M.result.kind, .string M.result.text, .slice zA za zb, .slice zB zc zd, .int .i64 M.code, .string M.text] 73 (by rfl) (by rfl) hC2.out (Nat.le_refl 16) (putA_whole _ _ rfl) msgInfo (by first | (simp; done) | (simp [Value.oneCell']; done)) ?_
  intro w9 hF hA9
  refine hK.out _ _ (fun h => by cases h) ?_
  clear hK
  refine wpAnyQ_done (by kernel_rfl) ?_
  have hz9 := hA9.2.2
  have hfin : MsgJ w9 M (.slice uA ua ub) (.slice uB uc ud) (.slice tA ta tb) (.slice tB tc td) (.slice zA za zb) (.slice zB zc zd) :=
    ⟨(OwnJ.jv _ (OwnJ.keep (w' := w9) _ hOu.out (fun k h1 _ => hA9.2.1 k (by omega)) (Nat.le_refl _) (Nat.le_refl _))).more (fun _ _ _ => trivial), (OwnJ.jv _ (OwnJ.keep (w' := w9) _ hOt.out (fun k h1 _ => hA9.2.1 k (by omega)) (Nat.le_refl _) (Nat.le_refl _))).more (fun _ _ _ => trivial), (OwnJ.jv _ (OwnJ.keep (w' := w9) _ hOz.out (fun k h1 _ => hA9.2.1 k (by omega)) (Nat.le_refl _) (Nat.le_refl _))).more (fun _ _ _ => trivial)⟩
  have hbf := hb0.out.trans (hA9.1 w.heap.size (by omega))
  replace hF := Lib.hid hF
  replace hfin := Lib.hid hfin
  replace hbf := Lib.hid hbf
  clear hA9
  go_wp2_with fail
  exact bodyPost_ret (results_cel1 rfl _ _ _ _ _ dm rfl hF.out hdm.out.1 hdm.out.2 msgInfo) rfl ⟨_, _, _, _, _, _, rfl, hfin.out, hbf.out⟩
def HugeEnd (M : Msg) (w : World) (e : Ending) (w' : World) : Prop := ∃ R, e = .returned (.bool R) ∧ (R = false → jbulk M.id ≤ 96000 ∧ jbulk M.params ≤ 96000 ∧ jbulk M.result ≤ 96000 ∧ M.method.size + M.text.size ≤ 100000) ∧ Below w.heap.size w w'
set_option maxRecDepth 100000 in
set_option maxHeartbeats 8000000 in
theorem huge_any (M : Msg) (w : World) (x1 x2 p1 p2 r1 r2 : Value) (hA : MsgJ w M x1 x2 p1 p2 r1 r2) (k1 : jbulk M.id ≤ 10000000) (k2 : jbulk M.params ≤ 10000000) (k3 : jbulk M.result ≤ 10000000) (k4 : M.method.size ≤ 10000000) (k5 : M.text.size ≤ 10000000) :
    Calls Tryz.prog 40 #[msgV M x1 x2 p1 p2 r1 r2] w (HugeEnd M w) := by
  obtain ⟨ax, ap, ar⟩ := hA
  have hGi := Lib.hid (fun (W : World) (hb : Below w.heap.size w W) => weight7_any M.id _ W _ _ (ax.later hb) (by omega))
  have hGp := Lib.hid (fun (W : World) (hb : Below w.heap.size w W) => weight7_any M.params _ W _ _ (ap.later hb) (by omega))
  have hGr := Lib.hid (fun (W : World) (hb : Below w.heap.size w W) => weight7_any M.result _ W _ _ (ar.later hb) (by omega))
  have q1 := bulk_jw M.id
  have q2 := bulk_jw M.params
  have q3 := bulk_jw M.result
  obtain ⟨xA, xa, xb, xB, xc, xd, rfl, rfl⟩ := ax.forms
  obtain ⟨pA, pa, pb, pB, pc, pd, rfl, rfl⟩ := ap.forms
  obtain ⟨rA, ra, rb, rB, rc, rd, rfl, rfl⟩ := ar.forms
  obtain ⟨W0, hW0⟩ : ∃ W0, w.alloc (.cells #[.int .u8 M.kind, .int .u8 M.id.kind, .string M.id.text, .slice xA xa xb, .slice xB xc xd, .string M.method, .int .u8 M.params.kind, .string M.params.text, .slice pA pa pb, .slice pB pc pd, .int .u8 M.result.kind, .string M.result.text, .slice rA ra rb, .slice rB rc rd, .int .i64 M.code, .string M.text] 69) = W0 := ⟨_, rfl⟩
  have hC : Hid (Cel W0 w.heap.size 69 #[.int .u8 M.kind, .int .u8 M.id.kind, .string M.id.text, .slice xA xa xb, .slice xB xc xd, .string M.method, .int .u8 M.params.kind, .string M.params.text, .slice pA pa pb, .slice pB pc pd, .int .u8 M.result.kind, .string M.result.text, .slice rA ra rb, .slice rB rc rd, .int .i64 M.code, .string M.text]) := Lib.hid (by rw [← hW0]; exact Cel.fresh _ _ _)
  have hb0 : Hid (Below w.heap.size w W0) := Lib.hid (by rw [← hW0]; exact (Below.refl _ _).alloc (Nat.le_refl _) _)
  replace hW0 := Lib.hid hW0
  clear ax ap ar
  unfold msgV
  go_enter Tryz.func40, Tryz.ntmps40
  go_upto_region 1 with fail
  rw [hW0.out]
  clear hW0
  obtain ⟨c0, c1, c2, c3, c4, c5, c6, c7, c8, c9, c10, c11, c12, c13, c14, c15⟩ := hC.out.c16
  go_wp2_with fail
  refine (hGi.out _ hb0.out).mono ?_
  rintro e w1 ⟨m1, rfl, hm1, hs1, hb⟩
  replace hC := Lib.hid (hC.out.below hb hC.out.lt)
  replace hb0 := Lib.hid (hb0.out.trans (hb.mono hb0.out.size))
  clear c0 c1 c2 c3 c4 c5 c6 c7 c8 c9 c10 c11 c12 c13 c14 c15 hb hGi
  by_cases c1a : 1500 ≤ (m1 : Int)
  · clear hm1 hs1 
    obtain ⟨c0, c1, c2, c3, c4, c5, c6, c7, c8, c9, c10, c11, c12, c13, c14, c15⟩ := hC.out.c16
    go_wp2_with fail
    go_ret
    exact ⟨true, rfl, (fun h => by cases h), hb0.out⟩
  have d1 : jbulk M.id ≤ 96000 := by omega
  clear hm1 hs1
  obtain ⟨c0, c1, c2, c3, c4, c5, c6, c7, c8, c9, c10, c11, c12, c13, c14, c15⟩ := hC.out.c16
  go_wp2_with fail
  refine (hGp.out _ hb0.out).mono ?_
  rintro e w2 ⟨m2, rfl, hm2, hs2, hb⟩
  replace hC := Lib.hid (hC.out.below hb hC.out.lt)
  replace hb0 := Lib.hid (hb0.out.trans (hb.mono hb0.out.size))
  clear c0 c1 c2 c3 c4 c5 c6 c7 c8 c9 c10 c11 c12 c13 c14 c15 hb hGp
  by_cases c2a : 1500 ≤ (m2 : Int)
  · clear hm2 hs2 
    obtain ⟨c0, c1, c2, c3, c4, c5, c6, c7, c8, c9, c10, c11, c12, c13, c14, c15⟩ := hC.out.c16
    go_wp2_with fail
    go_ret
    exact ⟨true, rfl, (fun h => by cases h), hb0.out⟩
  have d2 : jbulk M.params ≤ 96000 := by omega
  clear hm2 hs2
  obtain ⟨c0, c1, c2, c3, c4, c5, c6, c7, c8, c9, c10, c11, c12, c13, c14, c15⟩ := hC.out.c16
  go_wp2_with fail
  refine (hGr.out _ hb0.out).mono ?_
  rintro e w3 ⟨m3, rfl, hm3, hs3, hb⟩
  replace hC := Lib.hid (hC.out.below hb hC.out.lt)
  replace hb0 := Lib.hid (hb0.out.trans (hb.mono hb0.out.size))
  clear c0 c1 c2 c3 c4 c5 c6 c7 c8 c9 c10 c11 c12 c13 c14 c15 hb hGr
  by_cases c3a : 1500 ≤ (m3 : Int)
  · clear hm3 hs3 
    obtain ⟨c0, c1, c2, c3, c4, c5, c6, c7, c8, c9, c10, c11, c12, c13, c14, c15⟩ := hC.out.c16
    go_wp2_with fail
    go_ret
    exact ⟨true, rfl, (fun h => by cases h), hb0.out⟩
  have d3 : jbulk M.result ≤ 96000 := by omega
  clear hm3 hs3
  obtain ⟨c0, c1, c2, c3, c4, c5, c6, c7, c8, c9, c10, c11, c12, c13, c14, c15⟩ := hC.out.c16
  obtain ⟨z, hz⟩ : ∃ z : Bool, decide ((100000 : Int) < (M.method.size : Int) + (M.text.size : Int)) = z := ⟨_, rfl⟩
  have hw : IntKind.i64.wrap ((M.method.size : Int) + (M.text.size : Int)) = (M.method.size : Int) + (M.text.size : Int) := by
    rw [IntKind.wrap_i64]; omega
  cases z
  · have hz' := of_decide_eq_false hz
    have hz2 : ¬ (100000 : Int) < (M.method.size : Int) + (M.text.size : Int) := hz'
    go_wp2_with fail
    go_ret
    exact ⟨_, rfl, (fun _ => ⟨d1, d2, d3, by omega⟩), hb0.out⟩
  · have hz' := of_decide_eq_true hz
    go_wp2_with fail
    go_ret
    exact ⟨true, rfl, (fun h => by cases h), hb0.out⟩
theorem of_own (n : Int) (h0 : -9223372036854775808 ≤ n) (h1 : n ≤ 9223372036854775807) : ownL (ofNL n) = (ofNL n, 0) := by
  have h := own_itoa n h0 h1
  have h2 := back_own (Lib.itoa n) (by rw [h])
  rwa [h] at h2
theorem of_len (n : Int) (h0 : -9223372036854775808 ≤ n) (h1 : n ≤ 9223372036854775807) : (ofNL n).length ≤ 207 := by
  have h1 := own_itoa n h0 h1
  have h2 := ownL_len2 (Lib.itoa n)
  rw [h1] at h2
  exact h2
theorem jgd_text (j : Jsn) (s : ByteArray) : (jgd j s).text.size ≤ jbulk j := by
  have h1 := jgd_bulk j s
  have h2 := (bulk_parts (Nat.le_refl (jbulk (jgd j s)))).1
  omega
theorem jread_sizes {Own : List UInt8 → List UInt8 × Int} {Val : List UInt8 → Bool} {j : Jsn} {b : Nat} (h : jbulk j ≤ b) : jbulk (jread Own Val j).1.id ≤ b ∧ jbulk (jread Own Val j).1.params ≤ b ∧ jbulk (jread Own Val j).1.result ≤ b ∧ (jread Own Val j).1.method.size ≤ b ∧ (jread Own Val j).1.text.size ≤ b := by
  have hz := zeroJ_bulk
  have hp := jbulk_pos j
  have h1 := jgd_bulk j kId
  have h2 := jgd_bulk j kPar
  have h3 := jgd_bulk j kRes
  have h4 := jgd_text j kMeth
  have h5 := jgd_text (jgd j kErr) kMsg
  have h6 := jgd_bulk j kErr
  have hz0 : jbulk zeroM.id ≤ b ∧ jbulk zeroM.params ≤ b ∧ jbulk zeroM.result ≤ b ∧ zeroM.method.size ≤ b ∧ zeroM.text.size ≤ b := by
    refine ⟨?_, ?_, ?_, ?_, ?_⟩
    · show jbulk zeroJ ≤ _; omega
    · show jbulk zeroJ ≤ _; omega
    · show jbulk zeroJ ≤ _; omega
    · exact Nat.zero_le _
    · exact Nat.zero_le _
  have z0 : (⟨#[]⟩ : ByteArray).size ≤ b := Nat.zero_le _
  unfold jread
  split
  · exact hz0
  · split
    · exact hz0
    · split
      · unfold jasks
        split
        · exact hz0
        · exact ⟨by show jbulk (jgd j kId) ≤ _; omega, by show jbulk (jgd j kPar) ≤ _; omega, by show jbulk zeroJ ≤ _; omega, by show (jgd j kMeth).text.size ≤ _; omega, z0⟩
      · unfold janswers
        split
        · exact hz0
        · split
          · split
            · exact hz0
            · exact ⟨by show jbulk (jgd j kId) ≤ _; omega, by show jbulk zeroJ ≤ _; omega, by show jbulk (jgd j kRes) ≤ _; omega, z0, z0⟩
          · split
            · exact hz0
            · exact ⟨by show jbulk (jgd j kId) ≤ _; omega, by show jbulk zeroJ ≤ _; omega, by show jbulk zeroJ ≤ _; omega, z0, by show (jgd (jgd j kErr) kMsg).text.size ≤ _; omega⟩
theorem intL_range (l : List UInt8) (_h : (intL l).2 = 0) : -9223372036854775808 ≤ (intL l).1 ∧ (intL l).1 ≤ 9223372036854775807 := by
  have h63 : two63 = 9223372036854775808 := rfl
  unfold intL at _h ⊢
  dsimp only at _h ⊢
  have z : -9223372036854775808 ≤ (0 : Int) ∧ (0 : Int) ≤ 9223372036854775807 := by decide
  split
  · exact z
  · split
    · exact z
    · split
      · exact z
      · split
        · rename_i hu; have := hu.2; dsimp only; omega
        · split
          · rename_i hu; have := hu.2; dsimp only; omega
          · exact z
theorem read_back {j : Jsn} (hb : jbulk j ≤ 96000) (h : (jread ownL Lib.validD j).2 = 0) :
    (1 ≤ (jread ownL Lib.validD j).1.kind ∧ (jread ownL Lib.validD j).1.kind ≤ 4 ∧ mok (jread ownL Lib.validD j).1 = true ∧ jwrite ownL Lib.validD (jread ownL Lib.validD j).1 = (menv (jread ownL Lib.validD j).1, 0) ∧ -9223372036854775808 ≤ (jread ownL Lib.validD j).1.code ∧ (jread ownL Lib.validD j).1.code ≤ 9223372036854775807 ∧
      ((jbulk (jread ownL Lib.validD j).1.id ≤ 200000 ∧ jbulk (jread ownL Lib.validD j).1.params ≤ 200000 ∧ jbulk (jread ownL Lib.validD j).1.result ≤ 200000) ∧ (jread ownL Lib.validD j).1.method.size ≤ 150000 ∧ (jread ownL Lib.validD j).1.text.size ≤ 150000 ∧ jbulk (menv (jread ownL Lib.validD j).1) ≤ 1000000)) ∧
    jread ownL Lib.validD (menv (jread ownL Lib.validD j).1) = ((jread ownL Lib.validD j).1, 0) := by
  obtain ⟨s1, s2, s3, s4, s5⟩ := jread_sizes (Own := ownL) (Val := Lib.validD) hb
  obtain ⟨⟨b, c⟩, hR⟩ : ∃ R, jread ownL Lib.validD j = R := ⟨_, rfl⟩
  rw [hR] at h s1 s2 s3 s4 s5 ⊢
  dsimp only at h s1 s2 s3 s4 s5 ⊢
  subst h
  obtain ⟨q1, q2, q3, q4, q5, q6⟩ := read_ok of_own intL_range hR
  have hl := of_len b.code q5 q6
  have hbk := env_bulk b
  refine ⟨⟨q1, q2, q3, ?_, q5, q6, ⟨by omega, by omega, by omega⟩, by omega, by omega, by omega⟩, env_read q1 q2 q3 q4 (back_int b.code q5 q6)⟩
  unfold jwrite
  rw [if_neg (by omega), if_neg (by rw [q3]; simp), if_neg (by simp [q4])]
end Go.Proofs.YtdjfoabinjfnfaaGreatDoor
