/-
  The walk of the JSON reader's closure that reads one member of an Object.
-/
import Derived.Test.YtblohaljnleeiaaGreatDoorJpJ
namespace Go.Proofs.YtblohaljnleeiaaGreatDoor
open Go.RowKit Go.WideMaps Go.Maps

theorem jitO_eq (Val : List UInt8 → Bool) (val : Nat → List UInt8 → JR) (st : SO) (s : List UInt8) (hV : Val = Lib.validD) : jitO Val val st s = match jtxt s with
    | none => .error 4
    | some (n, s2) => if hasB st.2.1 (ofL n) = true then .error 6 else if ([58] : List UInt8).isPrefixOf (jblk s2) = true then match val st.1 (jblk ((jblk s2).drop 1)) with
        | .error e => .error e
        | .ok (j, it, r) => .ok ((it, st.2.1 ++ [ofL n], st.2.2 ++ [j]), r)
      else .error 4 := by
  subst hV
  rcases s with _ | ⟨c, s1⟩
  · rfl
  by_cases hc : c = 34
  · subst hc
    have e1 : jtxt (34 :: s1) = jStr Lib.validD [] s1 := rfl
    rw [e1]
    have e2 : jitO Lib.validD val st (34 :: s1) = (match jStr Lib.validD [] s1 with
      | none => .error 4
      | some (n, s2) => if (st.2.1.any fun b => decide (b = ofL n)) = true then .error 6 else match jblk s2 with
        | 58 :: s3 => match val st.1 (jblk s3) with
          | .error e => .error e
          | .ok (j, it, r) => .ok ((it, st.2.1 ++ [ofL n], st.2.2 ++ [j]), r)
        | _ => .error 4) := rfl
    rw [e2]
    rcases jStr Lib.validD [] s1 with _ | ⟨n, s2⟩
    · rfl
    · dsimp only
      by_cases hm : hasB st.2.1 (ofL n) = true
      · rw [if_pos hm]
        exact if_pos hm
      · rw [if_neg hm]
        refine (if_neg hm).trans ?_
        rcases hb : jblk s2 with _ | ⟨c, r⟩
        · rfl
        · by_cases hc : c = 58
          · subst hc
            rw [if_pos ((pre_eq 58 58 r).2 rfl)]
            rfl
          · rw [if_neg (fun e => hc ((pre_eq 58 c r).1 e))]
            split
            · rename_i s3 e; injection e with e; exact absurd e hc
            · rfl
  · rw [jtxt_no (fun e => hc ((pre_eq 34 c s1).1 e))]
    unfold jitO
    split
    · rename_i s3 e; injection e with e; exact absurd e hc
    · rfl
set_option maxHeartbeats 2000000 in
/-- One member more. -/
theorem IO.put {w W w3 w4 : World} {b : Nat} {d : Int} {g B gg n it it2 lo hi : Nat} {ms ns : List ByteArray} {l : List Jsn} {s r : List UInt8} {x : Jsn} {vN vL vn vl a1 a2 a3 a4 : Value} {ws : List OE} {c1 c2 : Nat} (h : IO w b d g B it ms ns l s W)
    (hC : Cel W g 25 #[.int .u8 7, .string ⟨#[]⟩, vN, vL]) (hN : W.ownsRow B 9 1 vN ns.length (ns.map Value.string)) (hA : ApartN vN vL ws)
    (h3 : But W.heap.size b W w3) (hr : RJ w3 b r it2) (hit : it2 ≤ 65536) (hlt : it < it2) (hlo : W.heap.size ≤ lo)
    (hgg : B ≤ gg) (hlow : ∀ k, k < B → w4.heap[k]? = w3.heap[k]?) (hsz : w3.heap.size ≤ w4.heap.size) (hos : w4.os = w3.os) (htp : w4.tape = w3.tape) (hou : w4.output = w3.output) (hge : vL.ownBlock = some gg ∨ gg = w3.heap.size) (hgr : w3.grownBy w4 vL.ownBlock)
    (hrow : RowW (lay4 w4 gg n a1 a2 a3 a4) B 9 25 (.slice (some ⟨gg, 0, none⟩) c1 c2) (l ++ [x]) (ws ++ [(vn, vl, lo, hi)])) : IO w b d g B it2 ms ns (l ++ [x]) r ((lay4 w4 gg n a1 a2 a3 a4).setCell ⟨g, 3, none⟩ (.slice (some ⟨gg, 0, none⟩) c1 c2)) := by
  obtain ⟨h1, h2, hB, h4, h5, ⟨h6, h6', h6''⟩, h7, h8, h9, h10, ⟨D, k, m1, m2, m3⟩, _, h13⟩ := h
  obtain ⟨v', hv'⟩ : ∃ v' : Value, .slice (some ⟨gg, 0, none⟩) c1 c2 = v' := ⟨_, rfl⟩
  have hvb : v'.ownBlock = some gg := by rw [← hv']; rfl
  rw [hv'] at hrow ⊢
  clear hv'
  have hs := hB.size
  have hs3 := h3.size
  obtain ⟨W6, hW6⟩ : ∃ W6, (lay4 w4 gg n a1 a2 a3 a4).setCell ⟨g, 3, none⟩ v' = W6 := ⟨_, rfl⟩
  have hoth : ∀ k, k ≠ gg → k ≠ g → W6.heap[k]? = w4.heap[k]? := fun k hk hg => by
    have h := lay4_set w4 gg n g a1 a2 a3 a4 v' hk hg
    rw [hW6] at h
    exact h
  have hat2 : ∀ k, k < B → k ≠ g → k ≠ b → W6.heap[k]? = W.heap[k]? := fun k hk hg hb => (hoth k (by omega) hg).trans ((hlow k hk).trans (h3.block k (by omega) hb))
  have hsize : W6.heap.size = w4.heap.size := by rw [← hW6]; simp [lay4_size]
  have hg0 : (lay4 w4 gg n a1 a2 a3 a4).heap[g]? = W.heap[g]? := (lay4_other w4 gg n a1 a2 a3 a4 (k := g) (by omega)).trans ((hlow g (by omega)).trans (h3.block g (by omega) (by omega)))
  have hc2 : Cel W6 g 25 #[.int .u8 7, .string ⟨#[]⟩, vN, v'] := by rw [← hW6]; exact Cel.set (hg0.trans hC) 3 v'
  have hr2 : RowW W6 B 9 25 v' (l ++ [x]) (ws ++ [(vn, vl, lo, hi)]) := by
    rw [← hW6]
    exact hrow.keep (fun k h1 h2 => Below.heap_setCell _ _ _ _ (by show k ≠ g; omega)) (by simp)
  have e1 : W6.os = w.os := by rw [← hB.os, ← h3.os, ← hos, ← hW6]; rfl
  have e2 : W6.tape = w.tape := by rw [← hB.tape, ← h3.tape, ← htp, ← hW6]; rfl
  have e3 : W6.output = w.output := by rw [← hB.output, ← h3.output, ← hou, ← hW6]; rfl
  rw [hW6]
  clear hW6
  have hNb : ∀ gn, vN.ownBlock = some gn → B ≤ gn ∧ gn < W.heap.size ∧ gn ≠ gg := fun gn hgn => by
    have := hN.lt gn hgn
    refine ⟨this.1, this.2, fun e => ?_⟩
    rcases hge with e2 | e2
    · exact (hA gn hgn).1 (by rw [e2, e])
    · omega
  refine ⟨(hoth b (by omega) (by omega)).trans ((hlow b (by omega)).trans hr), h2, ⟨e1, e2, e3, by rw [hsize]; omega, fun k hk hb => (hat2 k (by omega) (by omega) hb).trans (hB.block k hk hb)⟩, hit, by rw [hsize]; omega, ⟨h6, h6', h6''⟩,
    (hat2 _ (by omega) (by omega) (by omega)).trans h7, (hat2 _ (by omega) (by omega) (by omega)).trans h8, (hat2 _ (by omega) (by omega) (by omega)).trans h9, (hat2 _ (by omega) (by omega) (by omega)).trans h10, ⟨D, k, m1, ?_, m3⟩, ⟨vN, v', _, hc2, ?_, hr2, ?_⟩, ?_⟩
  · obtain ⟨es, clock, hb, F, p1, p2⟩ := m2
    exact ⟨es, clock, (hat2 _ (by omega) (by omega) (by omega)).trans hb, F, p1, p2⟩
  · refine ownRow_keep hN fun gn hgn => ?_
    obtain ⟨p1, p2, p3⟩ := hNb gn hgn
    refine (hoth gn p3 (by omega)).trans ((hgr.block gn (by omega) (fun e => (hA gn hgn).1 e.symm)).trans (h3.block gn p2 (by omega)))
  · intro gn hgn
    obtain ⟨p1, p2, p3⟩ := hNb gn hgn
    refine ⟨fun e => p3 (by rw [hvb] at e; injection e with e; exact e.symm), fun u hu => ?_⟩
    rcases List.mem_append.1 hu with hu | hu
    · exact (hA gn hgn).2 u hu
    · simp at hu; subst hu; dsimp only; omega
  · simp; omega
end Go.Proofs.YtblohaljnleeiaaGreatDoor
