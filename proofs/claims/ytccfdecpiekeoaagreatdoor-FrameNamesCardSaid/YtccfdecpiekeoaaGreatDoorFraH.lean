/-
  The walk of (*frame.Reader).frame.
-/
import Derived.Test.YtccfdecpiekeoaaGreatDoorFraG
import Derived.Laws.BytesArg
namespace Go.Proofs.YtccfdecpiekeoaaGreatDoor
open Go.RowKit

theorem conv_str {w : World} {A : Option Addr} {c : Nat} {h : List UInt8} {X : Nat → Prop} (hb : Byt w A c h X) :
    (convert 27 9 (.slice A h.length c)).run Tryz.prog w = .ok (.string ⟨h.toArray⟩) w := by
  obtain ⟨h1, h2, h3⟩ := hb
  rcases h3 with ⟨rfl, rfl, rfl⟩ | ⟨ad, rfl, h4, h5⟩
  · exact run_convert_bytes_nil w 27 5 Tryz.underlying27 Tryz.underlying5 0 0 9 Tryz.underlying9
  · have hl : (loadCells ad h.length).run Tryz.prog w = .ok ((h.map fun u => (u.toNat : Int)).map (Value.int .u8)).toArray w := by
      have := run_loadCells_list (P := Tryz.prog) w ad ((h.map fun u => (u.toNat : Int)).map (Value.int .u8)) (fun j v hj => by
        rw [List.map_map, List.getElem?_map] at hj
        rcases hu : h[j]? with _ | u
        · rw [hu] at hj; cases hj
        · rw [hu] at hj
          injection hj with hj
          rw [← hj]
          exact h5 j u hu)
      simpa using this
    rw [run_convert_bytes_string w 27 9 5 _ h.length c Tryz.underlying27 Tryz.underlying5 Tryz.underlying9, run_bytesToString w _ h.length c _ hl, foldl_push_bytes]
    have hm : (h.map fun u => (u.toNat : Int)).map (fun n => UInt8.ofNat n.toNat) = h := bytesOf_nat h
    rw [hm]
    congr 2
    exact str_eq (by simp [ByteArray.empty, ByteArray.emptyWithCapacity]; rfl)

theorem EvS.mono {w : World} {B B' : Nat} {v : Value} {evs : List Evt} (h : EvS w B v evs) (hB : B' ≤ B) : EvS w B' v evs := by
  rcases h with h | ⟨g, x, h1, h2, h3, h4⟩
  · exact Or.inl h
  · exact Or.inr ⟨g, x, h1, by omega, h3, h4⟩
theorem wpList_cut2 {P : Program} {w : World} {ops : Array Oper} {rest : List Oper} {o : Oper} {a : Act} {Q : Exit → Act → World → Prop} (hgd : o.guard = none) (t : TypeId) (x lo hi : Operand)
    (ho : o.op = .slice t x (some lo) (some hi) none) (vx vl vh v : Value) (hx : a.eval x = vx) (hl : a.eval lo = vl) (hh : a.eval hi = vh) (hrun : (Instr.sliceAt t vx (some vl) (some vh) none).run P w = .ok v w)
    (h : wpList P ops Q rest (a.put o.dst v) w) : wpList P ops Q (o :: rest) a w := by
  refine wpList_plain hgd fun K hK => ?_
  unfold Oper.wp
  simp [execOp, ho, hx, hl, hh, hrun, Result.andThen]
  exact hK _ _ h
theorem slice_run2 (A : Option Addr) (n c k l : Nat) (hk : k ≤ l) (hl : l ≤ c) (W : World) :
    (Instr.sliceAt 27 (.slice A n c) (some (.int .i64 k)) (some (.int .i64 l)) none).run Tryz.prog W = .ok (.slice (if c = k then A else A.map (·.add k)) (l - k) (c - k)) W := by
  have he : Tryz.prog.elem 27 = 5 := by kernel_rfl
  have hu : Tryz.prog.underlying 27 = some (.slice (Tryz.prog.elem 27)) := by rw [he]; exact Tryz.underlying27
  rw [run_sliceAt_slice W _ _ _ _ _ hu, run_slice_lh W _ A n c hu .i64 .i64 k l (by omega) (by omega) (by omega), he]
  have hs : (sizeOf 5).run Tryz.prog W = .ok 1 W := by kernel_rfl
  rw [hs]
  simp only [Result.andThen, sliced, Int.toNat_natCast, Nat.mul_one]

set_option maxRecDepth 100000 in
set_option maxHeartbeats 2000000 in
theorem frmFrame_any (b : Nat) (h : List UInt8) (X : Nat → Prop) (w : World) (hX : X b) (hE : EnvF w) (hR : RdAt w b h false X) (hs : h.length ≤ 1073741824) :
    Calls Tryz.prog 27 #[.pointer (some ⟨b, 0, none⟩)] w (StepEnd b X (stepF h false) w) := by
  obtain ⟨A, cp, hC, hB⟩ := hR
  obtain ⟨x0, x1, f0, f1⟩ := hC.two
  have hbl := hC.lt
  have hcp1 := hB.1
  have hcp2 := hB.2.1
  replace hC := Lib.hid hC
  go_enter Tryz.func27, Tryz.ntmps27
  obtain ⟨M, hM⟩ : ∃ M : Nat, (min (h.length : Int) 1028).toNat = M := ⟨_, rfl⟩
  have hMl : (h.take 1028).length = M := by rw [List.length_take]; omega
  have hM1 : M ≤ h.length := by omega
  have hM2 : M ≤ 1028 := by omega
  have hM3 : M < 1028 ↔ h.length < 1028 := by omega
  replace hM := Lib.hid hM
  go_wp2_with fail
  go_quiet (fail)
  rw [hM.out]
  have hC1 := hC.out.drewN nq
  have hY1 := hB.drewN nq
  have hE1 := hE.below (bel_drawn w nq)
  have hg1 : w.grownBy (w.drewN nq) (some b) := grown_of_below (bel_drawn w nq) _
  clear x0 x1 f0 f1 hC hB hM hbl
  generalize w.drewN nq = w1 at *
  obtain ⟨x0, x1, f0, f1⟩ := hC1.two
  have hbl := hC1.lt
  have hcv := conv_const w1 #[.int .u8 13, .int .u8 10, .int .u8 13, .int .u8 10]
  have hC2 := hC1.alloc (.cells #[.int .u8 13, .int .u8 10, .int .u8 13, .int .u8 10] 5 (4, 5))
  have hY2 := hY1.alloc (.cells #[.int .u8 13, .int .u8 10, .int .u8 13, .int .u8 10] 5 (4, 5))
  have hB2 : Below w1.heap.size w1 (w1.alloc (.cells #[.int .u8 13, .int .u8 10, .int .u8 13, .int .u8 10] 5 (4, 5))) := (Below.refl _ _).alloc (Nat.le_refl _) _
  have hix := index_calls (hE1.below hB2) (hY2.take 1028) w1.heap.size fEnd (by decide) (by decide) (by rw [hMl]; omega) (mark_cells w1 fEnd 5 (4, 5))
  rw [hMl] at hix
  have hE2 := hE1.below hB2
  have hg2 := grown_trans' hg1 (grown_of_below hB2 _)
  clear hg1 hY1 hE1 hB2
  replace hC2 := Lib.hid hC2
  replace hY2 := Lib.hid hY2
  replace hE2 := Lib.hid hE2
  replace hg2 := Lib.hid hg2
  replace hC1 := Lib.hid hC1
  replace hMl := Lib.hid hMl
  replace hix := Lib.hid hix
  replace hM3 := Lib.hid hM3
  go_wp2_with fail
  refine hix.out.mono ?_
  rintro e w2 ⟨rfl, hB3⟩
  have hC3 := hC2.out.below hB3 (by simp; omega)
  have hY3 := hY2.out.below hB3
  have hE3 := hE2.out.below hB3
  have hg3 := grown_trans' hg2.out (grown_of_below hB3 _)
  clear hix hB3 x0 x1 f0 f1 hC1 hC2 hY2 hE2 hg2 hcv hbl
  have hR3 : RdAt w2 b h false X := ⟨A, cp, hC3, hY3⟩
  obtain ⟨x0, x1, f0, f1⟩ := hC3.two
  have hbl := hC3.lt
  replace hR3 := Lib.hid hR3
  replace hC3 := Lib.hid hC3
  replace hY3 := Lib.hid hY3
  replace hE3 := Lib.hid hE3
  replace hg3 := Lib.hid hg3
  rcases hi : idx (h.take 1028) fEnd with _ | i
  · rw [idx_int_none hi]
    by_cases hlt : M < 1028
    · have hst : stepF h false = ⟨[], false, h, false⟩ := by
        unfold stepF; rw [hi]; simp only; rw [if_pos (hM3.out.1 hlt)]
      clear hi
      replace hst := Lib.hid hst
      go_wp2_with fail
      go_ret2
      rw [hst.out]
      exact ⟨_, rfl, Or.inl ⟨rfl, rfl⟩, hR3.out, hg3.out⟩
    · have hst : stepF h false = ⟨[([], 72)], true, h.drop 1, true⟩ := by
        unfold stepF; rw [hi]; simp only; rw [if_neg (fun hh => hlt (hM3.out.2 hh))]
      have hwr := frmWrong_any b h false X 72 w2 hX hR3.out (by omega)
      clear hi
      replace hst := Lib.hid hst
      replace hwr := Lib.hid hwr
      go_wp2_with fail
      refine hwr.out.mono ?_
      rintro e w5 ⟨v, rfl, hev, hR5, hg5⟩
      dsimp only at hev hR5 ⊢
      replace hev := Lib.hid hev
      replace hR5 := Lib.hid hR5
      replace hg5 := Lib.hid (grown_trans' hg3.out hg5)
      clear hwr
      go_wp2_with fail
      go_ret2
      rw [hst.out]
      exact ⟨_, rfl, hev.out.mono (hg3.out).size, hR5.out, hg5.out⟩
  · rw [idx_int hi]
    obtain ⟨hi', h1028⟩ := (idx_take fEnd_ne).1 hi
    have h1024 : i ≤ 1024 := by have : fEnd.length = 4 := rfl; omega
    have hiM := idx_lt fEnd_ne hi
    rw [hMl.out] at hiM
    have hiM4 : i + 4 ≤ M := hiM
    clear hi hiM h1028
    obtain ⟨S, hS⟩ : ∃ S : ByteArray, (⟨(h.take i).toArray⟩ : ByteArray) = S := ⟨_, rfl⟩
    have hSd : S.data.toList = h.take i := by rw [← hS]
    have hcs := conv_str (hY3.out.take i)
    rw [hS, show (h.take i).length = i from by rw [List.length_take]; omega] at hcs
    have hhd := frmHead_any S w2 hE3.out (by rw [← bytes_len, hSd, List.length_take]; omega)
    rw [hSd] at hhd
    clear hS hSd
    replace hhd := Lib.hid hhd
    go_wp2_with fail
    refine hhd.out.mono ?_
    rintro e w4 ⟨n, ok, rfl, hout, hB4⟩
    have hC4 := hC3.out.below hB4 hbl
    have hY4 := hY3.out.below hB4
    have hg4 := grown_trans' hg3.out (grown_of_below hB4 _)
    clear hhd hcs hB4 x0 x1 f0 f1 hC3 hY3 hE3 hg3 hbl hR3
    have hR4 : RdAt w4 b h false X := ⟨A, cp, hC4, hY4⟩
    obtain ⟨x0, x1, f0, f1⟩ := hC4.two
    have hbl := hC4.lt
    replace hR4 := Lib.hid hR4
    replace hC4 := Lib.hid hC4
    replace hY4 := Lib.hid hY4
    replace hg4 := Lib.hid hg4
    rcases hR : headL (h.take i) with _ | m
    · rw [hR] at hout
      have hok : ok = false := hout
      subst hok
      have hst := st_head hi' h1024 hR
      have hwr := frmWrong_any b h false X 72 w4 hX hR4.out (by omega)
      clear hi' hR hout
      replace hst := Lib.hid hst
      replace hwr := Lib.hid hwr
      go_wp2_with fail
      refine hwr.out.mono ?_
      rintro e w5 ⟨v, rfl, hev, hR5, hg5⟩
      dsimp only at hev hR5 ⊢
      replace hev := Lib.hid hev
      replace hR5 := Lib.hid hR5
      replace hg5 := Lib.hid (grown_trans' hg4.out hg5)
      clear hwr
      go_wp2_with fail
      go_ret2
      rw [hst.out]
      exact ⟨_, rfl, hev.out.mono (hg4.out).size, hR5.out, hg5.out⟩
    · rw [hR] at hout
      obtain ⟨rfl, n0, n1, n2⟩ : ok = true ∧ 0 ≤ n ∧ n ≤ 2000000000 ∧ min n.toNat 262145 = m := hout
      by_cases hbig : 262144 < n
      · have hst := st_large hi' h1024 hR (by omega)
        have hwr := frmWrong_any b h false X 40 w4 hX hR4.out (by omega)
        clear hi' hR n2
        replace hst := Lib.hid hst
        replace hwr := Lib.hid hwr
        go_wp2_with fail
        refine hwr.out.mono ?_
        rintro e w5 ⟨v, rfl, hev, hR5, hg5⟩
        dsimp only at hev hR5 ⊢
        replace hev := Lib.hid hev
        replace hR5 := Lib.hid hR5
        replace hg5 := Lib.hid (grown_trans' hg4.out hg5)
        clear hwr
        go_wp2_with fail
        go_ret2
        rw [hst.out]
        exact ⟨_, rfl, hev.out.mono (hg4.out).size, hR5.out, hg5.out⟩
      · obtain ⟨q, rfl⟩ := Int.eq_ofNat_of_zero_le n0
        have hqm : m = q := by omega
        subst hqm
        clear n2
        by_cases hw : h.length < i + 4 + m
        · have hst := st_body_wait hi' h1024 hR (by omega) hw
          clear hi' hR
          replace hst := Lib.hid hst
          go_wp2_with fail
          go_ret2
          rw [hst.out]
          exact ⟨_, rfl, Or.inl ⟨rfl, rfl⟩, hR4.out, hg4.out⟩
        · have hst := st_body hi' h1024 hR (by omega) hw
          clear hi' hR
          have hbo := (hY4.out.cut (k := i + 4) (by omega)).take m
          have ec1 : ((i + 4 : Nat) : Int) = (i : Int) + 4 := by omega
          have ec2 : ((i + 4 + m : Nat) : Int) = (i : Int) + 4 + m := by omega
          have hrun2 : ∀ W, (Instr.sliceAt 27 (.slice A h.length cp) (some (.int .i64 ((i : Int) + 4))) (some (.int .i64 ((i : Int) + 4 + m))) none).run Tryz.prog W = .ok (.slice (if cp = i + 4 then A else A.map (·.add (i + 4))) (i + 4 + m - (i + 4)) (cp - (i + 4))) W := fun W => by
            rw [← ec2, ← ec1]
            exact slice_run2 A h.length cp (i + 4) (i + 4 + m) (by omega) (by omega) W
          obtain ⟨A2, hA2⟩ : ∃ A2, (if cp = i + 4 then A else A.map (·.add (i + 4))) = A2 := ⟨_, rfl⟩
          obtain ⟨c2, hc2⟩ : ∃ c2, cp - (i + 4) = c2 := ⟨_, rfl⟩
          obtain ⟨Bd, hBd⟩ : ∃ Bd : ByteArray, (⟨((h.drop (i + 4)).take m).toArray⟩ : ByteArray) = Bd := ⟨_, rfl⟩
          have hBdd : Bd.data.toList = (h.drop (i + 4)).take m := by rw [← hBd]
          rw [hA2, hc2] at hbo
          rw [hA2, hc2, show i + 4 + m - (i + 4) = m by omega] at hrun2
          have hcs := conv_str hbo
          rw [hBd, show ((h.drop (i + 4)).take m).length = m from by rw [List.length_take, List.length_drop]; omega] at hcs
          have hcut := hY4.out.cut (k := i + 4 + m) (by omega)
          have hrun3 : ∀ W, (Instr.sliceAt 27 (.slice A h.length cp) (some (.int .i64 ((i : Int) + 4 + m))) none none).run Tryz.prog W = .ok (.slice (if cp = i + 4 + m then A else A.map (·.add (i + 4 + m))) (h.length - (i + 4 + m)) (cp - (i + 4 + m))) W := fun W => by
            rw [← ec2]
            exact slice_run A h.length cp (i + 4 + m) (by omega) W
          clear ec1 ec2
          obtain ⟨A3, hA3⟩ : ∃ A3, (if cp = i + 4 + m then A else A.map (·.add (i + 4 + m))) = A3 := ⟨_, rfl⟩
          obtain ⟨n3, hn3⟩ : ∃ n3, h.length - (i + 4 + m) = n3 := ⟨_, rfl⟩
          obtain ⟨c3, hc3⟩ : ∃ c3, cp - (i + 4 + m) = c3 := ⟨_, rfl⟩
          rw [hA3, hc3] at hcut
          rw [hA3, hn3, hc3] at hrun3
          have hdl : (h.drop (i + 4 + m)).length = n3 := by rw [List.length_drop, hn3]
          clear hA2 hc2 hBd hbo hA3 hn3 hc3
          replace hrun2 := Lib.hid hrun2
          replace hrun3 := Lib.hid hrun3
          replace hcut := Lib.hid hcut
          replace hst := Lib.hid hst
          replace hdl := Lib.hid hdl
          replace hBdd := Lib.hid hBdd
          go_wp2_with (first
            | (refine wpList_cut2 rfl 27 _ _ _ rfl (.slice A h.length cp) (.int .i64 ((i : Int) + 4)) (.int .i64 ((i : Int) + 4 + m)) _ rfl rfl rfl (hrun2.out _) ?_)
            | (refine wpList_cut rfl 27 _ _ rfl (.slice A h.length cp) (.int .i64 ((i : Int) + 4 + m)) _ rfl rfl (hrun3.out _) ?_))
          go_ret2
          rw [hst.out]
          have hfr := Cel.fresh ((w4.setCell ⟨b, 0, none⟩ (.slice A3 n3 c3)).alloc (.cells #[.string Bd, .int .i64 0] 42)) 42 #[.string Bd, .int .i64 0]
          have hsz : ((w4.setCell ⟨b, 0, none⟩ (.slice A3 n3 c3)).alloc (.cells #[.string Bd, .int .i64 0] 42)).heap.size = w4.heap.size + 1 := by simp [World.setCell]
          rw [hsz] at hfr
          have hw4 := hg4.out.size
          refine ⟨_, rfl, Or.inr ⟨w4.heap.size + 1, ((h.drop (i + 4)).take m, 0), rfl, by omega, rfl, ?_⟩, ⟨A3, c3, ?_, ?_⟩, ?_⟩
          · dsimp only
            rw [← hBdd.out, fbytes]
            exact hfr
          · dsimp only
            rw [hdl.out]
            exact ((hC4.out.set 0 _).alloc _).alloc _
          · exact ((hcut.out.set hX _).alloc _).alloc _
          · refine grown_trans' hg4.out ?_
            refine grown_trans' (grown_set1 (i := 0) (x := .slice A3 n3 c3) hbl) ?_
            exact grown_trans' (grown_of_below ((Below.refl _ _).alloc (Nat.le_refl _) _) _) (grown_of_below ((Below.refl _ _).alloc (Nat.le_refl _) _) _)
end Go.Proofs.YtccfdecpiekeoaaGreatDoor
