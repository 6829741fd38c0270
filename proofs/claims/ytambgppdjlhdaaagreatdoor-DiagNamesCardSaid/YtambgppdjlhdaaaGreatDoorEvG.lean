/-
  The abstract machine: append, conversions, lengths. No program.
-/
import Derived.Test.YtambgppdjlhdaaaGreatDoorEvF
namespace Go.Proofs.YtambgppdjlhdaaaGreatDoor
open Go.RowKit

theorem HR.drop [Tab] {E : AEnv} {s : AS} {w : World} (h : HR E s.get w) (b : Nat) (hb : b < 1000000000) : HR E (s.put b .none).get w ∧ Stp E s.get w E (s.put b .none).get w := by
  refine h.lift ?_
  have hne : ∀ c, c ≠ b → (s.put b .none).get c = s.get c := fun c hc => s.get_put_ne b _ c hc
  have hat := s.get_put b .none hb
  have hin : ∀ c, (s.put b .none).get c ≠ .none → c ≠ b ∧ s.get c ≠ .none := fun c hc => by
    by_cases e : c = b
    · rw [e, hat] at hc; exact absurd rfl hc
    · exact ⟨e, by rw [← hne c e]; exact hc⟩
  refine ⟨⟨fun c hc => ?_, fun c d hc hd he => h.inj c d (hin c hc).2 (hin d hd).2 he⟩, ⟨rfl, rfl, rfl, Nat.le_refl _, AEnv.le.refl E, fun _ _ => rfl, fun _ _ _ => rfl, fun c hc => .inr ⟨c, (hin c hc).2, rfl⟩⟩⟩
  obtain ⟨e1, e2⟩ := hin c hc
  rw [hne c e1]
  exact h.at_ c e2
/-- A block that goes on under a new number. -/
theorem HR.move [Tab] {E : AEnv} {s : AS} {w w' : World} (h : HR E s.get w) {b : Nat} {cs cs' : List AV} {ty0 : Nat} (hg : s.get b = .cells cs ty0) (hi : ¬ E.ok s.n) (hl : s.n < 1000000000) {c : Array Value} {ty : TypeId} {fz : Nat × Nat} (hsz : w'.heap.size = w.heap.size) (hos : w'.os = w.os) (htp : w'.tape = w.tape) (hou : w'.output = w.output)
    (hoth : ∀ d, d ≠ E.r b → w'.heap[d]? = w.heap[d]?) (ho : w'.heap[E.r b]? = some (.cells c ty fz)) (hc : c.size = E.k b) (hlen : cs'.length ≤ c.size) (hv : VL E cs' (c.toList.take cs'.length)) (hfz : ∀ i, i < c.size → ¬ (fz.1 ≤ i ∧ i < fz.2)) :
    HR (E.more s.n (E.r b) (E.k b)) ((s.put b .none).new (.cells cs' ty)).get w' ∧ Stp E s.get w (E.more s.n (E.r b) (E.k b)) ((s.put b .none).new (.cells cs' ty)).get w' := by
  refine h.lift ?_
  have hbn : s.get b ≠ .none := by rw [hg]; intro e; cases e
  have hok := (h.at_ b hbn).1
  have hlim := (h.at_ b hbn).2.1
  have hle := E.le_more s.n (E.r b) (E.k b) hi
  have hat : ((s.put b .none).new (.cells cs' ty)).get s.n = .cells cs' ty := (s.put b .none).get_new _ hl
  have hne : ∀ d, d ≠ s.n → ((s.put b .none).new (.cells cs' ty)).get d ≠ .none → d ≠ b ∧ s.get d ≠ .none ∧ ((s.put b .none).new (.cells cs' ty)).get d = s.get d := fun d hd hn => by
    have e1 : ((s.put b .none).new (.cells cs' ty)).get d = (s.put b .none).get d := (s.put b .none).get_new_ne _ d hd
    by_cases e : d = b
    · rw [e1, e, s.get_put b .none hlim] at hn
      exact absurd rfl hn
    · have e2 := s.get_put_ne b .none d e
      exact ⟨e, by rw [← e2, ← e1]; exact hn, e1.trans e2⟩
  have hr : ∀ d, s.get d ≠ .none → (E.more s.n (E.r b) (E.k b)).r d = E.r d := fun d hd => hle.r d (h.ok hd)
  refine ⟨⟨fun d hd => ?_, fun d e hd he hde => ?_⟩, ⟨hos, htp, hou, by omega, hle, fun d hd => AEnv.more_z_old E s.n _ _ hi _ hd, fun d hd hn => hoth d (fun e => hn b hbn e.symm), fun d hd => ?_⟩⟩
  · by_cases e : d = s.n
    · subst e
      rw [hat]
      refine ⟨E.more_ok _ _ _, hl, .cells c ty fz, ?_, c, fz, rfl, ?_, hlen, hv.mono hle, hfz⟩
      · rw [AEnv.more_r]; exact ho
      · rw [AEnv.more_k]; exact hc
    · obtain ⟨e1, e2, e3⟩ := hne d e hd
      rw [e3]
      obtain ⟨q1, q1', o', q2, q3⟩ := h.at_ d e2
      refine ⟨.inl q1, q1', o', ?_, q3.mono hle q1 (AEnv.more_z_old E s.n _ _ hi _ q1)⟩
      rw [hr d e2]
      exact (hoth _ (fun e4 => e1 (h.inj d b e2 hbn e4))).trans q2
  · by_cases e1 : d = s.n
    · by_cases e2 : e = s.n
      · rw [e1, e2]
      · exfalso
        obtain ⟨g1, g2, _⟩ := hne e e2 he
        rw [e1, AEnv.more_r, hr e g2] at hde
        exact g1 (h.inj e b g2 hbn hde.symm)
    · obtain ⟨g1, g2, _⟩ := hne d e1 hd
      by_cases e2 : e = s.n
      · exfalso
        rw [e2, AEnv.more_r, hr d g2] at hde
        exact g1 (h.inj d b g2 hbn hde)
      · obtain ⟨_, g4, _⟩ := hne e e2 he
        rw [hr d g2, hr e g4] at hde
        exact h.inj d e g2 g4 hde
  · by_cases e : d = s.n
    · exact .inr ⟨b, hbn, by rw [e, AEnv.more_r]⟩
    · obtain ⟨_, e2, _⟩ := hne d e hd
      exact .inr ⟨d, e2, (hr d e2).symm⟩

/-- What is appended. -/
noncomputable def srcA (P : Program) (size tx : Nat) (x : AV) (s : AS) : Option (Nat × List AV) := match P.underlying tx with
  | some (.slice _) => match x with
    | .nils => some (0, [])
    | .sl b o n _ => match s.get b with
      | .cells cs _ => cond (Nat.ble (Nat.add o (Nat.mul n size)) cs.length) (some (n, (cs.drop o).take (Nat.mul n size))) none
      | _ => none
    | .slu b o n _ => match s.get b with
      | .cells cs _ => cond (Nat.ble (Nat.add o (Nat.mul n size)) cs.length) (some (n, (cs.drop o).take (Nat.mul n size))) none
      | _ => none
    | _ => none
  | some .string => match x with
    | .str l => cond (Nat.beq size 1) (some (l.length, l.map fun c => .int .u8 (Int.ofNat c.toNat))) none
    | _ => none
  | _ => none
theorem VL.ones [Tab] {E : AEnv} {l : List AV} {a : List Value} (h : VL E l a) (hl : l.all oneA = true) : ∀ u ∈ a, u.oneCell' = true := fun u hu => by
  obtain ⟨i, hi⟩ := List.mem_iff_getElem?.1 hu
  have hil : i < l.length := by rw [h.len]; exact (List.getElem?_eq_some_iff.1 hi).1
  exact (oneA_ok (h.at_ i _ u (List.getElem?_eq_getElem hil) hi) (List.all_eq_true.1 hl _ (List.getElem_mem hil))).1
theorem srcA_ok [Tab] {P : Program} {size tx n : Nat} {x : AV} {y : Value} {s : AS} {E : AEnv} {w : World} {news : List AV} (h : HR E s.get w) (hx : VR E x y) (he : srcA P size tx x s = some (n, news)) (h1 : news.all oneA = true) : ∃ xs, VL E news xs ∧ Src P size tx y n xs w := by
  unfold srcA at he
  split at he
  · rename_i e' hk
    split at he
    · injection he with he
      injection he with e1 e2
      subst e1
      subst e2
      cases hx
      exact ⟨[], VL.nil, Src.ofNil w hk 0⟩
    · rename_i b o m c
      split at he
      · rename_i cs cty hg
        cases hl : Nat.ble (Nat.add o (Nat.mul m size)) cs.length with
        | false => rw [hl] at he; cases he
        | true =>
          rw [hl] at he
          injection he with he
          injection he with e1 e2
          subst e1
          subst e2
          obtain ⟨vs, q1, q2, q3⟩ := h.range hg (o := o) (n := m * size) (Nat.le_of_ble_eq_true hl)
          cases hx
          exact ⟨vs, q2, Src.ofSlice w hk _ m c vs q1 (fun j u hu => by rw [Addr.add_mid]; exact q3 j u hu) (q2.ones h1)⟩
      · cases he
    · rename_i b o m c
      split at he
      · rename_i cs cty hg
        cases hl : Nat.ble (Nat.add o (Nat.mul m size)) cs.length with
        | false => rw [hl] at he; cases he
        | true =>
          rw [hl] at he
          injection he with he
          injection he with e1 e2
          subst e1
          subst e2
          obtain ⟨vs, q1, q2, q3⟩ := h.range hg (o := o) (n := m * size) (Nat.le_of_ble_eq_true hl)
          cases hx
          exact ⟨vs, q2, Src.ofSlice w hk _ m _ vs q1 (fun j u hu => by rw [Addr.add_mid]; exact q3 j u hu) (q2.ones h1)⟩
      · cases he
    · cases he
  · rename_i hk
    split at he
    · rename_i l
      cases hs : Nat.beq size 1 with
      | false => rw [hs] at he; cases he
      | true =>
        rw [hs] at he
        injection he with he
        injection he with e1 e2
        subst e1
        subst e2
        have := Nat.eq_of_beq_eq_true hs
        subst this
        cases hx
        have hsrc := Src.ofString (P := P) w hk ⟨l.toArray⟩
        refine ⟨byteCells ⟨l.toArray⟩, ?_, by rw [ByteArray.size_mk'] at hsrc; simpa using hsrc⟩
        refine ⟨by simp [byteCells], fun i c v h1 h2 => ?_⟩
        unfold byteCells at h2
        rw [List.getElem?_map] at h1 h2
        cases hi : l[i]? with
        | none => rw [hi] at h1; cases h1
        | some u =>
          rw [hi] at h1
          simp only [hi, Option.map_some] at h2
          injection h1 with h1
          injection h2 with h2
          subst h1
          subst h2
          exact .int _ _
    · cases he
  · cases he
noncomputable def growA (e need bytes esz : Nat) (cells : List AV) (s : AS) : Option (AV × AS) :=
  cond (Nat.ble (Nat.mul need bytes) 1000000000000) (cond (Nat.ble need 1000000000000) (match newA s cells e with
    | some (.ptr b _, s') => some (.slu b 0 need esz, s')
    | _ => none) none) none
noncomputable def appendA (P : Program) (ts : List Nat) (a x : AV) (s : AS) : Option (AV × AS) := match ts with
  | [t, tx] => match P.underlying t with
    | some (.slice e) => match P.info? e with
      | some ie => match zeroA P e with
        | some zs => cond (Nat.beq zs.length ie.size) (match srcA P ie.size tx x s with
          | some (n, news) => cond (news.all oneA) (match a with
            | .nils => match n with
              | 0 => some (.nils, s)
              | m + 1 => growA e (m + 1) ie.bytes ie.size news s
            | .sl b o len cap => match s.get b with
              | .cells cs cty => cond (Nat.ble (Nat.add len n) cap)
                  (cond (Nat.ble (Nat.add (Nat.add o (Nat.mul len ie.size)) news.length) cs.length) (some (.sl b o (Nat.add len n) cap, s.put b (.cells (putL cs (Nat.add o (Nat.mul len ie.size)) news) cty))) none)
                  (cond (Nat.ble (Nat.add o (Nat.mul len ie.size)) cs.length) (growA e (Nat.add len n) ie.bytes ie.size (List.append ((cs.drop o).take (Nat.mul len ie.size)) news) s) none)
              | _ => none
            | .slu b o len esz => cond (Nat.beq o 0) (cond (Nat.beq esz ie.size) (match s.get b with
              | .cells cs cty => cond (Nat.beq cty e) (cond (Nat.ble (Nat.mul len ie.size) cs.length) (growA e (Nat.add len n) ie.bytes ie.size (List.append (cs.take (Nat.mul len ie.size)) news) (s.put b .none)) none) none
              | _ => none) none) none
            | _ => none) none
          | none => none) none
        | none => none
      | none => none
    | _ => none
  | _ => none
/-- A new row. -/
theorem growA_ok [Tab] {P : Program} {t tx ty e : Nat} {ie : TypeInfo} {z : Value} {base : Option Addr} {sLen sCap n : Nat} {olds xs : List Value} {y : Value} {w : World} {E : AEnv} {s s' : AS} {cells : List AV} {v : AV}
    (hu : P.underlying t = some (.slice e)) (hie : P.info? e = some ie) (hz : ie.zero = some z) (hzs : z.cells.size = ie.size) (h : HR E s.get w) (hi : ¬ E.ok s.n) (hsrc : Src P ie.size tx y n xs w)
    (hold : (Builtin.firstCells ie.size sLen (.slice base sLen sCap)).run P w.drew = .ok olds.toArray w.drew) (hol : olds.length = sLen * ie.size) (hg : sCap < sLen + n) (hv : VL E cells (olds ++ xs)) (he : growA e (sLen + n) ie.bytes ie.size cells s = some (v, s')) :
    Ran P (Builtin.append_ #[t, tx] ty #[.slice base sLen sCap, y]) w E s v s' := by
  unfold growA at he
  cases h1 : Nat.ble (Nat.mul (sLen + n) ie.bytes) 1000000000000 with
  | false => rw [h1] at he; cases he
  | true =>
  cases h2 : Nat.ble (sLen + n) 1000000000000 with
  | false => rw [h1, h2] at he; cases he
  | true =>
    rw [h1, h2] at he
    simp only [cond_true] at he
    split at he
    · rename_i b o s'' hn
      injection he with he
      injection he with e1 e2
      subst e1
      subst e2
      obtain ⟨hl, e3, rfl⟩ := newA_ok hn
      injection e3 with e4 e5
      subst e4
      subst e5
      have g1 : (sLen + n) * ie.bytes ≤ 1000000000000 := Nat.le_of_ble_eq_true h1
      have hnc := nextslicecap_le hg
      have hfit : Builtin.nextslicecap (sLen + n) sCap * ie.bytes ≤ 281474976710656 := by
        have := Nat.mul_le_mul_right ie.bytes hnc
        rw [Nat.mul_assoc] at this
        omega
      have g2 : sLen + n ≤ 1000000000000 := Nat.le_of_ble_eq_true h2
      have hrun := run_append_grow_src (P := P) w t tx ty e ie z hu hie hz base sLen sCap olds hold y n xs hsrc hg (by omega) hfit
      obtain ⟨g, hgc⟩ : ∃ g, grownCap w (sLen + n) sCap e = g := ⟨_, rfl⟩
      have hge : sLen + n ≤ g := by
        rw [← hgc]
        exact Nat.le_add_right _ _
      rw [hgc] at hrun
      have hcells : cells.length = (olds ++ xs).length := hv.len
      have hxl := hsrc.newsLen
      have htot : ((olds ++ xs).toArray ++ Builtin.zeroCells z.cells (g - (sLen + n))).size = g * ie.size := by
        simp only [Array.size_append, size_zeroCells, hzs, List.size_toArray, List.length_append, hol, hxl]
        rw [← Nat.add_mul, ← Nat.add_mul]
        congr 1
        omega
      have hclen : (olds ++ xs).length ≤ g * ie.size := by
        rw [List.length_append, hol, hxl, ← Nat.add_mul]
        exact Nat.mul_le_mul_right _ hge
      obtain ⟨r1, r2⟩ := h.newCells (cs := cells) (c := (olds ++ xs).toArray ++ Builtin.zeroCells z.cells (g - (sLen + n))) (ty := e) hi hl
        (by rw [Array.toList_append, hcells, List.take_left']; exact hv; simp) (by rw [htot, hcells]; exact hclen) _ (.inr rfl)
      refine ⟨_, _, _, hrun, ?_, r1, r2, E.grow_more _ _ _⟩
      have := VR.slu (E := E.more s.n w.heap.size ((olds ++ xs).toArray ++ Builtin.zeroCells z.cells (g - (sLen + n))).size) s.n 0 (sLen + n) ie.size g (E.more_ok _ _ _) hge (by rw [AEnv.more_k, htot, Nat.zero_add])
      rw [AEnv.more_r] at this
      exact this
    · cases he
theorem appendA_ok [Tab] {P : Program} {t tx : Nat} {ts : List Nat} {ty : TypeId} {a x v : AV} {y u : Value} {s s' : AS} {E : AEnv} {w : World} (h : HR E s.get w) (hi : ¬ E.ok s.n) (ha : VR E a u) (hx : VR E x y) (hts : ts = [t, tx]) (he : appendA P ts a x s = some (v, s')) :
    Ran P (Builtin.append_ #[t, tx] ty #[u, y]) w E s v s' := by
  subst hts
  unfold appendA at he
  dsimp only at he
  split at he
  · rename_i e hu
    split at he
    · rename_i ie hie
      split at he
      · rename_i zs hzs
        have hz : ∃ z, ie.zero = some z ∧ z.cells.size = zs.length := by
          unfold zeroA at hzs
          rw [hie] at hzs
          dsimp only at hzs
          split at hzs
          · rename_i z hz
            injection hzs with hzs
            subst hzs
            exact ⟨z, hz, by simp⟩
          · cases hzs
        obtain ⟨z, hz, hzl⟩ := hz
        cases h1 : Nat.beq zs.length ie.size with
        | false => rw [h1] at he; cases he
        | true =>
          rw [h1] at he
          simp only [cond_true] at he
          have hsz : z.cells.size = ie.size := by rw [hzl]; exact Nat.eq_of_beq_eq_true h1
          split at he
          · rename_i n news hs
            cases h2 : news.all oneA with
            | false => rw [h2] at he; cases he
            | true =>
              rw [h2] at he
              simp only [cond_true] at he
              obtain ⟨xs, q1, q2⟩ := srcA_ok h hx hs h2
              have hnl : news.length = n * ie.size := by rw [q1.len]; exact q2.newsLen
              split at he
              · cases ha
                split at he
                · injection he with he
                  injection he with e1 e2
                  subst e1
                  subst e2
                  have hx0 : xs = [] := List.eq_nil_of_length_eq_zero (by have := q2.newsLen; simpa using this)
                  subst hx0
                  refine Ran.same (x := .slice none 0 0) h ?_ .nils
                  have hc := q2.cells
                  have hl := q2.len w
                  rcases q2.kind with ⟨e', hk⟩ | hk <;> simp [Builtin.append_, run_underlying hu, run_underlying hk, sizeOf, typeInfo, hie, hl, hc]
                · rename_i m
                  have := growA_ok (ty := ty) (base := none) (sLen := 0) (sCap := 0) (olds := []) (cells := news) (v := v) (s' := s') hu hie hz hsz h hi q2 (run_firstCells_none w.drew ie.size 0 0 0) (by simp) (by omega) (by simpa using q1) (by rw [Nat.zero_add]; exact he)
                  exact this
              · rename_i b o len cap
                cases ha with
                | sl b o len cap hb =>
                split at he
                · rename_i cs cty hg
                  cases h3 : Nat.ble (Nat.add len n) cap with
                  | true =>
                    rw [h3] at he
                    simp only [cond_true] at he
                    cases h4 : Nat.ble (Nat.add (Nat.add o (Nat.mul len ie.size)) news.length) cs.length with
                    | false => rw [h4] at he; cases he
                    | true =>
                      rw [h4] at he
                      injection he with he
                      injection he with e1 e2
                      subst e1
                      subst e2
                      have g3 : len + n ≤ cap := Nat.le_of_ble_eq_true h3
                      have g4 : o + len * ie.size + news.length ≤ cs.length := Nat.le_of_ble_eq_true h4
                      obtain ⟨_, c, fz, k1, k2, k3, _, _⟩ := h.cells hg
                      have ht := h.there hg (o := o + len * ie.size) (n := xs.length) (by rw [← q1.len]; omega)
                      obtain ⟨r1, r2⟩ := h.store hg q1 g4
                      exact ⟨_, _, E, run_append_room_src w t tx ty e ie hu hie (E.r b) o len cap y n xs q2 g3 (fun j hj => (ht j hj).1) (fun j hj => (ht j hj).2), .sl b o (len + n) cap hb, r1, r2, Grow.refl _ _⟩
                  | false =>
                    rw [h3] at he
                    simp only [cond_false] at he
                    have g3 : cap < len + n := by
                      rcases Nat.lt_or_ge cap (len + n) with h | h
                      · exact h
                      · have := Nat.ble_eq_true_of_le h; rw [show (len + n).ble cap = (len.add n).ble cap from rfl, h3] at this; cases this
                    cases h4 : Nat.ble (Nat.add o (Nat.mul len ie.size)) cs.length with
                    | false => rw [h4] at he; cases he
                    | true =>
                      rw [h4] at he
                      simp only [cond_true] at he
                      obtain ⟨vs, k1, k2, k3⟩ := h.range hg (o := o) (n := len * ie.size) (Nat.le_of_ble_eq_true h4)
                      have hold := run_firstCells_some (P := P) w.drew ie.size len (⟨E.r b, o, none⟩ : Addr) len cap vs k1 (fun j u hu => by rw [Addr.add_mid]; exact k3 j u hu)
                      exact growA_ok (ty := ty) hu hie hz hsz h hi q2 hold k1 g3 (k2.append q1) he
                · cases he
              · rename_i b o len esz
                cases ha with
                | slu b o len esz cap hb hlc hk =>
                cases h3 : Nat.beq o 0 with
                | false => rw [h3] at he; cases he
                | true =>
                cases h4 : Nat.beq esz ie.size with
                | false => rw [h3, h4] at he; cases he
                | true =>
                  rw [h3, h4] at he
                  simp only [cond_true] at he
                  have g3 := Nat.eq_of_beq_eq_true h3
                  have g4 := Nat.eq_of_beq_eq_true h4
                  subst g3
                  subst g4
                  split at he
                  · rename_i cs cty hg
                    cases h8 : Nat.beq cty e with
                    | false => rw [h8] at he; cases he
                    | true =>
                    cases h5 : Nat.ble (Nat.mul len ie.size) cs.length with
                    | false => rw [h8, h5] at he; cases he
                    | true =>
                      rw [h8, h5] at he
                      have g8 := (Nat.eq_of_beq_eq_true h8).symm
                      subst g8
                      simp only [cond_true] at he
                      have g5 : len * ie.size ≤ cs.length := Nat.le_of_ble_eq_true h5
                      obtain ⟨hbn, c, fz, k1, k2, k3, k4, k5⟩ := h.cells hg
                      obtain ⟨vs, m1, m2, m3⟩ := h.range hg (o := 0) (n := len * ie.size) (by omega)
                      rw [List.drop_zero] at m2
                      obtain ⟨d1, d2⟩ := h.drop b (h.at_ b (by rw [hg]; intro e; cases e)).2.1
                      rcases Nat.lt_or_ge cap (len + n) with hcap | hcap
                      · have hold := run_firstCells_some (P := P) w.drew ie.size len (⟨E.r b, 0, none⟩ : Addr) len cap vs m1 (fun j u hu => by rw [Addr.add_mid]; exact m3 j u hu)
                        obtain ⟨x', w', E', p1, p2, p3, p4, p5⟩ := growA_ok (ty := ty) hu hie hz hsz d1 hi q2 hold m1 hcap (m2.append q1) he
                        exact ⟨x', w', E', p1, p2, p3, d2.trans p4, p5⟩
                      · unfold growA at he
                        cases h6 : Nat.ble (Nat.mul (Nat.add len n) ie.bytes) 1000000000000 with
                        | false => rw [h6] at he; cases he
                        | true =>
                        cases h7 : Nat.ble (Nat.add len n) 1000000000000 with
                        | false => rw [h6, h7] at he; cases he
                        | true =>
                          rw [h6, h7] at he
                          simp only [cond_true] at he
                          split at he
                          · rename_i b2 o2 s'' hn
                            injection he with he
                            injection he with e1 e2
                            subst e1
                            subst e2
                            obtain ⟨hl, e3, rfl⟩ := newA_ok hn
                            injection e3 with e4 e5
                            subst e4
                            subst e5
                            have hxl := q2.newsLen
                            have hfit : len * ie.size + xs.length ≤ c.size := by
                              rw [hxl, ← Nat.add_mul, k2, ← hk, Nat.zero_add]
                              exact Nat.mul_le_mul_right _ hcap
                            have ht := h.there hg (o := len * ie.size) (n := xs.length) (by omega)
                            have hrun := run_append_room_src (P := P) w t tx ty e ie hu hie (E.r b) 0 len cap y n xs q2 hcap (fun j hj => by rw [Nat.zero_add]; exact (ht j hj).1) (fun j hj => by rw [Nat.zero_add]; exact (ht j hj).2)
                            rw [Nat.zero_add] at hrun
                            obtain ⟨p1, p2, p3, p4, p5⟩ := setCells_same xs (E.r b) (len * ie.size) w
                            have hnews : (cs.take (len * ie.size) ++ news).length = len * ie.size + xs.length := by rw [List.length_append, List.length_take, q1.len]; omega
                            obtain ⟨r1, r2⟩ := h.move (w' := w.setCells (E.r b) (len * ie.size) xs) (cs' := cs.take (len * ie.size) ++ news) hg hi hl p4 p1 p2 p3 p5 (heap_setCells xs (E.r b) (len * ie.size) w c _ fz k1) (by rw [putC_size]; exact k2) (by rw [hnews, putC_size]; exact hfit)
                              (by
                                rw [hnews, putC_list _ _ _ hfit, List.append_assoc, ← List.append_assoc, List.take_left' (by rw [List.length_append, List.length_take]; simp; omega)]
                                refine VL.append ?_ q1
                                have := k4.take (len * ie.size)
                                rw [List.take_take, Nat.min_eq_left g5] at this
                                exact this) (by rw [putC_size]; exact k5)
                            refine ⟨_, _, _, hrun, ?_, r1, r2, E.grow_more _ _ _⟩
                            have := VR.slu (E := E.more s.n (E.r b) (E.k b)) s.n 0 (len + n) ie.size cap (E.more_ok _ _ _) hcap (by rw [AEnv.more_k]; exact hk)
                            rw [AEnv.more_r] at this
                            exact this
                          · cases he
                  · cases he
              · cases he
          · cases he
      · cases he
    · cases he
  · cases he
end Go.Proofs.YtambgppdjlhdaaaGreatDoor
