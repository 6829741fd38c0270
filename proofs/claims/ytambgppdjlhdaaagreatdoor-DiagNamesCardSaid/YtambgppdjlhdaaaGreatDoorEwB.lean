/-
  The abstract machine: strings.Builder's copyCheck and String as oracles.
-/
import Derived.Test.YtambgppdjlhdaaaGreatDoorEwA
import Derived.Test.YtambgppdjlhdaaaGreatDoorProg
import Derived.Shelf.Strings.Builder1
namespace Go.Proofs.YtambgppdjlhdaaaGreatDoor
open Go.RowKit

theorem rowAt_self {P : Program} {f : TypeId → Bool} {T m : Nat} (hs : P.cellsOf T = 2) (hf : f T = true) (hm : 1 ≤ m) (d : Nat) : rowAt P f (d + 1) T m 0 1 = true := by
  unfold rowAt
  simp [hs, hf, hm]
theorem liesAt_self [Tab] {P : Program} {T m : Nat} (hd : P.depth ≠ 0) (hs : P.cellsOf T = 2) (hf : sameLayout P P.depth T T = true) (hm : 1 ≤ m) : liesAt P P.depth T m 0 T 1 = true := by
  obtain ⟨d, hd⟩ := Nat.exists_eq_succ_of_ne_zero hd
  have key : ∀ k, liesAt P (k + 1) T m 0 T 1 = true := fun k => by
    unfold liesAt
    have : rowAt P (sameLayout P P.depth · T) P.depth T m 0 1 = true := by
      have h := rowAt_self (P := P) (f := (sameLayout P P.depth · T)) (m := m) hs hf hm d
      rw [← Nat.succ_eq_add_one, ← hd] at h
      exact h
    rw [this]
    rfl
  have := key d
  rw [← Nat.succ_eq_add_one, ← hd] at this
  exact this
theorem sizeBe : (Tryz.prog.info? 219).map (·.size) = some 2 := by kernel_rfl
set_option maxRecDepth 100000 in
theorem ccE_used [Tab] (b : Nat) (w : World) (h0 : w.cell? ⟨b, 0, none⟩ = some (.pointer (some ⟨b, 0, none⟩))) :
    Calls Tryz.prog 180 #[.pointer (some ⟨b, 0, none⟩)] w fun e w' => e = .returned (.tuple #[]) ∧ w' = w := by
  obtain ⟨j, hj, _⟩ := Option.map_eq_some_iff.1 sizeBe
  go_enter Tryz.func180, Tryz.ntmps180
  go_wp2
  rw [Lib.run_neq_ptr_same w _ Tryz.underlying217 hj]
  go_wp2
  go_end0
  exact ⟨rfl, rfl⟩
set_option maxRecDepth 100000 in
theorem ccE_fresh [Tab] (b n : Nat) (w : World) (h0 : w.cell? ⟨b, 0, none⟩ = some (.pointer none)) (hsh : w.shape? b = some (219, n)) (hn : 2 ≤ n) (hfz : w.frozen? ⟨b, 0, none⟩ = false) :
    Calls Tryz.prog 180 #[.pointer (some ⟨b, 0, none⟩)] w fun e w' => e = .returned (.tuple #[]) ∧ w' = w.setCell ⟨b, 0, none⟩ (.pointer (some ⟨b, 0, none⟩)) := by
  obtain ⟨j, hj, hjs⟩ := Option.map_eq_some_iff.1 sizeBe
  have hcl : Tryz.prog.cellsOf 219 = 2 := by kernel_rfl
  have hlies : liesAt Tryz.prog Tryz.prog.depth 219 (n / Tryz.prog.cellsOf 219) 0 219 1 = true :=
    liesAt_self (of_decide_eq_true (by kernel_rfl)) hcl (by kernel_rfl) (by rw [hcl]; omega)
  go_enter Tryz.func180, Tryz.ntmps180
  go_wp2
  rw [Lib.run_to_unsafe w ⟨b, 0, none⟩ Tryz.underlying217 Tryz.underlying316 hj (by rw [hjs]; decide) hsh (by show 0 < n; omega)]
  simp only [Result.andThen]
  rw [Oper.upon_value]
  go_wp2
  rw [run_callFunc_extern Tryz.func225 (by kernel_rfl) (by kernel_rfl) (by kernel_rfl) (e := Extern.AbiNoEscape.same) (by kernel_rfl)]
  rw [Lib.run_noEscape]
  simp only [Result.andThen]
  rw [Oper.upon_value]
  go_wp2
  rw [Lib.run_from_unsafe w ⟨b, 0, none⟩ Tryz.underlying316 Tryz.underlying217 hj hsh hlies]
  simp only [Result.andThen]
  rw [Oper.upon_value]
  go_wp2
  go_end0
  exact ⟨rfl, rfl⟩
noncomputable def copyCheckA (T : Nat) (args : List AV) (s : AS) : Option (AV × AS) := match args with
  | [.ptr b 0] => match s.get b with
    | .cells (.ptr b' 0 :: _) _ => cond (Nat.beq b' b) (some (.tup [], s)) none
    | .cells (.nilp :: y :: r) ty => cond (Nat.beq ty T) (some (.tup [], s.put b (.cells (.ptr b 0 :: y :: r) ty))) none
    | _ => none
  | _ => none
theorem copyCheckA_ok [Tab] : OneOK Tryz.prog 180 (copyCheckA 219) := by
  refine ⟨⟨_, Tryz.func180, by rfl, by rfl⟩, fun args s v s' he _ E w xs h hf hv => ?_, fun args s u s' he => ?_⟩
  · unfold copyCheckA at he
    split at he
    · rename_i b
      obtain ⟨x, rfl, hx⟩ : ∃ x, xs = #[x] ∧ VR E (.ptr b 0) x := by
        match hx : xs.toList, hv with
        | [x], hv => exact ⟨x, by apply Array.ext'; rw [hx], hv.head⟩
        | [], hv => have := hv.len; simp at this
        | _ :: _ :: _, hv => have := hv.len; simp at this
      cases hx
      rename_i hok
      split at he
      · rename_i b' r ty hg
        cases hb : Nat.beq b' b with
        | false => rw [hb] at he; cases he
        | true =>
          rw [hb] at he
          injection he with he
          injection he with e1 e2
          subst e1
          subst e2
          have hb := Nat.eq_of_beq_eq_true hb
          subst hb
          obtain ⟨vs, q1, q2, q3⟩ := h.range hg (o := 0) (n := 1) (by simp)
          match vs, q1 with
          | [y], _ =>
            have hy : VR E (.ptr b' 0) y := q2.head
            cases hy
            refine (ccE_used (E.r b') w (q3 0 _ rfl)).mono ?_
            rintro e w' ⟨rfl, rfl⟩
            exact ⟨_, E, rfl, VL.nil.tup (a := #[]), h, Stp.refl _ _ _, Grow.refl _ _⟩
      · rename_i y r ty hg
        cases hb : Nat.beq ty 219 with
        | false => rw [hb] at he; cases he
        | true =>
          rw [hb] at he
          injection he with he
          injection he with e1 e2
          subst e1
          subst e2
          have hb := Nat.eq_of_beq_eq_true hb
          subst hb
          obtain ⟨vs, q1, q2, q3⟩ := h.range hg (o := 0) (n := 1) (by simp)
          obtain ⟨_, c, fz, k1, k2, k3, _, k5⟩ := h.cells hg
          have k3' : 2 ≤ c.size := by simp at k3; omega
          match vs, q1 with
          | [z], _ =>
            have hz : VR E .nilp z := q2.head
            cases hz
            refine (ccE_fresh (E.r b) c.size w (q3 0 _ rfl) (by unfold World.shape?; rw [k1]) k3' ?_).mono ?_
            · have := k5 0 (by omega)
              unfold World.frozen?
              rw [k1]
              simpa using this
            · rintro e w' ⟨rfl, rfl⟩
              obtain ⟨r1, r2⟩ := h.store hg (o := 0) (vs := [.ptr b 0]) (xs := [.pointer (some ⟨E.r b, 0, none⟩)]) (VL.cons (.ptr b 0 hok) VL.nil) (by simp)
              exact ⟨_, E, rfl, VL.nil.tup (a := #[]), r1, r2, Grow.refl _ _⟩
      · cases he
    · cases he
  · exfalso
    unfold copyCheckA at he
    split at he
    · split at he
      · have := cond_some he; cases this
      · have := cond_some he; cases this
      · cases he
    · cases he
set_option maxRecDepth 100000 in
set_option maxHeartbeats 1000000 in
theorem strE (b g n cap : Nat) (l : List UInt8) (w : World) (hl : l ≠ []) (hb1 : w.cell? ⟨b, 1, none⟩ = some (.slice (some ⟨g, 0, none⟩) l.length cap)) (hcap : l.length ≤ cap) (hsh : w.shape? g = some (5, n)) (hn : l.length ≤ n) (hlim : l.length ≤ 140737488355328) (hcell : ∀ j x, l[j]? = some x → w.cell? ⟨g, j, none⟩ = some (.int .u8 x.toNat)) :
    Calls Tryz.prog 127 #[.pointer (some ⟨b, 0, none⟩)] w fun e w' => e = .returned (.string ⟨l.toArray⟩) ∧ w' = w.drew.freeze ⟨g, 0, none⟩ l.length := by
  have hl0 : l.length ≠ 0 := by simpa using hl
  have c1 : w.drew.cell? ⟨b, 1, none⟩ = some (.slice (some ⟨g, 0, none⟩) l.length cap) := hb1
  have hSD : (Builtin.unsafeSliceData_ #[62] 282 #[.slice (some ⟨g, 0, none⟩) l.length cap]).run Tryz.prog w.drew = .ok (.pointer (some ⟨g, 0, none⟩)) w.drew :=
    Lib.run_unsafeSliceData_row _ _ _ _ _ _ (by omega)
  have hUS : (Builtin.unsafeString_ #[282, 3] 9 #[.pointer (some ⟨g, 0, none⟩), .int .i64 l.length]).run Tryz.prog w.drew = .ok (.string ⟨l.toArray⟩) (w.drew.freeze ⟨g, 0, none⟩ l.length) :=
    Lib.run_unsafeString_row w.drew 282 3 9 5 Tryz.underlying282 (by kernel_rfl) g n hsh l hl hn (by omega) fun j x hx => by
      rw [Addr.add_mid, Nat.zero_add]
      exact hcell j x hx
  have mixed : Tryz.prog.follows .mixedOrders = true := by kernel_rfl
  go_enter Tryz.func127, Tryz.ntmps127
  go_wp2
  go_region_o
  all_goals (go_wp2; go_ret; exact ⟨rfl, rfl⟩)
set_option maxRecDepth 100000 in
set_option maxHeartbeats 1000000 in
theorem strE0 (b : Nat) (w : World) (hb1 : w.cell? ⟨b, 1, none⟩ = some (.slice none 0 0)) :
    Calls Tryz.prog 127 #[.pointer (some ⟨b, 0, none⟩)] w fun e w' => e = .returned (.string ⟨#[]⟩) ∧ w' = w.drew := by
  have c1 : w.drew.cell? ⟨b, 1, none⟩ = some (.slice none 0 0) := hb1
  have hSD : (Builtin.unsafeSliceData_ #[62] 282 #[.slice none 0 0]).run Tryz.prog w.drew = .ok (.pointer none) w.drew := rfl
  have hUS := fun q => Lib.run_unsafeString_none (P := Tryz.prog) w.drew 282 3 9 q
  have mixed : Tryz.prog.follows .mixedOrders = true := by kernel_rfl
  go_enter Tryz.func127, Tryz.ntmps127
  go_wp2
  go_region_o
  all_goals (go_wp2; go_ret; exact ⟨rfl, rfl⟩)
noncomputable def bytes8A : List AV → Option (List UInt8)
  | [] => some []
  | .int .u8 (.ofNat m) :: r => match bytes8A r with
    | some l => cond (Nat.ble m 255) (some (UInt8.ofNat m :: l)) none
    | none => none
  | _ :: _ => none
theorem bytes8A_ok [Tab] {E : AEnv} : ∀ {cs : List AV} {vs : List Value} {l : List UInt8}, VL E cs vs → bytes8A cs = some l → l.length = cs.length ∧ ∀ (j : Nat) (x : UInt8), l[j]? = some x → vs[j]? = some (Value.int .u8 (x.toNat : Int))
  | [], [], l, _, h => by injection h with h; subst h; exact ⟨rfl, fun j x hx => by simp at hx⟩
  | [], v :: vs, _, hv, _ => by have := hv.len; simp at this
  | c :: cs, [], _, hv, _ => by have := hv.len; simp at this
  | c :: cs, v :: vs, l, hv, h => by
    unfold bytes8A at h
    split at h
    · rename_i he; cases he
    · rename_i m r he
      injection he with e1 e2
      subst e1
      subst e2
      split at h
      · rename_i l' hl'
        cases hb : Nat.ble m 255 with
        | false => rw [hb] at h; cases h
        | true =>
          rw [hb] at h
          injection h with h
          subst h
          have hb := Nat.le_of_ble_eq_true hb
          obtain ⟨e3, e4⟩ := bytes8A_ok hv.tail hl'
          have hh := hv.head
          cases hh
          refine ⟨by simp [e3], fun j x hx => ?_⟩
          cases j with
          | zero =>
            simp at hx
            subst hx
            have : (UInt8.ofNat m).toNat = m := by rw [UInt8.toNat_ofNat']; omega
            rw [this]
            rfl
          | succ j => exact e4 j x (by simpa using hx)
      · cases h
    · cases h
/-- What may be read of a buffer, frozen or not. -/
noncomputable def bufA : AB → Option (List AV × Nat)
  | .cells cs ty => some (cs, ty)
  | .froz cs ty => some (cs, ty)
  | _ => none
theorem HR.buf [Tab] {E : AEnv} {s : Nat → AB} {w : World} (h : HR E s w) {g : Nat} {cs : List AV} {ty : Nat} (hg : bufA (s g) = some (cs, ty)) :
    s g ≠ .none ∧ ∃ (c : Array Value) (fz : Nat × Nat), w.heap[E.r g]? = some (.cells c ty fz) ∧ c.size = E.k g ∧ cs.length ≤ c.size ∧ VL E cs (c.toList.take cs.length) := by
  have hne : s g ≠ .none := fun e => by rw [e] at hg; cases hg
  obtain ⟨_, _, o, h2, h3⟩ := h.at_ g hne
  refine ⟨hne, ?_⟩
  cases hb : s g with
  | none => rw [hb] at hg; cases hg
  | mapb es k => rw [hb] at hg; cases hg
  | iter a b c => rw [hb] at hg; cases hg
  | zero a b => rw [hb] at hg; cases hg
  | cells cs' ty' =>
    rw [hb] at hg h3
    injection hg with hg
    injection hg with e1 e2
    subst e1
    subst e2
    obtain ⟨c, fz, rfl, q1, q2, q3, _⟩ := h3
    exact ⟨c, fz, h2, q1, q2, q3⟩
  | froz cs' ty' =>
    rw [hb] at hg h3
    injection hg with hg
    injection hg with e1 e2
    subst e1
    subst e2
    obtain ⟨c, fz, rfl, q1, q2, q3⟩ := h3
    exact ⟨c, fz, h2, q1, q2, q3⟩
theorem HR.freeze [Tab] {E : AEnv} {s : AS} {w : World} (h : HR E s.get w) {g : Nat} {cs : List AV} {ty : Nat} (hg : bufA (s.get g) = some (cs, ty)) (n : Nat) : HR E (s.put g (.froz cs ty)).get (w.drew.freeze ⟨E.r g, 0, none⟩ n) ∧ Stp E s.get w E (s.put g (.froz cs ty)).get (w.drew.freeze ⟨E.r g, 0, none⟩ n) := by
  refine h.lift ?_
  obtain ⟨hne, c, fz, k1, k2, k3, k4⟩ := h.buf hg
  have hlim := (h.at_ g hne).2.1
  have hat := s.get_put g (.froz cs ty) hlim
  have hin : ∀ b, b ≠ g → (s.put g (.froz cs ty)).get b = s.get b := fun b hb => s.get_put_ne g _ b hb
  have hold : ∀ b, (s.put g (.froz cs ty)).get b ≠ .none → s.get b ≠ .none := fun b hb => by
    by_cases e : b = g
    · rw [e]; exact hne
    · rw [hin b e] at hb; exact hb
  have hheap : ∀ d, d ≠ E.r g → (w.drew.freeze ⟨E.r g, 0, none⟩ n).heap[d]? = w.heap[d]? := fun d hd => by
    unfold World.freeze
    split
    · rfl
    · show (Array.modify w.heap (E.r g) _)[d]? = w.heap[d]?
      rw [Array.getElem?_modify, if_neg (fun e => hd e.symm)]
  have hself : ∃ fz', (w.drew.freeze ⟨E.r g, 0, none⟩ n).heap[E.r g]? = some (.cells c ty fz') := by
    unfold World.freeze
    split
    · exact ⟨fz, k1⟩
    · refine ⟨if fz.1 == fz.2 then (0, 0 + n) else (min fz.1 0, max fz.2 (0 + n)), ?_⟩
      show (Array.modify w.heap (E.r g) _)[E.r g]? = _
      rw [Array.getElem?_modify, if_pos rfl, k1]
      rfl
  have hsz : (w.drew.freeze ⟨E.r g, 0, none⟩ n).heap.size = w.heap.size := by
    unfold World.freeze
    split
    · rfl
    · show (Array.modify w.heap (E.r g) _).size = w.heap.size
      exact Array.size_modify ..
  have hos : (w.drew.freeze ⟨E.r g, 0, none⟩ n).os = w.os ∧ (w.drew.freeze ⟨E.r g, 0, none⟩ n).tape = w.tape ∧ (w.drew.freeze ⟨E.r g, 0, none⟩ n).output = w.output := by
    unfold World.freeze
    split <;> exact ⟨rfl, rfl, rfl⟩
  refine ⟨⟨fun b hb => ?_, fun b d hb hd => ?_⟩, ⟨hos.1, hos.2.1, hos.2.2, Nat.le_of_eq hsz.symm, AEnv.le.refl E, fun _ _ => rfl, fun d hd hn => hheap d (fun e => hn g hne e.symm), fun b hb => .inr ⟨b, hold b hb, rfl⟩⟩⟩
  · by_cases e : b = g
    · subst e
      obtain ⟨fz', hf⟩ := hself
      rw [hat]
      exact ⟨(h.at_ b hne).1, hlim, _, hf, c, fz', rfl, k2, k3, k4⟩
    · obtain ⟨q1, q2, o, q3, q4⟩ := h.at_ b (hold b hb)
      exact ⟨q1, q2, o, by rw [hheap _ (fun e2 => e (h.inj b g (hold b hb) hne e2))]; exact q3, by rw [hin b e]; exact q4⟩
  · exact h.inj b d (hold b hb) (hold d hd)
noncomputable def stringA (args : List AV) (s : AS) : Option (AV × AS) := match args with
  | [.ptr b 0] => match s.get b with
    | .cells [_, .nils] _ => some (.str [], s)
    | .cells [_, .slu g 0 n 1] _ => match bufA (s.get g) with
      | some (cs, ty) => cond (Nat.beq ty 5) (cond (Nat.ble 1 n) (cond (Nat.ble n cs.length) (cond (Nat.ble n 140737488355328) (match bytes8A (cs.take n) with
        | some l => some (.str l, s.put g (.froz cs ty))
        | none => none) none) none) none) none
      | none => none
    | _ => none
  | _ => none
theorem stringA_ok [Tab] : OneOK Tryz.prog 127 stringA := by
  refine ⟨⟨_, Tryz.func127, by rfl, by rfl⟩, fun args s v s' he _ E w xs h hf hv => ?_, fun args s u s' he => ?_⟩
  · unfold stringA at he
    split at he
    · rename_i b
      obtain ⟨x, rfl, hx⟩ : ∃ x, xs = #[x] ∧ VR E (.ptr b 0) x := by
        match hx : xs.toList, hv with
        | [x], hv => exact ⟨x, by apply Array.ext'; rw [hx], hv.head⟩
        | [], hv => have := hv.len; simp at this
        | _ :: _ :: _, hv => have := hv.len; simp at this
      cases hx
      split at he
      · rename_i a0 ty0 hg
        injection he with he
        injection he with e1 e2
        subst e1
        subst e2
        obtain ⟨vs, q1, q2, q3⟩ := h.range hg (o := 1) (n := 1) (by simp)
        match vs, q1 with
        | [z], _ =>
          have hz : VR E .nils z := q2.head
          cases hz
          refine (strE0 (E.r b) w (q3 0 _ rfl)).mono ?_
          rintro e w' ⟨rfl, rfl⟩
          exact ⟨_, E, rfl, .str [], h.drew, Stp.drew _ _ _, Grow.refl _ _⟩
      · rename_i a0 g n ty0 hg
        split at he
        · rename_i cs ty hcs
          cases h1 : Nat.beq ty 5 with
          | false => rw [h1] at he; cases he
          | true =>
          cases h2 : Nat.ble 1 n with
          | false => rw [h1, h2] at he; cases he
          | true =>
          cases h3 : Nat.ble n cs.length with
          | false => rw [h1, h2, h3] at he; cases he
          | true =>
          cases h4 : Nat.ble n 140737488355328 with
          | false => rw [h1, h2, h3, h4] at he; cases he
          | true =>
            rw [h1, h2, h3, h4] at he
            simp only [cond_true] at he
            have g1 := Nat.eq_of_beq_eq_true h1
            have g2 : 1 ≤ n := Nat.le_of_ble_eq_true h2
            have g3 : n ≤ cs.length := Nat.le_of_ble_eq_true h3
            have g4 : n ≤ 140737488355328 := Nat.le_of_ble_eq_true h4
            subst g1
            split at he
            · rename_i l hl
              injection he with he
              injection he with e1 e2
              subst e1
              subst e2
              obtain ⟨vs, q1, q2, q3⟩ := h.range hg (o := 1) (n := 1) (by simp)
              obtain ⟨_, c, fz, k1, k2, k3, k4⟩ := h.buf hcs
              have p2 := k4.take n
              have p3 : ∀ (j : Nat) (x : Value), ((c.toList.take cs.length).take n)[j]? = some x → w.cell? ⟨E.r g, j, none⟩ = some x := fun j x hx => by
                rw [List.getElem?_take] at hx
                split at hx
                · rw [List.getElem?_take] at hx
                  split at hx
                  · simpa [World.cell?, k1] using hx
                  · cases hx
                · cases hx
              obtain ⟨e1, e2⟩ := bytes8A_ok p2 hl
              have hll : l.length = n := by rw [e1, List.length_take]; omega
              match vs, q1 with
              | [z], _ =>
                have hz : VR E (.slu g 0 n 1) z := q2.head
                cases hz with
                | slu _ _ _ _ cap hb hlc hk =>
                have hcellb : w.cell? ⟨E.r b, 1, none⟩ = some (.slice (some ⟨E.r g, 0, none⟩) l.length cap) := by rw [hll]; exact q3 0 _ rfl
                refine (strE (E.r b) (E.r g) c.size cap l w (by intro e; rw [e] at hll; simp at hll; omega) hcellb (by omega) (by unfold World.shape?; rw [k1]) (by omega) (by omega) (fun j x hx => ?_)).mono ?_
                · exact p3 j _ (e2 j x hx)
                · rintro e w' ⟨rfl, rfl⟩
                  obtain ⟨r1, r2⟩ := h.freeze hcs l.length
                  exact ⟨_, E, rfl, .str l, r1, r2, Grow.refl _ _⟩
            · cases he
        · cases he
      · cases he
    · cases he
  · exfalso
    unfold stringA at he
    split at he
    · split at he
      · cases he
      · split at he
        · have he := cond_some (cond_some (cond_some (cond_some he)))
          split at he
          · cases he
          · cases he
        · cases he
      · cases he
    · cases he
end Go.Proofs.YtambgppdjlhdaaaGreatDoor
