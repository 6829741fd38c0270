/-
  The abstract machine: conversions, maps, lengths; all operations but calls. No program.
-/
import Derived.Test.YtambgppdjlhdaaaGreatDoorEvG
import Derived.Laws.IdiomStrings
import Derived.Laws.BytesString
import Derived.Laws.Runes
namespace Go.Proofs.YtambgppdjlhdaaaGreatDoor
open Go.RowKit

noncomputable def bytesA : List AV → Option (List UInt8)
  | [] => some []
  | .int .u8 (.ofNat m) :: r => match bytesA r with
    | some l => some (UInt8.ofNat m :: l)
    | none => none
  | _ :: _ => none
theorem bytesA_ok [Tab] {E : AEnv} : ∀ {cs : List AV} {vs : List Value} {l : List UInt8}, VL E cs vs → bytesA cs = some l → ∃ ns : List Int, vs = ns.map (Value.int .u8) ∧ ns.map (fun n => UInt8.ofNat n.toNat) = l
  | [], [], l, _, h => by injection h with h; subst h; exact ⟨[], rfl, rfl⟩
  | [], v :: vs, _, hv, _ => by have := hv.len; simp at this
  | c :: cs, [], _, hv, _ => by have := hv.len; simp at this
  | c :: cs, v :: vs, l, hv, h => by
    unfold bytesA at h
    split at h
    · rename_i he; cases he
    · rename_i m r he
      injection he with e1 e2
      subst e1
      subst e2
      split at h
      · rename_i l' hl'
        injection h with h
        subst h
        obtain ⟨ns, e3, e4⟩ := bytesA_ok hv.tail hl'
        have hh := hv.head
        cases hh
        exact ⟨(m : Int) :: ns, by rw [e3]; rfl, by rw [List.map_cons, e4]; rfl⟩
      · cases h
    · cases h
theorem push_bytes [Tab] : ∀ (ns : List Int) (r : List UInt8), ns.foldl (fun r n => r.push (UInt8.ofNat n.toNat)) (⟨r.toArray⟩ : ByteArray) = ⟨(r ++ ns.map (fun n => UInt8.ofNat n.toNat)).toArray⟩
  | [], r => by simp
  | n :: ns, r => by
    rw [List.foldl_cons]
    have e : (⟨r.toArray⟩ : ByteArray).push (UInt8.ofNat n.toNat) = ⟨(r ++ [UInt8.ofNat n.toNat]).toArray⟩ := by
      simp [ByteArray.push]
    rw [e, push_bytes ns]
    simp
noncomputable def convA (P : Program) (src dst : Nat) (x : AV) (s : AS) : Option (AV × AS) := match P.underlying src with
  | none => none
  | some sd => match P.underlying dst with
    | some (.int k) => match x with
      | .int _ n => some (.int k (wrapA k n), s)
      | .symI b .i64 lo hi => match k with
        | .i64 => cond (decide (-9223372036854775808 ≤ lo) && decide (hi ≤ 9223372036854775807)) (some (.symI b .i64 lo hi, s)) none
        | _ => none
      | _ => none
    | some .string => match x with
      | .str l => some (.str l, s)
      | .int _ n => some (.str (Utf8.encode n).data.toList, s)
      | .nils => match sd with
        | .slice e => match P.underlying e with
          | some (.int .u8) => some (.str [], s)
          | _ => none
        | _ => none
      | .sl b o n _ => match sd with
        | .slice e => match P.underlying e with
          | some (.int .u8) => match s.get b with
            | .cells cs _ => cond (Nat.ble (Nat.add o n) cs.length) (match bytesA ((cs.drop o).take n) with
              | some l => some (.str l, s)
              | none => none) none
            | .zero m _ => cond (Nat.beq o 0) (cond (Nat.ble n m) (some (.symZ n, s)) none) none
            | _ => none
          | _ => none
        | _ => none
      | .slu b o n _ => match sd with
        | .slice e => match P.underlying e with
          | some (.int .u8) => match s.get b with
            | .cells cs _ => cond (Nat.ble (Nat.add o n) cs.length) (match bytesA ((cs.drop o).take n) with
              | some l => some (.str l, s)
              | none => none) none
            | _ => none
          | _ => none
        | _ => none
      | _ => none
    | some (.slice e) => match sd with
      | .string => match x with
        | .str l => match P.underlying e with
          | some (.int .u8) => match newA s (l.map fun c => .int .u8 (Int.ofNat c.toNat)) e with
            | some (.ptr b _, s') => some (.slu b 0 l.length 1, s')
            | _ => none
          | _ => none
        | _ => none
      | _ => none
    | _ => none
theorem bytes_ok [Tab] {P : Program} {src dst e b o n c : Nat} {cs : List AV} {l : List UInt8} {s : AS} {E : AEnv} {w : World} (h : HR E s.get w) (hs : P.underlying src = some (.slice e)) (he : P.underlying e = some (.int .u8)) (hd : P.underlying dst = some .string)
    {ty : Nat} (hg : s.get b = .cells cs ty) (ho : o + n ≤ cs.length) (hl : bytesA ((cs.drop o).take n) = some l) : (convert src dst (.slice (some ⟨E.r b, o, none⟩) n c)).run P w = .ok (.string ⟨l.toArray⟩) w := by
  obtain ⟨vs, q1, q2, q3⟩ := h.range hg ho
  obtain ⟨ns, e1, e2⟩ := bytesA_ok q2 hl
  have hlc : (loadCells ⟨E.r b, o, none⟩ n).run P w = .ok (ns.map (Value.int .u8)).toArray w := by
    rw [← e1, ← q1]
    exact run_loadCells_list (P := P) w ⟨E.r b, o, none⟩ vs (fun j v hv => by rw [Addr.add_mid]; exact q3 j v hv)
  rw [run_convert_bytes_string w src dst e _ n c hs he hd, run_bytesToString w _ n c ns hlc]
  have := push_bytes ns []
  rw [List.nil_append, e2] at this
  exact congrArg (fun z => Result.ok (Value.string z) w) this
theorem zeros_ok [Tab] {P : Program} {src dst e b n m c : Nat} {s : AS} {E : AEnv} {w : World} (h : HR E s.get w) (hs : P.underlying src = some (.slice e)) (he : P.underlying e = some (.int .u8)) (hd : P.underlying dst = some .string)
    {ty : Nat} (hg : s.get b = .zero m ty) (ho : n ≤ m) : (convert src dst (.slice (some ⟨E.r b, 0, none⟩) n c)).run P w = .ok (.string ⟨(List.replicate n (0 : UInt8)).toArray⟩) w := by
  obtain ⟨_, _, o, q1, q2⟩ := h.at_ b (by rw [hg]; intro e; cases e)
  rw [hg] at q2
  obtain ⟨cs, rfl, q3, _⟩ := q2
  have hlc : (loadCells ⟨E.r b, 0, none⟩ n).run P w = .ok ((List.replicate n (0 : Int)).map (Value.int .u8)).toArray w := by
    have := run_loadCells_list (P := P) w ⟨E.r b, 0, none⟩ ((List.replicate n (0 : Int)).map (Value.int .u8)) (fun j v hv => by
      rw [Addr.add_mid]
      rw [List.map_replicate, List.getElem?_replicate] at hv
      split at hv
      · rename_i hj
        rw [← hv]
        have : cs[0 + j]? = some (.int .u8 0) := by
          rw [← Array.getElem?_toList, q3, List.getElem?_replicate, if_pos (by omega)]
        unfold World.cell?
        rw [q1]
        exact this
      · cases hv)
    simpa using this
  rw [run_convert_bytes_string w src dst e _ n c hs he hd, run_bytesToString w _ n c _ hlc]
  have := push_bytes (List.replicate n (0 : Int)) []
  rw [List.nil_append, List.map_replicate] at this
  exact congrArg (fun z => Result.ok (Value.string z) w) this
theorem convA_ok [Tab] {P : Program} {src dst : Nat} {x v : AV} {y : Value} {s s' : AS} {E : AEnv} {w : World} (h : HR E s.get w) (hi : ¬ E.ok s.n) (hx : VR E x y) (he : convA P src dst x s = some (v, s')) : Ran P (convert src dst y) w E s v s' := by
  unfold convA at he
  split at he
  · cases he
  · rename_i sd hs
    split at he
    · rename_i k hd
      split at he
      · rename_i q n
        injection he with he
        injection he with e1 e2
        subst e1
        subst e2
        cases hx
        rw [wrapA_eq]
        exact Ran.same (x := .int k (k.wrap n)) h (by simp [convert, run_underlying hs, run_underlying hd, Conv.intToInt]) (.int _ _)
      · rename_i b lo hi
        split at he
        · cases hc : (decide (-9223372036854775808 ≤ lo) && decide (hi ≤ 9223372036854775807)) with
          | false => rw [hc] at he; cases he
          | true =>
            rw [hc] at he
            injection he with he
            injection he with e1 e2
            subst e1
            subst e2
            rw [Bool.and_eq_true, decide_eq_true_iff, decide_eq_true_iff] at hc
            cases hx with
            | symI _ _ _ _ n h0 hn h1 h2 =>
              exact Ran.same (x := .int .i64 n) h (by simp [convert, run_underlying hs, run_underlying hd, Conv.intToInt, IntWalk.i64_in n (by omega)]) (.symI _ _ _ _ n h0 hn h1 h2)
        · cases he
      · cases he
    · rename_i hd
      split at he
      · rename_i l
        injection he with he
        injection he with e1 e2
        subst e1
        subst e2
        cases hx
        exact Ran.same (x := .string ⟨l.toArray⟩) h (by cases sd <;> simp [convert, run_underlying hs, run_underlying hd]) (.str _)
      · rename_i q n
        injection he with he
        injection he with e1 e2
        subst e1
        subst e2
        cases hx
        exact Ran.same (x := .string (Utf8.encode n)) h (run_convert_int_string w src dst q n (by rw [hs]; rfl) hd) (.str _)
      · split at he
        · rename_i e
          split at he
          · rename_i hu
            injection he with he
            injection he with e1 e2
            subst e1
            subst e2
            cases hx
            exact Ran.same (x := .string ⟨#[]⟩) h (by rw [run_convert_bytes_string w src dst e none 0 0 hs hu hd]; rfl) (.str [])
          · cases he
        · cases he
      · rename_i b o n c
        split at he
        · rename_i e
          split at he
          · rename_i hu
            split at he
            · rename_i cs cty hg
              cases hl : Nat.ble (Nat.add o n) cs.length with
              | false => rw [hl] at he; cases he
              | true =>
                rw [hl] at he
                simp only [cond_true] at he
                split at he
                · rename_i l hb
                  injection he with he
                  injection he with e1 e2
                  subst e1
                  subst e2
                  cases hx
                  exact Ran.same h (bytes_ok h hs hu hd hg (Nat.le_of_ble_eq_true hl) hb) (.str _)
                · cases he
            · rename_i m mty hg
              cases h1 : Nat.beq o 0 with
              | false => rw [h1] at he; cases he
              | true =>
              cases h2 : Nat.ble n m with
              | false => rw [h1, h2] at he; cases he
              | true =>
                rw [h1, h2] at he
                injection he with he
                injection he with e1 e2
                subst e1
                subst e2
                have g1 := Nat.eq_of_beq_eq_true h1
                subst g1
                cases hx
                exact Ran.same h (zeros_ok h hs hu hd hg (Nat.le_of_ble_eq_true h2)) (.symZ n _ List.length_replicate)
            · cases he
          · cases he
        · cases he
      · rename_i b o n c
        split at he
        · rename_i e
          split at he
          · rename_i hu
            split at he
            · rename_i cs cty hg
              cases hl : Nat.ble (Nat.add o n) cs.length with
              | false => rw [hl] at he; cases he
              | true =>
                rw [hl] at he
                simp only [cond_true] at he
                split at he
                · rename_i l hb
                  injection he with he
                  injection he with e1 e2
                  subst e1
                  subst e2
                  cases hx
                  exact Ran.same h (bytes_ok h hs hu hd hg (Nat.le_of_ble_eq_true hl) hb) (.str _)
                · cases he
            · cases he
          · cases he
        · cases he
      · cases he
    · rename_i e hd
      split at he
      · split at he
        · rename_i l
          split at he
          · rename_i hu
            split at he
            · rename_i b o s'' hn
              injection he with he
              injection he with e1 e2
              subst e1
              subst e2
              obtain ⟨hl, e3, rfl⟩ := newA_ok hn
              injection e3 with e4 e5
              subst e4
              subst e5
              cases hx
              have hrun := run_bytes_of_string (P := P) w src dst e ⟨l.toArray⟩ hs hd hu
              obtain ⟨g, hgc⟩ : ∃ g, grownCap w (⟨l.toArray⟩ : ByteArray).size 0 e = g := ⟨_, rfl⟩
              have hge : l.length ≤ g := by
                rw [← hgc]
                exact Nat.le_add_right _ _
              rw [hgc] at hrun
              have hsz : (bytesRow ⟨l.toArray⟩ g).size = g := by
                simp [bytesRow, ByteArray.size]
                omega
              have hv : VL E (l.map fun c => AV.int .u8 (Int.ofNat c.toNat)) ((bytesRow ⟨l.toArray⟩ g).toList.take (l.map fun c => AV.int .u8 (Int.ofNat c.toNat)).length) := by
                have e : (bytesRow ⟨l.toArray⟩ g).toList.take (l.map fun c => AV.int .u8 (Int.ofNat c.toNat)).length = l.map fun c => Value.int .u8 c.toNat := by
                  simp [bytesRow]
                rw [e]
                refine ⟨by simp, fun i c v h1 h2 => ?_⟩
                rw [List.getElem?_map] at h1 h2
                cases hi : l[i]? with
                | none => rw [hi] at h1; cases h1
                | some u =>
                  rw [hi] at h1 h2
                  injection h1 with h1
                  injection h2 with h2
                  subst h1
                  subst h2
                  exact .int _ _
              obtain ⟨r1, r2⟩ := h.new hi hl (.cells (l.map fun c => AV.int .u8 (Int.ofNat c.toNat)) e) (.cells (bytesRow ⟨l.toArray⟩ g) e ((bytesRow ⟨l.toArray⟩ g).size, (bytesRow ⟨l.toArray⟩ g).size + 1)) g _ (.inr rfl)
                ⟨_, _, rfl, by rw [hsz, AEnv.more_k], by rw [hsz]; simpa using hge, hv.mono (E.le_more _ _ _ hi), fun i hi h => by omega⟩
              refine ⟨_, _, _, hrun, ?_, r1, r2, E.grow_more _ _ _⟩
              have := VR.slu (E := E.more s.n w.heap.size g) s.n 0 l.length 1 g (E.more_ok _ _ _) hge (by rw [AEnv.more_k]; omega)
              rw [AEnv.more_r] at this
              rw [ByteArray.size_mk']
              exact this
            · cases he
          · cases he
        · cases he
      · cases he
    · cases he
end Go.Proofs.YtambgppdjlhdaaaGreatDoor
