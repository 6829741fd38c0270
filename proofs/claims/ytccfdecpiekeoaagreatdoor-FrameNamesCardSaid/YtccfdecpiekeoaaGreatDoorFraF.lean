/-
  The walk of frame.head: what it computes.
-/
import Derived.Test.YtccfdecpiekeoaaGreatDoorFraE
namespace Go.Proofs.YtccfdecpiekeoaaGreatDoor
open Go.RowKit

def EncP (m : Int) (f : Bool) (cur : Option Nat) : Prop := (cur = none ∧ f = false) ∨ ∃ k, cur = some k ∧ f = true ∧ 0 ≤ m ∧ m ≤ 2000000000 ∧ min m.toNat 262145 = k
/-- What head answers. -/
def HeadOut (R : Option Nat) (n : Int) (ok : Bool) : Prop :=
  match R with
  | none => ok = false
  | some k => ok = true ∧ 0 ≤ n ∧ n ≤ 2000000000 ∧ min n.toNat 262145 = k
def HeadEnd (R : Option Nat) (w : World) (e : Ending) (w' : World) : Prop :=
  ∃ (n : Int) (ok : Bool), e = .returned (.tuple #[.int .i64 n, .bool ok]) ∧ HeadOut R n ok ∧ Below w.heap.size w w'
theorem head_none {R : Option Nat} {w w' : World} {n : Int} (h : R = none) (hB : Below w.heap.size w w') : HeadEnd R w (.returned (.tuple #[.int .i64 n, .bool false])) w' :=
  ⟨_, _, rfl, by rw [h]; rfl, hB⟩

theorem split_len (s : ByteArray) : ∀ (k : Nat) (t : ByteArray), Lib.countB t s = k → 1 ≤ s.size → (Lib.splitB s 0 k t).length = k + 1
  | 0, t, _, _ => rfl
  | k + 1, t, h, h1 => by
    rcases Lib.indexB_cases t s with hm | ⟨i, hi, hr⟩
    · rw [Lib.countB_miss t s hm] at h; cases h
    · rw [Lib.splitB_hit s 0 k t i hi, List.length_cons]
      have := Lib.countB_hit t s i h1 hi
      rw [split_len s k _ (by omega) h1]
def crB : ByteArray := ⟨#[13, 10]⟩
theorem split_data (s : ByteArray) : (Lib.splitB crB 0 (Lib.countB s crB) s).map (fun b => b.data.toList) = linesL s.data.toList := by
  rw [Lib.splitB_data]
  exact split_lines _ _ (Nat.le_refl _)
/-- The lines as strings. -/
theorem head_split (s : ByteArray) (w : World) (hE : EnvF w) (hs : s.size ≤ 1048576) :
    ∃ L : List ByteArray, L.map (fun b => b.data.toList) = linesL s.data.toList ∧ (∀ b ∈ L, b.size ≤ s.size) ∧ L.length ≤ s.size + 2 ∧
    Calls Tryz.prog 46 #[.string s, .string ⟨#[13, 10]⟩] w fun e w' => e = .returned (.slice (some ⟨w.heap.size, 0, none⟩) L.length L.length) ∧ w' = w.alloc (.cells (L.map Value.string).toArray 9) := by
  obtain ⟨_, m, hm⟩ := hE
  have hc := Tryz.strings_Split s crB m w (by omega) hm (by decide)
  have hl := split_len crB (Lib.countB s crB) s rfl (by decide)
  refine ⟨_, split_data s, ?_, ?_, ?_⟩
  · have key : ∀ (k : Nat) (t : ByteArray), ∀ b ∈ Lib.splitB crB 0 k t, b.size ≤ t.size := by
      intro k
      induction k with
      | zero => intro t b hb; rw [Lib.splitB_zero, List.mem_singleton] at hb; subst hb; exact Nat.le_refl _
      | succ k ih =>
        intro t b hb
        rcases Lib.indexB_cases t crB with hm | ⟨i, hi, hr⟩
        · rw [Lib.splitB_miss _ _ _ _ hm, List.mem_singleton] at hb; subst hb; exact Nat.le_refl _
        · rw [Lib.splitB_hit crB 0 k t i hi, List.mem_cons] at hb
          have h2 : crB.size = 2 := rfl
          rcases hb with hb | hb
          · subst hb
            rw [← bytes_len, Lib.extract_from_zero, List.length_take, bytes_len]; omega
          · have := ih _ b hb
            rw [← bytes_len (t.extract _ _), Lib.extract_to_end, List.length_drop, bytes_len] at this
            omega
    exact key _ s
  · rw [hl]
    have := Lib.count_le s.data.toList crB.data.toList
    rw [bytes_len] at this
    show Lib.countB s crB + 1 ≤ _
    unfold Lib.countB; omega
  · rw [hl]; exact hc

set_option maxHeartbeats 2000000 in
theorem frmHead_any (s : ByteArray) (w : World) (hE : EnvF w) (hs : s.size ≤ 1048576) :
    Calls Tryz.prog 33 #[.string s] w (HeadEnd (headL s.data.toList) w) := by
  obtain ⟨L, hL, hLb, hLl, hsp⟩ := head_split s w hE hs
  obtain ⟨R, hR⟩ : ∃ R, headL s.data.toList = R := ⟨_, rfl⟩
  have hg : goH (L.map (fun b => b.data.toList)) none = R := by rw [hL]; exact hR
  rw [hR]
  clear hL hR
  have hE0 := Lib.hid hE
  replace hg := Lib.hid hg
  replace hsp := Lib.hid hsp
  replace hLb := Lib.hid hLb
  clear hE
  have hlen := fun (b : ByteArray) W (hE : EnvF W) (hb : b.size ≤ 1048576) => frmLength_any b W hE hb
  replace hlen := Lib.hid hlen
  go_enter Tryz.func33, Tryz.ntmps33
  go_wp2_with fail
  refine hsp.out.mono ?_
  rintro e w1 ⟨rfl, rfl⟩
  have hC := Cel.fresh w 9 (L.map Value.string).toArray
  have hB1 : Below w.heap.size w (w.alloc (.cells (L.map Value.string).toArray 9)) := (Below.refl _ _).alloc (Nat.le_refl _) _
  generalize w.alloc (.cells (L.map Value.string).toArray 9) = w1 at *
  replace hC := Lib.hid hC
  replace hB1 := Lib.hid hB1
  go_wp2_with fail
  go_loopw [4, 5, 14] (fun n f i wr => ∃ (k : Nat) (m : Int) (b : Bool) (cur : Option Nat), k ≤ L.length ∧ n = .int .i64 m ∧ f = .bool b ∧ i = .int .i64 k ∧ EncP m b cur ∧ goH ((L.map (fun b => b.data.toList)).drop k) cur = R ∧ Cel wr w.heap.size 9 (L.map Value.string).toArray ∧ Below w.heap.size w wr) (fun _ _ i _ => L.length - (intOf i).toNat)
  case atStart => exact ⟨0, 0, false, none, Nat.zero_le _, rfl, rfl, rfl, Or.inl ⟨rfl, rfl⟩, hg.out, hC.out, hB1.out⟩
  case round =>
    obtain ⟨k, m, b, cur, hk, rfl, rfl, rfl, henc, hgo, hCr, hBr⟩ := hrel
    clear hg hC hB1
    replace henc := Lib.hid henc
    by_cases hlt : k < L.length
    · have hdrop : (L.map (fun b => b.data.toList)).drop k = L[k].data.toList :: (L.map (fun b => b.data.toList)).drop (k + 1) := by
        rw [List.drop_eq_getElem_cons (by rw [List.length_map]; exact hlt), List.getElem_map]
      have hcell : wr.cell? ⟨w.heap.size, k, none⟩ = some (.string L[k]) := by
        rw [hCr.cell]; simp [hlt]
      have hbk : L[k].size ≤ 1048576 := by have := hLb.out _ (List.getElem_mem hlt); omega
      have hEr := hE0.out.below hBr
      have hlk := Lib.hid (hlen.out L[k] wr hEr hbk)
      have hCl := hCr.lt
      obtain ⟨X, hX⟩ : ∃ X, L[k] = X := ⟨_, rfl⟩
      rw [hX] at hdrop hcell hlk hbk
      rw [hdrop] at hgo
      clear hX hdrop hEr
      replace hCr := Lib.hid hCr
      replace hBr := Lib.hid hBr
      replace hgo := Lib.hid hgo
      go_wp2_with fail
      refine hlk.out.mono ?_
      rintro e w2 ⟨n, is, ok, rfl, hout, hB2⟩
      have hC2 := Lib.hid (hCr.out.below hB2 hCl)
      have hB2' := Lib.hid (hBr.out.trans (hB2.mono hBr.out.size))
      clear hlk hCr hBr hB2 hcell hCl
      rcases hline : lineL X.data.toList with _ | _ | q
      · rw [hline] at hout
        have hok : ok = false := hout
        subst hok
        have hR : R = none := by rw [← hgo.out]; exact goH_none _ _ hline
        clear hout hline hgo
        replace hR := Lib.hid hR
        go_wp2_with fail
        go_ret2
        exact head_none hR.out hB2'.out
      · rw [hline] at hout
        obtain ⟨rfl, rfl⟩ : ok = true ∧ is = false := hout
        have hR : goH ((L.map (fun b => b.data.toList)).drop (k + 1)) cur = R := by rw [← hgo.out]; exact (goH_other _ _ hline).symm
        clear hline hgo
        replace hR := Lib.hid hR
        go_wp2_with fail
        go_roundw
        case rel => exact ⟨k + 1, m, b, cur, by omega, rfl, rfl, by go_num, henc.out, hR.out, hC2.out, hB2'.out⟩
        case measure => simp [intOf]; omega
      · rw [hline] at hout
        obtain ⟨rfl, rfl, h0, h1, h2⟩ : ok = true ∧ is = true ∧ 0 ≤ n ∧ n ≤ 2000000000 ∧ min n.toNat 262145 = q := hout
        cases b
        · have hcur : cur = none := by
            rcases henc.out with ⟨h, _⟩ | ⟨_, _, h, _⟩
            · exact h
            · cases h
          subst hcur
          have hR : goH ((L.map (fun b => b.data.toList)).drop (k + 1)) (some q) = R := by rw [← hgo.out]; exact (goH_len _ hline).symm
          have hen2 : EncP n true (some q) := Or.inr ⟨q, rfl, rfl, h0, h1, h2⟩
          clear hline hgo h2
          replace hR := Lib.hid hR
          replace hen2 := Lib.hid hen2
          go_wp2_with fail
          go_roundw
          case rel => exact ⟨k + 1, n, true, some q, by omega, rfl, rfl, by go_num, hen2.out, hR.out, hC2.out, hB2'.out⟩
          case measure => simp [intOf]; omega
        · have hcur : ∃ c, cur = some c := by
            rcases henc.out with ⟨_, h⟩ | ⟨c, h, _⟩
            · cases h
            · exact ⟨c, h⟩
          obtain ⟨c, rfl⟩ := hcur
          have hR : R = none := by rw [← hgo.out]; exact goH_twice _ (Or.inr ⟨q, hline⟩)
          clear hline hgo h2
          replace hR := Lib.hid hR
          go_wp2_with fail
          go_ret2
          exact head_none hR.out hB2'.out
    · have hcur : R = cur := by
        rw [← hgo, List.drop_of_length_le (by rw [List.length_map]; omega)]; rfl
      have hout : HeadOut R m b := by
        rw [hcur]
        rcases henc.out with ⟨h1, h2⟩ | ⟨c, h1, h2, h3, h4, h5⟩
        · rw [h1, h2]; rfl
        · rw [h1, h2]; exact ⟨rfl, h3, h4, h5⟩
      clear hcur hgo
      replace hout := Lib.hid hout
      replace hBr := Lib.hid hBr
      replace hCr := Lib.hid hCr
      go_wp2_with fail
      go_ret2
      exact ⟨_, _, rfl, hout.out, hBr.out⟩
end Go.Proofs.YtccfdecpiekeoaaGreatDoor
