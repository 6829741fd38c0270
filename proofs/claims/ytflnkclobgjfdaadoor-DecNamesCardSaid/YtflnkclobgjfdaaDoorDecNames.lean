/-
  DecNames: the examples and the limits.
-/
import Derived.Test.YtflnkclobgjfdaaDoorDecAw
import Derived.Deep.RegionWith
import Derived.Deep.DeepCutAuto
import Derived.Deep.CutBlock
namespace Go.Proofs.YtflnkclobgjfdaaDoor
open Go.RowKit

/-- The examples: a text, its own form, the number of its error. -/
def names : List (ByteArray × ByteArray × Int) := [
  (⟨#[48, 46, 48, 48, 101, 57]⟩, ⟨#[48]⟩, 0),
  (⟨#[49, 69, 43, 50]⟩, ⟨#[49, 101, 50]⟩, 0),
  (⟨#[49, 48, 48]⟩, ⟨#[49, 101, 50]⟩, 0),
  (⟨#[45, 48]⟩, ⟨#[48]⟩, 0),
  (⟨#[48, 48, 55]⟩, ⟨#[]⟩, 4),
  (⟨#[49, 46]⟩, ⟨#[]⟩, 4),
  (⟨#[46, 53]⟩, ⟨#[]⟩, 4),
  (⟨#[43, 49]⟩, ⟨#[]⟩, 4),
  (⟨#[49, 101]⟩, ⟨#[]⟩, 4),
  (⟨#[]⟩, ⟨#[]⟩, 4),
  (⟨#[45]⟩, ⟨#[]⟩, 4),
  (⟨#[49, 101, 43]⟩, ⟨#[]⟩, 4),
  (⟨#[49, 32]⟩, ⟨#[]⟩, 4),
  (⟨#[49, 101, 49, 48, 48, 48, 48]⟩, ⟨#[]⟩, 40),
  (⟨#[49, 48, 101, 57, 57, 57, 57]⟩, ⟨#[]⟩, 40),
  (⟨#[49, 101, 57, 57, 57, 57]⟩, ⟨#[49, 101, 57, 57, 57, 57]⟩, 0),
  (⟨#[48, 46, 49, 101, 45, 57, 57, 57, 56]⟩, ⟨#[49, 101, 45, 57, 57, 57, 57]⟩, 0),
  (⟨#[48, 46, 48, 49, 101, 45, 57, 57, 57, 56]⟩, ⟨#[]⟩, 40),
  (⟨#[48, 101, 57, 57, 57, 57, 57]⟩, ⟨#[48]⟩, 0),
  (⟨#[49, 101, 57, 57, 57, 57, 57, 57, 57, 57, 57, 57, 57, 57, 57, 57, 57, 57, 57, 57, 57, 57]⟩, ⟨#[]⟩, 40),
  (⟨#[48, 46, 53]⟩, ⟨#[53, 101, 45, 49]⟩, 0)]

theorem names_own : ∀ x, x ∈ names → ownL x.1.data.toList = (x.2.1.data.toList, x.2.2) := by
  have h : (names.all fun x => decide (ownL x.1.data.toList = (x.2.1.data.toList, x.2.2))) = true := by decide +kernel
  intro x hx
  simpa using List.all_eq_true.1 h x hx
theorem names_size : ∀ x, x ∈ names → x.1.size ≤ 1099511627776 := by
  have h : (names.all fun x => decide (x.1.size ≤ 1099511627776)) = true := by decide +kernel
  intro x hx
  simpa using List.all_eq_true.1 h x hx

/-- The table's row in the memory. -/
def TabW (b : Nat) (W : World) : Prop := b < W.heap.size ∧ ∀ i x, names[i]? = some x →
  W.cell? ⟨b, i * 3, none⟩ = some (.string x.1) ∧ W.cell? ⟨b, i * 3 + 1, none⟩ = some (.string x.2.1) ∧ W.cell? ⟨b, i * 3 + 2, none⟩ = some (.int .i64 x.2.2)
theorem TabW.below {b B : Nat} {W W' : World} (h : TabW b W) (hB : Below B W W') (hb : b < B) : TabW b W' := by
  refine ⟨Nat.lt_of_lt_of_le h.1 hB.size, fun i x hx => ?_⟩
  obtain ⟨h1, h2, h3⟩ := h.2 i x hx
  exact ⟨(hB.cell (p := ⟨b, i * 3, none⟩) hb).trans h1, (hB.cell (p := ⟨b, i * 3 + 1, none⟩) hb).trans h2, (hB.cell (p := ⟨b, i * 3 + 2, none⟩) hb).trans h3⟩

/-- The cells that the program lays. -/
def tabRow : Array Value := (names.flatMap fun x => [.string x.1, .string x.2.1, .int .i64 x.2.2]).toArray
theorem TabW.fresh (w : World) (t : TypeId) : TabW w.heap.size (w.alloc (.cells tabRow t)) := by
  have h : ∀ i, i < 21 → ∃ x, names[i]? = some x ∧ tabRow[i * 3]? = some (.string x.1) ∧ tabRow[i * 3 + 1]? = some (.string x.2.1) ∧ tabRow[i * 3 + 2]? = some (.int .i64 x.2.2) := by
    intro i hi
    match i, hi with
    | 0, _ => exact ⟨_, rfl, rfl, rfl, rfl⟩
    | 1, _ => exact ⟨_, rfl, rfl, rfl, rfl⟩
    | 2, _ => exact ⟨_, rfl, rfl, rfl, rfl⟩
    | 3, _ => exact ⟨_, rfl, rfl, rfl, rfl⟩
    | 4, _ => exact ⟨_, rfl, rfl, rfl, rfl⟩
    | 5, _ => exact ⟨_, rfl, rfl, rfl, rfl⟩
    | 6, _ => exact ⟨_, rfl, rfl, rfl, rfl⟩
    | 7, _ => exact ⟨_, rfl, rfl, rfl, rfl⟩
    | 8, _ => exact ⟨_, rfl, rfl, rfl, rfl⟩
    | 9, _ => exact ⟨_, rfl, rfl, rfl, rfl⟩
    | 10, _ => exact ⟨_, rfl, rfl, rfl, rfl⟩
    | 11, _ => exact ⟨_, rfl, rfl, rfl, rfl⟩
    | 12, _ => exact ⟨_, rfl, rfl, rfl, rfl⟩
    | 13, _ => exact ⟨_, rfl, rfl, rfl, rfl⟩
    | 14, _ => exact ⟨_, rfl, rfl, rfl, rfl⟩
    | 15, _ => exact ⟨_, rfl, rfl, rfl, rfl⟩
    | 16, _ => exact ⟨_, rfl, rfl, rfl, rfl⟩
    | 17, _ => exact ⟨_, rfl, rfl, rfl, rfl⟩
    | 18, _ => exact ⟨_, rfl, rfl, rfl, rfl⟩
    | 19, _ => exact ⟨_, rfl, rfl, rfl, rfl⟩
    | 20, _ => exact ⟨_, rfl, rfl, rfl, rfl⟩
    | n + 21, h => exact absurd h (by omega)
  refine ⟨by simp, fun i x hx => ?_⟩
  have hi : i < 21 := by
    have := (List.getElem?_eq_some_iff.1 hx).1
    simpa [names] using this
  obtain ⟨y, hy, h1, h2, h3⟩ := h i hi
  rw [hx] at hy
  injection hy with hy
  subst hy
  refine ⟨?_, ?_, ?_⟩ <;> (rw [World.cell?_alloc_at _ _ _ _ rfl]; assumption)

theorem nm_int1 : intL [48, 101, 57, 57] = (0, 0) := by decide +kernel
theorem nm_own1 : (ownL (List.replicate 200 55)).2 = 0 := by decide +kernel
theorem nm_own2 : (ownL (List.replicate 200 55 ++ [55])).2 = 40 := by decide +kernel
theorem nm_own3 : (ownL (List.replicate 200 55 ++ [48])).2 = 0 := by decide +kernel
theorem nm_int2 : intL [45, 57, 50, 50, 51, 51, 55, 50, 48, 51, 54, 56, 53, 52, 55, 55, 53, 56, 48, 56] = (-9223372036854775808, 0) := by decide +kernel
theorem nm_int3 : (intL [57, 50, 50, 51, 51, 55, 50, 48, 51, 54, 56, 53, 52, 55, 55, 53, 56, 48, 56]).2 = 64 := by decide +kernel
theorem nm_int4 : (intL [49, 101, 49, 57]).2 = 64 := by decide +kernel
theorem nm_int5 : (intL [49, 46, 53]).2 = 1 := by decide +kernel
theorem nm_int6 : intL [49, 53, 101, 48] = (15, 0) := by decide +kernel
theorem nm_cmp : (cmpL [120] [49]).2 = 4 := by decide +kernel
theorem nm_of1 : ofL (-50) = [45, 53, 101, 49] := by decide +kernel
theorem nm_of2 : ofL 0 = [48] := by decide +kernel
theorem nm_of3 : ofL (-9223372036854775808) = [45, 57, 50, 50, 51, 51, 55, 50, 48, 51, 54, 56, 53, 52, 55, 55, 53, 56, 48, 56] := by decide +kernel

/-- Int, Own, Cmp where only the number of the error matters. -/
theorem pair_of {α : Type} {p : α × Int} {e : Int} (h : p.2 = e) : ∃ a, p = (a, e) := ⟨p.1, by rw [← h]⟩

set_option maxRecDepth 100000 in
set_option maxHeartbeats 2000000 in
theorem decNames_any (w : World) (hE : Env w) :
    Calls Tryd.prog 4 #[] w fun en w' => en = .returned (.bool true) ∧ Below w.heap.size w w' := by
  go_enter Tryd.func4, Tryd.ntmps4
  go_upto_block 0 with (fail)
  have hT := TabW.fresh w 27
  have hBx := (Below.refl w.heap.size w).alloc (Nat.le_refl _) (.cells tabRow 27)
  have hEx := hE.below hBx
  refine wp_cut (fun a' wc => ∃ (u : Nat → Value), a' = ⟨#[u 0, u 1, u 2, u 3, u 4, u 5, u 6, u 7, u 8, u 9, u 10, u 11, u 12, u 13, u 14, u 15, u 16, u 17, u 18, u 19, u 20, u 21, u 22, u 23, u 24, u 25, u 26, u 27, u 28, u 29, u 30, u 31, u 32, u 33, u 34, u 35, u 36, u 37, u 38, u 39, u 40, u 41, u 42, u 43, u 44, u 45, u 46, u 47, u 48, u 49, u 50, u 51, u 52, u 53, u 54, u 55, u 56, u 57, u 58, u 59, u 60, u 61, u 62, u 63, u 64, u 65, u 66, u 67, u 68, u 69, u 70, u 71, u 72, u 73, u 74, u 75, u 76, u 77, u 78, u 79, u 80, u 81, u 82, u 83, u 84, u 85, u 86, u 87, u 88, u 89, u 90, u 91, u 92, u 93, u 94, u 95, u 96, u 97, u 98, u 99, u 100, u 101, u 102, u 103, u 104, u 105, u 106, u 107, u 108, u 109, u 110, u 111, u 112, u 113, u 114, u 115, u 116, u 117, u 118, u 119, u 120, u 121, u 122, u 123, u 124, u 125, u 126, u 127, u 128, u 129, u 130, u 131, u 132, u 133, u 134, u 135, u 136, u 137, u 138, u 139, u 140, u 141, u 142, u 143, u 144, u 145, u 146, u 147, u 148, u 149, u 150, u 151, u 152, u 153, u 154, u 155, u 156, u 157, u 158, u 159, u 160, u 161, u 162, u 163, u 164, u 165, u 166, u 167, u 168, u 169, u 170, u 171, u 172, u 173, u 174, u 175, u 176, u 177, u 178, u 179, u 180, u 181, u 182, u 183, u 184, u 185, u 186, u 187, u 188], []⟩ ∧ (Below w.heap.size w wc ∧ Env wc)) ?rest ?first
  case first =>
    intro J K' hJ hK'
    refine Eq.mp (congrArg (Code.wp _ _ _ _) (?h : w.alloc (.cells tabRow 27) = _)) ?_
    case h => kernel_rfl
    have hg : w.heap.size < (w.alloc (.cells tabRow 27)).heap.size := hT.1
    generalize w.alloc (.cells tabRow 27) = w0 at hT hBx hEx hg ⊢
    replace hT := Lib.hid hT
    replace hBx := Lib.hid hBx
    replace hEx := Lib.hid hEx
    clear hE
    go_wp2
    go_loopw [50] (fun i wr => ∃ k : Nat, k ≤ 21 ∧ i = .int .i64 k ∧ Below w0.heap.size w0 wr) (fun i _ => 21 - (intOf i).toNat)
    case atStart => exact ⟨0, Nat.zero_le _, rfl, Below.refl _ _⟩
    case round =>
      obtain ⟨k, hk, rfl, hBr⟩ := hrel
      by_cases hlt : k < 21
      · have hTr := hT.out.below hBr hg
        have hEr := hEx.out.below hBr
        obtain ⟨x, hx⟩ : ∃ x, names[k]? = some x := ⟨_, List.getElem?_eq_getElem (show k < names.length from hlt)⟩
        obtain ⟨c1, c2, c3⟩ := hTr.2 k x hx
        have hown := names_own x (List.mem_of_getElem? hx)
        have hsz := names_size x (List.mem_of_getElem? hx)
        obtain ⟨s, o, e⟩ := x
        simp only at c1 c2 c3 hown hsz
        have hc : ∀ W, Env W → Calls Tryd.prog 11 #[.string s] W fun en w' => en = .returned (.tuple #[.string o, .int .i64 e]) ∧ Below W.heap.size W w' := fun W hE => by
          have := own_lit s W hE hsz hown
          rw [bytes_mk] at this
          exact this
        replace hc := Lib.hid hc
        replace hEr := Lib.hid hEr
        replace hBr := Lib.hid hBr
        clear hx hown hsz hTr
        go_wp2_with fail
        refine (hc.out _ (hEr.out.below ((Below.refl _ _).alloc (Nat.le_refl _) _))).mono ?_
        rintro en w1 ⟨rfl, hB1⟩
        have q1 : w1.cell? ⟨wr.heap.size, 1, none⟩ = some (.string o) := (hB1.cell (p := ⟨wr.heap.size, 1, none⟩) (by simp)).trans (by rw [World.cell?_alloc_at _ _ _ _ rfl]; rfl)
        have q2 : w1.cell? ⟨wr.heap.size, 2, none⟩ = some (.int .i64 e) := (hB1.cell (p := ⟨wr.heap.size, 2, none⟩) (by simp)).trans (by rw [World.cell?_alloc_at _ _ _ _ rfl]; rfl)
        have hB2 : Below w0.heap.size w0 w1 := ((hBr.out.alloc hBr.out.size _).trans (hB1.mono (by have := hBr.out.size; simp; omega)))
        clear hB1 hEr hBr hc c1 c2 c3
        replace hB2 := Lib.hid hB2
        go_wp2
        go_roundw
        case rel => exact ⟨k + 1, by omega, by go_num, hB2.out⟩
        case measure => simp [intOf]; omega
      · have hk21 : k = 21 := by omega
        subst hk21
        have hB2 := hBx.out.trans (hBr.mono hBx.out.size)
        have hE2 := hEx.out.below hBr
        clear hBr
        go_wp2
        refine Met.intro (hJ _ _ ?_)
        exact meetF (by kernel_rfl) ⟨hB2, hE2⟩
  case rest =>
    clear hT hBx hEx hE
    rintro a' w0 ⟨u, rfl, hB, hE⟩
    have hB0 := Lib.hid hB
    have hE0 := Lib.hid hE
    clear hB hE
    go_wp2_with fail
    refine (int_lit ⟨#[48, 101, 57, 57]⟩ _ (by decide) nm_int1).mono ?_
    rintro en w1 ⟨rfl, hB⟩
    have hE1 := Lib.hid (hE0.out.below hB)
    have hB1 := Lib.hid (hB0.out.trans (hB.mono hB0.out.size))
    clear hB hE0 hB0
    go_wp2
    go_loop [7, 8] (fun s i => ∃ (k : Nat) (S : ByteArray), k ≤ 200 ∧ s = .string S ∧ i = .int .i64 k ∧ S.data.toList = List.replicate k 55) (fun _ i => 200 - (intOf i).toNat)
    case atStart => exact ⟨0, ⟨#[]⟩, Nat.zero_le _, rfl, rfl, rfl⟩
    case round =>
      obtain ⟨k, S, hk, rfl, rfl, hS⟩ := hrel
      have hSz : S.size = k := by rw [← bytes_len, hS, List.length_replicate]
      have ha7 := add_ok S ⟨#[55]⟩ (by show S.size + 1 ≤ _; omega)
      by_cases hlt : k < 200
      · have hS2 : (S ++ ⟨#[55]⟩).data.toList = List.replicate (k + 1) 55 := by
          rw [ByteArray.data_append, Array.toList_append, hS, List.replicate_succ']
        clear hS hSz
        replace hS2 := Lib.hid hS2
        go_wp2
        go_round
        case rel => exact ⟨k + 1, _, by omega, rfl, by go_num, hS2.out⟩
        case measure => simp [intOf]; omega
      · have hk2 : k = 200 := by omega
        subst hk2
        have ha0 := add_ok S ⟨#[48]⟩ (by show S.size + 1 ≤ _; omega)
        obtain ⟨l1, o1⟩ := pair_of nm_own1
        obtain ⟨l2, o2⟩ := pair_of nm_own2
        obtain ⟨l3, o3⟩ := pair_of nm_own3
        have own1 := Lib.hid (fun (W : World) (hE : Env W) => own_lit S W hE (by omega) (show ownL S.data.toList = (l1, 0) by rw [hS]; exact o1))
        have own2 := Lib.hid (fun (W : World) (hE : Env W) => own_lit (S ++ ⟨#[55]⟩) W hE (by rw [ByteArray.size_append]; show S.size + 1 ≤ _; omega) (show ownL (S ++ ⟨#[55]⟩).data.toList = (l2, 40) by rw [ByteArray.data_append, Array.toList_append, hS]; exact o2))
        have own3 := Lib.hid (fun (W : World) (hE : Env W) => own_lit (S ++ ⟨#[48]⟩) W hE (by rw [ByteArray.size_append]; show S.size + 1 ≤ _; omega) (show ownL (S ++ ⟨#[48]⟩).data.toList = (l3, 0) by rw [ByteArray.data_append, Array.toList_append, hS]; exact o3))
        clear hS hSz o1 o2 o3 hk hlt
        go_wp2_with fail
        refine (own1.out _ hE1.out).mono ?_
        rintro en w2 ⟨rfl, hB⟩
        have hE2 := Lib.hid (hE1.out.below hB)
        have hB2 := Lib.hid (hB1.out.trans (hB.mono hB1.out.size))
        clear hB hE1 hB1
        go_wp2_with fail
        refine (own2.out _ hE2.out).mono ?_
        rintro en w3 ⟨rfl, hB⟩
        have hE3 := Lib.hid (hE2.out.below hB)
        have hB3 := Lib.hid (hB2.out.trans (hB.mono hB2.out.size))
        clear hB hE2 hB2
        go_wp2_with fail
        refine (own3.out _ hE3.out).mono ?_
        rintro en w4 ⟨rfl, hB⟩
        have hE4 := Lib.hid (hE3.out.below hB)
        have hB4 := Lib.hid (hB3.out.trans (hB.mono hB3.out.size))
        clear hB hE3 hB3
        clear own1 own2 own3 ha0 ha7
        go_wp2_with fail
        refine (int_lit ⟨#[45, 57, 50, 50, 51, 51, 55, 50, 48, 51, 54, 56, 53, 52, 55, 55, 53, 56, 48, 56]⟩ _ (by decide) nm_int2).mono ?_
        rintro en w5 ⟨rfl, hB⟩
        have hE5 := Lib.hid (hE4.out.below hB)
        have hB5 := Lib.hid (hB4.out.trans (hB.mono hB4.out.size))
        clear hB hE4 hB4
        obtain ⟨i3, o3⟩ := pair_of nm_int3
        go_wp2_with fail
        refine (int_lit ⟨#[57, 50, 50, 51, 51, 55, 50, 48, 51, 54, 56, 53, 52, 55, 55, 53, 56, 48, 56]⟩ _ (by decide) o3).mono ?_
        rintro en w6 ⟨rfl, hB⟩
        have hE6 := Lib.hid (hE5.out.below hB)
        have hB6 := Lib.hid (hB5.out.trans (hB.mono hB5.out.size))
        clear hB hE5 hB5
        obtain ⟨i4, o4⟩ := pair_of nm_int4
        go_wp2_with fail
        refine (int_lit ⟨#[49, 101, 49, 57]⟩ _ (by decide) o4).mono ?_
        rintro en w7 ⟨rfl, hB⟩
        have hE7 := Lib.hid (hE6.out.below hB)
        have hB7 := Lib.hid (hB6.out.trans (hB.mono hB6.out.size))
        clear hB hE6 hB6
        obtain ⟨i5, o5⟩ := pair_of nm_int5
        go_wp2_with fail
        refine (int_lit ⟨#[49, 46, 53]⟩ _ (by decide) o5).mono ?_
        rintro en w8 ⟨rfl, hB⟩
        have hE8 := Lib.hid (hE7.out.below hB)
        have hB8 := Lib.hid (hB7.out.trans (hB.mono hB7.out.size))
        clear hB hE7 hB7
        go_wp2_with fail
        refine (int_lit ⟨#[49, 53, 101, 48]⟩ _ (by decide) nm_int6).mono ?_
        rintro en w9 ⟨rfl, hB⟩
        have hE9 := Lib.hid (hE8.out.below hB)
        have hB9 := Lib.hid (hB8.out.trans (hB.mono hB8.out.size))
        clear hB hE8 hB8
        obtain ⟨i6, o6⟩ := pair_of nm_cmp
        go_wp2_with fail
        refine (cmp_lit ⟨#[120]⟩ ⟨#[49]⟩ _ (by decide) (by decide) o6).mono ?_
        rintro en w10 ⟨rfl, hB⟩
        have hE10 := Lib.hid (hE9.out.below hB)
        have hB10 := Lib.hid (hB9.out.trans (hB.mono hB9.out.size))
        clear hB hE9 hB9
        clear o3 o4 o5 o6
        go_wp2_with fail
        refine (of_lit (-50) _ hE10.out (by omega) (by omega) nm_of1).mono ?_
        rintro en w11 ⟨rfl, hB⟩
        have hE11 := Lib.hid (hE10.out.below hB)
        have hB11 := Lib.hid (hB10.out.trans (hB.mono hB10.out.size))
        clear hB hE10 hB10
        go_wp2_with fail
        refine (of_lit 0 _ hE11.out (by omega) (by omega) nm_of2).mono ?_
        rintro en w12 ⟨rfl, hB⟩
        have hE12 := Lib.hid (hE11.out.below hB)
        have hB12 := Lib.hid (hB11.out.trans (hB.mono hB11.out.size))
        clear hB hE11 hB11
        go_wp2_with fail
        refine (of_lit (-9223372036854775808) _ hE12.out (by omega) (by omega) nm_of3).mono ?_
        rintro en w13 ⟨rfl, hB⟩
        have hE13 := Lib.hid (hE12.out.below hB)
        have hB13 := Lib.hid (hB12.out.trans (hB.mono hB12.out.size))
        clear hB hE12 hB12
        go_wp2_with fail
        refine (awake_any _ hE13.out).mono ?_
        rintro en w14 ⟨rfl, hB⟩
        have hE14 := Lib.hid (hE13.out.below hB)
        have hB14 := Lib.hid (hB13.out.trans (hB.mono hB13.out.size))
        clear hB hE13 hB13
        go_wp2
        go_ret
        exact ⟨rfl, hB14.out⟩
end Go.Proofs.YtflnkclobgjfdaaDoor
