/-
  The abstract machine at the program: dec.Of and dec.Int at numbers that are not told, by their contracts.
-/
import Derived.Test.YthmojpcaagnfkaaGreatDoorEwC
import Derived.Test.YthmojpcaagnfkaaGreatDoorDecF
import Derived.Test.YthmojpcaagnfkaaGreatDoorDecO
import Derived.Test.YthmojpcaagnfkaaGreatDoorDecQ
namespace Go.Proofs.YthmojpcaagnfkaaGreatDoor
open Go.RowKit

noncomputable def decOfA (args : List AV) (s : AS) : Option (AV × AS) := match args with
  | [.symI b .i64 lo hi] => cond (decide (-9223372036854775808 ≤ lo) && decide (hi ≤ 9223372036854775807)) (some (.symT b lo hi, s)) none
  | _ => none
theorem txtN_of (n : Int) : txtN n = ofL n := rfl
theorem decOfA_ok [Tab] (hT : EnvQ Tab.w0) : OneOK Tryz.prog 96 decOfA := by
  refine ⟨⟨_, Tryz.func96, by rfl, by rfl⟩, fun args s v s' he _ E w xs h hf hv => ?_, fun args s u s' he => ?_⟩
  · unfold decOfA at he
    split at he
    · rename_i b lo hi
      cases hr : (decide (-9223372036854775808 ≤ lo) && decide (hi ≤ 9223372036854775807)) with
      | false => rw [hr] at he; cases he
      | true =>
        rw [hr] at he
        injection he with he
        injection he with e1 e2
        subst e1
        subst e2
        rw [Bool.and_eq_true, decide_eq_true_iff, decide_eq_true_iff] at hr
        obtain ⟨x, rfl, hx⟩ := one_arg hv
        cases hx with
        | symI _ _ _ _ n h0 hn h1 h2 =>
          refine callEnd_below h (.symT b lo hi n h0 hn h1 h2) ((decOf_any n w (envOf hT h).1 (by omega) (by omega)).mono fun e w' hq => ?_)
          obtain ⟨g, hg, he, hb⟩ := hq
          refine ⟨?_, hb⟩
          rw [he]
          have : g = ⟨(txtN n).toArray⟩ := by
            rw [txtN_of, ← hg]
          rw [this]
    · cases he
  · unfold decOfA at he
    split at he
    · have he := cond_some he
      cases he
    · cases he
noncomputable def decIntA (args : List AV) (s : AS) : Option (AV × AS) := match args with
  | [.symT b lo hi] => cond (decide (-9223372036854775808 ≤ lo) && decide (hi ≤ 9223372036854775807)) (some (.tup [.symI b .i64 lo hi, .int .i64 0], s)) none
  | [.str []] => some (.tup [.int .i64 0, .int .i64 4], s)
  | _ => none
theorem txtN_len (n : Int) : (txtN n).length ≤ 1000 := by
  have hb := decGetL_bd (Lib.itoa n)
  unfold txtN
  split
  · simp
  · rw [List.length_append]
    have h1 : (if (decGetL (Lib.itoa n)).1.minus then 45 :: (decGetL (Lib.itoa n)).1.digits else (decGetL (Lib.itoa n)).1.digits).length ≤ 201 := by
      split
      · simp; omega
      · omega
    have h2 : (if (decGetL (Lib.itoa n)).1.exp = 0 then [] else 101 :: Lib.itoa (decGetL (Lib.itoa n)).1.exp).length ≤ 22 := by
      split
      · simp
      · have := Lib.itoa_length_le (decGetL (Lib.itoa n)).1.exp (by omega) (by omega)
        simp; omega
    omega
theorem decIntA_ok [Tab] : OneOK Tryz.prog 70 decIntA := by
  refine ⟨⟨_, Tryz.func70, by rfl, by rfl⟩, fun args s v s' he _ E w xs h hf hv => ?_, fun args s u s' he => ?_⟩
  · unfold decIntA at he
    split at he
    · rename_i b lo hi
      cases hr : (decide (-9223372036854775808 ≤ lo) && decide (hi ≤ 9223372036854775807)) with
      | false => rw [hr] at he; cases he
      | true =>
        rw [hr] at he
        injection he with he
        injection he with e1 e2
        subst e1
        subst e2
        rw [Bool.and_eq_true, decide_eq_true_iff, decide_eq_true_iff] at hr
        obtain ⟨x, rfl, hx⟩ := one_arg hv
        cases hx with
        | symT _ _ _ n h0 hn h1 h2 =>
          have hb := back_int n (by omega) (by omega)
          have hl := txtN_len n
          refine callEnd_below h ((VL.cons (.symI b .i64 lo hi n h0 hn h1 h2) (VL.cons (.int .i64 0) VL.nil)).tup (a := #[_, _])) ((decInt_any ⟨(txtN n).toArray⟩ w (by show (txtN n).toArray.size ≤ _; simp; omega)).mono fun e w' hq => ⟨?_, hq.2⟩)
          rw [hq.1]
          show Ending.returned (.tuple #[.int .i64 (intL (ofL n)).1, .int .i64 (intL (ofL n)).2]) = _
          rw [hb]
    · injection he with he
      injection he with e1 e2
      subst e1
      subst e2
      obtain ⟨x, rfl, hx⟩ := one_arg hv
      cases hx
      refine callEnd_below h ((VL.cons (.int .i64 0) (VL.cons (.int .i64 4) VL.nil)).tup (a := #[_, _])) ((decInt_any ⟨#[]⟩ w (by show (0 : Nat) ≤ _; omega)).mono fun e w' hq => ⟨?_, hq.2⟩)
      rw [hq.1]
      rfl
    · cases he
  · unfold decIntA at he
    split at he
    · have he := cond_some he
      cases he
    · cases he
    · cases he
end Go.Proofs.YthmojpcaagnfkaaGreatDoor
