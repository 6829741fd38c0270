/-
  The walks of rpc.About (a map literal) and of the document's About.
-/
import Derived.Test.YtamcbgkppgdniaaGreatDoorRpA
import Derived.Maps.StringElems
namespace Go.Proofs.YtamcbgkppgdniaaGreatDoor
open Go.RowKit Go.WideMaps Go.Maps

/-- What a code is. -/
def aboutS (c : Int) : ByteArray :=
  if c = -32700 then ⟨#[110, 111, 32, 74, 83, 79, 78]⟩ else
  if c = -32600 then ⟨#[110, 111, 32, 114, 101, 113, 117, 101, 115, 116]⟩ else
  if c = -32601 then ⟨#[110, 111, 32, 115, 117, 99, 104, 32, 109, 101, 116, 104, 111, 100]⟩ else
  if c = -32602 then ⟨#[119, 114, 111, 110, 103, 32, 112, 97, 114, 97, 109, 101, 116, 101, 114, 115]⟩ else
  if c = -32002 then ⟨#[110, 111, 116, 32, 105, 110, 105, 116, 105, 97, 108, 105, 122, 101, 100]⟩ else
  if c = -32800 then ⟨#[99, 97, 110, 99, 101, 108, 108, 101, 100]⟩ else
  if c = -32803 then ⟨#[114, 101, 102, 117, 115, 101, 100]⟩ else
  if c = -32000 then ⟨#[116, 104, 101, 32, 113, 117, 101, 117, 101, 32, 105, 115, 32, 102, 117, 108, 108]⟩ else
  if c = -32001 then ⟨#[116, 111, 111, 32, 103, 114, 101, 97, 116]⟩ else
  ⟨#[]⟩
theorem wpList_insert_own {P : Program} (w : World) {ops : Array Oper} {rest : List Oper} {o : Oper} {a : Act} {Q : Exit → Act → World → Prop}
    (hg : o.guard = none) (m x v : Operand) (t : TypeId) (hop : o.op = Op.insert t m x v)
    (k e : TypeId) (K : Keyed P k) (ht : P.underlying t = some (.map k e)) (R : Value → Option (DataW Unit × List MemPlace)) (b n : Nat) (D : DataW Unit)
    (hm : a.eval m = .map (some b)) (hown : w.ownsMap P k R b n D) (hn : n < maxLen) (key val : Value) (kl : Lit) (hx : a.eval x = key) (hv : a.eval v = val) (hkey : keyOf P k key = some kl)
    (d : DataW Unit) (ps : List MemPlace) (hval : R val = some (d, ps))
    (hK : ∀ w', w'.ownsMap P k R b (n + 1) (D.put kl d) → w.grownBy w' (some b) → wpList P ops Q rest (a.put o.dst undef) w') :
    wpList P ops Q (o :: rest) a w := by
  refine wpList_plain hg fun K' hK' => ?_
  obtain ⟨w', hrun, r1, r2⟩ := hown.update K ht hn hkey hval
  unfold Oper.wp
  simp [execOp, hop, hm, hx, hv, hrun, Result.andThen]
  exact hK' _ _ (hK w' r1 r2)
theorem wpList_lookup_own_str {P : Program} (w : World) {ops : Array Oper} {rest : List Oper} {o : Oper} {a : Act} {Q : Exit → Act → World → Prop}
    (hg : o.guard = none) (m x : Operand) (t : TypeId) (hop : o.op = Op.lookup t m x false)
    (k e : TypeId) (K : Keyed P k) (ht : P.underlying t = some (.map k e)) (he : P.underlying e = some .string) (hz : (zeroValue e).run P w = .ok (.string ByteArray.empty) w) (b n : Nat) (D : DataW Unit)
    (hm : a.eval m = .map (some b)) (hown : w.ownsMap P k (plainElem P e) b n D) (key : Value) (kl : Lit) (hx : a.eval x = key) (hkey : keyOf P k key = some kl)
    (hK : ∀ s : ByteArray, D.atKey kl (.lit (.string [])) = .lit (.string s.data.toList) → wpList P ops Q rest (a.put o.dst (.string s)) w) :
    wpList P ops Q (o :: rest) a w := by
  refine wpList_plain hg fun K' hK' => ?_
  obtain ⟨v, ps, hrun, hv⟩ := hown.lookup K ht hz (zd := .lit (.string [])) (plainElem_string he (Nat.zero_le _)) hkey
  obtain ⟨s, rfl, e1, _⟩ := plainElem_string_inv he hv
  simp only [Prod.mk.injEq] at e1
  unfold Oper.wp
  simp [execOp, hop, hm, hx, hrun, Result.andThen]
  exact hK' _ _ (hK s e1.1)
theorem lawI : Keyed Tryz.prog 3 := int_keyed Tryz.underlying3
theorem zeroS (w : World) : (zeroValue 9).run Tryz.prog w = .ok (.string ByteArray.empty) w := by kernel_rfl
theorem isMap_put {D : DataW Unit} (h : IsMap D) (k : Lit) (d : DataW Unit) : IsMap (D.put k d) := by
  obtain ⟨es, rfl⟩ := h
  exact ⟨_, rfl⟩
theorem put_at {D : DataW Unit} (h : IsMap D) (k c : Int) (d z : DataW Unit) : (D.put (.int .i64 k) d).atKey (.int .i64 c) z = if c = k then d else D.atKey (.int .i64 c) z := by
  by_cases e : c = k
  · subst e
    rw [if_pos rfl, atKey_put_same h (by trivial)]
  · rw [if_neg e, atKey_put_other (fun he => e (by injection he))]
/-- The literal. -/
def aboutD : DataW Unit :=
  ((((((((((.map [] : DataW Unit).put (.int .i64 (-32700)) (.lit (.string [110, 111, 32, 74, 83, 79, 78]))).put (.int .i64 (-32600)) (.lit (.string [110, 111, 32, 114, 101, 113, 117, 101, 115, 116]))).put (.int .i64 (-32601)) (.lit (.string [110, 111, 32, 115, 117, 99, 104, 32, 109, 101, 116, 104, 111, 100]))).put (.int .i64 (-32602)) (.lit (.string [119, 114, 111, 110, 103, 32, 112, 97, 114, 97, 109, 101, 116, 101, 114, 115]))).put (.int .i64 (-32002)) (.lit (.string [110, 111, 116, 32, 105, 110, 105, 116, 105, 97, 108, 105, 122, 101, 100]))).put (.int .i64 (-32800)) (.lit (.string [99, 97, 110, 99, 101, 108, 108, 101, 100]))).put (.int .i64 (-32803)) (.lit (.string [114, 101, 102, 117, 115, 101, 100]))).put (.int .i64 (-32000)) (.lit (.string [116, 104, 101, 32, 113, 117, 101, 117, 101, 32, 105, 115, 32, 102, 117, 108, 108]))).put (.int .i64 (-32001)) (.lit (.string [116, 111, 111, 32, 103, 114, 101, 97, 116])))
theorem about_at (c : Int) : aboutD.atKey (.int .i64 c) (.lit (.string [])) = .lit (.string (aboutS c).data.toList) := by
  have m0 : IsMap (.map [] : DataW Unit) := isMap_empty
  have m1 := isMap_put m0 (.int .i64 (-32700)) (.lit (.string [110, 111, 32, 74, 83, 79, 78]))
  have m2 := isMap_put m1 (.int .i64 (-32600)) (.lit (.string [110, 111, 32, 114, 101, 113, 117, 101, 115, 116]))
  have m3 := isMap_put m2 (.int .i64 (-32601)) (.lit (.string [110, 111, 32, 115, 117, 99, 104, 32, 109, 101, 116, 104, 111, 100]))
  have m4 := isMap_put m3 (.int .i64 (-32602)) (.lit (.string [119, 114, 111, 110, 103, 32, 112, 97, 114, 97, 109, 101, 116, 101, 114, 115]))
  have m5 := isMap_put m4 (.int .i64 (-32002)) (.lit (.string [110, 111, 116, 32, 105, 110, 105, 116, 105, 97, 108, 105, 122, 101, 100]))
  have m6 := isMap_put m5 (.int .i64 (-32800)) (.lit (.string [99, 97, 110, 99, 101, 108, 108, 101, 100]))
  have m7 := isMap_put m6 (.int .i64 (-32803)) (.lit (.string [114, 101, 102, 117, 115, 101, 100]))
  have m8 := isMap_put m7 (.int .i64 (-32000)) (.lit (.string [116, 104, 101, 32, 113, 117, 101, 117, 101, 32, 105, 115, 32, 102, 117, 108, 108]))
  have m9 := isMap_put m8 (.int .i64 (-32001)) (.lit (.string [116, 111, 111, 32, 103, 114, 101, 97, 116]))
  unfold aboutD
  rw [put_at m8, put_at m7, put_at m6, put_at m5, put_at m4, put_at m3, put_at m2, put_at m1, put_at m0]
  unfold aboutS
  by_cases c32700 : c = -32700
  · subst c32700; rfl
  by_cases c32600 : c = -32600
  · subst c32600; rfl
  by_cases c32601 : c = -32601
  · subst c32601; rfl
  by_cases c32602 : c = -32602
  · subst c32602; rfl
  by_cases c32002 : c = -32002
  · subst c32002; rfl
  by_cases c32800 : c = -32800
  · subst c32800; rfl
  by_cases c32803 : c = -32803
  · subst c32803; rfl
  by_cases c32000 : c = -32000
  · subst c32000; rfl
  by_cases c32001 : c = -32001
  · subst c32001; rfl
  simp only [if_neg c32700, if_neg c32600, if_neg c32601, if_neg c32602, if_neg c32002, if_neg c32800, if_neg c32803, if_neg c32000, if_neg c32001]
  rfl

set_option maxRecDepth 100000 in
set_option maxHeartbeats 4000000 in
theorem rpcAbout_any (c : Int) (w : World) (h0 : -9223372036854775808 ≤ c) (h1 : c ≤ 9223372036854775807) :
    Calls Tryz.prog 38 #[.int .i64 c] w fun e w' => e = .returned (.string (aboutS c)) ∧ Below w.heap.size w w' := by
  have hmm := @run_makeMap Tryz.prog
  have hkey : keyOf Tryz.prog 3 (.int .i64 c) = some (.int .i64 c) := keyOf_int_mk Tryz.underlying3 (WalkArith.wf_i64 (by omega))
  have hown := World.ownsMap_made (H := Unit) w Tryz.prog 3 (plainElem Tryz.prog 9)
  have hbel := (Below.refl w.heap.size w).alloc (Nat.le_refl _) (.map #[] 0)
  have hA := Lib.hid (about_at c)
  clear h0 h1
  go_enter Tryz.func38, Tryz.ntmps38
  go_wp2_with (first | (at_lookup; refine wpList_lookup_own_str _ rfl _ _ 118 rfl 3 9 lawI Tryz.underlying118 Tryz.underlying9 (zeroS _) w.heap.size _ _ rfl hown _ _ rfl hkey ?_; intro s hat) | (refine wpList_insert_own _ rfl _ _ _ 118 rfl 3 9 lawI Tryz.underlying118 _ w.heap.size _ _ rfl hown (by unfold maxLen; omega) _ _ _ rfl rfl (keyOf_int_mk Tryz.underlying3 (by decide)) _ [] (plainElem_string Tryz.underlying9 (by decide)) ?_; intro w1 hown1 hgrow1; replace hown := hown1; replace hbel := hbel.grown hgrow1 hbel.size (fun j hj => by cases hj; exact Nat.le_refl _); clear hown1 hgrow1))
  have hs : s = aboutS c := by
    have := hA.out
    unfold aboutD at this
    rw [this] at hat
    injection hat with hat
    injection hat with hat
    exact jstr_ext hat.symm
  replace hbel := Lib.hid hbel
  clear hat hown hkey hmm hA
  replace hs := Lib.hid hs
  go_wp2_with fail
  go_ret
  exact ⟨by rw [← hs.out]; rfl, hbel.out⟩

set_option maxRecDepth 100000 in
set_option maxHeartbeats 4000000 in
theorem refAbout_any (c : Int) (w : World) :
    Calls Tryz.prog 39 #[.int .i64 c] w fun e w' => e = .returned (.string (aboutS c)) ∧ Below w.heap.size w w' := by
  go_enter Tryz.func39, Tryz.ntmps39
  go_wp2_with fail
  obtain ⟨W0, hW0⟩ : ∃ W0, W0 = w := ⟨_, rfl⟩
  go_loopw [5] (fun i wr => ∃ q : Nat, q ≤ 9 ∧ i = .int .i64 q ∧ ((0 < q → c ≠ -32700) ∧ (1 < q → c ≠ -32600) ∧ (2 < q → c ≠ -32601) ∧ (3 < q → c ≠ -32602) ∧ (4 < q → c ≠ -32002) ∧ (5 < q → c ≠ -32800) ∧ (6 < q → c ≠ -32803) ∧ (7 < q → c ≠ -32000) ∧ (8 < q → c ≠ -32001)) ∧ wr = (w.alloc (.cells #[.int .i64 (-32700), .int .i64 (-32600), .int .i64 (-32601), .int .i64 (-32602), .int .i64 (-32002), .int .i64 (-32800), .int .i64 (-32803), .int .i64 (-32000), .int .i64 (-32001)] 3)).alloc (.cells #[.string ⟨#[110, 111, 32, 74, 83, 79, 78]⟩, .string ⟨#[110, 111, 32, 114, 101, 113, 117, 101, 115, 116]⟩, .string ⟨#[110, 111, 32, 115, 117, 99, 104, 32, 109, 101, 116, 104, 111, 100]⟩, .string ⟨#[119, 114, 111, 110, 103, 32, 112, 97, 114, 97, 109, 101, 116, 101, 114, 115]⟩, .string ⟨#[110, 111, 116, 32, 105, 110, 105, 116, 105, 97, 108, 105, 122, 101, 100]⟩, .string ⟨#[99, 97, 110, 99, 101, 108, 108, 101, 100]⟩, .string ⟨#[114, 101, 102, 117, 115, 101, 100]⟩, .string ⟨#[116, 104, 101, 32, 113, 117, 101, 117, 101, 32, 105, 115, 32, 102, 117, 108, 108]⟩, .string ⟨#[116, 111, 111, 32, 103, 114, 101, 97, 116]⟩] 9)) (fun i _ => 9 - (intOf i).toNat)
  case atStart => exact ⟨0, Nat.zero_le _, rfl, ⟨fun h => absurd h (Nat.not_lt_zero _), fun h => absurd h (Nat.not_lt_zero _), fun h => absurd h (Nat.not_lt_zero _), fun h => absurd h (Nat.not_lt_zero _), fun h => absurd h (Nat.not_lt_zero _), fun h => absurd h (Nat.not_lt_zero _), fun h => absurd h (Nat.not_lt_zero _), fun h => absurd h (Nat.not_lt_zero _), fun h => absurd h (Nat.not_lt_zero _)⟩, rfl⟩
  case round =>
    obtain ⟨q, hq, rfl, hne, rfl⟩ := hrel
    have hB := Lib.hid (((Below.refl w.heap.size w).alloc (Nat.le_refl _) (.cells #[.int .i64 (-32700), .int .i64 (-32600), .int .i64 (-32601), .int .i64 (-32602), .int .i64 (-32002), .int .i64 (-32800), .int .i64 (-32803), .int .i64 (-32000), .int .i64 (-32001)] 3)).alloc (by simp) (.cells #[.string ⟨#[110, 111, 32, 74, 83, 79, 78]⟩, .string ⟨#[110, 111, 32, 114, 101, 113, 117, 101, 115, 116]⟩, .string ⟨#[110, 111, 32, 115, 117, 99, 104, 32, 109, 101, 116, 104, 111, 100]⟩, .string ⟨#[119, 114, 111, 110, 103, 32, 112, 97, 114, 97, 109, 101, 116, 101, 114, 115]⟩, .string ⟨#[110, 111, 116, 32, 105, 110, 105, 116, 105, 97, 108, 105, 122, 101, 100]⟩, .string ⟨#[99, 97, 110, 99, 101, 108, 108, 101, 100]⟩, .string ⟨#[114, 101, 102, 117, 115, 101, 100]⟩, .string ⟨#[116, 104, 101, 32, 113, 117, 101, 117, 101, 32, 105, 115, 32, 102, 117, 108, 108]⟩, .string ⟨#[116, 111, 111, 32, 103, 114, 101, 97, 116]⟩] 9))
    obtain ⟨n0, n1, n2, n3, n4, n5, n6, n7, n8⟩ := hne
    rcases (by omega : q = 0 ∨ q = 1 ∨ q = 2 ∨ q = 3 ∨ q = 4 ∨ q = 5 ∨ q = 6 ∨ q = 7 ∨ q = 8 ∨ q = 9) with rfl | rfl | rfl | rfl | rfl | rfl | rfl | rfl | rfl | rfl
    · by_cases hc : c = -32700
      · subst hc
        clear n0 n1 n2 n3 n4 n5 n6 n7 n8
        go_wp2_with fail
        go_ret
        exact ⟨rfl, hB.out⟩
      · have hcb : ((-32700 : Int) == c) = false := beq_eq_false_iff_ne.2 (fun e => hc e.symm)
        have hr := Lib.hid (show (0 < 1 → c ≠ -32700) ∧ (1 < 1 → c ≠ -32600) ∧ (2 < 1 → c ≠ -32601) ∧ (3 < 1 → c ≠ -32602) ∧ (4 < 1 → c ≠ -32002) ∧ (5 < 1 → c ≠ -32800) ∧ (6 < 1 → c ≠ -32803) ∧ (7 < 1 → c ≠ -32000) ∧ (8 < 1 → c ≠ -32001) from ⟨fun _ => hc, fun h => by omega, fun h => by omega, fun h => by omega, fun h => by omega, fun h => by omega, fun h => by omega, fun h => by omega, fun h => by omega⟩)
        clear n0 n1 n2 n3 n4 n5 n6 n7 n8 hc
        go_wp2_with fail
        go_roundw
        case rel => exact ⟨1, by omega, by first | rfl | go_num, hr.out, by first | trivial | rfl⟩
        case measure => simp [intOf]
    · by_cases hc : c = -32600
      · subst hc
        clear n0 n1 n2 n3 n4 n5 n6 n7 n8
        go_wp2_with fail
        go_ret
        exact ⟨rfl, hB.out⟩
      · have hcb : ((-32600 : Int) == c) = false := beq_eq_false_iff_ne.2 (fun e => hc e.symm)
        have hr := Lib.hid (show (0 < 2 → c ≠ -32700) ∧ (1 < 2 → c ≠ -32600) ∧ (2 < 2 → c ≠ -32601) ∧ (3 < 2 → c ≠ -32602) ∧ (4 < 2 → c ≠ -32002) ∧ (5 < 2 → c ≠ -32800) ∧ (6 < 2 → c ≠ -32803) ∧ (7 < 2 → c ≠ -32000) ∧ (8 < 2 → c ≠ -32001) from ⟨fun _ => n0 (by omega), fun _ => hc, fun h => by omega, fun h => by omega, fun h => by omega, fun h => by omega, fun h => by omega, fun h => by omega, fun h => by omega⟩)
        clear n0 n1 n2 n3 n4 n5 n6 n7 n8 hc
        go_wp2_with fail
        go_roundw
        case rel => exact ⟨2, by omega, by first | rfl | go_num, hr.out, by first | trivial | rfl⟩
        case measure => simp [intOf]
    · by_cases hc : c = -32601
      · subst hc
        clear n0 n1 n2 n3 n4 n5 n6 n7 n8
        go_wp2_with fail
        go_ret
        exact ⟨rfl, hB.out⟩
      · have hcb : ((-32601 : Int) == c) = false := beq_eq_false_iff_ne.2 (fun e => hc e.symm)
        have hr := Lib.hid (show (0 < 3 → c ≠ -32700) ∧ (1 < 3 → c ≠ -32600) ∧ (2 < 3 → c ≠ -32601) ∧ (3 < 3 → c ≠ -32602) ∧ (4 < 3 → c ≠ -32002) ∧ (5 < 3 → c ≠ -32800) ∧ (6 < 3 → c ≠ -32803) ∧ (7 < 3 → c ≠ -32000) ∧ (8 < 3 → c ≠ -32001) from ⟨fun _ => n0 (by omega), fun _ => n1 (by omega), fun _ => hc, fun h => by omega, fun h => by omega, fun h => by omega, fun h => by omega, fun h => by omega, fun h => by omega⟩)
        clear n0 n1 n2 n3 n4 n5 n6 n7 n8 hc
        go_wp2_with fail
        go_roundw
        case rel => exact ⟨3, by omega, by first | rfl | go_num, hr.out, by first | trivial | rfl⟩
        case measure => simp [intOf]
    · by_cases hc : c = -32602
      · subst hc
        clear n0 n1 n2 n3 n4 n5 n6 n7 n8
        go_wp2_with fail
        go_ret
        exact ⟨rfl, hB.out⟩
      · have hcb : ((-32602 : Int) == c) = false := beq_eq_false_iff_ne.2 (fun e => hc e.symm)
        have hr := Lib.hid (show (0 < 4 → c ≠ -32700) ∧ (1 < 4 → c ≠ -32600) ∧ (2 < 4 → c ≠ -32601) ∧ (3 < 4 → c ≠ -32602) ∧ (4 < 4 → c ≠ -32002) ∧ (5 < 4 → c ≠ -32800) ∧ (6 < 4 → c ≠ -32803) ∧ (7 < 4 → c ≠ -32000) ∧ (8 < 4 → c ≠ -32001) from ⟨fun _ => n0 (by omega), fun _ => n1 (by omega), fun _ => n2 (by omega), fun _ => hc, fun h => by omega, fun h => by omega, fun h => by omega, fun h => by omega, fun h => by omega⟩)
        clear n0 n1 n2 n3 n4 n5 n6 n7 n8 hc
        go_wp2_with fail
        go_roundw
        case rel => exact ⟨4, by omega, by first | rfl | go_num, hr.out, by first | trivial | rfl⟩
        case measure => simp [intOf]
    · by_cases hc : c = -32002
      · subst hc
        clear n0 n1 n2 n3 n4 n5 n6 n7 n8
        go_wp2_with fail
        go_ret
        exact ⟨rfl, hB.out⟩
      · have hcb : ((-32002 : Int) == c) = false := beq_eq_false_iff_ne.2 (fun e => hc e.symm)
        have hr := Lib.hid (show (0 < 5 → c ≠ -32700) ∧ (1 < 5 → c ≠ -32600) ∧ (2 < 5 → c ≠ -32601) ∧ (3 < 5 → c ≠ -32602) ∧ (4 < 5 → c ≠ -32002) ∧ (5 < 5 → c ≠ -32800) ∧ (6 < 5 → c ≠ -32803) ∧ (7 < 5 → c ≠ -32000) ∧ (8 < 5 → c ≠ -32001) from ⟨fun _ => n0 (by omega), fun _ => n1 (by omega), fun _ => n2 (by omega), fun _ => n3 (by omega), fun _ => hc, fun h => by omega, fun h => by omega, fun h => by omega, fun h => by omega⟩)
        clear n0 n1 n2 n3 n4 n5 n6 n7 n8 hc
        go_wp2_with fail
        go_roundw
        case rel => exact ⟨5, by omega, by first | rfl | go_num, hr.out, by first | trivial | rfl⟩
        case measure => simp [intOf]
    · by_cases hc : c = -32800
      · subst hc
        clear n0 n1 n2 n3 n4 n5 n6 n7 n8
        go_wp2_with fail
        go_ret
        exact ⟨rfl, hB.out⟩
      · have hcb : ((-32800 : Int) == c) = false := beq_eq_false_iff_ne.2 (fun e => hc e.symm)
        have hr := Lib.hid (show (0 < 6 → c ≠ -32700) ∧ (1 < 6 → c ≠ -32600) ∧ (2 < 6 → c ≠ -32601) ∧ (3 < 6 → c ≠ -32602) ∧ (4 < 6 → c ≠ -32002) ∧ (5 < 6 → c ≠ -32800) ∧ (6 < 6 → c ≠ -32803) ∧ (7 < 6 → c ≠ -32000) ∧ (8 < 6 → c ≠ -32001) from ⟨fun _ => n0 (by omega), fun _ => n1 (by omega), fun _ => n2 (by omega), fun _ => n3 (by omega), fun _ => n4 (by omega), fun _ => hc, fun h => by omega, fun h => by omega, fun h => by omega⟩)
        clear n0 n1 n2 n3 n4 n5 n6 n7 n8 hc
        go_wp2_with fail
        go_roundw
        case rel => exact ⟨6, by omega, by first | rfl | go_num, hr.out, by first | trivial | rfl⟩
        case measure => simp [intOf]
    · by_cases hc : c = -32803
      · subst hc
        clear n0 n1 n2 n3 n4 n5 n6 n7 n8
        go_wp2_with fail
        go_ret
        exact ⟨rfl, hB.out⟩
      · have hcb : ((-32803 : Int) == c) = false := beq_eq_false_iff_ne.2 (fun e => hc e.symm)
        have hr := Lib.hid (show (0 < 7 → c ≠ -32700) ∧ (1 < 7 → c ≠ -32600) ∧ (2 < 7 → c ≠ -32601) ∧ (3 < 7 → c ≠ -32602) ∧ (4 < 7 → c ≠ -32002) ∧ (5 < 7 → c ≠ -32800) ∧ (6 < 7 → c ≠ -32803) ∧ (7 < 7 → c ≠ -32000) ∧ (8 < 7 → c ≠ -32001) from ⟨fun _ => n0 (by omega), fun _ => n1 (by omega), fun _ => n2 (by omega), fun _ => n3 (by omega), fun _ => n4 (by omega), fun _ => n5 (by omega), fun _ => hc, fun h => by omega, fun h => by omega⟩)
        clear n0 n1 n2 n3 n4 n5 n6 n7 n8 hc
        go_wp2_with fail
        go_roundw
        case rel => exact ⟨7, by omega, by first | rfl | go_num, hr.out, by first | trivial | rfl⟩
        case measure => simp [intOf]
    · by_cases hc : c = -32000
      · subst hc
        clear n0 n1 n2 n3 n4 n5 n6 n7 n8
        go_wp2_with fail
        go_ret
        exact ⟨rfl, hB.out⟩
      · have hcb : ((-32000 : Int) == c) = false := beq_eq_false_iff_ne.2 (fun e => hc e.symm)
        have hr := Lib.hid (show (0 < 8 → c ≠ -32700) ∧ (1 < 8 → c ≠ -32600) ∧ (2 < 8 → c ≠ -32601) ∧ (3 < 8 → c ≠ -32602) ∧ (4 < 8 → c ≠ -32002) ∧ (5 < 8 → c ≠ -32800) ∧ (6 < 8 → c ≠ -32803) ∧ (7 < 8 → c ≠ -32000) ∧ (8 < 8 → c ≠ -32001) from ⟨fun _ => n0 (by omega), fun _ => n1 (by omega), fun _ => n2 (by omega), fun _ => n3 (by omega), fun _ => n4 (by omega), fun _ => n5 (by omega), fun _ => n6 (by omega), fun _ => hc, fun h => by omega⟩)
        clear n0 n1 n2 n3 n4 n5 n6 n7 n8 hc
        go_wp2_with fail
        go_roundw
        case rel => exact ⟨8, by omega, by first | rfl | go_num, hr.out, by first | trivial | rfl⟩
        case measure => simp [intOf]
    · by_cases hc : c = -32001
      · subst hc
        clear n0 n1 n2 n3 n4 n5 n6 n7 n8
        go_wp2_with fail
        go_ret
        exact ⟨rfl, hB.out⟩
      · have hcb : ((-32001 : Int) == c) = false := beq_eq_false_iff_ne.2 (fun e => hc e.symm)
        have hr := Lib.hid (show (0 < 9 → c ≠ -32700) ∧ (1 < 9 → c ≠ -32600) ∧ (2 < 9 → c ≠ -32601) ∧ (3 < 9 → c ≠ -32602) ∧ (4 < 9 → c ≠ -32002) ∧ (5 < 9 → c ≠ -32800) ∧ (6 < 9 → c ≠ -32803) ∧ (7 < 9 → c ≠ -32000) ∧ (8 < 9 → c ≠ -32001) from ⟨fun _ => n0 (by omega), fun _ => n1 (by omega), fun _ => n2 (by omega), fun _ => n3 (by omega), fun _ => n4 (by omega), fun _ => n5 (by omega), fun _ => n6 (by omega), fun _ => n7 (by omega), fun _ => hc⟩)
        clear n0 n1 n2 n3 n4 n5 n6 n7 n8 hc
        go_wp2_with fail
        go_roundw
        case rel => exact ⟨9, by omega, by first | rfl | go_num, hr.out, by first | trivial | rfl⟩
        case measure => simp [intOf]
    · have hr : aboutS c = ⟨#[]⟩ := by
        unfold aboutS
        rw [if_neg (n0 (by omega)), if_neg (n1 (by omega)), if_neg (n2 (by omega)), if_neg (n3 (by omega)), if_neg (n4 (by omega)), if_neg (n5 (by omega)), if_neg (n6 (by omega)), if_neg (n7 (by omega)), if_neg (n8 (by omega))]
      replace hr := Lib.hid hr
      clear n0 n1 n2 n3 n4 n5 n6 n7 n8
      go_wp2_with fail
      go_ret
      exact ⟨by rw [hr.out]; rfl, hB.out⟩
end Go.Proofs.YtamcbgkppgdniaaGreatDoor
