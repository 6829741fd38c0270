/-
  The quick machine for the kernel: rows, numbers, strings, blocks. No program.
-/
import Derived.Test.YtambgppdjlhdaaaGreatDoorEqA
namespace Go.Proofs.YtambgppdjlhdaaaGreatDoor
open Go.RowKit

noncomputable def tlB (l : List UInt8) : List UInt8 := List.rec (motive := fun _ => List UInt8) [] (fun _ t _ => t) l
noncomputable def dr8B (l : List UInt8) : List UInt8 := tlB (tlB (tlB (tlB (tlB (tlB (tlB (tlB l)))))))
noncomputable def sk8B (q : Nat) (l : List UInt8) : List UInt8 := Nat.rec (motive := fun _ => List UInt8) l (fun _ ih => dr8B ih) q
noncomputable def wlkB (l : List UInt8) : Nat → Option UInt8 := List.rec (motive := fun _ => Nat → Option UInt8) (fun _ => none) (fun a _ ih k => Nat.rec (motive := fun _ => Option UInt8) (some a) (fun j _ => ih j) k) l
noncomputable def nthB (l : List UInt8) (m : Nat) : Option UInt8 := wlkB (sk8B (Nat.div m 8) l) (Nat.mod m 8)
noncomputable def wdB (k : Nat) (l : List UInt8) : List UInt8 := Nat.rec (motive := fun _ => List UInt8) l (fun _ ih => tlB ih) k
noncomputable def drpB (k : Nat) (l : List UInt8) : List UInt8 := wdB (Nat.mod k 8) (sk8B (Nat.div k 8) l)
noncomputable def takB (l : List UInt8) : Nat → List UInt8 := List.rec (motive := fun _ => Nat → List UInt8) (fun _ => []) (fun a _ ih k => Nat.rec (motive := fun _ => List UInt8) [] (fun j _ => a :: ih j) k) l
noncomputable def lenB (l : List UInt8) : Nat := List.rec (motive := fun _ => Nat → Nat) (fun n => n) (fun _ _ ih n => ih (Nat.succ n)) l 0
theorem tlB_eq (l : List UInt8) : tlB l = l.drop 1 := by cases l <;> rfl
theorem dr8B_eq [Tab] (l : List UInt8) : dr8B l = l.drop 8 := by
  unfold dr8B
  simp only [tlB_eq, List.drop_drop]
theorem sk8B_eq [Tab] (l : List UInt8) : ∀ q, sk8B q l = l.drop (8 * q)
  | 0 => rfl
  | q + 1 => by
    show dr8B (sk8B q l) = _
    rw [sk8B_eq l q, dr8B_eq, List.drop_drop]
    congr 1
theorem wlkB_eq [Tab] : ∀ (l : List UInt8) (k : Nat), wlkB l k = l[k]?
  | [], _ => rfl
  | _ :: _, 0 => rfl
  | a :: l, k + 1 => by
    rw [List.getElem?_cons_succ]
    exact wlkB_eq l k
theorem nthB_eq [Tab] (l : List UInt8) (m : Nat) : nthB l m = l[m]? := by
  unfold nthB
  rw [wlkB_eq, sk8B_eq, List.getElem?_drop]
  congr 1
  exact Nat.div_add_mod m 8
theorem wdB_eq [Tab] (l : List UInt8) : ∀ k, wdB k l = l.drop k
  | 0 => rfl
  | k + 1 => by
    show tlB (wdB k l) = _
    rw [wdB_eq l k, tlB_eq, List.drop_drop]
theorem drpB_eq [Tab] (k : Nat) (l : List UInt8) : drpB k l = l.drop k := by
  unfold drpB
  rw [wdB_eq, sk8B_eq, List.drop_drop]
  congr 1
  exact Nat.div_add_mod k 8
theorem takB_eq [Tab] : ∀ (l : List UInt8) (k : Nat), takB l k = l.take k
  | [], k => by simp; rfl
  | _ :: _, 0 => rfl
  | a :: l, k + 1 => congrArg (a :: ·) (takB_eq l k)
theorem lenB_eq (l : List UInt8) : lenB l = l.length := by
  have : ∀ (l : List UInt8) (n : Nat), (List.rec (motive := fun _ => Nat → Nat) (fun n => n) (fun _ _ ih n => ih (Nat.succ n)) l n : Nat) = n + l.length := by
    intro l
    induction l with
    | nil => intro n; rfl
    | cons a l ih => intro n; simp only [List.length_cons]; rw [ih]; omega
  unfold lenB
  rw [this]
  omega
noncomputable def tlV (l : List AV) : List AV := List.rec (motive := fun _ => List AV) [] (fun _ t _ => t) l
noncomputable def dr8V (l : List AV) : List AV := tlV (tlV (tlV (tlV (tlV (tlV (tlV (tlV l)))))))
noncomputable def sk8V (q : Nat) (l : List AV) : List AV := Nat.rec (motive := fun _ => List AV) l (fun _ ih => dr8V ih) q
noncomputable def wlkV (l : List AV) : Nat → Option AV := List.rec (motive := fun _ => Nat → Option AV) (fun _ => none) (fun a _ ih k => Nat.rec (motive := fun _ => Option AV) (some a) (fun j _ => ih j) k) l
noncomputable def nthV (l : List AV) (m : Nat) : Option AV := wlkV (sk8V (Nat.div m 8) l) (Nat.mod m 8)
noncomputable def wdV (k : Nat) (l : List AV) : List AV := Nat.rec (motive := fun _ => List AV) l (fun _ ih => tlV ih) k
noncomputable def drpV (k : Nat) (l : List AV) : List AV := wdV (Nat.mod k 8) (sk8V (Nat.div k 8) l)
noncomputable def takV (l : List AV) : Nat → List AV := List.rec (motive := fun _ => Nat → List AV) (fun _ => []) (fun a _ ih k => Nat.rec (motive := fun _ => List AV) [] (fun j _ => a :: ih j) k) l
noncomputable def lenV (l : List AV) : Nat := List.rec (motive := fun _ => Nat → Nat) (fun n => n) (fun _ _ ih n => ih (Nat.succ n)) l 0
theorem tlV_eq (l : List AV) : tlV l = l.drop 1 := by cases l <;> rfl
theorem dr8V_eq [Tab] (l : List AV) : dr8V l = l.drop 8 := by
  unfold dr8V
  simp only [tlV_eq, List.drop_drop]
theorem sk8V_eq [Tab] (l : List AV) : ∀ q, sk8V q l = l.drop (8 * q)
  | 0 => rfl
  | q + 1 => by
    show dr8V (sk8V q l) = _
    rw [sk8V_eq l q, dr8V_eq, List.drop_drop]
    congr 1
theorem wlkV_eq [Tab] : ∀ (l : List AV) (k : Nat), wlkV l k = l[k]?
  | [], _ => rfl
  | _ :: _, 0 => rfl
  | a :: l, k + 1 => by
    rw [List.getElem?_cons_succ]
    exact wlkV_eq l k
theorem nthV_eq [Tab] (l : List AV) (m : Nat) : nthV l m = l[m]? := by
  unfold nthV
  rw [wlkV_eq, sk8V_eq, List.getElem?_drop]
  congr 1
  exact Nat.div_add_mod m 8
theorem wdV_eq [Tab] (l : List AV) : ∀ k, wdV k l = l.drop k
  | 0 => rfl
  | k + 1 => by
    show tlV (wdV k l) = _
    rw [wdV_eq l k, tlV_eq, List.drop_drop]
theorem drpV_eq [Tab] (k : Nat) (l : List AV) : drpV k l = l.drop k := by
  unfold drpV
  rw [wdV_eq, sk8V_eq, List.drop_drop]
  congr 1
  exact Nat.div_add_mod k 8
theorem takV_eq [Tab] : ∀ (l : List AV) (k : Nat), takV l k = l.take k
  | [], k => by simp; rfl
  | _ :: _, 0 => rfl
  | a :: l, k + 1 => congrArg (a :: ·) (takV_eq l k)
theorem lenV_eq (l : List AV) : lenV l = l.length := by
  have : ∀ (l : List AV) (n : Nat), (List.rec (motive := fun _ => Nat → Nat) (fun n => n) (fun _ _ ih n => ih (Nat.succ n)) l n : Nat) = n + l.length := by
    intro l
    induction l with
    | nil => intro n; rfl
    | cons a l ih => intro n; simp only [List.length_cons]; rw [ih]; omega
  unfold lenV
  rw [this]
  omega
noncomputable def tkO (l : List AV) : Nat → Option (List AV) := List.rec (motive := fun _ => Nat → Option (List AV)) (fun n => Nat.rec (motive := fun _ => Option (List AV)) (some []) (fun _ _ => none) n) (fun a _ ih n => Nat.rec (motive := fun _ => Option (List AV)) (some []) (fun m _ => Option.rec (motive := fun _ => Option (List AV)) none (fun r => some (a :: r)) (ih m)) n) l
theorem tkO_eq [Tab] : ∀ (l : List AV) (n : Nat), tkO l n = if n ≤ l.length then some (l.take n) else none
  | [], 0 => rfl
  | [], n + 1 => rfl
  | a :: l, 0 => by rw [if_pos (Nat.zero_le _)]; rfl
  | a :: l, n + 1 => by
    show Option.rec (motive := fun _ => Option (List AV)) none (fun r => some (a :: r)) (tkO l n) = _
    rw [tkO_eq l n]
    by_cases h : n ≤ l.length
    · rw [if_pos h, if_pos (by simp; exact h)]; rfl
    · rw [if_neg h, if_neg (by simp; omega)]
/-- A cell written; cells written. -/
noncomputable def setV (l : List AV) : Nat → AV → Option (List AV) := List.rec (motive := fun _ => Nat → AV → Option (List AV)) (fun _ _ => none) (fun a t ih k v => Nat.rec (motive := fun _ => Option (List AV)) (some (v :: t)) (fun j _ => Option.rec (motive := fun _ => Option (List AV)) none (fun r => some (a :: r)) (ih j v)) k) l
theorem setV_eq [Tab] : ∀ (l : List AV) (k : Nat) (v : AV), setV l k v = if k < l.length then some (putL l k [v]) else none
  | [], k, v => rfl
  | a :: l, 0, v => by rw [if_pos (by simp)]; rfl
  | a :: l, k + 1, v => by
    show Option.rec (motive := fun _ => Option (List AV)) none (fun r => some (a :: r)) (setV l k v) = _
    rw [setV_eq l k v]
    by_cases h : k < l.length
    · rw [if_pos h, if_pos (by simp; exact h)]
      show some _ = some _
      congr 1
    · rw [if_neg h, if_neg (by simp; omega)]
noncomputable def preV (vs : List AV) : List AV → Option (List AV) := List.rec (motive := fun _ => List AV → Option (List AV)) (fun l => some l) (fun v _ ih l => List.rec (motive := fun _ => Option (List AV)) none (fun _ t _ => Option.rec (motive := fun _ => Option (List AV)) none (fun r => some (v :: r)) (ih t)) l) vs
theorem preV_eq [Tab] : ∀ (vs l : List AV), preV vs l = if vs.length ≤ l.length then some (vs ++ l.drop vs.length) else none
  | [], l => by rw [if_pos (show ([] : List AV).length ≤ l.length from Nat.zero_le _)]; rfl
  | v :: vs, [] => rfl
  | v :: vs, a :: l => by
    show Option.rec (motive := fun _ => Option (List AV)) none (fun r => some (v :: r)) (preV vs l) = _
    rw [preV_eq vs l]
    by_cases h : vs.length ≤ l.length
    · rw [if_pos h, if_pos (by simp; exact h)]; rfl
    · rw [if_neg h, if_neg (by simp; omega)]
noncomputable def putQ (l : List AV) : Nat → List AV → Option (List AV) := List.rec (motive := fun _ => Nat → List AV → Option (List AV)) (fun k vs => Nat.rec (motive := fun _ => Option (List AV)) (preV vs []) (fun _ _ => none) k) (fun a t ih k vs => Nat.rec (motive := fun _ => Option (List AV)) (preV vs (a :: t)) (fun j _ => Option.rec (motive := fun _ => Option (List AV)) none (fun r => some (a :: r)) (ih j vs)) k) l
theorem putQ_eq [Tab] : ∀ (l : List AV) (k : Nat) (vs : List AV), putQ l k vs = if k + vs.length ≤ l.length then some (putL l k vs) else none
  | [], 0, vs => by
    show preV vs [] = _
    rw [preV_eq]
    simp only [Nat.zero_add]
    by_cases h : vs.length ≤ ([] : List AV).length
    · rw [if_pos h, if_pos h]; unfold putL; simp
    · rw [if_neg h, if_neg h]
  | [], k + 1, vs => by rw [if_neg (by simp)]; rfl
  | a :: l, 0, vs => by
    show preV vs (a :: l) = _
    rw [preV_eq]
    simp only [Nat.zero_add]
    by_cases h : vs.length ≤ (a :: l).length
    · rw [if_pos h, if_pos h]; unfold putL; simp
    · rw [if_neg h, if_neg h]
  | a :: l, k + 1, vs => by
    show Option.rec (motive := fun _ => Option (List AV)) none (fun r => some (a :: r)) (putQ l k vs) = _
    rw [putQ_eq l k vs]
    by_cases h : k + vs.length ≤ l.length
    · rw [if_pos h, if_pos (by simp; omega)]
      show some _ = some _
      congr 1
      unfold putL
      simp
      rw [show k + 1 + vs.length = (k + vs.length) + 1 by omega, List.drop_succ_cons]
    · rw [if_neg h, if_neg (by simp; omega)]
noncomputable def eqQ (a : List UInt8) : List UInt8 → Bool := List.rec (motive := fun _ => List UInt8 → Bool) (fun b => List.rec (motive := fun _ => Bool) true (fun _ _ _ => false) b) (fun x _ ih b => List.rec (motive := fun _ => Bool) false (fun y r _ => Bool.rec (motive := fun _ => Bool) false (ih r) (Nat.beq x.toNat y.toNat)) b) a
theorem eqQ_eq [Tab] : ∀ (a b : List UInt8), eqQ a b = eqB a b
  | [], [] => rfl
  | [], _ :: _ => rfl
  | _ :: _, [] => rfl
  | x :: a, y :: b => by
    show Bool.rec (motive := fun _ => Bool) false (eqQ a b) (Nat.beq x.toNat y.toNat) = cond (Nat.beq x.toNat y.toNat) (eqB a b) false
    rw [eqQ_eq a b]
    cases Nat.beq x.toNat y.toNat <;> rfl
/-- Numbers. -/
noncomputable def maxQ (k : IntKind) : Nat := IntKind.rec (motive := fun _ => Nat) 127 32767 2147483647 9223372036854775807 255 65535 4294967295 18446744073709551615 k
theorem wrap_maxQ {k : IntKind} {x : Nat} (h : x ≤ maxQ k) : wrapA k (.ofNat x) = .ofNat x := by
  have e : ∀ k : IntKind, x ≤ maxQ k → k.wrap (.ofNat x) = .ofNat x := by
    intro k h
    unfold IntKind.wrap
    cases k <;> (simp only [maxQ] at h; simp only [IntKind.bits, IntKind.signed]; simp; omega)
  unfold wrapA
  split
  · rename_i m he; cases he; cases Nat.ble x 9223372036854775807 <;> first | rfl | exact e _ h
  · rename_i he; cases he
  · rename_i m he; cases he; cases Nat.ble x 18446744073709551615 <;> first | rfl | exact e _ h
  · rename_i m he; cases he; cases Nat.ble x 4294967295 <;> first | rfl | exact e _ h
  · rename_i m he; cases he; cases Nat.ble x 255 <;> first | rfl | exact e _ h
  · exact e _ h
noncomputable def okN (k : IntKind) (x : Nat) : Option AV := Bool.rec (motive := fun _ => Option AV) (some (.int k (wrapA k (.ofNat x)))) (some (.int k (.ofNat x))) (Nat.ble x (maxQ k))
theorem okN_eq [Tab] (k : IntKind) (x : Nat) : okN k x = some (.int k (wrapA k (.ofNat x))) := by
  unfold okN
  cases h : Nat.ble x (maxQ k) with
  | false => rfl
  | true => rw [wrap_maxQ (Nat.le_of_ble_eq_true h)]
abbrev FIq := Int → Int → IntKind → Option AV

noncomputable def addI2 (b : Int) : Nat → IntKind → Option AV := Int.rec (motive := fun _ => Nat → IntKind → Option AV) (fun n m k => okN k (Nat.add m n)) (fun n m k => intA .add k (.ofNat m) (.negSucc n)) b
noncomputable def addI (a : Int) : Int → IntKind → Option AV := Int.rec (motive := fun _ => Int → IntKind → Option AV) (fun m b k => addI2 b m k) (fun m b k => intA .add k (.negSucc m) b) a
noncomputable def subI2 (b : Int) : Nat → IntKind → Option AV := Int.rec (motive := fun _ => Nat → IntKind → Option AV) (fun n m k => Bool.rec (motive := fun _ => Option AV) (intA .sub k (.ofNat m) (.ofNat n)) (okN k (Nat.sub m n)) (Nat.ble n m)) (fun n m k => intA .sub k (.ofNat m) (.negSucc n)) b
noncomputable def subI (a : Int) : Int → IntKind → Option AV := Int.rec (motive := fun _ => Int → IntKind → Option AV) (fun m b k => subI2 b m k) (fun m b k => intA .sub k (.negSucc m) b) a
noncomputable def mulI2 (b : Int) : Nat → IntKind → Option AV := Int.rec (motive := fun _ => Nat → IntKind → Option AV) (fun n m k => okN k (Nat.mul m n)) (fun n m k => intA .mul k (.ofNat m) (.negSucc n)) b
noncomputable def mulI (a : Int) : Int → IntKind → Option AV := Int.rec (motive := fun _ => Int → IntKind → Option AV) (fun m b k => mulI2 b m k) (fun m b k => intA .mul k (.negSucc m) b) a
noncomputable def lssI2 (b : Int) : Nat → IntKind → Option AV := Int.rec (motive := fun _ => Nat → IntKind → Option AV) (fun n m k => some (.bool (Nat.ble (Nat.succ m) n))) (fun n m k => intA .lss k (.ofNat m) (.negSucc n)) b
noncomputable def lssI (a : Int) : Int → IntKind → Option AV := Int.rec (motive := fun _ => Int → IntKind → Option AV) (fun m b k => lssI2 b m k) (fun m b k => intA .lss k (.negSucc m) b) a
noncomputable def leqI2 (b : Int) : Nat → IntKind → Option AV := Int.rec (motive := fun _ => Nat → IntKind → Option AV) (fun n m k => some (.bool (Nat.ble m n))) (fun n m k => intA .leq k (.ofNat m) (.negSucc n)) b
noncomputable def leqI (a : Int) : Int → IntKind → Option AV := Int.rec (motive := fun _ => Int → IntKind → Option AV) (fun m b k => leqI2 b m k) (fun m b k => intA .leq k (.negSucc m) b) a
noncomputable def gtrI2 (b : Int) : Nat → IntKind → Option AV := Int.rec (motive := fun _ => Nat → IntKind → Option AV) (fun n m k => some (.bool (Nat.ble (Nat.succ n) m))) (fun n m k => intA .gtr k (.ofNat m) (.negSucc n)) b
noncomputable def gtrI (a : Int) : Int → IntKind → Option AV := Int.rec (motive := fun _ => Int → IntKind → Option AV) (fun m b k => gtrI2 b m k) (fun m b k => intA .gtr k (.negSucc m) b) a
noncomputable def geqI2 (b : Int) : Nat → IntKind → Option AV := Int.rec (motive := fun _ => Nat → IntKind → Option AV) (fun n m k => some (.bool (Nat.ble n m))) (fun n m k => intA .geq k (.ofNat m) (.negSucc n)) b
noncomputable def geqI (a : Int) : Int → IntKind → Option AV := Int.rec (motive := fun _ => Int → IntKind → Option AV) (fun m b k => geqI2 b m k) (fun m b k => intA .geq k (.negSucc m) b) a
noncomputable def eqlI2 (b : Int) : Nat → IntKind → Option AV := Int.rec (motive := fun _ => Nat → IntKind → Option AV) (fun n m k => some (.bool (Nat.beq m n))) (fun n m k => intA .eql k (.ofNat m) (.negSucc n)) b
noncomputable def eqlI (a : Int) : Int → IntKind → Option AV := Int.rec (motive := fun _ => Int → IntKind → Option AV) (fun m b k => eqlI2 b m k) (fun m b k => intA .eql k (.negSucc m) b) a
noncomputable def neqI2 (b : Int) : Nat → IntKind → Option AV := Int.rec (motive := fun _ => Nat → IntKind → Option AV) (fun n m k => some (.bool (!Nat.beq m n))) (fun n m k => intA .neq k (.ofNat m) (.negSucc n)) b
noncomputable def neqI (a : Int) : Int → IntKind → Option AV := Int.rec (motive := fun _ => Int → IntKind → Option AV) (fun m b k => neqI2 b m k) (fun m b k => intA .neq k (.negSucc m) b) a
theorem bleD (m n : Nat) : Nat.ble m n = decide (m ≤ n) := by
  cases h : Nat.ble m n with
  | false => exact (decide_eq_false fun h2 => by rw [Nat.ble_eq_true_of_le h2] at h; cases h).symm
  | true => exact (decide_eq_true (Nat.le_of_ble_eq_true h)).symm
theorem beqD (m n : Nat) : Nat.beq m n = decide (m = n) := by
  cases h : Nat.beq m n with
  | false => exact (decide_eq_false fun h2 => by rw [h2, show Nat.beq n n = true from Nat.beq_refl n] at h; cases h).symm
  | true => exact (decide_eq_true (Nat.eq_of_beq_eq_true h)).symm
theorem addI_eq [Tab] (a b : Int) (k : IntKind) : addI a b k = intA .add k a b := by
  cases a <;> cases b <;> try rfl
  exact okN_eq _ _
theorem mulI_eq [Tab] (a b : Int) (k : IntKind) : mulI a b k = intA .mul k a b := by
  cases a <;> cases b <;> try rfl
  exact okN_eq _ _
theorem subI_eq [Tab] (a b : Int) (k : IntKind) : subI a b k = intA .sub k a b := by
  cases a <;> cases b <;> try rfl
  rename_i m n
  show Bool.rec (motive := fun _ => Option AV) (intA .sub k (.ofNat m) (.ofNat n)) (okN k (m - n)) (Nat.ble n m) = _
  cases h : Nat.ble n m with
  | false => rfl
  | true =>
    have h := Nat.le_of_ble_eq_true h
    show okN k (m - n) = some (.int k (wrapA k (Int.ofNat m - Int.ofNat n)))
    rw [okN_eq, show (Int.ofNat m - Int.ofNat n : Int) = Int.ofNat (m - n) by simp only [Int.ofNat_eq_natCast]; omega]
theorem lssI_eq [Tab] (a b : Int) (k : IntKind) : lssI a b k = intA .lss k a b := by
  cases a <;> cases b <;> try rfl
  rename_i m n
  show some (AV.bool (Nat.ble (m + 1) n)) = some (.bool (decide (Int.ofNat m < Int.ofNat n)))
  rw [bleD]
  congr 2
  simp only [Int.ofNat_eq_natCast, decide_eq_decide]
  omega
theorem leqI_eq [Tab] (a b : Int) (k : IntKind) : leqI a b k = intA .leq k a b := by
  cases a <;> cases b <;> try rfl
  rename_i m n
  show some (AV.bool (Nat.ble m n)) = some (.bool (decide (Int.ofNat m ≤ Int.ofNat n)))
  rw [bleD]
  congr 2
  simp only [Int.ofNat_eq_natCast, decide_eq_decide]
  omega
theorem gtrI_eq [Tab] (a b : Int) (k : IntKind) : gtrI a b k = intA .gtr k a b := by
  cases a <;> cases b <;> try rfl
  rename_i m n
  show some (AV.bool (Nat.ble (n + 1) m)) = some (.bool (decide (Int.ofNat n < Int.ofNat m)))
  rw [bleD]
  congr 2
  simp only [Int.ofNat_eq_natCast, decide_eq_decide]
  omega
theorem geqI_eq [Tab] (a b : Int) (k : IntKind) : geqI a b k = intA .geq k a b := by
  cases a <;> cases b <;> try rfl
  rename_i m n
  show some (AV.bool (Nat.ble n m)) = some (.bool (decide (Int.ofNat n ≤ Int.ofNat m)))
  rw [bleD]
  congr 2
  simp only [Int.ofNat_eq_natCast, decide_eq_decide]
  omega
theorem eqlI_eq [Tab] (a b : Int) (k : IntKind) : eqlI a b k = intA .eql k a b := by
  cases a <;> cases b <;> try rfl
  rename_i m n
  show some (AV.bool (Nat.beq m n)) = some (.bool (Int.ofNat m == Int.ofNat n))
  rw [beqD, show (Int.ofNat m == Int.ofNat n) = decide (Int.ofNat m = Int.ofNat n) from rfl]
  congr 2
  simp only [Int.ofNat_eq_natCast, decide_eq_decide]
  omega
theorem neqI_eq [Tab] (a b : Int) (k : IntKind) : neqI a b k = intA .neq k a b := by
  cases a <;> cases b <;> try rfl
  rename_i m n
  show some (AV.bool (!Nat.beq m n)) = some (.bool (Int.ofNat m != Int.ofNat n))
  rw [beqD, show (Int.ofNat m != Int.ofNat n) = !decide (Int.ofNat m = Int.ofNat n) from rfl]
  congr 3
  simp only [Int.ofNat_eq_natCast, decide_eq_decide]
  omega
noncomputable def keQ (k : IntKind) : IntKind → Option AV → Option AV := IntKind.rec (motive := fun _ => IntKind → Option AV → Option AV) (fun j => IntKind.rec (motive := fun _ => Option AV → Option AV) (fun x => x) (fun _ => none) (fun _ => none) (fun _ => none) (fun _ => none) (fun _ => none) (fun _ => none) (fun _ => none) j) (fun j => IntKind.rec (motive := fun _ => Option AV → Option AV) (fun _ => none) (fun x => x) (fun _ => none) (fun _ => none) (fun _ => none) (fun _ => none) (fun _ => none) (fun _ => none) j) (fun j => IntKind.rec (motive := fun _ => Option AV → Option AV) (fun _ => none) (fun _ => none) (fun x => x) (fun _ => none) (fun _ => none) (fun _ => none) (fun _ => none) (fun _ => none) j) (fun j => IntKind.rec (motive := fun _ => Option AV → Option AV) (fun _ => none) (fun _ => none) (fun _ => none) (fun x => x) (fun _ => none) (fun _ => none) (fun _ => none) (fun _ => none) j) (fun j => IntKind.rec (motive := fun _ => Option AV → Option AV) (fun _ => none) (fun _ => none) (fun _ => none) (fun _ => none) (fun x => x) (fun _ => none) (fun _ => none) (fun _ => none) j) (fun j => IntKind.rec (motive := fun _ => Option AV → Option AV) (fun _ => none) (fun _ => none) (fun _ => none) (fun _ => none) (fun _ => none) (fun x => x) (fun _ => none) (fun _ => none) j) (fun j => IntKind.rec (motive := fun _ => Option AV → Option AV) (fun _ => none) (fun _ => none) (fun _ => none) (fun _ => none) (fun _ => none) (fun _ => none) (fun x => x) (fun _ => none) j) (fun j => IntKind.rec (motive := fun _ => Option AV → Option AV) (fun _ => none) (fun _ => none) (fun _ => none) (fun _ => none) (fun _ => none) (fun _ => none) (fun _ => none) (fun x => x) j) k
theorem keQ_eq (k j : IntKind) (x : Option AV) : keQ k j x = cond (kindEq k j) x none := by cases k <;> cases j <;> rfl
noncomputable def biQ2 (x : AV) : FIq → IntKind → Int → Option AV := AV.rec (motive_1 := fun _ => FIq → IntKind → Int → Option AV) (motive_2 := fun _ => Unit) (fun _ _ _ => none) (fun _ _ _ => none) (fun k n F j a => keQ j k (F a n j)) (fun _ _ _ _ => none) (fun _ _ _ _ => none) (fun _ _ _ => none) (fun _ _ _ _ _ => none) (fun _ _ _ => none) (fun _ _ _ _ _ _ _ => none) (fun _ _ _ _ _ _ _ => none) (fun _ _ _ => none) (fun _ _ _ _ => none) (fun _ _ _ => none) (fun _ _ _ _ _ _ => none) (fun _ _ _ _ _ _ => none) (fun _ _ _ => none) (fun _ _ _ _ _ _ => none) (fun _ _ _ _ _ => none) (fun _ _ _ _ _ => none) (fun _ _ _ _ => none) (fun _ _ _ _ _ _ _ => none) (fun _ _ _ _ => none) (fun _ _ _ _ _ _ => none) (fun _ _ _ _ => none) (fun _ _ _ => none) () (fun _ _ _ _ => ()) x
theorem biQ2_eq (x : AV) (F : FIq) (j : IntKind) (a : Int) : biQ2 x F j a = match x with | .int k n => keQ j k (F a n j) | _ => none := by cases x <;> rfl
noncomputable def biQ (x : AV) : FIq → (AV → AV → Option AV) → AV → Option AV := AV.rec (motive_1 := fun _ => FIq → (AV → AV → Option AV) → AV → Option AV) (motive_2 := fun _ => Unit) (fun _ _ _ => none) (fun _ _ _ => none) (fun k n F _ y => biQ2 y F k n) (fun _ _ _ _ => none) (fun _ _ _ _ => none) (fun _ _ _ => none) (fun _ _ _ _ _ => none) (fun _ _ _ => none) (fun _ _ _ _ _ _ _ => none) (fun _ _ _ _ _ _ _ => none) (fun _ _ _ => none) (fun _ _ _ _ => none) (fun _ _ _ => none) (fun _ _ _ _ _ _ => none) (fun _ _ _ _ _ _ => none) (fun _ _ _ => none) (fun _ _ _ _ _ _ => none) (fun _ _ _ _ _ => none) (fun _ _ _ _ _ => none) (fun _ _ _ _ => none) (fun b k lo hi _ S y => S (.symI b k lo hi) y) (fun _ _ _ _ => none) (fun _ _ _ _ _ _ => none) (fun _ _ _ _ => none) (fun _ _ _ => none) () (fun _ _ _ _ => ()) x
theorem biQ_eq (x : AV) (F : FIq) (S : AV → AV → Option AV) (y : AV) : biQ x F S y = match x with | .int k n => biQ2 y F k n | .symI b k lo hi => S (.symI b k lo hi) y | _ => none := by cases x <;> rfl
theorem biQ_ok [Tab] {P : Program} {op : BinOp} {t : Nat} {c : Bool} {F : FIq} (hF : ∀ a b k, F a b k = intA op k a b) (h1 : op ≠ .shl) (h2 : op ≠ .shr) {x y v : AV} (h : biQ x F (symB op) y = some v) : binA P op t c x y = some v := by
  rw [biQ_eq] at h
  split at h
  · rename_i k n
    rw [biQ2_eq] at h
    split at h
    · rename_i k' n'
      rw [keQ_eq, hF] at h
      unfold binA
      dsimp only
      split
      · exact absurd rfl h1
      · exact absurd rfl h2
      · exact absurd rfl h1
      · exact absurd rfl h2
      · exact h
    · cases h
  · exact h
  · cases h
noncomputable def strQ2 (x : AV) : (List UInt8 → List UInt8 → Option AV) → List UInt8 → Option AV := AV.rec (motive_1 := fun _ => (List UInt8 → List UInt8 → Option AV) → List UInt8 → Option AV) (motive_2 := fun _ => Unit) (fun _ _ => none) (fun _ _ => none) (fun _ _ _ _ => none) (fun _ _ _ => none) (fun l F a => F a l) (fun _ _ => none) (fun _ _ _ _ => none) (fun _ _ => none) (fun _ _ _ _ _ _ => none) (fun _ _ _ _ _ _ => none) (fun _ _ => none) (fun _ _ _ => none) (fun _ _ => none) (fun _ _ _ _ _ => none) (fun _ _ _ _ _ => none) (fun _ _ => none) (fun _ _ _ _ _ => none) (fun _ _ _ _ => none) (fun _ _ _ _ => none) (fun _ _ _ => none) (fun _ _ _ _ _ _ => none) (fun _ _ _ => none) (fun _ _ _ _ _ => none) (fun _ _ _ => none) (fun _ _ => none) () (fun _ _ _ _ => ()) x
theorem strQ2_eq (x : AV) (F : List UInt8 → List UInt8 → Option AV) (a : List UInt8) : strQ2 x F a = match x with | .str l => F a l | _ => none := by cases x <;> rfl
noncomputable def strQ (x : AV) : (List UInt8 → List UInt8 → Option AV) → (AV → AV → Option AV) → AV → Option AV := AV.rec (motive_1 := fun _ => (List UInt8 → List UInt8 → Option AV) → (AV → AV → Option AV) → AV → Option AV) (motive_2 := fun _ => Unit) (fun _ _ _ => none) (fun _ _ _ => none) (fun _ _ _ _ _ => none) (fun _ _ _ _ => none) (fun l F _ y => strQ2 y F l) (fun _ _ _ => none) (fun _ _ _ _ _ => none) (fun _ _ _ => none) (fun _ _ _ _ _ _ _ => none) (fun _ _ _ _ _ _ _ => none) (fun _ _ _ => none) (fun _ _ _ _ => none) (fun _ _ _ => none) (fun _ _ _ _ _ _ => none) (fun _ _ _ _ _ _ => none) (fun _ _ _ => none) (fun _ _ _ _ _ _ => none) (fun _ _ _ _ _ => none) (fun _ _ _ _ _ => none) (fun _ _ _ _ => none) (fun _ _ _ _ _ _ _ => none) (fun b _ S y => S (.symS b) y) (fun b lo hi _ S y => S (.symT b lo hi) y) (fun _ _ _ _ => none) (fun _ _ _ => none) () (fun _ _ _ _ => ()) x
theorem strQ_eq (x : AV) (F : List UInt8 → List UInt8 → Option AV) (S : AV → AV → Option AV) (y : AV) : strQ x F S y = match x with | .str l => strQ2 y F l | .symS b => S (.symS b) y | .symT b lo hi => S (.symT b lo hi) y | _ => none := by cases x <;> rfl
theorem strQ_ok [Tab] {P : Program} {op : BinOp} {t : Nat} {c : Bool} {F : List UInt8 → List UInt8 → Option AV} (hF : ∀ a b, F a b = strA op a b) {x y v : AV} (h : strQ x F (symB op) y = some v) : binA P op t c x y = some v := by
  rw [strQ_eq] at h
  split at h
  · rw [strQ2_eq] at h
    split at h
    · rw [hF] at h
      exact h
    · cases h
  · exact h
  · exact h
  · cases h
noncomputable def catS (a b : List UInt8) : Option AV := Bool.rec (motive := fun _ => Option AV) none (some (.str (List.append a b))) (Nat.ble (Nat.add (lenB a) (lenB b)) 9223372036854775807)
noncomputable def eqlS (a b : List UInt8) : Option AV := some (.bool (eqQ a b))
noncomputable def neqS (a b : List UInt8) : Option AV := some (.bool (!eqQ a b))
theorem catS_eq [Tab] (a b : List UInt8) : catS a b = strA .add a b := by
  unfold catS
  rw [lenB_eq, lenB_eq]
  show _ = cond (Nat.ble (Nat.add a.length b.length) 9223372036854775807) (some (AV.str (List.append a b))) none
  cases Nat.ble (Nat.add a.length b.length) 9223372036854775807 <;> rfl
theorem eqlS_eq [Tab] (a b : List UInt8) : eqlS a b = strA .eql a b := by unfold eqlS; rw [eqQ_eq]; rfl
theorem neqS_eq [Tab] (a b : List UInt8) : neqS a b = strA .neq a b := by unfold neqS; rw [eqQ_eq]; rfl
/-- A byte of a string. -/
noncomputable def byQ (c : Option UInt8) : Option AV := Option.rec (motive := fun _ => Option AV) none (fun c => some (.int .u8 (.ofNat c.toNat))) c
noncomputable def ixI (n : Int) : List UInt8 → Option AV := Int.rec (motive := fun _ => List UInt8 → Option AV) (fun m l => byQ (nthB l m)) (fun _ _ => none) n
noncomputable def ixQ2 (x : AV) : List UInt8 → Option AV := AV.rec (motive_1 := fun _ => List UInt8 → Option AV) (motive_2 := fun _ => Unit) (fun _ => none) (fun _ => none) (fun _ n s => ixI n s) (fun _ _ => none) (fun _ _ => none) (fun _ => none) (fun _ _ _ => none) (fun _ => none) (fun _ _ _ _ _ => none) (fun _ _ _ _ _ => none) (fun _ => none) (fun _ _ => none) (fun _ => none) (fun _ _ _ _ => none) (fun _ _ _ _ => none) (fun _ => none) (fun _ _ _ _ => none) (fun _ _ _ => none) (fun _ _ _ => none) (fun _ _ => none) (fun _ _ _ _ _ => none) (fun _ _ => none) (fun _ _ _ _ => none) (fun _ _ => none) (fun _ => none) () (fun _ _ _ _ => ()) x
theorem ixQ2_eq (x : AV) (s : List UInt8) : ixQ2 x s = match x with | .int k n => ixI n s | _ => none := by cases x <;> rfl
noncomputable def ixQ (x : AV) : AV → Option AV := AV.rec (motive_1 := fun _ => AV → Option AV) (motive_2 := fun _ => Unit) (fun _ => none) (fun _ => none) (fun _ _ _ => none) (fun _ _ => none) (fun l i => ixQ2 i l) (fun _ => none) (fun _ _ _ => none) (fun _ => none) (fun _ _ _ _ _ => none) (fun _ _ _ _ _ => none) (fun _ => none) (fun _ _ => none) (fun _ => none) (fun _ _ _ _ => none) (fun _ _ _ _ => none) (fun _ => none) (fun _ _ _ _ => none) (fun _ _ _ => none) (fun _ _ _ => none) (fun _ _ => none) (fun _ _ _ _ _ => none) (fun _ _ => none) (fun _ _ _ _ => none) (fun _ _ => none) (fun _ => none) () (fun _ _ _ _ => ()) x
theorem ixQ_eq (x : AV) (i : AV) : ixQ x i = match x with | .str l => ixQ2 i l | _ => none := by cases x <;> rfl
theorem ixQ_ok [Tab] {P : Program} {t : Nat} (ht : P.underlying t = some .string) {x i v : AV} (h : ixQ x i = some v) : indexA P t x i = some v := by
  rw [ixQ_eq] at h
  split at h
  · rename_i l
    rw [ixQ2_eq] at h
    split at h
    · rename_i k n
      cases n with
      | negSucc m => cases h
      | ofNat m =>
        replace h : byQ (nthB l m) = some v := h
        rw [nthB_eq] at h
        unfold indexA
        dsimp only
        rw [ht]
        dsimp only
        cases hc : l[m]? with
        | none => rw [hc] at h; cases h
        | some c =>
          rw [hc] at h
          have hm : m < l.length := (List.getElem?_eq_some_iff.1 hc).1
          have : natA l.length (.int k (.ofNat m)) = some m := by
            show cond (Nat.ble m l.length) (some m) none = some m
            rw [Nat.ble_eq_true_of_le (Nat.le_of_lt hm)]
            rfl
          rw [this]
          dsimp only
          rw [hc]
          exact h
    · cases h
  · cases h
/-- Loads. -/
noncomputable def ldC (x : AB) : Nat → Option AV := AB.rec (motive := fun _ => Nat → Option AV) (fun _ => none) (fun cs _ o => nthV cs o) (fun _ _ _ => none) (fun _ _ _ => none) (fun _ _ _ _ => none) (fun _ _ _ => none) x
noncomputable def aggO (x : Option (List AV)) : Option AV := Option.rec (motive := fun _ => Option AV) none (fun l => some (.agg l)) x
noncomputable def ldR (x : AB) : Nat → Nat → Option AV := AB.rec (motive := fun _ => Nat → Nat → Option AV) (fun _ _ => none) (fun cs _ o n => aggO (tkO (drpV o cs) n)) (fun _ _ _ _ => none) (fun _ _ _ _ => none) (fun _ _ _ _ _ => none) (fun _ _ _ _ => none) x
noncomputable def ldQ (x : AV) : AS → Option AV := AV.rec (motive_1 := fun _ => AS → Option AV) (motive_2 := fun _ => Unit) (fun _ => none) (fun _ => none) (fun _ _ _ => none) (fun _ _ => none) (fun _ _ => none) (fun _ => none) (fun b o s => ldC (s.get b) o) (fun _ => none) (fun _ _ _ _ _ => none) (fun _ _ _ _ _ => none) (fun _ => none) (fun _ _ => none) (fun _ => none) (fun _ _ _ _ => none) (fun _ _ _ _ => none) (fun _ => none) (fun _ _ _ _ => none) (fun _ _ _ => none) (fun _ _ _ => none) (fun _ _ => none) (fun _ _ _ _ _ => none) (fun _ _ => none) (fun _ _ _ _ => none) (fun _ _ => none) (fun _ => none) () (fun _ _ _ _ => ()) x
theorem ldQ_eq (x : AV) (s : AS) : ldQ x s = match x with | .ptr b o => ldC (s.get b) o | _ => none := by cases x <;> rfl
noncomputable def ldRQ (x : AV) : AS → Nat → Option AV := AV.rec (motive_1 := fun _ => AS → Nat → Option AV) (motive_2 := fun _ => Unit) (fun _ _ => none) (fun _ _ => none) (fun _ _ _ _ => none) (fun _ _ _ => none) (fun _ _ _ => none) (fun _ _ => none) (fun b o s n => ldR (s.get b) o n) (fun _ _ => none) (fun _ _ _ _ _ _ => none) (fun _ _ _ _ _ _ => none) (fun _ _ => none) (fun _ _ _ => none) (fun _ _ => none) (fun _ _ _ _ _ => none) (fun _ _ _ _ _ => none) (fun _ _ => none) (fun _ _ _ _ _ => none) (fun _ _ _ _ => none) (fun _ _ _ _ => none) (fun _ _ _ => none) (fun _ _ _ _ _ _ => none) (fun _ _ _ => none) (fun _ _ _ _ _ => none) (fun _ _ _ => none) (fun _ _ => none) () (fun _ _ _ _ => ()) x
theorem ldRQ_eq (x : AV) (s : AS) (n : Nat) : ldRQ x s n = match x with | .ptr b o => ldR (s.get b) o n | _ => none := by cases x <;> rfl
theorem ldQ_ok [Tab] {P : Program} {t : Nat} {d : TypeDesc} (hd : P.underlying t = some d) (hr : rowD d = false) {x v : AV} {s : AS} (h : ldQ x s = some v) : loadA P t x s = some v := by
  rw [ldQ_eq] at h
  split at h
  · rename_i b o
    unfold loadA
    dsimp only
    cases hg : s.get b <;> rw [hg] at h <;> try (cases h; done)
    rename_i cs ty
    dsimp only
    rw [hd]
    dsimp only
    rw [hr]
    show cs[o]? = some v
    rw [← nthV_eq]
    exact h
  · cases h
theorem ldRQ_ok [Tab] {P : Program} {t : Nat} {d : TypeDesc} {i : TypeInfo} (hd : P.underlying t = some d) (hr : rowD d = true) (hi : P.info? t = some i) (hz : 1 ≤ i.size) {x v : AV} {s : AS} (h : ldRQ x s i.size = some v) : loadA P t x s = some v := by
  rw [ldRQ_eq] at h
  split at h
  · rename_i b o
    unfold loadA
    dsimp only
    cases hg : s.get b <;> rw [hg] at h <;> try (cases h; done)
    rename_i cs ty
    dsimp only
    rw [hd, hi]
    dsimp only
    rw [hr]
    replace h : aggO (tkO (drpV o cs) i.size) = some v := h
    rw [drpV_eq, tkO_eq] at h
    by_cases hl : i.size ≤ (cs.drop o).length
    · rw [if_pos hl] at h
      rw [List.length_drop] at hl
      rw [show Nat.ble (Nat.add o i.size) cs.length = true from Nat.ble_eq_true_of_le (by show o + i.size ≤ cs.length; omega)]
      exact h
    · rw [if_neg hl] at h; cases h
  · cases h
/-- Stores: the block, what it holds then. -/
noncomputable def prQ (b : Nat) (x : Option AB) : Option (Nat × AB) := Option.rec (motive := fun _ => Option (Nat × AB)) none (fun z => some (b, z)) x
noncomputable def celO (ty : Nat) (x : Option (List AV)) : Option AB := Option.rec (motive := fun _ => Option AB) none (fun l => some (.cells l ty)) x
noncomputable def stC (x : AB) : Nat → AV → Option AB := AB.rec (motive := fun _ => Nat → AV → Option AB) (fun _ _ => none) (fun cs ty o v => celO ty (setV cs o v)) (fun _ _ _ _ => none) (fun _ _ _ _ => none) (fun _ _ _ _ _ => none) (fun _ _ _ _ => none) x
noncomputable def stR (x : AB) : Nat → List AV → Option AB := AB.rec (motive := fun _ => Nat → List AV → Option AB) (fun _ _ => none) (fun cs ty o vs => celO ty (putQ cs o vs)) (fun _ _ _ _ => none) (fun _ _ _ _ => none) (fun _ _ _ _ _ => none) (fun _ _ _ _ => none) x
noncomputable def stQ1 (x : AV) : AV → AS → Option (Nat × AB) := AV.rec (motive_1 := fun _ => AV → AS → Option (Nat × AB)) (motive_2 := fun _ => Unit) (fun _ _ => none) (fun _ _ => none) (fun _ _ _ _ => none) (fun _ _ _ => none) (fun _ _ _ => none) (fun _ _ => none) (fun b o v s => prQ b (stC (s.get b) o v)) (fun _ _ => none) (fun _ _ _ _ _ _ => none) (fun _ _ _ _ _ _ => none) (fun _ _ => none) (fun _ _ _ => none) (fun _ _ => none) (fun _ _ _ _ _ => none) (fun _ _ _ _ _ => none) (fun _ _ => none) (fun _ _ _ _ _ => none) (fun _ _ _ _ => none) (fun _ _ _ _ => none) (fun _ _ _ => none) (fun _ _ _ _ _ _ => none) (fun _ _ _ => none) (fun _ _ _ _ _ => none) (fun _ _ _ => none) (fun _ _ => none) () (fun _ _ _ _ => ()) x
theorem stQ1_eq (x : AV) (v : AV) (s : AS) : stQ1 x v s = match x with | .ptr b o => prQ b (stC (s.get b) o v) | _ => none := by cases x <;> rfl
noncomputable def stQ (x : AV) : AV → AS → Option (Nat × AB) := AV.rec (motive_1 := fun _ => AV → AS → Option (Nat × AB)) (motive_2 := fun _ => Unit) (fun _ _ => none) (fun _ _ => none) (fun k n a s => stQ1 a (.int k n) s) (fun b a s => stQ1 a (.bool b) s) (fun l a s => stQ1 a (.str l) s) (fun a s => stQ1 a .nilp s) (fun b o a s => stQ1 a (.ptr b o) s) (fun a s => stQ1 a .nils s) (fun b o n c a s => stQ1 a (.sl b o n c) s) (fun b o n e a s => stQ1 a (.slu b o n e) s) (fun a s => stQ1 a .nilm s) (fun b a s => stQ1 a (.mapp b) s) (fun a s => stQ1 a .nilfn s) (fun f cs _ a s => stQ1 a (.fn f cs) s) (fun f cs _ a s => stQ1 a (.fnm f cs) s) (fun a s => stQ1 a .nili s) (fun u v _ a s => stQ1 a (.ifc u v) s) (fun _ _ _ _ => none) (fun _ _ _ _ => none) (fun _ _ _ => none) (fun b k lo hi a s => stQ1 a (.symI b k lo hi) s) (fun b a s => stQ1 a (.symS b) s) (fun b lo hi a s => stQ1 a (.symT b lo hi) s) (fun n a s => stQ1 a (.symZ n) s) (fun a s => stQ1 a .sle s) () (fun _ _ _ _ => ()) x
theorem stQ_eq (x : AV) (a : AV) (s : AS) : stQ x a s = match x with | .int k n => stQ1 a (.int k n) s | .bool b => stQ1 a (.bool b) s | .str l => stQ1 a (.str l) s | .nilp => stQ1 a .nilp s | .ptr b o => stQ1 a (.ptr b o) s | .nils => stQ1 a .nils s | .sl b o n c => stQ1 a (.sl b o n c) s | .slu b o n e => stQ1 a (.slu b o n e) s | .nilm => stQ1 a .nilm s | .mapp b => stQ1 a (.mapp b) s | .nilfn => stQ1 a .nilfn s | .fn f cs => stQ1 a (.fn f cs) s | .fnm f cs => stQ1 a (.fnm f cs) s | .nili => stQ1 a .nili s | .ifc u v => stQ1 a (.ifc u v) s | .symI b k lo hi => stQ1 a (.symI b k lo hi) s | .symS b => stQ1 a (.symS b) s | .symT b lo hi => stQ1 a (.symT b lo hi) s | .symZ n => stQ1 a (.symZ n) s | .sle => stQ1 a .sle s | _ => none := by cases x <;> rfl
noncomputable def stRQ1 (x : AV) : List AV → AS → Option (Nat × AB) := AV.rec (motive_1 := fun _ => List AV → AS → Option (Nat × AB)) (motive_2 := fun _ => Unit) (fun _ _ => none) (fun _ _ => none) (fun _ _ _ _ => none) (fun _ _ _ => none) (fun _ _ _ => none) (fun _ _ => none) (fun b o vs s => prQ b (stR (s.get b) o vs)) (fun _ _ => none) (fun _ _ _ _ _ _ => none) (fun _ _ _ _ _ _ => none) (fun _ _ => none) (fun _ _ _ => none) (fun _ _ => none) (fun _ _ _ _ _ => none) (fun _ _ _ _ _ => none) (fun _ _ => none) (fun _ _ _ _ _ => none) (fun _ _ _ _ => none) (fun _ _ _ _ => none) (fun _ _ _ => none) (fun _ _ _ _ _ _ => none) (fun _ _ _ => none) (fun _ _ _ _ _ => none) (fun _ _ _ => none) (fun _ _ => none) () (fun _ _ _ _ => ()) x
theorem stRQ1_eq (x : AV) (vs : List AV) (s : AS) : stRQ1 x vs s = match x with | .ptr b o => prQ b (stR (s.get b) o vs) | _ => none := by cases x <;> rfl
noncomputable def oneQ (x : AV) : Bool := AV.rec (motive_1 := fun _ => Bool) (motive_2 := fun _ => Unit) (false) (false) (fun _ _ => true) (fun _ => true) (fun _ => true) (true) (fun _ _ => true) (true) (fun _ _ _ _ => true) (fun _ _ _ _ => true) (true) (fun _ => true) (true) (fun _ _ _ => true) (fun _ _ _ => true) (true) (fun _ _ _ => true) (fun _ _ => false) (fun _ _ => false) (fun _ => true) (fun _ _ _ _ => true) (fun _ => true) (fun _ _ _ => true) (fun _ => true) (true) () (fun _ _ _ _ => ()) x
theorem oneQ_eq (x : AV) : oneQ x = oneA x := by cases x <;> rfl
noncomputable def onesQ (l : List AV) : Bool := List.rec (motive := fun _ => Bool) true (fun a _ ih => Bool.rec (motive := fun _ => Bool) false ih (oneQ a)) l
theorem onesQ_eq [Tab] : ∀ l : List AV, onesQ l = l.all oneA
  | [] => rfl
  | a :: l => by
    show Bool.rec (motive := fun _ => Bool) false (onesQ l) (oneQ a) = (oneA a && l.all oneA)
    rw [onesQ_eq l, oneQ_eq]
    cases oneA a <;> rfl
noncomputable def bifO {α : Type} (b : Bool) (x : Option α) : Option α := Bool.rec (motive := fun _ => Option α) none x b
theorem bifO_some {α : Type} {b : Bool} {x : Option α} {y : α} (h : bifO b x = some y) : b = true ∧ x = some y := by
  cases b
  · cases h
  · exact ⟨rfl, h⟩
noncomputable def stRQ (x : AV) : AV → AS → Nat → Option (Nat × AB) := AV.rec (motive_1 := fun _ => AV → AS → Nat → Option (Nat × AB)) (motive_2 := fun _ => Unit) (fun _ _ _ => none) (fun _ _ _ => none) (fun _ _ _ _ _ => none) (fun _ _ _ _ => none) (fun _ _ _ _ => none) (fun _ _ _ => none) (fun _ _ _ _ _ => none) (fun _ _ _ => none) (fun _ _ _ _ _ _ _ => none) (fun _ _ _ _ _ _ _ => none) (fun _ _ _ => none) (fun _ _ _ _ => none) (fun _ _ _ => none) (fun _ _ _ _ _ _ => none) (fun _ _ _ _ _ _ => none) (fun _ _ _ => none) (fun _ _ _ _ _ _ => none) (fun cs _ a s n => bifO (Nat.beq n (lenV cs)) (bifO (onesQ cs) (stRQ1 a cs s))) (fun _ _ _ _ _ => none) (fun _ _ _ _ => none) (fun _ _ _ _ _ _ _ => none) (fun _ _ _ _ => none) (fun _ _ _ _ _ _ => none) (fun _ _ _ _ => none) (fun _ _ _ => none) () (fun _ _ _ _ => ()) x
theorem stRQ_eq (x : AV) (a : AV) (s : AS) (n : Nat) : stRQ x a s n = match x with | .agg cs => bifO (Nat.beq n (lenV cs)) (bifO (onesQ cs) (stRQ1 a cs s)) | _ => none := by cases x <;> rfl
theorem prQ_ok {b c : Nat} {x : Option AB} {y : AB} (h : prQ b x = some (c, y)) : c = b ∧ x = some y := by
  cases x with
  | none => cases h
  | some z =>
    injection h with h
    injection h with e1 e2
    exact ⟨e1.symm, by rw [e2]⟩
theorem stQ_ok [Tab] {P : Program} {t : Nat} {i : TypeInfo} (hi : P.info? t = some i) (hz : i.size = 1) {a v : AV} {s : AS} {b : Nat} {y : AB} (h0 : stQ v a s = some (b, y)) : storeA P t a v s = some (s.put b y) := by
  have key : cellsA v = some [v] ∧ stQ1 a v s = some (b, y) := by
    cases v <;> first | (cases h0; done) | exact ⟨rfl, h0⟩
  obtain ⟨hc, h⟩ := key
  rw [stQ1_eq] at h
  split at h
  · rename_i q o
    obtain ⟨rfl, h2⟩ := prQ_ok h
    clear h h0
    have h := h2
    clear h2
    unfold storeA
    dsimp only
    cases hg : s.get b <;> rw [hg] at h <;> try (cases h; done)
    rename_i cs ty
    dsimp only
    rw [hc, hi]
    dsimp only
    rw [hz]
    replace h : celO ty (setV cs o v) = some y := h
    rw [setV_eq] at h
    by_cases hl : o < cs.length
    · rw [if_pos hl] at h
      injection h with h
      rw [← h, show Nat.beq 1 [v].length = true from rfl, show Nat.ble (Nat.add o [v].length) cs.length = true from Nat.ble_eq_true_of_le (by show o + 1 ≤ _; omega)]
      rfl
    · rw [if_neg hl] at h; cases h
  · cases h
theorem stRQ_ok [Tab] {P : Program} {t : Nat} {i : TypeInfo} (hi : P.info? t = some i) {a v : AV} {s : AS} {b : Nat} {y : AB} (h : stRQ v a s i.size = some (b, y)) : storeA P t a v s = some (s.put b y) := by
  rw [stRQ_eq] at h
  split at h
  · rename_i vs
    obtain ⟨h1, g1⟩ := bifO_some h
    obtain ⟨h2, g2⟩ := bifO_some g1
    clear h g1
    rw [lenV_eq] at h1
    rw [onesQ_eq] at h2
    rw [stRQ1_eq] at g2
    split at g2
    · rename_i q o
      obtain ⟨rfl, h⟩ := prQ_ok g2
      clear g2
      unfold storeA
      dsimp only
      cases hg : s.get b <;> rw [hg] at h <;> try (cases h; done)
      rename_i cs ty
      have hc : cellsA (.agg vs) = some vs := by
        show cond (vs.all oneA) (some vs) none = some vs
        rw [h2]
        rfl
      dsimp only
      rw [hc, hi]
      dsimp only
      rw [h1]
      replace h : celO ty (putQ cs o vs) = some y := h
      rw [putQ_eq] at h
      by_cases hl : o + vs.length ≤ cs.length
      · rw [if_pos hl] at h
        injection h with h
        rw [← h, show Nat.ble (Nat.add o vs.length) cs.length = true from Nat.ble_eq_true_of_le hl]
        rfl
      · rw [if_neg hl] at h; cases h
    · cases g2
  · cases h
/-- A place of a row. -/
noncomputable def iaI (n : Int) : Nat → Nat → Nat → Nat → Option AV := Int.rec (motive := fun _ => Nat → Nat → Nat → Nat → Option AV) (fun m b o len sz => bifO (Nat.ble (Nat.succ m) len) (some (.ptr b (Nat.add o (Nat.mul m sz))))) (fun _ _ _ _ _ => none) n
noncomputable def iaQ2 (x : AV) : Nat → Nat → Nat → Nat → Option AV := AV.rec (motive_1 := fun _ => Nat → Nat → Nat → Nat → Option AV) (motive_2 := fun _ => Unit) (fun _ _ _ _ => none) (fun _ _ _ _ => none) (fun _ n b o len sz => iaI n b o len sz) (fun _ _ _ _ _ => none) (fun _ _ _ _ _ => none) (fun _ _ _ _ => none) (fun _ _ _ _ _ _ => none) (fun _ _ _ _ => none) (fun _ _ _ _ _ _ _ _ => none) (fun _ _ _ _ _ _ _ _ => none) (fun _ _ _ _ => none) (fun _ _ _ _ _ => none) (fun _ _ _ _ => none) (fun _ _ _ _ _ _ _ => none) (fun _ _ _ _ _ _ _ => none) (fun _ _ _ _ => none) (fun _ _ _ _ _ _ _ => none) (fun _ _ _ _ _ _ => none) (fun _ _ _ _ _ _ => none) (fun _ _ _ _ _ => none) (fun _ _ _ _ _ _ _ _ => none) (fun _ _ _ _ _ => none) (fun _ _ _ _ _ _ _ => none) (fun _ _ _ _ _ => none) (fun _ _ _ _ => none) () (fun _ _ _ _ => ()) x
theorem iaQ2_eq (x : AV) (b : Nat) (o : Nat) (len : Nat) (sz : Nat) : iaQ2 x b o len sz = match x with | .int k n => iaI n b o len sz | _ => none := by cases x <;> rfl
noncomputable def iaQ (x : AV) : AV → Nat → Option AV := AV.rec (motive_1 := fun _ => AV → Nat → Option AV) (motive_2 := fun _ => Unit) (fun _ _ => none) (fun _ _ => none) (fun _ _ _ _ => none) (fun _ _ _ => none) (fun _ _ _ => none) (fun _ _ => none) (fun _ _ _ _ => none) (fun _ _ => none) (fun b o n _ i sz => iaQ2 i b o n sz) (fun b o n _ i sz => iaQ2 i b o n sz) (fun _ _ => none) (fun _ _ _ => none) (fun _ _ => none) (fun _ _ _ _ _ => none) (fun _ _ _ _ _ => none) (fun _ _ => none) (fun _ _ _ _ _ => none) (fun _ _ _ _ => none) (fun _ _ _ _ => none) (fun _ _ _ => none) (fun _ _ _ _ _ _ => none) (fun _ _ _ => none) (fun _ _ _ _ _ => none) (fun _ _ _ => none) (fun _ _ => none) () (fun _ _ _ _ => ()) x
theorem iaQ_eq (x : AV) (i : AV) (sz : Nat) : iaQ x i sz = match x with | .sl b o n c => iaQ2 i b o n sz | .slu b o n e => iaQ2 i b o n sz | _ => none := by cases x <;> rfl
noncomputable def iaAQ (x : AV) : AV → Nat → Nat → Option AV := AV.rec (motive_1 := fun _ => AV → Nat → Nat → Option AV) (motive_2 := fun _ => Unit) (fun _ _ _ => none) (fun _ _ _ => none) (fun _ _ _ _ _ => none) (fun _ _ _ _ => none) (fun _ _ _ _ => none) (fun _ _ _ => none) (fun b o i len sz => iaQ2 i b o len sz) (fun _ _ _ => none) (fun _ _ _ _ _ _ _ => none) (fun _ _ _ _ _ _ _ => none) (fun _ _ _ => none) (fun _ _ _ _ => none) (fun _ _ _ => none) (fun _ _ _ _ _ _ => none) (fun _ _ _ _ _ _ => none) (fun _ _ _ => none) (fun _ _ _ _ _ _ => none) (fun _ _ _ _ _ => none) (fun _ _ _ _ _ => none) (fun _ _ _ _ => none) (fun _ _ _ _ _ _ _ => none) (fun _ _ _ _ => none) (fun _ _ _ _ _ _ => none) (fun _ _ _ _ => none) (fun _ _ _ => none) () (fun _ _ _ _ => ()) x
theorem iaAQ_eq (x : AV) (i : AV) (len : Nat) (sz : Nat) : iaAQ x i len sz = match x with | .ptr b o => iaQ2 i b o len sz | _ => none := by cases x <;> rfl
theorem iaQ2_ok [Tab] {i v : AV} {b o len sz : Nat} (h : iaQ2 i b o len sz = some v) : ∃ m, natA len i = some m ∧ Nat.beq m len = false ∧ v = .ptr b (Nat.add o (Nat.mul m sz)) := by
  rw [iaQ2_eq] at h
  split at h
  · rename_i k n
    cases n with
    | negSucc m => cases h
    | ofNat m =>
      obtain ⟨h1, h⟩ := bifO_some h
      injection h with h
      have hm : m < len := Nat.le_of_ble_eq_true h1
      refine ⟨m, ?_, ?_, h.symm⟩
      · show cond (Nat.ble m len) (some m) none = some m
        rw [Nat.ble_eq_true_of_le (Nat.le_of_lt hm)]
        rfl
      · rw [beqD]
        exact decide_eq_false (by omega)
  · cases h
theorem iaQ_ok [Tab] {P : Program} {t e : Nat} {ie : TypeInfo} (ht : P.underlying t = some (.slice e)) (he : P.info? e = some ie) {x i v : AV} (h : iaQ x i ie.size = some v) : indexAddrA P t x i = some v := by
  rw [iaQ_eq] at h
  unfold indexAddrA
  rw [ht]
  dsimp only
  rw [he]
  dsimp only
  split at h
  · obtain ⟨m, h1, h2, rfl⟩ := iaQ2_ok h
    dsimp only
    rw [h1]
    dsimp only
    rw [h2]
    rfl
  · obtain ⟨m, h1, h2, rfl⟩ := iaQ2_ok h
    dsimp only
    rw [h1]
    dsimp only
    rw [h2]
    rfl
  · cases h
theorem iaAQ_ok [Tab] {P : Program} {t e n : Nat} {ie : TypeInfo} (ht : P.underlying t = some (.array n e)) (he : P.info? e = some ie) {x i v : AV} (h : iaAQ x i n ie.size = some v) : indexAddrA P t x i = some v := by
  rw [iaAQ_eq] at h
  unfold indexAddrA
  rw [ht]
  dsimp only
  rw [he]
  dsimp only
  split at h
  · obtain ⟨m, h1, h2, rfl⟩ := iaQ2_ok h
    dsimp only
    rw [h1]
    dsimp only
    rw [h2]
    rfl
  · cases h
noncomputable def exQ (x : AV) : Nat → Option AV := AV.rec (motive_1 := fun _ => Nat → Option AV) (motive_2 := fun _ => Unit) (fun _ => none) (fun _ => none) (fun _ _ _ => none) (fun _ _ => none) (fun _ _ => none) (fun _ => none) (fun _ _ _ => none) (fun _ => none) (fun _ _ _ _ _ => none) (fun _ _ _ _ _ => none) (fun _ => none) (fun _ _ => none) (fun _ => none) (fun _ _ _ _ => none) (fun _ _ _ _ => none) (fun _ => none) (fun _ _ _ _ => none) (fun _ _ _ => none) (fun cs _ i => nthV cs i) (fun _ _ => none) (fun _ _ _ _ _ => none) (fun _ _ => none) (fun _ _ _ _ => none) (fun _ _ => none) (fun _ => none) () (fun _ _ _ _ => ()) x
theorem exQ_eq (x : AV) (i : Nat) : exQ x i = match x with | .tup cs => nthV cs i | _ => none := by cases x <;> rfl
theorem exQ_ok [Tab] {x v : AV} {i : Nat} (h : exQ x i = some v) : extractA x i = some v := by
  rw [exQ_eq] at h
  split at h
  · rw [nthV_eq] at h; exact h
  · cases h
noncomputable def fdQ (x : AV) : Nat → Option AV := AV.rec (motive_1 := fun _ => Nat → Option AV) (motive_2 := fun _ => Unit) (fun _ => none) (fun _ => none) (fun _ _ _ => none) (fun _ _ => none) (fun _ _ => none) (fun _ => none) (fun _ _ _ => none) (fun _ => none) (fun _ _ _ _ _ => none) (fun _ _ _ _ _ => none) (fun _ => none) (fun _ _ => none) (fun _ => none) (fun _ _ _ _ => none) (fun _ _ _ _ => none) (fun _ => none) (fun _ _ _ _ => none) (fun cs _ o => nthV cs o) (fun _ _ _ => none) (fun _ _ => none) (fun _ _ _ _ _ => none) (fun _ _ => none) (fun _ _ _ _ => none) (fun _ _ => none) (fun _ => none) () (fun _ _ _ _ => ()) x
theorem fdQ_eq (x : AV) (o : Nat) : fdQ x o = match x with | .agg cs => nthV cs o | _ => none := by cases x <;> rfl
noncomputable def fdRQ (x : AV) : Nat → Nat → Option AV := AV.rec (motive_1 := fun _ => Nat → Nat → Option AV) (motive_2 := fun _ => Unit) (fun _ _ => none) (fun _ _ => none) (fun _ _ _ _ => none) (fun _ _ _ => none) (fun _ _ _ => none) (fun _ _ => none) (fun _ _ _ _ => none) (fun _ _ => none) (fun _ _ _ _ _ _ => none) (fun _ _ _ _ _ _ => none) (fun _ _ => none) (fun _ _ _ => none) (fun _ _ => none) (fun _ _ _ _ _ => none) (fun _ _ _ _ _ => none) (fun _ _ => none) (fun _ _ _ _ _ => none) (fun cs _ o m => aggO (tkO (drpV o cs) m)) (fun _ _ _ _ => none) (fun _ _ _ => none) (fun _ _ _ _ _ _ => none) (fun _ _ _ => none) (fun _ _ _ _ _ => none) (fun _ _ _ => none) (fun _ _ => none) () (fun _ _ _ _ => ()) x
theorem fdRQ_eq (x : AV) (o : Nat) (m : Nat) : fdRQ x o m = match x with | .agg cs => aggO (tkO (drpV o cs) m) | _ => none := by cases x <;> rfl
theorem faQ_ok [Tab] {P : Program} {t f off size : Nat} {r : Bool} (hf : fieldAt P t f = some (off, size, r)) (hz : Nat.beq size 0 = false) {x v : AV} (h : faQ x off = some v) : fieldAddrA P t f x = some v := by
  rw [faQ_eq] at h
  split at h
  · unfold fieldAddrA
    dsimp only
    rw [hf]
    dsimp only
    rw [hz]
    exact h
  · cases h
theorem fdQ_ok [Tab] {P : Program} {t f off size : Nat} (hf : fieldAt P t f = some (off, size, false)) {x v : AV} (h : fdQ x off = some v) : fieldA P t f x = some v := by
  rw [fdQ_eq] at h
  split at h
  · unfold fieldA
    dsimp only
    rw [hf]
    rw [nthV_eq] at h
    exact h
  · cases h
theorem fdRQ_ok [Tab] {P : Program} {t f off size : Nat} (hf : fieldAt P t f = some (off, size, true)) (hz : 1 ≤ size) {x v : AV} (h : fdRQ x off size = some v) : fieldA P t f x = some v := by
  rw [fdRQ_eq] at h
  split at h
  · rename_i cs
    unfold fieldA
    dsimp only
    rw [hf]
    rw [drpV_eq, tkO_eq] at h
    by_cases hl : size ≤ (cs.drop off).length
    · rw [if_pos hl] at h
      rw [List.length_drop] at hl
      show cond (Nat.ble (Nat.add off size) cs.length) _ none = some v
      rw [Nat.ble_eq_true_of_le (by show off + size ≤ cs.length; omega)]
      exact h
    · rw [if_neg hl] at h; cases h
  · cases h
/-- Slices of strings. -/
noncomputable def bndQ (y d : Nat) (x : Option AV) : Option Nat := Option.rec (motive := fun _ => Option Nat) (some d) (fun a => natQ a y) x
theorem bndQ_eq [Tab] (y d : Nat) (x : Option AV) : bndQ y d x = bndA y d x := by
  cases x with
  | none => rfl
  | some a => exact natQ_eq a y
noncomputable def sl3 (l : List UInt8) (h : Nat) (q : Option Nat) : Option AV := Option.rec (motive := fun _ => Option AV) none (fun q => some (.str (takB (drpB q l) (Nat.sub h q)))) q
noncomputable def sl2 (l : List UInt8) (lo : Option AV) (h : Option Nat) : Option AV := Option.rec (motive := fun _ => Option AV) none (fun h => sl3 l h (bndQ h 0 lo)) h
noncomputable def slSQ (x : AV) : Option AV → Option AV → Option AV := AV.rec (motive_1 := fun _ => Option AV → Option AV → Option AV) (motive_2 := fun _ => Unit) (fun _ _ => none) (fun _ _ => none) (fun _ _ _ _ => none) (fun _ _ _ => none) (fun l lo hi => sl2 l lo (bndQ (lenB l) (lenB l) hi)) (fun _ _ => none) (fun _ _ _ _ => none) (fun _ _ => none) (fun _ _ _ _ _ _ => none) (fun _ _ _ _ _ _ => none) (fun _ _ => none) (fun _ _ _ => none) (fun _ _ => none) (fun _ _ _ _ _ => none) (fun _ _ _ _ _ => none) (fun _ _ => none) (fun _ _ _ _ _ => none) (fun _ _ _ _ => none) (fun _ _ _ _ => none) (fun _ _ _ => none) (fun _ _ _ _ _ _ => none) (fun _ _ _ => none) (fun _ _ _ _ _ => none) (fun _ _ _ => none) (fun _ _ => none) () (fun _ _ _ _ => ()) x
theorem slSQ_eq (x : AV) (lo : Option AV) (hi : Option AV) : slSQ x lo hi = match x with | .str l => sl2 l lo (bndQ (lenB l) (lenB l) hi) | _ => none := by cases x <;> rfl
theorem slSQ_ok [Tab] {P : Program} {t : Nat} (ht : P.underlying t = some .string) {x v : AV} {lo hi : Option AV} (h : slSQ x lo hi = some v) : sliceA P t x lo hi none = some v := by
  rw [slSQ_eq] at h
  split at h
  · rename_i l
    unfold sliceA
    rw [ht]
    dsimp only
    rw [lenB_eq, bndQ_eq] at h
    cases h1 : bndA l.length l.length hi with
    | none => rw [h1] at h; cases h
    | some e =>
      rw [h1] at h
      dsimp only
      replace h : sl3 l e (bndQ e 0 lo) = some v := h
      rw [bndQ_eq] at h
      cases h2 : bndA e 0 lo with
      | none => rw [h2] at h; cases h
      | some q =>
        rw [h2] at h
        replace h : some (AV.str (takB (drpB q l) (Nat.sub e q))) = some v := h
        rw [takB_eq, drpB_eq] at h
        exact h
  · cases h
/-- Blocks written at once. -/
noncomputable def H1.p0 (v : AB) (t : H1) (K : H1 → RR) : RR := H1.rec (motive := fun _ => RR) (K (.mk v AB.none AB.none AB.none AB.none AB.none AB.none AB.none AB.none AB.none AB.none AB.none AB.none AB.none AB.none AB.none)) (fun _ a1 a2 a3 a4 a5 a6 a7 a8 a9 a10 a11 a12 a13 a14 a15 => K (.mk v a1 a2 a3 a4 a5 a6 a7 a8 a9 a10 a11 a12 a13 a14 a15)) t
noncomputable def H1.p1 (v : AB) (t : H1) (K : H1 → RR) : RR := H1.rec (motive := fun _ => RR) (K (.mk AB.none v AB.none AB.none AB.none AB.none AB.none AB.none AB.none AB.none AB.none AB.none AB.none AB.none AB.none AB.none)) (fun a0 _ a2 a3 a4 a5 a6 a7 a8 a9 a10 a11 a12 a13 a14 a15 => K (.mk a0 v a2 a3 a4 a5 a6 a7 a8 a9 a10 a11 a12 a13 a14 a15)) t
noncomputable def H1.p2 (v : AB) (t : H1) (K : H1 → RR) : RR := H1.rec (motive := fun _ => RR) (K (.mk AB.none AB.none v AB.none AB.none AB.none AB.none AB.none AB.none AB.none AB.none AB.none AB.none AB.none AB.none AB.none)) (fun a0 a1 _ a3 a4 a5 a6 a7 a8 a9 a10 a11 a12 a13 a14 a15 => K (.mk a0 a1 v a3 a4 a5 a6 a7 a8 a9 a10 a11 a12 a13 a14 a15)) t
noncomputable def H1.p3 (v : AB) (t : H1) (K : H1 → RR) : RR := H1.rec (motive := fun _ => RR) (K (.mk AB.none AB.none AB.none v AB.none AB.none AB.none AB.none AB.none AB.none AB.none AB.none AB.none AB.none AB.none AB.none)) (fun a0 a1 a2 _ a4 a5 a6 a7 a8 a9 a10 a11 a12 a13 a14 a15 => K (.mk a0 a1 a2 v a4 a5 a6 a7 a8 a9 a10 a11 a12 a13 a14 a15)) t
noncomputable def H1.p4 (v : AB) (t : H1) (K : H1 → RR) : RR := H1.rec (motive := fun _ => RR) (K (.mk AB.none AB.none AB.none AB.none v AB.none AB.none AB.none AB.none AB.none AB.none AB.none AB.none AB.none AB.none AB.none)) (fun a0 a1 a2 a3 _ a5 a6 a7 a8 a9 a10 a11 a12 a13 a14 a15 => K (.mk a0 a1 a2 a3 v a5 a6 a7 a8 a9 a10 a11 a12 a13 a14 a15)) t
noncomputable def H1.p5 (v : AB) (t : H1) (K : H1 → RR) : RR := H1.rec (motive := fun _ => RR) (K (.mk AB.none AB.none AB.none AB.none AB.none v AB.none AB.none AB.none AB.none AB.none AB.none AB.none AB.none AB.none AB.none)) (fun a0 a1 a2 a3 a4 _ a6 a7 a8 a9 a10 a11 a12 a13 a14 a15 => K (.mk a0 a1 a2 a3 a4 v a6 a7 a8 a9 a10 a11 a12 a13 a14 a15)) t
noncomputable def H1.p6 (v : AB) (t : H1) (K : H1 → RR) : RR := H1.rec (motive := fun _ => RR) (K (.mk AB.none AB.none AB.none AB.none AB.none AB.none v AB.none AB.none AB.none AB.none AB.none AB.none AB.none AB.none AB.none)) (fun a0 a1 a2 a3 a4 a5 _ a7 a8 a9 a10 a11 a12 a13 a14 a15 => K (.mk a0 a1 a2 a3 a4 a5 v a7 a8 a9 a10 a11 a12 a13 a14 a15)) t
noncomputable def H1.p7 (v : AB) (t : H1) (K : H1 → RR) : RR := H1.rec (motive := fun _ => RR) (K (.mk AB.none AB.none AB.none AB.none AB.none AB.none AB.none v AB.none AB.none AB.none AB.none AB.none AB.none AB.none AB.none)) (fun a0 a1 a2 a3 a4 a5 a6 _ a8 a9 a10 a11 a12 a13 a14 a15 => K (.mk a0 a1 a2 a3 a4 a5 a6 v a8 a9 a10 a11 a12 a13 a14 a15)) t
noncomputable def H1.p8 (v : AB) (t : H1) (K : H1 → RR) : RR := H1.rec (motive := fun _ => RR) (K (.mk AB.none AB.none AB.none AB.none AB.none AB.none AB.none AB.none v AB.none AB.none AB.none AB.none AB.none AB.none AB.none)) (fun a0 a1 a2 a3 a4 a5 a6 a7 _ a9 a10 a11 a12 a13 a14 a15 => K (.mk a0 a1 a2 a3 a4 a5 a6 a7 v a9 a10 a11 a12 a13 a14 a15)) t
noncomputable def H1.p9 (v : AB) (t : H1) (K : H1 → RR) : RR := H1.rec (motive := fun _ => RR) (K (.mk AB.none AB.none AB.none AB.none AB.none AB.none AB.none AB.none AB.none v AB.none AB.none AB.none AB.none AB.none AB.none)) (fun a0 a1 a2 a3 a4 a5 a6 a7 a8 _ a10 a11 a12 a13 a14 a15 => K (.mk a0 a1 a2 a3 a4 a5 a6 a7 a8 v a10 a11 a12 a13 a14 a15)) t
noncomputable def H1.p10 (v : AB) (t : H1) (K : H1 → RR) : RR := H1.rec (motive := fun _ => RR) (K (.mk AB.none AB.none AB.none AB.none AB.none AB.none AB.none AB.none AB.none AB.none v AB.none AB.none AB.none AB.none AB.none)) (fun a0 a1 a2 a3 a4 a5 a6 a7 a8 a9 _ a11 a12 a13 a14 a15 => K (.mk a0 a1 a2 a3 a4 a5 a6 a7 a8 a9 v a11 a12 a13 a14 a15)) t
noncomputable def H1.p11 (v : AB) (t : H1) (K : H1 → RR) : RR := H1.rec (motive := fun _ => RR) (K (.mk AB.none AB.none AB.none AB.none AB.none AB.none AB.none AB.none AB.none AB.none AB.none v AB.none AB.none AB.none AB.none)) (fun a0 a1 a2 a3 a4 a5 a6 a7 a8 a9 a10 _ a12 a13 a14 a15 => K (.mk a0 a1 a2 a3 a4 a5 a6 a7 a8 a9 a10 v a12 a13 a14 a15)) t
noncomputable def H1.p12 (v : AB) (t : H1) (K : H1 → RR) : RR := H1.rec (motive := fun _ => RR) (K (.mk AB.none AB.none AB.none AB.none AB.none AB.none AB.none AB.none AB.none AB.none AB.none AB.none v AB.none AB.none AB.none)) (fun a0 a1 a2 a3 a4 a5 a6 a7 a8 a9 a10 a11 _ a13 a14 a15 => K (.mk a0 a1 a2 a3 a4 a5 a6 a7 a8 a9 a10 a11 v a13 a14 a15)) t
noncomputable def H1.p13 (v : AB) (t : H1) (K : H1 → RR) : RR := H1.rec (motive := fun _ => RR) (K (.mk AB.none AB.none AB.none AB.none AB.none AB.none AB.none AB.none AB.none AB.none AB.none AB.none AB.none v AB.none AB.none)) (fun a0 a1 a2 a3 a4 a5 a6 a7 a8 a9 a10 a11 a12 _ a14 a15 => K (.mk a0 a1 a2 a3 a4 a5 a6 a7 a8 a9 a10 a11 a12 v a14 a15)) t
noncomputable def H1.p14 (v : AB) (t : H1) (K : H1 → RR) : RR := H1.rec (motive := fun _ => RR) (K (.mk AB.none AB.none AB.none AB.none AB.none AB.none AB.none AB.none AB.none AB.none AB.none AB.none AB.none AB.none v AB.none)) (fun a0 a1 a2 a3 a4 a5 a6 a7 a8 a9 a10 a11 a12 a13 _ a15 => K (.mk a0 a1 a2 a3 a4 a5 a6 a7 a8 a9 a10 a11 a12 a13 v a15)) t
noncomputable def H1.p15 (v : AB) (t : H1) (K : H1 → RR) : RR := H1.rec (motive := fun _ => RR) (K (.mk AB.none AB.none AB.none AB.none AB.none AB.none AB.none AB.none AB.none AB.none AB.none AB.none AB.none AB.none AB.none v)) (fun a0 a1 a2 a3 a4 a5 a6 a7 a8 a9 a10 a11 a12 a13 a14 _ => K (.mk a0 a1 a2 a3 a4 a5 a6 a7 a8 a9 a10 a11 a12 a13 a14 v)) t
noncomputable def H1Q.put (i : Hx) : AB → H1 → (H1 → RR) → RR := Hx.rec (motive := fun _ => AB → H1 → (H1 → RR) → RR) H1.p0 H1.p1 H1.p2 H1.p3 H1.p4 H1.p5 H1.p6 H1.p7 H1.p8 H1.p9 H1.p10 H1.p11 H1.p12 H1.p13 H1.p14 H1.p15 i
theorem H1Q.put_eq (i : Hx) (v : AB) (t : H1) (K : H1 → RR) : H1Q.put i v t K = K (H1.set i v t) := by cases i <;> cases t <;> rfl
noncomputable def H2.p0 (f : H1 → (H1 → RR) → RR) (t : H2) (K : H2 → RR) : RR := H2.rec (motive := fun _ => RR) (f H1.e (fun x => K (.mk x H1.e H1.e H1.e H1.e H1.e H1.e H1.e H1.e H1.e H1.e H1.e H1.e H1.e H1.e H1.e))) (fun a0 a1 a2 a3 a4 a5 a6 a7 a8 a9 a10 a11 a12 a13 a14 a15 => f a0 (fun x => K (.mk x a1 a2 a3 a4 a5 a6 a7 a8 a9 a10 a11 a12 a13 a14 a15))) t
noncomputable def H2.p1 (f : H1 → (H1 → RR) → RR) (t : H2) (K : H2 → RR) : RR := H2.rec (motive := fun _ => RR) (f H1.e (fun x => K (.mk H1.e x H1.e H1.e H1.e H1.e H1.e H1.e H1.e H1.e H1.e H1.e H1.e H1.e H1.e H1.e))) (fun a0 a1 a2 a3 a4 a5 a6 a7 a8 a9 a10 a11 a12 a13 a14 a15 => f a1 (fun x => K (.mk a0 x a2 a3 a4 a5 a6 a7 a8 a9 a10 a11 a12 a13 a14 a15))) t
noncomputable def H2.p2 (f : H1 → (H1 → RR) → RR) (t : H2) (K : H2 → RR) : RR := H2.rec (motive := fun _ => RR) (f H1.e (fun x => K (.mk H1.e H1.e x H1.e H1.e H1.e H1.e H1.e H1.e H1.e H1.e H1.e H1.e H1.e H1.e H1.e))) (fun a0 a1 a2 a3 a4 a5 a6 a7 a8 a9 a10 a11 a12 a13 a14 a15 => f a2 (fun x => K (.mk a0 a1 x a3 a4 a5 a6 a7 a8 a9 a10 a11 a12 a13 a14 a15))) t
noncomputable def H2.p3 (f : H1 → (H1 → RR) → RR) (t : H2) (K : H2 → RR) : RR := H2.rec (motive := fun _ => RR) (f H1.e (fun x => K (.mk H1.e H1.e H1.e x H1.e H1.e H1.e H1.e H1.e H1.e H1.e H1.e H1.e H1.e H1.e H1.e))) (fun a0 a1 a2 a3 a4 a5 a6 a7 a8 a9 a10 a11 a12 a13 a14 a15 => f a3 (fun x => K (.mk a0 a1 a2 x a4 a5 a6 a7 a8 a9 a10 a11 a12 a13 a14 a15))) t
noncomputable def H2.p4 (f : H1 → (H1 → RR) → RR) (t : H2) (K : H2 → RR) : RR := H2.rec (motive := fun _ => RR) (f H1.e (fun x => K (.mk H1.e H1.e H1.e H1.e x H1.e H1.e H1.e H1.e H1.e H1.e H1.e H1.e H1.e H1.e H1.e))) (fun a0 a1 a2 a3 a4 a5 a6 a7 a8 a9 a10 a11 a12 a13 a14 a15 => f a4 (fun x => K (.mk a0 a1 a2 a3 x a5 a6 a7 a8 a9 a10 a11 a12 a13 a14 a15))) t
noncomputable def H2.p5 (f : H1 → (H1 → RR) → RR) (t : H2) (K : H2 → RR) : RR := H2.rec (motive := fun _ => RR) (f H1.e (fun x => K (.mk H1.e H1.e H1.e H1.e H1.e x H1.e H1.e H1.e H1.e H1.e H1.e H1.e H1.e H1.e H1.e))) (fun a0 a1 a2 a3 a4 a5 a6 a7 a8 a9 a10 a11 a12 a13 a14 a15 => f a5 (fun x => K (.mk a0 a1 a2 a3 a4 x a6 a7 a8 a9 a10 a11 a12 a13 a14 a15))) t
noncomputable def H2.p6 (f : H1 → (H1 → RR) → RR) (t : H2) (K : H2 → RR) : RR := H2.rec (motive := fun _ => RR) (f H1.e (fun x => K (.mk H1.e H1.e H1.e H1.e H1.e H1.e x H1.e H1.e H1.e H1.e H1.e H1.e H1.e H1.e H1.e))) (fun a0 a1 a2 a3 a4 a5 a6 a7 a8 a9 a10 a11 a12 a13 a14 a15 => f a6 (fun x => K (.mk a0 a1 a2 a3 a4 a5 x a7 a8 a9 a10 a11 a12 a13 a14 a15))) t
noncomputable def H2.p7 (f : H1 → (H1 → RR) → RR) (t : H2) (K : H2 → RR) : RR := H2.rec (motive := fun _ => RR) (f H1.e (fun x => K (.mk H1.e H1.e H1.e H1.e H1.e H1.e H1.e x H1.e H1.e H1.e H1.e H1.e H1.e H1.e H1.e))) (fun a0 a1 a2 a3 a4 a5 a6 a7 a8 a9 a10 a11 a12 a13 a14 a15 => f a7 (fun x => K (.mk a0 a1 a2 a3 a4 a5 a6 x a8 a9 a10 a11 a12 a13 a14 a15))) t
noncomputable def H2.p8 (f : H1 → (H1 → RR) → RR) (t : H2) (K : H2 → RR) : RR := H2.rec (motive := fun _ => RR) (f H1.e (fun x => K (.mk H1.e H1.e H1.e H1.e H1.e H1.e H1.e H1.e x H1.e H1.e H1.e H1.e H1.e H1.e H1.e))) (fun a0 a1 a2 a3 a4 a5 a6 a7 a8 a9 a10 a11 a12 a13 a14 a15 => f a8 (fun x => K (.mk a0 a1 a2 a3 a4 a5 a6 a7 x a9 a10 a11 a12 a13 a14 a15))) t
noncomputable def H2.p9 (f : H1 → (H1 → RR) → RR) (t : H2) (K : H2 → RR) : RR := H2.rec (motive := fun _ => RR) (f H1.e (fun x => K (.mk H1.e H1.e H1.e H1.e H1.e H1.e H1.e H1.e H1.e x H1.e H1.e H1.e H1.e H1.e H1.e))) (fun a0 a1 a2 a3 a4 a5 a6 a7 a8 a9 a10 a11 a12 a13 a14 a15 => f a9 (fun x => K (.mk a0 a1 a2 a3 a4 a5 a6 a7 a8 x a10 a11 a12 a13 a14 a15))) t
noncomputable def H2.p10 (f : H1 → (H1 → RR) → RR) (t : H2) (K : H2 → RR) : RR := H2.rec (motive := fun _ => RR) (f H1.e (fun x => K (.mk H1.e H1.e H1.e H1.e H1.e H1.e H1.e H1.e H1.e H1.e x H1.e H1.e H1.e H1.e H1.e))) (fun a0 a1 a2 a3 a4 a5 a6 a7 a8 a9 a10 a11 a12 a13 a14 a15 => f a10 (fun x => K (.mk a0 a1 a2 a3 a4 a5 a6 a7 a8 a9 x a11 a12 a13 a14 a15))) t
noncomputable def H2.p11 (f : H1 → (H1 → RR) → RR) (t : H2) (K : H2 → RR) : RR := H2.rec (motive := fun _ => RR) (f H1.e (fun x => K (.mk H1.e H1.e H1.e H1.e H1.e H1.e H1.e H1.e H1.e H1.e H1.e x H1.e H1.e H1.e H1.e))) (fun a0 a1 a2 a3 a4 a5 a6 a7 a8 a9 a10 a11 a12 a13 a14 a15 => f a11 (fun x => K (.mk a0 a1 a2 a3 a4 a5 a6 a7 a8 a9 a10 x a12 a13 a14 a15))) t
noncomputable def H2.p12 (f : H1 → (H1 → RR) → RR) (t : H2) (K : H2 → RR) : RR := H2.rec (motive := fun _ => RR) (f H1.e (fun x => K (.mk H1.e H1.e H1.e H1.e H1.e H1.e H1.e H1.e H1.e H1.e H1.e H1.e x H1.e H1.e H1.e))) (fun a0 a1 a2 a3 a4 a5 a6 a7 a8 a9 a10 a11 a12 a13 a14 a15 => f a12 (fun x => K (.mk a0 a1 a2 a3 a4 a5 a6 a7 a8 a9 a10 a11 x a13 a14 a15))) t
noncomputable def H2.p13 (f : H1 → (H1 → RR) → RR) (t : H2) (K : H2 → RR) : RR := H2.rec (motive := fun _ => RR) (f H1.e (fun x => K (.mk H1.e H1.e H1.e H1.e H1.e H1.e H1.e H1.e H1.e H1.e H1.e H1.e H1.e x H1.e H1.e))) (fun a0 a1 a2 a3 a4 a5 a6 a7 a8 a9 a10 a11 a12 a13 a14 a15 => f a13 (fun x => K (.mk a0 a1 a2 a3 a4 a5 a6 a7 a8 a9 a10 a11 a12 x a14 a15))) t
noncomputable def H2.p14 (f : H1 → (H1 → RR) → RR) (t : H2) (K : H2 → RR) : RR := H2.rec (motive := fun _ => RR) (f H1.e (fun x => K (.mk H1.e H1.e H1.e H1.e H1.e H1.e H1.e H1.e H1.e H1.e H1.e H1.e H1.e H1.e x H1.e))) (fun a0 a1 a2 a3 a4 a5 a6 a7 a8 a9 a10 a11 a12 a13 a14 a15 => f a14 (fun x => K (.mk a0 a1 a2 a3 a4 a5 a6 a7 a8 a9 a10 a11 a12 a13 x a15))) t
noncomputable def H2.p15 (f : H1 → (H1 → RR) → RR) (t : H2) (K : H2 → RR) : RR := H2.rec (motive := fun _ => RR) (f H1.e (fun x => K (.mk H1.e H1.e H1.e H1.e H1.e H1.e H1.e H1.e H1.e H1.e H1.e H1.e H1.e H1.e H1.e x))) (fun a0 a1 a2 a3 a4 a5 a6 a7 a8 a9 a10 a11 a12 a13 a14 a15 => f a15 (fun x => K (.mk a0 a1 a2 a3 a4 a5 a6 a7 a8 a9 a10 a11 a12 a13 a14 x))) t
noncomputable def H2Q.put (i : Hx) : (H1 → (H1 → RR) → RR) → H2 → (H2 → RR) → RR := Hx.rec (motive := fun _ => (H1 → (H1 → RR) → RR) → H2 → (H2 → RR) → RR) H2.p0 H2.p1 H2.p2 H2.p3 H2.p4 H2.p5 H2.p6 H2.p7 H2.p8 H2.p9 H2.p10 H2.p11 H2.p12 H2.p13 H2.p14 H2.p15 i
theorem H2Q.put_eq (i : Hx) (f : H1 → (H1 → RR) → RR) (t : H2) (K : H2 → RR) : H2Q.put i f t K = f (t.get i) (fun x => K (H2.set i x t)) := by cases i <;> cases t <;> rfl
noncomputable def H3.p0 (f : H2 → (H2 → RR) → RR) (t : H3) (K : H3 → RR) : RR := H3.rec (motive := fun _ => RR) (f H2.e (fun x => K (.mk x H2.e H2.e H2.e H2.e H2.e H2.e H2.e H2.e H2.e H2.e H2.e H2.e H2.e H2.e H2.e))) (fun a0 a1 a2 a3 a4 a5 a6 a7 a8 a9 a10 a11 a12 a13 a14 a15 => f a0 (fun x => K (.mk x a1 a2 a3 a4 a5 a6 a7 a8 a9 a10 a11 a12 a13 a14 a15))) t
noncomputable def H3.p1 (f : H2 → (H2 → RR) → RR) (t : H3) (K : H3 → RR) : RR := H3.rec (motive := fun _ => RR) (f H2.e (fun x => K (.mk H2.e x H2.e H2.e H2.e H2.e H2.e H2.e H2.e H2.e H2.e H2.e H2.e H2.e H2.e H2.e))) (fun a0 a1 a2 a3 a4 a5 a6 a7 a8 a9 a10 a11 a12 a13 a14 a15 => f a1 (fun x => K (.mk a0 x a2 a3 a4 a5 a6 a7 a8 a9 a10 a11 a12 a13 a14 a15))) t
noncomputable def H3.p2 (f : H2 → (H2 → RR) → RR) (t : H3) (K : H3 → RR) : RR := H3.rec (motive := fun _ => RR) (f H2.e (fun x => K (.mk H2.e H2.e x H2.e H2.e H2.e H2.e H2.e H2.e H2.e H2.e H2.e H2.e H2.e H2.e H2.e))) (fun a0 a1 a2 a3 a4 a5 a6 a7 a8 a9 a10 a11 a12 a13 a14 a15 => f a2 (fun x => K (.mk a0 a1 x a3 a4 a5 a6 a7 a8 a9 a10 a11 a12 a13 a14 a15))) t
noncomputable def H3.p3 (f : H2 → (H2 → RR) → RR) (t : H3) (K : H3 → RR) : RR := H3.rec (motive := fun _ => RR) (f H2.e (fun x => K (.mk H2.e H2.e H2.e x H2.e H2.e H2.e H2.e H2.e H2.e H2.e H2.e H2.e H2.e H2.e H2.e))) (fun a0 a1 a2 a3 a4 a5 a6 a7 a8 a9 a10 a11 a12 a13 a14 a15 => f a3 (fun x => K (.mk a0 a1 a2 x a4 a5 a6 a7 a8 a9 a10 a11 a12 a13 a14 a15))) t
noncomputable def H3.p4 (f : H2 → (H2 → RR) → RR) (t : H3) (K : H3 → RR) : RR := H3.rec (motive := fun _ => RR) (f H2.e (fun x => K (.mk H2.e H2.e H2.e H2.e x H2.e H2.e H2.e H2.e H2.e H2.e H2.e H2.e H2.e H2.e H2.e))) (fun a0 a1 a2 a3 a4 a5 a6 a7 a8 a9 a10 a11 a12 a13 a14 a15 => f a4 (fun x => K (.mk a0 a1 a2 a3 x a5 a6 a7 a8 a9 a10 a11 a12 a13 a14 a15))) t
noncomputable def H3.p5 (f : H2 → (H2 → RR) → RR) (t : H3) (K : H3 → RR) : RR := H3.rec (motive := fun _ => RR) (f H2.e (fun x => K (.mk H2.e H2.e H2.e H2.e H2.e x H2.e H2.e H2.e H2.e H2.e H2.e H2.e H2.e H2.e H2.e))) (fun a0 a1 a2 a3 a4 a5 a6 a7 a8 a9 a10 a11 a12 a13 a14 a15 => f a5 (fun x => K (.mk a0 a1 a2 a3 a4 x a6 a7 a8 a9 a10 a11 a12 a13 a14 a15))) t
noncomputable def H3.p6 (f : H2 → (H2 → RR) → RR) (t : H3) (K : H3 → RR) : RR := H3.rec (motive := fun _ => RR) (f H2.e (fun x => K (.mk H2.e H2.e H2.e H2.e H2.e H2.e x H2.e H2.e H2.e H2.e H2.e H2.e H2.e H2.e H2.e))) (fun a0 a1 a2 a3 a4 a5 a6 a7 a8 a9 a10 a11 a12 a13 a14 a15 => f a6 (fun x => K (.mk a0 a1 a2 a3 a4 a5 x a7 a8 a9 a10 a11 a12 a13 a14 a15))) t
noncomputable def H3.p7 (f : H2 → (H2 → RR) → RR) (t : H3) (K : H3 → RR) : RR := H3.rec (motive := fun _ => RR) (f H2.e (fun x => K (.mk H2.e H2.e H2.e H2.e H2.e H2.e H2.e x H2.e H2.e H2.e H2.e H2.e H2.e H2.e H2.e))) (fun a0 a1 a2 a3 a4 a5 a6 a7 a8 a9 a10 a11 a12 a13 a14 a15 => f a7 (fun x => K (.mk a0 a1 a2 a3 a4 a5 a6 x a8 a9 a10 a11 a12 a13 a14 a15))) t
noncomputable def H3.p8 (f : H2 → (H2 → RR) → RR) (t : H3) (K : H3 → RR) : RR := H3.rec (motive := fun _ => RR) (f H2.e (fun x => K (.mk H2.e H2.e H2.e H2.e H2.e H2.e H2.e H2.e x H2.e H2.e H2.e H2.e H2.e H2.e H2.e))) (fun a0 a1 a2 a3 a4 a5 a6 a7 a8 a9 a10 a11 a12 a13 a14 a15 => f a8 (fun x => K (.mk a0 a1 a2 a3 a4 a5 a6 a7 x a9 a10 a11 a12 a13 a14 a15))) t
noncomputable def H3.p9 (f : H2 → (H2 → RR) → RR) (t : H3) (K : H3 → RR) : RR := H3.rec (motive := fun _ => RR) (f H2.e (fun x => K (.mk H2.e H2.e H2.e H2.e H2.e H2.e H2.e H2.e H2.e x H2.e H2.e H2.e H2.e H2.e H2.e))) (fun a0 a1 a2 a3 a4 a5 a6 a7 a8 a9 a10 a11 a12 a13 a14 a15 => f a9 (fun x => K (.mk a0 a1 a2 a3 a4 a5 a6 a7 a8 x a10 a11 a12 a13 a14 a15))) t
noncomputable def H3.p10 (f : H2 → (H2 → RR) → RR) (t : H3) (K : H3 → RR) : RR := H3.rec (motive := fun _ => RR) (f H2.e (fun x => K (.mk H2.e H2.e H2.e H2.e H2.e H2.e H2.e H2.e H2.e H2.e x H2.e H2.e H2.e H2.e H2.e))) (fun a0 a1 a2 a3 a4 a5 a6 a7 a8 a9 a10 a11 a12 a13 a14 a15 => f a10 (fun x => K (.mk a0 a1 a2 a3 a4 a5 a6 a7 a8 a9 x a11 a12 a13 a14 a15))) t
noncomputable def H3.p11 (f : H2 → (H2 → RR) → RR) (t : H3) (K : H3 → RR) : RR := H3.rec (motive := fun _ => RR) (f H2.e (fun x => K (.mk H2.e H2.e H2.e H2.e H2.e H2.e H2.e H2.e H2.e H2.e H2.e x H2.e H2.e H2.e H2.e))) (fun a0 a1 a2 a3 a4 a5 a6 a7 a8 a9 a10 a11 a12 a13 a14 a15 => f a11 (fun x => K (.mk a0 a1 a2 a3 a4 a5 a6 a7 a8 a9 a10 x a12 a13 a14 a15))) t
noncomputable def H3.p12 (f : H2 → (H2 → RR) → RR) (t : H3) (K : H3 → RR) : RR := H3.rec (motive := fun _ => RR) (f H2.e (fun x => K (.mk H2.e H2.e H2.e H2.e H2.e H2.e H2.e H2.e H2.e H2.e H2.e H2.e x H2.e H2.e H2.e))) (fun a0 a1 a2 a3 a4 a5 a6 a7 a8 a9 a10 a11 a12 a13 a14 a15 => f a12 (fun x => K (.mk a0 a1 a2 a3 a4 a5 a6 a7 a8 a9 a10 a11 x a13 a14 a15))) t
noncomputable def H3.p13 (f : H2 → (H2 → RR) → RR) (t : H3) (K : H3 → RR) : RR := H3.rec (motive := fun _ => RR) (f H2.e (fun x => K (.mk H2.e H2.e H2.e H2.e H2.e H2.e H2.e H2.e H2.e H2.e H2.e H2.e H2.e x H2.e H2.e))) (fun a0 a1 a2 a3 a4 a5 a6 a7 a8 a9 a10 a11 a12 a13 a14 a15 => f a13 (fun x => K (.mk a0 a1 a2 a3 a4 a5 a6 a7 a8 a9 a10 a11 a12 x a14 a15))) t
noncomputable def H3.p14 (f : H2 → (H2 → RR) → RR) (t : H3) (K : H3 → RR) : RR := H3.rec (motive := fun _ => RR) (f H2.e (fun x => K (.mk H2.e H2.e H2.e H2.e H2.e H2.e H2.e H2.e H2.e H2.e H2.e H2.e H2.e H2.e x H2.e))) (fun a0 a1 a2 a3 a4 a5 a6 a7 a8 a9 a10 a11 a12 a13 a14 a15 => f a14 (fun x => K (.mk a0 a1 a2 a3 a4 a5 a6 a7 a8 a9 a10 a11 a12 a13 x a15))) t
noncomputable def H3.p15 (f : H2 → (H2 → RR) → RR) (t : H3) (K : H3 → RR) : RR := H3.rec (motive := fun _ => RR) (f H2.e (fun x => K (.mk H2.e H2.e H2.e H2.e H2.e H2.e H2.e H2.e H2.e H2.e H2.e H2.e H2.e H2.e H2.e x))) (fun a0 a1 a2 a3 a4 a5 a6 a7 a8 a9 a10 a11 a12 a13 a14 a15 => f a15 (fun x => K (.mk a0 a1 a2 a3 a4 a5 a6 a7 a8 a9 a10 a11 a12 a13 a14 x))) t
noncomputable def H3Q.put (i : Hx) : (H2 → (H2 → RR) → RR) → H3 → (H3 → RR) → RR := Hx.rec (motive := fun _ => (H2 → (H2 → RR) → RR) → H3 → (H3 → RR) → RR) H3.p0 H3.p1 H3.p2 H3.p3 H3.p4 H3.p5 H3.p6 H3.p7 H3.p8 H3.p9 H3.p10 H3.p11 H3.p12 H3.p13 H3.p14 H3.p15 i
theorem H3Q.put_eq (i : Hx) (f : H2 → (H2 → RR) → RR) (t : H3) (K : H3 → RR) : H3Q.put i f t K = f (t.get i) (fun x => K (H3.set i x t)) := by cases i <;> cases t <;> rfl
noncomputable def H4.p0 (f : H3 → (H3 → RR) → RR) (t : H4) (K : H4 → RR) : RR := H4.rec (motive := fun _ => RR) (f H3.e (fun x => K (.mk x H3.e H3.e H3.e H3.e H3.e H3.e H3.e H3.e H3.e H3.e H3.e H3.e H3.e H3.e H3.e))) (fun a0 a1 a2 a3 a4 a5 a6 a7 a8 a9 a10 a11 a12 a13 a14 a15 => f a0 (fun x => K (.mk x a1 a2 a3 a4 a5 a6 a7 a8 a9 a10 a11 a12 a13 a14 a15))) t
noncomputable def H4.p1 (f : H3 → (H3 → RR) → RR) (t : H4) (K : H4 → RR) : RR := H4.rec (motive := fun _ => RR) (f H3.e (fun x => K (.mk H3.e x H3.e H3.e H3.e H3.e H3.e H3.e H3.e H3.e H3.e H3.e H3.e H3.e H3.e H3.e))) (fun a0 a1 a2 a3 a4 a5 a6 a7 a8 a9 a10 a11 a12 a13 a14 a15 => f a1 (fun x => K (.mk a0 x a2 a3 a4 a5 a6 a7 a8 a9 a10 a11 a12 a13 a14 a15))) t
noncomputable def H4.p2 (f : H3 → (H3 → RR) → RR) (t : H4) (K : H4 → RR) : RR := H4.rec (motive := fun _ => RR) (f H3.e (fun x => K (.mk H3.e H3.e x H3.e H3.e H3.e H3.e H3.e H3.e H3.e H3.e H3.e H3.e H3.e H3.e H3.e))) (fun a0 a1 a2 a3 a4 a5 a6 a7 a8 a9 a10 a11 a12 a13 a14 a15 => f a2 (fun x => K (.mk a0 a1 x a3 a4 a5 a6 a7 a8 a9 a10 a11 a12 a13 a14 a15))) t
noncomputable def H4.p3 (f : H3 → (H3 → RR) → RR) (t : H4) (K : H4 → RR) : RR := H4.rec (motive := fun _ => RR) (f H3.e (fun x => K (.mk H3.e H3.e H3.e x H3.e H3.e H3.e H3.e H3.e H3.e H3.e H3.e H3.e H3.e H3.e H3.e))) (fun a0 a1 a2 a3 a4 a5 a6 a7 a8 a9 a10 a11 a12 a13 a14 a15 => f a3 (fun x => K (.mk a0 a1 a2 x a4 a5 a6 a7 a8 a9 a10 a11 a12 a13 a14 a15))) t
noncomputable def H4.p4 (f : H3 → (H3 → RR) → RR) (t : H4) (K : H4 → RR) : RR := H4.rec (motive := fun _ => RR) (f H3.e (fun x => K (.mk H3.e H3.e H3.e H3.e x H3.e H3.e H3.e H3.e H3.e H3.e H3.e H3.e H3.e H3.e H3.e))) (fun a0 a1 a2 a3 a4 a5 a6 a7 a8 a9 a10 a11 a12 a13 a14 a15 => f a4 (fun x => K (.mk a0 a1 a2 a3 x a5 a6 a7 a8 a9 a10 a11 a12 a13 a14 a15))) t
noncomputable def H4.p5 (f : H3 → (H3 → RR) → RR) (t : H4) (K : H4 → RR) : RR := H4.rec (motive := fun _ => RR) (f H3.e (fun x => K (.mk H3.e H3.e H3.e H3.e H3.e x H3.e H3.e H3.e H3.e H3.e H3.e H3.e H3.e H3.e H3.e))) (fun a0 a1 a2 a3 a4 a5 a6 a7 a8 a9 a10 a11 a12 a13 a14 a15 => f a5 (fun x => K (.mk a0 a1 a2 a3 a4 x a6 a7 a8 a9 a10 a11 a12 a13 a14 a15))) t
noncomputable def H4.p6 (f : H3 → (H3 → RR) → RR) (t : H4) (K : H4 → RR) : RR := H4.rec (motive := fun _ => RR) (f H3.e (fun x => K (.mk H3.e H3.e H3.e H3.e H3.e H3.e x H3.e H3.e H3.e H3.e H3.e H3.e H3.e H3.e H3.e))) (fun a0 a1 a2 a3 a4 a5 a6 a7 a8 a9 a10 a11 a12 a13 a14 a15 => f a6 (fun x => K (.mk a0 a1 a2 a3 a4 a5 x a7 a8 a9 a10 a11 a12 a13 a14 a15))) t
noncomputable def H4.p7 (f : H3 → (H3 → RR) → RR) (t : H4) (K : H4 → RR) : RR := H4.rec (motive := fun _ => RR) (f H3.e (fun x => K (.mk H3.e H3.e H3.e H3.e H3.e H3.e H3.e x H3.e H3.e H3.e H3.e H3.e H3.e H3.e H3.e))) (fun a0 a1 a2 a3 a4 a5 a6 a7 a8 a9 a10 a11 a12 a13 a14 a15 => f a7 (fun x => K (.mk a0 a1 a2 a3 a4 a5 a6 x a8 a9 a10 a11 a12 a13 a14 a15))) t
noncomputable def H4.p8 (f : H3 → (H3 → RR) → RR) (t : H4) (K : H4 → RR) : RR := H4.rec (motive := fun _ => RR) (f H3.e (fun x => K (.mk H3.e H3.e H3.e H3.e H3.e H3.e H3.e H3.e x H3.e H3.e H3.e H3.e H3.e H3.e H3.e))) (fun a0 a1 a2 a3 a4 a5 a6 a7 a8 a9 a10 a11 a12 a13 a14 a15 => f a8 (fun x => K (.mk a0 a1 a2 a3 a4 a5 a6 a7 x a9 a10 a11 a12 a13 a14 a15))) t
noncomputable def H4.p9 (f : H3 → (H3 → RR) → RR) (t : H4) (K : H4 → RR) : RR := H4.rec (motive := fun _ => RR) (f H3.e (fun x => K (.mk H3.e H3.e H3.e H3.e H3.e H3.e H3.e H3.e H3.e x H3.e H3.e H3.e H3.e H3.e H3.e))) (fun a0 a1 a2 a3 a4 a5 a6 a7 a8 a9 a10 a11 a12 a13 a14 a15 => f a9 (fun x => K (.mk a0 a1 a2 a3 a4 a5 a6 a7 a8 x a10 a11 a12 a13 a14 a15))) t
noncomputable def H4.p10 (f : H3 → (H3 → RR) → RR) (t : H4) (K : H4 → RR) : RR := H4.rec (motive := fun _ => RR) (f H3.e (fun x => K (.mk H3.e H3.e H3.e H3.e H3.e H3.e H3.e H3.e H3.e H3.e x H3.e H3.e H3.e H3.e H3.e))) (fun a0 a1 a2 a3 a4 a5 a6 a7 a8 a9 a10 a11 a12 a13 a14 a15 => f a10 (fun x => K (.mk a0 a1 a2 a3 a4 a5 a6 a7 a8 a9 x a11 a12 a13 a14 a15))) t
noncomputable def H4.p11 (f : H3 → (H3 → RR) → RR) (t : H4) (K : H4 → RR) : RR := H4.rec (motive := fun _ => RR) (f H3.e (fun x => K (.mk H3.e H3.e H3.e H3.e H3.e H3.e H3.e H3.e H3.e H3.e H3.e x H3.e H3.e H3.e H3.e))) (fun a0 a1 a2 a3 a4 a5 a6 a7 a8 a9 a10 a11 a12 a13 a14 a15 => f a11 (fun x => K (.mk a0 a1 a2 a3 a4 a5 a6 a7 a8 a9 a10 x a12 a13 a14 a15))) t
noncomputable def H4.p12 (f : H3 → (H3 → RR) → RR) (t : H4) (K : H4 → RR) : RR := H4.rec (motive := fun _ => RR) (f H3.e (fun x => K (.mk H3.e H3.e H3.e H3.e H3.e H3.e H3.e H3.e H3.e H3.e H3.e H3.e x H3.e H3.e H3.e))) (fun a0 a1 a2 a3 a4 a5 a6 a7 a8 a9 a10 a11 a12 a13 a14 a15 => f a12 (fun x => K (.mk a0 a1 a2 a3 a4 a5 a6 a7 a8 a9 a10 a11 x a13 a14 a15))) t
noncomputable def H4.p13 (f : H3 → (H3 → RR) → RR) (t : H4) (K : H4 → RR) : RR := H4.rec (motive := fun _ => RR) (f H3.e (fun x => K (.mk H3.e H3.e H3.e H3.e H3.e H3.e H3.e H3.e H3.e H3.e H3.e H3.e H3.e x H3.e H3.e))) (fun a0 a1 a2 a3 a4 a5 a6 a7 a8 a9 a10 a11 a12 a13 a14 a15 => f a13 (fun x => K (.mk a0 a1 a2 a3 a4 a5 a6 a7 a8 a9 a10 a11 a12 x a14 a15))) t
noncomputable def H4.p14 (f : H3 → (H3 → RR) → RR) (t : H4) (K : H4 → RR) : RR := H4.rec (motive := fun _ => RR) (f H3.e (fun x => K (.mk H3.e H3.e H3.e H3.e H3.e H3.e H3.e H3.e H3.e H3.e H3.e H3.e H3.e H3.e x H3.e))) (fun a0 a1 a2 a3 a4 a5 a6 a7 a8 a9 a10 a11 a12 a13 a14 a15 => f a14 (fun x => K (.mk a0 a1 a2 a3 a4 a5 a6 a7 a8 a9 a10 a11 a12 a13 x a15))) t
noncomputable def H4.p15 (f : H3 → (H3 → RR) → RR) (t : H4) (K : H4 → RR) : RR := H4.rec (motive := fun _ => RR) (f H3.e (fun x => K (.mk H3.e H3.e H3.e H3.e H3.e H3.e H3.e H3.e H3.e H3.e H3.e H3.e H3.e H3.e H3.e x))) (fun a0 a1 a2 a3 a4 a5 a6 a7 a8 a9 a10 a11 a12 a13 a14 a15 => f a15 (fun x => K (.mk a0 a1 a2 a3 a4 a5 a6 a7 a8 a9 a10 a11 a12 a13 a14 x))) t
noncomputable def H4Q.put (i : Hx) : (H3 → (H3 → RR) → RR) → H4 → (H4 → RR) → RR := Hx.rec (motive := fun _ => (H3 → (H3 → RR) → RR) → H4 → (H4 → RR) → RR) H4.p0 H4.p1 H4.p2 H4.p3 H4.p4 H4.p5 H4.p6 H4.p7 H4.p8 H4.p9 H4.p10 H4.p11 H4.p12 H4.p13 H4.p14 H4.p15 i
theorem H4Q.put_eq (i : Hx) (f : H3 → (H3 → RR) → RR) (t : H4) (K : H4 → RR) : H4Q.put i f t K = f (t.get i) (fun x => K (H4.set i x t)) := by cases i <;> cases t <;> rfl
noncomputable def hp2 (h : Hp) (n : Nat) (K : AS → RR) (a : H4) : RR := K ⟨⟨a, h.o⟩, n⟩
noncomputable def hPut (h : Hp) (n b : Nat) (x : AB) (K : AS → RR) : RR := Bool.rec (motive := fun _ => RR) (K ⟨h.set b x, n⟩) (H4Q.put (hx3 b) (H3Q.put (hx2 b) (H2Q.put (hx1 b) (H1Q.put (hx0 b) x))) h.a (hp2 h n K)) (Nat.ble (Nat.succ b) 65536)
theorem hPut_eq [Tab] (h : Hp) (n b : Nat) (x : AB) (K : AS → RR) : hPut h n b x K = K ⟨h.set b x, n⟩ := by
  unfold hPut
  cases e : Nat.ble (Nat.succ b) 65536 with
  | false => rfl
  | true =>
    show H4Q.put (hx3 b) (H3Q.put (hx2 b) (H2Q.put (hx1 b) (H1Q.put (hx0 b) x))) h.a (hp2 h n K) = _
    rw [H4Q.put_eq, H3Q.put_eq, H2Q.put_eq, H1Q.put_eq]
    unfold Hp.set hp2
    rw [e]
    rfl
noncomputable def newQ (cs : List AV) (ty : Nat) (s : AS) (K : AV → AS → RR) : RR := Bool.rec (motive := fun _ => RR) none (hPut s.h (Nat.succ s.n) s.n (.cells cs ty) (K (.ptr s.n 0))) (Nat.ble (Nat.succ s.n) 1000000000)
theorem newQ_ok [Tab] {cs : List AV} {ty : Nat} {s : AS} {K : AV → AS → RR} {r : RZ} (h : newQ cs ty s K = some r) : ∃ v s', newA s cs ty = some (v, s') ∧ K v s' = some r := by
  unfold newQ at h
  unfold newA
  cases e : Nat.ble (Nat.succ s.n) 1000000000 with
  | false => rw [e] at h; cases h
  | true =>
    rw [e] at h
    replace h : hPut s.h (Nat.succ s.n) s.n (.cells cs ty) (K (.ptr s.n 0)) = some r := h
    rw [hPut_eq] at h
    exact ⟨_, _, rfl, h⟩
noncomputable def putSQ (s : AS) (K : AS → RR) (q : Option (Nat × AB)) : RR := Option.rec (motive := fun _ => RR) none (fun p => hPut s.h s.n p.1 p.2 K) q
theorem putSQ_ok [Tab] {s : AS} {K : AS → RR} {q : Option (Nat × AB)} {r : RZ} (h : putSQ s K q = some r) : ∃ b y, q = some (b, y) ∧ K (s.put b y) = some r := by
  cases q with
  | none => cases h
  | some p =>
    replace h : hPut s.h s.n p.1 p.2 K = some r := h
    rw [hPut_eq] at h
    exact ⟨p.1, p.2, rfl, h⟩
end Go.Proofs.YtambgppdjlhdaaaGreatDoor
