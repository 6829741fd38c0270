/-
  The abstract machine's operations that touch no memory, each against the model's. No program.
-/
import Derived.Test.YtambgppdjlhdaaaGreatDoorEvC
import Derived.Laws.Strings2
import Derived.Laws.StructEq
import Derived.IntWalk
namespace Go.Proofs.YtambgppdjlhdaaaGreatDoor
open Go.RowKit

noncomputable def wrapA (k : IntKind) (n : Int) : Int := match k, n with
  | .i64, .ofNat m => cond (Nat.ble m 9223372036854775807) (.ofNat m) (k.wrap n)
  | .i64, .negSucc m => cond (Nat.ble m 9223372036854775807) (.negSucc m) (k.wrap n)
  | .u64, .ofNat m => cond (Nat.ble m 18446744073709551615) (.ofNat m) (k.wrap n)
  | .u32, .ofNat m => cond (Nat.ble m 4294967295) (.ofNat m) (k.wrap n)
  | .u8, .ofNat m => cond (Nat.ble m 255) (.ofNat m) (k.wrap n)
  | _, _ => k.wrap n
theorem cond_or {c : Bool} {a b : Int} (h : c = true → a = b) : cond c a b = b := by
  cases c
  · rfl
  · exact h rfl
theorem wrapA_eq [Tab] (k : IntKind) (n : Int) : wrapA k n = k.wrap n := by
  cases k with
  | i64 =>
    cases n with
    | ofNat m => exact cond_or fun h => (IntWalk.i64_in ((m : Nat) : Int) (by have := Nat.le_of_ble_eq_true h; omega)).symm
    | negSucc m => exact cond_or fun h => (IntWalk.i64_in (Int.negSucc m) (by have := Nat.le_of_ble_eq_true h; omega)).symm
  | u64 =>
    cases n with
    | ofNat m => exact cond_or fun h => (IntWalk.u64_in ((m : Nat) : Int) (by have := Nat.le_of_ble_eq_true h; omega)).symm
    | negSucc m => rfl
  | u32 =>
    cases n with
    | ofNat m => exact cond_or fun h => (IntWalk.u32_in ((m : Nat) : Int) (by have := Nat.le_of_ble_eq_true h; omega)).symm
    | negSucc m => rfl
  | u8 =>
    cases n with
    | ofNat m => exact cond_or fun h => (IntWalk.u8_in ((m : Nat) : Int) (by have := Nat.le_of_ble_eq_true h; omega)).symm
    | negSucc m => rfl
  | _ => cases n <;> rfl

/-- The bytes of two strings. -/
noncomputable def eqB : List UInt8 → List UInt8 → Bool
  | [], [] => true
  | a :: l, b :: m => cond (Nat.beq a.toNat b.toNat) (eqB l m) false
  | _, _ => false
theorem eqB_eq [Tab] : ∀ l m : List UInt8, eqB l m = decide (l = m)
  | [], [] => rfl
  | [], _ :: _ => rfl
  | _ :: _, [] => rfl
  | a :: l, b :: m => by
    show cond (Nat.beq a.toNat b.toNat) (eqB l m) false = _
    rw [eqB_eq l m]
    by_cases h : a = b
    · subst h
      rw [show Nat.beq a.toNat a.toNat = true from Nat.beq_refl _]
      simp
    · have : Nat.beq a.toNat b.toNat = false := by
        rw [Bool.eq_false_iff]
        exact fun h' => h (UInt8.toNat_inj.1 (Nat.eq_of_beq_eq_true h'))
      rw [this]
      simp [h]
noncomputable def ltB : List UInt8 → List UInt8 → Bool
  | _, [] => false
  | [], _ :: _ => true
  | a :: x, b :: y => cond (Nat.ble (Nat.succ a.toNat) b.toNat) true (cond (Nat.beq a.toNat b.toNat) (ltB x y) false)
theorem ltB_eq [Tab] : ∀ l m : List UInt8, ltB l m = Op.bytesLess l m
  | [], [] => rfl
  | [], _ :: _ => rfl
  | _ :: _, [] => rfl
  | a :: l, b :: m => by
    show cond (Nat.ble (Nat.succ a.toNat) b.toNat) true (cond (Nat.beq a.toNat b.toNat) (ltB l m) false) = (decide (a < b) || (a == b && Op.bytesLess l m))
    rw [ltB_eq l m]
    by_cases h : a < b
    · have : Nat.ble (Nat.succ a.toNat) b.toNat = true := Nat.ble_eq_true_of_le (UInt8.lt_iff_toNat_lt.1 h)
      rw [this]
      simp [h]
    · have : Nat.ble (Nat.succ a.toNat) b.toNat = false := by
        rw [Bool.eq_false_iff]
        exact fun h' => h (UInt8.lt_iff_toNat_lt.2 (Nat.le_of_ble_eq_true h'))
      rw [this]
      by_cases h2 : a = b
      · subst h2
        rw [show Nat.beq a.toNat a.toNat = true from Nat.beq_refl _]
        simp [h]
      · have : Nat.beq a.toNat b.toNat = false := by
          rw [Bool.eq_false_iff]
          exact fun h' => h2 (UInt8.toNat_inj.1 (Nat.eq_of_beq_eq_true h'))
        rw [this]
        simp [h, h2]
theorem toList_mk (l : List UInt8) : (⟨l.toArray⟩ : ByteArray).toList = l := by
  rw [ByteArray.toList_eq]

/-- Two integers. -/
noncomputable def intA (op : BinOp) (k : IntKind) (a b : Int) : Option AV := match op with
  | .add => some (.int k (wrapA k (a + b)))
  | .sub => some (.int k (wrapA k (a - b)))
  | .mul => some (.int k (wrapA k (a * b)))
  | .quo => cond (decide (b = 0)) none (some (.int k (wrapA k (a.tdiv b))))
  | .rem => cond (decide (b = 0)) none (some (.int k (a.tmod b)))
  | .and => some (.int k (wrapA k (BitVec.ofInt k.bits a &&& BitVec.ofInt k.bits b).toNat))
  | .or => some (.int k (wrapA k (BitVec.ofInt k.bits a ||| BitVec.ofInt k.bits b).toNat))
  | .xor => some (.int k (wrapA k (BitVec.ofInt k.bits a ^^^ BitVec.ofInt k.bits b).toNat))
  | .andNot => some (.int k (wrapA k (BitVec.ofInt k.bits a &&& ~~~BitVec.ofInt k.bits b).toNat))
  | .eql => some (.bool (a == b))
  | .neq => some (.bool (a != b))
  | .lss => some (.bool (a < b))
  | .leq => some (.bool (a ≤ b))
  | .gtr => some (.bool (a > b))
  | .geq => some (.bool (a ≥ b))
  | _ => none
noncomputable def strA (op : BinOp) (a b : List UInt8) : Option AV := match op with
  | .add => cond (Nat.ble (Nat.add a.length b.length) 9223372036854775807) (some (.str (List.append a b))) none
  | .eql => some (.bool (eqB a b))
  | .neq => some (.bool (!eqB a b))
  | .lss => some (.bool (ltB a b))
  | .leq => some (.bool (ltB a b || eqB a b))
  | .gtr => some (.bool !(ltB a b || eqB a b))
  | .geq => some (.bool !ltB a b)
  | _ => none
noncomputable def kindEq (a b : IntKind) : Bool := match a, b with
  | .i8, .i8 => true | .i16, .i16 => true | .i32, .i32 => true | .i64, .i64 => true
  | .u8, .u8 => true | .u16, .u16 => true | .u32, .u32 => true | .u64, .u64 => true
  | _, _ => false
theorem kindEq_eq {a b : IntKind} (h : kindEq a b = true) : a = b := by cases a <;> cases b <;> first | rfl | cases h
/-- Two values the same? -/
noncomputable def isNilA : AV → Option Bool
  | .nilp => some true | .nils => some true | .nilm => some true | .nilfn => some true | .nili => some true
  | .ptr _ _ => some false | .sl _ _ _ _ => some false | .slu _ _ _ _ => some false | .mapp _ => some false | .fn _ _ => some false | .fnm _ _ => some false | .ifc _ _ => some false
  | _ => none
noncomputable def refD : TypeDesc → Bool
  | .pointer _ => true | .slice _ => true | .map _ _ => true | .func _ _ _ => true | .interface _ => true
  | _ => false
noncomputable def isNil1 : AV → Bool
  | .nilp => true | .nils => true | .nilm => true | .nilfn => true | .nili => true
  | _ => false
noncomputable def eq1 (d : TypeDesc) (a b : AV) : Option Bool := match d, a, b with
  | .bool, .bool x, .bool y => some (x == y)
  | .int _, .int k x, .int k' y => cond (kindEq k k') (some (x == y)) none
  | .string, .str x, .str y => some (eqB x y)
  | .func _ _ _, .nilfn, .nilfn => some true
  | .func _ _ _, .fn _ _, .nilfn => some false
  | .func _ _ _, .nilfn, .fn _ _ => some false
  | .func _ _ _, .fnm _ _, .nilfn => some false
  | .func _ _ _, .nilfn, .fnm _ _ => some false
  | .slice _, .nils, .nils => some true
  | .slice _, .sl _ _ _ _, .nils => some false
  | .slice _, .slu _ _ _ _, .nils => some false
  | .pointer _, .nilp, .nilp => some true
  | .pointer _, .ptr _ _, .nilp => some false
  | .pointer _, .nilp, .ptr _ _ => some false
  | .map _ _, .nilm, .nilm => some true
  | .map _ _, .mapp _, .nilm => some false
  | .interface _, .nili, .nili => some true
  | .interface _, .ifc _ _, .nili => some false
  | .interface _, .nili, .ifc _ _ => some false
  | .int _, .symI b k _ _, .symI b' k' _ _ => cond (Nat.beq b b') (cond (kindEq k k') (some true) none) none
  | .string, .symS b, .symS b' => cond (Nat.beq b b') (some true) none
  | .string, .symT b _ _, .symT b' _ _ => cond (Nat.beq b b') (some true) none
  | _, _, _ => none
theorem ba_self (l : List UInt8) : (({ data := l.toArray } : ByteArray) == { data := l.toArray }) = true := by
  show (l.toArray == l.toArray) = true
  simp
set_option maxHeartbeats 1000000 in
theorem eq1_ok [Tab] {P : Program} {t : Nat} {d : TypeDesc} {a b : AV} {x y : Value} {E : AEnv} {w : World} {r : Bool} (n : Nat) (hd : P.underlying t = some d) (ha : VR E a x) (hb : VR E b y) (h : eq1 d a b = some r) :
    (Op.equalIn (n + 1) t x y).run P w = .ok r w := by
  unfold eq1 at h
  split at h <;> try (cases h; done)
  all_goals first
    | (injection h with h; subst h; cases ha; cases hb; simp [Op.equalIn, run_underlying hd]; done)
    | (injection h with h; subst h; cases ha; cases hb; simp [Op.equalIn, run_underlying hd, eqB_eq, ByteArray.ext_iff]; done)
    | skip
  · rename_i k x k' y
    cases hk : kindEq k k' with
    | false => rw [hk] at h; cases h
    | true =>
      rw [hk] at h
      injection h with h
      subst h
      have := kindEq_eq hk
      subst this
      cases ha
      cases hb
      simp [Op.equalIn, run_underlying hd]
  · rename_i x y
    injection h with h
    subst h
    cases ha
    cases hb
    have e : (({ data := x.toArray } : ByteArray) == { data := y.toArray }) = decide (x = y) := by
      show (x.toArray == y.toArray) = decide (x = y)
      rw [Bool.eq_iff_iff]
      simp
    simp [Op.equalIn, run_underlying hd, eqB_eq, e]
  · rename_i b k _ _ b' k' _ _
    cases he : Nat.beq b b' with
    | false => rw [he] at h; cases h
    | true =>
      rw [he] at h
      cases hk : kindEq k k' with
      | false => rw [hk] at h; cases h
      | true =>
        rw [hk] at h
        injection h with h
        subst h
        have e1 := Nat.eq_of_beq_eq_true he
        subst e1
        have e2 := kindEq_eq hk
        subst e2
        cases ha with
        | symI _ _ _ _ n h0 hn _ _ =>
          cases hb with
          | symI _ _ _ _ m g0 hm _ _ =>
            rw [hn] at hm
            subst hm
            simp [Op.equalIn, run_underlying hd]
  · rename_i b b'
    cases he : Nat.beq b b' with
    | false => rw [he] at h; cases h
    | true =>
      rw [he] at h
      injection h with h
      subst h
      have e1 := Nat.eq_of_beq_eq_true he
      subst e1
      cases ha with
      | symS _ s h0 hs =>
        cases hb with
        | symS _ s' g0 hs' =>
          rw [hs] at hs'
          subst hs'
          simp [Op.equalIn, run_underlying hd, ba_self]
  · rename_i b _ _ b' _ _
    cases he : Nat.beq b b' with
    | false => rw [he] at h; cases h
    | true =>
      rw [he] at h
      injection h with h
      subst h
      have e1 := Nat.eq_of_beq_eq_true he
      subst e1
      cases ha with
      | symT _ _ _ n h0 hn _ _ =>
        cases hb with
        | symT _ _ _ m g0 hm _ _ =>
          rw [hn] at hm
          subst hm
          simp [Op.equalIn, run_underlying hd, ba_self]
/-- Structs of such, field by field. -/
noncomputable def eqF (P : Program) (sub : Nat → List AV → List AV → Option Bool) (xs ys : List AV) : List Field → Option Bool
  | [] => some true
  | f :: r => match P.underlying f.type with
    | none => none
    | some d => cond (f.name == "_") none (cond (rowD d) (match P.info? f.type with
      | some i => cond (Nat.ble (Nat.add f.offset i.size) xs.length) (cond (Nat.ble (Nat.add f.offset i.size) ys.length) (match sub f.type ((xs.drop f.offset).take i.size) ((ys.drop f.offset).take i.size) with
        | some true => eqF P sub xs ys r
        | some false => some false
        | none => none) none) none
      | none => none) (match xs[f.offset]?, ys[f.offset]? with
      | some a, some b => match eq1 d a b with
        | some true => eqF P sub xs ys r
        | some false => some false
        | none => none
      | _, _ => none))
noncomputable def eqS (P : Program) : Nat → Nat → List AV → List AV → Option Bool
  | 0, _, _, _ => none
  | m + 1, t, xs, ys => match P.underlying t with
    | some (.struct fs) => cond (P.stoodInHeld t) none (eqF P (eqS P m) xs ys fs.toList)
    | _ => none
noncomputable def eqA (P : Program) (t : Nat) (a b : AV) : Option Bool := match P.underlying t with
  | none => none
  | some (.struct _) => match a, b with
    | .agg xs, .agg ys => eqS P 5 t xs ys
    | _, _ => none
  | some d => eq1 d a b
theorem part_agg [Tab] {P : Program} {t : Nat} {d : TypeDesc} {i : TypeInfo} (hd : P.underlying t = some d) (hr : rowD d = true) (hi : P.info? t = some i) (a : Array Value) (o : Nat) (w : World) : (part t a o).run P w = .ok (.agg (a.extract o (o + i.size))) w := by
  simp [part, isAgg_run hd, hr, sizeOf, typeInfo, hi]
theorem VL.ext {E : AEnv} {xs : List AV} {a : Array Value} (h : VL E xs a.toList) (o n : Nat) : VL E ((xs.drop o).take n) (a.extract o (o + n)).toList := by
  have e : (a.extract o (o + n)).toList = (a.toList.drop o).take n := by simp [List.extract_eq_take_drop]
  rw [e]
  exact (h.drop o).take n
theorem eqF_ok [Tab] {P : Program} {E : AEnv} {w : World} (n : Nat) {sub : Nat → List AV → List AV → Option Bool} (hsub : ∀ t xs ys (a b : Array Value) r, VL E xs a.toList → VL E ys b.toList → sub t xs ys = some r → (Op.equalIn (n + 1) t (.agg a) (.agg b)).run P w = .ok r w)
    {xs ys : List AV} {a b : Array Value} (ha : VL E xs a.toList) (hb : VL E ys b.toList) : ∀ (fs : List Field) {r : Bool}, eqF P sub xs ys fs = some r → (Op.eqFields (n + 1) a b fs).run P w = .ok r w
  | [], r, h => by
    injection h with h
    subst h
    rfl
  | f :: fs, r, h => by
    unfold eqF at h
    split at h
    · cases h
    · rename_i d hd
      cases hn : (f.name == "_") with
      | true => rw [hn] at h; cases h
      | false =>
        rw [hn] at h
        simp only [cond_false] at h
        have hne : f.name ≠ "_" := fun e => by rw [e] at hn; simp at hn
        cases hr : rowD d with
        | true =>
          rw [hr] at h
          simp only [cond_true] at h
          split at h
          · rename_i i hi
            cases h1 : Nat.ble (Nat.add f.offset i.size) xs.length with
            | false => rw [h1] at h; cases h
            | true =>
            cases h2 : Nat.ble (Nat.add f.offset i.size) ys.length with
            | false => rw [h1, h2] at h; cases h
            | true =>
              rw [h1, h2] at h
              simp only [cond_true] at h
              have hpx := part_agg hd hr hi a f.offset w
              have hpy := part_agg hd hr hi b f.offset w
              split at h
              · rename_i he
                have := hsub _ _ _ _ _ _ (ha.ext _ _) (hb.ext _ _) he
                simp [Op.eqFields, hne, hpx, hpy, this, eqF_ok n hsub ha hb fs h]
              · rename_i he
                have := hsub _ _ _ _ _ _ (ha.ext _ _) (hb.ext _ _) he
                injection h with h
                subst h
                simp [Op.eqFields, hne, hpx, hpy, this]
              · cases h
          · cases h
        | false =>
          rw [hr] at h
          simp only [cond_false] at h
          split at h
          · rename_i u v hu hv
            obtain ⟨x, hx, hux⟩ := ha.exists_at hu
            obtain ⟨y, hy, hvy⟩ := hb.exists_at hv
            have hpx : (part f.type a f.offset).run P w = .ok x w := by
              simp [part, isAgg_run hd, hr, show a[f.offset]? = some x by simpa using hx]
            have hpy : (part f.type b f.offset).run P w = .ok y w := by
              simp [part, isAgg_run hd, hr, show b[f.offset]? = some y by simpa using hy]
            split at h
            · rename_i he
              have := eq1_ok (w := w) n hd hux hvy he
              simp [Op.eqFields, hne, hpx, hpy, this, eqF_ok n hsub ha hb fs h]
            · rename_i he
              have := eq1_ok (w := w) n hd hux hvy he
              injection h with h
              subst h
              simp [Op.eqFields, hne, hpx, hpy, this]
            · cases h
          · cases h
theorem eqS_ok [Tab] {P : Program} {E : AEnv} {w : World} (n : Nat) : ∀ (m t : Nat) (xs ys : List AV) (a b : Array Value) (r : Bool), VL E xs a.toList → VL E ys b.toList → eqS P m t xs ys = some r → (Op.equalIn (n + m + 1) t (.agg a) (.agg b)).run P w = .ok r w
  | 0, _, _, _, _, _, _, _, _, h => by cases h
  | m + 1, t, xs, ys, a, b, r, ha, hb, h => by
    unfold eqS at h
    split at h
    · rename_i fs hd
      cases hs : P.stoodInHeld t with
      | true => rw [hs] at h; cases h
      | false =>
        rw [hs] at h
        simp only [cond_false] at h
        have hf : P.fieldsOf t = fs := by simp [Program.fieldsOf, hd]
        have := run_equalIn_struct (w := w) (n + m + 1) t a b (by rw [hf]; exact hd) hs
        rw [show n + (m + 1) + 1 = n + m + 1 + 1 from rfl, this, hf]
        exact eqF_ok (n + m) (fun t xs ys a b r h1 h2 h3 => eqS_ok n m t xs ys a b r h1 h2 h3) ha hb fs.toList h
    · cases h
theorem eqA_ok [Tab] {P : Program} {t : Nat} {a b : AV} {x y : Value} {E : AEnv} {w : World} {r : Bool} (ha : VR E a x) (hb : VR E b y) (h : eqA P t a b = some r) : (Op.equal t x y).run P w = .ok r w := by
  unfold eqA at h
  split at h
  · cases h
  · rename_i fs hd
    split at h
    · rename_i xs ys
      obtain ⟨u, rfl, hu⟩ := ha.agg_inv
      obtain ⟨v, rfl, hv⟩ := hb.agg_inv
      exact eqS_ok 9994 5 t xs ys u v r hu hv h
    · cases h
  · rename_i hd
    exact eq1_ok 9999 hd ha hb h
/-- Values that are not told: what is known of them. -/
noncomputable def rngA (op : BinOp) (lo hi y : Int) : Option AV := match op with
  | .lss => cond (decide (hi < y)) (some (.bool true)) (cond (decide (y ≤ lo)) (some (.bool false)) none)
  | .gtr => cond (decide (y < lo)) (some (.bool true)) (cond (decide (hi ≤ y)) (some (.bool false)) none)
  | .leq => cond (decide (hi ≤ y)) (some (.bool true)) (cond (decide (y < lo)) (some (.bool false)) none)
  | .geq => cond (decide (y ≤ lo)) (some (.bool true)) (cond (decide (hi < y)) (some (.bool false)) none)
  | .eql => cond (decide (hi < y) || decide (y < lo)) (some (.bool false)) none
  | .neq => cond (decide (hi < y) || decide (y < lo)) (some (.bool true)) none
  | _ => none
noncomputable def symE (op : BinOp) : Option AV := match op with
  | .eql => some (.bool true)
  | .neq => some (.bool false)
  | _ => none
noncomputable def symB (op : BinOp) (a b : AV) : Option AV := match a, b with
  | .symI _ k lo hi, .int k' y => cond (kindEq k k') (rngA op lo hi y) none
  | .symI c k _ _, .symI c' k' _ _ => cond (Nat.beq c c') (cond (kindEq k k') (symE op) none) none
  | .symS c, .symS c' => cond (Nat.beq c c') (symE op) none
  | .symT c _ _, .symT c' _ _ => cond (Nat.beq c c') (symE op) none
  | _, _ => none
/-- A binary operation. -/
noncomputable def binA (P : Program) (op : BinOp) (t : Nat) (c : Bool) (a b : AV) : Option AV := match a, b with
  | .int k x, .int k' y => match op, y with
    | .shl, .ofNat m => some (.int k (wrapA k (x * 2 ^ (min m k.bits))))
    | .shr, .ofNat m => some (.int k (x.fdiv (2 ^ (min m k.bits))))
    | .shl, _ => none
    | .shr, _ => none
    | _, _ => cond (kindEq k k') (intA op k x y) none
  | .str x, .str y => strA op x y
  | .symI b k lo hi, y => symB op (.symI b k lo hi) y
  | .symS b, y => symB op (.symS b) y
  | .symT b lo hi, y => symB op (.symT b lo hi) y
  | .nili, .nili => cond c (match op with
    | .eql => (eqA P t a b).map .bool
    | .neq => (eqA P t a b).map fun r => .bool (!r)
    | _ => none) none
  | .agg _, .agg _ => cond (P.eqGuardType P.depth t) none (match op with
    | .eql => (eqA P t a b).map .bool
    | .neq => (eqA P t a b).map fun r => .bool (!r)
    | _ => none)
  | _, _ => match op with
    | .eql => (eqA P t a b).map .bool
    | .neq => (eqA P t a b).map fun r => .bool (!r)
    | _ => none
theorem intA_ok [Tab] {P : Program} {op : BinOp} {t : Nat} {k : IntKind} {x y : Int} {v : AV} {E : AEnv} {w : World} (h : intA op k x y = some v) : ∃ z, (binOp op t (.int k x) (.int k y)).run P w = .ok z w ∧ VR E v z := by
  cases op <;> try (cases h; done)
  case add =>
    injection h with h
    subst h
    rw [wrapA_eq]
    exact ⟨.int k (k.wrap (x + y)), by simp [binOp, Op.intArith, Op.intBits], .int _ _⟩
  case sub =>
    injection h with h
    subst h
    rw [wrapA_eq]
    exact ⟨.int k (k.wrap (x - y)), by simp [binOp, Op.intArith, Op.intBits], .int _ _⟩
  case mul =>
    injection h with h
    subst h
    rw [wrapA_eq]
    exact ⟨.int k (k.wrap (x * y)), by simp [binOp, Op.intArith, Op.intBits], .int _ _⟩
  case quo =>
    replace h : cond (decide (y = 0)) none (some _) = some v := h
    cases hy : decide (y = 0) with
    | true => rw [hy] at h; cases h
    | false =>
      rw [hy] at h
      injection h with h
      subst h
      have hy0 : y ≠ 0 := of_decide_eq_false hy
      try rw [wrapA_eq]
      exact ⟨.int k (k.wrap (x.tdiv y)), by simp [binOp, Op.intDiv, hy0], .int _ _⟩
  case rem =>
    replace h : cond (decide (y = 0)) none (some _) = some v := h
    cases hy : decide (y = 0) with
    | true => rw [hy] at h; cases h
    | false =>
      rw [hy] at h
      injection h with h
      subst h
      have hy0 : y ≠ 0 := of_decide_eq_false hy
      try rw [wrapA_eq]
      exact ⟨.int k (x.tmod y), by simp [binOp, Op.intDiv, hy0], .int _ _⟩
  case and =>
    injection h with h
    subst h
    rw [wrapA_eq]
    exact ⟨.int k (k.wrap (BitVec.ofInt k.bits x &&& BitVec.ofInt k.bits y).toNat), by simp [binOp, Op.intArith, Op.intBits], .int _ _⟩
  case or =>
    injection h with h
    subst h
    rw [wrapA_eq]
    exact ⟨.int k (k.wrap (BitVec.ofInt k.bits x ||| BitVec.ofInt k.bits y).toNat), by simp [binOp, Op.intArith, Op.intBits], .int _ _⟩
  case xor =>
    injection h with h
    subst h
    rw [wrapA_eq]
    exact ⟨.int k (k.wrap (BitVec.ofInt k.bits x ^^^ BitVec.ofInt k.bits y).toNat), by simp [binOp, Op.intArith, Op.intBits], .int _ _⟩
  case andNot =>
    injection h with h
    subst h
    rw [wrapA_eq]
    exact ⟨.int k (k.wrap (BitVec.ofInt k.bits x &&& ~~~BitVec.ofInt k.bits y).toNat), by simp [binOp, Op.intArith, Op.intBits], .int _ _⟩
  case eql =>
    injection h with h
    subst h
    exact ⟨.bool (x == y), by simp [binOp, Op.intCmp], .bool _⟩
  case neq =>
    injection h with h
    subst h
    exact ⟨.bool (x != y), by simp [binOp, Op.intCmp], .bool _⟩
  case lss =>
    injection h with h
    subst h
    exact ⟨.bool (x < y), by simp [binOp, Op.intCmp], .bool _⟩
  case leq =>
    injection h with h
    subst h
    exact ⟨.bool (x ≤ y), by simp [binOp, Op.intCmp], .bool _⟩
  case gtr =>
    injection h with h
    subst h
    exact ⟨.bool (x > y), by simp [binOp, Op.intCmp], .bool _⟩
  case geq =>
    injection h with h
    subst h
    exact ⟨.bool (x ≥ y), by simp [binOp, Op.intCmp], .bool _⟩
theorem strA_ok [Tab] {P : Program} {op : BinOp} {t : Nat} {x y : List UInt8} {v : AV} {E : AEnv} {w : World} (h : strA op x y = some v) : ∃ z, (binOp op t (.string ⟨x.toArray⟩) (.string ⟨y.toArray⟩)).run P w = .ok z w ∧ VR E v z := by
  have e1 : (x == y) = eqB x y := by
    rw [eqB_eq, Bool.eq_iff_iff]
    simp
  cases op <;> try (cases h; done)
  case eql =>
    injection h with h
    subst h
    simp only [← e1, ltB_eq]
    exact ⟨.bool (x == y), by simp [binOp, Op.stringOp, toList_mk], .bool _⟩
  case neq =>
    injection h with h
    subst h
    simp only [← e1, ltB_eq]
    exact ⟨.bool (!(x == y)), by simp [binOp, Op.stringOp, toList_mk], .bool _⟩
  case lss =>
    injection h with h
    subst h
    simp only [← e1, ltB_eq]
    exact ⟨.bool (Op.bytesLess x y), by simp [binOp, Op.stringOp, toList_mk], .bool _⟩
  case leq =>
    injection h with h
    subst h
    simp only [← e1, ltB_eq]
    exact ⟨.bool (Op.bytesLess x y || x == y), by simp [binOp, Op.stringOp, toList_mk], .bool _⟩
  case gtr =>
    injection h with h
    subst h
    simp only [← e1, ltB_eq]
    exact ⟨.bool (!(Op.bytesLess x y || x == y)), by simp [binOp, Op.stringOp, toList_mk], .bool _⟩
  case geq =>
    injection h with h
    subst h
    simp only [← e1, ltB_eq]
    exact ⟨.bool (!Op.bytesLess x y), by simp [binOp, Op.stringOp, toList_mk], .bool _⟩
  case add =>
    replace h : cond (Nat.ble (Nat.add x.length y.length) 9223372036854775807) (some (AV.str (x ++ y))) none = some v := h
    cases hl : Nat.ble (Nat.add x.length y.length) 9223372036854775807 with
    | false => rw [hl] at h; cases h
    | true =>
      rw [hl] at h
      injection h with h
      subst h
      have hl' : x.length + y.length ≤ 9223372036854775807 := Nat.le_of_ble_eq_true hl
      refine ⟨.string ⟨(x ++ y).toArray⟩, ?_, .str _⟩
      have e2 : (⟨x.toArray⟩ : ByteArray) ++ ⟨y.toArray⟩ = ⟨(x ++ y).toArray⟩ := by
        apply ByteArray.ext
        simp
      have e3 : ¬ (((⟨x.toArray⟩ : ByteArray).size + (⟨y.toArray⟩ : ByteArray).size : Nat) : Int) > IntKind.i64.max := by
        rw [ByteArray.size_mk', ByteArray.size_mk']
        simp [IntKind.max, IntKind.bits, IntKind.signed]
        omega
      simp only [binOp, Op.stringOp, if_neg e3, e2]
      rfl
end Go.Proofs.YtambgppdjlhdaaaGreatDoor
