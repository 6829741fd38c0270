/-
  The walk of the JSON reader's number.
-/
import Derived.Test.YtlnkjacbdolhnaaGreatDoorM23
import Derived.Deep.RegionHeld3
import Derived.Test.YtlnkjacbdolhnaaGreatDoorM20
import Derived.Deep.RegionLaw
namespace Go.Proofs.YtlnkjacbdolhnaaGreatDoor
open Go.RowKit

def numB : ByteArray := ⟨#[48, 49, 50, 51, 52, 53, 54, 55, 56, 57, 43, 45, 46, 101, 69]⟩
theorem trim_num (s : List UInt8) : Lib.trimLeftS s numB.data.toList = s.dropWhile jnumc := by
  unfold Lib.trimLeftS
  congr 1
  funext c
  have key : ∀ n : Fin 256, numB.data.toList.contains (UInt8.ofNat n.val) = jnumc (UInt8.ofNat n.val) := by decide +kernel
  have := key ⟨c.toNat, c.toNat_lt⟩
  rw [UInt8.ofNat_toNat] at this
  exact this
theorem num_split (s : List UInt8) : s.take (s.takeWhile jnumc).length = s.takeWhile jnumc ∧ s.drop (s.takeWhile jnumc).length = s.dropWhile jnumc := by
  have h := List.takeWhile_append_dropWhile (p := jnumc) (l := s)
  constructor
  · conv => lhs; arg 2; rw [← h]
    rw [List.take_append_of_le_length (Nat.le_refl _), List.take_length]
  · conv => lhs; arg 2; rw [← h]
    rw [List.drop_append_of_le_length (Nat.le_refl _), List.drop_length, List.nil_append]
def NumEnd (b it : Nat) (w : World) (s : List UInt8) (r : List UInt8 × Int) (e : Ending) (w' : World) : Prop := But w.heap.size b w w' ∧ (if r.2 = 0 then e = .returned (.agg #[.int .u8 4, .string (ofL r.1), .slice none 0 0, .slice none 0 0]) ∧ RJ w' b s it else e = Pan r.2)
set_option maxRecDepth 100000 in
set_option maxHeartbeats 4000000 in
theorem jrNumber_any (b : Nat) (s : List UInt8) (it : Nat) (w : World) (hE : EnvB b w) (h : RJ w b s it) (hs : s.length ≤ 1000000) :
    Calls Tryz.prog 91 #[.pointer (some ⟨b, 0, none⟩)] w (NumEnd b it w (s.dropWhile jnumc) (ownL (s.takeWhile jnumc))) := by
  have hlt := h.lt
  have hT := fun (W : World) => Tryz.strings_TrimLeft_set (ofL s) numB W (by decide) (by
    intro j c hj
    have key : ∀ c ∈ numB.data.toList, c.toNat < 128 := by decide
    exact key c (List.mem_of_getElem? hj))
  rw [toList_ofL, trim_num] at hT
  obtain ⟨s1, s2⟩ := num_split s
  have hlen : (s.takeWhile jnumc).length + (s.dropWhile jnumc).length = s.length := by rw [← List.length_append, List.takeWhile_append_dropWhile]
  have hx1 := jxt_take s (s.takeWhile jnumc).length
  have hx2 := jxt_drop s (s.takeWhile jnumc).length
  rw [s1] at hx1
  rw [s2] at hx2
  have hO := fun (W : World) (hE : Env W) => decOwn_any (ofL (s.takeWhile jnumc)) W hE (by rw [size_ofL]; omega)
  rw [toList_ofL] at hO
  obtain ⟨Ro, hRo⟩ : ∃ Ro, ownL (s.takeWhile jnumc) = Ro := ⟨_, rfl⟩
  rw [hRo] at hO ⊢
  obtain ⟨T, hTT⟩ : ∃ T, s.takeWhile jnumc = T := ⟨_, rfl⟩
  obtain ⟨D, hD⟩ : ∃ D, s.dropWhile jnumc = D := ⟨_, rfl⟩
  rw [hTT] at hlen hx1 hx2 hO
  rw [hD] at hlen hx2 hT ⊢
  obtain ⟨n, hn⟩ : ∃ n, T.length = n := ⟨_, rfl⟩
  rw [hn] at hlen hx1 hx2
  have hzs := size_ofL s
  have hzd := size_ofL D
  obtain ⟨S, hS⟩ : ∃ S, ofL s = S := ⟨_, rfl⟩
  obtain ⟨ST, hST⟩ : ∃ ST, ofL T = ST := ⟨_, rfl⟩
  obtain ⟨SD, hSD⟩ : ∃ SD, ofL D = SD := ⟨_, rfl⟩
  have hTD : ∀ W, Calls Tryz.prog 83 #[.string S, .string numB] W fun e w' => e = .returned (.string SD) ∧ Below W.heap.size W w' := fun W => by
    have := hT W
    rw [hS] at this
    rw [← hSD]
    exact this
  rw [hS] at hx1 hx2 hzs
  rw [hST] at hx1 hO
  rw [hSD] at hx2 hzd
  have hsub : (S.size : Int) - (SD.size : Int) = (n : Int) := by omega
  have hn0 : (0 : Int) ≤ (n : Int) := by omega
  have hn1 : (n : Int) ≤ 1000000 := by omega
  have hn2 : (n : Int) ≤ (S.size : Int) := by omega
  have p0 : w.cell? ⟨b, 0, none⟩ = some (.string S) := by rw [← hS]; exact Cel.cell h 0
  obtain ⟨w0, hw0⟩ : ∃ w0, w.alloc (.cells #[.int .u8 0, .string ⟨#[]⟩, .slice none 0 0, .slice none 0 0] 25) = w0 := ⟨_, rfl⟩
  have hB0 : Below w.heap.size w w0 := by rw [← hw0]; exact (Below.refl _ _).alloc (Nat.le_refl _) _
  have hC0 : Cel w0 w.heap.size 25 #[.int .u8 0, .string ⟨#[]⟩, .slice none 0 0, .slice none 0 0] := by rw [← hw0]; exact Cel.fresh _ _ _
  have hR0 := h.below hB0
  have hE0 := hE.below hB0
  have hSt : ∀ W, Below w0.heap.size w0 W → W.cell? ⟨b, 0, none⟩ = some (.string S) ∧ Below w0.heap.size w0 W := fun W hb => ⟨(hb.cell (p := ⟨b, 0, none⟩) (Nat.lt_of_lt_of_le hlt hB0.size)).trans ((hB0.cell (p := ⟨b, 0, none⟩) hlt).trans p0), hb⟩
  replace hS := Lib.hid hS
  clear hT hTT hD hn hST s1 s2 hRo hlen hzs hzd h hE
  unfold numB at hTD
  replace hTD := Lib.hid hTD
  replace hO := Lib.hid hO
  replace hSt := Lib.hid hSt
  replace hR0 := Lib.hid hR0
  replace hE0 := Lib.hid hE0
  replace hC0 := Lib.hid hC0
  replace hw0 := Lib.hid hw0
  replace hSD := Lib.hid hSD
  replace hB0 := Lib.hid hB0
  go_enter Tryz.func91, Tryz.ntmps91
  go_wp2_with fail
  rw [hw0.out]
  clear p0
  have p0 := (hSt.out w0 (Below.refl _ _)).1
  go_region_held3 (fun W => W.cell? ⟨b, 0, none⟩ = some (.string S) ∧ Below w0.heap.size w0 W)
    (first | exact hSt.out _ (bel_drewN (Below.refl _ _) 1) | exact hSt.out _ hZ1)
    (first
      | (go_at_call 83; (with_reducible refine (hTD.out _).mono ?_); rintro e w1 ⟨rfl, hB1⟩; have hZ1 : Below w0.heap.size w0 w1 := (bel_drewN (Below.refl _ _) 1).trans hB1; clear hB1))
  all_goals
    have hR1 := hR0.out.below hZ1
    have hE1 := hE0.out.below hZ1
    have hC1 := hC0.out.below hZ1 hC0.out.lt
    have hB1 := hB0.out.trans (hZ1.mono hB0.out.size)
    have hown := hO.out w1 hE1.env.1.1
    have q0 : w1.cell? ⟨b, 0, none⟩ = some (.string S) := (hSt.out w1 hZ1).1
    clear hTD hO hR0 hE0 hC0 hB0 hSt hE1 p0 hsub
    replace hZ1 := Lib.hid hZ1
    replace hR1 := Lib.hid hR1
    replace hC1 := Lib.hid hC1
    replace hB1 := Lib.hid hB1
    replace hown := Lib.hid hown
    go_wp2_with fail
    refine hown.out.mono ?_
    rintro e w2 ⟨g, hg, rfl, hb2⟩
    have hR2 := hR1.out.below hb2
    have hC2 := hC1.out.below hb2 hC1.out.lt
    have hB2 := hB1.out.trans (hb2.mono hB1.out.size)
    obtain ⟨r1, r2⟩ := Ro
    dsimp only at hg
    have hgg : ofL r1 = g := by rw [← hg]; exact ofL_toList g
    clear hown hR1 hC1 hB1 hb2 hZ1 hg q0
    dsimp only
    by_cases hr : r2 = 0
    · subst hr
      have q0 : w2.cell? ⟨b, 0, none⟩ = some (.string S) := by rw [← hS.out]; exact Cel.cell hR2 0
      have f0 := Cel.froz hR2 0
      have x0 := hC2.cell 0
      have x1 := hC2.cell 1
      have x2 := hC2.cell 2
      have x3 := hC2.cell 3
      have y0 := hC2.froz 0
      have y1 := hC2.froz 1
      have y2 := hC2.froz 2
      have y3 := hC2.froz 3
      simp only [List.getElem?_toArray, List.getElem?_cons_zero, List.getElem?_cons_succ] at x0 x1 x2 x3
      have hne : ¬ b = w.heap.size := by omega
      have hne' : ¬ w.heap.size = b := by omega
      replace hR2 := Lib.hid hR2
      replace hC2 := Lib.hid hC2
      replace hB2 := Lib.hid hB2
      replace hgg := Lib.hid hgg
      go_wp2_with fail
      refine bodyPost_ret (v := .agg #[.int .u8 4, .string g, .slice none 0 0, .slice none 0 0]) (by simp [results, Tryz.results91, go_sem, x0, x1, x2, x3]) rfl ⟨?_, ?_⟩
      · exact ((((((But.of hB2.out : But w.heap.size b w w2).set 0 _).setCell (p := ⟨w.heap.size, 0, none⟩) (Nat.le_refl _) _).setCell (p := ⟨w.heap.size, 1, none⟩) (Nat.le_refl _) _).setCell (p := ⟨w.heap.size, 2, none⟩) (Nat.le_refl _) _).setCell (p := ⟨w.heap.size, 3, none⟩) (Nat.le_refl _) _)
      · rw [if_pos rfl]
        refine ⟨by rw [hgg.out], ?_⟩
        have h1 : RJ (w2.setCell ⟨b, 0, none⟩ (.string SD)) b D it := by rw [← hSD.out]; exact hR2.out.set
        exact (((Cel.away h1 (p := ⟨w.heap.size, 0, none⟩) hne _).away (p := ⟨w.heap.size, 1, none⟩) hne _).away (p := ⟨w.heap.size, 2, none⟩) hne _).away (p := ⟨w.heap.size, 3, none⟩) hne _
    · have hr2 : (r2 != 0) = true := by simp [hr]
      have hr3 : (r2 == 0) = false := by simp [hr]
      replace hB2 := Lib.hid hB2
      clear hR2 hC2 hgg
      go_wp2_with fail
      refine (jrFail_any r2 _).mono ?_
      rintro e w3 ⟨rfl, rfl⟩
      refine ⟨rfl, But.of hB2.out, ?_⟩
      rw [if_neg hr]
      rfl
end Go.Proofs.YtlnkjacbdolhnaaGreatDoor


/-
  The walk of the JSON reader's list: things with commas between, by a closure.
-/
namespace Go.Proofs.YtlnkjacbdolhnaaGreatDoor
open Go.RowKit

/-- What a closure that reads one thing leaves; what list leaves. -/
def LEnd {σ : Type} (I : σ → List UInt8 → World → Prop) (K : World → Prop) (R : Except Int (σ × List UInt8)) (e : Ending) (w' : World) : Prop := match R with
  | .error c => e = Pan c ∧ K w'
  | .ok (st, s) => e = .returned (.tuple #[]) ∧ I st s w'
def jEnd {σ : Type} (endb : UInt8) (st : σ) (s : List UInt8) : Except Int (σ × List UInt8) := if ([endb] : List UInt8).isPrefixOf s = true then .ok (st, s.drop 1) else .error 4
theorem pre_eq (c d : UInt8) (r : List UInt8) : ([c] : List UInt8).isPrefixOf (d :: r) = true ↔ d = c := by
  constructor
  · intro h
    obtain ⟨t, ht⟩ := pre_cons h
    injection ht
  · rintro rfl
    simp [List.isPrefixOf]
theorem jList_yes {σ : Type} {one : σ → List UInt8 → Except Int (σ × List UInt8)} {b : UInt8} {st : σ} {s r : List UInt8} (h : jblk s = b :: r) : jList one b st s = .ok (st, r) := by
  unfold jList; rw [h]; dsimp only; rw [if_pos rfl]
theorem jList_no {σ : Type} {one : σ → List UInt8 → Except Int (σ × List UInt8)} {b : UInt8} {st : σ} {s : List UInt8} (h : ¬ ([b] : List UInt8).isPrefixOf (jblk s) = true) : jList one b st s = jLoop one b st (jblk s) := by
  unfold jList
  rcases hb : jblk s with _ | ⟨c, r⟩
  · rfl
  · rw [hb] at h
    dsimp only
    rw [if_neg (fun e => h ((pre_eq b c r).2 e))]
theorem jLoop_end {σ : Type} {one : σ → List UInt8 → Except Int (σ × List UInt8)} (h : Shorter one) {b : UInt8} {st st2 : σ} {s s2 : List UInt8} (h1 : one st (jblk s) = .ok (st2, s2)) (h2 : ¬ ([44] : List UInt8).isPrefixOf (jblk s2) = true) : jLoop one b st s = jEnd b st2 (jblk s2) := by
  rw [jLoop_eq h, h1]
  dsimp only
  unfold jEnd
  rcases hb : jblk s2 with _ | ⟨c, r⟩
  · rfl
  · rw [hb] at h2
    dsimp only
    rw [if_neg (fun e => h2 ((pre_eq 44 c r).2 e))]
    by_cases hc : c = b
    · rw [if_pos hc, if_pos ((pre_eq b c r).2 hc)]; rfl
    · rw [if_neg hc, if_neg (fun e => hc ((pre_eq b c r).1 e))]
theorem jLoop_more {σ : Type} {one : σ → List UInt8 → Except Int (σ × List UInt8)} (h : Shorter one) {b : UInt8} {st st2 : σ} {s s2 r : List UInt8} (h1 : one st (jblk s) = .ok (st2, s2)) (h2 : jblk s2 = 44 :: r) : jLoop one b st s = jLoop one b st2 r := by
  rw [jLoop_eq h, h1]
  dsimp only
  rw [h2]
  dsimp only
  rw [if_pos rfl]
theorem jLoop_err {σ : Type} {one : σ → List UInt8 → Except Int (σ × List UInt8)} (h : Shorter one) {b : UInt8} {st : σ} {s : List UInt8} {c : Int} (h1 : one st (jblk s) = .error c) : jLoop one b st s = .error c := by
  rw [jLoop_eq h, h1]
def yes01 : Value → Nat
  | .bool true => 1
  | _ => 0
/-- What a round of list knows. -/
def LstI {σ : Type} (one : σ → List UInt8 → Except Int (σ × List UInt8)) (endb : UInt8) (I : σ → List UInt8 → World → Prop) (R : Except Int (σ × List UInt8)) (m : Value) (wr : World) : Prop :=
  ∃ st s, I st s wr ∧ s.length ≤ 1000000 ∧ ((m = .bool true ∧ jLoop one endb st s = R) ∨ (m = .bool false ∧ jEnd endb st s = R))
set_option maxRecDepth 100000 in
set_option maxHeartbeats 4000000 in
theorem jrList_any {σ : Type} (F : Nat) (caps : Array Value) (eF : ∀ args w, (callFunc F args).run Tryz.prog w = .ok (.enter F args) w) (one : σ → List UInt8 → Except Int (σ × List UInt8)) (hSh : Shorter one) (b : Nat) (endb : UInt8) (I : σ → List UInt8 → World → Prop) (itf : σ → Nat) (K : World → Prop)
    (hRJ : ∀ st s W, I st s W → RJ W b s (itf st)) (hIK : ∀ st s W, I st s W → K W) (hIB : ∀ st s s' W W', I st s W → But W.heap.size b W W' → RJ W' b s' (itf st) → I st s' W') (hKB : ∀ W W', K W → But W.heap.size b W W' → K W')
    (hOne : ∀ st s W, I st s W → s.length ≤ 1000000 → Calls Tryz.prog F caps W (LEnd I K (one st s)))
    (st : σ) (s : List UInt8) (w : World) (h : I st s w) (hs : s.length ≤ 1000000) :
    Calls Tryz.prog 87 #[.pointer (some ⟨b, 0, none⟩), .string (ofL [endb]), .func (.func F) #[] caps] w (LEnd I K (jList one endb st s)) := by
  have hBl := Lib.hid (fun (st : σ) (s : List UInt8) (W : World) (h : I st s W) => jrBlanks_any b s (itf st) W (hRJ st s W h))
  have hTk := Lib.hid (fun (st : σ) (s : List UInt8) (W : World) (p : ByteArray) (h : I st s W) => jrTake_any b s (itf st) p W (hRJ st s W h))
  have hMu := Lib.hid (fun (st : σ) (s : List UInt8) (W : World) (h : I st s W) => jrMust_any b s (itf st) (ofL [endb]) W (hRJ st s W h))
  have hb1 := Lib.hid (hBl.out st s w h)
  obtain ⟨R, hR⟩ : ∃ R, jList one endb st s = R := ⟨_, rfl⟩
  rw [hR]
  replace hR := Lib.hid hR
  replace hOne := Lib.hid hOne
  replace hIB := Lib.hid hIB
  replace hIK := Lib.hid hIK
  replace hKB := Lib.hid hKB
  have hle := jblk_le s
  have heb : (ofL [endb]).data.toList = [endb] := toList_ofL _
  obtain ⟨EB, hEB⟩ : ∃ EB, ofL [endb] = EB := ⟨_, rfl⟩
  rw [hEB] at heb hMu ⊢
  replace heb := Lib.hid heb
  clear hEB
  go_enter Tryz.func87, Tryz.ntmps87
  go_wp2_with fail
  refine hb1.out.mono ?_
  rintro e w1 ⟨rfl, hR1, hB1⟩
  have h1 := hIB.out st s (jblk s) w w1 h hB1 hR1
  have ht1 := hTk.out st (jblk s) w1 EB h1
  rw [heb.out] at ht1
  clear hb1 h hR1 hB1
  unfold jtk at ht1
  by_cases hpre : ([endb] : List UInt8).isPrefixOf (jblk s) = true
  · obtain ⟨r, hr⟩ := pre_cons hpre
    simp only [hpre, if_true] at ht1
    have hR' := hR.out
    rw [jList_yes hr] at hR'
    subst hR'
    rw [hr] at ht1
    replace ht1 := Lib.hid ht1
    replace h1 := Lib.hid h1
    clear hpre hR hr
    go_wp2_with fail
    refine ht1.out.mono ?_
    rintro e w2 ⟨rfl, hR2, hB2⟩
    have h2 := Lib.hid (hIB.out st _ _ w1 w2 h1.out hB2 hR2)
    clear ht1 hR2 hB2
    go_wp2_with fail
    go_end0
    exact ⟨rfl, h2.out⟩
  · have hpf : ([endb] : List UInt8).isPrefixOf (jblk s) = false := Bool.eq_false_iff.2 hpre
    simp only [hpf, Bool.false_eq_true, if_false] at ht1
    have hR' := hR.out
    rw [jList_no hpre] at hR'
    replace ht1 := Lib.hid ht1
    replace h1 := Lib.hid h1
    clear hpre hR hpf
    obtain ⟨s0, hs0⟩ : ∃ s0, jblk s = s0 := ⟨_, rfl⟩
    rw [hs0] at hR' hle ht1 h1
    go_wp2_with fail
    refine ht1.out.mono ?_
    rintro e w2 ⟨rfl, hR2, hB2⟩
    have h2 : LstI one endb I R (.bool true) w2 := ⟨st, s0, hIB.out st _ _ w1 w2 h1.out hB2 hR2, by omega, .inl ⟨rfl, hR'⟩⟩
    replace h2 := Lib.hid h2
    clear ht1 hR2 hB2 h1 hR' hs0 hle hs
    go_wp2_with fail
    go_loopw [6] (fun m wr => LstI one endb I R m wr) (fun m wr => 2 * lenAt wr b + yes01 m)
    case atStart => exact h2.out
    case round =>
      obtain ⟨st', s', hI, hln, ⟨rfl, hL⟩ | ⟨rfl, hL⟩⟩ := hrel
      · clear h2
        have hm := lenAt_of (hRJ st' s' wr hI)
        have hbb := Lib.hid (hBl.out st' s' wr hI)
        have hle := jblk_le s'
        replace hI := Lib.hid hI
        replace hL := Lib.hid hL
        go_wp2_with fail
        refine hbb.out.mono ?_
        rintro e w3 ⟨rfl, hR3, hB3⟩
        have hI3 := hIB.out st' s' (jblk s') wr w3 hI.out hB3 hR3
        have h1c := hOne.out st' (jblk s') w3 hI3 (by omega)
        obtain ⟨X, hX⟩ : ∃ X, one st' (jblk s') = X := ⟨_, rfl⟩
        rw [hX] at h1c
        replace hX := Lib.hid hX
        replace h1c := Lib.hid h1c
        clear hbb hI hR3 hB3 hI3
        go_wp2_with fail
        refine h1c.out.mono ?_
        intro e w4 hx
        clear h1c
        rcases X with c | ⟨st2, s2⟩
        · obtain ⟨rfl, hK⟩ := hx
          have hL' := hL.out
          rw [jLoop_err hSh hX.out] at hL'
          subst hL'
          exact ⟨rfl, rfl, hK⟩
        · obtain ⟨rfl, hI4⟩ := hx
          have hl2 := hSh _ _ _ _ hX.out
          have hle2 := jblk_le s2
          have hbb := Lib.hid (hBl.out st2 s2 w4 hI4)
          replace hI4 := Lib.hid hI4
          go_wp2_with fail
          refine hbb.out.mono ?_
          rintro e w5 ⟨rfl, hR5, hB5⟩
          have hI5 := hIB.out st2 s2 (jblk s2) w4 w5 hI4.out hB5 hR5
          have htk := hTk.out st2 (jblk s2) w5 ⟨#[44]⟩ hI5
          have hx2 : (⟨#[44]⟩ : ByteArray).data.toList = [44] := rfl
          rw [hx2] at htk
          unfold jtk at htk
          clear hbb hI4 hR5 hB5 hx2
          by_cases hpre : ([44] : List UInt8).isPrefixOf (jblk s2) = true
          · obtain ⟨r, hr⟩ := pre_cons hpre
            simp only [hpre, if_true] at htk
            have hL' := hL.out
            rw [jLoop_more hSh hX.out hr] at hL'
            rw [hr] at htk hI5 hle2
            replace htk := Lib.hid htk
            replace hI5 := Lib.hid hI5
            replace hL' := Lib.hid hL'
            clear hpre hL hX hr
            go_wp2_with fail
            refine htk.out.mono ?_
            rintro e w6 ⟨rfl, hR6, hB6⟩
            have hI6 := hIB.out st2 _ _ w5 w6 hI5.out hB6 hR6
            have hm6 : 2 * lenAt w6 b + 1 < 2 * lenAt wr b + 1 := by
              rw [lenAt_of hR6, hm]
              simp at hle2 ⊢
              omega
            have hfin : LstI one endb I R (.bool true) w6 := ⟨st2, r, hI6, by simp at hle2; omega, .inl ⟨rfl, hL'.out⟩⟩
            replace hfin := Lib.hid hfin
            replace hm6 := Lib.hid hm6
            clear htk hI5 hR6 hB6 hI6 hm
            go_wp2_with fail
            go_roundw
            case rel => exact hfin.out
            case measure => exact hm6.out
          · have hpf : ([44] : List UInt8).isPrefixOf (jblk s2) = false := Bool.eq_false_iff.2 hpre
            simp only [hpf, Bool.false_eq_true, if_false] at htk
            have hL' := hL.out
            rw [jLoop_end hSh hX.out hpre] at hL'
            replace htk := Lib.hid htk
            replace hI5 := Lib.hid hI5
            replace hL' := Lib.hid hL'
            clear hpre hL hX hpf
            go_wp2_with fail
            refine htk.out.mono ?_
            rintro e w6 ⟨rfl, hR6, hB6⟩
            have hI6 := hIB.out st2 _ _ w5 w6 hI5.out hB6 hR6
            have hm6 : 2 * lenAt w6 b + 0 < 2 * lenAt wr b + 1 := by
              rw [lenAt_of hR6, hm]
              omega
            have hfin : LstI one endb I R (.bool false) w6 := ⟨st2, _, hI6, by omega, .inr ⟨rfl, hL'.out⟩⟩
            replace hfin := Lib.hid hfin
            replace hm6 := Lib.hid hm6
            clear htk hI5 hR6 hB6 hI6 hm
            go_wp2_with fail
            go_roundw
            case rel => exact hfin.out
            case measure => exact hm6.out
      · clear h2
        have hmu := hMu.out st' s' wr hI
        rw [heb.out] at hmu
        unfold jEnd at hL
        by_cases hpre : ([endb] : List UInt8).isPrefixOf s' = true
        · rw [if_pos hpre] at hL
          subst hL
          simp only [hpre, if_true] at hmu
          replace hmu := Lib.hid hmu
          replace hI := Lib.hid hI
          clear hpre
          go_wp2_with fail
          refine hmu.out.mono ?_
          rintro e w3 ⟨hB3, rfl, hR3⟩
          have hI3 := Lib.hid (hIB.out st' s' _ wr w3 hI.out hB3 hR3)
          clear hmu hI hB3 hR3
          go_wp2_with fail
          go_end0
          exact ⟨rfl, hI3.out⟩
        · rw [if_neg hpre] at hL
          subst hL
          simp only [if_neg hpre] at hmu
          replace hmu := Lib.hid hmu
          replace hI := Lib.hid hI
          clear hpre
          go_wp2_with fail
          refine hmu.out.mono ?_
          rintro e w3 ⟨hB3, rfl⟩
          exact ⟨rfl, rfl, hKB.out wr w3 (hIK.out st' s' wr hI.out) hB3⟩
end Go.Proofs.YtlnkjacbdolhnaaGreatDoor


/-
  Rows of names, values put together: what given rests on (law by law).
-/
namespace Go.Proofs.YtlnkjacbdolhnaaGreatDoor
open Go.RowKit

theorem infoS : (Tryz.prog.info? 9).map (fun i => (i.zero, i.size, i.bytes)) = some (some (.string ByteArray.empty), 1, 16) := by kernel_rfl
def NamesPost (n : List ByteArray) (W : World) (v' : Value) (W' : World) : Prop := (∃ gn, W.heap.size ≤ gn ∧ NamO W' 9 W.heap.size W'.heap.size gn v' n) ∧ Below W.heap.size W W'
theorem jl_step_run {P : Program} {ops : Array Oper} {o : Oper} {a : Act} {w : World} {K : Act → World → Prop} {Q : Exit → Act → World → Prop} {E : Prop}
    (hg : o.guard = none) (s x : Operand) (t1 t2 : TypeId) (hop : o.op = Op.call { callee := Callee.builtin Builtin.append, args := #[s, x], argTypes := #[t1, t2] })
    (vs vx v : Value) (w' : World) (hs : a.eval s = vs) (hx : a.eval x = vx) (hrun : (Builtin.append_ #[t1, t2] o.type #[vs, vx]).run P w = .ok v w') (hK : K (a.put o.dst v) w') :
    if Region.wanted o (yielded ops a.tmps) = true then Oper.wp P o a w K Q else E := by
  have hw : Region.wanted o (yielded ops a.tmps) = true := by simp [Region.wanted, hg]
  rw [if_pos hw]
  unfold Oper.wp
  simp [execOp, hop, resolve, invoke, builtin, hs, hx, hrun, Result.andThen]
  exact hK
/-- Names in a block of the call's own, other than bo. -/
def NamG (w : World) (lo hi bo : Nat) (v : Value) (n : List ByteArray) : Prop := ∃ gn, gn < hi ∧ gn ≠ bo ∧ NamO w 9 lo hi gn v n
theorem NamG.len {w : World} {lo hi bo : Nat} {v : Value} {n : List ByteArray} (h : NamG w lo hi bo v n) : ∃ A c, v = .slice A n.length c := by
  obtain ⟨_, _, _, A, c, rfl, _⟩ := h
  exact ⟨A, c, rfl⟩
theorem NamG.keep {w w' : World} {lo hi bo : Nat} {v : Value} {n : List ByteArray} (h : NamG w lo hi bo v n) (hk : ∀ b, lo ≤ b → b < hi → b ≠ bo → w'.heap[b]? = w.heap[b]?) : NamG w' lo hi bo v n := by
  obtain ⟨gn, h1, h2, A, c, rfl, q⟩ := h
  refine ⟨gn, h1, h2, A, c, rfl, fun hp => ?_⟩
  obtain ⟨e, q1, q2, cs, q3, q4⟩ := q hp
  exact ⟨e, q1, q2, cs, (hk gn q1 q2 h2).trans q3, q4⟩
theorem KidO.name {gl gn gn' lo hi : Nat} {cs : Array Value} {l : List (Jsn × (Nat → Nat → Value → Value → Prop))} {ws : List OE} (h : KidO gl gn lo hi cs l ws) (hg : gn' < lo) : KidO gl gn' lo hi cs l ws :=
  ⟨h.1, fun i x u hx hu => by obtain ⟨q1, q2, q3, q4, q5, q6, q7⟩ := h.2.1 i x u hx hu; exact ⟨q1, q2, q3, q4, q5, by omega, q7⟩, h.2.2⟩
/-- A value of the call's own, out of its row and names that lie ahead of it. -/
theorem mk_own2 {wr : World} {lo lo' B gn : Nat} {tS tJ : TypeId} {v vn : Value} {k : Int} {s : ByteArray} {ns : List ByteArray} {l : List Jsn} (hk0 : 0 ≤ k) (hk1 : k ≤ 255) (h : RowO wr B tS tJ v l) (hlo : lo' ≤ lo ∧ lo' ≤ B) (hg : gn < B) (hBs : B ≤ wr.heap.size)
    (hn : NamO wr tS lo B gn vn ns) : OwnJ wr tS tJ ⟨k, s, ns, l⟩ lo' wr.heap.size vn v := by
  obtain ⟨gl, cs, A, c, ws, hv, h1, h2⟩ := h.kids
  rw [OwnJ_eq]
  refine ⟨hk0, hk1, gn, gl, cs, A, c, ws, hn.keep (fun _ _ _ => rfl) hlo.1 hBs, hv, fun hp => ?_, ((h2 _ (Nat.le_refl _)).name hg).imp hlo.2 (Nat.le_refl _) rfl fun i x x' hx hx' => ?_⟩
  · obtain ⟨q1, q2, q3, q4⟩ := h1 hp
    exact ⟨q1, by omega, q3, by omega, q4⟩
  · rw [hx] at hx'
    injection hx' with e
    subst e
    exact ⟨rfl, fun _ _ _ _ _ _ h => h⟩
theorem bel_drew {B : Nat} {a w : World} (h : Below B a w) : Below B a w.drew := ⟨h.os, h.tape, h.output, h.size, h.block⟩
end Go.Proofs.YtlnkjacbdolhnaaGreatDoor
