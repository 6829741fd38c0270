/-
  The walks of the document's digit, Check and Print over JSON values, over contracts of form and text.
-/
import Derived.Test.YtdjfoabinjfnfaaGreatDoorM02
import Derived.Test.YtdjfoabinjfnfaaGreatDoorM01
import Derived.Test.YtdjfoabinjfnfaaGreatDoorM00
import Derived.Lib.SlBytesRow
import Derived.Lib.Hide
namespace Go.Proofs.YtdjfoabinjfnfaaGreatDoor
open Go.RowKit
def FormSays (f : Nat) (F : Jsn → Bool) : Prop := ∀ (j : Jsn) (X : Nat → Prop) (w : World) (vn vl : Value), JV w X j vn vl → jbulk j ≤ 1000000 →
    Calls Tryz.prog f #[.agg #[.int .u8 j.kind, .string j.text, vn, vl]] w fun e w' => e = .returned (.bool (F j)) ∧ Below w.heap.size w w'
theorem box_step {w W W' : World} {k : Int} {s : ByteArray} {vn vl : Value} (h : Cel W w.heap.size 25 #[.int .u8 k, .string s, vn, vl] ∧ Below w.heap.size w W) (hb : Below W.heap.size W W') : Cel W' w.heap.size 25 #[.int .u8 k, .string s, vn, vl] ∧ Below w.heap.size w W' :=
  ⟨h.1.below hb h.1.lt, h.2.trans (hb.mono (Nat.le_of_lt h.1.lt))⟩
theorem box_cells {W : World} {b : Nat} {k : Int} {s : ByteArray} {vn vl : Value} (h : Cel W b 25 #[.int .u8 k, .string s, vn, vl]) : W.cell? ⟨b, 0, none⟩ = some (.int .u8 k) ∧ W.cell? ⟨b, 1, none⟩ = some (.string s) ∧ W.cell? ⟨b, 2, none⟩ = some vn ∧ W.cell? ⟨b, 3, none⟩ = some vl :=
  ⟨h.cell 0, h.cell 1, h.cell 2, h.cell 3⟩
set_option maxHeartbeats 2000000 in
theorem refCheck_any (Own : List UInt8 → List UInt8 × Int) (Val : List UInt8 → Bool) (hform : FormSays 91 (jform Own Val)) : ∀ (j : Jsn) (X : Nat → Prop) (w : World) (vn vl : Value), JV w X j vn vl → jbulk j ≤ 1000000 →
    Calls Tryz.prog 48 #[.agg #[.int .u8 j.kind, .string j.text, vn, vl]] w fun e w' => e = .returned (.int .i64 (jcheck Own Val j)) ∧ Below w.heap.size w w' := by
  intro j X w vn vl hV hbk
  obtain ⟨W0, hW0⟩ : ∃ W0, w.alloc (.cells #[.int .u8 j.kind, .string j.text, vn, vl] 25) = W0 := ⟨_, rfl⟩
  have hB0 : Below w.heap.size w W0 := by rw [← hW0]; exact (Below.refl _ _).alloc (Nat.le_refl _) _
  have hC0 : Cel W0 w.heap.size 25 #[.int .u8 j.kind, .string j.text, vn, vl] := by rw [← hW0]; exact Cel.fresh _ _ _
  have hcb := jcount_bulk j
  have hdb := jdeep_le_count j
  have hD := Lib.hid (fun (wr : World) (hB : Below w.heap.size w wr) => refDeep_any j X wr vn vl (hV.later hB) (by omega) (by omega))
  have hN := Lib.hid (fun (wr : World) (hB : Below w.heap.size w wr) => refCount_any j X wr vn vl (hV.later hB) (by omega))
  have hF := Lib.hid (fun (wr : World) (hB : Below w.heap.size w wr) => hform j X wr vn vl (hV.later hB) hbk)
  have hT := Lib.hid (fun (wr : World) (hB : Below w.heap.size w wr) => refTwice_any j X wr vn vl (hV.later hB) (by omega))
  obtain ⟨R, hR⟩ : ∃ R, jcheck Own Val j = R := ⟨_, rfl⟩
  rw [hR]
  unfold jcheck at hR
  obtain ⟨An, nn, cn, Al, nl, cl, rfl, rfl⟩ := hV.forms
  obtain ⟨k, s, n, l⟩ := j
  obtain ⟨d, hd⟩ : ∃ d, jdeep ⟨k, s, n, l⟩ = d := ⟨_, rfl⟩
  obtain ⟨m, hm⟩ : ∃ m, jcount ⟨k, s, n, l⟩ = m := ⟨_, rfl⟩
  obtain ⟨f, hf⟩ : ∃ f, jform Own Val ⟨k, s, n, l⟩ = f := ⟨_, rfl⟩
  obtain ⟨t, ht⟩ : ∃ t, jtwice ⟨k, s, n, l⟩ = t := ⟨_, rfl⟩
  rw [hd] at hD hR
  rw [hm] at hN hR
  rw [hf] at hF hR
  rw [ht] at hT hR
  clear hd hm hf ht hV hform hcb hdb
  dsimp only at hW0 hC0 hD hN hF hT ⊢
  replace hR := Lib.hid hR
  have h0 := Lib.hid (And.intro hC0 hB0)
  obtain ⟨p0, p1, p2, p3⟩ := box_cells hC0
  replace hW0 := Lib.hid hW0
  clear hC0 hB0 hbk
  go_enter Tryz.func48, Tryz.ntmps48
  go_wp2_with fail
  rw [hW0.out]
  clear hW0
  refine (hD.out _ h0.out.2).mono ?_
  rintro e w1 ⟨rfl, hb⟩
  have h1 := Lib.hid (box_step h0.out hb)
  clear p0 p1 p2 p3 h0 hb hD
  obtain ⟨p0, p1, p2, p3⟩ := box_cells h1.out.1
  by_cases c1 : 64 < d
  · have e1 : R = 61 := by rw [← hR.out, if_pos c1]
    subst e1
    go_wp2_with fail
    go_ret
    exact ⟨rfl, h1.out.2⟩
  replace hR := Lib.hid (by have := hR.out; rwa [if_neg c1] at this)
  go_wp2_with fail
  refine (hN.out _ h1.out.2).mono ?_
  rintro e w2 ⟨rfl, hb⟩
  have h2 := Lib.hid (box_step h1.out hb)
  clear p0 p1 p2 p3 h1 hb hN
  obtain ⟨p0, p1, p2, p3⟩ := box_cells h2.out.1
  by_cases c2 : 65536 < m
  · have e1 : R = 40 := by rw [← hR.out, if_pos c2]
    subst e1
    go_wp2_with fail
    go_ret
    exact ⟨rfl, h2.out.2⟩
  replace hR := Lib.hid (by have := hR.out; rwa [if_neg c2] at this)
  go_wp2_with fail
  refine (hF.out _ h2.out.2).mono ?_
  rintro e w3 ⟨rfl, hb⟩
  have h3 := Lib.hid (box_step h2.out hb)
  clear p0 p1 p2 p3 h2 hb hF
  obtain ⟨p0, p1, p2, p3⟩ := box_cells h3.out.1
  rcases f with _ | _
  · have e1 : R = 4 := by rw [← hR.out, if_pos rfl]
    subst e1
    go_wp2_with fail
    go_ret
    exact ⟨rfl, h3.out.2⟩
  replace hR := Lib.hid (by have := hR.out; rwa [if_neg (by decide)] at this)
  go_wp2_with fail
  refine (hT.out _ h3.out.2).mono ?_
  rintro e w4 ⟨rfl, hb⟩
  have h4 := Lib.hid (box_step h3.out hb)
  clear p0 p1 p2 p3 h3 hb hT
  rcases t with _ | _
  · have e1 : R = 0 := by rw [← hR.out, if_neg (by decide)]
    subst e1
    go_wp2_with fail
    go_ret
    exact ⟨rfl, h4.out.2⟩
  · have e1 : R = 6 := by rw [← hR.out, if_pos rfl]
    subst e1
    go_wp2_with fail
    go_ret
    exact ⟨rfl, h4.out.2⟩
theorem check_form {Own : List UInt8 → List UInt8 × Int} {Val : List UInt8 → Bool} {j : Jsn} (h : jcheck Own Val j = 0) : jform Own Val j = true := by
  unfold jcheck at h
  by_cases h1 : 64 < jdeep j
  · rw [if_pos h1] at h; cases h
  rw [if_neg h1] at h
  by_cases h2 : 65536 < jcount j
  · rw [if_pos h2] at h; cases h
  rw [if_neg h2] at h
  by_cases h3 : jform Own Val j = false
  · rw [if_pos h3] at h; cases h
  · simpa using h3
def TextSays (f : Nat) (G : Jsn → Bool) (F : Jsn → List UInt8) : Prop := ∀ (j : Jsn) (X : Nat → Prop) (w : World) (vn vl : Value), JV w X j vn vl → jbulk j ≤ 1000000 → G j = true →
    Calls Tryz.prog f #[.agg #[.int .u8 j.kind, .string j.text, vn, vl]] w fun e w' => e = .returned (.string ⟨(F j).toArray⟩) ∧ Below w.heap.size w w'
theorem bytes_row_j (V : World) (l : List UInt8) :
    (convert 108 9 (.slice (some ⟨V.heap.size, 0, none⟩) l.length l.length)).run Tryz.prog (V.alloc (.cells (l.map fun c => Value.int .u8 (c.toNat : Int)).toArray 5)) = .ok (.string ⟨l.toArray⟩) (V.alloc (.cells (l.map fun c => Value.int .u8 (c.toNat : Int)).toArray 5)) := by
  have hs : (⟨l.toArray⟩ : ByteArray).size = l.length := by simp [ByteArray.size]
  have hb : Lib.Bytes (V.alloc (.cells (l.map fun c => Value.int .u8 (c.toNat : Int)).toArray 5)) V.heap.size 0 ⟨l.toArray⟩ := by
    intro i hi
    have hi' : i < l.length := by omega
    have hc : (l.map fun c => Value.int .u8 (c.toNat : Int)).toArray[0 + i]? = some (.int .u8 ((⟨l.toArray⟩ : ByteArray)[i].toNat : Int)) := by
      have e : (⟨l.toArray⟩ : ByteArray)[i] = l[i] := by rfl
      rw [e, Nat.zero_add]
      simp [hi']
    rw [World.cell?_alloc_at _ _ _ _ rfl]
    exact hc
  have := Lib.run_convert_whole (P := Tryz.prog) (V.alloc (.cells (l.map fun c => Value.int .u8 (c.toNat : Int)).toArray 5)) 108 5 9 Tryz.underlying108 Tryz.underlying5 Tryz.underlying9 V.heap.size 0 ⟨l.toArray⟩ hb l.length
  rw [hs] at this
  exact this
theorem u8_nat {a : Nat} (h : a < 256) : ((UInt8.ofNat a).toNat : Int) = a := by rw [UInt8.toNat_ofNat']; omega
theorem cv_of {V : World} {l : List UInt8} {cs : Array Value} {n : Nat} (h : (l.map fun c => Value.int .u8 (c.toNat : Int)).toArray = cs) (hn : l.length = n) {R : ByteArray} (hR : R = ⟨l.toArray⟩) :
    (convert 108 9 (.slice (some ⟨V.heap.size, 0, none⟩) n n)).run Tryz.prog (V.alloc (.cells cs 5)) = .ok (.string R) (V.alloc (.cells cs 5)) := by
  subst h hn hR; exact bytes_row_j V l
theorem rput_nat (q : Nat) : rput (q : Int) = (rputN q).map UInt8.ofNat := by rw [rput_pos (by omega), Int.toNat_natCast]
theorem put_cv1 (p : Int) (h0 : 0 ≤ p) (h1 : p < 128) (V : World) : (convert 108 9 (.slice (some ⟨V.heap.size, 0, none⟩) 1 1)).run Tryz.prog (V.alloc (.cells #[.int .u8 p] 5)) = .ok (.string ⟨(rput p).toArray⟩) (V.alloc (.cells #[.int .u8 p] 5)) := by
  obtain ⟨q, rfl⟩ := Int.eq_ofNat_of_zero_le h0
  refine cv_of (l := [UInt8.ofNat q]) ?_ rfl ?_
  · simp only [List.map_cons, List.map_nil, u8_nat (show q < 256 by omega)]
  · rw [rput_nat, rputN_1 (by omega)]; rfl
theorem put_cv2 (p : Int) (h0 : 128 ≤ p) (h1 : p < 2048) : ∃ a b : Int, Int.tdiv p 64 = a ∧ Int.tmod p 64 = b ∧ 0 ≤ a ∧ a < 32 ∧ 0 ≤ b ∧ b < 64 ∧
    ∀ V : World, (convert 108 9 (.slice (some ⟨V.heap.size, 0, none⟩) 2 2)).run Tryz.prog (V.alloc (.cells #[.int .u8 (192 + a), .int .u8 (128 + b)] 5)) = .ok (.string ⟨(rput p).toArray⟩) (V.alloc (.cells #[.int .u8 (192 + a), .int .u8 (128 + b)] 5)) := by
  obtain ⟨q, rfl⟩ := Int.eq_ofNat_of_zero_le (show 0 ≤ p by omega)
  refine ⟨((q / 64 : Nat) : Int), ((q % 64 : Nat) : Int), (Int.ofNat_tdiv q 64).symm, (Int.ofNat_tmod q 64).symm, by omega, by omega, by omega, by omega, fun V => cv_of (l := [UInt8.ofNat (192 + q / 64), UInt8.ofNat (128 + q % 64)]) ?_ rfl ?_⟩
  · simp only [List.map_cons, List.map_nil, u8_nat (show 192 + q / 64 < 256 by omega), u8_nat (show 128 + q % 64 < 256 by omega), Int.natCast_add, Int.cast_ofNat_Int]
  · rw [rput_nat, rputN_2 (by omega) (by omega)]; rfl
theorem put_cv3 (p : Int) (h0 : 2048 ≤ p) (h1 : p < 65536) (h2 : ¬ (55296 ≤ p ∧ p ≤ 57343)) : ∃ a m b c : Int, Int.tdiv p 4096 = a ∧ Int.tdiv p 64 = m ∧ Int.tmod m 64 = b ∧ Int.tmod p 64 = c ∧ 0 ≤ a ∧ a < 16 ∧ 0 ≤ m ∧ m < 1024 ∧ 0 ≤ b ∧ b < 64 ∧ 0 ≤ c ∧ c < 64 ∧
    ∀ V : World, (convert 108 9 (.slice (some ⟨V.heap.size, 0, none⟩) 3 3)).run Tryz.prog (V.alloc (.cells #[.int .u8 (224 + a), .int .u8 (128 + b), .int .u8 (128 + c)] 5)) = .ok (.string ⟨(rput p).toArray⟩) (V.alloc (.cells #[.int .u8 (224 + a), .int .u8 (128 + b), .int .u8 (128 + c)] 5)) := by
  obtain ⟨q, rfl⟩ := Int.eq_ofNat_of_zero_le (show 0 ≤ p by omega)
  refine ⟨((q / 4096 : Nat) : Int), ((q / 64 : Nat) : Int), ((q / 64 % 64 : Nat) : Int), ((q % 64 : Nat) : Int), (Int.ofNat_tdiv q 4096).symm, (Int.ofNat_tdiv q 64).symm, (Int.ofNat_tmod _ 64).symm, (Int.ofNat_tmod q 64).symm, by omega, by omega, by omega, by omega, by omega, by omega, by omega, by omega,
    fun V => cv_of (l := [UInt8.ofNat (224 + q / 4096), UInt8.ofNat (128 + q / 64 % 64), UInt8.ofNat (128 + q % 64)]) ?_ rfl ?_⟩
  · simp only [List.map_cons, List.map_nil, u8_nat (show 224 + q / 4096 < 256 by omega), u8_nat (show 128 + q / 64 % 64 < 256 by omega), u8_nat (show 128 + q % 64 < 256 by omega), Int.natCast_add, Int.cast_ofNat_Int]
  · rw [rput_nat, rputN_3 (by omega) (by omega) (by omega)]; rfl
theorem put_cv4 (p : Int) (h0 : 65536 ≤ p) (h1 : p ≤ 1114111) : ∃ a n d m b c : Int, Int.tdiv p 262144 = a ∧ Int.tdiv p 4096 = n ∧ Int.tmod n 64 = d ∧ Int.tdiv p 64 = m ∧ Int.tmod m 64 = b ∧ Int.tmod p 64 = c ∧ 0 ≤ a ∧ a < 16 ∧ 0 ≤ n ∧ n < 2000 ∧ 0 ≤ d ∧ d < 64 ∧ 0 ≤ m ∧ m < 20000 ∧ 0 ≤ b ∧ b < 64 ∧ 0 ≤ c ∧ c < 64 ∧
    ∀ V : World, (convert 108 9 (.slice (some ⟨V.heap.size, 0, none⟩) 4 4)).run Tryz.prog (V.alloc (.cells #[.int .u8 (240 + a), .int .u8 (128 + d), .int .u8 (128 + b), .int .u8 (128 + c)] 5)) = .ok (.string ⟨(rput p).toArray⟩) (V.alloc (.cells #[.int .u8 (240 + a), .int .u8 (128 + d), .int .u8 (128 + b), .int .u8 (128 + c)] 5)) := by
  obtain ⟨q, rfl⟩ := Int.eq_ofNat_of_zero_le (show 0 ≤ p by omega)
  refine ⟨((q / 262144 : Nat) : Int), ((q / 4096 : Nat) : Int), ((q / 4096 % 64 : Nat) : Int), ((q / 64 : Nat) : Int), ((q / 64 % 64 : Nat) : Int), ((q % 64 : Nat) : Int), (Int.ofNat_tdiv q 262144).symm, (Int.ofNat_tdiv q 4096).symm, (Int.ofNat_tmod _ 64).symm, (Int.ofNat_tdiv q 64).symm, (Int.ofNat_tmod _ 64).symm, (Int.ofNat_tmod q 64).symm, by omega, by omega, by omega, by omega, by omega, by omega, by omega, by omega, by omega, by omega, by omega, by omega,
    fun V => cv_of (l := [UInt8.ofNat (240 + q / 262144), UInt8.ofNat (128 + q / 4096 % 64), UInt8.ofNat (128 + q / 64 % 64), UInt8.ofNat (128 + q % 64)]) ?_ rfl ?_⟩
  · simp only [List.map_cons, List.map_nil, u8_nat (show 240 + q / 262144 < 256 by omega), u8_nat (show 128 + q / 4096 % 64 < 256 by omega), u8_nat (show 128 + q / 64 % 64 < 256 by omega), u8_nat (show 128 + q % 64 < 256 by omega), Int.natCast_add, Int.cast_ofNat_Int]
  · rw [rput_nat, rputN_4 (by omega) (by omega)]; rfl
theorem u8w {x : Int} (h0 : 0 ≤ x) (h1 : x < 256) : IntKind.u8.wrap x = x := by rw [IntKind.wrap_u8]; omega
def PutEnd (p : Int) (w : World) (e : Ending) (w' : World) : Prop := e = .returned (.string ⟨(rput p).toArray⟩) ∧ Below w.heap.size w w'
theorem putEnd_of {p : Int} {w : World} {R : ByteArray} (hR : (⟨(rput p).toArray⟩ : ByteArray) = R) {w' : World} (h : Below w.heap.size w w') : PutEnd p w (.returned (.string R)) w' := ⟨by rw [hR], h⟩
theorem rput_none {p : Int} (h : p < 0 ∨ 1114111 < p ∨ (55296 ≤ p ∧ p ≤ 57343)) : (⟨(rput p).toArray⟩ : ByteArray) = ⟨#[]⟩ := by
  rcases h with h | h
  · rw [rput_neg h]
  · obtain ⟨q, rfl⟩ := Int.eq_ofNat_of_zero_le (show 0 ≤ p by omega)
    rw [rput_nat, rputN_0 (by omega)]; rfl
set_option maxHeartbeats 2000000 in
theorem refPut_any (p : Int) (w : World) :
    Calls Tryz.prog 189 #[.int .i64 p] w (PutEnd p w) := by
  by_cases hn : p < 0
  · have hR := Lib.hid (rput_none (p := p) (.inl hn))
    go_enter Tryz.func189, Tryz.ntmps189
    go_wp2
    go_ret
    exact putEnd_of hR.out (Below.refl _ _)
  by_cases d1 : 1114111 < p
  · have hR := Lib.hid (rput_none (p := p) (.inr (.inl d1)))
    go_enter Tryz.func189, Tryz.ntmps189
    go_wp2
    go_ret
    exact putEnd_of hR.out (Below.refl _ _)
  by_cases d4 : p < 128
  · have d2 : ¬ 55296 ≤ p := by omega
    have hcv := fun V => put_cv1 p (by omega) d4 V
    have hw := u8w (x := p) (by omega) (by omega)
    obtain ⟨R, hR⟩ : ∃ R : ByteArray, ⟨(rput p).toArray⟩ = R := ⟨_, rfl⟩
    simp only [hR] at hcv
    replace hR := Lib.hid hR
    go_enter Tryz.func189, Tryz.ntmps189
    go_wp2
    go_ret
    exact putEnd_of hR.out ((Below.refl _ _).alloc (Nat.le_refl _) _)
  by_cases d5 : p < 2048
  · have d2 : ¬ 55296 ≤ p := by omega
    obtain ⟨a, b, e1, e2, a0, a1, b0, b1, hcv⟩ := put_cv2 p (by omega) d5
    have w1 := u8w (x := 192 + a) (by omega) (by omega)
    have w2 := u8w (x := 128 + b) (by omega) (by omega)
    obtain ⟨R, hR⟩ : ∃ R : ByteArray, ⟨(rput p).toArray⟩ = R := ⟨_, rfl⟩
    simp only [hR] at hcv
    replace hR := Lib.hid hR
    go_enter Tryz.func189, Tryz.ntmps189
    go_wp2
    go_ret
    exact putEnd_of hR.out ((Below.refl _ _).alloc (Nat.le_refl _) _)
  by_cases d6 : p < 65536
  · by_cases d7 : 55296 ≤ p ∧ p ≤ 57343
    · obtain ⟨d2, d3⟩ := d7
      have hR := Lib.hid (rput_none (p := p) (.inr (.inr ⟨d2, d3⟩)))
      go_enter Tryz.func189, Tryz.ntmps189
      go_wp2
      go_ret
      exact putEnd_of hR.out (Below.refl _ _)
    obtain ⟨a, m, b, c, e1, e2, e3, e4, a0, a1, m0, m1, b0, b1, c0, c1, hcv⟩ := put_cv3 p (by omega) d6 d7
    have w1 := u8w (x := 224 + a) (by omega) (by omega)
    have w2 := u8w (x := 128 + b) (by omega) (by omega)
    have w3 := u8w (x := 128 + c) (by omega) (by omega)
    obtain ⟨R, hR⟩ : ∃ R : ByteArray, ⟨(rput p).toArray⟩ = R := ⟨_, rfl⟩
    simp only [hR] at hcv
    replace hR := Lib.hid hR
    by_cases d2 : 55296 ≤ p
    · have d3 : ¬ p ≤ 57343 := by omega
      clear d7
      go_enter Tryz.func189, Tryz.ntmps189
      go_wp2
      go_ret
      exact putEnd_of hR.out ((Below.refl _ _).alloc (Nat.le_refl _) _)
    · clear d7
      go_enter Tryz.func189, Tryz.ntmps189
      go_wp2
      go_ret
      exact putEnd_of hR.out ((Below.refl _ _).alloc (Nat.le_refl _) _)
  · have d2 : 55296 ≤ p := by omega
    have d3 : ¬ p ≤ 57343 := by omega
    obtain ⟨a, n, d, m, b, c, e1, e5, e6, e2, e3, e4, a0, a1, n0, n1, f0, f1, m0, m1, b0, b1, c0, c1, hcv⟩ := put_cv4 p (by omega) (by omega)
    have w1 := u8w (x := 240 + a) (by omega) (by omega)
    have w4 := u8w (x := 128 + d) (by omega) (by omega)
    have w2 := u8w (x := 128 + b) (by omega) (by omega)
    have w3 := u8w (x := 128 + c) (by omega) (by omega)
    obtain ⟨R, hR⟩ : ∃ R : ByteArray, ⟨(rput p).toArray⟩ = R := ⟨_, rfl⟩
    simp only [hR] at hcv
    replace hR := Lib.hid hR
    go_enter Tryz.func189, Tryz.ntmps189
    go_wp2
    go_ret
    exact putEnd_of hR.out ((Below.refl _ _).alloc (Nat.le_refl _) _)
def rbp (l : List UInt8) (h : Int) : Nat → Int
  | 0 => 0
  | 1 => ((l.getD 0 0).toNat : Int) - h
  | q + 2 => rbp l h (q + 1) * 64 + (l.getD (q + 1) 0).toNat - 128
theorem rbp_bd (l : List UInt8) (h : Int) (h0 : 0 ≤ h) (h1 : h ≤ 240) (q : Nat) (hq : q ≤ 4) : -100000000 ≤ rbp l h q ∧ rbp l h q ≤ 100000000 := by
  have b0 := (l.getD 0 0).toNat_lt
  have b1 := (l.getD 1 0).toNat_lt
  have b2 := (l.getD 2 0).toNat_lt
  have b3 := (l.getD 3 0).toNat_lt
  have : q = 0 ∨ q = 1 ∨ q = 2 ∨ q = 3 ∨ q = 4 := by omega
  rcases this with rfl | rfl | rfl | rfl | rfl <;> simp only [rbp, Nat.zero_add, Nat.reduceAdd] <;> omega
theorem rbp_step (l : List UInt8) (h : Int) (q : Nat) (hq : 1 ≤ q) : rbp l h (q + 1) = rbp l h q * 64 + (l.getD q 0).toNat - 128 := by
  obtain ⟨k, rfl⟩ : ∃ k, q = k + 1 := ⟨q - 1, by omega⟩
  rfl
theorem rbp_bits (l : List UInt8) (h1 : 1 ≤ l.length) (h4 : l.length ≤ 4) : rbits l = rbp l (rhead l.length) l.length := by
  match l, h1, h4 with
  | [a], _, _ => simp [rbits, rbp]
  | [a, b], _, _ => simp [rbits, rbp]
  | [a, b, c], _, _ => simp [rbits, rbp]
  | [a, b, c, d], _, _ => simp [rbits, rbp]
  | _ :: _ :: _ :: _ :: _ :: _, _, h => simp at h
theorem rhead_bd (n : Nat) : 0 ≤ rhead n ∧ rhead n ≤ 240 := by
  unfold rhead
  by_cases h2 : n = 2
  · rw [if_pos h2]; omega
  by_cases h3 : n = 3
  · rw [if_neg h2, if_pos h3]; omega
  by_cases h4 : n = 4
  · rw [if_neg h2, if_neg h3, if_pos h4]; omega
  · rw [if_neg h2, if_neg h3, if_neg h4]; omega
end Go.Proofs.YtdjfoabinjfnfaaGreatDoor
namespace Go.Proofs.YtdjfoabinjfnfaaGreatDoor
def twl {α : Type} (p : α → Bool) (l : List α) : Nat := (l.takeWhile p).length
theorem twl_le {α : Type} (p : α → Bool) (l : List α) : twl p l ≤ l.length := by
  induction l with
  | nil => simp [twl]
  | cons a l ih =>
    unfold twl at *
    by_cases h : p a = true
    · simp [h]; omega
    · simp [h]
theorem twl_step {α : Type} (p : α → Bool) : ∀ (l : List α) (k : Nat) (c : α), k ≤ twl p l → l[k]? = some c → p c = true → k + 1 ≤ twl p l
  | [], k, c, _, h, _ => by simp at h
  | a :: l, 0, c, _, h, hp => by
    simp at h; subst h
    simp [twl, hp]
  | a :: l, k + 1, c, hk, h, hp => by
    simp at h
    by_cases ha : p a = true
    · have h1 : twl p (a :: l) = twl p l + 1 := by simp [twl, ha]
      rw [h1] at hk ⊢
      have := twl_step p l k c (by omega) h hp
      omega
    · have h1 : twl p (a :: l) = 0 := by simp [twl, ha]
      omega
theorem twl_stop {α : Type} (p : α → Bool) : ∀ (l : List α) (k : Nat) (c : α), k ≤ twl p l → l[k]? = some c → p c = false → twl p l = k
  | [], k, c, _, h, _ => by simp at h
  | a :: l, 0, c, _, h, hp => by
    simp at h; subst h
    simp [twl, hp]
  | a :: l, k + 1, c, hk, h, hp => by
    simp at h
    by_cases ha : p a = true
    · have h1 : twl p (a :: l) = twl p l + 1 := by simp [twl, ha]
      rw [h1] at hk ⊢
      have := twl_stop p l k c (by omega) h hp
      omega
    · have h1 : twl p (a :: l) = 0 := by simp [twl, ha]
      omega
theorem twl_end {α : Type} (p : α → Bool) (l : List α) (k : Nat) (hk : k ≤ twl p l) (h : l.length ≤ k) : twl p l = k := by
  have := twl_le p l
  omega
theorem bytes_at (s : ByteArray) (i : Nat) (h : i < s.size) : s.data.toList[i]? = some s[i] := by
  have h' : i < s.data.size := h
  rw [Array.getElem?_toList, Array.getElem?_eq_getElem h']
  rfl
theorem bytes_len (s : ByteArray) : s.data.toList.length = s.size := by rw [Array.length_toList]; rfl
def isDig (c : UInt8) : Bool := decide (48 ≤ c.toNat) && decide (c.toNat ≤ 57)
theorem isDig_t {c : UInt8} (h : isDig c = true) : 48 ≤ c.toNat ∧ c.toNat ≤ 57 := by simpa [isDig] using h
def runN (l : List UInt8) (i : Nat) : Nat := twl isDig (l.drop i)
theorem runN_le (l : List UInt8) (i : Nat) (h : i ≤ l.length) : i + runN l i ≤ l.length := by
  have := twl_le isDig (l.drop i)
  simp at this
  unfold runN; omega
theorem runN_step (l : List UInt8) (i k : Nat) (c : UInt8) (hk : k ≤ runN l i) (h : l[i + k]? = some c) (hp : isDig c = true) : k + 1 ≤ runN l i :=
  twl_step isDig _ k c hk (by simpa using h) hp
theorem runN_stop (l : List UInt8) (i k : Nat) (c : UInt8) (hk : k ≤ runN l i) (h : l[i + k]? = some c) (hp : isDig c = false) : runN l i = k :=
  twl_stop isDig _ k c hk (by simpa using h) hp
theorem runN_end (l : List UInt8) (i k : Nat) (hk : k ≤ runN l i) (h : l.length ≤ i + k) : runN l i = k :=
  twl_end isDig _ k hk (by simp; omega)
theorem runN_dig (l : List UInt8) (i : Nat) : ∀ j, j < runN l i → ∃ c, l[i + j]? = some c ∧ isDig c = true := by
  intro j hj
  unfold runN twl at hj
  have h1 : ((l.drop i).takeWhile isDig)[j]? = some ((l.drop i).takeWhile isDig)[j] := List.getElem?_eq_getElem hj
  refine ⟨((l.drop i).takeWhile isDig)[j], ?_, ?_⟩
  · have h2 : (l.drop i)[j]? = ((l.drop i).takeWhile isDig ++ (l.drop i).dropWhile isDig)[j]? := by rw [List.takeWhile_append_dropWhile]
    rw [← List.getElem?_drop, h2, List.getElem?_append_left hj, h1]
  · have hm : ((l.drop i).takeWhile isDig)[j] ∈ (l.drop i).takeWhile isDig := List.getElem_mem hj
    have := List.all_takeWhile (p := isDig) (l := l.drop i)
    rw [List.all_eq_true] at this
    exact this _ hm
end Go.Proofs.YtdjfoabinjfnfaaGreatDoor
namespace Go.Proofs.YtdjfoabinjfnfaaGreatDoor
open Go.RowKit
theorem getD_at (s : ByteArray) (k : Nat) (h : k < s.size) : s.data.toList.getD k 0 = s[k] := by
  rw [List.getD_eq_getElem?_getD, bytes_at s k h]; rfl
theorem byte_bd (c : UInt8) : 0 ≤ (c.toNat : Int) ∧ (c.toNat : Int) < 256 := by have := c.toNat_lt; omega
set_option maxHeartbeats 2000000 in
theorem refBits_any (s : ByteArray) (w : World) (h1 : 1 ≤ s.size) (h4 : s.size ≤ 4) :
    Calls Tryz.prog 188 #[.string s] w fun e w' => e = .returned (.int .i64 (rbits s.data.toList)) ∧ Below w.heap.size w w' := by
  have hl : s.data.toList.length = s.size := bytes_len s
  have hrb := rbp_bits s.data.toList (by omega) (by omega)
  rw [hl] at hrb
  obtain ⟨R, hR⟩ : ∃ R, rbits s.data.toList = R := ⟨_, rfl⟩
  rw [hR] at hrb ⊢
  have h0 : 0 < s.size := h1
  by_cases c1 : s.size = 1
  · have e1 : R = (s[0].toNat : Int) := by
      rw [hrb, c1]
      show ((s.data.toList.getD 0 0).toNat : Int) - rhead 1 = _
      rw [getD_at s 0 h1]; simp [rhead]
    subst e1
    clear hR hrb hl
    obtain ⟨d0, d2⟩ := byte_bd s[0]
    go_enter Tryz.func188, Tryz.ntmps188
    go_wp2
    go_ret
    exact ⟨rfl, (Below.refl _ _).alloc (Nat.le_refl _) _⟩
  · obtain ⟨hbd, hbd2⟩ := rhead_bd s.size
    have hst := Lib.hid (fun q (hq : 1 ≤ q) => rbp_step s.data.toList (rhead s.size) q hq)
    have hbp := Lib.hid (fun q (hq : q ≤ 4) => rbp_bd s.data.toList (rhead s.size) hbd hbd2 q hq)
    have h1v : rbp s.data.toList (rhead s.size) 1 = (s[0].toNat : Int) - rhead s.size := by
      show ((s.data.toList.getD 0 0).toNat : Int) - rhead s.size = _
      rw [getD_at s 0 h1]
    have hc : s.size = 2 ∧ rhead s.size = 192 ∨ s.size = 3 ∧ rhead s.size = 224 ∨ s.size = 4 ∧ rhead s.size = 240 := by
      rcases (by omega : s.size = 2 ∨ s.size = 3 ∨ s.size = 4) with h | h | h <;> rw [h] <;> simp [rhead]
    obtain ⟨RB, hRB⟩ : ∃ RB, rbp s.data.toList (rhead s.size) = RB := ⟨_, rfl⟩
    rw [hRB] at hrb h1v
    simp only [hRB] at hst hbp
    clear hRB
    clear hR hl hbd hbd2
    obtain ⟨d0, d2⟩ := byte_bd s[0]
    rcases hc with ⟨hn, hh⟩ | ⟨hn, hh⟩ | ⟨hn, hh⟩
    all_goals
      rw [hh] at h1v
      replace hrb := Lib.hid hrb
      replace h1v := Lib.hid h1v
      clear hh c1
      have h01 : 0 < s.size := h0
      go_enter Tryz.func188, Tryz.ntmps188
      go_wp2_with fail
      go_quiet (fail)
      go_wp2_with fail
      go_loopw [5, 6] (fun o i wr => ∃ (q : Nat) (X : Int), 1 ≤ q ∧ q ≤ s.size ∧ i = .int .i64 q ∧ o = .int .i64 X ∧ RB q = X ∧ Below w.heap.size w wr) (fun _ i _ => s.size - (intOf i).toNat)
      case atStart => exact ⟨1, _, Nat.le_refl _, by omega, rfl, rfl, h1v.out, bel_drewN ((Below.refl _ _).alloc (Nat.le_refl _) _) _⟩
      case round =>
        clear d0 d2
        obtain ⟨q, X, hq1, hq2, rfl, rfl, hX, hB⟩ := hrel
        have hb := hbp.out q (by omega)
        rw [hX] at hb
        obtain ⟨hb1, hb2⟩ := hb
        have hst1 := hst.out q hq1
        rw [hX] at hst1
        replace hB := Lib.hid hB
        by_cases hlt : q < s.size
        · have hg := getD_at s q hlt
          rw [hg] at hst1
          replace hX := Lib.hid hX
          clear hg
          obtain ⟨f0, f2⟩ := byte_bd s[q]
          obtain ⟨b, hb⟩ : ∃ b : Int, (s[q].toNat : Int) = b := ⟨_, rfl⟩
          rw [hb] at f0 f2 hst1
          replace hst1 := Lib.hid hst1
          go_wp2_with fail
          go_roundw
          case rel => exact ⟨q + 1, _, by omega, by omega, by go_num, rfl, hst1.out, hB.out⟩
          case measure => simp [intOf]; omega
        · have hqe : q = s.size := by omega
          have hRX : R = X := by rw [hrb.out, ← hX, hqe]
          subst hRX
          replace hst1 := Lib.hid hst1
          replace hX := Lib.hid hX
          clear hqe
          go_wp2_with fail
          go_ret
          exact ⟨rfl, hB.out⟩
end Go.Proofs.YtdjfoabinjfnfaaGreatDoor
