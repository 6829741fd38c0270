/-
  The walks of the document's Put and bits.
-/
import Derived.Test.YthmojpcaagnfkaaGreatDoorJsV
import Derived.Test.YthmojpcaagnfkaaGreatDoorJsO
import Derived.Lib.SlBytesRow
namespace Go.Proofs.YthmojpcaagnfkaaGreatDoor
open Go.RowKit

/-- A new row of bytes, handed to string(..). -/
theorem bytes_row_j (V : World) (l : List UInt8) :
    (convert 103 9 (.slice (some ⟨V.heap.size, 0, none⟩) l.length l.length)).run Tryz.prog (V.alloc (.cells (l.map fun c => Value.int .u8 (c.toNat : Int)).toArray 5)) = .ok (.string ⟨l.toArray⟩) (V.alloc (.cells (l.map fun c => Value.int .u8 (c.toNat : Int)).toArray 5)) := by
  have hs : (⟨l.toArray⟩ : ByteArray).size = l.length := by simp [ByteArray.size]
  have hb : Lib.Bytes (V.alloc (.cells (l.map fun c => Value.int .u8 (c.toNat : Int)).toArray 5)) V.heap.size 0 ⟨l.toArray⟩ := by
    intro i hi
    have hi' : i < l.length := by omega
    have hc : (l.map fun c => Value.int .u8 (c.toNat : Int)).toArray[0 + i]? = some (.int .u8 ((⟨l.toArray⟩ : ByteArray)[i].toNat : Int)) := by
      have e : (⟨l.toArray⟩ : ByteArray)[i] = l[i] := by rfl
      rw [e, Nat.zero_add]
      simp [hi']
    rw [World.cell?_alloc_at _ _ _ _ rfl]
    exact hc
  have := Lib.run_convert_whole (P := Tryz.prog) (V.alloc (.cells (l.map fun c => Value.int .u8 (c.toNat : Int)).toArray 5)) 103 5 9 Tryz.underlying103 Tryz.underlying5 Tryz.underlying9 V.heap.size 0 ⟨l.toArray⟩ hb l.length
  rw [hs] at this
  exact this
theorem u8_nat {a : Nat} (h : a < 256) : ((UInt8.ofNat a).toNat : Int) = a := by rw [UInt8.toNat_ofNat']; omega

theorem u8_int {x : Int} (h0 : 0 ≤ x) (h : x < 256) : ((UInt8.ofNat x.toNat).toNat : Int) = x := by rw [UInt8.toNat_ofNat']; omega
theorem cv_of {V : World} {l : List UInt8} {cs : Array Value} {n : Nat} (h : (l.map fun c => Value.int .u8 (c.toNat : Int)).toArray = cs) (hn : l.length = n) {R : ByteArray} (hR : R = ⟨l.toArray⟩) :
    (convert 103 9 (.slice (some ⟨V.heap.size, 0, none⟩) n n)).run Tryz.prog (V.alloc (.cells cs 5)) = .ok (.string R) (V.alloc (.cells cs 5)) := by
  subst h hn hR; exact bytes_row_j V l
theorem rput_nat (q : Nat) : rput (q : Int) = (rputN q).map UInt8.ofNat := by rw [rput_pos (by omega), Int.toNat_natCast]
theorem put_cv1 (p : Int) (h0 : 0 ≤ p) (h1 : p < 128) (V : World) : (convert 103 9 (.slice (some ⟨V.heap.size, 0, none⟩) 1 1)).run Tryz.prog (V.alloc (.cells #[.int .u8 p] 5)) = .ok (.string ⟨(rput p).toArray⟩) (V.alloc (.cells #[.int .u8 p] 5)) := by
  obtain ⟨q, rfl⟩ := Int.eq_ofNat_of_zero_le h0
  refine cv_of (l := [UInt8.ofNat q]) ?_ rfl ?_
  · simp only [List.map_cons, List.map_nil, u8_nat (show q < 256 by omega)]
  · rw [rput_nat, rputN_1 (by omega)]; rfl
theorem put_cv2 (p : Int) (h0 : 128 ≤ p) (h1 : p < 2048) : ∃ a b : Int, Int.tdiv p 64 = a ∧ Int.tmod p 64 = b ∧ 0 ≤ a ∧ a < 32 ∧ 0 ≤ b ∧ b < 64 ∧
    ∀ V : World, (convert 103 9 (.slice (some ⟨V.heap.size, 0, none⟩) 2 2)).run Tryz.prog (V.alloc (.cells #[.int .u8 (192 + a), .int .u8 (128 + b)] 5)) = .ok (.string ⟨(rput p).toArray⟩) (V.alloc (.cells #[.int .u8 (192 + a), .int .u8 (128 + b)] 5)) := by
  obtain ⟨q, rfl⟩ := Int.eq_ofNat_of_zero_le (show 0 ≤ p by omega)
  refine ⟨((q / 64 : Nat) : Int), ((q % 64 : Nat) : Int), (Int.ofNat_tdiv q 64).symm, (Int.ofNat_tmod q 64).symm, by omega, by omega, by omega, by omega, fun V => cv_of (l := [UInt8.ofNat (192 + q / 64), UInt8.ofNat (128 + q % 64)]) ?_ rfl ?_⟩
  · simp only [List.map_cons, List.map_nil, u8_nat (show 192 + q / 64 < 256 by omega), u8_nat (show 128 + q % 64 < 256 by omega), Int.natCast_add, Int.cast_ofNat_Int]
  · rw [rput_nat, rputN_2 (by omega) (by omega)]; rfl
theorem put_cv3 (p : Int) (h0 : 2048 ≤ p) (h1 : p < 65536) (h2 : ¬ (55296 ≤ p ∧ p ≤ 57343)) : ∃ a m b c : Int, Int.tdiv p 4096 = a ∧ Int.tdiv p 64 = m ∧ Int.tmod m 64 = b ∧ Int.tmod p 64 = c ∧ 0 ≤ a ∧ a < 16 ∧ 0 ≤ m ∧ m < 1024 ∧ 0 ≤ b ∧ b < 64 ∧ 0 ≤ c ∧ c < 64 ∧
    ∀ V : World, (convert 103 9 (.slice (some ⟨V.heap.size, 0, none⟩) 3 3)).run Tryz.prog (V.alloc (.cells #[.int .u8 (224 + a), .int .u8 (128 + b), .int .u8 (128 + c)] 5)) = .ok (.string ⟨(rput p).toArray⟩) (V.alloc (.cells #[.int .u8 (224 + a), .int .u8 (128 + b), .int .u8 (128 + c)] 5)) := by
  obtain ⟨q, rfl⟩ := Int.eq_ofNat_of_zero_le (show 0 ≤ p by omega)
  refine ⟨((q / 4096 : Nat) : Int), ((q / 64 : Nat) : Int), ((q / 64 % 64 : Nat) : Int), ((q % 64 : Nat) : Int), (Int.ofNat_tdiv q 4096).symm, (Int.ofNat_tdiv q 64).symm, (Int.ofNat_tmod _ 64).symm, (Int.ofNat_tmod q 64).symm, by omega, by omega, by omega, by omega, by omega, by omega, by omega, by omega,
    fun V => cv_of (l := [UInt8.ofNat (224 + q / 4096), UInt8.ofNat (128 + q / 64 % 64), UInt8.ofNat (128 + q % 64)]) ?_ rfl ?_⟩
  · simp only [List.map_cons, List.map_nil, u8_nat (show 224 + q / 4096 < 256 by omega), u8_nat (show 128 + q / 64 % 64 < 256 by omega), u8_nat (show 128 + q % 64 < 256 by omega), Int.natCast_add, Int.cast_ofNat_Int]
  · rw [rput_nat, rputN_3 (by omega) (by omega) (by omega)]; rfl
theorem put_cv4 (p : Int) (h0 : 65536 ≤ p) (h1 : p ≤ 1114111) : ∃ a n d m b c : Int, Int.tdiv p 262144 = a ∧ Int.tdiv p 4096 = n ∧ Int.tmod n 64 = d ∧ Int.tdiv p 64 = m ∧ Int.tmod m 64 = b ∧ Int.tmod p 64 = c ∧ 0 ≤ a ∧ a < 16 ∧ 0 ≤ n ∧ n < 2000 ∧ 0 ≤ d ∧ d < 64 ∧ 0 ≤ m ∧ m < 20000 ∧ 0 ≤ b ∧ b < 64 ∧ 0 ≤ c ∧ c < 64 ∧
    ∀ V : World, (convert 103 9 (.slice (some ⟨V.heap.size, 0, none⟩) 4 4)).run Tryz.prog (V.alloc (.cells #[.int .u8 (240 + a), .int .u8 (128 + d), .int .u8 (128 + b), .int .u8 (128 + c)] 5)) = .ok (.string ⟨(rput p).toArray⟩) (V.alloc (.cells #[.int .u8 (240 + a), .int .u8 (128 + d), .int .u8 (128 + b), .int .u8 (128 + c)] 5)) := by
  obtain ⟨q, rfl⟩ := Int.eq_ofNat_of_zero_le (show 0 ≤ p by omega)
  refine ⟨((q / 262144 : Nat) : Int), ((q / 4096 : Nat) : Int), ((q / 4096 % 64 : Nat) : Int), ((q / 64 : Nat) : Int), ((q / 64 % 64 : Nat) : Int), ((q % 64 : Nat) : Int), (Int.ofNat_tdiv q 262144).symm, (Int.ofNat_tdiv q 4096).symm, (Int.ofNat_tmod _ 64).symm, (Int.ofNat_tdiv q 64).symm, (Int.ofNat_tmod _ 64).symm, (Int.ofNat_tmod q 64).symm, by omega, by omega, by omega, by omega, by omega, by omega, by omega, by omega, by omega, by omega, by omega, by omega,
    fun V => cv_of (l := [UInt8.ofNat (240 + q / 262144), UInt8.ofNat (128 + q / 4096 % 64), UInt8.ofNat (128 + q / 64 % 64), UInt8.ofNat (128 + q % 64)]) ?_ rfl ?_⟩
  · simp only [List.map_cons, List.map_nil, u8_nat (show 240 + q / 262144 < 256 by omega), u8_nat (show 128 + q / 4096 % 64 < 256 by omega), u8_nat (show 128 + q / 64 % 64 < 256 by omega), u8_nat (show 128 + q % 64 < 256 by omega), Int.natCast_add, Int.cast_ofNat_Int]
  · rw [rput_nat, rputN_4 (by omega) (by omega)]; rfl
theorem u8w {x : Int} (h0 : 0 ≤ x) (h1 : x < 256) : IntKind.u8.wrap x = x := by rw [IntKind.wrap_u8]; omega

def PutEnd (p : Int) (w : World) (e : Ending) (w' : World) : Prop := e = .returned (.string ⟨(rput p).toArray⟩) ∧ Below w.heap.size w w'
theorem putEnd_of {p : Int} {w : World} {R : ByteArray} (hR : (⟨(rput p).toArray⟩ : ByteArray) = R) {w' : World} (h : Below w.heap.size w w') : PutEnd p w (.returned (.string R)) w' := ⟨by rw [hR], h⟩
theorem rput_none {p : Int} (h : p < 0 ∨ 1114111 < p ∨ (55296 ≤ p ∧ p ≤ 57343)) : (⟨(rput p).toArray⟩ : ByteArray) = ⟨#[]⟩ := by
  rcases h with h | h
  · rw [rput_neg h]
  · obtain ⟨q, rfl⟩ := Int.eq_ofNat_of_zero_le (show 0 ≤ p by omega)
    rw [rput_nat, rputN_0 (by omega)]; rfl
set_option maxHeartbeats 2000000 in
theorem refPut_any (p : Int) (w : World) :
    Calls Tryz.prog 214 #[.int .i64 p] w (PutEnd p w) := by
  by_cases hn : p < 0
  · have hR := Lib.hid (rput_none (p := p) (.inl hn))
    go_enter Tryz.func214, Tryz.ntmps214
    go_wp2
    go_ret
    exact putEnd_of hR.out (Below.refl _ _)
  by_cases d1 : 1114111 < p
  · have hR := Lib.hid (rput_none (p := p) (.inr (.inl d1)))
    go_enter Tryz.func214, Tryz.ntmps214
    go_wp2
    go_ret
    exact putEnd_of hR.out (Below.refl _ _)
  by_cases d4 : p < 128
  · have d2 : ¬ 55296 ≤ p := by omega
    have hcv := fun V => put_cv1 p (by omega) d4 V
    have hw := u8w (x := p) (by omega) (by omega)
    obtain ⟨R, hR⟩ : ∃ R : ByteArray, ⟨(rput p).toArray⟩ = R := ⟨_, rfl⟩
    simp only [hR] at hcv
    replace hR := Lib.hid hR
    go_enter Tryz.func214, Tryz.ntmps214
    go_wp2
    go_ret
    exact putEnd_of hR.out ((Below.refl _ _).alloc (Nat.le_refl _) _)
  by_cases d5 : p < 2048
  · have d2 : ¬ 55296 ≤ p := by omega
    obtain ⟨a, b, e1, e2, a0, a1, b0, b1, hcv⟩ := put_cv2 p (by omega) d5
    have w1 := u8w (x := 192 + a) (by omega) (by omega)
    have w2 := u8w (x := 128 + b) (by omega) (by omega)
    obtain ⟨R, hR⟩ : ∃ R : ByteArray, ⟨(rput p).toArray⟩ = R := ⟨_, rfl⟩
    simp only [hR] at hcv
    replace hR := Lib.hid hR
    go_enter Tryz.func214, Tryz.ntmps214
    go_wp2
    go_ret
    exact putEnd_of hR.out ((Below.refl _ _).alloc (Nat.le_refl _) _)
  by_cases d6 : p < 65536
  · by_cases d7 : 55296 ≤ p ∧ p ≤ 57343
    · obtain ⟨d2, d3⟩ := d7
      have hR := Lib.hid (rput_none (p := p) (.inr (.inr ⟨d2, d3⟩)))
      go_enter Tryz.func214, Tryz.ntmps214
      go_wp2
      go_ret
      exact putEnd_of hR.out (Below.refl _ _)
    obtain ⟨a, m, b, c, e1, e2, e3, e4, a0, a1, m0, m1, b0, b1, c0, c1, hcv⟩ := put_cv3 p (by omega) d6 d7
    have w1 := u8w (x := 224 + a) (by omega) (by omega)
    have w2 := u8w (x := 128 + b) (by omega) (by omega)
    have w3 := u8w (x := 128 + c) (by omega) (by omega)
    obtain ⟨R, hR⟩ : ∃ R : ByteArray, ⟨(rput p).toArray⟩ = R := ⟨_, rfl⟩
    simp only [hR] at hcv
    replace hR := Lib.hid hR
    by_cases d2 : 55296 ≤ p
    · have d3 : ¬ p ≤ 57343 := by omega
      clear d7
      go_enter Tryz.func214, Tryz.ntmps214
      go_wp2
      go_ret
      exact putEnd_of hR.out ((Below.refl _ _).alloc (Nat.le_refl _) _)
    · clear d7
      go_enter Tryz.func214, Tryz.ntmps214
      go_wp2
      go_ret
      exact putEnd_of hR.out ((Below.refl _ _).alloc (Nat.le_refl _) _)
  · have d2 : 55296 ≤ p := by omega
    have d3 : ¬ p ≤ 57343 := by omega
    obtain ⟨a, n, d, m, b, c, e1, e5, e6, e2, e3, e4, a0, a1, n0, n1, f0, f1, m0, m1, b0, b1, c0, c1, hcv⟩ := put_cv4 p (by omega) (by omega)
    have w1 := u8w (x := 240 + a) (by omega) (by omega)
    have w4 := u8w (x := 128 + d) (by omega) (by omega)
    have w2 := u8w (x := 128 + b) (by omega) (by omega)
    have w3 := u8w (x := 128 + c) (by omega) (by omega)
    obtain ⟨R, hR⟩ : ∃ R : ByteArray, ⟨(rput p).toArray⟩ = R := ⟨_, rfl⟩
    simp only [hR] at hcv
    replace hR := Lib.hid hR
    go_enter Tryz.func214, Tryz.ntmps214
    go_wp2
    go_ret
    exact putEnd_of hR.out ((Below.refl _ _).alloc (Nat.le_refl _) _)

/-- bits, byte by byte. -/
def rbp (l : List UInt8) (h : Int) : Nat → Int
  | 0 => 0
  | 1 => ((l.getD 0 0).toNat : Int) - h
  | q + 2 => rbp l h (q + 1) * 64 + (l.getD (q + 1) 0).toNat - 128
theorem rbp_bd (l : List UInt8) (h : Int) (h0 : 0 ≤ h) (h1 : h ≤ 240) (q : Nat) (hq : q ≤ 4) : -100000000 ≤ rbp l h q ∧ rbp l h q ≤ 100000000 := by
  have b0 := (l.getD 0 0).toNat_lt
  have b1 := (l.getD 1 0).toNat_lt
  have b2 := (l.getD 2 0).toNat_lt
  have b3 := (l.getD 3 0).toNat_lt
  have : q = 0 ∨ q = 1 ∨ q = 2 ∨ q = 3 ∨ q = 4 := by omega
  rcases this with rfl | rfl | rfl | rfl | rfl <;> simp only [rbp, Nat.zero_add, Nat.reduceAdd] <;> omega
theorem rbp_step (l : List UInt8) (h : Int) (q : Nat) (hq : 1 ≤ q) : rbp l h (q + 1) = rbp l h q * 64 + (l.getD q 0).toNat - 128 := by
  obtain ⟨k, rfl⟩ : ∃ k, q = k + 1 := ⟨q - 1, by omega⟩
  rfl
theorem rbp_bits (l : List UInt8) (h1 : 1 ≤ l.length) (h4 : l.length ≤ 4) : rbits l = rbp l (rhead l.length) l.length := by
  match l, h1, h4 with
  | [a], _, _ => simp [rbits, rbp]
  | [a, b], _, _ => simp [rbits, rbp]
  | [a, b, c], _, _ => simp [rbits, rbp]
  | [a, b, c, d], _, _ => simp [rbits, rbp]
  | _ :: _ :: _ :: _ :: _ :: _, _, h => simp at h
theorem rhead_bd (n : Nat) : 0 ≤ rhead n ∧ rhead n ≤ 240 := by
  unfold rhead
  by_cases h2 : n = 2
  · rw [if_pos h2]; omega
  by_cases h3 : n = 3
  · rw [if_neg h2, if_pos h3]; omega
  by_cases h4 : n = 4
  · rw [if_neg h2, if_neg h3, if_pos h4]; omega
  · rw [if_neg h2, if_neg h3, if_neg h4]; omega
end Go.Proofs.YthmojpcaagnfkaaGreatDoor
