/-
  The walks of the document's Put and bits.
-/
import Derived.Test.YtamcbgkppgdniaaGreatDoorJmp
import Derived.Test.YtamcbgkppgdniaaGreatDoorJmo
import Derived.Lib.SlBytesRow
import Derived.Test.YtamcbgkppgdniaaGreatDoorJmr
import Derived.Test.YtamcbgkppgdniaaGreatDoorJsQ
namespace Go.Proofs.YtamcbgkppgdniaaGreatDoor
open Go.RowKit

/-- A new row of bytes, handed to string(..). -/
theorem bytes_row_j (V : World) (l : List UInt8) :
    (convert 127 9 (.slice (some ⟨V.heap.size, 0, none⟩) l.length l.length)).run Tryz.prog (V.alloc (.cells (l.map fun c => Value.int .u8 (c.toNat : Int)).toArray 5)) = .ok (.string ⟨l.toArray⟩) (V.alloc (.cells (l.map fun c => Value.int .u8 (c.toNat : Int)).toArray 5)) := by
  have hs : (⟨l.toArray⟩ : ByteArray).size = l.length := by simp [ByteArray.size]
  have hb : Lib.Bytes (V.alloc (.cells (l.map fun c => Value.int .u8 (c.toNat : Int)).toArray 5)) V.heap.size 0 ⟨l.toArray⟩ := by
    intro i hi
    have hi' : i < l.length := by omega
    have hc : (l.map fun c => Value.int .u8 (c.toNat : Int)).toArray[0 + i]? = some (.int .u8 ((⟨l.toArray⟩ : ByteArray)[i].toNat : Int)) := by
      have e : (⟨l.toArray⟩ : ByteArray)[i] = l[i] := by rfl
      rw [e, Nat.zero_add]
      simp [hi']
    rw [World.cell?_alloc_at _ _ _ _ rfl]
    exact hc
  have := Lib.run_convert_whole (P := Tryz.prog) (V.alloc (.cells (l.map fun c => Value.int .u8 (c.toNat : Int)).toArray 5)) 127 5 9 Tryz.underlying127 Tryz.underlying5 Tryz.underlying9 V.heap.size 0 ⟨l.toArray⟩ hb l.length
  rw [hs] at this
  exact this
theorem u8_nat {a : Nat} (h : a < 256) : ((UInt8.ofNat a).toNat : Int) = a := by rw [UInt8.toNat_ofNat']; omega

theorem u8_int {x : Int} (h0 : 0 ≤ x) (h : x < 256) : ((UInt8.ofNat x.toNat).toNat : Int) = x := by rw [UInt8.toNat_ofNat']; omega
theorem cv_of {V : World} {l : List UInt8} {cs : Array Value} {n : Nat} (h : (l.map fun c => Value.int .u8 (c.toNat : Int)).toArray = cs) (hn : l.length = n) {R : ByteArray} (hR : R = ⟨l.toArray⟩) :
    (convert 127 9 (.slice (some ⟨V.heap.size, 0, none⟩) n n)).run Tryz.prog (V.alloc (.cells cs 5)) = .ok (.string R) (V.alloc (.cells cs 5)) := by
  subst h hn hR; exact bytes_row_j V l
theorem rput_nat (q : Nat) : rput (q : Int) = (rputN q).map UInt8.ofNat := by rw [rput_pos (by omega), Int.toNat_natCast]
theorem put_cv1 (p : Int) (h0 : 0 ≤ p) (h1 : p < 128) (V : World) : (convert 127 9 (.slice (some ⟨V.heap.size, 0, none⟩) 1 1)).run Tryz.prog (V.alloc (.cells #[.int .u8 p] 5)) = .ok (.string ⟨(rput p).toArray⟩) (V.alloc (.cells #[.int .u8 p] 5)) := by
  obtain ⟨q, rfl⟩ := Int.eq_ofNat_of_zero_le h0
  refine cv_of (l := [UInt8.ofNat q]) ?_ rfl ?_
  · simp only [List.map_cons, List.map_nil, u8_nat (show q < 256 by omega)]
  · rw [rput_nat, rputN_1 (by omega)]; rfl
theorem put_cv2 (p : Int) (h0 : 128 ≤ p) (h1 : p < 2048) : ∃ a b : Int, Int.tdiv p 64 = a ∧ Int.tmod p 64 = b ∧ 0 ≤ a ∧ a < 32 ∧ 0 ≤ b ∧ b < 64 ∧
    ∀ V : World, (convert 127 9 (.slice (some ⟨V.heap.size, 0, none⟩) 2 2)).run Tryz.prog (V.alloc (.cells #[.int .u8 (192 + a), .int .u8 (128 + b)] 5)) = .ok (.string ⟨(rput p).toArray⟩) (V.alloc (.cells #[.int .u8 (192 + a), .int .u8 (128 + b)] 5)) := by
  obtain ⟨q, rfl⟩ := Int.eq_ofNat_of_zero_le (show 0 ≤ p by omega)
  refine ⟨((q / 64 : Nat) : Int), ((q % 64 : Nat) : Int), (Int.ofNat_tdiv q 64).symm, (Int.ofNat_tmod q 64).symm, by omega, by omega, by omega, by omega, fun V => cv_of (l := [UInt8.ofNat (192 + q / 64), UInt8.ofNat (128 + q % 64)]) ?_ rfl ?_⟩
  · simp only [List.map_cons, List.map_nil, u8_nat (show 192 + q / 64 < 256 by omega), u8_nat (show 128 + q % 64 < 256 by omega), Int.natCast_add, Int.cast_ofNat_Int]
  · rw [rput_nat, rputN_2 (by omega) (by omega)]; rfl
theorem put_cv3 (p : Int) (h0 : 2048 ≤ p) (h1 : p < 65536) (h2 : ¬ (55296 ≤ p ∧ p ≤ 57343)) : ∃ a m b c : Int, Int.tdiv p 4096 = a ∧ Int.tdiv p 64 = m ∧ Int.tmod m 64 = b ∧ Int.tmod p 64 = c ∧ 0 ≤ a ∧ a < 16 ∧ 0 ≤ m ∧ m < 1024 ∧ 0 ≤ b ∧ b < 64 ∧ 0 ≤ c ∧ c < 64 ∧
    ∀ V : World, (convert 127 9 (.slice (some ⟨V.heap.size, 0, none⟩) 3 3)).run Tryz.prog (V.alloc (.cells #[.int .u8 (224 + a), .int .u8 (128 + b), .int .u8 (128 + c)] 5)) = .ok (.string ⟨(rput p).toArray⟩) (V.alloc (.cells #[.int .u8 (224 + a), .int .u8 (128 + b), .int .u8 (128 + c)] 5)) := by
  obtain ⟨q, rfl⟩ := Int.eq_ofNat_of_zero_le (show 0 ≤ p by omega)
  refine ⟨((q / 4096 : Nat) : Int), ((q / 64 : Nat) : Int), ((q / 64 % 64 : Nat) : Int), ((q % 64 : Nat) : Int), (Int.ofNat_tdiv q 4096).symm, (Int.ofNat_tdiv q 64).symm, (Int.ofNat_tmod _ 64).symm, (Int.ofNat_tmod q 64).symm, by omega, by omega, by omega, by omega, by omega, by omega, by omega, by omega,
    fun V => cv_of (l := [UInt8.ofNat (224 + q / 4096), UInt8.ofNat (128 + q / 64 % 64), UInt8.ofNat (128 + q % 64)]) ?_ rfl ?_⟩
  · simp only [List.map_cons, List.map_nil, u8_nat (show 224 + q / 4096 < 256 by omega), u8_nat (show 128 + q / 64 % 64 < 256 by omega), u8_nat (show 128 + q % 64 < 256 by omega), Int.natCast_add, Int.cast_ofNat_Int]
  · rw [rput_nat, rputN_3 (by omega) (by omega) (by omega)]; rfl
theorem put_cv4 (p : Int) (h0 : 65536 ≤ p) (h1 : p ≤ 1114111) : ∃ a n d m b c : Int, Int.tdiv p 262144 = a ∧ Int.tdiv p 4096 = n ∧ Int.tmod n 64 = d ∧ Int.tdiv p 64 = m ∧ Int.tmod m 64 = b ∧ Int.tmod p 64 = c ∧ 0 ≤ a ∧ a < 16 ∧ 0 ≤ n ∧ n < 2000 ∧ 0 ≤ d ∧ d < 64 ∧ 0 ≤ m ∧ m < 20000 ∧ 0 ≤ b ∧ b < 64 ∧ 0 ≤ c ∧ c < 64 ∧
    ∀ V : World, (convert 127 9 (.slice (some ⟨V.heap.size, 0, none⟩) 4 4)).run Tryz.prog (V.alloc (.cells #[.int .u8 (240 + a), .int .u8 (128 + d), .int .u8 (128 + b), .int .u8 (128 + c)] 5)) = .ok (.string ⟨(rput p).toArray⟩) (V.alloc (.cells #[.int .u8 (240 + a), .int .u8 (128 + d), .int .u8 (128 + b), .int .u8 (128 + c)] 5)) := by
  obtain ⟨q, rfl⟩ := Int.eq_ofNat_of_zero_le (show 0 ≤ p by omega)
  refine ⟨((q / 262144 : Nat) : Int), ((q / 4096 : Nat) : Int), ((q / 4096 % 64 : Nat) : Int), ((q / 64 : Nat) : Int), ((q / 64 % 64 : Nat) : Int), ((q % 64 : Nat) : Int), (Int.ofNat_tdiv q 262144).symm, (Int.ofNat_tdiv q 4096).symm, (Int.ofNat_tmod _ 64).symm, (Int.ofNat_tdiv q 64).symm, (Int.ofNat_tmod _ 64).symm, (Int.ofNat_tmod q 64).symm, by omega, by omega, by omega, by omega, by omega, by omega, by omega, by omega, by omega, by omega, by omega, by omega,
    fun V => cv_of (l := [UInt8.ofNat (240 + q / 262144), UInt8.ofNat (128 + q / 4096 % 64), UInt8.ofNat (128 + q / 64 % 64), UInt8.ofNat (128 + q % 64)]) ?_ rfl ?_⟩
  · simp only [List.map_cons, List.map_nil, u8_nat (show 240 + q / 262144 < 256 by omega), u8_nat (show 128 + q / 4096 % 64 < 256 by omega), u8_nat (show 128 + q / 64 % 64 < 256 by omega), u8_nat (show 128 + q % 64 < 256 by omega), Int.natCast_add, Int.cast_ofNat_Int]
  · rw [rput_nat, rputN_4 (by omega) (by omega)]; rfl
theorem u8w {x : Int} (h0 : 0 ≤ x) (h1 : x < 256) : IntKind.u8.wrap x = x := by rw [IntKind.wrap_u8]; omega

def PutEnd (p : Int) (w : World) (e : Ending) (w' : World) : Prop := e = .returned (.string ⟨(rput p).toArray⟩) ∧ Below w.heap.size w w'
theorem putEnd_of {p : Int} {w : World} {R : ByteArray} (hR : (⟨(rput p).toArray⟩ : ByteArray) = R) {w' : World} (h : Below w.heap.size w w') : PutEnd p w (.returned (.string R)) w' := ⟨by rw [hR], h⟩
theorem rput_none {p : Int} (h : p < 0 ∨ 1114111 < p ∨ (55296 ≤ p ∧ p ≤ 57343)) : (⟨(rput p).toArray⟩ : ByteArray) = ⟨#[]⟩ := by
  rcases h with h | h
  · rw [rput_neg h]
  · obtain ⟨q, rfl⟩ := Int.eq_ofNat_of_zero_le (show 0 ≤ p by omega)
    rw [rput_nat, rputN_0 (by omega)]; rfl
set_option maxHeartbeats 2000000 in
theorem refPut_any (p : Int) (w : World) :
    Calls Tryz.prog 199 #[.int .i64 p] w (PutEnd p w) := by
  by_cases hn : p < 0
  · have hR := Lib.hid (rput_none (p := p) (.inl hn))
    go_enter Tryz.func199, Tryz.ntmps199
    go_wp2
    go_ret
    exact putEnd_of hR.out (Below.refl _ _)
  by_cases d1 : 1114111 < p
  · have hR := Lib.hid (rput_none (p := p) (.inr (.inl d1)))
    go_enter Tryz.func199, Tryz.ntmps199
    go_wp2
    go_ret
    exact putEnd_of hR.out (Below.refl _ _)
  by_cases d4 : p < 128
  · have d2 : ¬ 55296 ≤ p := by omega
    have hcv := fun V => put_cv1 p (by omega) d4 V
    have hw := u8w (x := p) (by omega) (by omega)
    obtain ⟨R, hR⟩ : ∃ R : ByteArray, ⟨(rput p).toArray⟩ = R := ⟨_, rfl⟩
    simp only [hR] at hcv
    replace hR := Lib.hid hR
    go_enter Tryz.func199, Tryz.ntmps199
    go_wp2
    go_ret
    exact putEnd_of hR.out ((Below.refl _ _).alloc (Nat.le_refl _) _)
  by_cases d5 : p < 2048
  · have d2 : ¬ 55296 ≤ p := by omega
    obtain ⟨a, b, e1, e2, a0, a1, b0, b1, hcv⟩ := put_cv2 p (by omega) d5
    have w1 := u8w (x := 192 + a) (by omega) (by omega)
    have w2 := u8w (x := 128 + b) (by omega) (by omega)
    obtain ⟨R, hR⟩ : ∃ R : ByteArray, ⟨(rput p).toArray⟩ = R := ⟨_, rfl⟩
    simp only [hR] at hcv
    replace hR := Lib.hid hR
    go_enter Tryz.func199, Tryz.ntmps199
    go_wp2
    go_ret
    exact putEnd_of hR.out ((Below.refl _ _).alloc (Nat.le_refl _) _)
  by_cases d6 : p < 65536
  · by_cases d7 : 55296 ≤ p ∧ p ≤ 57343
    · obtain ⟨d2, d3⟩ := d7
      have hR := Lib.hid (rput_none (p := p) (.inr (.inr ⟨d2, d3⟩)))
      go_enter Tryz.func199, Tryz.ntmps199
      go_wp2
      go_ret
      exact putEnd_of hR.out (Below.refl _ _)
    obtain ⟨a, m, b, c, e1, e2, e3, e4, a0, a1, m0, m1, b0, b1, c0, c1, hcv⟩ := put_cv3 p (by omega) d6 d7
    have w1 := u8w (x := 224 + a) (by omega) (by omega)
    have w2 := u8w (x := 128 + b) (by omega) (by omega)
    have w3 := u8w (x := 128 + c) (by omega) (by omega)
    obtain ⟨R, hR⟩ : ∃ R : ByteArray, ⟨(rput p).toArray⟩ = R := ⟨_, rfl⟩
    simp only [hR] at hcv
    replace hR := Lib.hid hR
    by_cases d2 : 55296 ≤ p
    · have d3 : ¬ p ≤ 57343 := by omega
      clear d7
      go_enter Tryz.func199, Tryz.ntmps199
      go_wp2
      go_ret
      exact putEnd_of hR.out ((Below.refl _ _).alloc (Nat.le_refl _) _)
    · clear d7
      go_enter Tryz.func199, Tryz.ntmps199
      go_wp2
      go_ret
      exact putEnd_of hR.out ((Below.refl _ _).alloc (Nat.le_refl _) _)
  · have d2 : 55296 ≤ p := by omega
    have d3 : ¬ p ≤ 57343 := by omega
    obtain ⟨a, n, d, m, b, c, e1, e5, e6, e2, e3, e4, a0, a1, n0, n1, f0, f1, m0, m1, b0, b1, c0, c1, hcv⟩ := put_cv4 p (by omega) (by omega)
    have w1 := u8w (x := 240 + a) (by omega) (by omega)
    have w4 := u8w (x := 128 + d) (by omega) (by omega)
    have w2 := u8w (x := 128 + b) (by omega) (by omega)
    have w3 := u8w (x := 128 + c) (by omega) (by omega)
    obtain ⟨R, hR⟩ : ∃ R : ByteArray, ⟨(rput p).toArray⟩ = R := ⟨_, rfl⟩
    simp only [hR] at hcv
    replace hR := Lib.hid hR
    go_enter Tryz.func199, Tryz.ntmps199
    go_wp2
    go_ret
    exact putEnd_of hR.out ((Below.refl _ _).alloc (Nat.le_refl _) _)

/-- bits, byte by byte. -/
def rbp (l : List UInt8) (h : Int) : Nat → Int
  | 0 => 0
  | 1 => ((l.getD 0 0).toNat : Int) - h
  | q + 2 => rbp l h (q + 1) * 64 + (l.getD (q + 1) 0).toNat - 128
theorem rbp_bd (l : List UInt8) (h : Int) (h0 : 0 ≤ h) (h1 : h ≤ 240) (q : Nat) (hq : q ≤ 4) : -100000000 ≤ rbp l h q ∧ rbp l h q ≤ 100000000 := by
  have b0 := (l.getD 0 0).toNat_lt
  have b1 := (l.getD 1 0).toNat_lt
  have b2 := (l.getD 2 0).toNat_lt
  have b3 := (l.getD 3 0).toNat_lt
  have : q = 0 ∨ q = 1 ∨ q = 2 ∨ q = 3 ∨ q = 4 := by omega
  rcases this with rfl | rfl | rfl | rfl | rfl <;> simp only [rbp, Nat.zero_add, Nat.reduceAdd] <;> omega
theorem rbp_step (l : List UInt8) (h : Int) (q : Nat) (hq : 1 ≤ q) : rbp l h (q + 1) = rbp l h q * 64 + (l.getD q 0).toNat - 128 := by
  obtain ⟨k, rfl⟩ : ∃ k, q = k + 1 := ⟨q - 1, by omega⟩
  rfl
theorem rbp_bits (l : List UInt8) (h1 : 1 ≤ l.length) (h4 : l.length ≤ 4) : rbits l = rbp l (rhead l.length) l.length := by
  match l, h1, h4 with
  | [a], _, _ => simp [rbits, rbp]
  | [a, b], _, _ => simp [rbits, rbp]
  | [a, b, c], _, _ => simp [rbits, rbp]
  | [a, b, c, d], _, _ => simp [rbits, rbp]
  | _ :: _ :: _ :: _ :: _ :: _, _, h => simp at h
theorem rhead_bd (n : Nat) : 0 ≤ rhead n ∧ rhead n ≤ 240 := by
  unfold rhead
  by_cases h2 : n = 2
  · rw [if_pos h2]; omega
  by_cases h3 : n = 3
  · rw [if_neg h2, if_pos h3]; omega
  by_cases h4 : n = 4
  · rw [if_neg h2, if_neg h3, if_pos h4]; omega
  · rw [if_neg h2, if_neg h3, if_neg h4]; omega
end Go.Proofs.YtamcbgkppgdniaaGreatDoor


/-
  The walks of the document's bits, Rune and Valid.
-/
namespace Go.Proofs.YtamcbgkppgdniaaGreatDoor
open Go.RowKit

theorem getD_at (s : ByteArray) (k : Nat) (h : k < s.size) : s.data.toList.getD k 0 = s[k] := by
  rw [List.getD_eq_getElem?_getD, bytes_at s k h]; rfl
theorem byte_bd (c : UInt8) : 0 ≤ (c.toNat : Int) ∧ (c.toNat : Int) < 256 := by have := c.toNat_lt; omega
set_option maxHeartbeats 2000000 in
theorem refBits_any (s : ByteArray) (w : World) (h1 : 1 ≤ s.size) (h4 : s.size ≤ 4) :
    Calls Tryz.prog 214 #[.string s] w fun e w' => e = .returned (.int .i64 (rbits s.data.toList)) ∧ Below w.heap.size w w' := by
  have hl : s.data.toList.length = s.size := bytes_len s
  have hrb := rbp_bits s.data.toList (by omega) (by omega)
  rw [hl] at hrb
  obtain ⟨R, hR⟩ : ∃ R, rbits s.data.toList = R := ⟨_, rfl⟩
  rw [hR] at hrb ⊢
  have h0 : 0 < s.size := h1
  by_cases c1 : s.size = 1
  · have e1 : R = (s[0].toNat : Int) := by
      rw [hrb, c1]
      show ((s.data.toList.getD 0 0).toNat : Int) - rhead 1 = _
      rw [getD_at s 0 h1]; simp [rhead]
    subst e1
    clear hR hrb hl
    obtain ⟨d0, d2⟩ := byte_bd s[0]
    go_enter Tryz.func214, Tryz.ntmps214
    go_wp2
    go_ret
    exact ⟨rfl, (Below.refl _ _).alloc (Nat.le_refl _) _⟩
  · obtain ⟨hbd, hbd2⟩ := rhead_bd s.size
    have hst := Lib.hid (fun q (hq : 1 ≤ q) => rbp_step s.data.toList (rhead s.size) q hq)
    have hbp := Lib.hid (fun q (hq : q ≤ 4) => rbp_bd s.data.toList (rhead s.size) hbd hbd2 q hq)
    have h1v : rbp s.data.toList (rhead s.size) 1 = (s[0].toNat : Int) - rhead s.size := by
      show ((s.data.toList.getD 0 0).toNat : Int) - rhead s.size = _
      rw [getD_at s 0 h1]
    have hc : s.size = 2 ∧ rhead s.size = 192 ∨ s.size = 3 ∧ rhead s.size = 224 ∨ s.size = 4 ∧ rhead s.size = 240 := by
      rcases (by omega : s.size = 2 ∨ s.size = 3 ∨ s.size = 4) with h | h | h <;> rw [h] <;> simp [rhead]
    obtain ⟨RB, hRB⟩ : ∃ RB, rbp s.data.toList (rhead s.size) = RB := ⟨_, rfl⟩
    rw [hRB] at hrb h1v
    simp only [hRB] at hst hbp
    clear hRB
    clear hR hl hbd hbd2
    obtain ⟨d0, d2⟩ := byte_bd s[0]
    rcases hc with ⟨hn, hh⟩ | ⟨hn, hh⟩ | ⟨hn, hh⟩
    all_goals
      rw [hh] at h1v
      replace hrb := Lib.hid hrb
      replace h1v := Lib.hid h1v
      clear hh c1
      have h01 : 0 < s.size := h0
      go_enter Tryz.func214, Tryz.ntmps214
      go_wp2_with fail
      go_quiet (fail)
      go_wp2_with fail
      go_loopw [5, 6] (fun o i wr => ∃ (q : Nat) (X : Int), 1 ≤ q ∧ q ≤ s.size ∧ i = .int .i64 q ∧ o = .int .i64 X ∧ RB q = X ∧ Below w.heap.size w wr) (fun _ i _ => s.size - (intOf i).toNat)
      case atStart => exact ⟨1, _, Nat.le_refl _, by omega, rfl, rfl, h1v.out, bel_drewN ((Below.refl _ _).alloc (Nat.le_refl _) _) _⟩
      case round =>
        clear d0 d2
        obtain ⟨q, X, hq1, hq2, rfl, rfl, hX, hB⟩ := hrel
        have hb := hbp.out q (by omega)
        rw [hX] at hb
        obtain ⟨hb1, hb2⟩ := hb
        have hst1 := hst.out q hq1
        rw [hX] at hst1
        replace hB := Lib.hid hB
        by_cases hlt : q < s.size
        · have hg := getD_at s q hlt
          rw [hg] at hst1
          replace hX := Lib.hid hX
          clear hg
          obtain ⟨f0, f2⟩ := byte_bd s[q]
          obtain ⟨b, hb⟩ : ∃ b : Int, (s[q].toNat : Int) = b := ⟨_, rfl⟩
          rw [hb] at f0 f2 hst1
          replace hst1 := Lib.hid hst1
          go_wp2_with fail
          go_roundw
          case rel => exact ⟨q + 1, _, by omega, by omega, by go_num, rfl, hst1.out, hB.out⟩
          case measure => simp [intOf]; omega
        · have hqe : q = s.size := by omega
          have hRX : R = X := by rw [hrb.out, ← hX, hqe]
          subst hRX
          replace hst1 := Lib.hid hst1
          replace hX := Lib.hid hX
          clear hqe
          go_wp2_with fail
          go_ret
          exact ⟨rfl, hB.out⟩
end Go.Proofs.YtamcbgkppgdniaaGreatDoor


/-
  The walks of the document's Rune and Valid: a text is valid just if the library says so.
-/
namespace Go.Proofs.YtamcbgkppgdniaaGreatDoor
open Go.RowKit

theorem ext_take (s : ByteArray) (q : Nat) : (s.extract 0 q).data.toList = s.data.toList.take q := by
  rw [ByteArray.data_extract]; simp
theorem ext_drop (s : ByteArray) (q : Nat) : (s.extract q s.size).data.toList = s.data.toList.drop q := by
  rw [ByteArray.data_extract]
  simp only [Array.toList_extract, List.extract_eq_take_drop]
  rw [List.take_of_length_le]
  rw [List.length_drop, bytes_len]; omega
theorem nonempty_f {s : ByteArray} (h : s ≠ ⟨#[]⟩) : s.toList.isEmpty = false := by
  rw [jtl_eq, empty_iff]; exact decide_eq_false h
def RuneEnd (l : List UInt8) (w : World) (e : Ending) (w' : World) : Prop := e = .returned (.tuple #[.int .i64 (rrune l).1, .int .i64 (rrune l).2]) ∧ Below w.heap.size w w'
theorem runeEnd_of {l : List UInt8} {w w' : World} {a b : Int} {k : Nat} (h : rrune l = (a, k)) (hk : (k : Int) = b) (hB : Below w.heap.size w w') : RuneEnd l w (.returned (.tuple #[.int .i64 a, .int .i64 b])) w' := by
  unfold RuneEnd; rw [h]; exact ⟨by rw [← hk], hB⟩
theorem bel_drew1 {B : Nat} {a w : World} (h : Below B a w) : Below B a w.drew := ⟨h.os, h.tape, h.output, h.size, h.block⟩
/-- None of the first q - 1 counts is a character's. -/
def NoR (l : List UInt8) (q : Nat) : Prop := ∀ k, 1 ≤ k → k < q → k ≤ l.length → rok l k = false
theorem NoR.step {l : List UInt8} {q : Nat} (h : NoR l q) (hq : rok l q = false) : NoR l (q + 1) := fun k h1 h2 h3 => by
  by_cases e : k = q
  · subst e; exact hq
  · exact h k h1 (by omega) h3
theorem rrune_hit {l : List UInt8} {q : Nat} (h : NoR l q) (h1 : 1 ≤ q) (h4 : q ≤ 4) (hl : q ≤ l.length) (hq : rok l q = true) : rrune l = (rbits (l.take q), q) := by
  have hne : l ≠ [] := fun e => by subst e; simp at hl; omega
  have g : ∀ k, 1 ≤ k → k < q → ¬ (k ≤ l.length ∧ rok l k = true) := fun k a b c => by rw [h k a b c.1] at c; simp at c
  unfold rrune
  rw [if_neg hne]
  rcases (by omega : q = 1 ∨ q = 2 ∨ q = 3 ∨ q = 4) with rfl | rfl | rfl | rfl
  · rw [if_pos hq]
  · rw [if_neg (fun c => g 1 (by omega) (by omega) ⟨by omega, c⟩), if_pos ⟨hl, hq⟩]
  · rw [if_neg (fun c => g 1 (by omega) (by omega) ⟨by omega, c⟩), if_neg (g 2 (by omega) (by omega)), if_pos ⟨hl, hq⟩]
  · rw [if_neg (fun c => g 1 (by omega) (by omega) ⟨by omega, c⟩), if_neg (g 2 (by omega) (by omega)), if_neg (g 3 (by omega) (by omega)), if_pos ⟨hl, hq⟩]
theorem rrune_miss {l : List UInt8} {q : Nat} (h : NoR l q) (hne : l ≠ []) (hq : ¬ (q ≤ 4 ∧ q ≤ l.length)) : rrune l = (-1, 1) := by
  have hl : 1 ≤ l.length := List.length_pos_iff.2 hne
  have g : ∀ k, 1 ≤ k → k ≤ 4 → ¬ (k ≤ l.length ∧ rok l k = true) := fun k a b c => by rw [h k a (by omega) c.1] at c; simp at c
  unfold rrune
  rw [if_neg hne, if_neg (fun c => g 1 (by omega) (by omega) ⟨by omega, c⟩), if_neg (g 2 (by omega) (by omega)), if_neg (g 3 (by omega) (by omega)), if_neg (g 4 (by omega) (by omega))]
theorem rbits_bd (l : List UInt8) (h1 : 1 ≤ l.length) (h4 : l.length ≤ 4) : -100000000 ≤ rbits l ∧ rbits l ≤ 100000000 := by
  obtain ⟨a, b⟩ := rhead_bd l.length
  rw [rbp_bits l h1 h4]; exact rbp_bd l _ a b _ h4

set_option maxHeartbeats 4000000 in
theorem refRune_any (s : ByteArray) (w : World) (hs : s.size ≤ 1000000000000) :
    Calls Tryz.prog 186 #[.string s] w (RuneEnd s.data.toList w) := by
  by_cases h0 : s = ⟨#[]⟩
  · subst h0
    have hr : rrune (⟨#[]⟩ : ByteArray).data.toList = (-1, 0) := rfl
    replace hr := Lib.hid hr
    go_enter Tryz.func186, Tryz.ntmps186
    go_wp2_with fail
    refine bodyPost_ret (v := .tuple #[.int .i64 (-1), .int .i64 0]) (by simp [results, Tryz.results186, go_sem]) rfl (runeEnd_of hr.out rfl (Below.refl _ _))
  · have hne := nonempty_f h0
    have hnl : s.data.toList ≠ [] := fun e => h0 (jstr_ext e)
    have hlen := bytes_len s
    replace hnl := Lib.hid hnl
    replace hlen := Lib.hid hlen
    clear h0
    go_enter Tryz.func186, Tryz.ntmps186
    go_wp2_with fail
    go_loopw [4] (fun i wr => ∃ q : Nat, 1 ≤ q ∧ q ≤ 5 ∧ i = .int .i64 q ∧ NoR s.data.toList q ∧ Below w.heap.size w wr) (fun i _ => 5 - (intOf i).toNat)
    case atStart => exact ⟨1, Nat.le_refl _, by omega, rfl, fun k a b _ => by omega, Below.refl _ _⟩
    case round =>
      obtain ⟨q, hq1, hq5, rfl, hno, hB⟩ := hrel
      by_cases hc : q ≤ 4 ∧ q ≤ s.size
      · obtain ⟨hq4, hqs⟩ := hc
        have htk := ext_take s q
        have htl : (s.data.toList.take q).length = q := by rw [List.length_take, hlen.out]; omega
        obtain ⟨t, ht⟩ : ∃ t, s.extract 0 q = t := ⟨_, rfl⟩
        rw [ht] at htk
        have hts : t.size = q := by rw [← bytes_len, htk, htl]
        have hcall := refBits_any t wr (by omega) (by omega)
        have hpb := rbits_bd (s.data.toList.take q) (by omega) (by omega)
        rw [htk] at hcall
        have hit := rrune_hit hno hq1 hq4 (by rw [hlen.out]; exact hqs)
        have hok : rok s.data.toList q = (decide (0 ≤ rbits (s.data.toList.take q)) && decide (rput (rbits (s.data.toList.take q)) = s.data.toList.take q)) := rfl
        obtain ⟨p, hp⟩ : ∃ p, rbits (s.data.toList.take q) = p := ⟨_, rfl⟩
        rw [hp] at hcall hpb hit hok
        obtain ⟨hp0, hp1⟩ := hpb
        have hqi0 : (0 : Int) ≤ (q : Int) := by omega
        have hqi4 : (q : Int) ≤ 4 := by omega
        have hqis : (q : Int) ≤ (s.size : Int) := by omega
        replace hcall := Lib.hid hcall
        replace hit := Lib.hid hit
        replace hok := Lib.hid hok
        replace htk := Lib.hid htk
        replace hno := Lib.hid hno
        clear hp htl hts
        by_cases hneg : p < 0
        · have hng : ¬ 0 ≤ p := by omega
          have hst : NoR s.data.toList (q + 1) := hno.out.step (by rw [hok.out, decide_eq_false hng]; rfl)
          replace hst := Lib.hid hst
          have cb : decide (0 ≤ p) = false := decide_eq_false hng
          clear hit hok htk hno
          go_wp2_with fail
          refine hcall.out.mono ?_
          rintro e w1 ⟨rfl, hb⟩
          have hB1 := Lib.hid (hB.trans (hb.mono hB.size))
          clear hcall hB hb
          go_wp2_with fail
          go_quiet (fail)
          go_wp2_with fail
          go_roundw
          case rel => exact ⟨q + 1, by omega, by omega, by go_num, hst.out, by first | exact hB1.out | exact bel_drewN hB1.out _⟩
          case measure => simp [intOf]; omega
        · have hnn : 0 ≤ p := by omega
          rw [decide_eq_true hnn, Bool.true_and] at hok
          have hput := Lib.hid (fun W => refPut_any p W)
          by_cases heq : rput p = s.data.toList.take q
          · have hy : rok s.data.toList q = true := by rw [hok.out]; exact decide_eq_true heq
            have hR : (⟨(rput p).toArray⟩ : ByteArray) = t := jstr_ext (by rw [htk.out, ← heq])
            have hj := jeq_t t
            have hfin := Lib.hid (hit.out hy)
            clear hit hok htk hno heq hy
            replace hR := Lib.hid hR
            have cb : decide (0 ≤ p) = true := decide_eq_true hnn
            go_wp2_with fail
            refine hcall.out.mono ?_
            rintro e w1 ⟨rfl, hb⟩
            have hB1 := Lib.hid (hB.trans (hb.mono hB.size))
            clear hcall hB hb
            go_wp2_with fail
            go_region_with (go_at_call 199; refine (hput.out _).mono ?_; rintro en w2 ⟨rfl, hB2⟩; rw [hR.out])
            all_goals
              have hB3 := Lib.hid ((bel_drew1 hB1.out).trans (hB2.mono (show w.heap.size ≤ w1.drew.heap.size from hB1.out.size)))
              go_wp2_with fail
              refine bodyPost_ret (v := .tuple #[.int .i64 p, .int .i64 q]) (by simp [results, Tryz.results186, go_sem]) rfl (runeEnd_of hfin.out rfl hB3.out)
          · have hy : rok s.data.toList q = false := by rw [hok.out]; exact decide_eq_false heq
            obtain ⟨T, hT⟩ : ∃ T : ByteArray, ⟨(rput p).toArray⟩ = T := ⟨_, rfl⟩
            have hne2 : T ≠ t := fun e => heq (by rw [← htk.out, ← e, ← hT])
            have hj := jeq_f hne2
            have hst := Lib.hid (hno.out.step hy)
            clear hit hok htk hno heq hy hne2
            replace hT := Lib.hid hT
            have cb : decide (0 ≤ p) = true := decide_eq_true hnn
            go_wp2_with fail
            refine hcall.out.mono ?_
            rintro e w1 ⟨rfl, hb⟩
            have hB1 := Lib.hid (hB.trans (hb.mono hB.size))
            clear hcall hB hb
            go_wp2_with fail
            go_region_with (go_at_call 199; refine (hput.out _).mono ?_; rintro en w2 ⟨rfl, hB2⟩; rw [hT.out])
            all_goals
              have hB3 := Lib.hid ((bel_drew1 hB1.out).trans (hB2.mono (show w.heap.size ≤ w1.drew.heap.size from hB1.out.size)))
              go_wp2_with fail
              go_roundw
              case rel => exact ⟨q + 1, by omega, by omega, by go_num, hst.out, hB3.out⟩
              case measure => simp [intOf]; omega
      · have hfin := Lib.hid (rrune_miss hno hnl.out (by rw [hlen.out]; exact hc))
        replace hB := Lib.hid hB
        by_cases h4 : (q : Int) ≤ 4
        · have hqs : ¬ (q : Int) ≤ (s.size : Int) := by omega
          clear hno
          go_wp2_with fail
          refine bodyPost_ret (v := .tuple #[.int .i64 (-1), .int .i64 1]) (by simp [results, Tryz.results186, go_sem]) rfl (runeEnd_of hfin.out rfl hB.out)
        · clear hno
          go_wp2_with fail
          refine bodyPost_ret (v := .tuple #[.int .i64 (-1), .int .i64 1]) (by simp [results, Tryz.results186, go_sem]) rfl (runeEnd_of hfin.out rfl hB.out)

set_option maxHeartbeats 2000000 in
theorem refValid_any : ValSays 162 Lib.validD := by
  intro s w hs
  obtain ⟨R, hR⟩ : ∃ R, Lib.validD s.data.toList = R := ⟨_, rfl⟩
  rw [hR]
  go_enter Tryz.func162, Tryz.ntmps162
  go_wp2_with fail
  go_loopw [0] (fun v wr => ∃ t : ByteArray, t.size ≤ 1000000 ∧ v = .string t ∧ Lib.validD t.data.toList = R ∧ Below w.heap.size w wr) (fun v _ => match v with | .string t => t.size | _ => 0)
  case atStart => exact ⟨s, hs, rfl, hR, Below.refl _ _⟩
  case round =>
    obtain ⟨t, ht, rfl, hv, hB⟩ := hrel
    by_cases h0 : t = ⟨#[]⟩
    · subst h0
      have hR1 : R = true := by rw [← hv]; rfl
      subst hR1
      replace hB := Lib.hid hB
      clear hv
      go_wp2_with fail
      go_ret
      exact ⟨rfl, hB.out⟩
    · have hne := nonempty_f h0
      have hnl : t.data.toList ≠ [] := fun e => h0 (jstr_ext e)
      have hvr := valid_rune t.data.toList hnl
      obtain ⟨hw1, hw2⟩ := rrune_width t.data.toList hnl
      have hcall := refRune_any t wr (by omega)
      have hdr := ext_drop t (rrune t.data.toList).2
      rw [bytes_len] at hw2
      unfold RuneEnd at hcall
      obtain ⟨p, hp⟩ : ∃ p, (rrune t.data.toList).1 = p := ⟨_, rfl⟩
      obtain ⟨k, hk⟩ : ∃ k, (rrune t.data.toList).2 = k := ⟨_, rfl⟩
      rw [hp, hk] at hcall hvr
      rw [hk] at hw1 hw2 hdr
      rw [hv] at hvr
      replace hcall := Lib.hid hcall
      clear hp hk hnl h0 hv
      have hk0 : (0 : Int) ≤ (k : Int) := by omega
      have hk1 : (k : Int) ≤ (t.size : Int) := by omega
      by_cases hn : p < 0
      · have hR1 : R = false := by rw [hvr, if_pos hn]
        subst hR1
        clear hvr hdr
        go_wp2_with fail
        refine hcall.out.mono ?_
        rintro e w1 ⟨rfl, hb⟩
        have hB1 := Lib.hid (hB.trans (hb.mono hB.size))
        clear hcall hB hb
        go_wp2_with fail
        go_ret
        exact ⟨rfl, hB1.out⟩
      · rw [if_neg hn] at hvr
        have hes : (t.extract k t.size).size = t.size - k := by rw [← bytes_len, hdr, List.length_drop, bytes_len]
        obtain ⟨T, hT⟩ : ∃ T, t.extract k t.size = T := ⟨_, rfl⟩
        rw [hT] at hdr hes
        rw [← hdr] at hvr
        replace hvr := Lib.hid hvr
        clear hdr
        replace hes := Lib.hid hes
        go_wp2_with fail
        refine hcall.out.mono ?_
        rintro e w1 ⟨rfl, hb⟩
        have hB1 := Lib.hid (hB.trans (hb.mono hB.size))
        clear hcall hB hb
        go_wp2_with fail
        go_roundw
        case rel => exact ⟨T, by rw [hes.out]; omega, rfl, hvr.out.symm, hB1.out⟩
        case measure => simp [hes.out]; omega
end Go.Proofs.YtamcbgkppgdniaaGreatDoor
