/-
  DecMoved answers true, whatever the digits, the noughts and the exponent, in every memory in which the table of powers of ten lies as the program lays it.
-/
import Derived.Test.YtflnkclobgjfdaaDoorDecAw
import Derived.Test.YtflnkclobgjfdaaDoorDecN
import Derived.Test.YtflnkclobgjfdaaDoorDecM
import Derived.Deep.RegionWith
import Derived.Deep.DeepCutAuto
import Derived.Deep.CutBlock
namespace Go.Proofs.YtflnkclobgjfdaaDoor
open Go.RowKit

/-- The digits that the loop lays: each number's last digit. -/
def digL (xs : List Int) : List UInt8 := xs.map fun x => UInt8.ofNat (48 + (x % 10).toNat)

theorem digL_dig (xs : List Int) (x : UInt8) (h : x ∈ digL xs) : isDig x = true := by
  unfold digL at h
  obtain ⟨a, _, rfl⟩ := List.mem_map.1 h
  have h0 : 0 ≤ a % 10 ∧ a % 10 < 10 := by omega
  have h1 : (UInt8.ofNat (48 + (a % 10).toNat)).toNat = 48 + (a % 10).toNat := by rw [UInt8.toNat_ofNat']; omega
  unfold isDig
  rw [h1]
  simp
  omega

/-- The slice of numbers that comes in. -/
def U8s (a : Option Addr) (xs : List Int) (W : World) : Prop :=
  (∀ x, x ∈ xs → 0 ≤ x ∧ x ≤ 255) ∧ (0 < xs.length → ∃ b o, a = some ⟨b, o, none⟩ ∧ b < W.heap.size ∧ ∀ i, i < xs.length → W.cell? ⟨b, o + i, none⟩ = some (.int .u8 (xs.getD i 0)))

theorem U8s.below {a : Option Addr} {xs : List Int} {W W' : World} (h : U8s a xs W) (hB : Below W.heap.size W W') : U8s a xs W' := by
  refine ⟨h.1, fun h0 => ?_⟩
  obtain ⟨b, o, ha, hb, hc⟩ := h.2 h0
  exact ⟨b, o, ha, Nat.lt_of_lt_of_le hb hB.size, fun i hi => (hB.cell (p := ⟨b, o + i, none⟩) hb).trans (hc i hi)⟩

theorem digL_step {xs : List Int} {k : Nat} (hk : k < xs.length) : digL (xs.take (k + 1)) = digL (xs.take k) ++ [UInt8.ofNat (48 + (xs.getD k 0 % 10).toNat)] := by
  unfold digL
  rw [List.take_add_one, List.map_append, List.getD, List.getElem?_eq_getElem hk]
  rfl

set_option maxRecDepth 100000 in
set_option maxHeartbeats 2000000 in
theorem decMoved_any (a : Option Addr) (xs : List Int) (cap : Nat) (no e : Int) (w : World) (hE : Env w) (hx : U8s a xs w) (hlen : xs.length ≤ 9223372036854775807) (hn0 : 0 ≤ no) (hn1 : no ≤ 255) (he0 : -9223372036854775808 ≤ e) (he1 : e ≤ 9223372036854775807) :
    Calls Tryd.prog 7 #[.slice a xs.length cap, .int .u8 no, .int .i64 e] w fun en w' => en = .returned (.bool true) ∧ Below w.heap.size w w' := by
  have haw := Lib.hid (fun W (hE : Env W) => awake_any W hE)
  by_cases hbig : 150 < xs.length
  · go_enter Tryd.func7, Tryd.ntmps7
    go_wp2_with fail
    refine (haw.out _ hE).mono ?_
    rintro en w1 ⟨rfl, hB⟩
    go_wp2
    go_ret
    exact ⟨rfl, hB⟩
  · obtain ⟨n, hn⟩ : ∃ n : Nat, no.tmod 40 = n := ⟨(no.tmod 40).toNat, by have := Int.tmod_nonneg 40 hn0; omega⟩
    have hn40 : n < 40 := by have := Int.tmod_lt_of_pos no (b := 40) (by omega); omega
    obtain ⟨E0, hE0⟩ : ∃ E0, IntKind.u64.wrap e = E0 := ⟨_, rfl⟩
    have hE1 : 0 ≤ E0 := by rw [← hE0, IntKind.wrap_u64]; omega
    obtain ⟨X, hX⟩ : ∃ X : Nat, E0.tmod 5000 = X := ⟨(E0.tmod 5000).toNat, by have := Int.tmod_nonneg 5000 hE1; omega⟩
    have hX5 : X < 5000 := by have := Int.tmod_lt_of_pos E0 (b := 5000) (by omega); omega
    have n1 : IntKind.u8.wrap (n : Int) = n := by rw [IntKind.wrap_u8]; omega
    have n2 : IntKind.i64.wrap (n : Int) = n := by rw [IntKind.wrap_i64]; omega
    have x1 : IntKind.u64.wrap (X : Int) = X := by rw [IntKind.wrap_u64]; omega
    have x2 : IntKind.i64.wrap (X : Int) = X := by rw [IntKind.wrap_i64]; omega
    obtain ⟨Y, hY⟩ : ∃ Y : Nat, X + n = Y := ⟨_, rfl⟩
    have hY6 : Y ≤ 6000 := by omega
    have xn : (X : Int) + n = Y := by omega
    have xy : IntKind.i64.wrap (Y : Int) = Y := by rw [IntKind.wrap_i64]; omega
    clear hE1
    go_enter Tryd.func7, Tryd.ntmps7
    go_wp2_with fail
    refine (haw.out _ hE).mono ?_
    rintro en w1 ⟨rfl, hB⟩
    have hEn := hE.below hB
    have hx1 := hx.below hB
    replace hB := Lib.hid hB
    replace hEn := Lib.hid hEn
    replace hx1 := Lib.hid hx1
    clear hx hE haw
    go_wp2
    go_loopw [7, 8] (fun s i wr => ∃ (k : Nat) (S : ByteArray), k ≤ xs.length ∧ s = .string S ∧ i = .int .i64 k ∧ S.data.toList = 49 :: digL (xs.take k) ∧ Below w1.heap.size w1 wr) (fun _ i _ => xs.length - (intOf i).toNat)
    case atStart => exact ⟨0, ⟨#[49]⟩, Nat.zero_le _, rfl, rfl, rfl, Below.refl _ _⟩
    case round =>
      obtain ⟨k, S, hk, rfl, rfl, hS, hBk⟩ := hrel
      by_cases hlt : k < xs.length
      · obtain ⟨b, o, rfl, hb, hcl⟩ := (hx1.out.below hBk).2 (by omega)
        have hc := hcl k hlt
        have hrg := hx1.out.1 (xs.getD k 0) (by rw [List.getD, List.getElem?_eq_getElem hlt]; exact List.getElem_mem hlt)
        have hst := digL_step hlt
        obtain ⟨x, hxe⟩ : ∃ x, xs.getD k 0 = x := ⟨_, rfl⟩
        rw [hxe] at hc hrg hst
        obtain ⟨r, hr⟩ : ∃ r : Nat, x.tmod 10 = r := ⟨(x.tmod 10).toNat, by have := Int.tmod_nonneg 10 hrg.1; omega⟩
        have hr2 : (x % 10).toNat = r := by have := Int.tmod_eq_emod_of_nonneg (b := 10) hrg.1; omega
        have hr10 : r < 10 := by have := Int.tmod_lt_of_pos x (b := 10) (by omega); omega
        rw [hr2] at hst
        have hw1 : IntKind.u8.wrap (r : Int) = r := by rw [IntKind.wrap_u8]; omega
        have hw2 : IntKind.u8.wrap (48 + (r : Int)) = 48 + r := by rw [IntKind.wrap_u8]; omega
        obtain ⟨one, hone⟩ : ∃ one : ByteArray, one = ⟨#[UInt8.ofNat (48 + r)]⟩ := ⟨_, rfl⟩
        have hcv : ∀ (V : World) (g : Nat), V.cell? ⟨g, 0, none⟩ = some (.int .u8 (48 + r)) → (convert 36 9 (.slice (some ⟨g, 0, none⟩) 1 1)).run Tryd.prog V = .ok (.string one) V := fun V g hg => by
          have := one_byte_at V g (48 + r) (by omega) (by omega) hg
          rw [this, hone]; congr 2
        have hSl : S.size ≤ 151 := by
          rw [← bytes_len, hS, List.length_cons]; unfold digL; rw [List.length_map, List.length_take]; omega
        have hadd := add_ok S one (by rw [hone]; show S.size + 1 ≤ _; omega)
        clear hcl hxe hr2 hx1
        replace hS := Lib.hid hS
        replace hst := Lib.hid hst
        replace hone := Lib.hid hone
        replace hBk := Lib.hid hBk
        replace hrg := Lib.hid hrg
        go_wp2
        go_roundw
        case rel => exact ⟨k + 1, S ++ one, by omega, rfl, by go_num, by rw [ByteArray.data_append, Array.toList_append, hS.out, hst.out, hone.out]; rfl, hBk.out.alloc hBk.out.size _⟩
        case measure => simp [intOf]; omega
      · have hS2 : S.data.toList = 49 :: digL xs := by rw [hS, List.take_of_length_le (by omega)]
        have hSl : S.size ≤ 151 := by
          rw [← bytes_len, hS2, List.length_cons]; unfold digL; rw [List.length_map]; omega
        have hB2 := hB.out.trans (hBk.mono hB.out.size)
        have hE2 := hEn.out.below hBk
        obtain ⟨l, k1, k2, k3⟩ := moved_law 49 (digL xs) rfl rfl (digL_dig xs) (by unfold digL; rw [List.length_map]; omega) n X hn40 hX5
        rw [hY] at k1 k3
        clear hY
        have hadd0 := add_ok S ⟨#[46, 48]⟩ (by show S.size + 2 ≤ _; omega)
        have hadd1 := add_ok S ⟨#[101]⟩ (by show S.size + 1 ≤ _; omega)
        clear hB hEn hx1 hS hk hlen
        replace hS2 := Lib.hid hS2
        replace hB2 := Lib.hid hB2
        replace hE2 := Lib.hid hE2
        replace k1 := Lib.hid k1
        replace k2 := Lib.hid k2
        replace k3 := Lib.hid k3
        clear hBk
        go_wp2
        go_loop [10, 11, 12] (fun t u i => ∃ (j : Nat) (T U : ByteArray), j ≤ n ∧ t = .string T ∧ u = .string U ∧ i = .int .i64 j ∧ T.data.toList = S.data.toList ++ 46 :: 48 :: List.replicate j 48 ∧ U.data.toList = S.data.toList ++ List.replicate j 48) (fun _ _ i => n - (intOf i).toNat)
        case atStart => exact ⟨0, _, _, Nat.zero_le _, rfl, rfl, rfl, by rw [ByteArray.data_append, Array.toList_append]; rfl, by simp⟩
        case round =>
          obtain ⟨j, T, U, hj, rfl, rfl, rfl, hT, hU⟩ := hrel
          have hTl : T.size ≤ 200 := by
            rw [← bytes_len, hT, List.length_append, bytes_len]; simp; omega
          have hUl : U.size ≤ 200 := by
            rw [← bytes_len, hU, List.length_append, bytes_len]; simp; omega
          by_cases hlt2 : j < n
          · have ha1 := add_ok T ⟨#[48]⟩ (by show T.size + 1 ≤ _; omega)
            have ha2 := add_ok U ⟨#[48]⟩ (by show U.size + 1 ≤ _; omega)
            have e1 : (T ++ ⟨#[48]⟩).data.toList = S.data.toList ++ 46 :: 48 :: List.replicate (j + 1) 48 := by
              rw [ByteArray.data_append, Array.toList_append, hT, List.replicate_succ']; simp
            have e2 : (U ++ ⟨#[48]⟩).data.toList = S.data.toList ++ List.replicate (j + 1) 48 := by
              rw [ByteArray.data_append, Array.toList_append, hU, List.replicate_succ']; simp
            clear hT hU
            replace e1 := Lib.hid e1
            replace e2 := Lib.hid e2
            go_wp2
            go_round
            case rel => exact ⟨j + 1, _, _, by omega, rfl, rfl, by go_num, e1.out, e2.out⟩
            case measure => simp [intOf]; omega
          · have hjn : j = n := by omega
            subst hjn
            have ha1 := add_ok T ⟨#[101]⟩ (by show T.size + 1 ≤ _; omega)
            have ha2 := add_ok U ⟨#[69, 43, 48, 48]⟩ (by show U.size + 4 ≤ _; omega)
            replace hT := Lib.hid hT
            replace hU := Lib.hid hU
            clear hn0 hn1 he0 he1 hE0 hX hn n1 n2 x1 x2 hbig hlt hlt2 hj hX5 hn40 hadd0
            have hnum := Lib.hid (fun (m : Nat) (W : World) (hm : m < 100000) => number_any m W hm)
            have hown := Lib.hid (fun (s : ByteArray) (W : World) (hE : Env W) (hs : s.size ≤ 1099511627776) (h : ownL s.data.toList = (l, 0)) => own_lit s W hE hs h)
            have hsz := Lib.hid (fun (m : Nat) (g : ByteArray) (hm : m ≤ 6000) (hg : g.data.toList = Lib.decDigits m) => show g.size ≤ 6001 by
              have h1 := decDigits_len1 m
              rw [← hg, bytes_len] at h1
              omega)
            go_wp2_with fail
            refine (hnum.out Y _ (by omega)).mono ?_
            rintro en w2 ⟨g1, hg1, rfl, hB3⟩
            have hE3 := hE2.out.below hB3
            have hz1 := hsz.out _ g1 (by omega) hg1
            have hc1 := add_ok (T ++ ⟨#[101]⟩) g1 (by have : (T ++ ⟨#[101]⟩).size = T.size + 1 := ByteArray.size_append; omega)
            have o1 : ownL (T ++ ⟨#[101]⟩ ++ g1).data.toList = (l, 0) := by
              rw [ByteArray.data_append, Array.toList_append, ByteArray.data_append, Array.toList_append, hT.out, hS2.out, hg1, ← k1.out]
              simp [List.replicate_succ]
            have hz1' : (T ++ ⟨#[101]⟩ ++ g1).size ≤ 1099511627776 := by rw [ByteArray.size_append, ByteArray.size_append]; show T.size + 1 + g1.size ≤ _; omega
            have own1 := Lib.hid (fun (W : World) (hE : Env W) => hown.out _ W hE hz1' o1)
            replace hB3 := Lib.hid (hB2.out.trans (hB3.mono hB2.out.size))
            clear hB2 o1 hz1' hg1 hz1 hE2 k1 hT
            go_wp2_with fail
            refine (own1.out _ hE3).mono ?_
            rintro en w3 ⟨rfl, hB4⟩
            have hE4 := hE3.below hB4
            replace hB4 := Lib.hid (hB3.out.trans (hB4.mono hB3.out.size))
            replace hE4 := Lib.hid hE4
            clear hE3 hB3 own1 hc1 ha1
            go_wp2_with fail
            refine (hnum.out X _ (by omega)).mono ?_
            rintro en w4 ⟨g2, hg2, rfl, hB5⟩
            have hE5 := hE4.out.below hB5
            have hz2 := hsz.out _ g2 (by omega) hg2
            have hc2 := add_ok (U ++ ⟨#[69, 43, 48, 48]⟩) g2 (by have : (U ++ ⟨#[69, 43, 48, 48]⟩).size = U.size + 4 := ByteArray.size_append; omega)
            have o2 : ownL (U ++ ⟨#[69, 43, 48, 48]⟩ ++ g2).data.toList = (l, 0) := by
              rw [ByteArray.data_append, Array.toList_append, ByteArray.data_append, Array.toList_append, hU.out, hS2.out, hg2, ← k2.out]
              simp
            have hz2' : (U ++ ⟨#[69, 43, 48, 48]⟩ ++ g2).size ≤ 1099511627776 := by rw [ByteArray.size_append, ByteArray.size_append]; show U.size + 4 + g2.size ≤ _; omega
            have own2 := Lib.hid (fun (W : World) (hE : Env W) => hown.out _ W hE hz2' o2)
            replace hB5 := Lib.hid (hB4.out.trans (hB5.mono hB4.out.size))
            clear hB4 o2 hz2' hg2 hz2 hE4 k2 hU
            go_wp2_with fail
            refine (own2.out _ hE5).mono ?_
            rintro en w5 ⟨rfl, hB6⟩
            have hE6 := hE5.below hB6
            replace hB6 := Lib.hid (hB5.out.trans (hB6.mono hB5.out.size))
            replace hE6 := Lib.hid hE6
            clear hE5 hB5 own2 hc2 ha2
            go_wp2_with fail
            refine (hnum.out Y _ (by omega)).mono ?_
            rintro en w6 ⟨g3, hg3, rfl, hB7⟩
            have hE7 := hE6.out.below hB7
            have hz3 := hsz.out _ g3 (by omega) hg3
            have hc3 := add_ok (S ++ ⟨#[101]⟩) g3 (by have : (S ++ ⟨#[101]⟩).size = S.size + 1 := ByteArray.size_append; omega)
            have o3 : ownL (S ++ ⟨#[101]⟩ ++ g3).data.toList = (l, 0) := by
              rw [ByteArray.data_append, Array.toList_append, ByteArray.data_append, Array.toList_append, hS2.out, hg3, ← k3.out]
              simp
            have hz3' : (S ++ ⟨#[101]⟩ ++ g3).size ≤ 1099511627776 := by rw [ByteArray.size_append, ByteArray.size_append]; show S.size + 1 + g3.size ≤ _; omega
            have own3 := Lib.hid (fun (W : World) (hE : Env W) => hown.out _ W hE hz3' o3)
            replace hB7 := Lib.hid (hB6.out.trans (hB7.mono hB6.out.size))
            clear hB6 o3 hz3' hg3 hz3 hE6 k3
            go_wp2_with fail
            refine (own3.out _ hE7).mono ?_
            rintro en w7 ⟨rfl, hB8⟩
            replace hB8 := Lib.hid (hB7.out.trans (hB8.mono hB7.out.size))
            clear hE7 hB7 own3 hc3
            go_wp2
            go_ret
            exact ⟨rfl, hB8.out⟩
end Go.Proofs.YtflnkclobgjfdaaDoor
