/-
  The walk of JsonNames.
-/
import Derived.Test.YtlnkjacbdolhnaaGreatDoorM31
import Derived.BigQuiet
namespace Go.Proofs.YtlnkjacbdolhnaaGreatDoor
open Go.RowKit

def qJ (w : World) (J : Jsn) (v : Value) : Prop := ∃ A n c B m d, v = .agg #[.int .u8 J.kind, .string J.text, .slice A n c, .slice B m d] ∧ JV w (fun _ => True) J (.slice A n c) (.slice B m d)
def qT (w : World) (J : Jsn) (e : Int) (v : Value) : Prop := ∃ A n c B m d, v = .agg #[.int .u8 J.kind, .string J.text, .slice A n c, .slice B m d, .int .i64 e] ∧ JV w (fun _ => True) J (.slice A n c) (.slice B m d)
def qN (w : World) (ns : List ByteArray) (v : Value) : Prop := ∃ g, v = .slice (some ⟨g, 0, none⟩) ns.length ns.length ∧ Cel w g 9 (ns.map Value.string).toArray
def qR (w : World) (l : List Jsn) (v : Value) : Prop := ∃ (g : Nat) (zs : List JE), v = .slice (some ⟨g, 0, none⟩) zs.length zs.length ∧ Cel w g 25 (zs.flatMap encJ).toArray ∧ zs.map (·.1) = l ∧ ∀ z ∈ zs, JV w (fun _ => True) z.1 z.2.1 z.2.2
def encT2 (z : JE × Int) : List Value := [.int .u8 z.1.1.kind, .string z.1.1.text, z.1.2.1, z.1.2.2, .int .i64 z.2]
def qTab (w : World) (l : List (Jsn × Int)) (v : Value) : Prop := ∃ (g : Nat) (zs : List (JE × Int)), v = .slice (some ⟨g, 0, none⟩) zs.length zs.length ∧ Cel w g 51 (zs.flatMap encT2).toArray ∧ zs.map (fun z => (z.1.1, z.2)) = l ∧ ∀ z ∈ zs, JV w (fun _ => True) z.1.1 z.1.2.1 z.1.2.2
section
variable {w w' : World} {v : Value}
theorem qJ.keep {J : Jsn} (h : qJ w J v) (hb : Below w.heap.size w w') : qJ w' J v := by
  obtain ⟨A, n, c, B, m, d, e, hj⟩ := h
  exact ⟨A, n, c, B, m, d, e, hj.later hb⟩
theorem qT.keep {J : Jsn} {e : Int} (h : qT w J e v) (hb : Below w.heap.size w w') : qT w' J e v := by
  obtain ⟨A, n, c, B, m, d, e, hj⟩ := h
  exact ⟨A, n, c, B, m, d, e, hj.later hb⟩
theorem qN.keep {ns : List ByteArray} (h : qN w ns v) (hb : Below w.heap.size w w') : qN w' ns v := by
  obtain ⟨g, e, hC⟩ := h
  exact ⟨g, e, hC.below hb hC.lt⟩
theorem qR.keep {l : List Jsn} (h : qR w l v) (hb : Below w.heap.size w w') : qR w' l v := by
  obtain ⟨g, zs, e, hC, hz, hj⟩ := h
  exact ⟨g, zs, e, hC.below hb hC.lt, hz, fun z hz' => (hj z hz').later hb⟩
theorem qTab.keep {l : List (Jsn × Int)} (h : qTab w l v) (hb : Below w.heap.size w w') : qTab w' l v := by
  obtain ⟨g, zs, e, hC, hz, hj⟩ := h
  exact ⟨g, zs, e, hC.below hb hC.lt, hz, fun z hz' => (hj z hz').later hb⟩
theorem qN_str {g : Nat} {ns : List ByteArray} (h : Cel w g 9 (ns.map Value.string).toArray) : StrL w (fun _ => True) (.slice (some ⟨g, 0, none⟩) ns.length ns.length) ns :=
  ⟨_, _, rfl, fun _ => ⟨g, 0, rfl, trivial, h.lt, fun j x hx => by
    rw [Nat.zero_add, h.cell]
    simp [hx]⟩⟩
end
theorem encJ_at : ∀ (zs : List JE) (i : Nat) (z : JE), zs[i]? = some z → ∀ (q : Nat) (v : Value), (encJ z)[q]? = some v → (zs.flatMap encJ)[i * 4 + q]? = some v
  | [], _, _, h, _, _, _ => by simp at h
  | y :: zs, 0, z, h1, q, v, h3 => by
    simp at h1
    subst h1
    have hq : q < (encJ y).length := (List.getElem?_eq_some_iff.1 h3).1
    rw [List.flatMap_cons, Nat.zero_mul, Nat.zero_add, List.getElem?_append_left hq]
    exact h3
  | y :: zs, i + 1, z, h1, q, v, h3 => by
    have ih := encJ_at zs i z (by simpa using h1) q v h3
    rw [List.flatMap_cons, List.getElem?_append_right (by rw [encJ_len]; omega), encJ_len, show (i + 1) * 4 + q - 4 = i * 4 + q by omega]
    exact ih
theorem encT2_at : ∀ (zs : List (JE × Int)) (i : Nat) z, zs[i]? = some z → ∀ (q : Nat) (v : Value), (encT2 z)[q]? = some v → (zs.flatMap encT2)[i * 5 + q]? = some v
  | [], _, _, h, _, _, _ => by simp at h
  | y :: zs, 0, z, h1, q, v, h3 => by
    simp at h1
    subst h1
    have hq : q < (encT2 y).length := (List.getElem?_eq_some_iff.1 h3).1
    rw [List.flatMap_cons, Nat.zero_mul, Nat.zero_add, List.getElem?_append_left hq]
    exact h3
  | y :: zs, i + 1, z, h1, q, v, h3 => by
    have ih := encT2_at zs i z (by simpa using h1) q v h3
    have hl : (encT2 y).length = 5 := rfl
    rw [List.flatMap_cons, List.getElem?_append_right (by rw [hl]; omega), hl, show (i + 1) * 5 + q - 5 = i * 5 + q by omega]
    exact ih
def nmRows (D : Jsn) (s8 s9 : ByteArray) : List (Jsn × Int) := [(D, (0 : Int)), ((⟨6, ⟨#[]⟩, [], [D]⟩ : Jsn), (61 : Int)), (wideJ, (40 : Int)), ((⟨5, s8, [], []⟩ : Jsn), (0 : Int)), ((⟨5, s9, [], []⟩ : Jsn), (40 : Int)), ((⟨5, (s8 ++ ⟨#[120]⟩), [], []⟩ : Jsn), (40 : Int)), ((⟨0, ⟨#[]⟩, [], []⟩ : Jsn), (4 : Int)), ((⟨4, ⟨#[49, 46, 53]⟩, [], []⟩ : Jsn), (4 : Int)), ((⟨4, ⟨#[49, 48]⟩, [], []⟩ : Jsn), (4 : Int)), ((⟨4, ⟨#[49, 101, 49]⟩, [], []⟩ : Jsn), (0 : Int)), ((⟨5, ⟨#[255]⟩, [], []⟩ : Jsn), (4 : Int)), ((⟨7, ⟨#[]⟩, [⟨#[97]⟩], []⟩ : Jsn), (4 : Int)), ((⟨7, ⟨#[]⟩, [⟨#[97]⟩, ⟨#[97]⟩], [(⟨4, ⟨#[49]⟩, [], []⟩ : Jsn), (⟨4, ⟨#[49]⟩, [], []⟩ : Jsn)]⟩ : Jsn), (6 : Int)), ((⟨7, ⟨#[]⟩, [⟨#[255]⟩], [(⟨4, ⟨#[49]⟩, [], []⟩ : Jsn)]⟩ : Jsn), (4 : Int)), ((⟨1, ⟨#[120]⟩, [], []⟩ : Jsn), (4 : Int)), ((⟨6, ⟨#[]⟩, [⟨#[97]⟩], []⟩ : Jsn), (4 : Int)), ((⟨8, ⟨#[]⟩, [], []⟩ : Jsn), (4 : Int))]
theorem nmRows_eq : nmRows (deepJ 63) jm8 jm9 = nmT2 := rfl
def nmPhi (D : Jsn) (s8 s9 : ByteArray) (i : Nat) (f : Tmp → Value) (w : World) : Prop := match i with
  | 0 => qJ w D (f 131)
  | 1 => qT w D 0 (f 132)
  | 2 => qJ w D (f 133)
  | 3 => qR w [D] (f 134)
  | 4 => qJ w (⟨6, ⟨#[]⟩, [], [D]⟩ : Jsn) (f 135)
  | 5 => qT w (⟨6, ⟨#[]⟩, [], [D]⟩ : Jsn) 61 (f 136)
  | 6 => qJ w wideJ (f 137)
  | 7 => qT w wideJ 40 (f 138)
  | 8 => qJ w (⟨5, s8, [], []⟩ : Jsn) (f 139)
  | 9 => qT w (⟨5, s8, [], []⟩ : Jsn) 0 (f 140)
  | 10 => f 141 = .string s9
  | 11 => qJ w (⟨5, s9, [], []⟩ : Jsn) (f 142)
  | 12 => qT w (⟨5, s9, [], []⟩ : Jsn) 40 (f 143)
  | 13 => f 144 = .string s8
  | 14 => f 145 = .string (s8 ++ ⟨#[120]⟩)
  | 15 => qJ w (⟨5, (s8 ++ ⟨#[120]⟩), [], []⟩ : Jsn) (f 146)
  | 16 => qT w (⟨5, (s8 ++ ⟨#[120]⟩), [], []⟩ : Jsn) 40 (f 147)
  | 17 => qJ w (⟨0, ⟨#[]⟩, [], []⟩ : Jsn) (f 148)
  | 18 => qT w (⟨0, ⟨#[]⟩, [], []⟩ : Jsn) 4 (f 149)
  | 19 => qJ w (⟨4, ⟨#[49, 46, 53]⟩, [], []⟩ : Jsn) (f 150)
  | 20 => qT w (⟨4, ⟨#[49, 46, 53]⟩, [], []⟩ : Jsn) 4 (f 151)
  | 21 => qJ w (⟨4, ⟨#[49, 48]⟩, [], []⟩ : Jsn) (f 152)
  | 22 => qT w (⟨4, ⟨#[49, 48]⟩, [], []⟩ : Jsn) 4 (f 153)
  | 23 => qJ w (⟨4, ⟨#[49, 101, 49]⟩, [], []⟩ : Jsn) (f 154)
  | 24 => qT w (⟨4, ⟨#[49, 101, 49]⟩, [], []⟩ : Jsn) 0 (f 155)
  | 25 => qJ w (⟨5, ⟨#[255]⟩, [], []⟩ : Jsn) (f 156)
  | 26 => qT w (⟨5, ⟨#[255]⟩, [], []⟩ : Jsn) 4 (f 157)
  | 27 => qN w [⟨#[97]⟩] (f 158)
  | 28 => qJ w (⟨7, ⟨#[]⟩, [⟨#[97]⟩], []⟩ : Jsn) (f 159)
  | 29 => qT w (⟨7, ⟨#[]⟩, [⟨#[97]⟩], []⟩ : Jsn) 4 (f 160)
  | 30 => qN w [⟨#[97]⟩, ⟨#[97]⟩] (f 161)
  | 31 => qJ w (⟨4, ⟨#[49]⟩, [], []⟩ : Jsn) (f 162)
  | 32 => qJ w (⟨4, ⟨#[49]⟩, [], []⟩ : Jsn) (f 163)
  | 33 => qR w [(⟨4, ⟨#[49]⟩, [], []⟩ : Jsn), (⟨4, ⟨#[49]⟩, [], []⟩ : Jsn)] (f 164)
  | 34 => qJ w (⟨7, ⟨#[]⟩, [⟨#[97]⟩, ⟨#[97]⟩], [(⟨4, ⟨#[49]⟩, [], []⟩ : Jsn), (⟨4, ⟨#[49]⟩, [], []⟩ : Jsn)]⟩ : Jsn) (f 165)
  | 35 => qT w (⟨7, ⟨#[]⟩, [⟨#[97]⟩, ⟨#[97]⟩], [(⟨4, ⟨#[49]⟩, [], []⟩ : Jsn), (⟨4, ⟨#[49]⟩, [], []⟩ : Jsn)]⟩ : Jsn) 6 (f 166)
  | 36 => qN w [⟨#[255]⟩] (f 167)
  | 37 => qJ w (⟨4, ⟨#[49]⟩, [], []⟩ : Jsn) (f 168)
  | 38 => qR w [(⟨4, ⟨#[49]⟩, [], []⟩ : Jsn)] (f 169)
  | 39 => qJ w (⟨7, ⟨#[]⟩, [⟨#[255]⟩], [(⟨4, ⟨#[49]⟩, [], []⟩ : Jsn)]⟩ : Jsn) (f 170)
  | 40 => qT w (⟨7, ⟨#[]⟩, [⟨#[255]⟩], [(⟨4, ⟨#[49]⟩, [], []⟩ : Jsn)]⟩ : Jsn) 4 (f 171)
  | 41 => qJ w (⟨1, ⟨#[120]⟩, [], []⟩ : Jsn) (f 172)
  | 42 => qT w (⟨1, ⟨#[120]⟩, [], []⟩ : Jsn) 4 (f 173)
  | 43 => qN w [⟨#[97]⟩] (f 174)
  | 44 => qJ w (⟨6, ⟨#[]⟩, [⟨#[97]⟩], []⟩ : Jsn) (f 175)
  | 45 => qT w (⟨6, ⟨#[]⟩, [⟨#[97]⟩], []⟩ : Jsn) 4 (f 176)
  | 46 => qJ w (⟨8, ⟨#[]⟩, [], []⟩ : Jsn) (f 177)
  | 47 => qT w (⟨8, ⟨#[]⟩, [], []⟩ : Jsn) 4 (f 178)
  | 48 => qTab w (nmRows D s8 s9) (f 179)
  | 49 => f 180 = .int .i64 17
  | 50 => f 181 = .int .i64 0
  | _ => True

set_option maxRecDepth 100000 in
set_option maxHeartbeats 16000000 in
theorem jsonNames_any (w : World) (hE : EnvC w) : Calls Tryz.prog 4 #[] w fun e w' => e = .returned (.bool true) ∧ Below w.heap.size w w' := by
  have hWk := Lib.hid (works_any w hE)
  have hM := Lib.hid (fun (n : Nat) (s S : ByteArray) (hS : ofL (manyB n s.data.toList) = S) (hn : n ≤ 1000000) (hs : s.size ≤ 100) (W : World) => by have := nmMany_any n s W hn hs; rw [hS] at this; exact this)
  obtain ⟨s1, hs1, hz1⟩ : ∃ S, jm1 = S ∧ S.size ≤ 300000 := ⟨_, rfl, by unfold jm1; rw [size_ofL, manyB_len]; decide⟩
  replace hs1 := Lib.hid hs1
  obtain ⟨s2, hs2, hz2⟩ : ∃ S, jm2 = S ∧ S.size ≤ 300000 := ⟨_, rfl, by unfold jm2; rw [size_ofL, manyB_len]; decide⟩
  replace hs2 := Lib.hid hs2
  obtain ⟨s3, hs3, hz3⟩ : ∃ S, jm3 = S ∧ S.size ≤ 300000 := ⟨_, rfl, by unfold jm3; rw [size_ofL, manyB_len]; decide⟩
  replace hs3 := Lib.hid hs3
  obtain ⟨s4, hs4, hz4⟩ : ∃ S, jm4 = S ∧ S.size ≤ 300000 := ⟨_, rfl, by unfold jm4; rw [size_ofL, manyB_len]; decide⟩
  replace hs4 := Lib.hid hs4
  obtain ⟨s5, hs5, hz5⟩ : ∃ S, jm5 = S ∧ S.size ≤ 300000 := ⟨_, rfl, by unfold jm5; rw [size_ofL, manyB_len]; decide⟩
  replace hs5 := Lib.hid hs5
  obtain ⟨s6, hs6, hz6⟩ : ∃ S, jm6 = S ∧ S.size ≤ 300000 := ⟨_, rfl, by unfold jm6; rw [size_ofL, manyB_len]; decide⟩
  replace hs6 := Lib.hid hs6
  obtain ⟨s7, hs7, hz7⟩ : ∃ S, jm7 = S ∧ S.size ≤ 300000 := ⟨_, rfl, by unfold jm7; rw [size_ofL, manyB_len]; decide⟩
  replace hs7 := Lib.hid hs7
  obtain ⟨s8, hs8, hz8⟩ : ∃ S, jm8 = S ∧ S.size ≤ 300000 := ⟨_, rfl, by unfold jm8; rw [size_ofL, manyB_len]; decide⟩
  replace hs8 := Lib.hid hs8
  obtain ⟨s9, hs9, hz9⟩ : ∃ S, jm9 = S ∧ S.size ≤ 300000 := ⟨_, rfl, by unfold jm9; rw [size_ofL, manyB_len]; decide⟩
  replace hs9 := Lib.hid hs9
  go_enter Tryz.func4, Tryz.ntmps4
  go_wp2_with fail
  refine hWk.out.mono ?_
  rintro e w1 ⟨rfl, hb1⟩
  replace hb1 := Lib.hid hb1
  clear hWk

  go_wp2_with fail
  refine (hM.out 65 ⟨#[91]⟩ s1 hs1.out (by decide) (by decide) w1).mono ?_
  rintro e w2 ⟨rfl, hc1⟩
  replace hb1 := Lib.hid (hb1.out.trans (hc1.mono hb1.out.size))
  clear hc1

  go_wp2_with fail
  refine (hM.out 64 ⟨#[91]⟩ s2 hs2.out (by decide) (by decide) w2).mono ?_
  rintro e w3 ⟨rfl, hc2⟩
  replace hb1 := Lib.hid (hb1.out.trans (hc2.mono hb1.out.size))
  clear hc2

  go_wp2_with fail
  refine (hM.out 64 ⟨#[93]⟩ s3 hs3.out (by decide) (by decide) w3).mono ?_
  rintro e w4 ⟨rfl, hc3⟩
  replace hb1 := Lib.hid (hb1.out.trans (hc3.mono hb1.out.size))
  clear hc3

  go_wp2_with fail
  refine (hM.out 64 ⟨#[91]⟩ s2 hs2.out (by decide) (by decide) w4).mono ?_
  rintro e w5 ⟨rfl, hc4⟩
  replace hb1 := Lib.hid (hb1.out.trans (hc4.mono hb1.out.size))
  clear hc4

  go_wp2_with fail
  refine (hM.out 64 ⟨#[93]⟩ s3 hs3.out (by decide) (by decide) w5).mono ?_
  rintro e w6 ⟨rfl, hc5⟩
  replace hb1 := Lib.hid (hb1.out.trans (hc5.mono hb1.out.size))
  clear hc5

  go_wp2_with fail
  refine (hM.out 65535 ⟨#[49, 44]⟩ s4 hs4.out (by decide) (by decide) w6).mono ?_
  rintro e w7 ⟨rfl, hc6⟩
  replace hb1 := Lib.hid (hb1.out.trans (hc6.mono hb1.out.size))
  clear hc6

  go_wp2_with fail
  refine (hM.out 65534 ⟨#[49, 44]⟩ s5 hs5.out (by decide) (by decide) w7).mono ?_
  rintro e w8 ⟨rfl, hc7⟩
  replace hb1 := Lib.hid (hb1.out.trans (hc7.mono hb1.out.size))
  clear hc7

  go_wp2_with fail
  refine (hM.out 262144 ⟨#[32]⟩ s6 hs6.out (by decide) (by decide) w8).mono ?_
  rintro e w9 ⟨rfl, hc8⟩
  replace hb1 := Lib.hid (hb1.out.trans (hc8.mono hb1.out.size))
  clear hc8

  go_wp2_with fail
  refine (hM.out 262145 ⟨#[32]⟩ s7 hs7.out (by decide) (by decide) w9).mono ?_
  rintro e w10 ⟨rfl, hc9⟩
  replace hb1 := Lib.hid (hb1.out.trans (hc9.mono hb1.out.size))
  clear hc9

  obtain ⟨W1, hW1⟩ : ∃ X, w10.alloc (.cells #[.string ⟨#[34, 92, 117, 100, 56, 51, 52, 34]⟩, .int .i64 4, .string ⟨#[91, 49, 44, 93]⟩, .int .i64 4, .string ⟨#[123, 34, 97, 34, 58, 49, 44, 34, 97, 34, 58, 50, 125]⟩, .int .i64 6, .string ⟨#[48, 49]⟩, .int .i64 4, .string s1, .int .i64 61, .string ⟨#[]⟩, .int .i64 4, .string ⟨#[49, 101, 57, 57, 57, 57, 57]⟩, .int .i64 40, .string (s2 ++ s3), .int .i64 0, .string (s2 ++ ⟨#[49]⟩ ++ s3), .int .i64 61, .string ⟨#[34, 92, 117, 100, 100, 49, 101, 34]⟩, .int .i64 4, .string ⟨#[34, 92, 117, 100, 56, 51, 52, 92, 117, 48, 48, 52, 49, 34]⟩, .int .i64 4, .string ⟨#[34, 92, 117, 68, 56, 51, 52, 92, 117, 68, 68, 49, 69, 92, 47, 92, 98, 92, 102, 92, 110, 92, 114, 92, 116, 92, 92, 92, 34, 34]⟩, .int .i64 0, .string ⟨#[34, 92, 120, 34]⟩, .int .i64 4, .string ⟨#[34, 92, 117, 48, 48, 103, 48, 34]⟩, .int .i64 4, .string ⟨#[34, 92, 117, 48, 48]⟩, .int .i64 4, .string ⟨#[34, 10, 34]⟩, .int .i64 4, .string ⟨#[34, 31, 34]⟩, .int .i64 4, .string ⟨#[34, 255, 34]⟩, .int .i64 4, .string ⟨#[34, 127, 34]⟩, .int .i64 0, .string ⟨#[110, 117, 108]⟩, .int .i64 4, .string ⟨#[116, 114, 117, 101, 32, 102, 97, 108, 115, 101]⟩, .int .i64 4, .string ⟨#[91, 49, 32, 50, 93]⟩, .int .i64 4, .string ⟨#[123, 34, 97, 34, 32, 49, 125]⟩, .int .i64 4, .string ⟨#[123, 49, 58, 50, 125]⟩, .int .i64 4, .string ⟨#[123, 34, 97, 34, 58, 125]⟩, .int .i64 4, .string ⟨#[91, 44, 49, 93]⟩, .int .i64 4, .string ⟨#[12, 49]⟩, .int .i64 4, .string ⟨#[32, 9, 13, 10, 49, 32, 9, 13, 10]⟩, .int .i64 0, .string ⟨#[45]⟩, .int .i64 4, .string ⟨#[91, 49]⟩, .int .i64 4, .string ⟨#[123, 34, 97, 34, 58, 49]⟩, .int .i64 4, .string ⟨#[123]⟩, .int .i64 4, .string (⟨#[91]⟩ ++ s4), .int .i64 40, .string (⟨#[91]⟩ ++ s5 ++ ⟨#[49, 93]⟩), .int .i64 0, .string s6, .int .i64 4, .string s7, .int .i64 40, .string ⟨#[123, 34, 97, 34, 58, 49, 44, 34, 92, 117, 48, 48, 54, 49, 34, 58, 50, 125]⟩, .int .i64 6] 43) = X := ⟨_, rfl⟩
  have hbW : Below w10.heap.size w10 W1 := by rw [← hW1]; exact (Below.refl _ _).alloc (Nat.le_refl _) _
  have hCt : Cel W1 w10.heap.size 43 (nmT1.flatMap encT1).toArray := by
    rw [← hW1, ← hs1.out, ← hs2.out, ← hs3.out, ← hs4.out, ← hs5.out, ← hs6.out, ← hs7.out]
    exact Cel.fresh _ _ _
  have hB1 := Lib.hid (hb1.out.trans (hbW.mono hb1.out.size))
  have hlt := Lib.hid hCt.lt
  have hTab := Lib.hid (fun (wr : World) (hB : Below W1.heap.size W1 wr) (q : Nat) (p : ByteArray × Int) (hp : nmT1[q]? = some p) => nm_cells1 (hCt.below hB hCt.lt) hp)
  replace hW1 := Lib.hid hW1
  clear hb1 hbW hCt

  go_upto_block 0 with (fail)
  rw [hW1.out]
  clear hW1
  replace hE := Lib.hid hE
  refine wp_cut (fun a' wc => ∃ (u : Nat → Value), a' = ⟨#[u 0, u 1, u 2, u 3, u 4, u 5, u 6, u 7, u 8, u 9, u 10, u 11, u 12, u 13, u 14, u 15, u 16, u 17, u 18, u 19, u 20, u 21, u 22, u 23, u 24, u 25, u 26, u 27, u 28, u 29, u 30, u 31, u 32, u 33, u 34, u 35, u 36, u 37, u 38, u 39, u 40, u 41, u 42, u 43, u 44, u 45, u 46, u 47, u 48, u 49, u 50, u 51, u 52, u 53, u 54, u 55, u 56, u 57, u 58, u 59, u 60, u 61, u 62, u 63, u 64, u 65, u 66, u 67, u 68, u 69, u 70, u 71, u 72, u 73, u 74, u 75, u 76, u 77, u 78, u 79, u 80, u 81, u 82, u 83, u 84, u 85, u 86, u 87, u 88, u 89, u 90, u 91, u 92, u 93, u 94, u 95, u 96, u 97, u 98, u 99, u 100, u 101, u 102, u 103, u 104, u 105, u 106, u 107, u 108, u 109, u 110, u 111, u 112, u 113, u 114, u 115, u 116, u 117, u 118, u 119, u 120, u 121, u 122, u 123, u 124, u 125, u 126, u 127, u 128, u 129, u 130, u 131, u 132, u 133, u 134, u 135, u 136, u 137, u 138, u 139, u 140, u 141, u 142, u 143, u 144, u 145, u 146, u 147, u 148, u 149, u 150, u 151, u 152, u 153, u 154, u 155, u 156, u 157, u 158, u 159, u 160, u 161, u 162, u 163, u 164, u 165, u 166, u 167, u 168, u 169, u 170, u 171, u 172, u 173, u 174, u 175, u 176, u 177, u 178, u 179, u 180, u 181, u 182, u 183, u 184, u 185, u 186, u 187, u 188, u 189, u 190, u 191, u 192, u 193, u 194, u 195, u 196, u 197, u 198, u 199, u 200, u 201, u 202, u 203, u 204, u 205, u 206, u 207, u 208, u 209, u 210, u 211, u 212, u 213, u 214, u 215, u 216, u 217, u 218, u 219, u 220, u 221, u 222, u 223, u 224, u 225, u 226, u 227, u 228, u 229, u 230, u 231, u 232, u 233, u 234, u 235, u 236, u 237, u 238, u 239, u 240, u 241, u 242, u 243, u 244, u 245, u 246, u 247, u 248, u 249, u 250, u 251, u 252, u 253, u 254, u 255, u 256, u 257], []⟩ ∧ (Below w.heap.size w wc)) ?rest ?first
  case first =>
    intro J K' hJ hK'
    go_wp2_with fail
    go_loopw [94] (fun i wr => ∃ q : Nat, q ≤ 37 ∧ i = .int .i64 q ∧ Below W1.heap.size W1 wr) (fun i _ => 37 - (intOf i).toNat)
    case atStart => exact ⟨0, Nat.zero_le _, rfl, Below.refl _ _⟩
    case round =>

      obtain ⟨q, hq, rfl, hBr⟩ := hrel
      by_cases hlq : q < 37
      · obtain ⟨⟨tx, ec⟩, hp⟩ : ∃ x, nmT1[q]? = some x := ⟨_, List.getElem?_eq_getElem (show q < nmT1.length from hlq)⟩
        obtain ⟨c1, c2⟩ := hTab.out wr hBr q _ hp
        have hsay := nmT1_says _ (List.mem_of_getElem? hp)
        dsimp only at c1 c2 hsay
        obtain ⟨V1, hV1⟩ : ∃ X, wr.alloc (.cells #[.string tx, .int .i64 ec] 43) = X := ⟨_, rfl⟩
        have hbv : Below wr.heap.size wr V1 := by rw [← hV1]; exact (Below.refl _ _).alloc (Nat.le_refl _) _
        have hC2 : Cel V1 wr.heap.size 43 #[.string tx, .int .i64 ec] := by rw [← hV1]; exact Cel.fresh _ _ _
        have hPa := jsnParse_any tx V1 (hE.out.below (hB1.out.trans ((hBr.trans (hbv.mono hBr.size)).mono hB1.out.size)))
        have hx0 : V1.cell? ⟨wr.heap.size, 0, none⟩ = some (.string tx) := hC2.cell 0
        have hBv := Lib.hid (hBr.trans (hbv.mono hBr.size))
        have hq0 : (0 : Int) ≤ (q : Int) := by omega
        have hq1 : (q : Int) < 37 := by omega
        replace hV1 := Lib.hid hV1
        clear hp hbv hBr
        rcases hR : jparse ownL Lib.validD tx.data.toList with cde | j
        · rw [hR] at hPa hsay
          have hne := jparse_err hR
          have hec : cde = ec := hsay
          subst hec
          replace hPa := Lib.hid hPa
          clear hsay hR
          go_upto_region 6 with fail
          rw [hV1.out]
          clear hV1 c1 c2
          go_wp2_with fail
          refine hPa.out.mono ?_
          rintro e v2 ⟨hb2, rfl⟩
          clear hPa hx0
          obtain ⟨V3, hV3⟩ : ∃ X, v2.alloc (.cells #[.int .u8 0, .string ⟨#[]⟩, .slice none 0 0, .slice none 0 0] 25) = X := ⟨_, rfl⟩
          have hb3 : Below v2.heap.size v2 V3 := by rw [← hV3]; exact (Below.refl _ _).alloc (Nat.le_refl _) _
          have hC3 : Cel V3 v2.heap.size 25 #[.int .u8 0, .string ⟨#[]⟩, .slice none 0 0, .slice none 0 0] := by rw [← hV3]; exact Cel.fresh _ _ _
          have hC2' := (hC2.below hb2 hC2.lt).below hb3 (Nat.lt_of_lt_of_le hC2.lt hb2.size)
          have x1 : V3.cell? ⟨wr.heap.size, 1, none⟩ = some (.int .i64 cde) := hC2'.cell 1
          obtain ⟨z0, z1, z2, z3⟩ := cel4' hC3
          have hB3 := Lib.hid ((hBv.out.trans (hb2.mono hBv.out.size)).trans (hb3.mono (Nat.le_trans hBv.out.size hb2.size)))
          have hsm := refSameJ_any zeroJ zeroJ _ _ V3 _ _ _ _ (OwnJ.jv _ (zero_own V3 9 25 0 0)) (OwnJ.jv _ (zero_own V3 9 25 0 0)) (by unfold zeroJ; rw [zero_one.2.2]; decide) (by unfold zeroJ; rw [zero_one.2.2]; decide)
          rw [jsame_refl] at hsm
          replace hsm := Lib.hid hsm
          replace hV3 := Lib.hid hV3
          clear hC2 hC2' hC3 hb2 hb3 hBv
          go_upto_region 7 with fail
          rw [hV3.out]
          clear hV3
          go_wp2_with fail
          refine hsm.out.mono ?_
          rintro e v4 ⟨rfl, hb4⟩
          have hB4 := Lib.hid (hB3.out.trans (hb4.mono hB3.out.size))
          clear hsm hb4 hB3 x1 z0 z1 z2 z3
          go_wp2_with fail
          go_roundw
          case rel => exact ⟨q + 1, by omega, by go_num, hB4.out⟩
          case measure => simp [intOf]; omega
        · rw [hR] at hPa hsay
          have hec : ec = 0 := hsay.symm
          subst hec
          replace hPa := Lib.hid hPa
          clear hsay hR
          go_upto_region 6 with fail
          rw [hV1.out]
          clear hV1 c1 c2
          go_wp2_with fail
          refine hPa.out.mono ?_
          rintro e v2 ⟨hb2, vn, vl, rfl, hO⟩
          obtain ⟨Ax, nx, cx, Ay, ny, cy, rfl, rfl⟩ := hO.forms
          clear hPa hx0 hO
          obtain ⟨V3, hV3⟩ : ∃ X, v2.alloc (.cells #[.int .u8 j.kind, .string j.text, .slice Ax nx cx, .slice Ay ny cy] 25) = X := ⟨_, rfl⟩
          have hb3 : Below v2.heap.size v2 V3 := by rw [← hV3]; exact (Below.refl _ _).alloc (Nat.le_refl _) _
          have hC2' := (hC2.below hb2 hC2.lt).below hb3 (Nat.lt_of_lt_of_le hC2.lt hb2.size)
          have x1 : V3.cell? ⟨wr.heap.size, 1, none⟩ = some (.int .i64 0) := hC2'.cell 1
          have hB3 := Lib.hid ((hBv.out.trans (hb2.mono hBv.out.size)).trans (hb3.mono (Nat.le_trans hBv.out.size hb2.size)))
          replace hV3 := Lib.hid hV3
          clear hC2 hC2' hb2 hb3 hBv
          go_upto_region 7 with fail
          rw [hV3.out]
          clear hV3
          go_wp2_with fail
          go_roundw
          case rel => exact ⟨q + 1, by omega, by go_num, hB3.out⟩
          case measure => simp [intOf]; omega
      · have hqe : q = 37 := by omega
        subst hqe
        have hBe := Lib.hid (hB1.out.trans (hBr.mono hB1.out.size))
        clear hBr
        go_wp2_with fail
        refine Met.intro (hJ _ _ ?_)
        exact meetF (by kernel_rfl) hBe.out
  case rest =>
    clear hB1 hlt hTab
    rintro a' w0 ⟨u, rfl, hB⟩
    replace hB := Lib.hid hB

    obtain ⟨w1', hw1⟩ : ∃ X, w0.alloc (.cells #[.int .u8 1, .string ⟨#[]⟩, .slice none 0 0, .slice none 0 0] 25) = X := ⟨_, rfl⟩
    have hC0 := Lib.hid (show Cel w1' w0.heap.size 25 #[.int .u8 1, .string ⟨#[]⟩, .slice none 0 0, .slice none 0 0] by rw [← hw1]; exact Cel.fresh _ _ _)
    have hb0 := Lib.hid (show Below w0.heap.size w0 w1' by rw [← hw1]; exact (Below.refl _ _).alloc (Nat.le_refl _) _)
    replace hw1 := Lib.hid hw1
    go_upto_region 11 with fail
    rw [hw1.out]
    clear hw1
    go_wp2_with fail
    go_loopw [6] (fun i wr => ∃ (q : Nat) (vn vl : Value), q ≤ 63 ∧ i = .int .i64 ((q : Int) + 1) ∧ Cel wr w0.heap.size 25 #[.int .u8 (deepJ q).kind, .string (deepJ q).text, vn, vl] ∧ JV wr (fun k => w0.heap.size < k) (deepJ q) vn vl ∧ Below w0.heap.size w0 wr) (fun i _ => 65 - (intOf i).toNat)
    case atStart =>
      refine ⟨0, .slice none 0 0, .slice none 0 0, by omega, rfl, hC0.out, ?_, hb0.out⟩
      exact JV.of_elems (zs := []) (by omega) (by omega) ⟨none, 0, rfl, fun h => by simp at h⟩ rfl (fun z hz => by cases hz) (fun h => by simp at h)
    case round =>
      obtain ⟨q, vn, vl, hq, rfl, hC, hJ, hBr⟩ := hrel
      by_cases hlq : q < 63
      · obtain ⟨An, nn, cn, Al, nl, cl, rfl, rfl⟩ := hJ.forms
        obtain ⟨k0, k1, k2, k3⟩ := cel4' hC
        obtain ⟨V1, hV1⟩ : ∃ X, wr.alloc (.cells #[.int .u8 (deepJ q).kind, .string (deepJ q).text, .slice An nn cn, .slice Al nl cl] 25) = X := ⟨_, rfl⟩
        have hbv : Below wr.heap.size wr V1 := by rw [← hV1]; exact (Below.refl _ _).alloc (Nat.le_refl _) _
        have hCv : Cel V1 wr.heap.size 25 #[.int .u8 (deepJ q).kind, .string (deepJ q).text, .slice An nn cn, .slice Al nl cl] := by rw [← hV1]; exact Cel.fresh _ _ _
        have hls := Lib.hid (nmList_any (some ⟨wr.heap.size, 0, none⟩) 1 1 V1)
        have hq0 : (q : Int) + 1 < 64 := by omega
        replace hV1 := Lib.hid hV1
        replace hbv := Lib.hid hbv
        replace hCv := Lib.hid hCv
        replace hC := Lib.hid hC
        replace hJ := Lib.hid hJ
        replace hBr := Lib.hid hBr
        go_wp2_with fail
        rw [hV1.out]
        refine hls.out.mono ?_
        rintro e v2 ⟨rfl, hb2⟩
        have hbb := hbv.out.trans (hb2.mono hbv.out.size)
        have hcr := hC.out.below hbb hC.out.lt
        have hlt5 := hC.out.lt
        have hcv2 := hCv.out.below hb2 hCv.out.lt
        have hJ2 := hJ.out.later hbb
        obtain ⟨p0, p1, p2, p3⟩ := cel4' hcr
        have f0 := hcr.froz 0
        have f1 := hcr.froz 1
        have f2 := hcr.froz 2
        have f3 := hcr.froz 3
        obtain ⟨W5, hW5⟩ : ∃ X, (((v2.setCell ⟨w0.heap.size, 0, none⟩ (.int .u8 6)).setCell ⟨w0.heap.size, 1, none⟩ (.string ⟨#[]⟩)).setCell ⟨w0.heap.size, 2, none⟩ (.slice none 0 0)).setCell ⟨w0.heap.size, 3, none⟩ (.slice (some ⟨wr.heap.size, 0, none⟩) 1 1) = X := ⟨_, rfl⟩
        have hk5 : ∀ k, k ≠ w0.heap.size → W5.heap[k]? = v2.heap[k]? := fun k hk => by
          rw [← hW5, Below.heap_setCell _ _ _ _ hk, Below.heap_setCell _ _ _ _ hk, Below.heap_setCell _ _ _ _ hk, Below.heap_setCell _ _ _ _ hk]
        have hs5 : W5.heap.size = v2.heap.size := by rw [← hW5]; simp [World.setCell]
        have hC5 : Cel W5 w0.heap.size 25 #[.int .u8 6, .string ⟨#[]⟩, .slice none 0 0, .slice (some ⟨wr.heap.size, 0, none⟩) 1 1] := by
          rw [← hW5]
          have := (((hcr.set 0 (.int .u8 6)).set 1 (.string ⟨#[]⟩)).set 2 (.slice none 0 0)).set 3 (.slice (some ⟨wr.heap.size, 0, none⟩) 1 1)
          simpa using this
        have hB5 : Below w0.heap.size w0 W5 := by
          rw [← hW5]
          exact (((((hBr.out.trans (hbb.mono hBr.out.size)).setCell (by simp) _).setCell (by simp) _).setCell (by simp) _).setCell (by simp) _)
        have hJ5 : JV W5 (fun k => w0.heap.size < k) (deepJ q) (.slice An nn cn) (.slice Al nl cl) := JV.keep (by omega) (fun p h1 _ => World.cell?_of_block (hk5 _ (by omega))) (fun _ h _ => h) _ hJ2
        have hcv5 : Cel W5 wr.heap.size 25 #[.int .u8 (deepJ q).kind, .string (deepJ q).text, .slice An nn cn, .slice Al nl cl] := (hk5 _ (by omega)).trans hcv2
        have hJn : JV W5 (fun k => w0.heap.size < k) (deepJ (q + 1)) (.slice none 0 0) (.slice (some ⟨wr.heap.size, 0, none⟩) 1 1) := by
          refine JV.of_elems (zs := [(deepJ q, .slice An nn cn, .slice Al nl cl)]) (by omega) (by omega) ⟨none, 0, rfl, fun h => by simp at h⟩ rfl (fun z hz => by simp at hz; subst hz; exact hJ5) (fun _ => ⟨wr.heap.size, 0, rfl, hlt5, hcv5.lt, fun j z hj i u hu => ?_⟩)
          cases j with
          | zero =>
            simp at hj
            subst hj
            simp only [Nat.zero_mul, Nat.zero_add]
            rw [hcv5.cell]
            simpa [encJ] using hu
          | succ j => simp at hj
        replace hW5 := Lib.hid hW5
        replace hC5 := Lib.hid hC5
        replace hB5 := Lib.hid hB5
        replace hJn := Lib.hid hJn
        clear hls hbb hcr hcv2 hJ2 hk5 hs5 hJ5 hcv5 hb2 hbv hCv hC hJ hBr hV1 k0 k1 k2 k3 hlt5
        go_upto_region 13 with fail
        rw [hW5.out]
        go_wp2_with fail
        go_roundw
        case rel => exact ⟨q + 1, _, _, by omega, by go_num, hC5.out, hJn.out, hB5.out⟩
        case measure => simp [intOf]; omega
      · have hqe : q = 63 := by omega
        subst hqe
        obtain ⟨An, nn, cn, Al, nl, cl, rfl, rfl⟩ := hJ.forms
        obtain ⟨D, hD⟩ : ∃ D, deepJ 63 = D := ⟨_, rfl⟩
        rw [hD] at hC hJ
        obtain ⟨Z, hZr, hZj⟩ := nm_wide 65536 (by decide)
        have hmk : (Instr.makeSlice 23 (.int .i64 65536) (.int .i64 65536)).run Tryz.prog wr = .ok (.slice (some ⟨wr.heap.size, 0, none⟩) 65536 65536) (wr.alloc (.cells Z 25)) := hZr wr
        obtain ⟨V1, hV1⟩ : ∃ X, wr.alloc (.cells Z 25) = X := ⟨_, rfl⟩
        obtain ⟨V2, hV2⟩ : ∃ X, V1.alloc (.cells #[.int .u8 6, .string ⟨#[]⟩, .slice none 0 0, .slice (some ⟨wr.heap.size, 0, none⟩) 65536 65536] 25) = X := ⟨_, rfl⟩
        have hb1 : Below wr.heap.size wr V1 := by rw [← hV1]; exact (Below.refl _ _).alloc (Nat.le_refl _) _
        have hb2 : Below V1.heap.size V1 V2 := by rw [← hV2]; exact (Below.refl _ _).alloc (Nat.le_refl _) _
        have hCz : Cel V1 wr.heap.size 25 Z := by rw [← hV1]; exact Cel.fresh _ _ _
        have hJ7 : JV V2 (fun _ => True) wideJ (.slice none 0 0) (.slice (some ⟨wr.heap.size, 0, none⟩) 65536 65536) := (hZj V2 _ (hCz.below hb2 hCz.lt)).more fun _ _ _ => trivial
        have hP7 : Cel V2 V1.heap.size 25 #[.int .u8 6, .string ⟨#[]⟩, .slice none 0 0, .slice (some ⟨wr.heap.size, 0, none⟩) 65536 65536] := by rw [← hV2]; exact Cel.fresh _ _ _
        have hs11 : V1.heap.size = wr.heap.size + 1 := by rw [← hV1]; simp
        rw [hs11] at hP7
        clear hs11
        have hb12 := hb1.trans (hb2.mono hb1.size)
        have hP5 := hC.below hb12 hC.lt
        have hJ5 : JV V2 (fun _ => True) D (.slice An nn cn) (.slice Al nl cl) := (hJ.later hb12).more fun _ _ _ => trivial
        have hb0' := hBr.trans (hb12.mono hBr.size)
        clear hZr hZj hCz hb1 hb2 hb12 hC hJ hBr
        replace hV1 := Lib.hid hV1
        replace hV2 := Lib.hid hV2
        replace hJ7 := Lib.hid hJ7
        replace hP7 := Lib.hid hP7
        replace hP5 := Lib.hid hP5
        replace hJ5 := Lib.hid hJ5
        replace hb0' := Lib.hid hb0'
        replace hD := Lib.hid hD
        go_upto_region 16 with fail
        rw [hV1.out, hV2.out]
        clear hV2 hmk
        go_wp2_with fail
        refine (hM.out 131071 ⟨#[10]⟩ s8 hs8.out (by decide) (by decide) V2).mono ?_
        rintro e v3 ⟨rfl, hb3⟩
        go_wp2_with fail
        refine (nmStr_any s8 v3).mono ?_
        rintro e v4 ⟨vn8, vl8, rfl, hO8, hb4⟩
        obtain ⟨Bn, bn, bc, Bl, bl, bd, rfl, rfl⟩ := hO8.forms
        obtain ⟨V5, hV5⟩ : ∃ X, v4.alloc (.cells #[.int .u8 5, .string s8, .slice Bn bn bc, .slice Bl bl bd] 25) = X := ⟨_, rfl⟩
        have hb5 : Below v4.heap.size v4 V5 := by rw [← hV5]; exact (Below.refl _ _).alloc (Nat.le_refl _) _
        have hP8 : Cel V5 v4.heap.size 25 #[.int .u8 5, .string s8, .slice Bn bn bc, .slice Bl bl bd] := by rw [← hV5]; exact Cel.fresh _ _ _
        have hJ8 : JV V5 (fun _ => True) ⟨5, s8, [], []⟩ (.slice Bn bn bc) (.slice Bl bl bd) := ((OwnJ.jv _ hO8).later hb5).more fun _ _ _ => trivial
        have hb35 : Below V2.heap.size V2 V5 := hb3.trans ((hb4.trans (hb5.mono hb4.size)).mono hb3.size)
        replace hP5 := Lib.hid (hP5.out.below hb35 hP5.out.lt)
        replace hJ5 := Lib.hid (hJ5.out.later hb35)
        replace hP7 := Lib.hid (hP7.out.below hb35 hP7.out.lt)
        replace hJ7 := Lib.hid (hJ7.out.later hb35)
        replace hP8 := Lib.hid hP8
        replace hJ8 := Lib.hid hJ8
        have hb0 := Lib.hid (hb0'.out.trans (hb35.mono hb0'.out.size))
        replace hV5 := Lib.hid hV5
        clear hb3 hb4 hb5 hO8 hb35 hb0'
        go_upto_region 17 with fail
        rw [hV5.out]
        clear hV5
        refine wp_region_planF [false, false, false, false, false, false, false, false, false, false, false, false, false, false, false, false, false, false, false, false, false, false, false, false, false, false, false, false, false, false, false, false, false, false, false, false, false, false, false, false, false, false, false, false, false, false, false, false, false, false, false, false, false, false, false, false, false, false, false, false, false, false, false, false, false, false, false, false, false, false, false, false, false, false, false, false, false, false, false, false, false, false, false, false, false, false, false, false, false, false, false, false, false, false, false, false, false, false, false, false, false, false, false, false, false, false, false, false, false, false, false, false, false, false, false, false, false, false, false, false, false, false, false, false, false, false, false, false, false, false, false, true, true, true, true, true, true, true, true, true, true, true, true, true, true, true, true, true, true, true, true, true, true, true, true, true, true, true, true, true, true, true, true, true, true, true, true, true, true, true, true, true, true, true, true, true, true, true, true, true, true, true, false, false, false, false, false, false, false, false, false, false, false, false, false, false, false, false, false, false, false, false, false, false, false, false, false, false, false, false, false, false, false, false, false, false, false, false, false, false, false, false, false, false, false, false, false, false, false, false, false, false, false, false, false, false, false, false, false, false, false, false, false, false, false, false, false, false, false, false, false, false, false, false, false, false, false, false] (fun i => match i with | 0 => [131] | 1 => [132] | 2 => [133] | 3 => [134] | 4 => [135] | 5 => [136] | 6 => [137] | 7 => [138] | 8 => [139] | 9 => [140] | 10 => [141] | 11 => [142] | 12 => [143] | 13 => [144] | 14 => [145] | 15 => [146] | 16 => [147] | 17 => [148] | 18 => [149] | 19 => [150] | 20 => [151] | 21 => [152] | 22 => [153] | 23 => [154] | 24 => [155] | 25 => [156] | 26 => [157] | 27 => [158] | 28 => [159] | 29 => [160] | 30 => [161] | 31 => [162] | 32 => [163] | 33 => [164] | 34 => [165] | 35 => [166] | 36 => [167] | 37 => [168] | 38 => [169] | 39 => [170] | 40 => [171] | 41 => [172] | 42 => [173] | 43 => [174] | 44 => [175] | 45 => [176] | 46 => [177] | 47 => [178] | 48 => [179] | 49 => [180] | 50 => [181] | _ => []) (fun W => Below V5.heap.size V5 W) (fun _ _ => True) (fun _ W W' => Below W.heap.size W W') (nmPhi D s8 s9) (by kernel_rfl) (by kernel_rfl) (by kernel_rfl) (by rfl) (by kernel_rfl) (bel_drew (Below.refl _ _)) (fun _ => trivial) ?_ ?_ ?_ ?_ ?_ ?_
        · intro i W W' hS h
          exact hS.trans (h.mono hS.size)
        · intro i q W W' hiq hS hU h
          trivial
        · intro i j f W W' hji hw hS hP h
          match j with
          | 0 => exact qJ.keep hP h
          | 1 => exact qT.keep hP h
          | 2 => exact qJ.keep hP h
          | 3 => exact qR.keep hP h
          | 4 => exact qJ.keep hP h
          | 5 => exact qT.keep hP h
          | 6 => exact qJ.keep hP h
          | 7 => exact qT.keep hP h
          | 8 => exact qJ.keep hP h
          | 9 => exact qT.keep hP h
          | 10 => exact hP
          | 11 => exact qJ.keep hP h
          | 12 => exact qT.keep hP h
          | 13 => exact hP
          | 14 => exact hP
          | 15 => exact qJ.keep hP h
          | 16 => exact qT.keep hP h
          | 17 => exact qJ.keep hP h
          | 18 => exact qT.keep hP h
          | 19 => exact qJ.keep hP h
          | 20 => exact qT.keep hP h
          | 21 => exact qJ.keep hP h
          | 22 => exact qT.keep hP h
          | 23 => exact qJ.keep hP h
          | 24 => exact qT.keep hP h
          | 25 => exact qJ.keep hP h
          | 26 => exact qT.keep hP h
          | 27 => exact qN.keep hP h
          | 28 => exact qJ.keep hP h
          | 29 => exact qT.keep hP h
          | 30 => exact qN.keep hP h
          | 31 => exact qJ.keep hP h
          | 32 => exact qJ.keep hP h
          | 33 => exact qR.keep hP h
          | 34 => exact qJ.keep hP h
          | 35 => exact qT.keep hP h
          | 36 => exact qN.keep hP h
          | 37 => exact qJ.keep hP h
          | 38 => exact qR.keep hP h
          | 39 => exact qJ.keep hP h
          | 40 => exact qT.keep hP h
          | 41 => exact qJ.keep hP h
          | 42 => exact qT.keep hP h
          | 43 => exact qN.keep hP h
          | 44 => exact qJ.keep hP h
          | 45 => exact qT.keep hP h
          | 46 => exact qJ.keep hP h
          | 47 => exact qT.keep hP h
          | 48 => exact qTab.keep hP h
          | 49 => exact hP
          | 50 => exact hP
          | m + 51 => trivial
        · intro j f f' W hf hP
          match j with
          | 0 =>
            unfold nmPhi at hP ⊢
            try dsimp only at hP ⊢
            rw [hf 131 (by simp)]
            exact hP
          | 1 =>
            unfold nmPhi at hP ⊢
            try dsimp only at hP ⊢
            rw [hf 132 (by simp)]
            exact hP
          | 2 =>
            unfold nmPhi at hP ⊢
            try dsimp only at hP ⊢
            rw [hf 133 (by simp)]
            exact hP
          | 3 =>
            unfold nmPhi at hP ⊢
            try dsimp only at hP ⊢
            rw [hf 134 (by simp)]
            exact hP
          | 4 =>
            unfold nmPhi at hP ⊢
            try dsimp only at hP ⊢
            rw [hf 135 (by simp)]
            exact hP
          | 5 =>
            unfold nmPhi at hP ⊢
            try dsimp only at hP ⊢
            rw [hf 136 (by simp)]
            exact hP
          | 6 =>
            unfold nmPhi at hP ⊢
            try dsimp only at hP ⊢
            rw [hf 137 (by simp)]
            exact hP
          | 7 =>
            unfold nmPhi at hP ⊢
            try dsimp only at hP ⊢
            rw [hf 138 (by simp)]
            exact hP
          | 8 =>
            unfold nmPhi at hP ⊢
            try dsimp only at hP ⊢
            rw [hf 139 (by simp)]
            exact hP
          | 9 =>
            unfold nmPhi at hP ⊢
            try dsimp only at hP ⊢
            rw [hf 140 (by simp)]
            exact hP
          | 10 =>
            unfold nmPhi at hP ⊢
            try dsimp only at hP ⊢
            rw [hf 141 (by simp)]
            exact hP
          | 11 =>
            unfold nmPhi at hP ⊢
            try dsimp only at hP ⊢
            rw [hf 142 (by simp)]
            exact hP
          | 12 =>
            unfold nmPhi at hP ⊢
            try dsimp only at hP ⊢
            rw [hf 143 (by simp)]
            exact hP
          | 13 =>
            unfold nmPhi at hP ⊢
            try dsimp only at hP ⊢
            rw [hf 144 (by simp)]
            exact hP
          | 14 =>
            unfold nmPhi at hP ⊢
            try dsimp only at hP ⊢
            rw [hf 145 (by simp)]
            exact hP
          | 15 =>
            unfold nmPhi at hP ⊢
            try dsimp only at hP ⊢
            rw [hf 146 (by simp)]
            exact hP
          | 16 =>
            unfold nmPhi at hP ⊢
            try dsimp only at hP ⊢
            rw [hf 147 (by simp)]
            exact hP
          | 17 =>
            unfold nmPhi at hP ⊢
            try dsimp only at hP ⊢
            rw [hf 148 (by simp)]
            exact hP
          | 18 =>
            unfold nmPhi at hP ⊢
            try dsimp only at hP ⊢
            rw [hf 149 (by simp)]
            exact hP
          | 19 =>
            unfold nmPhi at hP ⊢
            try dsimp only at hP ⊢
            rw [hf 150 (by simp)]
            exact hP
          | 20 =>
            unfold nmPhi at hP ⊢
            try dsimp only at hP ⊢
            rw [hf 151 (by simp)]
            exact hP
          | 21 =>
            unfold nmPhi at hP ⊢
            try dsimp only at hP ⊢
            rw [hf 152 (by simp)]
            exact hP
          | 22 =>
            unfold nmPhi at hP ⊢
            try dsimp only at hP ⊢
            rw [hf 153 (by simp)]
            exact hP
          | 23 =>
            unfold nmPhi at hP ⊢
            try dsimp only at hP ⊢
            rw [hf 154 (by simp)]
            exact hP
          | 24 =>
            unfold nmPhi at hP ⊢
            try dsimp only at hP ⊢
            rw [hf 155 (by simp)]
            exact hP
          | 25 =>
            unfold nmPhi at hP ⊢
            try dsimp only at hP ⊢
            rw [hf 156 (by simp)]
            exact hP
          | 26 =>
            unfold nmPhi at hP ⊢
            try dsimp only at hP ⊢
            rw [hf 157 (by simp)]
            exact hP
          | 27 =>
            unfold nmPhi at hP ⊢
            try dsimp only at hP ⊢
            rw [hf 158 (by simp)]
            exact hP
          | 28 =>
            unfold nmPhi at hP ⊢
            try dsimp only at hP ⊢
            rw [hf 159 (by simp)]
            exact hP
          | 29 =>
            unfold nmPhi at hP ⊢
            try dsimp only at hP ⊢
            rw [hf 160 (by simp)]
            exact hP
          | 30 =>
            unfold nmPhi at hP ⊢
            try dsimp only at hP ⊢
            rw [hf 161 (by simp)]
            exact hP
          | 31 =>
            unfold nmPhi at hP ⊢
            try dsimp only at hP ⊢
            rw [hf 162 (by simp)]
            exact hP
          | 32 =>
            unfold nmPhi at hP ⊢
            try dsimp only at hP ⊢
            rw [hf 163 (by simp)]
            exact hP
          | 33 =>
            unfold nmPhi at hP ⊢
            try dsimp only at hP ⊢
            rw [hf 164 (by simp)]
            exact hP
          | 34 =>
            unfold nmPhi at hP ⊢
            try dsimp only at hP ⊢
            rw [hf 165 (by simp)]
            exact hP
          | 35 =>
            unfold nmPhi at hP ⊢
            try dsimp only at hP ⊢
            rw [hf 166 (by simp)]
            exact hP
          | 36 =>
            unfold nmPhi at hP ⊢
            try dsimp only at hP ⊢
            rw [hf 167 (by simp)]
            exact hP
          | 37 =>
            unfold nmPhi at hP ⊢
            try dsimp only at hP ⊢
            rw [hf 168 (by simp)]
            exact hP
          | 38 =>
            unfold nmPhi at hP ⊢
            try dsimp only at hP ⊢
            rw [hf 169 (by simp)]
            exact hP
          | 39 =>
            unfold nmPhi at hP ⊢
            try dsimp only at hP ⊢
            rw [hf 170 (by simp)]
            exact hP
          | 40 =>
            unfold nmPhi at hP ⊢
            try dsimp only at hP ⊢
            rw [hf 171 (by simp)]
            exact hP
          | 41 =>
            unfold nmPhi at hP ⊢
            try dsimp only at hP ⊢
            rw [hf 172 (by simp)]
            exact hP
          | 42 =>
            unfold nmPhi at hP ⊢
            try dsimp only at hP ⊢
            rw [hf 173 (by simp)]
            exact hP
          | 43 =>
            unfold nmPhi at hP ⊢
            try dsimp only at hP ⊢
            rw [hf 174 (by simp)]
            exact hP
          | 44 =>
            unfold nmPhi at hP ⊢
            try dsimp only at hP ⊢
            rw [hf 175 (by simp)]
            exact hP
          | 45 =>
            unfold nmPhi at hP ⊢
            try dsimp only at hP ⊢
            rw [hf 176 (by simp)]
            exact hP
          | 46 =>
            unfold nmPhi at hP ⊢
            try dsimp only at hP ⊢
            rw [hf 177 (by simp)]
            exact hP
          | 47 =>
            unfold nmPhi at hP ⊢
            try dsimp only at hP ⊢
            rw [hf 178 (by simp)]
            exact hP
          | 48 =>
            unfold nmPhi at hP ⊢
            try dsimp only at hP ⊢
            rw [hf 179 (by simp)]
            exact hP
          | 49 =>
            unfold nmPhi at hP ⊢
            try dsimp only at hP ⊢
            rw [hf 180 (by simp)]
            exact hP
          | 50 =>
            unfold nmPhi at hP ⊢
            try dsimp only at hP ⊢
            rw [hf 181 (by simp)]
            exact hP
          | m + 51 => trivial
        · intro i o ho b' W hS hU hd hz hf hdep K hK
          obtain ⟨tm, df⟩ := b'
          dsimp only at hd
          subst hd
          clear hz
          match i with
          | 0 =>
            injection ho with ho
            subst ho
            have hc := hP5.out.below hS hP5.out.lt
            obtain ⟨c0, c1, c2, c3⟩ := cel4' hc
            have hj := hJ5.out.later hS
            have t2 : tm[5]?.getD undef = .pointer (some ⟨w0.heap.size, 0, none⟩) := by
              have := hf 5 (by decide)
              simpa using this
            clear hf hdep hU hc
            go_simp
            exact hK _ _ (by simp) ⟨_, _, _, _, _, _, rfl, hj⟩ (Below.refl _ _)
          | 1 =>
            injection ho with ho
            subst ho
            obtain ⟨Aa, na, ca, Ab, nb, cb, e1, hj⟩ := hdep 0 (by kernel_rfl)
            have h1 : tm[131]?.getD undef = .agg #[.int .u8 (D : Jsn).kind, .string (D : Jsn).text, .slice Aa na ca, .slice Ab nb cb] := by simpa [slotF] using e1
            clear hf hdep hU e1
            try dsimp only at h1
            go_simp
            exact hK _ _ (by simp) ⟨_, _, _, _, _, _, rfl, hj⟩ (Below.refl _ _)
          | 2 =>
            injection ho with ho
            subst ho
            have hc := hP5.out.below hS hP5.out.lt
            obtain ⟨c0, c1, c2, c3⟩ := cel4' hc
            have hj := hJ5.out.later hS
            have t2 : tm[5]?.getD undef = .pointer (some ⟨w0.heap.size, 0, none⟩) := by
              have := hf 5 (by decide)
              simpa using this
            clear hf hdep hU hc
            go_simp
            exact hK _ _ (by simp) ⟨_, _, _, _, _, _, rfl, hj⟩ (Below.refl _ _)
          | 3 =>
            injection ho with ho
            subst ho
            obtain ⟨Aa0, na0, ca0, Ab0, nb0, cb0, e0, hj0⟩ := hdep 2 (by kernel_rfl)
            have h0 : tm[133]?.getD undef = .agg #[.int .u8 (D : Jsn).kind, .string (D : Jsn).text, .slice Aa0 na0 ca0, .slice Ab0 nb0 cb0] := by simpa [slotF] using e0
            try dsimp only at h0
            clear e0
            clear hf hdep hU
            have hbb := (Below.refl W.heap.size W).alloc (Nat.le_refl _) (.cells #[.int .u8 (D : Jsn).kind, .string (D : Jsn).text, .slice Aa0 na0 ca0, .slice Ab0 nb0 cb0] 25)
            try dsimp only at hbb
            go_simp
            refine hK _ _ (by simp) ⟨_, [((D : Jsn), (.slice Aa0 na0 ca0 : Value), (.slice Ab0 nb0 cb0 : Value))], rfl, Cel.fresh _ _ _, rfl, fun z hz => ?_⟩ hbb
            simp at hz
            rcases hz with rfl
            · exact hj0.later hbb
          | 4 =>
            injection ho with ho
            subst ho
            obtain ⟨gl, zs, el, hCl, hzl, hjl⟩ := hdep 3 (by kernel_rfl)
            have hzn : zs.length = 1 := by have := congrArg List.length hzl; simpa using this
            have h2 : tm[134]?.getD undef = .slice (some ⟨gl, 0, none⟩) 1 1 := by rw [← hzn]; simpa [slotF] using el
            clear el
            have hj : JV W (fun _ => True) (⟨6, ⟨#[]⟩, [], [D]⟩ : Jsn) (.slice none 0 0) (.slice (some ⟨gl, 0, none⟩) 1 1) := by
              rw [← hzn]
              exact JV.of_elems (by omega) (by omega) ⟨none, 0, rfl, fun h => by simp at h⟩ hzl hjl (fun _ => ⟨gl, 0, rfl, trivial, hCl.lt, fun j z hj i u hu => by
                rw [Nat.zero_add, hCl.cell]
                have := encJ_at zs j z hj i u hu
                simpa using this⟩)
            have hcall := nmList_any (some ⟨gl, 0, none⟩) 1 1 W
            clear hf hdep hU
            go_simp
            refine hcall.mono ?_
            rintro e w1 ⟨rfl, hbb⟩
            exact hK _ _ (by simp) ⟨_, _, _, _, _, _, rfl, hj.later hbb⟩ hbb
          | 5 =>
            injection ho with ho
            subst ho
            obtain ⟨Aa, na, ca, Ab, nb, cb, e1, hj⟩ := hdep 4 (by kernel_rfl)
            have h1 : tm[135]?.getD undef = .agg #[.int .u8 ((⟨6, ⟨#[]⟩, [], [D]⟩ : Jsn) : Jsn).kind, .string ((⟨6, ⟨#[]⟩, [], [D]⟩ : Jsn) : Jsn).text, .slice Aa na ca, .slice Ab nb cb] := by simpa [slotF] using e1
            clear hf hdep hU e1
            try dsimp only at h1
            go_simp
            exact hK _ _ (by simp) ⟨_, _, _, _, _, _, rfl, hj⟩ (Below.refl _ _)
          | 6 =>
            injection ho with ho
            subst ho
            have hc := hP7.out.below hS hP7.out.lt
            obtain ⟨c0, c1, c2, c3⟩ := cel4' hc
            have hj := hJ7.out.later hS
            have t2 : tm[7]?.getD undef = .pointer (some ⟨wr.heap.size + 1, 0, none⟩) := by
              have := hf 7 (by decide)
              simpa using this
            clear hf hdep hU hc
            go_simp
            exact hK _ _ (by simp) ⟨_, _, _, _, _, _, rfl, hj⟩ (Below.refl _ _)
          | 7 =>
            injection ho with ho
            subst ho
            obtain ⟨Aa, na, ca, Ab, nb, cb, e1, hj⟩ := hdep 6 (by kernel_rfl)
            have h1 : tm[137]?.getD undef = .agg #[.int .u8 (wideJ : Jsn).kind, .string (wideJ : Jsn).text, .slice Aa na ca, .slice Ab nb cb] := by simpa [slotF] using e1
            clear hf hdep hU e1
            try dsimp only at h1
            go_simp
            exact hK _ _ (by simp) ⟨_, _, _, _, _, _, rfl, hj⟩ (Below.refl _ _)
          | 8 =>
            injection ho with ho
            subst ho
            have hc := hP8.out.below hS hP8.out.lt
            obtain ⟨c0, c1, c2, c3⟩ := cel4' hc
            have hj := hJ8.out.later hS
            have t2 : tm[8]?.getD undef = .pointer (some ⟨v4.heap.size, 0, none⟩) := by
              have := hf 8 (by decide)
              simpa using this
            clear hf hdep hU hc
            go_simp
            exact hK _ _ (by simp) ⟨_, _, _, _, _, _, rfl, hj⟩ (Below.refl _ _)
          | 9 =>
            injection ho with ho
            subst ho
            obtain ⟨Aa, na, ca, Ab, nb, cb, e1, hj⟩ := hdep 8 (by kernel_rfl)
            have h1 : tm[139]?.getD undef = .agg #[.int .u8 ((⟨5, s8, [], []⟩ : Jsn) : Jsn).kind, .string ((⟨5, s8, [], []⟩ : Jsn) : Jsn).text, .slice Aa na ca, .slice Ab nb cb] := by simpa [slotF] using e1
            clear hf hdep hU e1
            try dsimp only at h1
            go_simp
            exact hK _ _ (by simp) ⟨_, _, _, _, _, _, rfl, hj⟩ (Below.refl _ _)
          | 10 =>
            injection ho with ho
            subst ho
            have hcall := hM.out 131072 ⟨#[10]⟩ s9 hs9.out (by decide) (by decide) W
            clear hf hdep hU
            go_simp
            refine hcall.mono ?_
            rintro e w1 ⟨rfl, hbb⟩
            exact hK _ _ (by simp) rfl hbb
          | 11 =>
            injection ho with ho
            subst ho
            have h1 : tm[141]?.getD undef = .string s9 := by
              have := hdep 10 (by kernel_rfl)
              simpa [slotF, nmPhi] using this
            have hcall := nmStr_any s9 W
            clear hf hdep hU
            go_simp
            refine hcall.mono ?_
            rintro e w1 ⟨vn, vl, rfl, hO, hbb⟩
            obtain ⟨Aa, na, ca, Ab, nb, cb, rfl, rfl⟩ := hO.forms
            exact hK _ _ (by simp) ⟨_, _, _, _, _, _, rfl, (OwnJ.jv _ hO).more fun _ _ _ => trivial⟩ hbb
          | 12 =>
            injection ho with ho
            subst ho
            obtain ⟨Aa, na, ca, Ab, nb, cb, e1, hj⟩ := hdep 11 (by kernel_rfl)
            have h1 : tm[142]?.getD undef = .agg #[.int .u8 ((⟨5, s9, [], []⟩ : Jsn) : Jsn).kind, .string ((⟨5, s9, [], []⟩ : Jsn) : Jsn).text, .slice Aa na ca, .slice Ab nb cb] := by simpa [slotF] using e1
            clear hf hdep hU e1
            try dsimp only at h1
            go_simp
            exact hK _ _ (by simp) ⟨_, _, _, _, _, _, rfl, hj⟩ (Below.refl _ _)
          | 13 =>
            injection ho with ho
            subst ho
            have hcall := hM.out 131071 ⟨#[10]⟩ s8 hs8.out (by decide) (by decide) W
            clear hf hdep hU
            go_simp
            refine hcall.mono ?_
            rintro e w1 ⟨rfl, hbb⟩
            exact hK _ _ (by simp) rfl hbb
          | 14 =>
            injection ho with ho
            subst ho
            have h1 : tm[144]?.getD undef = .string s8 := by
              have := hdep 13 (by kernel_rfl)
              simpa [slotF, nmPhi] using this
            have hone : (⟨#[120]⟩ : ByteArray).size = 1 := rfl
            have hrun := run_string_add_sum (P := Tryz.prog) W s8 ⟨#[120]⟩ (by omega)
            have hzz : ¬ s8.size + (⟨#[120]⟩ : ByteArray).size > 9223372036854775807 := by omega
            have hz3 : ¬ 9223372036854775807 < s8.size + 1 := by omega
            clear hf hdep hU
            go_simp
            exact hK _ _ (by simp) rfl (Below.refl _ _)
          | 15 =>
            injection ho with ho
            subst ho
            have h1 : tm[145]?.getD undef = .string (s8 ++ ⟨#[120]⟩) := by
              have := hdep 14 (by kernel_rfl)
              simpa [slotF, nmPhi] using this
            have hcall := nmStr_any (s8 ++ ⟨#[120]⟩) W
            clear hf hdep hU
            go_simp
            refine hcall.mono ?_
            rintro e w1 ⟨vn, vl, rfl, hO, hbb⟩
            obtain ⟨Aa, na, ca, Ab, nb, cb, rfl, rfl⟩ := hO.forms
            exact hK _ _ (by simp) ⟨_, _, _, _, _, _, rfl, (OwnJ.jv _ hO).more fun _ _ _ => trivial⟩ hbb
          | 16 =>
            injection ho with ho
            subst ho
            obtain ⟨Aa, na, ca, Ab, nb, cb, e1, hj⟩ := hdep 15 (by kernel_rfl)
            have h1 : tm[146]?.getD undef = .agg #[.int .u8 ((⟨5, (s8 ++ ⟨#[120]⟩), [], []⟩ : Jsn) : Jsn).kind, .string ((⟨5, (s8 ++ ⟨#[120]⟩), [], []⟩ : Jsn) : Jsn).text, .slice Aa na ca, .slice Ab nb cb] := by simpa [slotF] using e1
            clear hf hdep hU e1
            try dsimp only at h1
            go_simp
            exact hK _ _ (by simp) ⟨_, _, _, _, _, _, rfl, hj⟩ (Below.refl _ _)
          | 17 =>
            injection ho with ho
            subst ho
            have hj : JV W (fun _ => True) (⟨0, ⟨#[]⟩, [], []⟩ : Jsn) (.slice none 0 0) (.slice none 0 0) := by
              exact JV.of_elems (zs := []) (by omega) (by omega) (⟨none, 0, rfl, fun h => by simp at h⟩) rfl (fun z hz => by cases hz) (fun h => by simp at h)
            clear hf hdep hU
            go_simp
            exact hK _ _ (by simp) ⟨_, _, _, _, _, _, rfl, hj⟩ (Below.refl _ _)
          | 18 =>
            injection ho with ho
            subst ho
            obtain ⟨Aa, na, ca, Ab, nb, cb, e1, hj⟩ := hdep 17 (by kernel_rfl)
            have h1 : tm[148]?.getD undef = .agg #[.int .u8 ((⟨0, ⟨#[]⟩, [], []⟩ : Jsn) : Jsn).kind, .string ((⟨0, ⟨#[]⟩, [], []⟩ : Jsn) : Jsn).text, .slice Aa na ca, .slice Ab nb cb] := by simpa [slotF] using e1
            clear hf hdep hU e1
            try dsimp only at h1
            go_simp
            exact hK _ _ (by simp) ⟨_, _, _, _, _, _, rfl, hj⟩ (Below.refl _ _)
          | 19 =>
            injection ho with ho
            subst ho
            have hcall := nmNum_any ⟨#[49, 46, 53]⟩ W
            clear hf hdep hU
            go_simp
            refine hcall.mono ?_
            rintro e w1 ⟨vn, vl, rfl, hO, hbb⟩
            obtain ⟨Aa, na, ca, Ab, nb, cb, rfl, rfl⟩ := hO.forms
            exact hK _ _ (by simp) ⟨_, _, _, _, _, _, rfl, (OwnJ.jv _ hO).more fun _ _ _ => trivial⟩ hbb
          | 20 =>
            injection ho with ho
            subst ho
            obtain ⟨Aa, na, ca, Ab, nb, cb, e1, hj⟩ := hdep 19 (by kernel_rfl)
            have h1 : tm[150]?.getD undef = .agg #[.int .u8 ((⟨4, ⟨#[49, 46, 53]⟩, [], []⟩ : Jsn) : Jsn).kind, .string ((⟨4, ⟨#[49, 46, 53]⟩, [], []⟩ : Jsn) : Jsn).text, .slice Aa na ca, .slice Ab nb cb] := by simpa [slotF] using e1
            clear hf hdep hU e1
            try dsimp only at h1
            go_simp
            exact hK _ _ (by simp) ⟨_, _, _, _, _, _, rfl, hj⟩ (Below.refl _ _)
          | 21 =>
            injection ho with ho
            subst ho
            have hcall := nmNum_any ⟨#[49, 48]⟩ W
            clear hf hdep hU
            go_simp
            refine hcall.mono ?_
            rintro e w1 ⟨vn, vl, rfl, hO, hbb⟩
            obtain ⟨Aa, na, ca, Ab, nb, cb, rfl, rfl⟩ := hO.forms
            exact hK _ _ (by simp) ⟨_, _, _, _, _, _, rfl, (OwnJ.jv _ hO).more fun _ _ _ => trivial⟩ hbb
          | 22 =>
            injection ho with ho
            subst ho
            obtain ⟨Aa, na, ca, Ab, nb, cb, e1, hj⟩ := hdep 21 (by kernel_rfl)
            have h1 : tm[152]?.getD undef = .agg #[.int .u8 ((⟨4, ⟨#[49, 48]⟩, [], []⟩ : Jsn) : Jsn).kind, .string ((⟨4, ⟨#[49, 48]⟩, [], []⟩ : Jsn) : Jsn).text, .slice Aa na ca, .slice Ab nb cb] := by simpa [slotF] using e1
            clear hf hdep hU e1
            try dsimp only at h1
            go_simp
            exact hK _ _ (by simp) ⟨_, _, _, _, _, _, rfl, hj⟩ (Below.refl _ _)
          | 23 =>
            injection ho with ho
            subst ho
            have hcall := nmNum_any ⟨#[49, 101, 49]⟩ W
            clear hf hdep hU
            go_simp
            refine hcall.mono ?_
            rintro e w1 ⟨vn, vl, rfl, hO, hbb⟩
            obtain ⟨Aa, na, ca, Ab, nb, cb, rfl, rfl⟩ := hO.forms
            exact hK _ _ (by simp) ⟨_, _, _, _, _, _, rfl, (OwnJ.jv _ hO).more fun _ _ _ => trivial⟩ hbb
          | 24 =>
            injection ho with ho
            subst ho
            obtain ⟨Aa, na, ca, Ab, nb, cb, e1, hj⟩ := hdep 23 (by kernel_rfl)
            have h1 : tm[154]?.getD undef = .agg #[.int .u8 ((⟨4, ⟨#[49, 101, 49]⟩, [], []⟩ : Jsn) : Jsn).kind, .string ((⟨4, ⟨#[49, 101, 49]⟩, [], []⟩ : Jsn) : Jsn).text, .slice Aa na ca, .slice Ab nb cb] := by simpa [slotF] using e1
            clear hf hdep hU e1
            try dsimp only at h1
            go_simp
            exact hK _ _ (by simp) ⟨_, _, _, _, _, _, rfl, hj⟩ (Below.refl _ _)
          | 25 =>
            injection ho with ho
            subst ho
            have hcall := nmStr_any ⟨#[255]⟩ W
            clear hf hdep hU
            go_simp
            refine hcall.mono ?_
            rintro e w1 ⟨vn, vl, rfl, hO, hbb⟩
            obtain ⟨Aa, na, ca, Ab, nb, cb, rfl, rfl⟩ := hO.forms
            exact hK _ _ (by simp) ⟨_, _, _, _, _, _, rfl, (OwnJ.jv _ hO).more fun _ _ _ => trivial⟩ hbb
          | 26 =>
            injection ho with ho
            subst ho
            obtain ⟨Aa, na, ca, Ab, nb, cb, e1, hj⟩ := hdep 25 (by kernel_rfl)
            have h1 : tm[156]?.getD undef = .agg #[.int .u8 ((⟨5, ⟨#[255]⟩, [], []⟩ : Jsn) : Jsn).kind, .string ((⟨5, ⟨#[255]⟩, [], []⟩ : Jsn) : Jsn).text, .slice Aa na ca, .slice Ab nb cb] := by simpa [slotF] using e1
            clear hf hdep hU e1
            try dsimp only at h1
            go_simp
            exact hK _ _ (by simp) ⟨_, _, _, _, _, _, rfl, hj⟩ (Below.refl _ _)
          | 27 =>
            injection ho with ho
            subst ho
            clear hf hdep hU
            go_simp
            exact hK _ _ (by simp) ⟨_, rfl, Cel.fresh _ _ _⟩ ((Below.refl _ _).alloc (Nat.le_refl _) _)
          | 28 =>
            injection ho with ho
            subst ho
            obtain ⟨gn, en, hCn⟩ := hdep 27 (by kernel_rfl)
            have h1 : tm[158]?.getD undef = .slice (some ⟨gn, 0, none⟩) 1 1 := by simpa [slotF] using en
            clear en
            have hj : JV W (fun _ => True) (⟨7, ⟨#[]⟩, [⟨#[97]⟩], []⟩ : Jsn) (.slice (some ⟨gn, 0, none⟩) 1 1) (.slice none 0 0) := by
              exact JV.of_elems (zs := []) (by omega) (by omega) (qN_str hCn) rfl (fun z hz => by cases hz) (fun h => by simp at h)
            clear hf hdep hU
            go_simp
            exact hK _ _ (by simp) ⟨_, _, _, _, _, _, rfl, hj⟩ (Below.refl _ _)
          | 29 =>
            injection ho with ho
            subst ho
            obtain ⟨Aa, na, ca, Ab, nb, cb, e1, hj⟩ := hdep 28 (by kernel_rfl)
            have h1 : tm[159]?.getD undef = .agg #[.int .u8 ((⟨7, ⟨#[]⟩, [⟨#[97]⟩], []⟩ : Jsn) : Jsn).kind, .string ((⟨7, ⟨#[]⟩, [⟨#[97]⟩], []⟩ : Jsn) : Jsn).text, .slice Aa na ca, .slice Ab nb cb] := by simpa [slotF] using e1
            clear hf hdep hU e1
            try dsimp only at h1
            go_simp
            exact hK _ _ (by simp) ⟨_, _, _, _, _, _, rfl, hj⟩ (Below.refl _ _)
          | 30 =>
            injection ho with ho
            subst ho
            clear hf hdep hU
            go_simp
            exact hK _ _ (by simp) ⟨_, rfl, Cel.fresh _ _ _⟩ ((Below.refl _ _).alloc (Nat.le_refl _) _)
          | 31 =>
            injection ho with ho
            subst ho
            have hcall := nmNum_any ⟨#[49]⟩ W
            clear hf hdep hU
            go_simp
            refine hcall.mono ?_
            rintro e w1 ⟨vn, vl, rfl, hO, hbb⟩
            obtain ⟨Aa, na, ca, Ab, nb, cb, rfl, rfl⟩ := hO.forms
            exact hK _ _ (by simp) ⟨_, _, _, _, _, _, rfl, (OwnJ.jv _ hO).more fun _ _ _ => trivial⟩ hbb
          | 32 =>
            injection ho with ho
            subst ho
            have hcall := nmNum_any ⟨#[49]⟩ W
            clear hf hdep hU
            go_simp
            refine hcall.mono ?_
            rintro e w1 ⟨vn, vl, rfl, hO, hbb⟩
            obtain ⟨Aa, na, ca, Ab, nb, cb, rfl, rfl⟩ := hO.forms
            exact hK _ _ (by simp) ⟨_, _, _, _, _, _, rfl, (OwnJ.jv _ hO).more fun _ _ _ => trivial⟩ hbb
          | 33 =>
            injection ho with ho
            subst ho
            obtain ⟨Aa0, na0, ca0, Ab0, nb0, cb0, e0, hj0⟩ := hdep 31 (by kernel_rfl)
            have h0 : tm[162]?.getD undef = .agg #[.int .u8 ((⟨4, ⟨#[49]⟩, [], []⟩ : Jsn) : Jsn).kind, .string ((⟨4, ⟨#[49]⟩, [], []⟩ : Jsn) : Jsn).text, .slice Aa0 na0 ca0, .slice Ab0 nb0 cb0] := by simpa [slotF] using e0
            try dsimp only at h0
            clear e0
            obtain ⟨Aa1, na1, ca1, Ab1, nb1, cb1, e1, hj1⟩ := hdep 32 (by kernel_rfl)
            have h1 : tm[163]?.getD undef = .agg #[.int .u8 ((⟨4, ⟨#[49]⟩, [], []⟩ : Jsn) : Jsn).kind, .string ((⟨4, ⟨#[49]⟩, [], []⟩ : Jsn) : Jsn).text, .slice Aa1 na1 ca1, .slice Ab1 nb1 cb1] := by simpa [slotF] using e1
            try dsimp only at h1
            clear e1
            clear hf hdep hU
            have hbb := (Below.refl W.heap.size W).alloc (Nat.le_refl _) (.cells #[.int .u8 ((⟨4, ⟨#[49]⟩, [], []⟩ : Jsn) : Jsn).kind, .string ((⟨4, ⟨#[49]⟩, [], []⟩ : Jsn) : Jsn).text, .slice Aa0 na0 ca0, .slice Ab0 nb0 cb0, .int .u8 ((⟨4, ⟨#[49]⟩, [], []⟩ : Jsn) : Jsn).kind, .string ((⟨4, ⟨#[49]⟩, [], []⟩ : Jsn) : Jsn).text, .slice Aa1 na1 ca1, .slice Ab1 nb1 cb1] 25)
            try dsimp only at hbb
            go_simp
            refine hK _ _ (by simp) ⟨_, [(((⟨4, ⟨#[49]⟩, [], []⟩ : Jsn) : Jsn), (.slice Aa0 na0 ca0 : Value), (.slice Ab0 nb0 cb0 : Value)), (((⟨4, ⟨#[49]⟩, [], []⟩ : Jsn) : Jsn), (.slice Aa1 na1 ca1 : Value), (.slice Ab1 nb1 cb1 : Value))], rfl, Cel.fresh _ _ _, rfl, fun z hz => ?_⟩ hbb
            simp at hz
            rcases hz with rfl | rfl
            · exact hj0.later hbb
            · exact hj1.later hbb
          | 34 =>
            injection ho with ho
            subst ho
            obtain ⟨gn, en, hCn⟩ := hdep 30 (by kernel_rfl)
            have h1 : tm[161]?.getD undef = .slice (some ⟨gn, 0, none⟩) 2 2 := by simpa [slotF] using en
            clear en
            obtain ⟨gl, zs, el, hCl, hzl, hjl⟩ := hdep 33 (by kernel_rfl)
            have hzn : zs.length = 2 := by have := congrArg List.length hzl; simpa using this
            have h2 : tm[164]?.getD undef = .slice (some ⟨gl, 0, none⟩) 2 2 := by rw [← hzn]; simpa [slotF] using el
            clear el
            have hj : JV W (fun _ => True) (⟨7, ⟨#[]⟩, [⟨#[97]⟩, ⟨#[97]⟩], [(⟨4, ⟨#[49]⟩, [], []⟩ : Jsn), (⟨4, ⟨#[49]⟩, [], []⟩ : Jsn)]⟩ : Jsn) (.slice (some ⟨gn, 0, none⟩) 2 2) (.slice (some ⟨gl, 0, none⟩) 2 2) := by
              have hj0 := JV.of_elems (w := W) (X := fun _ => True) (k := 7) (s := ⟨#[]⟩) (c := zs.length) (by omega) (by omega) (qN_str hCn) hzl hjl (fun _ => ⟨gl, 0, rfl, trivial, hCl.lt, fun j z hj i u hu => by
                rw [Nat.zero_add, hCl.cell]
                have := encJ_at zs j z hj i u hu
                simpa using this⟩)
              rw [hzn] at hj0
              exact hj0
            clear hf hdep hU
            go_simp
            exact hK _ _ (by simp) ⟨_, _, _, _, _, _, rfl, hj⟩ (Below.refl _ _)
          | 35 =>
            injection ho with ho
            subst ho
            obtain ⟨Aa, na, ca, Ab, nb, cb, e1, hj⟩ := hdep 34 (by kernel_rfl)
            have h1 : tm[165]?.getD undef = .agg #[.int .u8 ((⟨7, ⟨#[]⟩, [⟨#[97]⟩, ⟨#[97]⟩], [(⟨4, ⟨#[49]⟩, [], []⟩ : Jsn), (⟨4, ⟨#[49]⟩, [], []⟩ : Jsn)]⟩ : Jsn) : Jsn).kind, .string ((⟨7, ⟨#[]⟩, [⟨#[97]⟩, ⟨#[97]⟩], [(⟨4, ⟨#[49]⟩, [], []⟩ : Jsn), (⟨4, ⟨#[49]⟩, [], []⟩ : Jsn)]⟩ : Jsn) : Jsn).text, .slice Aa na ca, .slice Ab nb cb] := by simpa [slotF] using e1
            clear hf hdep hU e1
            try dsimp only at h1
            go_simp
            exact hK _ _ (by simp) ⟨_, _, _, _, _, _, rfl, hj⟩ (Below.refl _ _)
          | 36 =>
            injection ho with ho
            subst ho
            clear hf hdep hU
            go_simp
            exact hK _ _ (by simp) ⟨_, rfl, Cel.fresh _ _ _⟩ ((Below.refl _ _).alloc (Nat.le_refl _) _)
          | 37 =>
            injection ho with ho
            subst ho
            have hcall := nmNum_any ⟨#[49]⟩ W
            clear hf hdep hU
            go_simp
            refine hcall.mono ?_
            rintro e w1 ⟨vn, vl, rfl, hO, hbb⟩
            obtain ⟨Aa, na, ca, Ab, nb, cb, rfl, rfl⟩ := hO.forms
            exact hK _ _ (by simp) ⟨_, _, _, _, _, _, rfl, (OwnJ.jv _ hO).more fun _ _ _ => trivial⟩ hbb
          | 38 =>
            injection ho with ho
            subst ho
            obtain ⟨Aa0, na0, ca0, Ab0, nb0, cb0, e0, hj0⟩ := hdep 37 (by kernel_rfl)
            have h0 : tm[168]?.getD undef = .agg #[.int .u8 ((⟨4, ⟨#[49]⟩, [], []⟩ : Jsn) : Jsn).kind, .string ((⟨4, ⟨#[49]⟩, [], []⟩ : Jsn) : Jsn).text, .slice Aa0 na0 ca0, .slice Ab0 nb0 cb0] := by simpa [slotF] using e0
            try dsimp only at h0
            clear e0
            clear hf hdep hU
            have hbb := (Below.refl W.heap.size W).alloc (Nat.le_refl _) (.cells #[.int .u8 ((⟨4, ⟨#[49]⟩, [], []⟩ : Jsn) : Jsn).kind, .string ((⟨4, ⟨#[49]⟩, [], []⟩ : Jsn) : Jsn).text, .slice Aa0 na0 ca0, .slice Ab0 nb0 cb0] 25)
            try dsimp only at hbb
            go_simp
            refine hK _ _ (by simp) ⟨_, [(((⟨4, ⟨#[49]⟩, [], []⟩ : Jsn) : Jsn), (.slice Aa0 na0 ca0 : Value), (.slice Ab0 nb0 cb0 : Value))], rfl, Cel.fresh _ _ _, rfl, fun z hz => ?_⟩ hbb
            simp at hz
            rcases hz with rfl
            · exact hj0.later hbb
          | 39 =>
            injection ho with ho
            subst ho
            obtain ⟨gn, en, hCn⟩ := hdep 36 (by kernel_rfl)
            have h1 : tm[167]?.getD undef = .slice (some ⟨gn, 0, none⟩) 1 1 := by simpa [slotF] using en
            clear en
            obtain ⟨gl, zs, el, hCl, hzl, hjl⟩ := hdep 38 (by kernel_rfl)
            have hzn : zs.length = 1 := by have := congrArg List.length hzl; simpa using this
            have h2 : tm[169]?.getD undef = .slice (some ⟨gl, 0, none⟩) 1 1 := by rw [← hzn]; simpa [slotF] using el
            clear el
            have hj : JV W (fun _ => True) (⟨7, ⟨#[]⟩, [⟨#[255]⟩], [(⟨4, ⟨#[49]⟩, [], []⟩ : Jsn)]⟩ : Jsn) (.slice (some ⟨gn, 0, none⟩) 1 1) (.slice (some ⟨gl, 0, none⟩) 1 1) := by
              have hj0 := JV.of_elems (w := W) (X := fun _ => True) (k := 7) (s := ⟨#[]⟩) (c := zs.length) (by omega) (by omega) (qN_str hCn) hzl hjl (fun _ => ⟨gl, 0, rfl, trivial, hCl.lt, fun j z hj i u hu => by
                rw [Nat.zero_add, hCl.cell]
                have := encJ_at zs j z hj i u hu
                simpa using this⟩)
              rw [hzn] at hj0
              exact hj0
            clear hf hdep hU
            go_simp
            exact hK _ _ (by simp) ⟨_, _, _, _, _, _, rfl, hj⟩ (Below.refl _ _)
          | 40 =>
            injection ho with ho
            subst ho
            obtain ⟨Aa, na, ca, Ab, nb, cb, e1, hj⟩ := hdep 39 (by kernel_rfl)
            have h1 : tm[170]?.getD undef = .agg #[.int .u8 ((⟨7, ⟨#[]⟩, [⟨#[255]⟩], [(⟨4, ⟨#[49]⟩, [], []⟩ : Jsn)]⟩ : Jsn) : Jsn).kind, .string ((⟨7, ⟨#[]⟩, [⟨#[255]⟩], [(⟨4, ⟨#[49]⟩, [], []⟩ : Jsn)]⟩ : Jsn) : Jsn).text, .slice Aa na ca, .slice Ab nb cb] := by simpa [slotF] using e1
            clear hf hdep hU e1
            try dsimp only at h1
            go_simp
            exact hK _ _ (by simp) ⟨_, _, _, _, _, _, rfl, hj⟩ (Below.refl _ _)
          | 41 =>
            injection ho with ho
            subst ho
            have hj : JV W (fun _ => True) (⟨1, ⟨#[120]⟩, [], []⟩ : Jsn) (.slice none 0 0) (.slice none 0 0) := by
              exact JV.of_elems (zs := []) (by omega) (by omega) (⟨none, 0, rfl, fun h => by simp at h⟩) rfl (fun z hz => by cases hz) (fun h => by simp at h)
            clear hf hdep hU
            go_simp
            exact hK _ _ (by simp) ⟨_, _, _, _, _, _, rfl, hj⟩ (Below.refl _ _)
          | 42 =>
            injection ho with ho
            subst ho
            obtain ⟨Aa, na, ca, Ab, nb, cb, e1, hj⟩ := hdep 41 (by kernel_rfl)
            have h1 : tm[172]?.getD undef = .agg #[.int .u8 ((⟨1, ⟨#[120]⟩, [], []⟩ : Jsn) : Jsn).kind, .string ((⟨1, ⟨#[120]⟩, [], []⟩ : Jsn) : Jsn).text, .slice Aa na ca, .slice Ab nb cb] := by simpa [slotF] using e1
            clear hf hdep hU e1
            try dsimp only at h1
            go_simp
            exact hK _ _ (by simp) ⟨_, _, _, _, _, _, rfl, hj⟩ (Below.refl _ _)
          | 43 =>
            injection ho with ho
            subst ho
            clear hf hdep hU
            go_simp
            exact hK _ _ (by simp) ⟨_, rfl, Cel.fresh _ _ _⟩ ((Below.refl _ _).alloc (Nat.le_refl _) _)
          | 44 =>
            injection ho with ho
            subst ho
            obtain ⟨gn, en, hCn⟩ := hdep 43 (by kernel_rfl)
            have h1 : tm[174]?.getD undef = .slice (some ⟨gn, 0, none⟩) 1 1 := by simpa [slotF] using en
            clear en
            have hj : JV W (fun _ => True) (⟨6, ⟨#[]⟩, [⟨#[97]⟩], []⟩ : Jsn) (.slice (some ⟨gn, 0, none⟩) 1 1) (.slice none 0 0) := by
              exact JV.of_elems (zs := []) (by omega) (by omega) (qN_str hCn) rfl (fun z hz => by cases hz) (fun h => by simp at h)
            clear hf hdep hU
            go_simp
            exact hK _ _ (by simp) ⟨_, _, _, _, _, _, rfl, hj⟩ (Below.refl _ _)
          | 45 =>
            injection ho with ho
            subst ho
            obtain ⟨Aa, na, ca, Ab, nb, cb, e1, hj⟩ := hdep 44 (by kernel_rfl)
            have h1 : tm[175]?.getD undef = .agg #[.int .u8 ((⟨6, ⟨#[]⟩, [⟨#[97]⟩], []⟩ : Jsn) : Jsn).kind, .string ((⟨6, ⟨#[]⟩, [⟨#[97]⟩], []⟩ : Jsn) : Jsn).text, .slice Aa na ca, .slice Ab nb cb] := by simpa [slotF] using e1
            clear hf hdep hU e1
            try dsimp only at h1
            go_simp
            exact hK _ _ (by simp) ⟨_, _, _, _, _, _, rfl, hj⟩ (Below.refl _ _)
          | 46 =>
            injection ho with ho
            subst ho
            have hj : JV W (fun _ => True) (⟨8, ⟨#[]⟩, [], []⟩ : Jsn) (.slice none 0 0) (.slice none 0 0) := by
              exact JV.of_elems (zs := []) (by omega) (by omega) (⟨none, 0, rfl, fun h => by simp at h⟩) rfl (fun z hz => by cases hz) (fun h => by simp at h)
            clear hf hdep hU
            go_simp
            exact hK _ _ (by simp) ⟨_, _, _, _, _, _, rfl, hj⟩ (Below.refl _ _)
          | 47 =>
            injection ho with ho
            subst ho
            obtain ⟨Aa, na, ca, Ab, nb, cb, e1, hj⟩ := hdep 46 (by kernel_rfl)
            have h1 : tm[177]?.getD undef = .agg #[.int .u8 ((⟨8, ⟨#[]⟩, [], []⟩ : Jsn) : Jsn).kind, .string ((⟨8, ⟨#[]⟩, [], []⟩ : Jsn) : Jsn).text, .slice Aa na ca, .slice Ab nb cb] := by simpa [slotF] using e1
            clear hf hdep hU e1
            try dsimp only at h1
            go_simp
            exact hK _ _ (by simp) ⟨_, _, _, _, _, _, rfl, hj⟩ (Below.refl _ _)
          | 48 =>
            injection ho with ho
            subst ho
            obtain ⟨Aa0, na0, ca0, Ab0, nb0, cb0, e0, hj0⟩ := hdep 1 (by kernel_rfl)
            have h0 : tm[132]?.getD undef = .agg #[.int .u8 (D : Jsn).kind, .string (D : Jsn).text, .slice Aa0 na0 ca0, .slice Ab0 nb0 cb0, .int .i64 0] := by simpa [slotF] using e0
            try dsimp only at h0
            clear e0
            obtain ⟨Aa1, na1, ca1, Ab1, nb1, cb1, e1, hj1⟩ := hdep 5 (by kernel_rfl)
            have h1 : tm[136]?.getD undef = .agg #[.int .u8 ((⟨6, ⟨#[]⟩, [], [D]⟩ : Jsn) : Jsn).kind, .string ((⟨6, ⟨#[]⟩, [], [D]⟩ : Jsn) : Jsn).text, .slice Aa1 na1 ca1, .slice Ab1 nb1 cb1, .int .i64 61] := by simpa [slotF] using e1
            try dsimp only at h1
            clear e1
            obtain ⟨Aa2, na2, ca2, Ab2, nb2, cb2, e2, hj2⟩ := hdep 7 (by kernel_rfl)
            have h2 : tm[138]?.getD undef = .agg #[.int .u8 (wideJ : Jsn).kind, .string (wideJ : Jsn).text, .slice Aa2 na2 ca2, .slice Ab2 nb2 cb2, .int .i64 40] := by simpa [slotF] using e2
            try dsimp only at h2
            clear e2
            obtain ⟨Aa3, na3, ca3, Ab3, nb3, cb3, e3, hj3⟩ := hdep 9 (by kernel_rfl)
            have h3 : tm[140]?.getD undef = .agg #[.int .u8 ((⟨5, s8, [], []⟩ : Jsn) : Jsn).kind, .string ((⟨5, s8, [], []⟩ : Jsn) : Jsn).text, .slice Aa3 na3 ca3, .slice Ab3 nb3 cb3, .int .i64 0] := by simpa [slotF] using e3
            try dsimp only at h3
            clear e3
            obtain ⟨Aa4, na4, ca4, Ab4, nb4, cb4, e4, hj4⟩ := hdep 12 (by kernel_rfl)
            have h4 : tm[143]?.getD undef = .agg #[.int .u8 ((⟨5, s9, [], []⟩ : Jsn) : Jsn).kind, .string ((⟨5, s9, [], []⟩ : Jsn) : Jsn).text, .slice Aa4 na4 ca4, .slice Ab4 nb4 cb4, .int .i64 40] := by simpa [slotF] using e4
            try dsimp only at h4
            clear e4
            obtain ⟨Aa5, na5, ca5, Ab5, nb5, cb5, e5, hj5⟩ := hdep 16 (by kernel_rfl)
            have h5 : tm[147]?.getD undef = .agg #[.int .u8 ((⟨5, (s8 ++ ⟨#[120]⟩), [], []⟩ : Jsn) : Jsn).kind, .string ((⟨5, (s8 ++ ⟨#[120]⟩), [], []⟩ : Jsn) : Jsn).text, .slice Aa5 na5 ca5, .slice Ab5 nb5 cb5, .int .i64 40] := by simpa [slotF] using e5
            try dsimp only at h5
            clear e5
            obtain ⟨Aa6, na6, ca6, Ab6, nb6, cb6, e6, hj6⟩ := hdep 18 (by kernel_rfl)
            have h6 : tm[149]?.getD undef = .agg #[.int .u8 ((⟨0, ⟨#[]⟩, [], []⟩ : Jsn) : Jsn).kind, .string ((⟨0, ⟨#[]⟩, [], []⟩ : Jsn) : Jsn).text, .slice Aa6 na6 ca6, .slice Ab6 nb6 cb6, .int .i64 4] := by simpa [slotF] using e6
            try dsimp only at h6
            clear e6
            obtain ⟨Aa7, na7, ca7, Ab7, nb7, cb7, e7, hj7⟩ := hdep 20 (by kernel_rfl)
            have h7 : tm[151]?.getD undef = .agg #[.int .u8 ((⟨4, ⟨#[49, 46, 53]⟩, [], []⟩ : Jsn) : Jsn).kind, .string ((⟨4, ⟨#[49, 46, 53]⟩, [], []⟩ : Jsn) : Jsn).text, .slice Aa7 na7 ca7, .slice Ab7 nb7 cb7, .int .i64 4] := by simpa [slotF] using e7
            try dsimp only at h7
            clear e7
            obtain ⟨Aa8, na8, ca8, Ab8, nb8, cb8, e8, hj8⟩ := hdep 22 (by kernel_rfl)
            have h8 : tm[153]?.getD undef = .agg #[.int .u8 ((⟨4, ⟨#[49, 48]⟩, [], []⟩ : Jsn) : Jsn).kind, .string ((⟨4, ⟨#[49, 48]⟩, [], []⟩ : Jsn) : Jsn).text, .slice Aa8 na8 ca8, .slice Ab8 nb8 cb8, .int .i64 4] := by simpa [slotF] using e8
            try dsimp only at h8
            clear e8
            obtain ⟨Aa9, na9, ca9, Ab9, nb9, cb9, e9, hj9⟩ := hdep 24 (by kernel_rfl)
            have h9 : tm[155]?.getD undef = .agg #[.int .u8 ((⟨4, ⟨#[49, 101, 49]⟩, [], []⟩ : Jsn) : Jsn).kind, .string ((⟨4, ⟨#[49, 101, 49]⟩, [], []⟩ : Jsn) : Jsn).text, .slice Aa9 na9 ca9, .slice Ab9 nb9 cb9, .int .i64 0] := by simpa [slotF] using e9
            try dsimp only at h9
            clear e9
            obtain ⟨Aa10, na10, ca10, Ab10, nb10, cb10, e10, hj10⟩ := hdep 26 (by kernel_rfl)
            have h10 : tm[157]?.getD undef = .agg #[.int .u8 ((⟨5, ⟨#[255]⟩, [], []⟩ : Jsn) : Jsn).kind, .string ((⟨5, ⟨#[255]⟩, [], []⟩ : Jsn) : Jsn).text, .slice Aa10 na10 ca10, .slice Ab10 nb10 cb10, .int .i64 4] := by simpa [slotF] using e10
            try dsimp only at h10
            clear e10
            obtain ⟨Aa11, na11, ca11, Ab11, nb11, cb11, e11, hj11⟩ := hdep 29 (by kernel_rfl)
            have h11 : tm[160]?.getD undef = .agg #[.int .u8 ((⟨7, ⟨#[]⟩, [⟨#[97]⟩], []⟩ : Jsn) : Jsn).kind, .string ((⟨7, ⟨#[]⟩, [⟨#[97]⟩], []⟩ : Jsn) : Jsn).text, .slice Aa11 na11 ca11, .slice Ab11 nb11 cb11, .int .i64 4] := by simpa [slotF] using e11
            try dsimp only at h11
            clear e11
            obtain ⟨Aa12, na12, ca12, Ab12, nb12, cb12, e12, hj12⟩ := hdep 35 (by kernel_rfl)
            have h12 : tm[166]?.getD undef = .agg #[.int .u8 ((⟨7, ⟨#[]⟩, [⟨#[97]⟩, ⟨#[97]⟩], [(⟨4, ⟨#[49]⟩, [], []⟩ : Jsn), (⟨4, ⟨#[49]⟩, [], []⟩ : Jsn)]⟩ : Jsn) : Jsn).kind, .string ((⟨7, ⟨#[]⟩, [⟨#[97]⟩, ⟨#[97]⟩], [(⟨4, ⟨#[49]⟩, [], []⟩ : Jsn), (⟨4, ⟨#[49]⟩, [], []⟩ : Jsn)]⟩ : Jsn) : Jsn).text, .slice Aa12 na12 ca12, .slice Ab12 nb12 cb12, .int .i64 6] := by simpa [slotF] using e12
            try dsimp only at h12
            clear e12
            obtain ⟨Aa13, na13, ca13, Ab13, nb13, cb13, e13, hj13⟩ := hdep 40 (by kernel_rfl)
            have h13 : tm[171]?.getD undef = .agg #[.int .u8 ((⟨7, ⟨#[]⟩, [⟨#[255]⟩], [(⟨4, ⟨#[49]⟩, [], []⟩ : Jsn)]⟩ : Jsn) : Jsn).kind, .string ((⟨7, ⟨#[]⟩, [⟨#[255]⟩], [(⟨4, ⟨#[49]⟩, [], []⟩ : Jsn)]⟩ : Jsn) : Jsn).text, .slice Aa13 na13 ca13, .slice Ab13 nb13 cb13, .int .i64 4] := by simpa [slotF] using e13
            try dsimp only at h13
            clear e13
            obtain ⟨Aa14, na14, ca14, Ab14, nb14, cb14, e14, hj14⟩ := hdep 42 (by kernel_rfl)
            have h14 : tm[173]?.getD undef = .agg #[.int .u8 ((⟨1, ⟨#[120]⟩, [], []⟩ : Jsn) : Jsn).kind, .string ((⟨1, ⟨#[120]⟩, [], []⟩ : Jsn) : Jsn).text, .slice Aa14 na14 ca14, .slice Ab14 nb14 cb14, .int .i64 4] := by simpa [slotF] using e14
            try dsimp only at h14
            clear e14
            obtain ⟨Aa15, na15, ca15, Ab15, nb15, cb15, e15, hj15⟩ := hdep 45 (by kernel_rfl)
            have h15 : tm[176]?.getD undef = .agg #[.int .u8 ((⟨6, ⟨#[]⟩, [⟨#[97]⟩], []⟩ : Jsn) : Jsn).kind, .string ((⟨6, ⟨#[]⟩, [⟨#[97]⟩], []⟩ : Jsn) : Jsn).text, .slice Aa15 na15 ca15, .slice Ab15 nb15 cb15, .int .i64 4] := by simpa [slotF] using e15
            try dsimp only at h15
            clear e15
            obtain ⟨Aa16, na16, ca16, Ab16, nb16, cb16, e16, hj16⟩ := hdep 47 (by kernel_rfl)
            have h16 : tm[178]?.getD undef = .agg #[.int .u8 ((⟨8, ⟨#[]⟩, [], []⟩ : Jsn) : Jsn).kind, .string ((⟨8, ⟨#[]⟩, [], []⟩ : Jsn) : Jsn).text, .slice Aa16 na16 ca16, .slice Ab16 nb16 cb16, .int .i64 4] := by simpa [slotF] using e16
            try dsimp only at h16
            clear e16
            clear hf hdep hU
            have hbb := (Below.refl W.heap.size W).alloc (Nat.le_refl _) (.cells #[.int .u8 (D : Jsn).kind, .string (D : Jsn).text, .slice Aa0 na0 ca0, .slice Ab0 nb0 cb0, .int .i64 0, .int .u8 ((⟨6, ⟨#[]⟩, [], [D]⟩ : Jsn) : Jsn).kind, .string ((⟨6, ⟨#[]⟩, [], [D]⟩ : Jsn) : Jsn).text, .slice Aa1 na1 ca1, .slice Ab1 nb1 cb1, .int .i64 61, .int .u8 (wideJ : Jsn).kind, .string (wideJ : Jsn).text, .slice Aa2 na2 ca2, .slice Ab2 nb2 cb2, .int .i64 40, .int .u8 ((⟨5, s8, [], []⟩ : Jsn) : Jsn).kind, .string ((⟨5, s8, [], []⟩ : Jsn) : Jsn).text, .slice Aa3 na3 ca3, .slice Ab3 nb3 cb3, .int .i64 0, .int .u8 ((⟨5, s9, [], []⟩ : Jsn) : Jsn).kind, .string ((⟨5, s9, [], []⟩ : Jsn) : Jsn).text, .slice Aa4 na4 ca4, .slice Ab4 nb4 cb4, .int .i64 40, .int .u8 ((⟨5, (s8 ++ ⟨#[120]⟩), [], []⟩ : Jsn) : Jsn).kind, .string ((⟨5, (s8 ++ ⟨#[120]⟩), [], []⟩ : Jsn) : Jsn).text, .slice Aa5 na5 ca5, .slice Ab5 nb5 cb5, .int .i64 40, .int .u8 ((⟨0, ⟨#[]⟩, [], []⟩ : Jsn) : Jsn).kind, .string ((⟨0, ⟨#[]⟩, [], []⟩ : Jsn) : Jsn).text, .slice Aa6 na6 ca6, .slice Ab6 nb6 cb6, .int .i64 4, .int .u8 ((⟨4, ⟨#[49, 46, 53]⟩, [], []⟩ : Jsn) : Jsn).kind, .string ((⟨4, ⟨#[49, 46, 53]⟩, [], []⟩ : Jsn) : Jsn).text, .slice Aa7 na7 ca7, .slice Ab7 nb7 cb7, .int .i64 4, .int .u8 ((⟨4, ⟨#[49, 48]⟩, [], []⟩ : Jsn) : Jsn).kind, .string ((⟨4, ⟨#[49, 48]⟩, [], []⟩ : Jsn) : Jsn).text, .slice Aa8 na8 ca8, .slice Ab8 nb8 cb8, .int .i64 4, .int .u8 ((⟨4, ⟨#[49, 101, 49]⟩, [], []⟩ : Jsn) : Jsn).kind, .string ((⟨4, ⟨#[49, 101, 49]⟩, [], []⟩ : Jsn) : Jsn).text, .slice Aa9 na9 ca9, .slice Ab9 nb9 cb9, .int .i64 0, .int .u8 ((⟨5, ⟨#[255]⟩, [], []⟩ : Jsn) : Jsn).kind, .string ((⟨5, ⟨#[255]⟩, [], []⟩ : Jsn) : Jsn).text, .slice Aa10 na10 ca10, .slice Ab10 nb10 cb10, .int .i64 4, .int .u8 ((⟨7, ⟨#[]⟩, [⟨#[97]⟩], []⟩ : Jsn) : Jsn).kind, .string ((⟨7, ⟨#[]⟩, [⟨#[97]⟩], []⟩ : Jsn) : Jsn).text, .slice Aa11 na11 ca11, .slice Ab11 nb11 cb11, .int .i64 4, .int .u8 ((⟨7, ⟨#[]⟩, [⟨#[97]⟩, ⟨#[97]⟩], [(⟨4, ⟨#[49]⟩, [], []⟩ : Jsn), (⟨4, ⟨#[49]⟩, [], []⟩ : Jsn)]⟩ : Jsn) : Jsn).kind, .string ((⟨7, ⟨#[]⟩, [⟨#[97]⟩, ⟨#[97]⟩], [(⟨4, ⟨#[49]⟩, [], []⟩ : Jsn), (⟨4, ⟨#[49]⟩, [], []⟩ : Jsn)]⟩ : Jsn) : Jsn).text, .slice Aa12 na12 ca12, .slice Ab12 nb12 cb12, .int .i64 6, .int .u8 ((⟨7, ⟨#[]⟩, [⟨#[255]⟩], [(⟨4, ⟨#[49]⟩, [], []⟩ : Jsn)]⟩ : Jsn) : Jsn).kind, .string ((⟨7, ⟨#[]⟩, [⟨#[255]⟩], [(⟨4, ⟨#[49]⟩, [], []⟩ : Jsn)]⟩ : Jsn) : Jsn).text, .slice Aa13 na13 ca13, .slice Ab13 nb13 cb13, .int .i64 4, .int .u8 ((⟨1, ⟨#[120]⟩, [], []⟩ : Jsn) : Jsn).kind, .string ((⟨1, ⟨#[120]⟩, [], []⟩ : Jsn) : Jsn).text, .slice Aa14 na14 ca14, .slice Ab14 nb14 cb14, .int .i64 4, .int .u8 ((⟨6, ⟨#[]⟩, [⟨#[97]⟩], []⟩ : Jsn) : Jsn).kind, .string ((⟨6, ⟨#[]⟩, [⟨#[97]⟩], []⟩ : Jsn) : Jsn).text, .slice Aa15 na15 ca15, .slice Ab15 nb15 cb15, .int .i64 4, .int .u8 ((⟨8, ⟨#[]⟩, [], []⟩ : Jsn) : Jsn).kind, .string ((⟨8, ⟨#[]⟩, [], []⟩ : Jsn) : Jsn).text, .slice Aa16 na16 ca16, .slice Ab16 nb16 cb16, .int .i64 4] 51)
            try dsimp only at hbb
            go_simp
            refine hK _ _ (by simp) ⟨_, [(((D : Jsn), (.slice Aa0 na0 ca0 : Value), (.slice Ab0 nb0 cb0 : Value)), (0 : Int)), ((((⟨6, ⟨#[]⟩, [], [D]⟩ : Jsn) : Jsn), (.slice Aa1 na1 ca1 : Value), (.slice Ab1 nb1 cb1 : Value)), (61 : Int)), (((wideJ : Jsn), (.slice Aa2 na2 ca2 : Value), (.slice Ab2 nb2 cb2 : Value)), (40 : Int)), ((((⟨5, s8, [], []⟩ : Jsn) : Jsn), (.slice Aa3 na3 ca3 : Value), (.slice Ab3 nb3 cb3 : Value)), (0 : Int)), ((((⟨5, s9, [], []⟩ : Jsn) : Jsn), (.slice Aa4 na4 ca4 : Value), (.slice Ab4 nb4 cb4 : Value)), (40 : Int)), ((((⟨5, (s8 ++ ⟨#[120]⟩), [], []⟩ : Jsn) : Jsn), (.slice Aa5 na5 ca5 : Value), (.slice Ab5 nb5 cb5 : Value)), (40 : Int)), ((((⟨0, ⟨#[]⟩, [], []⟩ : Jsn) : Jsn), (.slice Aa6 na6 ca6 : Value), (.slice Ab6 nb6 cb6 : Value)), (4 : Int)), ((((⟨4, ⟨#[49, 46, 53]⟩, [], []⟩ : Jsn) : Jsn), (.slice Aa7 na7 ca7 : Value), (.slice Ab7 nb7 cb7 : Value)), (4 : Int)), ((((⟨4, ⟨#[49, 48]⟩, [], []⟩ : Jsn) : Jsn), (.slice Aa8 na8 ca8 : Value), (.slice Ab8 nb8 cb8 : Value)), (4 : Int)), ((((⟨4, ⟨#[49, 101, 49]⟩, [], []⟩ : Jsn) : Jsn), (.slice Aa9 na9 ca9 : Value), (.slice Ab9 nb9 cb9 : Value)), (0 : Int)), ((((⟨5, ⟨#[255]⟩, [], []⟩ : Jsn) : Jsn), (.slice Aa10 na10 ca10 : Value), (.slice Ab10 nb10 cb10 : Value)), (4 : Int)), ((((⟨7, ⟨#[]⟩, [⟨#[97]⟩], []⟩ : Jsn) : Jsn), (.slice Aa11 na11 ca11 : Value), (.slice Ab11 nb11 cb11 : Value)), (4 : Int)), ((((⟨7, ⟨#[]⟩, [⟨#[97]⟩, ⟨#[97]⟩], [(⟨4, ⟨#[49]⟩, [], []⟩ : Jsn), (⟨4, ⟨#[49]⟩, [], []⟩ : Jsn)]⟩ : Jsn) : Jsn), (.slice Aa12 na12 ca12 : Value), (.slice Ab12 nb12 cb12 : Value)), (6 : Int)), ((((⟨7, ⟨#[]⟩, [⟨#[255]⟩], [(⟨4, ⟨#[49]⟩, [], []⟩ : Jsn)]⟩ : Jsn) : Jsn), (.slice Aa13 na13 ca13 : Value), (.slice Ab13 nb13 cb13 : Value)), (4 : Int)), ((((⟨1, ⟨#[120]⟩, [], []⟩ : Jsn) : Jsn), (.slice Aa14 na14 ca14 : Value), (.slice Ab14 nb14 cb14 : Value)), (4 : Int)), ((((⟨6, ⟨#[]⟩, [⟨#[97]⟩], []⟩ : Jsn) : Jsn), (.slice Aa15 na15 ca15 : Value), (.slice Ab15 nb15 cb15 : Value)), (4 : Int)), ((((⟨8, ⟨#[]⟩, [], []⟩ : Jsn) : Jsn), (.slice Aa16 na16 ca16 : Value), (.slice Ab16 nb16 cb16 : Value)), (4 : Int))], rfl, Cel.fresh _ _ _, rfl, fun z hz => ?_⟩ hbb
            simp at hz
            rcases hz with rfl | rfl | rfl | rfl | rfl | rfl | rfl | rfl | rfl | rfl | rfl | rfl | rfl | rfl | rfl | rfl | rfl
            · exact hj0.later hbb
            · exact hj1.later hbb
            · exact hj2.later hbb
            · exact hj3.later hbb
            · exact hj4.later hbb
            · exact hj5.later hbb
            · exact hj6.later hbb
            · exact hj7.later hbb
            · exact hj8.later hbb
            · exact hj9.later hbb
            · exact hj10.later hbb
            · exact hj11.later hbb
            · exact hj12.later hbb
            · exact hj13.later hbb
            · exact hj14.later hbb
            · exact hj15.later hbb
            · exact hj16.later hbb
          | 49 =>
            injection ho with ho
            subst ho
            obtain ⟨gl, zs, el, hCl, hzl, hjl⟩ := hdep 48 (by kernel_rfl)
            have hzn : zs.length = 17 := by have := congrArg List.length hzl; simpa [nmRows] using this
            have h2 : tm[179]?.getD undef = .slice (some ⟨gl, 0, none⟩) 17 17 := by rw [← hzn]; simpa [slotF] using el
            clear el hf hdep hU
            go_simp
            exact hK _ _ (by simp) rfl (Below.refl _ _)
          | 50 =>
            injection ho with ho
            subst ho
            clear hf hdep hU
            go_simp
            exact hK _ _ (by simp) rfl (Below.refl _ _)
          | m + 51 => simp at ho
        · intro u W hS hfact
          simp only [frameU, Nat.reduceAdd] at hfact ⊢
          obtain ⟨gl, zs, el, hCl, hzl, hjl⟩ := hfact 48 (by decide)
          have e49 := hfact 49 (by decide)
          have e50 := hfact 50 (by decide)
          clear hfact
          have hzn : zs.length = 17 := by have := congrArg List.length hzl; simpa [nmRows] using this
          rw [hzn] at el
          replace el : u 179 = .slice (some ⟨gl, 0, none⟩) 17 17 := el
          replace e49 : u 180 = .int .i64 17 := e49
          replace e50 : u 181 = .int .i64 0 := e50
          rw [el, e49, e50]
          clear el e49 e50
          have hT2 : nmRows D s8 s9 = nmT2 := by rw [← hD.out, ← hs8.out, ← hs9.out]; exact nmRows_eq
          rw [hT2] at hzl
          have hb0W := Lib.hid (hb0.out.trans (hS.mono hb0.out.size))
          have hC8 := Lib.hid (hP8.out.below hS hP8.out.lt)
          have hJ8W := Lib.hid (hJ8.out.later hS)
          have hltG := Lib.hid hCl.lt
          replace hCl := Lib.hid hCl
          replace hzl := Lib.hid hzl
          replace hjl := Lib.hid hjl
          replace hS := Lib.hid hS
          have hzn' := Lib.hid hzn
          clear hzn hT2 hP5 hJ5 hP7 hJ7 hP8 hJ8 hD
          go_wp2_with fail
          go_loopw [181] (fun i wr => ∃ q : Nat, q ≤ 17 ∧ i = .int .i64 q ∧ Below W.heap.size W wr) (fun i _ => 17 - (intOf i).toNat)
          case atStart => exact ⟨0, Nat.zero_le _, rfl, Below.refl _ _⟩
          case round =>
            obtain ⟨W', rfl⟩ : ∃ X, X = W := ⟨_, rfl⟩
            obtain ⟨q, hq, rfl, hBr⟩ := hrel
            have hE' : EnvC wr := hE.out.below ((hB.out.trans (hb0W.out.mono hB.out.size)).trans (hBr.mono (Nat.le_trans hB.out.size hb0W.out.size)))
            by_cases hlq2 : q < 17
            · obtain ⟨⟨⟨J, vn, vl⟩, ec⟩, hzq⟩ : ∃ z, zs[q]? = some z := ⟨_, List.getElem?_eq_getElem (by have := hzn'.out; omega)⟩
              have hjz := hjl.out _ (List.mem_of_getElem? hzq)
              dsimp only at hjz
              obtain ⟨An, nn, cn, Al, nl, cl, rfl, rfl⟩ := hjz.forms
              have hsay := nmT2_says (J, ec) (by rw [← hzl.out]; exact List.mem_map.2 ⟨_, List.mem_of_getElem? hzq, rfl⟩)
              dsimp only at hsay
              have key : ∀ (i : Nat) v, (encT2 ((J, .slice An nn cn, .slice Al nl cl), ec))[i]? = some v → wr.cell? ⟨gl, q * 5 + i, none⟩ = some v := fun i v hv => (hBr.cell (p := ⟨gl, q * 5 + i, none⟩) hltG.out).trans (by
                rw [hCl.out.cell]
                have := encT2_at zs q _ hzq i v hv
                simpa using this)
              have d0 : wr.cell? ⟨gl, q * 5, none⟩ = some (.int .u8 J.kind) := key 0 _ rfl
              have d1 : wr.cell? ⟨gl, q * 5 + 1, none⟩ = some (.string J.text) := key 1 _ rfl
              have d2 : wr.cell? ⟨gl, q * 5 + 2, none⟩ = some (.slice An nn cn) := key 2 _ rfl
              have d3 : wr.cell? ⟨gl, q * 5 + 3, none⟩ = some (.slice Al nl cl) := key 3 _ rfl
              have d4 : wr.cell? ⟨gl, q * 5 + 4, none⟩ = some (.int .i64 ec) := key 4 _ rfl
              obtain ⟨V6, hV6⟩ : ∃ X, wr.alloc (.cells #[.int .u8 J.kind, .string J.text, .slice An nn cn, .slice Al nl cl, .int .i64 ec] 51) = X := ⟨_, rfl⟩
              have hbv : Below wr.heap.size wr V6 := by rw [← hV6]; exact (Below.refl _ _).alloc (Nat.le_refl _) _
              have hCv : Cel V6 wr.heap.size 51 #[.int .u8 J.kind, .string J.text, .slice An nn cn, .slice Al nl cl, .int .i64 ec] := by rw [← hV6]; exact Cel.fresh _ _ _
              have hBv := hBr.trans (hbv.mono hBr.size)
              have hpr := jsnPrint_any J _ V6 _ _ (hE'.below hbv).1 (hjz.later hBv) hsay.2
              rw [hsay.1] at hpr
              obtain ⟨SP, hSP⟩ : ∃ S : ByteArray, (⟨(jprint ownL Lib.validD J).1.toArray⟩ : ByteArray) = S := ⟨_, rfl⟩
              rw [hSP] at hpr
              have x0 : V6.cell? ⟨wr.heap.size, 0, none⟩ = some (.int .u8 J.kind) := hCv.cell 0
              have x1 : V6.cell? ⟨wr.heap.size, 1, none⟩ = some (.string J.text) := hCv.cell 1
              have x2 : V6.cell? ⟨wr.heap.size, 2, none⟩ = some (.slice An nn cn) := hCv.cell 2
              have x3 : V6.cell? ⟨wr.heap.size, 3, none⟩ = some (.slice Al nl cl) := hCv.cell 3
              have hq0 : (q : Int) < 17 := by omega
              replace hpr := Lib.hid hpr
              replace hV6 := Lib.hid hV6
              replace hCv := Lib.hid hCv
              replace hBv := Lib.hid hBv
              clear key hsay hjz hzq hBr hE' hbv hSP
              go_upto_region 20 with fail
              rw [hV6.out]
              clear hV6 d0 d1 d2 d3 d4
              go_wp2_with fail
              refine hpr.out.mono ?_
              rintro e v7 ⟨rfl, hb7⟩
              have y4 : v7.cell? ⟨wr.heap.size, 4, none⟩ = some (.int .i64 ec) := (hCv.out.below hb7 hCv.out.lt).cell 4
              have hB7 := Lib.hid (hBv.out.trans (hb7.mono hBv.out.size))
              clear hpr hb7 hCv hBv x0 x1 x2 x3
              go_wp2_with fail
              go_roundw
              case rel => exact ⟨q + 1, by omega, by go_num, hB7.out⟩
              case measure => simp [intOf]; omega
            · have hq17 : q = 17 := by omega
              clear hlq2
              have hC8' := Lib.hid (hC8.out.below hBr hC8.out.lt)
              have hJ8' := Lib.hid (hJ8W.out.later hBr)
              have hBt := Lib.hid ((hB.out.trans (hb0W.out.mono hB.out.size)).trans (hBr.mono (Nat.le_trans hB.out.size hb0W.out.size)))
              obtain ⟨Q1, rfl⟩ : ∃ X, X = wr := ⟨_, rfl⟩
              subst hq17
              clear hBr hE' hC8 hJ8W hS hb0W hCl hzl hjl hltG hzn' hB
              go_wp2_with fail
              -- a String with marks, printed
              refine (nmStr_any ⟨#[0, 31, 127, 47, 34, 92, 8, 12, 10, 13, 9]⟩ Q1).mono ?_
              rintro e q2 ⟨vn, vl, rfl, hO, hb⟩
              obtain ⟨An, nn, cn, Al, nl, cl, rfl, rfl⟩ := hO.forms
              have hpr := jsnPrint_any ⟨5, marksS, [], []⟩ _ q2 _ _ ((hE.out.below hBt.out).below hb).1 (OwnJ.jv _ hO) (by rw [jbulk_eq]; decide +kernel)
              rw [marks_print] at hpr
              have hpr : Calls Tryz.prog 18 #[.agg #[.int .u8 5, .string ⟨#[0, 31, 127, 47, 34, 92, 8, 12, 10, 13, 9]⟩, .slice An nn cn, .slice Al nl cl]] q2 fun e w' => e = .returned (.tuple #[.string ⟨#[34, 92, 117, 48, 48, 48, 48, 92, 117, 48, 48, 49, 102, 127, 47, 92, 34, 92, 92, 92, 98, 92, 102, 92, 110, 92, 114, 92, 116, 34]⟩, .int .i64 0]) ∧ Below q2.heap.size q2 w' := hpr
              replace hpr := Lib.hid hpr
              replace hC8' := Lib.hid (hC8'.out.below hb hC8'.out.lt)
              replace hBt := Lib.hid (hBt.out.trans (hb.mono hBt.out.size))
              clear hO hb
              go_wp2_with fail
              refine hpr.out.mono ?_
              rintro e q3 ⟨rfl, hb⟩
              replace hC8' := Lib.hid (hC8'.out.below hb hC8'.out.lt)
              replace hBt := Lib.hid (hBt.out.trans (hb.mono hBt.out.size))
              clear hb hpr
              go_wp2_with fail
              -- the example
              refine (example_any q3).mono ?_
              rintro e q4 ⟨vn, vl, rfl, hO, hb⟩
              obtain ⟨eA, ea, eb, eB, ec, ed, rfl, rfl⟩ := hO.forms
              obtain ⟨q5, hq5⟩ : ∃ X, q4.alloc (.cells #[.int .u8 exJ.kind, .string exJ.text, .slice eA ea eb, .slice eB ec ed] 25) = X := ⟨_, rfl⟩
              have hb2 : Below q4.heap.size q4 q5 := by rw [← hq5]; exact (Below.refl _ _).alloc (Nat.le_refl _) _
              have hC15 : Cel q5 q4.heap.size 25 #[.int .u8 exJ.kind, .string exJ.text, .slice eA ea eb, .slice eB ec ed] := by rw [← hq5]; exact Cel.fresh _ _ _
              have hbb := hb.trans (hb2.mono hb.size)
              have hJ15 := (OwnJ.jv _ hO).later hb2
              have hz4 : q4.heap.size < q5.heap.size := hC15.lt
              replace hC8' := Lib.hid (hC8'.out.below hbb hC8'.out.lt)
              replace hBt := Lib.hid (hBt.out.trans (hbb.mono hBt.out.size))
              have hl4 := Lib.hid hC8'.out.lt
              have hw5 := Lib.hid hBt.out.size
              obtain ⟨c0, c1, c2, c3⟩ := cel4' hC15
              replace hC15 := Lib.hid hC15
              replace hJ15 := Lib.hid hJ15
              replace hq5 := Lib.hid hq5
              have hz4' := Lib.hid hz4
              clear hO hb hb2 hbb hz4
              go_upto_region 26 with fail
              rw [hq5.out]
              clear hq5
              go_wp2_with fail
              refine (jsnGet_any exJ _ q5 _ _ ⟨#[97]⟩ hJ15.out (by have := ex_bulk; omega)).mono ?_
              rintro e q6 ⟨vn, vl, he, hO, hb⟩
              rw [get_exA] at he hO
              dsimp only [Option.getD_some, Option.isSome_some] at he hO
              obtain ⟨gA, ga, gb, gB, gc, gd, rfl, rfl⟩ := hO.forms
              subst he
              obtain ⟨q7, hq7⟩ : ∃ X, q6.alloc (.cells #[.int .u8 exA.kind, .string exA.text, .slice gA ga gb, .slice gB gc gd] 25) = X := ⟨_, rfl⟩
              have hb2 : Below q6.heap.size q6 q7 := by rw [← hq7]; exact (Below.refl _ _).alloc (Nat.le_refl _) _
              have hC16 : Cel q7 q6.heap.size 25 #[.int .u8 exA.kind, .string exA.text, .slice gA ga gb, .slice gB gc gd] := by rw [← hq7]; exact Cel.fresh _ _ _
              have hO7 : OwnJ q7 9 25 exA q5.heap.size q6.heap.size (.slice gA ga gb) (.slice gB gc gd) := OwnJ.keep (w' := q7) _ hO (fun k _ hk => hb2.block k hk) (Nat.le_refl _) (Nat.le_refl _)
              have hsp := spoil_any exA _ _ q7 _ _ hO7 hb.size hb2.size (by have := exA_bulk; omega)
              have hbb := hb.trans (hb2.mono hb.size)
              replace hC15 := Lib.hid (hC15.out.below hbb hC15.out.lt)
              replace hJ15 := Lib.hid (hJ15.out.later hbb)
              replace hC8' := Lib.hid (hC8'.out.below hbb hC8'.out.lt)
              replace hBt := Lib.hid (hBt.out.trans (hbb.mono hBt.out.size))
              obtain ⟨m0, m1, m2, m3⟩ := cel4' hC16
              have hl5 : q5.heap.size ≤ q7.heap.size := hbb.size
              replace hsp := Lib.hid hsp
              replace hq7 := Lib.hid hq7
              replace hl5 := Lib.hid hl5
              clear hO hb hb2 hbb hC16 hO7 c0 c1 c2 c3
              go_upto_region 27 with fail
              rw [hq7.out]
              clear hq7
              go_wp2_with fail
              refine hsp.out.mono ?_
              rintro e q8 ⟨rfl, hb8, _⟩
              have hx8 : q4.heap.size < q5.heap.size := hz4'.out
              have hC15b := Lib.hid (hC15.out.below hb8 hx8)
              have hJ15b := Lib.hid (hJ15.out.below hb8 (fun b hb _ => by have := hb.2; omega))
              replace hC8' := Lib.hid (hC8'.out.below hb8 hl4.out)
              replace hBt := Lib.hid (hBt.out.trans (hb8.mono hw5.out))
              clear hC15 hJ15 hb8 hsp hx8 hl5 hl4 hw5 hz4' m0 m1 m2 m3
              go_upto_region 28 with fail
              obtain ⟨dj, hd1, hd2⟩ := nmDesc
              replace hd1 := Lib.hid hd1
              replace hd2 := Lib.hid hd2
              refine wp_region_held_drew (S := fun W => Below q8.heap.size q8 W) (by kernel_rfl) (bel_drew (Below.refl _ _)) (fun hS0 => ?_)
              refine hTake (i := 0) (v := .agg #[.int .u8 exJ.kind, .string exJ.text, .slice eA ea eb, .slice eB ec ed]) rfl (by kernel_rfl) (by kernel_rfl) (by kernel_rfl) (fun _ _ _ h => h) (yieldsIf_load_mid (by rfl) 25 (.tmp 15) rfl q4.heap.size 0 (by rfl) [.int .u8 exJ.kind, .string exJ.text, .slice eA ea eb, .slice eB ec ed] dj (fun W hW => (hC15b.out.below hW hC15b.out.lt).rng) hd1.out hd2.out nmInfo) hS0 ?_
              try simp only [Act.put, List.setIfInBounds_toArray, List.set_cons_zero, List.set_cons_succ]
              refine hOne (i := 1) (by kernel_rfl) rfl (fun K hK => ?_)
              go_simp
              refine (example_any _).mono ?_
              rintro e v1 ⟨vn, vl, rfl, hO, hb⟩
              obtain ⟨fA, fa, fb, fB, fc, fd, rfl, rfl⟩ := hO.forms
              have hS1 : Below q8.heap.size q8 v1 := hS0.trans (hb.mono hS0.size)
              refine hK.out _ _ hS1 ?_
              clear hK hb
              try simp only [Act.put, List.setIfInBounds_toArray, List.set_cons_zero, List.set_cons_succ]
              refine hOne (i := 2) (by kernel_rfl) rfl (fun K hK => ?_)
              go_simp
              have hsm := refSameJ_any exJ exJ _ _ v1 _ _ _ _ (hJ15b.out.later hS1) (OwnJ.jv _ hO) (by have := ex_bulk; omega) (by have := ex_bulk; omega)
              rw [jsame_refl] at hsm
              refine hsm.mono ?_
              rintro e v2 ⟨rfl, hb⟩
              have hS2 : Below q8.heap.size q8 v2 := hS1.trans (hb.mono hS1.size)
              refine hK.out _ _ hS2 ?_
              clear hK hb hsm hO
              try simp only [Act.put, List.setIfInBounds_toArray, List.set_cons_zero, List.set_cons_succ]
              refine hTake (i := 3) (v := .bool false) rfl (by kernel_rfl) (by kernel_rfl) (by kernel_rfl) (fun _ _ _ h => h) (Or.inl ⟨by rfl, by
                intro w' hSw
                go_simp⟩) hS2 ?_
              try simp only [Act.put, List.setIfInBounds_toArray, List.set_cons_zero, List.set_cons_succ]
              refine wpAnyH_done (by kernel_rfl) ?_ _
              replace hC8' := Lib.hid (hC8'.out.below hS2 hC8'.out.lt)
              replace hBt := Lib.hid (hBt.out.trans (hS2.mono hBt.out.size))
              clear hS0 hS1 hS2 hC15b hJ15b hd1 hd2
              go_wp2_with fail
              -- what the example has at a
              refine (example_any v2).mono ?_
              rintro e r1 ⟨vn, vl, rfl, hO, hb⟩
              obtain ⟨iA, ia, ib, iB, ic, id', rfl, rfl⟩ := hO.forms
              have hget := jsnGet_any exJ _ r1 _ _ ⟨#[97]⟩ (OwnJ.jv _ hO) (by have := ex_bulk; omega)
              replace hC8' := Lib.hid (hC8'.out.below hb hC8'.out.lt)
              replace hBt := Lib.hid (hBt.out.trans (hb.mono hBt.out.size))
              replace hget := Lib.hid hget
              clear hO hb
              go_wp2_with fail
              refine hget.out.mono ?_
              rintro e r2 ⟨vn, vl, he, hO, hb⟩
              rw [get_exA] at he hO
              dsimp only [Option.getD_some, Option.isSome_some] at he hO
              obtain ⟨nA, na, nb, nB, nc, nd, rfl, rfl⟩ := hO.forms
              have hlen2 : nc = 2 := by
                have h1 := OwnJ.jv _ hO
                unfold exA at h1
                obtain ⟨A', c', zs', e', hz', _, _⟩ := h1.elems
                injection e' with _ e2 _
                rw [e2]
                have := congrArg List.length hz'
                simpa using this
              subst hlen2
              subst he
              obtain ⟨r3, hr3⟩ : ∃ X, r2.alloc (.cells #[.int .u8 exA.kind, .string exA.text, .slice nA na nb, .slice nB 2 nd] 25) = X := ⟨_, rfl⟩
              have hb2 : Below r2.heap.size r2 r3 := by rw [← hr3]; exact (Below.refl _ _).alloc (Nat.le_refl _) _
              have hC18 : Cel r3 r2.heap.size 25 #[.int .u8 exA.kind, .string exA.text, .slice nA na nb, .slice nB 2 nd] := by rw [← hr3]; exact Cel.fresh _ _ _
              have hbb := hb.trans (hb2.mono hb.size)
              replace hC8' := Lib.hid (hC8'.out.below hbb hC8'.out.lt)
              replace hBt := Lib.hid (hBt.out.trans (hbb.mono hBt.out.size))
              replace hC18 := Lib.hid hC18
              replace hr3 := Lib.hid hr3
              clear hO hb hb2 hbb hget
              go_upto_region 31 with fail
              rw [hr3.out]
              clear hr3
              go_wp2_with fail
              -- nothing at b
              refine (example_any r3).mono ?_
              rintro e r4 ⟨vn, vl, rfl, hO, hb⟩
              obtain ⟨iA, ia, ib, iB, ic, id', rfl, rfl⟩ := hO.forms
              have hget := jsnGet_any exJ _ r4 _ _ ⟨#[98]⟩ (OwnJ.jv _ hO) (by have := ex_bulk; omega)
              replace hC8' := Lib.hid (hC8'.out.below hb hC8'.out.lt)
              replace hC18 := Lib.hid (hC18.out.below hb hC18.out.lt)
              replace hBt := Lib.hid (hBt.out.trans (hb.mono hBt.out.size))
              replace hget := Lib.hid hget
              clear hO hb
              go_wp2_with fail
              refine hget.out.mono ?_
              rintro e r5 ⟨vn, vl, he, hO, hb⟩
              rw [get_exB] at he hO
              dsimp only [Option.getD_none, Option.isSome_none] at he hO
              obtain ⟨oA, oa, ob, oB, oc, od, rfl, rfl⟩ := hO.forms
              subst he
              obtain ⟨r6, hr6⟩ : ∃ X, r5.alloc (.cells #[.int .u8 zeroJ.kind, .string zeroJ.text, .slice oA oa ob, .slice oB oc od] 25) = X := ⟨_, rfl⟩
              have hb2 : Below r5.heap.size r5 r6 := by rw [← hr6]; exact (Below.refl _ _).alloc (Nat.le_refl _) _
              have hbb := hb.trans (hb2.mono hb.size)
              replace hC8' := Lib.hid (hC8'.out.below hbb hC8'.out.lt)
              replace hC18 := Lib.hid (hC18.out.below hbb hC18.out.lt)
              replace hBt := Lib.hid (hBt.out.trans (hbb.mono hBt.out.size))
              replace hr6 := Lib.hid hr6
              clear hO hb hb2 hbb hget
              go_upto_region 32 with fail
              rw [hr6.out]
              clear hr6
              go_wp2_with fail
              -- nothing in an Array
              refine (example_any r6).mono ?_
              rintro e r7 ⟨vn, vl, rfl, hO, hb⟩
              obtain ⟨iA, ia, ib, iB, ic, id', rfl, rfl⟩ := hO.forms
              obtain ⟨r8, hr8⟩ : ∃ X, r7.alloc (.cells #[.int .u8 exJ.kind, .string exJ.text, .slice iA ia ib, .slice iB ic id'] 25) = X := ⟨_, rfl⟩
              have hb2 : Below r7.heap.size r7 r8 := by rw [← hr8]; exact (Below.refl _ _).alloc (Nat.le_refl _) _
              have hCx : Cel r8 r7.heap.size 25 #[.int .u8 exJ.kind, .string exJ.text, .slice iA ia ib, .slice iB ic id'] := by rw [← hr8]; exact Cel.fresh _ _ _
              have hJx : JV r8 (fun _ => True) ⟨6, ⟨#[]⟩, [], [exJ]⟩ (.slice none 0 0) (.slice (some ⟨r7.heap.size, 0, none⟩) 1 1) := by
                refine JV.of_elems (zs := [(exJ, .slice iA ia ib, .slice iB ic id')]) (by omega) (by omega) ⟨none, 0, rfl, fun h => by simp at h⟩ rfl (fun z hz => by simp at hz; subst hz; exact ((OwnJ.jv _ hO).later hb2).more fun _ _ _ => trivial) (fun _ => ⟨r7.heap.size, 0, rfl, trivial, hCx.lt, fun j z hj i u hu => ?_⟩)
                cases j with
                | zero =>
                  simp at hj
                  subst hj
                  simp only [Nat.zero_mul, Nat.zero_add]
                  rw [hCx.cell]
                  simpa [encJ] using hu
                | succ j => simp at hj
              have hbb := hb.trans (hb2.mono hb.size)
              have hls := Lib.hid (nmList_any (some ⟨r7.heap.size, 0, none⟩) 1 1 r8)
              replace hC8' := Lib.hid (hC8'.out.below hbb hC8'.out.lt)
              replace hC18 := Lib.hid (hC18.out.below hbb hC18.out.lt)
              replace hBt := Lib.hid (hBt.out.trans (hbb.mono hBt.out.size))
              replace hr8 := Lib.hid hr8
              replace hJx := Lib.hid hJx
              clear hO hb hb2 hbb hCx
              go_wp2_with fail
              rw [hr8.out]
              clear hr8
              refine hls.out.mono ?_
              rintro e r9 ⟨rfl, hb⟩
              have hget := jsnGet_any ⟨6, ⟨#[]⟩, [], [exJ]⟩ _ r9 _ _ ⟨#[97]⟩ (hJx.out.later hb) (by rw [jbulk_eq]; unfold jbulks; have := ex_bulk; have h4 : (⟨#[]⟩ : ByteArray).size = 0 := rfl; simp [h4]; omega)
              dsimp only at hget
              replace hC8' := Lib.hid (hC8'.out.below hb hC8'.out.lt)
              replace hC18 := Lib.hid (hC18.out.below hb hC18.out.lt)
              replace hBt := Lib.hid (hBt.out.trans (hb.mono hBt.out.size))
              replace hget := Lib.hid hget
              clear hb hls hJx
              go_wp2_with fail
              refine hget.out.mono ?_
              rintro e s1' ⟨vn, vl, he, hO, hb⟩
              rw [get_exL] at he hO
              dsimp only [Option.getD_none, Option.isSome_none] at he hO
              obtain ⟨oA, oa, ob, oB, oc, od, rfl, rfl⟩ := hO.forms
              subst he
              obtain ⟨s2', hs2'⟩ : ∃ X, s1'.alloc (.cells #[.int .u8 zeroJ.kind, .string zeroJ.text, .slice oA oa ob, .slice oB oc od] 25) = X := ⟨_, rfl⟩
              have hb2 : Below s1'.heap.size s1' s2' := by rw [← hs2']; exact (Below.refl _ _).alloc (Nat.le_refl _) _
              have hbb := hb.trans (hb2.mono hb.size)
              have hCf := hC8'.out.below hbb hC8'.out.lt
              have hDf := hC18.out.below hbb hC18.out.lt
              replace hBt := Lib.hid (hBt.out.trans (hbb.mono hBt.out.size))
              have hchk := jsnCheck_any ⟨5, s8, [], []⟩ _ s2' (.slice Bn bn bc) (.slice Bl bl bd) (hE.out.below hBt.out).1 (jv_flat hJ8'.out s2' (fun _ => True)) (by rw [← hs8.out]; exact jv3_bulk)
              rw [show jcheck ownL Lib.validD ⟨5, s8, [], []⟩ = 0 by rw [← hs8.out]; exact check_long] at hchk
              dsimp only at hchk
              obtain ⟨k0, k1, k2, k3⟩ := cel4' hCf
              have l3 : s2'.cell? ⟨r2.heap.size, 3, none⟩ = some (.slice nB 2 nd) := hDf.cell 3
              replace hchk := Lib.hid hchk
              replace hs2' := Lib.hid hs2'
              clear hO hb hb2 hbb hget hCf hDf hC8' hC18 hJ8'
              go_upto_region 33 with fail
              rw [hs2'.out]
              clear hs2'
              go_wp2_with fail
              refine hchk.out.mono ?_
              rintro e s3' ⟨rfl, hb⟩
              have hfin := Lib.hid (hBt.out.trans (hb.mono hBt.out.size))
              clear hb hchk hBt
              go_wp2_with fail
              exact bodyPost_ret (v := .bool true) (by simp [results, Tryz.results4, go_sem]) rfl ⟨rfl, hfin.out⟩
end Go.Proofs.YtlnkjacbdolhnaaGreatDoor