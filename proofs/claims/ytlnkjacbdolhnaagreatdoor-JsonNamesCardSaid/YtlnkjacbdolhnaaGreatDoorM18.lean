/-
  The walks of utf.Put, utf.Pair, and of what reads escapes.
-/
import Derived.Test.YtlnkjacbdolhnaaGreatDoorM17
import Derived.Test.YtlnkjacbdolhnaaGreatDoorJsQ
import Derived.Lib.SlBytesRow
import Derived.Lib.AppendStr
import Derived.Test.YtlnkjacbdolhnaaGreatDoorM00
namespace Go.Proofs.YtlnkjacbdolhnaaGreatDoor
open Go.RowKit

theorem utfPut_any (p : Int) (h0 : 0 ≤ p) (h1 : p < 2000000) (w : World) : Calls Tryz.prog 176 #[.int .i64 p] w fun e w' => e = .returned (.string (ofL (rput p))) ∧ w' = w := by
  have n0 : ¬ p < 0 := by omega
  by_cases hb : 1114111 < p
  · rw [rput_bad (.inr (.inl hb))]
    go_enter Tryz.func176, Tryz.ntmps176
    go_wp2
    go_ret
    exact ⟨rfl, rfl⟩
  by_cases hs : 55296 ≤ p
  · by_cases hs2 : p < 57344
    · rw [rput_bad (.inr (.inr ⟨hs, by omega⟩))]
      go_enter Tryz.func176, Tryz.ntmps176
      go_wp2
      go_ret
      exact ⟨rfl, rfl⟩
    · rw [← encode_put h0 (by omega) (by omega)]
      have hw : wrap32 p = p := by unfold wrap32; omega
      go_enter Tryz.func176, Tryz.ntmps176
      go_wp2
      go_ret
      exact ⟨rfl, rfl⟩
  · rw [← encode_put h0 (by omega) (by omega)]
    have hw : wrap32 p = p := by unfold wrap32; omega
    go_enter Tryz.func176, Tryz.ntmps176
    go_wp2
    go_ret
    exact ⟨rfl, rfl⟩
/-- The code point of two units, as it is handed back. -/
def pairV (a b : Nat) : Value := match jpair a b with
  | none => .tuple #[.int .i64 0, .bool false]
  | some p => .tuple #[.int .i64 (p : Int), .bool true]
theorem utfPair_any (a b : Nat) (ha : a < 65536) (hb : b < 65536) (w : World) : Calls Tryz.prog 177 #[.int .i64 a, .int .i64 b] w fun e w' => e = .returned (pairV a b) ∧ w' = w := by
  unfold pairV jpair
  obtain ⟨x, hx⟩ : ∃ x : Int, (a : Int) = x := ⟨_, rfl⟩
  obtain ⟨y, hy⟩ : ∃ y : Int, (b : Int) = y := ⟨_, rfl⟩
  by_cases c1 : a < 55296
  · rw [if_neg (by omega)]
    rw [hx, hy]
    have d1 : x < 55296 := by omega
    clear hx hy c1 ha hb
    go_enter Tryz.func177, Tryz.ntmps177
    go_wp2
    go_ret2
    exact ⟨rfl, rfl⟩
  by_cases c2 : 56320 ≤ a
  · rw [if_neg (by omega)]
    rw [hx, hy]
    have d1 : ¬ x < 55296 := by omega
    have d2 : 56320 ≤ x := by omega
    clear hx hy c1 c2 ha hb
    go_enter Tryz.func177, Tryz.ntmps177
    go_wp2
    go_ret2
    exact ⟨rfl, rfl⟩
  by_cases c3 : b < 56320
  · rw [if_neg (by omega)]
    rw [hx, hy]
    have d1 : ¬ x < 55296 := by omega
    have d2 : ¬ 56320 ≤ x := by omega
    have d3 : y < 56320 := by omega
    clear hx hy c1 c2 c3 ha hb
    go_enter Tryz.func177, Tryz.ntmps177
    go_wp2
    go_ret2
    exact ⟨rfl, rfl⟩
  by_cases c4 : 57344 ≤ b
  · rw [if_neg (by omega)]
    rw [hx, hy]
    have d1 : ¬ x < 55296 := by omega
    have d2 : ¬ 56320 ≤ x := by omega
    have d3 : ¬ y < 56320 := by omega
    have d4 : 57344 ≤ y := by omega
    clear hx hy c1 c2 c3 c4 ha hb
    go_enter Tryz.func177, Tryz.ntmps177
    go_wp2
    go_ret2
    exact ⟨rfl, rfl⟩
  rw [if_pos (by omega)]
  dsimp only
  obtain ⟨z, hz⟩ : ∃ z : Int, ((65536 + (a - 55296) * 1024 + (b - 56320) : Nat) : Int) = z := ⟨_, rfl⟩
  rw [hz, hx, hy]
  have d1 : ¬ x < 55296 := by omega
  have d2 : ¬ 56320 ≤ x := by omega
  have d3 : ¬ y < 56320 := by omega
  have d4 : ¬ 57344 ≤ y := by omega
  have d5 : z = 65536 + (x - 55296) * 1024 + (y - 56320) := by omega
  have d6 : x < 65536 := by omega
  have d7 : y < 65536 := by omega
  clear hx hy hz c1 c2 c3 c4 ha hb
  replace d5 := Lib.hid d5
  go_enter Tryz.func177, Tryz.ntmps177
  go_wp2
  go_ret2
  refine ⟨?_, rfl⟩
  rw [d5.out]
  go_num
end Go.Proofs.YtlnkjacbdolhnaaGreatDoor


/-
  The walk of the document's digit.
-/
namespace Go.Proofs.YtlnkjacbdolhnaaGreatDoor
open Go.RowKit

end Go.Proofs.YtlnkjacbdolhnaaGreatDoor


/-
  The walk of the document's Quote over a String's bytes.
-/
namespace Go.Proofs.YtlnkjacbdolhnaaGreatDoor
open Go.RowKit

theorem infoB : (Tryz.prog.info? 5).map (fun i => (i.zero, i.size, i.bytes)) = some (some (.int .u8 0), 1, 1) := by kernel_rfl
/-- A row of bytes of the call's own. -/
def RowB (w : World) (B : Nat) (v : Value) (l : List UInt8) : Prop := w.ownsRow B 5 1 v l.length (l.map fun b => Value.int .u8 b.toNat)
theorem RowB.snoc {w : World} {B : Nat} {v : Value} {l : List UInt8} {t : ByteArray} (h : w.ownsRow B 5 1 v (l.length + t.size) ((l.map fun b => Value.int .u8 b.toNat) ++ Lib.strCells t)) : RowB w B v (l ++ t.data.toList) := by
  unfold RowB
  rw [List.length_append, List.map_append]
  exact h
theorem RowB.one {w : World} (u : UInt8) : RowB (w.alloc (.cells #[.int .u8 u.toNat] 5)) w.heap.size (.slice (some ⟨w.heap.size, 0, none⟩) 1 1) [u] :=
  ⟨rfl, Or.inr ⟨w.heap.size, 1, #[.int .u8 u.toNat], rfl, Nat.le_refl _, Cel.fresh w 5 #[.int .u8 u.toNat], Nat.le_refl _, by unfold maxLen; omega, rfl, rfl⟩⟩
/-- What is held behind q bytes. -/
def qHeld (s : List UInt8) (q : Nat) : List UInt8 := 34 :: (s.take q).flatMap jesc
theorem qHeld_step {s : List UInt8} {q : Nat} {c : UInt8} (h : s[q]? = some c) : qHeld s (q + 1) = qHeld s q ++ jesc c := by
  unfold qHeld
  rw [List.take_add_one, h]
  simp
theorem jesc_len (c : UInt8) : (jesc c).length ≤ 6 := by
  unfold jesc
  repeat' split
  all_goals simp
theorem qHeld_len (s : List UInt8) (q : Nat) : (qHeld s q).length ≤ 6 * s.length + 1 := by
  have : ∀ l : List UInt8, (l.flatMap jesc).length ≤ 6 * l.length := fun l => by
    induction l with
    | nil => simp
    | cons x r ih => have := jesc_len x; rw [List.flatMap_cons, List.length_append, List.length_cons]; omega
  have h1 := this (s.take q)
  have h2 : (s.take q).length ≤ s.length := by rw [List.length_take]; omega
  unfold qHeld
  simp only [List.length_cons]
  omega

/-- A character as it stands in a String's text, by its number. -/
def jescI (b : Int) : List UInt8 :=
  if b = 34 then [92, 34] else if b = 92 then [92, 92] else if b = 8 then [92, 98] else if b = 12 then [92, 102] else if b = 10 then [92, 110] else if b = 13 then [92, 114] else if b = 9 then [92, 116] else if b < 32 then [92, 117, 48, 48, jhex (b.toNat / 16), jhex (b.toNat % 16)] else [UInt8.ofNat b.toNat]
theorem jesc_num (c : UInt8) (b : Int) (h : (c.toNat : Int) = b) : jesc c = jescI b := by
  have e : ∀ (k : UInt8) (m : Int), (k.toNat : Int) = m → ((c = k) ↔ (b = m)) := fun k m hk => by
    rw [← h, ← hk]
    constructor
    · rintro rfl; rfl
    · intro hh; exact UInt8.toNat_inj.1 (by omega)
  have hn : b.toNat = c.toNat := by omega
  have hl : (c.toNat < 32) = (b < 32) := propext (by omega)
  have hc : UInt8.ofNat c.toNat = c := by simp
  unfold jesc jescI
  simp only [e 34 34 rfl, e 92 92 rfl, e 8 8 rfl, e 12 12 rfl, e 10 10 rfl, e 13 13 rfl, e 9 9 rfl, hn, hl, hc]
theorem row_convert {w : World} {B : Nat} {v : Value} {l : List UInt8} (h : RowB w B v l) (hne : l ≠ []) :
    (convert 84 9 v).run Tryz.prog w = .ok (.string ⟨l.toArray⟩) w := by
  obtain ⟨hlen, h | ⟨g, cap, cur, rfl, hg, hh, hnc, hcm, hcs, htk⟩⟩ := h
  · exact absurd (List.eq_nil_of_length_eq_zero h.2) hne
  · have hs : (⟨l.toArray⟩ : ByteArray).size = l.length := by simp [ByteArray.size]
    have hb : Lib.Bytes w g 0 ⟨l.toArray⟩ := by
      intro i hi
      have hi' : i < l.length := by omega
      have e : (⟨l.toArray⟩ : ByteArray)[i] = l[i] := rfl
      have h1 : (cur.toList.take (l.length * 1))[i]? = some (.int .u8 (l[i].toNat : Int)) := by
        rw [htk, List.getElem?_map, List.getElem?_eq_getElem hi']; rfl
      rw [List.getElem?_take, if_pos (by omega), Array.getElem?_toList] at h1
      rw [e, Nat.zero_add]
      unfold World.cell?
      simp only [hh]
      exact h1
    have := Lib.run_convert_whole (P := Tryz.prog) w 84 5 9 Tryz.underlying84 Tryz.underlying5 Tryz.underlying9 g 0 ⟨l.toArray⟩ hb cap
    rw [hs] at this
    exact this
theorem RowB.snoc1 {w : World} {B : Nat} {v : Value} {l : List UInt8} {u : UInt8} {b : Int} (hb : b = (u.toNat : Int)) (h : w.ownsRow B 5 1 v (l.length + 1) ((l.map fun b => Value.int .u8 b.toNat) ++ [.int .u8 b])) : RowB w B v (l ++ [u]) := by
  subst hb
  unfold RowB
  rw [List.length_append, List.map_append]
  exact h
theorem RowB.below {w w' : World} {B : Nat} {v : Value} {l : List UInt8} (h : RowB w B v l) (hb : Below w.heap.size w w') : RowB w' B v l :=
  World.ownsRow.kept (row := none) h ⟨hb.os, hb.tape, hb.output, hb.size, fun k hk _ => hb.block k hk⟩ (by rcases v.ownBlock with _ | g <;> simp)
theorem cell_one (w : World) (x : Value) (t : TypeId) : ∀ (j : Nat) (u : Value), [x][j]? = some u → (w.alloc (.cells #[x] t)).cell? ((⟨w.heap.size, 0, none⟩ : Addr).add j) = some u := by
  intro j u h
  match j, h with
  | 0, h =>
    simp at h; subst h
    exact (World.cell?_alloc_at (w := w) #[x] t w.heap.size 0 rfl).trans rfl
end Go.Proofs.YtlnkjacbdolhnaaGreatDoor


/-
  The walk of the document's text of a value that may be.
-/
namespace Go.Proofs.YtlnkjacbdolhnaaGreatDoor
open Go.RowKit

theorem jitems_snoc (x : List UInt8) : ∀ (xs : List (List UInt8)) (f : Bool), jitems f (xs ++ [x]) = jitems f xs ++ ((if f = true ∧ xs = [] then [] else [44]) ++ x)
  | [], f => by cases f <;> simp [jitems]
  | y :: r, f => by
    rw [List.cons_append, jitems, jitems, jitems_snoc x r false]
    simp
theorem jpairs_snoc (x : List UInt8) : ∀ (xs : List (List UInt8)) (n : List ByteArray) (f : Bool), jpairs f n (xs ++ [x]) = jpairs f n xs ++ ((if f = true ∧ xs = [] then [] else [44]) ++ (jquote (n.getD xs.length ByteArray.empty).data.toList ++ 58 :: x))
  | [], n, f => by cases f <;> cases n <;> simp [jpairs]
  | y :: r, n, f => by
    have e : (n.tail.getD r.length ByteArray.empty) = n.getD (y :: r).length ByteArray.empty := by
      cases n <;> simp
    rw [List.cons_append, jpairs, jpairs, jpairs_snoc x r n.tail false, e]
    simp
theorem jquote_len (s : List UInt8) : (jquote s).length ≤ 6 * s.length + 2 := by
  have : ∀ l : List UInt8, (l.flatMap jesc).length ≤ 6 * l.length := fun l => by
    induction l with
    | nil => simp
    | cons x r ih => have := jesc_len x; rw [List.flatMap_cons, List.length_append, List.length_cons]; omega
  have := this s
  unfold jquote
  simp only [List.length_cons, List.length_append, List.length_nil]
  omega
theorem jitems_len (c : Nat) : ∀ (l : List Jsn) (f : Bool), (∀ x ∈ l, (jtext x).length + 1 ≤ 10 * jbulk x) → (jitems f (l.map jtext)).length ≤ 10 * jbulks l
  | [], _, _ => by simp [jitems]
  | x :: r, f, h => by
    have h1 := jitems_len c r false (fun y hy => h y (by simp [hy]))
    have h2 := h x (by simp)
    have h3 : jbulks (x :: r) = jbulk x + jbulks r := by simp [jbulks]
    rw [List.map_cons, jitems, List.length_append, List.length_append, h3]
    cases f <;> simp <;> omega
def nbulk (n : List ByteArray) : Nat := (n.map fun b => b.size + 1).sum
theorem jpairs_len (c : Nat) : ∀ (l : List Jsn) (n : List ByteArray) (f : Bool), l.length ≤ n.length → (∀ x ∈ l, (jtext x).length + 1 ≤ 10 * jbulk x) → (jpairs f n (l.map jtext)).length ≤ 10 * (nbulk n + jbulks l)
  | [], n, _, _, _ => by cases n <;> simp [jpairs]
  | x :: r, [], f, hn, h => by simp at hn
  | x :: r, m :: n, f, hn, h => by
    have h1 := jpairs_len c r n false (by simpa using hn) (fun y hy => h y (by simp [hy]))
    have h2 := h x (by simp)
    have h3 : jbulks (x :: r) = jbulk x + jbulks r := by simp [jbulks]
    have h4 : nbulk (m :: n) = m.size + 1 + nbulk n := by simp [nbulk]
    have h5 := jquote_len m.data.toList
    rw [bytes_len] at h5
    rw [List.map_cons, jpairs, h3, h4]
    simp only [List.headD_cons, List.tail_cons, List.length_append, List.length_cons]
    cases f <;> simp <;> omega
/-- A text is not longer than ten times its value's bulk. -/
theorem jtext_len (Own : List UInt8 → List UInt8 × Int) (Val : List UInt8 → Bool) : ∀ (j : Jsn), jform Own Val j = true → (jtext j).length + 1 ≤ 10 * jbulk j := by
  refine Jsn.ind fun k s n l ih hg => ?_
  rw [jtext_eq, jbulk_eq]
  have hs := bytes_len s
  unfold jtext1
  by_cases h1 : k = 1
  · rw [if_pos h1]; simp; omega
  rw [if_neg h1]
  by_cases h2 : k = 2
  · rw [if_pos h2]; simp; omega
  rw [if_neg h2]
  by_cases h3 : k = 3
  · rw [if_pos h3]; simp; omega
  rw [if_neg h3]
  by_cases h4 : k = 4
  · rw [if_pos h4, hs]; omega
  rw [if_neg h4]
  by_cases h5 : k = 5
  · rw [if_pos h5]
    have := jquote_len s.data.toList
    omega
  rw [if_neg h5]
  by_cases h7 : k = 7
  · subst h7
    rw [jf_obj] at hg
    simp only [Bool.and_eq_true, decide_eq_true_eq, List.all_eq_true] at hg
    obtain ⟨⟨⟨_, hn⟩, _⟩, ha⟩ := hg
    have := jpairs_len 0 l n true (by omega) (fun x hx => ih x hx (ha x hx))
    rw [if_pos rfl]
    unfold nbulk at this
    simp only [List.length_cons, List.length_append, List.length_nil]
    omega
  rw [if_neg h7]
  by_cases h6 : k = 6
  · subst h6
    rw [jf_arr] at hg
    simp only [Bool.and_eq_true, decide_eq_true_eq, List.all_eq_true] at hg
    obtain ⟨_, ha⟩ := hg
    have := jitems_len 0 l true (fun x hx => ih x hx (ha x hx))
    simp only [List.length_cons, List.length_append, List.length_nil]
    omega
  · rw [jf_else (by rintro (h | h | h) <;> contradiction) h4 h5 h6 h7] at hg
    cases hg
theorem jbulks_app (a b : List Jsn) : jbulks (a ++ b) = jbulks a + jbulks b := by simp [jbulks]
theorem jbulks_take (l : List Jsn) (q : Nat) : jbulks (l.take q) ≤ jbulks l := by
  have := jbulks_app (l.take q) (l.drop q)
  rw [List.take_append_drop] at this; omega
theorem jform_kids {Own Val k s n l} (h : jform Own Val ⟨k, s, n, l⟩ = true) : ∀ x ∈ l, jform Own Val x = true := by
  by_cases h1 : k = 1 ∨ k = 2 ∨ k = 3
  · rw [jf_plain h1] at h
    simp only [Bool.and_eq_true, decide_eq_true_eq] at h
    have : l = [] := List.eq_nil_of_length_eq_zero (by omega)
    subst this; intro x hx; cases hx
  by_cases h4 : k = 4
  · subst h4; rw [jf_num] at h
    simp only [Bool.and_eq_true, decide_eq_true_eq] at h
    have : l = [] := List.eq_nil_of_length_eq_zero (by omega)
    subst this; intro x hx; cases hx
  by_cases h5 : k = 5
  · subst h5; rw [jf_str] at h
    simp only [Bool.and_eq_true, decide_eq_true_eq] at h
    have : l = [] := List.eq_nil_of_length_eq_zero (by omega)
    subst this; intro x hx; cases hx
  by_cases h6 : k = 6
  · subst h6; rw [jf_arr] at h
    simp only [Bool.and_eq_true, decide_eq_true_eq, List.all_eq_true] at h
    exact h.2
  by_cases h7 : k = 7
  · subst h7; rw [jf_obj] at h
    simp only [Bool.and_eq_true, decide_eq_true_eq, List.all_eq_true] at h
    exact h.2
  · rw [jf_else h1 h4 h5 h6 h7] at h; cases h
theorem jform_kinds {Own Val k s n l} (h : jform Own Val ⟨k, s, n, l⟩ = true) : k = 1 ∨ k = 2 ∨ k = 3 ∨ k = 4 ∨ k = 5 ∨ k = 6 ∨ (k = 7 ∧ n.length = l.length) := by
  by_cases h1 : k = 1 ∨ k = 2 ∨ k = 3
  · rcases h1 with h | h | h <;> simp [h]
  by_cases h4 : k = 4
  · simp [h4]
  by_cases h5 : k = 5
  · simp [h5]
  by_cases h6 : k = 6
  · simp [h6]
  by_cases h7 : k = 7
  · subst h7; rw [jf_obj] at h
    simp only [Bool.and_eq_true, decide_eq_true_eq, List.all_eq_true] at h
    have := h.1.1.2
    simp [this]
  · rw [jf_else h1 h4 h5 h6 h7] at h; cases h
/-- The box of the value that the call was handed, behind calls and draws. -/
def Box (w : World) (k : Int) (s : ByteArray) (vn vl : Value) (W : World) : Prop := Cel W w.heap.size 25 #[.int .u8 k, .string s, vn, vl] ∧ Below w.heap.size w W
theorem map_take_snoc {l : List Jsn} {q : Nat} {x : Jsn} (h : l[q]? = some x) : (l.take (q + 1)).map jtext = (l.take q).map jtext ++ [jtext x] := by
  rw [List.take_add_one, h]; simp
theorem take_nil_iff {l : List Jsn} {q : Nat} (hq : q < l.length) : ((l.take q).map jtext = []) ↔ q = 0 := by
  rw [List.map_eq_nil_iff, List.take_eq_nil_iff]
  constructor
  · rintro (h | h)
    · exact h
    · subst h; simp at hq
  · exact .inl
end Go.Proofs.YtlnkjacbdolhnaaGreatDoor
