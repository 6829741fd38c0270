/-
  The walk of the document's text of a value that may be.
-/
import Derived.Test.YtbegdpdldajolaaGreatDoorJsT
import Derived.Test.YtbegdpdldajolaaGreatDoorJsQ
import Derived.Test.YtbegdpdldajolaaGreatDoorPl
namespace Go.Proofs.YtbegdpdldajolaaGreatDoor
open Go.RowKit

theorem jitems_snoc (x : List UInt8) : ∀ (xs : List (List UInt8)) (f : Bool), jitems f (xs ++ [x]) = jitems f xs ++ ((if f = true ∧ xs = [] then [] else [44]) ++ x)
  | [], f => by cases f <;> simp [jitems]
  | y :: r, f => by
    rw [List.cons_append, jitems, jitems, jitems_snoc x r false]
    simp
theorem jpairs_snoc (x : List UInt8) : ∀ (xs : List (List UInt8)) (n : List ByteArray) (f : Bool), jpairs f n (xs ++ [x]) = jpairs f n xs ++ ((if f = true ∧ xs = [] then [] else [44]) ++ (jquote (n.getD xs.length ByteArray.empty).data.toList ++ 58 :: x))
  | [], n, f => by cases f <;> cases n <;> simp [jpairs]
  | y :: r, n, f => by
    have e : (n.tail.getD r.length ByteArray.empty) = n.getD (y :: r).length ByteArray.empty := by
      cases n <;> simp
    rw [List.cons_append, jpairs, jpairs, jpairs_snoc x r n.tail false, e]
    simp
theorem jquote_len (s : List UInt8) : (jquote s).length ≤ 6 * s.length + 2 := by
  have : ∀ l : List UInt8, (l.flatMap jesc).length ≤ 6 * l.length := fun l => by
    induction l with
    | nil => simp
    | cons x r ih => have := jesc_len x; rw [List.flatMap_cons, List.length_append, List.length_cons]; omega
  have := this s
  unfold jquote
  simp only [List.length_cons, List.length_append, List.length_nil]
  omega
theorem jitems_len (c : Nat) : ∀ (l : List Jsn) (f : Bool), (∀ x ∈ l, (jtext x).length + 1 ≤ 10 * jbulk x) → (jitems f (l.map jtext)).length ≤ 10 * jbulks l
  | [], _, _ => by simp [jitems]
  | x :: r, f, h => by
    have h1 := jitems_len c r false (fun y hy => h y (by simp [hy]))
    have h2 := h x (by simp)
    have h3 : jbulks (x :: r) = jbulk x + jbulks r := by simp [jbulks]
    rw [List.map_cons, jitems, List.length_append, List.length_append, h3]
    cases f <;> simp <;> omega
def nbulk (n : List ByteArray) : Nat := (n.map fun b => b.size + 1).sum
theorem jpairs_len (c : Nat) : ∀ (l : List Jsn) (n : List ByteArray) (f : Bool), l.length ≤ n.length → (∀ x ∈ l, (jtext x).length + 1 ≤ 10 * jbulk x) → (jpairs f n (l.map jtext)).length ≤ 10 * (nbulk n + jbulks l)
  | [], n, _, _, _ => by cases n <;> simp [jpairs]
  | x :: r, [], f, hn, h => by simp at hn
  | x :: r, m :: n, f, hn, h => by
    have h1 := jpairs_len c r n false (by simpa using hn) (fun y hy => h y (by simp [hy]))
    have h2 := h x (by simp)
    have h3 : jbulks (x :: r) = jbulk x + jbulks r := by simp [jbulks]
    have h4 : nbulk (m :: n) = m.size + 1 + nbulk n := by simp [nbulk]
    have h5 := jquote_len m.data.toList
    rw [bytes_len] at h5
    rw [List.map_cons, jpairs, h3, h4]
    simp only [List.headD_cons, List.tail_cons, List.length_append, List.length_cons]
    cases f <;> simp <;> omega
/-- A text is not longer than ten times its value's bulk. -/
theorem jtext_len (Own : List UInt8 → List UInt8 × Int) (Val : List UInt8 → Bool) : ∀ (j : Jsn), jform Own Val j = true → (jtext j).length + 1 ≤ 10 * jbulk j := by
  refine Jsn.ind fun k s n l ih hg => ?_
  rw [jtext_eq, jbulk_eq]
  have hs := bytes_len s
  unfold jtext1
  by_cases h1 : k = 1
  · rw [if_pos h1]; simp; omega
  rw [if_neg h1]
  by_cases h2 : k = 2
  · rw [if_pos h2]; simp; omega
  rw [if_neg h2]
  by_cases h3 : k = 3
  · rw [if_pos h3]; simp; omega
  rw [if_neg h3]
  by_cases h4 : k = 4
  · rw [if_pos h4, hs]; omega
  rw [if_neg h4]
  by_cases h5 : k = 5
  · rw [if_pos h5]
    have := jquote_len s.data.toList
    omega
  rw [if_neg h5]
  by_cases h7 : k = 7
  · subst h7
    rw [jf_obj] at hg
    simp only [Bool.and_eq_true, decide_eq_true_eq, List.all_eq_true] at hg
    obtain ⟨⟨⟨_, hn⟩, _⟩, ha⟩ := hg
    have := jpairs_len 0 l n true (by omega) (fun x hx => ih x hx (ha x hx))
    rw [if_pos rfl]
    unfold nbulk at this
    simp only [List.length_cons, List.length_append, List.length_nil]
    omega
  rw [if_neg h7]
  by_cases h6 : k = 6
  · subst h6
    rw [jf_arr] at hg
    simp only [Bool.and_eq_true, decide_eq_true_eq, List.all_eq_true] at hg
    obtain ⟨_, ha⟩ := hg
    have := jitems_len 0 l true (fun x hx => ih x hx (ha x hx))
    simp only [List.length_cons, List.length_append, List.length_nil]
    omega
  · rw [jf_else (by rintro (h | h | h) <;> contradiction) h4 h5 h6 h7] at hg
    cases hg
theorem bytes_ap (a b : ByteArray) : (a ++ b).data.toList = a.data.toList ++ b.data.toList := by rw [ByteArray.data_append, Array.toList_append]
theorem jbulks_app (a b : List Jsn) : jbulks (a ++ b) = jbulks a + jbulks b := by simp [jbulks]
theorem jbulks_take (l : List Jsn) (q : Nat) : jbulks (l.take q) ≤ jbulks l := by
  have := jbulks_app (l.take q) (l.drop q)
  rw [List.take_append_drop] at this; omega
theorem jform_kids {Own Val k s n l} (h : jform Own Val ⟨k, s, n, l⟩ = true) : ∀ x ∈ l, jform Own Val x = true := by
  by_cases h1 : k = 1 ∨ k = 2 ∨ k = 3
  · rw [jf_plain h1] at h
    simp only [Bool.and_eq_true, decide_eq_true_eq] at h
    have : l = [] := List.eq_nil_of_length_eq_zero (by omega)
    subst this; intro x hx; cases hx
  by_cases h4 : k = 4
  · subst h4; rw [jf_num] at h
    simp only [Bool.and_eq_true, decide_eq_true_eq] at h
    have : l = [] := List.eq_nil_of_length_eq_zero (by omega)
    subst this; intro x hx; cases hx
  by_cases h5 : k = 5
  · subst h5; rw [jf_str] at h
    simp only [Bool.and_eq_true, decide_eq_true_eq] at h
    have : l = [] := List.eq_nil_of_length_eq_zero (by omega)
    subst this; intro x hx; cases hx
  by_cases h6 : k = 6
  · subst h6; rw [jf_arr] at h
    simp only [Bool.and_eq_true, decide_eq_true_eq, List.all_eq_true] at h
    exact h.2
  by_cases h7 : k = 7
  · subst h7; rw [jf_obj] at h
    simp only [Bool.and_eq_true, decide_eq_true_eq, List.all_eq_true] at h
    exact h.2
  · rw [jf_else h1 h4 h5 h6 h7] at h; cases h
theorem jform_kinds {Own Val k s n l} (h : jform Own Val ⟨k, s, n, l⟩ = true) : k = 1 ∨ k = 2 ∨ k = 3 ∨ k = 4 ∨ k = 5 ∨ k = 6 ∨ (k = 7 ∧ n.length = l.length) := by
  by_cases h1 : k = 1 ∨ k = 2 ∨ k = 3
  · rcases h1 with h | h | h <;> simp [h]
  by_cases h4 : k = 4
  · simp [h4]
  by_cases h5 : k = 5
  · simp [h5]
  by_cases h6 : k = 6
  · simp [h6]
  by_cases h7 : k = 7
  · subst h7; rw [jf_obj] at h
    simp only [Bool.and_eq_true, decide_eq_true_eq, List.all_eq_true] at h
    have := h.1.1.2
    simp [this]
  · rw [jf_else h1 h4 h5 h6 h7] at h; cases h
/-- The box of the value that the call was handed, behind calls and draws. -/
def Box (w : World) (k : Int) (s : ByteArray) (vn vl : Value) (W : World) : Prop := Cel W w.heap.size 25 #[.int .u8 k, .string s, vn, vl] ∧ Below w.heap.size w W
theorem map_take_snoc {l : List Jsn} {q : Nat} {x : Jsn} (h : l[q]? = some x) : (l.take (q + 1)).map jtext = (l.take q).map jtext ++ [jtext x] := by
  rw [List.take_add_one, h]; simp
theorem take_nil_iff {l : List Jsn} {q : Nat} (hq : q < l.length) : ((l.take q).map jtext = []) ↔ q = 0 := by
  rw [List.map_eq_nil_iff, List.take_eq_nil_iff]
  constructor
  · rintro (h | h)
    · exact h
    · subst h; simp at hq
  · exact .inl
theorem sz_of {S : ByteArray} {l : List UInt8} (h : S.data.toList = l) : S.size = l.length := by rw [← h, bytes_len]

set_option maxRecDepth 20000 in
set_option maxHeartbeats 4000000 in
theorem refText_any (Own : List UInt8 → List UInt8 × Int) (Val : List UInt8 → Bool) : TextSays 52 (jform Own Val) jtext := by
  refine Jsn.ind fun k s n l ih X w vn vl hV hbk hg => ?_
  obtain ⟨hsz, hn, hl, hnb, hkids⟩ := bulk_parts hbk
  have htl := jtext_len Own Val ⟨k, s, n, l⟩ hg
  have hkf := jform_kids hg
  have hkk := jform_kinds hg
  dsimp only at hl hkids hn hnb hsz
  have hnam := hV.names
  obtain ⟨A1, c1, rfl⟩ := hnam.len
  obtain ⟨A, c, zs, rfl, hz, h2, h3⟩ := hV.elems
  dsimp only at hnam ⊢
  have hlen : zs.length = l.length := by rw [← hz, List.length_map]
  obtain ⟨W0, hW0⟩ : ∃ W0, w.alloc (.cells #[.int .u8 k, .string s, .slice A1 n.length c1, .slice A zs.length c] 25) = W0 := ⟨_, rfl⟩
  have hB0 : Box w k s (.slice A1 n.length c1) (.slice A zs.length c) W0 := by rw [← hW0]; exact ⟨Cel.fresh _ _ _, (Below.refl _ _).alloc (Nat.le_refl _) _⟩
  have hat := Lib.hid (fun (wr : World) (hB : Below w.heap.size w wr) (i : Nat) (hi : i < n.length) => hnam.at hB hi)
  have hw := Lib.hid (fun (wr : World) (i : Nat) (hB : Below w.heap.size w wr) (hi : i < zs.length) => JV.at h2 h3 hB hi)
  have hQ := Lib.hid (fun (S : ByteArray) (hS : S.size ≤ 1000000) (W : World) => refQuote_any S (by omega) W)
  have hih := Lib.hid (fun (x : Jsn) (hx : x ∈ l) (W : World) (vx vy : Value) (hVx : JV W X x vx vy) => ih x hx X W vx vy hVx (by have := hkids x hx; omega) (hkf x hx))
  have hpl := Lib.hid (fun q => Nat.le_trans (jitems_len 0 (l.take q) true (fun x hx => jtext_len Own Val x (hkf x (List.mem_of_mem_take hx)))) (Nat.mul_le_mul_left 10 (jbulks_take l q)))
  have hpp := Lib.hid (fun q (h : l.length ≤ n.length) => Nat.le_trans (jpairs_len 0 (l.take q) n true (by rw [List.length_take]; omega) (fun x hx => jtext_len Own Val x (hkf x (List.mem_of_mem_take hx)))) (Nat.mul_le_mul_left 10 (Nat.add_le_add_left (jbulks_take l q) _)))
  have hxl := Lib.hid (fun x (hx : x ∈ l) => jtext_len Own Val x (hkf x hx))
  have hbe : jbulk ⟨k, s, n, l⟩ = 1 + s.size + nbulk n + jbulks l := jbulk_eq k s n l
  have hxb := Lib.hid (fun x (hx : x ∈ l) => jbulks_mem hx)
  obtain ⟨R, hR⟩ : ∃ R : ByteArray, ⟨(jtext ⟨k, s, n, l⟩).toArray⟩ = R := ⟨_, rfl⟩
  rw [hR]
  rw [jtext_eq] at hR
  have hsm : zs.length ≤ 1000000 := by omega
  clear hV h2 h3 hnam hg ih hkf hkids htl
  replace hz := Lib.hid hz
  replace hnb := Lib.hid hnb
  replace hlen := Lib.hid hlen
  replace hR := Lib.hid hR
  obtain ⟨p0, p1, p2, p3⟩ := box_cells hB0.1
  replace hW0 := Lib.hid hW0
  replace hB0 := Lib.hid hB0
  rcases hkk with rfl | rfl | rfl | rfl | rfl | rfl | ⟨rfl, hnl⟩
  · have hR2 : R = ⟨#[110, 117, 108, 108]⟩ := by rw [← hR.out]; rfl
    subst hR2
    clear hR hbe
    go_enter Tryz.func52, Tryz.ntmps52
    go_wp2_with fail
    go_ret
    exact ⟨rfl, by rw [hW0.out]; exact hB0.out.2⟩
  · have hR2 : R = ⟨#[116, 114, 117, 101]⟩ := by rw [← hR.out]; rfl
    subst hR2
    clear hR hbe
    go_enter Tryz.func52, Tryz.ntmps52
    go_wp2_with fail
    go_ret
    exact ⟨rfl, by rw [hW0.out]; exact hB0.out.2⟩
  · have hR2 : R = ⟨#[102, 97, 108, 115, 101]⟩ := by rw [← hR.out]; rfl
    subst hR2
    clear hR hbe
    go_enter Tryz.func52, Tryz.ntmps52
    go_wp2_with fail
    go_ret
    exact ⟨rfl, by rw [hW0.out]; exact hB0.out.2⟩
  · have hR2 : R = s := by rw [← hR.out]; exact jstr_ext (by show (s.data.toList.toArray).toList = _; simp)
    subst hR2
    clear hR hbe
    go_enter Tryz.func52, Tryz.ntmps52
    go_wp2_with fail
    go_ret
    exact ⟨rfl, by rw [hW0.out]; exact hB0.out.2⟩
  · have hR2 : (⟨(jquote s.data.toList).toArray⟩ : ByteArray) = R := by rw [← hR.out]; rfl
    clear hR hbe
    replace hR2 := Lib.hid hR2
    go_enter Tryz.func52, Tryz.ntmps52
    go_wp2_with fail
    rw [hW0.out]
    refine (hQ.out s hsz W0).mono ?_
    rintro e w1 ⟨rfl, hb⟩
    have hB1 := Lib.hid (hB0.out.2.trans (hb.mono hB0.out.2.size))
    clear hb
    rw [hR2.out]
    go_wp2_with fail
    go_ret
    exact ⟨rfl, hB1.out⟩
  · have hRe : ∀ S : ByteArray, S.data.toList = jitems true (l.map jtext) → ((⟨#[91]⟩ : ByteArray) ++ S) ++ ⟨#[93]⟩ = R := fun S hS => by
      rw [← hR.out]
      refine jstr_ext ?_
      rw [bytes_ap, bytes_ap, hS]
      show (91 :: _) ++ [93] = 91 :: (_ ++ [93])
      simp
    replace hRe := Lib.hid hRe
    clear hR
    go_enter Tryz.func52, Tryz.ntmps52
    go_wp2_with fail
    rw [hW0.out]
    clear hW0 p0 p1 p2 p3
    go_loopw [3, 4] (fun o i wr => ∃ (q : Nat) (S : ByteArray), q ≤ zs.length ∧ i = .int .i64 q ∧ o = .string S ∧ S.data.toList = jitems true ((l.take q).map jtext) ∧ Box w 6 s (.slice A1 n.length c1) (.slice A zs.length c) wr) (fun _ i _ => zs.length - (intOf i).toNat)
    case atStart => exact ⟨0, ⟨#[]⟩, Nat.zero_le _, rfl, rfl, by rfl, hB0.out⟩
    case round =>
      clear hB0
      obtain ⟨q, S, hq, rfl, rfl, hS, hBx⟩ := hrel
      obtain ⟨p0, p1, p2, p3⟩ := box_cells hBx.1
      have hSz := sz_of hS
      have hSb := hpl.out q
      by_cases hlt : q < zs.length
      · obtain ⟨g, o, ⟨x, vx, vy⟩, hzq, hzm, rfl, hVz, a0, a1, a2, a3⟩ := hw.out wr q hBx.2 hlt
        dsimp only at hVz a0 a1 a2 a3
        have hxm : x ∈ l := by rw [← hz.out]; exact List.mem_map_of_mem (f := (·.1)) hzm
        have hlq : l[q]? = some x := by rw [← hz.out, List.getElem?_map, hzq]; rfl
        have hql : q < l.length := by have := hlen.out; omega
        have hxl1 := hxl.out x hxm
        have hxb1 := hxb.out x hxm
        have hst := map_take_snoc hlq
        have hni := take_nil_iff hql
        have hrec := Lib.hid (fun (W : World) (hb : Below wr.heap.size wr W) => hih.out x hxm W vx vy (hVz.later hb))
        have hst2 : jitems true ((l.take (q + 1)).map jtext) = jitems true ((l.take q).map jtext) ++ ((if q = 0 then [] else [44]) ++ jtext x) := by
          rw [hst, jitems_snoc]
          simp only [true_and, hni]
        rw [← hS] at hst2
        obtain ⟨Ax, nx, cx, Ay, ny, cy, rfl, rfl⟩ := hVz.forms
        obtain ⟨T, hT⟩ : ∃ T : ByteArray, ⟨(jtext x).toArray⟩ = T := ⟨_, rfl⟩
        have hTl : T.data.toList = jtext x := by rw [← hT]
        have hTz := sz_of hTl
        rw [hT] at hrec
        rw [← hTl] at hst2
        have hq0 : (0 : Int) ≤ (q : Int) := by omega
        have hq1 : (q : Int) < (zs.length : Int) := by omega
        clear hzq hzm hVz hxm hlq hst hni hT hTl hql
        replace hBx := Lib.hid hBx
        by_cases h0 : q = 0
        · rw [if_pos h0] at hst2
          have hqz : ¬ (0 : Int) < (q : Int) := by omega
          rw [List.nil_append] at hst2
          have ha4 := jstr_add S T (by omega)
          obtain ⟨S4, hS4⟩ : ∃ S4, S ++ T = S4 := ⟨_, rfl⟩
          have hfin : S4.data.toList = jitems true ((l.take (q + 1)).map jtext) := by
            rw [hst2, ← hS4, bytes_ap]
            try simp
          rw [hS4] at ha4
          clear hS4 hst2 hS hSz hSb hTz hxl1 hxb1 h0
          replace hfin := Lib.hid hfin
          go_wp2_with fail
          refine (hrec.out wr (Below.refl _ _)).mono ?_
          rintro e w2 ⟨rfl, hb2⟩
          have hBx2 : Box w 6 s _ _ w2 := box_step hBx.out hb2
          clear p0 p1 p2 p3 a0 a1 a2 a3 hb2 hrec hBx
          replace hBx2 := Lib.hid hBx2
          go_wp2_with fail
          go_roundw
          case rel => exact ⟨q + 1, S4, by omega, by go_num, rfl, hfin.out, hBx2.out⟩
          case measure => simp [intOf]; omega
        · rw [if_neg h0] at hst2
          have hqz : (0 : Int) < (q : Int) := by omega
          have ha1 := jstr_add S ⟨#[44]⟩ (by show _ + 1 ≤ _; omega)
          obtain ⟨S1, hS1⟩ : ∃ S1, S ++ ⟨#[44]⟩ = S1 := ⟨_, rfl⟩
          have hS1z : S1.size = S.size + 1 := by rw [← hS1, ByteArray.size_append] <;> rfl
          have hS1l : S1.data.toList = S.data.toList ++ [44] := by rw [← hS1, bytes_ap] <;> rfl
          rw [hS1] at ha1
          clear hS1
          have ha4 := jstr_add S1 T (by omega)
          obtain ⟨S4, hS4⟩ : ∃ S4, S1 ++ T = S4 := ⟨_, rfl⟩
          have hfin : S4.data.toList = jitems true ((l.take (q + 1)).map jtext) := by
            rw [hst2, ← hS4, bytes_ap, hS1l]
            try simp
          rw [hS4] at ha4
          clear hS4 hst2 hS hSz hSb hTz hxl1 hxb1 h0
          clear hS1z hS1l
          replace hfin := Lib.hid hfin
          go_wp2_with fail
          refine (hrec.out wr (Below.refl _ _)).mono ?_
          rintro e w2 ⟨rfl, hb2⟩
          have hBx2 : Box w 6 s _ _ w2 := box_step hBx.out hb2
          clear p0 p1 p2 p3 a0 a1 a2 a3 hb2 hrec hBx
          replace hBx2 := Lib.hid hBx2
          go_wp2_with fail
          go_roundw
          case rel => exact ⟨q + 1, S4, by omega, by go_num, rfl, hfin.out, hBx2.out⟩
          case measure => simp [intOf]; omega
      · have hfull : l.take q = l := List.take_of_length_le (by have := hlen.out; omega)
        rw [hfull] at hS
        have hRS := hRe.out S hS
        have ha1 := jstr_add ⟨#[91]⟩ S (by show 1 + _ ≤ _; omega)
        obtain ⟨S1, hS1⟩ : ∃ S1, (⟨#[91]⟩ : ByteArray) ++ S = S1 := ⟨_, rfl⟩
        have hS1z : S1.size = 1 + S.size := by rw [← hS1, ByteArray.size_append] <;> rfl
        rw [hS1] at ha1 hRS
        have ha2 := jstr_add S1 ⟨#[93]⟩ (by show _ + 1 ≤ _; omega)
        rw [hRS] at ha2
        clear hS1 hS hSz hSb hS1z hRS hfull hw hat hih
        replace hBx := Lib.hid hBx
        go_wp2_with fail
        go_ret
        exact ⟨rfl, hBx.out.2⟩
  · have hpp1 := Lib.hid (fun q => hpp.out q (by omega))
    replace hnl := Lib.hid hnl
    have hRe : ∀ S : ByteArray, S.data.toList = jpairs true n (l.map jtext) → ((⟨#[123]⟩ : ByteArray) ++ S) ++ ⟨#[125]⟩ = R := fun S hS => by
      rw [← hR.out]
      refine jstr_ext ?_
      rw [bytes_ap, bytes_ap, hS]
      show (123 :: _) ++ [125] = 123 :: (_ ++ [125])
      simp
    replace hRe := Lib.hid hRe
    clear hR
    go_enter Tryz.func52, Tryz.ntmps52
    go_wp2_with fail
    rw [hW0.out]
    clear hW0 p0 p1 p2 p3
    go_loopw [3, 4] (fun o i wr => ∃ (q : Nat) (S : ByteArray), q ≤ zs.length ∧ i = .int .i64 q ∧ o = .string S ∧ S.data.toList = jpairs true n ((l.take q).map jtext) ∧ Box w 7 s (.slice A1 n.length c1) (.slice A zs.length c) wr) (fun _ i _ => zs.length - (intOf i).toNat)
    case atStart => exact ⟨0, ⟨#[]⟩, Nat.zero_le _, rfl, rfl, by simp [jpairs], hB0.out⟩
    case round =>
      clear hB0
      obtain ⟨q, S, hq, rfl, rfl, hS, hBx⟩ := hrel
      obtain ⟨p0, p1, p2, p3⟩ := box_cells hBx.1
      have hSz := sz_of hS
      have hSb := hpp1.out q
      by_cases hlt : q < zs.length
      · obtain ⟨g, o, ⟨x, vx, vy⟩, hzq, hzm, rfl, hVz, a0, a1, a2, a3⟩ := hw.out wr q hBx.2 hlt
        dsimp only at hVz a0 a1 a2 a3
        have hxm : x ∈ l := by rw [← hz.out]; exact List.mem_map_of_mem (f := (·.1)) hzm
        have hlq : l[q]? = some x := by rw [← hz.out, List.getElem?_map, hzq]; rfl
        have hql : q < l.length := by have := hlen.out; omega
        have hxl1 := hxl.out x hxm
        have hxb1 := hxb.out x hxm
        have hst := map_take_snoc hlq
        have hni := take_nil_iff hql
        have hrec := Lib.hid (fun (W : World) (hb : Below wr.heap.size wr W) => hih.out x hxm W vx vy (hVz.later hb))
        have hst2 : jpairs true n ((l.take (q + 1)).map jtext) = jpairs true n ((l.take q).map jtext) ++ ((if q = 0 then [] else [44]) ++ (jquote (n.getD q ByteArray.empty).data.toList ++ 58 :: jtext x)) := by
          rw [hst, jpairs_snoc]
          simp only [true_and, hni, List.length_map, List.length_take, Nat.min_eq_left (Nat.le_of_lt hql)]
        rw [← hS] at hst2
        obtain ⟨Ax, nx, cx, Ay, ny, cy, rfl, rfl⟩ := hVz.forms
        obtain ⟨T, hT⟩ : ∃ T : ByteArray, ⟨(jtext x).toArray⟩ = T := ⟨_, rfl⟩
        have hTl : T.data.toList = jtext x := by rw [← hT]
        have hTz := sz_of hTl
        rw [hT] at hrec
        rw [← hTl] at hst2
        have hq0 : (0 : Int) ≤ (q : Int) := by omega
        have hq1 : (q : Int) < (zs.length : Int) := by omega
        have hqn : q < n.length := by have := hnl.out; have := hlen.out; omega
        obtain ⟨gn, on, rfl, y1⟩ := hat.out wr hBx.2 q hqn
        obtain ⟨N, hN⟩ : ∃ N, n[q] = N := ⟨_, rfl⟩
        have hNg : n.getD q ByteArray.empty = N := by rw [List.getD_eq_getElem?_getD, List.getElem?_eq_getElem hqn, hN]; rfl
        have hNs : N.size ≤ 1000000 := hnb.out N (by rw [← hN]; exact List.getElem_mem hqn)
        rw [hN] at y1
        rw [hNg] at hst2
        have hqi : (q : Int) < (n.length : Int) := by omega
        obtain ⟨M, hM⟩ : ∃ M : ByteArray, ⟨(jquote N.data.toList).toArray⟩ = M := ⟨_, rfl⟩
        have hMl : M.data.toList = jquote N.data.toList := by rw [← hM]
        have hMz := sz_of hMl
        have hMb := jquote_len N.data.toList
        rw [bytes_len] at hMb
        have hQc := hQ.out N hNs
        simp only [hM] at hQc
        rw [← hMl] at hst2
        replace hQc := Lib.hid hQc
        clear hN hNg hM hMl hqn
        clear hzq hzm hVz hxm hlq hst hni hT hTl hql
        replace hBx := Lib.hid hBx
        by_cases h0 : q = 0
        · rw [if_pos h0] at hst2
          have hqz : ¬ (0 : Int) < (q : Int) := by omega
          rw [List.nil_append] at hst2
          have ha2 := jstr_add S M (by omega)
          obtain ⟨S2, hS2⟩ : ∃ S2, S ++ M = S2 := ⟨_, rfl⟩
          have hS2z : S2.size = S.size + M.size := by rw [← hS2, ByteArray.size_append]
          have hS2l : S2.data.toList = S.data.toList ++ M.data.toList := by rw [← hS2, bytes_ap]
          rw [hS2] at ha2
          have ha3 := jstr_add S2 ⟨#[58]⟩ (by show _ + 1 ≤ _; omega)
          obtain ⟨S3, hS3⟩ : ∃ S3, S2 ++ ⟨#[58]⟩ = S3 := ⟨_, rfl⟩
          have hS3z : S3.size = S2.size + 1 := by rw [← hS3, ByteArray.size_append] <;> rfl
          have hS3l : S3.data.toList = S2.data.toList ++ [58] := by rw [← hS3, bytes_ap] <;> rfl
          rw [hS3] at ha3
          clear hS2 hS3
          have ha4 := jstr_add S3 T (by omega)
          obtain ⟨S4, hS4⟩ : ∃ S4, S3 ++ T = S4 := ⟨_, rfl⟩
          have hfin : S4.data.toList = jpairs true n ((l.take (q + 1)).map jtext) := by
            rw [hst2, ← hS4, bytes_ap, hS3l, hS2l]
            try simp
          rw [hS4] at ha4
          clear hS4 hst2 hS hSz hSb hTz hxl1 hxb1 h0
          clear hMz hMb hS2z hS2l hS3z hS3l hNs
          replace hfin := Lib.hid hfin
          go_wp2_with fail
          refine (hQc.out _).mono ?_
          rintro e w1 ⟨rfl, hb1⟩
          have hBx1 : Box w 7 s _ _ w1 := box_step hBx.out hb1
          have b0 := hb1.cell (World.block_lt_of_cell? wr _ a0)
          have b1 := hb1.cell (World.block_lt_of_cell? wr _ a1)
          have b2 := hb1.cell (World.block_lt_of_cell? wr _ a2)
          have b3 := hb1.cell (World.block_lt_of_cell? wr _ a3)
          rw [a0] at b0
          rw [a1] at b1
          rw [a2] at b2
          rw [a3] at b3
          have hrec1 := Lib.hid (hrec.out w1 hb1)
          clear p0 p1 p2 p3 a0 a1 a2 a3 y1 hb1 hrec hBx hQc
          obtain ⟨p0, p1, p2, p3⟩ := box_cells hBx1.1
          replace hBx1 := Lib.hid hBx1
          go_wp2_with fail
          refine hrec1.out.mono ?_
          rintro e w2 ⟨rfl, hb2⟩
          have hBx2 : Box w 7 s _ _ w2 := box_step hBx1.out hb2
          clear p0 p1 p2 p3 b0 b1 b2 b3 hb2 hrec1 hBx1
          replace hBx2 := Lib.hid hBx2
          go_wp2_with fail
          go_roundw
          case rel => exact ⟨q + 1, S4, by omega, by go_num, rfl, hfin.out, hBx2.out⟩
          case measure => simp [intOf]; omega
        · rw [if_neg h0] at hst2
          have hqz : (0 : Int) < (q : Int) := by omega
          have ha1 := jstr_add S ⟨#[44]⟩ (by show _ + 1 ≤ _; omega)
          obtain ⟨S1, hS1⟩ : ∃ S1, S ++ ⟨#[44]⟩ = S1 := ⟨_, rfl⟩
          have hS1z : S1.size = S.size + 1 := by rw [← hS1, ByteArray.size_append] <;> rfl
          have hS1l : S1.data.toList = S.data.toList ++ [44] := by rw [← hS1, bytes_ap] <;> rfl
          rw [hS1] at ha1
          clear hS1
          have ha2 := jstr_add S1 M (by omega)
          obtain ⟨S2, hS2⟩ : ∃ S2, S1 ++ M = S2 := ⟨_, rfl⟩
          have hS2z : S2.size = S1.size + M.size := by rw [← hS2, ByteArray.size_append]
          have hS2l : S2.data.toList = S1.data.toList ++ M.data.toList := by rw [← hS2, bytes_ap]
          rw [hS2] at ha2
          have ha3 := jstr_add S2 ⟨#[58]⟩ (by show _ + 1 ≤ _; omega)
          obtain ⟨S3, hS3⟩ : ∃ S3, S2 ++ ⟨#[58]⟩ = S3 := ⟨_, rfl⟩
          have hS3z : S3.size = S2.size + 1 := by rw [← hS3, ByteArray.size_append] <;> rfl
          have hS3l : S3.data.toList = S2.data.toList ++ [58] := by rw [← hS3, bytes_ap] <;> rfl
          rw [hS3] at ha3
          clear hS2 hS3
          have ha4 := jstr_add S3 T (by omega)
          obtain ⟨S4, hS4⟩ : ∃ S4, S3 ++ T = S4 := ⟨_, rfl⟩
          have hfin : S4.data.toList = jpairs true n ((l.take (q + 1)).map jtext) := by
            rw [hst2, ← hS4, bytes_ap, hS3l, hS2l, hS1l]
            try simp
          rw [hS4] at ha4
          clear hS4 hst2 hS hSz hSb hTz hxl1 hxb1 h0
          clear hMz hMb hS2z hS2l hS3z hS3l hNs hS1z hS1l
          replace hfin := Lib.hid hfin
          go_wp2_with fail
          refine (hQc.out _).mono ?_
          rintro e w1 ⟨rfl, hb1⟩
          have hBx1 : Box w 7 s _ _ w1 := box_step hBx.out hb1
          have b0 := hb1.cell (World.block_lt_of_cell? wr _ a0)
          have b1 := hb1.cell (World.block_lt_of_cell? wr _ a1)
          have b2 := hb1.cell (World.block_lt_of_cell? wr _ a2)
          have b3 := hb1.cell (World.block_lt_of_cell? wr _ a3)
          rw [a0] at b0
          rw [a1] at b1
          rw [a2] at b2
          rw [a3] at b3
          have hrec1 := Lib.hid (hrec.out w1 hb1)
          clear p0 p1 p2 p3 a0 a1 a2 a3 y1 hb1 hrec hBx hQc
          obtain ⟨p0, p1, p2, p3⟩ := box_cells hBx1.1
          replace hBx1 := Lib.hid hBx1
          go_wp2_with fail
          refine hrec1.out.mono ?_
          rintro e w2 ⟨rfl, hb2⟩
          have hBx2 : Box w 7 s _ _ w2 := box_step hBx1.out hb2
          clear p0 p1 p2 p3 b0 b1 b2 b3 hb2 hrec1 hBx1
          replace hBx2 := Lib.hid hBx2
          go_wp2_with fail
          go_roundw
          case rel => exact ⟨q + 1, S4, by omega, by go_num, rfl, hfin.out, hBx2.out⟩
          case measure => simp [intOf]; omega
      · have hfull : l.take q = l := List.take_of_length_le (by have := hlen.out; omega)
        rw [hfull] at hS
        have hRS := hRe.out S hS
        have ha1 := jstr_add ⟨#[123]⟩ S (by show 1 + _ ≤ _; omega)
        obtain ⟨S1, hS1⟩ : ∃ S1, (⟨#[123]⟩ : ByteArray) ++ S = S1 := ⟨_, rfl⟩
        have hS1z : S1.size = 1 + S.size := by rw [← hS1, ByteArray.size_append] <;> rfl
        rw [hS1] at ha1 hRS
        have ha2 := jstr_add S1 ⟨#[125]⟩ (by show _ + 1 ≤ _; omega)
        rw [hRS] at ha2
        clear hS1 hS hSz hSb hS1z hRS hfull hw hat hih
        replace hBx := Lib.hid hBx
        go_wp2_with fail
        go_ret
        exact ⟨rfl, hBx.out.2⟩
end Go.Proofs.YtbegdpdldajolaaGreatDoor
