/-
  Two values that may be have the same text just if they are the same. No program.
-/
import Derived.Test.YthmojpcaagnfkaaGreatDoorJsP
namespace Go.Proofs.YthmojpcaagnfkaaGreatDoor

/-- A character that may stand in a number's text. -/
def numC (c : UInt8) : Bool := !([34, 44, 58, 91, 93, 102, 110, 116, 123, 125].contains c)
/-- What stands behind a value: no character of a number. -/
def StopC (r : List UInt8) : Prop := ∀ c t, r = c :: t → numC c = false
/-- What kind of value a character begins. -/
def kindC (c : UInt8) : Int := if c = 110 then 1 else if c = 116 then 2 else if c = 102 then 3 else if c = 34 then 5 else if c = 91 then 6 else if c = 123 then 7 else if c = 44 ∨ c = 58 ∨ c = 93 ∨ c = 125 then 0 else 4
theorem kindC_num {c : UInt8} (h : numC c = true) : kindC c = 4 := by
  unfold numC at h
  simp only [List.contains_cons, List.contains_nil, Bool.or_false, Bool.not_eq_true', Bool.or_eq_false_iff, beq_eq_false_iff_ne, ne_eq] at h
  obtain ⟨h1, h2, h3, h4, h5, h6, h7, h8, h9, h10⟩ := h
  unfold kindC
  rw [if_neg h7, if_neg h8, if_neg h6, if_neg h1, if_neg h4, if_neg h9, if_neg (by rintro (h | h | h | h) <;> contradiction)]
theorem num_split : ∀ {a b r s : List UInt8}, (∀ c ∈ a, numC c = true) → (∀ c ∈ b, numC c = true) → StopC r → StopC s → a ++ r = b ++ s → a = b ∧ r = s
  | [], [], _, _, _, _, _, _, h => ⟨rfl, h⟩
  | [], c :: b, r, s, _, hb, hr, _, h => by
    have := hr c (b ++ s) h
    rw [hb c (by simp)] at this
    cases this
  | c :: a, [], r, s, ha, _, _, hs, h => by
    have := hs c (a ++ r) h.symm
    rw [ha c (by simp)] at this
    cases this
  | c :: a, d :: b, r, s, ha, hb, hr, hs, h => by
    simp only [List.cons_append, List.cons.injEq] at h
    obtain ⟨e80, h9⟩ := h
    subst e80
    obtain ⟨e80, h8⟩ := num_split (fun x hx => ha x (by simp [hx])) (fun x hx => hb x (by simp [hx])) hr hs h9
    subst e80
    exact ⟨rfl, h8⟩

/-! ### The characters of a String -/
def unhexC (c : UInt8) : Nat := if c.toNat < 58 then c.toNat - 48 else c.toNat - 87
/-- One character of a String's text, read back. -/
def unesc : List UInt8 → Option (UInt8 × List UInt8)
  | 92 :: 117 :: _ :: _ :: a :: b :: r => some (UInt8.ofNat (unhexC a * 16 + unhexC b), r)
  | 92 :: x :: r => some (if x = 98 then 8 else if x = 102 then 12 else if x = 110 then 10 else if x = 114 then 13 else if x = 116 then 9 else x, r)
  | c :: r => some (c, r)
  | [] => none
def escB (c : UInt8) : Bool := decide (unesc (jesc c) = some (c, [])) && match jesc c with
  | [x] => decide (x ≠ 92) && decide (x ≠ 34)
  | [x, y] => decide (x = 92) && decide (y ≠ 117)
  | [x, y, _, _, _, _] => decide (x = 92) && decide (y = 117)
  | _ => false
theorem escB_all (c : UInt8) : escB c = true := by
  have h : ∀ n : Fin 256, escB (UInt8.ofNat n.val) = true := by decide +kernel
  have := h ⟨c.toNat, c.toNat_lt⟩
  simpa using this
theorem unesc_app (c : UInt8) (r : List UInt8) : unesc (jesc c ++ r) = some (c, r) := by
  have h := escB_all c
  unfold escB at h
  rw [Bool.and_eq_true, decide_eq_true_eq] at h
  obtain ⟨h1, h2⟩ := h
  generalize jesc c = l at h1 h2
  split at h2
  · rename_i x
    simp only [Bool.and_eq_true, decide_eq_true_eq, ne_eq] at h2
    rw [unesc.eq_3 _ _ (by rintro _ _ _ _ _ _ e; simp_all) (by rintro _ _ e; simp_all)] at h1
    rw [List.cons_append, List.nil_append, unesc.eq_3 _ _ (by rintro _ _ _ _ _ _ e; simp_all) (by rintro _ _ e; simp_all)]
    simp_all
  · rename_i x y
    simp only [Bool.and_eq_true, decide_eq_true_eq, ne_eq] at h2
    obtain ⟨rfl, hy⟩ := h2
    rw [unesc.eq_2 _ _ (by rintro _ _ _ _ _ e; simp_all)] at h1
    rw [List.cons_append, List.cons_append, List.nil_append, unesc.eq_2 _ _ (by rintro _ _ _ _ _ e; simp_all)]
    simp_all
  · rename_i x y p q a b
    simp only [Bool.and_eq_true, decide_eq_true_eq] at h2
    obtain ⟨rfl, rfl⟩ := h2
    rw [unesc.eq_1] at h1
    simp only [List.cons_append, List.nil_append]
    rw [unesc.eq_1]
    simp_all
  · cases h2
theorem jesc_head (c : UInt8) (u v : List UInt8) : jesc c ++ u ≠ 34 :: v := by
  have h := escB_all c
  unfold escB at h
  rw [Bool.and_eq_true] at h
  have h2 := h.2
  generalize jesc c = l at h2
  split at h2
  all_goals first | cases h2 | (simp only [Bool.and_eq_true, decide_eq_true_eq, ne_eq] at h2; intro e; simp_all)
theorem flat_split : ∀ (s t : List UInt8) {r q : List UInt8}, s.flatMap jesc ++ 34 :: r = t.flatMap jesc ++ 34 :: q → s = t ∧ r = q
  | [], [], _, _, h => by simpa using h
  | [], c :: t, r, q, h => by
    rw [List.flatMap_cons, List.append_assoc] at h
    exact (jesc_head c _ _ h.symm).elim
  | c :: s, [], r, q, h => by
    rw [List.flatMap_cons, List.append_assoc] at h
    exact (jesc_head c _ _ h).elim
  | c :: s, d :: t, r, q, h => by
    rw [List.flatMap_cons, List.flatMap_cons, List.append_assoc, List.append_assoc] at h
    have := congrArg unesc h
    rw [unesc_app, unesc_app] at this
    simp only [Option.some.injEq, Prod.mk.injEq] at this
    obtain ⟨e80, h9⟩ := this
    subst e80
    obtain ⟨e80, h8⟩ := flat_split s t h9
    subst e80
    exact ⟨rfl, h8⟩
theorem quote_split {s t r q : List UInt8} (h : jquote s ++ r = jquote t ++ q) : s = t ∧ r = q := by
  unfold jquote at h
  simp only [List.cons_append, List.append_assoc, List.nil_append, List.cons.injEq, true_and] at h
  exact flat_split s t h

/-! ### What a value that may be looks like -/
inductive Shp (Own : List UInt8 → List UInt8 × Int) (Val : List UInt8 → Bool) : Jsn → Prop
  | bare (k : Int) (hk : k = 1 ∨ k = 2 ∨ k = 3) (s : ByteArray) (hs : s.data.toList = []) : Shp Own Val ⟨k, s, [], []⟩
  | num (s : ByteArray) (hs : Own s.data.toList = (s.data.toList, 0)) : Shp Own Val ⟨4, s, [], []⟩
  | str (s : ByteArray) (hs : Val s.data.toList = true) : Shp Own Val ⟨5, s, [], []⟩
  | arr (s : ByteArray) (hs : s.data.toList = []) (l : List Jsn) (hl : ∀ x ∈ l, jform Own Val x = true) : Shp Own Val ⟨6, s, [], l⟩
  | obj (s : ByteArray) (hs : s.data.toList = []) (n : List ByteArray) (l : List Jsn) (hn : n.length = l.length) (hv : ∀ b ∈ n, Val b.data.toList = true) (hl : ∀ x ∈ l, jform Own Val x = true) : Shp Own Val ⟨7, s, n, l⟩
theorem shp_of {Own : List UInt8 → List UInt8 × Int} {Val : List UInt8 → Bool} {j : Jsn} (h : jform Own Val j = true) : Shp Own Val j := by
  obtain ⟨k, s, n, l⟩ := j
  rw [jform_eq] at h
  split at h
  · rename_i hk
    simp only [Bool.and_eq_true, List.isEmpty_iff] at h
    obtain ⟨⟨h1, rfl⟩, rfl⟩ := h
    exact .bare k hk s h1
  · split at h
    · rename_i hk
      subst hk
      simp only [Bool.and_eq_true, List.isEmpty_iff, decide_eq_true_eq] at h
      obtain ⟨⟨h1, rfl⟩, rfl⟩ := h
      exact .num s h1
    · split at h
      · rename_i hk
        subst hk
        simp only [Bool.and_eq_true, List.isEmpty_iff] at h
        obtain ⟨⟨h1, rfl⟩, rfl⟩ := h
        exact .str s h1
      · split at h
        · rename_i hk
          subst hk
          simp only [Bool.and_eq_true, List.isEmpty_iff, List.all_eq_true] at h
          obtain ⟨⟨h1, rfl⟩, h2⟩ := h
          exact .arr s h1 l h2
        · split at h
          · rename_i hk
            subst hk
            simp only [Bool.and_eq_true, List.isEmpty_iff, List.all_eq_true, decide_eq_true_eq] at h
            obtain ⟨⟨⟨h1, h2⟩, h3⟩, h4⟩ := h
            exact .obj s h1 n l h2 h3 h4
          · cases h
/-- Numbers' own texts. -/
def OwnNum (Own : List UInt8 → List UInt8 × Int) : Prop := ∀ l, Own l = (l, 0) → l ≠ [] ∧ ∀ c ∈ l, numC c = true
theorem text_head {Own : List UInt8 → List UInt8 × Int} {Val : List UInt8 → Bool} (hO : OwnNum Own) {j : Jsn} (h : jform Own Val j = true) : ∃ c t, jtext j = c :: t ∧ kindC c = j.kind := by
  cases shp_of h with
  | bare k hk s hs => rcases hk with rfl | rfl | rfl <;> exact ⟨_, _, by rw [jtext_eq]; rfl, rfl⟩
  | num s hs =>
    obtain ⟨h1, h2⟩ := hO _ hs
    rcases hs' : s.data.toList with _ | ⟨c, t⟩
    · exact (h1 hs').elim
    · exact ⟨c, t, by rw [jtext_eq]; exact hs', kindC_num (h2 c (by rw [hs']; simp))⟩
  | str s hs => exact ⟨34, _, by rw [jtext_eq]; rfl, rfl⟩
  | arr s hs l hl => exact ⟨91, _, by rw [jtext_eq]; rfl, rfl⟩
  | obj s hs n l hn hv hl => exact ⟨123, _, by rw [jtext_eq]; rfl, rfl⟩
theorem kind_bd {Own : List UInt8 → List UInt8 × Int} {Val : List UInt8 → Bool} {j : Jsn} (h : jform Own Val j = true) : j.kind ≠ 0 := by
  cases shp_of h with
  | bare k hk s hs => show k ≠ 0; rcases hk with rfl | rfl | rfl <;> decide
  | num s hs => intro h; have h : (4 : Int) = 0 := h; omega
  | str s hs => intro h; have h : (5 : Int) = 0 := h; omega
  | arr s hs l hl => intro h; have h : (6 : Int) = 0 := h; omega
  | obj s hs n l hn hv hl => intro h; have h : (7 : Int) = 0 := h; omega
theorem stop_items (f : Bool) (hf : f = false) (l : List (List UInt8)) (c : UInt8) (r : List UInt8) (hc : numC c = false) : StopC (jitems f l ++ c :: r) := by
  subst hf
  intro d t e
  cases l with
  | nil => injection e with e; rw [← e]; exact hc
  | cons x l => injection e with e; rw [← e]; decide
theorem stop_pairs (n : List ByteArray) (l : List (List UInt8)) (c : UInt8) (r : List UInt8) (hc : numC c = false) : StopC (jpairs false n l ++ c :: r) := by
  intro d t e
  cases l with
  | nil => injection e with e; rw [← e]; exact hc
  | cons x l => injection e with e; rw [← e]; decide
/-- Two values' texts, with something behind each. -/
def TxtInj (Own : List UInt8 → List UInt8 × Int) (Val : List UInt8 → Bool) (a : Jsn) : Prop :=
  jform Own Val a = true → ∀ b, jform Own Val b = true → ∀ r q, StopC r → StopC q → jtext a ++ r = jtext b ++ q → a = b ∧ r = q
theorem no_head {Own : List UInt8 → List UInt8 × Int} {Val : List UInt8 → Bool} (hO : OwnNum Own) {j : Jsn} (h : jform Own Val j = true) {c : UInt8} (hc : kindC c = 0) {u v : List UInt8} : jtext j ++ u ≠ c :: v := by
  obtain ⟨d, t, e, hk⟩ := text_head hO h
  intro e'
  rw [e, List.cons_append] at e'
  injection e' with e' _
  rw [e', hc] at hk
  exact kind_bd h hk.symm
theorem items_split {Own : List UInt8 → List UInt8 × Int} {Val : List UInt8 → Bool} (hO : OwnNum Own) : ∀ (l : List Jsn), (∀ x ∈ l, TxtInj Own Val x) → (∀ x ∈ l, jform Own Val x = true) → ∀ (m : List Jsn), (∀ x ∈ m, jform Own Val x = true) →
    ∀ (f : Bool) (r q : List UInt8), jitems f (l.map jtext) ++ 93 :: r = jitems f (m.map jtext) ++ 93 :: q → l = m ∧ r = q
  | [], _, _, [], _, f, r, q, h => by simpa [jitems] using h
  | [], _, _, y :: m, hm, f, r, q, h => by
    simp only [List.map_cons, List.map_nil, jitems, List.nil_append, List.append_assoc] at h
    cases f
    · injection h with h; exact absurd h (by decide)
    · exact (no_head hO (hm y (by simp)) (by decide) h.symm).elim
  | x :: l, _, hl, [], _, f, r, q, h => by
    simp only [List.map_cons, List.map_nil, jitems, List.nil_append, List.append_assoc] at h
    cases f
    · injection h with h; exact absurd h (by decide)
    · exact (no_head hO (hl x (by simp)) (by decide) h).elim
  | x :: l, ih, hl, y :: m, hm, f, r, q, h => by
    simp only [List.map_cons, jitems, List.append_assoc] at h
    have h := List.append_cancel_left h
    obtain ⟨e80, h9⟩ := ih x (by simp) (hl x (by simp)) y (hm y (by simp)) _ _ (stop_items _ rfl _ 93 r (by decide)) (stop_items _ rfl _ 93 q (by decide)) h
    subst e80
    obtain ⟨e80, h8⟩ := items_split hO l (fun z hz => ih z (by simp [hz])) (fun z hz => hl z (by simp [hz])) m (fun z hz => hm z (by simp [hz])) false r q h9
    subst e80
    exact ⟨rfl, h8⟩
theorem ba_ext {a b : ByteArray} (h : a.data.toList = b.data.toList) : a = b := by
  obtain ⟨⟨a⟩⟩ := a
  obtain ⟨⟨b⟩⟩ := b
  cases h; rfl
theorem pairs_split {Own : List UInt8 → List UInt8 × Int} {Val : List UInt8 → Bool} : ∀ (l : List Jsn), (∀ x ∈ l, TxtInj Own Val x) → (∀ x ∈ l, jform Own Val x = true) → ∀ (m : List Jsn), (∀ x ∈ m, jform Own Val x = true) →
    ∀ (n n' : List ByteArray), n.length = l.length → n'.length = m.length → ∀ (f : Bool) (r q : List UInt8), jpairs f n (l.map jtext) ++ 125 :: r = jpairs f n' (m.map jtext) ++ 125 :: q → n = n' ∧ l = m ∧ r = q
  | [], _, _, [], _, n, n', hn, hn', f, r, q, h => by
    rw [List.length_nil, List.length_eq_zero_iff] at hn hn'
    subst hn hn'
    simpa [jpairs] using h
  | [], _, _, y :: m, hm, n, n', hn, hn', f, r, q, h => by
    simp only [List.map_cons, List.map_nil, jpairs, List.nil_append, List.append_assoc] at h
    cases f
    · injection h with h; exact absurd h (by decide)
    · injection h with h; exact absurd h (by decide)
  | x :: l, _, hl, [], _, n, n', hn, hn', f, r, q, h => by
    simp only [List.map_cons, List.map_nil, jpairs, List.nil_append, List.append_assoc] at h
    cases f
    · injection h with h; exact absurd h (by decide)
    · injection h with h; exact absurd h (by decide)
  | x :: l, ih, hl, y :: m, hm, [], n', hn, hn', f, r, q, h => by simp at hn
  | x :: l, ih, hl, y :: m, hm, _ :: _, [], hn, hn', f, r, q, h => by simp at hn'
  | x :: l, ih, hl, y :: m, hm, a :: n, b :: n', hn, hn', f, r, q, h => by
    simp only [List.map_cons, jpairs, List.append_assoc, List.headD_cons, List.tail_cons] at h
    have h := List.append_cancel_left h
    obtain ⟨h1, h⟩ := quote_split h
    simp only [List.cons_append, List.cons.injEq, true_and] at h
    obtain ⟨e80, h9⟩ := ih x (by simp) (hl x (by simp)) y (hm y (by simp)) _ _ (stop_pairs _ _ 125 r (by decide)) (stop_pairs _ _ 125 q (by decide)) h
    subst e80
    obtain ⟨e80, e81, h8⟩ := pairs_split l (fun z hz => ih z (by simp [hz])) (fun z hz => hl z (by simp [hz])) m (fun z hz => hm z (by simp [hz])) n n' (by simpa using hn) (by simpa using hn') false r q h9
    subst e80
    subst e81
    rw [ba_ext h1]
    exact ⟨rfl, rfl, h8⟩
theorem nil_ba {s t : ByteArray} (hs : s.data.toList = []) (ht : t.data.toList = []) : s = t := ba_ext (by rw [hs, ht])
theorem txt_inj {Own : List UInt8 → List UInt8 × Int} {Val : List UInt8 → Bool} (hO : OwnNum Own) : ∀ a, TxtInj Own Val a := by
  refine Jsn.ind fun k s n l ih ha b hb r q hr hq h => ?_
  have hk : k = b.kind := by
    obtain ⟨c, t, e, hc⟩ := text_head hO ha
    obtain ⟨d, u, e', hd⟩ := text_head hO hb
    rw [e, e', List.cons_append, List.cons_append] at h
    injection h with h
    rw [h] at hc
    exact hc.symm.trans hd
  cases shp_of ha with
  | bare k hk1 s hs =>
    cases shp_of hb with
    | bare k2 hk2 s2 hs2 =>
      dsimp only at hk
      subst hk
      rw [nil_ba hs hs2] at h ⊢
      exact ⟨rfl, List.append_cancel_left h⟩
    | num => dsimp only at hk; omega
    | str => dsimp only at hk; omega
    | arr => dsimp only at hk; omega
    | obj => dsimp only at hk; omega
  | num s hs =>
    cases shp_of hb with
    | bare => dsimp only at hk; omega
    | num t ht =>
      rw [jtext_eq, jtext_eq] at h
      obtain ⟨e, h⟩ := num_split (hO _ hs).2 (hO _ ht).2 hr hq h
      rw [ba_ext e]
      exact ⟨rfl, h⟩
    | str => dsimp only at hk; omega
    | arr => dsimp only at hk; omega
    | obj => dsimp only at hk; omega
  | str s hs =>
    cases shp_of hb with
    | bare => dsimp only at hk; omega
    | num => dsimp only at hk; omega
    | str t ht =>
      rw [jtext_eq, jtext_eq] at h
      obtain ⟨e, h⟩ := quote_split h
      rw [ba_ext e]
      exact ⟨rfl, h⟩
    | arr => dsimp only at hk; omega
    | obj => dsimp only at hk; omega
  | arr s hs l hl =>
    cases shp_of hb with
    | bare => dsimp only at hk; omega
    | num => dsimp only at hk; omega
    | str => dsimp only at hk; omega
    | arr t ht m hm =>
      rw [jtext_eq, jtext_eq] at h
      have h : 91 :: (jitems true (l.map jtext) ++ [93]) ++ r = 91 :: (jitems true (m.map jtext) ++ [93]) ++ q := h
      simp only [List.cons_append, List.append_assoc, List.nil_append, List.cons.injEq, true_and] at h
      obtain ⟨e80, h9⟩ := items_split hO l ih hl m hm true r q h
      subst e80
      rw [nil_ba hs ht]
      exact ⟨rfl, h9⟩
    | obj => dsimp only at hk; omega
  | obj s hs n l hn hv hl =>
    cases shp_of hb with
    | bare => dsimp only at hk; omega
    | num => dsimp only at hk; omega
    | str => dsimp only at hk; omega
    | arr => dsimp only at hk; omega
    | obj t ht n' m hn' hv' hm =>
      rw [jtext_eq, jtext_eq] at h
      have h : 123 :: (jpairs true n (l.map jtext) ++ [125]) ++ r = 123 :: (jpairs true n' (m.map jtext) ++ [125]) ++ q := h
      simp only [List.cons_append, List.append_assoc, List.nil_append, List.cons.injEq, true_and] at h
      obtain ⟨e80, e81, h9⟩ := pairs_split l ih hl m hm n n' hn hn' true r q h
      subst e80
      subst e81
      rw [nil_ba hs ht]
      exact ⟨rfl, h9⟩
theorem text_eq_iff {Own : List UInt8 → List UInt8 × Int} {Val : List UInt8 → Bool} (hO : OwnNum Own) {a b : Jsn} (ha : jform Own Val a = true) (hb : jform Own Val b = true) : jtext a = jtext b ↔ a = b := by
  constructor
  · intro h
    exact (txt_inj hO a ha b hb [] [] (fun _ _ e => by cases e) (fun _ _ e => by cases e) (by rw [h])).1
  · rintro rfl; rfl
/-- What a value that is printed is. -/
theorem jprint_ok {Own : List UInt8 → List UInt8 × Int} {Val : List UInt8 → Bool} {j : Jsn} (h : (jprint Own Val j).2 = 0) : jprint Own Val j = (jtext j, 0) ∧ jform Own Val j = true := by
  unfold jprint at h ⊢
  by_cases h1 : jcheck Own Val j ≠ 0
  · rw [if_pos h1] at h; exact (h1 h).elim
  · rw [if_neg h1] at h ⊢
    by_cases h2 : 262144 < (jtext j).length
    · rw [if_pos h2] at h; cases h
    · rw [if_neg h2]
      refine ⟨rfl, ?_⟩
      have h1' : jcheck Own Val j = 0 := by omega
      unfold jcheck at h1'
      by_cases h3 : 64 < jdeep j
      · rw [if_pos h3] at h1'; cases h1'
      · rw [if_neg h3] at h1'
        by_cases h4 : 65536 < jcount j
        · rw [if_pos h4] at h1'; cases h1'
        · rw [if_neg h4] at h1'
          by_cases h5 : jform Own Val j = false
          · rw [if_pos h5] at h1'; cases h1'
          · simpa using h5
/-- Printed texts of two values. -/
theorem print_same {Own : List UInt8 → List UInt8 × Int} {Val : List UInt8 → Bool} (hO : OwnNum Own) {a b : Jsn} (ha : (jprint Own Val a).2 = 0) (hb : (jprint Own Val b).2 = 0) : ((jprint Own Val a).1 = (jprint Own Val b).1 ↔ jsame a b = true) := by
  obtain ⟨h1, h2⟩ := jprint_ok ha
  obtain ⟨h3, h4⟩ := jprint_ok hb
  rw [h1, h3, jsame_eq]
  exact text_eq_iff hO h2 h4
end Go.Proofs.YthmojpcaagnfkaaGreatDoor
