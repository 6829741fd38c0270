/-
  Blanks put around the marks of a JSON text: it is read as it was. No program.
-/
import Derived.Test.YtblohaljnleeiaaGreatDoorJmp
namespace Go.Proofs.YtblohaljnleeiaaGreatDoor

/-- A mark that stands outside of Strings. -/
def jmk (c : UInt8) : Bool := c == 91 || c == 93 || c == 123 || c == 125 || c == 44 || c == 58
/-- A text with blanks around its marks; bl: the blanks one by one; w: within a String? -/
def jspr (bl : Nat → List UInt8) : Bool → Nat → List UInt8 → List UInt8
  | _, _, [] => []
  | false, n, c :: r => if jmk c then bl n ++ c :: (bl (n + 1) ++ jspr bl false (n + 2) r) else if c = 34 then 34 :: jspr bl true n r else c :: jspr bl false n r
  | true, n, c :: r => if c = 92 then (match r with
      | [] => [92]
      | d :: r' => 92 :: d :: jspr bl true n r') else if c = 34 then 34 :: jspr bl false n r else c :: jspr bl true n r
theorem spr_mark {bl : Nat → List UInt8} {c : UInt8} (h : jmk c = true) (n : Nat) (r : List UInt8) : jspr bl false n (c :: r) = bl n ++ c :: (bl (n + 1) ++ jspr bl false (n + 2) r) := by
  rw [jspr.eq_def]; simp only [h, if_true]
theorem spr_else {bl : Nat → List UInt8} {c : UInt8} (h : jmk c = false) (h2 : c ≠ 34) (n : Nat) (r : List UInt8) : jspr bl false n (c :: r) = c :: jspr bl false n r := by
  rw [jspr.eq_def]; simp only [h, h2, if_false, Bool.false_eq_true]
theorem spr_plain {bl : Nat → List UInt8} : ∀ {s : List UInt8}, (∀ c ∈ s, jmk c = false ∧ c ≠ 34) → ∀ (n : Nat) (r : List UInt8), jspr bl false n (s ++ r) = s ++ jspr bl false n r
  | [], _, _, _ => rfl
  | c :: s, h, n, r => by
    rw [List.cons_append, spr_else (h c (by simp)).1 (h c (by simp)).2, spr_plain (fun x hx => h x (by simp [hx]))]; rfl
theorem spr_in {bl : Nat → List UInt8} {c : UInt8} (h : c ≠ 92) (h2 : c ≠ 34) (n : Nat) (r : List UInt8) : jspr bl true n (c :: r) = c :: jspr bl true n r := by
  rw [jspr.eq_def]; simp only [h, h2, if_false]
theorem spr_esc {bl : Nat → List UInt8} (d : UInt8) (n : Nat) (r : List UInt8) : jspr bl true n (92 :: d :: r) = 92 :: d :: jspr bl true n r := by
  rw [jspr.eq_def]; simp only [if_true]
theorem hex_plain : ∀ n : Fin 16, jhex n.val ≠ 92 ∧ jhex n.val ≠ 34 := by decide +kernel
theorem spr_char {bl : Nat → List UInt8} (c : UInt8) (n : Nat) (r : List UInt8) : jspr bl true n (jesc c ++ r) = jesc c ++ jspr bl true n r := by
  by_cases h1 : c = 34
  · subst h1; exact spr_esc 34 n r
  by_cases h2 : c = 92
  · subst h2; exact spr_esc 92 n r
  by_cases h3 : c = 8
  · subst h3; exact spr_esc 98 n r
  by_cases h4 : c = 12
  · subst h4; exact spr_esc 102 n r
  by_cases h5 : c = 10
  · subst h5; exact spr_esc 110 n r
  by_cases h6 : c = 13
  · subst h6; exact spr_esc 114 n r
  by_cases h7 : c = 9
  · subst h7; exact spr_esc 116 n r
  have he : jesc c = if c.toNat < 32 then [92, 117, 48, 48, jhex (c.toNat / 16), jhex (c.toNat % 16)] else [c] := by
    unfold jesc; rw [if_neg h1, if_neg h2, if_neg h3, if_neg h4, if_neg h5, if_neg h6, if_neg h7]
  rw [he]
  split
  · have a1 := hex_plain ⟨c.toNat / 16, by omega⟩
    have a2 := hex_plain ⟨c.toNat % 16, by omega⟩
    simp only at a1 a2
    show jspr bl true n (92 :: 117 :: 48 :: 48 :: jhex (c.toNat / 16) :: jhex (c.toNat % 16) :: r) = _
    rw [spr_esc, spr_in (by decide) (by decide), spr_in (by decide) (by decide), spr_in a1.1 a1.2, spr_in a2.1 a2.2]
    rfl
  · exact spr_in h2 h1 n r
theorem spr_chars {bl : Nat → List UInt8} : ∀ (s : List UInt8) (n : Nat) (r : List UInt8), jspr bl true n (s.flatMap jesc ++ r) = s.flatMap jesc ++ jspr bl true n r
  | [], _, _ => rfl
  | c :: s, n, r => by rw [List.flatMap_cons, List.append_assoc, spr_char, spr_chars s, List.append_assoc]
theorem spr_quote {bl : Nat → List UInt8} (s : List UInt8) (n : Nat) (r : List UInt8) : jspr bl false n (jquote s ++ r) = jquote s ++ jspr bl false n r := by
  unfold jquote
  rw [List.cons_append, List.append_assoc, List.singleton_append]
  have e1 : ∀ u, jspr bl false n (34 :: u) = 34 :: jspr bl true n u := fun u => by rw [jspr.eq_def]; rfl
  have e2 : ∀ u, jspr bl true n (34 :: u) = 34 :: jspr bl false n u := fun u => by rw [jspr.eq_def]; rfl
  rw [e1, spr_chars, e2]
  simp
theorem Bk.app {a b : List UInt8} (ha : Bk a) (hb : Bk b) : Bk (a ++ b) := fun c hc => by
  rw [List.mem_append] at hc
  exact hc.elim (ha c) (hb c)
theorem ArrT.more {e : UInt8} {b : List UInt8} (hb : Bk b) : ∀ {ps : List (List UInt8 → Prop)} {t : List UInt8}, ArrT e ps t → ArrT e ps (b ++ t)
  | [], _, ⟨b1, h1, h2⟩ => ⟨b ++ b1, hb.app h1, by rw [h2, List.append_assoc]⟩
  | _ :: _, _, ⟨b1, b2, x, t', h1, h2, h3, h4, h5⟩ => ⟨b ++ b1, b2, x, t', hb.app h1, h2, h3, h4, by rw [h5]; simp⟩
/-- A value's text, spread: blanks, the value with blanks, blanks. -/
def SprJ (bl : Nat → List UInt8) (j : Jsn) : Prop := ∀ (n : Nat) (r : List UInt8), ∃ b t b' m, Bk b ∧ Bk b' ∧ JB j t ∧ jspr bl false n (jtext j ++ r) = b ++ t ++ b' ++ jspr bl false m r
theorem spr_tail {bl : Nat → List UInt8} (hbl : ∀ n, Bk (bl n)) {e : UInt8} (he : jmk e = true) : ∀ (l : List Jsn), (∀ x ∈ l, SprJ bl x) → ∀ (n : Nat) (r : List UInt8), ∃ t b m, ArrT e (l.map JB) t ∧ Bk b ∧ jspr bl false n (jitems false (l.map jtext) ++ e :: r) = t ++ b ++ jspr bl false m r
  | [], _, n, r => ⟨bl n ++ [e], bl (n + 1), n + 2, ⟨bl n, hbl n, rfl⟩, hbl _, by
      show jspr bl false n (e :: r) = _
      rw [spr_mark he]; simp⟩
  | x :: l, h, n, r => by
    obtain ⟨b1, t1, b2, m, h1, h2, h3, h4⟩ := h x (by simp) (n + 2) (jitems false (l.map jtext) ++ e :: r)
    obtain ⟨t2, b3, k, h5, h6, h7⟩ := spr_tail hbl he l (fun y hy => h y (by simp [hy])) m r
    refine ⟨bl n ++ 44 :: ((bl (n + 1) ++ b1) ++ t1 ++ (b2 ++ t2)), b3, k, ⟨bl n, bl (n + 1) ++ b1, t1, b2 ++ t2, hbl n, (hbl _).app h1, h3, h5.more h2, rfl⟩, h6, ?_⟩
    have e1 : jitems false (List.map jtext (x :: l)) ++ e :: r = 44 :: (jtext x ++ (jitems false (l.map jtext) ++ e :: r)) := by simp [jitems]
    rw [e1, spr_mark (by decide), h4, h7]
    simp
theorem spr_mem {bl : Nat → List UInt8} (hbl : ∀ n, Bk (bl n)) {x : Jsn} (h : SprJ bl x) (nm : ByteArray) (n : Nat) (r : List UInt8) : ∃ t b m, MemB nm (JB x) t ∧ Bk b ∧ jspr bl false n ((jquote nm.data.toList ++ 58 :: jtext x) ++ r) = t ++ b ++ jspr bl false m r := by
  obtain ⟨b1, t1, b2, m, h1, h2, h3, h4⟩ := h (n + 2) r
  refine ⟨jquote nm.data.toList ++ bl n ++ 58 :: ((bl (n + 1) ++ b1) ++ t1), b2, m, ⟨bl n, bl (n + 1) ++ b1, t1, hbl n, (hbl _).app h1, h3, rfl⟩, h2, ?_⟩
  rw [List.append_assoc, spr_quote, List.cons_append, spr_mark (by decide), h4]
  simp
theorem spr_tailO {bl : Nat → List UInt8} (hbl : ∀ n, Bk (bl n)) {e : UInt8} (he : jmk e = true) : ∀ (ns : List ByteArray) (l : List Jsn), ns.length = l.length → (∀ x ∈ l, SprJ bl x) → ∀ (n : Nat) (r : List UInt8), ∃ t b m, ArrT e (List.zipWith MemB ns (l.map JB)) t ∧ Bk b ∧ jspr bl false n (jpairs false ns (l.map jtext) ++ e :: r) = t ++ b ++ jspr bl false m r
  | [], [], _, _, n, r => ⟨bl n ++ [e], bl (n + 1), n + 2, ⟨bl n, hbl n, rfl⟩, hbl _, by
      show jspr bl false n (e :: r) = _
      rw [spr_mark he]; simp⟩
  | [], _ :: _, h, _, _, _ => by simp at h
  | _ :: _, [], h, _, _, _ => by simp at h
  | nm :: ns, x :: l, hl, h, n, r => by
    obtain ⟨t1, b2, m, h3, h2, h4⟩ := spr_mem hbl (h x (by simp)) nm (n + 2) (jpairs false ns (l.map jtext) ++ e :: r)
    obtain ⟨t2, b3, k, h5, h6, h7⟩ := spr_tailO hbl he ns l (by simpa using hl) (fun y hy => h y (by simp [hy])) m r
    refine ⟨bl n ++ 44 :: (bl (n + 1) ++ t1 ++ (b2 ++ t2)), b3, k, ⟨bl n, bl (n + 1), t1, b2 ++ t2, hbl n, hbl _, h3, h5.more h2, rfl⟩, h6, ?_⟩
    have e1 : jpairs false (nm :: ns) (List.map jtext (x :: l)) ++ e :: r = 44 :: ((jquote nm.data.toList ++ 58 :: jtext x) ++ (jpairs false ns (l.map jtext) ++ e :: r)) := by simp [jpairs]
    rw [e1, spr_mark (by decide), h4, h7]
    simp
theorem num_plain {c : UInt8} (h : jnumc c = true) : jmk c = false ∧ c ≠ 34 := by
  have := num_head h
  obtain ⟨h1, h2, h3, h4, h5, h6, h7, h8, h9, h10⟩ := this
  have h11 : c ≠ 58 := fun e => by subst e; revert h; decide
  unfold jmk
  simp [h5, h8, h6, h9, h10, h11, h4]
theorem spr_all {Own : List UInt8 → List UInt8 × Int} {Val : List UInt8 → Bool} (hO : OwnNumJ Own) {bl : Nat → List UInt8} (hbl : ∀ n, Bk (bl n)) : ∀ (j : Jsn), jform Own Val j = true → SprJ bl j := by
  refine Jsn.ind fun k s ns l ih hf n r => ?_
  have hfj := hf
  have htx := JB_text ⟨k, s, ns, l⟩ hf
  have nb : Bk [] := fun _ h => (nomatch h)
  have lit : ∀ p : List UInt8, (∀ c ∈ p, jmk c = false ∧ c ≠ 34) → jtext ⟨k, s, ns, l⟩ = p → ∃ b t b' m, Bk b ∧ Bk b' ∧ JB ⟨k, s, ns, l⟩ t ∧ jspr bl false n (jtext ⟨k, s, ns, l⟩ ++ r) = b ++ t ++ b' ++ jspr bl false m r := fun p hp he =>
    ⟨[], p, [], n, nb, nb, by rw [← he]; exact htx, by rw [he, spr_plain hp]; simp⟩
  rw [jform_eq] at hf
  by_cases h1 : k = 1
  · subst h1; exact lit [110, 117, 108, 108] (by decide) (by rw [jtext_eq]; rfl)
  by_cases h2 : k = 2
  · subst h2; exact lit [116, 114, 117, 101] (by decide) (by rw [jtext_eq]; rfl)
  by_cases h3 : k = 3
  · subst h3; exact lit [102, 97, 108, 115, 101] (by decide) (by rw [jtext_eq]; rfl)
  rw [if_neg (by omega)] at hf
  by_cases h4 : k = 4
  · subst h4
    rw [if_pos rfl] at hf
    simp only [Bool.and_eq_true, List.isEmpty_iff, decide_eq_true_eq] at hf
    exact lit s.data.toList (fun c hc => num_plain ((hO _ hf.1.1).2 c hc)) (by rw [jtext_eq]; rfl)
  rw [if_neg h4] at hf
  by_cases h5 : k = 5
  · subst h5
    have he : jtext ⟨5, s, ns, l⟩ = jquote s.data.toList := by rw [jtext_eq]; rfl
    exact ⟨[], _, [], n, nb, nb, htx, by rw [he, spr_quote]; simp⟩
  rw [if_neg h5] at hf
  by_cases h6 : k = 6
  · subst h6
    rw [if_pos rfl] at hf
    simp only [Bool.and_eq_true] at hf
    have hk : ∀ x ∈ l, SprJ bl x := fun x hx => ih x hx (List.all_eq_true.1 hf.2 x hx)
    have he : jtext ⟨6, s, ns, l⟩ ++ r = 91 :: (jitems true (l.map jtext) ++ 93 :: r) := by rw [jtext_eq]; simp [jtext1]
    rw [he, spr_mark (by decide)]
    cases l with
    | nil =>
      refine ⟨bl n, 91 :: (bl (n + 1) ++ bl (n + 2) ++ [93]), bl (n + 3), n + 4, hbl _, hbl _, ?_, ?_⟩
      · rw [JB_eq, if_pos rfl]
        exact ⟨_, ⟨_, (hbl (n + 1)).app (hbl (n + 2)), rfl⟩, rfl⟩
      · show bl n ++ 91 :: (bl (n + 1) ++ jspr bl false (n + 2) (93 :: r)) = _
        rw [spr_mark (by decide)]; simp
    | cons x l =>
      obtain ⟨b1, t1, b2, m, q1, q2, q3, q4⟩ := hk x (by simp) (n + 2) (jitems false (l.map jtext) ++ 93 :: r)
      obtain ⟨t2, b3, m2, q5, q6, q7⟩ := spr_tail hbl (e := 93) (by decide) l (fun y hy => hk y (by simp [hy])) m r
      have e1 : jitems true (List.map jtext (x :: l)) ++ 93 :: r = jtext x ++ (jitems false (l.map jtext) ++ 93 :: r) := by simp [jitems]
      rw [e1, q4, q7]
      refine ⟨bl n, 91 :: ((bl (n + 1) ++ b1) ++ t1 ++ (b2 ++ t2)), b3, m2, hbl _, q6, ?_, by simp⟩
      rw [JB_eq, if_pos rfl]
      exact ⟨_, ⟨_, _, _, (hbl _).app q1, q3, q5.more q2, rfl⟩, rfl⟩
  rw [if_neg h6] at hf
  by_cases h7 : k = 7
  · subst h7
    rw [if_pos rfl] at hf
    simp only [Bool.and_eq_true, decide_eq_true_eq] at hf
    have hk : ∀ x ∈ l, SprJ bl x := fun x hx => ih x hx (List.all_eq_true.1 hf.2 x hx)
    have hnl := hf.1.1.2
    have he : jtext ⟨7, s, ns, l⟩ ++ r = 123 :: (jpairs true ns (l.map jtext) ++ 125 :: r) := by rw [jtext_eq]; simp [jtext1]
    rw [he, spr_mark (by decide)]
    cases l with
    | nil =>
      obtain rfl : ns = [] := List.eq_nil_of_length_eq_zero hnl
      refine ⟨bl n, 123 :: (bl (n + 1) ++ bl (n + 2) ++ [125]), bl (n + 3), n + 4, hbl _, hbl _, ?_, ?_⟩
      · rw [JB_eq, if_neg (by decide), if_pos rfl]
        exact ⟨_, ⟨_, (hbl (n + 1)).app (hbl (n + 2)), rfl⟩, rfl⟩
      · show bl n ++ 123 :: (bl (n + 1) ++ jspr bl false (n + 2) (125 :: r)) = _
        rw [spr_mark (by decide)]; simp
    | cons x l =>
      cases ns with
      | nil => simp at hnl
      | cons nm ns =>
        obtain ⟨t1, b2, m, q3, q2, q4⟩ := spr_mem hbl (hk x (by simp)) nm (n + 2) (jpairs false ns (l.map jtext) ++ 125 :: r)
        obtain ⟨t2, b3, m2, q5, q6, q7⟩ := spr_tailO hbl (e := 125) (by decide) ns l (by simpa using hnl) (fun y hy => hk y (by simp [hy])) m r
        have e1 : jpairs true (nm :: ns) (List.map jtext (x :: l)) ++ 125 :: r = (jquote nm.data.toList ++ 58 :: jtext x) ++ (jpairs false ns (l.map jtext) ++ 125 :: r) := by simp [jpairs]
        rw [e1, q4, q7]
        refine ⟨bl n, 123 :: (bl (n + 1) ++ t1 ++ (b2 ++ t2)), b3, m2, hbl _, q6, ?_, by simp⟩
        rw [JB_eq, if_neg (by decide), if_pos rfl]
        exact ⟨_, ⟨_, _, _, hbl _, q3, q5.more q2, rfl⟩, rfl⟩
  · rw [if_neg h7] at hf
    cases hf
theorem spr_len {bl : Nat → List UInt8} {q : Nat} (hq : ∀ n, (bl n).length ≤ q) : ∀ (k : Nat) (s : List UInt8), s.length ≤ k → ∀ (w : Bool) (n : Nat), (jspr bl w n s).length ≤ (2 * q + 1) * s.length
  | _, [], _, w, _ => by cases w <;> simp [jspr]
  | 0, _ :: _, h, _, _ => by simp at h
  | k + 1, c :: r, h, false, n => by
    simp only [List.length_cons] at h ⊢
    have h2 := hq n
    have h3 := hq (n + 1)
    rw [jspr.eq_def]
    simp only
    split
    · have := spr_len hq k r (by omega) false (n + 2)
      simp
      rw [Nat.mul_add]
      omega
    · split
      · have := spr_len hq k r (by omega) true n
        simp
        rw [Nat.mul_add]
        omega
      · have := spr_len hq k r (by omega) false n
        simp
        rw [Nat.mul_add]
        omega
  | k + 1, c :: r, h, true, n => by
    simp only [List.length_cons] at h ⊢
    rw [jspr.eq_def]
    simp only
    split
    · cases r with
      | nil => simp
      | cons d r =>
        simp only [List.length_cons] at h ⊢
        have := spr_len hq k r (by omega) true n
        rw [Nat.mul_add, Nat.mul_add]
        omega
    · split
      · have := spr_len hq k r (by omega) false n
        simp
        rw [Nat.mul_add]
        omega
      · have := spr_len hq k r (by omega) true n
        simp
        rw [Nat.mul_add]
        omega
/-- Blanks around the marks, and around it all, change nothing of what is read. -/
theorem jparse_spr {Own : List UInt8 → List UInt8 × Int} {Val : List UInt8 → Bool} (hO : OwnNumJ Own) {j : Jsn} (hc : jcheck Own Val j = 0) {bl : Nat → List UInt8} (hbl : ∀ n, Bk (bl n)) {b b' : List UInt8} (hb : Bk b) (hb' : Bk b') (hl : (b ++ jspr bl false 0 (jtext j) ++ b').length ≤ 262144) : jparse Own Val (b ++ jspr bl false 0 (jtext j) ++ b') = .ok j := by
  obtain ⟨b1, t, b2, m, h1, h2, h3, h4⟩ := spr_all hO hbl j (jcheck_parts hc).2.2.1 0 []
  rw [List.append_nil] at h4
  have e : jspr bl false m [] = [] := by rw [jspr.eq_def]
  rw [e, List.append_nil] at h4
  rw [h4] at hl ⊢
  have e2 : b ++ (b1 ++ t ++ b2) ++ b' = (b ++ b1) ++ t ++ (b2 ++ b') := by simp
  rw [e2] at hl ⊢
  exact jparse_JB hO hc (hb.app h1) (h2.app hb') h3 hl
end Go.Proofs.YtblohaljnleeiaaGreatDoor
