/-
  What is read may be printed; what is printed, with blanks, is read as it was. No program.
-/
import Derived.Test.YtlnkjacbdolhnaaGreatDoorM05
import Derived.Test.YtlnkjacbdolhnaaGreatDoorM03
import Derived.Lib.ItoaMem
import Derived.Lib.ValidLaws
namespace Go.Proofs.YtlnkjacbdolhnaaGreatDoor

theorem jcounts_one (x : Jsn) : jcounts [x] = jcount x := by rw [jcounts_cons, jcounts_nil]; rfl
theorem jdeeps_one (x : Jsn) : jdeeps [x] = jdeep x := by rw [jdeeps_cons, jdeeps_nil]; exact Nat.max_zero _
/-- What a value is that was read. -/
structure GoodJ (Own : List UInt8 → List UInt8 × Int) (Val : List UInt8 → Bool) (f it : Nat) (j : Jsn) (it' : Nat) : Prop where
  form : jform Own Val j = true
  twice : jtwice j = false
  deep : jdeep j ≤ f
  count : it' = it + jcount j
  most : it' ≤ 65536
def OwnOwn (Own : List UInt8 → List UInt8 × Int) : Prop := ∀ l, (Own l).2 = 0 → Own (Own l).1 = ((Own l).1, 0)
theorem jStr_val (Val : List UInt8 → Bool) : ∀ (k : Nat) (acc s t r : List UInt8), jstrF Val k acc s = some (t, r) → Val t = true
  | 0, _, _, _, _, h => by cases h
  | k + 1, acc, [], _, _, h => by cases h
  | k + 1, acc, c :: s, t, r, h => by
    unfold jstrF at h
    split at h
    · split at h
      · rename_i hv; injection h with h; injection h with h1 h2; subst h1; exact hv
      · cases h
    · split at h
      · split at h
        · cases h
        · exact jStr_val Val k _ _ _ _ h
      · split at h
        · cases h
        · exact jStr_val Val k _ _ _ _ h
theorem dupB_snoc (b : ByteArray) : ∀ (n : List ByteArray), dupB n = false → (n.any fun x => decide (x = b)) = false → dupB (n ++ [b]) = false
  | [], _, _ => rfl
  | x :: r, h, hb => by
    unfold dupB at h
    rw [Bool.or_eq_false_iff] at h
    rw [List.any_cons, Bool.or_eq_false_iff] at hb
    rw [List.cons_append]
    unfold dupB
    rw [dupB_snoc b r h.2 hb.2, List.any_append, h.1]
    simp only [Bool.false_or, Bool.or_false, List.any_cons, List.any_nil]
    have := hb.1
    rw [decide_eq_false_iff_not] at this ⊢
    exact fun e => this e.symm
theorem toList_ofL (l : List UInt8) : (ofL l).data.toList = l := by unfold ofL; simp
theorem jval_good {Own : List UInt8 → List UInt8 × Int} {Val : List UInt8 → Bool} (hOO : OwnOwn Own) : ∀ (f it : Nat) (s : List UInt8) (j : Jsn) (it' : Nat) (r : List UInt8), jval Own Val f it s = .ok (j, it', r) → GoodJ Own Val f it j it'
  | 0, _, _, _, _, _, h => by cases h
  | f + 1, it, s, j, it', r, h => by
    have leaf : ∀ (k : Int) (t : ByteArray), jform Own Val ⟨k, t, [], []⟩ = true → it + 1 ≤ 65536 → GoodJ Own Val (f + 1) it ⟨k, t, [], []⟩ (it + 1) := fun k t hf hm =>
      ⟨hf, by rw [jtwice_eq]; rfl, by rw [jdeep_eq, jdeeps_nil]; omega, by rw [jcount_eq, jcounts_nil], hm⟩
    unfold jval at h
    split at h
    · cases h
    · rename_i hm
      split at h
      · injection h with h; injection h with h1 h2; injection h2 with h2 h3; subst h1; subst h2
        exact leaf _ _ (by rw [jform_eq]; rfl) (by omega)
      · split at h
        · injection h with h; injection h with h1 h2; injection h2 with h2 h3; subst h1; subst h2
          exact leaf _ _ (by rw [jform_eq]; rfl) (by omega)
        · split at h
          · injection h with h; injection h with h1 h2; injection h2 with h2 h3; subst h1; subst h2
            exact leaf _ _ (by rw [jform_eq]; rfl) (by omega)
          · split at h
            · split at h
              · cases h
              · rename_i hs
                injection h with h; injection h with h1 h2; injection h2 with h2 h3; subst h1; subst h2
                have := jStr_val Val _ _ _ _ _ hs
                exact leaf _ _ (by rw [jform_eq, if_neg (by decide), if_neg (by decide), if_pos rfl, toList_ofL, this]; rfl) (by omega)
            · split at h
              · split at h
                · cases h
                · rename_i st r' hl
                  injection h with h; injection h with h1 h2; injection h2 with h2 h3; subst h1; subst h2
                  have hp := jList_items (P := fun st : SA => (∀ x ∈ st.2, jform Own Val x = true ∧ jtwice x = false) ∧ jdeeps st.2 ≤ f ∧ st.1 = it + 1 + jcounts st.2 ∧ st.1 ≤ 65536) (shorterA f) (fun st s st' s' ho hp => ?_) 93 hl ⟨fun _ hx => (nomatch hx), Nat.zero_le _, rfl, by omega⟩
                  · obtain ⟨p1, p2, p3, p4⟩ := hp
                    refine ⟨?_, ?_, by rw [jdeep_eq]; omega, by rw [jcount_eq]; omega, p4⟩
                    · rw [jform_eq, if_neg (by decide), if_neg (by decide), if_neg (by decide), if_pos rfl, toList_ofL]
                      simp only [List.isEmpty_nil, Bool.true_and]
                      exact List.all_eq_true.2 fun x hx => (p1 x hx).1
                    · rw [jtwice_eq]
                      simp only [dupB, Bool.false_or]
                      exact List.any_eq_false.2 fun x hx => by rw [(p1 x hx).2]; decide
                  · unfold jitA at ho
                    split at ho
                    · cases ho
                    · rename_i hv
                      have hg := jval_good hOO f _ _ _ _ _ hv
                      injection ho with ho
                      injection ho with h5 h6
                      subst h5
                      obtain ⟨p1, p2, p3, p4⟩ := hp
                      have := hg.count
                      have := hg.deep
                      refine ⟨fun x hx => ?_, ?_, ?_, hg.most⟩
                      · rw [List.mem_append, List.mem_singleton] at hx
                        rcases hx with hx | rfl
                        · exact p1 x hx
                        · exact ⟨hg.form, hg.twice⟩
                      · simp only
                        rw [jdeeps_app, jdeeps_one]
                        omega
                      · simp only
                        rw [jcounts_app, jcounts_one]
                        omega
              · split at h
                · split at h
                  · cases h
                  · rename_i st r' hl
                    injection h with h; injection h with h1 h2; injection h2 with h2 h3; subst h1; subst h2
                    have hp := jList_items (P := fun st : SO => (∀ x ∈ st.2.2, jform Own Val x = true ∧ jtwice x = false) ∧ jdeeps st.2.2 ≤ f ∧ st.1 = it + 1 + jcounts st.2.2 ∧ st.1 ≤ 65536 ∧ st.2.1.length = st.2.2.length ∧ (∀ b ∈ st.2.1, Val b.data.toList = true) ∧ dupB st.2.1 = false) (shorterO f) (fun st s st' s' ho hp => ?_) 125 hl ⟨fun _ hx => (nomatch hx), Nat.zero_le _, rfl, by simp only; omega, rfl, fun _ hx => (nomatch hx), rfl⟩
                    · obtain ⟨p1, p2, p3, p4, p5, p6, p7⟩ := hp
                      refine ⟨?_, ?_, by rw [jdeep_eq]; omega, by rw [jcount_eq]; omega, p4⟩
                      · rw [jform_eq, if_neg (by decide), if_neg (by decide), if_neg (by decide), if_neg (by decide), if_pos rfl, toList_ofL]
                        simp only [List.isEmpty_nil, Bool.true_and, p5, decide_true]
                        rw [Bool.and_eq_true]
                        exact ⟨List.all_eq_true.2 fun x hx => p6 x hx, List.all_eq_true.2 fun x hx => (p1 x hx).1⟩
                      · rw [jtwice_eq, p7, Bool.false_or]
                        exact List.any_eq_false.2 fun x hx => by rw [(p1 x hx).2]; decide
                    · unfold jitO at ho
                      split at ho
                      · split at ho
                        · cases ho
                        · rename_i hs
                          split at ho
                          · cases ho
                          · rename_i hnd
                            split at ho
                            · split at ho
                              · cases ho
                              · rename_i hv
                                have hg := jval_good hOO f _ _ _ _ _ hv
                                injection ho with ho
                                injection ho with h5 h6
                                subst h5
                                obtain ⟨p1, p2, p3, p4, p5, p6, p7⟩ := hp
                                have := hg.count
                                have := hg.deep
                                have hvv := jStr_val Val _ _ _ _ _ hs
                                refine ⟨fun x hx => ?_, ?_, ?_, hg.most, ?_, fun b hb => ?_, ?_⟩
                                · rw [List.mem_append, List.mem_singleton] at hx
                                  rcases hx with hx | rfl
                                  · exact p1 x hx
                                  · exact ⟨hg.form, hg.twice⟩
                                · simp only
                                  rw [jdeeps_app, jdeeps_one]
                                  omega
                                · simp only
                                  rw [jcounts_app, jcounts_one]
                                  omega
                                · simp only [List.length_append, List.length_singleton]
                                  omega
                                · rw [List.mem_append, List.mem_singleton] at hb
                                  rcases hb with hb | rfl
                                  · exact p6 b hb
                                  · rw [toList_ofL]; exact hvv
                                · exact dupB_snoc _ _ p7 (Bool.eq_false_iff.2 hnd)
                            · cases ho
                      · cases ho
                · split at h
                  · rename_i ho
                    injection h with h; injection h with h1 h2; injection h2 with h2 h3; subst h1; subst h2
                    exact leaf _ _ (by rw [jform_eq, if_neg (by decide), if_pos rfl, toList_ofL, hOO _ ho]; simp) (by omega)
                  · cases h
/-- What is read may be. -/
theorem jparse_check {Own : List UInt8 → List UInt8 × Int} {Val : List UInt8 → Bool} (hOO : OwnOwn Own) {s : List UInt8} {j : Jsn} (h : jparse Own Val s = .ok j) : jcheck Own Val j = 0 := by
  unfold jparse at h
  split at h
  · cases h
  · split at h
    · cases h
    · rename_i hv
      have hg := jval_good hOO _ _ _ _ _ _ hv
      split at h
      · injection h with h
        subst h
        have := hg.count
        have := hg.most
        have := hg.deep
        unfold jcheck
        rw [if_neg (by omega), if_neg (by omega), if_neg (by rw [hg.form]; decide), if_neg (by rw [hg.twice]; decide)]
      · cases h
end Go.Proofs.YtlnkjacbdolhnaaGreatDoor


/-
  The own form of a number is a JSON number, and its own own form; the first example, read and printed. Plain.
-/
namespace Go.Proofs.YtlnkjacbdolhnaaGreatDoor

theorem ownL_ok {l : List UInt8} (h : (ownL l).2 = 0) : ∃ x, Nrm x ∧ (ownL l).1 = formL x := by
  unfold ownL at h ⊢
  split at h
  · rename_i h2
    rw [if_pos h2]
    exact ⟨_, get_nrm l, rfl⟩
  · rename_i h2
    exact absurd h h2
theorem ownL_form {x : Wth} (h : Nrm x) : ownL (formL x) = (formL x, 0) := by
  unfold ownL
  rw [get_form x h]
  rfl
theorem own_own : OwnOwn ownL := fun l h => by
  obtain ⟨x, hx, e⟩ := ownL_ok h
  rw [e]
  exact ownL_form hx
/-- The first example, its text, and its text as it is printed. -/
def exJ : Jsn := ⟨7, ⟨#[]⟩, [⟨#[97]⟩, ⟨#[195, 169]⟩], [⟨6, ⟨#[]⟩, [], [⟨4, ⟨#[49, 53, 101, 45, 49]⟩, [], []⟩, ⟨1, ⟨#[]⟩, [], []⟩]⟩, ⟨5, ⟨#[240, 157, 132, 158]⟩, [], []⟩]⟩
def exS : ByteArray := ⟨#[123, 32, 34, 97, 34, 32, 58, 32, 91, 49, 46, 53, 48, 44, 32, 110, 117, 108, 108, 93, 44, 32, 34, 92, 117, 48, 48, 101, 57, 34, 32, 58, 32, 34, 92, 117, 100, 56, 51, 52, 92, 117, 100, 100, 49, 101, 34, 32, 125]⟩
def exT : ByteArray := ⟨#[123, 34, 97, 34, 58, 91, 49, 53, 101, 45, 49, 44, 110, 117, 108, 108, 93, 44, 34, 195, 169, 34, 58, 34, 240, 157, 132, 158, 34, 125]⟩
theorem ex_parse : jparse ownL Lib.validD exS.data.toList = .ok exJ := by kernel_rfl
theorem ex_check : jcheck ownL Lib.validD exJ = 0 := jparse_check own_own ex_parse
theorem ex_text : jtext exJ = exT.data.toList := by
  unfold exJ
  simp only [jtext_eq, List.map_cons, List.map_nil]
  kernel_rfl
theorem ex_print : jprint ownL Lib.validD exJ = (exT.data.toList, 0) := by
  unfold jprint
  rw [ex_check, ex_text, if_neg (by decide), if_neg (by decide +kernel)]
theorem ex_bulk : jbulk exJ ≤ 1000 := by
  unfold exJ
  simp only [jbulk_eq, jbulks, List.map_cons, List.map_nil]
  decide +kernel
end Go.Proofs.YtlnkjacbdolhnaaGreatDoor


/-
  The examples of JsonNames, as plain facts about jparse, jcheck and jprint. No program.
-/
namespace Go.Proofs.YtlnkjacbdolhnaaGreatDoor

def jcode (r : Except Int Jsn) : Int := match r with
  | .error e => e
  | .ok _ => 0
def manyB (n : Nat) (l : List UInt8) : List UInt8 := (List.replicate n l).flatten
theorem manyB_zero (l : List UInt8) : manyB 0 l = [] := rfl
theorem manyB_succ (n : Nat) (l : List UInt8) : manyB (n + 1) l = l ++ manyB n l := rfl
theorem manyB_snoc (n : Nat) (l : List UInt8) : manyB (n + 1) l = manyB n l ++ l := by
  induction n with
  | zero => simp [manyB_zero, manyB_succ]
  | succ n ih => rw [manyB_succ, ih, ← List.append_assoc, ← manyB_succ, ih]
theorem manyB_len (n : Nat) (l : List UInt8) : (manyB n l).length = n * l.length := by
  induction n with
  | zero => simp [manyB_zero]
  | succ n ih => rw [manyB_succ, List.length_append, ih, Nat.add_mul, Nat.one_mul, Nat.add_comm]
theorem manyB_one (n : Nat) (c : UInt8) : manyB n [c] = List.replicate n c := by
  induction n with
  | zero => rfl
  | succ n ih => rw [manyB_succ, ih, List.replicate_succ]; rfl
def oneJ : Jsn := ⟨4, ofL [49], [], []⟩
theorem val_one (f it : Nat) (r : List UInt8) (h : it < 65536) (c : UInt8) (hc : jnumc c = false) : jval ownL Lib.validD (f + 1) it (49 :: c :: r) = .ok (oneJ, it + 1, c :: r) := by
  unfold jval
  have e1 : (49 :: c :: r).takeWhile jnumc = [49] := by
    rw [List.takeWhile_cons, if_pos (by decide), List.takeWhile_cons, if_neg (by simp [hc])]
  have e2 : (49 :: c :: r).dropWhile jnumc = c :: r := by
    rw [List.dropWhile_cons, if_pos (by decide), List.dropWhile_cons, if_neg (by simp [hc])]
  have e3 : (ownL [49]) = ([49], 0) := by kernel_rfl
  rw [if_neg (by omega), if_neg (by simp), if_neg (by simp), if_neg (by simp), if_neg (by simp), if_neg (by simp), if_neg (by simp), e1, e2, e3, if_pos rfl]
  rfl
abbrev itA1 (f : Nat) : SA → List UInt8 → Except Int (SA × List UInt8) := jitA fun it s => jval ownL Lib.validD f it s
theorem shortA (f : Nat) : Shorter (itA1 f) := by
  intro st s st' s' h
  unfold itA1 jitA at h
  split at h
  · cases h
  · rename_i hv
    injection h with h
    injection h with h1 h2
    subst h2
    exact (jval_shorter _ _ _ _ _ _ _ _ hv).1
theorem itA_ok {f it it' : Nat} {acc : List Jsn} {s r : List UInt8} {j : Jsn} (h : jval ownL Lib.validD f it s = .ok (j, it', r)) : itA1 f (it, acc) s = .ok ((it', acc ++ [j]), r) := by
  unfold itA1 jitA
  dsimp only
  rw [h]
theorem itA_err {f it : Nat} {acc : List Jsn} {s : List UInt8} {e : Int} (h : jval ownL Lib.validD f it s = .error e) : itA1 f (it, acc) s = .error e := by
  unfold itA1 jitA
  dsimp only
  rw [h]
theorem loop_ones (f : Nat) (tail : List UInt8) : ∀ (m it : Nat) (acc : List Jsn), it + m ≤ 65536 → jLoop (itA1 (f + 1)) 93 (it, acc) (manyB m [49, 44] ++ tail) = jLoop (itA1 (f + 1)) 93 (it + m, acc ++ List.replicate m oneJ) tail := by
  intro m
  induction m with
  | zero => intro it acc _; simp [manyB_zero]
  | succ m ih =>
    intro it acc h
    rw [manyB_succ, jLoop_eq (shortA (f + 1))]
    have e1 : jblk ([49, 44] ++ manyB m [49, 44] ++ tail) = 49 :: 44 :: (manyB m [49, 44] ++ tail) := rfl
    have e2 : itA1 (f + 1) (it, acc) (49 :: 44 :: (manyB m [49, 44] ++ tail)) = .ok ((it + 1, acc ++ [oneJ]), 44 :: (manyB m [49, 44] ++ tail)) := itA_ok (val_one f it _ (by omega) 44 (by decide))
    have e3 : jblk (44 :: (manyB m [49, 44] ++ tail)) = 44 :: (manyB m [49, 44] ++ tail) := rfl
    rw [e1, e2]
    dsimp only
    rw [e3]
    dsimp only
    rw [if_pos rfl, ih (it + 1) _ (by omega), Nat.add_assoc, Nat.add_comm 1 m, List.append_assoc, List.replicate_succ]
    rfl
theorem val_arr (f it : Nat) (s : List UInt8) (h : it < 65536) : jval ownL Lib.validD (f + 1) it (91 :: s) = match jList (itA1 f) 93 (it + 1, []) s with
    | .error e => .error e
    | .ok (st, r) => .ok (⟨6, ofL [], [], st.2⟩, st.1, r) := by
  conv => lhs; unfold jval
  rw [if_neg (by omega), if_neg (by simp), if_neg (by simp), if_neg (by simp), if_neg (by simp), if_pos (by simp)]
  rfl
theorem list_ones (f m : Nat) (tail : List UInt8) : jList (itA1 (f + 1)) 93 (1, []) (manyB (m + 1) [49, 44] ++ tail) = jLoop (itA1 (f + 1)) 93 (1, []) (manyB (m + 1) [49, 44] ++ tail) := by
  unfold jList
  have e1 : jblk (manyB (m + 1) [49, 44] ++ tail) = 49 :: 44 :: (manyB m [49, 44] ++ tail) := rfl
  rw [e1]
  dsimp only
  rw [if_neg (by decide)]
  rfl
theorem many_ones_greatM (m : Nat) (hm : m + 1 = 65535) : jcode (jparse ownL Lib.validD (91 :: manyB (m + 1) [49, 44])) = 40 := by
  unfold jparse
  have e0 : (91 :: manyB (m + 1) [49, 44] : List UInt8).length = (m + 1) * 2 + 1 := by rw [List.length_cons, manyB_len]; rfl
  rw [if_neg (by rw [e0]; omega)]
  have e1 : jblk (91 :: manyB (m + 1) [49, 44]) = 91 :: manyB (m + 1) [49, 44] := by
    unfold jblk; rw [List.dropWhile_cons, if_neg (by decide)]
  have e2 := list_ones 62 m []
  rw [List.append_nil] at e2
  have e3 := loop_ones 62 [] (m + 1) 1 [] (by omega)
  rw [List.append_nil] at e3
  have e4 : ∀ acc : List Jsn, jLoop (itA1 63) 93 (1 + (m + 1), acc) [] = .error 40 := fun acc => by
    rw [jLoop_eq (shortA 63)]
    have : itA1 63 (1 + (m + 1), acc) (jblk []) = .error 40 := by
      have : jval ownL Lib.validD 63 (1 + (m + 1)) [] = .error 40 := by
        unfold jval
        rw [if_pos (by omega)]
      exact itA_err this
    rw [this]
  rw [e1, val_arr 63 0 _ (by omega), Nat.zero_add, e2, e3, e4]
  rfl
theorem many_ones_great : jcode (jparse ownL Lib.validD (91 :: manyB 65535 [49, 44])) = 40 := many_ones_greatM 65534 rfl
theorem many_ones_okM (m : Nat) (hm : m + 1 = 65534) : jcode (jparse ownL Lib.validD (91 :: manyB (m + 1) [49, 44] ++ [49, 93])) = 0 := by
  unfold jparse
  have e0 : (91 :: manyB (m + 1) [49, 44] ++ [49, 93] : List UInt8).length = (m + 1) * 2 + 3 := by rw [List.length_append, List.length_cons, manyB_len]; rfl
  rw [if_neg (by rw [e0]; omega)]
  have e1 : jblk (91 :: manyB (m + 1) [49, 44] ++ [49, 93]) = 91 :: (manyB (m + 1) [49, 44] ++ [49, 93]) := by
    unfold jblk; rw [List.cons_append, List.dropWhile_cons, if_neg (by decide)]
  have e2 := list_ones 62 m [49, 93]
  have e3 := loop_ones 62 [49, 93] (m + 1) 1 [] (by omega)
  have e4 : ∀ acc : List Jsn, jLoop (itA1 63) 93 (1 + (m + 1), acc) [49, 93] = .ok ((1 + (m + 1) + 1, acc ++ [oneJ]), []) := fun acc => by
    rw [jLoop_eq (shortA 63)]
    have : itA1 63 (1 + (m + 1), acc) (jblk [49, 93]) = .ok ((1 + (m + 1) + 1, acc ++ [oneJ]), [93]) := itA_ok (val_one 62 _ [] (by omega) 93 (by decide))
    rw [this]
    rfl
  rw [e1, val_arr 63 0 _ (by omega), Nat.zero_add, e2, e3, e4]
  rfl
theorem many_ones_ok : jcode (jparse ownL Lib.validD (91 :: manyB 65534 [49, 44] ++ [49, 93])) = 0 := many_ones_okM 65533 rfl
theorem blanks_nil (n : Nat) : jblk (manyB n [32]) = [] := by
  rw [manyB_one]
  unfold jblk
  induction n with
  | zero => rfl
  | succ n ih => rw [List.replicate_succ, List.dropWhile_cons, if_pos (by decide), ih]
theorem blanks_formM (m : Nat) (hm : m ≤ 262144) : jcode (jparse ownL Lib.validD (manyB m [32])) = 4 := by
  unfold jparse
  have e0 : (manyB m [32]).length = m * 1 := manyB_len m [32]
  rw [if_neg (by rw [e0]; omega), blanks_nil]
  have : jval ownL Lib.validD 64 0 [] = .error 4 := by kernel_rfl
  rw [this]
  rfl
theorem blanks_form : jcode (jparse ownL Lib.validD (manyB 262144 [32])) = 4 := blanks_formM 262144 (Nat.le_refl _)
theorem blanks_greatM (m : Nat) (hm : 262144 < m) : jcode (jparse ownL Lib.validD (manyB m [32])) = 40 := by
  unfold jparse
  have e0 : (manyB m [32]).length = m * 1 := manyB_len m [32]
  rw [if_pos (by rw [e0]; omega)]
  rfl
theorem blanks_great : jcode (jparse ownL Lib.validD (manyB 262145 [32])) = 40 := blanks_greatM 262145 (by decide)
-- values that are printed
def deepJ : Nat → Jsn
  | 0 => ⟨1, ⟨#[]⟩, [], []⟩
  | n + 1 => ⟨6, ⟨#[]⟩, [], [deepJ n]⟩
theorem deep_deep (n : Nat) : jdeep (deepJ n) = n + 1 := by
  induction n with
  | zero => unfold deepJ; rw [jdeep_eq]; rfl
  | succ n ih => unfold deepJ; rw [jdeep_eq, jdeeps_cons, ih, jdeeps_nil]; omega
theorem deep_count (n : Nat) : jcount (deepJ n) = n + 1 := by
  induction n with
  | zero => unfold deepJ; rw [jcount_eq]; rfl
  | succ n ih => unfold deepJ; rw [jcount_eq, jcounts_cons, ih, jcounts_nil]
theorem deep_form (n : Nat) : jform ownL Lib.validD (deepJ n) = true := by
  induction n with
  | zero => unfold deepJ; rw [jform_eq]; rfl
  | succ n ih => unfold deepJ; rw [jform_eq, if_neg (by decide), if_neg (by decide), if_neg (by decide), if_pos rfl, List.all_cons, ih]; rfl
theorem deep_twice (n : Nat) : jtwice (deepJ n) = false := by
  induction n with
  | zero => unfold deepJ; rw [jtwice_eq]; rfl
  | succ n ih => unfold deepJ; rw [jtwice_eq, List.any_cons, ih]; rfl
theorem deep_text (n : Nat) : (jtext (deepJ n)).length = 4 + 2 * n := by
  induction n with
  | zero => unfold deepJ; rw [jtext_eq]; rfl
  | succ n ih =>
    unfold deepJ
    rw [jtext_eq]
    show (91 :: (jitems true [jtext (deepJ n)] ++ [93])).length = _
    have : jitems true [jtext (deepJ n)] = jtext (deepJ n) := by
      unfold jitems jitems
      simp
    rw [this]
    simp [ih]
    omega
theorem deep_bulk (n : Nat) : jbulk (deepJ n) = n + 1 := by
  induction n with
  | zero => unfold deepJ; rw [jbulk_eq]; rfl
  | succ n ih =>
    unfold deepJ
    rw [jbulk_eq]
    unfold jbulks
    have h4 : (⟨#[]⟩ : ByteArray).size = 0 := rfl
    simp [ih, h4]
    omega
theorem print_of {j : Jsn} (h : jcheck ownL Lib.validD j ≠ 0) : (jprint ownL Lib.validD j).2 = jcheck ownL Lib.validD j := by
  unfold jprint; rw [if_pos h]
theorem print_deep : (jprint ownL Lib.validD (deepJ 63)).2 = 0 := by
  have hc : jcheck ownL Lib.validD (deepJ 63) = 0 := by
    unfold jcheck
    rw [deep_deep, deep_count, deep_form, deep_twice]
    rfl
  unfold jprint
  rw [if_neg (by rw [hc]; decide), if_neg (by rw [deep_text]; decide)]
theorem print_deeper : (jprint ownL Lib.validD (deepJ 64)).2 = 61 := by
  have hc : jcheck ownL Lib.validD (deepJ 64) = 61 := by
    unfold jcheck
    rw [deep_deep]
    rfl
  rw [print_of (by rw [hc]; decide), hc]
def wideN (m : Nat) : Jsn := ⟨6, ⟨#[]⟩, [], List.replicate m ⟨0, ⟨#[]⟩, [], []⟩⟩
theorem sum_rep (f : Jsn → Nat) (x : Jsn) (n : Nat) : ((List.replicate n x).map f).sum = n * f x := by
  induction n with
  | zero => simp
  | succ n ih => rw [List.replicate_succ, List.map_cons, List.sum_cons, ih, Nat.add_mul, Nat.one_mul, Nat.add_comm]
theorem max_rep (f : Jsn → Nat) (x : Jsn) (n : Nat) : ((List.replicate n x).map f).foldr max 0 ≤ f x := by
  induction n with
  | zero => simp
  | succ n ih => rw [List.replicate_succ, List.map_cons, List.foldr_cons]; omega
theorem zero_one : jdeep ⟨0, ⟨#[]⟩, [], []⟩ = 1 ∧ jcount ⟨0, ⟨#[]⟩, [], []⟩ = 1 ∧ jbulk ⟨0, ⟨#[]⟩, [], []⟩ = 1 := by
  rw [jdeep_eq, jcount_eq, jbulk_eq]; exact ⟨rfl, rfl, rfl⟩
theorem wide_bulkN (m : Nat) : jbulk (wideN m) = 1 + m := by
  unfold wideN
  rw [jbulk_eq]
  unfold jbulks
  rw [sum_rep, zero_one.2.2]
  have h4 : (⟨#[]⟩ : ByteArray).size = 0 := rfl
  have h5 : (([] : List ByteArray).map fun b => b.size + 1).sum = 0 := rfl
  omega
theorem print_wideN (m : Nat) (hm : m = 65536) : (jprint ownL Lib.validD (wideN m)).2 = 40 := by
  have h1 : jdeep (wideN m) ≤ 2 := by
    unfold wideN
    rw [jdeep_eq]
    unfold jdeeps
    have := max_rep jdeep ⟨0, ⟨#[]⟩, [], []⟩ m
    rw [zero_one.1] at this
    omega
  have h2 : jcount (wideN m) = m + 1 := by
    unfold wideN
    rw [jcount_eq]
    unfold jcounts
    rw [sum_rep, zero_one.2.1]
    omega
  have hc : jcheck ownL Lib.validD (wideN m) = 40 := by
    unfold jcheck
    rw [if_neg (by omega), if_pos (by omega)]
  rw [print_of (by rw [hc]; decide), hc]
def wideJ : Jsn := wideN 65536
theorem wide_bulk : jbulk wideJ = 1 + 65536 := wide_bulkN 65536
theorem print_wide : (jprint ownL Lib.validD wideJ).2 = 40 := print_wideN 65536 rfl
def strL (l : List UInt8) : Jsn := ⟨5, ofL l, [], []⟩
theorem str_check {l : List UInt8} (h : ∀ b ∈ l, b.toNat < 128) : jcheck ownL Lib.validD (strL l) = 0 := by
  have hv : Lib.validD l = true := by
    rw [Lib.validD_ascii l.length l (fun b hb => h b (List.mem_of_mem_take hb)), List.drop_length]; exact Lib.validD_nil
  have e : (ofL l).data.toList = l := by unfold ofL; simp
  have hf : jform ownL Lib.validD ⟨5, ofL l, [], []⟩ = true := by
    rw [jform_eq, if_neg (by decide), if_neg (by decide), if_pos rfl, e, hv]
    rfl
  unfold jcheck strL
  rw [hf, jdeep_eq, jcount_eq, jtwice_eq]
  rfl
theorem str_bulkL (l : List UInt8) : jbulk (strL l) = 1 + l.length := by
  unfold strL
  rw [jbulk_eq]
  show 1 + (ofL l).size + 0 + 0 = _
  unfold ofL
  show 1 + l.toArray.size + 0 + 0 = _
  simp
theorem str_print {l : List UInt8} (h : ∀ b ∈ l, b.toNat < 128) : (jprint ownL Lib.validD (strL l)).2 = if 262144 < (l.flatMap jesc).length + 2 then 40 else 0 := by
  have e : (jtext (strL l)).length = (l.flatMap jesc).length + 2 := by
    unfold strL
    rw [jtext_eq]
    have e : (ofL l).data.toList = l := by unfold ofL; simp
    show (jquote (ofL l).data.toList).length = _
    rw [e]
    unfold jquote
    simp
  unfold jprint
  rw [str_check h, if_neg (by decide), e]
  split <;> rfl
theorem lines_len (n : Nat) : ((manyB n [10]).flatMap jesc).length = 2 * n := by
  induction n with
  | zero => rfl
  | succ n ih =>
    rw [manyB_succ, List.flatMap_append, List.length_append, ih]
    have : (([10] : List UInt8).flatMap jesc).length = 2 := rfl
    rw [this]; omega
theorem lines_low (n : Nat) : ∀ b ∈ manyB n [10], b.toNat < 128 := fun b hb => by
  rw [manyB_one] at hb
  rw [(List.mem_replicate.1 hb).2]; decide
theorem print_longM (m : Nat) : (jprint ownL Lib.validD (strL (manyB m [10]))).2 = if 262144 < 2 * m + 2 then 40 else 0 := by
  rw [str_print (lines_low _), lines_len]
theorem print_long : (jprint ownL Lib.validD (strL (manyB 131071 [10]))).2 = 0 := (print_longM 131071).trans (if_neg (by decide))
theorem print_longer : (jprint ownL Lib.validD (strL (manyB 131072 [10]))).2 = 40 := (print_longM 131072).trans (if_pos (by decide))
theorem print_longxM (m : Nat) (hm : 262144 < 2 * m + 1 + 2) : (jprint ownL Lib.validD (strL (manyB m [10] ++ [120]))).2 = 40 := by
  rw [str_print (fun b hb => by
    rcases List.mem_append.1 hb with hb | hb
    · exact lines_low _ b hb
    · simp at hb; rw [hb]; decide), List.flatMap_append, List.length_append, lines_len]
  have : (([120] : List UInt8).flatMap jesc).length = 1 := rfl
  rw [this, if_pos hm]
theorem print_longx : (jprint ownL Lib.validD (strL (manyB 131071 [10] ++ [120]))).2 = 40 := print_longxM 131071 (by decide)
end Go.Proofs.YtlnkjacbdolhnaaGreatDoor
