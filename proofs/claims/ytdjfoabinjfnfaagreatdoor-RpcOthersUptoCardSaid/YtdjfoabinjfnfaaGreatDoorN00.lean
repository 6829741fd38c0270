/-
  Names that no message has, put into an envelope, and another order of names, change nothing of what is read. No program.
-/
import Derived.Test.YtdjfoabinjfnfaaGreatDoorM32
import Derived.Test.YtdjfoabinjfnfaaGreatDoorM30
import Derived.Test.YtdjfoabinjfnfaaGreatDoorOrdH
namespace Go.Proofs.YtdjfoabinjfnfaaGreatDoor
theorem dup_cons {a : ByteArray} {n : List ByteArray} (h : dupB (a :: n) = false) : a ∉ n ∧ dupB n = false := by
  unfold dupB at h
  rw [Bool.or_eq_false_iff, List.any_eq_false] at h
  exact ⟨fun e => h.1 a e (by simp), h.2⟩
theorem find_cons (a : ByteArray) (n : List ByteArray) (s : ByteArray) : jfind (a :: n) s = if a = s then some 0 else (jfind n s).map (· + 1) := by
  unfold jfind
  rw [List.findIdx?_cons]
  by_cases h : a = s <;> simp [h]
def lkp (n : List ByteArray) (l : List Jsn) (s : ByteArray) : Option Jsn := match jfind n s with | none => none | some i => l[i]?
theorem lkp_cons (a : ByteArray) (n : List ByteArray) (x : Jsn) (l : List Jsn) (s : ByteArray) : lkp (a :: n) (x :: l) s = if a = s then some x else lkp n l s := by
  unfold lkp
  rw [find_cons]
  by_cases h : a = s
  · simp [h]
  · simp only [h, if_false]
    rcases jfind n s with _ | i
    · rfl
    · simp
theorem lkp_mem (s : ByteArray) (y : Jsn) : ∀ (n : List ByteArray) (l : List Jsn), n.length = l.length → dupB n = false → (lkp n l s = some y ↔ (s, y) ∈ n.zip l)
  | [], [], _, _ => by unfold lkp jfind; simp
  | [], _ :: _, h, _ => by simp at h
  | _ :: _, [], h, _ => by simp at h
  | a :: n, x :: l, h, hd => by
    obtain ⟨h1, h2⟩ := dup_cons hd
    have ih := lkp_mem s y n l (by simpa using h) h2
    rw [lkp_cons, List.zip_cons_cons, List.mem_cons, Prod.mk.injEq]
    by_cases e : a = s
    · subst e
      rw [if_pos rfl]
      constructor
      · intro h'; injection h' with h'; exact .inl ⟨rfl, h'.symm⟩
      · rintro (⟨_, h'⟩ | h')
        · rw [h']
        · exact absurd (List.of_mem_zip h').1 h1
    · rw [if_neg e, ih]
      constructor
      · exact .inr
      · rintro (⟨h', _⟩ | h')
        · exact absurd h'.symm e
        · exact h'
theorem get_lkp {o : Jsn} (h : o.kind = 7) (s : ByteArray) : jget o s = lkp o.names o.list s := by
  unfold jget lkp; rw [if_pos h]
  rcases jfind o.names s with _ | i <;> rfl
theorem others_get {e k : Jsn} {nm : ByteArray} {x : Jsn} (he : ObjK e) (hk : ObjK k) (de : dupB e.names = false) (dk : dupB k.names = false) (hp : (k.names.zip k.list).Perm ((nm, x) :: e.names.zip e.list)) {s : ByteArray} (hs : s ≠ nm) : jget k s = jget e s := by
  rw [get_lkp he.1, get_lkp hk.1]
  have h : ∀ y, lkp k.names k.list s = some y ↔ lkp e.names e.list s = some y := fun y => by
    rw [lkp_mem s y _ _ hk.2.2 dk, lkp_mem s y _ _ he.2.2 de, hp.mem_iff, List.mem_cons, Prod.mk.injEq]
    constructor
    · rintro (⟨h, _⟩ | h)
      · exact absurd h hs
      · exact h
    · exact .inr
  rcases ha : lkp k.names k.list s with _ | y
  · rcases hb : lkp e.names e.list s with _ | z
    · rfl
    · have := (h z).2 hb; rw [ha] at this; cases this
  · exact ((h y).1 ha).symm
theorem jread_congr {Own : List UInt8 → List UInt8 × Int} {Val : List UInt8 → Bool} {e k : Jsn} (hc : jcheck Own Val e = 0) (hk : jcheck Own Val k = 0) (h1 : jget k kVer = jget e kVer) (h2 : jget k kId = jget e kId) (h3 : jget k kMeth = jget e kMeth) (h4 : jget k kPar = jget e kPar)
    (h5 : jget k kRes = jget e kRes) (h6 : jget k kErr = jget e kErr) : jread Own Val k = jread Own Val e := by
  unfold jread jgd jgs
  rw [hc, hk, h1, h2, h3, h4, h5, h6]
theorem check_dup {Own : List UInt8 → List UInt8 × Int} {Val : List UInt8 → Bool} {j : Jsn} (h : jcheck Own Val j = 0) : dupB j.names = false := by
  obtain ⟨_, _, _, ht⟩ := jcheck_parts h
  obtain ⟨k, t, n, l⟩ := j
  rw [jtwice_eq, Bool.or_eq_false_iff] at ht
  exact ht.1
theorem others_read {Own : List UInt8 → List UInt8 × Int} {Val : List UInt8 → Bool} {m : Msg} (h1 : 1 ≤ m.kind) (h4 : m.kind ≤ 4) (hf : mok m = true) (hc : jcheck Own Val (menv m) = 0) (hi : intL (ofNL m.code) = (m.code, 0))
    {k x : Jsn} {nm : ByteArray} (hk : ObjK k) (hp : (k.names.zip k.list).Perm ((nm, x) :: (menv m).names.zip (menv m).list)) (n1 : nm ≠ kVer) (n2 : nm ≠ kId) (n3 : nm ≠ kMeth) (n4 : nm ≠ kPar) (n5 : nm ≠ kRes) (n6 : nm ≠ kErr) :
    jread Own Val k = if jcheck Own Val k = 0 then (m, 0) else (zeroM, jcheck Own Val k) := by
  split
  · rename_i hck
    have dk := check_dup hck
    have de := check_dup hc
    have he := menv_ok m
    rw [jread_congr hc hck (others_get he hk de dk hp (Ne.symm n1)) (others_get he hk de dk hp (Ne.symm n2)) (others_get he hk de dk hp (Ne.symm n3)) (others_get he hk de dk hp (Ne.symm n4)) (others_get he hk de dk hp (Ne.symm n5)) (others_get he hk de dk hp (Ne.symm n6))]
    exact env_read h1 h4 hf hc hi
  · rename_i hck
    unfold jread
    rw [if_pos hck]
theorem check_not {Own : List UInt8 → List UInt8 × Int} {Val : List UInt8 → Bool} (j : Jsn) : jcheck Own Val j ≠ 73 := by
  unfold jcheck
  split
  · decide
  · split
    · decide
    · split
      · decide
      · split <;> decide
theorem pick_perm {α β : Type} {K : List α} {L : List β} {N : List α} {V : List β} {n : Nat} {a : α} {b : β} (hN : N[n]? = some a) (hV : V[n]? = some b) (hl : N.length = V.length) (hkl : K.length = L.length) :
    ((K ++ [a]).zip (L ++ [b]) ++ (N.eraseIdx n).zip (V.eraseIdx n)).Perm (K.zip L ++ N.zip V) := by
  have h1 : (K ++ [a]).zip (L ++ [b]) = K.zip L ++ [(a, b)] := by rw [List.zip_append hkl]; rfl
  have hn : n < N.length := (List.getElem?_eq_some_iff.1 hN).1
  have h2 : N.zip V = (N.take n).zip (V.take n) ++ (a, b) :: (N.drop (n + 1)).zip (V.drop (n + 1)) := by
    have e1 : N = N.take n ++ a :: N.drop (n + 1) := by
      rw [List.getElem?_eq_some_iff] at hN
      obtain ⟨h, rfl⟩ := hN
      simp
    have e2 : V = V.take n ++ b :: V.drop (n + 1) := by
      rw [List.getElem?_eq_some_iff] at hV
      obtain ⟨h, rfl⟩ := hV
      simp
    conv => lhs; rw [e1, e2]
    rw [List.zip_append (by simp; omega), List.zip_cons_cons]
  have h3 : (N.eraseIdx n).zip (V.eraseIdx n) = (N.take n).zip (V.take n) ++ (N.drop (n + 1)).zip (V.drop (n + 1)) := by
    rw [List.eraseIdx_eq_take_drop_succ, List.eraseIdx_eq_take_drop_succ, List.zip_append (by simp; omega)]
  rw [h1, h2, h3, List.append_assoc]
  refine List.Perm.append_left _ ?_
  rw [List.singleton_append]
  exact List.perm_middle.symm
end Go.Proofs.YtdjfoabinjfnfaaGreatDoor
namespace Go.Proofs.YtdjfoabinjfnfaaGreatDoor
open Go.RowKit
theorem addr_add (g o j : Nat) : (⟨g, o, none⟩ : Addr).add j = ⟨g, o + j, none⟩ := by unfold Addr.add; simp
theorem grown_keep {w w' : World} {row : Option Nat} {B : Nat} (h : w.grownBy w' row) (hr : ∀ g, row = some g → B ≤ g) (hB : B ≤ w.heap.size) : Below B w w' :=
  ⟨h.os, h.tape, h.output, h.size, fun k hk => h.block k (by omega) (fun e => by have := hr k e.symm; omega)⟩
theorem rebuild {P : Program} {W : World} (t ty e : TypeId) (i : TypeInfo) (z : Value) (size bytes : Nat) (ht : P.underlying t = some (.slice e)) (hi : P.info? e = some i) (hz : i.zero = some z)
    (hsize : i.size = size) (hby : i.bytes = bytes) (hzs : z.cells.size = size) (hsz : 0 < size) (hb8 : bytes ≤ 100) (src : List Value) (len n c g o : Nat) (hlen : src.length = len * size) (hn : n < len) (hg : g < W.heap.size)
    (hsrc : ∀ j u, src[j]? = some u → W.cell? ⟨g, o + j, none⟩ = some u) (h1 : ∀ u ∈ src, u.oneCell' = true) (hsm : len ≤ 1000000) (a2 : Addr) (c2 : Nat) (h2 : len - (n + 1) = 0 ∨ a2 = ⟨g, o + (n + 1) * size, none⟩) :
    ∃ v1 w1 v2 w2, (Builtin.append_ #[t, t] ty #[.slice (some ⟨W.heap.size, 0, none⟩) 0 0, .slice (some ⟨g, o, none⟩) n c]).run P (W.alloc (.cells #[] e)) = .ok v1 w1 ∧
      (Builtin.append_ #[t, t] ty #[v1, .slice (some a2) (len - (n + 1)) c2]).run P w1 = .ok v2 w2 ∧
      w2.ownsRow W.heap.size e size v2 (len - 1) (src.take (n * size) ++ src.drop ((n + 1) * size)) ∧ Below W.heap.size W w2 ∧ W.heap.size ≤ w1.heap.size ∧ Below W.heap.size W w1 := by
  obtain ⟨W0, hW0⟩ : ∃ W0, W.alloc (.cells #[] e) = W0 := ⟨_, rfl⟩
  have hb0 : Below W.heap.size W W0 := by rw [← hW0]; exact (Below.refl _ _).alloc (Nat.le_refl _) _
  have hC : W0.heap[W.heap.size]? = some (.cells #[] e (0, 0)) := by rw [← hW0]; exact Cel.fresh W e #[]
  have hs0 := (Array.getElem?_eq_some_iff.1 hC).1
  have hown : W0.ownsRow W.heap.size e size (.slice (some ⟨W.heap.size, 0, none⟩) 0 0) 0 [] := ⟨by simp, .inr ⟨_, _, _, rfl, Nat.le_refl _, hC, Nat.le_refl _, by unfold maxLen; omega, by simp, by simp⟩⟩
  have hmul : n * size ≤ len * size := Nat.mul_le_mul_right _ (by omega)
  have hmul1 : (n + 1) * size ≤ len * size := Nat.mul_le_mul_right _ (by omega)
  obtain ⟨v1, w1, r1, o1, g1, _, b1⟩ := run_append_own_at (P := P) W0 W.heap.size t ty e i z size bytes ht hi hz hsize hby hzs hsz _ 0 [] hown ⟨g, o, none⟩ n c (src.take (n * size)) (by rw [List.length_take, hlen]; omega)
    (fun j u hu => by
      rw [addr_add]
      rw [List.getElem?_take] at hu
      split at hu
      · exact (hb0.cell (p := ⟨g, o + j, none⟩) hg).trans (hsrc j u hu)
      · cases hu) (fun u hu => h1 u (List.mem_of_mem_take hu)) (by unfold maxLen; omega) (by
      have : (0 + n) * bytes ≤ 1000000 * 100 := Nat.mul_le_mul (by omega) hb8
      omega) (by omega)
  have hbl1 : Below W.heap.size W0 w1 := grown_keep g1 (fun g' hg' => by injection hg' with hg'; rw [← hg']; exact Nat.le_refl _) (by omega)
  have hbW := hb0.trans hbl1
  rw [List.nil_append, Nat.zero_add] at o1
  obtain ⟨v2, w2, r2, o2, g2, _, b2⟩ := run_append_own_at (P := P) w1 W.heap.size t ty e i z size bytes ht hi hz hsize hby hzs hsz v1 n _ o1 a2 (len - (n + 1)) c2 (src.drop ((n + 1) * size)) (by rw [List.length_drop, hlen, Nat.sub_mul])
    (fun j u hu => by
      rw [List.getElem?_drop] at hu
      have hj := (List.getElem?_eq_some_iff.1 hu).1
      rcases h2 with h2 | h2
      · have : len = n + 1 := by omega
        subst this
        omega
      · rw [h2, addr_add]
        have := hsrc _ u hu
        rw [show o + ((n + 1) * size + j) = o + (n + 1) * size + j by omega] at this
        exact (hbW.cell (p := ⟨g, o + (n + 1) * size + j, none⟩) hg).trans this) (fun u hu => h1 u (List.mem_of_mem_drop hu)) (by unfold maxLen; omega) (by
      have : (n + (len - (n + 1))) * bytes ≤ 1000000 * 100 := Nat.mul_le_mul (by omega) hb8
      omega) (by have := hbl1.size; omega)
  have hbl2 : Below W.heap.size w1 w2 := grown_keep g2 (fun g' hg' => (o1.lt g' hg').1) (by have := hbl1.size; omega)
  rw [show n + (len - (n + 1)) = len - 1 by omega] at o2
  exact ⟨v1, w1, v2, w2, by rw [hW0]; exact r1, r2, o2, hbW.trans hbl2, by have := hbW.size; omega, hbW⟩
theorem flat_take (n : Nat) : ∀ (V : List JE) , (V.flatMap encJ).take (n * 4) = (V.take n).flatMap encJ := by
  induction n with
  | zero => intro V; simp
  | succ n ih =>
    intro V
    cases V with
    | nil => simp
    | cons z V =>
      rw [List.flatMap_cons, List.take_succ_cons, List.flatMap_cons, ← ih V]
      show List.take ((n + 1) * 4) (_ :: _ :: _ :: _ :: V.flatMap encJ) = _
      rw [show (n + 1) * 4 = n * 4 + 4 by omega]
      rfl
theorem flat_drop (n : Nat) : ∀ (V : List JE) , (V.flatMap encJ).drop (n * 4) = (V.drop n).flatMap encJ := by
  induction n with
  | zero => intro V; simp
  | succ n ih =>
    intro V
    cases V with
    | nil => simp
    | cons z V =>
      rw [List.flatMap_cons, List.drop_succ_cons, ← ih V]
      show List.drop ((n + 1) * 4) (_ :: _ :: _ :: _ :: V.flatMap encJ) = _
      rw [show (n + 1) * 4 = n * 4 + 4 by omega]
      rfl
theorem flat_len (V : List JE) : (V.flatMap encJ).length = V.length * 4 := by
  induction V with
  | nil => rfl
  | cons z V ih => rw [List.flatMap_cons, List.length_append, ih, encJ_len, List.length_cons]; omega
theorem flat_get : ∀ (V : List JE) (j i : Nat) (z : JE) (u : Value), V[j]? = some z → (encJ z)[i]? = some u → (V.flatMap encJ)[j * 4 + i]? = some u
  | [], j, i, z, u, h, _ => by simp at h
  | y :: V, 0, i, z, u, h, hu => by
    simp at h
    subst h
    have hi := (List.getElem?_eq_some_iff.1 hu).1
    rw [List.flatMap_cons, List.getElem?_append_left (by simpa using hi)]
    simpa using hu
  | y :: V, j + 1, i, z, u, h, hu => by
    rw [List.flatMap_cons, List.getElem?_append_right (by rw [encJ_len]; omega), encJ_len, show (j + 1) * 4 + i - 4 = j * 4 + i by omega]
    exact flat_get V j i z u (by simpa using h) hu
theorem own_str {W : World} {B : Nat} {v : Value} {N : List ByteArray} {Y : Nat → Prop} (h : W.ownsRow B 9 1 v N.length (N.map Value.string)) (hY : ∀ g, v.ownBlock = some g → Y g) : StrL W Y v N ∧ ∃ A c, v = .slice A N.length c ∧ N.length ≤ c := by
  rcases h.2 with ⟨e, h0⟩ | ⟨g, cap, cur, e, hg, hh, hnc, hcm, hcs, htk⟩
  · subst e
    rw [h0]
    exact ⟨⟨none, 0, by rw [h0], fun h => by omega⟩, none, 0, rfl, Nat.le_refl _⟩
  · have hlt := (h.lt g (by rw [e]; rfl)).2
    have hc := h.cells (g := g) (by rw [e]; rfl)
    subst e
    refine ⟨⟨_, _, rfl, fun _ => ⟨g, 0, rfl, hY g rfl, hlt, fun j x hx => ?_⟩⟩, _, _, rfl, hnc⟩
    have := hc j (.string x) (by rw [List.getElem?_map, hx]; rfl)
    rwa [addr_add] at this
theorem own_jsn {W : World} {B : Nat} {v : Value} {V : List JE} {Y : Nat → Prop} {k : Int} {s : ByteArray} {ns : List ByteArray} {vn : Value} (hk0 : 0 ≤ k) (hk1 : k ≤ 255) (hn : StrL W Y vn ns) (h : W.ownsRow B 25 4 v V.length (V.flatMap encJ)) (hY : ∀ g, v.ownBlock = some g → Y g) (hV : ∀ z ∈ V, JV W Y z.1 z.2.1 z.2.2) :
    JV W Y ⟨k, s, ns, V.map (·.1)⟩ vn v ∧ ∃ A c, v = .slice A V.length c ∧ V.length ≤ c := by
  rcases h.2 with ⟨e, h0⟩ | ⟨g, cap, cur, e, hg, hh, hnc, hcm, hcs, htk⟩
  · subst e
    have e2 : V = [] := List.eq_nil_of_length_eq_zero h0
    subst e2
    exact ⟨JV.of_elems (zs := []) hk0 hk1 hn rfl (fun z hz => by cases hz) (fun hp => by simp at hp), none, 0, rfl, Nat.le_refl _⟩
  · have hlt := (h.lt g (by rw [e]; rfl)).2
    have hc := h.cells (g := g) (by rw [e]; rfl)
    subst e
    refine ⟨JV.of_elems (zs := V) hk0 hk1 hn rfl hV (fun hp => ⟨g, 0, rfl, hY g rfl, hlt, fun j z hz i u hu => ?_⟩), _, _, rfl, hnc⟩
    have := hc (j * 4 + i) u (flat_get V j i z u hz hu)
    rw [addr_add] at this
    rwa [show 0 + j * 4 + i = 0 + (j * 4 + i) by omega]
def Els (W : World) (kb : Nat) (kN kL : Value) (g : Nat) : Prop := g < W.heap.size ∧ g ≠ kb ∧ kN.ownBlock ≠ some g ∧ kL.ownBlock ≠ some g
def ValR (W : World) (Y : Nat → Prop) (v : Value) (V : List JE) : Prop := ∃ A c, v = .slice A V.length c ∧ V.length ≤ c ∧
  (0 < V.length → ∃ g o, A = some ⟨g, o, none⟩ ∧ Y g ∧ g < W.heap.size ∧ ∀ j z, V[j]? = some z → ∀ (i : Nat) (u : Value), (encJ z)[i]? = some u → W.cell? ⟨g, o + j * 4 + i, none⟩ = some u) ∧ ∀ z ∈ V, JV W Y z.1 z.2.1 z.2.2
def NamR (W : World) (Y : Nat → Prop) (v : Value) (N : List ByteArray) : Prop := StrL W Y v N ∧ ∃ A c, v = .slice A N.length c ∧ N.length ≤ c
theorem ValR.keep {W W' : World} {Y Z : Nat → Prop} {v : Value} {V : List JE} (h : ValR W Y v V) (hs : W.heap.size ≤ W'.heap.size) (hk : ∀ g, Y g → g < W.heap.size → W'.heap[g]? = W.heap[g]?) (hYZ : ∀ g, Y g → g < W.heap.size → Z g) : ValR W' Z v V := by
  obtain ⟨A, c, rfl, hc, h1, h2⟩ := h
  have hkc : ∀ p : Addr, Y p.block → p.block < W.heap.size → W'.cell? p = W.cell? p := fun p hp hlt => World.cell?_of_block (hk p.block hp hlt)
  refine ⟨A, c, rfl, hc, fun hp => ?_, fun z hz => JV.keep hs hkc hYZ _ (h2 z hz)⟩
  obtain ⟨g, o, e, hY, hg, h3⟩ := h1 hp
  exact ⟨g, o, e, hYZ g hY hg, by omega, fun j z hz i u hu => (hkc ⟨g, o + j * 4 + i, none⟩ hY hg).trans (h3 j z hz i u hu)⟩
theorem NamR.keep {W W' : World} {Y Z : Nat → Prop} {v : Value} {N : List ByteArray} (h : NamR W Y v N) (hs : W.heap.size ≤ W'.heap.size) (hk : ∀ g, Y g → g < W.heap.size → W'.heap[g]? = W.heap[g]?) (hYZ : ∀ g, Y g → g < W.heap.size → Z g) : NamR W' Z v N :=
  ⟨h.1.keep hs (fun p hp hlt => World.cell?_of_block (hk p.block hp hlt)) hYZ, h.2⟩
theorem NamR.at {W : World} {Y : Nat → Prop} {v : Value} {N : List ByteArray} (h : NamR W Y v N) {n : Nat} (hn : n < N.length) : ∃ g o c, v = .slice (some ⟨g, o, none⟩) N.length c ∧ N.length ≤ c ∧ Y g ∧ g < W.heap.size ∧ ∀ j x, N[j]? = some x → W.cell? ⟨g, o + j, none⟩ = some (.string x) := by
  obtain ⟨⟨A, c, e, h1⟩, A', c', e', hc⟩ := h
  obtain ⟨g, o, rfl, hY, hg, h2⟩ := h1 (by omega)
  rw [e] at e'
  injection e' with _ _ e3
  subst e3
  exact ⟨g, o, c, e, hc, hY, hg, h2⟩
theorem ValR.at {W : World} {Y : Nat → Prop} {v : Value} {V : List JE} (h : ValR W Y v V) {n : Nat} (hn : n < V.length) : ∃ g o c, v = .slice (some ⟨g, o, none⟩) V.length c ∧ V.length ≤ c ∧ Y g ∧ g < W.heap.size ∧ ∀ j z, V[j]? = some z → ∀ (i : Nat) (u : Value), (encJ z)[i]? = some u → W.cell? ⟨g, o + j * 4 + i, none⟩ = some u := by
  obtain ⟨A, c, e, hc, h1, _⟩ := h
  obtain ⟨g, o, rfl, hY, hg, h2⟩ := h1 (by omega)
  exact ⟨g, o, c, e, hc, hY, hg, h2⟩
structure OtI (w : World) (kb : Nat) (N : List ByteArray) (V : List JE) (K : List ByteArray) (L : List JE) (vN vV kN kL : Value) (W : World) : Prop where
  box : Cel W kb 25 #[.int .u8 7, .string ⟨#[]⟩, kN, kL]
  kn : W.ownsRow (kb + 1) 9 1 kN K.length (K.map Value.string)
  kl : W.ownsRow (kb + 1) 25 4 kL L.length (L.flatMap encJ)
  ap : ∀ g, kN.ownBlock = some g → kL.ownBlock ≠ some g
  nam : NamR W (Els W kb kN kL) vN N
  val : ValR W (Els W kb kN kL) vV V
  lj : ∀ z ∈ L, JV W (Els W kb kN kL) z.1 z.2.1 z.2.2
  bel : Below w.heap.size w W
  lo : w.heap.size ≤ kb
theorem OtI.drew {w W : World} {kb : Nat} {N K : List ByteArray} {V L : List JE} {vN vV kN kL : Value} (h : OtI w kb N V K L vN vV kN kL W) : OtI w kb N V K L vN vV kN kL W.drew :=
  ⟨h.box.drew, h.kn, h.kl, h.ap, h.nam.keep (Nat.le_refl _) (fun _ _ _ => rfl) (fun _ h _ => h), h.val.keep (Nat.le_refl _) (fun _ _ _ => rfl) (fun _ h _ => h), fun z hz => (h.lj z hz).drew, bel_drew h.bel, h.lo⟩
theorem OtI.step {w W W' : World} {kb : Nat} {N K : List ByteArray} {V L : List JE} {vN vV kN kL : Value} (h : OtI w kb N V K L vN vV kN kL W) (hb : Below W.heap.size W W') : OtI w kb N V K L vN vV kN kL W' := by
  have hk : ∀ g, Els W kb kN kL g → g < W.heap.size → W'.heap[g]? = W.heap[g]? := fun g _ hg => hb.block g hg
  have hE : ∀ g, Els W kb kN kL g → g < W.heap.size → Els W' kb kN kL g := fun g hg _ => ⟨by have := hb.size; have := hg.1; omega, hg.2⟩
  have hlo := h.box.lt
  exact ⟨h.box.below hb h.box.lt, ownRow_keep h.kn (fun g hg => hb.block g (h.kn.lt g hg).2), ownRow_keep h.kl (fun g hg => hb.block g (h.kl.lt g hg).2), h.ap, h.nam.keep hb.size hk hE, h.val.keep hb.size hk hE,
    fun z hz => JV.keep hb.size (fun p hp hlt => World.cell?_of_block (hk p.block hp hlt)) hE _ (h.lj z hz), h.bel.trans (hb.mono (by have := h.lo; omega)), h.lo⟩
set_option maxRecDepth 100000 in
theorem OtI.name {w W : World} {kb : Nat} {N K : List ByteArray} {V L : List JE} {vN vV kN kL : Value} (h : OtI w kb N V K L vN vV kN kL W) (a : ByteArray) (hn : K.length ≤ 1000000) :
    ∃ v' w4, (Builtin.append_ #[22, 22] 22 #[kN, .slice (some ⟨W.heap.size, 0, none⟩) 1 1]).run Tryz.prog (W.alloc (.cells #[.string a] 9)) = .ok v' w4 ∧
      Cel w4 kb 25 #[.int .u8 7, .string ⟨#[]⟩, kN, kL] ∧ OtI w kb N V (K ++ [a]) L vN vV v' kL (w4.setCell ⟨kb, 2, none⟩ v') ∧ (∀ k, Els W kb kN kL k → w4.heap[k]? = W.heap[k]?) := by
  obtain ⟨i0, hi0, hz0, hz1, hz2⟩ := info_parts infoS
  have hlt := h.box.lt
  have hknl := h.kn.lt
  have hkll := h.kl.lt
  obtain ⟨W1, hW1⟩ : ∃ W1, W.alloc (.cells #[.string a] 9) = W1 := ⟨_, rfl⟩
  have hs1 : W1.heap.size = W.heap.size + 1 := by rw [← hW1]; simp
  have hb1 : ∀ k, k < W.heap.size → W1.heap[k]? = W.heap[k]? := fun k hk => by rw [← hW1]; exact Below.heap_alloc W _ k hk
  have hcf : Cel W1 W.heap.size 9 #[.string a] := by rw [← hW1]; exact Cel.fresh _ _ _
  have hbw : Below W.heap.size W W1 := by rw [← hW1]; exact (Below.refl _ _).alloc (Nat.le_refl _) _
  obtain ⟨v', w4, hrun, r2, r3, _, r5⟩ := run_append_own_at (P := Tryz.prog) W1 (kb + 1) 22 22 9 i0 _ 1 16 Tryz.underlying22 hi0 hz0 hz1 hz2 rfl (by decide) kN K.length (K.map Value.string) (ownRow_keep h.kn (fun g hg => hb1 g (hknl g hg).2)) ⟨W.heap.size, 0, none⟩ 1 1 [.string a] rfl
    (fun j u hu => by rw [addr_add, hcf.cell]; simpa using hu) (fun u hu => by simp at hu; rw [hu]; rfl) (by unfold maxLen; omega) (by omega) (by omega)
  have hv : v'.ownBlock = kN.ownBlock ∨ v'.ownBlock = some W1.heap.size := r5
  have hblk : ∀ k, k < W.heap.size → kN.ownBlock ≠ some k → w4.heap[k]? = W.heap[k]? := fun k hk hne => (r3.block k (by omega) (fun e => hne e.symm)).trans (hb1 k hk)
  have hs4 : W.heap.size < w4.heap.size := by have := r3.size; omega
  have hkb : kN.ownBlock ≠ some kb := fun e => by have := (hknl _ e).1; omega
  have hkbl : kL.ownBlock ≠ some kb := fun e => by have := (hkll _ e).1; omega
  have hC4 : Cel w4 kb 25 #[.int .u8 7, .string ⟨#[]⟩, kN, kL] := (hblk kb hlt hkb).trans h.box
  have hset : ∀ k, k ≠ kb → (w4.setCell ⟨kb, 2, none⟩ v').heap[k]? = w4.heap[k]? := fun k hk => Below.heap_setCell w4 ⟨kb, 2, none⟩ _ k hk
  have hsz : (w4.setCell ⟨kb, 2, none⟩ v').heap.size = w4.heap.size := by simp
  have hnb : ∀ g, v'.ownBlock = some g → kb + 1 ≤ g ∧ g < w4.heap.size := fun g hg => r2.lt g hg
  have hE : ∀ g, Els W kb kN kL g → g < W.heap.size → Els (w4.setCell ⟨kb, 2, none⟩ v') kb v' kL g := fun g hg _ => ⟨by rw [hsz]; have := hg.1; omega, hg.2.1, fun e => by
    rcases hv with e' | e'
    · rw [e'] at e; exact hg.2.2.1 e
    · rw [e'] at e; injection e with e; have := hg.1; omega, hg.2.2.2⟩
  have hk : ∀ g, Els W kb kN kL g → g < W.heap.size → (w4.setCell ⟨kb, 2, none⟩ v').heap[g]? = W.heap[g]? := fun g hg hgl => (hset g hg.2.1).trans (hblk g hgl hg.2.2.1)
  have hle : W.heap.size ≤ (w4.setCell ⟨kb, 2, none⟩ v').heap.size := by rw [hsz]; omega
  refine ⟨v', w4, by rw [hW1]; exact hrun, hC4, ⟨hC4.set 2 _, ?_, ?_, ?_, h.nam.keep hle hk hE, h.val.keep hle hk hE, fun z hz => JV.keep hle (fun p hp hlt' => World.cell?_of_block (hk p.block hp hlt')) hE _ (h.lj z hz), ?_, h.lo⟩, fun k hk' => hblk k hk'.1 hk'.2.2.1⟩
  · have e1 : (K ++ [a]).map Value.string = K.map Value.string ++ [.string a] := by simp
    rw [e1, List.length_append]
    exact ownRow_keep r2 (fun g hg => hset g (by have := (hnb g hg).1; omega))
  · exact ownRow_keep h.kl (fun g hg => (hset g (by have := (hkll g hg).1; omega)).trans (hblk g (hkll g hg).2 (fun e => h.ap g e hg)))
  · intro g hg e
    rcases hv with e' | e'
    · rw [e'] at hg; exact h.ap g hg e
    · rw [e'] at hg; injection hg with hg; have := (hkll g e).2; omega
  · have b1 : Below kb W1 w4 := grown_keep r3 (fun g hg => by have := (hknl g hg).1; omega) (by omega)
    have b2 : Below kb w4 (w4.setCell ⟨kb, 2, none⟩ v') := (Below.refl _ _).setCell (p := ⟨kb, 2, none⟩) (Nat.le_refl _) _
    exact h.bel.trans ((((hbw.mono (by omega)).trans b1).trans b2).mono h.lo)
set_option maxRecDepth 100000 in
theorem OtI.value {w W : World} {kb : Nat} {N K : List ByteArray} {V L : List JE} {vN vV kN kL : Value} (h : OtI w kb N V K L vN vV kN kL W) (z : JE) (hz : JV W (Els W kb kN kL) z.1 z.2.1 z.2.2) (hn : L.length ≤ 1000000) :
    ∃ v' w4, (Builtin.append_ #[23, 23] 23 #[kL, .slice (some ⟨W.heap.size, 0, none⟩) 1 1]).run Tryz.prog (W.alloc (.cells #[.int .u8 z.1.kind, .string z.1.text, z.2.1, z.2.2] 25)) = .ok v' w4 ∧
      Cel w4 kb 25 #[.int .u8 7, .string ⟨#[]⟩, kN, kL] ∧ OtI w kb N V K (L ++ [z]) vN vV kN v' (w4.setCell ⟨kb, 3, none⟩ v') ∧ (∀ k, Els W kb kN kL k → w4.heap[k]? = W.heap[k]?) := by
  obtain ⟨i0, hi0, hz0, hz1, hz2⟩ := info_parts infoJ
  have hlt := h.box.lt
  have hknl := h.kn.lt
  have hkll := h.kl.lt
  obtain ⟨Ax, nx, cx, Ay, ny, cy, e1, e2⟩ := hz.forms
  obtain ⟨W1, hW1⟩ : ∃ W1, W.alloc (.cells #[.int .u8 z.1.kind, .string z.1.text, z.2.1, z.2.2] 25) = W1 := ⟨_, rfl⟩
  have hs1 : W1.heap.size = W.heap.size + 1 := by rw [← hW1]; simp
  have hb1 : ∀ k, k < W.heap.size → W1.heap[k]? = W.heap[k]? := fun k hk => by rw [← hW1]; exact Below.heap_alloc W _ k hk
  have hcf : Cel W1 W.heap.size 25 #[.int .u8 z.1.kind, .string z.1.text, z.2.1, z.2.2] := by rw [← hW1]; exact Cel.fresh _ _ _
  have hbw : Below W.heap.size W W1 := by rw [← hW1]; exact (Below.refl _ _).alloc (Nat.le_refl _) _
  obtain ⟨v', w4, hrun, r2, r3, _, r5⟩ := run_append_own_at (P := Tryz.prog) W1 (kb + 1) 23 23 25 i0 _ 4 72 Tryz.underlying23 hi0 hz0 hz1 hz2 rfl (by decide) kL L.length (L.flatMap encJ) (ownRow_keep h.kl (fun g hg => hb1 g (hkll g hg).2)) ⟨W.heap.size, 0, none⟩ 1 1 (encJ z) rfl
    (fun j u hu => by rw [addr_add, hcf.cell]; simpa [encJ] using hu) (fun u hu => by
      simp [encJ] at hu
      rcases hu with hu | hu | hu | hu
      · rw [hu]; rfl
      · rw [hu]; rfl
      · rw [hu, e1]; rfl
      · rw [hu, e2]; rfl) (by unfold maxLen; omega) (by omega) (by omega)
  have hv : v'.ownBlock = kL.ownBlock ∨ v'.ownBlock = some W1.heap.size := r5
  have hblk : ∀ k, k < W.heap.size → kL.ownBlock ≠ some k → w4.heap[k]? = W.heap[k]? := fun k hk hne => (r3.block k (by omega) (fun e => hne e.symm)).trans (hb1 k hk)
  have hs4 : W.heap.size < w4.heap.size := by have := r3.size; omega
  have hkb : kN.ownBlock ≠ some kb := fun e => by have := (hknl _ e).1; omega
  have hkbl : kL.ownBlock ≠ some kb := fun e => by have := (hkll _ e).1; omega
  have hC4 : Cel w4 kb 25 #[.int .u8 7, .string ⟨#[]⟩, kN, kL] := (hblk kb hlt hkbl).trans h.box
  have hset : ∀ k, k ≠ kb → (w4.setCell ⟨kb, 3, none⟩ v').heap[k]? = w4.heap[k]? := fun k hk => Below.heap_setCell w4 ⟨kb, 3, none⟩ _ k hk
  have hsz : (w4.setCell ⟨kb, 3, none⟩ v').heap.size = w4.heap.size := by simp
  have hnb : ∀ g, v'.ownBlock = some g → kb + 1 ≤ g ∧ g < w4.heap.size := fun g hg => r2.lt g hg
  have hE : ∀ g, Els W kb kN kL g → g < W.heap.size → Els (w4.setCell ⟨kb, 3, none⟩ v') kb kN v' g := fun g hg _ => ⟨by rw [hsz]; have := hg.1; omega, hg.2.1, hg.2.2.1, fun e => by
    rcases hv with e' | e'
    · rw [e'] at e; exact hg.2.2.2 e
    · rw [e'] at e; injection e with e; have := hg.1; omega⟩
  have hk : ∀ g, Els W kb kN kL g → g < W.heap.size → (w4.setCell ⟨kb, 3, none⟩ v').heap[g]? = W.heap[g]? := fun g hg hgl => (hset g hg.2.1).trans (hblk g hgl hg.2.2.2)
  have hle : W.heap.size ≤ (w4.setCell ⟨kb, 3, none⟩ v').heap.size := by rw [hsz]; omega
  refine ⟨v', w4, by rw [hW1]; exact hrun, hC4, ⟨hC4.set 3 _, ?_, ?_, ?_, h.nam.keep hle hk hE, h.val.keep hle hk hE, fun y hy => ?_, ?_, h.lo⟩, fun k hk' => hblk k hk'.1 hk'.2.2.2⟩
  · exact ownRow_keep h.kn (fun g hg => (hset g (by have := (hknl g hg).1; omega)).trans (hblk g (hknl g hg).2 (h.ap g hg)))
  · have e3 : (L ++ [z]).flatMap encJ = L.flatMap encJ ++ encJ z := by simp
    rw [e3, List.length_append]
    exact ownRow_keep r2 (fun g hg => hset g (by have := (hnb g hg).1; omega))
  · intro g hg e
    rcases hv with e' | e'
    · rw [e'] at e; exact h.ap g hg e
    · rw [e'] at e; injection e with e; have := (hknl g hg).2; omega
  · have hJ : JV W (Els W kb kN kL) y.1 y.2.1 y.2.2 := by
      rcases List.mem_append.1 hy with hy | hy
      · exact h.lj y hy
      · simp at hy; subst hy; exact hz
    exact JV.keep hle (fun p hp hlt' => World.cell?_of_block (hk p.block hp hlt')) hE _ hJ
  · have b1 : Below kb W1 w4 := grown_keep r3 (fun g hg => by have := (hkll g hg).1; omega) (by omega)
    have b2 : Below kb w4 (w4.setCell ⟨kb, 3, none⟩ v') := (Below.refl _ _).setCell (p := ⟨kb, 3, none⟩) (Nat.le_refl _) _
    exact h.bel.trans ((((hbw.mono (by omega)).trans b1).trans b2).mono h.lo)
theorem yields_cut {P : Program} {ops : Array Oper} {S : World → Prop} {op : Oper} {a : Act} {v : Value} (hw : Region.wanted op (yielded ops a.tmps) = true) (t : TypeId) (x : Operand) (lo hi : Option Operand) (ho : op.op = .slice t x lo hi none)
    (vx : Value) (vl vh : Option Value) (hx : a.eval x = vx) (hl : lo.map a.eval = vl) (hh : hi.map a.eval = vh) (hrun : ∀ w, (Instr.sliceAt t vx vl vh none).run P w = .ok v w) : YieldsIf P ops S op v a :=
  .inl ⟨hw, fun w _ => by
    subst hx; subst hl; subst hh
    unfold execOp
    simp only [ho]
    cases lo <;> cases hi <;> simp_all [Result.andThen]⟩
def cutA (g o c k s : Nat) : Addr := if c = k then ⟨g, o, none⟩ else ⟨g, o + k * s, none⟩
theorem cut_hi {P : Program} {t : TypeId} {sz : Nat} (hu : P.underlying t = some (.slice (P.elem t))) (hs : ∀ W, (sizeOf (P.elem t)).run P W = .ok sz W) (g o n c h : Nat) (hc : h ≤ c) (h0 : 0 < c) (W : World) :
    (Instr.sliceAt t (.slice (some ⟨g, o, none⟩) n c) none (some (.int .i64 h)) none).run P W = .ok (.slice (some ⟨g, o, none⟩) h c) W := by
  rw [run_sliceAt_slice W t _ none _ none hu, run_slice_h W t (some ⟨g, o, none⟩) n c hu .i64 h (by omega) (by omega), hs W]
  simp only [Result.andThen, sliced, Int.toNat_natCast, if_neg (show ¬ c = 0 by omega), Option.map_some, addr_add, Nat.zero_mul, Nat.add_zero, Nat.sub_zero]
theorem cut_lo {P : Program} {t : TypeId} {sz : Nat} (hu : P.underlying t = some (.slice (P.elem t))) (hs : ∀ W, (sizeOf (P.elem t)).run P W = .ok sz W) (g o n c l : Nat) (hl : l ≤ n) (W : World) :
    (Instr.sliceAt t (.slice (some ⟨g, o, none⟩) n c) (some (.int .i64 l)) none none).run P W = .ok (.slice (some (cutA g o c l sz)) (n - l) (c - l)) W := by
  rw [run_sliceAt_slice W t _ _ none none hu, run_slice_l W t (some ⟨g, o, none⟩) n c hu .i64 l (by omega) (by omega), hs W]
  unfold cutA
  simp only [Result.andThen, sliced, Int.toNat_natCast]
  by_cases e : c = l
  · simp [e]
  · simp [e, addr_add]
theorem elS : Tryz.prog.elem 22 = 9 := by kernel_rfl
theorem elJ : Tryz.prog.elem 23 = 25 := by kernel_rfl
theorem uS : Tryz.prog.underlying 22 = some (.slice (Tryz.prog.elem 22)) := by rw [elS]; exact Tryz.underlying22
theorem uJ : Tryz.prog.underlying 23 = some (.slice (Tryz.prog.elem 23)) := by rw [elJ]; exact Tryz.underlying23
theorem szS (W : World) : (sizeOf (Tryz.prog.elem 22)).run Tryz.prog W = .ok 1 W := by rw [elS]; kernel_rfl
theorem szJ (W : World) : (sizeOf (Tryz.prog.elem 23)).run Tryz.prog W = .ok 4 W := by rw [elJ]; kernel_rfl
theorem OtI.own_els {w W w2 : World} {kb : Nat} {N K : List ByteArray} {V L : List JE} {vN vV kN kL v : Value} (h : OtI w kb N V K L vN vV kN kL W) (_hb : Below W.heap.size W w2) (hv : ∀ g, v.ownBlock = some g → W.heap.size ≤ g ∧ g < w2.heap.size) : ∀ g, v.ownBlock = some g → Els w2 kb kN kL g := fun g hg => by
  have h1 := hv g hg
  have h2 := h.box.lt
  exact ⟨h1.2, by omega, fun e => by have := (h.kn.lt g e).2; omega, fun e => by have := (h.kl.lt g e).2; omega⟩
set_option maxRecDepth 100000 in
theorem OtI.cutN {w W : World} {kb : Nat} {N K : List ByteArray} {V L : List JE} {vN vV kN kL : Value} (h : OtI w kb N V K L vN vV kN kL W) {n : Nat} (hn : n < N.length) (hl : N.length ≤ 1000000) :
    ∃ S1 S2 v1 w1 v2 w2, (∀ W', (Instr.sliceAt 22 vN none (some (.int .i64 n)) none).run Tryz.prog W' = .ok S1 W') ∧ (∀ W', (Instr.sliceAt 22 vN (some (.int .i64 ((n : Int) + 1))) none none).run Tryz.prog W' = .ok S2 W') ∧
      (Builtin.append_ #[22, 22] 22 #[.slice (some ⟨W.heap.size, 0, none⟩) 0 0, S1]).run Tryz.prog (W.alloc (.cells #[] 9)) = .ok v1 w1 ∧
      (Builtin.append_ #[22, 22] 22 #[v1, S2]).run Tryz.prog w1 = .ok v2 w2 ∧ OtI w kb (N.eraseIdx n) V K L v2 vV kN kL w2 := by
  obtain ⟨i0, hi0, hz0, hz1, hz2⟩ := info_parts infoS
  obtain ⟨g, o, c, rfl, hc, hY, hg, hcell⟩ := h.nam.at hn
  obtain ⟨v1, w1, v2, w2, r1, r2, o2, hb, _, _⟩ := rebuild (P := Tryz.prog) (W := W) 22 22 9 i0 _ 1 16 Tryz.underlying22 hi0 hz0 hz1 hz2 rfl (by decide) (by decide) (N.map Value.string) N.length n c g o (by simp) hn hg
    (fun j u hu => by
      rw [List.getElem?_map] at hu
      rcases hx : N[j]? with _ | x
      · rw [hx] at hu; cases hu
      · rw [hx] at hu; injection hu with hu; rw [← hu]; exact hcell j x hx) (fun u hu => by obtain ⟨x, _, rfl⟩ := List.mem_map.1 hu; rfl) hl (cutA g o c (n + 1) 1) (c - (n + 1)) (by
      unfold cutA
      by_cases e : c = n + 1
      · left; omega
      · right; rw [if_neg e])
  have h2 := h.step hb
  have e1 : (N.map Value.string).take (n * 1) ++ (N.map Value.string).drop ((n + 1) * 1) = (N.eraseIdx n).map Value.string := by
    rw [List.eraseIdx_eq_take_drop_succ, List.map_append, List.map_take, List.map_drop, Nat.mul_one, Nat.mul_one]
  have e2 : (N.eraseIdx n).length = N.length - 1 := List.length_eraseIdx_of_lt hn
  rw [e1, ← e2] at o2
  have hs := own_str (Y := Els w2 kb kN kL) o2 (h.own_els hb (fun g hg => o2.lt g hg))
  refine ⟨_, _, v1, w1, v2, w2, fun W' => cut_hi uS szS g o _ c n (by omega) (by omega) W', fun W' => ?_, r1, r2, ⟨h2.box, h2.kn, h2.kl, h2.ap, hs, h2.val, h2.lj, h2.bel, h2.lo⟩⟩
  have := cut_lo uS szS g o N.length c (n + 1) (by omega) W'
  rwa [show ((n + 1 : Nat) : Int) = (n : Int) + 1 from rfl] at this
set_option maxRecDepth 100000 in
theorem OtI.cutV {w W : World} {kb : Nat} {N K : List ByteArray} {V L : List JE} {vN vV kN kL : Value} (h : OtI w kb N V K L vN vV kN kL W) {n : Nat} (hn : n < V.length) (hl : V.length ≤ 1000000) :
    ∃ S1 S2 v1 w1 v2 w2, (∀ W', (Instr.sliceAt 23 vV none (some (.int .i64 n)) none).run Tryz.prog W' = .ok S1 W') ∧ (∀ W', (Instr.sliceAt 23 vV (some (.int .i64 ((n : Int) + 1))) none none).run Tryz.prog W' = .ok S2 W') ∧
      (Builtin.append_ #[23, 23] 23 #[.slice (some ⟨W.heap.size, 0, none⟩) 0 0, S1]).run Tryz.prog (W.alloc (.cells #[] 25)) = .ok v1 w1 ∧
      (Builtin.append_ #[23, 23] 23 #[v1, S2]).run Tryz.prog w1 = .ok v2 w2 ∧ OtI w kb N (V.eraseIdx n) K L vN v2 kN kL w2 := by
  obtain ⟨i0, hi0, hz0, hz1, hz2⟩ := info_parts infoJ
  have hvj := h.val
  obtain ⟨_, _, _, _, _, hj⟩ := hvj
  obtain ⟨g, o, c, rfl, hc, hY, hg, hcell⟩ := h.val.at hn
  obtain ⟨v1, w1, v2, w2, r1, r2, o2, hb, _, _⟩ := rebuild (P := Tryz.prog) (W := W) 23 23 25 i0 _ 4 72 Tryz.underlying23 hi0 hz0 hz1 hz2 rfl (by decide) (by decide) (V.flatMap encJ) V.length n c g o (by rw [flat_len]) hn hg
    (fun j u hu => by
      have hj1 := (List.getElem?_eq_some_iff.1 hu).1
      rw [flat_len] at hj1
      have hq : j / 4 < V.length := by omega
      have hz := List.getElem?_eq_getElem hq
      have hm : j % 4 < (encJ V[j / 4]).length := by rw [encJ_len]; omega
      have h3 := flat_get V (j / 4) (j % 4) _ _ hz (List.getElem?_eq_getElem hm)
      rw [show j / 4 * 4 + j % 4 = j by omega, hu] at h3
      have h4 := hcell (j / 4) _ hz (j % 4) _ (List.getElem?_eq_getElem hm)
      rw [show o + j / 4 * 4 + j % 4 = o + j by omega] at h4
      rw [h3]; exact h4) (fun u hu => by
      obtain ⟨z, hz, hu⟩ := List.mem_flatMap.1 hu
      obtain ⟨Ax, nx, cx, Ay, ny, cy, e1, e2⟩ := (hj z hz).forms
      simp [encJ] at hu
      rcases hu with hu | hu | hu | hu
      · rw [hu]; rfl
      · rw [hu]; rfl
      · rw [hu, e1]; rfl
      · rw [hu, e2]; rfl) hl (cutA g o c (n + 1) 4) (c - (n + 1)) (by
      unfold cutA
      by_cases e : c = n + 1
      · left; omega
      · right; rw [if_neg e])
  have h2 := h.step hb
  have e1 : (V.flatMap encJ).take (n * 4) ++ (V.flatMap encJ).drop ((n + 1) * 4) = (V.eraseIdx n).flatMap encJ := by
    rw [List.eraseIdx_eq_take_drop_succ, List.flatMap_append, flat_take, flat_drop]
  have e2 : (V.eraseIdx n).length = V.length - 1 := List.length_eraseIdx_of_lt hn
  rw [e1, ← e2] at o2
  obtain ⟨_, _, _, _, _, hj2⟩ := h2.val
  have hrow : ValR w2 (Els w2 kb kN kL) v2 (V.eraseIdx n) := by
    have hV : ∀ z ∈ V.eraseIdx n, JV w2 (Els w2 kb kN kL) z.1 z.2.1 z.2.2 := fun z hz => hj2 z (List.mem_of_mem_eraseIdx hz)
    rcases o2.2 with ⟨e, h0⟩ | ⟨g', cap, cur, e, hg', hh, hnc, hcm, hcs, htk⟩
    · exact ⟨none, 0, by rw [e, h0], by omega, fun hp => by omega, hV⟩
    · have hc' := o2.cells (g := g') (by rw [e]; rfl)
      have hlt' := o2.lt g' (by rw [e]; rfl)
      refine ⟨some ⟨g', 0, none⟩, cap, e, hnc, fun hp => ⟨g', 0, rfl, h.own_els hb (fun g hg => o2.lt g hg) g' (by rw [e]; rfl), hlt'.2, fun j z hz i u hu => ?_⟩, hV⟩
      have := hc' (j * 4 + i) u (flat_get _ j i z u hz hu)
      rw [addr_add] at this
      rwa [show 0 + j * 4 + i = 0 + (j * 4 + i) by omega]
  refine ⟨_, _, v1, w1, v2, w2, fun W' => cut_hi uJ szJ g o _ c n (by omega) (by omega) W', fun W' => ?_, r1, r2, ⟨h2.box, h2.kn, h2.kl, h2.ap, h2.nam, hrow, h2.lj, h2.bel, h2.lo⟩⟩
  have := cut_lo uJ szJ g o V.length c (n + 1) (by omega) W'
  rwa [show ((n + 1 : Nat) : Int) = (n : Int) + 1 from rfl] at this
end Go.Proofs.YtdjfoabinjfnfaaGreatDoor
