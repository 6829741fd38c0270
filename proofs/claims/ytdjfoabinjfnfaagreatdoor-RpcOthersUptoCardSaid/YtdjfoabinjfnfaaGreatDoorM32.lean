/-
  Messages written as envelopes, and read again, as plain data: what is written is read as it was; what is read is written and read again as the same. No program.
-/
import Derived.Test.YtdjfoabinjfnfaaGreatDoorRwD
import Derived.Test.YtdjfoabinjfnfaaGreatDoorRpE
import Derived.Test.YtdjfoabinjfnfaaGreatDoorM29
import Derived.Test.YtdjfoabinjfnfaaGreatDoorM03
import Derived.Test.YtdjfoabinjfnfaaGreatDoorJsQ
import Derived.Test.YtdjfoabinjfnfaaGreatDoorJsUb
import Derived.Test.YtdjfoabinjfnfaaGreatDoorM20
import Derived.Test.YtdjfoabinjfnfaaGreatDoorM00
import Derived.Lib.ItoaMem
import Derived.Lib.ItoaLen
import Derived.Test.YtdjfoabinjfnfaaGreatDoorM23
namespace Go.Proofs.YtdjfoabinjfnfaaGreatDoor
def strJ (s : ByteArray) : Jsn := ⟨5, s, [], []⟩
def numJ (n : Int) : Jsn := ⟨4, ⟨(ofNL n).toArray⟩, [], []⟩
def objJ : Jsn := ⟨7, ⟨#[]⟩, [], []⟩
def verJ : Jsn := strJ ⟨#[50, 46, 48]⟩
def errJ (m : Msg) : Jsn := putJ (putJ objJ kCode (numJ m.code)) kMsg (strJ m.text)
def headJ (m : Msg) : Jsn := putJ (putJ objJ kVer verJ) kId m.id
def askJ (m : Msg) : Jsn := if m.kind ≤ 2 then putJ (putJ (headJ m) kMeth (strJ m.method)) kPar m.params else headJ m
def resJ (m : Msg) : Jsn := putJ (askJ m) kRes m.result
def menv (m : Msg) : Jsn := if m.kind = 4 then putJ (resJ m) kErr (errJ m) else resJ m
def mok (m : Msg) : Bool := mform m.kind m.id m.method m.params m.result m.code m.text
def jwrite (Own : List UInt8 → List UInt8 × Int) (Val : List UInt8 → Bool) (m : Msg) : Jsn × Int :=
  if m.kind < 1 ∨ 4 < m.kind then (zeroJ, 1) else if mok m = false then (zeroJ, 4)
  else if jcheck Own Val (menv m) ≠ 0 then (zeroJ, jcheck Own Val (menv m)) else (menv m, 0)
def ObjK (o : Jsn) : Prop := o.kind = 7 ∧ o.text = ⟨#[]⟩ ∧ o.names.length = o.list.length
theorem objJ_ok : ObjK objJ := ⟨rfl, rfl, rfl⟩
theorem putJ_ok {o : Jsn} (h : ObjK o) (nm : ByteArray) (x : Jsn) : ObjK (putJ o nm x) := by
  unfold putJ
  split
  · exact h
  · obtain ⟨h1, h2, h3⟩ := h
    exact ⟨h1, h2, by simp [h3]⟩
theorem headJ_ok (m : Msg) : ObjK (headJ m) := putJ_ok (putJ_ok objJ_ok _ _) _ _
theorem askJ_ok (m : Msg) : ObjK (askJ m) := by
  unfold askJ
  split
  · exact putJ_ok (putJ_ok (headJ_ok m) _ _) _ _
  · exact headJ_ok m
theorem resJ_ok (m : Msg) : ObjK (resJ m) := putJ_ok (askJ_ok m) _ _
theorem errJ_ok (m : Msg) : ObjK (errJ m) := putJ_ok (putJ_ok objJ_ok _ _) _ _
theorem menv_ok (m : Msg) : ObjK (menv m) := by
  unfold menv
  split
  · exact putJ_ok (resJ_ok m) _ _
  · exact resJ_ok m
theorem putJ_names {o : Jsn} {nm : ByteArray} {x : Jsn} {b : ByteArray} (h : b ∈ (putJ o nm x).names) : b ∈ o.names ∨ b = nm := by
  unfold putJ at h
  split at h
  · exact .inl h
  · simpa using h
theorem find_put (ns : List ByteArray) (nm s : ByteArray) : jfind (ns ++ [nm]) s = (jfind ns s).or (if nm = s then some ns.length else none) := by
  unfold jfind
  rw [List.findIdx?_append]
  congr 1
  by_cases h : nm = s <;> simp [h]
theorem find_lt {ns : List ByteArray} {s : ByteArray} {i : Nat} (h : jfind ns s = some i) : i < ns.length ∧ ns[i]? = some s := by
  unfold jfind at h
  rw [List.findIdx?_eq_some_iff_getElem] at h
  obtain ⟨h1, h2, _⟩ := h
  exact ⟨h1, by rw [List.getElem?_eq_getElem h1]; simpa using h2⟩
theorem get_put {o : Jsn} (h : ObjK o) (nm : ByteArray) (x : Jsn) (s : ByteArray) : jget (putJ o nm x) s = (jget o s).or (if jsame x zeroJ = true then none else if nm = s then some x else none) := by
  unfold putJ
  split
  · simp
  · obtain ⟨h1, h2, h3⟩ := h
    obtain ⟨k, t, n, l⟩ := o
    dsimp only at h1 h2 h3
    subst h1
    unfold jget
    simp only [if_true, find_put]
    rcases hf : jfind n s with _ | i
    · by_cases he : nm = s
      · simp [he, h3]
      · simp [he]
    · have hi := (find_lt hf).1
      simp only [Option.some_or]
      rw [List.getElem?_append_left (by omega), List.getElem?_eq_getElem (by omega)]
      simp
theorem get_obj (s : ByteArray) : jget objJ s = none := rfl
theorem str_some (s : ByteArray) : jsame (strJ s) zeroJ = false := by
  cases h : jsame (strJ s) zeroJ
  · rfl
  · rw [jsame_eq] at h; exact absurd (congrArg Jsn.kind h) (show ¬ ((5 : Int) = 0) by decide)
theorem num_some (n : Int) : jsame (numJ n) zeroJ = false := by
  cases h : jsame (numJ n) zeroJ
  · rfl
  · rw [jsame_eq] at h; exact absurd (congrArg Jsn.kind h) (show ¬ ((4 : Int) = 0) by decide)
theorem obj_some {o : Jsn} (h : ObjK o) : jsame o zeroJ = false := by
  cases h' : jsame o zeroJ
  · rfl
  · rw [jsame_eq] at h'; subst h'; exact absurd h.1 (by decide)
theorem env_get (m : Msg) (s : ByteArray) : jget (menv m) s =
    if s = kVer then some verJ else if s = kId then (if jsame m.id zeroJ = true then none else some m.id)
    else if s = kMeth then (if m.kind ≤ 2 then some (strJ m.method) else none) else if s = kPar then (if m.kind ≤ 2 ∧ jsame m.params zeroJ = false then some m.params else none)
    else if s = kRes then (if jsame m.result zeroJ = true then none else some m.result) else if s = kErr then (if m.kind = 4 then some (errJ m) else none) else none := by
  have hh : jget (headJ m) s = if s = kVer then some verJ else if s = kId then (if jsame m.id zeroJ = true then none else some m.id) else none := by
    unfold headJ
    rw [get_put (putJ_ok objJ_ok _ _), get_put objJ_ok, get_obj]
    have hv : jsame verJ zeroJ = false := str_some _
    by_cases h1 : s = kVer
    · subst h1; simp [hv]
    · by_cases h2 : s = kId
      · subst h2
        simp [hv, show ¬ kVer = kId from by decide, show ¬ kId = kVer from by decide]
      · simp [hv, h1, h2, Ne.symm h1, Ne.symm h2]
  have ha : jget (askJ m) s = (jget (headJ m) s).or (if s = kMeth then (if m.kind ≤ 2 then some (strJ m.method) else none) else if s = kPar then (if m.kind ≤ 2 ∧ jsame m.params zeroJ = false then some m.params else none) else none) := by
    unfold askJ
    by_cases hk : m.kind ≤ 2
    · rw [if_pos hk, get_put (putJ_ok (headJ_ok m) _ _), get_put (headJ_ok m), str_some, Option.or_assoc]
      congr 1
      by_cases h1 : s = kMeth
      · subst h1; simp [hk]
      · by_cases h2 : s = kPar
        · subst h2
          cases hj : jsame m.params zeroJ <;> simp [hk, h1, Ne.symm h1]
        · simp [h1, h2, Ne.symm h1, Ne.symm h2]
    · rw [if_neg hk]
      have : ∀ a b : Prop, ∀ [Decidable a] [Decidable b], (if a then (if m.kind ≤ 2 then some (strJ m.method) else none) else if b then (if m.kind ≤ 2 ∧ jsame m.params zeroJ = false then some m.params else none) else none : Option Jsn) = none := by
        intro a b _ _
        simp [hk]
      rw [this, Option.or_none]
  have hr : jget (resJ m) s = (jget (askJ m) s).or (if s = kRes then (if jsame m.result zeroJ = true then none else some m.result) else none) := by
    unfold resJ
    rw [get_put (askJ_ok m)]
    congr 1
    by_cases h1 : s = kRes
    · subst h1; simp
    · simp [h1, Ne.symm h1]
  have he : jget (menv m) s = (jget (resJ m) s).or (if s = kErr then (if m.kind = 4 then some (errJ m) else none) else none) := by
    unfold menv
    by_cases hk : m.kind = 4
    · rw [if_pos hk, get_put (resJ_ok m), obj_some (errJ_ok m)]
      congr 1
      by_cases h1 : s = kErr
      · subst h1; simp [hk]
      · simp [h1, Ne.symm h1]
    · rw [if_neg hk]
      have : (if s = kErr then (if m.kind = 4 then some (errJ m) else none) else none : Option Jsn) = none := by simp [hk]
      rw [this, Option.or_none]
  rw [he, hr, ha, hh]
  by_cases h1 : s = kVer
  · subst h1; simp
  by_cases h2 : s = kId
  · subst h2
    simp [show ¬ kId = kVer from by decide, show ¬ kId = kMeth from by decide, show ¬ kId = kPar from by decide, show ¬ kId = kRes from by decide, show ¬ kId = kErr from by decide]
  by_cases h3 : s = kMeth
  · subst h3
    simp [show ¬ kMeth = kVer from by decide, show ¬ kMeth = kId from by decide, show ¬ kMeth = kRes from by decide, show ¬ kMeth = kErr from by decide]
  by_cases h4 : s = kPar
  · subst h4
    simp [show ¬ kPar = kVer from by decide, show ¬ kPar = kId from by decide, show ¬ kPar = kMeth from by decide, show ¬ kPar = kRes from by decide, show ¬ kPar = kErr from by decide]
  by_cases h5 : s = kRes
  · subst h5
    simp [show ¬ kRes = kVer from by decide, show ¬ kRes = kId from by decide, show ¬ kRes = kMeth from by decide, show ¬ kRes = kPar from by decide, show ¬ kRes = kErr from by decide]
  simp [h1, h2, h3, h4, h5]
theorem err_get (m : Msg) (s : ByteArray) : jget (errJ m) s = if s = kCode then some (numJ m.code) else if s = kMsg then some (strJ m.text) else none := by
  unfold errJ
  rw [get_put (putJ_ok objJ_ok _ _), get_put objJ_ok, get_obj, num_some, str_some]
  by_cases h1 : s = kCode
  · subst h1; simp
  · by_cases h2 : s = kMsg
    · subst h2; simp [show ¬ kCode = kMsg from by decide, show ¬ kMsg = kCode from by decide]
    · simp [h1, h2, Ne.symm h1, Ne.symm h2]
theorem ba_nil {s : ByteArray} (h : s.data.toList = []) : s = ⟨#[]⟩ := by
  obtain ⟨d⟩ := s
  congr 1
  exact Array.toList_eq_nil_iff.1 h
theorem mok_facts {m : Msg} (h : mok m = true) : (m.kind = 2 → m.id = zeroJ) ∧ (m.kind ≠ 2 → jisid m.id = true ∨ (m.kind = 4 ∧ m.id.kind = 1)) ∧ (2 < m.kind → m.method = ⟨#[]⟩ ∧ m.params = zeroJ) ∧
    (m.kind ≤ 2 → jsame m.params zeroJ = true ∨ jispar m.params = true) ∧ (m.kind = 3 ↔ jsame m.result zeroJ = false) ∧ (m.kind ≠ 4 → m.code = 0 ∧ m.text = ⟨#[]⟩) ∧ Lib.validD m.method.data.toList = true ∧ Lib.validD m.text.data.toList = true := by
  unfold mok mform at h
  simp only [Bool.and_eq_true, Bool.not_eq_true', Bool.or_eq_false_iff] at h
  obtain ⟨⟨⟨⟨⟨⟨a1, a2⟩, ⟨b1, b2⟩⟩, c⟩, d⟩, e⟩, f⟩ := h
  refine ⟨fun hk => ?_, fun hk => ?_, fun hk => ?_, fun hk => ?_, ?_, fun hk => ?_, e, f⟩
  · simp only [hk] at a1
    simp at a1
    exact (jsame_eq _ _).1 a1
  · have hk' : (m.kind != 2) = true := by simp [hk]
    rw [hk'] at a2
    cases hj : jisid m.id
    · rw [hj] at a2
      simp at a2
      exact .inr a2
    · exact .inl rfl
  · have hk' : decide (2 < m.kind) = true := by simp [hk]
    rw [hk'] at b1
    simp at b1
    exact ⟨ba_nil (by simpa using b1.1), (jsame_eq _ _).1 b1.2⟩
  · have hk' : decide (m.kind ≤ 2) = true := by simp [hk]
    rw [hk'] at b2
    cases hj : jsame m.params zeroJ
    · rw [hj] at b2; simp at b2; exact .inr b2
    · exact .inl rfl
  · cases hj : jsame m.result zeroJ
    · rw [hj] at c; simp at c; simp [c]
    · rw [hj] at c; simp at c; simp [c]
  · have hk' : (m.kind != 4) = true := by simp [hk]
    rw [hk'] at d
    simp at d
    exact ⟨d.1, ba_nil (by simpa using d.2)⟩
theorem same_zero {x : Jsn} (h : jsame x zeroJ = true) : x = zeroJ := (jsame_eq _ _).1 h
theorem zero_same : jsame zeroJ zeroJ = true := jsame_refl _
theorem isid_some {x : Jsn} (h : jisid x = true) : jsame x zeroJ = false := by
  cases hj : jsame x zeroJ
  · rfl
  · rw [same_zero hj] at h; exact absurd h (by decide)
theorem null_some {x : Jsn} (h : x.kind = 1) : jsame x zeroJ = false := by
  cases hj : jsame x zeroJ
  · rfl
  · rw [same_zero hj] at h; exact absurd h (by decide)
theorem env_read {Own : List UInt8 → List UInt8 × Int} {Val : List UInt8 → Bool} {m : Msg} (h1 : 1 ≤ m.kind) (h4 : m.kind ≤ 4) (hf : mok m = true) (hc : jcheck Own Val (menv m) = 0) (hi : intL (ofNL m.code) = (m.code, 0)) :
    jread Own Val (menv m) = (m, 0) := by
  obtain ⟨f1, f2, f3, f4, f5, f6, _, _⟩ := mok_facts hf
  have gV : jget (menv m) kVer = some verJ := by rw [env_get]; simp
  have gI : jget (menv m) kId = if jsame m.id zeroJ = true then none else some m.id := by
    rw [env_get]; simp [show ¬ kId = kVer from by decide]
  have gM : jget (menv m) kMeth = if m.kind ≤ 2 then some (strJ m.method) else none := by
    rw [env_get]; simp [show ¬ kMeth = kVer from by decide, show ¬ kMeth = kId from by decide]
  have gP : jget (menv m) kPar = if m.kind ≤ 2 ∧ jsame m.params zeroJ = false then some m.params else none := by
    rw [env_get]; simp [show ¬ kPar = kVer from by decide, show ¬ kPar = kId from by decide, show ¬ kPar = kMeth from by decide]
  have gR : jget (menv m) kRes = if jsame m.result zeroJ = true then none else some m.result := by
    rw [env_get]; simp [show ¬ kRes = kVer from by decide, show ¬ kRes = kId from by decide, show ¬ kRes = kMeth from by decide, show ¬ kRes = kPar from by decide]
  have gE : jget (menv m) kErr = if m.kind = 4 then some (errJ m) else none := by
    rw [env_get]; simp [show ¬ kErr = kVer from by decide, show ¬ kErr = kId from by decide, show ¬ kErr = kMeth from by decide, show ¬ kErr = kPar from by decide, show ¬ kErr = kRes from by decide]
  have dI : jgd (menv m) kId = m.id := by
    unfold jgd; rw [gI]
    cases hj : jsame m.id zeroJ
    · simp
    · simp [same_zero hj]
  have dV : jgd (menv m) kVer = verJ := by unfold jgd; rw [gV]; rfl
  have sV : jgs (menv m) kVer = true := by unfold jgs; rw [gV]; rfl
  have sI : jgs (menv m) kId = !jsame m.id zeroJ := by unfold jgs; rw [gI]; cases jsame m.id zeroJ <;> simp
  have sR : jgs (menv m) kRes = !jsame m.result zeroJ := by unfold jgs; rw [gR]; cases jsame m.result zeroJ <;> simp
  have dR : jgd (menv m) kRes = m.result := by
    unfold jgd; rw [gR]
    cases hj : jsame m.result zeroJ
    · simp
    · simp [same_zero hj]
  have sM : jgs (menv m) kMeth = decide (m.kind ≤ 2) := by unfold jgs; rw [gM]; by_cases hk : m.kind ≤ 2 <;> simp [hk]
  have sE : jgs (menv m) kErr = decide (m.kind = 4) := by unfold jgs; rw [gE]; by_cases hk : m.kind = 4 <;> simp [hk]
  unfold jread
  rw [if_neg (by simp [hc]), if_neg (by rw [sV, dV]; simp [verJ, strJ]), dI, sI, sM, sR, sE]
  by_cases hk : m.kind ≤ 2
  · rw [if_pos (by simp [hk])]
    have dM : jgd (menv m) kMeth = strJ m.method := by unfold jgd; rw [gM, if_pos hk]; rfl
    have dP : jgd (menv m) kPar = m.params := by
      unfold jgd; rw [gP]
      cases hj : jsame m.params zeroJ
      · simp [hk]
      · simp [same_zero hj]
    have sP : jgs (menv m) kPar = !jsame m.params zeroJ := by unfold jgs; rw [gP]; cases hj : jsame m.params zeroJ <;> simp [hk]
    rw [dM, dP, sP]
    have hres : m.result = zeroJ := by
      cases hj : jsame m.result zeroJ
      · have := f5.2 hj; omega
      · exact same_zero hj
    obtain ⟨hco, htx⟩ := f6 (by omega)
    obtain ⟨k, I, me, P, R, co, tx⟩ := m
    dsimp only at *
    subst hco; subst htx; subst hres
    unfold jasks
    rw [if_neg (by
      rintro (h | ⟨h, h'⟩ | ⟨h, h'⟩)
      · exact h rfl
      · rcases Int.lt_or_eq_of_le hk with hk2 | hk2
        · rcases f2 (by omega) with h2 | h2
          · rw [h2] at h'; cases h'
          · omega
        · rw [f1 hk2, zero_same] at h; cases h
      · rcases f4 hk with h2 | h2
        · rw [h2] at h; cases h
        · rw [h2] at h'; cases h')]
    rcases Int.lt_or_eq_of_le hk with hk2 | hk2
    · have : k = 1 := by omega
      subst this
      rcases f2 (by omega) with h2 | h2
      · rw [isid_some h2]; rfl
      · omega
    · subst hk2
      rw [f1 rfl, zero_same]
      rfl
  · rw [if_neg (by simp [hk])]
    obtain ⟨hme, hpa⟩ := f3 (by omega)
    have hid : jsame m.id zeroJ = false := by
      rcases f2 (by omega) with h2 | h2
      · exact isid_some h2
      · exact null_some h2.2
    rw [hid]
    unfold janswers
    by_cases hk3 : m.kind = 3
    · have hr := f5.1 hk3
      have hii : jisid m.id = true := by
        rcases f2 (by omega) with h2 | h2
        · exact h2
        · omega
      obtain ⟨hco, htx⟩ := f6 (by omega)
      rw [hr, hii, dR]
      obtain ⟨k, I, me, P, R, co, tx⟩ := m
      dsimp only at *
      subst hco; subst htx; subst hme; subst hpa; subst hk3
      simp
    · have hk4 : m.kind = 4 := by omega
      have hres : jsame m.result zeroJ = true := by
        cases hj : jsame m.result zeroJ
        · exact absurd (f5.2 hj) hk3
        · rfl
      have dE : jgd (menv m) kErr = errJ m := by unfold jgd; rw [gE, if_pos hk4]; rfl
      have dC : jgd (errJ m) kCode = numJ m.code := by unfold jgd; rw [err_get]; simp
      have dT : jgd (errJ m) kMsg = strJ m.text := by unfold jgd; rw [err_get]; simp [show ¬ kMsg = kCode from by decide]
      have sT : jgs (errJ m) kMsg = true := by unfold jgs; rw [err_get]; simp [show ¬ kMsg = kCode from by decide]
      have hw : jwhole (numJ m.code) = (m.code, true) := by
        unfold jwhole numJ
        simp [hi]
      rw [hres, dE, dC, dT, sT, hw]
      rw [if_neg (by simp [hk4]), if_neg (by simp), if_neg (by
        rintro (h | h | h | ⟨h, h'⟩)
        · cases h
        · cases h
        · exact h rfl
        · rcases f2 (by omega) with h2 | h2
          · rw [h2] at h; cases h
          · exact h' h2.2)]
      obtain ⟨k, I, me, P, R, co, tx⟩ := m
      dsimp only at *
      rw [hme, hpa, hk4, same_zero hres]
      rfl
end Go.Proofs.YtdjfoabinjfnfaaGreatDoor
namespace Go.Proofs.YtdjfoabinjfnfaaGreatDoor
theorem mok_of {m : Msg} (f1 : m.kind = 2 → m.id = zeroJ) (f2 : m.kind ≠ 2 → jisid m.id = true ∨ (m.kind = 4 ∧ m.id.kind = 1)) (f3 : 2 < m.kind → m.method = ⟨#[]⟩ ∧ m.params = zeroJ)
    (f4 : m.kind ≤ 2 → jsame m.params zeroJ = true ∨ jispar m.params = true) (f5 : m.kind = 3 ↔ jsame m.result zeroJ = false) (f6 : m.kind ≠ 4 → m.code = 0 ∧ m.text = ⟨#[]⟩) (f7 : Lib.validD m.method.data.toList = true) (f8 : Lib.validD m.text.data.toList = true) : mok m = true := by
  unfold mok mform
  simp only [Bool.and_eq_true, Bool.not_eq_true', Bool.or_eq_false_iff]
  refine ⟨⟨⟨⟨⟨⟨?_, ?_⟩, ⟨?_, ?_⟩⟩, ?_⟩, ?_⟩, f7⟩, f8⟩
  · by_cases hk : m.kind = 2
    · rw [f1 hk, zero_same]; simp
    · simp [hk]
  · by_cases hk : m.kind = 2
    · simp [hk]
    · rcases f2 hk with h | h
      · simp [h]
      · simp [h.1, h.2]
  · by_cases hk : 2 < m.kind
    · obtain ⟨h1, h2⟩ := f3 hk
      rw [h1, h2, zero_same]; simp
    · simp [hk]
  · by_cases hk : m.kind ≤ 2
    · rcases f4 hk with h | h
      · simp [h]
      · simp [h]
    · simp [hk]
  · cases hj : jsame m.result zeroJ
    · have := f5.2 hj; simp [this]
    · have : m.kind ≠ 3 := fun h => by rw [f5.1 h] at hj; cases hj
      simp [this]
  · by_cases hk : m.kind = 4
    · simp [hk]
    · obtain ⟨h1, h2⟩ := f6 hk
      rw [h1, h2]; simp
theorem put_deep (o : Jsn) (nm : ByteArray) (x : Jsn) : jdeep (putJ o nm x) ≤ max (jdeep o) (jdeep x + 1) := by
  unfold putJ
  split
  · exact Nat.le_max_left _ _
  · obtain ⟨k, t, n, l⟩ := o
    rw [jdeep_eq, jdeep_eq, jdeeps_app, jdeeps_one]
    dsimp only
    omega
theorem put_count (o : Jsn) (nm : ByteArray) (x : Jsn) : jcount (putJ o nm x) = jcount o + if jsame x zeroJ = true then 0 else jcount x := by
  unfold putJ
  split
  · rfl
  · obtain ⟨k, t, n, l⟩ := o
    rw [jcount_eq, jcount_eq, jcounts_app, jcounts_one]
    dsimp only
    omega
theorem put_form {Own : List UInt8 → List UInt8 × Int} {Val : List UInt8 → Bool} {o : Jsn} {nm : ByteArray} {x : Jsn} (ho : ObjK o) (hf : jform Own Val o = true) (hn : Val nm.data.toList = true) (hx : jsame x zeroJ = true ∨ jform Own Val x = true) :
    jform Own Val (putJ o nm x) = true := by
  unfold putJ
  split
  · exact hf
  · rename_i hs
    have hx' : jform Own Val x = true := hx.resolve_left hs
    obtain ⟨h1, h2, h3⟩ := ho
    obtain ⟨k, t, n, l⟩ := o
    dsimp only at h1 h2 h3 ⊢
    subst h1; subst h2
    rw [jform_eq] at hf ⊢
    simp at hf ⊢
    exact ⟨⟨h3, hf.1.2, hn⟩, hf.2, hx'⟩
theorem dup_snoc_ne {b : ByteArray} {n : List ByteArray} (h : dupB n = false) (hb : b ∉ n) : dupB (n ++ [b]) = false :=
  dupB_snoc b n h (by
    rw [List.any_eq_false]
    intro x hx
    simp only [decide_eq_true_eq]
    intro e; subst e; exact hb hx)
theorem put_twice {o : Jsn} {nm : ByteArray} {x : Jsn} (hf : jtwice o = false) (hn : nm ∉ o.names) (hx : jsame x zeroJ = true ∨ jtwice x = false) : jtwice (putJ o nm x) = false := by
  unfold putJ
  split
  · exact hf
  · rename_i hs
    have hx' : jtwice x = false := hx.resolve_left hs
    obtain ⟨k, t, n, l⟩ := o
    dsimp only at hn ⊢
    rw [jtwice_eq, Bool.or_eq_false_iff] at hf ⊢
    refine ⟨dup_snoc_ne hf.1 hn, ?_⟩
    rw [List.any_append, hf.2]
    simp [hx']
def cntL (n : List ByteArray) (l : List Jsn) (s : ByteArray) : Nat := match jfind n s with
  | none => 0
  | some i => match l[i]? with
    | none => 0
    | some x => jcount x
theorem cntL_cons (a : ByteArray) (n : List ByteArray) (x : Jsn) (l : List Jsn) (s : ByteArray) : cntL (a :: n) (x :: l) s = if a = s then jcount x else cntL n l s := by
  unfold cntL jfind
  rw [List.findIdx?_cons]
  by_cases h : a = s
  · simp [h]
  · simp only [h, decide_false, Bool.false_eq_true, if_false]
    rcases List.findIdx? (fun b => decide (b = s)) n with _ | i
    · rfl
    · simp
theorem sum_one (a : ByteArray) (c : Nat) (f : ByteArray → Nat) : ∀ (S : List ByteArray), S.Nodup → (S.map fun s => if a = s then c else f s).sum ≤ c + (S.map f).sum
  | [], _ => by simp
  | s :: S, h => by
    obtain ⟨h1, h2⟩ := List.nodup_cons.1 h
    have ih := sum_one a c f S h2
    by_cases he : a = s
    · subst he
      have : (S.map fun s => if a = s then c else f s) = S.map f := List.map_congr_left fun s hs => if_neg (fun e : a = s => h1 (e ▸ hs))
      simp only [List.map_cons, List.sum_cons, if_true, this]
      omega
    · simp only [List.map_cons, List.sum_cons, if_neg he]
      omega
theorem cntL_sum (S : List ByteArray) (hS : S.Nodup) : ∀ (n : List ByteArray) (l : List Jsn), (S.map (cntL n l)).sum ≤ jcounts l
  | [], l => by
    have : S.map (cntL [] l) = S.map fun _ => 0 := List.map_congr_left fun s _ => rfl
    rw [this]
    have h0 : ∀ (T : List ByteArray), (T.map fun _ => 0).sum = 0 := fun T => by induction T <;> simp_all
    rw [h0]; exact Nat.zero_le _
  | a :: n, [] => by
    have : S.map (cntL (a :: n) []) = S.map fun _ => 0 := List.map_congr_left fun s _ => by unfold cntL; split <;> simp
    rw [this]
    have h0 : ∀ (T : List ByteArray), (T.map fun _ => 0).sum = 0 := fun T => by induction T <;> simp_all
    rw [h0]; exact Nat.zero_le _
  | a :: n, x :: l => by
    have h1 := cntL_sum S hS n l
    have : S.map (cntL (a :: n) (x :: l)) = S.map fun s => if a = s then jcount x else cntL n l s := List.map_congr_left fun s _ => cntL_cons a n x l s
    rw [this, jcounts_cons]
    have := sum_one a (jcount x) (cntL n l) S hS
    omega
def jcnt (j : Jsn) (s : ByteArray) : Nat := match jget j s with
  | none => 0
  | some x => jcount x
theorem jcnt_sum (S : List ByteArray) (hS : S.Nodup) (j : Jsn) : (S.map (jcnt j)).sum + 1 ≤ jcount j := by
  obtain ⟨k, t, n, l⟩ := j
  rw [jcount_eq]
  have h1 := cntL_sum S hS n l
  by_cases hk : k = 7
  · have : S.map (jcnt ⟨k, t, n, l⟩) = S.map (cntL n l) := List.map_congr_left fun s _ => by
      unfold jcnt cntL jget
      rw [if_pos hk]
      dsimp only
      cases jfind n s <;> rfl
    rw [this]; omega
  · have : S.map (jcnt ⟨k, t, n, l⟩) = S.map fun _ => 0 := List.map_congr_left fun s _ => by unfold jcnt jget; rw [if_neg hk]
    rw [this]
    have h0 : ∀ (T : List ByteArray), (T.map fun _ => 0).sum = 0 := fun T => by induction T <;> simp_all
    rw [h0]; omega
structure MemOK (Own : List UInt8 → List UInt8 × Int) (Val : List UInt8 → Bool) (d : Nat) (x : Jsn) : Prop where
  form : jform Own Val x = true
  twice : jtwice x = false
  deep : jdeep x + 1 ≤ d
theorem get_mem {Own : List UInt8 → List UInt8 × Int} {Val : List UInt8 → Bool} {j x : Jsn} {s : ByteArray} {d : Nat} (h : jget j s = some x) (hf : jform Own Val j = true) (ht : jtwice j = false) (hd : jdeep j ≤ d) : MemOK Own Val d x := by
  obtain ⟨k, t, n, l⟩ := j
  unfold jget at h
  split at h
  · rename_i hk
    dsimp only at hk
    subst hk
    split at h
    · cases h
    · have hm := List.mem_of_getElem? h
      dsimp only at hm
      rw [jform_eq] at hf
      rw [jtwice_eq, Bool.or_eq_false_iff] at ht
      rw [jdeep_eq] at hd
      simp at hf
      refine ⟨hf.2 x hm, ?_, by have := jdeeps_mem hm; omega⟩
      have := ht.2
      rw [List.any_eq_false] at this
      have h1 := this x hm
      cases hb : jtwice x
      · rfl
      · exact absurd hb h1
  · cases h
theorem form_kind {Own : List UInt8 → List UInt8 × Int} {Val : List UInt8 → Bool} {x : Jsn} (h : jform Own Val x = true) : jsame x zeroJ = false := by
  cases hj : jsame x zeroJ
  · rfl
  · rw [same_zero hj, zeroJ, jform_eq] at h; simp at h
theorem form_str {Own : List UInt8 → List UInt8 × Int} {Val : List UInt8 → Bool} {x : Jsn} (h : jform Own Val x = true) (hk : x.kind = 5) : Val x.text.data.toList = true := by
  obtain ⟨k, t, n, l⟩ := x
  dsimp only at hk ⊢
  subst hk
  rw [jform_eq] at h
  simp at h
  exact h.1.1
theorem str_mem {Own : List UInt8 → List UInt8 × Int} {Val : List UInt8 → Bool} {s : ByteArray} (h : Val s.data.toList = true) : jform Own Val (strJ s) = true ∧ jtwice (strJ s) = false ∧ jdeep (strJ s) = 1 ∧ jcount (strJ s) = 1 := by
  unfold strJ
  refine ⟨?_, ?_, ?_, ?_⟩
  · rw [jform_eq]; simp [h]
  · rw [jtwice_eq]; rfl
  · rw [jdeep_eq, jdeeps_nil]
  · rw [jcount_eq, jcounts_nil]
theorem num_mem {Own : List UInt8 → List UInt8 × Int} {Val : List UInt8 → Bool} {n : Int} (h : Own (ofNL n) = (ofNL n, 0)) : jform Own Val (numJ n) = true ∧ jtwice (numJ n) = false ∧ jdeep (numJ n) = 1 ∧ jcount (numJ n) = 1 := by
  unfold numJ
  refine ⟨?_, ?_, ?_, ?_⟩
  · rw [jform_eq]; simp [h]
  · rw [jtwice_eq]; rfl
  · rw [jdeep_eq, jdeeps_nil]
  · rw [jcount_eq, jcounts_nil]
theorem obj_mem {Own : List UInt8 → List UInt8 × Int} {Val : List UInt8 → Bool} : jform Own Val objJ = true ∧ jtwice objJ = false ∧ jdeep objJ = 1 ∧ jcount objJ = 1 := by
  unfold objJ
  refine ⟨?_, ?_, ?_, ?_⟩
  · rw [jform_eq]; simp
  · rw [jtwice_eq]; rfl
  · rw [jdeep_eq, jdeeps_nil]
  · rw [jcount_eq, jcounts_nil]
structure Under (Own : List UInt8 → List UInt8 × Int) (Val : List UInt8 → Bool) (o : Jsn) (d c : Nat) (ns : List ByteArray) : Prop where
  ok : ObjK o
  form : jform Own Val o = true
  twice : jtwice o = false
  deep : jdeep o ≤ d
  count : jcount o ≤ c
  names : ∀ b ∈ o.names, b ∈ ns
theorem Under.put {Own : List UInt8 → List UInt8 × Int} {Val : List UInt8 → Bool} {o x : Jsn} {d c c' : Nat} {ns : List ByteArray} (h : Under Own Val o d c ns) (nm : ByteArray) (hn : Val nm.data.toList = true) (hm : nm ∉ ns)
    (hx : jsame x zeroJ = true ∨ (jform Own Val x = true ∧ jtwice x = false ∧ jdeep x + 1 ≤ d ∧ jcount x ≤ c')) : Under Own Val (putJ o nm x) d (c + c') (nm :: ns) where
  ok := putJ_ok h.ok nm x
  form := put_form h.ok h.form hn (hx.imp id (·.1))
  twice := put_twice h.twice (fun e => hm (h.names nm e)) (hx.imp id (·.2.1))
  deep := by
    have := put_deep o nm x
    rcases hx with hx | hx
    · have h1 := h.deep
      unfold putJ
      rw [if_pos hx]
      exact h1
    · have h1 := h.deep; have := hx.2.2.1; omega
  count := by
    rw [put_count]
    have := h.count
    rcases hx with hx | hx
    · rw [if_pos hx]; omega
    · have := hx.2.2.2
      split <;> omega
  names := fun b hb => by
    rcases putJ_names hb with e | e
    · exact List.mem_cons_of_mem _ (h.names b e)
    · exact e ▸ List.mem_cons_self
theorem Under.start {Own : List UInt8 → List UInt8 × Int} {Val : List UInt8 → Bool} {d : Nat} (hd : 1 ≤ d) : Under Own Val objJ d 1 [] :=
  ⟨objJ_ok, obj_mem.1, (obj_mem (Own := Own) (Val := Val)).2.1, by rw [(obj_mem (Own := Own) (Val := Val)).2.2.1]; exact hd, by rw [(obj_mem (Own := Own) (Val := Val)).2.2.2]; exact Nat.le_refl _, fun b hb => by cases hb⟩
theorem Under.check {Own : List UInt8 → List UInt8 × Int} {Val : List UInt8 → Bool} {o : Jsn} {d c : Nat} {ns : List ByteArray} (h : Under Own Val o d c ns) (hd : d ≤ 64) (hc : c ≤ 65536) : jcheck Own Val o = 0 := by
  have h1 := h.deep
  have h2 := h.count
  unfold jcheck
  rw [if_neg (by omega), if_neg (by omega), if_neg (by rw [h.form]; simp), if_neg (by rw [h.twice]; simp)]
theorem keys_val : Lib.validD kVer.data.toList = true ∧ Lib.validD kId.data.toList = true ∧ Lib.validD kMeth.data.toList = true ∧ Lib.validD kPar.data.toList = true ∧ Lib.validD kRes.data.toList = true ∧ Lib.validD kErr.data.toList = true ∧ Lib.validD kCode.data.toList = true ∧ Lib.validD kMsg.data.toList = true ∧ Lib.validD [50, 46, 48] = true := by decide +kernel
theorem get_put_ok {Own : List UInt8 → List UInt8 × Int} {Val : List UInt8 → Bool} {j : Jsn} (s : ByteArray) (hf : jform Own Val j = true) (ht : jtwice j = false) (hd : jdeep j ≤ 64) :
    jsame (jgd j s) zeroJ = true ∨ (jform Own Val (jgd j s) = true ∧ jtwice (jgd j s) = false ∧ jdeep (jgd j s) + 1 ≤ 64 ∧ jcount (jgd j s) ≤ jcnt j s) := by
  rcases h : jget j s with _ | x
  · left; unfold jgd; rw [h]; exact zero_same
  · right
    have hm := get_mem h hf ht hd
    have e : jgd j s = x := by unfold jgd; rw [h]; rfl
    rw [e]
    exact ⟨hm.1, hm.2, hm.3, by unfold jcnt; rw [h]; exact Nat.le_refl _⟩
theorem jgs_some {j : Jsn} {s : ByteArray} (h : jgs j s = true) : jget j s = some (jgd j s) := by
  unfold jgs at h; unfold jgd
  rcases hg : jget j s with _ | x
  · rw [hg] at h; cases h
  · rfl
theorem jgs_none {j : Jsn} {s : ByteArray} (h : jgs j s = false) : jgd j s = zeroJ := by
  unfold jgs at h; unfold jgd
  rcases hg : jget j s with _ | x
  · rfl
  · rw [hg] at h; cases h
theorem jgs_cnt {j : Jsn} {s : ByteArray} (h : jgs j s = true) : 1 ≤ jcnt j s := by
  unfold jcnt; rw [jgs_some h]; exact jcount_pos _
theorem read_ok {Own : List UInt8 → List UInt8 × Int} (hOf : ∀ n : Int, -9223372036854775808 ≤ n → n ≤ 9223372036854775807 → Own (ofNL n) = (ofNL n, 0)) (hR : ∀ l, (intL l).2 = 0 → -9223372036854775808 ≤ (intL l).1 ∧ (intL l).1 ≤ 9223372036854775807)
    {j : Jsn} {b : Msg} (h : jread Own Lib.validD j = (b, 0)) : 1 ≤ b.kind ∧ b.kind ≤ 4 ∧ mok b = true ∧ jcheck Own Lib.validD (menv b) = 0 ∧ -9223372036854775808 ≤ b.code ∧ b.code ≤ 9223372036854775807 := by
  obtain ⟨k1, k2, k3, k4, k5, k6, k7, k8, k9⟩ := keys_val
  unfold jread at h
  split at h
  · rename_i hc; injection h with _ h; exact absurd h hc
  rename_i hc
  have hc0 : jcheck Own Lib.validD j = 0 := by simpa using hc
  obtain ⟨hd, hcn, hf, ht⟩ := jcheck_parts hc0
  have oI := get_put_ok (Own := Own) (Val := Lib.validD) kId hf ht hd
  have oP := get_put_ok (Own := Own) (Val := Lib.validD) kPar hf ht hd
  have oR := get_put_ok (Own := Own) (Val := Lib.validD) kRes hf ht hd
  have hsum : jcnt j kVer + (jcnt j kId + (jcnt j kMeth + (jcnt j kPar + (jcnt j kRes + (jcnt j kErr + 0))))) + 1 ≤ jcount j :=
    jcnt_sum [kVer, kId, kMeth, kPar, kRes, kErr] (by simp only [List.nodup_cons, List.mem_cons, List.not_mem_nil, or_false, not_or, List.nodup_nil]; decide) j
  split at h
  · injection h with _ h; cases h
  rename_i hv
  have sV : jgs j kVer = true := by
    cases hb : jgs j kVer
    · exact absurd (.inl hb) hv
    · rfl
  have cV := jgs_cnt sV
  have u1 : Under Own Lib.validD (putJ objJ kVer verJ) 64 (1 + 1) [kVer] := (Under.start (by decide)).put kVer k1 (by simp) (.inr ⟨(str_mem k9).1, (str_mem (Own := Own) (Val := Lib.validD) k9).2.1, by rw [show jdeep verJ = 1 from (str_mem (Own := Own) (Val := Lib.validD) k9).2.2.1]; decide, by rw [show jcount verJ = 1 from (str_mem (Own := Own) (Val := Lib.validD) k9).2.2.2]; exact Nat.le_refl _⟩)
  have u2 := u1.put (x := jgd j kId) (c' := jcnt j kId) kId k2 (by simp only [List.mem_cons, List.not_mem_nil, or_false]; decide) oI
  split at h
  · rename_i hM
    have cM := jgs_cnt hM
    have fM := (get_mem (jgs_some hM) hf ht hd).1
    unfold jasks at h
    split at h
    · injection h with _ h; cases h
    rename_i hq
    injection h with h _
    subst h
    have q1 : (jgd j kMeth).kind = 5 := by
      by_cases e : (jgd j kMeth).kind = 5
      · exact e
      · exact absurd (.inl e) hq
    have q2 : jgs j kId = true → jisid (jgd j kId) = true := fun e => by
      cases e2 : jisid (jgd j kId)
      · exact absurd (.inr (.inl ⟨e, e2⟩)) hq
      · rfl
    have q3 : jgs j kPar = true → jispar (jgd j kPar) = true := fun e => by
      cases e2 : jispar (jgd j kPar)
      · exact absurd (.inr (.inr ⟨e, e2⟩)) hq
      · rfl
    have vM := form_str fM q1
    have hle : (if jgs j kId = true then (1 : Int) else 2) ≤ 2 := by split <;> decide
    have hge : 1 ≤ (if jgs j kId = true then (1 : Int) else 2) := by split <;> decide
    have u3 := u2.put (x := strJ (jgd j kMeth).text) (c' := 1) kMeth k3 (by simp only [List.mem_cons, List.not_mem_nil, or_false, not_or]; decide) (.inr ⟨(str_mem vM).1, (str_mem (Own := Own) (Val := Lib.validD) vM).2.1, by rw [(str_mem (Own := Own) (Val := Lib.validD) vM).2.2.1]; decide, by rw [(str_mem (Own := Own) (Val := Lib.validD) vM).2.2.2]; exact Nat.le_refl _⟩)
    have u4 := u3.put (x := jgd j kPar) (c' := jcnt j kPar) kPar k4 (by simp only [List.mem_cons, List.not_mem_nil, or_false, not_or]; decide) oP
    have u5 := u4.put (x := zeroJ) (c' := 0) kRes k5 (by simp only [List.mem_cons, List.not_mem_nil, or_false, not_or]; decide) (.inl zero_same)
    refine ⟨hge, by dsimp only; omega, mok_of (fun e => ?_) (fun e => ?_) (fun e => ?_) (fun e => ?_) ⟨fun e => ?_, fun e => ?_⟩ (fun e => ⟨rfl, rfl⟩) vM (show Lib.validD [] = true by decide +kernel), ?_, (show (-9223372036854775808 : Int) ≤ 0 by decide), (show (0 : Int) ≤ 9223372036854775807 by decide)⟩
    · dsimp only at e ⊢
      cases hb : jgs j kId
      · exact jgs_none hb
      · rw [hb] at e; cases e
    · dsimp only at e ⊢
      cases hb : jgs j kId
      · rw [hb] at e; exact absurd rfl e
      · exact .inl (q2 hb)
    · dsimp only at e; omega
    · dsimp only
      cases hb : jgs j kPar
      · rw [jgs_none hb]; exact .inl zero_same
      · exact .inr (q3 hb)
    · dsimp only at e; omega
    · dsimp only at e; rw [zero_same] at e; cases e
    · unfold menv resJ askJ headJ
      dsimp only
      rw [if_neg (by omega), if_pos hle]
      exact u5.check (Nat.le_refl _) (by omega)
  · rename_i hM
    unfold janswers at h
    split at h
    · injection h with _ h; cases h
    rename_i hq
    have qI : jgs j kId = true := by
      cases hb : jgs j kId
      · exact absurd (.inl hb) hq
      · rfl
    have qE : jgs j kRes ≠ jgs j kErr := fun e => hq (.inr e)
    split at h
    · rename_i hg
      split at h
      · injection h with _ h; cases h
      rename_i hi
      injection h with h _
      subst h
      have hi' : jisid (jgd j kId) = true := by simpa using hi
      have fR := (get_mem (jgs_some hg) hf ht hd).1
      have u5 := u2.put (x := jgd j kRes) (c' := jcnt j kRes) kRes k5 (by simp only [List.mem_cons, List.not_mem_nil, or_false, not_or]; decide) oR
      refine ⟨by show (1 : Int) ≤ 3; decide, by show (3 : Int) ≤ 4; decide, mok_of (fun e => ?_) (fun e => .inl hi') (fun e => ⟨rfl, rfl⟩) (fun e => ?_) ⟨fun e => form_kind fR, fun e => rfl⟩ (fun e => ⟨rfl, rfl⟩) (show Lib.validD [] = true by decide +kernel) (show Lib.validD [] = true by decide +kernel), ?_, (show (-9223372036854775808 : Int) ≤ 0 by decide), (show (0 : Int) ≤ 9223372036854775807 by decide)⟩
      · exact absurd e (by dsimp only; decide)
      · exact absurd e (by dsimp only; decide)
      · exact u5.check (Nat.le_refl _) (by omega)
    · rename_i hg
      have hE : jgs j kErr = true := by
        cases hb : jgs j kErr
        · cases hb2 : jgs j kRes
          · exact absurd (hb2.trans hb.symm) qE
          · exact absurd hb2 hg
        · rfl
      split at h
      · injection h with _ h; cases h
      rename_i hs
      injection h with h _
      subst h
      have s1 : jgs (jgd j kErr) kMsg = true := by
        cases hb : jgs (jgd j kErr) kMsg
        · exact absurd (.inl hb) hs
        · rfl
      have s2 : (jwhole (jgd (jgd j kErr) kCode)).2 = true := by
        cases hb : (jwhole (jgd (jgd j kErr) kCode)).2
        · exact absurd (.inr (.inl hb)) hs
        · rfl
      have s3 : (jgd (jgd j kErr) kMsg).kind = 5 := by
        by_cases e : (jgd (jgd j kErr) kMsg).kind = 5
        · exact e
        · exact absurd (.inr (.inr (.inl e))) hs
      have s4 : jisid (jgd j kId) = true ∨ (jgd j kId).kind = 1 := by
        cases hb : jisid (jgd j kId)
        · by_cases e : (jgd j kId).kind = 1
          · exact .inr e
          · exact absurd (.inr (.inr (.inr ⟨hb, e⟩))) hs
        · exact .inl rfl
      have mE := get_mem (jgs_some hE) hf ht hd
      have cE : jcnt j kErr = jcount (jgd j kErr) := by unfold jcnt; rw [jgs_some hE]
      have vT := form_str (get_mem (d := 64) (jgs_some s1) mE.1 mE.2 (by have := mE.3; omega)).1 s3
      have hcode : jgs (jgd j kErr) kCode = true := by
        cases hb : jgs (jgd j kErr) kCode
        · rw [jgs_none hb] at s2; exact absurd s2 (by decide)
        · rfl
      have hsE : jcnt (jgd j kErr) kCode + (jcnt (jgd j kErr) kMsg + 0) + 1 ≤ jcount (jgd j kErr) := jcnt_sum [kCode, kMsg] (by simp only [List.nodup_cons, List.mem_cons, List.not_mem_nil, or_false, List.nodup_nil]; decide) _
      have c1 := jgs_cnt s1
      have c2 := jgs_cnt hcode
      have rg : -9223372036854775808 ≤ (jwhole (jgd (jgd j kErr) kCode)).1 ∧ (jwhole (jgd (jgd j kErr) kCode)).1 ≤ 9223372036854775807 := by
        unfold jwhole at s2 ⊢
        split at s2
        · rename_i hk
          rw [if_pos hk]
          exact hR _ (by simpa using s2)
        · cases s2
      have nc := num_mem (Val := Lib.validD) (hOf _ rg.1 rg.2)
      have st := str_mem (Own := Own) (Val := Lib.validD) vT
      have e1 : Under Own Lib.validD (errJ ⟨4, jgd j kId, ⟨#[]⟩, zeroJ, zeroJ, (jwhole (jgd (jgd j kErr) kCode)).1, (jgd (jgd j kErr) kMsg).text⟩) 63 (1 + 1 + 1) [kMsg, kCode] :=
        ((Under.start (by decide)).put kCode k7 (by simp) (.inr ⟨nc.1, nc.2.1, by rw [nc.2.2.1]; decide, by rw [nc.2.2.2]; exact Nat.le_refl _⟩)).put kMsg k8 (by simp only [List.mem_cons, List.not_mem_nil, or_false]; decide) (.inr ⟨st.1, st.2.1, by dsimp only; rw [st.2.2.1]; decide, by dsimp only; rw [st.2.2.2]; exact Nat.le_refl _⟩)
      have u5 := u2.put (x := zeroJ) (c' := 0) kRes k5 (by simp only [List.mem_cons, List.not_mem_nil, or_false, not_or]; decide) (.inl zero_same)
      have u6 := u5.put (c' := 3) kErr k6 (by simp only [List.mem_cons, List.not_mem_nil, or_false, not_or]; decide) (.inr ⟨e1.form, e1.twice, by have := e1.deep; omega, e1.count⟩)
      refine ⟨by show (1 : Int) ≤ 4; decide, by show (4 : Int) ≤ 4; decide, mok_of (fun e => ?_) (fun e => s4.imp id fun e2 => ⟨rfl, e2⟩) (fun e => ⟨rfl, rfl⟩) (fun e => ?_) ⟨fun e => ?_, fun e => ?_⟩ (fun e => absurd rfl e) (show Lib.validD [] = true by decide +kernel) vT, ?_, rg.1, rg.2⟩
      · exact absurd e (by dsimp only; decide)
      · exact absurd e (by dsimp only; decide)
      · exact absurd e (by dsimp only; decide)
      · dsimp only at e; rw [zero_same] at e; cases e
      · exact u6.check (Nat.le_refl _) (by omega)
end Go.Proofs.YtdjfoabinjfnfaaGreatDoor
namespace Go.Proofs.YtdjfoabinjfnfaaGreatDoor
open Go.RowKit
theorem wpl {P : Program} {ops : Array Oper} {rest : List Oper} {op : Oper} {a : Act} {w : World} {Q : Exit → Act → World → Prop} (h : wpList P ops Q (op :: rest) a w) : wpList P ops Q (op :: rest) a w := h
theorem refOwnR_says : OwnSaysS 139 ownL := fun s w hs => (refOwn_any s w hs).mono fun e w' ⟨g, hg, he, hB⟩ => ⟨by
  rw [he, ← hg], hB⟩
theorem refFormR_says : FormSays 91 (jform ownL Lib.validD) := refFormJ_any ownL Lib.validD refOwnR_says refValid_any
def RReadEnd (M : Msg × Int) (w : World) (e : Ending) (w' : World) : Prop :=
  ∃ x1 x2 p1 p2 r1 r2, e = .returned (.tuple #[msgV M.1 x1 x2 p1 p2 r1 r2, .int .i64 M.2]) ∧
    JV w' (fun b => b < w.heap.size) M.1.id x1 x2 ∧ JV w' (fun b => b < w.heap.size) M.1.params p1 p2 ∧ JV w' (fun b => b < w.heap.size) M.1.result r1 r2 ∧ Below w.heap.size w w'
structure RdR (j : Jsn) (jn jl : Value) (w W : World) : Prop where
  cj : Cel W w.heap.size 25 #[.int .u8 j.kind, .string j.text, jn, jl]
  c2 : Cel W (w.heap.size + 1) 69 #[.int .u8 0, .int .u8 0, .string ⟨#[]⟩, .slice none 0 0, .slice none 0 0, .string ⟨#[]⟩, .int .u8 0, .string ⟨#[]⟩, .slice none 0 0, .slice none 0 0, .int .u8 0, .string ⟨#[]⟩, .slice none 0 0, .slice none 0 0, .int .i64 0, .string ⟨#[]⟩]
  bel : Below w.heap.size w W
  sz : w.heap.size + 2 ≤ W.heap.size
theorem RdR.step {j : Jsn} {jn jl : Value} {w W W' : World} (h : RdR j jn jl w W) (hb : Below W.heap.size W W') : RdR j jn jl w W' :=
  ⟨h.cj.below hb h.cj.lt, h.c2.below hb h.c2.lt, h.bel.trans (hb.mono h.bel.size), Nat.le_trans h.sz hb.size⟩
def BoxV (w W : World) (b : Nat) (x : Jsn) (vn vl : Value) : Prop := Cel W b 25 #[.int .u8 x.kind, .string x.text, vn, vl] ∧ JV W (fun b => b < w.heap.size) x vn vl
theorem BoxV.step {w W W' : World} {b : Nat} {x : Jsn} {vn vl : Value} (h : BoxV w W b x vn vl) (hb : Below W.heap.size W W') : BoxV w W' b x vn vl := ⟨h.1.below hb h.1.lt, h.2.later hb⟩
end Go.Proofs.YtdjfoabinjfnfaaGreatDoor
namespace Go.Proofs.YtdjfoabinjfnfaaGreatDoor
theorem ownL_ok {l : List UInt8} (h : (ownL l).2 = 0) : ∃ x, Nrm x ∧ (ownL l).1 = formL x := by
  unfold ownL at h ⊢
  split at h
  · rename_i h2
    rw [if_pos h2]
    exact ⟨_, get_nrm l, rfl⟩
  · rename_i h2
    exact absurd h h2
theorem ownL_form {x : Wth} (h : Nrm x) : ownL (formL x) = (formL x, 0) := by
  unfold ownL
  rw [get_form x h]
  rfl
theorem own_own : OwnOwn ownL := fun l h => by
  obtain ⟨x, hx, e⟩ := ownL_ok h
  rw [e]
  exact ownL_form hx
def exJ : Jsn := ⟨7, ⟨#[]⟩, [⟨#[97]⟩, ⟨#[195, 169]⟩], [⟨6, ⟨#[]⟩, [], [⟨4, ⟨#[49, 53, 101, 45, 49]⟩, [], []⟩, ⟨1, ⟨#[]⟩, [], []⟩]⟩, ⟨5, ⟨#[240, 157, 132, 158]⟩, [], []⟩]⟩
def exS : ByteArray := ⟨#[123, 32, 34, 97, 34, 32, 58, 32, 91, 49, 46, 53, 48, 44, 32, 110, 117, 108, 108, 93, 44, 32, 34, 92, 117, 48, 48, 101, 57, 34, 32, 58, 32, 34, 92, 117, 100, 56, 51, 52, 92, 117, 100, 100, 49, 101, 34, 32, 125]⟩
def exT : ByteArray := ⟨#[123, 34, 97, 34, 58, 91, 49, 53, 101, 45, 49, 44, 110, 117, 108, 108, 93, 44, 34, 195, 169, 34, 58, 34, 240, 157, 132, 158, 34, 125]⟩
end Go.Proofs.YtdjfoabinjfnfaaGreatDoor
namespace Go.Proofs.YtdjfoabinjfnfaaGreatDoor
theorem nDig4 {u : Nat} (h : u < 10000) : Lib.nDigits u ≤ 4 := by
  by_cases h1 : u < 10
  · rw [Lib.nDigits_small h1]; omega
  rw [Lib.nDigits_big h1]
  by_cases h2 : u / 10 < 10
  · rw [Lib.nDigits_small h2]; omega
  rw [Lib.nDigits_big h2]
  by_cases h3 : u / 10 / 10 < 10
  · rw [Lib.nDigits_small h3]; omega
  rw [Lib.nDigits_big h3, Lib.nDigits_small (by omega)]
  omega
theorem itoa5 {n : Int} (h0 : -9999 ≤ n) (h1 : n ≤ 9999) : (Lib.itoa n).length ≤ 5 := by
  unfold Lib.itoa
  split
  · rw [List.length_cons, Lib.decDigits_length]
    have := nDig4 (u := n.natAbs) (by omega)
    omega
  · rw [Lib.decDigits_length]
    have := nDig4 (u := n.toNat) (by omega)
    omega
theorem ownL_len2 (l : List UInt8) : (ownL l).1.length ≤ 207 := by
  unfold ownL
  split
  · have h := get_nrm l
    have h1 := h.len
    have h2 := itoa5 h.lo h.hi
    dsimp only
    unfold formL
    split
    · simp
    · rw [List.length_append]
      split <;> split <;> simp <;> omega
  · simp
theorem jloopF_err {σ : Type} {one : σ → List UInt8 → Except Int (σ × List UInt8)} (h : ∀ st s c, one st s = .error c → c ≠ 0) (b : UInt8) : ∀ (k : Nat) (st : σ) (s : List UInt8) (c : Int), jloopF one b k st s = .error c → c ≠ 0
  | 0, _, _, _, he => by injection he with he; subst he; decide
  | k + 1, st, s, c, he => by
    unfold jloopF at he
    split at he
    · rename_i ho
      injection he with he
      subst he
      exact h _ _ _ ho
    · split at he
      · injection he with he; subst he; decide
      · split at he
        · exact jloopF_err h b k _ _ _ he
        · split at he
          · cases he
          · injection he with he; subst he; decide
theorem jList_err {σ : Type} {one : σ → List UInt8 → Except Int (σ × List UInt8)} (h : ∀ st s c, one st s = .error c → c ≠ 0) (b : UInt8) (st : σ) (s : List UInt8) (c : Int) (he : jList one b st s = .error c) : c ≠ 0 := by
  unfold jList at he
  split at he
  · exact jloopF_err h b _ _ _ _ he
  · split at he
    · cases he
    · exact jloopF_err h b _ _ _ _ he
theorem jloopF_inv {σ : Type} {P : σ → Nat → Prop} (mono : ∀ st m n, m ≤ n → P st n → P st m) {one : σ → List UInt8 → Except Int (σ × List UInt8)} (hp : ∀ st s st' s', one st s = .ok (st', s') → P st s.length → P st' s'.length) (b : UInt8) : ∀ (k : Nat) (st : σ) (s : List UInt8) (st' : σ) (s' : List UInt8), jloopF one b k st s = .ok (st', s') → P st s.length → P st' s'.length
  | 0, _, _, _, _, h, _ => by cases h
  | k + 1, st, s, st', s', he, h0 => by
    unfold jloopF at he
    split at he
    · cases he
    · rename_i st1 s1 ho
      have h3 := hp _ _ _ _ ho (mono _ _ _ (jblk_le s) h0)
      split at he
      · cases he
      · rename_i c r hb
        have h5 := jblk_le s1
        rw [hb] at h5
        simp at h5
        have h6 := mono _ _ _ (show r.length ≤ s1.length by omega) h3
        split at he
        · exact jloopF_inv mono hp b k _ _ _ _ he h6
        · split at he
          · injection he with he
            injection he with h7 h8
            subst h7
            subst h8
            exact h6
          · cases he
theorem jList_inv {σ : Type} {P : σ → Nat → Prop} (mono : ∀ st m n, m ≤ n → P st n → P st m) {one : σ → List UInt8 → Except Int (σ × List UInt8)} (hp : ∀ st s st' s', one st s = .ok (st', s') → P st s.length → P st' s'.length) (b : UInt8) {st : σ} {s : List UInt8} {st' : σ} {s' : List UInt8} (he : jList one b st s = .ok (st', s')) (h0 : P st s.length) : P st' s'.length := by
  unfold jList at he
  have h4 := jblk_le s
  split at he
  · exact jloopF_inv mono hp b _ _ _ _ _ he (mono _ _ _ (Nat.zero_le _) h0)
  · rename_i c r hb
    rw [hb] at h4
    split at he
    · injection he with he
      injection he with h7 h8
      subst h7
      subst h8
      exact mono _ _ _ (by simp at h4; omega) h0
    · exact jloopF_inv mono hp b _ _ _ _ _ he (mono _ _ _ h4 h0)
theorem jval_err {Own : List UInt8 → List UInt8 × Int} {Val : List UInt8 → Bool} : ∀ (f it : Nat) (s : List UInt8) (c : Int), jval Own Val f it s = .error c → c ≠ 0
  | 0, _, _, _, h => by injection h with h; subst h; decide
  | f + 1, it, s, c, h => by
    have hA : ∀ (st : SA) (s : List UInt8) (c : Int), jitA (fun it s => jval Own Val f it s) st s = .error c → c ≠ 0 := fun st s c he => by
      unfold jitA at he
      split at he
      · rename_i hv
        injection he with he
        subst he
        exact jval_err f _ _ _ hv
      · cases he
    have hO : ∀ (st : SO) (s : List UInt8) (c : Int), jitO Val (fun it s => jval Own Val f it s) st s = .error c → c ≠ 0 := fun st s c he => by
      unfold jitO at he
      split at he
      · split at he
        · injection he with he; subst he; decide
        · split at he
          · injection he with he; subst he; decide
          · split at he
            · split at he
              · rename_i hv
                injection he with he
                subst he
                exact jval_err f _ _ _ hv
              · cases he
            · injection he with he; subst he; decide
      · injection he with he; subst he; decide
    unfold jval at h
    repeat' split at h
    all_goals first
      | (injection h with h; subst h; first | decide | assumption | (rename_i hv; exact jList_err hA _ _ _ _ hv) | (rename_i hv; exact jList_err hO _ _ _ _ hv))
      | cases h
theorem jparse_err {Own : List UInt8 → List UInt8 × Int} {Val : List UInt8 → Bool} {s : List UInt8} {c : Int} (h : jparse Own Val s = .error c) : c ≠ 0 := by
  unfold jparse at h
  split at h
  · injection h with h; subst h; decide
  · split at h
    · rename_i hv
      injection h with h
      subst h
      exact jval_err _ _ _ _ hv
    · split at h
      · cases h
      · injection h with h; subst h; decide
theorem jbulks_snoc2 (l : List Jsn) (j : Jsn) : jbulks (l ++ [j]) = jbulks l + jbulk j := by simp [jbulks]
theorem size_ofL2 (s : List UInt8) : (ofL s).size = s.length := by simp [ofL, ByteArray.size]
theorem jval_bulk : ∀ (f it : Nat) (s : List UInt8) (j : Jsn) (it' : Nat) (r : List UInt8), jval ownL Lib.validD f it s = .ok (j, it', r) → jbulk j + 208 * r.length ≤ 208 * s.length
  | 0, _, _, _, _, _, h => by cases h
  | f + 1, it, s, j, it', r, h => by
    have pre : ∀ {p : List UInt8}, p.isPrefixOf s = true → (s.drop p.length).length + p.length = s.length := fun {p} hp => by
      obtain ⟨t, ht⟩ := List.isPrefixOf_iff_prefix.1 hp
      rw [← ht]; simp; omega
    have flat : ∀ (k : Int) (t : ByteArray), jbulk ⟨k, t, [], []⟩ = 1 + t.size := fun k t => by rw [jbulk_eq]; simp [jbulks]
    unfold jval at h
    split at h
    · cases h
    split at h
    · rename_i hp
      have := pre hp
      injection h with h; injection h with h1 h2; injection h2 with h2 h3; subst h1; subst h3
      rw [flat, size_ofL2]; simp at this ⊢; omega
    split at h
    · rename_i hp
      have := pre hp
      injection h with h; injection h with h1 h2; injection h2 with h2 h3; subst h1; subst h3
      rw [flat, size_ofL2]; simp at this ⊢; omega
    split at h
    · rename_i hp
      have := pre hp
      injection h with h; injection h with h1 h2; injection h2 with h2 h3; subst h1; subst h3
      rw [flat, size_ofL2]; simp at this ⊢; omega
    split at h
    · rename_i hp
      have := pre hp
      split at h
      · cases h
      · rename_i t r' hs
        have h4 := jStr_lt _ hs
        injection h with h; injection h with h1 h2; injection h2 with h2 h3; subst h1; subst h3
        rw [flat, size_ofL2]; simp at this h4; omega
    split at h
    · rename_i hp
      have := pre hp
      split at h
      · cases h
      · rename_i st r' hl
        have hi := jList_inv (P := fun (st : SA) n => jbulks st.2 + 208 * n ≤ 208 * (s.drop 1).length) (fun st m n hmn hP => by omega) (fun st s2 st' s' ho hP => by
          unfold jitA at ho
          split at ho
          · cases ho
          · rename_i hv
            have := jval_bulk f _ _ _ _ _ hv
            injection ho with ho; injection ho with h1 h2; subst h1; subst h2
            dsimp only at hP ⊢
            rw [jbulks_snoc2]; omega) 93 hl (by simp [jbulks])
        injection h with h; injection h with h1 h2; injection h2 with h2 h3; subst h1; subst h3
        rw [jbulk_eq, size_ofL2]; simp at this hi ⊢; omega
    split at h
    · rename_i hp
      have := pre hp
      split at h
      · cases h
      · rename_i st r' hl
        have hi := jList_inv (P := fun (st : SO) n => (st.2.1.map fun b => b.size + 1).sum + jbulks st.2.2 + 208 * n ≤ 208 * (s.drop 1).length) (fun st m n hmn hP => by omega) (fun st s2 st' s' ho hP => by
          unfold jitO at ho
          split at ho
          · split at ho
            · cases ho
            · rename_i s1 n s2 hs
              have h4 := jStr_lt _ hs
              split at ho
              · cases ho
              · split at ho
                · rename_i s3 hb
                  split at ho
                  · cases ho
                  · rename_i hv
                    have h5 := jval_bulk f _ _ _ _ _ hv
                    have h6 := jblk_le s2
                    have h7 := jblk_le s3
                    rw [hb] at h6
                    injection ho with ho; injection ho with h1 h2; subst h1; subst h2
                    dsimp only at hP ⊢
                    rw [jbulks_snoc2, List.map_append, List.sum_append]
                    simp [size_ofL2] at hP h4 h6 ⊢
                    omega
                · cases ho
          · cases ho) 125 hl (by simp [jbulks])
        injection h with h; injection h with h1 h2; injection h2 with h2 h3; subst h1; subst h3
        rw [jbulk_eq, size_ofL2]; simp at this hi ⊢; omega
    split at h
    · rename_i ho
      have h4 := ownL_len2 (s.takeWhile jnumc)
      have h5 : (s.takeWhile jnumc).length + (s.dropWhile jnumc).length = s.length := by rw [← List.length_append, List.takeWhile_append_dropWhile]
      have h6 : 1 ≤ (s.takeWhile jnumc).length := by
        rcases hz : s.takeWhile jnumc with _ | ⟨c, t⟩
        · rw [hz] at ho
          exact absurd ho (by decide +kernel)
        · simp
      injection h with h; injection h with h1 h2; injection h2 with h2 h3; subst h1; subst h3
      rw [flat, size_ofL2]; omega
    · cases h
theorem jparse_bulk {s : List UInt8} {j : Jsn} (h : jparse ownL Lib.validD s = .ok j) : jbulk j ≤ 208 * s.length := by
  unfold jparse at h
  split at h
  · cases h
  · split at h
    · cases h
    · rename_i hv
      have := jval_bulk _ _ _ _ _ _ hv
      have := jblk_le s
      split at h
      · injection h with h
        subst h
        omega
      · cases h
end Go.Proofs.YtdjfoabinjfnfaaGreatDoor
namespace Go.Proofs.YtdjfoabinjfnfaaGreatDoor
open Go.RowKit
theorem leaf_jv (w : World) (X : Nat → Prop) (k : Int) (s : ByteArray) (h0 : 0 ≤ k) (h1 : k ≤ 255) : JV w X ⟨k, s, [], []⟩ (.slice none 0 0) (.slice none 0 0) := by
  rw [JV_eq]
  exact ⟨h0, h1, ⟨none, 0, rfl, fun h => by simp at h⟩, none, 0, rfl, fun h => by simp at h⟩
theorem putJ_bulk (o : Jsn) (nm : ByteArray) (x : Jsn) : jbulk (putJ o nm x) ≤ jbulk o + (nm.size + 1) + jbulk x := by
  unfold putJ
  split
  · omega
  · obtain ⟨k, t, n, l⟩ := o
    rw [jbulk_eq, jbulk_eq, jbulks_snoc2]
    dsimp only
    simp
    omega
def Sm (n : Nat) (o : Jsn) : Prop := o.names.length ≤ n ∧ o.list.length ≤ n
theorem Sm.put {n : Nat} {o : Jsn} (h : Sm n o) (nm : ByteArray) (x : Jsn) : Sm (n + 1) (putJ o nm x) := by
  unfold putJ
  obtain ⟨h1, h2⟩ := h
  split
  · exact ⟨by omega, by omega⟩
  · exact ⟨by simp; omega, by simp; omega⟩
structure WrI (w : World) (d : Nat) (cs : Array Value) (o : Jsn) (vN vL : Value) (ws : List OE) (W : World) : Prop where
  msg : Cel W w.heap.size 73 cs
  out : Cel W (w.heap.size + 1) 25 #[.int .u8 0, .string ⟨#[]⟩, .slice none 0 0, .slice none 0 0]
  box : Cel W d 25 #[.int .u8 o.kind, .string o.text, vN, vL]
  row : ObjR W (d + 1) o vN vL ws
  bel : Below w.heap.size w W
  top : w.heap.size + 2 ≤ d
theorem WrI.lt {w W : World} {d : Nat} {cs : Array Value} {o : Jsn} {vN vL : Value} {ws : List OE} (h : WrI w d cs o vN vL ws W) : d + 1 ≤ W.heap.size ∧ w.heap.size + 2 ≤ d := ⟨h.box.lt, h.top⟩
theorem WrI.step {w W W' : World} {d : Nat} {cs : Array Value} {o : Jsn} {vN vL : Value} {ws : List OE} (h : WrI w d cs o vN vL ws W) (hb : Below W.heap.size W W') : WrI w d cs o vN vL ws W' :=
  ⟨h.msg.below hb h.msg.lt, h.out.below hb h.out.lt, h.box.below hb h.box.lt, h.row.keep (fun k _ hk => hb.block k hk) hb.size, h.bel.trans (hb.mono (by have := h.lt; omega)), h.top⟩
theorem WrI.put {w W W' : World} {d : Nat} {cs : Array Value} {o o' : Jsn} {vN vL : Value} {ws : List OE} {e : Ending} (h : WrI w d cs o vN vL ws W) (hp : PutsEnd d (d + 1) o' vN vL W e W') :
    e = .returned (.tuple #[]) ∧ ∃ vN' vL' ws', WrI w d cs o' vN' vL' ws' W' := by
  obtain ⟨rfl, vN', vL', ws', hC, hO, hB, hk, _, _⟩ := hp
  have hlt := h.lt
  have n1 := h.row.1.lt
  have n2 := h.row.2.1.2.1.lt
  refine ⟨rfl, vN', vL', ws', ?_, ?_, hC, hO, h.bel.trans (hB.mono (by omega)), h.top⟩
  · exact (hk _ (by omega) (by omega) (fun e => by have := n1 _ e; omega) (fun e => by have := n2 _ e; omega)).trans h.msg
  · exact (hk _ (by omega) (by omega) (fun e => by have := n1 _ e; omega) (fun e => by have := n2 _ e; omega)).trans h.out
theorem WrI.own {w W : World} {d : Nat} {cs : Array Value} {o : Jsn} {vN vL : Value} {ws : List OE} (h : WrI w d cs o vN vL ws W) (hk : o.kind = 7) : OwnJ W 9 25 o d W.heap.size vN vL := by
  obtain ⟨k, s, n, l⟩ := o
  dsimp only at hk
  subst hk
  exact mk_own3 (by omega) (by omega) h.row.1 h.row.2.1 h.row.2.2 (by omega) h.lt.1
structure FlI (w : World) (d : Nat) (cs : Array Value) (o : Jsn) (vN vL : Value) (ws : List OE) (b : Nat) (f : Jsn) (fN fL : Value) (fs : List OE) (W : World) : Prop where
  env : WrI w d cs o vN vL ws W
  low : (∀ g, vN.ownBlock = some g → g < b) ∧ (∀ g, vL.ownBlock = some g → g < b) ∧ d + 1 ≤ b
  box : Cel W b 25 #[.int .u8 f.kind, .string f.text, fN, fL]
  row : ObjR W (b + 1) f fN fL fs
theorem FlI.step {w W W' : World} {d : Nat} {cs : Array Value} {o f : Jsn} {vN vL fN fL : Value} {ws fs : List OE} {b : Nat} (h : FlI w d cs o vN vL ws b f fN fL fs W) (hb : Below W.heap.size W W') : FlI w d cs o vN vL ws b f fN fL fs W' :=
  ⟨h.env.step hb, h.low, h.box.below hb h.box.lt, h.row.keep (fun k _ hk => hb.block k hk) hb.size⟩
theorem ObjR.low {W W' : World} {B : Nat} {o : Jsn} {vN vL : Value} {ws : List OE} (h : ObjR W B o vN vL ws) {b : Nat} (hw : ∀ u ∈ ws, u.2.2.2 ≤ b) (hN : ∀ g, vN.ownBlock = some g → g < b) (hL : ∀ g, vL.ownBlock = some g → g < b) (hk : ∀ k, B ≤ k → k < b → W'.heap[k]? = W.heap[k]?) (hs : W.heap.size ≤ W'.heap.size) : ObjR W' B o vN vL ws := by
  obtain ⟨q1, q2, q3⟩ := h
  refine ⟨ownRow_keep q1 (fun g hg => hk g (q1.lt g hg).1 (hN g hg)), ⟨q2.1, ownRow_keep q2.2.1 (fun g hg => hk g (q2.2.1.lt g hg).1 (hL g hg)), fun i x u hx hu => ?_, q2.2.2.2⟩, q3⟩
  obtain ⟨p1, p2, p3, p4, p5⟩ := q2.2.2.1 i x u hx hu
  have := hw u (List.mem_of_getElem? hu)
  exact ⟨p1, p2, by omega, p4, OwnJ.keep x p5 (fun c hc1 hc2 => hk c (by omega) (by omega)) (Nat.le_refl _) (Nat.le_refl _)⟩
theorem FlI.put {w W W' : World} {d : Nat} {cs : Array Value} {o f f' : Jsn} {vN vL fN fL : Value} {ws fs : List OE} {b : Nat} {e : Ending} (h : FlI w d cs o vN vL ws b f fN fL fs W) (hw : ∀ u ∈ ws, u.2.2.2 ≤ b) (hp : PutsEnd b (b + 1) f' fN fL W e W') :
    e = .returned (.tuple #[]) ∧ ∃ fN' fL' fs', FlI w d cs o vN vL ws b f' fN' fL' fs' W' := by
  obtain ⟨rfl, vN', vL', ws', hC, hO, hB, hk, _, _⟩ := hp
  obtain ⟨l1, l2, l3⟩ := h.low
  have hlt := h.box.lt
  have htop := h.env.top
  have n1 := h.row.1.lt
  have n2 := h.row.2.1.2.1.lt
  have hkk : ∀ k, k < b → W'.heap[k]? = W.heap[k]? := fun k hkb => hk _ (by omega) (by omega) (fun e => by have := n1 _ e; omega) (fun e => by have := n2 _ e; omega)
  refine ⟨rfl, vN', vL', ws', ⟨(hkk _ (by omega)).trans h.env.msg, (hkk _ (by omega)).trans h.env.out, (hkk _ (by omega)).trans h.env.box, h.env.row.low hw l1 l2 (fun k _ h2 => hkk k h2) hB.size, h.env.bel.trans (hB.mono (by omega)), h.env.top⟩, h.low, hC, hO⟩
theorem FlI.own {w W : World} {d : Nat} {cs : Array Value} {o f : Jsn} {vN vL fN fL : Value} {ws fs : List OE} {b : Nat} (h : FlI w d cs o vN vL ws b f fN fL fs W) (hk : f.kind = 7) : OwnJ W 9 25 f b W.heap.size fN fL := by
  have hlt := h.box.lt
  obtain ⟨k, s, n, l⟩ := f
  dsimp only at hk
  subst hk
  exact mk_own3 (by omega) (by omega) h.row.1 h.row.2.1 h.row.2.2 (by omega) (by omega)
theorem ObjR.ends {W : World} {B : Nat} {o : Jsn} {vN vL : Value} {ws : List OE} (h : ObjR W B o vN vL ws) : ∀ u ∈ ws, u.2.2.2 ≤ W.heap.size := h.2.1.ends
def WriteEnd (R : Jsn × Int) (w : World) (e : Ending) (w' : World) : Prop :=
  ∃ vn vl, e = .returned (.tuple #[jvV R.1 vn vl, .int .i64 R.2]) ∧ OwnJ w' 9 25 R.1 w.heap.size w'.heap.size vn vl ∧ Below w.heap.size w w'
theorem zeroWrite {w w' : World} {c : Int} (h : Below w.heap.size w w') : WriteEnd (zeroJ, c) w (.returned (.tuple #[.agg #[.int .u8 0, .string ⟨#[]⟩, .slice none 0 0, .slice none 0 0], .int .i64 c])) w' := ⟨nilV, nilV, rfl, zero_own _ _ _ _ _, h⟩
theorem num_bulk (n : Int) : jbulk (numJ n) = 1 + (ofNL n).length := by
  have : (⟨(ofNL n).toArray⟩ : ByteArray).size = (ofNL n).length := by show (ofNL n).toArray.size = _; exact List.size_toArray
  unfold numJ; rw [jbulk_eq, this]; rfl
theorem env_bulk (m : Msg) : jbulk (menv m) ≤ jbulk m.id + jbulk m.params + jbulk m.result + m.method.size + m.text.size + (ofNL m.code).length + 300 := by
  have b0 : jbulk objJ = 1 := by unfold objJ; rw [jbulk_eq]; rfl
  have b1 : jbulk verJ = 4 := by unfold verJ strJ; rw [jbulk_eq]; rfl
  have bs : ∀ s, jbulk (strJ s) = 1 + s.size := fun s => by unfold strJ; rw [jbulk_eq]; rfl
  have bn := num_bulk m.code
  have h1 := putJ_bulk objJ kVer verJ
  have h2 := putJ_bulk (putJ objJ kVer verJ) kId m.id
  have h3 := putJ_bulk (headJ m) kMeth (strJ m.method)
  have h4 := putJ_bulk (putJ (headJ m) kMeth (strJ m.method)) kPar m.params
  have h5 := putJ_bulk (askJ m) kRes m.result
  have h6 := putJ_bulk objJ kCode (numJ m.code)
  have h7 := putJ_bulk (putJ objJ kCode (numJ m.code)) kMsg (strJ m.text)
  have h8 := putJ_bulk (resJ m) kErr (errJ m)
  rw [bs] at h3 h7
  rw [bn] at h6
  have k1 : kVer.size = 7 := rfl
  have k2 : kId.size = 2 := rfl
  have k3 : kMeth.size = 6 := rfl
  have k4 : kPar.size = 6 := rfl
  have k5 : kRes.size = 6 := rfl
  have k6 : kErr.size = 5 := rfl
  have k7 : kCode.size = 4 := rfl
  have k8 : kMsg.size = 7 := rfl
  have ha : jbulk (askJ m) ≤ jbulk m.id + jbulk m.params + m.method.size + 100 := by
    unfold askJ
    split
    · have e : headJ m = putJ (putJ objJ kVer verJ) kId m.id := rfl
      rw [e] at h3 h4 ⊢; omega
    · have e : headJ m = putJ (putJ objJ kVer verJ) kId m.id := rfl
      rw [e]; omega
  have hr : jbulk (resJ m) ≤ jbulk m.id + jbulk m.params + jbulk m.result + m.method.size + 150 := by unfold resJ; omega
  unfold menv
  split
  · have e : errJ m = putJ (putJ objJ kCode (numJ m.code)) kMsg (strJ m.text) := rfl
    rw [e] at h8 ⊢; omega
  · omega
end Go.Proofs.YtdjfoabinjfnfaaGreatDoor
