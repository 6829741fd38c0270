/-
  The walks of slices.Index over strings, and of json.Get.
-/
import Derived.Test.YtamcbgkppgdniaaGreatDoorJsG
import Derived.Lib.SlicesS
namespace Go.Proofs.YtamcbgkppgdniaaGreatDoor
open Go.RowKit

def findI (L : List ByteArray) (x : ByteArray) : Int := match jfind L x with | none => -1 | some i => (i : Int)
theorem idxFromS_find (x : ByteArray) : ∀ (L : List ByteArray) (i : Nat), Go.Lib.idxFromS L x i = match jfind L x with | none => -1 | some k => ((i + k : Nat) : Int)
  | [], i => by simp [Go.Lib.idxFromS, jfind]
  | z :: L, i => by
    have ih := idxFromS_find x L (i + 1)
    unfold jfind at ih ⊢
    by_cases h : z = x
    · simp [Go.Lib.idxFromS, List.findIdx?_cons, h]
    · simp only [Go.Lib.idxFromS, List.findIdx?_cons, h, if_false, decide_false]
      rw [ih]
      rcases L.findIdx? (fun b => decide (b = x)) with _ | k
      · rfl
      · simp only [Option.map_some]
        show ((i + 1 + k : Nat) : Int) = ((i + (k + 1) : Nat) : Int)
        omega
theorem idxOfS_find (L : List ByteArray) (x : ByteArray) : Go.Lib.idxOfS L x = findI L x := by
  unfold Go.Lib.idxOfS findI
  rw [idxFromS_find]
  rcases jfind L x with _ | k
  · rfl
  · simp
theorem indexStr_any (X : Nat → Prop) (v : Value) (L : List ByteArray) (x : ByteArray) (w : World) (hv : StrL w X v L) (hl : L.length ≤ 1000000000000) :
    Calls Tryz.prog 92 #[v, .string x] w fun e w' => e = .returned (.int .i64 (findI L x)) ∧ w = w' := by
  obtain ⟨A, c, rfl, h1⟩ := hv
  by_cases h0 : L.length = 0
  · have e1 : L = [] := List.eq_nil_of_length_eq_zero h0
    subst e1
    refine (Tryz.slices_Index_string_empty A c x w).mono ?_
    rintro e w' ⟨rfl, rfl⟩
    exact ⟨by rw [idxOfS_find], rfl⟩
  · obtain ⟨g, o, rfl, _, _, q1⟩ := h1 (by omega)
    refine (Tryz.slices_Index_string g o L.length c L x w (Nat.le_refl _) (by omega) (fun j hj => by rw [q1 j _ (List.getElem?_eq_getElem hj)]; simp [List.getD, hj])).mono ?_
    rintro e w' ⟨rfl, rfl⟩
    rw [List.take_of_length_le (Nat.le_refl _)]
    exact ⟨by rw [idxOfS_find], rfl⟩
theorem findI_bd (L : List ByteArray) (x : ByteArray) : -1 ≤ findI L x ∧ findI L x < L.length ∨ findI L x = -1 := by
  unfold findI
  rcases h : jfind L x with _ | k
  · exact Or.inr rfl
  · left
    have := (List.findIdx?_eq_some_iff_findIdx_eq.1 h).1
    constructor
    · simp only; omega
    · simp only; omega

def zeroJ : Jsn := ⟨0, ⟨#[]⟩, [], []⟩
/-- How a call ends that hands a value of its own, and whether there is one. -/
def GetJEnd (r : Option Jsn) (w : World) (e : Ending) (w' : World) : Prop := ∃ vn vl, e = .returned (.tuple #[.agg #[.int .u8 (r.getD zeroJ).kind, .string (r.getD zeroJ).text, vn, vl], .bool r.isSome]) ∧ OwnJ w' 9 25 (r.getD zeroJ) w.heap.size w'.heap.size vn vl ∧ Below w.heap.size w w'
theorem zero_own (w : World) (tS tJ : TypeId) (lo hi : Nat) : OwnJ w tS tJ zeroJ lo hi (.slice none 0 0) (.slice none 0 0) := by
  unfold zeroJ
  rw [OwnJ_eq]
  exact ⟨by omega, by omega, 0, 0, #[], none, 0, [], ⟨none, 0, rfl, fun h => by simp at h⟩, rfl, (fun h => by simp at h), rfl, (fun i x u h => by simp at h), (fun i j u v _ h => by simp at h)⟩

set_option maxRecDepth 100000 in
set_option maxHeartbeats 2000000 in
theorem jsnGet_any (j : Jsn) (X : Nat → Prop) (w : World) (vn vl : Value) (x : ByteArray) (hV : JV w X j vn vl) (hbk : jbulk j ≤ 1000000000000) :
    Calls Tryz.prog 50 #[.agg #[.int .u8 j.kind, .string j.text, vn, vl], .string x] w (GetJEnd (jget j x) w) := by
  obtain ⟨k, s, n, l⟩ := j
  obtain ⟨_, hn, hl, _, hkids⟩ := bulk_parts hbk
  dsimp only at hl hkids hn
  have hnam := hV.names
  obtain ⟨An, cn, rfl⟩ := hnam.len
  obtain ⟨A, c, zs, rfl, hz, h2, h3⟩ := hV.elems
  dsimp only at hnam ⊢
  have hlen : zs.length = l.length := by rw [← hz, List.length_map]
  rw [← hlen] at hl
  have hB0 : Below w.heap.size w ((w.alloc (.cells #[.int .u8 k, .string s, .slice An n.length cn, .slice A zs.length c] 25)).alloc (.cells #[.int .u8 0, .string ⟨#[]⟩, .slice none 0 0, .slice none 0 0] 25)) := ((Below.refl _ _).alloc (Nat.le_refl _) _).alloc (by simp) _
  have hix := indexStr_any X _ n x _ (hnam.later hB0) hn
  obtain ⟨I, hI⟩ : ∃ I, findI n x = I := ⟨_, rfl⟩
  have hbd := findI_bd n x
  rw [hI] at hix hbd
  obtain ⟨r, hr⟩ : ∃ r, jget ⟨k, s, n, l⟩ x = r := ⟨_, rfl⟩
  rw [hr]
  by_cases hyes : k = 7 ∧ 0 ≤ I ∧ I < zs.length
  · obtain ⟨rfl, hI0, hI1⟩ := hyes
    obtain ⟨i, rfl⟩ : ∃ i : Nat, I = (i : Int) := ⟨I.toNat, by omega⟩
    have hlt : i < zs.length := by omega
    obtain ⟨g, o, ⟨y, vx, vy⟩, hzq, hzm, rfl, hVz, a0, a1, a2, a3⟩ := JV.at h2 h3 hB0 hlt
    dsimp only at hVz a0 a1 a2 a3
    have hym : y ∈ l := by rw [← hz]; exact List.mem_map_of_mem (f := (·.1)) hzm
    have hrv : r = some y := by
      rw [← hr]
      unfold jget
      rw [if_pos rfl]
      unfold findI at hI
      rcases hj : jfind n x with _ | kk
      · rw [hj] at hI; simp only at hI; omega
      · rw [hj] at hI
        simp only at hI ⊢
        have : kk = i := by omega
        subst this
        show l[kk]? = some y
        rw [← hz, List.getElem?_map, hzq]; rfl
    subst hrv
    obtain ⟨Ax, nx, cx, Ay, ny, cy, rfl, rfl⟩ := hVz.forms
    have hcall := jsnOwn_any y X _ _ _ hVz (by have := hkids y hym; omega)
    clear hV h2 h3 hkids hbk hlen hI hr hnam hzq hzm hVz hz
    replace hix := Lib.hid hix
    replace hcall := Lib.hid hcall
    replace hB0 := Lib.hid hB0
    have hi0 : (0 : Int) ≤ (i : Int) := by omega
    have hi1 : (i : Int) < (zs.length : Int) := by omega
    go_enter Tryz.func50, Tryz.ntmps50
    go_wp2_with fail
    refine hix.out.mono ?_
    rintro e w1 ⟨rfl, rfl⟩
    clear hix
    go_wp2_with fail
    refine hcall.out.mono ?_
    rintro e w2 ⟨vN, vL, rfl, hO, hB2⟩
    obtain ⟨A3, n3, c3, A4, n4, c4, rfl, rfl⟩ := hO.forms
    have hC2 : Cel ((w.alloc (.cells #[.int .u8 7, .string s, .slice An n.length cn, .slice (some ⟨g, o, none⟩) zs.length c] 25)).alloc (.cells #[.int .u8 0, .string ⟨#[]⟩, .slice none 0 0, .slice none 0 0] 25)) (w.heap.size + 1) 25 #[.int .u8 0, .string ⟨#[]⟩, .slice none 0 0, .slice none 0 0] := by
      have := Cel.fresh (w.alloc (.cells #[.int .u8 7, .string s, .slice An n.length cn, .slice (some ⟨g, o, none⟩) zs.length c] 25)) 25 #[.int .u8 0, .string ⟨#[]⟩, .slice none 0 0, .slice none 0 0]
      simpa using this
    have hD2 := hC2.below hB2 hC2.lt
    have hB3 := hB0.out.trans (hB2.mono (by simp; omega))
    have hs3 := hB2.size
    simp at hs3
    have r0 := hD2.cell 0
    have r1 := hD2.cell 1
    have r2 := hD2.cell 2
    have r3 := hD2.cell 3
    have s0 := hD2.froz 0
    have s1 := hD2.froz 1
    have s2 := hD2.froz 2
    have s3 := hD2.froz 3
    simp only [List.getElem?_toArray, List.getElem?_cons_zero, List.getElem?_cons_succ] at r0 r1 r2 r3
    clear hcall hB2 hB0 hC2 hD2 a0 a1 a2 a3
    replace hO := Lib.hid hO
    replace hB3 := Lib.hid hB3
    go_wp2_with fail
    refine bodyPost_ret (v := .tuple #[.agg #[.int .u8 y.kind, .string y.text, .slice A3 n3 c3, .slice A4 n4 c4], .bool true]) (by simp [results, Tryz.results50, go_sem, r0, r1, r2, r3]) rfl ⟨_, _, rfl, ?_, ?_⟩
    · refine OwnJ.keep _ hO.out (fun b h1 _ => ?_) (by simp; omega) (by simp [World.setCell])
      simp at h1
      rw [Below.heap_setCell _ _ _ _ (by simp; omega), Below.heap_setCell _ _ _ _ (by simp; omega), Below.heap_setCell _ _ _ _ (by simp; omega), Below.heap_setCell _ _ _ _ (by simp; omega)]
    · exact (((hB3.out.setCell (by simp) _).setCell (by simp) _).setCell (by simp) _).setCell (by simp) _
  · have hrv : r = none := by
      rw [← hr]
      unfold jget
      by_cases hk : k = 7
      · rw [if_pos hk]
        unfold findI at hI
        show (match jfind n x with | none => none | some i => l[i]?) = none
        rcases hj : jfind n x with _ | kk
        · rfl
        · rw [hj] at hI
          simp only at hI ⊢
          exact List.getElem?_eq_none (by omega)
      · rw [if_neg hk]
    subst hrv
    clear hV h2 h3 hkids hbk hI hr hz hnam
    replace hix := Lib.hid hix
    replace hB0 := Lib.hid hB0
    clear hlen
    by_cases hk : k = 7
    · subst hk
      by_cases hI0 : I < 0
      · clear hyes hB0
        go_enter Tryz.func50, Tryz.ntmps50
        go_wp2_with fail
        refine hix.out.mono ?_
        rintro e w1 ⟨rfl, rfl⟩
        clear hix
        go_wp2_with fail
        exact bodyPost_ret (v := .tuple #[.agg #[.int .u8 0, .string ⟨#[]⟩, .slice none 0 0, .slice none 0 0], .bool false]) (by simp [results, Tryz.results50, go_sem]) rfl ⟨_, _, rfl, zero_own _ _ _ _ _, ((Below.refl _ _).alloc (Nat.le_refl _) _).alloc (by simp) _⟩
      · have hI1 : (zs.length : Int) ≤ I := by
          rcases Int.lt_or_le I (zs.length : Int) with h | h
          · exact absurd ⟨rfl, by omega, h⟩ hyes
          · exact h
        clear hyes hB0
        go_enter Tryz.func50, Tryz.ntmps50
        go_wp2_with fail
        refine hix.out.mono ?_
        rintro e w1 ⟨rfl, rfl⟩
        clear hix
        go_wp2_with fail
        exact bodyPost_ret (v := .tuple #[.agg #[.int .u8 0, .string ⟨#[]⟩, .slice none 0 0, .slice none 0 0], .bool false]) (by simp [results, Tryz.results50, go_sem]) rfl ⟨_, _, rfl, zero_own _ _ _ _ _, ((Below.refl _ _).alloc (Nat.le_refl _) _).alloc (by simp) _⟩
    · have hk1 : (k == 7) = false := beq_eq_false_iff_ne.2 hk
      have hk2 : (k != 7) = true := by simp [hk]
      · clear hyes hB0
        go_enter Tryz.func50, Tryz.ntmps50
        go_wp2_with fail
        refine hix.out.mono ?_
        rintro e w1 ⟨rfl, rfl⟩
        clear hix
        go_wp2_with fail
        exact bodyPost_ret (v := .tuple #[.agg #[.int .u8 0, .string ⟨#[]⟩, .slice none 0 0, .slice none 0 0], .bool false]) (by simp [results, Tryz.results50, go_sem]) rfl ⟨_, _, rfl, zero_own _ _ _ _ _, ((Below.refl _ _).alloc (Nat.le_refl _) _).alloc (by simp) _⟩
end Go.Proofs.YtamcbgkppgdniaaGreatDoor
