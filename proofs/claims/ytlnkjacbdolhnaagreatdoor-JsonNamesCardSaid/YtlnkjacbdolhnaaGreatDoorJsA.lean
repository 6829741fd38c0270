/-
  The walks of slices.ContainsFunc over JSON values, json.count and json.deep.
-/
import Derived.Test.YtlnkjacbdolhnaaGreatDoorJsR
namespace Go.Proofs.YtlnkjacbdolhnaaGreatDoor
open Go.RowKit

/-- A function value that answers p of each of these values, wherever they are read. -/
def PredJ (g : Nat) (lb : Array Value) (p : Jsn → Bool) (w : World) (X : Nat → Prop) (l : List Jsn) : Prop :=
  ∀ (W : World) (x : Jsn) (vn vl : Value), x ∈ l → Below w.heap.size w W → JV W X x vn vl → Calls Tryz.prog g (#[.agg #[.int .u8 x.kind, .string x.text, vn, vl]] ++ lb) W fun e w' => e = .returned (.bool (p x)) ∧ Below W.heap.size W w'
def IdxEnd (b : Bool) (w : World) (e : Ending) (w' : World) : Prop := ∃ i : Int, e = .returned (.int .i64 i) ∧ decide (0 ≤ i) = b ∧ Below w.heap.size w w'
theorem take_any {zs : List JE} {q : Nat} {z : JE} (h : zs[q]? = some z) (p : Jsn → Bool) : ((zs.take (q + 1)).map (·.1)).any p = (((zs.take q).map (·.1)).any p || p z.1) := by
  rw [List.take_add_one, h]; simp
theorem any_of_take {zs : List JE} {q : Nat} {z : JE} (h : zs[q]? = some z) (p : Jsn → Bool) (hp : p z.1 = true) : (zs.map (·.1)).any p = true := by
  rw [List.any_eq_true]
  exact ⟨z.1, List.mem_map_of_mem (f := (·.1)) (List.mem_of_getElem? h), hp⟩

set_option maxHeartbeats 1000000 in
theorem idxFuncJ_any (g : Nat) (lb : Array Value) (p : Jsn → Bool) (eg : ∀ args w, (callFunc g args).run Tryz.prog w = .ok (.enter g args) w) (A : Option Addr) (c : Nat) (zs : List JE) (X : Nat → Prop) (w : World) (hl : zs.length ≤ 1000000000000000)
    (h2 : ∀ z ∈ zs, JV w X z.1 z.2.1 z.2.2) (h3 : 0 < zs.length → ∃ g o, A = some ⟨g, o, none⟩ ∧ X g ∧ g < w.heap.size ∧ ∀ j z, zs[j]? = some z → ∀ (i : Nat) (u : Value), (encJ z)[i]? = some u → w.cell? ⟨g, o + j * 4 + i, none⟩ = some u)
    (hp : PredJ g lb p w X (zs.map (·.1))) :
    Calls Tryz.prog 136 #[.slice A zs.length c, .func (.func g) #[] lb] w (IdxEnd ((zs.map (·.1)).any p) w) := by
  have hw := Lib.hid (fun (wr : World) (i : Nat) (hB : Below w.heap.size w wr) (hi : i < zs.length) => JV.at h2 h3 hB hi)
  clear h2 h3
  obtain ⟨R, hR⟩ : ∃ R, (zs.map (·.1)).any p = R := ⟨_, rfl⟩
  rw [hR]
  replace hp := Lib.hid hp
  replace hR := Lib.hid hR
  go_enter Tryz.func136, Tryz.ntmps136
  go_wp2_with fail
  go_loopw [8] (fun i wr => ∃ q : Nat, q ≤ zs.length ∧ i = .int .i64 q ∧ ((zs.take q).map (·.1)).any p = false ∧ Below w.heap.size w wr) (fun i _ => zs.length - (intOf i).toNat)
  case atStart => exact ⟨0, Nat.zero_le _, rfl, rfl, Below.refl _ _⟩
  case round =>
    obtain ⟨q, hq, rfl, hno, hB⟩ := hrel
    by_cases hlt : q < zs.length
    · obtain ⟨g', o, ⟨x, vx, vy⟩, hzq, hzm, rfl, hVz, c0, c1, c2, c3⟩ := hw.out wr q hB hlt
      have hcall := hp.out wr x vx vy (List.mem_map_of_mem (f := (·.1)) hzm) hB hVz
      dsimp only at c0 c1 c2 c3
      have htk := take_any hzq p
      have hyes := any_of_take hzq p
      rw [hno, Bool.false_or] at htk
      rw [hR.out] at hyes
      obtain ⟨y, hy⟩ : ∃ y, p x = y := ⟨_, rfl⟩
      dsimp only at htk hyes
      rw [hy] at hcall htk hyes
      have hbs := hB.size
      clear hzq hVz hno hw hp hy hzm
      replace hcall := Lib.hid hcall
      replace htk := Lib.hid htk
      replace hyes := Lib.hid hyes
      replace hB := Lib.hid hB
      go_wp2_with fail
      refine hcall.out.mono ?_
      rintro e w1 ⟨rfl, hB1⟩
      have hB2 := hB.out.trans (hB1.mono hbs)
      clear c0 c1 c2 c3 hcall hB hB1
      replace hB2 := Lib.hid hB2
      cases y
      · clear hyes
        go_wp2_with fail
        go_roundw
        case rel => exact ⟨q + 1, by omega, by go_num, htk.out, hB2.out⟩
        case measure => simp [intOf]; omega
      · have hR1 : R = true := hyes.out rfl
        subst hR1
        clear hyes htk
        go_wp2_with fail
        go_ret
        exact ⟨q, rfl, decide_eq_true (by omega), hB2.out⟩
    · have hfull : zs.take q = zs := List.take_of_length_le (by omega)
      rw [hfull, hR.out] at hno
      subst hno
      clear hw hp hfull hR
      replace hB := Lib.hid hB
      go_wp2_with fail
      go_ret
      exact ⟨-1, rfl, rfl, hB.out⟩

set_option maxHeartbeats 1000000 in
theorem containsJ_any (g : Nat) (lb : Array Value) (p : Jsn → Bool) (eg : ∀ args w, (callFunc g args).run Tryz.prog w = .ok (.enter g args) w) (A : Option Addr) (c : Nat) (zs : List JE) (X : Nat → Prop) (w : World) (hl : zs.length ≤ 1000000000000000)
    (h2 : ∀ z ∈ zs, JV w X z.1 z.2.1 z.2.2) (h3 : 0 < zs.length → ∃ g o, A = some ⟨g, o, none⟩ ∧ X g ∧ g < w.heap.size ∧ ∀ j z, zs[j]? = some z → ∀ (i : Nat) (u : Value), (encJ z)[i]? = some u → w.cell? ⟨g, o + j * 4 + i, none⟩ = some u)
    (hp : PredJ g lb p w X (zs.map (·.1))) :
    Calls Tryz.prog 96 #[.slice A zs.length c, .func (.func g) #[] lb] w fun e w' => e = .returned (.bool ((zs.map (·.1)).any p)) ∧ Below w.heap.size w w' := by
  have hi := Lib.hid (idxFuncJ_any g lb p eg A c zs X w hl h2 h3 hp)
  obtain ⟨R, hR⟩ : ∃ R, (zs.map (·.1)).any p = R := ⟨_, rfl⟩
  rw [hR] at hi ⊢
  clear h2 h3 hp eg hR
  go_enter Tryz.func96, Tryz.ntmps96
  go_wp2_with fail
  refine hi.out.mono ?_
  rintro e w1 ⟨i, rfl, hd, hB⟩
  subst hd
  clear hi
  replace hB := Lib.hid hB
  go_wp2_with fail
  go_ret
  exact ⟨rfl, hB.out⟩

theorem takes_le (zs : List JE) (q : Nat) {C : Nat} (h : jcounts (zs.map (·.1)) = C) : jcounts ((zs.take q).map (·.1)) ≤ C := by
  have := jcounts_app ((zs.drop q).map (·.1)) ((zs.take q).map (·.1))
  rw [← List.map_append, List.take_append_drop, h] at this; omega
def CountEnd (n : Nat) (w : World) (e : Ending) (w' : World) : Prop := ∃ m : Nat, e = .returned (.int .i64 m) ∧ (65536 < m ∨ m = n) ∧ 1 ≤ m ∧ m ≤ n ∧ Below w.heap.size w w'
set_option maxHeartbeats 1000000 in
theorem jsnCount_any : ∀ (j : Jsn) (X : Nat → Prop) (w : World) (vn vl : Value), JV w X j vn vl → jcount j ≤ 1000000000000 →
    Calls Tryz.prog 43 #[.agg #[.int .u8 j.kind, .string j.text, vn, vl]] w (CountEnd (jcount j) w) := by
  refine Jsn.ind fun k s n l ih X w vn vl hV hc => ?_
  obtain ⟨A, c, zs, rfl, hz, h2, h3⟩ := hV.elems
  rw [jcount_eq] at hc ⊢
  have hlen : zs.length = l.length := by rw [← hz, List.length_map]
  have hlc := jlen_count l
  rw [← hlen] at hlc
  clear hlen
  obtain ⟨C, hC⟩ : ∃ C, jcounts l = C := ⟨_, rfl⟩
  rw [hC] at hc hlc ⊢
  replace ih := Lib.hid ih
  replace hz := Lib.hid hz
  replace hC := Lib.hid hC
  have hw := Lib.hid (fun (wr : World) (i : Nat) (hB : Below w.heap.size w wr) (hi : i < zs.length) => JV.at h2 h3 hB hi)
  clear h2 h3 hV
  dsimp only
  go_enter Tryz.func43, Tryz.ntmps43
  go_wp2_with fail
  go_loopw [3, 9] (fun n i wr => ∃ q m : Nat, q ≤ zs.length ∧ i = .int .i64 q ∧ n = .int .i64 m ∧ (65536 < m ∨ m = jcounts ((zs.take q).map (·.1)) + 1) ∧ 1 ≤ m ∧ m ≤ jcounts ((zs.take q).map (·.1)) + 1 ∧ Below w.heap.size w wr) (fun _ i _ => zs.length - (intOf i).toNat)
  case atStart => exact ⟨0, 1, Nat.zero_le _, rfl, rfl, Or.inr rfl, by omega, Nat.le_refl _, (Below.refl _ _).alloc (Nat.le_refl _) _⟩
  case round =>
    obtain ⟨q, m, hq, rfl, rfl, hm, hm1, hmC, hB⟩ := hrel
    have hle := takes_le zs q (C := C) (by rw [hz.out, hC.out])
    by_cases hlt : q < zs.length
    · obtain ⟨g, o, ⟨x, vx, vy⟩, hzq, hzm, rfl, hVz, c0, c1, c2, c3⟩ := hw.out wr q hB hlt
      have hxm : x ∈ l := by rw [← hz.out]; exact List.mem_map_of_mem (f := (·.1)) hzm
      dsimp only at c0 c1 c2 c3 hVz
      obtain ⟨Ax, nx, cx, Ay, ny, cy, rfl, rfl⟩ := hVz.forms
      have hbs := hB.size
      by_cases hbig : 65536 < m
      · clear ih hw hVz hzq hzm hm
        replace hB := Lib.hid hB
        go_wp2_with fail
        go_ret
        exact ⟨m, rfl, Or.inl hbig, hm1, by omega, hB.out.alloc hbs _⟩
      · have hm' : m = jcounts ((zs.take q).map (·.1)) + 1 := by omega
        have hsn : jcounts ((zs.take (q + 1)).map (·.1)) = jcounts ((zs.take q).map (·.1)) + jcount x := by
          rw [List.take_add_one, hzq]; simp [jcounts_app, jcounts_cons, jcounts_nil]
        have hle2 := takes_le zs (q + 1) (C := C) (by rw [hz.out, hC.out])
        have hcall := ih.out x hxm X _ _ _ (hVz.alloc (.cells #[.int .u8 x.kind, .string x.text, .slice Ax nx cx, .slice Ay ny cy] 25)) (by omega)
        obtain ⟨D, hD⟩ : ∃ D, jcount x = D := ⟨_, rfl⟩
        obtain ⟨S, hS⟩ : ∃ S, jcounts ((zs.take q).map (·.1)) = S := ⟨_, rfl⟩
        rw [hD] at hcall hsn
        rw [hS] at hm' hsn
        rw [hsn] at hle2
        have hB1 := hB.alloc hbs (.cells #[.int .u8 x.kind, .string x.text, .slice Ax nx cx, .slice Ay ny cy] 25)
        clear ih hw hVz hzq hzm hm hmC hle hS hD hB
        replace hcall := Lib.hid hcall
        replace hsn := Lib.hid hsn
        replace hB1 := Lib.hid hB1
        replace hm' := Lib.hid hm'
        go_wp2_with fail
        refine hcall.out.mono ?_
        rintro e w1 ⟨m2, rfl, hm2, hm3, hm4, hB2⟩
        have hB3 := hB1.out.trans (hB2.mono (by simp; omega))
        have hmS := hm'.out
        have hrel2 : (65536 < m + m2 ∨ m + m2 = jcounts ((zs.take (q + 1)).map (·.1)) + 1) ∧ 1 ≤ m + m2 ∧ m + m2 ≤ jcounts ((zs.take (q + 1)).map (·.1)) + 1 := by
          rw [hsn.out]
          refine ⟨?_, by omega, by omega⟩
          rcases hm2 with h | h
          · left; omega
          · right; omega
        clear c0 c1 c2 c3 hm2 hB1 hB2 hmS
        replace hB3 := Lib.hid hB3
        replace hrel2 := Lib.hid hrel2
        go_wp2_with fail
        go_roundw
        case rel => exact ⟨q + 1, m + m2, by omega, by go_num, by go_num, hrel2.out.1, hrel2.out.2.1, hrel2.out.2.2, hB3.out⟩
        case measure => simp [intOf]; omega
    · have hfull : zs.take q = zs := List.take_of_length_le (by omega)
      rw [hfull, hz.out, hC.out] at hm hmC
      clear hw ih hfull hle
      replace hB := Lib.hid hB
      replace hm := Lib.hid hm
      go_wp2_with fail
      go_ret
      exact ⟨m, rfl, hm.out, hm1, hmC, hB.out⟩

def DeepSays (x : Jsn) : Prop := ∀ (X : Nat → Prop) (w : World) (vn vl : Value) (m : Nat), JV w X x vn vl → m ≤ 1000 → jbulk x ≤ 1000000000000000 →
    Calls Tryz.prog 42 #[.agg #[.int .u8 x.kind, .string x.text, vn, vl], .int .i64 m] w fun e w' => e = .returned (.bool (decide (65 < m + jdeep x))) ∧ Below w.heap.size w w'
set_option maxHeartbeats 1000000 in
theorem deepC_any (x : Jsn) (ih : DeepSays x) (b m : Nat) (X : Nat → Prop) (W : World) (vn vl : Value) (hm : m < 1000) (hbk : jbulk x ≤ 1000000000000000) (hc : W.cell? ⟨b, 0, none⟩ = some (.int .i64 m)) (hV : JV W X x vn vl) :
    Calls Tryz.prog 97 #[.agg #[.int .u8 x.kind, .string x.text, vn, vl], .pointer (some ⟨b, 0, none⟩)] W fun e w' => e = .returned (.bool (decide (65 < m + 1 + jdeep x))) ∧ Below W.heap.size W w' := by
  obtain ⟨Ax, nx, cx, Ay, ny, cy, rfl, rfl⟩ := hV.forms
  have hcall := ih X _ _ _ (m + 1) (hV.alloc (.cells #[.int .u8 x.kind, .string x.text, .slice Ax nx cx, .slice Ay ny cy] 25)) (by omega) hbk
  have hc2 := (World.cell?_alloc_lt W (.cells #[.int .u8 x.kind, .string x.text, .slice Ax nx cx, .slice Ay ny cy] 25) ⟨b, 0, none⟩ (World.block_lt_of_cell? W _ hc)).trans hc
  rw [Int.natCast_add] at hcall
  clear ih hV hc
  obtain ⟨R, hR⟩ : ∃ R, decide (65 < m + 1 + jdeep x) = R := ⟨_, rfl⟩
  rw [hR] at hcall ⊢
  clear hR
  replace hcall := Lib.hid hcall
  go_enter Tryz.func97, Tryz.ntmps97
  go_wp2_with fail
  refine hcall.out.mono ?_
  rintro e w1 ⟨rfl, hB⟩
  have hB2 := ((Below.refl W.heap.size W).alloc (Nat.le_refl _) (.cells #[.int .u8 x.kind, .string x.text, .slice Ax nx cx, .slice Ay ny cy] 25)).trans (hB.mono (by simp))
  clear hc2 hcall hB
  replace hB2 := Lib.hid hB2
  go_wp2_with fail
  go_ret
  exact ⟨rfl, hB2.out⟩

theorem deep_split (m : Nat) (hm : m ≤ 64) (l : List Jsn) : l.any (fun x => decide (65 < m + 1 + jdeep x)) = decide (65 < m + (jdeeps l + 1)) := by
  rw [Bool.eq_iff_iff, List.any_eq_true, decide_eq_true_eq]
  have := jdeeps_lt (64 - m) l
  constructor
  · rintro ⟨x, hx, h⟩
    have := this.2 ⟨x, hx, by have := of_decide_eq_true h; omega⟩
    omega
  · intro h
    obtain ⟨x, hx, h2⟩ := this.1 (by omega)
    exact ⟨x, hx, decide_eq_true (by omega)⟩
theorem enters89 : ∀ args w, (callFunc 97 args).run Tryz.prog w = .ok (.enter 97 args) w := fun _ _ => by kernel_rfl

set_option maxHeartbeats 1000000 in
/-- json.deep: is the value, that many deep already, deeper than may be? -/
theorem jsnDeep_any : ∀ (x : Jsn), DeepSays x := by
  refine Jsn.ind fun k s n l ih X w vn vl m hV hm hbk => ?_
  obtain ⟨_, _, hl, _, hkids⟩ := bulk_parts hbk
  dsimp only at hl hkids
  obtain ⟨Ax, nx, cx, _, _, _, rfl, _⟩ := hV.forms
  obtain ⟨A, c, zs, rfl, hz, h2, h3⟩ := hV.elems
  rw [jdeep_eq]
  have hlen : zs.length = l.length := by rw [← hz, List.length_map]
  rw [← hlen] at hl
  clear hlen
  by_cases hbig : 64 < m
  · have hR : decide (65 < m + (jdeeps l + 1)) = true := decide_eq_true (by omega)
    rw [hR]
    clear ih hV h2 h3 hR hkids hbk hz
    dsimp only
    go_enter Tryz.func42, Tryz.ntmps42
    go_wp2_with fail
    go_ret
    exact ⟨rfl, ((Below.refl _ _).alloc (Nat.le_refl _) _).alloc (by simp) _⟩
  · have hB1 := ((Below.refl w.heap.size w).alloc (Nat.le_refl _) (.cells #[.int .u8 k, .string s, .slice Ax nx cx, .slice A zs.length c] 25)).alloc (by simp) (.cells #[.int .i64 m] 3)
    have hcall := containsJ_any 97 #[.pointer (some ⟨w.heap.size + 1, 0, none⟩)] (fun x => decide (65 < m + 1 + jdeep x)) enters89 A c zs X ((w.alloc (.cells #[.int .u8 k, .string s, .slice Ax nx cx, .slice A zs.length c] 25)).alloc (.cells #[.int .i64 m] 3)) (by omega)
      (fun z hz' => (h2 z hz').later hB1) (fun hp => by
        obtain ⟨g, o, q1, q2, q3, q4⟩ := h3 hp
        exact ⟨g, o, q1, q2, by simp; omega, fun j z hz' i u hu => (hB1.cell (p := ⟨g, o + j * 4 + i, none⟩) q3).trans (q4 j z hz' i u hu)⟩)
      (fun W x vn vl hx hB hV => by
        rw [hz] at hx
        refine deepC_any x (ih x hx) (w.heap.size + 1) m X W vn vl (by omega) (by have := hkids x hx; omega) ?_ hV
        have hC := Cel.fresh (w.alloc (.cells #[.int .u8 k, .string s, .slice Ax nx cx, .slice A zs.length c] 25)) 3 #[.int .i64 m]
        have hs : (w.alloc (.cells #[.int .u8 k, .string s, .slice Ax nx cx, .slice A zs.length c] 25)).heap.size = w.heap.size + 1 := by simp
        rw [hs] at hC
        exact (hC.below hB hC.lt).cell 0)
    rw [hz, deep_split m (by omega)] at hcall
    obtain ⟨R, hR⟩ : ∃ R, decide (65 < m + (jdeeps l + 1)) = R := ⟨_, rfl⟩
    rw [hR] at hcall ⊢
    clear ih hV h2 h3 hR hkids hbk hz
    replace hcall := Lib.hid hcall
    replace hB1 := Lib.hid hB1
    have hbf : decide (64 < (m : Int)) = false := decide_eq_false (by omega)
    dsimp only
    go_enter Tryz.func42, Tryz.ntmps42
    go_wp2_with fail
    refine hcall.out.mono ?_
    rintro e w1 ⟨rfl, hB⟩
    have hB2 := hB1.out.trans (hB.mono (by simp; omega))
    clear hcall hB hB1
    replace hB2 := Lib.hid hB2
    go_wp2_with fail
    go_ret
    exact ⟨rfl, hB2.out⟩
end Go.Proofs.YtlnkjacbdolhnaaGreatDoor
