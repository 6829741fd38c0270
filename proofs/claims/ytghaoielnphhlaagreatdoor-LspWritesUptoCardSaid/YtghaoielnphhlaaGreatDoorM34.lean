/-
  The walk of lsp.Caps.
-/
import Derived.Test.YtghaoielnphhlaaGreatDoorLwG
import Derived.Test.YtghaoielnphhlaaGreatDoorM18
namespace Go.Proofs.YtghaoielnphhlaaGreatDoor
open Go.RowKit

def capNames : List ByteArray := [⟨#[100, 105, 97, 103, 110, 111, 115, 116, 105, 99]⟩, ⟨#[100, 101, 102, 105, 110, 105, 116, 105, 111, 110]⟩, ⟨#[102, 111, 114, 109, 97, 116, 116, 105, 110, 103]⟩, ⟨#[104, 111, 118, 101, 114]⟩, ⟨#[114, 101, 110, 97, 109, 101]⟩]
def lSync : ByteArray := ⟨#[115, 121, 110, 99]⟩
def lCapabilities : ByteArray := ⟨#[99, 97, 112, 97, 98, 105, 108, 105, 116, 105, 101, 115]⟩
def trueJ : Jsn := ⟨2, ⟨#[]⟩, [], []⟩
def capsIn : Jsn := mkO (capNames ++ [lSync]) [trueJ, trueJ, trueJ, trueJ, trueJ, numJ 2]
def capsJ : Jsn := mkO [lCapabilities] [capsIn]
def namedCells (nm : ByteArray) (x : Jsn) (xn xl : Value) : List Value := [.string nm, .int .u8 x.kind, .string x.text, xn, xl]
def namedRow (ns : List ByteArray) : List Value := ns.flatMap fun nm => namedCells nm trueJ (.slice none 0 0) (.slice none 0 0)
theorem namedRow_snoc (ns : List ByteArray) (nm : ByteArray) : namedRow (ns ++ [nm]) = namedRow ns ++ namedCells nm trueJ (.slice none 0 0) (.slice none 0 0) := by unfold namedRow; simp
theorem infoN : (Tryz.prog.info? 84).map (fun i => (i.zero, i.size, i.bytes)) = some (some (.agg #[.string ByteArray.empty, .int .u8 0, .string ByteArray.empty, .slice none 0 0, .slice none 0 0]), 5, 88) := by kernel_rfl
/-- A member more in a row. -/
theorem rowN_more {W : World} {B n : Nat} {v : Value} {xs : List Value} (h : W.ownsRow B 84 5 v n xs) (hB : B ≤ W.heap.size) (nm : ByteArray) (x : Jsn) (xn xl : Value) (h1 : xn.oneCell' = true) (h2 : xl.oneCell' = true) (hn : n ≤ 1000) :
    ∃ v' w4, (Builtin.append_ #[92, 92] 92 #[v, .slice (some ⟨W.heap.size, 0, none⟩) 1 1]).run Tryz.prog (W.alloc (.cells #[.string nm, .int .u8 x.kind, .string x.text, xn, xl] 84)) = .ok v' w4 ∧
      w4.ownsRow B 84 5 v' (n + 1) (xs ++ namedCells nm x xn xl) ∧ (W.alloc (.cells #[.string nm, .int .u8 x.kind, .string x.text, xn, xl] 84)).grownBy w4 v.ownBlock ∧ (v'.ownBlock = v.ownBlock ∨ v'.ownBlock = some (W.heap.size + 1)) := by
  obtain ⟨i0, hi0, hz0, hz1, hz2⟩ := info_parts infoN
  obtain ⟨v', w4, hrun, r2, r3, _, r5⟩ := run_append_own_at (P := Tryz.prog) (W.alloc (.cells #[.string nm, .int .u8 x.kind, .string x.text, xn, xl] 84)) B 92 92 84 i0 _ 5 88 Tryz.underlying92 hi0 hz0 hz1 hz2 rfl (by decide) v n xs (h.alloc _) ⟨W.heap.size, 0, none⟩ 1 1 (namedCells nm x xn xl) rfl
    (fun j u hu => by
      have hadd : (⟨W.heap.size, 0, none⟩ : Addr).add j = ⟨W.heap.size, j, none⟩ := by unfold Addr.add; split <;> simp_all
      rw [hadd, (Cel.fresh W 84 #[.string nm, .int .u8 x.kind, .string x.text, xn, xl]).cell]
      simpa [namedCells] using hu)
    (fun u hu => by simp [namedCells] at hu; rcases hu with rfl | rfl | rfl | rfl | rfl <;> first | rfl | assumption) (by unfold maxLen; omega) (by omega) (by simp; omega)
  exact ⟨v', w4, hrun, r2, r3, r5.imp id fun e => by simpa using e⟩
/-- A row's cells. -/
theorem row_cells {w : World} {B k n : Nat} {t : TypeId} {v : Value} {xs : List Value} (h : w.ownsRow B t k v n xs) (hn : 0 < n) : ∃ g cap, v = .slice (some ⟨g, 0, none⟩) n cap ∧ B ≤ g ∧ g < w.heap.size ∧ ∀ (i : Nat) u, xs[i]? = some u → w.cell? ⟨g, i, none⟩ = some u := by
  rcases h.2 with ⟨_, hz⟩ | ⟨g, cap, cur, e, h1, h2, h3, h4, h5, h6⟩
  · omega
  · refine ⟨g, cap, e, h1, (Array.getElem?_eq_some_iff.1 h2).1, fun i u hu => ?_⟩
    rw [(show Cel w g t cur from h2).cell]
    rw [← h6, List.getElem?_take] at hu
    split at hu
    · rw [← Array.getElem?_toList]; exact hu
    · cases hu
theorem true_own (w : World) (lo hi : Nat) : OwnJ w 9 25 trueJ lo hi (.slice none 0 0) (.slice none 0 0) := leaf_own w 2 _ lo hi (by omega) (by omega)
set_option maxRecDepth 100000 in
set_option maxHeartbeats 4000000 in
theorem lspCaps_any (w : World) (hE : Env w) : Calls Tryz.prog 23 #[] w (OwnJEnd capsJ w) := by
  have hNum := Lib.hid (fun (W : World) (hb : Below w.heap.size w W) => lspNum_any 2 W (hE.below hb) (by omega) (by omega))
  clear hE
  go_enter Tryz.func23, Tryz.ntmps23
  go_wp2_with fail
  go_loopw [1, 6] (fun v i wr => ∃ (q : Nat), q ≤ 5 ∧ i = .int .i64 q ∧ wr.ownsRow (w.heap.size + 2) 84 5 v q (namedRow (capNames.take q)) ∧ Cel wr w.heap.size 25 #[.int .u8 0, .string ⟨#[]⟩, .slice none 0 0, .slice none 0 0] ∧ Cel wr (w.heap.size + 1) 9 #[.string ⟨#[100, 105, 97, 103, 110, 111, 115, 116, 105, 99]⟩, .string ⟨#[100, 101, 102, 105, 110, 105, 116, 105, 111, 110]⟩, .string ⟨#[102, 111, 114, 109, 97, 116, 116, 105, 110, 103]⟩, .string ⟨#[104, 111, 118, 101, 114]⟩, .string ⟨#[114, 101, 110, 97, 109, 101]⟩] ∧ Below w.heap.size w wr) (fun _ i _ => 5 - (intOf i).toNat)
  case atStart =>
    refine ⟨0, by omega, rfl, ⟨rfl, .inl ⟨rfl, rfl⟩⟩, (Cel.fresh _ _ _).alloc _, ?_, ((Below.refl _ _).alloc (Nat.le_refl _) _).alloc (by simp) _⟩
    have := Cel.fresh (w.alloc (.cells #[.int .u8 0, .string ⟨#[]⟩, .slice none 0 0, .slice none 0 0] 25)) 9 #[.string ⟨#[100, 105, 97, 103, 110, 111, 115, 116, 105, 99]⟩, .string ⟨#[100, 101, 102, 105, 110, 105, 116, 105, 111, 110]⟩, .string ⟨#[102, 111, 114, 109, 97, 116, 116, 105, 110, 103]⟩, .string ⟨#[104, 111, 118, 101, 114]⟩, .string ⟨#[114, 101, 110, 97, 109, 101]⟩]
    simpa using this
  case round =>
    obtain ⟨q, hq, rfl, hN, hC1, hC2, hB⟩ := hrel
    have hsz := hC1.lt
    have hsz2 := hC2.lt
    by_cases hlt : q < 5
    · obtain ⟨nm, hnm⟩ : ∃ x, capNames[q]? = some x := ⟨_, List.getElem?_eq_getElem (by show q < 5; exact hlt)⟩
      have a0 : wr.cell? ⟨w.heap.size + 1, q, none⟩ = some (.string nm) := by
        rw [hC2.cell]
        have : #[.string ⟨#[100, 105, 97, 103, 110, 111, 115, 116, 105, 99]⟩, .string ⟨#[100, 101, 102, 105, 110, 105, 116, 105, 111, 110]⟩, .string ⟨#[102, 111, 114, 109, 97, 116, 116, 105, 110, 103]⟩, .string ⟨#[104, 111, 118, 101, 114]⟩, .string ⟨#[114, 101, 110, 97, 109, 101]⟩] = (capNames.map Value.string).toArray := rfl
        rw [this, List.getElem?_toArray, List.getElem?_map, hnm]
        rfl
      have hns : namedRow (capNames.take (q + 1)) = namedRow (capNames.take q) ++ namedCells nm trueJ (.slice none 0 0) (.slice none 0 0) := by rw [List.take_add_one, hnm]; exact namedRow_snoc _ _
      obtain ⟨VA, va, vc, hvf⟩ := own_form hN
      obtain ⟨v', w4, hrun, hN4, hg4, hv4⟩ := rowN_more hN (by omega) nm trueJ (.slice none 0 0) (.slice none 0 0) rfl rfl (by omega)
      rw [← hns] at hN4
      have hlN := hN.lt
      have hB4 : Below (w.heap.size + 2) wr w4 := by
        have b2 := (Below.refl (w.heap.size + 2) wr).alloc (by omega) (.cells #[.string nm, .int .u8 trueJ.kind, .string trueJ.text, .slice none 0 0, .slice none 0 0] 84)
        exact Below.grown b2 hg4 (by simp; omega) (fun g hg => (hlN g hg).1)
      have hD1 := Lib.hid (hC1.below hB4 (by omega))
      have hD2 := Lib.hid (hC2.below hB4 (by omega))
      have hB5 := Lib.hid (hB.trans (hB4.mono (by omega)))
      subst hvf
      replace hrun := Lib.hid hrun
      replace hN4 := Lib.hid hN4
      have hlt2 : (q : Int) < 5 := by omega
      clear hN hC1 hC2 hB hns hg4 hv4 hlN hB4 hnm
      go_wp2_with (at_builtin; refine jl_append_run (by rfl) _ _ 92 92 rfl (.slice VA va vc) (.slice (some ⟨wr.heap.size, 0, none⟩) 1 1) _ rfl rfl hrun.out ?_)
      go_roundw
      case rel => exact ⟨q + 1, by omega, by go_num, hN4.out, hD1.out, hD2.out, hB5.out⟩
      case measure => simp [intOf]; omega
    · have hq5 : q = 5 := by omega
      subst hq5
      have hcall := Lib.hid (hNum.out wr hB)
      obtain ⟨VA, va, vc, hvf⟩ := own_form hN
      subst hvf
      replace hN := Lib.hid hN
      replace hB := Lib.hid hB
      replace hC1 := Lib.hid hC1
      clear hC2 hNum
      go_wp2_with fail
      refine hcall.out.mono ?_
      rintro e w1 ⟨xn, xl, he, hO, hb⟩
      obtain ⟨A0, n0, c0, B0, m0, d0, rfl, rfl⟩ := hO.forms
      unfold numJ at he hO
      dsimp only at he
      subst he
      have hs1 := hb.size
      have hN1 := ownRow_keep hN.out (fun g hg => by have := hN.out.lt g hg; exact hb.block g this.2)
      have hlN := hN1.lt
      obtain ⟨v6, w4, hrun, hN4, hg4, hv4⟩ := rowN_more hN1 (by omega) lSync (numJ 2) (.slice A0 n0 c0) (.slice B0 m0 d0) rfl rfl (by omega)
      have hs4 := hg4.size
      simp at hs4
      obtain ⟨g6, cap6, rfl, hg6, hg6', hcel⟩ := row_cells hN4 (by omega)
      have hM : Mem5 w4 g6 (capNames ++ [lSync]) [trueJ, trueJ, trueJ, trueJ, trueJ, numJ 2] [(.slice none 0 0, .slice none 0 0, w4.heap.size, w4.heap.size), (.slice none 0 0, .slice none 0 0, w4.heap.size, w4.heap.size), (.slice none 0 0, .slice none 0 0, w4.heap.size, w4.heap.size), (.slice none 0 0, .slice none 0 0, w4.heap.size, w4.heap.size), (.slice none 0 0, .slice none 0 0, w4.heap.size, w4.heap.size), (.slice A0 n0 c0, .slice B0 m0 d0, w4.heap.size, w4.heap.size)] := by
        intro i nm x u h1 h2 h3
        match i with
        | 0 =>
          simp [capNames] at h1 h2 h3
          subst h1
          subst h2
          subst h3
          exact ⟨hcel 0 _ rfl, hcel 1 _ rfl, hcel 2 _ rfl, hcel 3 _ rfl, hcel 4 _ rfl⟩
        | 1 =>
          simp [capNames] at h1 h2 h3
          subst h1
          subst h2
          subst h3
          exact ⟨hcel 5 _ rfl, hcel 6 _ rfl, hcel 7 _ rfl, hcel 8 _ rfl, hcel 9 _ rfl⟩
        | 2 =>
          simp [capNames] at h1 h2 h3
          subst h1
          subst h2
          subst h3
          exact ⟨hcel 10 _ rfl, hcel 11 _ rfl, hcel 12 _ rfl, hcel 13 _ rfl, hcel 14 _ rfl⟩
        | 3 =>
          simp [capNames] at h1 h2 h3
          subst h1
          subst h2
          subst h3
          exact ⟨hcel 15 _ rfl, hcel 16 _ rfl, hcel 17 _ rfl, hcel 18 _ rfl, hcel 19 _ rfl⟩
        | 4 =>
          simp [capNames] at h1 h2 h3
          subst h1
          subst h2
          subst h3
          exact ⟨hcel 20 _ rfl, hcel 21 _ rfl, hcel 22 _ rfl, hcel 23 _ rfl, hcel 24 _ rfl⟩
        | 5 =>
          simp [capNames] at h1 h2 h3
          subst h1
          subst h2
          subst h3
          exact ⟨hcel 25 _ rfl, hcel 26 _ rfl, hcel 27 _ rfl, hcel 28 _ rfl, hcel 29 _ rfl⟩
        | n + 6 => simp at h2
      have hK : KidI w4 w4.heap.size [trueJ, trueJ, trueJ, trueJ, trueJ, numJ 2] [(.slice none 0 0, .slice none 0 0, w4.heap.size, w4.heap.size), (.slice none 0 0, .slice none 0 0, w4.heap.size, w4.heap.size), (.slice none 0 0, .slice none 0 0, w4.heap.size, w4.heap.size), (.slice none 0 0, .slice none 0 0, w4.heap.size, w4.heap.size), (.slice none 0 0, .slice none 0 0, w4.heap.size, w4.heap.size), (.slice A0 n0 c0, .slice B0 m0 d0, w4.heap.size, w4.heap.size)] :=
        ((((((KidI.nil w4 w4.heap.size).cons (Nat.le_refl _) (leaf_move hO)).cons (Nat.le_refl _) (true_own _ _ _)).cons (Nat.le_refl _) (true_own _ _ _)).cons (Nat.le_refl _) (true_own _ _ _)).cons (Nat.le_refl _) (true_own _ _ _)).cons (Nat.le_refl _) (true_own _ _ _)
      have hB1 := hB.out.trans (hb.mono hB.out.size)
      have hBs := hB.out.size
      have hB4 : Below (w.heap.size + 2) w1 w4 := by
        have b2 := (Below.refl (w.heap.size + 2) w1).alloc (by omega) (.cells #[.string lSync, .int .u8 (numJ 2).kind, .string (numJ 2).text, .slice A0 n0 c0, .slice B0 m0 d0] 84)
        exact Below.grown b2 hg4 (by simp; omega) (fun g hg => (hlN g hg).1)
      have hB5 := hB1.trans (hB4.mono (by omega))
      have hC4 := ((hC1.out.below hb hsz).below hB4 (by omega))
      have hcall2 := Lib.hid (lspObject_any _ _ _ w4.heap.size g6 cap6 w4 hM hg6' hK (Nat.le_refl _) rfl (by simp))
      replace hrun := Lib.hid hrun
      replace hB5 := Lib.hid hB5
      replace hC4 := Lib.hid hC4
      clear hcall hO hb hN1 hlN hN4 hg4 hv4 hcel hM hK hB1 hB4 hN hB hC1
      go_wp2_with (at_builtin; refine jl_append_run (by rfl) _ _ 92 92 rfl (.slice VA va vc) (.slice (some ⟨w1.heap.size, 0, none⟩) 1 1) _ rfl rfl hrun.out ?_)
      refine hcall2.out.mono ?_
      rintro e w5 ⟨xn, xl, he, hO, hb⟩
      obtain ⟨EA, ea, ec, EB, eb, ed, rfl, rfl⟩ := hO.forms
      unfold mkO at he
      dsimp only at he
      subst he
      have hs5 := hb.size
      obtain ⟨wx, hwx⟩ : ∃ W, w5.alloc (.cells #[.string ⟨#[99, 97, 112, 97, 98, 105, 108, 105, 116, 105, 101, 115]⟩, .int .u8 7, .string ⟨#[]⟩, .slice EA ea ec, .slice EB eb ed] 84) = W := ⟨_, rfl⟩
      have hbx : Below w5.heap.size w5 wx := by rw [← hwx]; exact (Below.refl _ _).alloc (Nat.le_refl _) _
      have hM : Mem5 wx w5.heap.size [lCapabilities] [capsIn] [(.slice EA ea ec, .slice EB eb ed, w4.heap.size, w5.heap.size)] := by rw [← hwx]; exact mem5_1 w5 lCapabilities capsIn (.slice EA ea ec, .slice EB eb ed, w4.heap.size, w5.heap.size) 84
      have hsx : w5.heap.size < wx.heap.size := by rw [← hwx]; simp
      have hKx := ((KidI.nil w4 w4.heap.size).snoc (Nat.le_refl _) hb hO).later hbx
      simp only [List.nil_append] at hKx
      have hbb := hb.trans (hbx.mono hs5)
      have hcall3 := Lib.hid (lspObject_any _ _ _ w4.heap.size w5.heap.size 1 wx hM hsx hKx (by omega) rfl (by simp))
      have hB6 := Lib.hid (hB5.out.trans (hbb.mono (by omega)))
      have hC6 := Lib.hid (hC4.out.below hbb (by omega))
      replace hwx := Lib.hid hwx
      clear hcall2 hO hb hM hKx hbb hbx hrun
      go_wp2_with fail
      rw [hwx.out]
      refine hcall3.out.mono ?_
      rintro e w9 ⟨xn, xl, he, hO, hb⟩
      obtain ⟨An, nn, cn, Al, nl, cl, rfl, rfl⟩ := hO.forms
      unfold mkO at he
      dsimp only at he
      subst he
      have hs9 := hb.size
      have hr := hC6.out.below hb (by omega)
      have hB9 := Lib.hid (hB6.out.trans (hb.mono (by omega)))
      have hO2 := Lib.hid hO
      obtain ⟨p0, p1, p2, p3⟩ := hr.c4
      have s0 := hr.froz 0
      have s1 := hr.froz 1
      have s2 := hr.froz 2
      have s3 := hr.froz 3
      clear hO hb hcall3 hr hwx
      go_wp2_with fail
      refine bodyPost_ret (v := .agg #[.int .u8 7, .string ⟨#[]⟩, .slice An nn cn, .slice Al nl cl]) (by simp [results, Tryz.results23, go_sem, p0, p1, p2, p3]) rfl ⟨_, _, rfl, ?_, ?_⟩
      · exact OwnJ.keep _ hO2.out (fun b h1 _ => by rw [Below.heap_setCell _ _ _ _ (by simp; omega), Below.heap_setCell _ _ _ _ (by simp; omega), Below.heap_setCell _ _ _ _ (by simp; omega), Below.heap_setCell _ _ _ _ (by simp; omega)]) (by omega) (by simp [World.setCell])
      · exact (((hB9.out.setCell (by simp) _).setCell (by simp) _).setCell (by simp) _).setCell (by simp) _
end Go.Proofs.YtghaoielnphhlaaGreatDoor


/-
  The document's objects: rows that lie in blocks of their own, read only; the walk of rostrumref08.Obj.
-/
namespace Go.Proofs.YtghaoielnphhlaaGreatDoor
open Go.RowKit

/-- How a call ends that hands a value that is only read. -/
def JvEnd (j : Jsn) (w : World) (e : Ending) (w' : World) : Prop := ∃ vn vl, e = .returned (.agg #[.int .u8 j.kind, .string j.text, vn, vl]) ∧ JV w' (fun k => w.heap.size ≤ k) j vn vl ∧ Below w.heap.size w w'
theorem encRow_at : ∀ (zs : List JE) (i : Nat) (z : JE), zs[i]? = some z → ∀ (q : Nat) (v : Value), (encJ z)[q]? = some v → (zs.flatMap encJ)[i * 4 + q]? = some v
  | [], _, _, h, _, _, _ => by simp at h
  | y :: zs, 0, z, h1, q, v, h3 => by
    simp at h1; subst h1
    have hq : q < (encJ y).length := (List.getElem?_eq_some_iff.1 h3).1
    rw [List.flatMap_cons, Nat.zero_mul, Nat.zero_add, List.getElem?_append_left hq]
    exact h3
  | y :: zs, i + 1, z, h1, q, v, h3 => by
    have := encRow_at zs i z (by simpa using h1) q v h3
    rw [List.flatMap_cons, List.getElem?_append_right (by show 4 ≤ _; omega)]
    show (zs.flatMap encJ)[(i + 1) * 4 + q - 4]? = some v
    rw [show (i + 1) * 4 + q - 4 = i * 4 + q by omega]
    exact this
/-- Names and values, each in a block made for them. -/
theorem jv_rows {w : World} {X : Nat → Prop} {k : Int} {s : ByteArray} {ns : List ByteArray} {zs : List JE} {l : List Jsn} {gn gl cn cl : Nat} (hk0 : 0 ≤ k) (hk1 : k ≤ 255) (hXn : X gn) (hXl : X gl) (hN : Cel w gn 9 (ns.map Value.string).toArray) (hz : zs.map (·.1) = l)
    (h2 : ∀ z ∈ zs, JV w X z.1 z.2.1 z.2.2) (hL : Cel w gl 25 (zs.flatMap encJ).toArray) :
    JV w X ⟨k, s, ns, l⟩ (.slice (some ⟨gn, 0, none⟩) ns.length cn) (.slice (some ⟨gl, 0, none⟩) zs.length cl) := by
  refine JV.of_elems hk0 hk1 ⟨_, cn, rfl, fun hp => ⟨gn, 0, rfl, hXn, hN.lt, fun j x hx => ?_⟩⟩ hz h2 fun hp => ⟨gl, 0, rfl, hXl, hL.lt, fun j z hj i u hu => ?_⟩
  · rw [Nat.zero_add, hN.cell, List.getElem?_toArray, List.getElem?_map, hx]; rfl
  · rw [Nat.zero_add, hL.cell, List.getElem?_toArray]; exact encRow_at zs j z hj i u hu
set_option maxHeartbeats 2000000 in
theorem refObj8_any (w : World) (An : Option Addr) (nn cn : Nat) (Al : Option Addr) (nl cl : Nat) :
    Calls Tryz.prog 48 #[.slice An nn cn, .slice Al nl cl] w fun e w' => e = .returned (.agg #[.int .u8 7, .string ⟨#[]⟩, .slice An nn cn, .slice Al nl cl]) ∧ Below w.heap.size w w' := by
  go_enter Tryz.func48, Tryz.ntmps48
  obtain ⟨dj, hd1, hd2⟩ := jsnDesc
  replace hd1 := Lib.hid hd1
  replace hd2 := Lib.hid hd2
  go_wp2
  exact bodyPost_ret (results_cel1 Tryz.results48 _ _ _ _ _ dj rfl (Cel.fresh w 25 _) hd1.out hd2.out jsnInfo) rfl ⟨rfl, (Below.refl _ _).alloc (Nat.le_refl _) _⟩
end Go.Proofs.YtghaoielnphhlaaGreatDoor


/-
  A region that draws its order, by what is known of the operations that came up: shown once for each operation, whatever came up before. No program.
-/
namespace Go.Proofs.YtghaoielnphhlaaGreatDoor

theorem count_set : ∀ (l : List Bool) (i : Nat), l[i]? = some false → (l.set i true).count false + 1 = l.count false
  | [], _, h => by simp at h
  | b :: l, 0, h => by
    simp at h; subst h
    simp
  | b :: l, i + 1, h => by
    have := count_set l i (by simpa using h)
    rw [List.set_cons_succ, List.count_cons, List.count_cons]
    omega
section
variable {P : Program} {ops : Array Oper} {Q : Exit → Act → World → Prop} {md : Region.Mode}
/-- What is known (I) is kept by each operation that may come up; at the end it suffices. -/
theorem wpAny_inv (I : Array Bool → Act → World → Prop) (hstep : ∀ listed a w i, I listed a w → i ∈ Region.ready md ops listed → wpOp P ops Q i (I (listed.setIfInBounds i true)) a w)
    (hend : ∀ listed a w, I listed a w → Region.ready md ops listed = [] → Q .normal a w) :
    ∀ (fuel : Nat) (listed : Array Bool) (a : Act) (w : World), listed.toList.count false ≤ fuel → I listed a w → wpAny P md ops Q fuel listed a w := by
  intro fuel
  induction fuel with
  | zero =>
    intro listed a w hc hI
    have hr : Region.ready md ops listed = [] := by
      rcases h : Region.ready md ops listed with _ | ⟨i, rs⟩
      · rfl
      · exfalso
        have hi : i ∈ Region.ready md ops listed := by rw [h]; exact List.mem_cons_self
        have h1 := (mem_ready.1 hi).1
        have h2 : listed[i]? = some false := by
          rw [Array.getD_eq_getD_getElem?] at h1
          rcases h3 : listed[i]? with _ | b
          · rw [h3] at h1; simp at h1
          · rw [h3] at h1; simp at h1; rw [h1]
        have := count_set listed.toList i (by rw [Array.getElem?_toList]; exact h2)
        omega
    exact ⟨hr, hend listed a w hI hr⟩
  | succ fuel ih =>
    intro listed a w hc hI
    refine ⟨fun hr => hend listed a w hI hr, fun i hi => wpOp_mono (fun a' w' hI' => ih _ a' w' ?_ hI') (hstep listed a w i hI hi)⟩
    have h1 := (mem_ready.1 hi).1
    have h2 : listed[i]? = some false := by
      rw [Array.getD_eq_getD_getElem?] at h1
      rcases h3 : listed[i]? with _ | b
      · rw [h3] at h1; simp at h1
      · rw [h3] at h1; simp at h1; rw [h1]
    have := count_set listed.toList i (by rw [Array.getElem?_toList]; exact h2)
    rw [Array.toList_setIfInBounds]
    omega
/-- A region that draws: from what is known when nothing has come up. -/
theorem wp_region_inv {id : Nat} {a : Act} {w : World} (I : Array Bool → Act → World → Prop) (hm : P.follows .mixedOrders = true) (h0 : I (Array.replicate ops.size false) a w.drew)
    (hstep : ∀ listed a w i, I listed a w → i ∈ Region.ready .any ops listed → wpOp P ops Q i (I (listed.setIfInBounds i true)) a w)
    (hend : ∀ listed a w, I listed a w → Region.ready .any ops listed = [] → Q .normal a w) : (Code.region id ops true).wp P Q a w :=
  wp_region_any hm (wpAny_inv I hstep hend _ _ _ _ (by simp) h0)
end
section
variable {P : Program} {ops : Array Oper} {Q : Exit → Act → World → Prop}
/-- The value of an operation's slot. -/
def valD (d : Option Tmp) (b : Act) : Value := match d with
  | some t => b.tmps.getD t undef
  | none => undef
theorem valD_put {b : Act} {d e : Option Tmp} {v : Value} (h : ∀ t, d = some t → e ≠ some t) : valD d (b.put e v) = valD d b := by
  cases d with
  | none => rfl
  | some t =>
    cases e with
    | none => rfl
    | some u =>
      have hne : u ≠ t := fun q => h t rfl (by rw [q])
      simp [valD, Act.put, Array.getD_eq_getD_getElem?, Array.getElem?_setIfInBounds_ne hne]
theorem valD_self {b : Act} {t : Tmp} {v : Value} (h : t < b.tmps.size) : valD (some t) (b.put (some t) v) = v := by
  simp [valD, Act.put, Array.getD_eq_getD_getElem?, h]
/-- What is known of a region that draws. -/
structure FactI (ops : Array Oper) (a : Act) (S : World → Prop) (Phi : Nat → Value → World → Prop) (listed : Array Bool) (b : Act) (w : World) : Prop where
  s : S w
  defers : b.defers = a.defers
  size : b.tmps.size = a.tmps.size
  lsize : listed.size = ops.size
  frame : ∀ t, (∀ o ∈ ops, o.dst ≠ some t) → b.tmps.getD t undef = a.tmps.getD t undef
  fact : ∀ i o, ops[i]? = some o → listed.getD i false = true → Phi i (valD o.dst b) w
set_option maxHeartbeats 1000000 in
/-- Each operation shown once. -/
theorem wp_region_facts {id : Nat} {a : Act} {w : World} (S : World → Prop) (Keep : Nat → World → World → Prop) (Phi : Nat → Value → World → Prop) (hm : P.follows .mixedOrders = true) (hS0 : S w.drew)
    (hSk : ∀ i w w', S w → Keep i w w' → S w') (hPk : ∀ i j v w w', j ≠ i → Phi j v w → Keep i w w' → Phi j v w')
    (hg : ∀ o ∈ ops, o.guard = none) (hd : ∀ (i j : Nat) (o o' : Oper) (t : Tmp), ops[i]? = some o → ops[j]? = some o' → o.dst = some t → o'.dst = some t → i = j) (hb : ∀ o ∈ ops, ∀ t, o.dst = some t → t < a.tmps.size)
    (hlow : ∀ (i : Nat) (o : Oper), ops[i]? = some o → ∀ e ∈ o.after, e.on < i)
    (hstep : ∀ (i : Nat) (o : Oper), ops[i]? = some o → ∀ (b : Act) (w : World), S w → b.defers = a.defers → (∀ t, (∀ o ∈ ops, o.dst ≠ some t) → b.tmps.getD t undef = a.tmps.getD t undef) →
      (∀ e ∈ o.after, Region.binds .any e = true → ∀ od, ops[e.on]? = some od → Phi e.on (valD od.dst b) w) → ∀ K : Act → World → Prop, (∀ v w', (o.dst = none → v = undef) → Phi i v w' → Keep i w w' → K (b.put o.dst v) w') → Oper.wp P o b w K Q)
    (hend : ∀ (b : Act) (w : World), S w → b.defers = a.defers → b.tmps.size = a.tmps.size → (∀ t, (∀ o ∈ ops, o.dst ≠ some t) → b.tmps.getD t undef = a.tmps.getD t undef) → (∀ (i : Nat) (o : Oper), ops[i]? = some o → Phi i (valD o.dst b) w) → Q .normal b w) :
    (Code.region id ops true).wp P Q a w := by
  refine wp_region_inv (FactI ops a S Phi) hm ⟨hS0, rfl, rfl, by simp, fun _ _ => rfl, fun i o ho hl => ?_⟩ (fun listed b w i hI hi => ?_) (fun listed b w hI hr => ?_)
  · exfalso
    rw [Array.getD_eq_getD_getElem?, Array.getElem?_replicate] at hl
    split at hl <;> simp at hl
  · obtain ⟨hun, o, ho, hall⟩ := mem_ready.1 hi
    have hom : o ∈ ops := Array.mem_of_getElem? ho
    unfold wpOp
    rw [ho]
    dsimp only
    rw [if_pos (by unfold Region.wanted; rw [hg o hom])]
    refine .inl (hstep i o ho b w hI.s hI.defers hI.frame (fun e he hbnd od hod => hI.fact _ od hod (hall e he hbnd)) _ fun v w' hv hP hK => ?_)
    have hil : i < listed.size := by rw [hI.lsize]; exact (Array.getElem?_eq_some_iff.1 ho).1
    refine ⟨hSk _ _ _ hI.s hK, ?_, ?_, by rw [Array.size_setIfInBounds]; exact hI.lsize, fun t ht => ?_, fun j oj hoj hlj => ?_⟩
    · cases o.dst <;> exact hI.defers
    · cases h : o.dst with
      | none => exact hI.size
      | some t => simp [Act.put]; exact hI.size
    · have := valD_put (b := b) (d := some t) (e := o.dst) (v := v) (fun u hu he => ht o hom (by rw [he]; exact hu.symm ▸ rfl))
      exact this.trans (hI.frame t ht)
    · by_cases hji : j = i
      · subst hji
        rw [ho] at hoj
        injection hoj with hoj
        subst hoj
        cases h : o.dst with
        | none => rw [h] at hv; have := hv rfl; subst this; exact hP
        | some t => rw [valD_self (by rw [hI.size]; exact hb o hom t h)]; exact hP
      · rw [valD_put (fun t ht he => hji (hd j i oj o t hoj ho ht he))]
        refine hPk _ _ _ _ _ hji (hI.fact j oj hoj ?_) hK
        rw [Array.getD_eq_getD_getElem?, Array.getElem?_setIfInBounds_ne (Ne.symm hji)] at hlj
        rw [Array.getD_eq_getD_getElem?]
        exact hlj
  · have hall : ∀ n i o, i < n → ops[i]? = some o → listed.getD i false = true := by
      intro n
      induction n with
      | zero => intro i o hi; omega
      | succ n ih =>
        intro i o hi ho
        rcases hl : listed.getD i true with _ | _
        · exfalso
          have hmem : i ∈ Region.ready .any ops listed := mem_ready.2 ⟨hl, o, ho, fun e he _ => by
            have h1 := hlow i o ho e he
            have h2 : i < ops.size := (Array.getElem?_eq_some_iff.1 ho).1
            exact ih e.on _ (by omega) (Array.getElem?_eq_getElem (by omega))⟩
          rw [hr] at hmem
          cases hmem
        · have h2 : i < listed.size := by rw [hI.lsize]; exact (Array.getElem?_eq_some_iff.1 ho).1
          rw [Array.getD_eq_getD_getElem?, Array.getElem?_eq_getElem h2] at hl ⊢
          exact hl
    exact hend b w hI.s hI.defers hI.size hI.frame fun i o ho => hI.fact i o ho (hall (i + 1) i o (by omega) ho)
end
/-- No guards; slots within n, each written once; each waits for earlier ones alone. -/
def tidyB (ops : Array Oper) (n : Nat) : Bool := (List.range ops.size).all fun i => match ops[i]? with
  | some o => o.guard.isNone && (match o.dst with | some t => decide (t < n) | none => true) && o.after.all (fun e => decide (e.on < i)) &&
    (List.range ops.size).all (fun j => match ops[j]? with | some o' => decide (i = j) || (match o.dst, o'.dst with | some t, some u => !decide (t = u) | _, _ => true) | none => true)
  | none => true
theorem tidy_at {ops : Array Oper} {n : Nat} (h : tidyB ops n = true) (i : Nat) (o : Oper) (ho : ops[i]? = some o) :
    o.guard = none ∧ (∀ t, o.dst = some t → t < n) ∧ (∀ e ∈ o.after, e.on < i) ∧ (∀ (j : Nat) (o' : Oper) (t : Tmp), ops[j]? = some o' → o.dst = some t → o'.dst = some t → i = j) := by
  have hi : i < ops.size := (Array.getElem?_eq_some_iff.1 ho).1
  unfold tidyB at h
  rw [List.all_eq_true] at h
  have := h i (List.mem_range.2 hi)
  rw [ho] at this
  simp only [Bool.and_eq_true] at this
  obtain ⟨⟨⟨h1, h2⟩, h3⟩, h4⟩ := this
  refine ⟨by simpa using h1, fun t ht => ?_, fun e he => ?_, fun j o' t hj h5 h6 => ?_⟩
  · rw [ht] at h2; simpa using h2
  · rw [Array.all_eq_true_iff_forall_mem] at h3
    simpa using h3 e he
  · rw [List.all_eq_true] at h4
    have h7 := h4 j (List.mem_range.2 (Array.getElem?_eq_some_iff.1 hj).1)
    rw [hj] at h7
    dsimp only at h7
    rw [h5, h6] at h7
    simpa using h7
/-- The same, with what must hold of the operations' form as one Bool. -/
theorem wp_region_tidy {P : Program} {ops : Array Oper} {Q : Exit → Act → World → Prop} {id : Nat} {a : Act} {w : World} (S : World → Prop) (Keep : Nat → World → World → Prop) (Phi : Nat → Value → World → Prop) (hm : P.follows .mixedOrders = true) (htd : tidyB ops a.tmps.size = true) (hS0 : S w.drew)
    (hSk : ∀ i w w', S w → Keep i w w' → S w') (hPk : ∀ i j v w w', j ≠ i → Phi j v w → Keep i w w' → Phi j v w')
    (hstep : ∀ (i : Nat) (o : Oper), ops[i]? = some o → ∀ (b : Act) (w : World), S w → b.defers = a.defers → (∀ t, (∀ o ∈ ops, o.dst ≠ some t) → b.tmps.getD t undef = a.tmps.getD t undef) →
      (∀ e ∈ o.after, Region.binds .any e = true → ∀ od, ops[e.on]? = some od → Phi e.on (valD od.dst b) w) → ∀ K : Act → World → Prop, (∀ v w', (o.dst = none → v = undef) → Phi i v w' → Keep i w w' → K (b.put o.dst v) w') → Oper.wp P o b w K Q)
    (hend : ∀ (b : Act) (w : World), S w → b.defers = a.defers → b.tmps.size = a.tmps.size → (∀ t, (∀ o ∈ ops, o.dst ≠ some t) → b.tmps.getD t undef = a.tmps.getD t undef) → (∀ (i : Nat) (o : Oper), ops[i]? = some o → Phi i (valD o.dst b) w) → Q .normal b w) :
    (Code.region id ops true).wp P Q a w :=
  wp_region_facts S Keep Phi hm hS0 hSk hPk (fun o ho => by obtain ⟨i, hi⟩ := Array.mem_iff_getElem?.1 ho; exact (tidy_at htd i o hi).1) (fun i j o o' t h1 h2 h3 h4 => (tidy_at htd i o h1).2.2.2 j o' t h2 h3 h4)
    (fun o ho t ht => by obtain ⟨i, hi⟩ := Array.mem_iff_getElem?.1 ho; exact (tidy_at htd i o hi).2.1 t ht) (fun i o ho => (tidy_at htd i o ho).2.2.1) hstep hend
end Go.Proofs.YtghaoielnphhlaaGreatDoor
