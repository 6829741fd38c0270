/-
  The walk of rostrumlaw07's works: the examples are as they are told.
-/
import Derived.Test.YtdjfoabinjfnfaaGreatDoorM38
import Derived.Test.YtdjfoabinjfnfaaGreatDoorM39
namespace Go.Proofs.YtdjfoabinjfnfaaGreatDoor
open Go.RowKit
def msgA : Msg := ⟨1, ⟨4, ⟨#[49]⟩, [], []⟩, ⟨#[109]⟩, ⟨6, ⟨#[]⟩, [], []⟩, ⟨0, ⟨#[]⟩, [], []⟩, 0, ⟨#[]⟩⟩
def msgB : Msg := ⟨2, ⟨0, ⟨#[]⟩, [], []⟩, ⟨#[109]⟩, ⟨0, ⟨#[]⟩, [], []⟩, ⟨0, ⟨#[]⟩, [], []⟩, 0, ⟨#[]⟩⟩
def msgC : Msg := ⟨4, ⟨1, ⟨#[]⟩, [], []⟩, ⟨#[]⟩, ⟨0, ⟨#[]⟩, [], []⟩, ⟨0, ⟨#[]⟩, [], []⟩, -32700, ⟨#[120]⟩⟩
def jsnA : Jsn := ⟨7, ⟨#[]⟩, [kVer, kId, kMeth, kPar], [⟨5, ⟨#[50, 46, 48]⟩, [], []⟩, ⟨4, ⟨#[49]⟩, [], []⟩, ⟨5, ⟨#[109]⟩, [], []⟩, ⟨6, ⟨#[]⟩, [], []⟩]⟩
def jsnB : Jsn := ⟨7, ⟨#[]⟩, [kVer, kMeth], [⟨5, ⟨#[50, 46, 48]⟩, [], []⟩, ⟨5, ⟨#[109]⟩, [], []⟩]⟩
def jsnC : Jsn := ⟨7, ⟨#[]⟩, [kVer, kId, kErr], [⟨5, ⟨#[50, 46, 48]⟩, [], []⟩, ⟨1, ⟨#[]⟩, [], []⟩, ⟨7, ⟨#[]⟩, [kCode, kMsg], [⟨4, ⟨#[45, 51, 50, 55, 101, 50]⟩, [], []⟩, ⟨5, ⟨#[120]⟩, [], []⟩]⟩]⟩
theorem exA : jparse ownL Lib.validD (⟨#[123, 34, 106, 115, 111, 110, 114, 112, 99, 34, 58, 34, 50, 46, 48, 34, 44, 34, 105, 100, 34, 58, 49, 44, 34, 109, 101, 116, 104, 111, 100, 34, 58, 34, 109, 34, 44, 34, 112, 97, 114, 97, 109, 115, 34, 58, 91, 93, 125]⟩ : ByteArray).data.toList = .ok jsnA := by kernel_rfl
theorem exB : jparse ownL Lib.validD (⟨#[123, 34, 106, 115, 111, 110, 114, 112, 99, 34, 58, 34, 50, 46, 48, 34, 44, 34, 109, 101, 116, 104, 111, 100, 34, 58, 34, 109, 34, 125]⟩ : ByteArray).data.toList = .ok jsnB := by kernel_rfl
theorem exC : jparse ownL Lib.validD (⟨#[123, 34, 106, 115, 111, 110, 114, 112, 99, 34, 58, 34, 50, 46, 48, 34, 44, 34, 105, 100, 34, 58, 110, 117, 108, 108, 44, 34, 101, 114, 114, 111, 114, 34, 58, 123, 34, 99, 111, 100, 101, 34, 58, 45, 51, 50, 55, 48, 48, 44, 34, 109, 101, 115, 115, 97, 103, 101, 34, 58, 34, 120, 34, 125, 125]⟩ : ByteArray).data.toList = .ok jsnC := by kernel_rfl
theorem rdA : jread ownL Lib.validD jsnA = (msgA, 0) := by
  unfold jread
  rw [if_neg (by rw [jparse_check own_own exA]; simp)]
  kernel_rfl
theorem rdB : jread ownL Lib.validD jsnB = (msgB, 0) := by
  unfold jread
  rw [if_neg (by rw [jparse_check own_own exB]; simp)]
  kernel_rfl
theorem rdC : jread ownL Lib.validD jsnC = (msgC, 0) := by
  unfold jread
  rw [if_neg (by rw [jparse_check own_own exC]; simp)]
  kernel_rfl
theorem jrd1_eq : jrd (⟨#[123, 34, 106, 115, 111, 110, 114, 112, 99, 34, 58, 34, 50, 46, 48, 34, 44, 34, 105, 100, 34, 58, 49, 44, 34, 109, 101, 116, 104, 111, 100, 34, 58, 34, 109, 34, 44, 34, 112, 97, 114, 97, 109, 115, 34, 58, 91, 93, 125]⟩ : ByteArray).data.toList = (msgA, 0) := by unfold jrd; rw [exA]; exact rdA
theorem jrd2_eq : jrd (⟨#[123, 34, 106, 115, 111, 110, 114, 112, 99, 34, 58, 34, 50, 46, 48, 34, 44, 34, 109, 101, 116, 104, 111, 100, 34, 58, 34, 109, 34, 125]⟩ : ByteArray).data.toList = (msgB, 0) := by unfold jrd; rw [exB]; exact rdB
theorem jrd3_eq : jrd (⟨#[123, 34, 106, 115, 111, 110, 114, 112, 99, 34, 58, 34, 50, 46, 48, 34, 44, 34, 105, 100, 34, 58, 110, 117, 108, 108, 44, 34, 101, 114, 114, 111, 114, 34, 58, 123, 34, 99, 111, 100, 101, 34, 58, 45, 51, 50, 55, 48, 48, 44, 34, 109, 101, 115, 115, 97, 103, 101, 34, 58, 34, 120, 34, 125, 125]⟩ : ByteArray).data.toList = (msgC, 0) := by unfold jrd; rw [exC]; exact rdC
theorem kind_some {x : Jsn} (h : x.kind ≠ 0) : jsame x zeroJ = false := by
  cases hj : jsame x zeroJ
  · rfl
  · rw [same_zero hj] at h; exact absurd rfl h
theorem putJ_more {o x : Jsn} {nm : ByteArray} (h : x.kind ≠ 0) : putJ o nm x = ⟨o.kind, o.text, o.names ++ [nm], o.list ++ [x]⟩ := by unfold putJ; rw [if_neg (by rw [kind_some h]; simp)]
theorem putJ_zero (o : Jsn) (nm : ByteArray) : putJ o nm ⟨0, ⟨#[]⟩, [], []⟩ = o := by unfold putJ; exact if_pos zero_same
theorem envA : menv msgA = jsnA := by
  unfold menv resJ askJ headJ msgA
  dsimp only
  rw [if_neg (by decide), if_pos (by decide), putJ_zero, putJ_more (x := verJ) (by show (5 : Int) ≠ 0; decide), putJ_more (x := ⟨4, ⟨#[49]⟩, [], []⟩) (by show (4 : Int) ≠ 0; decide), putJ_more (x := strJ ⟨#[109]⟩) (by show (5 : Int) ≠ 0; decide), putJ_more (x := ⟨6, ⟨#[]⟩, [], []⟩) (by show (6 : Int) ≠ 0; decide)]
  rfl
theorem bkA : jbulk jsnA ≤ 1000 := by
  unfold jsnA
  simp only [jbulk_eq, jbulks, List.map_cons, List.map_nil]
  decide +kernel
theorem jwA_eq : jwrite ownL Lib.validD ⟨1, ⟨4, ⟨#[49]⟩, [], []⟩, ⟨#[109]⟩, ⟨6, ⟨#[]⟩, [], []⟩, ⟨0, ⟨#[]⟩, [], []⟩, 0, ⟨#[]⟩⟩ = (menv ⟨1, ⟨4, ⟨#[49]⟩, [], []⟩, ⟨#[109]⟩, ⟨6, ⟨#[]⟩, [], []⟩, ⟨0, ⟨#[]⟩, [], []⟩, 0, ⟨#[]⟩⟩, 0) := by
  have h := read_back (j := jsnA) (by have := bkA; omega) (by rw [rdA])
  rw [rdA] at h
  exact h.1.2.2.2.1
theorem txA : jtext jsnA = [123, 34, 106, 115, 111, 110, 114, 112, 99, 34, 58, 34, 50, 46, 48, 34, 44, 34, 105, 100, 34, 58, 49, 44, 34, 109, 101, 116, 104, 111, 100, 34, 58, 34, 109, 34, 44, 34, 112, 97, 114, 97, 109, 115, 34, 58, 91, 93, 125] := by
  unfold jsnA
  simp only [jtext_eq, List.map_cons, List.map_nil]
  kernel_rfl
theorem jpA_eq : jprint ownL Lib.validD (menv ⟨1, ⟨4, ⟨#[49]⟩, [], []⟩, ⟨#[109]⟩, ⟨6, ⟨#[]⟩, [], []⟩, ⟨0, ⟨#[]⟩, [], []⟩, 0, ⟨#[]⟩⟩) = ([123, 34, 106, 115, 111, 110, 114, 112, 99, 34, 58, 34, 50, 46, 48, 34, 44, 34, 105, 100, 34, 58, 49, 44, 34, 109, 101, 116, 104, 111, 100, 34, 58, 34, 109, 34, 44, 34, 112, 97, 114, 97, 109, 115, 34, 58, 91, 93, 125], 0) := by
  have e : menv ⟨1, ⟨4, ⟨#[49]⟩, [], []⟩, ⟨#[109]⟩, ⟨6, ⟨#[]⟩, [], []⟩, ⟨0, ⟨#[]⟩, [], []⟩, 0, ⟨#[]⟩⟩ = jsnA := envA
  unfold jprint
  rw [e, jparse_check own_own exA, txA, if_neg (by decide), if_neg (by decide +kernel)]
theorem jbA : jbulk (menv ⟨1, ⟨4, ⟨#[49]⟩, [], []⟩, ⟨#[109]⟩, ⟨6, ⟨#[]⟩, [], []⟩, ⟨0, ⟨#[]⟩, [], []⟩, 0, ⟨#[]⟩⟩) ≤ 1000 := by
  have e : menv ⟨1, ⟨4, ⟨#[49]⟩, [], []⟩, ⟨#[109]⟩, ⟨6, ⟨#[]⟩, [], []⟩, ⟨0, ⟨#[]⟩, [], []⟩, 0, ⟨#[]⟩⟩ = jsnA := envA
  rw [e]; exact bkA
set_option maxRecDepth 100000 in
set_option maxHeartbeats 8000000 in
theorem works7_any (w : World) (hE : EnvC w) : Calls Tryz.prog 39 #[] w fun e w' => e = .returned (.bool true) ∧ Below w.heap.size w w' := by
  have h7 := Lib.hid (fun (s : ByteArray) (W : World) (hB : Below w.heap.size w W) (hs : s.size ≤ 4000) => read7_any s W (hE.below hB) hs)
  have hEl := Lib.hid (fun (W : World) (hB : Below w.heap.size w W) => hE.below hB)
  have hB := Lib.hid (Below.refl w.heap.size w)
  obtain ⟨dm, hdm⟩ := msgDesc
  replace hdm := Lib.hid hdm
  clear hE
  go_enter Tryz.func39, Tryz.ntmps39
  go_wp2_with fail
  refine (h7.out ⟨#[123, 34, 106, 115, 111, 110, 114, 112, 99, 34, 58, 34, 50, 46, 48, 34, 44, 34, 105, 100, 34, 58, 49, 44, 34, 109, 101, 116, 104, 111, 100, 34, 58, 34, 109, 34, 44, 34, 112, 97, 114, 97, 109, 115, 34, 58, 91, 93, 125]⟩ _ hB.out (by decide)).mono ?_
  intro e w1 hz
  obtain ⟨x1, x2, p1, p2, r1, r2, he, hM, hb⟩ := hz
  rw [jrd1_eq] at he hM
  dsimp only at he hM
  unfold msgA at he hM
  obtain ⟨xA1, xa1, xb1, xB1, xc1, xd1, rfl, rfl⟩ := hM.1.forms
  obtain ⟨pA1, pa1, pb1, pB1, pc1, pd1, rfl, rfl⟩ := hM.2.1.forms
  obtain ⟨rA1, ra1, rb1, rB1, rc1, rd1, rfl, rfl⟩ := hM.2.2.forms
  unfold msgV at he
  dsimp only at he
  subst he
  go_upto_region 2 with ((with_reducible refine wpl ?_); refine wpList_store_cel rfl 73 (.tmp 1) (.tmp 13) (by rfl) w1.heap.size 0 #[.int .u8 1, .int .u8 4, .string ⟨#[49]⟩, .slice xA1 xa1 xb1, .slice xB1 xc1 xd1, .string ⟨#[109]⟩, .int .u8 6, .string ⟨#[]⟩, .slice pA1 pa1 pb1, .slice pB1 pc1 pd1, .int .u8 0, .string ⟨#[]⟩, .slice rA1 ra1 rb1, .slice rB1 rc1 rd1, .int .i64 0, .string ⟨#[]⟩] _ #[.int .u8 1, .int .u8 4, .string ⟨#[49]⟩, .slice xA1 xa1 xb1, .slice xB1 xc1 xd1, .string ⟨#[109]⟩, .int .u8 6, .string ⟨#[]⟩, .slice pA1 pa1 pb1, .slice pB1 pc1 pd1, .int .u8 0, .string ⟨#[]⟩, .slice rA1 ra1 rb1, .slice rB1 rc1 rd1, .int .i64 0, .string ⟨#[]⟩] 73 (by rfl) (by rfl) (Cel.fresh w1 73 _) (Nat.le_refl 16) (putA_whole _ _ rfl) msgInfo (by first | (simp; done) | (simp [Value.oneCell']; done)) ?_; intro V1 hc1 hA1; replace hc1 := Lib.hid hc1; replace hA1 := Lib.hid hA1)
  have hx : Below w1.heap.size w1 V1 := ((Below.refl _ _).alloc (Nat.le_refl _) _).trans (hA1.out.1 _ (Nat.le_refl _))
  have hMa := Lib.hid (hM.later hx)
  replace hB := Lib.hid ((hB.out.trans (hb.mono hB.out.size)).trans (hx.mono (by have := hB.out.size; have := hb.size; omega)))
  clear hx hA1 hb hM
  go_wp2_with fail
  refine (h7.out ⟨#[123, 34, 106, 115, 111, 110, 114, 112, 99, 34, 58, 34, 50, 46, 48, 34, 44, 34, 109, 101, 116, 104, 111, 100, 34, 58, 34, 109, 34, 125]⟩ _ hB.out (by decide)).mono ?_
  intro e w2 hz
  obtain ⟨x1, x2, p1, p2, r1, r2, he, hM, hb⟩ := hz
  rw [jrd2_eq] at he hM
  dsimp only at he hM
  unfold msgB at he hM
  obtain ⟨xA2, xa2, xb2, xB2, xc2, xd2, rfl, rfl⟩ := hM.1.forms
  obtain ⟨pA2, pa2, pb2, pB2, pc2, pd2, rfl, rfl⟩ := hM.2.1.forms
  obtain ⟨rA2, ra2, rb2, rB2, rc2, rd2, rfl, rfl⟩ := hM.2.2.forms
  unfold msgV at he
  dsimp only at he
  subst he
  go_upto_region 3 with ((with_reducible refine wpl ?_); refine wpList_store_cel rfl 73 (.tmp 3) (.tmp 17) (by rfl) w2.heap.size 0 #[.int .u8 2, .int .u8 0, .string ⟨#[]⟩, .slice xA2 xa2 xb2, .slice xB2 xc2 xd2, .string ⟨#[109]⟩, .int .u8 0, .string ⟨#[]⟩, .slice pA2 pa2 pb2, .slice pB2 pc2 pd2, .int .u8 0, .string ⟨#[]⟩, .slice rA2 ra2 rb2, .slice rB2 rc2 rd2, .int .i64 0, .string ⟨#[]⟩] _ #[.int .u8 2, .int .u8 0, .string ⟨#[]⟩, .slice xA2 xa2 xb2, .slice xB2 xc2 xd2, .string ⟨#[109]⟩, .int .u8 0, .string ⟨#[]⟩, .slice pA2 pa2 pb2, .slice pB2 pc2 pd2, .int .u8 0, .string ⟨#[]⟩, .slice rA2 ra2 rb2, .slice rB2 rc2 rd2, .int .i64 0, .string ⟨#[]⟩] 73 (by rfl) (by rfl) (Cel.fresh w2 73 _) (Nat.le_refl 16) (putA_whole _ _ rfl) msgInfo (by first | (simp; done) | (simp [Value.oneCell']; done)) ?_; intro V2 hc2 hA2; replace hc2 := Lib.hid hc2; replace hA2 := Lib.hid hA2)
  have hx : Below w2.heap.size w2 V2 := ((Below.refl _ _).alloc (Nat.le_refl _) _).trans (hA2.out.1 _ (Nat.le_refl _))
  replace hc1 := Lib.hid ((hc1.out.below hb hc1.out.lt).below hx (by have := hc1.out.lt; have := hb.size; omega))
  replace hMa := Lib.hid ((hMa.out.later hb).later hx)
  replace hB := Lib.hid ((hB.out.trans (hb.mono hB.out.size)).trans (hx.mono (by have := hB.out.size; have := hb.size; omega)))
  clear hx hA2 hb hM
  go_wp2_with fail
  refine (h7.out ⟨#[123, 34, 106, 115, 111, 110, 114, 112, 99, 34, 58, 34, 50, 46, 48, 34, 44, 34, 105, 100, 34, 58, 110, 117, 108, 108, 44, 34, 101, 114, 114, 111, 114, 34, 58, 123, 34, 99, 111, 100, 101, 34, 58, 45, 51, 50, 55, 48, 48, 44, 34, 109, 101, 115, 115, 97, 103, 101, 34, 58, 34, 120, 34, 125, 125]⟩ _ hB.out (by decide)).mono ?_
  intro e w3 hz
  obtain ⟨x1, x2, p1, p2, r1, r2, he, hM, hb⟩ := hz
  rw [jrd3_eq] at he hM
  dsimp only at he hM
  unfold msgC at he hM
  obtain ⟨xA3, xa3, xb3, xB3, xc3, xd3, rfl, rfl⟩ := hM.1.forms
  obtain ⟨pA3, pa3, pb3, pB3, pc3, pd3, rfl, rfl⟩ := hM.2.1.forms
  obtain ⟨rA3, ra3, rb3, rB3, rc3, rd3, rfl, rfl⟩ := hM.2.2.forms
  unfold msgV at he
  dsimp only at he
  subst he
  go_upto_region 4 with ((with_reducible refine wpl ?_); refine wpList_store_cel rfl 73 (.tmp 5) (.tmp 21) (by rfl) w3.heap.size 0 #[.int .u8 4, .int .u8 1, .string ⟨#[]⟩, .slice xA3 xa3 xb3, .slice xB3 xc3 xd3, .string ⟨#[]⟩, .int .u8 0, .string ⟨#[]⟩, .slice pA3 pa3 pb3, .slice pB3 pc3 pd3, .int .u8 0, .string ⟨#[]⟩, .slice rA3 ra3 rb3, .slice rB3 rc3 rd3, .int .i64 (-32700), .string ⟨#[120]⟩] _ #[.int .u8 4, .int .u8 1, .string ⟨#[]⟩, .slice xA3 xa3 xb3, .slice xB3 xc3 xd3, .string ⟨#[]⟩, .int .u8 0, .string ⟨#[]⟩, .slice pA3 pa3 pb3, .slice pB3 pc3 pd3, .int .u8 0, .string ⟨#[]⟩, .slice rA3 ra3 rb3, .slice rB3 rc3 rd3, .int .i64 (-32700), .string ⟨#[120]⟩] 73 (by rfl) (by rfl) (Cel.fresh w3 73 _) (Nat.le_refl 16) (putA_whole _ _ rfl) msgInfo (by first | (simp; done) | (simp [Value.oneCell']; done)) ?_; intro V3 hc3 hA3; replace hc3 := Lib.hid hc3; replace hA3 := Lib.hid hA3)
  have hx : Below w3.heap.size w3 V3 := ((Below.refl _ _).alloc (Nat.le_refl _) _).trans (hA3.out.1 _ (Nat.le_refl _))
  replace hc1 := Lib.hid ((hc1.out.below hb hc1.out.lt).below hx (by have := hc1.out.lt; have := hb.size; omega))
  replace hc2 := Lib.hid ((hc2.out.below hb hc2.out.lt).below hx (by have := hc2.out.lt; have := hb.size; omega))
  replace hMa := Lib.hid ((hMa.out.later hb).later hx)
  replace hB := Lib.hid ((hB.out.trans (hb.mono hB.out.size)).trans (hx.mono (by have := hB.out.size; have := hb.size; omega)))
  clear hx hA3 hb hM
  have hWr := rpcWrite1_any ⟨4, ⟨#[49]⟩, [], []⟩ ⟨6, ⟨#[]⟩, [], []⟩ ⟨0, ⟨#[]⟩, [], []⟩ ⟨#[109]⟩ ⟨#[]⟩ 0 _ V3 _ _ _ _ _ _ (hEl.out _ hB.out).1 hMa.out.1 hMa.out.2.1 hMa.out.2.2 (by rw [jbulk_eq]; decide +kernel) (by rw [jbulk_eq]; decide +kernel) (by rw [jbulk_eq]; decide +kernel) (by decide) (by decide) (by decide) (by decide)
  rw [jwA_eq] at hWr
  replace hWr := Lib.hid hWr
  go_wp2_with ((with_reducible refine wpl ?_); refine wpList_load_all rfl 73 (.tmp 1) (by rfl) w1.heap.size _ 73 dm (by rfl) hc1.out hdm.out.1 hdm.out.2 msgInfo ?_)
  refine hWr.out.mono ?_
  intro e w4 hz
  obtain ⟨vn, vl, he, hO, hb⟩ := hz
  obtain ⟨eA, ea, eb, eB, ec, ed, rfl, rfl⟩ := hO.forms
  obtain ⟨E, hEE⟩ : ∃ E, menv ⟨1, ⟨4, ⟨#[49]⟩, [], []⟩, ⟨#[109]⟩, ⟨6, ⟨#[]⟩, [], []⟩, ⟨0, ⟨#[]⟩, [], []⟩, 0, ⟨#[]⟩⟩ = E := ⟨_, rfl⟩
  have hpr := jpA_eq
  have hbu := jbA
  rw [hEE] at he hO hpr hbu
  unfold jvV at he
  subst he
  obtain ⟨W4, hW4⟩ : ∃ W, w4.alloc (.cells #[.int .u8 E.kind, .string E.text, .slice eA ea eb, .slice eB ec ed] 25) = W := ⟨_, rfl⟩
  have hx : Below w4.heap.size w4 W4 := by rw [← hW4]; exact (Below.refl _ _).alloc (Nat.le_refl _) _
  have hce : Cel W4 w4.heap.size 25 #[.int .u8 E.kind, .string E.text, .slice eA ea eb, .slice eB ec ed] := by rw [← hW4]; exact Cel.fresh _ _ _
  have hy := hb.trans (hx.mono hb.size)
  have hO4 := OwnJ.keep (w' := W4) E hO (fun k _ hk => hx.block k hk) (Nat.le_refl _) (Nat.le_refl _)
  replace hc1 := Lib.hid (hc1.out.below hy hc1.out.lt)
  replace hc2 := Lib.hid (hc2.out.below hy hc2.out.lt)
  replace hc3 := Lib.hid (hc3.out.below hy hc3.out.lt)
  replace hB := Lib.hid (hB.out.trans (hy.mono hB.out.size))
  have hPr := jsnPrint_any E _ W4 _ _ (hEl.out _ hB.out).1 (OwnJ.jv E hO4) (by omega)
  rw [hpr] at hPr
  have hPr : Calls Tryz.prog 34 #[.agg #[.int .u8 E.kind, .string E.text, .slice eA ea eb, .slice eB ec ed]] W4 fun e w' => e = .returned (.tuple #[.string ⟨#[123, 34, 106, 115, 111, 110, 114, 112, 99, 34, 58, 34, 50, 46, 48, 34, 44, 34, 105, 100, 34, 58, 49, 44, 34, 109, 101, 116, 104, 111, 100, 34, 58, 34, 109, 34, 44, 34, 112, 97, 114, 97, 109, 115, 34, 58, 91, 93, 125]⟩, .int .i64 0]) ∧ Below W4.heap.size W4 w' := hPr
  replace hPr := Lib.hid hPr
  replace hW4 := Lib.hid hW4
  obtain ⟨q0, q1, q2, q3⟩ := hce.c4
  clear hx hy hb hO hO4 hWr hpr hbu hEE hEl h7 hMa hce
  go_upto_region 5 with fail
  rw [hW4.out]
  clear hW4
  go_wp2_with fail
  refine hPr.out.mono ?_
  rintro e w5 ⟨rfl, hb⟩
  replace hc1 := Lib.hid (hc1.out.below hb hc1.out.lt)
  replace hc2 := Lib.hid (hc2.out.below hb hc2.out.lt)
  replace hc3 := Lib.hid (hc3.out.below hb hc3.out.lt)
  replace hB := Lib.hid (hB.out.trans (hb.mono hB.out.size))
  clear q0 q1 q2 q3 hb hPr
  obtain ⟨c1_0, c1_1, c1_2, c1_3, c1_4, c1_5, c1_6, c1_7, c1_8, c1_9, c1_10, c1_11, c1_12, c1_13, c1_14, c1_15⟩ := hc1.out.c16
  obtain ⟨c2_0, c2_1, c2_2, c2_3, c2_4, c2_5, c2_6, c2_7, c2_8, c2_9, c2_10, c2_11, c2_12, c2_13, c2_14, c2_15⟩ := hc2.out.c16
  obtain ⟨c3_0, c3_1, c3_2, c3_3, c3_4, c3_5, c3_6, c3_7, c3_8, c3_9, c3_10, c3_11, c3_12, c3_13, c3_14, c3_15⟩ := hc3.out.c16
  go_wp2_with fail
  go_ret
  exact ⟨rfl, hB.out⟩
end Go.Proofs.YtdjfoabinjfnfaaGreatDoor
