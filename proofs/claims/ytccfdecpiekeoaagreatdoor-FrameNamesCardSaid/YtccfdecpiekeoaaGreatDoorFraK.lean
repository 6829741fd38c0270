/-
  The walk of awake: the first example.
-/
import Derived.Test.YtccfdecpiekeoaaGreatDoorFraI
import Derived.Test.YtccfdecpiekeoaaGreatDoorFraJ
import Derived.Laws.StructEq
import Derived.Lib.SmallJoins
namespace Go.Proofs.YtccfdecpiekeoaaGreatDoor
open Go.RowKit

theorem RdAt.mono {w : World} {b : Nat} {h : List UInt8} {k : Bool} {X Y : Nat → Prop} (hR : RdAt w b h k X) (hXY : ∀ j, Y j → X j) : RdAt w b h k Y := by
  obtain ⟨A, c, hC, hY⟩ := hR
  exact ⟨A, c, hC, hY.mono fun j _ hy => hXY j hy⟩
theorem RdAt.alloc {w : World} {b : Nat} {h : List UInt8} {k : Bool} {X : Nat → Prop} (hR : RdAt w b h k X) (o : Obj) : RdAt (w.alloc o) b h k X := by
  obtain ⟨A, c, hC, hY⟩ := hR
  exact ⟨A, c, hC.alloc _, hY.alloc _⟩
theorem RdAt.below {w w' : World} {b : Nat} {h : List UInt8} {k : Bool} {X : Nat → Prop} (hR : RdAt w b h k X) (hB : Below w.heap.size w w') : RdAt w' b h k X := by
  obtain ⟨A, c, hC, hY⟩ := hR
  exact ⟨A, c, hC.below hB hC.lt, hY.below hB⟩
theorem RdAt.lt {w : World} {b : Nat} {h : List UInt8} {k : Bool} {X : Nat → Prop} (hR : RdAt w b h k X) : b < w.heap.size := by
  obtain ⟨A, c, hC, hY⟩ := hR
  exact hC.lt
/-- The bytes of a text that was typed. -/
theorem byt_lit (W : World) (l : List UInt8) (fr : Nat × Nat) (hl : l.length ≤ 1000000) : Byt (W.alloc (.cells (l.map fun u => Value.int .u8 u.toNat).toArray 5 fr)) (some ⟨W.heap.size, 0, none⟩) l.length l (fun _ => False) := by
  refine ⟨Nat.le_refl _, by omega, Or.inr ⟨_, rfl, fun _ => ⟨by simp, fun h => h⟩, fun j u hu => ?_⟩⟩
  have hadd : (⟨W.heap.size, 0, none⟩ : Addr).add j = ⟨W.heap.size, j, none⟩ := by unfold Addr.add; split <;> simp_all
  rw [hadd]
  exact mark_cells W l _ fr j u hu
theorem own_form {w : World} {B t n : Nat} {v : Value} {xs : List Value} (h : w.ownsRow B t 2 v n xs) : ∃ A c, v = .slice A n c := by
  rcases h.2 with ⟨rfl, h0⟩ | ⟨g, cap, cur, rfl, _⟩
  · exact ⟨none, 0, by rw [h0]⟩
  · exact ⟨_, _, rfl⟩
theorem feedEnd_of {b : Nat} {X : Nat → Prop} {r r' : Fin'} {w : World} {e : Ending} {w' : World} (h : FeedEnd b X r w e w') (hr : r = r') : FeedEnd b X r' w e w' := hr ▸ h

def aw1 : List UInt8 := [99, 111, 110, 116, 101, 110, 116, 45, 108, 101, 110, 103, 116, 104, 58, 32, 50, 13, 10, 120, 58, 32, 121, 13, 10, 13]
def aw2 : List UInt8 := [10, 97]
def aw3 : List UInt8 := [98, 99]
theorem aw_run1 : runF ([] ++ aw1) false = ⟨[], aw1, false⟩ := by kernel_rfl
theorem aw_run2 : runF (aw1 ++ aw2) false = ⟨[], aw1 ++ aw2, false⟩ := by kernel_rfl
theorem aw_run3 : runF ((aw1 ++ aw2) ++ aw3) false = ⟨[([97, 98], 0)], [99], false⟩ := by kernel_rfl
theorem aw_write : writeL [97, 98] = ([67, 111, 110, 116, 101, 110, 116, 45, 76, 101, 110, 103, 116, 104, 58, 32, 50, 13, 10, 13, 10, 97, 98], 0) := by kernel_rfl

/-- Feed at a text that was typed. -/
theorem feed_lit (b : Nat) (h l : List UInt8) (k : Bool) (W : World) (r : Fin') (hr : runF (h ++ l) k = r) (hbE : EnvB b) (hE : EnvF W) (hR : RdAt W b h k (fun j => j = b)) (hs : h.length + l.length ≤ 1000000) :
    Calls Tryz.prog 13 #[.pointer (some ⟨b, 0, none⟩), .slice (some ⟨W.heap.size, 0, none⟩) l.length l.length] (W.alloc (.cells (l.map fun u => Value.int .u8 u.toNat).toArray 5 (l.length, l.length + 1)))
      fun e w' => (∃ v B, e = .returned (.tuple #[v, .int .i64 0]) ∧ W.heap.size ≤ B ∧ w'.ownsRow B 42 2 v r.evs.length (evCells r.evs)) ∧ RdAt w' b r.h r.k (fun j => j = b) ∧ EnvF w' ∧ Below b W w' := by
  have hbl := hR.lt
  have hB : Below W.heap.size W (W.alloc (.cells (l.map fun u => Value.int .u8 u.toNat).toArray 5 (l.length, l.length + 1))) := (Below.refl _ _).alloc (Nat.le_refl _) _
  refine (frmFeed_any b h l k (fun j => j = b) (fun _ => False) _ _ _ rfl (fun j hj => by have : j = b := hj; subst this; simp; omega) hbE (hE.below hB) (hR.alloc _) (byt_lit W l _ (by omega)) (by omega)).mono ?_
  rintro e w' ⟨v, B, rfl, h1, h2, h3, h4, h5⟩
  rw [hr] at h3 h4
  have h6 : Below b W w' := (hB.mono (Nat.le_of_lt hbl)).trans (below_of_grown h5 (by simp; omega))
  refine ⟨⟨v, B, rfl, by simp at h1; omega, h3⟩, h4.mono (fun j hj => Or.inl hj), hE.from hbE h6, h6⟩

set_option maxRecDepth 100000 in
set_option maxHeartbeats 2000000 in
theorem awake_any (w : World) (hE : EnvF w) :
    Calls Tryz.prog 9 #[] w fun e w' => e = .returned (.bool true) ∧ Below w.heap.size w w' := by
  have hbE := hE.base
  have hnew := frmNew_any w (fun j => j = w.heap.size)
  obtain ⟨b, hb⟩ : ∃ b, w.heap.size = b := ⟨_, rfl⟩
  rw [hb] at hnew hbE
  replace hnew := Lib.hid hnew
  have hb' := Lib.hid hb
  clear hb
  go_enter Tryz.func9, Tryz.ntmps9
  go_wp2_with fail
  refine hnew.out.mono ?_
  rintro e w1 ⟨rfl, hR1, hB1⟩
  have hE1 : EnvF w1 := hE.from hbE hB1
  have hbl := hR1.lt
  clear hnew hE
  have hfeed := feed_lit b [] aw1 false w1 _ aw_run1 hbE hE1 hR1 (by decide)
  have hcv := conv_const w1 (aw1.map fun u => Value.int .u8 u.toNat).toArray
  replace hfeed := Lib.hid hfeed
  replace hcv := Lib.hid hcv
  replace hB1 := Lib.hid hB1
  clear hR1 hE1
  have hcv2 : ∀ n c, (convert 27 27 (.slice (some ⟨w1.heap.size, 0, none⟩) n c)).run Tryz.prog (w1.alloc (.cells #[.int .u8 99, .int .u8 111, .int .u8 110, .int .u8 116, .int .u8 101, .int .u8 110, .int .u8 116, .int .u8 45, .int .u8 108, .int .u8 101, .int .u8 110, .int .u8 103, .int .u8 116, .int .u8 104, .int .u8 58, .int .u8 32, .int .u8 50, .int .u8 13, .int .u8 10, .int .u8 120, .int .u8 58, .int .u8 32, .int .u8 121, .int .u8 13, .int .u8 10, .int .u8 13] 5)) = .ok (.slice (some ⟨w1.heap.size, 0, none⟩) n c) (w1.alloc (.cells #[.int .u8 99, .int .u8 111, .int .u8 110, .int .u8 116, .int .u8 101, .int .u8 110, .int .u8 116, .int .u8 45, .int .u8 108, .int .u8 101, .int .u8 110, .int .u8 103, .int .u8 116, .int .u8 104, .int .u8 58, .int .u8 32, .int .u8 50, .int .u8 13, .int .u8 10, .int .u8 120, .int .u8 58, .int .u8 32, .int .u8 121, .int .u8 13, .int .u8 10, .int .u8 13] 5 (26, 27))) := hcv.out
  go_wp2_with fail
  refine hfeed.out.mono ?_
  rintro e w2 ⟨⟨v1, BB, rfl, _, ho1⟩, hR2, hE2, hB2⟩
  obtain ⟨A1, c1, rfl⟩ := own_form ho1
  dsimp only at hR2 ⊢
  clear ho1 hfeed hcv hcv2
  have hfeed := feed_lit b aw1 aw2 false w2 _ aw_run2 hbE hE2 hR2 (by decide)
  have hcv := conv_const w2 #[.int .u8 10, .int .u8 97]
  have hBb := hB1.out.trans hB2
  clear hR2 hE2 hB2 hB1
  replace hBb := Lib.hid hBb
  replace hfeed := Lib.hid hfeed
  go_wp2_with fail
  refine hfeed.out.mono ?_
  rintro e w3 ⟨⟨v2, BB2, rfl, _, ho2⟩, hR3, hE3, hB3⟩
  obtain ⟨A2, c2, rfl⟩ := own_form ho2
  dsimp only at hR3 ⊢
  clear ho2 hfeed hcv
  have hfeed := feed_lit b (aw1 ++ aw2) aw3 false w3 _ aw_run3 hbE hE3 hR3 (by decide)
  have hcv := conv_const w3 #[.int .u8 98, .int .u8 99]
  replace hBb := hBb.out.trans hB3
  clear hR3 hE3 hB3
  replace hBb := Lib.hid hBb
  replace hfeed := Lib.hid hfeed
  go_wp2_with fail
  refine hfeed.out.mono ?_
  rintro e w4 ⟨⟨v3, BB3, rfl, _, ho3⟩, hR4, hE4, hB4⟩
  obtain ⟨g, cap, rfl⟩ := Go.Joins.ownsRow_form ho3 (by decide)
  have hc0 : w4.cell? ⟨g, 0, none⟩ = some (.string ⟨#[97, 98]⟩) := ho3.cells (g := g) rfl 0 _ rfl
  have hc1 : w4.cell? ⟨g, 1, none⟩ = some (.int .i64 0) := ho3.cells (g := g) rfl 1 _ rfl
  have hgl := World.block_lt_of_cell? w4 _ hc0
  have hwr := frmWrite_any ⟨#[97, 98]⟩ w4 hE4 (by decide)
  rw [show (⟨#[97, 98]⟩ : ByteArray).data.toList = [97, 98] from rfl, aw_write] at hwr
  replace hBb := hBb.out.trans hB4
  clear hR4 hE4 hB4 hfeed hcv ho3
  replace hBb := Lib.hid hBb
  replace hwr := Lib.hid hwr
  dsimp only
  go_wp2_with fail
  refine hwr.out.mono ?_
  rintro e w5 ⟨rfl, hB5⟩
  have hd0 : w5.cell? ⟨g, 0, none⟩ = some (.string ⟨#[97, 98]⟩) := (hB5.cell hgl).trans hc0
  have hd1 : w5.cell? ⟨g, 1, none⟩ = some (.int .i64 0) := (hB5.cell (p := ⟨g, 1, none⟩) hgl).trans hc1
  have hbw : b ≤ w4.heap.size := by have := hBb.out.size; have := hb'.out; omega
  replace hBb := hBb.out.trans (hB5.mono hbw)
  clear hc0 hc1 hgl hwr hB5
  replace hBb := Lib.hid hBb
  dsimp only
  go_wp2_with fail
  go_ret
  exact ⟨rfl, by rw [hb'.out]; exact hBb.out⟩
end Go.Proofs.YtccfdecpiekeoaaGreatDoor
