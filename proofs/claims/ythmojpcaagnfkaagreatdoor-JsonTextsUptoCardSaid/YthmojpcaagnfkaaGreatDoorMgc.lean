/-
  The quick machine for the kernel: slots as a tree of 16 by 16; dispatchers with closed arms. No program.
-/
import Derived.Test.YthmojpcaagnfkaaGreatDoorMgb
namespace Go.Proofs.YthmojpcaagnfkaaGreatDoor
open Go.RowKit

inductive S1 where
  | mk (a0 a1 a2 a3 a4 a5 a6 a7 a8 a9 a10 a11 a12 a13 a14 a15 : AV)
inductive SL where
  | mk (a0 a1 a2 a3 a4 a5 a6 a7 a8 a9 a10 a11 a12 a13 a14 : S1) (o : Nat → AV)
inductive RZ where
  | code (e : Ex) (t : SL) (s : AS)
  | val (v : AV) (s : AS)
abbrev RR := Option RZ
noncomputable def S1.nil : S1 := .mk .top .top .top .top .top .top .top .top .top .top .top .top .top .top .top .top
noncomputable def S1.g0 (t : S1) : AV := S1.rec (motive := fun _ => AV) (fun a0 _ _ _ _ _ _ _ _ _ _ _ _ _ _ _ => a0) t
noncomputable def S1.w0 (v : AV) (t : S1) : S1 := S1.rec (motive := fun _ => S1) (fun _ a1 a2 a3 a4 a5 a6 a7 a8 a9 a10 a11 a12 a13 a14 a15 => .mk v a1 a2 a3 a4 a5 a6 a7 a8 a9 a10 a11 a12 a13 a14 a15) t
noncomputable def S1.p0 (v : AV) (t : S1) (K : S1 → RR) : RR := S1.rec (motive := fun _ => RR) (fun _ a1 a2 a3 a4 a5 a6 a7 a8 a9 a10 a11 a12 a13 a14 a15 => K (.mk v a1 a2 a3 a4 a5 a6 a7 a8 a9 a10 a11 a12 a13 a14 a15)) t
noncomputable def S1.g1 (t : S1) : AV := S1.rec (motive := fun _ => AV) (fun _ a1 _ _ _ _ _ _ _ _ _ _ _ _ _ _ => a1) t
noncomputable def S1.w1 (v : AV) (t : S1) : S1 := S1.rec (motive := fun _ => S1) (fun a0 _ a2 a3 a4 a5 a6 a7 a8 a9 a10 a11 a12 a13 a14 a15 => .mk a0 v a2 a3 a4 a5 a6 a7 a8 a9 a10 a11 a12 a13 a14 a15) t
noncomputable def S1.p1 (v : AV) (t : S1) (K : S1 → RR) : RR := S1.rec (motive := fun _ => RR) (fun a0 _ a2 a3 a4 a5 a6 a7 a8 a9 a10 a11 a12 a13 a14 a15 => K (.mk a0 v a2 a3 a4 a5 a6 a7 a8 a9 a10 a11 a12 a13 a14 a15)) t
noncomputable def S1.g2 (t : S1) : AV := S1.rec (motive := fun _ => AV) (fun _ _ a2 _ _ _ _ _ _ _ _ _ _ _ _ _ => a2) t
noncomputable def S1.w2 (v : AV) (t : S1) : S1 := S1.rec (motive := fun _ => S1) (fun a0 a1 _ a3 a4 a5 a6 a7 a8 a9 a10 a11 a12 a13 a14 a15 => .mk a0 a1 v a3 a4 a5 a6 a7 a8 a9 a10 a11 a12 a13 a14 a15) t
noncomputable def S1.p2 (v : AV) (t : S1) (K : S1 → RR) : RR := S1.rec (motive := fun _ => RR) (fun a0 a1 _ a3 a4 a5 a6 a7 a8 a9 a10 a11 a12 a13 a14 a15 => K (.mk a0 a1 v a3 a4 a5 a6 a7 a8 a9 a10 a11 a12 a13 a14 a15)) t
noncomputable def S1.g3 (t : S1) : AV := S1.rec (motive := fun _ => AV) (fun _ _ _ a3 _ _ _ _ _ _ _ _ _ _ _ _ => a3) t
noncomputable def S1.w3 (v : AV) (t : S1) : S1 := S1.rec (motive := fun _ => S1) (fun a0 a1 a2 _ a4 a5 a6 a7 a8 a9 a10 a11 a12 a13 a14 a15 => .mk a0 a1 a2 v a4 a5 a6 a7 a8 a9 a10 a11 a12 a13 a14 a15) t
noncomputable def S1.p3 (v : AV) (t : S1) (K : S1 → RR) : RR := S1.rec (motive := fun _ => RR) (fun a0 a1 a2 _ a4 a5 a6 a7 a8 a9 a10 a11 a12 a13 a14 a15 => K (.mk a0 a1 a2 v a4 a5 a6 a7 a8 a9 a10 a11 a12 a13 a14 a15)) t
noncomputable def S1.g4 (t : S1) : AV := S1.rec (motive := fun _ => AV) (fun _ _ _ _ a4 _ _ _ _ _ _ _ _ _ _ _ => a4) t
noncomputable def S1.w4 (v : AV) (t : S1) : S1 := S1.rec (motive := fun _ => S1) (fun a0 a1 a2 a3 _ a5 a6 a7 a8 a9 a10 a11 a12 a13 a14 a15 => .mk a0 a1 a2 a3 v a5 a6 a7 a8 a9 a10 a11 a12 a13 a14 a15) t
noncomputable def S1.p4 (v : AV) (t : S1) (K : S1 → RR) : RR := S1.rec (motive := fun _ => RR) (fun a0 a1 a2 a3 _ a5 a6 a7 a8 a9 a10 a11 a12 a13 a14 a15 => K (.mk a0 a1 a2 a3 v a5 a6 a7 a8 a9 a10 a11 a12 a13 a14 a15)) t
noncomputable def S1.g5 (t : S1) : AV := S1.rec (motive := fun _ => AV) (fun _ _ _ _ _ a5 _ _ _ _ _ _ _ _ _ _ => a5) t
noncomputable def S1.w5 (v : AV) (t : S1) : S1 := S1.rec (motive := fun _ => S1) (fun a0 a1 a2 a3 a4 _ a6 a7 a8 a9 a10 a11 a12 a13 a14 a15 => .mk a0 a1 a2 a3 a4 v a6 a7 a8 a9 a10 a11 a12 a13 a14 a15) t
noncomputable def S1.p5 (v : AV) (t : S1) (K : S1 → RR) : RR := S1.rec (motive := fun _ => RR) (fun a0 a1 a2 a3 a4 _ a6 a7 a8 a9 a10 a11 a12 a13 a14 a15 => K (.mk a0 a1 a2 a3 a4 v a6 a7 a8 a9 a10 a11 a12 a13 a14 a15)) t
noncomputable def S1.g6 (t : S1) : AV := S1.rec (motive := fun _ => AV) (fun _ _ _ _ _ _ a6 _ _ _ _ _ _ _ _ _ => a6) t
noncomputable def S1.w6 (v : AV) (t : S1) : S1 := S1.rec (motive := fun _ => S1) (fun a0 a1 a2 a3 a4 a5 _ a7 a8 a9 a10 a11 a12 a13 a14 a15 => .mk a0 a1 a2 a3 a4 a5 v a7 a8 a9 a10 a11 a12 a13 a14 a15) t
noncomputable def S1.p6 (v : AV) (t : S1) (K : S1 → RR) : RR := S1.rec (motive := fun _ => RR) (fun a0 a1 a2 a3 a4 a5 _ a7 a8 a9 a10 a11 a12 a13 a14 a15 => K (.mk a0 a1 a2 a3 a4 a5 v a7 a8 a9 a10 a11 a12 a13 a14 a15)) t
noncomputable def S1.g7 (t : S1) : AV := S1.rec (motive := fun _ => AV) (fun _ _ _ _ _ _ _ a7 _ _ _ _ _ _ _ _ => a7) t
noncomputable def S1.w7 (v : AV) (t : S1) : S1 := S1.rec (motive := fun _ => S1) (fun a0 a1 a2 a3 a4 a5 a6 _ a8 a9 a10 a11 a12 a13 a14 a15 => .mk a0 a1 a2 a3 a4 a5 a6 v a8 a9 a10 a11 a12 a13 a14 a15) t
noncomputable def S1.p7 (v : AV) (t : S1) (K : S1 → RR) : RR := S1.rec (motive := fun _ => RR) (fun a0 a1 a2 a3 a4 a5 a6 _ a8 a9 a10 a11 a12 a13 a14 a15 => K (.mk a0 a1 a2 a3 a4 a5 a6 v a8 a9 a10 a11 a12 a13 a14 a15)) t
noncomputable def S1.g8 (t : S1) : AV := S1.rec (motive := fun _ => AV) (fun _ _ _ _ _ _ _ _ a8 _ _ _ _ _ _ _ => a8) t
noncomputable def S1.w8 (v : AV) (t : S1) : S1 := S1.rec (motive := fun _ => S1) (fun a0 a1 a2 a3 a4 a5 a6 a7 _ a9 a10 a11 a12 a13 a14 a15 => .mk a0 a1 a2 a3 a4 a5 a6 a7 v a9 a10 a11 a12 a13 a14 a15) t
noncomputable def S1.p8 (v : AV) (t : S1) (K : S1 → RR) : RR := S1.rec (motive := fun _ => RR) (fun a0 a1 a2 a3 a4 a5 a6 a7 _ a9 a10 a11 a12 a13 a14 a15 => K (.mk a0 a1 a2 a3 a4 a5 a6 a7 v a9 a10 a11 a12 a13 a14 a15)) t
noncomputable def S1.g9 (t : S1) : AV := S1.rec (motive := fun _ => AV) (fun _ _ _ _ _ _ _ _ _ a9 _ _ _ _ _ _ => a9) t
noncomputable def S1.w9 (v : AV) (t : S1) : S1 := S1.rec (motive := fun _ => S1) (fun a0 a1 a2 a3 a4 a5 a6 a7 a8 _ a10 a11 a12 a13 a14 a15 => .mk a0 a1 a2 a3 a4 a5 a6 a7 a8 v a10 a11 a12 a13 a14 a15) t
noncomputable def S1.p9 (v : AV) (t : S1) (K : S1 → RR) : RR := S1.rec (motive := fun _ => RR) (fun a0 a1 a2 a3 a4 a5 a6 a7 a8 _ a10 a11 a12 a13 a14 a15 => K (.mk a0 a1 a2 a3 a4 a5 a6 a7 a8 v a10 a11 a12 a13 a14 a15)) t
noncomputable def S1.g10 (t : S1) : AV := S1.rec (motive := fun _ => AV) (fun _ _ _ _ _ _ _ _ _ _ a10 _ _ _ _ _ => a10) t
noncomputable def S1.w10 (v : AV) (t : S1) : S1 := S1.rec (motive := fun _ => S1) (fun a0 a1 a2 a3 a4 a5 a6 a7 a8 a9 _ a11 a12 a13 a14 a15 => .mk a0 a1 a2 a3 a4 a5 a6 a7 a8 a9 v a11 a12 a13 a14 a15) t
noncomputable def S1.p10 (v : AV) (t : S1) (K : S1 → RR) : RR := S1.rec (motive := fun _ => RR) (fun a0 a1 a2 a3 a4 a5 a6 a7 a8 a9 _ a11 a12 a13 a14 a15 => K (.mk a0 a1 a2 a3 a4 a5 a6 a7 a8 a9 v a11 a12 a13 a14 a15)) t
noncomputable def S1.g11 (t : S1) : AV := S1.rec (motive := fun _ => AV) (fun _ _ _ _ _ _ _ _ _ _ _ a11 _ _ _ _ => a11) t
noncomputable def S1.w11 (v : AV) (t : S1) : S1 := S1.rec (motive := fun _ => S1) (fun a0 a1 a2 a3 a4 a5 a6 a7 a8 a9 a10 _ a12 a13 a14 a15 => .mk a0 a1 a2 a3 a4 a5 a6 a7 a8 a9 a10 v a12 a13 a14 a15) t
noncomputable def S1.p11 (v : AV) (t : S1) (K : S1 → RR) : RR := S1.rec (motive := fun _ => RR) (fun a0 a1 a2 a3 a4 a5 a6 a7 a8 a9 a10 _ a12 a13 a14 a15 => K (.mk a0 a1 a2 a3 a4 a5 a6 a7 a8 a9 a10 v a12 a13 a14 a15)) t
noncomputable def S1.g12 (t : S1) : AV := S1.rec (motive := fun _ => AV) (fun _ _ _ _ _ _ _ _ _ _ _ _ a12 _ _ _ => a12) t
noncomputable def S1.w12 (v : AV) (t : S1) : S1 := S1.rec (motive := fun _ => S1) (fun a0 a1 a2 a3 a4 a5 a6 a7 a8 a9 a10 a11 _ a13 a14 a15 => .mk a0 a1 a2 a3 a4 a5 a6 a7 a8 a9 a10 a11 v a13 a14 a15) t
noncomputable def S1.p12 (v : AV) (t : S1) (K : S1 → RR) : RR := S1.rec (motive := fun _ => RR) (fun a0 a1 a2 a3 a4 a5 a6 a7 a8 a9 a10 a11 _ a13 a14 a15 => K (.mk a0 a1 a2 a3 a4 a5 a6 a7 a8 a9 a10 a11 v a13 a14 a15)) t
noncomputable def S1.g13 (t : S1) : AV := S1.rec (motive := fun _ => AV) (fun _ _ _ _ _ _ _ _ _ _ _ _ _ a13 _ _ => a13) t
noncomputable def S1.w13 (v : AV) (t : S1) : S1 := S1.rec (motive := fun _ => S1) (fun a0 a1 a2 a3 a4 a5 a6 a7 a8 a9 a10 a11 a12 _ a14 a15 => .mk a0 a1 a2 a3 a4 a5 a6 a7 a8 a9 a10 a11 a12 v a14 a15) t
noncomputable def S1.p13 (v : AV) (t : S1) (K : S1 → RR) : RR := S1.rec (motive := fun _ => RR) (fun a0 a1 a2 a3 a4 a5 a6 a7 a8 a9 a10 a11 a12 _ a14 a15 => K (.mk a0 a1 a2 a3 a4 a5 a6 a7 a8 a9 a10 a11 a12 v a14 a15)) t
noncomputable def S1.g14 (t : S1) : AV := S1.rec (motive := fun _ => AV) (fun _ _ _ _ _ _ _ _ _ _ _ _ _ _ a14 _ => a14) t
noncomputable def S1.w14 (v : AV) (t : S1) : S1 := S1.rec (motive := fun _ => S1) (fun a0 a1 a2 a3 a4 a5 a6 a7 a8 a9 a10 a11 a12 a13 _ a15 => .mk a0 a1 a2 a3 a4 a5 a6 a7 a8 a9 a10 a11 a12 a13 v a15) t
noncomputable def S1.p14 (v : AV) (t : S1) (K : S1 → RR) : RR := S1.rec (motive := fun _ => RR) (fun a0 a1 a2 a3 a4 a5 a6 a7 a8 a9 a10 a11 a12 a13 _ a15 => K (.mk a0 a1 a2 a3 a4 a5 a6 a7 a8 a9 a10 a11 a12 a13 v a15)) t
noncomputable def S1.g15 (t : S1) : AV := S1.rec (motive := fun _ => AV) (fun _ _ _ _ _ _ _ _ _ _ _ _ _ _ _ a15 => a15) t
noncomputable def S1.w15 (v : AV) (t : S1) : S1 := S1.rec (motive := fun _ => S1) (fun a0 a1 a2 a3 a4 a5 a6 a7 a8 a9 a10 a11 a12 a13 a14 _ => .mk a0 a1 a2 a3 a4 a5 a6 a7 a8 a9 a10 a11 a12 a13 a14 v) t
noncomputable def S1.p15 (v : AV) (t : S1) (K : S1 → RR) : RR := S1.rec (motive := fun _ => RR) (fun a0 a1 a2 a3 a4 a5 a6 a7 a8 a9 a10 a11 a12 a13 a14 _ => K (.mk a0 a1 a2 a3 a4 a5 a6 a7 a8 a9 a10 a11 a12 a13 a14 v)) t
noncomputable def SL.g0 (t : SL) : S1 := SL.rec (motive := fun _ => S1) (fun a0 _ _ _ _ _ _ _ _ _ _ _ _ _ _ _ => a0) t
noncomputable def SL.w0 (v : S1) (t : SL) : SL := SL.rec (motive := fun _ => SL) (fun _ a1 a2 a3 a4 a5 a6 a7 a8 a9 a10 a11 a12 a13 a14 o => .mk v a1 a2 a3 a4 a5 a6 a7 a8 a9 a10 a11 a12 a13 a14 o) t
noncomputable def SL.p0 (f : S1 → (S1 → RR) → RR) (t : SL) (K : SL → RR) : RR := SL.rec (motive := fun _ => RR) (fun a0 a1 a2 a3 a4 a5 a6 a7 a8 a9 a10 a11 a12 a13 a14 o => f a0 (fun x => K (.mk x a1 a2 a3 a4 a5 a6 a7 a8 a9 a10 a11 a12 a13 a14 o))) t
noncomputable def SL.g1 (t : SL) : S1 := SL.rec (motive := fun _ => S1) (fun _ a1 _ _ _ _ _ _ _ _ _ _ _ _ _ _ => a1) t
noncomputable def SL.w1 (v : S1) (t : SL) : SL := SL.rec (motive := fun _ => SL) (fun a0 _ a2 a3 a4 a5 a6 a7 a8 a9 a10 a11 a12 a13 a14 o => .mk a0 v a2 a3 a4 a5 a6 a7 a8 a9 a10 a11 a12 a13 a14 o) t
noncomputable def SL.p1 (f : S1 → (S1 → RR) → RR) (t : SL) (K : SL → RR) : RR := SL.rec (motive := fun _ => RR) (fun a0 a1 a2 a3 a4 a5 a6 a7 a8 a9 a10 a11 a12 a13 a14 o => f a1 (fun x => K (.mk a0 x a2 a3 a4 a5 a6 a7 a8 a9 a10 a11 a12 a13 a14 o))) t
noncomputable def SL.g2 (t : SL) : S1 := SL.rec (motive := fun _ => S1) (fun _ _ a2 _ _ _ _ _ _ _ _ _ _ _ _ _ => a2) t
noncomputable def SL.w2 (v : S1) (t : SL) : SL := SL.rec (motive := fun _ => SL) (fun a0 a1 _ a3 a4 a5 a6 a7 a8 a9 a10 a11 a12 a13 a14 o => .mk a0 a1 v a3 a4 a5 a6 a7 a8 a9 a10 a11 a12 a13 a14 o) t
noncomputable def SL.p2 (f : S1 → (S1 → RR) → RR) (t : SL) (K : SL → RR) : RR := SL.rec (motive := fun _ => RR) (fun a0 a1 a2 a3 a4 a5 a6 a7 a8 a9 a10 a11 a12 a13 a14 o => f a2 (fun x => K (.mk a0 a1 x a3 a4 a5 a6 a7 a8 a9 a10 a11 a12 a13 a14 o))) t
noncomputable def SL.g3 (t : SL) : S1 := SL.rec (motive := fun _ => S1) (fun _ _ _ a3 _ _ _ _ _ _ _ _ _ _ _ _ => a3) t
noncomputable def SL.w3 (v : S1) (t : SL) : SL := SL.rec (motive := fun _ => SL) (fun a0 a1 a2 _ a4 a5 a6 a7 a8 a9 a10 a11 a12 a13 a14 o => .mk a0 a1 a2 v a4 a5 a6 a7 a8 a9 a10 a11 a12 a13 a14 o) t
noncomputable def SL.p3 (f : S1 → (S1 → RR) → RR) (t : SL) (K : SL → RR) : RR := SL.rec (motive := fun _ => RR) (fun a0 a1 a2 a3 a4 a5 a6 a7 a8 a9 a10 a11 a12 a13 a14 o => f a3 (fun x => K (.mk a0 a1 a2 x a4 a5 a6 a7 a8 a9 a10 a11 a12 a13 a14 o))) t
noncomputable def SL.g4 (t : SL) : S1 := SL.rec (motive := fun _ => S1) (fun _ _ _ _ a4 _ _ _ _ _ _ _ _ _ _ _ => a4) t
noncomputable def SL.w4 (v : S1) (t : SL) : SL := SL.rec (motive := fun _ => SL) (fun a0 a1 a2 a3 _ a5 a6 a7 a8 a9 a10 a11 a12 a13 a14 o => .mk a0 a1 a2 a3 v a5 a6 a7 a8 a9 a10 a11 a12 a13 a14 o) t
noncomputable def SL.p4 (f : S1 → (S1 → RR) → RR) (t : SL) (K : SL → RR) : RR := SL.rec (motive := fun _ => RR) (fun a0 a1 a2 a3 a4 a5 a6 a7 a8 a9 a10 a11 a12 a13 a14 o => f a4 (fun x => K (.mk a0 a1 a2 a3 x a5 a6 a7 a8 a9 a10 a11 a12 a13 a14 o))) t
noncomputable def SL.g5 (t : SL) : S1 := SL.rec (motive := fun _ => S1) (fun _ _ _ _ _ a5 _ _ _ _ _ _ _ _ _ _ => a5) t
noncomputable def SL.w5 (v : S1) (t : SL) : SL := SL.rec (motive := fun _ => SL) (fun a0 a1 a2 a3 a4 _ a6 a7 a8 a9 a10 a11 a12 a13 a14 o => .mk a0 a1 a2 a3 a4 v a6 a7 a8 a9 a10 a11 a12 a13 a14 o) t
noncomputable def SL.p5 (f : S1 → (S1 → RR) → RR) (t : SL) (K : SL → RR) : RR := SL.rec (motive := fun _ => RR) (fun a0 a1 a2 a3 a4 a5 a6 a7 a8 a9 a10 a11 a12 a13 a14 o => f a5 (fun x => K (.mk a0 a1 a2 a3 a4 x a6 a7 a8 a9 a10 a11 a12 a13 a14 o))) t
noncomputable def SL.g6 (t : SL) : S1 := SL.rec (motive := fun _ => S1) (fun _ _ _ _ _ _ a6 _ _ _ _ _ _ _ _ _ => a6) t
noncomputable def SL.w6 (v : S1) (t : SL) : SL := SL.rec (motive := fun _ => SL) (fun a0 a1 a2 a3 a4 a5 _ a7 a8 a9 a10 a11 a12 a13 a14 o => .mk a0 a1 a2 a3 a4 a5 v a7 a8 a9 a10 a11 a12 a13 a14 o) t
noncomputable def SL.p6 (f : S1 → (S1 → RR) → RR) (t : SL) (K : SL → RR) : RR := SL.rec (motive := fun _ => RR) (fun a0 a1 a2 a3 a4 a5 a6 a7 a8 a9 a10 a11 a12 a13 a14 o => f a6 (fun x => K (.mk a0 a1 a2 a3 a4 a5 x a7 a8 a9 a10 a11 a12 a13 a14 o))) t
noncomputable def SL.g7 (t : SL) : S1 := SL.rec (motive := fun _ => S1) (fun _ _ _ _ _ _ _ a7 _ _ _ _ _ _ _ _ => a7) t
noncomputable def SL.w7 (v : S1) (t : SL) : SL := SL.rec (motive := fun _ => SL) (fun a0 a1 a2 a3 a4 a5 a6 _ a8 a9 a10 a11 a12 a13 a14 o => .mk a0 a1 a2 a3 a4 a5 a6 v a8 a9 a10 a11 a12 a13 a14 o) t
noncomputable def SL.p7 (f : S1 → (S1 → RR) → RR) (t : SL) (K : SL → RR) : RR := SL.rec (motive := fun _ => RR) (fun a0 a1 a2 a3 a4 a5 a6 a7 a8 a9 a10 a11 a12 a13 a14 o => f a7 (fun x => K (.mk a0 a1 a2 a3 a4 a5 a6 x a8 a9 a10 a11 a12 a13 a14 o))) t
noncomputable def SL.g8 (t : SL) : S1 := SL.rec (motive := fun _ => S1) (fun _ _ _ _ _ _ _ _ a8 _ _ _ _ _ _ _ => a8) t
noncomputable def SL.w8 (v : S1) (t : SL) : SL := SL.rec (motive := fun _ => SL) (fun a0 a1 a2 a3 a4 a5 a6 a7 _ a9 a10 a11 a12 a13 a14 o => .mk a0 a1 a2 a3 a4 a5 a6 a7 v a9 a10 a11 a12 a13 a14 o) t
noncomputable def SL.p8 (f : S1 → (S1 → RR) → RR) (t : SL) (K : SL → RR) : RR := SL.rec (motive := fun _ => RR) (fun a0 a1 a2 a3 a4 a5 a6 a7 a8 a9 a10 a11 a12 a13 a14 o => f a8 (fun x => K (.mk a0 a1 a2 a3 a4 a5 a6 a7 x a9 a10 a11 a12 a13 a14 o))) t
noncomputable def SL.g9 (t : SL) : S1 := SL.rec (motive := fun _ => S1) (fun _ _ _ _ _ _ _ _ _ a9 _ _ _ _ _ _ => a9) t
noncomputable def SL.w9 (v : S1) (t : SL) : SL := SL.rec (motive := fun _ => SL) (fun a0 a1 a2 a3 a4 a5 a6 a7 a8 _ a10 a11 a12 a13 a14 o => .mk a0 a1 a2 a3 a4 a5 a6 a7 a8 v a10 a11 a12 a13 a14 o) t
noncomputable def SL.p9 (f : S1 → (S1 → RR) → RR) (t : SL) (K : SL → RR) : RR := SL.rec (motive := fun _ => RR) (fun a0 a1 a2 a3 a4 a5 a6 a7 a8 a9 a10 a11 a12 a13 a14 o => f a9 (fun x => K (.mk a0 a1 a2 a3 a4 a5 a6 a7 a8 x a10 a11 a12 a13 a14 o))) t
noncomputable def SL.g10 (t : SL) : S1 := SL.rec (motive := fun _ => S1) (fun _ _ _ _ _ _ _ _ _ _ a10 _ _ _ _ _ => a10) t
noncomputable def SL.w10 (v : S1) (t : SL) : SL := SL.rec (motive := fun _ => SL) (fun a0 a1 a2 a3 a4 a5 a6 a7 a8 a9 _ a11 a12 a13 a14 o => .mk a0 a1 a2 a3 a4 a5 a6 a7 a8 a9 v a11 a12 a13 a14 o) t
noncomputable def SL.p10 (f : S1 → (S1 → RR) → RR) (t : SL) (K : SL → RR) : RR := SL.rec (motive := fun _ => RR) (fun a0 a1 a2 a3 a4 a5 a6 a7 a8 a9 a10 a11 a12 a13 a14 o => f a10 (fun x => K (.mk a0 a1 a2 a3 a4 a5 a6 a7 a8 a9 x a11 a12 a13 a14 o))) t
noncomputable def SL.g11 (t : SL) : S1 := SL.rec (motive := fun _ => S1) (fun _ _ _ _ _ _ _ _ _ _ _ a11 _ _ _ _ => a11) t
noncomputable def SL.w11 (v : S1) (t : SL) : SL := SL.rec (motive := fun _ => SL) (fun a0 a1 a2 a3 a4 a5 a6 a7 a8 a9 a10 _ a12 a13 a14 o => .mk a0 a1 a2 a3 a4 a5 a6 a7 a8 a9 a10 v a12 a13 a14 o) t
noncomputable def SL.p11 (f : S1 → (S1 → RR) → RR) (t : SL) (K : SL → RR) : RR := SL.rec (motive := fun _ => RR) (fun a0 a1 a2 a3 a4 a5 a6 a7 a8 a9 a10 a11 a12 a13 a14 o => f a11 (fun x => K (.mk a0 a1 a2 a3 a4 a5 a6 a7 a8 a9 a10 x a12 a13 a14 o))) t
noncomputable def SL.g12 (t : SL) : S1 := SL.rec (motive := fun _ => S1) (fun _ _ _ _ _ _ _ _ _ _ _ _ a12 _ _ _ => a12) t
noncomputable def SL.w12 (v : S1) (t : SL) : SL := SL.rec (motive := fun _ => SL) (fun a0 a1 a2 a3 a4 a5 a6 a7 a8 a9 a10 a11 _ a13 a14 o => .mk a0 a1 a2 a3 a4 a5 a6 a7 a8 a9 a10 a11 v a13 a14 o) t
noncomputable def SL.p12 (f : S1 → (S1 → RR) → RR) (t : SL) (K : SL → RR) : RR := SL.rec (motive := fun _ => RR) (fun a0 a1 a2 a3 a4 a5 a6 a7 a8 a9 a10 a11 a12 a13 a14 o => f a12 (fun x => K (.mk a0 a1 a2 a3 a4 a5 a6 a7 a8 a9 a10 a11 x a13 a14 o))) t
noncomputable def SL.g13 (t : SL) : S1 := SL.rec (motive := fun _ => S1) (fun _ _ _ _ _ _ _ _ _ _ _ _ _ a13 _ _ => a13) t
noncomputable def SL.w13 (v : S1) (t : SL) : SL := SL.rec (motive := fun _ => SL) (fun a0 a1 a2 a3 a4 a5 a6 a7 a8 a9 a10 a11 a12 _ a14 o => .mk a0 a1 a2 a3 a4 a5 a6 a7 a8 a9 a10 a11 a12 v a14 o) t
noncomputable def SL.p13 (f : S1 → (S1 → RR) → RR) (t : SL) (K : SL → RR) : RR := SL.rec (motive := fun _ => RR) (fun a0 a1 a2 a3 a4 a5 a6 a7 a8 a9 a10 a11 a12 a13 a14 o => f a13 (fun x => K (.mk a0 a1 a2 a3 a4 a5 a6 a7 a8 a9 a10 a11 a12 x a14 o))) t
noncomputable def SL.g14 (t : SL) : S1 := SL.rec (motive := fun _ => S1) (fun _ _ _ _ _ _ _ _ _ _ _ _ _ _ a14 _ => a14) t
noncomputable def SL.w14 (v : S1) (t : SL) : SL := SL.rec (motive := fun _ => SL) (fun a0 a1 a2 a3 a4 a5 a6 a7 a8 a9 a10 a11 a12 a13 _ o => .mk a0 a1 a2 a3 a4 a5 a6 a7 a8 a9 a10 a11 a12 a13 v o) t
noncomputable def SL.p14 (f : S1 → (S1 → RR) → RR) (t : SL) (K : SL → RR) : RR := SL.rec (motive := fun _ => RR) (fun a0 a1 a2 a3 a4 a5 a6 a7 a8 a9 a10 a11 a12 a13 a14 o => f a14 (fun x => K (.mk a0 a1 a2 a3 a4 a5 a6 a7 a8 a9 a10 a11 a12 a13 x o))) t
noncomputable def SL.gE (_ : SL) : S1 := S1.nil
noncomputable def SL.wE (_ : S1) (t : SL) : SL := t
noncomputable def SL.pE (f : S1 → (S1 → RR) → RR) (t : SL) (K : SL → RR) : RR := f S1.nil (fun _ => K t)
noncomputable def SL.ov (t : SL) : Nat → AV := SL.rec (motive := fun _ => Nat → AV) (fun _ _ _ _ _ _ _ _ _ _ _ _ _ _ _ o => o) t
noncomputable def SL.ow (o : Nat → AV) (t : SL) : SL := SL.rec (motive := fun _ => SL) (fun a0 a1 a2 a3 a4 a5 a6 a7 a8 a9 a10 a11 a12 a13 a14 _ => .mk a0 a1 a2 a3 a4 a5 a6 a7 a8 a9 a10 a11 a12 a13 a14 o) t
noncomputable def S1.get (i : Hx) : S1 → AV := Hx.rec (motive := fun _ => S1 → AV) S1.g0 S1.g1 S1.g2 S1.g3 S1.g4 S1.g5 S1.g6 S1.g7 S1.g8 S1.g9 S1.g10 S1.g11 S1.g12 S1.g13 S1.g14 S1.g15 i
noncomputable def S1.set (i : Hx) : AV → S1 → S1 := Hx.rec (motive := fun _ => AV → S1 → S1) S1.w0 S1.w1 S1.w2 S1.w3 S1.w4 S1.w5 S1.w6 S1.w7 S1.w8 S1.w9 S1.w10 S1.w11 S1.w12 S1.w13 S1.w14 S1.w15 i
noncomputable def S1.put (i : Hx) : AV → S1 → (S1 → RR) → RR := Hx.rec (motive := fun _ => AV → S1 → (S1 → RR) → RR) S1.p0 S1.p1 S1.p2 S1.p3 S1.p4 S1.p5 S1.p6 S1.p7 S1.p8 S1.p9 S1.p10 S1.p11 S1.p12 S1.p13 S1.p14 S1.p15 i
noncomputable def SL.get (i : Hx) : SL → S1 := Hx.rec (motive := fun _ => SL → S1) SL.g0 SL.g1 SL.g2 SL.g3 SL.g4 SL.g5 SL.g6 SL.g7 SL.g8 SL.g9 SL.g10 SL.g11 SL.g12 SL.g13 SL.g14 SL.gE i
noncomputable def SL.set (i : Hx) : S1 → SL → SL := Hx.rec (motive := fun _ => S1 → SL → SL) SL.w0 SL.w1 SL.w2 SL.w3 SL.w4 SL.w5 SL.w6 SL.w7 SL.w8 SL.w9 SL.w10 SL.w11 SL.w12 SL.w13 SL.w14 SL.wE i
noncomputable def SL.put (i : Hx) : (S1 → (S1 → RR) → RR) → SL → (SL → RR) → RR := Hx.rec (motive := fun _ => (S1 → (S1 → RR) → RR) → SL → (SL → RR) → RR) SL.p0 SL.p1 SL.p2 SL.p3 SL.p4 SL.p5 SL.p6 SL.p7 SL.p8 SL.p9 SL.p10 SL.p11 SL.p12 SL.p13 SL.p14 SL.pE i
theorem S1.get_set (i : Hx) (v : AV) (t : S1) : (S1.set i v t).get i = v := by cases i <;> cases t <;> rfl
theorem S1.get_set_ne {i j : Hx} (h : j ≠ i) (v : AV) (t : S1) : (S1.set i v t).get j = t.get j := by cases i <;> cases j <;> first | exact absurd rfl h | (cases t <;> rfl)
theorem S1.put_eq (i : Hx) (v : AV) (t : S1) (K : S1 → RR) : S1.put i v t K = K (S1.set i v t) := by cases i <;> cases t <;> rfl
theorem SL.get_set {i : Hx} (h : i ≠ .x15) (v : S1) (t : SL) : (SL.set i v t).get i = v := by cases i <;> first | exact absurd rfl h | (cases t <;> rfl)
theorem SL.get_set_ne {i j : Hx} (h : j ≠ i) (v : S1) (t : SL) : (SL.set i v t).get j = t.get j := by cases i <;> cases j <;> first | exact absurd rfl h | (cases t <;> rfl)
theorem SL.put_eq (i : Hx) (f : S1 → (S1 → RR) → RR) (t : SL) (K : SL → RR) : SL.put i f t K = f (t.get i) (fun x => K (SL.set i x t)) := by cases i <;> cases t <;> rfl
theorem SL.ov_set (i : Hx) (v : S1) (t : SL) : (SL.set i v t).ov = t.ov := by cases i <;> cases t <;> rfl
theorem SL.get_ow (i : Hx) (o : Nat → AV) (t : SL) : (SL.ow o t).get i = t.get i := by cases i <;> cases t <;> rfl
theorem SL.ov_ow (o : Nat → AV) (t : SL) : (SL.ow o t).ov = o := by cases t; rfl
noncomputable def sx1 (k : Nat) : Hx := Hx.of (Nat.mod k 16)
noncomputable def sx2 (k : Nat) : Hx := Hx.of (Nat.div k 16)
/-- What stands in a slot; a slot written. -/
noncomputable def SL.at (t : SL) (k : Nat) : AV := Bool.rec (motive := fun _ => AV) (t.ov k) (S1.get (sx1 k) (SL.get (sx2 k) t)) (Nat.ble (Nat.succ k) 240)
noncomputable def SL.wr (t : SL) (k : Nat) (v : AV) : SL := Bool.rec (motive := fun _ => SL) (SL.ow (updF t.ov k v) t) (SL.set (sx2 k) (S1.set (sx1 k) v (SL.get (sx2 k) t)) t) (Nat.ble (Nat.succ k) 240)
theorem sx_inj {k j : Nat} (hk : k < 240) (hj : j < 240) (h1 : sx1 k = sx1 j) (h2 : sx2 k = sx2 j) : k = j := by
  have e1 : k % 16 = j % 16 := Hx.of_inj (Nat.mod_lt _ (by omega)) (Nat.mod_lt _ (by omega)) h1
  have e2 : k / 16 = j / 16 := Hx.of_inj (by omega) (by omega) h2
  omega
theorem sx2_ne {k : Nat} (hk : k < 240) : sx2 k ≠ .x15 := fun h => by
  have h : Hx.of (k / 16) = Hx.of 15 := h
  have := Hx.of_inj (by omega) (by omega) h
  omega
theorem SL.at_wr [Tab] (t : SL) (k : Nat) (v : AV) : (t.wr k v).at = updT t.at (some k) v := by
  funext j
  unfold updT SL.wr SL.at
  cases ek : Nat.ble (Nat.succ k) 240 with
  | false =>
    cases ej : Nat.ble (Nat.succ j) 240 with
    | false =>
      show (SL.ow (updF t.ov k v) t).ov j = if some k = some j then v else t.ov j
      rw [SL.ov_ow]
      unfold updF
      by_cases h : j = k
      · rw [if_pos h, if_pos (by rw [h])]
      · rw [if_neg h, if_neg fun e => h (by injection e with e; exact e.symm)]
    | true =>
      show S1.get (sx1 j) (SL.get (sx2 j) (SL.ow (updF t.ov k v) t)) = if some k = some j then v else S1.get (sx1 j) (SL.get (sx2 j) t)
      rw [SL.get_ow, if_neg fun e => by injection e with e; subst e; rw [ek] at ej; cases ej]
  | true =>
    cases ej : Nat.ble (Nat.succ j) 240 with
    | false =>
      show (SL.set (sx2 k) (S1.set (sx1 k) v (SL.get (sx2 k) t)) t).ov j = if some k = some j then v else t.ov j
      rw [SL.ov_set, if_neg fun e => by injection e with e; subst e; rw [ek] at ej; cases ej]
    | true =>
      show S1.get (sx1 j) (SL.get (sx2 j) (SL.set (sx2 k) (S1.set (sx1 k) v (SL.get (sx2 k) t)) t)) = if some k = some j then v else S1.get (sx1 j) (SL.get (sx2 j) t)
      have hk : k < 240 := Nat.le_of_ble_eq_true ek
      have hj : j < 240 := Nat.le_of_ble_eq_true ej
      by_cases h : k = j
      · subst h
        rw [if_pos rfl, SL.get_set (sx2_ne hk), S1.get_set]
      · rw [if_neg fun e => h (by injection e)]
        by_cases h2 : sx2 j = sx2 k
        · rw [h2, SL.get_set (sx2_ne hk), S1.get_set_ne fun h1 => h (sx_inj hk hj h1.symm h2.symm)]
        · rw [SL.get_set_ne h2]
noncomputable def SL.pw (t : SL) : Option Nat → AV → SL
  | none, _ => t
  | some k, v => t.wr k v
theorem SL.at_pw [Tab] (t : SL) (d : Option Nat) (v : AV) : (t.pw d v).at = updT t.at d v := by
  cases d with
  | none =>
    funext k
    unfold updT
    rw [if_neg (by intro e; cases e)]
    rfl
  | some k => exact t.at_wr k v
noncomputable def SL.nil : SL := .mk S1.nil S1.nil S1.nil S1.nil S1.nil S1.nil S1.nil S1.nil S1.nil S1.nil S1.nil S1.nil S1.nil S1.nil S1.nil (fun _ => .top)
theorem SL.at_nil (k : Nat) : SL.nil.at k = .top := by
  unfold SL.at
  cases Nat.ble (Nat.succ k) 240 with
  | false => rfl
  | true =>
    show S1.get (sx1 k) (SL.get (sx2 k) SL.nil) = .top
    generalize sx1 k = i
    have : SL.get (sx2 k) SL.nil = S1.nil := by generalize sx2 k = j; cases j <;> rfl
    rw [this]
    cases i <;> rfl
abbrev CallQ := Nat → List AV → AS → (AV → AS → RR) → RR
abbrev KE := Ex → SL → AS → RR
abbrev KS := SL → AS → RR
abbrev QQ := CallQ → SL → AS → KE → KS → RR
abbrev XX := Option QQ
abbrev GG := SL → AV
abbrev PP := AV → SL → (SL → RR) → RR
/-- Getters and setters, chosen once. -/
noncomputable def gMk (g2 : SL → S1) (g1 : S1 → AV) (t : SL) : AV := g1 (g2 t)
noncomputable def gOv (k : Nat) (t : SL) : AV := t.ov k
noncomputable def gCon (v : AV) (_ : SL) : AV := v
noncomputable def pMk (p2 : (S1 → (S1 → RR) → RR) → SL → (SL → RR) → RR) (p1 : AV → S1 → (S1 → RR) → RR) (v : AV) (t : SL) (K : SL → RR) : RR := p2 (p1 v) t K
noncomputable def pOv (k : Nat) (v : AV) (t : SL) (K : SL → RR) : RR := K (SL.ow (updF t.ov k v) t)
noncomputable def pNo (_ : AV) (t : SL) (K : SL → RR) : RR := K t
noncomputable def withG1 (i : Hx) : ((S1 → AV) → XX) → XX := Hx.rec (motive := fun _ => ((S1 → AV) → XX) → XX) (fun K => K S1.g0) (fun K => K S1.g1) (fun K => K S1.g2) (fun K => K S1.g3) (fun K => K S1.g4) (fun K => K S1.g5) (fun K => K S1.g6) (fun K => K S1.g7) (fun K => K S1.g8) (fun K => K S1.g9) (fun K => K S1.g10) (fun K => K S1.g11) (fun K => K S1.g12) (fun K => K S1.g13) (fun K => K S1.g14) (fun K => K S1.g15) i
noncomputable def withG2 (i : Hx) : ((SL → S1) → XX) → XX := Hx.rec (motive := fun _ => ((SL → S1) → XX) → XX) (fun K => K SL.g0) (fun K => K SL.g1) (fun K => K SL.g2) (fun K => K SL.g3) (fun K => K SL.g4) (fun K => K SL.g5) (fun K => K SL.g6) (fun K => K SL.g7) (fun K => K SL.g8) (fun K => K SL.g9) (fun K => K SL.g10) (fun K => K SL.g11) (fun K => K SL.g12) (fun K => K SL.g13) (fun K => K SL.g14) (fun K => K SL.gE) i
noncomputable def withP1 (i : Hx) : ((AV → S1 → (S1 → RR) → RR) → XX) → XX := Hx.rec (motive := fun _ => ((AV → S1 → (S1 → RR) → RR) → XX) → XX) (fun K => K S1.p0) (fun K => K S1.p1) (fun K => K S1.p2) (fun K => K S1.p3) (fun K => K S1.p4) (fun K => K S1.p5) (fun K => K S1.p6) (fun K => K S1.p7) (fun K => K S1.p8) (fun K => K S1.p9) (fun K => K S1.p10) (fun K => K S1.p11) (fun K => K S1.p12) (fun K => K S1.p13) (fun K => K S1.p14) (fun K => K S1.p15) i
noncomputable def withP2 (i : Hx) : (((S1 → (S1 → RR) → RR) → SL → (SL → RR) → RR) → XX) → XX := Hx.rec (motive := fun _ => (((S1 → (S1 → RR) → RR) → SL → (SL → RR) → RR) → XX) → XX) (fun K => K SL.p0) (fun K => K SL.p1) (fun K => K SL.p2) (fun K => K SL.p3) (fun K => K SL.p4) (fun K => K SL.p5) (fun K => K SL.p6) (fun K => K SL.p7) (fun K => K SL.p8) (fun K => K SL.p9) (fun K => K SL.p10) (fun K => K SL.p11) (fun K => K SL.p12) (fun K => K SL.p13) (fun K => K SL.p14) (fun K => K SL.pE) i
theorem withG1_eq (i : Hx) (K : (S1 → AV) → XX) : withG1 i K = K (S1.get i) := by cases i <;> rfl
theorem withG2_eq (i : Hx) (K : (SL → S1) → XX) : withG2 i K = K (SL.get i) := by cases i <;> rfl
theorem withP1_eq (i : Hx) (K : (AV → S1 → (S1 → RR) → RR) → XX) : withP1 i K = K (S1.put i) := by cases i <;> rfl
theorem withP2_eq (i : Hx) (K : ((S1 → (S1 → RR) → RR) → SL → (SL → RR) → RR) → XX) : withP2 i K = K (SL.put i) := by cases i <;> rfl
noncomputable def withG (k : Nat) (K : GG → XX) : XX := Bool.rec (motive := fun _ => XX) (K (gOv k)) (withG2 (sx2 k) fun g2 => withG1 (sx1 k) fun g1 => K (gMk g2 g1)) (Nat.ble (Nat.succ k) 240)
theorem withG_eq [Tab] (k : Nat) (K : GG → XX) : withG k K = K (fun t => t.at k) := by
  unfold withG SL.at
  cases Nat.ble (Nat.succ k) 240 with
  | false => rfl
  | true =>
    show withG2 (sx2 k) (fun g2 => withG1 (sx1 k) fun g1 => K (gMk g2 g1)) = _
    rw [withG2_eq, withG1_eq]
    rfl
noncomputable def stO (d : Option Nat) : PP := fun v t K => K (t.pw d v)
noncomputable def withP (nt : Nat) (d : Option Nat) (K : PP → XX) : XX := Option.rec (motive := fun _ => XX) (K pNo) (fun k => Bool.rec (motive := fun _ => XX) none (Bool.rec (motive := fun _ => XX) (K (pOv k)) (withP2 (sx2 k) fun p2 => withP1 (sx1 k) fun p1 => K (pMk p2 p1)) (Nat.ble (Nat.succ k) 240)) (Nat.ble (Nat.succ k) nt)) d
theorem withP_ok [Tab] {nt : Nat} {d : Option Nat} {K : PP → XX} {q : QQ} (h : withP nt d K = some q) : K (stO d) = some q ∧ ∀ k, d = some k → k < nt := by
  unfold withP at h
  cases d with
  | none => exact ⟨h, fun k e => by cases e⟩
  | some k =>
    dsimp only at h
    cases hn : Nat.ble (Nat.succ k) nt with
    | false => rw [hn] at h; cases h
    | true =>
      rw [hn] at h
      dsimp only at h
      refine ⟨?_, fun j e => by injection e with e; subst e; exact Nat.le_of_ble_eq_true hn⟩
      cases hk : Nat.ble (Nat.succ k) 240 with
      | false =>
        rw [hk] at h
        have : pOv k = stO (some k) := by
          funext v t K
          show K _ = K (t.wr k v)
          unfold SL.wr
          rw [hk]
        rw [← this]
        exact h
      | true =>
        rw [hk] at h
        dsimp only at h
        rw [withP2_eq, withP1_eq] at h
        have : pMk (SL.put (sx2 k)) (S1.put (sx1 k)) = stO (some k) := by
          funext v t K
          show SL.put (sx2 k) (S1.put (sx1 k) v) t K = K (t.wr k v)
          rw [SL.put_eq, S1.put_eq]
          unfold SL.wr
          rw [hk]
        rw [← this]
        exact h
noncomputable def forceR (x : AV) : (AV → RR) → RR := AV.rec (motive_1 := fun _ => (AV → RR) → RR) (motive_2 := fun _ => Unit) (fun K => K .top) (fun K => K .undef) (fun k n K => K (.int k n)) (fun b K => K (.bool b)) (fun l K => K (.str l)) (fun K => K .nilp) (fun b o K => K (.ptr b o)) (fun K => K .nils) (fun b o n c K => K (.sl b o n c)) (fun b o n e K => K (.slu b o n e)) (fun K => K .nilm) (fun b K => K (.mapp b)) (fun K => K .nilfn) (fun f cs _ K => K (.fn f cs)) (fun f cs _ K => K (.fnm f cs)) (fun K => K .nili) (fun u v _ K => K (.ifc u v)) (fun cs _ K => K (.agg cs)) (fun cs _ K => K (.tup cs)) (fun w K => K (.pan w)) (fun b k lo hi K => K (.symI b k lo hi)) (fun b K => K (.symS b)) (fun b lo hi K => K (.symT b lo hi)) (fun n K => K (.symZ n)) () (fun _ _ _ _ => ()) x
theorem forceR_eq (x : AV) (K : AV → RR) : forceR x K = K x := by cases x <;> rfl
noncomputable def forceX (x : AV) : (AV → XX) → XX := AV.rec (motive_1 := fun _ => (AV → XX) → XX) (motive_2 := fun _ => Unit) (fun K => K .top) (fun K => K .undef) (fun k n K => K (.int k n)) (fun b K => K (.bool b)) (fun l K => K (.str l)) (fun K => K .nilp) (fun b o K => K (.ptr b o)) (fun K => K .nils) (fun b o n c K => K (.sl b o n c)) (fun b o n e K => K (.slu b o n e)) (fun K => K .nilm) (fun b K => K (.mapp b)) (fun K => K .nilfn) (fun f cs _ K => K (.fn f cs)) (fun f cs _ K => K (.fnm f cs)) (fun K => K .nili) (fun u v _ K => K (.ifc u v)) (fun cs _ K => K (.agg cs)) (fun cs _ K => K (.tup cs)) (fun w K => K (.pan w)) (fun b k lo hi K => K (.symI b k lo hi)) (fun b K => K (.symS b)) (fun b lo hi K => K (.symT b lo hi)) (fun n K => K (.symZ n)) () (fun _ _ _ _ => ()) x
theorem forceX_eq (x : AV) (K : AV → XX) : forceX x K = K x := by cases x <;> rfl
noncomputable def onBoolR (x : AV) : (Bool → RR) → RR := AV.rec (motive_1 := fun _ => (Bool → RR) → RR) (motive_2 := fun _ => Unit) (fun _ => none) (fun _ => none) (fun _ _ _ => none) (fun b K => K b) (fun _ _ => none) (fun _ => none) (fun _ _ _ => none) (fun _ => none) (fun _ _ _ _ _ => none) (fun _ _ _ _ _ => none) (fun _ => none) (fun _ _ => none) (fun _ => none) (fun _ _ _ _ => none) (fun _ _ _ _ => none) (fun _ => none) (fun _ _ _ _ => none) (fun _ _ _ => none) (fun _ _ _ => none) (fun _ _ => none) (fun _ _ _ _ _ => none) (fun _ _ => none) (fun _ _ _ _ => none) (fun _ _ => none) () (fun _ _ _ _ => ()) x
theorem onBoolR_eq (x : AV) (K : Bool → RR) : onBoolR x K = match x with | .bool b => K b | _ => none := by cases x <;> rfl
noncomputable def onFnR (x : AV) : (Nat → List AV → RR) → (Nat → List AV → RR) → RR := AV.rec (motive_1 := fun _ => (Nat → List AV → RR) → (Nat → List AV → RR) → RR) (motive_2 := fun _ => Unit) (fun _ _ => none) (fun _ _ => none) (fun _ _ _ _ => none) (fun _ _ _ => none) (fun _ _ _ => none) (fun _ _ => none) (fun _ _ _ _ => none) (fun _ _ => none) (fun _ _ _ _ _ _ => none) (fun _ _ _ _ _ _ => none) (fun _ _ => none) (fun _ _ _ => none) (fun _ _ => none) (fun f cs _ A _ => A f cs) (fun f cs _ _ B => B f cs) (fun _ _ => none) (fun _ _ _ _ _ => none) (fun _ _ _ _ => none) (fun _ _ _ _ => none) (fun _ _ _ => none) (fun _ _ _ _ _ _ => none) (fun _ _ _ => none) (fun _ _ _ _ _ => none) (fun _ _ _ => none) () (fun _ _ _ _ => ()) x
theorem onFnR_eq (x : AV) (A : Nat → List AV → RR) (B : Nat → List AV → RR) : onFnR x A B = match x with | .fn f cs => A f cs | .fnm f cs => B f cs | _ => none := by cases x <;> rfl
noncomputable def onPanR (x : AV) : (Value → RR) → (AV → RR) → RR := AV.rec (motive_1 := fun _ => (Value → RR) → (AV → RR) → RR) (motive_2 := fun _ => Unit) (fun _ B => B .top) (fun _ B => B .undef) (fun k n _ B => B (.int k n)) (fun b _ B => B (.bool b)) (fun l _ B => B (.str l)) (fun _ B => B .nilp) (fun b o _ B => B (.ptr b o)) (fun _ B => B .nils) (fun b o n c _ B => B (.sl b o n c)) (fun b o n e _ B => B (.slu b o n e)) (fun _ B => B .nilm) (fun b _ B => B (.mapp b)) (fun _ B => B .nilfn) (fun f cs _ _ B => B (.fn f cs)) (fun f cs _ _ B => B (.fnm f cs)) (fun _ B => B .nili) (fun u v _ _ B => B (.ifc u v)) (fun cs _ _ B => B (.agg cs)) (fun cs _ _ B => B (.tup cs)) (fun w A _ => A w) (fun b k lo hi _ B => B (.symI b k lo hi)) (fun b _ B => B (.symS b)) (fun b lo hi _ B => B (.symT b lo hi)) (fun n _ B => B (.symZ n)) () (fun _ _ _ _ => ()) x
theorem onPanR_pan (w : Value) (A : Value → RR) (B : AV → RR) : onPanR (.pan w) A B = A w := rfl
theorem onPanR_ne {x : AV} (h : ∀ w, x ≠ .pan w) (A : Value → RR) (B : AV → RR) : onPanR x A B = B x := by cases x <;> first | rfl | exact absurd rfl (h _)
noncomputable def nilQ (x : AV) : Option AV := AV.rec (motive_1 := fun _ => Option AV) (motive_2 := fun _ => Unit) (none) (none) (fun _ _ => none) (fun _ => none) (fun _ => none) (none) (fun b o => some (.ptr b o)) (none) (fun _ _ _ _ => none) (fun _ _ _ _ => none) (none) (fun _ => none) (none) (fun f cs _ => some (.fn f cs)) (fun f cs _ => some (.fnm f cs)) (none) (fun _ _ _ => none) (fun _ _ => none) (fun _ _ => none) (fun _ => none) (fun _ _ _ _ => none) (fun _ => none) (fun _ _ _ => none) (fun _ => none) () (fun _ _ _ _ => ()) x
theorem nilQ_eq (x : AV) : nilQ x  = match x with | .ptr b o => some (.ptr b o) | .fn f cs => some (.fn f cs) | .fnm f cs => some (.fnm f cs) | _ => none := by cases x <;> rfl
noncomputable def notQ (x : AV) : Option AV := AV.rec (motive_1 := fun _ => Option AV) (motive_2 := fun _ => Unit) (none) (none) (fun _ _ => none) (fun b => some (.bool (!b))) (fun _ => none) (none) (fun _ _ => none) (none) (fun _ _ _ _ => none) (fun _ _ _ _ => none) (none) (fun _ => none) (none) (fun _ _ _ => none) (fun _ _ _ => none) (none) (fun _ _ _ => none) (fun _ _ => none) (fun _ _ => none) (fun _ => none) (fun _ _ _ _ => none) (fun _ => none) (fun _ _ _ => none) (fun _ => none) () (fun _ _ _ _ => ()) x
theorem notQ_eq (x : AV) : notQ x  = match x with | .bool b => some (.bool (!b)) | _ => none := by cases x <;> rfl
noncomputable def faQ (x : AV) : Nat → Option AV := AV.rec (motive_1 := fun _ => Nat → Option AV) (motive_2 := fun _ => Unit) (fun _ => none) (fun _ => none) (fun _ _ _ => none) (fun _ _ => none) (fun _ _ => none) (fun _ => none) (fun b o off => some (.ptr b (Nat.add o off))) (fun _ => none) (fun _ _ _ _ _ => none) (fun _ _ _ _ _ => none) (fun _ => none) (fun _ _ => none) (fun _ => none) (fun _ _ _ _ => none) (fun _ _ _ _ => none) (fun _ => none) (fun _ _ _ _ => none) (fun _ _ _ => none) (fun _ _ _ => none) (fun _ _ => none) (fun _ _ _ _ _ => none) (fun _ _ => none) (fun _ _ _ _ => none) (fun _ _ => none) () (fun _ _ _ _ => ()) x
theorem faQ_eq (x : AV) (off : Nat) : faQ x off = match x with | .ptr b o => some (.ptr b (Nat.add o off)) | _ => none := by cases x <;> rfl
noncomputable def natI (n : Int) : Nat → Option Nat := Int.rec (motive := fun _ => Nat → Option Nat) (fun m y => Bool.rec (motive := fun _ => Option Nat) none (some m) (Nat.ble m y)) (fun _ _ => none) n
noncomputable def natQ (x : AV) : Nat → Option Nat := AV.rec (motive_1 := fun _ => Nat → Option Nat) (motive_2 := fun _ => Unit) (fun _ => none) (fun _ => none) (fun _ n y => natI n y) (fun _ _ => none) (fun _ _ => none) (fun _ => none) (fun _ _ _ => none) (fun _ => none) (fun _ _ _ _ _ => none) (fun _ _ _ _ _ => none) (fun _ => none) (fun _ _ => none) (fun _ => none) (fun _ _ _ _ => none) (fun _ _ _ _ => none) (fun _ => none) (fun _ _ _ _ => none) (fun _ _ _ => none) (fun _ _ _ => none) (fun _ _ => none) (fun _ _ _ _ _ => none) (fun _ _ => none) (fun _ _ _ _ => none) (fun _ _ => none) () (fun _ _ _ _ => ()) x
theorem natQ_eq (x : AV) (y : Nat) : natQ x y = natA y x := by
  cases x <;> try rfl
  rename_i k n
  cases n with
  | ofNat m =>
    show Bool.rec (motive := fun _ => Option Nat) none (some m) (Nat.ble m y) = cond (Nat.ble m y) (some m) none
    cases Nat.ble m y <;> rfl
  | negSucc m => rfl
end Go.Proofs.YthmojpcaagnfkaaGreatDoor


/-
  The quick machine for the kernel: rows, numbers, strings, blocks. No program.
-/
namespace Go.Proofs.YthmojpcaagnfkaaGreatDoor
open Go.RowKit

noncomputable def tlB (l : List UInt8) : List UInt8 := List.rec (motive := fun _ => List UInt8) [] (fun _ t _ => t) l
noncomputable def dr8B (l : List UInt8) : List UInt8 := tlB (tlB (tlB (tlB (tlB (tlB (tlB (tlB l)))))))
noncomputable def sk8B (q : Nat) (l : List UInt8) : List UInt8 := Nat.rec (motive := fun _ => List UInt8) l (fun _ ih => dr8B ih) q
noncomputable def wlkB (l : List UInt8) : Nat → Option UInt8 := List.rec (motive := fun _ => Nat → Option UInt8) (fun _ => none) (fun a _ ih k => Nat.rec (motive := fun _ => Option UInt8) (some a) (fun j _ => ih j) k) l
noncomputable def nthB (l : List UInt8) (m : Nat) : Option UInt8 := wlkB (sk8B (Nat.div m 8) l) (Nat.mod m 8)
noncomputable def wdB (k : Nat) (l : List UInt8) : List UInt8 := Nat.rec (motive := fun _ => List UInt8) l (fun _ ih => tlB ih) k
noncomputable def drpB (k : Nat) (l : List UInt8) : List UInt8 := wdB (Nat.mod k 8) (sk8B (Nat.div k 8) l)
noncomputable def takB (l : List UInt8) : Nat → List UInt8 := List.rec (motive := fun _ => Nat → List UInt8) (fun _ => []) (fun a _ ih k => Nat.rec (motive := fun _ => List UInt8) [] (fun j _ => a :: ih j) k) l
noncomputable def lenB (l : List UInt8) : Nat := List.rec (motive := fun _ => Nat → Nat) (fun n => n) (fun _ _ ih n => ih (Nat.succ n)) l 0
theorem tlB_eq (l : List UInt8) : tlB l = l.drop 1 := by cases l <;> rfl
theorem dr8B_eq [Tab] (l : List UInt8) : dr8B l = l.drop 8 := by
  unfold dr8B
  simp only [tlB_eq, List.drop_drop]
theorem sk8B_eq [Tab] (l : List UInt8) : ∀ q, sk8B q l = l.drop (8 * q)
  | 0 => rfl
  | q + 1 => by
    show dr8B (sk8B q l) = _
    rw [sk8B_eq l q, dr8B_eq, List.drop_drop]
    congr 1
theorem wlkB_eq [Tab] : ∀ (l : List UInt8) (k : Nat), wlkB l k = l[k]?
  | [], _ => rfl
  | _ :: _, 0 => rfl
  | a :: l, k + 1 => by
    rw [List.getElem?_cons_succ]
    exact wlkB_eq l k
theorem nthB_eq [Tab] (l : List UInt8) (m : Nat) : nthB l m = l[m]? := by
  unfold nthB
  rw [wlkB_eq, sk8B_eq, List.getElem?_drop]
  congr 1
  exact Nat.div_add_mod m 8
theorem wdB_eq [Tab] (l : List UInt8) : ∀ k, wdB k l = l.drop k
  | 0 => rfl
  | k + 1 => by
    show tlB (wdB k l) = _
    rw [wdB_eq l k, tlB_eq, List.drop_drop]
theorem drpB_eq [Tab] (k : Nat) (l : List UInt8) : drpB k l = l.drop k := by
  unfold drpB
  rw [wdB_eq, sk8B_eq, List.drop_drop]
  congr 1
  exact Nat.div_add_mod k 8
theorem takB_eq [Tab] : ∀ (l : List UInt8) (k : Nat), takB l k = l.take k
  | [], k => by simp; rfl
  | _ :: _, 0 => rfl
  | a :: l, k + 1 => congrArg (a :: ·) (takB_eq l k)
theorem lenB_eq (l : List UInt8) : lenB l = l.length := by
  have : ∀ (l : List UInt8) (n : Nat), (List.rec (motive := fun _ => Nat → Nat) (fun n => n) (fun _ _ ih n => ih (Nat.succ n)) l n : Nat) = n + l.length := by
    intro l
    induction l with
    | nil => intro n; rfl
    | cons a l ih => intro n; simp only [List.length_cons]; rw [ih]; omega
  unfold lenB
  rw [this]
  omega
noncomputable def tlV (l : List AV) : List AV := List.rec (motive := fun _ => List AV) [] (fun _ t _ => t) l
noncomputable def dr8V (l : List AV) : List AV := tlV (tlV (tlV (tlV (tlV (tlV (tlV (tlV l)))))))
noncomputable def sk8V (q : Nat) (l : List AV) : List AV := Nat.rec (motive := fun _ => List AV) l (fun _ ih => dr8V ih) q
noncomputable def wlkV (l : List AV) : Nat → Option AV := List.rec (motive := fun _ => Nat → Option AV) (fun _ => none) (fun a _ ih k => Nat.rec (motive := fun _ => Option AV) (some a) (fun j _ => ih j) k) l
noncomputable def nthV (l : List AV) (m : Nat) : Option AV := wlkV (sk8V (Nat.div m 8) l) (Nat.mod m 8)
noncomputable def wdV (k : Nat) (l : List AV) : List AV := Nat.rec (motive := fun _ => List AV) l (fun _ ih => tlV ih) k
noncomputable def drpV (k : Nat) (l : List AV) : List AV := wdV (Nat.mod k 8) (sk8V (Nat.div k 8) l)
noncomputable def takV (l : List AV) : Nat → List AV := List.rec (motive := fun _ => Nat → List AV) (fun _ => []) (fun a _ ih k => Nat.rec (motive := fun _ => List AV) [] (fun j _ => a :: ih j) k) l
noncomputable def lenV (l : List AV) : Nat := List.rec (motive := fun _ => Nat → Nat) (fun n => n) (fun _ _ ih n => ih (Nat.succ n)) l 0
theorem tlV_eq (l : List AV) : tlV l = l.drop 1 := by cases l <;> rfl
theorem dr8V_eq [Tab] (l : List AV) : dr8V l = l.drop 8 := by
  unfold dr8V
  simp only [tlV_eq, List.drop_drop]
theorem sk8V_eq [Tab] (l : List AV) : ∀ q, sk8V q l = l.drop (8 * q)
  | 0 => rfl
  | q + 1 => by
    show dr8V (sk8V q l) = _
    rw [sk8V_eq l q, dr8V_eq, List.drop_drop]
    congr 1
theorem wlkV_eq [Tab] : ∀ (l : List AV) (k : Nat), wlkV l k = l[k]?
  | [], _ => rfl
  | _ :: _, 0 => rfl
  | a :: l, k + 1 => by
    rw [List.getElem?_cons_succ]
    exact wlkV_eq l k
theorem nthV_eq [Tab] (l : List AV) (m : Nat) : nthV l m = l[m]? := by
  unfold nthV
  rw [wlkV_eq, sk8V_eq, List.getElem?_drop]
  congr 1
  exact Nat.div_add_mod m 8
theorem wdV_eq [Tab] (l : List AV) : ∀ k, wdV k l = l.drop k
  | 0 => rfl
  | k + 1 => by
    show tlV (wdV k l) = _
    rw [wdV_eq l k, tlV_eq, List.drop_drop]
theorem drpV_eq [Tab] (k : Nat) (l : List AV) : drpV k l = l.drop k := by
  unfold drpV
  rw [wdV_eq, sk8V_eq, List.drop_drop]
  congr 1
  exact Nat.div_add_mod k 8
theorem takV_eq [Tab] : ∀ (l : List AV) (k : Nat), takV l k = l.take k
  | [], k => by simp; rfl
  | _ :: _, 0 => rfl
  | a :: l, k + 1 => congrArg (a :: ·) (takV_eq l k)
theorem lenV_eq (l : List AV) : lenV l = l.length := by
  have : ∀ (l : List AV) (n : Nat), (List.rec (motive := fun _ => Nat → Nat) (fun n => n) (fun _ _ ih n => ih (Nat.succ n)) l n : Nat) = n + l.length := by
    intro l
    induction l with
    | nil => intro n; rfl
    | cons a l ih => intro n; simp only [List.length_cons]; rw [ih]; omega
  unfold lenV
  rw [this]
  omega
noncomputable def tkO (l : List AV) : Nat → Option (List AV) := List.rec (motive := fun _ => Nat → Option (List AV)) (fun n => Nat.rec (motive := fun _ => Option (List AV)) (some []) (fun _ _ => none) n) (fun a _ ih n => Nat.rec (motive := fun _ => Option (List AV)) (some []) (fun m _ => Option.rec (motive := fun _ => Option (List AV)) none (fun r => some (a :: r)) (ih m)) n) l
theorem tkO_eq [Tab] : ∀ (l : List AV) (n : Nat), tkO l n = if n ≤ l.length then some (l.take n) else none
  | [], 0 => rfl
  | [], n + 1 => rfl
  | a :: l, 0 => by rw [if_pos (Nat.zero_le _)]; rfl
  | a :: l, n + 1 => by
    show Option.rec (motive := fun _ => Option (List AV)) none (fun r => some (a :: r)) (tkO l n) = _
    rw [tkO_eq l n]
    by_cases h : n ≤ l.length
    · rw [if_pos h, if_pos (by simp; exact h)]; rfl
    · rw [if_neg h, if_neg (by simp; omega)]
/-- A cell written; cells written. -/
noncomputable def setV (l : List AV) : Nat → AV → Option (List AV) := List.rec (motive := fun _ => Nat → AV → Option (List AV)) (fun _ _ => none) (fun a t ih k v => Nat.rec (motive := fun _ => Option (List AV)) (some (v :: t)) (fun j _ => Option.rec (motive := fun _ => Option (List AV)) none (fun r => some (a :: r)) (ih j v)) k) l
theorem setV_eq [Tab] : ∀ (l : List AV) (k : Nat) (v : AV), setV l k v = if k < l.length then some (putL l k [v]) else none
  | [], k, v => rfl
  | a :: l, 0, v => by rw [if_pos (by simp)]; rfl
  | a :: l, k + 1, v => by
    show Option.rec (motive := fun _ => Option (List AV)) none (fun r => some (a :: r)) (setV l k v) = _
    rw [setV_eq l k v]
    by_cases h : k < l.length
    · rw [if_pos h, if_pos (by simp; exact h)]
      show some _ = some _
      congr 1
    · rw [if_neg h, if_neg (by simp; omega)]
noncomputable def preV (vs : List AV) : List AV → Option (List AV) := List.rec (motive := fun _ => List AV → Option (List AV)) (fun l => some l) (fun v _ ih l => List.rec (motive := fun _ => Option (List AV)) none (fun _ t _ => Option.rec (motive := fun _ => Option (List AV)) none (fun r => some (v :: r)) (ih t)) l) vs
theorem preV_eq [Tab] : ∀ (vs l : List AV), preV vs l = if vs.length ≤ l.length then some (vs ++ l.drop vs.length) else none
  | [], l => by rw [if_pos (show ([] : List AV).length ≤ l.length from Nat.zero_le _)]; rfl
  | v :: vs, [] => rfl
  | v :: vs, a :: l => by
    show Option.rec (motive := fun _ => Option (List AV)) none (fun r => some (v :: r)) (preV vs l) = _
    rw [preV_eq vs l]
    by_cases h : vs.length ≤ l.length
    · rw [if_pos h, if_pos (by simp; exact h)]; rfl
    · rw [if_neg h, if_neg (by simp; omega)]
noncomputable def putQ (l : List AV) : Nat → List AV → Option (List AV) := List.rec (motive := fun _ => Nat → List AV → Option (List AV)) (fun k vs => Nat.rec (motive := fun _ => Option (List AV)) (preV vs []) (fun _ _ => none) k) (fun a t ih k vs => Nat.rec (motive := fun _ => Option (List AV)) (preV vs (a :: t)) (fun j _ => Option.rec (motive := fun _ => Option (List AV)) none (fun r => some (a :: r)) (ih j vs)) k) l
theorem putQ_eq [Tab] : ∀ (l : List AV) (k : Nat) (vs : List AV), putQ l k vs = if k + vs.length ≤ l.length then some (putL l k vs) else none
  | [], 0, vs => by
    show preV vs [] = _
    rw [preV_eq]
    simp only [Nat.zero_add]
    by_cases h : vs.length ≤ ([] : List AV).length
    · rw [if_pos h, if_pos h]; unfold putL; simp
    · rw [if_neg h, if_neg h]
  | [], k + 1, vs => by rw [if_neg (by simp)]; rfl
  | a :: l, 0, vs => by
    show preV vs (a :: l) = _
    rw [preV_eq]
    simp only [Nat.zero_add]
    by_cases h : vs.length ≤ (a :: l).length
    · rw [if_pos h, if_pos h]; unfold putL; simp
    · rw [if_neg h, if_neg h]
  | a :: l, k + 1, vs => by
    show Option.rec (motive := fun _ => Option (List AV)) none (fun r => some (a :: r)) (putQ l k vs) = _
    rw [putQ_eq l k vs]
    by_cases h : k + vs.length ≤ l.length
    · rw [if_pos h, if_pos (by simp; omega)]
      show some _ = some _
      congr 1
      unfold putL
      simp
      rw [show k + 1 + vs.length = (k + vs.length) + 1 by omega, List.drop_succ_cons]
    · rw [if_neg h, if_neg (by simp; omega)]
noncomputable def eqQ (a : List UInt8) : List UInt8 → Bool := List.rec (motive := fun _ => List UInt8 → Bool) (fun b => List.rec (motive := fun _ => Bool) true (fun _ _ _ => false) b) (fun x _ ih b => List.rec (motive := fun _ => Bool) false (fun y r _ => Bool.rec (motive := fun _ => Bool) false (ih r) (Nat.beq x.toNat y.toNat)) b) a
theorem eqQ_eq [Tab] : ∀ (a b : List UInt8), eqQ a b = eqB a b
  | [], [] => rfl
  | [], _ :: _ => rfl
  | _ :: _, [] => rfl
  | x :: a, y :: b => by
    show Bool.rec (motive := fun _ => Bool) false (eqQ a b) (Nat.beq x.toNat y.toNat) = cond (Nat.beq x.toNat y.toNat) (eqB a b) false
    rw [eqQ_eq a b]
    cases Nat.beq x.toNat y.toNat <;> rfl
/-- Numbers. -/
noncomputable def maxQ (k : IntKind) : Nat := IntKind.rec (motive := fun _ => Nat) 127 32767 2147483647 9223372036854775807 255 65535 4294967295 18446744073709551615 k
theorem wrap_maxQ {k : IntKind} {x : Nat} (h : x ≤ maxQ k) : wrapA k (.ofNat x) = .ofNat x := by
  have e : ∀ k : IntKind, x ≤ maxQ k → k.wrap (.ofNat x) = .ofNat x := by
    intro k h
    unfold IntKind.wrap
    cases k <;> (simp only [maxQ] at h; simp only [IntKind.bits, IntKind.signed]; simp; omega)
  unfold wrapA
  split
  · rename_i m he; cases he; cases Nat.ble x 9223372036854775807 <;> first | rfl | exact e _ h
  · rename_i he; cases he
  · rename_i m he; cases he; cases Nat.ble x 18446744073709551615 <;> first | rfl | exact e _ h
  · rename_i m he; cases he; cases Nat.ble x 4294967295 <;> first | rfl | exact e _ h
  · rename_i m he; cases he; cases Nat.ble x 255 <;> first | rfl | exact e _ h
  · exact e _ h
noncomputable def okN (k : IntKind) (x : Nat) : Option AV := Bool.rec (motive := fun _ => Option AV) (some (.int k (wrapA k (.ofNat x)))) (some (.int k (.ofNat x))) (Nat.ble x (maxQ k))
theorem okN_eq [Tab] (k : IntKind) (x : Nat) : okN k x = some (.int k (wrapA k (.ofNat x))) := by
  unfold okN
  cases h : Nat.ble x (maxQ k) with
  | false => rfl
  | true => rw [wrap_maxQ (Nat.le_of_ble_eq_true h)]
abbrev FIq := Int → Int → IntKind → Option AV

noncomputable def addI2 (b : Int) : Nat → IntKind → Option AV := Int.rec (motive := fun _ => Nat → IntKind → Option AV) (fun n m k => okN k (Nat.add m n)) (fun n m k => intA .add k (.ofNat m) (.negSucc n)) b
noncomputable def addI (a : Int) : Int → IntKind → Option AV := Int.rec (motive := fun _ => Int → IntKind → Option AV) (fun m b k => addI2 b m k) (fun m b k => intA .add k (.negSucc m) b) a
noncomputable def subI2 (b : Int) : Nat → IntKind → Option AV := Int.rec (motive := fun _ => Nat → IntKind → Option AV) (fun n m k => Bool.rec (motive := fun _ => Option AV) (intA .sub k (.ofNat m) (.ofNat n)) (okN k (Nat.sub m n)) (Nat.ble n m)) (fun n m k => intA .sub k (.ofNat m) (.negSucc n)) b
noncomputable def subI (a : Int) : Int → IntKind → Option AV := Int.rec (motive := fun _ => Int → IntKind → Option AV) (fun m b k => subI2 b m k) (fun m b k => intA .sub k (.negSucc m) b) a
noncomputable def mulI2 (b : Int) : Nat → IntKind → Option AV := Int.rec (motive := fun _ => Nat → IntKind → Option AV) (fun n m k => okN k (Nat.mul m n)) (fun n m k => intA .mul k (.ofNat m) (.negSucc n)) b
noncomputable def mulI (a : Int) : Int → IntKind → Option AV := Int.rec (motive := fun _ => Int → IntKind → Option AV) (fun m b k => mulI2 b m k) (fun m b k => intA .mul k (.negSucc m) b) a
noncomputable def lssI2 (b : Int) : Nat → IntKind → Option AV := Int.rec (motive := fun _ => Nat → IntKind → Option AV) (fun n m k => some (.bool (Nat.ble (Nat.succ m) n))) (fun n m k => intA .lss k (.ofNat m) (.negSucc n)) b
noncomputable def lssI (a : Int) : Int → IntKind → Option AV := Int.rec (motive := fun _ => Int → IntKind → Option AV) (fun m b k => lssI2 b m k) (fun m b k => intA .lss k (.negSucc m) b) a
noncomputable def leqI2 (b : Int) : Nat → IntKind → Option AV := Int.rec (motive := fun _ => Nat → IntKind → Option AV) (fun n m k => some (.bool (Nat.ble m n))) (fun n m k => intA .leq k (.ofNat m) (.negSucc n)) b
noncomputable def leqI (a : Int) : Int → IntKind → Option AV := Int.rec (motive := fun _ => Int → IntKind → Option AV) (fun m b k => leqI2 b m k) (fun m b k => intA .leq k (.negSucc m) b) a
noncomputable def gtrI2 (b : Int) : Nat → IntKind → Option AV := Int.rec (motive := fun _ => Nat → IntKind → Option AV) (fun n m k => some (.bool (Nat.ble (Nat.succ n) m))) (fun n m k => intA .gtr k (.ofNat m) (.negSucc n)) b
noncomputable def gtrI (a : Int) : Int → IntKind → Option AV := Int.rec (motive := fun _ => Int → IntKind → Option AV) (fun m b k => gtrI2 b m k) (fun m b k => intA .gtr k (.negSucc m) b) a
noncomputable def geqI2 (b : Int) : Nat → IntKind → Option AV := Int.rec (motive := fun _ => Nat → IntKind → Option AV) (fun n m k => some (.bool (Nat.ble n m))) (fun n m k => intA .geq k (.ofNat m) (.negSucc n)) b
noncomputable def geqI (a : Int) : Int → IntKind → Option AV := Int.rec (motive := fun _ => Int → IntKind → Option AV) (fun m b k => geqI2 b m k) (fun m b k => intA .geq k (.negSucc m) b) a
noncomputable def eqlI2 (b : Int) : Nat → IntKind → Option AV := Int.rec (motive := fun _ => Nat → IntKind → Option AV) (fun n m k => some (.bool (Nat.beq m n))) (fun n m k => intA .eql k (.ofNat m) (.negSucc n)) b
noncomputable def eqlI (a : Int) : Int → IntKind → Option AV := Int.rec (motive := fun _ => Int → IntKind → Option AV) (fun m b k => eqlI2 b m k) (fun m b k => intA .eql k (.negSucc m) b) a
noncomputable def neqI2 (b : Int) : Nat → IntKind → Option AV := Int.rec (motive := fun _ => Nat → IntKind → Option AV) (fun n m k => some (.bool (!Nat.beq m n))) (fun n m k => intA .neq k (.ofNat m) (.negSucc n)) b
noncomputable def neqI (a : Int) : Int → IntKind → Option AV := Int.rec (motive := fun _ => Int → IntKind → Option AV) (fun m b k => neqI2 b m k) (fun m b k => intA .neq k (.negSucc m) b) a
theorem bleD (m n : Nat) : Nat.ble m n = decide (m ≤ n) := by
  cases h : Nat.ble m n with
  | false => exact (decide_eq_false fun h2 => by rw [Nat.ble_eq_true_of_le h2] at h; cases h).symm
  | true => exact (decide_eq_true (Nat.le_of_ble_eq_true h)).symm
theorem beqD (m n : Nat) : Nat.beq m n = decide (m = n) := by
  cases h : Nat.beq m n with
  | false => exact (decide_eq_false fun h2 => by rw [h2, show Nat.beq n n = true from Nat.beq_refl n] at h; cases h).symm
  | true => exact (decide_eq_true (Nat.eq_of_beq_eq_true h)).symm
theorem addI_eq [Tab] (a b : Int) (k : IntKind) : addI a b k = intA .add k a b := by
  cases a <;> cases b <;> try rfl
  exact okN_eq _ _
theorem mulI_eq [Tab] (a b : Int) (k : IntKind) : mulI a b k = intA .mul k a b := by
  cases a <;> cases b <;> try rfl
  exact okN_eq _ _
theorem subI_eq [Tab] (a b : Int) (k : IntKind) : subI a b k = intA .sub k a b := by
  cases a <;> cases b <;> try rfl
  rename_i m n
  show Bool.rec (motive := fun _ => Option AV) (intA .sub k (.ofNat m) (.ofNat n)) (okN k (m - n)) (Nat.ble n m) = _
  cases h : Nat.ble n m with
  | false => rfl
  | true =>
    have h := Nat.le_of_ble_eq_true h
    show okN k (m - n) = some (.int k (wrapA k (Int.ofNat m - Int.ofNat n)))
    rw [okN_eq, show (Int.ofNat m - Int.ofNat n : Int) = Int.ofNat (m - n) by simp only [Int.ofNat_eq_natCast]; omega]
theorem lssI_eq [Tab] (a b : Int) (k : IntKind) : lssI a b k = intA .lss k a b := by
  cases a <;> cases b <;> try rfl
  rename_i m n
  show some (AV.bool (Nat.ble (m + 1) n)) = some (.bool (decide (Int.ofNat m < Int.ofNat n)))
  rw [bleD]
  congr 2
  simp only [Int.ofNat_eq_natCast, decide_eq_decide]
  omega
theorem leqI_eq [Tab] (a b : Int) (k : IntKind) : leqI a b k = intA .leq k a b := by
  cases a <;> cases b <;> try rfl
  rename_i m n
  show some (AV.bool (Nat.ble m n)) = some (.bool (decide (Int.ofNat m ≤ Int.ofNat n)))
  rw [bleD]
  congr 2
  simp only [Int.ofNat_eq_natCast, decide_eq_decide]
  omega
theorem gtrI_eq [Tab] (a b : Int) (k : IntKind) : gtrI a b k = intA .gtr k a b := by
  cases a <;> cases b <;> try rfl
  rename_i m n
  show some (AV.bool (Nat.ble (n + 1) m)) = some (.bool (decide (Int.ofNat n < Int.ofNat m)))
  rw [bleD]
  congr 2
  simp only [Int.ofNat_eq_natCast, decide_eq_decide]
  omega
theorem geqI_eq [Tab] (a b : Int) (k : IntKind) : geqI a b k = intA .geq k a b := by
  cases a <;> cases b <;> try rfl
  rename_i m n
  show some (AV.bool (Nat.ble n m)) = some (.bool (decide (Int.ofNat n ≤ Int.ofNat m)))
  rw [bleD]
  congr 2
  simp only [Int.ofNat_eq_natCast, decide_eq_decide]
  omega
theorem eqlI_eq [Tab] (a b : Int) (k : IntKind) : eqlI a b k = intA .eql k a b := by
  cases a <;> cases b <;> try rfl
  rename_i m n
  show some (AV.bool (Nat.beq m n)) = some (.bool (Int.ofNat m == Int.ofNat n))
  rw [beqD, show (Int.ofNat m == Int.ofNat n) = decide (Int.ofNat m = Int.ofNat n) from rfl]
  congr 2
  simp only [Int.ofNat_eq_natCast, decide_eq_decide]
  omega
theorem neqI_eq [Tab] (a b : Int) (k : IntKind) : neqI a b k = intA .neq k a b := by
  cases a <;> cases b <;> try rfl
  rename_i m n
  show some (AV.bool (!Nat.beq m n)) = some (.bool (Int.ofNat m != Int.ofNat n))
  rw [beqD, show (Int.ofNat m != Int.ofNat n) = !decide (Int.ofNat m = Int.ofNat n) from rfl]
  congr 3
  simp only [Int.ofNat_eq_natCast, decide_eq_decide]
  omega
noncomputable def keQ (k : IntKind) : IntKind → Option AV → Option AV := IntKind.rec (motive := fun _ => IntKind → Option AV → Option AV) (fun j => IntKind.rec (motive := fun _ => Option AV → Option AV) (fun x => x) (fun _ => none) (fun _ => none) (fun _ => none) (fun _ => none) (fun _ => none) (fun _ => none) (fun _ => none) j) (fun j => IntKind.rec (motive := fun _ => Option AV → Option AV) (fun _ => none) (fun x => x) (fun _ => none) (fun _ => none) (fun _ => none) (fun _ => none) (fun _ => none) (fun _ => none) j) (fun j => IntKind.rec (motive := fun _ => Option AV → Option AV) (fun _ => none) (fun _ => none) (fun x => x) (fun _ => none) (fun _ => none) (fun _ => none) (fun _ => none) (fun _ => none) j) (fun j => IntKind.rec (motive := fun _ => Option AV → Option AV) (fun _ => none) (fun _ => none) (fun _ => none) (fun x => x) (fun _ => none) (fun _ => none) (fun _ => none) (fun _ => none) j) (fun j => IntKind.rec (motive := fun _ => Option AV → Option AV) (fun _ => none) (fun _ => none) (fun _ => none) (fun _ => none) (fun x => x) (fun _ => none) (fun _ => none) (fun _ => none) j) (fun j => IntKind.rec (motive := fun _ => Option AV → Option AV) (fun _ => none) (fun _ => none) (fun _ => none) (fun _ => none) (fun _ => none) (fun x => x) (fun _ => none) (fun _ => none) j) (fun j => IntKind.rec (motive := fun _ => Option AV → Option AV) (fun _ => none) (fun _ => none) (fun _ => none) (fun _ => none) (fun _ => none) (fun _ => none) (fun x => x) (fun _ => none) j) (fun j => IntKind.rec (motive := fun _ => Option AV → Option AV) (fun _ => none) (fun _ => none) (fun _ => none) (fun _ => none) (fun _ => none) (fun _ => none) (fun _ => none) (fun x => x) j) k
theorem keQ_eq (k j : IntKind) (x : Option AV) : keQ k j x = cond (kindEq k j) x none := by cases k <;> cases j <;> rfl
noncomputable def biQ2 (x : AV) : FIq → IntKind → Int → Option AV := AV.rec (motive_1 := fun _ => FIq → IntKind → Int → Option AV) (motive_2 := fun _ => Unit) (fun _ _ _ => none) (fun _ _ _ => none) (fun k n F j a => keQ j k (F a n j)) (fun _ _ _ _ => none) (fun _ _ _ _ => none) (fun _ _ _ => none) (fun _ _ _ _ _ => none) (fun _ _ _ => none) (fun _ _ _ _ _ _ _ => none) (fun _ _ _ _ _ _ _ => none) (fun _ _ _ => none) (fun _ _ _ _ => none) (fun _ _ _ => none) (fun _ _ _ _ _ _ => none) (fun _ _ _ _ _ _ => none) (fun _ _ _ => none) (fun _ _ _ _ _ _ => none) (fun _ _ _ _ _ => none) (fun _ _ _ _ _ => none) (fun _ _ _ _ => none) (fun _ _ _ _ _ _ _ => none) (fun _ _ _ _ => none) (fun _ _ _ _ _ _ => none) (fun _ _ _ _ => none) () (fun _ _ _ _ => ()) x
theorem biQ2_eq (x : AV) (F : FIq) (j : IntKind) (a : Int) : biQ2 x F j a = match x with | .int k n => keQ j k (F a n j) | _ => none := by cases x <;> rfl
noncomputable def biQ (x : AV) : FIq → (AV → AV → Option AV) → AV → Option AV := AV.rec (motive_1 := fun _ => FIq → (AV → AV → Option AV) → AV → Option AV) (motive_2 := fun _ => Unit) (fun _ _ _ => none) (fun _ _ _ => none) (fun k n F _ y => biQ2 y F k n) (fun _ _ _ _ => none) (fun _ _ _ _ => none) (fun _ _ _ => none) (fun _ _ _ _ _ => none) (fun _ _ _ => none) (fun _ _ _ _ _ _ _ => none) (fun _ _ _ _ _ _ _ => none) (fun _ _ _ => none) (fun _ _ _ _ => none) (fun _ _ _ => none) (fun _ _ _ _ _ _ => none) (fun _ _ _ _ _ _ => none) (fun _ _ _ => none) (fun _ _ _ _ _ _ => none) (fun _ _ _ _ _ => none) (fun _ _ _ _ _ => none) (fun _ _ _ _ => none) (fun b k lo hi _ S y => S (.symI b k lo hi) y) (fun _ _ _ _ => none) (fun _ _ _ _ _ _ => none) (fun _ _ _ _ => none) () (fun _ _ _ _ => ()) x
theorem biQ_eq (x : AV) (F : FIq) (S : AV → AV → Option AV) (y : AV) : biQ x F S y = match x with | .int k n => biQ2 y F k n | .symI b k lo hi => S (.symI b k lo hi) y | _ => none := by cases x <;> rfl
theorem biQ_ok [Tab] {P : Program} {op : BinOp} {t : Nat} {c : Bool} {F : FIq} (hF : ∀ a b k, F a b k = intA op k a b) (h1 : op ≠ .shl) (h2 : op ≠ .shr) {x y v : AV} (h : biQ x F (symB op) y = some v) : binA P op t c x y = some v := by
  rw [biQ_eq] at h
  split at h
  · rename_i k n
    rw [biQ2_eq] at h
    split at h
    · rename_i k' n'
      rw [keQ_eq, hF] at h
      unfold binA
      dsimp only
      split
      · exact absurd rfl h1
      · exact absurd rfl h2
      · exact absurd rfl h1
      · exact absurd rfl h2
      · exact h
    · cases h
  · exact h
  · cases h
noncomputable def strQ2 (x : AV) : (List UInt8 → List UInt8 → Option AV) → List UInt8 → Option AV := AV.rec (motive_1 := fun _ => (List UInt8 → List UInt8 → Option AV) → List UInt8 → Option AV) (motive_2 := fun _ => Unit) (fun _ _ => none) (fun _ _ => none) (fun _ _ _ _ => none) (fun _ _ _ => none) (fun l F a => F a l) (fun _ _ => none) (fun _ _ _ _ => none) (fun _ _ => none) (fun _ _ _ _ _ _ => none) (fun _ _ _ _ _ _ => none) (fun _ _ => none) (fun _ _ _ => none) (fun _ _ => none) (fun _ _ _ _ _ => none) (fun _ _ _ _ _ => none) (fun _ _ => none) (fun _ _ _ _ _ => none) (fun _ _ _ _ => none) (fun _ _ _ _ => none) (fun _ _ _ => none) (fun _ _ _ _ _ _ => none) (fun _ _ _ => none) (fun _ _ _ _ _ => none) (fun _ _ _ => none) () (fun _ _ _ _ => ()) x
theorem strQ2_eq (x : AV) (F : List UInt8 → List UInt8 → Option AV) (a : List UInt8) : strQ2 x F a = match x with | .str l => F a l | _ => none := by cases x <;> rfl
noncomputable def strQ (x : AV) : (List UInt8 → List UInt8 → Option AV) → (AV → AV → Option AV) → AV → Option AV := AV.rec (motive_1 := fun _ => (List UInt8 → List UInt8 → Option AV) → (AV → AV → Option AV) → AV → Option AV) (motive_2 := fun _ => Unit) (fun _ _ _ => none) (fun _ _ _ => none) (fun _ _ _ _ _ => none) (fun _ _ _ _ => none) (fun l F _ y => strQ2 y F l) (fun _ _ _ => none) (fun _ _ _ _ _ => none) (fun _ _ _ => none) (fun _ _ _ _ _ _ _ => none) (fun _ _ _ _ _ _ _ => none) (fun _ _ _ => none) (fun _ _ _ _ => none) (fun _ _ _ => none) (fun _ _ _ _ _ _ => none) (fun _ _ _ _ _ _ => none) (fun _ _ _ => none) (fun _ _ _ _ _ _ => none) (fun _ _ _ _ _ => none) (fun _ _ _ _ _ => none) (fun _ _ _ _ => none) (fun _ _ _ _ _ _ _ => none) (fun b _ S y => S (.symS b) y) (fun b lo hi _ S y => S (.symT b lo hi) y) (fun _ _ _ _ => none) () (fun _ _ _ _ => ()) x
theorem strQ_eq (x : AV) (F : List UInt8 → List UInt8 → Option AV) (S : AV → AV → Option AV) (y : AV) : strQ x F S y = match x with | .str l => strQ2 y F l | .symS b => S (.symS b) y | .symT b lo hi => S (.symT b lo hi) y | _ => none := by cases x <;> rfl
theorem strQ_ok [Tab] {P : Program} {op : BinOp} {t : Nat} {c : Bool} {F : List UInt8 → List UInt8 → Option AV} (hF : ∀ a b, F a b = strA op a b) {x y v : AV} (h : strQ x F (symB op) y = some v) : binA P op t c x y = some v := by
  rw [strQ_eq] at h
  split at h
  · rw [strQ2_eq] at h
    split at h
    · rw [hF] at h
      exact h
    · cases h
  · exact h
  · exact h
  · cases h
noncomputable def catS (a b : List UInt8) : Option AV := Bool.rec (motive := fun _ => Option AV) none (some (.str (List.append a b))) (Nat.ble (Nat.add (lenB a) (lenB b)) 9223372036854775807)
noncomputable def eqlS (a b : List UInt8) : Option AV := some (.bool (eqQ a b))
noncomputable def neqS (a b : List UInt8) : Option AV := some (.bool (!eqQ a b))
theorem catS_eq [Tab] (a b : List UInt8) : catS a b = strA .add a b := by
  unfold catS
  rw [lenB_eq, lenB_eq]
  show _ = cond (Nat.ble (Nat.add a.length b.length) 9223372036854775807) (some (AV.str (List.append a b))) none
  cases Nat.ble (Nat.add a.length b.length) 9223372036854775807 <;> rfl
theorem eqlS_eq [Tab] (a b : List UInt8) : eqlS a b = strA .eql a b := by unfold eqlS; rw [eqQ_eq]; rfl
theorem neqS_eq [Tab] (a b : List UInt8) : neqS a b = strA .neq a b := by unfold neqS; rw [eqQ_eq]; rfl
/-- A byte of a string. -/
noncomputable def byQ (c : Option UInt8) : Option AV := Option.rec (motive := fun _ => Option AV) none (fun c => some (.int .u8 (.ofNat c.toNat))) c
noncomputable def ixI (n : Int) : List UInt8 → Option AV := Int.rec (motive := fun _ => List UInt8 → Option AV) (fun m l => byQ (nthB l m)) (fun _ _ => none) n
noncomputable def ixQ2 (x : AV) : List UInt8 → Option AV := AV.rec (motive_1 := fun _ => List UInt8 → Option AV) (motive_2 := fun _ => Unit) (fun _ => none) (fun _ => none) (fun _ n s => ixI n s) (fun _ _ => none) (fun _ _ => none) (fun _ => none) (fun _ _ _ => none) (fun _ => none) (fun _ _ _ _ _ => none) (fun _ _ _ _ _ => none) (fun _ => none) (fun _ _ => none) (fun _ => none) (fun _ _ _ _ => none) (fun _ _ _ _ => none) (fun _ => none) (fun _ _ _ _ => none) (fun _ _ _ => none) (fun _ _ _ => none) (fun _ _ => none) (fun _ _ _ _ _ => none) (fun _ _ => none) (fun _ _ _ _ => none) (fun _ _ => none) () (fun _ _ _ _ => ()) x
theorem ixQ2_eq (x : AV) (s : List UInt8) : ixQ2 x s = match x with | .int k n => ixI n s | _ => none := by cases x <;> rfl
noncomputable def ixQ (x : AV) : AV → Option AV := AV.rec (motive_1 := fun _ => AV → Option AV) (motive_2 := fun _ => Unit) (fun _ => none) (fun _ => none) (fun _ _ _ => none) (fun _ _ => none) (fun l i => ixQ2 i l) (fun _ => none) (fun _ _ _ => none) (fun _ => none) (fun _ _ _ _ _ => none) (fun _ _ _ _ _ => none) (fun _ => none) (fun _ _ => none) (fun _ => none) (fun _ _ _ _ => none) (fun _ _ _ _ => none) (fun _ => none) (fun _ _ _ _ => none) (fun _ _ _ => none) (fun _ _ _ => none) (fun _ _ => none) (fun _ _ _ _ _ => none) (fun _ _ => none) (fun _ _ _ _ => none) (fun _ _ => none) () (fun _ _ _ _ => ()) x
theorem ixQ_eq (x : AV) (i : AV) : ixQ x i = match x with | .str l => ixQ2 i l | _ => none := by cases x <;> rfl
theorem ixQ_ok [Tab] {P : Program} {t : Nat} (ht : P.underlying t = some .string) {x i v : AV} (h : ixQ x i = some v) : indexA P t x i = some v := by
  rw [ixQ_eq] at h
  split at h
  · rename_i l
    rw [ixQ2_eq] at h
    split at h
    · rename_i k n
      cases n with
      | negSucc m => cases h
      | ofNat m =>
        replace h : byQ (nthB l m) = some v := h
        rw [nthB_eq] at h
        unfold indexA
        dsimp only
        rw [ht]
        dsimp only
        cases hc : l[m]? with
        | none => rw [hc] at h; cases h
        | some c =>
          rw [hc] at h
          have hm : m < l.length := (List.getElem?_eq_some_iff.1 hc).1
          have : natA l.length (.int k (.ofNat m)) = some m := by
            show cond (Nat.ble m l.length) (some m) none = some m
            rw [Nat.ble_eq_true_of_le (Nat.le_of_lt hm)]
            rfl
          rw [this]
          dsimp only
          rw [hc]
          exact h
    · cases h
  · cases h
/-- Loads. -/
noncomputable def ldC (x : AB) : Nat → Option AV := AB.rec (motive := fun _ => Nat → Option AV) (fun _ => none) (fun cs _ o => nthV cs o) (fun _ _ _ => none) (fun _ _ _ => none) (fun _ _ _ _ => none) (fun _ _ _ => none) x
noncomputable def aggO (x : Option (List AV)) : Option AV := Option.rec (motive := fun _ => Option AV) none (fun l => some (.agg l)) x
noncomputable def ldR (x : AB) : Nat → Nat → Option AV := AB.rec (motive := fun _ => Nat → Nat → Option AV) (fun _ _ => none) (fun cs _ o n => aggO (tkO (drpV o cs) n)) (fun _ _ _ _ => none) (fun _ _ _ _ => none) (fun _ _ _ _ _ => none) (fun _ _ _ _ => none) x
noncomputable def ldQ (x : AV) : AS → Option AV := AV.rec (motive_1 := fun _ => AS → Option AV) (motive_2 := fun _ => Unit) (fun _ => none) (fun _ => none) (fun _ _ _ => none) (fun _ _ => none) (fun _ _ => none) (fun _ => none) (fun b o s => ldC (s.get b) o) (fun _ => none) (fun _ _ _ _ _ => none) (fun _ _ _ _ _ => none) (fun _ => none) (fun _ _ => none) (fun _ => none) (fun _ _ _ _ => none) (fun _ _ _ _ => none) (fun _ => none) (fun _ _ _ _ => none) (fun _ _ _ => none) (fun _ _ _ => none) (fun _ _ => none) (fun _ _ _ _ _ => none) (fun _ _ => none) (fun _ _ _ _ => none) (fun _ _ => none) () (fun _ _ _ _ => ()) x
theorem ldQ_eq (x : AV) (s : AS) : ldQ x s = match x with | .ptr b o => ldC (s.get b) o | _ => none := by cases x <;> rfl
noncomputable def ldRQ (x : AV) : AS → Nat → Option AV := AV.rec (motive_1 := fun _ => AS → Nat → Option AV) (motive_2 := fun _ => Unit) (fun _ _ => none) (fun _ _ => none) (fun _ _ _ _ => none) (fun _ _ _ => none) (fun _ _ _ => none) (fun _ _ => none) (fun b o s n => ldR (s.get b) o n) (fun _ _ => none) (fun _ _ _ _ _ _ => none) (fun _ _ _ _ _ _ => none) (fun _ _ => none) (fun _ _ _ => none) (fun _ _ => none) (fun _ _ _ _ _ => none) (fun _ _ _ _ _ => none) (fun _ _ => none) (fun _ _ _ _ _ => none) (fun _ _ _ _ => none) (fun _ _ _ _ => none) (fun _ _ _ => none) (fun _ _ _ _ _ _ => none) (fun _ _ _ => none) (fun _ _ _ _ _ => none) (fun _ _ _ => none) () (fun _ _ _ _ => ()) x
theorem ldRQ_eq (x : AV) (s : AS) (n : Nat) : ldRQ x s n = match x with | .ptr b o => ldR (s.get b) o n | _ => none := by cases x <;> rfl
theorem ldQ_ok [Tab] {P : Program} {t : Nat} {d : TypeDesc} (hd : P.underlying t = some d) (hr : rowD d = false) {x v : AV} {s : AS} (h : ldQ x s = some v) : loadA P t x s = some v := by
  rw [ldQ_eq] at h
  split at h
  · rename_i b o
    unfold loadA
    dsimp only
    cases hg : s.get b <;> rw [hg] at h <;> try (cases h; done)
    rename_i cs ty
    dsimp only
    rw [hd]
    dsimp only
    rw [hr]
    show cs[o]? = some v
    rw [← nthV_eq]
    exact h
  · cases h
theorem ldRQ_ok [Tab] {P : Program} {t : Nat} {d : TypeDesc} {i : TypeInfo} (hd : P.underlying t = some d) (hr : rowD d = true) (hi : P.info? t = some i) (hz : 1 ≤ i.size) {x v : AV} {s : AS} (h : ldRQ x s i.size = some v) : loadA P t x s = some v := by
  rw [ldRQ_eq] at h
  split at h
  · rename_i b o
    unfold loadA
    dsimp only
    cases hg : s.get b <;> rw [hg] at h <;> try (cases h; done)
    rename_i cs ty
    dsimp only
    rw [hd, hi]
    dsimp only
    rw [hr]
    replace h : aggO (tkO (drpV o cs) i.size) = some v := h
    rw [drpV_eq, tkO_eq] at h
    by_cases hl : i.size ≤ (cs.drop o).length
    · rw [if_pos hl] at h
      rw [List.length_drop] at hl
      rw [show Nat.ble (Nat.add o i.size) cs.length = true from Nat.ble_eq_true_of_le (by show o + i.size ≤ cs.length; omega)]
      exact h
    · rw [if_neg hl] at h; cases h
  · cases h
/-- Stores: the block, what it holds then. -/
noncomputable def prQ (b : Nat) (x : Option AB) : Option (Nat × AB) := Option.rec (motive := fun _ => Option (Nat × AB)) none (fun z => some (b, z)) x
noncomputable def celO (ty : Nat) (x : Option (List AV)) : Option AB := Option.rec (motive := fun _ => Option AB) none (fun l => some (.cells l ty)) x
noncomputable def stC (x : AB) : Nat → AV → Option AB := AB.rec (motive := fun _ => Nat → AV → Option AB) (fun _ _ => none) (fun cs ty o v => celO ty (setV cs o v)) (fun _ _ _ _ => none) (fun _ _ _ _ => none) (fun _ _ _ _ _ => none) (fun _ _ _ _ => none) x
noncomputable def stR (x : AB) : Nat → List AV → Option AB := AB.rec (motive := fun _ => Nat → List AV → Option AB) (fun _ _ => none) (fun cs ty o vs => celO ty (putQ cs o vs)) (fun _ _ _ _ => none) (fun _ _ _ _ => none) (fun _ _ _ _ _ => none) (fun _ _ _ _ => none) x
noncomputable def stQ1 (x : AV) : AV → AS → Option (Nat × AB) := AV.rec (motive_1 := fun _ => AV → AS → Option (Nat × AB)) (motive_2 := fun _ => Unit) (fun _ _ => none) (fun _ _ => none) (fun _ _ _ _ => none) (fun _ _ _ => none) (fun _ _ _ => none) (fun _ _ => none) (fun b o v s => prQ b (stC (s.get b) o v)) (fun _ _ => none) (fun _ _ _ _ _ _ => none) (fun _ _ _ _ _ _ => none) (fun _ _ => none) (fun _ _ _ => none) (fun _ _ => none) (fun _ _ _ _ _ => none) (fun _ _ _ _ _ => none) (fun _ _ => none) (fun _ _ _ _ _ => none) (fun _ _ _ _ => none) (fun _ _ _ _ => none) (fun _ _ _ => none) (fun _ _ _ _ _ _ => none) (fun _ _ _ => none) (fun _ _ _ _ _ => none) (fun _ _ _ => none) () (fun _ _ _ _ => ()) x
theorem stQ1_eq (x : AV) (v : AV) (s : AS) : stQ1 x v s = match x with | .ptr b o => prQ b (stC (s.get b) o v) | _ => none := by cases x <;> rfl
noncomputable def stQ (x : AV) : AV → AS → Option (Nat × AB) := AV.rec (motive_1 := fun _ => AV → AS → Option (Nat × AB)) (motive_2 := fun _ => Unit) (fun _ _ => none) (fun _ _ => none) (fun k n a s => stQ1 a (.int k n) s) (fun b a s => stQ1 a (.bool b) s) (fun l a s => stQ1 a (.str l) s) (fun a s => stQ1 a .nilp s) (fun b o a s => stQ1 a (.ptr b o) s) (fun a s => stQ1 a .nils s) (fun b o n c a s => stQ1 a (.sl b o n c) s) (fun b o n e a s => stQ1 a (.slu b o n e) s) (fun a s => stQ1 a .nilm s) (fun b a s => stQ1 a (.mapp b) s) (fun a s => stQ1 a .nilfn s) (fun f cs _ a s => stQ1 a (.fn f cs) s) (fun f cs _ a s => stQ1 a (.fnm f cs) s) (fun a s => stQ1 a .nili s) (fun u v _ a s => stQ1 a (.ifc u v) s) (fun _ _ _ _ => none) (fun _ _ _ _ => none) (fun _ _ _ => none) (fun b k lo hi a s => stQ1 a (.symI b k lo hi) s) (fun b a s => stQ1 a (.symS b) s) (fun b lo hi a s => stQ1 a (.symT b lo hi) s) (fun n a s => stQ1 a (.symZ n) s) () (fun _ _ _ _ => ()) x
theorem stQ_eq (x : AV) (a : AV) (s : AS) : stQ x a s = match x with | .int k n => stQ1 a (.int k n) s | .bool b => stQ1 a (.bool b) s | .str l => stQ1 a (.str l) s | .nilp => stQ1 a .nilp s | .ptr b o => stQ1 a (.ptr b o) s | .nils => stQ1 a .nils s | .sl b o n c => stQ1 a (.sl b o n c) s | .slu b o n e => stQ1 a (.slu b o n e) s | .nilm => stQ1 a .nilm s | .mapp b => stQ1 a (.mapp b) s | .nilfn => stQ1 a .nilfn s | .fn f cs => stQ1 a (.fn f cs) s | .fnm f cs => stQ1 a (.fnm f cs) s | .nili => stQ1 a .nili s | .ifc u v => stQ1 a (.ifc u v) s | .symI b k lo hi => stQ1 a (.symI b k lo hi) s | .symS b => stQ1 a (.symS b) s | .symT b lo hi => stQ1 a (.symT b lo hi) s | .symZ n => stQ1 a (.symZ n) s | _ => none := by cases x <;> rfl
noncomputable def stRQ1 (x : AV) : List AV → AS → Option (Nat × AB) := AV.rec (motive_1 := fun _ => List AV → AS → Option (Nat × AB)) (motive_2 := fun _ => Unit) (fun _ _ => none) (fun _ _ => none) (fun _ _ _ _ => none) (fun _ _ _ => none) (fun _ _ _ => none) (fun _ _ => none) (fun b o vs s => prQ b (stR (s.get b) o vs)) (fun _ _ => none) (fun _ _ _ _ _ _ => none) (fun _ _ _ _ _ _ => none) (fun _ _ => none) (fun _ _ _ => none) (fun _ _ => none) (fun _ _ _ _ _ => none) (fun _ _ _ _ _ => none) (fun _ _ => none) (fun _ _ _ _ _ => none) (fun _ _ _ _ => none) (fun _ _ _ _ => none) (fun _ _ _ => none) (fun _ _ _ _ _ _ => none) (fun _ _ _ => none) (fun _ _ _ _ _ => none) (fun _ _ _ => none) () (fun _ _ _ _ => ()) x
theorem stRQ1_eq (x : AV) (vs : List AV) (s : AS) : stRQ1 x vs s = match x with | .ptr b o => prQ b (stR (s.get b) o vs) | _ => none := by cases x <;> rfl
noncomputable def oneQ (x : AV) : Bool := AV.rec (motive_1 := fun _ => Bool) (motive_2 := fun _ => Unit) (false) (false) (fun _ _ => true) (fun _ => true) (fun _ => true) (true) (fun _ _ => true) (true) (fun _ _ _ _ => true) (fun _ _ _ _ => true) (true) (fun _ => true) (true) (fun _ _ _ => true) (fun _ _ _ => true) (true) (fun _ _ _ => true) (fun _ _ => false) (fun _ _ => false) (fun _ => true) (fun _ _ _ _ => true) (fun _ => true) (fun _ _ _ => true) (fun _ => true) () (fun _ _ _ _ => ()) x
theorem oneQ_eq (x : AV) : oneQ x = oneA x := by cases x <;> rfl
noncomputable def onesQ (l : List AV) : Bool := List.rec (motive := fun _ => Bool) true (fun a _ ih => Bool.rec (motive := fun _ => Bool) false ih (oneQ a)) l
theorem onesQ_eq [Tab] : ∀ l : List AV, onesQ l = l.all oneA
  | [] => rfl
  | a :: l => by
    show Bool.rec (motive := fun _ => Bool) false (onesQ l) (oneQ a) = (oneA a && l.all oneA)
    rw [onesQ_eq l, oneQ_eq]
    cases oneA a <;> rfl
noncomputable def bifO {α : Type} (b : Bool) (x : Option α) : Option α := Bool.rec (motive := fun _ => Option α) none x b
theorem bifO_some {α : Type} {b : Bool} {x : Option α} {y : α} (h : bifO b x = some y) : b = true ∧ x = some y := by
  cases b
  · cases h
  · exact ⟨rfl, h⟩
noncomputable def stRQ (x : AV) : AV → AS → Nat → Option (Nat × AB) := AV.rec (motive_1 := fun _ => AV → AS → Nat → Option (Nat × AB)) (motive_2 := fun _ => Unit) (fun _ _ _ => none) (fun _ _ _ => none) (fun _ _ _ _ _ => none) (fun _ _ _ _ => none) (fun _ _ _ _ => none) (fun _ _ _ => none) (fun _ _ _ _ _ => none) (fun _ _ _ => none) (fun _ _ _ _ _ _ _ => none) (fun _ _ _ _ _ _ _ => none) (fun _ _ _ => none) (fun _ _ _ _ => none) (fun _ _ _ => none) (fun _ _ _ _ _ _ => none) (fun _ _ _ _ _ _ => none) (fun _ _ _ => none) (fun _ _ _ _ _ _ => none) (fun cs _ a s n => bifO (Nat.beq n (lenV cs)) (bifO (onesQ cs) (stRQ1 a cs s))) (fun _ _ _ _ _ => none) (fun _ _ _ _ => none) (fun _ _ _ _ _ _ _ => none) (fun _ _ _ _ => none) (fun _ _ _ _ _ _ => none) (fun _ _ _ _ => none) () (fun _ _ _ _ => ()) x
theorem stRQ_eq (x : AV) (a : AV) (s : AS) (n : Nat) : stRQ x a s n = match x with | .agg cs => bifO (Nat.beq n (lenV cs)) (bifO (onesQ cs) (stRQ1 a cs s)) | _ => none := by cases x <;> rfl
theorem prQ_ok {b c : Nat} {x : Option AB} {y : AB} (h : prQ b x = some (c, y)) : c = b ∧ x = some y := by
  cases x with
  | none => cases h
  | some z =>
    injection h with h
    injection h with e1 e2
    exact ⟨e1.symm, by rw [e2]⟩
theorem stQ_ok [Tab] {P : Program} {t : Nat} {i : TypeInfo} (hi : P.info? t = some i) (hz : i.size = 1) {a v : AV} {s : AS} {b : Nat} {y : AB} (h0 : stQ v a s = some (b, y)) : storeA P t a v s = some (s.put b y) := by
  have key : cellsA v = some [v] ∧ stQ1 a v s = some (b, y) := by
    cases v <;> first | (cases h0; done) | exact ⟨rfl, h0⟩
  obtain ⟨hc, h⟩ := key
  rw [stQ1_eq] at h
  split at h
  · rename_i q o
    obtain ⟨rfl, h2⟩ := prQ_ok h
    clear h h0
    have h := h2
    clear h2
    unfold storeA
    dsimp only
    cases hg : s.get b <;> rw [hg] at h <;> try (cases h; done)
    rename_i cs ty
    dsimp only
    rw [hc, hi]
    dsimp only
    rw [hz]
    replace h : celO ty (setV cs o v) = some y := h
    rw [setV_eq] at h
    by_cases hl : o < cs.length
    · rw [if_pos hl] at h
      injection h with h
      rw [← h, show Nat.beq 1 [v].length = true from rfl, show Nat.ble (Nat.add o [v].length) cs.length = true from Nat.ble_eq_true_of_le (by show o + 1 ≤ _; omega)]
      rfl
    · rw [if_neg hl] at h; cases h
  · cases h
theorem stRQ_ok [Tab] {P : Program} {t : Nat} {i : TypeInfo} (hi : P.info? t = some i) {a v : AV} {s : AS} {b : Nat} {y : AB} (h : stRQ v a s i.size = some (b, y)) : storeA P t a v s = some (s.put b y) := by
  rw [stRQ_eq] at h
  split at h
  · rename_i vs
    obtain ⟨h1, g1⟩ := bifO_some h
    obtain ⟨h2, g2⟩ := bifO_some g1
    clear h g1
    rw [lenV_eq] at h1
    rw [onesQ_eq] at h2
    rw [stRQ1_eq] at g2
    split at g2
    · rename_i q o
      obtain ⟨rfl, h⟩ := prQ_ok g2
      clear g2
      unfold storeA
      dsimp only
      cases hg : s.get b <;> rw [hg] at h <;> try (cases h; done)
      rename_i cs ty
      have hc : cellsA (.agg vs) = some vs := by
        show cond (vs.all oneA) (some vs) none = some vs
        rw [h2]
        rfl
      dsimp only
      rw [hc, hi]
      dsimp only
      rw [h1]
      replace h : celO ty (putQ cs o vs) = some y := h
      rw [putQ_eq] at h
      by_cases hl : o + vs.length ≤ cs.length
      · rw [if_pos hl] at h
        injection h with h
        rw [← h, show Nat.ble (Nat.add o vs.length) cs.length = true from Nat.ble_eq_true_of_le hl]
        rfl
      · rw [if_neg hl] at h; cases h
    · cases g2
  · cases h
/-- A place of a row. -/
noncomputable def iaI (n : Int) : Nat → Nat → Nat → Nat → Option AV := Int.rec (motive := fun _ => Nat → Nat → Nat → Nat → Option AV) (fun m b o len sz => bifO (Nat.ble (Nat.succ m) len) (some (.ptr b (Nat.add o (Nat.mul m sz))))) (fun _ _ _ _ _ => none) n
noncomputable def iaQ2 (x : AV) : Nat → Nat → Nat → Nat → Option AV := AV.rec (motive_1 := fun _ => Nat → Nat → Nat → Nat → Option AV) (motive_2 := fun _ => Unit) (fun _ _ _ _ => none) (fun _ _ _ _ => none) (fun _ n b o len sz => iaI n b o len sz) (fun _ _ _ _ _ => none) (fun _ _ _ _ _ => none) (fun _ _ _ _ => none) (fun _ _ _ _ _ _ => none) (fun _ _ _ _ => none) (fun _ _ _ _ _ _ _ _ => none) (fun _ _ _ _ _ _ _ _ => none) (fun _ _ _ _ => none) (fun _ _ _ _ _ => none) (fun _ _ _ _ => none) (fun _ _ _ _ _ _ _ => none) (fun _ _ _ _ _ _ _ => none) (fun _ _ _ _ => none) (fun _ _ _ _ _ _ _ => none) (fun _ _ _ _ _ _ => none) (fun _ _ _ _ _ _ => none) (fun _ _ _ _ _ => none) (fun _ _ _ _ _ _ _ _ => none) (fun _ _ _ _ _ => none) (fun _ _ _ _ _ _ _ => none) (fun _ _ _ _ _ => none) () (fun _ _ _ _ => ()) x
theorem iaQ2_eq (x : AV) (b : Nat) (o : Nat) (len : Nat) (sz : Nat) : iaQ2 x b o len sz = match x with | .int k n => iaI n b o len sz | _ => none := by cases x <;> rfl
noncomputable def iaQ (x : AV) : AV → Nat → Option AV := AV.rec (motive_1 := fun _ => AV → Nat → Option AV) (motive_2 := fun _ => Unit) (fun _ _ => none) (fun _ _ => none) (fun _ _ _ _ => none) (fun _ _ _ => none) (fun _ _ _ => none) (fun _ _ => none) (fun _ _ _ _ => none) (fun _ _ => none) (fun b o n _ i sz => iaQ2 i b o n sz) (fun b o n _ i sz => iaQ2 i b o n sz) (fun _ _ => none) (fun _ _ _ => none) (fun _ _ => none) (fun _ _ _ _ _ => none) (fun _ _ _ _ _ => none) (fun _ _ => none) (fun _ _ _ _ _ => none) (fun _ _ _ _ => none) (fun _ _ _ _ => none) (fun _ _ _ => none) (fun _ _ _ _ _ _ => none) (fun _ _ _ => none) (fun _ _ _ _ _ => none) (fun _ _ _ => none) () (fun _ _ _ _ => ()) x
theorem iaQ_eq (x : AV) (i : AV) (sz : Nat) : iaQ x i sz = match x with | .sl b o n c => iaQ2 i b o n sz | .slu b o n e => iaQ2 i b o n sz | _ => none := by cases x <;> rfl
noncomputable def iaAQ (x : AV) : AV → Nat → Nat → Option AV := AV.rec (motive_1 := fun _ => AV → Nat → Nat → Option AV) (motive_2 := fun _ => Unit) (fun _ _ _ => none) (fun _ _ _ => none) (fun _ _ _ _ _ => none) (fun _ _ _ _ => none) (fun _ _ _ _ => none) (fun _ _ _ => none) (fun b o i len sz => iaQ2 i b o len sz) (fun _ _ _ => none) (fun _ _ _ _ _ _ _ => none) (fun _ _ _ _ _ _ _ => none) (fun _ _ _ => none) (fun _ _ _ _ => none) (fun _ _ _ => none) (fun _ _ _ _ _ _ => none) (fun _ _ _ _ _ _ => none) (fun _ _ _ => none) (fun _ _ _ _ _ _ => none) (fun _ _ _ _ _ => none) (fun _ _ _ _ _ => none) (fun _ _ _ _ => none) (fun _ _ _ _ _ _ _ => none) (fun _ _ _ _ => none) (fun _ _ _ _ _ _ => none) (fun _ _ _ _ => none) () (fun _ _ _ _ => ()) x
theorem iaAQ_eq (x : AV) (i : AV) (len : Nat) (sz : Nat) : iaAQ x i len sz = match x with | .ptr b o => iaQ2 i b o len sz | _ => none := by cases x <;> rfl
theorem iaQ2_ok [Tab] {i v : AV} {b o len sz : Nat} (h : iaQ2 i b o len sz = some v) : ∃ m, natA len i = some m ∧ Nat.beq m len = false ∧ v = .ptr b (Nat.add o (Nat.mul m sz)) := by
  rw [iaQ2_eq] at h
  split at h
  · rename_i k n
    cases n with
    | negSucc m => cases h
    | ofNat m =>
      obtain ⟨h1, h⟩ := bifO_some h
      injection h with h
      have hm : m < len := Nat.le_of_ble_eq_true h1
      refine ⟨m, ?_, ?_, h.symm⟩
      · show cond (Nat.ble m len) (some m) none = some m
        rw [Nat.ble_eq_true_of_le (Nat.le_of_lt hm)]
        rfl
      · rw [beqD]
        exact decide_eq_false (by omega)
  · cases h
theorem iaQ_ok [Tab] {P : Program} {t e : Nat} {ie : TypeInfo} (ht : P.underlying t = some (.slice e)) (he : P.info? e = some ie) {x i v : AV} (h : iaQ x i ie.size = some v) : indexAddrA P t x i = some v := by
  rw [iaQ_eq] at h
  unfold indexAddrA
  rw [ht]
  dsimp only
  rw [he]
  dsimp only
  split at h
  · obtain ⟨m, h1, h2, rfl⟩ := iaQ2_ok h
    dsimp only
    rw [h1]
    dsimp only
    rw [h2]
    rfl
  · obtain ⟨m, h1, h2, rfl⟩ := iaQ2_ok h
    dsimp only
    rw [h1]
    dsimp only
    rw [h2]
    rfl
  · cases h
theorem iaAQ_ok [Tab] {P : Program} {t e n : Nat} {ie : TypeInfo} (ht : P.underlying t = some (.array n e)) (he : P.info? e = some ie) {x i v : AV} (h : iaAQ x i n ie.size = some v) : indexAddrA P t x i = some v := by
  rw [iaAQ_eq] at h
  unfold indexAddrA
  rw [ht]
  dsimp only
  rw [he]
  dsimp only
  split at h
  · obtain ⟨m, h1, h2, rfl⟩ := iaQ2_ok h
    dsimp only
    rw [h1]
    dsimp only
    rw [h2]
    rfl
  · cases h
noncomputable def exQ (x : AV) : Nat → Option AV := AV.rec (motive_1 := fun _ => Nat → Option AV) (motive_2 := fun _ => Unit) (fun _ => none) (fun _ => none) (fun _ _ _ => none) (fun _ _ => none) (fun _ _ => none) (fun _ => none) (fun _ _ _ => none) (fun _ => none) (fun _ _ _ _ _ => none) (fun _ _ _ _ _ => none) (fun _ => none) (fun _ _ => none) (fun _ => none) (fun _ _ _ _ => none) (fun _ _ _ _ => none) (fun _ => none) (fun _ _ _ _ => none) (fun _ _ _ => none) (fun cs _ i => nthV cs i) (fun _ _ => none) (fun _ _ _ _ _ => none) (fun _ _ => none) (fun _ _ _ _ => none) (fun _ _ => none) () (fun _ _ _ _ => ()) x
theorem exQ_eq (x : AV) (i : Nat) : exQ x i = match x with | .tup cs => nthV cs i | _ => none := by cases x <;> rfl
theorem exQ_ok [Tab] {x v : AV} {i : Nat} (h : exQ x i = some v) : extractA x i = some v := by
  rw [exQ_eq] at h
  split at h
  · rw [nthV_eq] at h; exact h
  · cases h
noncomputable def fdQ (x : AV) : Nat → Option AV := AV.rec (motive_1 := fun _ => Nat → Option AV) (motive_2 := fun _ => Unit) (fun _ => none) (fun _ => none) (fun _ _ _ => none) (fun _ _ => none) (fun _ _ => none) (fun _ => none) (fun _ _ _ => none) (fun _ => none) (fun _ _ _ _ _ => none) (fun _ _ _ _ _ => none) (fun _ => none) (fun _ _ => none) (fun _ => none) (fun _ _ _ _ => none) (fun _ _ _ _ => none) (fun _ => none) (fun _ _ _ _ => none) (fun cs _ o => nthV cs o) (fun _ _ _ => none) (fun _ _ => none) (fun _ _ _ _ _ => none) (fun _ _ => none) (fun _ _ _ _ => none) (fun _ _ => none) () (fun _ _ _ _ => ()) x
theorem fdQ_eq (x : AV) (o : Nat) : fdQ x o = match x with | .agg cs => nthV cs o | _ => none := by cases x <;> rfl
noncomputable def fdRQ (x : AV) : Nat → Nat → Option AV := AV.rec (motive_1 := fun _ => Nat → Nat → Option AV) (motive_2 := fun _ => Unit) (fun _ _ => none) (fun _ _ => none) (fun _ _ _ _ => none) (fun _ _ _ => none) (fun _ _ _ => none) (fun _ _ => none) (fun _ _ _ _ => none) (fun _ _ => none) (fun _ _ _ _ _ _ => none) (fun _ _ _ _ _ _ => none) (fun _ _ => none) (fun _ _ _ => none) (fun _ _ => none) (fun _ _ _ _ _ => none) (fun _ _ _ _ _ => none) (fun _ _ => none) (fun _ _ _ _ _ => none) (fun cs _ o m => aggO (tkO (drpV o cs) m)) (fun _ _ _ _ => none) (fun _ _ _ => none) (fun _ _ _ _ _ _ => none) (fun _ _ _ => none) (fun _ _ _ _ _ => none) (fun _ _ _ => none) () (fun _ _ _ _ => ()) x
theorem fdRQ_eq (x : AV) (o : Nat) (m : Nat) : fdRQ x o m = match x with | .agg cs => aggO (tkO (drpV o cs) m) | _ => none := by cases x <;> rfl
theorem faQ_ok [Tab] {P : Program} {t f off size : Nat} {r : Bool} (hf : fieldAt P t f = some (off, size, r)) (hz : Nat.beq size 0 = false) {x v : AV} (h : faQ x off = some v) : fieldAddrA P t f x = some v := by
  rw [faQ_eq] at h
  split at h
  · unfold fieldAddrA
    dsimp only
    rw [hf]
    dsimp only
    rw [hz]
    exact h
  · cases h
theorem fdQ_ok [Tab] {P : Program} {t f off size : Nat} (hf : fieldAt P t f = some (off, size, false)) {x v : AV} (h : fdQ x off = some v) : fieldA P t f x = some v := by
  rw [fdQ_eq] at h
  split at h
  · unfold fieldA
    dsimp only
    rw [hf]
    rw [nthV_eq] at h
    exact h
  · cases h
theorem fdRQ_ok [Tab] {P : Program} {t f off size : Nat} (hf : fieldAt P t f = some (off, size, true)) (hz : 1 ≤ size) {x v : AV} (h : fdRQ x off size = some v) : fieldA P t f x = some v := by
  rw [fdRQ_eq] at h
  split at h
  · rename_i cs
    unfold fieldA
    dsimp only
    rw [hf]
    rw [drpV_eq, tkO_eq] at h
    by_cases hl : size ≤ (cs.drop off).length
    · rw [if_pos hl] at h
      rw [List.length_drop] at hl
      show cond (Nat.ble (Nat.add off size) cs.length) _ none = some v
      rw [Nat.ble_eq_true_of_le (by show off + size ≤ cs.length; omega)]
      exact h
    · rw [if_neg hl] at h; cases h
  · cases h
/-- Slices of strings. -/
noncomputable def bndQ (y d : Nat) (x : Option AV) : Option Nat := Option.rec (motive := fun _ => Option Nat) (some d) (fun a => natQ a y) x
theorem bndQ_eq [Tab] (y d : Nat) (x : Option AV) : bndQ y d x = bndA y d x := by
  cases x with
  | none => rfl
  | some a => exact natQ_eq a y
noncomputable def sl3 (l : List UInt8) (h : Nat) (q : Option Nat) : Option AV := Option.rec (motive := fun _ => Option AV) none (fun q => some (.str (takB (drpB q l) (Nat.sub h q)))) q
noncomputable def sl2 (l : List UInt8) (lo : Option AV) (h : Option Nat) : Option AV := Option.rec (motive := fun _ => Option AV) none (fun h => sl3 l h (bndQ h 0 lo)) h
noncomputable def slSQ (x : AV) : Option AV → Option AV → Option AV := AV.rec (motive_1 := fun _ => Option AV → Option AV → Option AV) (motive_2 := fun _ => Unit) (fun _ _ => none) (fun _ _ => none) (fun _ _ _ _ => none) (fun _ _ _ => none) (fun l lo hi => sl2 l lo (bndQ (lenB l) (lenB l) hi)) (fun _ _ => none) (fun _ _ _ _ => none) (fun _ _ => none) (fun _ _ _ _ _ _ => none) (fun _ _ _ _ _ _ => none) (fun _ _ => none) (fun _ _ _ => none) (fun _ _ => none) (fun _ _ _ _ _ => none) (fun _ _ _ _ _ => none) (fun _ _ => none) (fun _ _ _ _ _ => none) (fun _ _ _ _ => none) (fun _ _ _ _ => none) (fun _ _ _ => none) (fun _ _ _ _ _ _ => none) (fun _ _ _ => none) (fun _ _ _ _ _ => none) (fun _ _ _ => none) () (fun _ _ _ _ => ()) x
theorem slSQ_eq (x : AV) (lo : Option AV) (hi : Option AV) : slSQ x lo hi = match x with | .str l => sl2 l lo (bndQ (lenB l) (lenB l) hi) | _ => none := by cases x <;> rfl
theorem slSQ_ok [Tab] {P : Program} {t : Nat} (ht : P.underlying t = some .string) {x v : AV} {lo hi : Option AV} (h : slSQ x lo hi = some v) : sliceA P t x lo hi none = some v := by
  rw [slSQ_eq] at h
  split at h
  · rename_i l
    unfold sliceA
    rw [ht]
    dsimp only
    rw [lenB_eq, bndQ_eq] at h
    cases h1 : bndA l.length l.length hi with
    | none => rw [h1] at h; cases h
    | some e =>
      rw [h1] at h
      dsimp only
      replace h : sl3 l e (bndQ e 0 lo) = some v := h
      rw [bndQ_eq] at h
      cases h2 : bndA e 0 lo with
      | none => rw [h2] at h; cases h
      | some q =>
        rw [h2] at h
        replace h : some (AV.str (takB (drpB q l) (Nat.sub e q))) = some v := h
        rw [takB_eq, drpB_eq] at h
        exact h
  · cases h
/-- Blocks written at once. -/
noncomputable def H1.p0 (v : AB) (t : H1) (K : H1 → RR) : RR := H1.rec (motive := fun _ => RR) (K (.mk v AB.none AB.none AB.none AB.none AB.none AB.none AB.none AB.none AB.none AB.none AB.none AB.none AB.none AB.none AB.none)) (fun _ a1 a2 a3 a4 a5 a6 a7 a8 a9 a10 a11 a12 a13 a14 a15 => K (.mk v a1 a2 a3 a4 a5 a6 a7 a8 a9 a10 a11 a12 a13 a14 a15)) t
noncomputable def H1.p1 (v : AB) (t : H1) (K : H1 → RR) : RR := H1.rec (motive := fun _ => RR) (K (.mk AB.none v AB.none AB.none AB.none AB.none AB.none AB.none AB.none AB.none AB.none AB.none AB.none AB.none AB.none AB.none)) (fun a0 _ a2 a3 a4 a5 a6 a7 a8 a9 a10 a11 a12 a13 a14 a15 => K (.mk a0 v a2 a3 a4 a5 a6 a7 a8 a9 a10 a11 a12 a13 a14 a15)) t
noncomputable def H1.p2 (v : AB) (t : H1) (K : H1 → RR) : RR := H1.rec (motive := fun _ => RR) (K (.mk AB.none AB.none v AB.none AB.none AB.none AB.none AB.none AB.none AB.none AB.none AB.none AB.none AB.none AB.none AB.none)) (fun a0 a1 _ a3 a4 a5 a6 a7 a8 a9 a10 a11 a12 a13 a14 a15 => K (.mk a0 a1 v a3 a4 a5 a6 a7 a8 a9 a10 a11 a12 a13 a14 a15)) t
noncomputable def H1.p3 (v : AB) (t : H1) (K : H1 → RR) : RR := H1.rec (motive := fun _ => RR) (K (.mk AB.none AB.none AB.none v AB.none AB.none AB.none AB.none AB.none AB.none AB.none AB.none AB.none AB.none AB.none AB.none)) (fun a0 a1 a2 _ a4 a5 a6 a7 a8 a9 a10 a11 a12 a13 a14 a15 => K (.mk a0 a1 a2 v a4 a5 a6 a7 a8 a9 a10 a11 a12 a13 a14 a15)) t
noncomputable def H1.p4 (v : AB) (t : H1) (K : H1 → RR) : RR := H1.rec (motive := fun _ => RR) (K (.mk AB.none AB.none AB.none AB.none v AB.none AB.none AB.none AB.none AB.none AB.none AB.none AB.none AB.none AB.none AB.none)) (fun a0 a1 a2 a3 _ a5 a6 a7 a8 a9 a10 a11 a12 a13 a14 a15 => K (.mk a0 a1 a2 a3 v a5 a6 a7 a8 a9 a10 a11 a12 a13 a14 a15)) t
noncomputable def H1.p5 (v : AB) (t : H1) (K : H1 → RR) : RR := H1.rec (motive := fun _ => RR) (K (.mk AB.none AB.none AB.none AB.none AB.none v AB.none AB.none AB.none AB.none AB.none AB.none AB.none AB.none AB.none AB.none)) (fun a0 a1 a2 a3 a4 _ a6 a7 a8 a9 a10 a11 a12 a13 a14 a15 => K (.mk a0 a1 a2 a3 a4 v a6 a7 a8 a9 a10 a11 a12 a13 a14 a15)) t
noncomputable def H1.p6 (v : AB) (t : H1) (K : H1 → RR) : RR := H1.rec (motive := fun _ => RR) (K (.mk AB.none AB.none AB.none AB.none AB.none AB.none v AB.none AB.none AB.none AB.none AB.none AB.none AB.none AB.none AB.none)) (fun a0 a1 a2 a3 a4 a5 _ a7 a8 a9 a10 a11 a12 a13 a14 a15 => K (.mk a0 a1 a2 a3 a4 a5 v a7 a8 a9 a10 a11 a12 a13 a14 a15)) t
noncomputable def H1.p7 (v : AB) (t : H1) (K : H1 → RR) : RR := H1.rec (motive := fun _ => RR) (K (.mk AB.none AB.none AB.none AB.none AB.none AB.none AB.none v AB.none AB.none AB.none AB.none AB.none AB.none AB.none AB.none)) (fun a0 a1 a2 a3 a4 a5 a6 _ a8 a9 a10 a11 a12 a13 a14 a15 => K (.mk a0 a1 a2 a3 a4 a5 a6 v a8 a9 a10 a11 a12 a13 a14 a15)) t
noncomputable def H1.p8 (v : AB) (t : H1) (K : H1 → RR) : RR := H1.rec (motive := fun _ => RR) (K (.mk AB.none AB.none AB.none AB.none AB.none AB.none AB.none AB.none v AB.none AB.none AB.none AB.none AB.none AB.none AB.none)) (fun a0 a1 a2 a3 a4 a5 a6 a7 _ a9 a10 a11 a12 a13 a14 a15 => K (.mk a0 a1 a2 a3 a4 a5 a6 a7 v a9 a10 a11 a12 a13 a14 a15)) t
noncomputable def H1.p9 (v : AB) (t : H1) (K : H1 → RR) : RR := H1.rec (motive := fun _ => RR) (K (.mk AB.none AB.none AB.none AB.none AB.none AB.none AB.none AB.none AB.none v AB.none AB.none AB.none AB.none AB.none AB.none)) (fun a0 a1 a2 a3 a4 a5 a6 a7 a8 _ a10 a11 a12 a13 a14 a15 => K (.mk a0 a1 a2 a3 a4 a5 a6 a7 a8 v a10 a11 a12 a13 a14 a15)) t
noncomputable def H1.p10 (v : AB) (t : H1) (K : H1 → RR) : RR := H1.rec (motive := fun _ => RR) (K (.mk AB.none AB.none AB.none AB.none AB.none AB.none AB.none AB.none AB.none AB.none v AB.none AB.none AB.none AB.none AB.none)) (fun a0 a1 a2 a3 a4 a5 a6 a7 a8 a9 _ a11 a12 a13 a14 a15 => K (.mk a0 a1 a2 a3 a4 a5 a6 a7 a8 a9 v a11 a12 a13 a14 a15)) t
noncomputable def H1.p11 (v : AB) (t : H1) (K : H1 → RR) : RR := H1.rec (motive := fun _ => RR) (K (.mk AB.none AB.none AB.none AB.none AB.none AB.none AB.none AB.none AB.none AB.none AB.none v AB.none AB.none AB.none AB.none)) (fun a0 a1 a2 a3 a4 a5 a6 a7 a8 a9 a10 _ a12 a13 a14 a15 => K (.mk a0 a1 a2 a3 a4 a5 a6 a7 a8 a9 a10 v a12 a13 a14 a15)) t
noncomputable def H1.p12 (v : AB) (t : H1) (K : H1 → RR) : RR := H1.rec (motive := fun _ => RR) (K (.mk AB.none AB.none AB.none AB.none AB.none AB.none AB.none AB.none AB.none AB.none AB.none AB.none v AB.none AB.none AB.none)) (fun a0 a1 a2 a3 a4 a5 a6 a7 a8 a9 a10 a11 _ a13 a14 a15 => K (.mk a0 a1 a2 a3 a4 a5 a6 a7 a8 a9 a10 a11 v a13 a14 a15)) t
noncomputable def H1.p13 (v : AB) (t : H1) (K : H1 → RR) : RR := H1.rec (motive := fun _ => RR) (K (.mk AB.none AB.none AB.none AB.none AB.none AB.none AB.none AB.none AB.none AB.none AB.none AB.none AB.none v AB.none AB.none)) (fun a0 a1 a2 a3 a4 a5 a6 a7 a8 a9 a10 a11 a12 _ a14 a15 => K (.mk a0 a1 a2 a3 a4 a5 a6 a7 a8 a9 a10 a11 a12 v a14 a15)) t
noncomputable def H1.p14 (v : AB) (t : H1) (K : H1 → RR) : RR := H1.rec (motive := fun _ => RR) (K (.mk AB.none AB.none AB.none AB.none AB.none AB.none AB.none AB.none AB.none AB.none AB.none AB.none AB.none AB.none v AB.none)) (fun a0 a1 a2 a3 a4 a5 a6 a7 a8 a9 a10 a11 a12 a13 _ a15 => K (.mk a0 a1 a2 a3 a4 a5 a6 a7 a8 a9 a10 a11 a12 a13 v a15)) t
noncomputable def H1.p15 (v : AB) (t : H1) (K : H1 → RR) : RR := H1.rec (motive := fun _ => RR) (K (.mk AB.none AB.none AB.none AB.none AB.none AB.none AB.none AB.none AB.none AB.none AB.none AB.none AB.none AB.none AB.none v)) (fun a0 a1 a2 a3 a4 a5 a6 a7 a8 a9 a10 a11 a12 a13 a14 _ => K (.mk a0 a1 a2 a3 a4 a5 a6 a7 a8 a9 a10 a11 a12 a13 a14 v)) t
noncomputable def H1Q.put (i : Hx) : AB → H1 → (H1 → RR) → RR := Hx.rec (motive := fun _ => AB → H1 → (H1 → RR) → RR) H1.p0 H1.p1 H1.p2 H1.p3 H1.p4 H1.p5 H1.p6 H1.p7 H1.p8 H1.p9 H1.p10 H1.p11 H1.p12 H1.p13 H1.p14 H1.p15 i
theorem H1Q.put_eq (i : Hx) (v : AB) (t : H1) (K : H1 → RR) : H1Q.put i v t K = K (H1.set i v t) := by cases i <;> cases t <;> rfl
noncomputable def H2.p0 (f : H1 → (H1 → RR) → RR) (t : H2) (K : H2 → RR) : RR := H2.rec (motive := fun _ => RR) (f H1.e (fun x => K (.mk x H1.e H1.e H1.e H1.e H1.e H1.e H1.e H1.e H1.e H1.e H1.e H1.e H1.e H1.e H1.e))) (fun a0 a1 a2 a3 a4 a5 a6 a7 a8 a9 a10 a11 a12 a13 a14 a15 => f a0 (fun x => K (.mk x a1 a2 a3 a4 a5 a6 a7 a8 a9 a10 a11 a12 a13 a14 a15))) t
noncomputable def H2.p1 (f : H1 → (H1 → RR) → RR) (t : H2) (K : H2 → RR) : RR := H2.rec (motive := fun _ => RR) (f H1.e (fun x => K (.mk H1.e x H1.e H1.e H1.e H1.e H1.e H1.e H1.e H1.e H1.e H1.e H1.e H1.e H1.e H1.e))) (fun a0 a1 a2 a3 a4 a5 a6 a7 a8 a9 a10 a11 a12 a13 a14 a15 => f a1 (fun x => K (.mk a0 x a2 a3 a4 a5 a6 a7 a8 a9 a10 a11 a12 a13 a14 a15))) t
noncomputable def H2.p2 (f : H1 → (H1 → RR) → RR) (t : H2) (K : H2 → RR) : RR := H2.rec (motive := fun _ => RR) (f H1.e (fun x => K (.mk H1.e H1.e x H1.e H1.e H1.e H1.e H1.e H1.e H1.e H1.e H1.e H1.e H1.e H1.e H1.e))) (fun a0 a1 a2 a3 a4 a5 a6 a7 a8 a9 a10 a11 a12 a13 a14 a15 => f a2 (fun x => K (.mk a0 a1 x a3 a4 a5 a6 a7 a8 a9 a10 a11 a12 a13 a14 a15))) t
noncomputable def H2.p3 (f : H1 → (H1 → RR) → RR) (t : H2) (K : H2 → RR) : RR := H2.rec (motive := fun _ => RR) (f H1.e (fun x => K (.mk H1.e H1.e H1.e x H1.e H1.e H1.e H1.e H1.e H1.e H1.e H1.e H1.e H1.e H1.e H1.e))) (fun a0 a1 a2 a3 a4 a5 a6 a7 a8 a9 a10 a11 a12 a13 a14 a15 => f a3 (fun x => K (.mk a0 a1 a2 x a4 a5 a6 a7 a8 a9 a10 a11 a12 a13 a14 a15))) t
noncomputable def H2.p4 (f : H1 → (H1 → RR) → RR) (t : H2) (K : H2 → RR) : RR := H2.rec (motive := fun _ => RR) (f H1.e (fun x => K (.mk H1.e H1.e H1.e H1.e x H1.e H1.e H1.e H1.e H1.e H1.e H1.e H1.e H1.e H1.e H1.e))) (fun a0 a1 a2 a3 a4 a5 a6 a7 a8 a9 a10 a11 a12 a13 a14 a15 => f a4 (fun x => K (.mk a0 a1 a2 a3 x a5 a6 a7 a8 a9 a10 a11 a12 a13 a14 a15))) t
noncomputable def H2.p5 (f : H1 → (H1 → RR) → RR) (t : H2) (K : H2 → RR) : RR := H2.rec (motive := fun _ => RR) (f H1.e (fun x => K (.mk H1.e H1.e H1.e H1.e H1.e x H1.e H1.e H1.e H1.e H1.e H1.e H1.e H1.e H1.e H1.e))) (fun a0 a1 a2 a3 a4 a5 a6 a7 a8 a9 a10 a11 a12 a13 a14 a15 => f a5 (fun x => K (.mk a0 a1 a2 a3 a4 x a6 a7 a8 a9 a10 a11 a12 a13 a14 a15))) t
noncomputable def H2.p6 (f : H1 → (H1 → RR) → RR) (t : H2) (K : H2 → RR) : RR := H2.rec (motive := fun _ => RR) (f H1.e (fun x => K (.mk H1.e H1.e H1.e H1.e H1.e H1.e x H1.e H1.e H1.e H1.e H1.e H1.e H1.e H1.e H1.e))) (fun a0 a1 a2 a3 a4 a5 a6 a7 a8 a9 a10 a11 a12 a13 a14 a15 => f a6 (fun x => K (.mk a0 a1 a2 a3 a4 a5 x a7 a8 a9 a10 a11 a12 a13 a14 a15))) t
noncomputable def H2.p7 (f : H1 → (H1 → RR) → RR) (t : H2) (K : H2 → RR) : RR := H2.rec (motive := fun _ => RR) (f H1.e (fun x => K (.mk H1.e H1.e H1.e H1.e H1.e H1.e H1.e x H1.e H1.e H1.e H1.e H1.e H1.e H1.e H1.e))) (fun a0 a1 a2 a3 a4 a5 a6 a7 a8 a9 a10 a11 a12 a13 a14 a15 => f a7 (fun x => K (.mk a0 a1 a2 a3 a4 a5 a6 x a8 a9 a10 a11 a12 a13 a14 a15))) t
noncomputable def H2.p8 (f : H1 → (H1 → RR) → RR) (t : H2) (K : H2 → RR) : RR := H2.rec (motive := fun _ => RR) (f H1.e (fun x => K (.mk H1.e H1.e H1.e H1.e H1.e H1.e H1.e H1.e x H1.e H1.e H1.e H1.e H1.e H1.e H1.e))) (fun a0 a1 a2 a3 a4 a5 a6 a7 a8 a9 a10 a11 a12 a13 a14 a15 => f a8 (fun x => K (.mk a0 a1 a2 a3 a4 a5 a6 a7 x a9 a10 a11 a12 a13 a14 a15))) t
noncomputable def H2.p9 (f : H1 → (H1 → RR) → RR) (t : H2) (K : H2 → RR) : RR := H2.rec (motive := fun _ => RR) (f H1.e (fun x => K (.mk H1.e H1.e H1.e H1.e H1.e H1.e H1.e H1.e H1.e x H1.e H1.e H1.e H1.e H1.e H1.e))) (fun a0 a1 a2 a3 a4 a5 a6 a7 a8 a9 a10 a11 a12 a13 a14 a15 => f a9 (fun x => K (.mk a0 a1 a2 a3 a4 a5 a6 a7 a8 x a10 a11 a12 a13 a14 a15))) t
noncomputable def H2.p10 (f : H1 → (H1 → RR) → RR) (t : H2) (K : H2 → RR) : RR := H2.rec (motive := fun _ => RR) (f H1.e (fun x => K (.mk H1.e H1.e H1.e H1.e H1.e H1.e H1.e H1.e H1.e H1.e x H1.e H1.e H1.e H1.e H1.e))) (fun a0 a1 a2 a3 a4 a5 a6 a7 a8 a9 a10 a11 a12 a13 a14 a15 => f a10 (fun x => K (.mk a0 a1 a2 a3 a4 a5 a6 a7 a8 a9 x a11 a12 a13 a14 a15))) t
noncomputable def H2.p11 (f : H1 → (H1 → RR) → RR) (t : H2) (K : H2 → RR) : RR := H2.rec (motive := fun _ => RR) (f H1.e (fun x => K (.mk H1.e H1.e H1.e H1.e H1.e H1.e H1.e H1.e H1.e H1.e H1.e x H1.e H1.e H1.e H1.e))) (fun a0 a1 a2 a3 a4 a5 a6 a7 a8 a9 a10 a11 a12 a13 a14 a15 => f a11 (fun x => K (.mk a0 a1 a2 a3 a4 a5 a6 a7 a8 a9 a10 x a12 a13 a14 a15))) t
noncomputable def H2.p12 (f : H1 → (H1 → RR) → RR) (t : H2) (K : H2 → RR) : RR := H2.rec (motive := fun _ => RR) (f H1.e (fun x => K (.mk H1.e H1.e H1.e H1.e H1.e H1.e H1.e H1.e H1.e H1.e H1.e H1.e x H1.e H1.e H1.e))) (fun a0 a1 a2 a3 a4 a5 a6 a7 a8 a9 a10 a11 a12 a13 a14 a15 => f a12 (fun x => K (.mk a0 a1 a2 a3 a4 a5 a6 a7 a8 a9 a10 a11 x a13 a14 a15))) t
noncomputable def H2.p13 (f : H1 → (H1 → RR) → RR) (t : H2) (K : H2 → RR) : RR := H2.rec (motive := fun _ => RR) (f H1.e (fun x => K (.mk H1.e H1.e H1.e H1.e H1.e H1.e H1.e H1.e H1.e H1.e H1.e H1.e H1.e x H1.e H1.e))) (fun a0 a1 a2 a3 a4 a5 a6 a7 a8 a9 a10 a11 a12 a13 a14 a15 => f a13 (fun x => K (.mk a0 a1 a2 a3 a4 a5 a6 a7 a8 a9 a10 a11 a12 x a14 a15))) t
noncomputable def H2.p14 (f : H1 → (H1 → RR) → RR) (t : H2) (K : H2 → RR) : RR := H2.rec (motive := fun _ => RR) (f H1.e (fun x => K (.mk H1.e H1.e H1.e H1.e H1.e H1.e H1.e H1.e H1.e H1.e H1.e H1.e H1.e H1.e x H1.e))) (fun a0 a1 a2 a3 a4 a5 a6 a7 a8 a9 a10 a11 a12 a13 a14 a15 => f a14 (fun x => K (.mk a0 a1 a2 a3 a4 a5 a6 a7 a8 a9 a10 a11 a12 a13 x a15))) t
noncomputable def H2.p15 (f : H1 → (H1 → RR) → RR) (t : H2) (K : H2 → RR) : RR := H2.rec (motive := fun _ => RR) (f H1.e (fun x => K (.mk H1.e H1.e H1.e H1.e H1.e H1.e H1.e H1.e H1.e H1.e H1.e H1.e H1.e H1.e H1.e x))) (fun a0 a1 a2 a3 a4 a5 a6 a7 a8 a9 a10 a11 a12 a13 a14 a15 => f a15 (fun x => K (.mk a0 a1 a2 a3 a4 a5 a6 a7 a8 a9 a10 a11 a12 a13 a14 x))) t
noncomputable def H2Q.put (i : Hx) : (H1 → (H1 → RR) → RR) → H2 → (H2 → RR) → RR := Hx.rec (motive := fun _ => (H1 → (H1 → RR) → RR) → H2 → (H2 → RR) → RR) H2.p0 H2.p1 H2.p2 H2.p3 H2.p4 H2.p5 H2.p6 H2.p7 H2.p8 H2.p9 H2.p10 H2.p11 H2.p12 H2.p13 H2.p14 H2.p15 i
theorem H2Q.put_eq (i : Hx) (f : H1 → (H1 → RR) → RR) (t : H2) (K : H2 → RR) : H2Q.put i f t K = f (t.get i) (fun x => K (H2.set i x t)) := by cases i <;> cases t <;> rfl
noncomputable def H3.p0 (f : H2 → (H2 → RR) → RR) (t : H3) (K : H3 → RR) : RR := H3.rec (motive := fun _ => RR) (f H2.e (fun x => K (.mk x H2.e H2.e H2.e H2.e H2.e H2.e H2.e H2.e H2.e H2.e H2.e H2.e H2.e H2.e H2.e))) (fun a0 a1 a2 a3 a4 a5 a6 a7 a8 a9 a10 a11 a12 a13 a14 a15 => f a0 (fun x => K (.mk x a1 a2 a3 a4 a5 a6 a7 a8 a9 a10 a11 a12 a13 a14 a15))) t
noncomputable def H3.p1 (f : H2 → (H2 → RR) → RR) (t : H3) (K : H3 → RR) : RR := H3.rec (motive := fun _ => RR) (f H2.e (fun x => K (.mk H2.e x H2.e H2.e H2.e H2.e H2.e H2.e H2.e H2.e H2.e H2.e H2.e H2.e H2.e H2.e))) (fun a0 a1 a2 a3 a4 a5 a6 a7 a8 a9 a10 a11 a12 a13 a14 a15 => f a1 (fun x => K (.mk a0 x a2 a3 a4 a5 a6 a7 a8 a9 a10 a11 a12 a13 a14 a15))) t
noncomputable def H3.p2 (f : H2 → (H2 → RR) → RR) (t : H3) (K : H3 → RR) : RR := H3.rec (motive := fun _ => RR) (f H2.e (fun x => K (.mk H2.e H2.e x H2.e H2.e H2.e H2.e H2.e H2.e H2.e H2.e H2.e H2.e H2.e H2.e H2.e))) (fun a0 a1 a2 a3 a4 a5 a6 a7 a8 a9 a10 a11 a12 a13 a14 a15 => f a2 (fun x => K (.mk a0 a1 x a3 a4 a5 a6 a7 a8 a9 a10 a11 a12 a13 a14 a15))) t
noncomputable def H3.p3 (f : H2 → (H2 → RR) → RR) (t : H3) (K : H3 → RR) : RR := H3.rec (motive := fun _ => RR) (f H2.e (fun x => K (.mk H2.e H2.e H2.e x H2.e H2.e H2.e H2.e H2.e H2.e H2.e H2.e H2.e H2.e H2.e H2.e))) (fun a0 a1 a2 a3 a4 a5 a6 a7 a8 a9 a10 a11 a12 a13 a14 a15 => f a3 (fun x => K (.mk a0 a1 a2 x a4 a5 a6 a7 a8 a9 a10 a11 a12 a13 a14 a15))) t
noncomputable def H3.p4 (f : H2 → (H2 → RR) → RR) (t : H3) (K : H3 → RR) : RR := H3.rec (motive := fun _ => RR) (f H2.e (fun x => K (.mk H2.e H2.e H2.e H2.e x H2.e H2.e H2.e H2.e H2.e H2.e H2.e H2.e H2.e H2.e H2.e))) (fun a0 a1 a2 a3 a4 a5 a6 a7 a8 a9 a10 a11 a12 a13 a14 a15 => f a4 (fun x => K (.mk a0 a1 a2 a3 x a5 a6 a7 a8 a9 a10 a11 a12 a13 a14 a15))) t
noncomputable def H3.p5 (f : H2 → (H2 → RR) → RR) (t : H3) (K : H3 → RR) : RR := H3.rec (motive := fun _ => RR) (f H2.e (fun x => K (.mk H2.e H2.e H2.e H2.e H2.e x H2.e H2.e H2.e H2.e H2.e H2.e H2.e H2.e H2.e H2.e))) (fun a0 a1 a2 a3 a4 a5 a6 a7 a8 a9 a10 a11 a12 a13 a14 a15 => f a5 (fun x => K (.mk a0 a1 a2 a3 a4 x a6 a7 a8 a9 a10 a11 a12 a13 a14 a15))) t
noncomputable def H3.p6 (f : H2 → (H2 → RR) → RR) (t : H3) (K : H3 → RR) : RR := H3.rec (motive := fun _ => RR) (f H2.e (fun x => K (.mk H2.e H2.e H2.e H2.e H2.e H2.e x H2.e H2.e H2.e H2.e H2.e H2.e H2.e H2.e H2.e))) (fun a0 a1 a2 a3 a4 a5 a6 a7 a8 a9 a10 a11 a12 a13 a14 a15 => f a6 (fun x => K (.mk a0 a1 a2 a3 a4 a5 x a7 a8 a9 a10 a11 a12 a13 a14 a15))) t
noncomputable def H3.p7 (f : H2 → (H2 → RR) → RR) (t : H3) (K : H3 → RR) : RR := H3.rec (motive := fun _ => RR) (f H2.e (fun x => K (.mk H2.e H2.e H2.e H2.e H2.e H2.e H2.e x H2.e H2.e H2.e H2.e H2.e H2.e H2.e H2.e))) (fun a0 a1 a2 a3 a4 a5 a6 a7 a8 a9 a10 a11 a12 a13 a14 a15 => f a7 (fun x => K (.mk a0 a1 a2 a3 a4 a5 a6 x a8 a9 a10 a11 a12 a13 a14 a15))) t
noncomputable def H3.p8 (f : H2 → (H2 → RR) → RR) (t : H3) (K : H3 → RR) : RR := H3.rec (motive := fun _ => RR) (f H2.e (fun x => K (.mk H2.e H2.e H2.e H2.e H2.e H2.e H2.e H2.e x H2.e H2.e H2.e H2.e H2.e H2.e H2.e))) (fun a0 a1 a2 a3 a4 a5 a6 a7 a8 a9 a10 a11 a12 a13 a14 a15 => f a8 (fun x => K (.mk a0 a1 a2 a3 a4 a5 a6 a7 x a9 a10 a11 a12 a13 a14 a15))) t
noncomputable def H3.p9 (f : H2 → (H2 → RR) → RR) (t : H3) (K : H3 → RR) : RR := H3.rec (motive := fun _ => RR) (f H2.e (fun x => K (.mk H2.e H2.e H2.e H2.e H2.e H2.e H2.e H2.e H2.e x H2.e H2.e H2.e H2.e H2.e H2.e))) (fun a0 a1 a2 a3 a4 a5 a6 a7 a8 a9 a10 a11 a12 a13 a14 a15 => f a9 (fun x => K (.mk a0 a1 a2 a3 a4 a5 a6 a7 a8 x a10 a11 a12 a13 a14 a15))) t
noncomputable def H3.p10 (f : H2 → (H2 → RR) → RR) (t : H3) (K : H3 → RR) : RR := H3.rec (motive := fun _ => RR) (f H2.e (fun x => K (.mk H2.e H2.e H2.e H2.e H2.e H2.e H2.e H2.e H2.e H2.e x H2.e H2.e H2.e H2.e H2.e))) (fun a0 a1 a2 a3 a4 a5 a6 a7 a8 a9 a10 a11 a12 a13 a14 a15 => f a10 (fun x => K (.mk a0 a1 a2 a3 a4 a5 a6 a7 a8 a9 x a11 a12 a13 a14 a15))) t
noncomputable def H3.p11 (f : H2 → (H2 → RR) → RR) (t : H3) (K : H3 → RR) : RR := H3.rec (motive := fun _ => RR) (f H2.e (fun x => K (.mk H2.e H2.e H2.e H2.e H2.e H2.e H2.e H2.e H2.e H2.e H2.e x H2.e H2.e H2.e H2.e))) (fun a0 a1 a2 a3 a4 a5 a6 a7 a8 a9 a10 a11 a12 a13 a14 a15 => f a11 (fun x => K (.mk a0 a1 a2 a3 a4 a5 a6 a7 a8 a9 a10 x a12 a13 a14 a15))) t
noncomputable def H3.p12 (f : H2 → (H2 → RR) → RR) (t : H3) (K : H3 → RR) : RR := H3.rec (motive := fun _ => RR) (f H2.e (fun x => K (.mk H2.e H2.e H2.e H2.e H2.e H2.e H2.e H2.e H2.e H2.e H2.e H2.e x H2.e H2.e H2.e))) (fun a0 a1 a2 a3 a4 a5 a6 a7 a8 a9 a10 a11 a12 a13 a14 a15 => f a12 (fun x => K (.mk a0 a1 a2 a3 a4 a5 a6 a7 a8 a9 a10 a11 x a13 a14 a15))) t
noncomputable def H3.p13 (f : H2 → (H2 → RR) → RR) (t : H3) (K : H3 → RR) : RR := H3.rec (motive := fun _ => RR) (f H2.e (fun x => K (.mk H2.e H2.e H2.e H2.e H2.e H2.e H2.e H2.e H2.e H2.e H2.e H2.e H2.e x H2.e H2.e))) (fun a0 a1 a2 a3 a4 a5 a6 a7 a8 a9 a10 a11 a12 a13 a14 a15 => f a13 (fun x => K (.mk a0 a1 a2 a3 a4 a5 a6 a7 a8 a9 a10 a11 a12 x a14 a15))) t
noncomputable def H3.p14 (f : H2 → (H2 → RR) → RR) (t : H3) (K : H3 → RR) : RR := H3.rec (motive := fun _ => RR) (f H2.e (fun x => K (.mk H2.e H2.e H2.e H2.e H2.e H2.e H2.e H2.e H2.e H2.e H2.e H2.e H2.e H2.e x H2.e))) (fun a0 a1 a2 a3 a4 a5 a6 a7 a8 a9 a10 a11 a12 a13 a14 a15 => f a14 (fun x => K (.mk a0 a1 a2 a3 a4 a5 a6 a7 a8 a9 a10 a11 a12 a13 x a15))) t
noncomputable def H3.p15 (f : H2 → (H2 → RR) → RR) (t : H3) (K : H3 → RR) : RR := H3.rec (motive := fun _ => RR) (f H2.e (fun x => K (.mk H2.e H2.e H2.e H2.e H2.e H2.e H2.e H2.e H2.e H2.e H2.e H2.e H2.e H2.e H2.e x))) (fun a0 a1 a2 a3 a4 a5 a6 a7 a8 a9 a10 a11 a12 a13 a14 a15 => f a15 (fun x => K (.mk a0 a1 a2 a3 a4 a5 a6 a7 a8 a9 a10 a11 a12 a13 a14 x))) t
noncomputable def H3Q.put (i : Hx) : (H2 → (H2 → RR) → RR) → H3 → (H3 → RR) → RR := Hx.rec (motive := fun _ => (H2 → (H2 → RR) → RR) → H3 → (H3 → RR) → RR) H3.p0 H3.p1 H3.p2 H3.p3 H3.p4 H3.p5 H3.p6 H3.p7 H3.p8 H3.p9 H3.p10 H3.p11 H3.p12 H3.p13 H3.p14 H3.p15 i
theorem H3Q.put_eq (i : Hx) (f : H2 → (H2 → RR) → RR) (t : H3) (K : H3 → RR) : H3Q.put i f t K = f (t.get i) (fun x => K (H3.set i x t)) := by cases i <;> cases t <;> rfl
noncomputable def H4.p0 (f : H3 → (H3 → RR) → RR) (t : H4) (K : H4 → RR) : RR := H4.rec (motive := fun _ => RR) (f H3.e (fun x => K (.mk x H3.e H3.e H3.e H3.e H3.e H3.e H3.e H3.e H3.e H3.e H3.e H3.e H3.e H3.e H3.e))) (fun a0 a1 a2 a3 a4 a5 a6 a7 a8 a9 a10 a11 a12 a13 a14 a15 => f a0 (fun x => K (.mk x a1 a2 a3 a4 a5 a6 a7 a8 a9 a10 a11 a12 a13 a14 a15))) t
noncomputable def H4.p1 (f : H3 → (H3 → RR) → RR) (t : H4) (K : H4 → RR) : RR := H4.rec (motive := fun _ => RR) (f H3.e (fun x => K (.mk H3.e x H3.e H3.e H3.e H3.e H3.e H3.e H3.e H3.e H3.e H3.e H3.e H3.e H3.e H3.e))) (fun a0 a1 a2 a3 a4 a5 a6 a7 a8 a9 a10 a11 a12 a13 a14 a15 => f a1 (fun x => K (.mk a0 x a2 a3 a4 a5 a6 a7 a8 a9 a10 a11 a12 a13 a14 a15))) t
noncomputable def H4.p2 (f : H3 → (H3 → RR) → RR) (t : H4) (K : H4 → RR) : RR := H4.rec (motive := fun _ => RR) (f H3.e (fun x => K (.mk H3.e H3.e x H3.e H3.e H3.e H3.e H3.e H3.e H3.e H3.e H3.e H3.e H3.e H3.e H3.e))) (fun a0 a1 a2 a3 a4 a5 a6 a7 a8 a9 a10 a11 a12 a13 a14 a15 => f a2 (fun x => K (.mk a0 a1 x a3 a4 a5 a6 a7 a8 a9 a10 a11 a12 a13 a14 a15))) t
noncomputable def H4.p3 (f : H3 → (H3 → RR) → RR) (t : H4) (K : H4 → RR) : RR := H4.rec (motive := fun _ => RR) (f H3.e (fun x => K (.mk H3.e H3.e H3.e x H3.e H3.e H3.e H3.e H3.e H3.e H3.e H3.e H3.e H3.e H3.e H3.e))) (fun a0 a1 a2 a3 a4 a5 a6 a7 a8 a9 a10 a11 a12 a13 a14 a15 => f a3 (fun x => K (.mk a0 a1 a2 x a4 a5 a6 a7 a8 a9 a10 a11 a12 a13 a14 a15))) t
noncomputable def H4.p4 (f : H3 → (H3 → RR) → RR) (t : H4) (K : H4 → RR) : RR := H4.rec (motive := fun _ => RR) (f H3.e (fun x => K (.mk H3.e H3.e H3.e H3.e x H3.e H3.e H3.e H3.e H3.e H3.e H3.e H3.e H3.e H3.e H3.e))) (fun a0 a1 a2 a3 a4 a5 a6 a7 a8 a9 a10 a11 a12 a13 a14 a15 => f a4 (fun x => K (.mk a0 a1 a2 a3 x a5 a6 a7 a8 a9 a10 a11 a12 a13 a14 a15))) t
noncomputable def H4.p5 (f : H3 → (H3 → RR) → RR) (t : H4) (K : H4 → RR) : RR := H4.rec (motive := fun _ => RR) (f H3.e (fun x => K (.mk H3.e H3.e H3.e H3.e H3.e x H3.e H3.e H3.e H3.e H3.e H3.e H3.e H3.e H3.e H3.e))) (fun a0 a1 a2 a3 a4 a5 a6 a7 a8 a9 a10 a11 a12 a13 a14 a15 => f a5 (fun x => K (.mk a0 a1 a2 a3 a4 x a6 a7 a8 a9 a10 a11 a12 a13 a14 a15))) t
noncomputable def H4.p6 (f : H3 → (H3 → RR) → RR) (t : H4) (K : H4 → RR) : RR := H4.rec (motive := fun _ => RR) (f H3.e (fun x => K (.mk H3.e H3.e H3.e H3.e H3.e H3.e x H3.e H3.e H3.e H3.e H3.e H3.e H3.e H3.e H3.e))) (fun a0 a1 a2 a3 a4 a5 a6 a7 a8 a9 a10 a11 a12 a13 a14 a15 => f a6 (fun x => K (.mk a0 a1 a2 a3 a4 a5 x a7 a8 a9 a10 a11 a12 a13 a14 a15))) t
noncomputable def H4.p7 (f : H3 → (H3 → RR) → RR) (t : H4) (K : H4 → RR) : RR := H4.rec (motive := fun _ => RR) (f H3.e (fun x => K (.mk H3.e H3.e H3.e H3.e H3.e H3.e H3.e x H3.e H3.e H3.e H3.e H3.e H3.e H3.e H3.e))) (fun a0 a1 a2 a3 a4 a5 a6 a7 a8 a9 a10 a11 a12 a13 a14 a15 => f a7 (fun x => K (.mk a0 a1 a2 a3 a4 a5 a6 x a8 a9 a10 a11 a12 a13 a14 a15))) t
noncomputable def H4.p8 (f : H3 → (H3 → RR) → RR) (t : H4) (K : H4 → RR) : RR := H4.rec (motive := fun _ => RR) (f H3.e (fun x => K (.mk H3.e H3.e H3.e H3.e H3.e H3.e H3.e H3.e x H3.e H3.e H3.e H3.e H3.e H3.e H3.e))) (fun a0 a1 a2 a3 a4 a5 a6 a7 a8 a9 a10 a11 a12 a13 a14 a15 => f a8 (fun x => K (.mk a0 a1 a2 a3 a4 a5 a6 a7 x a9 a10 a11 a12 a13 a14 a15))) t
noncomputable def H4.p9 (f : H3 → (H3 → RR) → RR) (t : H4) (K : H4 → RR) : RR := H4.rec (motive := fun _ => RR) (f H3.e (fun x => K (.mk H3.e H3.e H3.e H3.e H3.e H3.e H3.e H3.e H3.e x H3.e H3.e H3.e H3.e H3.e H3.e))) (fun a0 a1 a2 a3 a4 a5 a6 a7 a8 a9 a10 a11 a12 a13 a14 a15 => f a9 (fun x => K (.mk a0 a1 a2 a3 a4 a5 a6 a7 a8 x a10 a11 a12 a13 a14 a15))) t
noncomputable def H4.p10 (f : H3 → (H3 → RR) → RR) (t : H4) (K : H4 → RR) : RR := H4.rec (motive := fun _ => RR) (f H3.e (fun x => K (.mk H3.e H3.e H3.e H3.e H3.e H3.e H3.e H3.e H3.e H3.e x H3.e H3.e H3.e H3.e H3.e))) (fun a0 a1 a2 a3 a4 a5 a6 a7 a8 a9 a10 a11 a12 a13 a14 a15 => f a10 (fun x => K (.mk a0 a1 a2 a3 a4 a5 a6 a7 a8 a9 x a11 a12 a13 a14 a15))) t
noncomputable def H4.p11 (f : H3 → (H3 → RR) → RR) (t : H4) (K : H4 → RR) : RR := H4.rec (motive := fun _ => RR) (f H3.e (fun x => K (.mk H3.e H3.e H3.e H3.e H3.e H3.e H3.e H3.e H3.e H3.e H3.e x H3.e H3.e H3.e H3.e))) (fun a0 a1 a2 a3 a4 a5 a6 a7 a8 a9 a10 a11 a12 a13 a14 a15 => f a11 (fun x => K (.mk a0 a1 a2 a3 a4 a5 a6 a7 a8 a9 a10 x a12 a13 a14 a15))) t
noncomputable def H4.p12 (f : H3 → (H3 → RR) → RR) (t : H4) (K : H4 → RR) : RR := H4.rec (motive := fun _ => RR) (f H3.e (fun x => K (.mk H3.e H3.e H3.e H3.e H3.e H3.e H3.e H3.e H3.e H3.e H3.e H3.e x H3.e H3.e H3.e))) (fun a0 a1 a2 a3 a4 a5 a6 a7 a8 a9 a10 a11 a12 a13 a14 a15 => f a12 (fun x => K (.mk a0 a1 a2 a3 a4 a5 a6 a7 a8 a9 a10 a11 x a13 a14 a15))) t
noncomputable def H4.p13 (f : H3 → (H3 → RR) → RR) (t : H4) (K : H4 → RR) : RR := H4.rec (motive := fun _ => RR) (f H3.e (fun x => K (.mk H3.e H3.e H3.e H3.e H3.e H3.e H3.e H3.e H3.e H3.e H3.e H3.e H3.e x H3.e H3.e))) (fun a0 a1 a2 a3 a4 a5 a6 a7 a8 a9 a10 a11 a12 a13 a14 a15 => f a13 (fun x => K (.mk a0 a1 a2 a3 a4 a5 a6 a7 a8 a9 a10 a11 a12 x a14 a15))) t
noncomputable def H4.p14 (f : H3 → (H3 → RR) → RR) (t : H4) (K : H4 → RR) : RR := H4.rec (motive := fun _ => RR) (f H3.e (fun x => K (.mk H3.e H3.e H3.e H3.e H3.e H3.e H3.e H3.e H3.e H3.e H3.e H3.e H3.e H3.e x H3.e))) (fun a0 a1 a2 a3 a4 a5 a6 a7 a8 a9 a10 a11 a12 a13 a14 a15 => f a14 (fun x => K (.mk a0 a1 a2 a3 a4 a5 a6 a7 a8 a9 a10 a11 a12 a13 x a15))) t
noncomputable def H4.p15 (f : H3 → (H3 → RR) → RR) (t : H4) (K : H4 → RR) : RR := H4.rec (motive := fun _ => RR) (f H3.e (fun x => K (.mk H3.e H3.e H3.e H3.e H3.e H3.e H3.e H3.e H3.e H3.e H3.e H3.e H3.e H3.e H3.e x))) (fun a0 a1 a2 a3 a4 a5 a6 a7 a8 a9 a10 a11 a12 a13 a14 a15 => f a15 (fun x => K (.mk a0 a1 a2 a3 a4 a5 a6 a7 a8 a9 a10 a11 a12 a13 a14 x))) t
noncomputable def H4Q.put (i : Hx) : (H3 → (H3 → RR) → RR) → H4 → (H4 → RR) → RR := Hx.rec (motive := fun _ => (H3 → (H3 → RR) → RR) → H4 → (H4 → RR) → RR) H4.p0 H4.p1 H4.p2 H4.p3 H4.p4 H4.p5 H4.p6 H4.p7 H4.p8 H4.p9 H4.p10 H4.p11 H4.p12 H4.p13 H4.p14 H4.p15 i
theorem H4Q.put_eq (i : Hx) (f : H3 → (H3 → RR) → RR) (t : H4) (K : H4 → RR) : H4Q.put i f t K = f (t.get i) (fun x => K (H4.set i x t)) := by cases i <;> cases t <;> rfl
noncomputable def hp2 (h : Hp) (n : Nat) (K : AS → RR) (a : H4) : RR := K ⟨⟨a, h.o⟩, n⟩
noncomputable def hPut (h : Hp) (n b : Nat) (x : AB) (K : AS → RR) : RR := Bool.rec (motive := fun _ => RR) (K ⟨h.set b x, n⟩) (H4Q.put (hx3 b) (H3Q.put (hx2 b) (H2Q.put (hx1 b) (H1Q.put (hx0 b) x))) h.a (hp2 h n K)) (Nat.ble (Nat.succ b) 65536)
theorem hPut_eq [Tab] (h : Hp) (n b : Nat) (x : AB) (K : AS → RR) : hPut h n b x K = K ⟨h.set b x, n⟩ := by
  unfold hPut
  cases e : Nat.ble (Nat.succ b) 65536 with
  | false => rfl
  | true =>
    show H4Q.put (hx3 b) (H3Q.put (hx2 b) (H2Q.put (hx1 b) (H1Q.put (hx0 b) x))) h.a (hp2 h n K) = _
    rw [H4Q.put_eq, H3Q.put_eq, H2Q.put_eq, H1Q.put_eq]
    unfold Hp.set hp2
    rw [e]
    rfl
noncomputable def newQ (cs : List AV) (ty : Nat) (s : AS) (K : AV → AS → RR) : RR := Bool.rec (motive := fun _ => RR) none (hPut s.h (Nat.succ s.n) s.n (.cells cs ty) (K (.ptr s.n 0))) (Nat.ble (Nat.succ s.n) 1000000000)
theorem newQ_ok [Tab] {cs : List AV} {ty : Nat} {s : AS} {K : AV → AS → RR} {r : RZ} (h : newQ cs ty s K = some r) : ∃ v s', newA s cs ty = some (v, s') ∧ K v s' = some r := by
  unfold newQ at h
  unfold newA
  cases e : Nat.ble (Nat.succ s.n) 1000000000 with
  | false => rw [e] at h; cases h
  | true =>
    rw [e] at h
    replace h : hPut s.h (Nat.succ s.n) s.n (.cells cs ty) (K (.ptr s.n 0)) = some r := h
    rw [hPut_eq] at h
    exact ⟨_, _, rfl, h⟩
noncomputable def putSQ (s : AS) (K : AS → RR) (q : Option (Nat × AB)) : RR := Option.rec (motive := fun _ => RR) none (fun p => hPut s.h s.n p.1 p.2 K) q
theorem putSQ_ok [Tab] {s : AS} {K : AS → RR} {q : Option (Nat × AB)} {r : RZ} (h : putSQ s K q = some r) : ∃ b y, q = some (b, y) ∧ K (s.put b y) = some r := by
  cases q with
  | none => cases h
  | some p =>
    replace h : hPut s.h s.n p.1 p.2 K = some r := h
    rw [hPut_eq] at h
    exact ⟨p.1, p.2, rfl, h⟩
end Go.Proofs.YthmojpcaagnfkaaGreatDoor


/-
  The quick machine for the kernel: operations turned into closures, once for each place in the code. No program.
-/
namespace Go.Proofs.YthmojpcaagnfkaaGreatDoor
open Go.RowKit

noncomputable def cellsQ (x : AV) : Option (List AV) := AV.rec (motive_1 := fun _ => Option (List AV)) (motive_2 := fun _ => Unit) (none) (none) (fun k n => some [.int k n]) (fun b => some [.bool b]) (fun l => some [.str l]) (some [.nilp]) (fun b o => some [.ptr b o]) (some [.nils]) (fun b o n c => some [.sl b o n c]) (fun b o n e => some [.slu b o n e]) (some [.nilm]) (fun b => some [.mapp b]) (some [.nilfn]) (fun f cs _ => some [.fn f cs]) (fun f cs _ => some [.fnm f cs]) (some [.nili]) (fun u v _ => some [.ifc u v]) (fun cs _ => bifO (onesQ cs) (some cs)) (fun _ _ => none) (fun w => some [.pan w]) (fun b k lo hi => some [.symI b k lo hi]) (fun b => some [.symS b]) (fun b lo hi => some [.symT b lo hi]) (fun n => some [.symZ n]) () (fun _ _ _ _ => ()) x
noncomputable def lenSQ (x : AV) : Option AV := AV.rec (motive_1 := fun _ => Option AV) (motive_2 := fun _ => Unit) (none) (none) (fun _ _ => none) (fun _ => none) (fun l => some (.int .i64 (.ofNat (lenB l)))) (none) (fun _ _ => none) (none) (fun _ _ _ _ => none) (fun _ _ _ _ => none) (none) (fun _ => none) (none) (fun _ _ _ => none) (fun _ _ _ => none) (none) (fun _ _ _ => none) (fun _ _ => none) (fun _ _ => none) (fun _ => none) (fun _ _ _ _ => none) (fun _ => none) (fun _ _ _ => none) (fun n => some (.int .i64 (.ofNat n))) () (fun _ _ _ _ => ()) x
theorem lenSQ_eq (x : AV) : lenSQ x  = match x with | .str l => some (.int .i64 (.ofNat (lenB l))) | .symZ n => some (.int .i64 (.ofNat n)) | _ => none := by cases x <;> rfl
noncomputable def lenLQ (x : AV) : Option AV := AV.rec (motive_1 := fun _ => Option AV) (motive_2 := fun _ => Unit) (none) (none) (fun _ _ => none) (fun _ => none) (fun _ => none) (none) (fun _ _ => none) (some (.int .i64 (.ofNat 0))) (fun _ _ n _ => some (.int .i64 (.ofNat n))) (fun _ _ n _ => some (.int .i64 (.ofNat n))) (none) (fun _ => none) (none) (fun _ _ _ => none) (fun _ _ _ => none) (none) (fun _ _ _ => none) (fun _ _ => none) (fun _ _ => none) (fun _ => none) (fun _ _ _ _ => none) (fun _ => none) (fun _ _ _ => none) (fun _ => none) () (fun _ _ _ _ => ()) x
theorem lenLQ_eq (x : AV) : lenLQ x  = match x with | .nils => some (.int .i64 (.ofNat 0)) | .sl b o n c => some (.int .i64 (.ofNat n)) | .slu b o n e => some (.int .i64 (.ofNat n)) | _ => none := by cases x <;> rfl
noncomputable def gdQ (x : AV) : Bool → RR → RR → RR := AV.rec (motive_1 := fun _ => Bool → RR → RR → RR) (motive_2 := fun _ => Unit) (fun _ _ _ => none) (fun _ _ Z => Z) (fun _ _ _ _ _ => none) (fun b b0 Y Z => Bool.rec (motive := fun _ => RR) Z Y (Bool.rec (motive := fun _ => Bool) (!b0) b0 b)) (fun _ _ _ _ => none) (fun _ _ _ => none) (fun _ _ _ _ _ => none) (fun _ _ _ => none) (fun _ _ _ _ _ _ _ => none) (fun _ _ _ _ _ _ _ => none) (fun _ _ _ => none) (fun _ _ _ _ => none) (fun _ _ _ => none) (fun _ _ _ _ _ _ => none) (fun _ _ _ _ _ _ => none) (fun _ _ _ => none) (fun _ _ _ _ _ _ => none) (fun _ _ _ _ _ => none) (fun _ _ _ _ _ => none) (fun _ _ _ _ => none) (fun _ _ _ _ _ _ _ => none) (fun _ _ _ _ => none) (fun _ _ _ _ _ _ => none) (fun _ _ _ _ => none) () (fun _ _ _ _ => ()) x
theorem gdQ_eq (x : AV) (b0 : Bool) (Y : RR) (Z : RR) : gdQ x b0 Y Z = match x with | .undef => Z | .bool b => Bool.rec (motive := fun _ => RR) Z Y (Bool.rec (motive := fun _ => Bool) (!b0) b0 b) | _ => none := by cases x <;> rfl
theorem cellsQ_eq [Tab] (x : AV) : cellsQ x = cellsA x := by
  cases x <;> try rfl
  rename_i cs
  show bifO (onesQ cs) (some cs) = cond (cs.all oneA) (some cs) none
  rw [onesQ_eq]
  cases cs.all oneA <;> rfl
noncomputable def appQ (l m : List AV) : List AV := List.rec (motive := fun _ => List AV) m (fun a _ ih => a :: ih) l
theorem appQ_eq [Tab] (m : List AV) : ∀ l, appQ l m = List.append l m
  | [] => rfl
  | a :: l => congrArg (a :: ·) (appQ_eq m l)
/-- What a call in the quick machine must be like. -/
noncomputable def CallRel (call : Nat → List AV → AS → Option (AV × AS)) (cq : CallQ) : Prop := ∀ f args s K r, cq f args s K = some r → ∃ v s', call f args s = some (v, s') ∧ K v s' = some r
/-- Closures. -/
noncomputable def nS (N : KS) (s : AS) (t : SL) : RR := N t s
noncomputable def put2 (st : PP) (t : SL) (s : AS) (N : KS) (v : AV) : RR := st v t (nS N s)
noncomputable def putV (st : PP) (t : SL) (s : AS) (N : KS) (v : AV) : RR := forceR v (put2 st t s N)
noncomputable def bndV (st : PP) (t : SL) (s : AS) (N : KS) (x : Option AV) : RR := Option.rec (motive := fun _ => RR) none (putV st t s N) x
theorem putV_eq [Tab] (d : Option Nat) (t : SL) (s : AS) (N : KS) (v : AV) : putV (stO d) t s N v = N (t.pw d v) s := by
  unfold putV
  rw [forceR_eq]
  rfl
theorem bndV_ok [Tab] {d : Option Nat} {t : SL} {s : AS} {N : KS} {x : Option AV} {r : RZ} (h : bndV (stO d) t s N x = some r) : ∃ v, x = some v ∧ N (t.pw d v) s = some r := by
  cases x with
  | none => cases h
  | some v => exact ⟨v, rfl, (putV_eq d t s N v).symm.trans h⟩
noncomputable def qMov (g : GG) (st : PP) (_ : CallQ) (t : SL) (s : AS) (_ : KE) (N : KS) : RR := putV st t s N (g t)
noncomputable def pk2 (ga gb : GG) (st : PP) (t : SL) (s : AS) (N : KS) (c : Bool) : RR := Bool.rec (motive := fun _ => RR) (putV st t s N (gb t)) (putV st t s N (ga t)) c
noncomputable def qPick (gc ga gb : GG) (st : PP) (_ : CallQ) (t : SL) (s : AS) (_ : KE) (N : KS) : RR := onBoolR (gc t) (pk2 ga gb st t s N)
noncomputable def q1 (f : AV → Option AV) (g : GG) (st : PP) (_ : CallQ) (t : SL) (s : AS) (_ : KE) (N : KS) : RR := bndV st t s N (f (g t))
noncomputable def q2 (f : AV → AV → Option AV) (g h : GG) (st : PP) (_ : CallQ) (t : SL) (s : AS) (_ : KE) (N : KS) : RR := bndV st t s N (f (g t) (h t))
noncomputable def q1s (f : AV → AS → Option AV) (g : GG) (st : PP) (_ : CallQ) (t : SL) (s : AS) (_ : KE) (N : KS) : RR := bndV st t s N (f (g t) s)
noncomputable def qSl (g : GG) (lo hi : SL → Option AV) (st : PP) (_ : CallQ) (t : SL) (s : AS) (_ : KE) (N : KS) : RR := bndV st t s N (slSQ (g t) (lo t) (hi t))
noncomputable def sd2 (st : PP) (t : SL) (N : KS) (s : AS) : RR := st .undef t (nS N s)
noncomputable def qSt (f : AV → AV → AS → Option (Nat × AB)) (ga gv : GG) (st : PP) (_ : CallQ) (t : SL) (s : AS) (_ : KE) (N : KS) : RR := putSQ s (sd2 st t N) (f (gv t) (ga t) s)
noncomputable def nw2 (st : PP) (t : SL) (N : KS) (v : AV) (s : AS) : RR := st v t (nS N s)
noncomputable def qNew (ty : Nat) (cs : List AV) (st : PP) (_ : CallQ) (t : SL) (s : AS) (_ : KE) (N : KS) : RR := newQ cs ty s (nw2 st t N)
noncomputable def bx2 (ty : Nat) (st : PP) (t : SL) (s : AS) (N : KS) (cs : List AV) : RR := newQ cs ty s (nw2 st t N)
noncomputable def qBox (ty : Nat) (g : GG) (st : PP) (_ : CallQ) (t : SL) (s : AS) (_ : KE) (N : KS) : RR := Option.rec (motive := fun _ => RR) none (bx2 ty st t s N) (cellsQ (g t))
noncomputable def ar3 (K : List AV → RR) (v : AV) (l : List AV) : RR := K (v :: l)
noncomputable def ar2 (ih : SL → (List AV → RR) → RR) (t : SL) (K : List AV → RR) (v : AV) : RR := ih t (ar3 K v)
noncomputable def argK (gs : List GG) : SL → (List AV → RR) → RR := List.rec (motive := fun _ => SL → (List AV → RR) → RR) (fun _ K => K []) (fun g _ ih t K => forceR (g t) (ar2 ih t K)) gs
theorem argK_eq [Tab] (t : SL) : ∀ (gs : List GG) (K : List AV → RR), argK gs t K = K (gs.map fun g => g t)
  | [], K => rfl
  | g :: gs, K => by
    show forceR (g t) (ar2 (argK gs) t K) = _
    rw [forceR_eq]
    show argK gs t (ar3 K (g t)) = _
    rw [argK_eq t gs]
    rfl
noncomputable def rtP (t : SL) (K : KE) (s : AS) (u : Value) : RR := K (.panic u) t s
noncomputable def rt2 (st : PP) (t : SL) (N : KS) (s : AS) (v : AV) : RR := st v t (nS N s)
noncomputable def rt (st : PP) (t : SL) (K : KE) (N : KS) (v : AV) (s : AS) : RR := onPanR v (rtP t K s) (rt2 st t N s)
noncomputable def cl2 (f : Nat) (cq : CallQ) (s : AS) (K : AV → AS → RR) (l : List AV) : RR := cq f l s K
noncomputable def qCall (f : Nat) (gs : List GG) (st : PP) (cq : CallQ) (t : SL) (s : AS) (K : KE) (N : KS) : RR := argK gs t (cl2 f cq s (rt st t K N))
noncomputable def fnA (cq : CallQ) (s : AS) (K : AV → AS → RR) (l : List AV) (f : Nat) (cs : List AV) : RR := cq f (appQ l cs) s K
noncomputable def fnB (cq : CallQ) (s : AS) (K : AV → AS → RR) (l : List AV) (f : Nat) (cs : List AV) : RR := cq f (appQ cs l) s K
noncomputable def clv (v : AV) (cq : CallQ) (s : AS) (K : AV → AS → RR) (l : List AV) : RR := onFnR v (fnA cq s K l) (fnB cq s K l)
noncomputable def qCallV (g : GG) (gs : List GG) (st : PP) (cq : CallQ) (t : SL) (s : AS) (K : KE) (N : KS) : RR := argK gs t (clv (g t) cq s (rt st t K N))
noncomputable def pn2 (t : SL) (s : AS) (K : KE) (x : Option Value) : RR := match x with
  | some (.iface ty v) => K (.panic (.iface ty v)) t s
  | _ => none
noncomputable def qPan (g : GG) (_ : CallQ) (t : SL) (s : AS) (K : KE) (_ : KS) : RR := pn2 t s K (conA (g t))
noncomputable def gn2 (st : PP) (t : SL) (N : KS) (q : AV × AS) : RR := forceR q.1 (rt2 st t N q.2)
noncomputable def gnp (_ : Value) : RR := none
noncomputable def gb2 (st : PP) (t : SL) (N : KS) (q : AV × AS) : RR := onPanR q.1 gnp (rt2 st t N q.2)
/-- Any other operation. -/
noncomputable def opY (o : Op) : Program → (Operand → AV) → AS → Option (AV × AS) :=
  Op.rec (motive := fun _ => Program → (Operand → AV) → AS → Option (AV × AS)) (fun x _ ev s => some (ev x, s)) (fun x _ ev s => some (ev x, s)) (fun c a b P ev s => opA P (.pick c a b) ev s)
    (fun t P _ s => allocA P t s) (fun t x _ ev s => boxA t (ev x) s) (fun t ps P ev s => opA P (.build t ps) ev s) (fun t n ps P ev s => opA P (.buildSlice t n ps) ev s)
    (fun t m k v P ev s => opA P (.insert t m k v) ev s) (fun t a P ev s => opA P (.load t a) ev s) (fun t a v P ev s => opA P (.store t a v) ev s)
    (fun _ _ _ _ => none) (fun _ _ _ _ => none) (fun x P ev s => opA P (.nilCheck x) ev s) (fun op t x y u P ev s => opA P (.binOp op t x y u) ev s) (fun op t x P ev s => opA P (.unOp op t x) ev s)
    (fun a b x P ev s => convA P a b (ev x) s) (fun _ _ _ _ _ => none) (fun t x P ev s => opA P (.makeInterface t x) ev s) (fun fn a b P ev s => opA P (.makeFunc fn a b) ev s)
    (fun t r P ev s => opA P (.makeMap t r) ev s) (fun _ _ _ _ _ => none) (fun t l c P ev s => makeSliceA P t (ev l) (ev c) s) (fun t x lo hi mx P ev s => opA P (.slice t x lo hi mx) ev s)
    (fun t x f P ev s => opA P (.fieldAddr t x f) ev s) (fun t x f P ev s => opA P (.field t x f) ev s) (fun t x i P ev s => opA P (.indexAddr t x i) ev s)
    (fun t x i P ev s => opA P (.index t x i) ev s) (fun t x i ok P ev s => opA P (.lookup t x i ok) ev s) (fun t m k v P ev s => opA P (.mapUpdate t m k v) ev s)
    (fun _ _ _ _ _ _ => none) (fun _ _ _ _ _ _ _ => none) (fun t x P ev s => rangeA P t (ev x) s) (fun _ _ _ _ _ => none) (fun x P ev s => opA P (.entry x) ev s)
    (fun x a b ok P ev s => opA P (.typeAssert x a b ok) ev s) (fun x i P ev s => opA P (.extract x i) ev s) (fun _ _ _ _ => none) (fun _ _ _ _ => none) (fun _ _ _ _ => none) (fun _ _ _ _ => none)
    (fun _ _ _ _ _ => none) (fun _ _ _ _ _ _ => none) (fun _ _ _ _ _ => none) o
theorem opY_ok {o : Op} {P : Program} {ev : Operand → AV} {s : AS} {q : AV × AS} (h : opY o P ev s = some q) : opA P o ev s = some q := by
  cases o <;> first | exact h | (cases h; done) | skip
noncomputable def qGen (P : Program) (op : Op) (st : PP) (_ : CallQ) (t : SL) (s : AS) (_ : KE) (N : KS) : RR := Option.rec (motive := fun _ => RR) none (gn2 st t N) (opY op P (oevF t.at) s)
noncomputable def bl2 (P : Program) (b : Builtin) (ts : List Nat) (st : PP) (t : SL) (s : AS) (N : KS) (l : List AV) : RR := Option.rec (motive := fun _ => RR) none (gb2 st t N) (builtinA P b ts l s)
noncomputable def qBlt (P : Program) (b : Builtin) (ts : List Nat) (gs : List GG) (st : PP) (_ : CallQ) (t : SL) (s : AS) (_ : KE) (N : KS) : RR := argK gs t (bl2 P b ts st t s N)
noncomputable def qGd (b : Bool) (g : GG) (q : QQ) (st : PP) (cq : CallQ) (t : SL) (s : AS) (K : KE) (N : KS) : RR := gdQ (g t) b (q cq t s K N) (st .undef t (nS N s))
/-- Operands. -/
noncomputable def withO (x : Operand) (K : GG → XX) : XX := match x with
  | .tmp k => withG k K
  | .const v => forceX (absV v) fun a => K (gCon a)
  | .global _ => K (gCon .top)
  | .func f => K (gCon (.fn f []))
theorem withO_eq [Tab] (x : Operand) (K : GG → XX) : withO x K = K (fun t => oevF t.at x) := by
  cases x with
  | tmp k => exact withG_eq k K
  | const v => exact forceX_eq _ _
  | global g => rfl
  | func f => rfl
noncomputable def sm (g : GG) (t : SL) : Option AV := some (g t)
noncomputable def sn (_ : SL) : Option AV := none
noncomputable def withOO (x : Option Operand) (K : (SL → Option AV) → XX) : XX := match x with
  | none => K sn
  | some x => withO x fun g => K (sm g)
theorem withOO_eq [Tab] (x : Option Operand) (K : (SL → Option AV) → XX) : withOO x K = K (fun t => x.map (oevF t.at)) := by
  cases x with
  | none => rfl
  | some x => exact withO_eq x _
noncomputable def withOs : List Operand → (List GG → XX) → XX
  | [], K => K []
  | x :: r, K => withO x fun g => withOs r fun l => K (g :: l)
theorem withOs_eq [Tab] : ∀ (l : List Operand) (K : List GG → XX), withOs l K = K (l.map fun x t => oevF t.at x)
  | [], K => rfl
  | x :: r, K => by
    show withO x (fun g => withOs r fun l => K (g :: l)) = _
    rw [withO_eq, withOs_eq r]
    rfl
noncomputable def ldRF (n : Nat) (x : AV) (s : AS) : Option AV := ldRQ x s n
noncomputable def stRF (n : Nat) (v a : AV) (s : AS) : Option (Nat × AB) := stRQ v a s n
noncomputable def faF (off : Nat) (x : AV) : Option AV := faQ x off
noncomputable def fdF (off : Nat) (x : AV) : Option AV := fdQ x off
noncomputable def fdRF (off n : Nat) (x : AV) : Option AV := fdRQ x off n
noncomputable def iaF (n : Nat) (x i : AV) : Option AV := iaQ x i n
noncomputable def iaAF (len n : Nat) (x i : AV) : Option AV := iaAQ x i len n
noncomputable def exF (i : Nat) (x : AV) : Option AV := exQ x i
noncomputable def biF (F : FIq) (op : BinOp) (x y : AV) : Option AV := biQ x F (symB op) y
noncomputable def stF (F : List UInt8 → List UInt8 → Option AV) (op : BinOp) (x y : AV) : Option AV := strQ x F (symB op) y
/-- An operation, turned into a closure. -/
noncomputable def jGen (P : Program) (nt : Nat) (o : Oper) : XX := withP nt o.dst fun st => some (qGen P o.op st)
noncomputable def j1 (nt : Nat) (o : Oper) (f : AV → Option AV) (x : Operand) : XX := withO x fun g => withP nt o.dst fun st => some (q1 f g st)
noncomputable def j2 (nt : Nat) (o : Oper) (f : AV → AV → Option AV) (x y : Operand) : XX := withO x fun g => withO y fun h => withP nt o.dst fun st => some (q2 f g h st)
noncomputable def intF (op : BinOp) : Option FIq := match op with
  | .add => some addI
  | .sub => some subI
  | .mul => some mulI
  | .lss => some lssI
  | .leq => some leqI
  | .gtr => some gtrI
  | .geq => some geqI
  | .eql => some eqlI
  | .neq => some neqI
  | _ => none
noncomputable def strF (op : BinOp) : Option (List UInt8 → List UInt8 → Option AV) := match op with
  | .add => some catS
  | .eql => some eqlS
  | .neq => some neqS
  | _ => none
theorem intF_ok [Tab] {op : BinOp} {F : FIq} (h : intF op = some F) : (∀ a b k, F a b k = intA op k a b) ∧ op ≠ .shl ∧ op ≠ .shr := by
  cases op <;> first | (cases h; done) | (injection h with h; subst h; refine ⟨?_, (by intro e; cases e), (by intro e; cases e)⟩; first | exact addI_eq | exact subI_eq | exact mulI_eq | exact lssI_eq | exact leqI_eq | exact gtrI_eq | exact geqI_eq | exact eqlI_eq | exact neqI_eq)
theorem strF_ok [Tab] {op : BinOp} {F : List UInt8 → List UInt8 → Option AV} (h : strF op = some F) : ∀ a b, F a b = strA op a b := by
  cases op <;> first | (cases h; done) | (injection h with h; subst h; first | exact catS_eq | exact eqlS_eq | exact neqS_eq)
noncomputable def jBin (P : Program) (nt : Nat) (o : Oper) (op : BinOp) (t : Nat) (x y : Operand) : XX := match P.underlying t with
  | some (.int _) => match intF op with
    | some F => j2 nt o (biF F op) x y
    | none => jGen P nt o
  | some .string => match strF op with
    | some F => j2 nt o (stF F op) x y
    | none => jGen P nt o
  | _ => jGen P nt o
noncomputable def jBlt (P : Program) (nt : Nat) (o : Oper) (b : Builtin) (ts : List Nat) (xs : List Operand) : XX := withOs xs fun gs => withP nt o.dst fun st => some (qBlt P b ts gs st)
noncomputable def jLen (P : Program) (nt : Nat) (o : Oper) (ts : List Nat) (xs : List Operand) : XX := match ts, xs with
  | t :: _, [x] => match P.underlying t with
    | some .string => j1 nt o lenSQ x
    | some (.slice _) => j1 nt o lenLQ x
    | _ => jBlt P nt o .len ts xs
  | _, _ => none
noncomputable def jCall (P : Program) (nt : Nat) (o : Oper) (c : Call) : XX := match c.callee with
  | .value (.func f) => withOs c.args.toList fun gs => withP nt o.dst fun st => some (qCall f gs st)
  | .value x => withO x fun g => withOs c.args.toList fun gs => withP nt o.dst fun st => some (qCallV g gs st)
  | .builtin .len => jLen P nt o c.argTypes.toList c.args.toList
  | .builtin b => jBlt P nt o b c.argTypes.toList c.args.toList
  | .invoke _ _ => none
noncomputable def jLoad (P : Program) (nt : Nat) (o : Oper) (t : Nat) (a : Operand) : XX := match P.underlying t with
  | none => none
  | some d => withO a fun g => withP nt o.dst fun st => cond (rowD d) (match P.info? t with
    | some i => cond (Nat.ble 1 i.size) (some (q1s (ldRF i.size) g st)) none
    | none => none) (some (q1s ldQ g st))
noncomputable def jStore (P : Program) (nt : Nat) (o : Oper) (t : Nat) (a v : Operand) : XX := match P.underlying t with
  | none => none
  | some d => match P.info? t with
    | none => none
    | some i => withO a fun ga => withO v fun gv => withP nt o.dst fun st => cond (rowD d) (some (qSt (stRF i.size) ga gv st)) (cond (Nat.beq i.size 1) (some (qSt stQ ga gv st)) none)
noncomputable def jFA (P : Program) (nt : Nat) (o : Oper) (t f : Nat) (x : Operand) : XX := match fieldAt P t f with
  | some q => cond (Nat.beq q.2.1 0) none (j1 nt o (faF q.1) x)
  | none => none
noncomputable def jFd (P : Program) (nt : Nat) (o : Oper) (t f : Nat) (x : Operand) : XX := match fieldAt P t f with
  | some q => cond q.2.2 (cond (Nat.ble 1 q.2.1) (j1 nt o (fdRF q.1 q.2.1) x) none) (j1 nt o (fdF q.1) x)
  | none => none
noncomputable def jIA (P : Program) (nt : Nat) (o : Oper) (t : Nat) (x i : Operand) : XX := match P.underlying t with
  | some (.slice e) => match P.info? e with
    | some ie => j2 nt o (iaF ie.size) x i
    | none => none
  | some (.array n e) => match P.info? e with
    | some ie => j2 nt o (iaAF n ie.size) x i
    | none => none
  | _ => none
noncomputable def jIx (P : Program) (nt : Nat) (o : Oper) (t : Nat) (x i : Operand) : XX := match P.underlying t with
  | some .string => j2 nt o ixQ x i
  | _ => jGen P nt o
noncomputable def jSl (P : Program) (nt : Nat) (o : Oper) (t : Nat) (x : Operand) (lo hi mx : Option Operand) : XX := match P.underlying t with
  | some .string => match mx with
    | none => withO x fun g => withOO lo fun gl => withOO hi fun gh => withP nt o.dst fun st => some (qSl g gl gh st)
    | some _ => none
  | _ => jGen P nt o
noncomputable def jit1 (P : Program) (nt : Nat) (o : Oper) : XX := match o.op with
  | .move x => withO x fun g => withP nt o.dst fun st => some (qMov g st)
  | .assign x => withO x fun g => withP nt o.dst fun st => some (qMov g st)
  | .pick c a b => withO c fun gc => withO a fun ga => withO b fun gb => withP nt o.dst fun st => some (qPick gc ga gb st)
  | .alloc t => match zeroA P t with
    | some cs => withP nt o.dst fun st => some (qNew t cs st)
    | none => none
  | .box t x => withO x fun g => withP nt o.dst fun st => some (qBox t g st)
  | .load t a => jLoad P nt o t a
  | .store t a v => jStore P nt o t a v
  | .nilCheck x => j1 nt o nilQ x
  | .binOp op t x y _ => jBin P nt o op t x y
  | .unOp .not _ x => j1 nt o notQ x
  | .fieldAddr t x f => jFA P nt o t f x
  | .field t x f => jFd P nt o t f x
  | .indexAddr t x i => jIA P nt o t x i
  | .index t x i => jIx P nt o t x i
  | .slice t x lo hi mx => jSl P nt o t x lo hi mx
  | .extract x i => j1 nt o (exF i) x
  | .call c => jCall P nt o c
  | .panic x => withO x fun g => withP nt o.dst fun _ => some (qPan g)
  | _ => jGen P nt o
/-- What a closure must do. -/
structure OpOK (P : Program) (call : Nat → List AV → AS → Option (AV × AS)) (cq : CallQ) (nt : Nat) (o : Oper) (q : QQ) : Prop where
  dst : ∀ k, o.dst = some k → k < nt
  run : ∀ t s K N r, q cq t s K N = some r → (∃ v s', evOp P call o (oevF t.at) s = some (v, s') ∧ panO call o (oevF t.at) s = none ∧ N (t.pw o.dst v) s' = some r) ∨ (∃ u s', evOp P call o (oevF t.at) s = none ∧ panO call o (oevF t.at) s = some (u, s') ∧ K (.panic u) t s' = some r)
/-- Operations that neither call nor panic. -/
noncomputable def mild : Op → Bool
  | .call _ => false
  | .panic _ => false
  | _ => true
theorem mild_ev {P : Program} {call : Nat → List AV → AS → Option (AV × AS)} {o : Oper} {ev : Operand → AV} {s : AS} (h : mild o.op = true) : evOp P call o ev s = opA P o.op ev s ∧ panO call o ev s = none := by
  unfold evOp panO
  cases ho : o.op <;> rw [ho] at h <;> first | (cases h; done) | exact ⟨rfl, rfl⟩
theorem OpOK.mild [Tab] {P : Program} {call : Nat → List AV → AS → Option (AV × AS)} {cq : CallQ} {nt : Nat} {o : Oper} {q : QQ} (hm : mild o.op = true) (hd : ∀ k, o.dst = some k → k < nt) (h : ∀ t s K N r, q cq t s K N = some r → ∃ v s', opA P o.op (oevF t.at) s = some (v, s') ∧ N (t.pw o.dst v) s' = some r) : OpOK P call cq nt o q :=
  ⟨hd, fun t s K N r hr => by
    obtain ⟨v, s', h1, h2⟩ := h t s K N r hr
    obtain ⟨e1, e2⟩ := mild_ev (P := P) (call := call) (ev := oevF t.at) (s := s) hm
    exact .inl ⟨v, s', e1.trans h1, e2, h2⟩⟩
theorem withS_some {s : AS} {x : Option AV} {v : AV} (h : x = some v) : withS s x = some (v, s) := by rw [h]; rfl
theorem jGen_ok [Tab] {P : Program} {call : Nat → List AV → AS → Option (AV × AS)} {cq : CallQ} {nt : Nat} {o : Oper} {q : QQ} (hm : mild o.op = true) (h : jGen P nt o = some q) : OpOK P call cq nt o q := by
  obtain ⟨h, hd⟩ := withP_ok h
  injection h with h
  subst h
  refine OpOK.mild hm hd fun t s K N r hr => ?_
  unfold qGen at hr
  cases ho : opY o.op P (oevF t.at) s with
  | none => rw [ho] at hr; cases hr
  | some p =>
    rw [ho] at hr
    replace hr : forceR p.1 (rt2 (stO o.dst) t N p.2) = some r := hr
    rw [forceR_eq] at hr
    exact ⟨p.1, p.2, opY_ok ho, hr⟩
theorem j1_ok [Tab] {P : Program} {call : Nat → List AV → AS → Option (AV × AS)} {cq : CallQ} {nt : Nat} {o : Oper} {f : AV → Option AV} {x : Operand} {q : QQ} (hm : mild o.op = true) (hf : ∀ ev s v, f (ev x) = some v → opA P o.op ev s = some (v, s)) (h : j1 nt o f x = some q) : OpOK P call cq nt o q := by
  unfold j1 at h
  rw [withO_eq] at h
  obtain ⟨h, hd⟩ := withP_ok h
  injection h with h
  subst h
  refine OpOK.mild hm hd fun t s K N r hr => ?_
  obtain ⟨v, h1, h2⟩ := bndV_ok hr
  exact ⟨v, s, hf _ s v h1, h2⟩
theorem j2_ok [Tab] {P : Program} {call : Nat → List AV → AS → Option (AV × AS)} {cq : CallQ} {nt : Nat} {o : Oper} {f : AV → AV → Option AV} {x y : Operand} {q : QQ} (hm : mild o.op = true) (hf : ∀ ev s v, f (ev x) (ev y) = some v → opA P o.op ev s = some (v, s)) (h : j2 nt o f x y = some q) : OpOK P call cq nt o q := by
  unfold j2 at h
  rw [withO_eq, withO_eq] at h
  obtain ⟨h, hd⟩ := withP_ok h
  injection h with h
  subst h
  refine OpOK.mild hm hd fun t s K N r hr => ?_
  obtain ⟨v, h1, h2⟩ := bndV_ok hr
  exact ⟨v, s, hf _ s v h1, h2⟩
theorem jBin_ok [Tab] {P : Program} {call : Nat → List AV → AS → Option (AV × AS)} {cq : CallQ} {nt : Nat} {o : Oper} {op : BinOp} {t u : Nat} {x y : Operand} {q : QQ} (ho : o.op = .binOp op t x y u) (h : jBin P nt o op t x y = some q) : OpOK P call cq nt o q := by
  have hm : mild o.op = true := by rw [ho]; rfl
  unfold jBin at h
  split at h
  · split at h
    · rename_i F hF
      obtain ⟨h1, h2, h3⟩ := intF_ok hF
      refine j2_ok hm (fun ev s v hv => ?_) h
      rw [ho]
      exact withS_some (biQ_ok h1 h2 h3 hv)
    · exact jGen_ok hm h
  · split at h
    · rename_i F hF
      refine j2_ok hm (fun ev s v hv => ?_) h
      rw [ho]
      exact withS_some (strQ_ok (strF_ok hF) hv)
    · exact jGen_ok hm h
  · exact jGen_ok hm h
theorem rt_ok [Tab] {d : Option Nat} {t : SL} {K : KE} {N : KS} {v : AV} {s : AS} {r : RZ} (h : rt (stO d) t K N v s = some r) : (∃ u, v = .pan u ∧ K (.panic u) t s = some r) ∨ ((∀ u, v ≠ .pan u) ∧ N (t.pw d v) s = some r) := by
  unfold rt at h
  by_cases hp : ∃ u, v = .pan u
  · obtain ⟨u, rfl⟩ := hp
    exact .inl ⟨u, rfl, h⟩
  · have hn : ∀ u, v ≠ .pan u := fun u e => hp ⟨u, e⟩
    rw [onPanR_ne hn] at h
    exact .inr ⟨hn, h⟩
theorem noPan_ne {v : AV} {s : AS} (h : ∀ u, v ≠ .pan u) : noPan (some (v, s)) = some (v, s) := by
  cases v <;> first | rfl | exact absurd rfl (h _)
theorem unPan_ne {v : AV} {s : AS} (h : ∀ u, v ≠ .pan u) : unPan (some (v, s)) = none := by
  cases v <;> first | rfl | exact absurd rfl (h _)
/-- A call's end. -/
theorem call_end [Tab] {P : Program} {call : Nat → List AV → AS → Option (AV × AS)} {cq : CallQ} (hc : CallRel call cq) {o : Oper} {c : Call} (ho : o.op = .call c) {f : Nat} {l : List AV} {t : SL} {s : AS} {K : KE} {N : KS} {r : RZ} (he : ∀ (R : Option (AV × AS)), call f l s = R → callA P call c (oevF t.at) s = R ∧ panA call c (oevF t.at) s = unPan R) (h : cq f l s (rt (stO o.dst) t K N) = some r) :
    (∃ v s', evOp P call o (oevF t.at) s = some (v, s') ∧ panO call o (oevF t.at) s = none ∧ N (t.pw o.dst v) s' = some r) ∨ (∃ u s', evOp P call o (oevF t.at) s = none ∧ panO call o (oevF t.at) s = some (u, s') ∧ K (.panic u) t s' = some r) := by
  obtain ⟨v, s', h1, h2⟩ := hc _ _ _ _ _ h
  obtain ⟨e1, e2⟩ := he _ h1
  have e3 : evOp P call o (oevF t.at) s = noPan (some (v, s')) := by
    unfold evOp
    rw [ho]
    dsimp only
    rw [e1]
  have e4 : panO call o (oevF t.at) s = unPan (some (v, s')) := by
    unfold panO
    rw [ho]
    exact e2
  rcases rt_ok h2 with ⟨u, rfl, h3⟩ | ⟨hn, h3⟩
  · exact .inr ⟨u, s', e3, e4, h3⟩
  · exact .inl ⟨v, s', e3.trans (noPan_ne hn), e4.trans (unPan_ne hn), h3⟩
theorem jBlt_ok [Tab] {P : Program} {call : Nat → List AV → AS → Option (AV × AS)} {cq : CallQ} {nt : Nat} {o : Oper} {c : Call} {b : Builtin} {q : QQ} (ho : o.op = .call c) (hb : c.callee = .builtin b) (h : jBlt P nt o b c.argTypes.toList c.args.toList = some q) : OpOK P call cq nt o q := by
  unfold jBlt at h
  rw [withOs_eq] at h
  obtain ⟨h, hd⟩ := withP_ok h
  injection h with h
  subst h
  refine ⟨hd, fun t s K N r hr => ?_⟩
  unfold qBlt at hr
  rw [argK_eq] at hr
  simp only [List.map_map] at hr
  replace hr : Option.rec (motive := fun _ => RR) none (gb2 (stO o.dst) t N) (builtinA P b c.argTypes.toList (c.args.toList.map (oevF t.at)) s) = some r := hr
  cases hbl : builtinA P b c.argTypes.toList (c.args.toList.map (oevF t.at)) s with
  | none => rw [hbl] at hr; cases hr
  | some p =>
    rw [hbl] at hr
    replace hr : onPanR p.1 gnp (rt2 (stO o.dst) t N p.2) = some r := hr
    have hn : ∀ u, p.1 ≠ .pan u := fun u e => by rw [e] at hr; cases hr
    rw [onPanR_ne hn] at hr
    refine .inl ⟨p.1, p.2, ?_, ?_, hr⟩
    · unfold evOp callA
      rw [ho]
      dsimp only
      rw [hb]
      dsimp only
      rw [hbl]
      exact noPan_ne hn
    · unfold panO panA
      rw [ho]
      dsimp only
      rw [hb]
theorem len_ok [Tab] {P : Program} {call : Nat → List AV → AS → Option (AV × AS)} {cq : CallQ} {nt : Nat} {o : Oper} {c : Call} {t0 : Nat} {ts : List Nat} {x : Operand} {q : QQ} {f : AV → Option AV} (ho : o.op = .call c) (hb : c.callee = .builtin .len) (hts : c.argTypes.toList = t0 :: ts) (hxs : c.args.toList = [x]) (hf : ∀ a s v, f a = some v → lenA P t0 a s = some v ∧ ∀ u, v ≠ .pan u) (h : j1 nt o f x = some q) : OpOK P call cq nt o q := by
  unfold j1 at h
  rw [withO_eq] at h
  obtain ⟨h, hd⟩ := withP_ok h
  injection h with h
  subst h
  refine ⟨hd, fun t s K N r hr => ?_⟩
  obtain ⟨v, h1, h2⟩ := bndV_ok hr
  obtain ⟨h3, hn⟩ := hf _ s v h1
  refine .inl ⟨v, s, ?_, ?_, h2⟩
  · unfold evOp callA
    rw [ho]
    dsimp only
    rw [hb]
    dsimp only
    rw [hts, hxs]
    show noPan (withS s (lenA P t0 (oevF t.at x) s)) = some (v, s)
    rw [h3]
    exact noPan_ne hn
  · unfold panO panA
    rw [ho]
    dsimp only
    rw [hb]
theorem jCall_ok [Tab] {P : Program} {call : Nat → List AV → AS → Option (AV × AS)} {cq : CallQ} (hc : CallRel call cq) {nt : Nat} {o : Oper} {c : Call} {q : QQ} (ho : o.op = .call c) (h : jCall P nt o c = some q) : OpOK P call cq nt o q := by
  unfold jCall at h
  split at h
  · rename_i f hcal
    rw [withOs_eq] at h
    obtain ⟨h, hd⟩ := withP_ok h
    injection h with h
    subst h
    refine ⟨hd, fun t s K N r hr => ?_⟩
    unfold qCall at hr
    rw [argK_eq] at hr
    simp only [List.map_map] at hr
    refine call_end hc ho (f := f) (l := c.args.toList.map (oevF t.at)) (fun R hR => ?_) hr
    unfold callA panA
    rw [hcal]
    have e : List.append (c.args.toList.map (oevF t.at)) [] = c.args.toList.map (oevF t.at) := List.append_nil _
    show call f (List.append (c.args.toList.map (oevF t.at)) []) s = R ∧ unPan (call f (List.append (c.args.toList.map (oevF t.at)) []) s) = unPan R
    rw [e, hR]
    exact ⟨rfl, rfl⟩
  · rename_i x _ hcal
    rw [withO_eq, withOs_eq] at h
    obtain ⟨h, hd⟩ := withP_ok h
    injection h with h
    subst h
    refine ⟨hd, fun t s K N r hr => ?_⟩
    unfold qCallV at hr
    rw [argK_eq] at hr
    simp only [List.map_map] at hr
    replace hr : onFnR (oevF t.at x) (fnA cq s (rt (stO o.dst) t K N) (c.args.toList.map (oevF t.at))) (fnB cq s (rt (stO o.dst) t K N) (c.args.toList.map (oevF t.at))) = some r := hr
    rw [onFnR_eq] at hr
    split at hr
    · rename_i f cs hf
      unfold fnA at hr
      rw [appQ_eq] at hr
      refine call_end hc ho (fun R hR => ?_) hr
      unfold callA panA
      rw [hcal]
      dsimp only
      rw [hf]
      dsimp only
      rw [hR]
      exact ⟨rfl, rfl⟩
    · rename_i f cs hf
      unfold fnB at hr
      rw [appQ_eq] at hr
      refine call_end hc ho (fun R hR => ?_) hr
      unfold callA panA
      rw [hcal]
      dsimp only
      rw [hf]
      dsimp only
      rw [hR]
      exact ⟨rfl, rfl⟩
    · cases hr
  · rename_i hcal
    unfold jLen at h
    split at h
    · rename_i t0 ts x hts hxs
      split at h
      · rename_i ht
        refine len_ok ho hcal hts hxs (fun a s v hv => ?_) h
        rw [lenSQ_eq] at hv
        split at hv
        · injection hv with hv
          subst hv
          unfold lenA
          rw [ht]
          dsimp only
          rw [lenB_eq]
          exact ⟨rfl, fun u e => by cases e⟩
        · injection hv with hv
          subst hv
          unfold lenA
          rw [ht]
          exact ⟨rfl, fun u e => by cases e⟩
        · cases hv
      · rename_i e ht
        refine len_ok ho hcal hts hxs (fun a s v hv => ?_) h
        rw [lenLQ_eq] at hv
        unfold lenA
        rw [ht]
        dsimp only
        split at hv <;> first | (cases hv; done) | (injection hv with hv; subst hv; exact ⟨rfl, fun u e => by cases e⟩)
      · exact jBlt_ok ho hcal h
    · cases h
  · rename_i b _ hcal
    exact jBlt_ok ho hcal h
  · cases h
theorem jit1_ok [Tab] {P : Program} {call : Nat → List AV → AS → Option (AV × AS)} {cq : CallQ} (hc : CallRel call cq) {nt : Nat} {o : Oper} {q : QQ} (h : jit1 P nt o = some q) : OpOK P call cq nt o q := by
  have mov : ∀ x, (∀ ev s, opA P o.op ev s = some (ev x, s)) → mild o.op = true → (withO x fun g => withP nt o.dst fun st => some (qMov g st)) = some q → OpOK P call cq nt o q := by
    intro x hx hm h
    rw [withO_eq] at h
    obtain ⟨h, hd⟩ := withP_ok h
    injection h with h
    subst h
    refine OpOK.mild hm hd fun t s K N r hr => ?_
    unfold qMov at hr
    rw [putV_eq] at hr
    exact ⟨_, s, hx _ s, hr⟩
  unfold jit1 at h
  split at h
  · rename_i x ho
    exact mov x (fun ev s => by rw [ho]; rfl) (by rw [ho]; rfl) h
  · rename_i x ho
    exact mov x (fun ev s => by rw [ho]; rfl) (by rw [ho]; rfl) h
  · rename_i c a b ho
    rw [withO_eq, withO_eq, withO_eq] at h
    obtain ⟨h, hd⟩ := withP_ok h
    injection h with h
    subst h
    refine OpOK.mild (by rw [ho]; rfl) hd fun t s K N r hr => ?_
    unfold qPick at hr
    rw [onBoolR_eq] at hr
    rw [ho]
    unfold opA
    dsimp only
    split at hr
    · rename_i u hu
      replace hu : oevF t.at c = .bool u := hu
      rw [hu]
      unfold pk2 at hr
      cases u with
      | true => dsimp only at hr; rw [putV_eq] at hr; exact ⟨_, s, rfl, hr⟩
      | false => dsimp only at hr; rw [putV_eq] at hr; exact ⟨_, s, rfl, hr⟩
    · cases hr
  · rename_i t ho
    split at h
    · rename_i cs hz
      obtain ⟨h, hd⟩ := withP_ok h
      injection h with h
      subst h
      refine OpOK.mild (by rw [ho]; rfl) hd fun t' s K N r hr => ?_
      obtain ⟨v, s', h1, h2⟩ := newQ_ok hr
      refine ⟨v, s', ?_, h2⟩
      rw [ho]
      show allocA P t s = some (v, s')
      unfold allocA
      rw [hz]
      exact h1
    · cases h
  · rename_i t x ho
    rw [withO_eq] at h
    obtain ⟨h, hd⟩ := withP_ok h
    injection h with h
    subst h
    refine OpOK.mild (by rw [ho]; rfl) hd fun t' s K N r hr => ?_
    unfold qBox at hr
    rw [cellsQ_eq] at hr
    cases hcs : cellsA (oevF t'.at x) with
    | none => rw [hcs] at hr; cases hr
    | some cs =>
      rw [hcs] at hr
      obtain ⟨v, s', h1, h2⟩ := newQ_ok hr
      refine ⟨v, s', ?_, h2⟩
      rw [ho]
      show boxA t (oevF t'.at x) s = some (v, s')
      unfold boxA
      rw [hcs]
      exact h1
  · rename_i t a ho
    unfold jLoad at h
    split at h
    · cases h
    · rename_i d hd0
      rw [withO_eq] at h
      obtain ⟨h, hd⟩ := withP_ok h
      have hm : mild o.op = true := by rw [ho]; rfl
      cases hr : rowD d with
      | true =>
        rw [hr] at h
        simp only [cond_true] at h
        split at h
        · rename_i i hi
          cases hz : Nat.ble 1 i.size with
          | false => rw [hz] at h; cases h
          | true =>
            rw [hz] at h
            injection h with h
            subst h
            refine OpOK.mild hm hd fun t' s K N r hr' => ?_
            obtain ⟨v, h1, h2⟩ := bndV_ok hr'
            refine ⟨v, s, ?_, h2⟩
            rw [ho]
            exact withS_some (ldRQ_ok hd0 hr hi (Nat.le_of_ble_eq_true hz) h1)
        · cases h
      | false =>
        rw [hr] at h
        injection h with h
        subst h
        refine OpOK.mild hm hd fun t' s K N r hr' => ?_
        obtain ⟨v, h1, h2⟩ := bndV_ok hr'
        refine ⟨v, s, ?_, h2⟩
        rw [ho]
        exact withS_some (ldQ_ok hd0 hr h1)
  · rename_i t a v ho
    unfold jStore at h
    split at h
    · cases h
    · rename_i d hd0
      split at h
      · cases h
      · rename_i i hi
        rw [withO_eq, withO_eq] at h
        obtain ⟨h, hd⟩ := withP_ok h
        have hm : mild o.op = true := by rw [ho]; rfl
        cases hr : rowD d with
        | true =>
          rw [hr] at h
          injection h with h
          subst h
          refine OpOK.mild hm hd fun t' s K N r hr' => ?_
          obtain ⟨b, y, h1, h2⟩ := putSQ_ok hr'
          refine ⟨.undef, _, ?_, h2⟩
          rw [ho]
          show skipS (storeA P t (oevF t'.at a) (oevF t'.at v) s) = _
          rw [stRQ_ok hi h1]
          rfl
        | false =>
          rw [hr] at h
          simp only [cond_false] at h
          cases hz : Nat.beq i.size 1 with
          | false => rw [hz] at h; cases h
          | true =>
            rw [hz] at h
            injection h with h
            subst h
            refine OpOK.mild hm hd fun t' s K N r hr' => ?_
            obtain ⟨b, y, h1, h2⟩ := putSQ_ok hr'
            refine ⟨.undef, _, ?_, h2⟩
            rw [ho]
            show skipS (storeA P t (oevF t'.at a) (oevF t'.at v) s) = _
            rw [stQ_ok hi (Nat.eq_of_beq_eq_true hz) h1]
            rfl
  · rename_i x ho
    refine j1_ok (by rw [ho]; rfl) (fun ev s v hv => ?_) h
    rw [ho]
    unfold opA
    dsimp only
    rw [nilQ_eq] at hv
    split at hv <;> first | (cases hv; done) | (rename_i he; rw [he]; injection hv with hv; subst hv; rfl)
  · rename_i op t x y u ho
    exact jBin_ok ho h
  · rename_i ty x ho
    refine j1_ok (by rw [ho]; rfl) (fun ev s v hv => ?_) h
    rw [ho]
    rw [notQ_eq] at hv
    split at hv
    · rename_i b he
      injection hv with hv
      subst hv
      show withS s (unA .not (ev x)) = _
      rw [he]
      rfl
    · cases hv
  · rename_i t x f ho
    unfold jFA at h
    split at h
    · rename_i p hp
      cases hz : Nat.beq p.2.1 0 with
      | true => rw [hz] at h; cases h
      | false =>
        rw [hz] at h
        refine j1_ok (by rw [ho]; rfl) (fun ev s v hv => ?_) h
        rw [ho]
        exact withS_some (faQ_ok (r := p.2.2) hp hz hv)
    · cases h
  · rename_i t x f ho
    unfold jFd at h
    split at h
    · rename_i p hp
      cases hr : p.2.2 with
      | true =>
        rw [hr] at h
        simp only [cond_true] at h
        cases hz : Nat.ble 1 p.2.1 with
        | false => rw [hz] at h; cases h
        | true =>
          rw [hz] at h
          refine j1_ok (by rw [ho]; rfl) (fun ev s v hv => ?_) h
          rw [ho]
          exact withS_some (fdRQ_ok (by rw [hp, ← hr]) (Nat.le_of_ble_eq_true hz) hv)
      | false =>
        rw [hr] at h
        refine j1_ok (by rw [ho]; rfl) (fun ev s v hv => ?_) h
        rw [ho]
        exact withS_some (fdQ_ok (size := p.2.1) (by rw [hp, ← hr]) hv)
    · cases h
  · rename_i t x i ho
    unfold jIA at h
    split at h
    · rename_i e ht
      split at h
      · rename_i ie he
        refine j2_ok (by rw [ho]; rfl) (fun ev s v hv => ?_) h
        rw [ho]
        exact withS_some (iaQ_ok ht he hv)
      · cases h
    · rename_i n e ht
      split at h
      · rename_i ie he
        refine j2_ok (by rw [ho]; rfl) (fun ev s v hv => ?_) h
        rw [ho]
        exact withS_some (iaAQ_ok ht he hv)
      · cases h
    · cases h
  · rename_i t x i ho
    unfold jIx at h
    split at h
    · rename_i ht
      refine j2_ok (by rw [ho]; rfl) (fun ev s v hv => ?_) h
      rw [ho]
      exact withS_some (ixQ_ok ht hv)
    · exact jGen_ok (by rw [ho]; rfl) h
  · rename_i t x lo hi mx ho
    unfold jSl at h
    split at h
    · rename_i ht
      split at h
      · rw [withO_eq, withOO_eq, withOO_eq] at h
        obtain ⟨h, hd⟩ := withP_ok h
        injection h with h
        subst h
        refine OpOK.mild (by rw [ho]; rfl) hd fun t' s K N r hr => ?_
        obtain ⟨v, h1, h2⟩ := bndV_ok hr
        refine ⟨v, s, ?_, h2⟩
        rw [ho]
        exact withS_some (slSQ_ok ht h1)
      · cases h
    · exact jGen_ok (by rw [ho]; rfl) h
  · rename_i x i ho
    refine j1_ok (by rw [ho]; rfl) (fun ev s v hv => ?_) h
    rw [ho]
    exact withS_some (exQ_ok hv)
  · rename_i c ho
    exact jCall_ok hc ho h
  · rename_i x ho
    rw [withO_eq] at h
    obtain ⟨h, hd⟩ := withP_ok h
    injection h with h
    subst h
    refine ⟨hd, fun t s K N r hr => ?_⟩
    unfold qPan pn2 at hr
    split at hr
    · rename_i ty v hcon
      refine .inr ⟨_, s, ?_, ?_, hr⟩
      · unfold evOp
        rw [ho]
        rfl
      · unfold panO
        rw [ho]
        dsimp only
        rw [hcon]
    · cases hr
  · rename_i h1 h2 h3 h4 h5 h6 h7 h8 h9 h10 h11 h12 h13 h14 h15 h16 h17 h18
    refine jGen_ok ?_ h
    unfold mild
    split
    · rename_i c ho; exact absurd ho (h17 c)
    · rename_i x ho; exact absurd ho (h18 x)
    · rfl
end Go.Proofs.YthmojpcaagnfkaaGreatDoor


/-
  The quick machine for the kernel: regions, code, functions. No program.
-/
namespace Go.Proofs.YthmojpcaagnfkaaGreatDoor
open Go.RowKit

/-- A region, turned into a row of closures. -/
inductive CL where
  | bad
  | nil
  | cons (q : QQ) (r : CL)
noncomputable def jitG (P : Program) (nt : Nat) (all : List Oper) (o : Oper) : XX := match o.guard with
  | none => jit1 P nt o
  | some p => match nthO all p.1 with
    | none => none
    | some oj => match oj.dst with
      | none => none
      | some d => match jit1 P nt o with
        | none => none
        | some q => withG d fun g => withP nt o.dst fun st => some (qGd p.2 g q st)
noncomputable def jitL (P : Program) (nt : Nat) (all : List Oper) : List Oper → CL
  | [] => .nil
  | o :: r => match jitG P nt all o with
    | some q => .cons q (jitL P nt all r)
    | none => .bad
noncomputable def nL (ih : CallQ → SL → AS → KE → RR) (cq : CallQ) (K : KE) (t : SL) (s : AS) : RR := ih cq t s K
noncomputable def runL (l : CL) : CallQ → SL → AS → KE → RR := CL.rec (motive := fun _ => CallQ → SL → AS → KE → RR) (fun _ _ _ _ => none) (fun _ t s K => K .normal t s) (fun q _ ih cq t s K => q cq t s K (nL ih cq K)) l
theorem putT_at [Tab] {nt : Nat} (hl : nt ≤ 1000000) {tr : Tr AV} {t : SL} (h : tr.get .top = t.at) {d : Option Nat} (hd : ∀ k, d = some k → k < nt) (v : AV) : ∃ tr', putT nt tr d v = some tr' ∧ tr'.get .top = (t.pw d v).at := by
  have hp : ∃ tr', putT nt tr d v = some tr' := by
    unfold putT
    cases d with
    | none => exact ⟨_, rfl⟩
    | some k =>
      dsimp only
      rw [Nat.ble_eq_true_of_le (hd k rfl)]
      exact ⟨_, rfl⟩
  obtain ⟨tr', hp⟩ := hp
  refine ⟨tr', hp, ?_⟩
  rw [SL.at_pw, ← h]
  funext k
  exact putT_get hl hp k
/-- What the region comes to. -/
noncomputable def RegS (P : Program) (call : Nat → List AV → AS → Option (AV × AS)) (all : Array Oper) (nt : Nat) (l : List Oper) (tr : Tr AV) (s : AS) (e : Ex) (tr' : Tr AV) (s' : AS) : Prop :=
  (evOps P call all nt l tr s = some (tr', s') ∧ e = .normal) ∨ (evOps P call all nt l tr s = none ∧ ∃ u, evOpsP P call all nt l tr s = some (u, tr', s') ∧ e = .panic u)
theorem RegS.cons {P : Program} {call : Nat → List AV → AS → Option (AV × AS)} {all : Array Oper} {nt : Nat} {o : Oper} {l : List Oper} {tr tr1 tr' : Tr AV} {s s1 s' : AS} {e : Ex} {v : AV} (hw : wantA all o tr = some true) (h1 : evOp P call o (oev tr) s = some (v, s1)) (h2 : panO call o (oev tr) s = none) (h3 : putT nt tr o.dst v = some tr1) (h : RegS P call all nt l tr1 s1 e tr' s') : RegS P call all nt (o :: l) tr s e tr' s' := by
  have e1 : evOps P call all nt (o :: l) tr s = evOps P call all nt l tr1 s1 := by
    rw [evOps, hw]
    dsimp only
    rw [h1]
    dsimp only
    rw [h3]
  have e2 : evOpsP P call all nt (o :: l) tr s = evOpsP P call all nt l tr1 s1 := by
    rw [evOpsP, hw]
    dsimp only
    rw [h2]
    dsimp only
    rw [h1]
    dsimp only
    rw [h3]
  unfold RegS
  rw [e1, e2]
  exact h
theorem RegS.skip {P : Program} {call : Nat → List AV → AS → Option (AV × AS)} {all : Array Oper} {nt : Nat} {o : Oper} {l : List Oper} {tr tr1 tr' : Tr AV} {s s' : AS} {e : Ex} (hw : wantA all o tr = some false) (h3 : putT nt tr o.dst .undef = some tr1) (h : RegS P call all nt l tr1 s e tr' s') : RegS P call all nt (o :: l) tr s e tr' s' := by
  have e1 : evOps P call all nt (o :: l) tr s = evOps P call all nt l tr1 s := by
    rw [evOps, hw]
    dsimp only
    rw [h3]
  have e2 : evOpsP P call all nt (o :: l) tr s = evOpsP P call all nt l tr1 s := by
    rw [evOpsP, hw]
    dsimp only
    rw [h3]
  unfold RegS
  rw [e1, e2]
  exact h
theorem RegS.pan {P : Program} {call : Nat → List AV → AS → Option (AV × AS)} {all : Array Oper} {nt : Nat} {o : Oper} {l : List Oper} {tr : Tr AV} {s s' : AS} {u : Value} (hw : wantA all o tr = some true) (h1 : evOp P call o (oev tr) s = none) (h2 : panO call o (oev tr) s = some (u, s')) : RegS P call all nt (o :: l) tr s (.panic u) tr s' := by
  refine .inr ⟨?_, u, ?_, rfl⟩
  · rw [evOps, hw]
    dsimp only
    rw [h1]
  · rw [evOpsP, hw]
    dsimp only
    rw [h2]
theorem runL_ok [Tab] {P : Program} {call : Nat → List AV → AS → Option (AV × AS)} {cq : CallQ} (hc : CallRel call cq) {nt : Nat} (hl : nt ≤ 1000000) {all : Array Oper} {K : KE} {r : RZ} : ∀ (l : List Oper) (t : SL) (s : AS) (tr : Tr AV), tr.get .top = t.at → runL (jitL P nt all.toList l) cq t s K = some r →
    ∃ e tr' t' s', RegS P call all nt l tr s e tr' s' ∧ tr'.get .top = t'.at ∧ K e t' s' = some r
  | [], t, s, tr, ht, h => ⟨.normal, tr, t, s, .inl ⟨rfl, rfl⟩, ht, h⟩
  | o :: l, t, s, tr, ht, h => by
    unfold jitL at h
    cases hj : jitG P nt all.toList o with
    | none => rw [hj] at h; cases h
    | some q =>
      rw [hj] at h
      replace h : q cq t s K (nL (runL (jitL P nt all.toList l)) cq K) = some r := h
      have hev : oev tr = oevF t.at := by rw [← ht]; rfl
      -- the operation itself
      have core : ∀ q1, jit1 P nt o = some q1 → wantA all o tr = some true → q1 cq t s K (nL (runL (jitL P nt all.toList l)) cq K) = some r → ∃ e tr' t' s', RegS P call all nt (o :: l) tr s e tr' s' ∧ tr'.get .top = t'.at ∧ K e t' s' = some r := by
        intro q1 hq1 hw h
        have hok := jit1_ok hc hq1
        rcases hok.run t s K _ r h with ⟨v, s1, h1, h2, h3⟩ | ⟨u, s1, h1, h2, h3⟩
        · obtain ⟨tr1, h4, h5⟩ := putT_at hl ht hok.dst v
          obtain ⟨e, tr', t', s', g1, g2, g3⟩ := runL_ok hc hl l _ s1 tr1 h5 h3
          rw [← hev] at h1 h2
          exact ⟨e, tr', t', s', RegS.cons hw h1 h2 h4 g1, g2, g3⟩
        · rw [← hev] at h1 h2
          exact ⟨_, tr, t, s1, RegS.pan hw h1 h2, ht, h3⟩
      unfold jitG at hj
      split at hj
      · rename_i hg
        exact core q hj (by unfold wantA wantF; rw [hg]) h
      · rename_i p hg
        split at hj
        · cases hj
        · rename_i oj hoj
          split at hj
          · cases hj
          · rename_i d hd
            split at hj
            · cases hj
            · rename_i q1 hq1
              rw [withG_eq] at hj
              obtain ⟨hj, hdst⟩ := withP_ok hj
              injection hj with hj
              subst hj
              have hw : wantA all o tr = match t.at d with
                | .bool b => some (b == p.2)
                | .undef => some false
                | _ => none := by
                unfold wantA wantF
                rw [hg, ht]
                dsimp only
                rw [hoj]
                dsimp only
                rw [hd]
                rfl
              have skip : wantA all o tr = some false → nL (runL (jitL P nt all.toList l)) cq K (t.pw o.dst .undef) s = some r → ∃ e tr' t' s', RegS P call all nt (o :: l) tr s e tr' s' ∧ tr'.get .top = t'.at ∧ K e t' s' = some r := by
                intro hw h
                obtain ⟨tr1, h4, h5⟩ := putT_at hl ht hdst .undef
                obtain ⟨e, tr', t', s', g1, g2, g3⟩ := runL_ok hc hl l _ s tr1 h5 h
                exact ⟨e, tr', t', s', RegS.skip hw h4 g1, g2, g3⟩
              unfold qGd at h
              rw [gdQ_eq] at h
              dsimp only at h
              cases hv : t.at d <;> rw [hv] at h hw <;> try (cases h; done)
              · exact skip hw h
              · rename_i b
                dsimp only at h hw
                cases b <;> cases hp : p.2 <;> rw [hp] at h hw <;> first
                  | exact core q1 hq1 hw h
                  | exact skip hw h
/-- Calls in the plain form. -/
noncomputable def callD (cq : CallQ) (f : Nat) (args : List AV) (s : AS) : Option (AV × AS) := match cq f args s fun v s' => some (.val v s') with
  | some (.val v s') => some (v, s')
  | _ => none
theorem callD_ok {call : Nat → List AV → AS → Option (AV × AS)} {cq : CallQ} (hc : CallRel call cq) {f : Nat} {args : List AV} {s : AS} {q : AV × AS} (h : callD cq f args s = some q) : call f args s = some q := by
  unfold callD at h
  split at h
  · rename_i v s' he
    obtain ⟨v1, s1, h1, h2⟩ := hc _ _ _ _ _ he
    injection h2 with h2
    injection h2 with e1 e2
    subst e1
    subst e2
    rw [h1, h]
  · cases h
/-- More calls that answer do no harm. -/
noncomputable def Sub (c1 c2 : Nat → List AV → AS → Option (AV × AS)) : Prop := ∀ f args s q, c1 f args s = some q → c2 f args s = some q
theorem evOp_sub [Tab] {P : Program} {c1 c2 : Nat → List AV → AS → Option (AV × AS)} (hs : Sub c1 c2) {o : Oper} {ev : Operand → AV} {s : AS} {q : AV × AS} (h : evOp P c1 o ev s = some q) : evOp P c2 o ev s = some q := by
  unfold evOp at h ⊢
  split at h
  · rename_i c hc
    obtain ⟨v, s'⟩ := q
    obtain ⟨h, hn⟩ := noPan_ok h
    have : callA P c2 c ev s = some (v, s') := by
      unfold callA at h ⊢
      split at h
      · split at h
        · exact hs _ _ _ _ h
        · exact hs _ _ _ _ h
        · cases h
      · exact h
      · cases h
    rw [this]
    exact noPan_ne hn
  · exact h
theorem evOp_same {P : Program} (c1 c2 : Nat → List AV → AS → Option (AV × AS)) {o : Oper} (h : clsO o ≠ 3) (ev : Operand → AV) : evOp P c1 o ev = evOp P c2 o ev := by
  funext s
  unfold evOp
  split
  · rename_i c hc
    unfold callA
    split
    · rename_i f hf
      exfalso
      apply h
      unfold clsO
      rw [hc]
      dsimp only
      rw [hf]
    · rfl
    · rfl
  · rfl
theorem stepC_sub [Tab] {P : Program} {c1 c2 : Nat → List AV → AS → Option (AV × AS)} (hs : Sub c1 c2) {nt : Nat} {ops : Array Oper} {base : Nat} {ms : Tr Nat} {i : Nat} {o : Oper} {c c' : DC} (h : stepC P c1 nt ops base ms i o c = some c') : stepC P c2 nt ops base ms i o c = some c' := by
  unfold stepC at h ⊢
  split at h
  · cases h
  · exact h
  · split at h
    · rename_i hcl
      rw [evOp_same c1 c2 (by rw [hcl]; decide)] at h
      exact h
    · rename_i hcl
      unfold convC at h ⊢
      rw [evOp_same c1 c2 (by rw [hcl]; decide)] at h
      exact h
    · rename_i hcl
      rw [evOp_same c1 c2 (by rw [hcl]; decide)] at h
      exact h
    · rename_i hcl
      cases hsp : specB ops ms i with
      | true =>
        rw [hsp] at h
        simp only [cond_true] at h ⊢
        unfold specC at h ⊢
        split at h
        · rename_i q hq
          rw [evOp_sub hs hq]
          exact h
        · cases h
      | false =>
        rw [hsp] at h
        simp only [cond_false] at h ⊢
        split at h
        · rename_i q hq
          rw [evOp_sub hs hq]
          exact h
        · cases h
    · cases h
theorem stepsC_sub [Tab] {P : Program} {c1 c2 : Nat → List AV → AS → Option (AV × AS)} (hs : Sub c1 c2) {nt : Nat} {ops : Array Oper} {base : Nat} {ms : Tr Nat} : ∀ (l : List Oper) (i : Nat) (c c' : DC), stepsC P c1 nt ops base ms l i c = some c' → stepsC P c2 nt ops base ms l i c = some c'
  | [], _, _, _, h => h
  | o :: l, i, c, c', h => by
    unfold stepsC at h ⊢
    split at h
    · rename_i c1' h1
      rw [stepC_sub hs h1]
      exact stepsC_sub hs l _ _ _ h
    · cases h
theorem drawF_sub [Tab] {P : Program} {c1 c2 : Nat → List AV → AS → Option (AV × AS)} (hs : Sub c1 c2) {nt : Nat} {ops : Array Oper} {f : Nat → AV} {s : AS} {q : (Nat → AV) × AS} (h : drawF P c1 nt ops f s = some q) : drawF P c2 nt ops f s = some q := by
  unfold drawF at h ⊢
  cases h1 : statB ops with
  | false => rw [h1] at h; cases h
  | true =>
    cases h2 : Nat.ble (Nat.add s.n ops.size) 1000000000 with
    | false => rw [h1, h2] at h; cases h
    | true =>
      rw [h1, h2] at h
      simp only [cond_true] at h ⊢
      split at h
      · rename_i c hc
        rw [stepsC_sub hs _ _ _ _ hc]
        exact h
      · cases h
theorem stepC_lt [Tab] {P : Program} {call : Nat → List AV → AS → Option (AV × AS)} {nt : Nat} {ops : Array Oper} {base : Nat} {ms : Tr Nat} {i : Nat} {o : Oper} {c c' : DC} (h : stepC P call nt ops base ms i o c = some c') : ∀ k, o.dst = some k → k < nt := by
  have key : ∀ {v : AV} {t : Nat → AV}, putF nt c.t o.dst v = some t → ∀ k, o.dst = some k → k < nt := fun h k hk => by rw [hk] at h; exact putF_lt h
  unfold stepC at h
  split at h
  · cases h
  · split at h
    · rename_i t hp
      exact key hp
    · cases h
  · split at h
    · split at h
      · split at h
        · rename_i t hp
          exact key hp
        · cases h
      · cases h
    · split at h
      · rcases cond_alt h with h | h
        · have h := cond_some h
          split at h
          · rename_i t hp
            exact key hp
          · cases h
        · unfold convC at h
          have h := cond_some h
          split at h
          · have h := cond_some h
            split at h
            · rename_i t hp
              exact key hp
            · cases h
          · cases h
      · cases h
    · split at h
      · split at h
        · rename_i t hp
          exact key hp
        · cases h
      · cases h
    · rcases cond_alt h with h | h
      · unfold specC at h
        split at h
        · have h := cond_some h
          split at h
          · rename_i t hp
            exact key hp
          · cases h
        · cases h
      · split at h
        · have h := cond_some h
          split at h
          · rename_i t hp
            exact key hp
          · cases h
        · cases h
    · cases h
theorem stepsC_lt [Tab] {P : Program} {call : Nat → List AV → AS → Option (AV × AS)} {nt : Nat} {ops : Array Oper} {base : Nat} {ms : Tr Nat} : ∀ (l : List Oper) (i : Nat) (c c' : DC), stepsC P call nt ops base ms l i c = some c' → ∀ o ∈ l, ∀ k, o.dst = some k → k < nt
  | [], _, _, _, _, o, ho => by cases ho
  | o :: l, i, c, c', h, o', ho' => by
    unfold stepsC at h
    split at h
    · rename_i c1 h1
      rcases List.mem_cons.1 ho' with rfl | ho'
      · exact stepC_lt h1
      · exact stepsC_lt l _ _ _ h o' ho'
    · cases h
theorem wbT_some [Tab] {nt : Nat} {f : Nat → AV} : ∀ (l : List Oper) (t : Tr AV), (∀ o ∈ l, ∀ k, o.dst = some k → k < nt) → ∃ t', wbT nt f l t = some t'
  | [], t, _ => ⟨t, rfl⟩
  | o :: r, t, h => by
    unfold wbT
    split
    · exact wbT_some r t fun o' ho' => h o' (by simp [ho'])
    · rename_i d hd
      have hlt := h o (by simp) d hd
      have : ∃ t1, putT nt t (some d) (f d) = some t1 := by
        unfold putT
        dsimp only
        rw [Nat.ble_eq_true_of_le hlt]
        exact ⟨_, rfl⟩
      obtain ⟨t1, h1⟩ := this
      rw [h1]
      exact wbT_some r t1 fun o' ho' => h o' (by simp [ho'])
/-- The slots that a drawn region writes. -/
noncomputable def pwL (f : Nat → AV) : List Oper → SL → SL
  | [], t => t
  | o :: r, t => match o.dst with
    | none => pwL f r t
    | some d => pwL f r (t.wr d (f d))
theorem pwL_at [Tab] {f : Nat → AV} : ∀ (l : List Oper) (t : SL), (∀ k, t.at k = f k ∨ ∃ o ∈ l, o.dst = some k) → (pwL f l t).at = f
  | [], t, hk => by
    funext k
    rcases hk k with h1 | ⟨o, h1, _⟩
    · exact h1
    · cases h1
  | o :: r, t, hk => by
    unfold pwL
    split
    · rename_i hd
      refine pwL_at r t fun k => ?_
      rcases hk k with h1 | ⟨o', h1, h2⟩
      · exact .inl h1
      · rcases List.mem_cons.1 h1 with rfl | h3
        · rw [hd] at h2; cases h2
        · exact .inr ⟨o', h3, h2⟩
    · rename_i d hd
      refine pwL_at r _ fun k => ?_
      have hg : (t.wr d (f d)).at k = updT t.at (some d) (f d) k := by rw [SL.at_wr]
      unfold updT at hg
      by_cases e : some d = some k
      · rw [if_pos e] at hg
        injection e with e
        subst e
        exact .inl hg
      · rw [if_neg e] at hg
        rcases hk k with h1 | ⟨o', h1, h2⟩
        · exact .inl (hg.trans h1)
        · rcases List.mem_cons.1 h1 with rfl | h3
          · rw [hd] at h2; exact absurd h2 e
          · exact .inr ⟨o', h3, h2⟩
theorem draw_ok [Tab] {P : Program} {call : Nat → List AV → AS → Option (AV × AS)} {nt : Nat} (hl : nt ≤ 1000000) {ops : Array Oper} {t : SL} {tr : Tr AV} (ht : tr.get .top = t.at) {s : AS} {q : (Nat → AV) × AS} (h : drawF P call nt ops t.at s = some q) : ∃ tr', drawA P call nt ops tr s = some (tr', q.2) ∧ tr'.get .top = (pwL q.1 ops.toList t).at := by
  have hout : ∀ k, t.at k = q.1 k ∨ ∃ o ∈ ops.toList, o.dst = some k := fun k => by
    by_cases hd : ∃ o ∈ ops.toList, o.dst = some k
    · exact .inr hd
    · refine .inl ?_
      unfold drawF at h
      have h := cond_some h
      have h := cond_some h
      split at h
      · rename_i c hc
        injection h with h
        rw [← h]
        exact (stepsC_out ops.toList 0 _ c (fun o ho e => hd ⟨o, ho, e⟩) hc).symm
      · cases h
  have hlt : ∀ o ∈ ops.toList, ∀ k, o.dst = some k → k < nt := by
    unfold drawF at h
    have h := cond_some h
    have h := cond_some h
    split at h
    · rename_i c hc
      exact stepsC_lt _ _ _ _ hc
    · cases h
  obtain ⟨tr', hw⟩ := wbT_some (f := q.1) ops.toList tr hlt
  have hda : drawA P call nt ops tr s = some (tr', q.2) := by
    unfold drawA
    rw [ht, h]
    dsimp only
    rw [hw]
  refine ⟨tr', hda, ?_⟩
  have := drawA_get hl hda
  rw [ht, h] at this
  injection this with this
  have h1 : q.1 = tr'.get .top := congrArg (·.1) this
  rw [← h1, pwL_at ops.toList t hout]
/-- Code, one step of it turned. -/
inductive CC where
  | bad
  | nop
  | reg (l : CL)
  | drw (ops : Array Oper)
  | seq (a b : Code)
  | cnd (q : QQ) (a b : Code)
  | blk (i : Nat) (a : Code)
  | loop (a : Code)
  | exit (i : Nat)
  | ret
noncomputable def cn2 (t : SL) (s : AS) (K : KE) (N : KS) (c : Bool) : RR := Bool.rec (motive := fun _ => RR) (N t s) (K .normal t s) c
noncomputable def qCnd (g : GG) (_ : CallQ) (t : SL) (s : AS) (K : KE) (N : KS) : RR := onBoolR (g t) (cn2 t s K N)
noncomputable def jitC (P : Program) (nt : Nat) (c : Code) : CC := match c with
  | .skip => .nop
  | .label _ => .nop
  | .region _ ops d => cond d (.drw ops) (.reg (jitL P nt ops.toList ops.toList))
  | .seq a b => .seq a b
  | .cond x a b => match withO x fun g => some (qCnd g) with
    | some q => .cnd q a b
    | none => .bad
  | .block i a => .blk i a
  | .loop a => cond (nextHead a).isSome .bad (.loop a)
  | .exit i => .exit i
  | .ret => .ret
  | _ => .bad
abbrev RC := Code → SL → AS → KE → RR
noncomputable def exQK (e : Ex) : RC → Code → KE → SL → AS → RR := Ex.rec (motive := fun _ => RC → Code → KE → SL → AS → RR) (fun ih b K t s => ih b t s K) (fun i _ _ K t s => K (.exit i) t s) (fun _ _ K t s => K .ret t s) (fun u _ _ K t s => K (.panic u) t s) e
noncomputable def seqK (ih : RC) (b : Code) (K : KE) (e : Ex) (t : SL) (s : AS) : RR := exQK e ih b K t s
noncomputable def blQK (e : Ex) : Nat → KE → SL → AS → RR := Ex.rec (motive := fun _ => Nat → KE → SL → AS → RR) (fun _ K t s => K .normal t s) (fun j i K t s => Bool.rec (motive := fun _ => RR) (K (.exit j) t s) (K .normal t s) (Nat.beq j i)) (fun _ K t s => K .ret t s) (fun u _ K t s => K (.panic u) t s) e
noncomputable def blkK (i : Nat) (K : KE) (e : Ex) (t : SL) (s : AS) : RR := blQK e i K t s
noncomputable def cndT (ih : RC) (a : Code) (K : KE) (_ : Ex) (t : SL) (s : AS) : RR := ih a t s K
noncomputable def cndN (ih : RC) (b : Code) (K : KE) (t : SL) (s : AS) : RR := ih b t s K
noncomputable def dw2 (ops : Array Oper) (t : SL) (K : KE) (q : (Nat → AV) × AS) : RR := K .normal (pwL q.1 ops.toList t) q.2
noncomputable def ccQ (x : CC) : Program → Nat → CallQ → RC → SL → AS → KE → RR := CC.rec (motive := fun _ => Program → Nat → CallQ → RC → SL → AS → KE → RR)
  (fun _ _ _ _ _ _ _ => none)
  (fun _ _ _ _ t s K => K .normal t s)
  (fun l _ _ cq _ t s K => runL l cq t s K)
  (fun ops P nt cq _ t s K => Option.rec (motive := fun _ => RR) none (dw2 ops t K) (drawF P (callD cq) nt ops t.at s))
  (fun a b _ _ _ ih t s K => ih a t s (seqK ih b K))
  (fun q a b _ _ cq ih t s K => q cq t s (cndT ih a K) (cndN ih b K))
  (fun i a _ _ _ ih t s K => ih a t s (blkK i K))
  (fun a _ _ _ ih t s K => ih a t s (seqK ih (.loop a) K))
  (fun i _ _ _ _ t s K => K (.exit i) t s)
  (fun _ _ _ _ t s K => K .ret t s) x
noncomputable def runC (P : Program) (nt : Nat) (cq : CallQ) (fuel : Nat) : RC := Nat.rec (motive := fun _ => RC) (fun _ _ _ _ => none) (fun _ ih c t s K => ccQ (jitC P nt c) P nt cq ih t s K) fuel
noncomputable def blkS (i : Nat) (e : Ex) (tr : Tr AV) (s : AS) : Option (Ex × Tr AV × AS) := match e with
  | .exit j => cond (Nat.beq j i) (some (.normal, tr, s)) (some (.exit j, tr, s))
  | e => some (e, tr, s)
theorem seqK_ok {P : Program} {call : Nat → List AV → AS → Option (AV × AS)} {nt : Nat} {ih : RC} {k : Nat} {b : Code} {K : KE} {r : RZ} (hih : ∀ (t : SL) (s : AS) (tr : Tr AV), tr.get .top = t.at → ih b t s K = some r → ∃ e tr' t' s', evC P (hooks P) call nt k b tr s = some (e, tr', s') ∧ tr'.get .top = t'.at ∧ K e t' s' = some r)
    {e : Ex} {tr : Tr AV} {t : SL} {s : AS} (ht : tr.get .top = t.at) (h : seqK ih b K e t s = some r) : ∃ e' tr' t' s', (match e with
      | .normal => nxt (evC P (hooks P) call nt k b tr s)
      | e => some (e, tr, s)) = some (e', tr', s') ∧ tr'.get .top = t'.at ∧ K e' t' s' = some r := by
  cases e with
  | normal => exact hih t s tr ht h
  | exit i => exact ⟨_, tr, t, s, rfl, ht, h⟩
  | ret => exact ⟨_, tr, t, s, rfl, ht, h⟩
  | panic u => exact ⟨_, tr, t, s, rfl, ht, h⟩
theorem runC_ok [Tab] {P : Program} {call : Nat → List AV → AS → Option (AV × AS)} {cq : CallQ} (hc : CallRel call cq) {nt : Nat} (hl : nt ≤ 1000000) {r : RZ} : ∀ (k : Nat) (c : Code) (K : KE) (t : SL) (s : AS) (tr : Tr AV), tr.get .top = t.at → runC P nt cq k c t s K = some r →
    ∃ e tr' t' s', evC P (hooks P) call nt k c tr s = some (e, tr', s') ∧ tr'.get .top = t'.at ∧ K e t' s' = some r
  | 0, _, _, _, _, _, _, h => by cases h
  | k + 1, c, K, t, s, tr, ht, h => by
    replace h : ccQ (jitC P nt c) P nt cq (runC P nt cq k) t s K = some r := h
    cases c with
    | skip => exact ⟨.normal, tr, t, s, rfl, ht, h⟩
    | label l => exact ⟨.normal, tr, t, s, rfl, ht, h⟩
    | exit i => exact ⟨.exit i, tr, t, s, rfl, ht, h⟩
    | ret => exact ⟨.ret, tr, t, s, rfl, ht, h⟩
    | rangeFunc f ps a b => cases h
    | scope b => cases h
    | goto l => cases h
    | refuse w => cases h
    | region id ops d =>
      cases d with
      | true =>
        replace h : Option.rec (motive := fun _ => RR) none (dw2 ops t K) (drawF P (callD cq) nt ops t.at s) = some r := h
        cases hd : drawF P (callD cq) nt ops t.at s with
        | none => rw [hd] at h; cases h
        | some q =>
          rw [hd] at h
          obtain ⟨tr', h1, h2⟩ := draw_ok hl ht (drawF_sub (fun f a s q hq => callD_ok hc hq) hd)
          refine ⟨.normal, tr', _, q.2, ?_, h2, h⟩
          show (match drawA P call nt ops tr s with
            | some q => some (Ex.normal, q.1, q.2)
            | none => none) = _
          rw [h1]
      | false =>
        obtain ⟨e, tr', t', s', h1, h2, h3⟩ := runL_ok hc hl ops.toList t s tr ht h
        refine ⟨e, tr', t', s', ?_, h2, h3⟩
        show (match evOps P call ops nt ops.toList tr s with
          | some q => some (Ex.normal, q.1, q.2)
          | none => match evOpsP P call ops nt ops.toList tr s with
            | some q => some (Ex.panic q.1, q.2.1, q.2.2)
            | none => none) = _
        rcases h1 with ⟨g1, rfl⟩ | ⟨g1, u, g2, rfl⟩
        · rw [g1]
        · rw [g1]
          dsimp only
          rw [g2]
    | seq x y =>
      obtain ⟨e, tr1, t1, s1, h1, h2, h3⟩ := runC_ok hc hl k x _ t s tr ht h
      obtain ⟨e', tr', t', s', g1, g2, g3⟩ := seqK_ok (P := P) (call := call) (nt := nt) (k := k) (fun t s tr ht h => runC_ok hc hl k y K t s tr ht h) h2 h3
      refine ⟨e', tr', t', s', ?_, g2, g3⟩
      show (match evC P (hooks P) call nt k x tr s with
        | none => none
        | some q => match q.1 with
          | .normal => nxt (evC P (hooks P) call nt k y q.2.1 q.2.2)
          | e => some (e, q.2.1, q.2.2)) = _
      rw [h1]
      exact g1
    | cond x y z =>
      replace h : ccQ (match withO x fun g => some (qCnd g) with
        | some q => CC.cnd q y z
        | none => CC.bad) P nt cq (runC P nt cq k) t s K = some r := h
      rw [withO_eq] at h
      replace h : onBoolR (oevF t.at x) (cn2 t s (cndT (runC P nt cq k) y K) (cndN (runC P nt cq k) z K)) = some r := h
      rw [onBoolR_eq] at h
      have hev : oev tr x = oevF t.at x := by rw [← ht]; rfl
      split at h
      · rename_i b hb
        have hev2 : evC P (hooks P) call nt (k + 1) (.cond x y z) tr s = cond b (evC P (hooks P) call nt k y tr s) (evC P (hooks P) call nt k z tr s) := by
          show (match oev tr x with
            | .bool b => cond b (nxt (evC P (hooks P) call nt k y tr s)) (nxt (evC P (hooks P) call nt k z tr s))
            | _ => none) = _
          rw [hev, hb]
          rfl
        rw [hev2]
        cases b with
        | true => exact runC_ok hc hl k y K t s tr ht h
        | false => exact runC_ok hc hl k z K t s tr ht h
      · cases h
    | block i x =>
      obtain ⟨e, tr1, t1, s1, h1, h2, h3⟩ := runC_ok hc hl k x _ t s tr ht h
      have hev : evC P (hooks P) call nt (k + 1) (.block i x) tr s = blkS i e tr1 s1 := by
        show (match evC P (hooks P) call nt k x tr s with
          | none => none
          | some q => match q.1 with
            | .exit j => _root_.cond (Nat.beq j i) (some (Ex.normal, q.2.1, q.2.2)) (some (Ex.exit j, q.2.1, q.2.2))
            | e => some (e, q.2.1, q.2.2)) = _
        rw [h1]
        rfl
      rw [hev]
      cases e with
      | normal => exact ⟨_, tr1, t1, s1, rfl, h2, h3⟩
      | ret => exact ⟨_, tr1, t1, s1, rfl, h2, h3⟩
      | panic u => exact ⟨_, tr1, t1, s1, rfl, h2, h3⟩
      | exit j =>
        replace h3 : Bool.rec (motive := fun _ => RR) (K (.exit j) t1 s1) (K .normal t1 s1) (Nat.beq j i) = some r := h3
        unfold blkS
        dsimp only
        cases hb : Nat.beq j i with
        | true => rw [hb] at h3; exact ⟨_, tr1, t1, s1, rfl, h2, h3⟩
        | false => rw [hb] at h3; exact ⟨_, tr1, t1, s1, rfl, h2, h3⟩
    | loop x =>
      replace h : ccQ (_root_.cond (nextHead x).isSome .bad (.loop x)) P nt cq (runC P nt cq k) t s K = some r := h
      cases hn : (nextHead x).isSome with
      | true => rw [hn] at h; cases h
      | false =>
        rw [hn] at h
        obtain ⟨e, tr1, t1, s1, h1, h2, h3⟩ := runC_ok hc hl k x _ t s tr ht h
        obtain ⟨e', tr', t', s', g1, g2, g3⟩ := seqK_ok (P := P) (call := call) (nt := nt) (k := k) (fun t s tr ht h => runC_ok hc hl k (.loop x) K t s tr ht h) h2 h3
        refine ⟨e', tr', t', s', ?_, g2, g3⟩
        show _root_.cond (nextHead x).isSome (mapLoop (evC P (hooks P) call nt k) nt x tr s) (match evC P (hooks P) call nt k x tr s with
          | none => none
          | some q => match q.1 with
            | .normal => nxt (evC P (hooks P) call nt k (.loop x) q.2.1 q.2.2)
            | e => some (e, q.2.1, q.2.2)) = _
        rw [hn, h1]
        exact g1
/-- Functions. -/
inductive FH where
  | bad
  | mk (c : Code) (nt : Nat) (rs : List ResultVar)
noncomputable def fhQ (x : Option Func) : FH := match x with
  | none => .bad
  | some fn => match fn.body with
    | none => .bad
    | some c => cond (Nat.ble fn.ntmps 1000000) (.mk c fn.ntmps fn.results.toList) .bad
noncomputable def iniQ (l : List AV) : Nat → SL → SL := List.rec (motive := fun _ => Nat → SL → SL) (fun _ t => t) (fun v _ ih k t => ih (Nat.succ k) (t.wr k v)) l
theorem iniQ_at [Tab] : ∀ (l : List AV) (k : Nat) (t : SL) (tr : Tr AV), k + l.length ≤ 1000000 → tr.get .top = t.at → (initT l k tr).get .top = (iniQ l k t).at
  | [], _, _, _, _, h => h
  | v :: l, k, t, tr, hk, h => by
    simp only [List.length_cons] at hk
    refine iniQ_at l (k + 1) (t.wr k v) (tr.set .top v 20 k) (by omega) ?_
    rw [SL.at_wr, ← h]
    funext j
    unfold updT
    by_cases e : k = j
    · subst e
      rw [if_pos rfl, Tr.get_set _ _ _ _ _ (by omega)]
    · rw [if_neg fun h => e (by injection h), Tr.get_set_ne _ _ _ _ _ _ (Ne.symm e)]
noncomputable def rs1 (P : Program) (t : SL) (s : AS) : ResultVar → Option AV
  | .tmp k => some (t.at k)
  | .cell k ty => loadA P ty (t.at k) s
noncomputable def rss (P : Program) (t : SL) (s : AS) : List ResultVar → Option (List AV)
  | [] => some []
  | r :: l => match rs1 P t s r with
    | none => none
    | some v => match rss P t s l with
      | none => none
      | some vs => some (v :: vs)
noncomputable def rsA (P : Program) (t : SL) (s : AS) (l : List ResultVar) : Option AV := match rss P t s l with
  | none => none
  | some [v] => some v
  | some vs => some (.tup vs)
theorem rss_eq [Tab] {P : Program} {t : SL} {tr : Tr AV} (h : tr.get .top = t.at) (s : AS) : ∀ l, rss P t s l = resAs P tr s l
  | [] => rfl
  | r :: l => by
    unfold rss resAs
    rw [rss_eq h s l, show rs1 P t s r = resA1 P tr s r by cases r <;> (unfold rs1 resA1; rw [h])]
    rfl
theorem rsA_eq [Tab] {P : Program} {t : SL} {tr : Tr AV} (h : tr.get .top = t.at) (s : AS) (l : List ResultVar) : rsA P t s l = resA P tr s l := by
  unfold rsA resA
  rw [rss_eq h s l]
  rfl
noncomputable def kvQ (s : AS) (K : AV → AS → RR) (v : AV) : RR := K v s
noncomputable def rsQ (P : Program) (rs : List ResultVar) (t : SL) (s : AS) (K : AV → AS → RR) : RR := match rs with
  | [.tmp k] => forceR (t.at k) (kvQ s K)
  | rs => Option.rec (motive := fun _ => RR) none (kvQ s K) (rsA P t s rs)
noncomputable def endX (e : Ex) : Program → List ResultVar → SL → AS → (AV → AS → RR) → RR := Ex.rec (motive := fun _ => Program → List ResultVar → SL → AS → (AV → AS → RR) → RR) (fun P rs t s K => rsQ P rs t s K) (fun _ _ _ _ _ _ => none) (fun P rs t s K => rsQ P rs t s K) (fun u _ _ _ s K => K (.pan u) s) e
noncomputable def endK (P : Program) (rs : List ResultVar) (K : AV → AS → RR) (e : Ex) (t : SL) (s : AS) : RR := endX e P rs t s K
theorem rsQ_ok [Tab] {P : Program} {rs : List ResultVar} {t : SL} {tr : Tr AV} (ht : tr.get .top = t.at) {s : AS} {K : AV → AS → RR} {r : RZ} (h : rsQ P rs t s K = some r) : ∃ v, resA P tr s rs = some v ∧ K v s = some r := by
  unfold rsQ at h
  split at h
  · rename_i k
    rw [forceR_eq] at h
    refine ⟨t.at k, ?_, h⟩
    show some (tr.get .top k) = _
    rw [ht]
  · rw [rsA_eq ht] at h
    cases hr : resA P tr s rs with
    | none => rw [hr] at h; cases h
    | some v => rw [hr] at h; exact ⟨v, rfl, h⟩
theorem endK_ok [Tab] {P : Program} {rs : List ResultVar} {t : SL} {tr : Tr AV} (ht : tr.get .top = t.at) {e : Ex} {s : AS} {K : AV → AS → RR} {r : RZ} (h : endK P rs K e t s = some r) : ∃ v s', endA P rs (e, tr, s) = some (v, s') ∧ K v s' = some r := by
  cases e with
  | panic u => exact ⟨_, s, rfl, h⟩
  | exit i => cases h
  | normal =>
    obtain ⟨v, h1, h2⟩ := rsQ_ok ht h
    refine ⟨v, s, ?_, h2⟩
    show cond true (match resA P tr s rs with
      | some v => some (v, s)
      | none => none) none = _
    rw [h1]
    rfl
  | ret =>
    obtain ⟨v, h1, h2⟩ := rsQ_ok ht h
    refine ⟨v, s, ?_, h2⟩
    show cond true (match resA P tr s rs with
      | some v => some (v, s)
      | none => none) none = _
    rw [h1]
    rfl
abbrev OQ := List AV → AS → (AV → AS → RR) → RR
noncomputable def fnQ (x : FH) : Program → Nat → CallQ → List AV → AS → (AV → AS → RR) → RR := FH.rec (motive := fun _ => Program → Nat → CallQ → List AV → AS → (AV → AS → RR) → RR) (fun _ _ _ _ _ _ => none)
  (fun c nt rs P fuel cq args s K => Bool.rec (motive := fun _ => RR) none (runC P nt cq fuel c (iniQ args 0 .nil) s (endK P rs K)) (Nat.ble (lenV args) nt)) x
noncomputable def evQ1 (P : Program) (fuel : Nat) (cq : CallQ) (args : List AV) (s : AS) (K : AV → AS → RR) (x : FH) (o : Option OQ) : RR := Option.rec (motive := fun _ => RR) (fnQ x P fuel cq args s K) (fun g => g args s K) o
noncomputable def evQ (P : Program) (fs : Nat → Option Func) (orc : Nat → Option OQ) (fuel : Nat) (d : Nat) : CallQ := Nat.rec (motive := fun _ => CallQ) (fun _ _ _ _ => none) (fun _ ih f args s K => evQ1 P fuel ih args s K (fhQ (fs f)) (orc f)) d
/-- What oracles must be like. -/
noncomputable def OrcRel (o : Option (List AV → AS → Option (AV × AS))) (q : Option OQ) : Prop := match o, q with
  | none, none => True
  | some g, some h => ∀ args s K r, h args s K = some r → ∃ v s', g args s = some (v, s') ∧ K v s' = some r
  | _, _ => False
theorem evQ_ok [Tab] {P : Program} {fs : Nat → Option Func} {orc : Nat → Option (List AV → AS → Option (AV × AS))} {oq : Nat → Option OQ} (ho : ∀ f, OrcRel (orc f) (oq f)) {fuel : Nat} : ∀ d, CallRel (evF P (hooks P) fs orc fuel d) (evQ P fs oq fuel d)
  | 0 => fun f args s K r h => by cases h
  | d + 1 => fun f args s K r h => by
    have ih := evQ_ok (P := P) (fs := fs) ho (fuel := fuel) d
    replace h : evQ1 P fuel (evQ P fs oq fuel d) args s K (fhQ (fs f)) (oq f) = some r := h
    unfold evQ1 at h
    have hor := ho f
    unfold OrcRel at hor
    unfold evF
    cases e1 : orc f with
    | none =>
      cases e2 : oq f with
      | some _ => rw [e1, e2] at hor; exact hor.elim
      | none =>
        rw [e2] at h
        dsimp only at h ⊢
        unfold fhQ at h
        cases hf : fs f with
        | none => rw [hf] at h; cases h
        | some fn =>
          rw [hf] at h
          dsimp only at h ⊢
          cases hb : fn.body with
          | none => rw [hb] at h; cases h
          | some c =>
            rw [hb] at h
            dsimp only at h ⊢
            cases hn : Nat.ble fn.ntmps 1000000 with
            | false => rw [hn] at h; cases h
            | true =>
              rw [hn] at h
              replace h : Bool.rec (motive := fun _ => RR) none (runC P fn.ntmps (evQ P fs oq fuel d) fuel c (iniQ args 0 .nil) s (endK P fn.results.toList K)) (Nat.ble (lenV args) fn.ntmps) = some r := h
              rw [lenV_eq] at h
              cases hl : Nat.ble args.length fn.ntmps with
              | false => rw [hl] at h; cases h
              | true =>
                rw [hl] at h
                simp only [cond_true]
                have hn' : fn.ntmps ≤ 1000000 := Nat.le_of_ble_eq_true hn
                have hl' : args.length ≤ fn.ntmps := Nat.le_of_ble_eq_true hl
                obtain ⟨e, tr', t', s', h1, h2, h3⟩ := runC_ok ih hn' fuel c _ _ s (initT args 0 .leaf) (iniQ_at args 0 .nil .leaf (by omega) (funext fun k => (SL.at_nil k).symm)) h
                rw [h1]
                exact endK_ok h2 h3
    | some g =>
      cases e2 : oq f with
      | none => rw [e1, e2] at hor; exact hor.elim
      | some q =>
        rw [e1, e2] at hor
        rw [e2] at h
        exact hor _ _ _ _ h
/-- An oracle in the plain form serves. -/
noncomputable def orcD (g : List AV → AS → Option (AV × AS)) : OQ := fun args s K => Option.rec (motive := fun _ => RR) none (fun q => K q.1 q.2) (g args s)
theorem orcD_ok (g : List AV → AS → Option (AV × AS)) : OrcRel (some g) (some (orcD g)) := fun args s K r h => by
  unfold orcD at h
  cases hg : g args s with
  | none => rw [hg] at h; cases h
  | some q => rw [hg] at h; exact ⟨q.1, q.2, rfl, h⟩
/-- A closed run that answers true. -/
noncomputable def trueK (v : AV) (s : AS) : RR := some (.val v s)
noncomputable def trueZ (v : AV) : Bool := match v with
  | .bool b => b
  | _ => false
noncomputable def isTrueQ (x : RR) : Bool := match x with
  | some (.val v _) => trueZ v
  | _ => false
theorem closed_trueQ [Tab] {P : Program} {call : Nat → List AV → AS → Option (AV × AS)} (hc : CallOK P call) {cq : CallQ} (hr : CallRel call cq) {f : Nat} (h : isTrueQ (cq f [] AS.nil trueK) = true) (w : World) (hw : Below Tab.w0.heap.size Tab.w0 w) : Calls P f #[] w fun e w' => e = .returned (.bool true) ∧ Below w.heap.size w w' := by
  unfold isTrueQ at h
  split at h
  · rename_i v s he
    obtain ⟨v1, s1, h1, h2⟩ := hr _ _ _ _ _ he
    injection h2 with h2
    injection h2 with e1 e2
    subst e1
    subst e2
    unfold trueZ at h
    split at h
    · rename_i b
      subst h
      have h0 : ∀ b, AS.nil.get b = .none := AS.get_nil 0
      refine (hc.calls f [] AS.nil (.bool true) s1 h1 (fun u e => by cases e) ⟨fun _ => False, fun _ => 0, fun _ => 0, fun _ => .deferred none⟩ w #[] (HR.start h0 hw) (fun b hb => hb.elim) VL.nil).mono fun e w' hq => ?_
      obtain ⟨x, E', rfl, q1, _, q3, _⟩ := hq
      cases q1
      exact ⟨rfl, q3.below h0⟩
    · cases h
  · cases h
/-- Tables of functions. -/
noncomputable def fnL (l : List (Nat × Func)) : Nat → Option Func := List.rec (motive := fun _ => Nat → Option Func) (fun _ => none) (fun p _ ih k => Bool.rec (motive := fun _ => Option Func) (ih k) (some p.2) (Nat.beq p.1 k)) l
inductive FL (P : Program) : List (Nat × Func) → Prop
  | nil : FL P []
  | cons {k : Nat} {fn : Func} {l : List (Nat × Func)} (h : P.funcs[k]? = some fn) (h2 : (fn.name == "runtime.NumGoroutine") = false) (hl : FL P l) : FL P ((k, fn) :: l)
theorem fnL_ok {P : Program} (l : List (Nat × Func)) (h : FL P l) : FnsOK P (fnL l) := ⟨by
  induction h with
  | nil => intro f fn hf; cases hf
  | cons h h2 hl ih =>
    rename_i k fn l
    intro f fn' hf
    replace hf : Bool.rec (motive := fun _ => Option Func) (fnL l f) (some fn) (Nat.beq k f) = some fn' := hf
    cases hb : Nat.beq k f with
    | true =>
      rw [hb] at hf
      injection hf with hf
      rw [← hf, ← Nat.eq_of_beq_eq_true hb]
      exact ⟨h, h2⟩
    | false =>
      rw [hb] at hf
      exact ih f fn' hf⟩
end Go.Proofs.YthmojpcaagnfkaaGreatDoor


/-
  The quick machine for the kernel: a function with one deferred closure that recovers first. No program.
-/
namespace Go.Proofs.YthmojpcaagnfkaaGreatDoor
open Go.RowKit

/-- The deferred closure. -/
noncomputable def rcEnd (K : AS → RR) (e : Ex) (_ : SL) (s : AS) : RR := match e with
  | .normal => K s
  | .ret => K s
  | _ => none
noncomputable def rcMid (P : Program) (nt : Nat) (cq : CallQ) (fuel : Nat) (rest : Code) (K : AS → RR) (e : Ex) (t : SL) (s : AS) : RR := match e with
  | .normal => runC P nt cq fuel rest t s (rcEnd K)
  | _ => none
noncomputable def recQ (P : Program) (cq : CallQ) (fuel : Nat) (fn : Func) (caps : List AV) (u : AV) (s : AS) (K : AS → RR) : RR := match recOf fn with
  | none => none
  | some r => cond (Nat.ble fn.ntmps 1000000) (cond (Nat.ble caps.length fn.ntmps) (cond (Nat.ble (Nat.succ r.2.1) fn.ntmps) (match fn.results.toList with
    | [] => runL (jitL P fn.ntmps r.1.toList r.2.2.1) cq ((iniQ caps 0 .nil).wr r.2.1 u) s (rcMid P fn.ntmps cq fuel r.2.2.2 K)
    | _ => none) none) none) none
theorem recQ_ok [Tab] {P : Program} {call : Nat → List AV → AS → Option (AV × AS)} {cq : CallQ} (hc : CallRel call cq) {fuel : Nat} {fn : Func} {caps : List AV} {u : AV} {s : AS} {K : AS → RR} {r : RZ} (h : recQ P cq fuel fn caps u s K = some r) : ∃ s', recA P call fuel fn caps u s = some s' ∧ K s' = some r := by
  unfold recQ at h
  unfold recA
  split at h
  · cases h
  · rename_i q hq
    cases h1 : Nat.ble fn.ntmps 1000000 with
    | false => rw [h1] at h; cases h
    | true =>
    cases h2 : Nat.ble caps.length fn.ntmps with
    | false => rw [h1, h2] at h; cases h
    | true =>
    cases h3 : Nat.ble (Nat.succ q.2.1) fn.ntmps with
    | false => rw [h1, h2, h3] at h; cases h
    | true =>
      rw [h1, h2, h3] at h
      simp only [cond_true] at h ⊢
      have hl : fn.ntmps ≤ 1000000 := Nat.le_of_ble_eq_true h1
      have hcl : caps.length ≤ fn.ntmps := Nat.le_of_ble_eq_true h2
      have hd : q.2.1 < fn.ntmps := Nat.le_of_ble_eq_true h3
      split at h
      · rename_i hres
        obtain ⟨tr0, hp, ht0⟩ := putT_at hl (iniQ_at caps 0 .nil .leaf (by omega) (funext fun k => (SL.at_nil k).symm)) (d := some q.2.1) (fun k e => by injection e with e; rw [← e]; exact hd) u
        obtain ⟨e, tr', t', s', g1, g2, g3⟩ := runL_ok hc hl (all := q.1) q.2.2.1 _ s tr0 ht0 h
        cases e with
        | normal =>
          rcases g1 with ⟨g1, _⟩ | ⟨_, u', _, e⟩
          · obtain ⟨e2, tr2, t2, s2, k1, k2, k3⟩ := runC_ok hc hl fuel q.2.2.2 _ t' s' tr' g2 g3
            rw [hq]
            dsimp only
            rw [hp]
            dsimp only
            rw [g1]
            dsimp only
            rw [k1, hres]
            cases e2 with
            | normal => exact ⟨s2, rfl, k3⟩
            | ret => exact ⟨s2, rfl, k3⟩
            | exit i => cases k3
            | panic u => cases k3
          · cases e
        | exit i => cases g3
        | ret => cases g3
        | panic u => cases g3
      · cases h
noncomputable def rsK (P : Program) (rs : List ResultVar) (t : SL) (K : AV → AS → RR) (s : AS) : RR := rsQ P rs t s K
noncomputable def fnQK (P : Program) (cq : CallQ) (fuel : Nat) (rs : List ResultVar) (fn : Func) (caps : List AV) (K : AV → AS → RR) (e : Ex) (t : SL) (s : AS) : RR := match e with
  | .normal => recQ P cq fuel fn caps .nili s (rsK P rs t K)
  | .ret => recQ P cq fuel fn caps .nili s (rsK P rs t K)
  | .panic u => match panV u with
    | some v => recQ P cq fuel fn caps v s (rsK P rs t K)
    | none => none
  | .exit _ => none
theorem fnQK_ok [Tab] {P : Program} {call : Nat → List AV → AS → Option (AV × AS)} {cq : CallQ} (hc : CallRel call cq) {fuel : Nat} {rs : List ResultVar} {fn : Func} {caps : List AV} {K : AV → AS → RR} {e : Ex} {t : SL} {tr : Tr AV} (ht : tr.get .top = t.at) {s : AS} {r : RZ} (h : fnQK P cq fuel rs fn caps K e t s = some r) : ∃ v s', finG P call fuel rs fn caps (some (e, tr, s)) = some (v, s') ∧ K v s' = some r := by
  have fin : ∀ u, recQ P cq fuel fn caps u s (rsK P rs t K) = some r → ∃ v s2, recA P call fuel fn caps u s = some s2 ∧ endG P rs tr s2 = some (v, s2) ∧ K v s2 = some r := by
    intro u h
    obtain ⟨s2, h1, h2⟩ := recQ_ok hc h
    obtain ⟨v, h3, h4⟩ := rsQ_ok ht h2
    refine ⟨v, s2, h1, ?_, h4⟩
    unfold endG
    rw [h3]
  unfold fnQK at h
  split at h
  · obtain ⟨v, s2, h1, h2, h3⟩ := fin _ h
    refine ⟨v, s2, ?_, h3⟩
    unfold finG
    dsimp only
    rw [h1]
    exact h2
  · obtain ⟨v, s2, h1, h2, h3⟩ := fin _ h
    refine ⟨v, s2, ?_, h3⟩
    unfold finG
    dsimp only
    rw [h1]
    exact h2
  · rename_i u
    split at h
    · rename_i a ha
      obtain ⟨v, s2, h1, h2, h3⟩ := fin _ h
      refine ⟨v, s2, ?_, h3⟩
      unfold finG
      dsimp only
      rw [ha]
      dsimp only
      rw [h1]
      exact h2
    · cases h
  · cases h
noncomputable def noK (_ : Ex) (_ : SL) (_ : AS) : RR := none
noncomputable def dfK (P : Program) (cq : CallQ) (fs : Nat → Option Func) (fuel nt : Nat) (rs : List ResultVar) (o2 : Oper) (f : Operand) (y : Code) (K : AV → AS → RR) (t1 : SL) (s : AS) : RR := match oevF t1.at f with
  | .fn g caps => match fs g with
    | some fn => cond (Option.rec (motive := fun _ => Bool) true (fun d => Nat.ble (Nat.succ d) nt) o2.dst) (runC P nt cq fuel y (t1.pw o2.dst .undef) s (fnQK P cq fuel rs fn caps K)) none
    | none => none
  | _ => none
noncomputable def gdK (ih : SL → AS → (AV → AS → RR) → RR) (P : Program) (rs : List ResultVar) (K : AV → AS → RR) (e : Ex) (t : SL) (s : AS) : RR := match e with
  | .normal => ih t s K
  | .ret => rsQ P rs t s K
  | _ => none
noncomputable def gdC (P : Program) (cq : CallQ) (fs : Nat → Option Func) (fuel nt : Nat) (rs : List ResultVar) : Code → SL → AS → (AV → AS → RR) → RR
  | .seq x y, t, s, K => match deferOf x with
    | some r => match jit1 P nt r.2.1 with
      | some q => q cq t s noK (dfK P cq fs fuel nt rs r.2.2.1 r.2.2.2 y K)
      | none => none
    | none => runC P nt cq fuel x t s (gdK (gdC P cq fs fuel nt rs y) P rs K)
  | _, _, _, _ => none
theorem gdC_ok [Tab] {P : Program} {call : Nat → List AV → AS → Option (AV × AS)} {cq : CallQ} (hc : CallRel call cq) {fs : Nat → Option Func} {fuel nt : Nat} (hl : nt ≤ 1000000) {rs : List ResultVar} {K : AV → AS → RR} {r : RZ} : ∀ (c : Code) (t : SL) (s : AS) (tr : Tr AV), tr.get .top = t.at → gdC P cq fs fuel nt rs c t s K = some r → ∃ v s', gdA P call fs fuel nt rs c tr s = some (v, s') ∧ K v s' = some r
  | .seq x y, t, s, tr, ht, h => by
    unfold gdC at h
    unfold gdA
    split at h
    · rename_i p hp
      rw [hp]
      dsimp only
      split at h
      · rename_i q hq
        have hok := jit1_ok hc hq
        have hev : oev tr = oevF t.at := by rw [← ht]; rfl
        rcases hok.run t s noK _ r h with ⟨v, s1, h1, h2, h3⟩ | ⟨u, s1, h1, h2, h3⟩
        · rw [hev, h1]
          dsimp only
          obtain ⟨tr1, h4, h5⟩ := putT_at hl ht hok.dst v
          rw [h4]
          dsimp only
          unfold dfK at h3
          have hev1 : oev tr1 p.2.2.2 = oevF (t.pw p.2.1.dst v).at p.2.2.2 := by rw [← h5]; rfl
          rw [hev1]
          split at h3
          · rename_i g caps hg
            rw [hg]
            dsimp only
            split at h3
            · rename_i fn hfn
              rw [hfn]
              dsimp only
              have hd := (Bool.eq_false_or_eq_true (Option.rec (motive := fun _ => Bool) true (fun d => Nat.ble (Nat.succ d) nt) p.2.2.1.dst)).symm
              rcases hd with hd | hd
              · rw [hd] at h3; cases h3
              · rw [hd] at h3
                simp only [cond_true] at h3
                obtain ⟨tr2, h6, h7⟩ := putT_at hl h5 (d := p.2.2.1.dst) (fun k e => by rw [e] at hd; exact Nat.le_of_ble_eq_true hd) .undef
                rw [h6]
                dsimp only
                obtain ⟨e, tr3, t3, s3, g1, g2, g3⟩ := runC_ok hc hl fuel y _ _ s1 tr2 h7 h3
                rw [g1]
                exact fnQK_ok hc g2 g3
            · cases h3
          · cases h3
        · cases h3
      · cases h
    · rename_i hp
      rw [hp]
      dsimp only
      obtain ⟨e, tr1, t1, s1, g1, g2, g3⟩ := runC_ok hc hl fuel x _ t s tr ht h
      rw [g1]
      cases e with
      | normal => exact gdC_ok hc hl y t1 s1 tr1 g2 g3
      | ret =>
        obtain ⟨v, h3, h4⟩ := rsQ_ok g2 g3
        refine ⟨v, s1, ?_, h4⟩
        show endG P rs tr1 s1 = _
        unfold endG
        rw [h3]
      | exit i => cases g3
      | panic u => cases g3
  | .skip, _, _, _, _, h => by cases h
  | .region _ _ _, _, _, _, _, h => by cases h
  | .cond _ _ _, _, _, _, _, h => by cases h
  | .block _ _, _, _, _, _, h => by cases h
  | .loop _, _, _, _, _, h => by cases h
  | .rangeFunc _ _ _ _, _, _, _, _, h => by cases h
  | .exit _, _, _, _, _, h => by cases h
  | .scope _, _, _, _, _, h => by cases h
  | .label _, _, _, _, _, h => by cases h
  | .goto _, _, _, _, _, h => by cases h
  | .ret, _, _, _, _, h => by cases h
  | .refuse _, _, _, _, _, h => by cases h
noncomputable def npK (K : AV → AS → RR) (v : AV) (s : AS) : RR := onPanR v gnp (kvQ s K)
noncomputable def guardedQ (P : Program) (cq : CallQ) (fs : Nat → Option Func) (fuel : Nat) (fn : Func) : OQ := fun args s K => match fn.body with
  | none => none
  | some c => cond (Nat.ble fn.ntmps 1000000) (cond (Nat.ble args.length fn.ntmps) (gdC P cq fs fuel fn.ntmps fn.results.toList c (iniQ args 0 .nil) s (npK K)) none) none
theorem guardedQ_ok [Tab] {P : Program} {call : Nat → List AV → AS → Option (AV × AS)} {cq : CallQ} (hc : CallRel call cq) {fs : Nat → Option Func} {fuel : Nat} {fn : Func} : OrcRel (some (guardedA P call fs fuel fn)) (some (guardedQ P cq fs fuel fn)) := fun args s K r h => by
  unfold guardedQ at h
  unfold guardedA
  split at h
  · cases h
  · rename_i c hb
    cases h1 : Nat.ble fn.ntmps 1000000 with
    | false => rw [h1] at h; cases h
    | true =>
    cases h2 : Nat.ble args.length fn.ntmps with
    | false => rw [h1, h2] at h; cases h
    | true =>
      rw [h1, h2] at h
      simp only [cond_true] at h
      rw [hb]
      dsimp only
      simp only [cond_true]
      have hl : fn.ntmps ≤ 1000000 := Nat.le_of_ble_eq_true h1
      have hal : args.length ≤ fn.ntmps := Nat.le_of_ble_eq_true h2
      obtain ⟨v, s', g1, g2⟩ := gdC_ok hc hl c _ s (initT args 0 .leaf) (iniQ_at args 0 .nil .leaf (by omega) (funext fun k => (SL.at_nil k).symm)) h
      rw [g1]
      have hn : ∀ u, v ≠ .pan u := fun u e => by rw [e] at g2; cases g2
      unfold npK at g2
      rw [onPanR_ne hn] at g2
      refine ⟨v, s', ?_, g2⟩
      cases v <;> first | rfl | exact absurd rfl (hn _)
end Go.Proofs.YthmojpcaagnfkaaGreatDoor


/-
  Answers told beforehand: a closed call that was gone through once, from no memory, serves wherever it is called with the same arguments. No program.
-/
namespace Go.Proofs.YthmojpcaagnfkaaGreatDoor
open Go.RowKit

noncomputable def u8 (n : Nat) : UInt8 := UInt8.ofNat n
/-- Blocks' numbers moved up. -/
noncomputable def AV.sh (k : Nat) (x : AV) : AV := AV.rec (motive_1 := fun _ => AV) (motive_2 := fun _ => List AV) .top .undef (fun k n => .int k n) (fun b => .bool b) (fun l => .str l) .nilp (fun b o => .ptr (Nat.add k b) o) .nils (fun b o n c => .sl (Nat.add k b) o n c) (fun b o n e => .slu (Nat.add k b) o n e) .nilm (fun b => .mapp (Nat.add k b)) .nilfn (fun f _ ih => .fn f ih) (fun f _ ih => .fnm f ih) .nili (fun t _ ih => .ifc t ih) (fun _ ih => .agg ih) (fun _ ih => .tup ih) (fun w => .pan w) (fun b j lo hi => .symI (Nat.add k b) j lo hi) (fun b => .symS (Nat.add k b)) (fun b lo hi => .symT (Nat.add k b) lo hi) (fun n => .symZ n) [] (fun _ _ h t => h :: t) x
noncomputable def shL (k : Nat) : List AV → List AV := fun l => List.rec (motive := fun _ => List AV) [] (fun v _ ih => v.sh k :: ih) l
theorem shL_rec (k : Nat) (l : List AV) : AV.rec_1 (motive_1 := fun _ => AV) (motive_2 := fun _ => List AV) .top .undef (fun k n => .int k n) (fun b => .bool b) (fun l => .str l) .nilp (fun b o => .ptr (Nat.add k b) o) .nils (fun b o n c => .sl (Nat.add k b) o n c) (fun b o n e => .slu (Nat.add k b) o n e) .nilm (fun b => .mapp (Nat.add k b)) .nilfn (fun f _ ih => .fn f ih) (fun f _ ih => .fnm f ih) .nili (fun t _ ih => .ifc t ih) (fun _ ih => .agg ih) (fun _ ih => .tup ih) (fun w => .pan w) (fun b j lo hi => .symI (Nat.add k b) j lo hi) (fun b => .symS (Nat.add k b)) (fun b lo hi => .symT (Nat.add k b) lo hi) (fun n => .symZ n) [] (fun _ _ h t => h :: t) l = shL k l := by
  induction l with
  | nil => rfl
  | cons v l ih => exact congrArg (fun q => v.sh k :: q) ih
theorem sh_fn [Tab] (k f : Nat) (cs : List AV) : (AV.fn f cs).sh k = .fn f (shL k cs) := congrArg (AV.fn f) (shL_rec k cs)
theorem sh_fnm [Tab] (k f : Nat) (cs : List AV) : (AV.fnm f cs).sh k = .fnm f (shL k cs) := congrArg (AV.fnm f) (shL_rec k cs)
theorem sh_agg [Tab] (k : Nat) (cs : List AV) : (AV.agg cs).sh k = .agg (shL k cs) := congrArg AV.agg (shL_rec k cs)
theorem sh_tup [Tab] (k : Nat) (cs : List AV) : (AV.tup cs).sh k = .tup (shL k cs) := congrArg AV.tup (shL_rec k cs)
theorem shL_map (k : Nat) (l : List AV) : shL k l = l.map (AV.sh k) := by
  induction l with
  | nil => rfl
  | cons v l ih => exact congrArg (fun q => v.sh k :: q) ih
theorem shL_len [Tab] (k : Nat) (l : List AV) : (shL k l).length = l.length := by rw [shL_map, List.length_map]
theorem shL_at [Tab] {k : Nat} {l : List AV} {i : Nat} {c : AV} (h : (shL k l)[i]? = some c) : ∃ d, l[i]? = some d ∧ c = d.sh k := by
  rw [shL_map, List.getElem?_map] at h
  cases hl : l[i]? with
  | none => rw [hl] at h; cases h
  | some d => rw [hl] at h; injection h with h; exact ⟨d, rfl, h.symm⟩
/-- How the moved blocks lie. -/
structure Mv (k : Nat) (E F : AEnv) : Prop where
  ok : ∀ b, E.ok b → F.ok (k + b)
  r : ∀ b, E.ok b → F.r (k + b) = E.r b
  k : ∀ b, E.ok b → F.k (k + b) = E.k b
theorem VR.sh [Tab] {k : Nat} {E F : AEnv} (m : Mv k E F) {a : AV} {v : Value} (h : VR E a v) : VR F (a.sh k) v := by
  induction h with
  | top v => exact .top v
  | undef => exact .undef
  | int k n => exact .int k n
  | bool b => exact .bool b
  | str l => exact .str l
  | nilp => exact .nilp
  | ptr b o h => rw [← m.r b h]; exact .ptr (k + b) o (m.ok b h)
  | nils => exact .nils
  | sl b o len cap h => rw [← m.r b h]; exact .sl (k + b) o len cap (m.ok b h)
  | slu b o len esz cap h hl hk => rw [← m.r b h]; exact .slu (k + b) o len esz cap (m.ok b h) hl (by rw [hk, m.k b h])
  | nilm => exact .nilm
  | mapp b h => rw [← m.r b h]; exact .mapp (k + b) (m.ok b h)
  | nilfn => exact .nilfn
  | fn f cs vs hl h ih => rw [sh_fn]; exact .fn f _ vs (by rw [shL_len, hl]) fun i c v h1 h2 => by obtain ⟨d, h3, rfl⟩ := shL_at h1; exact ih i d v h3 h2
  | fnm f cs vs hl h ih => rw [sh_fnm]; exact .fnm f _ vs (by rw [shL_len, hl]) fun i c v h1 h2 => by obtain ⟨d, h3, rfl⟩ := shL_at h1; exact ih i d v h3 h2
  | nili => exact .nili
  | ifc t a v h ih => exact .ifc t (a.sh k) v ih
  | agg cs vs hl h ih => rw [sh_agg]; exact .agg _ vs (by rw [shL_len, hl]) fun i c v h1 h2 => by obtain ⟨d, h3, rfl⟩ := shL_at h1; exact ih i d v h3 h2
  | tup cs vs hl h ih => rw [sh_tup]; exact .tup _ vs (by rw [shL_len, hl]) fun i c v h1 h2 => by obtain ⟨d, h3, rfl⟩ := shL_at h1; exact ih i d v h3 h2
  | symI b j lo hi n h hn h1 h2 => exact .symI (k + b) j lo hi n (m.ok b h) (by rw [m.k b h]; exact hn) h1 h2
  | symS b s h hs => exact .symS (k + b) s (m.ok b h) (by rw [m.k b h]; exact hs)
  | symT b lo hi n h hn h1 h2 => exact .symT (k + b) lo hi n (m.ok b h) (by rw [m.k b h]; exact hn) h1 h2
  | symZ n s hn => exact .symZ n s hn
theorem VL.sh [Tab] {k : Nat} {E F : AEnv} (m : Mv k E F) {l : List AV} {a : List Value} (h : VL E l a) : VL F (shL k l) a :=
  ⟨by rw [shL_len, h.len], fun i c v h1 h2 => by obtain ⟨d, h3, rfl⟩ := shL_at h1; exact (h.at_ i d v h3 h2).sh m⟩
noncomputable def AB.sh (k : Nat) (x : AB) : AB := match x with
  | .cells cs ty => .cells (shL k cs) ty
  | .froz cs ty => .froz (shL k cs) ty
  | .mapb es clock => .mapb (es.map fun e => (e.1.sh k, e.2.1.sh k, e.2.2)) clock
  | _ => .none
theorem BR.sh [Tab] {k : Nat} {E F : AEnv} (m : Mv k E F) {b : Nat} (hb : E.ok b) {x : AB} {o : Obj} (h : BR E b x o) : BR F (k + b) (x.sh k) o := by
  cases x with
  | none => trivial
  | mapb es clock =>
    obtain ⟨xs, h1, h2, h3, h4⟩ := h
    refine ⟨xs, h1, ?_, ?_, ?_⟩
    · have := h2.sh m
      rw [shL_map, List.map_map] at this
      rw [List.map_map]
      exact this
    · have := h3.sh m
      rw [shL_map, List.map_map] at this
      rw [List.map_map]
      exact this
    · rw [List.map_map]
      exact h4
  | iter a clock cur => trivial
  | zero a ty => trivial
  | cells cs ty =>
    obtain ⟨c, fz, h1, h2, h3, h4, h5⟩ := h
    refine ⟨c, fz, h1, by rw [m.k b hb]; exact h2, by rw [shL_len]; exact h3, ?_, h5⟩
    rw [shL_len]
    exact h4.sh m
  | froz cs ty =>
    obtain ⟨c, fz, h1, h2, h3, h4⟩ := h
    refine ⟨c, fz, h1, by rw [m.k b hb]; exact h2, by rw [shL_len]; exact h3, ?_⟩
    rw [shL_len]
    exact h4.sh m
/-- Like arguments, without blocks. -/
noncomputable def eqBy : List UInt8 → List UInt8 → Bool := fun l => List.rec (motive := fun _ => List UInt8 → Bool) (fun m => List.rec (motive := fun _ => Bool) true (fun _ _ _ => false) m) (fun a _ ih m => List.rec (motive := fun _ => Bool) false (fun b r _ => Bool.rec (motive := fun _ => Bool) false (ih r) (Nat.beq a.toNat b.toNat)) m) l
theorem eqBy_eq [Tab] : ∀ {l m : List UInt8}, eqBy l m = true → l = m
  | [], [], _ => rfl
  | [], _ :: _, h => by cases h
  | _ :: _, [], h => by cases h
  | a :: l, b :: m, h => by
    replace h : Bool.rec (motive := fun _ => Bool) false (eqBy l m) (Nat.beq a.toNat b.toNat) = true := h
    cases hb : Nat.beq a.toNat b.toNat with
    | false => rw [hb] at h; cases h
    | true =>
      rw [hb] at h
      rw [eqBy_eq h, UInt8.toNat_inj.1 (Nat.eq_of_beq_eq_true hb)]
noncomputable def argIs (a b : AV) : Bool := match a, b with
  | .str l, .str m => eqBy l m
  | .int k n, .int j m => decide (k = j) && decide (n = m)
  | .bool x, .bool y => decide (x = y)
  | .nils, .nils => true
  | .nilp, .nilp => true
  | _, _ => false
theorem argIs_ok [Tab] {a b : AV} (h : argIs a b = true) : a = b ∧ ∀ E F v, VR E b v → VR F b v := by
  unfold argIs at h
  split at h
  · rw [eqBy_eq h]; exact ⟨rfl, fun E F v h => by cases h; exact .str _⟩
  · rw [Bool.and_eq_true, decide_eq_true_iff, decide_eq_true_iff] at h
    rw [h.1, h.2]; exact ⟨rfl, fun E F v h => by cases h; exact .int _ _⟩
  · rw [decide_eq_true_iff] at h
    rw [h]; exact ⟨rfl, fun E F v h => by cases h; exact .bool _⟩
  · exact ⟨rfl, fun E F v h => by cases h; exact .nils⟩
  · exact ⟨rfl, fun E F v h => by cases h; exact .nilp⟩
  · cases h
noncomputable def argsAre : List AV → List AV → Bool
  | [], [] => true
  | a :: l, b :: m => cond (argIs a b) (argsAre l m) false
  | _, _ => false
theorem argsAre_ok [Tab] : ∀ {l m : List AV}, argsAre l m = true → l = m ∧ ∀ E F xs, VL E m xs → VL F m xs
  | [], [], _ => ⟨rfl, fun E F xs h => by
    match xs, h with
    | [], _ => exact .nil
    | _ :: _, h => have := h.len; simp at this⟩
  | [], _ :: _, h => by cases h
  | _ :: _, [], h => by cases h
  | a :: l, b :: m, h => by
    replace h : cond (argIs a b) (argsAre l m) false = true := h
    cases hb : argIs a b with
    | false => rw [hb] at h; cases h
    | true =>
      rw [hb] at h
      obtain ⟨e1, h1⟩ := argIs_ok hb
      obtain ⟨e2, h2⟩ := argsAre_ok (l := l) (m := m) h
      refine ⟨by rw [e1, e2], fun E F xs h => ?_⟩
      match xs, h with
      | [], h => have := h.len; simp at this
      | x :: xs, h => exact .cons (h1 E F x h.head) (h2 E F xs h.tail)
/-- A call told beforehand. -/
structure Mem where
  args : List AV
  v : AV
  bl : List (Nat × AB)
  n : Nat
noncomputable def layL (k : Nat) (bl : List (Nat × AB)) (h : Hp) : Hp := List.rec (motive := fun _ => Hp → Hp) (fun h => h) (fun p _ ih h => ih (h.set (Nat.add k p.1) (p.2.sh k))) bl h
theorem layL_get [Tab] (k : Nat) : ∀ (bl : List (Nat × AB)) (h : Hp) (b : Nat), (layL k bl h).get b = h.get b ∨ ∃ p ∈ bl, b = k + p.1 ∧ (layL k bl h).get b = p.2.sh k
  | [], h, b => .inl rfl
  | p :: bl, h, b => by
    show (layL k bl (h.set (k + p.1) (p.2.sh k))).get b = h.get b ∨ ∃ q ∈ p :: bl, b = k + q.1 ∧ (layL k bl (h.set (k + p.1) (p.2.sh k))).get b = q.2.sh k
    rcases layL_get k bl (h.set (k + p.1) (p.2.sh k)) b with h1 | ⟨q, hq, h1, h2⟩
    · by_cases e : b = k + p.1
      · refine .inr ⟨p, List.mem_cons_self, e, ?_⟩
        rw [h1, e, Hp.get_set]
      · left
        rw [h1, Hp.get_set_ne _ _ e]
    · exact .inr ⟨q, List.mem_cons_of_mem _ hq, h1, h2⟩
noncomputable def memoA : List Mem → List AV → AS → Option (AV × AS)
  | [], _, _ => none
  | e :: l, args, s => cond (argsAre args e.args) (cond (Nat.ble (Nat.add s.n e.n) 1000000000) (some (e.v.sh s.n, ⟨layL s.n e.bl s.h, Nat.add s.n e.n⟩)) none) (memoA l args s)
structure MemOK [Tab] (P : Program) (f : Nat) (e : Mem) : Prop where
  run : ∃ call s, CallOK P call ∧ call f e.args AS.nil = some (e.v, s) ∧ (∀ u, e.v ≠ .pan u) ∧ s.n = e.n ∧ ∀ p ∈ e.bl, p.2.sh 0 = .none ∨ s.get p.1 = p.2
theorem MemOK.fn [Tab] {P : Program} {f : Nat} {e : Mem} (h : MemOK P f e) : ∃ fn, P.funcs[f]? = some fn ∧ fn.body.isNone = false ∧ (fn.name == "runtime.NumGoroutine") = false := by
  obtain ⟨call, s, hc, h1, _⟩ := h.run
  exact hc.fn _ _ _ _ h1
theorem AB.sh_none {x : AB} (j : Nat) {k : Nat} (h : x.sh k = .none) : x.sh j = .none := by
  cases x <;> first | rfl | cases h
theorem sh_pan {v : AV} {k : Nat} {u : Value} (h : v.sh k = .pan u) : v = .pan u := by
  cases v <;> first | (cases h; done) | (rw [sh_fn] at h; cases h) | (rw [sh_fnm] at h; cases h) | (rw [sh_agg] at h; cases h) | (rw [sh_tup] at h; cases h) | exact h
theorem mem_run [Tab] {P : Program} {f : Nat} {e : Mem} (hm : MemOK P f e) {s : AS} (hn : s.n + e.n ≤ 1000000000) {E : AEnv} {w : World} {xs : Array Value} (h : HR E s.get w) (hf : Fresh E s.n) (hx : ∀ F, VL F e.args xs.toList) : Calls P f xs w (CallEnd E s w (e.v.sh s.n) ⟨layL s.n e.bl s.h, s.n + e.n⟩) := by
  obtain ⟨call, s0, hc, h1, hp, hn0, hbl⟩ := hm.run
  have h0 : ∀ b, AS.nil.get b = .none := AS.get_nil 0
  refine (hc.calls f e.args AS.nil e.v s0 h1 hp ⟨fun _ => False, fun _ => 0, fun _ => 0, fun _ => .deferred none⟩ w xs (HR.start h0 h.tab) (fun b hb => hb.elim) (hx _)).mono fun en w' hq => ?_
  obtain ⟨x, E', rfl, q1, q2, q3, q4⟩ := hq
  have hbel : Below w.heap.size w w' := q3.below h0
  have hlt : ∀ b, E'.ok b → b < e.n := fun b hb => by
    rcases q4.ok b hb with h | ⟨_, h⟩
    · exact h.elim
    · rw [← hn0]; exact h
  let F : AEnv := ⟨fun b => E.ok b ∨ (s.n ≤ b ∧ E'.ok (b - s.n)), fun b => if b < s.n then E.r b else E'.r (b - s.n), fun b => if b < s.n then E.k b else E'.k (b - s.n), fun b => if b < s.n then E.z b else E'.z (b - s.n)⟩
  have le : E.le F := ⟨fun b hb => .inl hb, fun b hb => if_pos (hf b hb), fun b hb => if_pos (hf b hb)⟩
  have hz : ∀ b, E.ok b → F.z b = E.z b := fun b hb => if_pos (hf b hb)
  have r2 : ∀ c, F.r (s.n + c) = E'.r c := fun c => by
    show (if s.n + c < s.n then E.r (s.n + c) else E'.r (s.n + c - s.n)) = E'.r c
    rw [if_neg (by omega), Nat.add_sub_cancel_left]
  have k2 : ∀ c, F.k (s.n + c) = E'.k c := fun c => by
    show (if s.n + c < s.n then E.k (s.n + c) else E'.k (s.n + c - s.n)) = E'.k c
    rw [if_neg (by omega), Nat.add_sub_cancel_left]
  have ok2 : ∀ c, E'.ok c → F.ok (s.n + c) := fun c hc => .inr ⟨Nat.le_add_right _ _, by rw [Nat.add_sub_cancel_left]; exact hc⟩
  have mv : Mv s.n E' F := ⟨ok2, fun b _ => r2 b, fun b _ => k2 b⟩
  -- what a block of the new memory is
  have look : ∀ b, (AS.mk (layL s.n e.bl s.h) (s.n + e.n)).get b ≠ .none → (b < s.n ∧ E.ok b ∧ s.get b ≠ .none ∧ (AS.mk (layL s.n e.bl s.h) (s.n + e.n)).get b = s.get b) ∨ ∃ c, b = s.n + c ∧ E'.ok c ∧ s0.get c ≠ .none ∧ (AS.mk (layL s.n e.bl s.h) (s.n + e.n)).get b = (s0.get c).sh s.n := fun b hb => by
    rcases layL_get s.n e.bl s.h b with h3 | ⟨p, hp1, h3, h4⟩
    · left
      have h3 : (AS.mk (layL s.n e.bl s.h) (s.n + e.n)).get b = s.get b := h3
      have h5 : s.get b ≠ .none := fun e => hb (h3.trans e)
      have h6 := (h.at_ b h5).1
      exact ⟨hf b h6, h6, h5, h3⟩
    · right
      have h4 : (AS.mk (layL s.n e.bl s.h) (s.n + e.n)).get b = p.2.sh s.n := h4
      rcases hbl p hp1 with h5 | h5
      · exact absurd (h4.trans (AB.sh_none _ h5)) hb
      · have h6 : s0.get p.1 ≠ .none := fun e => hb (by rw [h4, ← h5, e]; rfl)
        exact ⟨p.1, h3, (q2.at_ _ h6).1, h6, by rw [h4, h5]⟩
  have new : ∀ c, s0.get c ≠ .none → w.heap.size ≤ E'.r c := fun c hc => by
    rcases q3.dom c hc with h | ⟨d, hd, _⟩
    · exact h
    · exact absurd (h0 d) hd
  have old : ∀ b, s.get b ≠ .none → E.r b < w.heap.size := fun b hb => by
    obtain ⟨_, _, o, h4, _⟩ := h.at_ b hb
    exact (Array.getElem?_eq_some_iff.1 h4).1
  suffices hq : (HR0 F (AS.mk (layL s.n e.bl s.h) (s.n + e.n)).get w' ∧ Stp E s.get w F (AS.mk (layL s.n e.bl s.h) (s.n + e.n)).get w') ∧ Grow E s.n F (s.n + e.n) by
    obtain ⟨h1, h2⟩ := h.lift hq.1
    exact ⟨x, F, rfl, q1.sh mv, h1, h2, hq.2⟩
  refine ⟨⟨⟨fun b hb => ?_, fun b c hb hc he => ?_⟩, ⟨hbel.os, hbel.tape, hbel.output, hbel.size, le, hz, fun d hd _ => hbel.block d hd, fun b hb => ?_⟩⟩, Nat.le_add_right _ _, fun b hb => ?_⟩
  · rcases look b hb with ⟨h3, h4, h5, h6⟩ | ⟨c, rfl, h4, h5, h6⟩
    · obtain ⟨h7, h8, o, h9, h10⟩ := h.at_ b h5
      refine ⟨.inl h4, h8, o, ?_, ?_⟩
      · rw [le.r b h4, hbel.block _ (old b h5)]; exact h9
      · rw [h6]; exact h10.mono le h4 (hz b h4)
    · obtain ⟨h7, h8, o, h9, h10⟩ := q2.at_ c h5
      have := hlt c h4
      refine ⟨ok2 c h4, by omega, o, ?_, ?_⟩
      · rw [r2]; exact h9
      · rw [h6]; exact h10.sh mv h4
  · rcases look b hb with ⟨h3, h4, h5, h6⟩ | ⟨b', rfl, h4, h5, h6⟩ <;> rcases look c hc with ⟨g3, g4, g5, g6⟩ | ⟨c', rfl, g4, g5, g6⟩
    · rw [le.r b h4, le.r c g4] at he
      exact h.inj b c h5 g5 he
    · rw [le.r b h4, r2] at he
      have := old b h5
      have := new c' g5
      omega
    · rw [r2, le.r c g4] at he
      have := old c g5
      have := new b' h5
      omega
    · rw [r2, r2] at he
      rw [q2.inj b' c' h5 g5 he]
  · rcases look b hb with ⟨h3, h4, h5, h6⟩ | ⟨c, rfl, h4, h5, h6⟩
    · exact .inr ⟨b, h5, (le.r b h4).symm⟩
    · left
      rw [r2]
      exact new c h5
  · rcases hb with h3 | ⟨h3, h4⟩
    · exact .inl h3
    · have := hlt _ h4
      exact .inr ⟨h3, by show b < s.n + e.n; omega⟩
theorem memoA_pan [Tab] {P : Program} {f : Nat} : ∀ (l : List Mem), (∀ e ∈ l, MemOK P f e) → ∀ {args : List AV} {s s' : AS} {u : Value}, memoA l args s ≠ some (.pan u, s')
  | [], _, _, _, _, _, h => by cases h
  | e :: l, hl, args, s, s', u, h => by
    replace h : cond (argsAre args e.args) (cond (Nat.ble (Nat.add s.n e.n) 1000000000) (some (e.v.sh s.n, ⟨layL s.n e.bl s.h, Nat.add s.n e.n⟩)) none) (memoA l args s) = some (.pan u, s') := h
    cases ha : argsAre args e.args with
    | false => rw [ha] at h; exact memoA_pan l (fun e he => hl e (List.mem_cons_of_mem _ he)) h
    | true =>
      rw [ha] at h
      cases hb : Nat.ble (Nat.add s.n e.n) 1000000000 with
      | false => rw [hb] at h; cases h
      | true =>
        rw [hb] at h
        injection h with h
        injection h with h1 h2
        obtain ⟨call, s0, hc, k1, hp, _⟩ := (hl e List.mem_cons_self).run
        exact hp u (sh_pan h1)
theorem memoA_calls [Tab] {P : Program} {f : Nat} : ∀ (l : List Mem), (∀ e ∈ l, MemOK P f e) → ∀ {args : List AV} {s s' : AS} {v : AV}, memoA l args s = some (v, s') → ∀ E w (xs : Array Value), HR E s.get w → Fresh E s.n → VL E args xs.toList → Calls P f xs w (CallEnd E s w v s')
  | [], _, _, _, _, _, h => by cases h
  | e :: l, hl, args, s, s', v, h => by
    replace h : cond (argsAre args e.args) (cond (Nat.ble (Nat.add s.n e.n) 1000000000) (some (e.v.sh s.n, ⟨layL s.n e.bl s.h, Nat.add s.n e.n⟩)) none) (memoA l args s) = some (v, s') := h
    cases ha : argsAre args e.args with
    | false => rw [ha] at h; exact memoA_calls l (fun e he => hl e (List.mem_cons_of_mem _ he)) h
    | true =>
      rw [ha] at h
      cases hb : Nat.ble (Nat.add s.n e.n) 1000000000 with
      | false => rw [hb] at h; cases h
      | true =>
        rw [hb] at h
        injection h with h
        injection h with h1 h2
        subst h1
        subst h2
        intro E w xs hr hf hv
        obtain ⟨e1, hx⟩ := argsAre_ok ha
        subst e1
        exact mem_run (hl e List.mem_cons_self) (Nat.le_of_ble_eq_true hb) hr hf fun F => hx E F _ hv
theorem memo_one [Tab] {P : Program} {f : Nat} {e : Mem} {l : List Mem} (h : ∀ x ∈ e :: l, MemOK P f x) : OneOK P f (memoA (e :: l)) :=
  ⟨(h e List.mem_cons_self).fn, fun _ _ _ _ he _ => memoA_calls _ h he, fun _ _ _ _ he => absurd he (memoA_pan _ h)⟩
/-- The kernel's question. -/
noncomputable def encB (x : AB) : AV := match x with
  | .cells cs ty => .fn ty cs
  | .froz cs ty => .fnm ty cs
  | .mapb es clock => .agg (.int .i64 (Int.ofNat clock) :: es.map fun e => .tup [e.1, e.2.1, .int .i64 (Int.ofNat e.2.2)])
  | _ => .top
theorem encE_inj [Tab] : ∀ {es fs : List (AV × AV × Nat)}, (es.map fun e => AV.tup [e.1, e.2.1, .int .i64 (Int.ofNat e.2.2)]) = (fs.map fun e => AV.tup [e.1, e.2.1, .int .i64 (Int.ofNat e.2.2)]) → es = fs
  | [], [], _ => rfl
  | [], _ :: _, h => by simp at h
  | _ :: _, [], h => by simp at h
  | e :: es, f :: fs, h => by
    simp only [List.map_cons, List.cons.injEq, AV.tup.injEq, AV.int.injEq, true_and, and_true] at h
    obtain ⟨⟨h1, h2, h3⟩, h4⟩ := h
    obtain ⟨a, b, c⟩ := e
    obtain ⟨a', b', c'⟩ := f
    dsimp only at h1 h2 h3
    subst h1
    subst h2
    have h3 : c = c' := by injection h3
    subst h3
    rw [encE_inj h4]
theorem encB_inj [Tab] {x y : AB} (h : encB x = encB y) (hy : y.sh 0 ≠ .none) : x = y := by
  cases y with
  | none => exact absurd rfl hy
  | mapb a b =>
    cases x <;> first | (cases h; done) | skip
    rename_i es clock
    unfold encB at h
    simp only [AV.agg.injEq, List.cons.injEq, AV.int.injEq, true_and] at h
    have h1 : clock = b := by have := h.1; injection this
    rw [h1, encE_inj h.2]
  | iter a b c => exact absurd rfl hy
  | zero a b => exact absurd rfl hy
  | cells cs ty => cases x <;> first | (cases h; done) | (injection h with h1 h2; rw [h1, h2])
  | froz cs ty => cases x <;> first | (cases h; done) | (injection h with h1 h2; rw [h1, h2])
mutual
noncomputable def eqV : AV → AV → Bool
  | .top, .top => true
  | .undef, .undef => true
  | .int k n, .int j m => decide (k = j) && decide (n = m)
  | .bool x, .bool y => decide (x = y)
  | .str l, .str m => eqBy l m
  | .nilp, .nilp => true
  | .ptr b o, .ptr b' o' => Nat.beq b b' && Nat.beq o o'
  | .nils, .nils => true
  | .sl b o n c, .sl b' o' n' c' => (Nat.beq b b' && Nat.beq o o') && (Nat.beq n n' && Nat.beq c c')
  | .slu b o n c, .slu b' o' n' c' => (Nat.beq b b' && Nat.beq o o') && (Nat.beq n n' && Nat.beq c c')
  | .nilm, .nilm => true
  | .nilfn, .nilfn => true
  | .nili, .nili => true
  | .fn f cs, .fn g ds => Nat.beq f g && eqVs cs ds
  | .fnm f cs, .fnm g ds => Nat.beq f g && eqVs cs ds
  | .ifc t v, .ifc u w => Nat.beq t u && eqV v w
  | .agg cs, .agg ds => eqVs cs ds
  | .tup cs, .tup ds => eqVs cs ds
  | _, _ => false
noncomputable def eqVs : List AV → List AV → Bool
  | [], [] => true
  | a :: l, b :: m => eqV a b && eqVs l m
  | _, _ => false
end
mutual
theorem eqV_eq [Tab] : ∀ (a b : AV), eqV a b = true → a = b := fun a b h => by
  unfold eqV at h
  split at h <;> (try simp only [Bool.and_eq_true, decide_eq_true_iff] at h)
  all_goals first
    | rfl
    | (cases h; done)
    | (obtain ⟨h1, h2⟩ := h; subst h1; subst h2; rfl)
    | (subst h; rfl)
    | (rw [eqBy_eq h])
    | (obtain ⟨h1, h2⟩ := h; rw [Nat.eq_of_beq_eq_true h1, Nat.eq_of_beq_eq_true h2])
    | (obtain ⟨⟨h1, h2⟩, h3, h4⟩ := h; rw [Nat.eq_of_beq_eq_true h1, Nat.eq_of_beq_eq_true h2, Nat.eq_of_beq_eq_true h3, Nat.eq_of_beq_eq_true h4])
    | (obtain ⟨h1, h2⟩ := h; rw [Nat.eq_of_beq_eq_true h1, eqVs_eq _ _ h2])
    | (obtain ⟨h1, h2⟩ := h; rw [Nat.eq_of_beq_eq_true h1, eqV_eq _ _ h2])
    | (rw [eqVs_eq _ _ h])
theorem eqVs_eq [Tab] : ∀ (a b : List AV), eqVs a b = true → a = b := fun a b h => by
  unfold eqVs at h
  split at h
  · rfl
  · rw [Bool.and_eq_true] at h
    rw [eqV_eq _ _ h.1, eqVs_eq _ _ h.2]
  · cases h
end
noncomputable def blQ (s : AS) : List (Nat × AB) → Bool := fun l => List.rec (motive := fun _ => Bool) true (fun p _ ih => Bool.rec (motive := fun _ => Bool) false ih (eqV (encB (s.get p.1)) (encB p.2))) l
theorem blQ_ok [Tab] {s : AS} : ∀ {l : List (Nat × AB)}, blQ s l = true → ∀ p ∈ l, p.2.sh 0 = .none ∨ s.get p.1 = p.2
  | [], _, p, hp => by cases hp
  | q :: l, h, p, hp => by
    replace h : Bool.rec (motive := fun _ => Bool) false (blQ s l) (eqV (encB (s.get q.1)) (encB q.2)) = true := h
    cases hb : eqV (encB (s.get q.1)) (encB q.2) with
    | false => rw [hb] at h; cases h
    | true =>
      rw [hb] at h
      rcases List.mem_cons.1 hp with rfl | hp
      · by_cases hn : p.2.sh 0 = .none
        · exact .inl hn
        · exact .inr (encB_inj (eqV_eq _ _ hb) hn)
      · exact blQ_ok (l := l) h p hp
noncomputable def memZ (e : Mem) (v : AV) (s : AS) : Bool := Bool.rec (motive := fun _ => Bool) false (Bool.rec (motive := fun _ => Bool) false (blQ s e.bl) (Nat.beq s.n e.n)) (eqV v e.v)
noncomputable def isMemQ (e : Mem) (x : RR) : Bool := match x with
  | some (.val v s) => memZ e v s
  | _ => false
noncomputable def memB' (e : Mem) (cq : CallQ) (f : Nat) : Bool := isMemQ e (cq f e.args AS.nil trueK)
noncomputable def noPanB (v : AV) : Bool := match v with
  | .pan _ => false
  | _ => true
theorem mem_ok [Tab] {P : Program} {call : Nat → List AV → AS → Option (AV × AS)} (hc : CallOK P call) {cq : CallQ} (hr : CallRel call cq) {f : Nat} {e : Mem} (hp : noPanB e.v = true) (h : memB' e cq f = true) : MemOK P f e := by
  unfold memB' isMemQ at h
  split at h
  · rename_i v s he
    obtain ⟨v1, s1, h1, h2⟩ := hr _ _ _ _ _ he
    injection h2 with h2
    injection h2 with e1 e2
    subst e1
    subst e2
    unfold memZ at h
    cases hv : eqV v1 e.v with
    | false => rw [hv] at h; cases h
    | true =>
      cases hn : Nat.beq s1.n e.n with
      | false => rw [hv, hn] at h; cases h
      | true =>
        rw [hv, hn] at h
        refine ⟨call, s1, hc, by rw [h1, eqV_eq _ _ hv], fun u e => ?_, Nat.eq_of_beq_eq_true hn, blQ_ok h⟩
        rw [e] at hp
        cases hp
  · cases h
end Go.Proofs.YthmojpcaagnfkaaGreatDoor
