/-
  The quick machine for the kernel: slots as a tree of 16 by 16; dispatchers with closed arms. No program.
-/
import Derived.Test.YtambgppdjlhdaaaGreatDoorEvW
namespace Go.Proofs.YtambgppdjlhdaaaGreatDoor
open Go.RowKit

inductive S1 where
  | mk (a0 a1 a2 a3 a4 a5 a6 a7 a8 a9 a10 a11 a12 a13 a14 a15 : AV)
inductive SL where
  | mk (a0 a1 a2 a3 a4 a5 a6 a7 a8 a9 a10 a11 a12 a13 a14 : S1) (o : Nat → AV)
inductive RZ where
  | code (e : Ex) (t : SL) (s : AS)
  | val (v : AV) (s : AS)
abbrev RR := Option RZ
noncomputable def S1.nil : S1 := .mk .top .top .top .top .top .top .top .top .top .top .top .top .top .top .top .top
noncomputable def S1.g0 (t : S1) : AV := S1.rec (motive := fun _ => AV) (fun a0 _ _ _ _ _ _ _ _ _ _ _ _ _ _ _ => a0) t
noncomputable def S1.w0 (v : AV) (t : S1) : S1 := S1.rec (motive := fun _ => S1) (fun _ a1 a2 a3 a4 a5 a6 a7 a8 a9 a10 a11 a12 a13 a14 a15 => .mk v a1 a2 a3 a4 a5 a6 a7 a8 a9 a10 a11 a12 a13 a14 a15) t
noncomputable def S1.p0 (v : AV) (t : S1) (K : S1 → RR) : RR := S1.rec (motive := fun _ => RR) (fun _ a1 a2 a3 a4 a5 a6 a7 a8 a9 a10 a11 a12 a13 a14 a15 => K (.mk v a1 a2 a3 a4 a5 a6 a7 a8 a9 a10 a11 a12 a13 a14 a15)) t
noncomputable def S1.g1 (t : S1) : AV := S1.rec (motive := fun _ => AV) (fun _ a1 _ _ _ _ _ _ _ _ _ _ _ _ _ _ => a1) t
noncomputable def S1.w1 (v : AV) (t : S1) : S1 := S1.rec (motive := fun _ => S1) (fun a0 _ a2 a3 a4 a5 a6 a7 a8 a9 a10 a11 a12 a13 a14 a15 => .mk a0 v a2 a3 a4 a5 a6 a7 a8 a9 a10 a11 a12 a13 a14 a15) t
noncomputable def S1.p1 (v : AV) (t : S1) (K : S1 → RR) : RR := S1.rec (motive := fun _ => RR) (fun a0 _ a2 a3 a4 a5 a6 a7 a8 a9 a10 a11 a12 a13 a14 a15 => K (.mk a0 v a2 a3 a4 a5 a6 a7 a8 a9 a10 a11 a12 a13 a14 a15)) t
noncomputable def S1.g2 (t : S1) : AV := S1.rec (motive := fun _ => AV) (fun _ _ a2 _ _ _ _ _ _ _ _ _ _ _ _ _ => a2) t
noncomputable def S1.w2 (v : AV) (t : S1) : S1 := S1.rec (motive := fun _ => S1) (fun a0 a1 _ a3 a4 a5 a6 a7 a8 a9 a10 a11 a12 a13 a14 a15 => .mk a0 a1 v a3 a4 a5 a6 a7 a8 a9 a10 a11 a12 a13 a14 a15) t
noncomputable def S1.p2 (v : AV) (t : S1) (K : S1 → RR) : RR := S1.rec (motive := fun _ => RR) (fun a0 a1 _ a3 a4 a5 a6 a7 a8 a9 a10 a11 a12 a13 a14 a15 => K (.mk a0 a1 v a3 a4 a5 a6 a7 a8 a9 a10 a11 a12 a13 a14 a15)) t
noncomputable def S1.g3 (t : S1) : AV := S1.rec (motive := fun _ => AV) (fun _ _ _ a3 _ _ _ _ _ _ _ _ _ _ _ _ => a3) t
noncomputable def S1.w3 (v : AV) (t : S1) : S1 := S1.rec (motive := fun _ => S1) (fun a0 a1 a2 _ a4 a5 a6 a7 a8 a9 a10 a11 a12 a13 a14 a15 => .mk a0 a1 a2 v a4 a5 a6 a7 a8 a9 a10 a11 a12 a13 a14 a15) t
noncomputable def S1.p3 (v : AV) (t : S1) (K : S1 → RR) : RR := S1.rec (motive := fun _ => RR) (fun a0 a1 a2 _ a4 a5 a6 a7 a8 a9 a10 a11 a12 a13 a14 a15 => K (.mk a0 a1 a2 v a4 a5 a6 a7 a8 a9 a10 a11 a12 a13 a14 a15)) t
noncomputable def S1.g4 (t : S1) : AV := S1.rec (motive := fun _ => AV) (fun _ _ _ _ a4 _ _ _ _ _ _ _ _ _ _ _ => a4) t
noncomputable def S1.w4 (v : AV) (t : S1) : S1 := S1.rec (motive := fun _ => S1) (fun a0 a1 a2 a3 _ a5 a6 a7 a8 a9 a10 a11 a12 a13 a14 a15 => .mk a0 a1 a2 a3 v a5 a6 a7 a8 a9 a10 a11 a12 a13 a14 a15) t
noncomputable def S1.p4 (v : AV) (t : S1) (K : S1 → RR) : RR := S1.rec (motive := fun _ => RR) (fun a0 a1 a2 a3 _ a5 a6 a7 a8 a9 a10 a11 a12 a13 a14 a15 => K (.mk a0 a1 a2 a3 v a5 a6 a7 a8 a9 a10 a11 a12 a13 a14 a15)) t
noncomputable def S1.g5 (t : S1) : AV := S1.rec (motive := fun _ => AV) (fun _ _ _ _ _ a5 _ _ _ _ _ _ _ _ _ _ => a5) t
noncomputable def S1.w5 (v : AV) (t : S1) : S1 := S1.rec (motive := fun _ => S1) (fun a0 a1 a2 a3 a4 _ a6 a7 a8 a9 a10 a11 a12 a13 a14 a15 => .mk a0 a1 a2 a3 a4 v a6 a7 a8 a9 a10 a11 a12 a13 a14 a15) t
noncomputable def S1.p5 (v : AV) (t : S1) (K : S1 → RR) : RR := S1.rec (motive := fun _ => RR) (fun a0 a1 a2 a3 a4 _ a6 a7 a8 a9 a10 a11 a12 a13 a14 a15 => K (.mk a0 a1 a2 a3 a4 v a6 a7 a8 a9 a10 a11 a12 a13 a14 a15)) t
noncomputable def S1.g6 (t : S1) : AV := S1.rec (motive := fun _ => AV) (fun _ _ _ _ _ _ a6 _ _ _ _ _ _ _ _ _ => a6) t
noncomputable def S1.w6 (v : AV) (t : S1) : S1 := S1.rec (motive := fun _ => S1) (fun a0 a1 a2 a3 a4 a5 _ a7 a8 a9 a10 a11 a12 a13 a14 a15 => .mk a0 a1 a2 a3 a4 a5 v a7 a8 a9 a10 a11 a12 a13 a14 a15) t
noncomputable def S1.p6 (v : AV) (t : S1) (K : S1 → RR) : RR := S1.rec (motive := fun _ => RR) (fun a0 a1 a2 a3 a4 a5 _ a7 a8 a9 a10 a11 a12 a13 a14 a15 => K (.mk a0 a1 a2 a3 a4 a5 v a7 a8 a9 a10 a11 a12 a13 a14 a15)) t
noncomputable def S1.g7 (t : S1) : AV := S1.rec (motive := fun _ => AV) (fun _ _ _ _ _ _ _ a7 _ _ _ _ _ _ _ _ => a7) t
noncomputable def S1.w7 (v : AV) (t : S1) : S1 := S1.rec (motive := fun _ => S1) (fun a0 a1 a2 a3 a4 a5 a6 _ a8 a9 a10 a11 a12 a13 a14 a15 => .mk a0 a1 a2 a3 a4 a5 a6 v a8 a9 a10 a11 a12 a13 a14 a15) t
noncomputable def S1.p7 (v : AV) (t : S1) (K : S1 → RR) : RR := S1.rec (motive := fun _ => RR) (fun a0 a1 a2 a3 a4 a5 a6 _ a8 a9 a10 a11 a12 a13 a14 a15 => K (.mk a0 a1 a2 a3 a4 a5 a6 v a8 a9 a10 a11 a12 a13 a14 a15)) t
noncomputable def S1.g8 (t : S1) : AV := S1.rec (motive := fun _ => AV) (fun _ _ _ _ _ _ _ _ a8 _ _ _ _ _ _ _ => a8) t
noncomputable def S1.w8 (v : AV) (t : S1) : S1 := S1.rec (motive := fun _ => S1) (fun a0 a1 a2 a3 a4 a5 a6 a7 _ a9 a10 a11 a12 a13 a14 a15 => .mk a0 a1 a2 a3 a4 a5 a6 a7 v a9 a10 a11 a12 a13 a14 a15) t
noncomputable def S1.p8 (v : AV) (t : S1) (K : S1 → RR) : RR := S1.rec (motive := fun _ => RR) (fun a0 a1 a2 a3 a4 a5 a6 a7 _ a9 a10 a11 a12 a13 a14 a15 => K (.mk a0 a1 a2 a3 a4 a5 a6 a7 v a9 a10 a11 a12 a13 a14 a15)) t
noncomputable def S1.g9 (t : S1) : AV := S1.rec (motive := fun _ => AV) (fun _ _ _ _ _ _ _ _ _ a9 _ _ _ _ _ _ => a9) t
noncomputable def S1.w9 (v : AV) (t : S1) : S1 := S1.rec (motive := fun _ => S1) (fun a0 a1 a2 a3 a4 a5 a6 a7 a8 _ a10 a11 a12 a13 a14 a15 => .mk a0 a1 a2 a3 a4 a5 a6 a7 a8 v a10 a11 a12 a13 a14 a15) t
noncomputable def S1.p9 (v : AV) (t : S1) (K : S1 → RR) : RR := S1.rec (motive := fun _ => RR) (fun a0 a1 a2 a3 a4 a5 a6 a7 a8 _ a10 a11 a12 a13 a14 a15 => K (.mk a0 a1 a2 a3 a4 a5 a6 a7 a8 v a10 a11 a12 a13 a14 a15)) t
noncomputable def S1.g10 (t : S1) : AV := S1.rec (motive := fun _ => AV) (fun _ _ _ _ _ _ _ _ _ _ a10 _ _ _ _ _ => a10) t
noncomputable def S1.w10 (v : AV) (t : S1) : S1 := S1.rec (motive := fun _ => S1) (fun a0 a1 a2 a3 a4 a5 a6 a7 a8 a9 _ a11 a12 a13 a14 a15 => .mk a0 a1 a2 a3 a4 a5 a6 a7 a8 a9 v a11 a12 a13 a14 a15) t
noncomputable def S1.p10 (v : AV) (t : S1) (K : S1 → RR) : RR := S1.rec (motive := fun _ => RR) (fun a0 a1 a2 a3 a4 a5 a6 a7 a8 a9 _ a11 a12 a13 a14 a15 => K (.mk a0 a1 a2 a3 a4 a5 a6 a7 a8 a9 v a11 a12 a13 a14 a15)) t
noncomputable def S1.g11 (t : S1) : AV := S1.rec (motive := fun _ => AV) (fun _ _ _ _ _ _ _ _ _ _ _ a11 _ _ _ _ => a11) t
noncomputable def S1.w11 (v : AV) (t : S1) : S1 := S1.rec (motive := fun _ => S1) (fun a0 a1 a2 a3 a4 a5 a6 a7 a8 a9 a10 _ a12 a13 a14 a15 => .mk a0 a1 a2 a3 a4 a5 a6 a7 a8 a9 a10 v a12 a13 a14 a15) t
noncomputable def S1.p11 (v : AV) (t : S1) (K : S1 → RR) : RR := S1.rec (motive := fun _ => RR) (fun a0 a1 a2 a3 a4 a5 a6 a7 a8 a9 a10 _ a12 a13 a14 a15 => K (.mk a0 a1 a2 a3 a4 a5 a6 a7 a8 a9 a10 v a12 a13 a14 a15)) t
noncomputable def S1.g12 (t : S1) : AV := S1.rec (motive := fun _ => AV) (fun _ _ _ _ _ _ _ _ _ _ _ _ a12 _ _ _ => a12) t
noncomputable def S1.w12 (v : AV) (t : S1) : S1 := S1.rec (motive := fun _ => S1) (fun a0 a1 a2 a3 a4 a5 a6 a7 a8 a9 a10 a11 _ a13 a14 a15 => .mk a0 a1 a2 a3 a4 a5 a6 a7 a8 a9 a10 a11 v a13 a14 a15) t
noncomputable def S1.p12 (v : AV) (t : S1) (K : S1 → RR) : RR := S1.rec (motive := fun _ => RR) (fun a0 a1 a2 a3 a4 a5 a6 a7 a8 a9 a10 a11 _ a13 a14 a15 => K (.mk a0 a1 a2 a3 a4 a5 a6 a7 a8 a9 a10 a11 v a13 a14 a15)) t
noncomputable def S1.g13 (t : S1) : AV := S1.rec (motive := fun _ => AV) (fun _ _ _ _ _ _ _ _ _ _ _ _ _ a13 _ _ => a13) t
noncomputable def S1.w13 (v : AV) (t : S1) : S1 := S1.rec (motive := fun _ => S1) (fun a0 a1 a2 a3 a4 a5 a6 a7 a8 a9 a10 a11 a12 _ a14 a15 => .mk a0 a1 a2 a3 a4 a5 a6 a7 a8 a9 a10 a11 a12 v a14 a15) t
noncomputable def S1.p13 (v : AV) (t : S1) (K : S1 → RR) : RR := S1.rec (motive := fun _ => RR) (fun a0 a1 a2 a3 a4 a5 a6 a7 a8 a9 a10 a11 a12 _ a14 a15 => K (.mk a0 a1 a2 a3 a4 a5 a6 a7 a8 a9 a10 a11 a12 v a14 a15)) t
noncomputable def S1.g14 (t : S1) : AV := S1.rec (motive := fun _ => AV) (fun _ _ _ _ _ _ _ _ _ _ _ _ _ _ a14 _ => a14) t
noncomputable def S1.w14 (v : AV) (t : S1) : S1 := S1.rec (motive := fun _ => S1) (fun a0 a1 a2 a3 a4 a5 a6 a7 a8 a9 a10 a11 a12 a13 _ a15 => .mk a0 a1 a2 a3 a4 a5 a6 a7 a8 a9 a10 a11 a12 a13 v a15) t
noncomputable def S1.p14 (v : AV) (t : S1) (K : S1 → RR) : RR := S1.rec (motive := fun _ => RR) (fun a0 a1 a2 a3 a4 a5 a6 a7 a8 a9 a10 a11 a12 a13 _ a15 => K (.mk a0 a1 a2 a3 a4 a5 a6 a7 a8 a9 a10 a11 a12 a13 v a15)) t
noncomputable def S1.g15 (t : S1) : AV := S1.rec (motive := fun _ => AV) (fun _ _ _ _ _ _ _ _ _ _ _ _ _ _ _ a15 => a15) t
noncomputable def S1.w15 (v : AV) (t : S1) : S1 := S1.rec (motive := fun _ => S1) (fun a0 a1 a2 a3 a4 a5 a6 a7 a8 a9 a10 a11 a12 a13 a14 _ => .mk a0 a1 a2 a3 a4 a5 a6 a7 a8 a9 a10 a11 a12 a13 a14 v) t
noncomputable def S1.p15 (v : AV) (t : S1) (K : S1 → RR) : RR := S1.rec (motive := fun _ => RR) (fun a0 a1 a2 a3 a4 a5 a6 a7 a8 a9 a10 a11 a12 a13 a14 _ => K (.mk a0 a1 a2 a3 a4 a5 a6 a7 a8 a9 a10 a11 a12 a13 a14 v)) t
noncomputable def SL.g0 (t : SL) : S1 := SL.rec (motive := fun _ => S1) (fun a0 _ _ _ _ _ _ _ _ _ _ _ _ _ _ _ => a0) t
noncomputable def SL.w0 (v : S1) (t : SL) : SL := SL.rec (motive := fun _ => SL) (fun _ a1 a2 a3 a4 a5 a6 a7 a8 a9 a10 a11 a12 a13 a14 o => .mk v a1 a2 a3 a4 a5 a6 a7 a8 a9 a10 a11 a12 a13 a14 o) t
noncomputable def SL.p0 (f : S1 → (S1 → RR) → RR) (t : SL) (K : SL → RR) : RR := SL.rec (motive := fun _ => RR) (fun a0 a1 a2 a3 a4 a5 a6 a7 a8 a9 a10 a11 a12 a13 a14 o => f a0 (fun x => K (.mk x a1 a2 a3 a4 a5 a6 a7 a8 a9 a10 a11 a12 a13 a14 o))) t
noncomputable def SL.g1 (t : SL) : S1 := SL.rec (motive := fun _ => S1) (fun _ a1 _ _ _ _ _ _ _ _ _ _ _ _ _ _ => a1) t
noncomputable def SL.w1 (v : S1) (t : SL) : SL := SL.rec (motive := fun _ => SL) (fun a0 _ a2 a3 a4 a5 a6 a7 a8 a9 a10 a11 a12 a13 a14 o => .mk a0 v a2 a3 a4 a5 a6 a7 a8 a9 a10 a11 a12 a13 a14 o) t
noncomputable def SL.p1 (f : S1 → (S1 → RR) → RR) (t : SL) (K : SL → RR) : RR := SL.rec (motive := fun _ => RR) (fun a0 a1 a2 a3 a4 a5 a6 a7 a8 a9 a10 a11 a12 a13 a14 o => f a1 (fun x => K (.mk a0 x a2 a3 a4 a5 a6 a7 a8 a9 a10 a11 a12 a13 a14 o))) t
noncomputable def SL.g2 (t : SL) : S1 := SL.rec (motive := fun _ => S1) (fun _ _ a2 _ _ _ _ _ _ _ _ _ _ _ _ _ => a2) t
noncomputable def SL.w2 (v : S1) (t : SL) : SL := SL.rec (motive := fun _ => SL) (fun a0 a1 _ a3 a4 a5 a6 a7 a8 a9 a10 a11 a12 a13 a14 o => .mk a0 a1 v a3 a4 a5 a6 a7 a8 a9 a10 a11 a12 a13 a14 o) t
noncomputable def SL.p2 (f : S1 → (S1 → RR) → RR) (t : SL) (K : SL → RR) : RR := SL.rec (motive := fun _ => RR) (fun a0 a1 a2 a3 a4 a5 a6 a7 a8 a9 a10 a11 a12 a13 a14 o => f a2 (fun x => K (.mk a0 a1 x a3 a4 a5 a6 a7 a8 a9 a10 a11 a12 a13 a14 o))) t
noncomputable def SL.g3 (t : SL) : S1 := SL.rec (motive := fun _ => S1) (fun _ _ _ a3 _ _ _ _ _ _ _ _ _ _ _ _ => a3) t
noncomputable def SL.w3 (v : S1) (t : SL) : SL := SL.rec (motive := fun _ => SL) (fun a0 a1 a2 _ a4 a5 a6 a7 a8 a9 a10 a11 a12 a13 a14 o => .mk a0 a1 a2 v a4 a5 a6 a7 a8 a9 a10 a11 a12 a13 a14 o) t
noncomputable def SL.p3 (f : S1 → (S1 → RR) → RR) (t : SL) (K : SL → RR) : RR := SL.rec (motive := fun _ => RR) (fun a0 a1 a2 a3 a4 a5 a6 a7 a8 a9 a10 a11 a12 a13 a14 o => f a3 (fun x => K (.mk a0 a1 a2 x a4 a5 a6 a7 a8 a9 a10 a11 a12 a13 a14 o))) t
noncomputable def SL.g4 (t : SL) : S1 := SL.rec (motive := fun _ => S1) (fun _ _ _ _ a4 _ _ _ _ _ _ _ _ _ _ _ => a4) t
noncomputable def SL.w4 (v : S1) (t : SL) : SL := SL.rec (motive := fun _ => SL) (fun a0 a1 a2 a3 _ a5 a6 a7 a8 a9 a10 a11 a12 a13 a14 o => .mk a0 a1 a2 a3 v a5 a6 a7 a8 a9 a10 a11 a12 a13 a14 o) t
noncomputable def SL.p4 (f : S1 → (S1 → RR) → RR) (t : SL) (K : SL → RR) : RR := SL.rec (motive := fun _ => RR) (fun a0 a1 a2 a3 a4 a5 a6 a7 a8 a9 a10 a11 a12 a13 a14 o => f a4 (fun x => K (.mk a0 a1 a2 a3 x a5 a6 a7 a8 a9 a10 a11 a12 a13 a14 o))) t
noncomputable def SL.g5 (t : SL) : S1 := SL.rec (motive := fun _ => S1) (fun _ _ _ _ _ a5 _ _ _ _ _ _ _ _ _ _ => a5) t
noncomputable def SL.w5 (v : S1) (t : SL) : SL := SL.rec (motive := fun _ => SL) (fun a0 a1 a2 a3 a4 _ a6 a7 a8 a9 a10 a11 a12 a13 a14 o => .mk a0 a1 a2 a3 a4 v a6 a7 a8 a9 a10 a11 a12 a13 a14 o) t
noncomputable def SL.p5 (f : S1 → (S1 → RR) → RR) (t : SL) (K : SL → RR) : RR := SL.rec (motive := fun _ => RR) (fun a0 a1 a2 a3 a4 a5 a6 a7 a8 a9 a10 a11 a12 a13 a14 o => f a5 (fun x => K (.mk a0 a1 a2 a3 a4 x a6 a7 a8 a9 a10 a11 a12 a13 a14 o))) t
noncomputable def SL.g6 (t : SL) : S1 := SL.rec (motive := fun _ => S1) (fun _ _ _ _ _ _ a6 _ _ _ _ _ _ _ _ _ => a6) t
noncomputable def SL.w6 (v : S1) (t : SL) : SL := SL.rec (motive := fun _ => SL) (fun a0 a1 a2 a3 a4 a5 _ a7 a8 a9 a10 a11 a12 a13 a14 o => .mk a0 a1 a2 a3 a4 a5 v a7 a8 a9 a10 a11 a12 a13 a14 o) t
noncomputable def SL.p6 (f : S1 → (S1 → RR) → RR) (t : SL) (K : SL → RR) : RR := SL.rec (motive := fun _ => RR) (fun a0 a1 a2 a3 a4 a5 a6 a7 a8 a9 a10 a11 a12 a13 a14 o => f a6 (fun x => K (.mk a0 a1 a2 a3 a4 a5 x a7 a8 a9 a10 a11 a12 a13 a14 o))) t
noncomputable def SL.g7 (t : SL) : S1 := SL.rec (motive := fun _ => S1) (fun _ _ _ _ _ _ _ a7 _ _ _ _ _ _ _ _ => a7) t
noncomputable def SL.w7 (v : S1) (t : SL) : SL := SL.rec (motive := fun _ => SL) (fun a0 a1 a2 a3 a4 a5 a6 _ a8 a9 a10 a11 a12 a13 a14 o => .mk a0 a1 a2 a3 a4 a5 a6 v a8 a9 a10 a11 a12 a13 a14 o) t
noncomputable def SL.p7 (f : S1 → (S1 → RR) → RR) (t : SL) (K : SL → RR) : RR := SL.rec (motive := fun _ => RR) (fun a0 a1 a2 a3 a4 a5 a6 a7 a8 a9 a10 a11 a12 a13 a14 o => f a7 (fun x => K (.mk a0 a1 a2 a3 a4 a5 a6 x a8 a9 a10 a11 a12 a13 a14 o))) t
noncomputable def SL.g8 (t : SL) : S1 := SL.rec (motive := fun _ => S1) (fun _ _ _ _ _ _ _ _ a8 _ _ _ _ _ _ _ => a8) t
noncomputable def SL.w8 (v : S1) (t : SL) : SL := SL.rec (motive := fun _ => SL) (fun a0 a1 a2 a3 a4 a5 a6 a7 _ a9 a10 a11 a12 a13 a14 o => .mk a0 a1 a2 a3 a4 a5 a6 a7 v a9 a10 a11 a12 a13 a14 o) t
noncomputable def SL.p8 (f : S1 → (S1 → RR) → RR) (t : SL) (K : SL → RR) : RR := SL.rec (motive := fun _ => RR) (fun a0 a1 a2 a3 a4 a5 a6 a7 a8 a9 a10 a11 a12 a13 a14 o => f a8 (fun x => K (.mk a0 a1 a2 a3 a4 a5 a6 a7 x a9 a10 a11 a12 a13 a14 o))) t
noncomputable def SL.g9 (t : SL) : S1 := SL.rec (motive := fun _ => S1) (fun _ _ _ _ _ _ _ _ _ a9 _ _ _ _ _ _ => a9) t
noncomputable def SL.w9 (v : S1) (t : SL) : SL := SL.rec (motive := fun _ => SL) (fun a0 a1 a2 a3 a4 a5 a6 a7 a8 _ a10 a11 a12 a13 a14 o => .mk a0 a1 a2 a3 a4 a5 a6 a7 a8 v a10 a11 a12 a13 a14 o) t
noncomputable def SL.p9 (f : S1 → (S1 → RR) → RR) (t : SL) (K : SL → RR) : RR := SL.rec (motive := fun _ => RR) (fun a0 a1 a2 a3 a4 a5 a6 a7 a8 a9 a10 a11 a12 a13 a14 o => f a9 (fun x => K (.mk a0 a1 a2 a3 a4 a5 a6 a7 a8 x a10 a11 a12 a13 a14 o))) t
noncomputable def SL.g10 (t : SL) : S1 := SL.rec (motive := fun _ => S1) (fun _ _ _ _ _ _ _ _ _ _ a10 _ _ _ _ _ => a10) t
noncomputable def SL.w10 (v : S1) (t : SL) : SL := SL.rec (motive := fun _ => SL) (fun a0 a1 a2 a3 a4 a5 a6 a7 a8 a9 _ a11 a12 a13 a14 o => .mk a0 a1 a2 a3 a4 a5 a6 a7 a8 a9 v a11 a12 a13 a14 o) t
noncomputable def SL.p10 (f : S1 → (S1 → RR) → RR) (t : SL) (K : SL → RR) : RR := SL.rec (motive := fun _ => RR) (fun a0 a1 a2 a3 a4 a5 a6 a7 a8 a9 a10 a11 a12 a13 a14 o => f a10 (fun x => K (.mk a0 a1 a2 a3 a4 a5 a6 a7 a8 a9 x a11 a12 a13 a14 o))) t
noncomputable def SL.g11 (t : SL) : S1 := SL.rec (motive := fun _ => S1) (fun _ _ _ _ _ _ _ _ _ _ _ a11 _ _ _ _ => a11) t
noncomputable def SL.w11 (v : S1) (t : SL) : SL := SL.rec (motive := fun _ => SL) (fun a0 a1 a2 a3 a4 a5 a6 a7 a8 a9 a10 _ a12 a13 a14 o => .mk a0 a1 a2 a3 a4 a5 a6 a7 a8 a9 a10 v a12 a13 a14 o) t
noncomputable def SL.p11 (f : S1 → (S1 → RR) → RR) (t : SL) (K : SL → RR) : RR := SL.rec (motive := fun _ => RR) (fun a0 a1 a2 a3 a4 a5 a6 a7 a8 a9 a10 a11 a12 a13 a14 o => f a11 (fun x => K (.mk a0 a1 a2 a3 a4 a5 a6 a7 a8 a9 a10 x a12 a13 a14 o))) t
noncomputable def SL.g12 (t : SL) : S1 := SL.rec (motive := fun _ => S1) (fun _ _ _ _ _ _ _ _ _ _ _ _ a12 _ _ _ => a12) t
noncomputable def SL.w12 (v : S1) (t : SL) : SL := SL.rec (motive := fun _ => SL) (fun a0 a1 a2 a3 a4 a5 a6 a7 a8 a9 a10 a11 _ a13 a14 o => .mk a0 a1 a2 a3 a4 a5 a6 a7 a8 a9 a10 a11 v a13 a14 o) t
noncomputable def SL.p12 (f : S1 → (S1 → RR) → RR) (t : SL) (K : SL → RR) : RR := SL.rec (motive := fun _ => RR) (fun a0 a1 a2 a3 a4 a5 a6 a7 a8 a9 a10 a11 a12 a13 a14 o => f a12 (fun x => K (.mk a0 a1 a2 a3 a4 a5 a6 a7 a8 a9 a10 a11 x a13 a14 o))) t
noncomputable def SL.g13 (t : SL) : S1 := SL.rec (motive := fun _ => S1) (fun _ _ _ _ _ _ _ _ _ _ _ _ _ a13 _ _ => a13) t
noncomputable def SL.w13 (v : S1) (t : SL) : SL := SL.rec (motive := fun _ => SL) (fun a0 a1 a2 a3 a4 a5 a6 a7 a8 a9 a10 a11 a12 _ a14 o => .mk a0 a1 a2 a3 a4 a5 a6 a7 a8 a9 a10 a11 a12 v a14 o) t
noncomputable def SL.p13 (f : S1 → (S1 → RR) → RR) (t : SL) (K : SL → RR) : RR := SL.rec (motive := fun _ => RR) (fun a0 a1 a2 a3 a4 a5 a6 a7 a8 a9 a10 a11 a12 a13 a14 o => f a13 (fun x => K (.mk a0 a1 a2 a3 a4 a5 a6 a7 a8 a9 a10 a11 a12 x a14 o))) t
noncomputable def SL.g14 (t : SL) : S1 := SL.rec (motive := fun _ => S1) (fun _ _ _ _ _ _ _ _ _ _ _ _ _ _ a14 _ => a14) t
noncomputable def SL.w14 (v : S1) (t : SL) : SL := SL.rec (motive := fun _ => SL) (fun a0 a1 a2 a3 a4 a5 a6 a7 a8 a9 a10 a11 a12 a13 _ o => .mk a0 a1 a2 a3 a4 a5 a6 a7 a8 a9 a10 a11 a12 a13 v o) t
noncomputable def SL.p14 (f : S1 → (S1 → RR) → RR) (t : SL) (K : SL → RR) : RR := SL.rec (motive := fun _ => RR) (fun a0 a1 a2 a3 a4 a5 a6 a7 a8 a9 a10 a11 a12 a13 a14 o => f a14 (fun x => K (.mk a0 a1 a2 a3 a4 a5 a6 a7 a8 a9 a10 a11 a12 a13 x o))) t
noncomputable def SL.gE (_ : SL) : S1 := S1.nil
noncomputable def SL.wE (_ : S1) (t : SL) : SL := t
noncomputable def SL.pE (f : S1 → (S1 → RR) → RR) (t : SL) (K : SL → RR) : RR := f S1.nil (fun _ => K t)
noncomputable def SL.ov (t : SL) : Nat → AV := SL.rec (motive := fun _ => Nat → AV) (fun _ _ _ _ _ _ _ _ _ _ _ _ _ _ _ o => o) t
noncomputable def SL.ow (o : Nat → AV) (t : SL) : SL := SL.rec (motive := fun _ => SL) (fun a0 a1 a2 a3 a4 a5 a6 a7 a8 a9 a10 a11 a12 a13 a14 _ => .mk a0 a1 a2 a3 a4 a5 a6 a7 a8 a9 a10 a11 a12 a13 a14 o) t
noncomputable def S1.get (i : Hx) : S1 → AV := Hx.rec (motive := fun _ => S1 → AV) S1.g0 S1.g1 S1.g2 S1.g3 S1.g4 S1.g5 S1.g6 S1.g7 S1.g8 S1.g9 S1.g10 S1.g11 S1.g12 S1.g13 S1.g14 S1.g15 i
noncomputable def S1.set (i : Hx) : AV → S1 → S1 := Hx.rec (motive := fun _ => AV → S1 → S1) S1.w0 S1.w1 S1.w2 S1.w3 S1.w4 S1.w5 S1.w6 S1.w7 S1.w8 S1.w9 S1.w10 S1.w11 S1.w12 S1.w13 S1.w14 S1.w15 i
noncomputable def S1.put (i : Hx) : AV → S1 → (S1 → RR) → RR := Hx.rec (motive := fun _ => AV → S1 → (S1 → RR) → RR) S1.p0 S1.p1 S1.p2 S1.p3 S1.p4 S1.p5 S1.p6 S1.p7 S1.p8 S1.p9 S1.p10 S1.p11 S1.p12 S1.p13 S1.p14 S1.p15 i
noncomputable def SL.get (i : Hx) : SL → S1 := Hx.rec (motive := fun _ => SL → S1) SL.g0 SL.g1 SL.g2 SL.g3 SL.g4 SL.g5 SL.g6 SL.g7 SL.g8 SL.g9 SL.g10 SL.g11 SL.g12 SL.g13 SL.g14 SL.gE i
noncomputable def SL.set (i : Hx) : S1 → SL → SL := Hx.rec (motive := fun _ => S1 → SL → SL) SL.w0 SL.w1 SL.w2 SL.w3 SL.w4 SL.w5 SL.w6 SL.w7 SL.w8 SL.w9 SL.w10 SL.w11 SL.w12 SL.w13 SL.w14 SL.wE i
noncomputable def SL.put (i : Hx) : (S1 → (S1 → RR) → RR) → SL → (SL → RR) → RR := Hx.rec (motive := fun _ => (S1 → (S1 → RR) → RR) → SL → (SL → RR) → RR) SL.p0 SL.p1 SL.p2 SL.p3 SL.p4 SL.p5 SL.p6 SL.p7 SL.p8 SL.p9 SL.p10 SL.p11 SL.p12 SL.p13 SL.p14 SL.pE i
theorem S1.get_set (i : Hx) (v : AV) (t : S1) : (S1.set i v t).get i = v := by cases i <;> cases t <;> rfl
theorem S1.get_set_ne {i j : Hx} (h : j ≠ i) (v : AV) (t : S1) : (S1.set i v t).get j = t.get j := by cases i <;> cases j <;> first | exact absurd rfl h | (cases t <;> rfl)
theorem S1.put_eq (i : Hx) (v : AV) (t : S1) (K : S1 → RR) : S1.put i v t K = K (S1.set i v t) := by cases i <;> cases t <;> rfl
theorem SL.get_set {i : Hx} (h : i ≠ .x15) (v : S1) (t : SL) : (SL.set i v t).get i = v := by cases i <;> first | exact absurd rfl h | (cases t <;> rfl)
theorem SL.get_set_ne {i j : Hx} (h : j ≠ i) (v : S1) (t : SL) : (SL.set i v t).get j = t.get j := by cases i <;> cases j <;> first | exact absurd rfl h | (cases t <;> rfl)
theorem SL.put_eq (i : Hx) (f : S1 → (S1 → RR) → RR) (t : SL) (K : SL → RR) : SL.put i f t K = f (t.get i) (fun x => K (SL.set i x t)) := by cases i <;> cases t <;> rfl
theorem SL.ov_set (i : Hx) (v : S1) (t : SL) : (SL.set i v t).ov = t.ov := by cases i <;> cases t <;> rfl
theorem SL.get_ow (i : Hx) (o : Nat → AV) (t : SL) : (SL.ow o t).get i = t.get i := by cases i <;> cases t <;> rfl
theorem SL.ov_ow (o : Nat → AV) (t : SL) : (SL.ow o t).ov = o := by cases t; rfl
noncomputable def sx1 (k : Nat) : Hx := Hx.of (Nat.mod k 16)
noncomputable def sx2 (k : Nat) : Hx := Hx.of (Nat.div k 16)
/-- What stands in a slot; a slot written. -/
noncomputable def SL.at (t : SL) (k : Nat) : AV := Bool.rec (motive := fun _ => AV) (t.ov k) (S1.get (sx1 k) (SL.get (sx2 k) t)) (Nat.ble (Nat.succ k) 240)
noncomputable def SL.wr (t : SL) (k : Nat) (v : AV) : SL := Bool.rec (motive := fun _ => SL) (SL.ow (updF t.ov k v) t) (SL.set (sx2 k) (S1.set (sx1 k) v (SL.get (sx2 k) t)) t) (Nat.ble (Nat.succ k) 240)
theorem sx_inj {k j : Nat} (hk : k < 240) (hj : j < 240) (h1 : sx1 k = sx1 j) (h2 : sx2 k = sx2 j) : k = j := by
  have e1 : k % 16 = j % 16 := Hx.of_inj (Nat.mod_lt _ (by omega)) (Nat.mod_lt _ (by omega)) h1
  have e2 : k / 16 = j / 16 := Hx.of_inj (by omega) (by omega) h2
  omega
theorem sx2_ne {k : Nat} (hk : k < 240) : sx2 k ≠ .x15 := fun h => by
  have h : Hx.of (k / 16) = Hx.of 15 := h
  have := Hx.of_inj (by omega) (by omega) h
  omega
theorem SL.at_wr [Tab] (t : SL) (k : Nat) (v : AV) : (t.wr k v).at = updT t.at (some k) v := by
  funext j
  unfold updT SL.wr SL.at
  cases ek : Nat.ble (Nat.succ k) 240 with
  | false =>
    cases ej : Nat.ble (Nat.succ j) 240 with
    | false =>
      show (SL.ow (updF t.ov k v) t).ov j = if some k = some j then v else t.ov j
      rw [SL.ov_ow]
      unfold updF
      by_cases h : j = k
      · rw [if_pos h, if_pos (by rw [h])]
      · rw [if_neg h, if_neg fun e => h (by injection e with e; exact e.symm)]
    | true =>
      show S1.get (sx1 j) (SL.get (sx2 j) (SL.ow (updF t.ov k v) t)) = if some k = some j then v else S1.get (sx1 j) (SL.get (sx2 j) t)
      rw [SL.get_ow, if_neg fun e => by injection e with e; subst e; rw [ek] at ej; cases ej]
  | true =>
    cases ej : Nat.ble (Nat.succ j) 240 with
    | false =>
      show (SL.set (sx2 k) (S1.set (sx1 k) v (SL.get (sx2 k) t)) t).ov j = if some k = some j then v else t.ov j
      rw [SL.ov_set, if_neg fun e => by injection e with e; subst e; rw [ek] at ej; cases ej]
    | true =>
      show S1.get (sx1 j) (SL.get (sx2 j) (SL.set (sx2 k) (S1.set (sx1 k) v (SL.get (sx2 k) t)) t)) = if some k = some j then v else S1.get (sx1 j) (SL.get (sx2 j) t)
      have hk : k < 240 := Nat.le_of_ble_eq_true ek
      have hj : j < 240 := Nat.le_of_ble_eq_true ej
      by_cases h : k = j
      · subst h
        rw [if_pos rfl, SL.get_set (sx2_ne hk), S1.get_set]
      · rw [if_neg fun e => h (by injection e)]
        by_cases h2 : sx2 j = sx2 k
        · rw [h2, SL.get_set (sx2_ne hk), S1.get_set_ne fun h1 => h (sx_inj hk hj h1.symm h2.symm)]
        · rw [SL.get_set_ne h2]
noncomputable def SL.pw (t : SL) : Option Nat → AV → SL
  | none, _ => t
  | some k, v => t.wr k v
theorem SL.at_pw [Tab] (t : SL) (d : Option Nat) (v : AV) : (t.pw d v).at = updT t.at d v := by
  cases d with
  | none =>
    funext k
    unfold updT
    rw [if_neg (by intro e; cases e)]
    rfl
  | some k => exact t.at_wr k v
noncomputable def SL.nil : SL := .mk S1.nil S1.nil S1.nil S1.nil S1.nil S1.nil S1.nil S1.nil S1.nil S1.nil S1.nil S1.nil S1.nil S1.nil S1.nil (fun _ => .top)
theorem SL.at_nil (k : Nat) : SL.nil.at k = .top := by
  unfold SL.at
  cases Nat.ble (Nat.succ k) 240 with
  | false => rfl
  | true =>
    show S1.get (sx1 k) (SL.get (sx2 k) SL.nil) = .top
    generalize sx1 k = i
    have : SL.get (sx2 k) SL.nil = S1.nil := by generalize sx2 k = j; cases j <;> rfl
    rw [this]
    cases i <;> rfl
abbrev CallQ := Nat → List AV → AS → (AV → AS → RR) → RR
abbrev KE := Ex → SL → AS → RR
abbrev KS := SL → AS → RR
abbrev QQ := CallQ → SL → AS → KE → KS → RR
abbrev XX := Option QQ
abbrev GG := SL → AV
abbrev PP := AV → SL → (SL → RR) → RR
/-- Getters and setters, chosen once. -/
noncomputable def gMk (g2 : SL → S1) (g1 : S1 → AV) (t : SL) : AV := g1 (g2 t)
noncomputable def gOv (k : Nat) (t : SL) : AV := t.ov k
noncomputable def gCon (v : AV) (_ : SL) : AV := v
noncomputable def pMk (p2 : (S1 → (S1 → RR) → RR) → SL → (SL → RR) → RR) (p1 : AV → S1 → (S1 → RR) → RR) (v : AV) (t : SL) (K : SL → RR) : RR := p2 (p1 v) t K
noncomputable def pOv (k : Nat) (v : AV) (t : SL) (K : SL → RR) : RR := K (SL.ow (updF t.ov k v) t)
noncomputable def pNo (_ : AV) (t : SL) (K : SL → RR) : RR := K t
noncomputable def withG1 (i : Hx) : ((S1 → AV) → XX) → XX := Hx.rec (motive := fun _ => ((S1 → AV) → XX) → XX) (fun K => K S1.g0) (fun K => K S1.g1) (fun K => K S1.g2) (fun K => K S1.g3) (fun K => K S1.g4) (fun K => K S1.g5) (fun K => K S1.g6) (fun K => K S1.g7) (fun K => K S1.g8) (fun K => K S1.g9) (fun K => K S1.g10) (fun K => K S1.g11) (fun K => K S1.g12) (fun K => K S1.g13) (fun K => K S1.g14) (fun K => K S1.g15) i
noncomputable def withG2 (i : Hx) : ((SL → S1) → XX) → XX := Hx.rec (motive := fun _ => ((SL → S1) → XX) → XX) (fun K => K SL.g0) (fun K => K SL.g1) (fun K => K SL.g2) (fun K => K SL.g3) (fun K => K SL.g4) (fun K => K SL.g5) (fun K => K SL.g6) (fun K => K SL.g7) (fun K => K SL.g8) (fun K => K SL.g9) (fun K => K SL.g10) (fun K => K SL.g11) (fun K => K SL.g12) (fun K => K SL.g13) (fun K => K SL.g14) (fun K => K SL.gE) i
noncomputable def withP1 (i : Hx) : ((AV → S1 → (S1 → RR) → RR) → XX) → XX := Hx.rec (motive := fun _ => ((AV → S1 → (S1 → RR) → RR) → XX) → XX) (fun K => K S1.p0) (fun K => K S1.p1) (fun K => K S1.p2) (fun K => K S1.p3) (fun K => K S1.p4) (fun K => K S1.p5) (fun K => K S1.p6) (fun K => K S1.p7) (fun K => K S1.p8) (fun K => K S1.p9) (fun K => K S1.p10) (fun K => K S1.p11) (fun K => K S1.p12) (fun K => K S1.p13) (fun K => K S1.p14) (fun K => K S1.p15) i
noncomputable def withP2 (i : Hx) : (((S1 → (S1 → RR) → RR) → SL → (SL → RR) → RR) → XX) → XX := Hx.rec (motive := fun _ => (((S1 → (S1 → RR) → RR) → SL → (SL → RR) → RR) → XX) → XX) (fun K => K SL.p0) (fun K => K SL.p1) (fun K => K SL.p2) (fun K => K SL.p3) (fun K => K SL.p4) (fun K => K SL.p5) (fun K => K SL.p6) (fun K => K SL.p7) (fun K => K SL.p8) (fun K => K SL.p9) (fun K => K SL.p10) (fun K => K SL.p11) (fun K => K SL.p12) (fun K => K SL.p13) (fun K => K SL.p14) (fun K => K SL.pE) i
theorem withG1_eq (i : Hx) (K : (S1 → AV) → XX) : withG1 i K = K (S1.get i) := by cases i <;> rfl
theorem withG2_eq (i : Hx) (K : (SL → S1) → XX) : withG2 i K = K (SL.get i) := by cases i <;> rfl
theorem withP1_eq (i : Hx) (K : (AV → S1 → (S1 → RR) → RR) → XX) : withP1 i K = K (S1.put i) := by cases i <;> rfl
theorem withP2_eq (i : Hx) (K : ((S1 → (S1 → RR) → RR) → SL → (SL → RR) → RR) → XX) : withP2 i K = K (SL.put i) := by cases i <;> rfl
noncomputable def withG (k : Nat) (K : GG → XX) : XX := Bool.rec (motive := fun _ => XX) (K (gOv k)) (withG2 (sx2 k) fun g2 => withG1 (sx1 k) fun g1 => K (gMk g2 g1)) (Nat.ble (Nat.succ k) 240)
theorem withG_eq [Tab] (k : Nat) (K : GG → XX) : withG k K = K (fun t => t.at k) := by
  unfold withG SL.at
  cases Nat.ble (Nat.succ k) 240 with
  | false => rfl
  | true =>
    show withG2 (sx2 k) (fun g2 => withG1 (sx1 k) fun g1 => K (gMk g2 g1)) = _
    rw [withG2_eq, withG1_eq]
    rfl
noncomputable def stO (d : Option Nat) : PP := fun v t K => K (t.pw d v)
noncomputable def withP (nt : Nat) (d : Option Nat) (K : PP → XX) : XX := Option.rec (motive := fun _ => XX) (K pNo) (fun k => Bool.rec (motive := fun _ => XX) none (Bool.rec (motive := fun _ => XX) (K (pOv k)) (withP2 (sx2 k) fun p2 => withP1 (sx1 k) fun p1 => K (pMk p2 p1)) (Nat.ble (Nat.succ k) 240)) (Nat.ble (Nat.succ k) nt)) d
theorem withP_ok [Tab] {nt : Nat} {d : Option Nat} {K : PP → XX} {q : QQ} (h : withP nt d K = some q) : K (stO d) = some q ∧ ∀ k, d = some k → k < nt := by
  unfold withP at h
  cases d with
  | none => exact ⟨h, fun k e => by cases e⟩
  | some k =>
    dsimp only at h
    cases hn : Nat.ble (Nat.succ k) nt with
    | false => rw [hn] at h; cases h
    | true =>
      rw [hn] at h
      dsimp only at h
      refine ⟨?_, fun j e => by injection e with e; subst e; exact Nat.le_of_ble_eq_true hn⟩
      cases hk : Nat.ble (Nat.succ k) 240 with
      | false =>
        rw [hk] at h
        have : pOv k = stO (some k) := by
          funext v t K
          show K _ = K (t.wr k v)
          unfold SL.wr
          rw [hk]
        rw [← this]
        exact h
      | true =>
        rw [hk] at h
        dsimp only at h
        rw [withP2_eq, withP1_eq] at h
        have : pMk (SL.put (sx2 k)) (S1.put (sx1 k)) = stO (some k) := by
          funext v t K
          show SL.put (sx2 k) (S1.put (sx1 k) v) t K = K (t.wr k v)
          rw [SL.put_eq, S1.put_eq]
          unfold SL.wr
          rw [hk]
        rw [← this]
        exact h
noncomputable def forceR (x : AV) : (AV → RR) → RR := AV.rec (motive_1 := fun _ => (AV → RR) → RR) (motive_2 := fun _ => Unit) (fun K => K .top) (fun K => K .undef) (fun k n K => K (.int k n)) (fun b K => K (.bool b)) (fun l K => K (.str l)) (fun K => K .nilp) (fun b o K => K (.ptr b o)) (fun K => K .nils) (fun b o n c K => K (.sl b o n c)) (fun b o n e K => K (.slu b o n e)) (fun K => K .nilm) (fun b K => K (.mapp b)) (fun K => K .nilfn) (fun f cs _ K => K (.fn f cs)) (fun f cs _ K => K (.fnm f cs)) (fun K => K .nili) (fun u v _ K => K (.ifc u v)) (fun cs _ K => K (.agg cs)) (fun cs _ K => K (.tup cs)) (fun w K => K (.pan w)) (fun b k lo hi K => K (.symI b k lo hi)) (fun b K => K (.symS b)) (fun b lo hi K => K (.symT b lo hi)) (fun n K => K (.symZ n)) (fun K => K .sle) () (fun _ _ _ _ => ()) x
theorem forceR_eq (x : AV) (K : AV → RR) : forceR x K = K x := by cases x <;> rfl
noncomputable def forceX (x : AV) : (AV → XX) → XX := AV.rec (motive_1 := fun _ => (AV → XX) → XX) (motive_2 := fun _ => Unit) (fun K => K .top) (fun K => K .undef) (fun k n K => K (.int k n)) (fun b K => K (.bool b)) (fun l K => K (.str l)) (fun K => K .nilp) (fun b o K => K (.ptr b o)) (fun K => K .nils) (fun b o n c K => K (.sl b o n c)) (fun b o n e K => K (.slu b o n e)) (fun K => K .nilm) (fun b K => K (.mapp b)) (fun K => K .nilfn) (fun f cs _ K => K (.fn f cs)) (fun f cs _ K => K (.fnm f cs)) (fun K => K .nili) (fun u v _ K => K (.ifc u v)) (fun cs _ K => K (.agg cs)) (fun cs _ K => K (.tup cs)) (fun w K => K (.pan w)) (fun b k lo hi K => K (.symI b k lo hi)) (fun b K => K (.symS b)) (fun b lo hi K => K (.symT b lo hi)) (fun n K => K (.symZ n)) (fun K => K .sle) () (fun _ _ _ _ => ()) x
theorem forceX_eq (x : AV) (K : AV → XX) : forceX x K = K x := by cases x <;> rfl
noncomputable def onBoolR (x : AV) : (Bool → RR) → RR := AV.rec (motive_1 := fun _ => (Bool → RR) → RR) (motive_2 := fun _ => Unit) (fun _ => none) (fun _ => none) (fun _ _ _ => none) (fun b K => K b) (fun _ _ => none) (fun _ => none) (fun _ _ _ => none) (fun _ => none) (fun _ _ _ _ _ => none) (fun _ _ _ _ _ => none) (fun _ => none) (fun _ _ => none) (fun _ => none) (fun _ _ _ _ => none) (fun _ _ _ _ => none) (fun _ => none) (fun _ _ _ _ => none) (fun _ _ _ => none) (fun _ _ _ => none) (fun _ _ => none) (fun _ _ _ _ _ => none) (fun _ _ => none) (fun _ _ _ _ => none) (fun _ _ => none) (fun _ => none) () (fun _ _ _ _ => ()) x
theorem onBoolR_eq (x : AV) (K : Bool → RR) : onBoolR x K = match x with | .bool b => K b | _ => none := by cases x <;> rfl
noncomputable def onFnR (x : AV) : (Nat → List AV → RR) → (Nat → List AV → RR) → RR := AV.rec (motive_1 := fun _ => (Nat → List AV → RR) → (Nat → List AV → RR) → RR) (motive_2 := fun _ => Unit) (fun _ _ => none) (fun _ _ => none) (fun _ _ _ _ => none) (fun _ _ _ => none) (fun _ _ _ => none) (fun _ _ => none) (fun _ _ _ _ => none) (fun _ _ => none) (fun _ _ _ _ _ _ => none) (fun _ _ _ _ _ _ => none) (fun _ _ => none) (fun _ _ _ => none) (fun _ _ => none) (fun f cs _ A _ => A f cs) (fun f cs _ _ B => B f cs) (fun _ _ => none) (fun _ _ _ _ _ => none) (fun _ _ _ _ => none) (fun _ _ _ _ => none) (fun _ _ _ => none) (fun _ _ _ _ _ _ => none) (fun _ _ _ => none) (fun _ _ _ _ _ => none) (fun _ _ _ => none) (fun _ _ => none) () (fun _ _ _ _ => ()) x
theorem onFnR_eq (x : AV) (A : Nat → List AV → RR) (B : Nat → List AV → RR) : onFnR x A B = match x with | .fn f cs => A f cs | .fnm f cs => B f cs | _ => none := by cases x <;> rfl
noncomputable def onPanR (x : AV) : (Value → RR) → (AV → RR) → RR := AV.rec (motive_1 := fun _ => (Value → RR) → (AV → RR) → RR) (motive_2 := fun _ => Unit) (fun _ B => B .top) (fun _ B => B .undef) (fun k n _ B => B (.int k n)) (fun b _ B => B (.bool b)) (fun l _ B => B (.str l)) (fun _ B => B .nilp) (fun b o _ B => B (.ptr b o)) (fun _ B => B .nils) (fun b o n c _ B => B (.sl b o n c)) (fun b o n e _ B => B (.slu b o n e)) (fun _ B => B .nilm) (fun b _ B => B (.mapp b)) (fun _ B => B .nilfn) (fun f cs _ _ B => B (.fn f cs)) (fun f cs _ _ B => B (.fnm f cs)) (fun _ B => B .nili) (fun u v _ _ B => B (.ifc u v)) (fun cs _ _ B => B (.agg cs)) (fun cs _ _ B => B (.tup cs)) (fun w A _ => A w) (fun b k lo hi _ B => B (.symI b k lo hi)) (fun b _ B => B (.symS b)) (fun b lo hi _ B => B (.symT b lo hi)) (fun n _ B => B (.symZ n)) (fun _ B => B .sle) () (fun _ _ _ _ => ()) x
theorem onPanR_pan (w : Value) (A : Value → RR) (B : AV → RR) : onPanR (.pan w) A B = A w := rfl
theorem onPanR_ne {x : AV} (h : ∀ w, x ≠ .pan w) (A : Value → RR) (B : AV → RR) : onPanR x A B = B x := by cases x <;> first | rfl | exact absurd rfl (h _)
noncomputable def nilQ (x : AV) : Option AV := AV.rec (motive_1 := fun _ => Option AV) (motive_2 := fun _ => Unit) (none) (none) (fun _ _ => none) (fun _ => none) (fun _ => none) (none) (fun b o => some (.ptr b o)) (none) (fun _ _ _ _ => none) (fun _ _ _ _ => none) (none) (fun _ => none) (none) (fun f cs _ => some (.fn f cs)) (fun f cs _ => some (.fnm f cs)) (none) (fun _ _ _ => none) (fun _ _ => none) (fun _ _ => none) (fun _ => none) (fun _ _ _ _ => none) (fun _ => none) (fun _ _ _ => none) (fun _ => none) (none) () (fun _ _ _ _ => ()) x
theorem nilQ_eq (x : AV) : nilQ x  = match x with | .ptr b o => some (.ptr b o) | .fn f cs => some (.fn f cs) | .fnm f cs => some (.fnm f cs) | _ => none := by cases x <;> rfl
noncomputable def notQ (x : AV) : Option AV := AV.rec (motive_1 := fun _ => Option AV) (motive_2 := fun _ => Unit) (none) (none) (fun _ _ => none) (fun b => some (.bool (!b))) (fun _ => none) (none) (fun _ _ => none) (none) (fun _ _ _ _ => none) (fun _ _ _ _ => none) (none) (fun _ => none) (none) (fun _ _ _ => none) (fun _ _ _ => none) (none) (fun _ _ _ => none) (fun _ _ => none) (fun _ _ => none) (fun _ => none) (fun _ _ _ _ => none) (fun _ => none) (fun _ _ _ => none) (fun _ => none) (none) () (fun _ _ _ _ => ()) x
theorem notQ_eq (x : AV) : notQ x  = match x with | .bool b => some (.bool (!b)) | _ => none := by cases x <;> rfl
noncomputable def faQ (x : AV) : Nat → Option AV := AV.rec (motive_1 := fun _ => Nat → Option AV) (motive_2 := fun _ => Unit) (fun _ => none) (fun _ => none) (fun _ _ _ => none) (fun _ _ => none) (fun _ _ => none) (fun _ => none) (fun b o off => some (.ptr b (Nat.add o off))) (fun _ => none) (fun _ _ _ _ _ => none) (fun _ _ _ _ _ => none) (fun _ => none) (fun _ _ => none) (fun _ => none) (fun _ _ _ _ => none) (fun _ _ _ _ => none) (fun _ => none) (fun _ _ _ _ => none) (fun _ _ _ => none) (fun _ _ _ => none) (fun _ _ => none) (fun _ _ _ _ _ => none) (fun _ _ => none) (fun _ _ _ _ => none) (fun _ _ => none) (fun _ => none) () (fun _ _ _ _ => ()) x
theorem faQ_eq (x : AV) (off : Nat) : faQ x off = match x with | .ptr b o => some (.ptr b (Nat.add o off)) | _ => none := by cases x <;> rfl
noncomputable def natI (n : Int) : Nat → Option Nat := Int.rec (motive := fun _ => Nat → Option Nat) (fun m y => Bool.rec (motive := fun _ => Option Nat) none (some m) (Nat.ble m y)) (fun _ _ => none) n
noncomputable def natQ (x : AV) : Nat → Option Nat := AV.rec (motive_1 := fun _ => Nat → Option Nat) (motive_2 := fun _ => Unit) (fun _ => none) (fun _ => none) (fun _ n y => natI n y) (fun _ _ => none) (fun _ _ => none) (fun _ => none) (fun _ _ _ => none) (fun _ => none) (fun _ _ _ _ _ => none) (fun _ _ _ _ _ => none) (fun _ => none) (fun _ _ => none) (fun _ => none) (fun _ _ _ _ => none) (fun _ _ _ _ => none) (fun _ => none) (fun _ _ _ _ => none) (fun _ _ _ => none) (fun _ _ _ => none) (fun _ _ => none) (fun _ _ _ _ _ => none) (fun _ _ => none) (fun _ _ _ _ => none) (fun _ _ => none) (fun _ => none) () (fun _ _ _ _ => ()) x
theorem natQ_eq (x : AV) (y : Nat) : natQ x y = natA y x := by
  cases x <;> try rfl
  rename_i k n
  cases n with
  | ofNat m =>
    show Bool.rec (motive := fun _ => Option Nat) none (some m) (Nat.ble m y) = cond (Nat.ble m y) (some m) none
    cases Nat.ble m y <;> rfl
  | negSucc m => rfl
end Go.Proofs.YtambgppdjlhdaaaGreatDoor
