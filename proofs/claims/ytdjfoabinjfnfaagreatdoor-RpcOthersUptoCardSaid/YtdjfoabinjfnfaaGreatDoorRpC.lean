/-
  Messages: what an envelope says, as plain data; as they lie. The walk of rpc.asks.
-/
import Derived.Test.YtdjfoabinjfnfaaGreatDoorM24
import Derived.Test.YtdjfoabinjfnfaaGreatDoorM16
namespace Go.Proofs.YtdjfoabinjfnfaaGreatDoor
open Go.RowKit
structure Msg where
  kind : Int
  id : Jsn
  method : ByteArray
  params : Jsn
  result : Jsn
  code : Int
  text : ByteArray
def zeroM : Msg := ⟨0, zeroJ, ⟨#[]⟩, zeroJ, zeroJ, 0, ⟨#[]⟩⟩
def jvV (j : Jsn) (vn vl : Value) : Value := .agg #[.int .u8 j.kind, .string j.text, vn, vl]
def msgV (m : Msg) (i1 i2 p1 p2 r1 r2 : Value) : Value := .agg #[.int .u8 m.kind, .int .u8 m.id.kind, .string m.id.text, i1, i2, .string m.method, .int .u8 m.params.kind, .string m.params.text, p1, p2, .int .u8 m.result.kind, .string m.result.text, r1, r2, .int .i64 m.code, .string m.text]
def nilV : Value := .slice none 0 0
def zeroMV : Value := msgV zeroM nilV nilV nilV nilV nilV nilV
def jasks (id m p : Jsn) (hasid hasp : Bool) : Msg × Int :=
  if m.kind ≠ 5 ∨ (hasid = true ∧ jisid id = false) ∨ (hasp = true ∧ jispar p = false) then (zeroM, 73)
  else (⟨if hasid then 1 else 2, id, m.text, p, zeroJ, 0, ⟨#[]⟩⟩, 0)
def janswers (id r code text : Jsn) (hasid good bad hast : Bool) : Msg × Int :=
  if hasid = false ∨ good = bad then (zeroM, 73)
  else if good = true then (if jisid id = false then (zeroM, 73) else (⟨3, id, ⟨#[]⟩, zeroJ, r, 0, ⟨#[]⟩⟩, 0))
  else if hast = false ∨ (jwhole code).2 = false ∨ text.kind ≠ 5 ∨ (jisid id = false ∧ id.kind ≠ 1) then (zeroM, 73)
  else (⟨4, id, ⟨#[]⟩, zeroJ, zeroJ, (jwhole code).1, text.text⟩, 0)
def kVer : ByteArray := ⟨#[106, 115, 111, 110, 114, 112, 99]⟩
def kId : ByteArray := ⟨#[105, 100]⟩
def kMeth : ByteArray := ⟨#[109, 101, 116, 104, 111, 100]⟩
def kPar : ByteArray := ⟨#[112, 97, 114, 97, 109, 115]⟩
def kRes : ByteArray := ⟨#[114, 101, 115, 117, 108, 116]⟩
def kErr : ByteArray := ⟨#[101, 114, 114, 111, 114]⟩
def kCode : ByteArray := ⟨#[99, 111, 100, 101]⟩
def kMsg : ByteArray := ⟨#[109, 101, 115, 115, 97, 103, 101]⟩
def jgd (j : Jsn) (s : ByteArray) : Jsn := (jget j s).getD zeroJ
def jgs (j : Jsn) (s : ByteArray) : Bool := (jget j s).isSome
def jread (Own : List UInt8 → List UInt8 × Int) (Val : List UInt8 → Bool) (j : Jsn) : Msg × Int :=
  if jcheck Own Val j ≠ 0 then (zeroM, jcheck Own Val j)
  else if jgs j kVer = false ∨ (jgd j kVer).kind ≠ 5 ∨ (jgd j kVer).text ≠ ⟨#[50, 46, 48]⟩ then (zeroM, 73)
  else if jgs j kMeth = true then jasks (jgd j kId) (jgd j kMeth) (jgd j kPar) (jgs j kId) (jgs j kPar)
  else janswers (jgd j kId) (jgd j kRes) (jgd (jgd j kErr) kCode) (jgd (jgd j kErr) kMsg) (jgs j kId) (jgs j kRes) (jgs j kErr) (jgs (jgd j kErr) kMsg)
theorem jgd_bulk (j : Jsn) (s : ByteArray) : jbulk (jgd j s) ≤ jbulk j := by
  unfold jgd
  rcases h : jget j s with _ | x
  · have := jbulk_pos j
    have h0 : jbulk zeroJ = 1 := by rw [zeroJ, jbulk_eq]; rfl
    simp only [Option.getD_none]; omega
  · obtain ⟨k, t, n, l⟩ := j
    unfold jget at h
    split at h
    · split at h
      · cases h
      · have := jbulks_mem (List.mem_of_getElem? h)
        rw [jbulk_eq]; dsimp only [Option.getD_some] at this ⊢; omega
    · cases h
theorem Cel.c16 {w : World} {b : Nat} {t : TypeId} {x0 x1 x2 x3 x4 x5 x6 x7 x8 x9 x10 x11 x12 x13 x14 x15 : Value} (h : Cel w b t #[x0, x1, x2, x3, x4, x5, x6, x7, x8, x9, x10, x11, x12, x13, x14, x15]) :
    w.cell? ⟨b, 0, none⟩ = some x0 ∧ w.cell? ⟨b, 1, none⟩ = some x1 ∧ w.cell? ⟨b, 2, none⟩ = some x2 ∧ w.cell? ⟨b, 3, none⟩ = some x3 ∧ w.cell? ⟨b, 4, none⟩ = some x4 ∧ w.cell? ⟨b, 5, none⟩ = some x5 ∧ w.cell? ⟨b, 6, none⟩ = some x6 ∧ w.cell? ⟨b, 7, none⟩ = some x7 ∧ w.cell? ⟨b, 8, none⟩ = some x8 ∧ w.cell? ⟨b, 9, none⟩ = some x9 ∧ w.cell? ⟨b, 10, none⟩ = some x10 ∧ w.cell? ⟨b, 11, none⟩ = some x11 ∧ w.cell? ⟨b, 12, none⟩ = some x12 ∧ w.cell? ⟨b, 13, none⟩ = some x13 ∧ w.cell? ⟨b, 14, none⟩ = some x14 ∧ w.cell? ⟨b, 15, none⟩ = some x15 :=
  ⟨h.cell 0, h.cell 1, h.cell 2, h.cell 3, h.cell 4, h.cell 5, h.cell 6, h.cell 7, h.cell 8, h.cell 9, h.cell 10, h.cell 11, h.cell 12, h.cell 13, h.cell 14, h.cell 15⟩
theorem Cel.f16 {w : World} {b : Nat} {t : TypeId} {cs : Array Value} (h : Cel w b t cs) :
    w.frozen? ⟨b, 0, none⟩ = false ∧ w.frozen? ⟨b, 1, none⟩ = false ∧ w.frozen? ⟨b, 2, none⟩ = false ∧ w.frozen? ⟨b, 3, none⟩ = false ∧ w.frozen? ⟨b, 4, none⟩ = false ∧ w.frozen? ⟨b, 5, none⟩ = false ∧ w.frozen? ⟨b, 6, none⟩ = false ∧ w.frozen? ⟨b, 7, none⟩ = false ∧ w.frozen? ⟨b, 8, none⟩ = false ∧ w.frozen? ⟨b, 9, none⟩ = false ∧ w.frozen? ⟨b, 10, none⟩ = false ∧ w.frozen? ⟨b, 11, none⟩ = false ∧ w.frozen? ⟨b, 12, none⟩ = false ∧ w.frozen? ⟨b, 13, none⟩ = false ∧ w.frozen? ⟨b, 14, none⟩ = false ∧ w.frozen? ⟨b, 15, none⟩ = false :=
  ⟨h.froz 0, h.froz 1, h.froz 2, h.froz 3, h.froz 4, h.froz 5, h.froz 6, h.froz 7, h.froz 8, h.froz 9, h.froz 10, h.froz 11, h.froz 12, h.froz 13, h.froz 14, h.froz 15⟩
theorem Cel.c4 {w : World} {b : Nat} {t : TypeId} {x0 x1 x2 x3 : Value} (h : Cel w b t #[x0, x1, x2, x3]) :
    w.cell? ⟨b, 0, none⟩ = some x0 ∧ w.cell? ⟨b, 1, none⟩ = some x1 ∧ w.cell? ⟨b, 2, none⟩ = some x2 ∧ w.cell? ⟨b, 3, none⟩ = some x3 :=
  ⟨h.cell 0, h.cell 1, h.cell 2, h.cell 3⟩
theorem Cel.f4 {w : World} {b : Nat} {t : TypeId} {cs : Array Value} (h : Cel w b t cs) :
    w.frozen? ⟨b, 0, none⟩ = false ∧ w.frozen? ⟨b, 1, none⟩ = false ∧ w.frozen? ⟨b, 2, none⟩ = false ∧ w.frozen? ⟨b, 3, none⟩ = false :=
  ⟨h.froz 0, h.froz 1, h.froz 2, h.froz 3⟩
def AsksEnd (id m p : Jsn) (i1 i2 : Value) (hasid hasp : Bool) (w : World) (e : Ending) (w' : World) : Prop :=
  ∃ x1 x2 p1 p2, e = .returned (.tuple #[msgV (jasks id m p hasid hasp).1 x1 x2 p1 p2 nilV nilV, .int .i64 (jasks id m p hasid hasp).2]) ∧
    (((jasks id m p hasid hasp).1.id = id ∧ x1 = i1 ∧ x2 = i2) ∨ ((jasks id m p hasid hasp).1.id = zeroJ ∧ x1 = nilV ∧ x2 = nilV)) ∧
    OwnJ w' 9 25 (jasks id m p hasid hasp).1.params w.heap.size w'.heap.size p1 p2 ∧ (jasks id m p hasid hasp).1.result = zeroJ ∧ Below w.heap.size w w'
set_option maxRecDepth 20000 in
set_option maxHeartbeats 1500000 in
theorem rpcAsks_any (j id m : Jsn) (X Y Z : Nat → Prop) (w : World) (jn jl i1 i2 m1 m2 : Value) (hasid : Bool) (hV : JV w X j jn jl) (hI : JV w Y id i1 i2) (hM : JV w Z m m1 m2) (hbj : jbulk j ≤ 1000000) (hbi : jbulk id ≤ 1000000) :
    Calls Tryz.prog 87 #[msgV ⟨0, id, ⟨#[]⟩, zeroJ, zeroJ, 0, ⟨#[]⟩⟩ i1 i2 nilV nilV nilV nilV, jvV j jn jl, jvV m m1 m2, .bool hasid] w (AsksEnd id m (jgd j kPar) i1 i2 hasid (jgs j kPar) w) := by
  have hP := Lib.hid (fun (W : World) (hB : Below w.heap.size w W) => jsnGet_any j X W _ _ kPar (hV.later hB) (by omega))
  have hid := Lib.hid (fun (W : World) (hB : Below w.heap.size w W) => rpcId_any id Y W _ _ (hI.later hB) hbi)
  have hbp := jgd_bulk j kPar
  unfold jgd jgs at *
  obtain ⟨G, hGe⟩ : ∃ G, jget j kPar = G := ⟨_, rfl⟩
  rw [hGe] at hP hbp ⊢
  unfold GetJEnd at hP
  obtain ⟨p, hp⟩ : ∃ p, G.getD zeroJ = p := ⟨_, rfl⟩
  obtain ⟨hasp, hhp⟩ : ∃ b, G.isSome = b := ⟨_, rfl⟩
  rw [hp, hhp] at hP
  rw [hp] at hbp
  rw [hp, hhp]
  clear hp hhp hGe G
  obtain ⟨A1, n1, c1, A2, n2, c2, rfl, rfl⟩ := hV.forms
  obtain ⟨B1, d1, e1, B2, d2, e2, rfl, rfl⟩ := hI.forms
  obtain ⟨M1, f1, g1, M2, f2, g2, rfl, rfl⟩ := hM.forms
  clear hV hI hM
  unfold AsksEnd
  obtain ⟨R, hR⟩ : ∃ R, jasks id m p hasid hasp = R := ⟨_, rfl⟩
  rw [hR]
  unfold jasks at hR
  replace hR := Lib.hid hR
  unfold msgV jvV nilV zeroJ
  go_enter Tryz.func87, Tryz.ntmps87
  go_wp2_with fail
  go_region
  cases hasid
  · go_wp2_with fail
    refine (hP.out _ (by (repeat (first | exact Below.refl _ _ | assumption | refine bel_drew ?_ | (refine Below.alloc ?_ (by first | omega | (simp; omega) | (simp; done)) _) | (refine Below.setCell ?_ (by first | omega | (simp; omega) | (simp; done)) _))))).mono ?_
    rintro e w1 ⟨pn, pl, rfl, hO, hB1⟩
    obtain ⟨P1, h1, k1, P2, h2, k2, rfl, rfl⟩ := hO.forms
    have hCm := (((((Cel.fresh w _ _).alloc _).alloc _).alloc _).drew).below hB1 (by simp; omega)
    have hC2 := (((Cel.fresh _ _ _).alloc _).drew).below hB1 (by simp)
    have hC3 := ((Cel.fresh _ _ _).drew).below hB1 (by simp)
    simp only [World.size_alloc] at hC2 hC3
    have hz1 := hB1.size
    simp at hz1
    have hB1' : Below w.heap.size w w1 := Below.trans (by (repeat (first | exact Below.refl _ _ | assumption | refine bel_drew ?_ | (refine Below.alloc ?_ (by first | omega | (simp; omega) | (simp; done)) _) | (refine Below.setCell ?_ (by first | omega | (simp; omega) | (simp; done)) _)))) (hB1.mono (by simp; omega))
    have hO2 := OwnJ.keep (w' := w1) p hO (lo' := w.heap.size + 1 + 1 + 1 + 1) (hi' := w1.heap.size) (fun _ _ _ => rfl) (by simp) (Nat.le_refl _)
    clear hP hid hO hB1
    have q0 := hC2.c4.1
    have l2 : w.heap.size + 1 + 1 < w1.heap.size := by omega
    have l3 : w.heap.size + 1 + 1 + 1 < w1.heap.size := by omega
    have l0 : w.heap.size < w1.heap.size := by omega
    have ne2 : w.heap.size + 1 + 1 ≠ w1.heap.size := by omega
    have ne3 : w.heap.size + 1 + 1 + 1 ≠ w1.heap.size := by omega
    have ne0 : w.heap.size ≠ w1.heap.size := by omega
    by_cases hmk : m.kind = 5
    · have hmb : (m.kind != 5) = false := by simp [hmk]
      cases hasp
      · replace hO2 := Lib.hid hO2
        replace hB1' := Lib.hid hB1'
        replace hCm := Lib.hid hCm
        replace hC3 := Lib.hid hC3
        replace hmk := Lib.hid hmk
        clear hC2
        obtain ⟨dm, hdm⟩ := msgDesc
        replace hdm := Lib.hid hdm
        go_wp2_with (first
          | (refine wpList_store_cel rfl 25 (.tmp 45) (.tmp 44) (by rfl) w.heap.size 6 #[.int .u8 p.kind, .string p.text, .slice P1 h1 k1, .slice P2 h2 k2] _ #[.int .u8 2, .int .u8 id.kind, .string id.text, .slice B1 d1 e1, .slice B2 d2 e2, .string m.text, .int .u8 p.kind, .string p.text, .slice P1 h1 k1, .slice P2 h2 k2, .int .u8 0, .string ⟨#[]⟩, .slice none 0 0, .slice none 0 0, .int .i64 0, .string ⟨#[]⟩] 73 (by rfl) (by rfl) (hCm.out.alloc _) (Nat.le_of_ble_eq_true rfl) rfl jsnInfo (by first | (simp; done) | (simp [Value.oneCell']; done)) ?_; intro w2 hD hA2; have hE := hA2.cel (hC3.out.alloc _) (by omega); replace hE := Lib.hid hE; replace hD := Lib.hid hD; replace hA2 := Lib.hid hA2)
          | (refine wpList_load_all rfl 73 (.tmp 4) (by rfl) w.heap.size _ 73 dm (by rfl) hD.out hdm.out.1 hdm.out.2 msgInfo ?_)
          | (refine wpList_store_cel rfl 73 (.tmp 8) (.tmp 46) (by rfl) (w.heap.size + 1 + 1 + 1) 0 #[.int .u8 2, .int .u8 id.kind, .string id.text, .slice B1 d1 e1, .slice B2 d2 e2, .string m.text, .int .u8 p.kind, .string p.text, .slice P1 h1 k1, .slice P2 h2 k2, .int .u8 0, .string ⟨#[]⟩, .slice none 0 0, .slice none 0 0, .int .i64 0, .string ⟨#[]⟩] _ #[.int .u8 2, .int .u8 id.kind, .string id.text, .slice B1 d1 e1, .slice B2 d2 e2, .string m.text, .int .u8 p.kind, .string p.text, .slice P1 h1 k1, .slice P2 h2 k2, .int .u8 0, .string ⟨#[]⟩, .slice none 0 0, .slice none 0 0, .int .i64 0, .string ⟨#[]⟩] 73 (by rfl) (by rfl) hE.out (Nat.le_refl 16) (putA_whole _ _ rfl) msgInfo (by first | (simp; done) | (simp [Value.oneCell']; done)) ?_; intro w3 hF hA3; replace hF := Lib.hid hF; replace hA3 := Lib.hid hA3))
        refine bodyPost_ret (results_cel2 rfl _ _ _ _ _ dm rfl hF.out hdm.out.1 hdm.out.2 msgInfo) rfl ?_
        have hRe : R = (⟨2, id, m.text, p, zeroJ, 0, ⟨#[]⟩⟩, 0) := by
          rw [← hR.out, if_neg (by simp [hmk.out])]
          rfl
        have a2 := hA2.out
        have a3 := hA3.out
        have z2 := a2.2.2
        have z3 := a3.2.2
        simp only [World.size_alloc] at z2
        subst hRe
        refine ⟨.slice B1 d1 e1, .slice B2 d2 e2, .slice P1 h1 k1, .slice P2 h2 k2, rfl, Or.inl ⟨rfl, rfl, rfl⟩, ?_, rfl, ?_⟩
        · exact OwnJ.keep (w' := w3) p hO2.out (fun b h1 h2 => ((a3.2.1 b (by omega)).trans (a2.2.1 b (by omega))).trans (Below.heap_alloc _ _ _ h2)) (by omega) (by omega)
        · exact ((hB1'.out.alloc (by omega) _).trans (a2.1 _ (by omega))).trans (a3.1 _ (by omega))
      · replace hB1' := Lib.hid hB1'
        replace hmk := Lib.hid hmk
        have hJp := Lib.hid (OwnJ.jv p hO2)
        replace hO2 := Lib.hid hO2
        replace hCm := Lib.hid hCm
        replace hC3 := Lib.hid hC3
        clear hC2
        obtain ⟨dm, hdm⟩ := msgDesc
        replace hdm := Lib.hid hdm
        go_wp2_with fail
        refine (rpcParams_any p _ _ _ _ (hJp.out.alloc _)).mono ?_
        rintro e wp ⟨rfl, hB2⟩
        have hCm2 := Lib.hid ((hCm.out.alloc _).below hB2 (by simp; omega))
        have hC32 := Lib.hid ((hC3.out.alloc _).below hB2 (by simp; omega))
        obtain ⟨v0, v1, v2, v3⟩ := ((Cel.fresh w1 _ _).below hB2 (by simp)).c4
        have hB2' := Lib.hid ((hB1'.out.alloc (by omega) (.cells #[.int .u8 p.kind, .string p.text, .slice P1 h1 k1, .slice P2 h2 k2] 25)).trans (hB2.mono (by simp; omega)))
        have hO3 := OwnJ.keep (w' := wp) p hO2.out (fun b h1 h2 => (hB2.block b (by simp; omega)).trans (Below.heap_alloc _ _ _ h2)) (Nat.le_refl _) (Nat.le_refl _)
        replace hO3 := Lib.hid hO3
        have zp := hB2.size
        simp only [World.size_alloc] at zp
        clear hJp hB2 hB1' hCm hC3 hO2
        obtain ⟨b, hb⟩ : ∃ b, jispar p = b := ⟨_, rfl⟩
        rw [hb]
        cases b
        · replace hb := Lib.hid hb
          go_wp2_with (refine wpList_store_cel rfl 73 (.tmp 8) (.tmp 43) (by rfl) (w.heap.size + 1 + 1 + 1) 0 #[.int .u8 0, .int .u8 0, .string ⟨#[]⟩, .slice none 0 0, .slice none 0 0, .string ⟨#[]⟩, .int .u8 0, .string ⟨#[]⟩, .slice none 0 0, .slice none 0 0, .int .u8 0, .string ⟨#[]⟩, .slice none 0 0, .slice none 0 0, .int .i64 0, .string ⟨#[]⟩] _ #[.int .u8 0, .int .u8 0, .string ⟨#[]⟩, .slice none 0 0, .slice none 0 0, .string ⟨#[]⟩, .int .u8 0, .string ⟨#[]⟩, .slice none 0 0, .slice none 0 0, .int .u8 0, .string ⟨#[]⟩, .slice none 0 0, .slice none 0 0, .int .i64 0, .string ⟨#[]⟩] 73 (by rfl) (by rfl) hC32.out (Nat.le_refl 16) (putA_whole _ _ rfl) msgInfo (by first | (simp; done) | (simp [Value.oneCell']; done)) ?_; intro w3 hF hA3; replace hF := Lib.hid hF; replace hA3 := Lib.hid hA3)
          refine bodyPost_ret (results_cel2 rfl _ _ _ _ _ dm rfl hF.out hdm.out.1 hdm.out.2 msgInfo) rfl ?_
          have hRe : R = (zeroM, 73) := by rw [← hR.out, if_pos (Or.inr (Or.inr ⟨by first | trivial | rfl, hb.out⟩))]
          have a3 := hA3.out
          subst hRe
          exact ⟨nilV, nilV, nilV, nilV, rfl, Or.inr ⟨rfl, rfl, rfl⟩, zero_own _ _ _ _ _, rfl, hB2'.out.trans (a3.1 _ (by omega))⟩
        · replace hb := Lib.hid hb
          go_wp2_with (first
            | (refine wpList_store_cel rfl 25 (.tmp 45) (.tmp 44) (by rfl) w.heap.size 6 #[.int .u8 p.kind, .string p.text, .slice P1 h1 k1, .slice P2 h2 k2] _ #[.int .u8 2, .int .u8 id.kind, .string id.text, .slice B1 d1 e1, .slice B2 d2 e2, .string m.text, .int .u8 p.kind, .string p.text, .slice P1 h1 k1, .slice P2 h2 k2, .int .u8 0, .string ⟨#[]⟩, .slice none 0 0, .slice none 0 0, .int .i64 0, .string ⟨#[]⟩] 73 (by rfl) (by rfl) hCm2.out (Nat.le_of_ble_eq_true rfl) rfl jsnInfo (by first | (simp; done) | (simp [Value.oneCell']; done)) ?_; intro w2 hD hA2; have hE := hA2.cel hC32.out (by omega); replace hE := Lib.hid hE; replace hD := Lib.hid hD; replace hA2 := Lib.hid hA2)
            | (refine wpList_load_all rfl 73 (.tmp 4) (by rfl) w.heap.size _ 73 dm (by rfl) hD.out hdm.out.1 hdm.out.2 msgInfo ?_)
            | (refine wpList_store_cel rfl 73 (.tmp 8) (.tmp 46) (by rfl) (w.heap.size + 1 + 1 + 1) 0 #[.int .u8 2, .int .u8 id.kind, .string id.text, .slice B1 d1 e1, .slice B2 d2 e2, .string m.text, .int .u8 p.kind, .string p.text, .slice P1 h1 k1, .slice P2 h2 k2, .int .u8 0, .string ⟨#[]⟩, .slice none 0 0, .slice none 0 0, .int .i64 0, .string ⟨#[]⟩] _ #[.int .u8 2, .int .u8 id.kind, .string id.text, .slice B1 d1 e1, .slice B2 d2 e2, .string m.text, .int .u8 p.kind, .string p.text, .slice P1 h1 k1, .slice P2 h2 k2, .int .u8 0, .string ⟨#[]⟩, .slice none 0 0, .slice none 0 0, .int .i64 0, .string ⟨#[]⟩] 73 (by rfl) (by rfl) hE.out (Nat.le_refl 16) (putA_whole _ _ rfl) msgInfo (by first | (simp; done) | (simp [Value.oneCell']; done)) ?_; intro w3 hF hA3; replace hF := Lib.hid hF; replace hA3 := Lib.hid hA3))
          refine bodyPost_ret (results_cel2 rfl _ _ _ _ _ dm rfl hF.out hdm.out.1 hdm.out.2 msgInfo) rfl ?_
          have hRe : R = (⟨2, id, m.text, p, zeroJ, 0, ⟨#[]⟩⟩, 0) := by
            rw [← hR.out, if_neg (by simp [hmk.out, hb.out])]
            rfl
          have a2 := hA2.out
          have a3 := hA3.out
          have z2 := a2.2.2
          have z3 := a3.2.2
          subst hRe
          refine ⟨.slice B1 d1 e1, .slice B2 d2 e2, .slice P1 h1 k1, .slice P2 h2 k2, rfl, Or.inl ⟨rfl, rfl, rfl⟩, ?_, rfl, ?_⟩
          · exact OwnJ.keep (w' := w3) p hO3.out (fun b h1 h2 => (a3.2.1 b (by omega)).trans (a2.2.1 b (by omega))) (by omega) (by omega)
          · exact (hB2'.out.trans (a2.1 _ (by omega))).trans (a3.1 _ (by omega))
    · have hmb : (m.kind != 5) = true := by simp [hmk]
      replace hO2 := Lib.hid hO2
      replace hB1' := Lib.hid hB1'
      replace hC3 := Lib.hid hC3
      replace hmk := Lib.hid hmk
      clear hC2 hCm
      obtain ⟨dm, hdm⟩ := msgDesc
      replace hdm := Lib.hid hdm
      go_wp2_with (refine wpList_store_cel rfl 73 (.tmp 8) (.tmp 43) (by rfl) (w.heap.size + 1 + 1 + 1) 0 #[.int .u8 0, .int .u8 0, .string ⟨#[]⟩, .slice none 0 0, .slice none 0 0, .string ⟨#[]⟩, .int .u8 0, .string ⟨#[]⟩, .slice none 0 0, .slice none 0 0, .int .u8 0, .string ⟨#[]⟩, .slice none 0 0, .slice none 0 0, .int .i64 0, .string ⟨#[]⟩] _ #[.int .u8 0, .int .u8 0, .string ⟨#[]⟩, .slice none 0 0, .slice none 0 0, .string ⟨#[]⟩, .int .u8 0, .string ⟨#[]⟩, .slice none 0 0, .slice none 0 0, .int .u8 0, .string ⟨#[]⟩, .slice none 0 0, .slice none 0 0, .int .i64 0, .string ⟨#[]⟩] 73 (by rfl) (by rfl) (hC3.out.alloc _) (Nat.le_refl 16) (putA_whole _ _ rfl) msgInfo (by first | (simp; done) | (simp [Value.oneCell']; done)) ?_; intro w3 hF hA3; replace hF := Lib.hid hF; replace hA3 := Lib.hid hA3)
      refine bodyPost_ret (results_cel2 rfl _ _ _ _ _ dm rfl hF.out hdm.out.1 hdm.out.2 msgInfo) rfl ?_
      have hRe : R = (zeroM, 73) := by rw [← hR.out, if_pos (Or.inl hmk.out)]
      have a3 := hA3.out
      subst hRe
      exact ⟨nilV, nilV, nilV, nilV, rfl, Or.inr ⟨rfl, rfl, rfl⟩, zero_own _ _ _ _ _, rfl, (hB1'.out.alloc (by omega) _).trans (a3.1 _ (by omega))⟩
  · go_wp2_with fail
    refine (hP.out _ (by (repeat (first | exact Below.refl _ _ | assumption | refine bel_drew ?_ | (refine Below.alloc ?_ (by first | omega | (simp; omega) | (simp; done)) _) | (refine Below.setCell ?_ (by first | omega | (simp; omega) | (simp; done)) _))))).mono ?_
    rintro e w1 ⟨pn, pl, rfl, hO, hB1⟩
    obtain ⟨P1, h1, k1, P2, h2, k2, rfl, rfl⟩ := hO.forms
    have hCm := (((((Cel.fresh w _ _).alloc _).alloc _).alloc _).drew).below hB1 (by simp; omega)
    have hC2 := (((Cel.fresh _ _ _).alloc _).drew).below hB1 (by simp)
    have hC3 := ((Cel.fresh _ _ _).drew).below hB1 (by simp)
    simp only [World.size_alloc] at hC2 hC3
    have hz1 := hB1.size
    simp at hz1
    have hB1' : Below w.heap.size w w1 := Below.trans (by (repeat (first | exact Below.refl _ _ | assumption | refine bel_drew ?_ | (refine Below.alloc ?_ (by first | omega | (simp; omega) | (simp; done)) _) | (refine Below.setCell ?_ (by first | omega | (simp; omega) | (simp; done)) _)))) (hB1.mono (by simp; omega))
    have hO2 := OwnJ.keep (w' := w1) p hO (lo' := w.heap.size + 1 + 1 + 1 + 1) (hi' := w1.heap.size) (fun _ _ _ => rfl) (by simp) (Nat.le_refl _)
    clear hP hO hB1
    have q0 := hC2.c4.1
    have l2 : w.heap.size + 1 + 1 < w1.heap.size := by omega
    have l3 : w.heap.size + 1 + 1 + 1 < w1.heap.size := by omega
    have l0 : w.heap.size < w1.heap.size := by omega
    have ne2 : w.heap.size + 1 + 1 ≠ w1.heap.size := by omega
    have ne3 : w.heap.size + 1 + 1 + 1 ≠ w1.heap.size := by omega
    have ne0 : w.heap.size ≠ w1.heap.size := by omega
    obtain ⟨dm, hdm⟩ := msgDesc
    replace hdm := Lib.hid hdm
    replace hO2 := Lib.hid hO2
    replace hB1' := Lib.hid hB1'
    by_cases hmk : m.kind = 5
    · have hmb : (m.kind != 5) = false := by simp [hmk]
      replace hmk := Lib.hid hmk
      obtain ⟨_, m1, m2, m3, m4, _⟩ := hCm.c16
      replace hCm := Lib.hid hCm
      replace hC3 := Lib.hid hC3
      clear hC2
      go_wp2_with fail
      refine (hid.out _ (hB1'.out.alloc (by omega) _)).mono ?_
      rintro e wi ⟨rfl, hBi⟩
      have hCmi := Lib.hid ((hCm.out.alloc _).below hBi (by simp; omega))
      have hC3i := Lib.hid ((hC3.out.alloc _).below hBi (by simp; omega))
      have hPi := Lib.hid ((Cel.fresh w1 _ _).below hBi (by simp))
      obtain ⟨v0, v1, v2, v3⟩ := hPi.out.c4
      have hBi' := Lib.hid ((hB1'.out.alloc (by omega) (.cells #[.int .u8 p.kind, .string p.text, .slice P1 h1 k1, .slice P2 h2 k2] 25)).trans (hBi.mono (by simp; omega)))
      have hOi := OwnJ.keep (w' := wi) p hO2.out (fun b h1 h2 => (hBi.block b (by simp; omega)).trans (Below.heap_alloc _ _ _ h2)) (Nat.le_refl _) (Nat.le_refl _)
      replace hOi := Lib.hid hOi
      have zi := hBi.size
      simp only [World.size_alloc] at zi
      clear hBi hB1' hCm hC3 hO2 hid m1 m2 m3 m4
      obtain ⟨c, hc⟩ : ∃ c, jisid id = c := ⟨_, rfl⟩
      rw [hc]
      cases c
      · replace hc := Lib.hid hc
        go_wp2_with (refine wpList_store_cel rfl 73 (.tmp 8) (.tmp 43) (by rfl) (w.heap.size + 1 + 1 + 1) 0 #[.int .u8 0, .int .u8 0, .string ⟨#[]⟩, .slice none 0 0, .slice none 0 0, .string ⟨#[]⟩, .int .u8 0, .string ⟨#[]⟩, .slice none 0 0, .slice none 0 0, .int .u8 0, .string ⟨#[]⟩, .slice none 0 0, .slice none 0 0, .int .i64 0, .string ⟨#[]⟩] _ #[.int .u8 0, .int .u8 0, .string ⟨#[]⟩, .slice none 0 0, .slice none 0 0, .string ⟨#[]⟩, .int .u8 0, .string ⟨#[]⟩, .slice none 0 0, .slice none 0 0, .int .u8 0, .string ⟨#[]⟩, .slice none 0 0, .slice none 0 0, .int .i64 0, .string ⟨#[]⟩] 73 (by rfl) (by rfl) hC3i.out (Nat.le_refl 16) (putA_whole _ _ rfl) msgInfo (by first | (simp; done) | (simp [Value.oneCell']; done)) ?_; intro w3 hF hA3; replace hF := Lib.hid hF; replace hA3 := Lib.hid hA3)
        refine bodyPost_ret (results_cel2 rfl _ _ _ _ _ dm rfl hF.out hdm.out.1 hdm.out.2 msgInfo) rfl ?_
        have hRe : R = (zeroM, 73) := by rw [← hR.out, if_pos (Or.inr (Or.inl ⟨by first | trivial | rfl, hc.out⟩))]
        have a3 := hA3.out
        subst hRe
        exact ⟨nilV, nilV, nilV, nilV, rfl, Or.inr ⟨rfl, rfl, rfl⟩, zero_own _ _ _ _ _, rfl, hBi'.out.trans (a3.1 _ (by omega))⟩
      · replace hc := Lib.hid hc
        cases hasp
        · go_wp2_with (first
            | (refine wpList_store_cel rfl 25 (.tmp 45) (.tmp 44) (by rfl) w.heap.size 6 #[.int .u8 p.kind, .string p.text, .slice P1 h1 k1, .slice P2 h2 k2] _ #[.int .u8 1, .int .u8 id.kind, .string id.text, .slice B1 d1 e1, .slice B2 d2 e2, .string m.text, .int .u8 p.kind, .string p.text, .slice P1 h1 k1, .slice P2 h2 k2, .int .u8 0, .string ⟨#[]⟩, .slice none 0 0, .slice none 0 0, .int .i64 0, .string ⟨#[]⟩] 73 (by rfl) (by rfl) hCmi.out (Nat.le_of_ble_eq_true rfl) rfl jsnInfo (by first | (simp; done) | (simp [Value.oneCell']; done)) ?_; intro w2 hD hA2; have hE := hA2.cel hC3i.out (by omega); replace hE := Lib.hid hE; replace hD := Lib.hid hD; replace hA2 := Lib.hid hA2)
            | (refine wpList_load_all rfl 73 (.tmp 4) (by rfl) w.heap.size _ 73 dm (by rfl) hD.out hdm.out.1 hdm.out.2 msgInfo ?_)
            | (refine wpList_store_cel rfl 73 (.tmp 8) (.tmp 46) (by rfl) (w.heap.size + 1 + 1 + 1) 0 #[.int .u8 1, .int .u8 id.kind, .string id.text, .slice B1 d1 e1, .slice B2 d2 e2, .string m.text, .int .u8 p.kind, .string p.text, .slice P1 h1 k1, .slice P2 h2 k2, .int .u8 0, .string ⟨#[]⟩, .slice none 0 0, .slice none 0 0, .int .i64 0, .string ⟨#[]⟩] _ #[.int .u8 1, .int .u8 id.kind, .string id.text, .slice B1 d1 e1, .slice B2 d2 e2, .string m.text, .int .u8 p.kind, .string p.text, .slice P1 h1 k1, .slice P2 h2 k2, .int .u8 0, .string ⟨#[]⟩, .slice none 0 0, .slice none 0 0, .int .i64 0, .string ⟨#[]⟩] 73 (by rfl) (by rfl) hE.out (Nat.le_refl 16) (putA_whole _ _ rfl) msgInfo (by first | (simp; done) | (simp [Value.oneCell']; done)) ?_; intro w3 hF hA3; replace hF := Lib.hid hF; replace hA3 := Lib.hid hA3))
          refine bodyPost_ret (results_cel2 rfl _ _ _ _ _ dm rfl hF.out hdm.out.1 hdm.out.2 msgInfo) rfl ?_
          have hRe : R = (⟨1, id, m.text, p, zeroJ, 0, ⟨#[]⟩⟩, 0) := by
            rw [← hR.out, if_neg (by simp [hmk.out, hc.out])]
            rfl
          have a2 := hA2.out
          have a3 := hA3.out
          have z2 := a2.2.2
          have z3 := a3.2.2
          subst hRe
          refine ⟨.slice B1 d1 e1, .slice B2 d2 e2, .slice P1 h1 k1, .slice P2 h2 k2, rfl, Or.inl ⟨rfl, rfl, rfl⟩, ?_, rfl, ?_⟩
          · exact OwnJ.keep (w' := w3) p hOi.out (fun b h1 h2 => (a3.2.1 b (by omega)).trans (a2.2.1 b (by omega))) (by omega) (by omega)
          · exact (hBi'.out.trans (a2.1 _ (by omega))).trans (a3.1 _ (by omega))
        · go_wp2_with fail
          refine (rpcParams_any p _ _ _ _ (OwnJ.jv p hOi.out)).mono ?_
          rintro e wp ⟨rfl, hB2⟩
          have hCm2 := Lib.hid (hCmi.out.below hB2 (by omega))
          have hC32 := Lib.hid (hC3i.out.below hB2 (by omega))
          clear v0 v1 v2 v3
          obtain ⟨v0, v1, v2, v3⟩ := (hPi.out.below hB2 (by omega)).c4
          have hB2' := Lib.hid (hBi'.out.trans (hB2.mono (by omega)))
          have hO3 := OwnJ.keep (w' := wp) p hOi.out (fun b h1 h2 => hB2.block b (by omega)) (Nat.le_refl _) (Nat.le_refl _)
          replace hO3 := Lib.hid hO3
          have zp := hB2.size
          clear hB2 hBi' hCmi hC3i hOi hPi
          obtain ⟨b, hb⟩ : ∃ b, jispar p = b := ⟨_, rfl⟩
          rw [hb]
          cases b
          · replace hb := Lib.hid hb
            go_wp2_with (refine wpList_store_cel rfl 73 (.tmp 8) (.tmp 43) (by rfl) (w.heap.size + 1 + 1 + 1) 0 #[.int .u8 0, .int .u8 0, .string ⟨#[]⟩, .slice none 0 0, .slice none 0 0, .string ⟨#[]⟩, .int .u8 0, .string ⟨#[]⟩, .slice none 0 0, .slice none 0 0, .int .u8 0, .string ⟨#[]⟩, .slice none 0 0, .slice none 0 0, .int .i64 0, .string ⟨#[]⟩] _ #[.int .u8 0, .int .u8 0, .string ⟨#[]⟩, .slice none 0 0, .slice none 0 0, .string ⟨#[]⟩, .int .u8 0, .string ⟨#[]⟩, .slice none 0 0, .slice none 0 0, .int .u8 0, .string ⟨#[]⟩, .slice none 0 0, .slice none 0 0, .int .i64 0, .string ⟨#[]⟩] 73 (by rfl) (by rfl) hC32.out (Nat.le_refl 16) (putA_whole _ _ rfl) msgInfo (by first | (simp; done) | (simp [Value.oneCell']; done)) ?_; intro w3 hF hA3; replace hF := Lib.hid hF; replace hA3 := Lib.hid hA3)
            refine bodyPost_ret (results_cel2 rfl _ _ _ _ _ dm rfl hF.out hdm.out.1 hdm.out.2 msgInfo) rfl ?_
            have hRe : R = (zeroM, 73) := by rw [← hR.out, if_pos (Or.inr (Or.inr ⟨by first | trivial | rfl, hb.out⟩))]
            have a3 := hA3.out
            subst hRe
            exact ⟨nilV, nilV, nilV, nilV, rfl, Or.inr ⟨rfl, rfl, rfl⟩, zero_own _ _ _ _ _, rfl, hB2'.out.trans (a3.1 _ (by omega))⟩
          · replace hb := Lib.hid hb
            go_wp2_with (first
              | (refine wpList_store_cel rfl 25 (.tmp 45) (.tmp 44) (by rfl) w.heap.size 6 #[.int .u8 p.kind, .string p.text, .slice P1 h1 k1, .slice P2 h2 k2] _ #[.int .u8 1, .int .u8 id.kind, .string id.text, .slice B1 d1 e1, .slice B2 d2 e2, .string m.text, .int .u8 p.kind, .string p.text, .slice P1 h1 k1, .slice P2 h2 k2, .int .u8 0, .string ⟨#[]⟩, .slice none 0 0, .slice none 0 0, .int .i64 0, .string ⟨#[]⟩] 73 (by rfl) (by rfl) hCm2.out (Nat.le_of_ble_eq_true rfl) rfl jsnInfo (by first | (simp; done) | (simp [Value.oneCell']; done)) ?_; intro w2 hD hA2; have hE := hA2.cel hC32.out (by omega); replace hE := Lib.hid hE; replace hD := Lib.hid hD; replace hA2 := Lib.hid hA2)
              | (refine wpList_load_all rfl 73 (.tmp 4) (by rfl) w.heap.size _ 73 dm (by rfl) hD.out hdm.out.1 hdm.out.2 msgInfo ?_)
              | (refine wpList_store_cel rfl 73 (.tmp 8) (.tmp 46) (by rfl) (w.heap.size + 1 + 1 + 1) 0 #[.int .u8 1, .int .u8 id.kind, .string id.text, .slice B1 d1 e1, .slice B2 d2 e2, .string m.text, .int .u8 p.kind, .string p.text, .slice P1 h1 k1, .slice P2 h2 k2, .int .u8 0, .string ⟨#[]⟩, .slice none 0 0, .slice none 0 0, .int .i64 0, .string ⟨#[]⟩] _ #[.int .u8 1, .int .u8 id.kind, .string id.text, .slice B1 d1 e1, .slice B2 d2 e2, .string m.text, .int .u8 p.kind, .string p.text, .slice P1 h1 k1, .slice P2 h2 k2, .int .u8 0, .string ⟨#[]⟩, .slice none 0 0, .slice none 0 0, .int .i64 0, .string ⟨#[]⟩] 73 (by rfl) (by rfl) hE.out (Nat.le_refl 16) (putA_whole _ _ rfl) msgInfo (by first | (simp; done) | (simp [Value.oneCell']; done)) ?_; intro w3 hF hA3; replace hF := Lib.hid hF; replace hA3 := Lib.hid hA3))
            refine bodyPost_ret (results_cel2 rfl _ _ _ _ _ dm rfl hF.out hdm.out.1 hdm.out.2 msgInfo) rfl ?_
            have hRe : R = (⟨1, id, m.text, p, zeroJ, 0, ⟨#[]⟩⟩, 0) := by
              rw [← hR.out, if_neg (by simp [hmk.out, hc.out, hb.out])]
              rfl
            have a2 := hA2.out
            have a3 := hA3.out
            have z2 := a2.2.2
            have z3 := a3.2.2
            subst hRe
            refine ⟨.slice B1 d1 e1, .slice B2 d2 e2, .slice P1 h1 k1, .slice P2 h2 k2, rfl, Or.inl ⟨rfl, rfl, rfl⟩, ?_, rfl, ?_⟩
            · exact OwnJ.keep (w' := w3) p hO3.out (fun b h1 h2 => (a3.2.1 b (by omega)).trans (a2.2.1 b (by omega))) (by omega) (by omega)
            · exact (hB2'.out.trans (a2.1 _ (by omega))).trans (a3.1 _ (by omega))
    · have hmb : (m.kind != 5) = true := by simp [hmk]
      replace hC3 := Lib.hid hC3
      replace hmk := Lib.hid hmk
      clear hC2 hCm hid
      go_wp2_with (refine wpList_store_cel rfl 73 (.tmp 8) (.tmp 43) (by rfl) (w.heap.size + 1 + 1 + 1) 0 #[.int .u8 0, .int .u8 0, .string ⟨#[]⟩, .slice none 0 0, .slice none 0 0, .string ⟨#[]⟩, .int .u8 0, .string ⟨#[]⟩, .slice none 0 0, .slice none 0 0, .int .u8 0, .string ⟨#[]⟩, .slice none 0 0, .slice none 0 0, .int .i64 0, .string ⟨#[]⟩] _ #[.int .u8 0, .int .u8 0, .string ⟨#[]⟩, .slice none 0 0, .slice none 0 0, .string ⟨#[]⟩, .int .u8 0, .string ⟨#[]⟩, .slice none 0 0, .slice none 0 0, .int .u8 0, .string ⟨#[]⟩, .slice none 0 0, .slice none 0 0, .int .i64 0, .string ⟨#[]⟩] 73 (by rfl) (by rfl) (hC3.out.alloc _) (Nat.le_refl 16) (putA_whole _ _ rfl) msgInfo (by first | (simp; done) | (simp [Value.oneCell']; done)) ?_; intro w3 hF hA3; replace hF := Lib.hid hF; replace hA3 := Lib.hid hA3)
      refine bodyPost_ret (results_cel2 rfl _ _ _ _ _ dm rfl hF.out hdm.out.1 hdm.out.2 msgInfo) rfl ?_
      have hRe : R = (zeroM, 73) := by rw [← hR.out, if_pos (Or.inl hmk.out)]
      have a3 := hA3.out
      subst hRe
      exact ⟨nilV, nilV, nilV, nilV, rfl, Or.inr ⟨rfl, rfl, rfl⟩, zero_own _ _ _ _ _, rfl, (hB1'.out.alloc (by omega) _).trans (a3.1 _ (by omega))⟩
end Go.Proofs.YtdjfoabinjfnfaaGreatDoor
