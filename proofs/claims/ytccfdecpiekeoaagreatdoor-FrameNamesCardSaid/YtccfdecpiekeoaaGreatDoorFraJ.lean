/-
  The walks of rostrumref06.Digits and Write, and of frame.Write.
-/
import Derived.Test.YtccfdecpiekeoaaGreatDoorFraE
import Derived.Test.YtccfdecpiekeoaaGreatDoorFraR
import Derived.Lib.SlBytesRow
import Derived.Lib.ItoaLen
import Derived.Deep.RegionWith
import Derived.Deep.CutBlock
namespace Go.Proofs.YtccfdecpiekeoaaGreatDoor
open Go.RowKit

theorem add_ok (a b : ByteArray) (h : a.size + b.size ≤ 9223372036854775807) : ∀ W, (Op.stringOp .add a b).run Tryz.prog W = .ok (.string (a ++ b)) W := fun W => run_string_add_sum W _ _ h
/-- A new row of one byte, handed to string(..). -/
theorem one_byte (V : World) (c : Int) (h0 : 0 ≤ c) (h1 : c < 256) :
    (convert 27 9 (.slice (some ⟨V.heap.size, 0, none⟩) 1 1)).run Tryz.prog (V.alloc (.cells #[.int .u8 c] 5)) = .ok (.string ⟨#[UInt8.ofNat c.toNat]⟩) (V.alloc (.cells #[.int .u8 c] 5)) := by
  have hb : Lib.Bytes (V.alloc (.cells #[.int .u8 c] 5)) V.heap.size 0 ⟨#[UInt8.ofNat c.toNat]⟩ := by
    intro i hi
    have hi0 : i = 0 := by have : (⟨#[UInt8.ofNat c.toNat]⟩ : ByteArray).size = 1 := rfl; omega
    subst hi0
    rw [World.cell?_alloc_at _ _ _ _ rfl]
    have e : (⟨#[UInt8.ofNat c.toNat]⟩ : ByteArray)[0] = UInt8.ofNat c.toNat := rfl
    rw [e]
    have : ((UInt8.ofNat c.toNat).toNat : Int) = c := by
      rw [UInt8.toNat_ofNat']; omega
    rw [this]; rfl
  exact Lib.run_convert_whole (P := Tryz.prog) (V.alloc (.cells #[.int .u8 c] 5)) 27 5 9 Tryz.underlying27 Tryz.underlying5 Tryz.underlying9 V.heap.size 0 ⟨#[UInt8.ofNat c.toNat]⟩ hb 1

/-- .. of a row whose cell is told. -/
theorem one_byte_at (V : World) (g : Nat) (c : Int) (h0 : 0 ≤ c) (h1 : c < 256) (hc : V.cell? ⟨g, 0, none⟩ = some (.int .u8 c)) :
    (convert 27 9 (.slice (some ⟨g, 0, none⟩) 1 1)).run Tryz.prog V = .ok (.string ⟨#[UInt8.ofNat c.toNat]⟩) V := by
  have hb : Lib.Bytes V g 0 ⟨#[UInt8.ofNat c.toNat]⟩ := by
    intro i hi
    have hi0 : i = 0 := by have : (⟨#[UInt8.ofNat c.toNat]⟩ : ByteArray).size = 1 := rfl; omega
    subst hi0
    have e : (⟨#[UInt8.ofNat c.toNat]⟩ : ByteArray)[0] = UInt8.ofNat c.toNat := rfl
    rw [e]
    have : ((UInt8.ofNat c.toNat).toNat : Int) = c := by
      rw [UInt8.toNat_ofNat']; omega
    rw [this]; exact hc
  exact Lib.run_convert_whole (P := Tryz.prog) V 27 5 9 Tryz.underlying27 Tryz.underlying5 Tryz.underlying9 g 0 ⟨#[UInt8.ofNat c.toNat]⟩ hb 1

/-- What a call of number hands back, beside what the region that holds it asks. -/
def NumPost (m : Nat) (one : ByteArray) (c : Int) (W : World) (en : Ending) (w' : World) : Prop :=
  ∃ s : ByteArray, s.data.toList = Lib.decDigits m ∧ en = .returned (.string s) ∧ Below W.heap.size W w' ∧
    (∀ g, W.cell? ⟨g, 0, none⟩ = some (.int .u8 c) → w'.cell? ⟨g, 0, none⟩ = some (.int .u8 c)) ∧
    (∀ V, (Op.stringOp .add s one).run Tryz.prog V = .ok (.string (s ++ one)) V)

theorem decDigits_len1 (m : Nat) : (Lib.decDigits m).length ≤ m + 1 := by
  induction m using Nat.strongRecOn with
  | _ m ih =>
    unfold Lib.decDigits
    split
    · simp
    · rw [List.length_append]
      have := ih (m / 10) (by omega)
      simp only [List.length_singleton]; omega

set_option maxRecDepth 100000 in
set_option maxHeartbeats 2000000 in
theorem refDigits_any : ∀ (n : Nat) (w : World), n < 1000000 →
    Calls Tryz.prog 22 #[.int .i64 n] w fun en w' => ∃ s : ByteArray, s.data.toList = Lib.decDigits n ∧ en = .returned (.string s) ∧ Below w.heap.size w w' := by
  intro n
  induction n using Nat.strongRecOn with
  | _ n ih =>
  intro w hn
  by_cases h10 : n < 10
  · have hd : Lib.decDigits n = [UInt8.ofNat (48 + n)] := by unfold Lib.decDigits; rw [dif_pos h10]
    have hcv := fun V => one_byte V (48 + n) (by omega) (by omega)
    have hw : IntKind.u8.wrap (48 + (n : Int)) = 48 + n := by rw [IntKind.wrap_u8]; omega
    have hcmp : ((n : Int) < 10) := by omega
    go_enter Tryz.func22, Tryz.ntmps22
    go_wp2
    go_ret
    exact ⟨⟨#[UInt8.ofNat (48 + n)]⟩, hd.symm, rfl, (Below.refl _ _).alloc (Nat.le_refl _) _⟩
  · obtain ⟨c, hc⟩ : ∃ c : Nat, c = n % 10 := ⟨_, rfl⟩
    obtain ⟨m, hm⟩ : ∃ m : Nat, m = n / 10 := ⟨_, rfl⟩
    have hd : Lib.decDigits n = Lib.decDigits m ++ [UInt8.ofNat (48 + c)] := by
      rw [hm, hc]
      conv => lhs; unfold Lib.decDigits
      rw [dif_neg h10]
    have hq : Int.tdiv (n : Int) 10 = m := by rw [hm]; exact (Int.ofNat_tdiv n 10).symm
    have hr : Int.tmod (n : Int) 10 = c := by rw [hc]; exact (Int.ofNat_tmod n 10).symm
    have hcmp : ¬ ((n : Int) < 10) := by omega
    have hc10 : c < 10 := by omega
    obtain ⟨one, hone⟩ : ∃ one : ByteArray, one = ⟨#[UInt8.ofNat (48 + c)]⟩ := ⟨_, rfl⟩
    have hcv : ∀ (V : World) (g : Nat), V.cell? ⟨g, 0, none⟩ = some (.int .u8 (48 + c)) → (convert 27 9 (.slice (some ⟨g, 0, none⟩) 1 1)).run Tryz.prog V = .ok (.string one) V := fun V g hg => by
      have := one_byte_at V g (48 + c) (by omega) (by omega) hg
      rw [this, hone]; congr 2
    have hw : IntKind.u8.wrap (48 + (c : Int)) = 48 + c := by rw [IntKind.wrap_u8]; omega
    have hwm : IntKind.i64.wrap (m : Int) = m := by rw [IntKind.wrap_i64]; omega
    have hwc : IntKind.i64.wrap (48 + (c : Int)) = 48 + c := by rw [IntKind.wrap_i64]; omega
    have hcall : ∀ W : World, Calls Tryz.prog 22 #[.int .i64 m] W (NumPost m one (48 + c) W) := fun W => by
      refine (ih m (by omega) W (by omega)).mono ?_
      rintro en w' ⟨s, hs, rfl, hB⟩
      refine ⟨s, hs, rfl, hB, fun g hg => ?_, add_ok s one ?_⟩
      · exact (hB.cell (p := ⟨g, 0, none⟩) (World.block_lt_of_cell? W _ hg)).trans hg
      · have h1 := decDigits_len1 m
        rw [← hs, bytes_len] at h1
        have h2 : one.size = 1 := by rw [hone]; rfl
        omega
    clear ih hm hc
    replace hd := Lib.hid hd
    replace hone := Lib.hid hone
    replace hcall := Lib.hid hcall
    go_enter Tryz.func22, Tryz.ntmps22
    go_upto_region 3 with (fail)
    go_region_with (go_at_call 22; refine (hcall.out _).mono ?_; rintro en w2 ⟨s, hs, rfl, hB2, hcv2, hadd⟩; have hcell2 := hcv2 w.heap.size; try simp at hcell2)
    all_goals
      go_wp2
      go_ret
      refine ⟨s ++ one, ?_, rfl, ?_⟩
      · rw [ByteArray.data_append, Array.toList_append, hs, hone.out, hd.out]
      · first
          | exact ((Below.refl w.heap.size w).drew.trans (hB2.mono (by simp))).alloc (by have := hB2.size; simpa using this) _
          | exact ((Below.refl w.heap.size w).drew.trans (hB2.mono (by simp)))
          | exact (((Below.refl w.heap.size w).alloc (Nat.le_refl _) _).drew.trans (hB2.mono (by simp)))

/-- A body's frame, or the refusal. -/
def writeL (s : List UInt8) : List UInt8 × Int := if 262144 < s.length then ([], 40) else (frameT s, 0)
def WriteEnd (r : List UInt8 × Int) (w : World) (e : Ending) (w' : World) : Prop := e = .returned (.tuple #[.string ⟨r.1.toArray⟩, .int .i64 r.2]) ∧ Below w.heap.size w w'
theorem write_end {r : List UInt8 × Int} {w w' : World} {g : ByteArray} {c : Int} (h : r = (g.data.toList, c)) (hB : Below w.heap.size w w') : WriteEnd r w (.returned (.tuple #[.string g, .int .i64 c])) w' := by
  rw [h]
  exact ⟨by rw [show (⟨(g.data.toList, c).1.toArray⟩ : ByteArray) = g from fbytes g], hB⟩
def headB : ByteArray := ⟨#[67, 111, 110, 116, 101, 110, 116, 45, 76, 101, 110, 103, 116, 104, 58, 32]⟩
def endB : ByteArray := ⟨#[13, 10, 13, 10]⟩
theorem frame_cat (g s : ByteArray) (hg : g.data.toList = Lib.decDigits s.size) : (headB ++ g ++ endB ++ s).data.toList = frameT s.data.toList := by
  rw [ByteArray.data_append, Array.toList_append, ByteArray.data_append, Array.toList_append, ByteArray.data_append, Array.toList_append, hg]
  unfold frameT
  rw [bytes_len]
  rfl

set_option maxHeartbeats 1000000 in
theorem refWrite_any (s : ByteArray) (w : World) (hs : s.size ≤ 1099511627776) :
    Calls Tryz.prog 11 #[.string s] w (WriteEnd (writeL s.data.toList) w) := by
  have hsl := bytes_len s
  by_cases hbig : 262144 < s.size
  · have hfin : writeL s.data.toList = ([], 40) := by unfold writeL; rw [if_pos (by omega)]
    clear hsl
    replace hfin := Lib.hid hfin
    go_enter Tryz.func11, Tryz.ntmps11
    go_wp2_with fail
    go_ret2
    exact write_end (g := ⟨#[]⟩) hfin.out (Below.refl _ _)
  · have hfin : writeL s.data.toList = (frameT s.data.toList, 0) := by unfold writeL; rw [if_neg (by omega)]
    have hdg := refDigits_any s.size w (by omega)
    have hlen := decDigits_len1 s.size
    clear hsl
    replace hfin := Lib.hid hfin
    replace hdg := Lib.hid hdg
    go_enter Tryz.func11, Tryz.ntmps11
    go_wp2_with fail
    refine hdg.out.mono ?_
    rintro e w1 ⟨g, hg, rfl, hB⟩
    have hgs : g.size ≤ 262145 := by rw [← bytes_len, hg]; omega
    have ha1 := add_ok headB g (by show 16 + g.size ≤ _; omega)
    have ha2 := add_ok (headB ++ g) endB (by rw [ByteArray.size_append]; show 16 + g.size + 4 ≤ _; omega)
    have ha3 := add_ok (headB ++ g ++ endB) s (by rw [ByteArray.size_append, ByteArray.size_append]; show 16 + g.size + 4 + s.size ≤ _; omega)
    have hcat := frame_cat g s hg
    have hh : headB = ⟨#[67, 111, 110, 116, 101, 110, 116, 45, 76, 101, 110, 103, 116, 104, 58, 32]⟩ := rfl
    have he : endB = ⟨#[13, 10, 13, 10]⟩ := rfl
    rw [hh] at ha1
    rw [hh, he] at ha2 ha3
    clear hdg hg hlen hh he
    replace hcat := Lib.hid hcat
    replace hB := Lib.hid hB
    go_wp2_with fail
    go_ret2
    exact write_end (by rw [hfin.out]; exact congrArg (·, 0) hcat.out.symm) hB.out

theorem bel_grow (w : World) (k : Nat) (os : Array Obj) : Below w.heap.size w (Sort.grow (w.drewN k) os) := by
  refine ⟨rfl, rfl, rfl, ?_, fun i hi => ?_⟩
  · show w.heap.size ≤ (w.heap ++ os).size
    rw [Array.size_append]; omega
  · show (w.heap ++ os)[i]? = _
    rw [Array.getElem?_append_left hi]

set_option maxHeartbeats 1000000 in
theorem frmWrite_any (s : ByteArray) (w : World) (hE : EnvF w) (hs : s.size ≤ 1099511627776) :
    Calls Tryz.prog 10 #[.string s] w (WriteEnd (writeL s.data.toList) w) := by
  have hsl := bytes_len s
  by_cases hbig : 262144 < s.size
  · have hfin : writeL s.data.toList = ([], 40) := by unfold writeL; rw [if_pos (by omega)]
    clear hsl
    replace hfin := Lib.hid hfin
    go_enter Tryz.func10, Tryz.ntmps10
    go_wp2_with fail
    go_ret2
    exact write_end (g := ⟨#[]⟩) hfin.out (Below.refl _ _)
  · have hfin : writeL s.data.toList = (frameT s.data.toList, 0) := by unfold writeL; rw [if_neg (by omega)]
    have hdg : Calls Tryz.prog 21 #[.int .i64 s.size] w fun e w' => ∃ g : ByteArray, g.data.toList = Lib.decDigits s.size ∧ e = .returned (.string g) ∧ Below w.heap.size w w' := by
      refine (Tryz.strconv_Itoa s.size (by omega) (by omega) w hE.1).mono ?_
      rintro e w' ⟨rfl, k, os, rfl⟩
      exact ⟨_, by rw [mk_data]; unfold Lib.itoa; rw [if_neg (by omega)]; rfl, rfl, bel_grow _ _ _⟩
    have hlen := decDigits_len1 s.size
    clear hsl
    replace hfin := Lib.hid hfin
    replace hdg := Lib.hid hdg
    go_enter Tryz.func10, Tryz.ntmps10
    go_wp2_with fail
    refine hdg.out.mono ?_
    rintro e w1 ⟨g, hg, rfl, hB⟩
    have hgs : g.size ≤ 262145 := by rw [← bytes_len, hg]; omega
    have ha1 := add_ok headB g (by show 16 + g.size ≤ _; omega)
    have ha2 := add_ok (headB ++ g) endB (by rw [ByteArray.size_append]; show 16 + g.size + 4 ≤ _; omega)
    have ha3 := add_ok (headB ++ g ++ endB) s (by rw [ByteArray.size_append, ByteArray.size_append]; show 16 + g.size + 4 + s.size ≤ _; omega)
    have hcat := frame_cat g s hg
    have hh : headB = ⟨#[67, 111, 110, 116, 101, 110, 116, 45, 76, 101, 110, 103, 116, 104, 58, 32]⟩ := rfl
    have he : endB = ⟨#[13, 10, 13, 10]⟩ := rfl
    rw [hh] at ha1
    rw [hh, he] at ha2 ha3
    clear hdg hg hlen hh he
    replace hcat := Lib.hid hcat
    replace hB := Lib.hid hB
    go_wp2_with fail
    go_ret2
    exact write_end (by rw [hfin.out]; exact congrArg (·, 0) hcat.out.symm) hB.out
end Go.Proofs.YtccfdecpiekeoaaGreatDoor
