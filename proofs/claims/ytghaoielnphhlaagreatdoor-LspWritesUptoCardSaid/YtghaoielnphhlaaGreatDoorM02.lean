/-
  lsp.Decode, plainly: it hangs on the params' members alone. No program.
-/
import Derived.Test.YtghaoielnphhlaaGreatDoorM00
import Derived.Test.YtghaoielnphhlaaGreatDoorM01
import Derived.Deep.CutBlock
import Derived.Test.YtghaoielnphhlaaGreatDoorProg
import Derived.Test.YtghaoielnphhlaaGreatDoorShelf
import Derived.WalkKit
import Derived.WalkSpells
import Derived.WalkLawsBesides
import Derived.Lib.Hide
import Derived.Lib.Strings
import Derived.Lib.IndexLaws
import Derived.Lib.IndexBytes
import Derived.IntWalk
import Derived.BigQuiet
import Derived.Deep.QuietTactic
namespace Go.Proofs.YtghaoielnphhlaaGreatDoor

def yTextDocument : ByteArray := ⟨#[116, 101, 120, 116, 68, 111, 99, 117, 109, 101, 110, 116]⟩
def yUri : ByteArray := ⟨#[117, 114, 105]⟩
def yPosition : ByteArray := ⟨#[112, 111, 115, 105, 116, 105, 111, 110]⟩
def yLine : ByteArray := ⟨#[108, 105, 110, 101]⟩
def yCharacter : ByteArray := ⟨#[99, 104, 97, 114, 97, 99, 116, 101, 114]⟩
def yVersion : ByteArray := ⟨#[118, 101, 114, 115, 105, 111, 110]⟩
def yWidth : ByteArray := ⟨#[119, 105, 100, 116, 104]⟩
def yNewName : ByteArray := ⟨#[110, 101, 119, 78, 97, 109, 101]⟩
def yId : ByteArray := ⟨#[105, 100]⟩
def yText : ByteArray := ⟨#[116, 101, 120, 116]⟩
def yContentChanges : ByteArray := ⟨#[99, 111, 110, 116, 101, 110, 116, 67, 104, 97, 110, 103, 101, 115]⟩
def yRange : ByteArray := ⟨#[114, 97, 110, 103, 101]⟩
def yStart : ByteArray := ⟨#[115, 116, 97, 114, 116]⟩
def yEnd : ByteArray := ⟨#[101, 110, 100]⟩
def yNone : ByteArray := ⟨#[120, 45, 110, 111, 110, 101]⟩
/-- A member; of kind 0: there is none. -/
def memJ (j : Jsn) (x : ByteArray) : Jsn := (jget j x).getD ⟨0, ⟨#[]⟩, [], []⟩
structure Ch where
  whole : Bool
  a : Int
  b : Int
  c : Int
  d : Int
  t : ByteArray
structure LM where
  kind : Int
  uri : ByteArray
  version : Int
  text : ByteArray
  line : Int
  char : Int
  width : Int
  id : Jsn
  chs : List Ch
def zeroLM (k : Int) : LM := ⟨k, ⟨#[]⟩, 0, ⟨#[]⟩, 0, 0, 0, ⟨0, ⟨#[]⟩, [], []⟩, []⟩
/-- A count, if it is one. -/
def cntJ (j : Jsn) : Option Int := if j.kind = 4 ∧ (intL j.text.data.toList).2 = 0 ∧ 0 ≤ (intL j.text.data.toList).1 ∧ (intL j.text.data.toList).1 ≤ 2147483647 then some (intL j.text.data.toList).1 else none
def lNum (v : Jsn) (t : Int) : Bool × Int := match cntJ v with
  | some n => (true, n)
  | none => (false, t)
def lTxt (v : Jsn) (t : ByteArray) : Bool × ByteArray := if v.kind = 5 then (true, v.text) else (false, t)
def lPos (v : Jsn) (p : Int × Int) : Bool × Int × Int := match lNum (memJ v yLine) p.1 with
  | (true, a) => ((lNum (memJ v yCharacter) p.2).1, a, (lNum (memJ v yCharacter) p.2).2)
  | (false, a) => (false, a, p.2)
def isIdJ (j : Jsn) : Bool := decide (j.kind = 5) || decide (j.kind = 4) && decide ((intL j.text.data.toList).2 = 0)
abbrev Rd := Jsn → LM → Bool × LM
def rAt : Rd := fun v m => ((lPos (memJ v yPosition) (m.line, m.char)).1, { m with line := (lPos (memJ v yPosition) (m.line, m.char)).2.1, char := (lPos (memJ v yPosition) (m.line, m.char)).2.2 })
def rVer : Rd := fun v m => ((lNum (memJ (memJ v yTextDocument) yVersion) m.version).1, { m with version := (lNum (memJ (memJ v yTextDocument) yVersion) m.version).2 })
def rLoose : Rd := fun v m => (decide (v.kind = 0) || decide (v.kind = 1) || decide (v.kind = 7), m)
def rInit : Rd := fun v m => (decide (v.kind = 0) || decide (v.kind = 7), m)
def rFmt : Rd := fun v m => if (memJ v yWidth).kind = 0 then (true, { m with width := 80 }) else
  ((lNum (memJ v yWidth) 80).1 && decide (20 ≤ (lNum (memJ v yWidth) 80).2) && decide ((lNum (memJ v yWidth) 80).2 ≤ 200), { m with width := (lNum (memJ v yWidth) 80).2 })
def rName : Rd := fun v m => ((lTxt (memJ v yNewName) m.text).1, { m with text := (lTxt (memJ v yNewName) m.text).2 })
def rCancel : Rd := fun v m => (isIdJ (memJ v yId), { m with id := memJ v yId })
def rText : Rd := fun v m => ((lTxt (memJ (memJ v yTextDocument) yText) m.text).1, { m with text := (lTxt (memJ (memJ v yTextDocument) yText) m.text).2 })
def oneCh (x : Jsn) : Option Ch := if (memJ x yText).kind = 5 then
    (if (memJ x yRange).kind = 0 then some ⟨true, 0, 0, 0, 0, (memJ x yText).text⟩ else
      match lPos (memJ (memJ x yRange) yStart) (0, 0), lPos (memJ (memJ x yRange) yEnd) (0, 0) with
      | (true, a, b), (true, c, d) => some ⟨false, a, b, c, d, (memJ x yText).text⟩
      | _, _ => none)
  else none
def chgs : List Jsn → List Ch → Bool × List Ch
  | [], acc => (true, acc)
  | x :: l, acc => match oneCh x with
    | some c => chgs l (acc ++ [c])
    | none => (false, acc)
def rChs : Rd := fun v m => if (memJ v yContentChanges).kind = 6 then ((chgs (memJ v yContentChanges).list m.chs).1, { m with chs := (chgs (memJ v yContentChanges).list m.chs).2 }) else (false, m)
def docStep (v : Jsn) (a : Bool × LM) (f : Rd) : Bool × LM := ((f v a.2).1 && a.1, (f v a.2).2)
def rDoc (fs : List Rd) : Rd := fun v m => fs.foldl (docStep v) ((lTxt (memJ (memJ v yTextDocument) yUri) m.uri).1, { m with uri := (lTxt (memJ (memJ v yTextDocument) yUri) m.uri).2 })
def mName1 : ByteArray := ⟨#[105, 110, 105, 116, 105, 97, 108, 105, 122, 101]⟩
def mName2 : ByteArray := ⟨#[115, 104, 117, 116, 100, 111, 119, 110]⟩
def mName3 : ByteArray := ⟨#[116, 101, 120, 116, 68, 111, 99, 117, 109, 101, 110, 116, 47, 102, 111, 114, 109, 97, 116, 116, 105, 110, 103]⟩
def mName4 : ByteArray := ⟨#[116, 101, 120, 116, 68, 111, 99, 117, 109, 101, 110, 116, 47, 114, 101, 110, 97, 109, 101]⟩
def mName5 : ByteArray := ⟨#[116, 101, 120, 116, 68, 111, 99, 117, 109, 101, 110, 116, 47, 100, 101, 102, 105, 110, 105, 116, 105, 111, 110]⟩
def mName6 : ByteArray := ⟨#[116, 101, 120, 116, 68, 111, 99, 117, 109, 101, 110, 116, 47, 104, 111, 118, 101, 114]⟩
def mName7 : ByteArray := ⟨#[116, 101, 120, 116, 68, 111, 99, 117, 109, 101, 110, 116, 47, 100, 105, 97, 103, 110, 111, 115, 116, 105, 99]⟩
def mName8 : ByteArray := ⟨#[105, 110, 105, 116, 105, 97, 108, 105, 122, 101, 100]⟩
def mName9 : ByteArray := ⟨#[101, 120, 105, 116]⟩
def mName10 : ByteArray := ⟨#[36, 47, 99, 97, 110, 99, 101, 108, 82, 101, 113, 117, 101, 115, 116]⟩
def mName11 : ByteArray := ⟨#[116, 101, 120, 116, 68, 111, 99, 117, 109, 101, 110, 116, 47, 100, 105, 100, 79, 112, 101, 110]⟩
def mName12 : ByteArray := ⟨#[116, 101, 120, 116, 68, 111, 99, 117, 109, 101, 110, 116, 47, 100, 105, 100, 67, 104, 97, 110, 103, 101]⟩
def mName13 : ByteArray := ⟨#[116, 101, 120, 116, 68, 111, 99, 117, 109, 101, 110, 116, 47, 100, 105, 100, 67, 108, 111, 115, 101]⟩
/-- The methods: name, kind, how its params are read. -/
def lMethods : List (ByteArray × Int × Rd) := [(mName1, 1, rInit), (mName2, 2, rLoose), (mName3, 3, rDoc [rFmt]), (mName4, 4, rDoc [rAt, rName]), (mName5, 5, rDoc [rAt]), (mName6, 6, rDoc [rAt]), (mName7, 7, rDoc []), (mName8, 8, rLoose), (mName9, 9, rLoose), (mName10, 10, rCancel), (mName11, 11, rDoc [rVer, rText]), (mName12, 12, rDoc [rVer, rChs]), (mName13, 13, rDoc [])]
def ldecOf (k : Int) (rd : Rd) (v : Jsn) : LM × Int := if (rd v (zeroLM k)).1 = true then ((rd v (zeroLM k)).2, 0) else (zeroLM 0, 69)
def ldec (s : ByteArray) (v : Jsn) : LM × Int := match lMethods.find? (fun p => decide (p.1 = s)) with
  | some p => ldecOf p.2.1 p.2.2 v
  | none => (zeroLM 0, 68)
/-- The same members but one that is not looked at. -/
def Alike (v w : Jsn) : Prop := v.kind = w.kind ∧ ∀ x, x ≠ yNone → memJ v x = memJ w x
end Go.Proofs.YtghaoielnphhlaaGreatDoor


/-
  The walk of lsp.member: an object's member, as it lies.
-/
namespace Go.Proofs.YtghaoielnphhlaaGreatDoor
open Go.RowKit

/-- How a call ends that hands a value out of another. -/
def MemEnd (r : Jsn) (X : Nat → Prop) (w : World) (e : Ending) (w' : World) : Prop := ∃ vn vl, e = .returned (.agg #[.int .u8 r.kind, .string r.text, vn, vl]) ∧ JV w' X r vn vl ∧ Below w.heap.size w w'
theorem zero8_jv (w : World) (X : Nat → Prop) : JV w X ⟨0, ⟨#[]⟩, [], []⟩ (.slice none 0 0) (.slice none 0 0) := by
  rw [JV_eq]
  exact ⟨by omega, by omega, ⟨none, 0, rfl, fun h => by simp at h⟩, none, 0, rfl, fun h => by simp at h⟩
theorem Cel.d4 {w : World} {b : Nat} {t : TypeId} {x0 x1 x2 x3 : Value} (h : Cel w b t #[x0, x1, x2, x3]) :
    w.cell? ⟨b, 0, none⟩ = some x0 ∧ w.cell? ⟨b, 1, none⟩ = some x1 ∧ w.cell? ⟨b, 2, none⟩ = some x2 ∧ w.cell? ⟨b, 3, none⟩ = some x3 := ⟨h.cell 0, h.cell 1, h.cell 2, h.cell 3⟩
theorem find_at {n : List ByteArray} {x : ByteArray} {q : Nat} (hq : n[q]? = some x) (h : ∀ (m : Nat) y, m < q → n[m]? = some y → y ≠ x) : jfind n x = some q := by
  unfold jfind
  have hlt := (List.getElem?_eq_some_iff.1 hq).1
  rw [List.findIdx?_eq_some_iff_getElem]
  refine ⟨hlt, by simpa using (List.getElem?_eq_some_iff.1 hq).2, fun m hm => ?_⟩
  simpa using h m _ hm (List.getElem?_eq_getElem (by omega))
theorem mem_none {k : Int} {s : ByteArray} {n : List ByteArray} {l : List Jsn} {x : ByteArray} (h : ∀ (m : Nat) y, n[m]? = some y → m < l.length → y ≠ x) : memJ ⟨k, s, n, l⟩ x = ⟨0, ⟨#[]⟩, [], []⟩ := by
  unfold memJ jget
  by_cases hk : k = 7
  · rw [if_pos hk]
    dsimp only
    rcases hf : jfind n x with _ | i
    · rfl
    · have h1 : i < n.length ∧ n[i]? = some x := by
        unfold jfind at hf
        rw [List.findIdx?_eq_some_iff_getElem] at hf
        obtain ⟨a, b, _⟩ := hf
        exact ⟨a, by rw [List.getElem?_eq_getElem a]; simpa using b⟩
      dsimp only
      rw [List.getElem?_eq_none (by
        by_cases hi : i < l.length
        · exact absurd rfl (h i x h1.2 hi)
        · omega)]
      rfl
  · rw [if_neg hk]; rfl
set_option maxRecDepth 100000 in
set_option maxHeartbeats 2000000 in
theorem lspMember_any (j : Jsn) (X : Nat → Prop) (w : World) (vn vl : Value) (x : ByteArray) (hV : JV w X j vn vl) (hbk : jbulk j ≤ 1000000000000) :
    Calls Tryz.prog 72 #[.agg #[.int .u8 j.kind, .string j.text, vn, vl], .string x] w (MemEnd (memJ j x) X w) := by
  obtain ⟨k, s, n, l⟩ := j
  obtain ⟨_, hn, hl, _, hkids⟩ := bulk_parts hbk
  dsimp only at hl hkids hn
  have hnam := hV.names
  obtain ⟨An, cn, rfl⟩ := hnam.len
  obtain ⟨A, c, zs, rfl, hz, h2, h3⟩ := hV.elems
  dsimp only at hnam ⊢
  have hlen : zs.length = l.length := by rw [← hz, List.length_map]
  rw [← hlen] at hl
  obtain ⟨w0, hw0⟩ : ∃ w0, (w.alloc (.cells #[.int .u8 k, .string s, .slice An n.length cn, .slice A zs.length c] 25)).alloc (.cells #[.int .u8 0, .string ⟨#[]⟩, .slice none 0 0, .slice none 0 0] 25) = w0 := ⟨_, rfl⟩
  have hB0 : Below w.heap.size w w0 := by rw [← hw0]; exact ((Below.refl _ _).alloc (Nat.le_refl _) _).alloc (by simp) _
  have hC1 : Cel w0 w.heap.size 25 #[.int .u8 k, .string s, .slice An n.length cn, .slice A zs.length c] := by rw [← hw0]; exact (Cel.fresh _ _ _).alloc _
  have hC2 : Cel w0 (w.heap.size + 1) 25 #[.int .u8 0, .string ⟨#[]⟩, .slice none 0 0, .slice none 0 0] := by
    rw [← hw0]
    have := Cel.fresh (w.alloc (.cells #[.int .u8 k, .string s, .slice An n.length cn, .slice A zs.length c] 25)) 25 #[.int .u8 0, .string ⟨#[]⟩, .slice none 0 0, .slice none 0 0]
    simpa using this
  have hna := hnam.later hB0
  have hat := Lib.hid (fun (i : Nat) (hi : i < zs.length) => JV.at h2 h3 hB0 hi)
  obtain ⟨a0, a1, a2, a3⟩ := hC1.d4
  obtain ⟨b0, b1, b2, b3⟩ := hC2.d4
  have s0 := hC2.froz 0
  have s1 := hC2.froz 1
  have s2 := hC2.froz 2
  have s3 := hC2.froz 3
  obtain ⟨r, hr⟩ : ∃ r, memJ ⟨k, s, n, l⟩ x = r := ⟨_, rfl⟩
  rw [hr]
  replace hr := Lib.hid hr
  replace hw0 := Lib.hid hw0
  replace hna := Lib.hid hna
  replace hz := Lib.hid hz
  replace hB0 := Lib.hid hB0
  replace hlen := Lib.hid hlen
  replace h2 := Lib.hid h2
  clear hV h3 hnam hbk hkids hC1 hC2
  have hzero : r = ⟨0, ⟨#[]⟩, [], []⟩ → ∀ e, e = .returned (.agg #[.int .u8 0, .string ⟨#[]⟩, .slice none 0 0, .slice none 0 0]) → MemEnd r X w e ((((w0.setCell ⟨w.heap.size + 1, 0, none⟩ (.int .u8 0)).setCell ⟨w.heap.size + 1, 1, none⟩ (.string ⟨#[]⟩)).setCell ⟨w.heap.size + 1, 2, none⟩ (.slice none 0 0)).setCell ⟨w.heap.size + 1, 3, none⟩ (.slice none 0 0)) := by
    rintro h e rfl
    subst h
    exact ⟨_, _, rfl, zero8_jv _ _, (((hB0.out.setCell (by simp) _).setCell (by simp) _).setCell (by simp) _).setCell (by simp) _⟩
  replace hzero := Lib.hid hzero
  by_cases hk : k = 7
  · subst hk
    go_enter Tryz.func72, Tryz.ntmps72
    go_upto_region 1 with fail
    rw [hw0.out]
    clear hw0
    go_wp2_with fail
    go_loopw [14] (fun i wr => ∃ q : Nat, q ≤ n.length ∧ i = .int .i64 q ∧ wr = w0 ∧ ∀ (m : Nat) y, m < q → n[m]? = some y → m < zs.length → y ≠ x) (fun i _ => n.length - (intOf i).toNat)
    case atStart => exact ⟨0, Nat.zero_le _, rfl, rfl, fun m y h => by omega⟩
    case round =>
      obtain ⟨q, hq, rfl, hwr, hno⟩ := hrel
      subst hwr
      replace hno := Lib.hid hno
      by_cases hlt : q < n.length
      · obtain ⟨A', c', he, h1⟩ := hna.out
        obtain ⟨g, o, rfl, _, hg, hcell⟩ := h1 (by omega)
        injection he with he1 he2 he3
        subst he1
        obtain ⟨y, hy⟩ : ∃ y, n[q]? = some y := ⟨_, List.getElem?_eq_getElem hlt⟩
        have d0 := hcell q y hy
        clear h1 hcell he2 he3
        have hq0 : (0 : Int) ≤ (q : Int) := by omega
        have hq1 : (q : Int) < (n.length : Int) := by omega
        by_cases hyx : y = x
        · subst hyx
          by_cases hqz : q < zs.length
          · have hqz1 : (q : Int) < (zs.length : Int) := by omega
            obtain ⟨g2, o2, ⟨z, vx, vy⟩, hzq, hzm, rfl, hVz, e0, e1, e2, e3⟩ := hat.out q hqz
            dsimp only at hVz e0 e1 e2 e3
            obtain ⟨Ax, nx, cx, Ay, ny, cy, rfl, rfl⟩ := hVz.forms
            have hrz : r = z := by
              rw [← hr.out]
              unfold memJ jget
              rw [if_pos rfl, find_at hy (fun m y' hm hy' => hno.out m y' hm hy' (by omega))]
              dsimp only
              rw [← hz.out, List.getElem?_map, hzq]
              rfl
            subst hrz
            have hVw := Lib.hid (h2.out _ hzm)
            clear hVz h2
            clear hzero hat hr hno hzq hzm
            go_wp2_with fail
            refine bodyPost_ret (v := .agg #[.int .u8 r.kind, .string r.text, .slice Ax nx cx, .slice Ay ny cy]) (by simp [results, Tryz.results72, go_sem, b0, b1, b2, b3]) rfl ⟨_, _, rfl, hVw.out.later ?_, ?_⟩
            all_goals exact (((hB0.out.setCell (by simp) _).setCell (by simp) _).setCell (by simp) _).setCell (by simp) _
          · have hqz1 : ¬ (q : Int) < (zs.length : Int) := by omega
            clear hat hzero h2
            go_wp2_with fail
            go_roundw
            case rel => exact ⟨q + 1, by omega, by go_num, trivial, fun m y' hm hy' hmz => hno.out m y' (by omega) hy' hmz⟩
            case measure => simp [intOf]; omega
        · have hyx1 := jeq_f hyx
          replace hyx := Lib.hid hyx
          clear hat hzero h2
          go_wp2_with fail
          go_roundw
          case rel =>
            refine ⟨q + 1, by omega, by go_num, trivial, fun m y' hm hy' hmz => ?_⟩
            by_cases hmq : m = q
            · subst hmq
              rw [hy] at hy'
              injection hy' with hy'
              subst hy'
              exact hyx.out
            · exact hno.out m y' (by omega) hy' hmz
          case measure => simp [intOf]; omega
      · have hq1 : ¬ (q : Int) < (n.length : Int) := by omega
        have hrz : r = ⟨0, ⟨#[]⟩, [], []⟩ := by rw [← hr.out]; exact mem_none fun m y hy hml => hno.out m y (by have := (List.getElem?_eq_some_iff.1 hy).1; omega) hy (by rw [hlen.out]; exact hml)
        have hfin := Lib.hid (hzero.out hrz)
        clear h2 hzero hat hr hrz hno
        go_wp2_with fail
        refine bodyPost_ret (v := .agg #[.int .u8 0, .string ⟨#[]⟩, .slice none 0 0, .slice none 0 0]) (by simp [results, Tryz.results72, go_sem, b0, b1, b2, b3]) rfl (hfin.out _ rfl)
  · have hk1 : (k == 7) = false := by simpa using hk
    have hrz : r = ⟨0, ⟨#[]⟩, [], []⟩ := by
      rw [← hr.out]
      unfold memJ jget
      rw [if_neg hk]
      rfl
    have hfin := Lib.hid (hzero.out hrz)
    replace hk := Lib.hid hk
    clear h2 hzero hat hr hrz
    go_enter Tryz.func72, Tryz.ntmps72
    go_upto_region 1 with fail
    rw [hw0.out]
    clear hw0
    go_wp2_with fail
    refine bodyPost_ret (v := .agg #[.int .u8 0, .string ⟨#[]⟩, .slice none 0 0, .slice none 0 0]) (by simp [results, Tryz.results72, go_sem, b0, b1, b2, b3]) rfl (hfin.out _ rfl)
end Go.Proofs.YtghaoielnphhlaaGreatDoor


/-
  The walks of (*dec.reader).digits and begins.
-/
namespace Go.Proofs.YtghaoielnphhlaaGreatDoor
open Go.RowKit

/-- The reader's block: s, then x (minus, digits, exp), then sign. -/
def RD (w : World) (b : Nat) (s : ByteArray) (m : Bool) (d : ByteArray) (e : Int) : Prop :=
  Cel w b 164 #[.string s, .bool m, .string d, .int .i64 e, .int .i64 0]

theorem RD.facts {w : World} {b : Nat} {s : ByteArray} {m : Bool} {d : ByteArray} {e : Int} (h : RD w b s m d e) :
    w.cell? ⟨b, 0, none⟩ = some (.string s) ∧ w.cell? ⟨b, 1, none⟩ = some (.bool m) ∧ w.cell? ⟨b, 2, none⟩ = some (.string d) ∧ w.cell? ⟨b, 3, none⟩ = some (.int .i64 e) ∧
    w.frozen? ⟨b, 0, none⟩ = false ∧ w.frozen? ⟨b, 1, none⟩ = false ∧ w.frozen? ⟨b, 2, none⟩ = false ∧ w.frozen? ⟨b, 3, none⟩ = false :=
  ⟨Cel.cell h 0, Cel.cell h 1, Cel.cell h 2, Cel.cell h 3, Cel.froz h 0, Cel.froz h 1, Cel.froz h 2, Cel.froz h 3⟩
theorem RD.setS {w : World} {b : Nat} {s : ByteArray} {m : Bool} {d : ByteArray} {e : Int} (h : RD w b s m d e) (s' : ByteArray) : RD (w.setCell ⟨b, 0, none⟩ (.string s')) b s' m d e := Cel.set h 0 _
theorem RD.setM {w : World} {b : Nat} {s : ByteArray} {m : Bool} {d : ByteArray} {e : Int} (h : RD w b s m d e) (m' : Bool) : RD (w.setCell ⟨b, 1, none⟩ (.bool m')) b s m' d e := Cel.set h 1 _
theorem RD.setD {w : World} {b : Nat} {s : ByteArray} {m : Bool} {d : ByteArray} {e : Int} (h : RD w b s m d e) (d' : ByteArray) : RD (w.setCell ⟨b, 2, none⟩ (.string d')) b s m d' e := Cel.set h 2 _
theorem RD.setE {w : World} {b : Nat} {s : ByteArray} {m : Bool} {d : ByteArray} {e : Int} (h : RD w b s m d e) (e' : Int) : RD (w.setCell ⟨b, 3, none⟩ (.int .i64 e')) b s m d e' := Cel.set h 3 _
theorem RD.drew {w : World} {b : Nat} {s : ByteArray} {m : Bool} {d : ByteArray} {e : Int} (h : RD w b s m d e) : RD w.drew b s m d e := h
theorem RD.lt {w : World} {b : Nat} {s : ByteArray} {m : Bool} {d : ByteArray} {e : Int} (h : RD w b s m d e) : b < w.heap.size := Cel.lt h

/-- The ten digits. -/
def tenDigits : ByteArray := ⟨#[48, 49, 50, 51, 52, 53, 54, 55, 56, 57]⟩
theorem trim_ten (l : List UInt8) : Lib.trimLeftS l tenDigits.data.toList = l.dropWhile isDig := by
  unfold Lib.trimLeftS
  congr 1
  funext c
  revert c
  have h : ∀ n : Fin 256, (tenDigits.data.toList.contains (UInt8.ofNat n.val)) = isDig (UInt8.ofNat n.val) := by decide +kernel
  intro c
  have := h ⟨c.toNat, UInt8.toNat_lt c⟩
  simpa using this

/-- How digits ends. -/
def DigEnd (w : World) (b : Nat) (s : ByteArray) (m : Bool) (d : ByteArray) (e : Int) (en : Ending) (w' : World) : Prop :=
  ∃ g r : ByteArray, en = .returned (.string g) ∧ g.data.toList = s.data.toList.takeWhile isDig ∧ r.data.toList = s.data.toList.dropWhile isDig ∧ RD w' b r m d e ∧ Below b w w'

theorem take_len (l : List UInt8) (p : UInt8 → Bool) : l.takeWhile p = l.take (l.length - (l.dropWhile p).length) := by
  have h := List.takeWhile_append_dropWhile (p := p) (l := l)
  have h2 : l.length = (l.takeWhile p).length + (l.dropWhile p).length := by rw [← List.length_append, h]
  rw [show l.length - (l.dropWhile p).length = (l.takeWhile p).length by omega]
  exact List.prefix_iff_eq_take.1 (List.takeWhile_prefix p)

set_option maxHeartbeats 1000000 in
theorem decDigits_any (b : Nat) (s : ByteArray) (m : Bool) (d : ByteArray) (e : Int) (w : World) (hR : RD w b s m d e) (hs : s.size ≤ 1099511627776) :
    Calls Tryz.prog 147 #[.pointer (some ⟨b, 0, none⟩)] w (DigEnd w b s m d e) := by
  obtain ⟨x0, x1, x2, x3, f0, f1, f2, f3⟩ := hR.facts
  have hcon : ∀ W, Calls Tryz.prog 88 #[.string s, .string ⟨#[48, 49, 50, 51, 52, 53, 54, 55, 56, 57]⟩] W fun e w' => ∃ r : ByteArray, e = .returned (.string r) ∧ r.data.toList = s.data.toList.dropWhile isDig ∧ r.size ≤ s.size ∧ Below W.heap.size W w' := by
    intro W
    refine (Tryz.strings_TrimLeft_set s tenDigits W (by decide) (by
      have h : ∀ j : Fin 10, (tenDigits.data.toList[j.val]?.map (fun b => decide (b.toNat < 128))) = some true := by decide +kernel
      intro j b hb
      have hj : j < 10 := by
        rcases Nat.lt_or_ge j 10 with h1 | h1
        · exact h1
        · rw [List.getElem?_eq_none (by simpa [tenDigits] using h1)] at hb; cases hb
      have := h ⟨j, hj⟩
      simp only [hb] at this
      simpa using this)).mono ?_
    rintro e w' ⟨rfl, hB⟩
    refine ⟨_, rfl, ?_, ?_, hB⟩
    · simp [trim_ten]
    · rw [trim_ten]
      have h := List.takeWhile_append_dropWhile (p := isDig) (l := s.data.toList)
      have h2 : s.data.toList.length = (s.data.toList.takeWhile isDig).length + (s.data.toList.dropWhile isDig).length := by rw [← List.length_append, h]
      rw [bytes_len] at h2
      show (List.toArray _).size ≤ _
      simp
      omega
  replace hcon := Lib.hid hcon
  replace hR := Lib.hid hR
  go_enter Tryz.func147, Tryz.ntmps147
  go_wp2_with fail
  refine (hcon.out _).mono ?_
  rintro e1 w1 ⟨r, rfl, hr, hrs, hB⟩
  have hR1 : RD w1 b s m d e := Cel.below hR.out hB hR.out.lt
  obtain ⟨y0, y1, y2, y3, g0, g1, g2, g3⟩ := hR1.facts
  have hB1 : Below b w w1 := hB.mono (Nat.le_of_lt hR.out.lt)
  replace hR1 := Lib.hid hR1
  replace hB1 := Lib.hid hB1
  replace hr := Lib.hid hr
  clear hB x0 x1 x2 x3 f0 f1 f2 f3
  go_upto_region 2 with (fail)
  go_quiet (fail)
  go_wp2
  go_ret
  refine ⟨s.extract 0 (s.size - r.size), r, rfl, ?_, hr.out, ?_, ?_⟩
  · rw [Lib.extract_data, take_len, ← hr.out, bytes_len, bytes_len]; simp
  · exact RD.setS (Cel.drewN hR1.out nq) r
  · exact (bel_drewN hB1.out nq).setCell (Nat.le_refl _) _

theorem has_byte (l : List UInt8) (c : UInt8) : decide (0 ≤ Lib.indexByte l c) = l.contains c := by
  induction l with
  | nil => rfl
  | cons a l ih =>
    unfold Lib.indexByte
    by_cases h : a = c
    · subst h; simp
    · have h1 : (a == c) = false := by simpa using h
      have h2 : (c == a) = false := by simpa using fun e => h e.symm
      have hge := Lib.indexByte_ge l c
      rw [h1]
      simp only [Bool.false_eq_true, if_false, List.contains_cons, h2, Bool.false_or]
      rw [← ih]
      by_cases h3 : Lib.indexByte l c = -1
      · simp [h3]
      · have h4 : (Lib.indexByte l c == -1) = false := by simpa using h3
        rw [h4]
        simp only [Bool.false_eq_true, if_false]
        rw [Bool.eq_iff_iff]
        simp
        omega

theorem first_byte (s : ByteArray) (c : UInt8) (t : List UInt8) (h : s.data.toList = c :: t) : s.extract 0 1 = ⟨#[c]⟩ := by
  have h1 : (s.extract 0 1).data.toList = [c] := by rw [Lib.extract_data, h]; simp
  rw [← bytes_mk (s.extract 0 1), h1]
theorem rest_bytes (s : ByteArray) (c : UInt8) (t : List UInt8) (h : s.data.toList = c :: t) : (s.extract 1 s.size).data.toList = t := by
  rw [Lib.extract_to_end, h]; rfl
theorem size_cons (s : ByteArray) (c : UInt8) (t : List UInt8) (h : s.data.toList = c :: t) : s.size = t.length + 1 := by
  rw [← bytes_len, h]; rfl
theorem at_cons (s : ByteArray) (c : UInt8) (t : List UInt8) (h : s.data.toList = c :: t) (h0 : 0 < s.size) : s[0] = c := by
  have h1 := bytes_at s 0 h0
  rw [h] at h1
  simp at h1
  exact h1.symm
theorem isEmpty_t (s : ByteArray) (h : s.data.toList = []) : s.toList.isEmpty = true := by rw [Lib.toList_data, h]; rfl
theorem isEmpty_f (s : ByteArray) (c : UInt8) (t : List UInt8) (h : s.data.toList = c :: t) : s.toList.isEmpty = false := by rw [Lib.toList_data, h]; rfl

set_option maxHeartbeats 1000000 in
theorem decBegins_yes (b : Nat) (s some : ByteArray) (m : Bool) (d : ByteArray) (e : Int) (w : World) (hR : RD w b s m d e) (hs : s.size ≤ 1099511627776) (c : UInt8) (t : List UInt8) (hc : s.data.toList = c :: t) (hin : some.data.toList.contains c = true) :
    Calls Tryz.prog 146 #[.pointer (.some ⟨b, 0, none⟩), .string some] w fun en w' => en = .returned (.tuple #[.int .u8 c.toNat, .bool true]) ∧ w' = w.setCell ⟨b, 0, none⟩ (.string (s.extract 1 s.size)) := by
  obtain ⟨x0, x1, x2, x3, f0, f1, f2, f3⟩ := hR.facts
  have he := isEmpty_f s c t hc
  have hsz := size_cons s c t hc
  have h0 : 0 < s.size := by omega
  have hat := at_cons s c t hc h0
  have hcon : ∀ W, Calls Tryz.prog 164 #[.string some, .string (s.extract 0 1)] W fun e w' => e = .returned (.bool true) ∧ W = w' := by
    intro W
    rw [first_byte s c t hc]
    refine (Tryz.strings_Contains_one some c W).mono ?_
    rintro e w' ⟨rfl, rfl⟩
    exact ⟨by rw [has_byte, hin], rfl⟩
  replace hcon := Lib.hid hcon
  replace hat := Lib.hid hat
  clear hsz hc hin
  go_enter Tryz.func146, Tryz.ntmps146
  go_wp2_with (go_at_call 164; refine (hcon.out _).mono ?_; rintro e w' ⟨rfl, rfl⟩)
  go_ret2
  exact ⟨by rw [hat.out]; rfl, rfl⟩

set_option maxHeartbeats 1000000 in
theorem decBegins_none (b : Nat) (s some : ByteArray) (m : Bool) (d : ByteArray) (e : Int) (w : World) (hR : RD w b s m d e) (hc : s.data.toList = []) :
    Calls Tryz.prog 146 #[.pointer (.some ⟨b, 0, none⟩), .string some] w fun en w' => en = .returned (.tuple #[.int .u8 0, .bool false]) ∧ w = w' := by
  obtain ⟨x0, x1, x2, x3, f0, f1, f2, f3⟩ := hR.facts
  have he := isEmpty_t s hc
  clear hc
  go_enter Tryz.func146, Tryz.ntmps146
  go_wp2
  go_ret2
  exact ⟨rfl, rfl⟩

set_option maxHeartbeats 1000000 in
theorem decBegins_other (b : Nat) (s some : ByteArray) (m : Bool) (d : ByteArray) (e : Int) (w : World) (hR : RD w b s m d e) (hs : s.size ≤ 1099511627776) (c : UInt8) (t : List UInt8) (hc : s.data.toList = c :: t) (hin : some.data.toList.contains c = false) :
    Calls Tryz.prog 146 #[.pointer (.some ⟨b, 0, none⟩), .string some] w fun en w' => en = .returned (.tuple #[.int .u8 0, .bool false]) ∧ w = w' := by
  obtain ⟨x0, x1, x2, x3, f0, f1, f2, f3⟩ := hR.facts
  have he := isEmpty_f s c t hc
  have hsz := size_cons s c t hc
  have h0 : 0 < s.size := by omega
  have hcon : ∀ W, Calls Tryz.prog 164 #[.string some, .string (s.extract 0 1)] W fun e w' => e = .returned (.bool false) ∧ W = w' := by
    intro W
    rw [first_byte s c t hc]
    refine (Tryz.strings_Contains_one some c W).mono ?_
    rintro e w' ⟨rfl, rfl⟩
    exact ⟨by rw [has_byte, hin], rfl⟩
  replace hcon := Lib.hid hcon
  clear hsz hc hin
  go_enter Tryz.func146, Tryz.ntmps146
  go_wp2_with (go_at_call 164; refine (hcon.out _).mono ?_; rintro e w' ⟨rfl, rfl⟩)
  go_ret2
  exact ⟨rfl, rfl⟩
end Go.Proofs.YtghaoielnphhlaaGreatDoor
