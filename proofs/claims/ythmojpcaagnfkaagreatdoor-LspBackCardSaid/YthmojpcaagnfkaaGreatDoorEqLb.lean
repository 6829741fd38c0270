/-
  rostrumlaw08.LspBack answers true: the runs at values that are not told, gone through by the kernel.
-/
import Derived.Test.YthmojpcaagnfkaaGreatDoorEqL8
import Derived.Test.YthmojpcaagnfkaaGreatDoorEwD
namespace Go.Proofs.YthmojpcaagnfkaaGreatDoor
open Go.RowKit
set_option maxRecDepth 1000000

noncomputable def awakeA (args : List AV) (s : AS) : Option (AV × AS) := match args with
  | [] => some (.bool true, s)
  | _ => none
theorem awakeA_ok [Tab] (hT : EnvQ Tab.w0) : OneOK Tryz.prog 23 awakeA := by
  refine ⟨⟨_, Tryz.func23, by rfl, by rfl⟩, fun args s v s' he _ E w xs h hf hv => ?_, fun args s u s' he => ?_⟩
  · unfold awakeA at he
    split at he
    · injection he with he
      injection he with e1 e2
      subst e1
      subst e2
      obtain rfl : xs = #[] := by
        match hx : xs.toList, hv with
        | [], _ => apply Array.ext'; rw [hx]
        | _ :: _, hv => have := hv.len; simp at this
      exact callEnd_below h (.bool true) (awake8_all w (envOf hT h))
    · cases he
  · unfold awakeA at he
    split at he <;> cases he
noncomputable def orcDb : List (Nat × (List AV → AS → Option (AV × AS))) := (70, decIntA) :: orcB
noncomputable def callDb : Nat → List AV → AS → Option (AV × AS) := evF Tryz.prog (hooks Tryz.prog) (fnL fsQ) (orcL orcDb) 100000 60
theorem orcDb_ok [Tab] (hT : EnvQ Tab.w0) : ∀ p ∈ orcDb, OneOK Tryz.prog p.1 p.2 := List.forall_mem_cons.2 ⟨decIntA_ok, orcB_ok hT⟩
theorem callDb_ok [Tab] (hT : EnvQ Tab.w0) : CallOK Tryz.prog callDb := evF_ok (hooks_ok mixedQ) fsQ_ok (orcL_ok (orcDb_ok hT)) 60
noncomputable def orcLb : List (Nat × (List AV → AS → Option (AV × AS))) := (19, callDb 19) :: (23, awakeA) :: (96, decOfA) :: (70, decIntA) :: orcB
theorem orcLb_ok [Tab] (hT : EnvQ Tab.w0) : ∀ p ∈ orcLb, OneOK Tryz.prog p.1 p.2 :=
  List.forall_mem_cons.2 ⟨one_of_call (call := callDb) (callDb_ok hT) Tryz.func19 (by rfl) (by rfl), List.forall_mem_cons.2 ⟨awakeA_ok hT, List.forall_mem_cons.2 ⟨decOfA_ok hT, List.forall_mem_cons.2 ⟨decIntA_ok, orcB_ok hT⟩⟩⟩⟩
noncomputable def cqLb : CallQ := evQ Tryz.prog (fnL fsQ) (orcQ orcLb) 100000 100
/-- Ranges. -/
inductive Rg where
  | all
  | low
  | mid
  | high
noncomputable def Rg.lo : Rg → Int
  | .all => -9223372036854775808
  | .low => -9223372036854775808
  | .mid => 0
  | .high => 2147483648
noncomputable def Rg.hi : Rg → Int
  | .all => 9223372036854775807
  | .low => -1
  | .mid => 2147483647
  | .high => 9223372036854775807
noncomputable def argsLb (a b c d e : Rg) : List AV := [.symS 0, .symS 1, .symI 2 .i64 a.lo a.hi, .agg [.symI 3 .i64 b.lo b.hi, .symI 4 .i64 c.lo c.hi, .symI 5 .i64 d.lo d.hi, .symI 6 .i64 e.lo e.hi]]
noncomputable def runLb (a b c d e : Rg) : Bool := isTrueQ (cqLb 5 (argsLb a b c d e) ⟨.nil, 7⟩ trueK)
theorem lb0 : runLb .mid .mid .mid .mid .mid = true := by kernel_rfl
theorem lb1 : runLb .low .all .all .all .all = true := by kernel_rfl
theorem lb2 : runLb .high .all .all .all .all = true := by kernel_rfl
theorem lb3 : runLb .mid .low .all .all .all = true := by kernel_rfl
theorem lb4 : runLb .mid .high .all .all .all = true := by kernel_rfl
theorem lb5 : runLb .mid .mid .low .all .all = true := by kernel_rfl
theorem lb6 : runLb .mid .mid .high .all .all = true := by kernel_rfl
theorem lb7 : runLb .mid .mid .mid .low .all = true := by kernel_rfl
theorem lb8 : runLb .mid .mid .mid .high .all = true := by kernel_rfl
theorem lb9 : runLb .mid .mid .mid .mid .low = true := by kernel_rfl
theorem lb10 : runLb .mid .mid .mid .mid .high = true := by kernel_rfl
/-- A run at values that are not told. -/
theorem sym_trueQ [Tab] {P : Program} {call : Nat → List AV → AS → Option (AV × AS)} (hc : CallOK P call) {cq : CallQ} (hr : CallRel call cq) {f n : Nat} {args : List AV} (h : isTrueQ (cq f args ⟨.nil, n⟩ trueK) = true) {E : AEnv} (hf : Fresh E n) {xs : Array Value} (hv : VL E args xs.toList) (w : World) (hw : Below Tab.w0.heap.size Tab.w0 w) : Calls P f xs w fun e w' => e = .returned (.bool true) ∧ Below w.heap.size w w' := by
  unfold isTrueQ at h
  split at h
  · rename_i v s he
    obtain ⟨v1, s1, h1, h2⟩ := hr _ _ _ _ _ he
    injection h2 with h2
    injection h2 with e1 e2
    subst e1
    subst e2
    unfold trueZ at h
    split at h
    · rename_i b
      subst h
      have h0 : ∀ b, (AS.mk .nil n).get b = .none := AS.get_nil n
      refine (hc.calls f args ⟨.nil, n⟩ (.bool true) s1 h1 (fun u e => by cases e) E w xs (HR.start h0 hw) hf hv).mono fun e w' hq => ?_
      obtain ⟨x, E', rfl, q1, _, q3, _⟩ := hq
      cases q1
      exact ⟨rfl, q3.below h0⟩
    · cases h
  · cases h
noncomputable def kLb (k0 k1 k2 k3 k4 k5 k6 : Nat) : Nat → Nat
  | 0 => k0 | 1 => k1 | 2 => k2 | 3 => k3 | 4 => k4 | 5 => k5 | _ => k6
theorem fin_lb {a b c d e : Rg} (h : runLb a b c d e = true) (uri text : ByteArray) (v l1 c1 l2 c2 : Int) (w : World) (hE : EnvQ w) (h1 : a.lo ≤ v ∧ v ≤ a.hi) (h2 : b.lo ≤ l1 ∧ l1 ≤ b.hi) (h3 : c.lo ≤ c1 ∧ c1 ≤ c.hi) (h4 : d.lo ≤ l2 ∧ l2 ≤ d.hi) (h5 : e.lo ≤ c2 ∧ c2 ≤ e.hi) :
    Calls Tryz.prog 5 #[.string uri, .string text, .int .i64 v, .agg #[.int .i64 l1, .int .i64 c1, .int .i64 l2, .int .i64 c2]] w fun e w' => e = .returned (.bool true) ∧ Below w.heap.size w w' := by
  letI : Tab := ⟨w⟩
  obtain ⟨k0, e0⟩ := unS_at uri.data.toList
  obtain ⟨k1, e1⟩ := unS_at text.data.toList
  obtain ⟨k2, e2⟩ := unI_at v
  obtain ⟨k3, e3⟩ := unI_at l1
  obtain ⟨k4, e4⟩ := unI_at c1
  obtain ⟨k5, e5⟩ := unI_at l2
  obtain ⟨k6, e6⟩ := unI_at c2
  refine sym_trueQ (evF_ok (hooks_ok mixedQ) fsQ_ok (orcL_ok (orcLb_ok hE)) 100) (evQ_ok (orcQ_rel orcLb) 100) h (E := ⟨fun b => b < 7, fun _ => 0, kLb k0 k1 k2 k3 k4 k5 k6, fun _ => .deferred none⟩) (fun b hb => hb) ?_ w (Below.refl _ _)
  have hu : VR ⟨fun b => b < 7, fun _ => 0, kLb k0 k1 k2 k3 k4 k5 k6, fun _ => .deferred none⟩ (.symS 0) (.string uri) := .symS 0 uri.data.toList (by show 0 < 7; omega) e0
  have ht : VR ⟨fun b => b < 7, fun _ => 0, kLb k0 k1 k2 k3 k4 k5 k6, fun _ => .deferred none⟩ (.symS 1) (.string text) := .symS 1 text.data.toList (by show 1 < 7; omega) e1
  refine .cons hu (.cons ht (.cons (.symI 2 .i64 _ _ v (by show 2 < 7; omega) e2 h1.1 h1.2) (.cons ?_ .nil)))
  exact (VL.cons (.symI 3 .i64 _ _ l1 (by show 3 < 7; omega) e3 h2.1 h2.2) (VL.cons (.symI 4 .i64 _ _ c1 (by show 4 < 7; omega) e4 h3.1 h3.2) (VL.cons (.symI 5 .i64 _ _ l2 (by show 5 < 7; omega) e5 h4.1 h4.2) (VL.cons (.symI 6 .i64 _ _ c2 (by show 6 < 7; omega) e6 h5.1 h5.2) VL.nil)))).agg (a := #[_, _, _, _])
theorem rgAll {x : Int} (h : -9223372036854775808 ≤ x ∧ x ≤ 9223372036854775807) : Rg.all.lo ≤ x ∧ x ≤ Rg.all.hi := h
theorem lspBack_all (uri text : ByteArray) (v l1 c1 l2 c2 : Int) (w : World) (hE : EnvQ w) (h1 : -9223372036854775808 ≤ v ∧ v ≤ 9223372036854775807) (h2 : -9223372036854775808 ≤ l1 ∧ l1 ≤ 9223372036854775807) (h3 : -9223372036854775808 ≤ c1 ∧ c1 ≤ 9223372036854775807) (h4 : -9223372036854775808 ≤ l2 ∧ l2 ≤ 9223372036854775807) (h5 : -9223372036854775808 ≤ c2 ∧ c2 ≤ 9223372036854775807) :
    Calls Tryz.prog 5 #[.string uri, .string text, .int .i64 v, .agg #[.int .i64 l1, .int .i64 c1, .int .i64 l2, .int .i64 c2]] w fun e w' => e = .returned (.bool true) ∧ Below w.heap.size w w' := by
  have mid : ∀ {x : Int}, ¬ x < 0 → ¬ 2147483647 < x → Rg.mid.lo ≤ x ∧ x ≤ Rg.mid.hi := fun h h' => ⟨by show (0 : Int) ≤ _; omega, by show _ ≤ (2147483647 : Int); omega⟩
  have low : ∀ {x : Int}, -9223372036854775808 ≤ x → x < 0 → Rg.low.lo ≤ x ∧ x ≤ Rg.low.hi := fun h h' => ⟨h, by show _ ≤ (-1 : Int); omega⟩
  have high : ∀ {x : Int}, x ≤ 9223372036854775807 → 2147483647 < x → Rg.high.lo ≤ x ∧ x ≤ Rg.high.hi := fun h h' => ⟨by show (2147483648 : Int) ≤ _; omega, h⟩
  by_cases a1 : v < 0
  · exact fin_lb lb1 uri text v l1 c1 l2 c2 w hE (low h1.1 a1) h2 h3 h4 h5
  by_cases a2 : 2147483647 < v
  · exact fin_lb lb2 uri text v l1 c1 l2 c2 w hE (high h1.2 a2) h2 h3 h4 h5
  by_cases a3 : l1 < 0
  · exact fin_lb lb3 uri text v l1 c1 l2 c2 w hE (mid a1 a2) (low h2.1 a3) h3 h4 h5
  by_cases a4 : 2147483647 < l1
  · exact fin_lb lb4 uri text v l1 c1 l2 c2 w hE (mid a1 a2) (high h2.2 a4) h3 h4 h5
  by_cases a5 : c1 < 0
  · exact fin_lb lb5 uri text v l1 c1 l2 c2 w hE (mid a1 a2) (mid a3 a4) (low h3.1 a5) h4 h5
  by_cases a6 : 2147483647 < c1
  · exact fin_lb lb6 uri text v l1 c1 l2 c2 w hE (mid a1 a2) (mid a3 a4) (high h3.2 a6) h4 h5
  by_cases a7 : l2 < 0
  · exact fin_lb lb7 uri text v l1 c1 l2 c2 w hE (mid a1 a2) (mid a3 a4) (mid a5 a6) (low h4.1 a7) h5
  by_cases a8 : 2147483647 < l2
  · exact fin_lb lb8 uri text v l1 c1 l2 c2 w hE (mid a1 a2) (mid a3 a4) (mid a5 a6) (high h4.2 a8) h5
  by_cases a9 : c2 < 0
  · exact fin_lb lb9 uri text v l1 c1 l2 c2 w hE (mid a1 a2) (mid a3 a4) (mid a5 a6) (mid a7 a8) (low h5.1 a9)
  by_cases a10 : 2147483647 < c2
  · exact fin_lb lb10 uri text v l1 c1 l2 c2 w hE (mid a1 a2) (mid a3 a4) (mid a5 a6) (mid a7 a8) (high h5.2 a10)
  exact fin_lb lb0 uri text v l1 c1 l2 c2 w hE (mid a1 a2) (mid a3 a4) (mid a5 a6) (mid a7 a8) (mid a9 a10)
end Go.Proofs.YthmojpcaagnfkaaGreatDoor
