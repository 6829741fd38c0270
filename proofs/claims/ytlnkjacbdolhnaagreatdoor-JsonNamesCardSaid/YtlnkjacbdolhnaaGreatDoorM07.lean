/-
  The two tables of JsonNames: what is read, what is printed. No program.
-/
import Derived.Test.YtlnkjacbdolhnaaGreatDoorM06
import Derived.Test.YtlnkjacbdolhnaaGreatDoorM00
import Derived.Test.YtlnkjacbdolhnaaGreatDoorM03
namespace Go.Proofs.YtlnkjacbdolhnaaGreatDoor

def jm1 : ByteArray := ofL (manyB 65 [91])
def jm2 : ByteArray := ofL (manyB 64 [91])
def jm3 : ByteArray := ofL (manyB 64 [93])
def jm4 : ByteArray := ofL (manyB 65535 [49, 44])
def jm5 : ByteArray := ofL (manyB 65534 [49, 44])
def jm6 : ByteArray := ofL (manyB 262144 [32])
def jm7 : ByteArray := ofL (manyB 262145 [32])
def jm8 : ByteArray := ofL (manyB 131071 [10])
def jm9 : ByteArray := ofL (manyB 131072 [10])
def jn0 : ByteArray := ⟨#[34, 92, 117, 100, 56, 51, 52, 34]⟩
def jn1 : ByteArray := ⟨#[91, 49, 44, 93]⟩
def jn2 : ByteArray := ⟨#[123, 34, 97, 34, 58, 49, 44, 34, 97, 34, 58, 50, 125]⟩
def jn3 : ByteArray := ⟨#[48, 49]⟩
def jn4 : ByteArray := jm1
def jn5 : ByteArray := ⟨#[]⟩
def jn6 : ByteArray := ⟨#[49, 101, 57, 57, 57, 57, 57]⟩
def jn7 : ByteArray := jm2 ++ jm3
def jn8 : ByteArray := jm2 ++ ⟨#[49]⟩ ++ jm3
def jn9 : ByteArray := ⟨#[34, 92, 117, 100, 100, 49, 101, 34]⟩
def jn10 : ByteArray := ⟨#[34, 92, 117, 100, 56, 51, 52, 92, 117, 48, 48, 52, 49, 34]⟩
def jn11 : ByteArray := ⟨#[34, 92, 117, 68, 56, 51, 52, 92, 117, 68, 68, 49, 69, 92, 47, 92, 98, 92, 102, 92, 110, 92, 114, 92, 116, 92, 92, 92, 34, 34]⟩
def jn12 : ByteArray := ⟨#[34, 92, 120, 34]⟩
def jn13 : ByteArray := ⟨#[34, 92, 117, 48, 48, 103, 48, 34]⟩
def jn14 : ByteArray := ⟨#[34, 92, 117, 48, 48]⟩
def jn15 : ByteArray := ⟨#[34, 10, 34]⟩
def jn16 : ByteArray := ⟨#[34, 31, 34]⟩
def jn17 : ByteArray := ⟨#[34, 255, 34]⟩
def jn18 : ByteArray := ⟨#[34, 127, 34]⟩
def jn19 : ByteArray := ⟨#[110, 117, 108]⟩
def jn20 : ByteArray := ⟨#[116, 114, 117, 101, 32, 102, 97, 108, 115, 101]⟩
def jn21 : ByteArray := ⟨#[91, 49, 32, 50, 93]⟩
def jn22 : ByteArray := ⟨#[123, 34, 97, 34, 32, 49, 125]⟩
def jn23 : ByteArray := ⟨#[123, 49, 58, 50, 125]⟩
def jn24 : ByteArray := ⟨#[123, 34, 97, 34, 58, 125]⟩
def jn25 : ByteArray := ⟨#[91, 44, 49, 93]⟩
def jn26 : ByteArray := ⟨#[12, 49]⟩
def jn27 : ByteArray := ⟨#[32, 9, 13, 10, 49, 32, 9, 13, 10]⟩
def jn28 : ByteArray := ⟨#[45]⟩
def jn29 : ByteArray := ⟨#[91, 49]⟩
def jn30 : ByteArray := ⟨#[123, 34, 97, 34, 58, 49]⟩
def jn31 : ByteArray := ⟨#[123]⟩
def jn32 : ByteArray := ⟨#[91]⟩ ++ jm4
def jn33 : ByteArray := ⟨#[91]⟩ ++ jm5 ++ ⟨#[49, 93]⟩
def jn34 : ByteArray := jm6
def jn35 : ByteArray := jm7
def jn36 : ByteArray := ⟨#[123, 34, 97, 34, 58, 49, 44, 34, 92, 117, 48, 48, 54, 49, 34, 58, 50, 125]⟩
def nmT1 : List (ByteArray × Int) := [(jn0, 4), (jn1, 4), (jn2, 6), (jn3, 4), (jn4, 61), (jn5, 4), (jn6, 40), (jn7, 0), (jn8, 61), (jn9, 4), (jn10, 4), (jn11, 0), (jn12, 4), (jn13, 4), (jn14, 4), (jn15, 4), (jn16, 4), (jn17, 4), (jn18, 0), (jn19, 4), (jn20, 4), (jn21, 4), (jn22, 4), (jn23, 4), (jn24, 4), (jn25, 4), (jn26, 4), (jn27, 0), (jn28, 4), (jn29, 4), (jn30, 4), (jn31, 4), (jn32, 40), (jn33, 0), (jn34, 4), (jn35, 40), (jn36, 6)]
theorem ofL_data (l : List UInt8) : (ofL l).data.toList = l := by unfold ofL; simp
theorem app_data (a b : ByteArray) : (a ++ b).data.toList = a.data.toList ++ b.data.toList := by rw [ByteArray.data_append, Array.toList_append]
theorem jn0_says : jcode (jparse ownL Lib.validD jn0.data.toList) = 4 := by kernel_rfl
theorem jn1_says : jcode (jparse ownL Lib.validD jn1.data.toList) = 4 := by kernel_rfl
theorem jn2_says : jcode (jparse ownL Lib.validD jn2.data.toList) = 6 := by kernel_rfl
theorem jn3_says : jcode (jparse ownL Lib.validD jn3.data.toList) = 4 := by kernel_rfl
theorem jn4_says : jcode (jparse ownL Lib.validD jn4.data.toList) = 61 := by unfold jn4 jm1; rw [ofL_data]; kernel_rfl
theorem jn5_says : jcode (jparse ownL Lib.validD jn5.data.toList) = 4 := by kernel_rfl
theorem jn6_says : jcode (jparse ownL Lib.validD jn6.data.toList) = 40 := by kernel_rfl
theorem jn7_says : jcode (jparse ownL Lib.validD jn7.data.toList) = 0 := by unfold jn7 jm2 jm3; rw [app_data, ofL_data, ofL_data]; kernel_rfl
theorem jn8_says : jcode (jparse ownL Lib.validD jn8.data.toList) = 61 := by unfold jn8 jm2 jm3; rw [app_data, app_data, ofL_data, ofL_data]; kernel_rfl
theorem jn9_says : jcode (jparse ownL Lib.validD jn9.data.toList) = 4 := by kernel_rfl
theorem jn10_says : jcode (jparse ownL Lib.validD jn10.data.toList) = 4 := by kernel_rfl
theorem jn11_says : jcode (jparse ownL Lib.validD jn11.data.toList) = 0 := by kernel_rfl
theorem jn12_says : jcode (jparse ownL Lib.validD jn12.data.toList) = 4 := by kernel_rfl
theorem jn13_says : jcode (jparse ownL Lib.validD jn13.data.toList) = 4 := by kernel_rfl
theorem jn14_says : jcode (jparse ownL Lib.validD jn14.data.toList) = 4 := by kernel_rfl
theorem jn15_says : jcode (jparse ownL Lib.validD jn15.data.toList) = 4 := by kernel_rfl
theorem jn16_says : jcode (jparse ownL Lib.validD jn16.data.toList) = 4 := by kernel_rfl
theorem jn17_says : jcode (jparse ownL Lib.validD jn17.data.toList) = 4 := by kernel_rfl
theorem jn18_says : jcode (jparse ownL Lib.validD jn18.data.toList) = 0 := by kernel_rfl
theorem jn19_says : jcode (jparse ownL Lib.validD jn19.data.toList) = 4 := by kernel_rfl
theorem jn20_says : jcode (jparse ownL Lib.validD jn20.data.toList) = 4 := by kernel_rfl
theorem jn21_says : jcode (jparse ownL Lib.validD jn21.data.toList) = 4 := by kernel_rfl
theorem jn22_says : jcode (jparse ownL Lib.validD jn22.data.toList) = 4 := by kernel_rfl
theorem jn23_says : jcode (jparse ownL Lib.validD jn23.data.toList) = 4 := by kernel_rfl
theorem jn24_says : jcode (jparse ownL Lib.validD jn24.data.toList) = 4 := by kernel_rfl
theorem jn25_says : jcode (jparse ownL Lib.validD jn25.data.toList) = 4 := by kernel_rfl
theorem jn26_says : jcode (jparse ownL Lib.validD jn26.data.toList) = 4 := by kernel_rfl
theorem jn27_says : jcode (jparse ownL Lib.validD jn27.data.toList) = 0 := by kernel_rfl
theorem jn28_says : jcode (jparse ownL Lib.validD jn28.data.toList) = 4 := by kernel_rfl
theorem jn29_says : jcode (jparse ownL Lib.validD jn29.data.toList) = 4 := by kernel_rfl
theorem jn30_says : jcode (jparse ownL Lib.validD jn30.data.toList) = 4 := by kernel_rfl
theorem jn31_says : jcode (jparse ownL Lib.validD jn31.data.toList) = 4 := by kernel_rfl
theorem jn32_says : jcode (jparse ownL Lib.validD jn32.data.toList) = 40 := by unfold jn32 jm4; rw [app_data, ofL_data]; exact many_ones_great
theorem jn33_says : jcode (jparse ownL Lib.validD jn33.data.toList) = 0 := by unfold jn33 jm5; rw [app_data, app_data, ofL_data]; exact many_ones_ok
theorem jn34_says : jcode (jparse ownL Lib.validD jn34.data.toList) = 4 := by unfold jn34 jm6; rw [ofL_data]; exact blanks_form
theorem jn35_says : jcode (jparse ownL Lib.validD jn35.data.toList) = 40 := by unfold jn35 jm7; rw [ofL_data]; exact blanks_great
theorem jn36_says : jcode (jparse ownL Lib.validD jn36.data.toList) = 6 := by kernel_rfl
theorem nmT1_says : ∀ p ∈ nmT1, jcode (jparse ownL Lib.validD p.1.data.toList) = p.2 := by
  intro p hp
  unfold nmT1 at hp
  simp only [List.mem_cons, List.not_mem_nil, or_false] at hp
  rcases hp with rfl | rfl | rfl | rfl | rfl | rfl | rfl | rfl | rfl | rfl | rfl | rfl | rfl | rfl | rfl | rfl | rfl | rfl | rfl | rfl | rfl | rfl | rfl | rfl | rfl | rfl | rfl | rfl | rfl | rfl | rfl | rfl | rfl | rfl | rfl | rfl | rfl
  · exact jn0_says
  · exact jn1_says
  · exact jn2_says
  · exact jn3_says
  · exact jn4_says
  · exact jn5_says
  · exact jn6_says
  · exact jn7_says
  · exact jn8_says
  · exact jn9_says
  · exact jn10_says
  · exact jn11_says
  · exact jn12_says
  · exact jn13_says
  · exact jn14_says
  · exact jn15_says
  · exact jn16_says
  · exact jn17_says
  · exact jn18_says
  · exact jn19_says
  · exact jn20_says
  · exact jn21_says
  · exact jn22_says
  · exact jn23_says
  · exact jn24_says
  · exact jn25_says
  · exact jn26_says
  · exact jn27_says
  · exact jn28_says
  · exact jn29_says
  · exact jn30_says
  · exact jn31_says
  · exact jn32_says
  · exact jn33_says
  · exact jn34_says
  · exact jn35_says
  · exact jn36_says
def encT1 (p : ByteArray × Int) : List Value := [.string p.1, .int .i64 p.2]
theorem encT1_at : ∀ (l : List (ByteArray × Int)) (i : Nat) p, l[i]? = some p → (l.flatMap encT1)[i * 2]? = some (.string p.1) ∧ (l.flatMap encT1)[i * 2 + 1]? = some (.int .i64 p.2)
  | [], _, _, h => by simp at h
  | y :: l, 0, p, h => by
    simp at h
    subst h
    exact ⟨rfl, rfl⟩
  | y :: l, i + 1, p, h => by
    have ih := encT1_at l i p (by simpa using h)
    rw [List.flatMap_cons, show (i + 1) * 2 = i * 2 + 1 + 1 by omega]
    exact ih
def jv0 : Jsn := deepJ 63
def jv1 : Jsn := deepJ 64
def jv2 : Jsn := wideJ
def jv3 : Jsn := ⟨5, jm8, [], []⟩
def jv4 : Jsn := ⟨5, jm9, [], []⟩
def jv5 : Jsn := ⟨5, jm8 ++ ⟨#[120]⟩, [], []⟩
def jv6 : Jsn := ⟨0, ⟨#[]⟩, [], []⟩
def jv7 : Jsn := ⟨4, ⟨#[49, 46, 53]⟩, [], []⟩
def jv8 : Jsn := ⟨4, ⟨#[49, 48]⟩, [], []⟩
def jv9 : Jsn := ⟨4, ⟨#[49, 101, 49]⟩, [], []⟩
def jv10 : Jsn := ⟨5, ⟨#[255]⟩, [], []⟩
def jv11 : Jsn := ⟨7, ⟨#[]⟩, [⟨#[97]⟩], []⟩
def jv12 : Jsn := ⟨7, ⟨#[]⟩, [⟨#[97]⟩, ⟨#[97]⟩], [⟨4, ⟨#[49]⟩, [], []⟩, ⟨4, ⟨#[49]⟩, [], []⟩]⟩
def jv13 : Jsn := ⟨7, ⟨#[]⟩, [⟨#[255]⟩], [⟨4, ⟨#[49]⟩, [], []⟩]⟩
def jv14 : Jsn := ⟨1, ⟨#[120]⟩, [], []⟩
def jv15 : Jsn := ⟨6, ⟨#[]⟩, [⟨#[97]⟩], []⟩
def jv16 : Jsn := ⟨8, ⟨#[]⟩, [], []⟩
theorem sl_bulk (l : List UInt8) (n : Nat) (h : l.length = n) (hn : n ≤ 999999) : jbulk (strL l) ≤ 1000000 := by rw [str_bulkL, h]; omega
theorem jm8x : jm8 ++ ⟨#[120]⟩ = ofL (manyB 131071 [10] ++ [120]) := by
  apply ByteArray.ext
  apply Array.ext'
  have h := app_data jm8 ⟨#[120]⟩
  rw [h]
  unfold jm8
  rw [ofL_data, ofL_data]
def nmT2 : List (Jsn × Int) := [(jv0, 0), (jv1, 61), (jv2, 40), (jv3, 0), (jv4, 40), (jv5, 40), (jv6, 4), (jv7, 4), (jv8, 4), (jv9, 0), (jv10, 4), (jv11, 4), (jv12, 6), (jv13, 4), (jv14, 4), (jv15, 4), (jv16, 4)]
theorem jv0_says : (jprint ownL Lib.validD jv0).2 = 0 := print_deep
theorem jv0_bulk : jbulk jv0 ≤ 1000000 := by unfold jv0; rw [deep_bulk]; omega
theorem jv1_says : (jprint ownL Lib.validD jv1).2 = 61 := print_deeper
theorem jv1_bulk : jbulk jv1 ≤ 1000000 := by unfold jv1; rw [deep_bulk]; omega
theorem jv2_says : (jprint ownL Lib.validD jv2).2 = 40 := print_wide
theorem jv2_bulk : jbulk jv2 ≤ 1000000 := by unfold jv2; rw [wide_bulk]; omega
theorem jv3_says : (jprint ownL Lib.validD jv3).2 = 0 := print_long
theorem jv3_bulk : jbulk jv3 ≤ 1000000 := sl_bulk (manyB 131071 [10]) 131071 (by rw [manyB_len]; rfl) (by decide)
theorem jv4_says : (jprint ownL Lib.validD jv4).2 = 40 := print_longer
theorem jv4_bulk : jbulk jv4 ≤ 1000000 := sl_bulk (manyB 131072 [10]) 131072 (by rw [manyB_len]; rfl) (by decide)
theorem jv5_says : (jprint ownL Lib.validD jv5).2 = 40 := by unfold jv5; rw [jm8x]; exact print_longx
theorem jv5_bulk : jbulk jv5 ≤ 1000000 := by unfold jv5; rw [jm8x]; exact sl_bulk (manyB 131071 [10] ++ [120]) 131072 (by rw [List.length_append, manyB_len]; rfl) (by decide)
theorem jv6_says : (jprint ownL Lib.validD jv6).2 = 4 := by
  have hc : jcheck ownL Lib.validD jv6 = 4 := by
    unfold jcheck jv6
    simp only [jdeep_eq, jcount_eq, jform_eq, jtwice_eq, jdeeps_nil, jcounts_nil, List.all_nil, List.any_nil]
    kernel_rfl
  rw [print_of (by rw [hc]; decide), hc]
theorem jv6_bulk : jbulk jv6 ≤ 1000000 := by unfold jv6; simp only [jbulk_eq, jbulks, List.map_nil]; decide +kernel
theorem jv7_says : (jprint ownL Lib.validD jv7).2 = 4 := by
  have hc : jcheck ownL Lib.validD jv7 = 4 := by
    unfold jcheck jv7
    simp only [jdeep_eq, jcount_eq, jform_eq, jtwice_eq, jdeeps_nil, jcounts_nil, List.all_nil, List.any_nil]
    kernel_rfl
  rw [print_of (by rw [hc]; decide), hc]
theorem jv7_bulk : jbulk jv7 ≤ 1000000 := by unfold jv7; simp only [jbulk_eq, jbulks, List.map_nil]; decide +kernel
theorem jv8_says : (jprint ownL Lib.validD jv8).2 = 4 := by
  have hc : jcheck ownL Lib.validD jv8 = 4 := by
    unfold jcheck jv8
    simp only [jdeep_eq, jcount_eq, jform_eq, jtwice_eq, jdeeps_nil, jcounts_nil, List.all_nil, List.any_nil]
    kernel_rfl
  rw [print_of (by rw [hc]; decide), hc]
theorem jv8_bulk : jbulk jv8 ≤ 1000000 := by unfold jv8; simp only [jbulk_eq, jbulks, List.map_nil]; decide +kernel
theorem jv9_says : (jprint ownL Lib.validD jv9).2 = 0 := by
  have hc : jcheck ownL Lib.validD jv9 = 0 := by
    unfold jcheck jv9
    simp only [jdeep_eq, jcount_eq, jform_eq, jtwice_eq]
    kernel_rfl
  unfold jprint
  rw [if_neg (by rw [hc]; decide), if_neg (by unfold jv9; rw [jtext_eq]; decide +kernel)]
theorem jv9_bulk : jbulk jv9 ≤ 1000000 := by unfold jv9; simp only [jbulk_eq, jbulks, List.map_nil]; decide +kernel
theorem jv10_says : (jprint ownL Lib.validD jv10).2 = 4 := by
  have hc : jcheck ownL Lib.validD jv10 = 4 := by
    unfold jcheck jv10
    simp only [jdeep_eq, jcount_eq, jform_eq, jtwice_eq, jdeeps_nil, jcounts_nil, List.all_nil, List.any_nil]
    kernel_rfl
  rw [print_of (by rw [hc]; decide), hc]
theorem jv10_bulk : jbulk jv10 ≤ 1000000 := by unfold jv10; simp only [jbulk_eq, jbulks, List.map_nil]; decide +kernel
theorem jv11_says : (jprint ownL Lib.validD jv11).2 = 4 := by
  have hc : jcheck ownL Lib.validD jv11 = 4 := by
    unfold jcheck jv11
    simp only [jdeep_eq, jcount_eq, jform_eq, jtwice_eq, jdeeps_nil, jcounts_nil, List.all_cons, List.all_nil, List.any_nil]
    kernel_rfl
  rw [print_of (by rw [hc]; decide), hc]
theorem jv11_bulk : jbulk jv11 ≤ 1000000 := by unfold jv11; simp only [jbulk_eq, jbulks, List.map_cons, List.map_nil]; decide +kernel
theorem jv12_says : (jprint ownL Lib.validD jv12).2 = 6 := by
  have hc : jcheck ownL Lib.validD jv12 = 6 := by
    unfold jcheck jv12
    simp only [jdeep_eq, jcount_eq, jform_eq, jtwice_eq, jdeeps_cons, jdeeps_nil, jcounts_cons, jcounts_nil, List.all_cons, List.all_nil, List.any_cons, List.any_nil]
    kernel_rfl
  rw [print_of (by rw [hc]; decide), hc]
theorem jv12_bulk : jbulk jv12 ≤ 1000000 := by unfold jv12; simp only [jbulk_eq, jbulks, List.map_cons, List.map_nil]; decide +kernel
theorem jv13_says : (jprint ownL Lib.validD jv13).2 = 4 := by
  have hc : jcheck ownL Lib.validD jv13 = 4 := by
    unfold jcheck jv13
    simp only [jdeep_eq, jcount_eq, jform_eq, jtwice_eq, jdeeps_cons, jdeeps_nil, jcounts_cons, jcounts_nil, List.all_cons, List.all_nil, List.any_cons, List.any_nil]
    kernel_rfl
  rw [print_of (by rw [hc]; decide), hc]
theorem jv13_bulk : jbulk jv13 ≤ 1000000 := by unfold jv13; simp only [jbulk_eq, jbulks, List.map_cons, List.map_nil]; decide +kernel
theorem jv14_says : (jprint ownL Lib.validD jv14).2 = 4 := by
  have hc : jcheck ownL Lib.validD jv14 = 4 := by
    unfold jcheck jv14
    simp only [jdeep_eq, jcount_eq, jform_eq, jtwice_eq, jdeeps_nil, jcounts_nil, List.all_nil, List.any_nil]
    kernel_rfl
  rw [print_of (by rw [hc]; decide), hc]
theorem jv14_bulk : jbulk jv14 ≤ 1000000 := by unfold jv14; simp only [jbulk_eq, jbulks, List.map_nil]; decide +kernel
theorem jv15_says : (jprint ownL Lib.validD jv15).2 = 4 := by
  have hc : jcheck ownL Lib.validD jv15 = 4 := by
    unfold jcheck jv15
    simp only [jdeep_eq, jcount_eq, jform_eq, jtwice_eq, jdeeps_nil, jcounts_nil, List.all_cons, List.all_nil, List.any_nil]
    kernel_rfl
  rw [print_of (by rw [hc]; decide), hc]
theorem jv15_bulk : jbulk jv15 ≤ 1000000 := by unfold jv15; simp only [jbulk_eq, jbulks, List.map_cons, List.map_nil]; decide +kernel
theorem jv16_says : (jprint ownL Lib.validD jv16).2 = 4 := by
  have hc : jcheck ownL Lib.validD jv16 = 4 := by
    unfold jcheck jv16
    simp only [jdeep_eq, jcount_eq, jform_eq, jtwice_eq, jdeeps_nil, jcounts_nil, List.all_nil, List.any_nil]
    kernel_rfl
  rw [print_of (by rw [hc]; decide), hc]
theorem jv16_bulk : jbulk jv16 ≤ 1000000 := by unfold jv16; simp only [jbulk_eq, jbulks, List.map_nil]; decide +kernel
theorem nmT2_says : ∀ p ∈ nmT2, (jprint ownL Lib.validD p.1).2 = p.2 ∧ jbulk p.1 ≤ 1000000 := by
  intro p hp
  unfold nmT2 at hp
  simp only [List.mem_cons, List.not_mem_nil, or_false] at hp
  rcases hp with rfl | rfl | rfl | rfl | rfl | rfl | rfl | rfl | rfl | rfl | rfl | rfl | rfl | rfl | rfl | rfl | rfl
  · exact ⟨jv0_says, jv0_bulk⟩
  · exact ⟨jv1_says, jv1_bulk⟩
  · exact ⟨jv2_says, jv2_bulk⟩
  · exact ⟨jv3_says, jv3_bulk⟩
  · exact ⟨jv4_says, jv4_bulk⟩
  · exact ⟨jv5_says, jv5_bulk⟩
  · exact ⟨jv6_says, jv6_bulk⟩
  · exact ⟨jv7_says, jv7_bulk⟩
  · exact ⟨jv8_says, jv8_bulk⟩
  · exact ⟨jv9_says, jv9_bulk⟩
  · exact ⟨jv10_says, jv10_bulk⟩
  · exact ⟨jv11_says, jv11_bulk⟩
  · exact ⟨jv12_says, jv12_bulk⟩
  · exact ⟨jv13_says, jv13_bulk⟩
  · exact ⟨jv14_says, jv14_bulk⟩
  · exact ⟨jv15_says, jv15_bulk⟩
  · exact ⟨jv16_says, jv16_bulk⟩
def marksS : ByteArray := ⟨#[0, 31, 127, 47, 34, 92, 8, 12, 10, 13, 9]⟩
def marksT : ByteArray := ⟨#[34, 92, 117, 48, 48, 48, 48, 92, 117, 48, 48, 49, 102, 127, 47, 92, 34, 92, 92, 92, 98, 92, 102, 92, 110, 92, 114, 92, 116, 34]⟩
theorem marks_print : jprint ownL Lib.validD ⟨5, marksS, [], []⟩ = (marksT.data.toList, 0) := by
  have hc : jcheck ownL Lib.validD ⟨5, marksS, [], []⟩ = 0 := by
    unfold jcheck
    simp only [jdeep_eq, jcount_eq, jform_eq, jtwice_eq]
    kernel_rfl
  unfold jprint
  have e : jtext ⟨5, marksS, [], []⟩ = marksT.data.toList := by rw [jtext_eq]; kernel_rfl
  rw [hc, if_neg (by decide), e, if_neg (by decide +kernel)]
theorem check_long : jcheck ownL Lib.validD (strL (manyB 131071 [10])) = 0 := str_check (lines_low _)
theorem nm_cells1 {w : World} {b : Nat} {t : TypeId} (h : Cel w b t (nmT1.flatMap encT1).toArray) {q : Nat} {p : ByteArray × Int} (hp : nmT1[q]? = some p) : w.cell? ⟨b, q * 2, none⟩ = some (.string p.1) ∧ w.cell? ⟨b, q * 2 + 1, none⟩ = some (.int .i64 p.2) := by
  obtain ⟨h1, h2⟩ := encT1_at nmT1 q p hp
  rw [h.cell, h.cell]
  exact ⟨by simpa using h1, by simpa using h2⟩
end Go.Proofs.YtlnkjacbdolhnaaGreatDoor


/-
  Words for memory: from one world to another nothing of what lay below B was turned but one block. No program.
-/
namespace Go.Proofs.YtlnkjacbdolhnaaGreatDoor
open Go.RowKit

/-- From w to w' nothing below B was turned but block b. -/
structure But (B b : Nat) (w w' : World) : Prop where
  os : w'.os = w.os
  tape : w'.tape = w.tape
  output : w'.output = w.output
  size : w.heap.size ≤ w'.heap.size
  block : ∀ k, k < B → k ≠ b → w'.heap[k]? = w.heap[k]?
section
variable {B b : Nat} {w w' w1 w2 : World}
theorem But.refl (B b : Nat) (w : World) : But B b w w := ⟨rfl, rfl, rfl, Nat.le_refl _, fun _ _ _ => rfl⟩
theorem But.trans (h : But B b w w1) (k : But B b w1 w2) : But B b w w2 :=
  ⟨k.os.trans h.os, k.tape.trans h.tape, k.output.trans h.output, Nat.le_trans h.size k.size, fun i hi hb => (k.block i hi hb).trans (h.block i hi hb)⟩
theorem But.mono {B' : Nat} (h : But B b w w') (hB : B' ≤ B) : But B' b w w' := ⟨h.os, h.tape, h.output, h.size, fun k hk => h.block k (Nat.lt_of_lt_of_le hk hB)⟩
theorem But.of (h : Below B w w') : But B b w w' := ⟨h.os, h.tape, h.output, h.size, fun k hk _ => h.block k hk⟩
theorem But.below (h : But B b w w') {C : Nat} (hb : C ≤ b) (hC : C ≤ B) : Below C w w' := ⟨h.os, h.tape, h.output, h.size, fun k hk => h.block k (by omega) (by omega)⟩
theorem But.set (h : But B b w w') (i : Nat) (u : Value) : But B b w (w'.setCell ⟨b, i, none⟩ u) :=
  ⟨h.os, h.tape, h.output, by simpa using h.size, fun k hk hb => (Below.heap_setCell w' _ u k hb).trans (h.block k hk hb)⟩
theorem But.setCell (h : But B b w w') {p : Addr} (hp : B ≤ p.block) (u : Value) : But B b w (w'.setCell p u) :=
  ⟨h.os, h.tape, h.output, by simpa using h.size, fun k hk hb => (Below.heap_setCell w' _ u k (by omega)).trans (h.block k hk hb)⟩
theorem But.alloc (h : But B b w w') (hB : B ≤ w'.heap.size) (o : Obj) : But B b w (w'.alloc o) := h.trans (But.of ((Below.refl _ _).alloc hB _))
theorem But.drew (h : But B b w w') : But B b w w'.drew := ⟨h.os, h.tape, h.output, h.size, h.block⟩
theorem But.drewN (h : But B b w w') (n : Nat) : But B b w (w'.drewN n) := ⟨h.os, h.tape, h.output, h.size, h.block⟩
theorem But.grown {row : Option Nat} (h : But B b w w') (hg : w'.grownBy w1 row) (hB : B ≤ w'.heap.size) (hr : ∀ k, row = some k → B ≤ k) : But B b w w1 := h.trans (But.of (Below.grown (Below.refl _ _) hg hB hr))
theorem But.cell (h : But B b w w') {p : Addr} (hp : p.block < B) (hb : p.block ≠ b) : w'.cell? p = w.cell? p := World.cell?_of_block (w := w) (h.block p.block hp hb)
theorem But.frozen (h : But B b w w') {p : Addr} (hp : p.block < B) (hb : p.block ≠ b) : w'.frozen? p = w.frozen? p := World.frozen?_of_block (w := w) (h.block p.block hp hb)
theorem Cel.but {c : Nat} {t : TypeId} {cs : Array Value} (hc : Cel w c t cs) (h : But B b w w') (hB : c < B) (hb : c ≠ b) : Cel w' c t cs := (h.block c hB hb).trans hc
end
end Go.Proofs.YtlnkjacbdolhnaaGreatDoor


/-
  JSON values as they lie in memory: read only; and of the call's own, each value within in an interval of blocks of its own. No program.
-/
namespace Go.Proofs.YtlnkjacbdolhnaaGreatDoor
open Go.RowKit

/-- A slice of strings that reads as this list; its array lies in a block of X. -/
def StrL (w : World) (X : Nat → Prop) (v : Value) (L : List ByteArray) : Prop :=
  ∃ A c, v = .slice A L.length c ∧ (0 < L.length → ∃ g o, A = some ⟨g, o, none⟩ ∧ X g ∧ g < w.heap.size ∧ ∀ j x, L[j]? = some x → w.cell? ⟨g, o + j, none⟩ = some (.string x))

/-- A value as it lies: it, the slice of its names, the slice of its list. -/
abbrev JE := Jsn × Value × Value
def encJ (z : JE) : List Value := [.int .u8 z.1.kind, .string z.1.text, z.2.1, z.2.2]
theorem encJ_len (z : JE) : (encJ z).length = 4 := rfl

/-- What the list's cells are, the children told by predicates. -/
def JCp (w : World) (g : Nat) : Nat → List (Jsn × (Value → Value → Prop)) → Prop
  | _, [] => True
  | o, x :: r => (∃ vn vl, (∀ (i : Nat) (u : Value), (encJ (x.1, vn, vl))[i]? = some u → w.cell? ⟨g, o + i, none⟩ = some u) ∧ x.2 vn vl) ∧ JCp w g (o + 4) r
/-- These two slices are a value's names and list; all its arrays lie in blocks of X. -/
def JV (w : World) (X : Nat → Prop) : Jsn → Value → Value → Prop := Jsn.para fun k _ ns l vn vl =>
  0 ≤ k ∧ k ≤ 255 ∧ StrL w X vn ns ∧ ∃ A c, vl = .slice A l.length c ∧ (0 < l.length → ∃ g o, A = some ⟨g, o, none⟩ ∧ X g ∧ g < w.heap.size ∧ JCp w g o l)
def JC (w : World) (X : Nat → Prop) (g o : Nat) (l : List Jsn) : Prop := JCp w g o (l.map fun x => (x, JV w X x))
theorem JV_eq (w : World) (X : Nat → Prop) (k : Int) (s : ByteArray) (ns : List ByteArray) (l : List Jsn) (vn vl : Value) : JV w X ⟨k, s, ns, l⟩ vn vl =
    (0 ≤ k ∧ k ≤ 255 ∧ StrL w X vn ns ∧ ∃ A c, vl = .slice A l.length c ∧ (0 < l.length → ∃ g o, A = some ⟨g, o, none⟩ ∧ X g ∧ g < w.heap.size ∧ JC w X g o l)) := by
  conv => lhs; unfold JV
  rw [Jsn.para_eq, List.length_map]
  rfl
theorem JC_cons (w : World) (X : Nat → Prop) (g o : Nat) (x : Jsn) (r : List Jsn) : JC w X g o (x :: r) =
    ((∃ vn vl, (∀ (i : Nat) (u : Value), (encJ (x, vn, vl))[i]? = some u → w.cell? ⟨g, o + i, none⟩ = some u) ∧ JV w X x vn vl) ∧ JC w X g (o + 4) r) := rfl

theorem JC.elems {w : World} {X : Nat → Prop} {g : Nat} : ∀ {l : List Jsn} {o : Nat}, JC w X g o l →
    ∃ zs : List JE, zs.map (·.1) = l ∧ (∀ z ∈ zs, JV w X z.1 z.2.1 z.2.2) ∧ ∀ j z, zs[j]? = some z → ∀ (i : Nat) (u : Value), (encJ z)[i]? = some u → w.cell? ⟨g, o + j * 4 + i, none⟩ = some u
  | [], _, _ => ⟨[], rfl, (fun _ h => by cases h), (fun _ _ h => by simp at h)⟩
  | x :: r, o, h => by
    rw [JC_cons] at h
    obtain ⟨⟨vn, vl, hc, hv⟩, hr⟩ := h
    obtain ⟨zs, h1, h2, h3⟩ := JC.elems hr
    refine ⟨(x, vn, vl) :: zs, by simp [h1], fun z hz => ?_, fun j z hz i u hu => ?_⟩
    · rcases List.mem_cons.1 hz with rfl | hz
      · exact hv
      · exact h2 z hz
    · cases j with
      | zero =>
        simp at hz; subst hz
        have := hc i u hu
        simpa using this
      | succ j =>
        have := h3 j z (by simpa using hz) i u hu
        rwa [show o + 4 + j * 4 + i = o + (j + 1) * 4 + i by omega] at this
theorem JC.of_elems {w : World} {X : Nat → Prop} {g : Nat} : ∀ (zs : List JE) (o : Nat), (∀ z ∈ zs, JV w X z.1 z.2.1 z.2.2) → (∀ j z, zs[j]? = some z → ∀ (i : Nat) (u : Value), (encJ z)[i]? = some u → w.cell? ⟨g, o + j * 4 + i, none⟩ = some u) → JC w X g o (zs.map (·.1))
  | [], _, _, _ => trivial
  | z :: zs, o, h2, h3 => by
    rw [List.map_cons, JC_cons]
    refine ⟨⟨z.2.1, z.2.2, fun i u hu => ?_, h2 z (by simp)⟩, JC.of_elems zs (o + 4) (fun y hy => h2 y (by simp [hy])) fun j y hy i u hu => ?_⟩
    · have := h3 0 z rfl i u hu
      simpa using this
    · have := h3 (j + 1) y (by simpa using hy) i u hu
      rwa [show o + 4 + j * 4 + i = o + (j + 1) * 4 + i by omega]

/-- What a value's list is: its elements as they lie. -/
theorem JV.elems {w : World} {X : Nat → Prop} {k : Int} {s : ByteArray} {ns : List ByteArray} {l : List Jsn} {vn vl : Value} (h : JV w X (.mk k s ns l) vn vl) :
    ∃ (A : Option Addr) (c : Nat) (zs : List JE), vl = .slice A zs.length c ∧ zs.map (·.1) = l ∧ (∀ z ∈ zs, JV w X z.1 z.2.1 z.2.2) ∧
      (0 < zs.length → ∃ g o, A = some ⟨g, o, none⟩ ∧ X g ∧ g < w.heap.size ∧ ∀ j z, zs[j]? = some z → ∀ (i : Nat) (u : Value), (encJ z)[i]? = some u → w.cell? ⟨g, o + j * 4 + i, none⟩ = some u) := by
  rw [JV_eq] at h
  obtain ⟨_, _, _, A, c, rfl, hl⟩ := h
  by_cases hp : 0 < l.length
  · obtain ⟨g, o, rfl, hX, hg, hC⟩ := hl hp
    obtain ⟨zs, h1, h2, h3⟩ := hC.elems
    have hlen : zs.length = l.length := by rw [← h1, List.length_map]
    exact ⟨_, c, zs, by rw [hlen], h1, h2, fun _ => ⟨g, o, rfl, hX, hg, h3⟩⟩
  · have : l = [] := List.eq_nil_of_length_eq_zero (by omega)
    subst this
    exact ⟨A, c, [], rfl, rfl, (fun _ h => by cases h), (fun h => by simp at h)⟩
theorem JV.names {w : World} {X : Nat → Prop} {j : Jsn} {vn vl : Value} (h : JV w X j vn vl) : StrL w X vn j.names := by
  obtain ⟨k, s, n, l⟩ := j; rw [JV_eq] at h; exact h.2.2.1
theorem JV.kind {w : World} {X : Nat → Prop} {j : Jsn} {vn vl : Value} (h : JV w X j vn vl) : 0 ≤ j.kind ∧ j.kind ≤ 255 := by
  obtain ⟨k, s, n, l⟩ := j; rw [JV_eq] at h; exact ⟨h.1, h.2.1⟩
theorem JV.forms {w : World} {X : Nat → Prop} {j : Jsn} {vn vl : Value} (h : JV w X j vn vl) : ∃ A n c A' n' c', vn = .slice A n c ∧ vl = .slice A' n' c' := by
  obtain ⟨k, s, n, l⟩ := j; rw [JV_eq] at h
  obtain ⟨_, _, ⟨A, c, h1, _⟩, A', c', h2, _⟩ := h
  exact ⟨A, _, c, A', _, c', h1, h2⟩
theorem JV.of_elems {w : World} {X : Nat → Prop} {k : Int} {s : ByteArray} {ns : List ByteArray} {vn : Value} {A : Option Addr} {c : Nat} {zs : List JE} {l : List Jsn} (hk0 : 0 ≤ k) (hk1 : k ≤ 255) (hn : StrL w X vn ns) (hz : zs.map (·.1) = l) (h2 : ∀ z ∈ zs, JV w X z.1 z.2.1 z.2.2)
    (h3 : 0 < zs.length → ∃ g o, A = some ⟨g, o, none⟩ ∧ X g ∧ g < w.heap.size ∧ ∀ j z, zs[j]? = some z → ∀ (i : Nat) (u : Value), (encJ z)[i]? = some u → w.cell? ⟨g, o + j * 4 + i, none⟩ = some u) :
    JV w X (.mk k s ns l) vn (.slice A zs.length c) := by
  subst hz
  rw [JV_eq]
  refine ⟨hk0, hk1, hn, A, c, by rw [List.length_map], fun hp => ?_⟩
  obtain ⟨g, o, q1, q2, q3, q4⟩ := h3 (by simpa using hp)
  exact ⟨g, o, q1, q2, q3, JC.of_elems zs o h2 q4⟩

section
variable {w w' : World} {X Y : Nat → Prop}
theorem StrL.keep {v : Value} {L : List ByteArray} (h : StrL w X v L) (hs : w.heap.size ≤ w'.heap.size) (hk : ∀ p : Addr, X p.block → p.block < w.heap.size → w'.cell? p = w.cell? p) (hXY : ∀ b, X b → b < w.heap.size → Y b) : StrL w' Y v L := by
  obtain ⟨A, c, rfl, h1⟩ := h
  refine ⟨A, c, rfl, fun hp => ?_⟩
  obtain ⟨g, o, rfl, q1, q2, q3⟩ := h1 hp
  exact ⟨g, o, rfl, hXY _ q1 q2, Nat.lt_of_lt_of_le q2 hs, fun j x hx => (hk _ q1 q2).trans (q3 j x hx)⟩
theorem JV.keep (hs : w.heap.size ≤ w'.heap.size) (hk : ∀ p : Addr, X p.block → p.block < w.heap.size → w'.cell? p = w.cell? p) (hXY : ∀ b, X b → b < w.heap.size → Y b) : ∀ (j : Jsn) {vn vl : Value}, JV w X j vn vl → JV w' Y j vn vl := by
  refine Jsn.ind ?_
  intro k s n l ih vn vl h
  have hn := h.names
  have hkd := h.kind
  obtain ⟨A, c, zs, rfl, hz, h2, h3⟩ := h.elems
  refine JV.of_elems hkd.1 hkd.2 (hn.keep hs hk hXY) hz (fun z hz' => ih z.1 (by rw [← hz]; exact List.mem_map_of_mem hz') (h2 z hz')) fun hp => ?_
  obtain ⟨g, o, rfl, q1, q2, q3⟩ := h3 hp
  exact ⟨g, o, rfl, hXY _ q1 q2, Nat.lt_of_lt_of_le q2 hs, fun j z hz' i u hu => (hk _ q1 q2).trans (q3 j z hz' i u hu)⟩
theorem JV.below {B : Nat} {j : Jsn} {vn vl : Value} (h : JV w X j vn vl) (hb : Below B w w') (hX : ∀ b, X b → b < w.heap.size → b < B) : JV w' X j vn vl :=
  JV.keep hb.size (fun _p h1 h2 => hb.cell (hX _ h1 h2)) (fun _ h _ => h) j h
theorem JV.more {j : Jsn} {vn vl : Value} (h : JV w X j vn vl) (hXY : ∀ b, X b → b < w.heap.size → Y b) : JV w Y j vn vl := JV.keep (Nat.le_refl _) (fun _ _ _ => rfl) hXY j h
theorem JV.later {j : Jsn} {vn vl : Value} (h : JV w X j vn vl) (hb : Below w.heap.size w w') : JV w' X j vn vl := h.below hb (fun _ _ h => h)
theorem JV.alloc {j : Jsn} {vn vl : Value} (h : JV w X j vn vl) (o : Obj) : JV (w.alloc o) X j vn vl := JV.keep (by simp) (fun p _ hp => World.cell?_alloc_lt w o p hp) (fun _ h _ => h) j h
theorem JV.drew {j : Jsn} {vn vl : Value} (h : JV w X j vn vl) : JV w.drew X j vn vl := JV.keep (w := w) (w' := w.drew) (Nat.le_refl _) (fun _ _ _ => rfl) (fun _ h _ => h) j h
theorem JV.drewN {j : Jsn} {vn vl : Value} (h : JV w X j vn vl) (n : Nat) : JV (w.drewN n) X j vn vl := JV.keep (w := w) (w' := w.drewN n) (Nat.le_refl _) (fun _ _ _ => rfl) (fun _ h _ => h) j h
theorem StrL.later {v : Value} {L : List ByteArray} (h : StrL w X v L) (hb : Below w.heap.size w w') : StrL w' X v L := h.keep hb.size (fun _p _ hp => hb.cell hp) (fun _ h _ => h)
end
end Go.Proofs.YtlnkjacbdolhnaaGreatDoor
