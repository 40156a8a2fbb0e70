/-
  The eleven programs that the reference draws from, plain.
-/
import Derived.Test.YtognkaebiafgbaaMu30
namespace Go.Proofs.Ytognkaebiafgbaa
open Go.RowKit
set_option linter.unusedVariables false
def tV (n : Int) : Tm := .mk 1 n ⟨#[]⟩ []
def tI (n : Int) : Tm := .mk 2 n ⟨#[]⟩ []
def tS (s : List UInt8) (ks : List Tm) : Tm := .mk 3 0 ⟨s.toArray⟩ ks
def pr0 : List Cl := [⟨(tS [97, 112, 112] [(tS [91, 93] []), (tV 0), (tV 0)]), []⟩, ⟨(tS [97, 112, 112] [(tS [46] [(tV 0), (tV 1)]), (tV 2), (tS [46] [(tV 0), (tV 3)])]), [(tS [97, 112, 112] [(tV 1), (tV 2), (tV 3)])]⟩]
def px0 : List UInt8 := [97, 112, 112, 40, 91, 93, 44, 65, 44, 65, 41, 46, 10, 97, 112, 112, 40, 91, 65, 124, 66, 93, 44, 67, 44, 91, 65, 124, 68, 93, 41, 58, 45, 97, 112, 112, 40, 66, 44, 67, 44, 68, 41, 46, 10]
def pr1 : List Cl := [⟨(tS [109, 101, 109] [(tV 0), (tS [46] [(tV 0), (tV 1)])]), []⟩, ⟨(tS [109, 101, 109] [(tV 0), (tS [46] [(tV 1), (tV 2)])]), [(tS [109, 101, 109] [(tV 0), (tV 2)])]⟩]
def px1 : List UInt8 := [109, 101, 109, 40, 65, 44, 91, 65, 124, 66, 93, 41, 46, 10, 109, 101, 109, 40, 65, 44, 91, 66, 124, 67, 93, 41, 58, 45, 109, 101, 109, 40, 65, 44, 67, 41, 46, 10]
def pr2 : List Cl := [⟨(tS [112] [(tI 1)]), []⟩, ⟨(tS [112] [(tI 2)]), []⟩, ⟨(tS [112] [(tI 3)]), []⟩, ⟨(tS [113] [(tV 0)]), [(tS [112] [(tV 0)]), (tS [62] [(tV 0), (tI 1)]), (tS [33] [])]⟩, ⟨(tS [114] [(tV 0), (tV 1)]), [(tS [112] [(tV 0)]), (tS [112] [(tV 1)])]⟩]
def px2 : List UInt8 := [112, 40, 49, 41, 46, 10, 112, 40, 50, 41, 46, 10, 112, 40, 51, 41, 46, 10, 113, 40, 65, 41, 58, 45, 112, 40, 65, 41, 44, 65, 62, 49, 44, 33, 46, 10, 114, 40, 65, 44, 66, 41, 58, 45, 112, 40, 65, 41, 44, 112, 40, 66, 41, 46, 10]
def pr3 : List Cl := [⟨(tS [108, 101, 110] [(tS [91, 93] []), (tI 0)]), []⟩, ⟨(tS [108, 101, 110] [(tS [46] [(tV 0), (tV 1)]), (tV 2)]), [(tS [108, 101, 110] [(tV 1), (tV 3)]), (tS [105, 115] [(tV 2), (tS [43] [(tV 3), (tI 1)])])]⟩]
def px3 : List UInt8 := [108, 101, 110, 40, 91, 93, 44, 48, 41, 46, 10, 108, 101, 110, 40, 91, 65, 124, 66, 93, 44, 67, 41, 58, 45, 108, 101, 110, 40, 66, 44, 68, 41, 44, 67, 32, 105, 115, 32, 68, 43, 49, 46, 10]
def pr4 : List Cl := [⟨(tS [109, 97, 120] [(tV 0), (tV 1), (tV 0)]), [(tS [62, 61] [(tV 0), (tV 1)]), (tS [33] [])]⟩, ⟨(tS [109, 97, 120] [(tV 0), (tV 1), (tV 1)]), []⟩]
def px4 : List UInt8 := [109, 97, 120, 40, 65, 44, 66, 44, 65, 41, 58, 45, 65, 62, 61, 66, 44, 33, 46, 10, 109, 97, 120, 40, 65, 44, 66, 44, 66, 41, 46, 10]
def pr5 : List Cl := [⟨(tS [101] [(tS [97] []), (tS [98] [])]), []⟩, ⟨(tS [101] [(tS [98] []), (tS [99] [])]), []⟩, ⟨(tS [101] [(tS [99] []), (tS [100] [])]), []⟩, ⟨(tS [116] [(tV 0), (tV 1)]), [(tS [101] [(tV 0), (tV 1)])]⟩, ⟨(tS [116] [(tV 0), (tV 1)]), [(tS [101] [(tV 0), (tV 2)]), (tS [116] [(tV 2), (tV 1)])]⟩]
def px5 : List UInt8 := [101, 40, 97, 44, 98, 41, 46, 10, 101, 40, 98, 44, 99, 41, 46, 10, 101, 40, 99, 44, 100, 41, 46, 10, 116, 40, 65, 44, 66, 41, 58, 45, 101, 40, 65, 44, 66, 41, 46, 10, 116, 40, 65, 44, 66, 41, 58, 45, 101, 40, 65, 44, 67, 41, 44, 116, 40, 67, 44, 66, 41, 46, 10]
def pr6 : List Cl := [⟨(tS [108, 111, 111, 112] []), [(tS [108, 111, 111, 112] [])]⟩, ⟨(tS [111, 107] []), []⟩]
def px6 : List UInt8 := [108, 111, 111, 112, 58, 45, 108, 111, 111, 112, 46, 10, 111, 107, 46, 10]
def pr7 : List Cl := [⟨(tS [102, 97, 99] [(tI 0), (tI 1)]), [(tS [33] [])]⟩, ⟨(tS [102, 97, 99] [(tV 0), (tV 1)]), [(tS [62] [(tV 0), (tI 0)]), (tS [105, 115] [(tV 2), (tS [45] [(tV 0), (tI 1)])]), (tS [102, 97, 99] [(tV 2), (tV 3)]), (tS [105, 115] [(tV 1), (tS [42] [(tV 0), (tV 3)])])]⟩]
def px7 : List UInt8 := [102, 97, 99, 40, 48, 44, 49, 41, 58, 45, 33, 46, 10, 102, 97, 99, 40, 65, 44, 66, 41, 58, 45, 65, 62, 48, 44, 67, 32, 105, 115, 32, 65, 45, 49, 44, 102, 97, 99, 40, 67, 44, 68, 41, 44, 66, 32, 105, 115, 32, 65, 42, 68, 46, 10]
def pr8 : List Cl := [⟨(tS [115] [(tV 0)]), [(tS [61] [(tV 0), (tS [102] [(tV 1)])]), (tS [97, 114, 103] [(tI 1), (tV 0), (tV 1)]), (tS [61] [(tV 1), (tI 1)])]⟩, ⟨(tS [115] [(tV 0)]), [(tS [118, 97, 114] [(tV 0)]), (tS [61] [(tV 0), (tS [110, 111, 110, 101] [])])]⟩]
def px8 : List UInt8 := [115, 40, 65, 41, 58, 45, 65, 61, 102, 40, 66, 41, 44, 97, 114, 103, 40, 49, 44, 65, 44, 66, 41, 44, 66, 61, 49, 46, 10, 115, 40, 65, 41, 58, 45, 118, 97, 114, 40, 65, 41, 44, 65, 61, 110, 111, 110, 101, 46, 10]
def pr9 : List Cl := [⟨(tS [114, 101, 118] [(tS [91, 93] []), (tV 0), (tV 0)]), []⟩, ⟨(tS [114, 101, 118] [(tS [46] [(tV 0), (tV 1)]), (tV 2), (tV 3)]), [(tS [114, 101, 118] [(tV 1), (tS [46] [(tV 0), (tV 2)]), (tV 3)])]⟩]
def px9 : List UInt8 := [114, 101, 118, 40, 91, 93, 44, 65, 44, 65, 41, 46, 10, 114, 101, 118, 40, 91, 65, 124, 66, 93, 44, 67, 44, 68, 41, 58, 45, 114, 101, 118, 40, 66, 44, 91, 65, 124, 67, 93, 44, 68, 41, 46, 10]
def pr10 : List Cl := [⟨(tS [98, 97, 100] [(tV 0)]), [(tS [105, 115] [(tV 1), (tS [43] [(tV 0), (tS [102, 111, 111] [])])]), (tS [61] [(tV 2), (tV 1)])]⟩, ⟨(tS [98, 105, 103] [(tV 0)]), [(tS [105, 115] [(tV 0), (tS [43] [(tI 999), (tI 1)])])]⟩, ⟨(tS [117, 110] [(tV 0)]), [(tS [110, 111, 115, 117, 99, 104] [(tV 0)])]⟩]
def px10 : List UInt8 := [98, 97, 100, 40, 65, 41, 58, 45, 66, 32, 105, 115, 32, 65, 43, 102, 111, 111, 44, 67, 61, 66, 46, 10, 98, 105, 103, 40, 65, 41, 58, 45, 65, 32, 105, 115, 32, 57, 57, 57, 43, 49, 46, 10, 117, 110, 40, 65, 41, 58, 45, 110, 111, 115, 117, 99, 104, 40, 65, 41, 46, 10]
set_option maxRecDepth 100000 in
theorem pt0 : prTxt pr0 = px0 := by decide +kernel
set_option maxRecDepth 100000 in
theorem pv0 : prValidF pr0 = true := by decide +kernel
set_option maxRecDepth 100000 in
theorem pt1 : prTxt pr1 = px1 := by decide +kernel
set_option maxRecDepth 100000 in
theorem pv1 : prValidF pr1 = true := by decide +kernel
set_option maxRecDepth 100000 in
theorem pt2 : prTxt pr2 = px2 := by decide +kernel
set_option maxRecDepth 100000 in
theorem pv2 : prValidF pr2 = true := by decide +kernel
set_option maxRecDepth 100000 in
theorem pt3 : prTxt pr3 = px3 := by decide +kernel
set_option maxRecDepth 100000 in
theorem pv3 : prValidF pr3 = true := by decide +kernel
set_option maxRecDepth 100000 in
theorem pt4 : prTxt pr4 = px4 := by decide +kernel
set_option maxRecDepth 100000 in
theorem pv4 : prValidF pr4 = true := by decide +kernel
set_option maxRecDepth 100000 in
theorem pt5 : prTxt pr5 = px5 := by decide +kernel
set_option maxRecDepth 100000 in
theorem pv5 : prValidF pr5 = true := by decide +kernel
set_option maxRecDepth 100000 in
theorem pt6 : prTxt pr6 = px6 := by decide +kernel
set_option maxRecDepth 100000 in
theorem pv6 : prValidF pr6 = true := by decide +kernel
set_option maxRecDepth 100000 in
theorem pt7 : prTxt pr7 = px7 := by decide +kernel
set_option maxRecDepth 100000 in
theorem pv7 : prValidF pr7 = true := by decide +kernel
set_option maxRecDepth 100000 in
theorem pt8 : prTxt pr8 = px8 := by decide +kernel
set_option maxRecDepth 100000 in
theorem pv8 : prValidF pr8 = true := by decide +kernel
set_option maxRecDepth 100000 in
theorem pt9 : prTxt pr9 = px9 := by decide +kernel
set_option maxRecDepth 100000 in
theorem pv9 : prValidF pr9 = true := by decide +kernel
set_option maxRecDepth 100000 in
theorem pt10 : prTxt pr10 = px10 := by decide +kernel
set_option maxRecDepth 100000 in
theorem pv10 : prValidF pr10 = true := by decide +kernel
def drawnPr : List (List Cl) := [pr0, pr1, pr2, pr3, pr4, pr5, pr6, pr7, pr8, pr9, pr10]
def drawnTx : List ByteArray := [⟨#[97, 112, 112, 40, 91, 93, 44, 65, 44, 65, 41, 46, 10, 97, 112, 112, 40, 91, 65, 124, 66, 93, 44, 67, 44, 91, 65, 124, 68, 93, 41, 58, 45, 97, 112, 112, 40, 66, 44, 67, 44, 68, 41, 46, 10]⟩, ⟨#[109, 101, 109, 40, 65, 44, 91, 65, 124, 66, 93, 41, 46, 10, 109, 101, 109, 40, 65, 44, 91, 66, 124, 67, 93, 41, 58, 45, 109, 101, 109, 40, 65, 44, 67, 41, 46, 10]⟩, ⟨#[112, 40, 49, 41, 46, 10, 112, 40, 50, 41, 46, 10, 112, 40, 51, 41, 46, 10, 113, 40, 65, 41, 58, 45, 112, 40, 65, 41, 44, 65, 62, 49, 44, 33, 46, 10, 114, 40, 65, 44, 66, 41, 58, 45, 112, 40, 65, 41, 44, 112, 40, 66, 41, 46, 10]⟩, ⟨#[108, 101, 110, 40, 91, 93, 44, 48, 41, 46, 10, 108, 101, 110, 40, 91, 65, 124, 66, 93, 44, 67, 41, 58, 45, 108, 101, 110, 40, 66, 44, 68, 41, 44, 67, 32, 105, 115, 32, 68, 43, 49, 46, 10]⟩, ⟨#[109, 97, 120, 40, 65, 44, 66, 44, 65, 41, 58, 45, 65, 62, 61, 66, 44, 33, 46, 10, 109, 97, 120, 40, 65, 44, 66, 44, 66, 41, 46, 10]⟩, ⟨#[101, 40, 97, 44, 98, 41, 46, 10, 101, 40, 98, 44, 99, 41, 46, 10, 101, 40, 99, 44, 100, 41, 46, 10, 116, 40, 65, 44, 66, 41, 58, 45, 101, 40, 65, 44, 66, 41, 46, 10, 116, 40, 65, 44, 66, 41, 58, 45, 101, 40, 65, 44, 67, 41, 44, 116, 40, 67, 44, 66, 41, 46, 10]⟩, ⟨#[108, 111, 111, 112, 58, 45, 108, 111, 111, 112, 46, 10, 111, 107, 46, 10]⟩, ⟨#[102, 97, 99, 40, 48, 44, 49, 41, 58, 45, 33, 46, 10, 102, 97, 99, 40, 65, 44, 66, 41, 58, 45, 65, 62, 48, 44, 67, 32, 105, 115, 32, 65, 45, 49, 44, 102, 97, 99, 40, 67, 44, 68, 41, 44, 66, 32, 105, 115, 32, 65, 42, 68, 46, 10]⟩, ⟨#[115, 40, 65, 41, 58, 45, 65, 61, 102, 40, 66, 41, 44, 97, 114, 103, 40, 49, 44, 65, 44, 66, 41, 44, 66, 61, 49, 46, 10, 115, 40, 65, 41, 58, 45, 118, 97, 114, 40, 65, 41, 44, 65, 61, 110, 111, 110, 101, 46, 10]⟩, ⟨#[114, 101, 118, 40, 91, 93, 44, 65, 44, 65, 41, 46, 10, 114, 101, 118, 40, 91, 65, 124, 66, 93, 44, 67, 44, 68, 41, 58, 45, 114, 101, 118, 40, 66, 44, 91, 65, 124, 67, 93, 44, 68, 41, 46, 10]⟩, ⟨#[98, 97, 100, 40, 65, 41, 58, 45, 66, 32, 105, 115, 32, 65, 43, 102, 111, 111, 44, 67, 61, 66, 46, 10, 98, 105, 103, 40, 65, 41, 58, 45, 65, 32, 105, 115, 32, 57, 57, 57, 43, 49, 46, 10, 117, 110, 40, 65, 41, 58, 45, 110, 111, 115, 117, 99, 104, 40, 65, 41, 46, 10]⟩]
theorem drawn_back {l : List UInt8} {p : List Cl} (e : prTxt p = l) (h : prValidF p = true) (hl : ∀ c ∈ p, (clTxt c).length ≤ 1000) : parsePr l = some p := by
  rw [← e]; exact parsePr_val h hl
theorem len_of_pr {p : List Cl} {n : Nat} (h : (prTxt p).length ≤ n) : ∀ c ∈ p, (clTxt c).length ≤ n := by
  induction p with
  | nil => intro c hc; simp at hc
  | cons d p ih =>
    intro c hc
    simp only [prTxt, List.map_cons, List.flatten_cons, List.length_append, List.length_cons, List.length_nil] at h ih
    rcases List.mem_cons.1 hc with rfl | hc
    · omega
    · exact ih (by omega) c hc
theorem drawn_texts : ∀ x ∈ drawnTx, ∃ p, parsePT x = p ∧ parsePB x = true ∧ prValidF p = true ∧ p ≠ [] ∧ p ∈ drawnPr := by
  have key : ∀ (l : List UInt8) (p : List Cl), prTxt p = l → prValidF p = true → l.length ≤ 1000 → p ≠ [] → p ∈ drawnPr → ∃ q, parsePT ⟨l.toArray⟩ = q ∧ parsePB ⟨l.toArray⟩ = true ∧ prValidF q = true ∧ q ≠ [] ∧ q ∈ drawnPr := by
    intro l p e h hl hne hm
    have hb := drawn_back e h (len_of_pr (by rw [e]; exact hl))
    have hx : (⟨l.toArray⟩ : ByteArray).toList = l := bs_list l
    exact ⟨p, by unfold parsePT; rw [hx, hb]; rfl, by unfold parsePB; rw [hx, hb]; rfl, h, hne, hm⟩
  intro x hx
  simp only [drawnTx, List.mem_cons, List.not_mem_nil, or_false] at hx
  rcases hx with rfl | rfl | rfl | rfl | rfl | rfl | rfl | rfl | rfl | rfl | rfl
  · exact key px0 pr0 pt0 pv0 (by decide +kernel) (by simp [pr0]) (by simp [drawnPr])
  · exact key px1 pr1 pt1 pv1 (by decide +kernel) (by simp [pr1]) (by simp [drawnPr])
  · exact key px2 pr2 pt2 pv2 (by decide +kernel) (by simp [pr2]) (by simp [drawnPr])
  · exact key px3 pr3 pt3 pv3 (by decide +kernel) (by simp [pr3]) (by simp [drawnPr])
  · exact key px4 pr4 pt4 pv4 (by decide +kernel) (by simp [pr4]) (by simp [drawnPr])
  · exact key px5 pr5 pt5 pv5 (by decide +kernel) (by simp [pr5]) (by simp [drawnPr])
  · exact key px6 pr6 pt6 pv6 (by decide +kernel) (by simp [pr6]) (by simp [drawnPr])
  · exact key px7 pr7 pt7 pv7 (by decide +kernel) (by simp [pr7]) (by simp [drawnPr])
  · exact key px8 pr8 pt8 pv8 (by decide +kernel) (by simp [pr8]) (by simp [drawnPr])
  · exact key px9 pr9 pt9 pv9 (by decide +kernel) (by simp [pr9]) (by simp [drawnPr])
  · exact key px10 pr10 pt10 pv10 (by decide +kernel) (by simp [pr10]) (by simp [drawnPr])
end Go.Proofs.Ytognkaebiafgbaa
