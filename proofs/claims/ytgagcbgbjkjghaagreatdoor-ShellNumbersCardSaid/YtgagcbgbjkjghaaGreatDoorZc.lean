/- Lemmas and walks: The plain law of ShellNumbers: what each spelling of a number is. No walk in this text. Printed by mkHt.py. -/
import Derived.Test.YtgagcbgbjkjghaaGreatDoorZb
namespace Go.Proofs.YtgagcbgbjkjghaaGreatDoor
open Go.RowKit Go.Lib
theorem text4 (l : List UInt8) {x : ByteArray} (h : x = ⟨l.toArray⟩) : (⟨#[99, 117, 116, 32]⟩ ++ x ++ ⟨#[10, 115, 116, 97, 116, 10]⟩ : ByteArray) = ⟨(textN l).toArray⟩ := by
  subst h
  apply ByteArray.ext
  simp [textN, cutL, statL]
theorem formBad {w : List UInt8} (hb : ∀ c ∈ w, c ≠ 32) (hl : w.length ≤ 100) (hn : numF w = none) : Form w (errW ++ [10]) :=
  .bad w [] (words_none w hb) (by decide) (by intro x hx; rw [List.mem_singleton] at hx; subst hx; omega) hn rfl
theorem dig_ne {n : Int} (h0 : 0 ≤ n) {c : UInt8} (hc : c ∈ Lib.itoa n) : c ≠ 10 ∧ c ≠ 32 := by
  have h := itoa_dig h0 c hc
  constructor <;> (rintro rfl; exact absurd h.1 (by decide))

theorem form4_0 {n : Int} (h0 : 0 ≤ n) (h1 : n ≤ 999999999) : (Lib.itoa n : List UInt8).length ≤ 100 ∧ (∀ c ∈ (Lib.itoa n : List UInt8), c ≠ 10) ∧ Form (Lib.itoa n) okT := by
  have hl := itoa_len9 h0 h1
  have hd : ∀ c ∈ Lib.itoa n, c ≠ 10 ∧ c ≠ 32 := fun c hc => dig_ne h0 hc
  exact ⟨by omega, fun c hc => (hd c hc).1, .good n h0 (numF_ok h0 h1) (fun c hc => (hd c hc).2) rfl⟩
theorem form4_1 {n : Int} (h0 : 0 ≤ n) (h1 : n ≤ 999999999) : (48 :: Lib.itoa n : List UInt8).length ≤ 100 ∧ (∀ c ∈ (48 :: Lib.itoa n : List UInt8), c ≠ 10) ∧ Form (48 :: Lib.itoa n) (errW ++ [10]) := by
  have hl := itoa_len9 h0 h1
  have hd : ∀ c ∈ Lib.itoa n, c ≠ 10 ∧ c ≠ 32 := fun c hc => dig_ne h0 hc
  have hx : ∀ c ∈ (48 :: Lib.itoa n : List UInt8), c ≠ 10 ∧ c ≠ 32 := by
    intro c hc
    simp only [List.mem_cons] at hc
    rcases hc with rfl | h
    all_goals first | decide | exact hd c ‹_›
  exact ⟨by simp; try omega, fun c hc => (hx c hc).1, formBad (fun c hc => (hx c hc).2) (by simp; try omega) (formN_bad (n := n) _ (by simp))⟩
theorem form4_2 {n : Int} (h0 : 0 ≤ n) (h1 : n ≤ 999999999) : (43 :: Lib.itoa n : List UInt8).length ≤ 100 ∧ (∀ c ∈ (43 :: Lib.itoa n : List UInt8), c ≠ 10) ∧ Form (43 :: Lib.itoa n) (errW ++ [10]) := by
  have hl := itoa_len9 h0 h1
  have hd : ∀ c ∈ Lib.itoa n, c ≠ 10 ∧ c ≠ 32 := fun c hc => dig_ne h0 hc
  have hx : ∀ c ∈ (43 :: Lib.itoa n : List UInt8), c ≠ 10 ∧ c ≠ 32 := by
    intro c hc
    simp only [List.mem_cons] at hc
    rcases hc with rfl | h
    all_goals first | decide | exact hd c ‹_›
  exact ⟨by simp; try omega, fun c hc => (hx c hc).1, formBad (fun c hc => (hx c hc).2) (by simp; try omega) (formN_bad (n := n) _ (by simp))⟩
theorem form4_3 {n : Int} (h0 : 0 ≤ n) (h1 : n ≤ 999999999) : (45 :: 48 :: Lib.itoa n : List UInt8).length ≤ 100 ∧ (∀ c ∈ (45 :: 48 :: Lib.itoa n : List UInt8), c ≠ 10) ∧ Form (45 :: 48 :: Lib.itoa n) (errW ++ [10]) := by
  have hl := itoa_len9 h0 h1
  have hd : ∀ c ∈ Lib.itoa n, c ≠ 10 ∧ c ≠ 32 := fun c hc => dig_ne h0 hc
  have hx : ∀ c ∈ (45 :: 48 :: Lib.itoa n : List UInt8), c ≠ 10 ∧ c ≠ 32 := by
    intro c hc
    simp only [List.mem_cons] at hc
    rcases hc with rfl | rfl | h
    all_goals first | decide | exact hd c ‹_›
  exact ⟨by simp; try omega, fun c hc => (hx c hc).1, formBad (fun c hc => (hx c hc).2) (by simp; try omega) (formN_bad (n := n) _ (by simp))⟩
theorem form4_4 {n : Int} (h0 : 0 ≤ n) (h1 : n ≤ 999999999) : (Lib.itoa n ++ [120] : List UInt8).length ≤ 100 ∧ (∀ c ∈ (Lib.itoa n ++ [120] : List UInt8), c ≠ 10) ∧ Form (Lib.itoa n ++ [120]) (errW ++ [10]) := by
  have hl := itoa_len9 h0 h1
  have hd : ∀ c ∈ Lib.itoa n, c ≠ 10 ∧ c ≠ 32 := fun c hc => dig_ne h0 hc
  have hx : ∀ c ∈ (Lib.itoa n ++ [120] : List UInt8), c ≠ 10 ∧ c ≠ 32 := by
    intro c hc
    simp only [List.mem_append, List.mem_cons, List.not_mem_nil, or_false] at hc
    rcases hc with h | rfl
    all_goals first | decide | exact hd c ‹_›
  exact ⟨by simp; try omega, fun c hc => (hx c hc).1, formBad (fun c hc => (hx c hc).2) (by simp; try omega) (formN_bad (n := n) _ (by simp))⟩
theorem form4_5 {n : Int} (h0 : 0 ≤ n) (h1 : n ≤ 999999999) : (Lib.itoa n ++ [48, 48, 48, 48, 48, 48, 48, 48, 48, 48] : List UInt8).length ≤ 100 ∧ (∀ c ∈ (Lib.itoa n ++ [48, 48, 48, 48, 48, 48, 48, 48, 48, 48] : List UInt8), c ≠ 10) ∧ Form (Lib.itoa n ++ [48, 48, 48, 48, 48, 48, 48, 48, 48, 48]) (errW ++ [10]) := by
  have hl := itoa_len9 h0 h1
  have hd : ∀ c ∈ Lib.itoa n, c ≠ 10 ∧ c ≠ 32 := fun c hc => dig_ne h0 hc
  have hx : ∀ c ∈ (Lib.itoa n ++ [48, 48, 48, 48, 48, 48, 48, 48, 48, 48] : List UInt8), c ≠ 10 ∧ c ≠ 32 := by
    intro c hc
    simp only [List.mem_append, List.mem_cons, List.not_mem_nil, or_false] at hc
    rcases hc with h | rfl | rfl | rfl | rfl | rfl | rfl | rfl | rfl | rfl | rfl
    all_goals first | decide | exact hd c ‹_›
  exact ⟨by simp; try omega, fun c hc => (hx c hc).1, formBad (fun c hc => (hx c hc).2) (by simp; try omega) (formN_bad (n := n) _ (by simp))⟩
theorem form4_6 {n : Int} (h0 : 0 ≤ n) (h1 : n ≤ 999999999) : ([] : List UInt8).length ≤ 100 ∧ (∀ c ∈ ([] : List UInt8), c ≠ 10) ∧ Form ([]) (errW ++ [10]) := by
  have hl := itoa_len9 h0 h1
  have hd : ∀ c ∈ Lib.itoa n, c ≠ 10 ∧ c ≠ 32 := fun c hc => dig_ne h0 hc
  have hx : ∀ c ∈ ([] : List UInt8), c ≠ 10 ∧ c ≠ 32 := by
    intro c hc
    cases hc
  exact ⟨by simp; try omega, fun c hc => (hx c hc).1, formBad (fun c hc => (hx c hc).2) (by simp; try omega) (formN_bad (n := n) _ (by simp))⟩
theorem form4_7 {n : Int} (h0 : 0 ≤ n) (h1 : n ≤ 999999999) : (32 :: Lib.itoa n : List UInt8).length ≤ 100 ∧ (∀ c ∈ (32 :: Lib.itoa n : List UInt8), c ≠ 10) ∧ Form (32 :: Lib.itoa n) (errW ++ [10]) := by
  have hl := itoa_len9 h0 h1
  have hd : ∀ c ∈ Lib.itoa n, c ≠ 10 ∧ c ≠ 32 := fun c hc => dig_ne h0 hc
  refine ⟨by simp; omega, ?_, .bad [] [Lib.itoa n] ?_ (by simp) ?_ (formN_bad (n := n) [] (by simp)) rfl⟩
  · intro c hc
    rcases List.mem_cons.1 hc with rfl | h
    · decide
    · exact (hd c h).1
  · rw [show (32 :: Lib.itoa n : List UInt8) = [] ++ 32 :: Lib.itoa n from rfl, words_cut [] _ (by simp), words_none _ (fun c hc => (hd c hc).2)]
  · intro x hx
    simp at hx
    rcases hx with rfl | rfl
    · simp
    · omega
end Go.Proofs.YtgagcbgbjkjghaaGreatDoor
