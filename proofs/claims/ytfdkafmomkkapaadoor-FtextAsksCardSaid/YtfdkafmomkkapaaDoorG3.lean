/- The plain laws: what a text is read as. No program in this text. -/
import Derived.Test.YtfdkafmomkkapaaDoorG2
namespace Go.Proofs.YtfdkafmomkkapaaDoor
open Go.Lib

def resO (r : Option OpD) : OpD := r.getD (0, 0, 0, 0, [])
def codeO (r : Option OpD) : Int := if r.isSome then 0 else 13

theorem wordsO_puts {o : OpD} (h : Good o) : o.2.2.2.2.length ≤ (wordsO o).length := by
  rcases h with rfl | ⟨h, a, n, rfl, _⟩ | ⟨h, l, rfl, _, _⟩ | ⟨k, h, rfl | rfl, rfl, _⟩
  · simp
  · simp
  · show l.length ≤ (opW 3 h 0 0 l).length
    unfold opW
    rw [if_neg (by decide), if_pos rfl, List.length_append, putW_length]
    omega
  · simp
  · simp
theorem resO_puts (s : List UInt8) : (resO (parseA s)).2.2.2.2.length ≤ s.length + 1 := by
  cases h : parseA s with
  | none => simp [resO]
  | some o =>
    obtain ⟨hg, ht⟩ := (parseA_iff s o).1 h
    have h1 := wordsO_puts hg
    rw [← good_words hg, ht] at h1
    exact Nat.le_trans h1 (words_length s)
end Go.Proofs.YtfdkafmomkkapaaDoor
