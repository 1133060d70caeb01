/- Lemmas and walks: The plain laws of numbers in a script: which words are numbers; how a text is cut at its first line's end. No walk in this text. -/
import Derived.Test.YtgagcbgbjkjghaaGreatDoorXd
import Derived.Test.YtgagcbgbjkjghaaGreatDoorXm
namespace Go.Proofs.YtgagcbgbjkjghaaGreatDoor
open Go.RowKit Go.Lib

theorem numF_some {w : List UInt8} {v : Int} (h : numF w = some v) : Lib.itoa v = w ∧ 0 ≤ v ∧ w.length ≤ 9 := by
  unfold numF at h
  split at h
  · split at h
    · cases h
    · split at h
      · cases h
      · split at h
        · rename_i h1 h2 h3
          cases h
          exact ⟨h3, by omega, by omega⟩
        · cases h
  · cases h
theorem numF_none {w : List UInt8} (h : ∀ v, 0 ≤ v → w.length ≤ 9 → Lib.itoa v ≠ w) : numF w = none := by
  cases hn : numF w with
  | none => rfl
  | some v =>
    obtain ⟨h1, h2, h3⟩ := numF_some hn
    exact absurd h1 (h v h2 h3)
theorem itoa_nat {v : Int} (h : 0 ≤ v) : Lib.itoa v = Lib.decDigits v.toNat := by
  unfold Lib.itoa
  rw [if_neg (by omega)]
theorem decD_head : ∀ (n u : Nat), u < n → 0 < u → ∃ c r, decD u = c :: r ∧ c.toNat ≠ 48 := by
  intro n
  induction n with
  | zero => intro u h; omega
  | succ n ih =>
    intro u hu h0
    rw [decD_pos h0]
    by_cases h : u < 10
    · have e : u / 10 = 0 := by omega
      rw [e, decD_zero]
      refine ⟨_, [], rfl, ?_⟩
      rw [UInt8.toNat_ofNat']
      omega
    · obtain ⟨c, r, h1, h2⟩ := ih (u / 10) (by omega) (by omega)
      rw [h1]
      exact ⟨c, _, rfl, h2⟩
theorem itoa_head {v : Int} (h : 0 ≤ v) {c : UInt8} {r : List UInt8} (e : Lib.itoa v = c :: r) (hc : c.toNat = 48) : r = [] := by
  rw [itoa_nat h] at e
  by_cases h0 : v.toNat = 0
  · rw [h0] at e
    have e0 : Lib.decDigits 0 = [48] := by kernel_rfl
    rw [e0] at e
    cases e
    rfl
  · obtain ⟨c', r', h1, h2⟩ := decD_head (v.toNat + 1) v.toNat (by omega) (by omega)
    rw [← decD_eq _ (by omega), h1] at e
    cases e
    exact absurd hc h2
theorem itoa_dig {v : Int} (h : 0 ≤ v) : ∀ c ∈ Lib.itoa v, 48 ≤ c.toNat ∧ c.toNat ≤ 57 := by
  rw [itoa_nat h]
  exact Scr.decDigits_dig _
theorem itoa_len9 {n : Int} (h0 : 0 ≤ n) (h1 : n ≤ 999999999) : (Lib.itoa n).length ≤ 9 := by
  rw [itoa_nat h0]
  by_cases hz : n.toNat = 0
  · rw [hz]
    have e0 : Lib.decDigits 0 = [48] := by kernel_rfl
    rw [e0]
    decide
  · rw [← decD_eq _ (by omega)]
    exact decD_length _ 9 (by omega)
theorem atoi_itoa {n : Int} (h0 : 0 ≤ n) (h1 : n ≤ 999999999) : Lib.atoiAll (Lib.itoa n) = .ok n := by
  have h := Scr.atoiIn_itoa (v := n) ⟨by omega, by omega⟩
  by_cases hk : ∃ v, Lib.atoiAll (Lib.itoa n) = .ok v
  · obtain ⟨v, hv⟩ := hk
    by_cases hr : -1099511627776 ≤ v ∧ v ≤ 1099511627776
    · rw [Scr.atoiIn_ok hv hr] at h
      rw [hv, Option.some.inj h]
    · rw [Scr.atoiIn_far hv hr] at h
      cases h
  · rw [Scr.atoiIn_bad (fun v hv => hk ⟨v, hv⟩)] at h
    cases h
theorem numF_ok {n : Int} (h0 : 0 ≤ n) (h1 : n ≤ 999999999) : numF (Lib.itoa n) = some n := by
  unfold numF
  rw [atoi_itoa h0 h1]
  simp only
  rw [if_neg (by omega), if_neg (by have := itoa_len9 h0 h1; omega)]
  simp
/-- what is told of a script whose number has this form. -/
def formN (D : List UInt8) : List (List UInt8) := [D, 48 :: D, 43 :: D, 45 :: 48 :: D, D ++ [120], D ++ [48, 48, 48, 48, 48, 48, 48, 48, 48, 48], [], 32 :: D]
theorem formN_bad {n : Int} : ∀ w ∈ ([48 :: Lib.itoa n, 43 :: Lib.itoa n, 45 :: 48 :: Lib.itoa n, Lib.itoa n ++ [120], Lib.itoa n ++ [48, 48, 48, 48, 48, 48, 48, 48, 48, 48], []] : List (List UInt8)), numF w = none := by
  have hne : Lib.itoa n ≠ [] := Scr.itoa_ne n
  intro w hw
  refine numF_none (fun v hv hl e => ?_)
  simp only [List.mem_cons, List.not_mem_nil, or_false] at hw
  rcases hw with rfl | rfl | rfl | rfl | rfl | rfl
  · exact hne (itoa_head hv e rfl)
  · have := itoa_dig hv 43 (by rw [e]; simp)
    exact absurd this.1 (by decide)
  · have := itoa_dig hv 45 (by rw [e]; simp)
    exact absurd this.1 (by decide)
  · have := itoa_dig hv 120 (by rw [e]; simp)
    exact absurd this.2 (by decide)
  · simp at hl
  · exact Scr.itoa_ne v e
theorem cut10 (a b : List UInt8) (h : ∀ c ∈ a, c ≠ 10) : Lib.cut (a ++ 10 :: b) [10] = (a, b, true) := by
  have hocc : ∀ j, occAt (a ++ 10 :: b) [10] j = ((a ++ 10 :: b)[j]? == some 10) := fun j => by
    unfold occAt
    cases hd : (a ++ 10 :: b).drop j with
    | nil =>
      have : (a ++ 10 :: b).length ≤ j := by simpa using hd
      rw [List.getElem?_eq_none this]
      rfl
    | cons x r =>
      have h1 : (a ++ 10 :: b)[j]? = some x := by
        have := congrArg List.head? hd
        rw [List.head?_drop] at this
        simpa using this
      rw [h1]
      simp [List.isPrefixOf, Bool.beq_comm]
  have hi : Lib.index (a ++ 10 :: b) [10] = (a.length : Nat) := by
    refine index_hit (fun j hj => ?_) (by simp) ?_
    · rw [hocc, List.getElem?_append_left hj, List.getElem?_eq_getElem hj]
      have := h _ (List.getElem_mem hj)
      simpa using this
    · rw [hocc]
      simp
  unfold Lib.cut
  rw [if_pos (by rw [hi]; omega), hi]
  simp
theorem linesN_le (l : List UInt8) : linesN l ≤ l.length + 1 := by
  unfold linesN Lib.countByte
  have := List.count_le_length (a := (10 : UInt8)) (l := l)
  split <;> omega
end Go.Proofs.YtgagcbgbjkjghaaGreatDoor
