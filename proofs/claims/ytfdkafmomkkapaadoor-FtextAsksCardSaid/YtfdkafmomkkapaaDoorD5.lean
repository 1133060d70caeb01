/- The library's cut at blanks is the words. -/
import Derived.Test.YtfdkafmomkkapaaDoorD4
namespace Go.Proofs.YtfdkafmomkkapaaDoor
open Go.RowKit Go.Lib

theorem occ_blank (s : List UInt8) (j : Nat) (h : j < s.length) : occAt s [32] j = (s[j] == 32) := by
  unfold occAt
  rw [List.drop_eq_getElem_cons h]
  simp [List.isPrefixOf, Bool.beq_comm]

theorem split_words (n : Nat) : ∀ s : List UInt8, s.length < n → splitK [32] 0 (count s [32]) s = words s := by
  induction n with
  | zero => intro s h; omega
  | succ n ih =>
    intro s hs
    rcases index_spec s [32] with ⟨h1, h2⟩ | ⟨i, h1, h2, h3, h4⟩
    · rw [count_miss h1]
      show [s] = words s
      rw [words_none]
      intro c hc
      obtain ⟨j, hj, rfl⟩ := List.getElem_of_mem hc
      have := h2 j (by omega)
      rw [occ_blank s j hj] at this
      simpa using this
    · rw [count_hit (by simp) h1, Nat.add_comm]
      have hroom := occAt_room h3
      have hi : i < s.length := by
        rcases hroom with h | h
        · simp at h; omega
        · cases h
      have h5 : s[i] = 32 := by rw [occ_blank s i hi] at h3; simpa using h3
      have hne : ¬ (index s [32] == -1) = true := by rw [h1]; simp
      have e : (index s [32]).toNat = i := by rw [h1]; omega
      unfold splitK
      rw [if_neg hne, e]
      have hcut : s = s.take i ++ 32 :: s.drop (i + 1) := by
        conv => lhs; rw [← List.take_append_drop i s]
        rw [List.drop_eq_getElem_cons hi, h5]
      have hfree : ∀ c ∈ s.take i, c ≠ 32 := by
        intro c hc
        obtain ⟨j, hj, rfl⟩ := List.getElem_of_mem hc
        have hj' : j < i := by simp at hj; omega
        have := h4 j hj'
        rw [occ_blank s j (by omega)] at this
        rw [List.getElem_take]
        simpa using this
      have hw : words s = s.take i :: words (s.drop (i + 1)) := by
        conv => lhs; rw [hcut]
        exact words_cut _ _ hfree
      rw [hw]
      show s.take (i + 0) :: splitK [32] 0 (count (s.drop (i + [32].length)) [32]) (s.drop (i + [32].length)) = _
      rw [Nat.add_zero, show i + ([32] : List UInt8).length = i + 1 from rfl, ih _ (by rw [List.length_drop]; omega)]

theorem split_any (s : ByteArray) (w : World) (hs : s.size < 4294967281) (hG : Gl w) :
    Calls Tryd.prog 38 #[.string s, .string ⟨#[32]⟩] w fun e w' => e = .returned (.slice (some ⟨w.heap.size, 0, none⟩) (words s.data.toList).length (words s.data.toList).length) ∧ w' = w.alloc (.cells (strCells (words s.data.toList)).toArray 9) := by
  obtain ⟨m, hm⟩ := hG.2.1
  have e1 : (splitB ⟨#[32]⟩ 0 (countB s ⟨#[32]⟩) s).map (·.data.toList) = words s.data.toList := by
    rw [splitB_data]
    exact split_words (s.data.toList.length + 1) _ (by omega)
  have e2 : (splitB ⟨#[32]⟩ 0 (countB s ⟨#[32]⟩) s).map Value.string = strCells (words s.data.toList) := by
    rw [← e1]
    unfold strCells
    rw [List.map_map]
    rfl
  refine (Tryd.strings_Split s ⟨#[32]⟩ m w hs hm (by decide)).mono ?_
  rintro e w' ⟨he, hw⟩
  have e3 : countB s ⟨#[32]⟩ + 1 = (words s.data.toList).length := by
    rw [← e1, List.length_map]
    have h : ∀ (k : Nat) (t : ByteArray), countB t ⟨#[32]⟩ = k → (splitB ⟨#[32]⟩ 0 k t).length = k + 1 := by
      intro k
      induction k with
      | zero => intro t _; rfl
      | succ k ih =>
        intro t ht
        rcases indexB_cases t ⟨#[32]⟩ with h1 | ⟨i, h1, _⟩
        · rw [countB_miss _ _ h1] at ht; omega
        · rw [splitB_hit _ _ _ _ i h1, List.length_cons]
          rw [countB_hit _ _ i (by decide) h1] at ht
          rw [ih _ (by omega)]
    exact (h _ s rfl).symm
  rw [e3] at he
  rw [e2] at hw
  exact ⟨he, hw⟩
end Go.Proofs.YtfdkafmomkkapaaDoor
