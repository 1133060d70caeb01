/- The plain law: a text is read as the op that it is, or refused. No program in this text. -/
import Derived.Test.YtfdkafmomkkapaaDoorG1
namespace Go.Proofs.YtfdkafmomkkapaaDoor
open Go.Lib

/-- an op as its form names it, in range. -/
def Good (o : OpD) : Prop :=
  (o = (1, 0, 0, 0, [])) ∨ (∃ h a n, o = (2, h, a, n, []) ∧ RR h ∧ RR a ∧ RR n) ∨
  (∃ h l, o = (3, h, 0, 0, l) ∧ RR h ∧ ∀ p ∈ l, RR p.1 ∧ p.2.length = 40) ∨
  (∃ k h, (k = 4 ∨ k = 5) ∧ o = (k, h, 0, 0, []) ∧ RR h)

def wordsO (o : OpD) : List (List UInt8) := opW o.1 o.2.1 o.2.2.1 o.2.2.2.1 o.2.2.2.2

theorem mem_putW {l : List (Int × List UInt8)} {x : List UInt8} (h : x ∈ putW l) : (∃ v, x = itoa v) ∨ ∃ d, x = bytesT d := by
  unfold putW at h
  obtain ⟨p, _, hp⟩ := List.mem_flatMap.1 h
  rcases List.mem_cons.1 hp with rfl | hp
  · exact Or.inl ⟨_, rfl⟩
  · rw [List.mem_singleton.1 hp]; exact Or.inr ⟨_, rfl⟩
theorem mem_opW {k h a n : Int} {l : List (Int × List UInt8)} {x : List UInt8} (hx : x ∈ opW k h a n l) : x = wordL k ∨ (∃ v, x = itoa v) ∨ ∃ d, x = bytesT d := by
  unfold opW at hx
  repeat' split at hx
  · simp at hx
    rcases hx with rfl | rfl | rfl | rfl
    · exact Or.inl rfl
    · exact Or.inr (Or.inl ⟨_, rfl⟩)
    · exact Or.inr (Or.inl ⟨_, rfl⟩)
    · exact Or.inr (Or.inl ⟨_, rfl⟩)
  · simp at hx
    rcases hx with rfl | rfl | hx
    · exact Or.inl rfl
    · exact Or.inr (Or.inl ⟨_, rfl⟩)
    · exact Or.inr (mem_putW hx)
  · simp at hx
    rcases hx with rfl | rfl
    · exact Or.inl rfl
    · exact Or.inr (Or.inl ⟨_, rfl⟩)
  · simp at hx
    exact Or.inl hx
theorem opW_chars {k h a n : Int} {l : List (Int × List UInt8)} : ∀ x ∈ opW k h a n l, ∀ c ∈ x, c.toNat ≠ 32 ∧ c.toNat ≠ 120 ∧ c.toNat ≠ 10 := by
  intro x hx c hc
  rcases mem_opW hx with rfl | ⟨v, rfl⟩ | ⟨d, rfl⟩
  · exact wordL_chars _ c hc
  · have := itoa_chars v c hc; omega
  · have := bytesT_chars d c hc; omega
theorem opW_ne {k h a n : Int} {l : List (Int × List UInt8)} : opW k h a n l ≠ [] := by
  unfold opW
  repeat' split
  all_goals simp
theorem words_opW (k h a n : Int) (l : List (Int × List UInt8)) : words (join (opW k h a n l) [32]) = opW k h a n l :=
  words_join _ opW_ne fun x hx c hc => by
    intro e
    have := (opW_chars x hx c hc).1
    rw [e] at this
    exact this rfl

theorem good_text {o : OpD} (h : Good o) : textO o = join (wordsO o) [32] := by
  unfold textO wordsO
  rw [opW_text]
  intro h3 i hi
  rcases h with rfl | ⟨_, _, _, rfl, _⟩ | ⟨_, _, rfl, _, hl⟩ | ⟨_, _, _, rfl, _⟩
  · cases hi
  · cases hi
  · exact (hl _ (List.getElem_mem hi)).2
  · cases hi
theorem good_words {o : OpD} (h : Good o) : words (textO o) = wordsO o := by
  rw [good_text h]; exact words_opW _ _ _ _ _

theorem loopW_putW : ∀ (l p : List (Int × List UInt8)), (∀ x ∈ l, RR x.1 ∧ x.2.length = 40) → loopW (putW l) p = some (p ++ l)
  | [], p, _ => by simp [putW, loopW]
  | (v, d) :: l, p, h => by
    have e : putW ((v, d) :: l) = itoa v :: bytesT d :: putW l := by simp [putW]
    have h0 := h (v, d) (by simp)
    rw [e]
    simp only [loopW]
    rw [atoiIn_itoa h0.1, unbytesT_bytes h0.2]
    simp only
    rw [loopW_putW l _ fun x hx => h x (by simp [hx])]
    simp
theorem loopR_putW : ∀ (l p : List (Int × List UInt8)), (∀ x ∈ l, RR x.1 ∧ x.2.length = 40) → loopR (putW l) p = some (p ++ l)
  | [], p, _ => by simp [putW, loopR]
  | (v, d) :: l, p, h => by
    have e : putW ((v, d) :: l) = itoa v :: bytesT d :: putW l := by simp [putW]
    have h0 := h (v, d) (by simp)
    rw [e]
    simp only [loopR]
    rw [numT_itoa h0.1, unbytesT_bytes h0.2]
    simp only
    rw [loopR_putW l _ fun x hx => h x (by simp [hx])]
    simp
theorem loopW_good : ∀ (ws : List (List UInt8)) (p l : List (Int × List UInt8)), (∀ x ∈ p, RR x.1 ∧ x.2.length = 40) → loopW ws p = some l → ∀ x ∈ l, RR x.1 ∧ x.2.length = 40
  | [], p, l, hp, h => by simp only [loopW] at h; injection h with h; subst h; exact hp
  | [_], p, l, hp, h => by simp [loopW] at h
  | a :: b :: r, p, l, hp, h => by
    simp only [loopW] at h
    split at h
    · rename_i v d hv hd
      refine loopW_good r _ l ?_ h
      intro x hx
      rcases List.mem_append.1 hx with hx | hx
      · exact hp x hx
      · rw [List.mem_singleton.1 hx]; exact ⟨atoiIn_RR hv, unbytesT_len hd⟩
    · cases h
theorem numT_RR {s : List UInt8} {v : Int} (h : numT s = some v) : RR v := ⟨(numT_bd h).1, (numT_bd h).2.1⟩
theorem loopR_good : ∀ (ws : List (List UInt8)) (p l : List (Int × List UInt8)), (∀ x ∈ p, RR x.1 ∧ x.2.length = 40) → loopR ws p = some l → ∀ x ∈ l, RR x.1 ∧ x.2.length = 40
  | [], p, l, hp, h => by simp only [loopR] at h; injection h with h; subst h; exact hp
  | [_], p, l, hp, h => by simp only [loopR] at h; injection h with h; subst h; exact hp
  | a :: b :: r, p, l, hp, h => by
    simp only [loopR] at h
    split at h
    · rename_i v d hv hd
      refine loopR_good r _ l ?_ h
      intro x hx
      rcases List.mem_append.1 hx with hx | hx
      · exact hp x hx
      · rw [List.mem_singleton.1 hx]; exact ⟨numT_RR hv, unbytesT_len hd⟩
    · cases h

theorem candA_good {f : List UInt8} {rest : List (List UInt8)} {o : OpD} (h : candA f rest = some o) : Good o := by
  unfold candA at h
  split at h
  · injection h with h; subst h; exact Or.inl rfl
  split at h
  · unfold candR at h
    split at h
    · split at h
      · rename_i h1 h2 h3
        injection h with h; subst h
        exact Or.inr (Or.inl ⟨_, _, _, rfl, atoiIn_RR h1, atoiIn_RR h2, atoiIn_RR h3⟩)
      · cases h
    · cases h
  split at h
  · unfold candW at h
    split at h
    · split at h
      · rename_i h1 h2
        injection h with h; subst h
        exact Or.inr (Or.inr (Or.inl ⟨_, _, rfl, atoiIn_RR h1, loopW_good _ [] _ (fun x hx => by cases hx) h2⟩))
      · cases h
    · cases h
  split at h
  · unfold candC at h
    split at h
    · split at h
      · rename_i h1
        injection h with h; subst h
        exact Or.inr (Or.inr (Or.inr ⟨_, _, Or.inl rfl, rfl, atoiIn_RR h1⟩))
      · cases h
    · cases h
  split at h
  · unfold candC at h
    split at h
    · split at h
      · rename_i h1
        injection h with h; subst h
        exact Or.inr (Or.inr (Or.inr ⟨_, _, Or.inr rfl, rfl, atoiIn_RR h1⟩))
      · cases h
    · cases h
  · cases h

theorem headB_RR {K : Int} {rest : List (List UInt8)} {h : Int} (hh : headB K rest = some h) : RR h ∧ (K = 1 → h = 0) := by
  have z : RR 0 := ⟨by decide, by decide⟩
  cases rest with
  | nil => simp only [headB] at hh; injection hh with hh; subst hh; exact ⟨z, fun _ => rfl⟩
  | cons x r =>
    simp only [headB] at hh
    split at hh
    · injection hh with hh; subst hh; exact ⟨z, fun _ => rfl⟩
    · rename_i hK
      exact ⟨numT_RR hh, fun e => absurd e hK⟩
theorem candB_good {K : Int} (hK : K = 0 ∨ K = 1 ∨ K = 2 ∨ K = 3 ∨ K = 4 ∨ K = 5) {rest : List (List UInt8)} {o : OpD} (h : candB K rest = some o) : Good o := by
  have z : RR 0 := ⟨by decide, by decide⟩
  unfold candB at h
  split at h
  · cases h
  · rename_i v hv
    have hv2 := headB_RR hv
    clear hv
    split at h
    · split at h
      · split at h
        · rename_i h1 h2
          injection h with h; subst h
          exact Or.inr (Or.inl ⟨_, _, _, rfl, hv2.1, numT_RR h1, numT_RR h2⟩)
        · cases h
      · injection h with h; subst h
        exact Or.inr (Or.inl ⟨_, _, _, rfl, hv2.1, z, z⟩)
    split at h
    · cases hl : loopR rest.tail [] with
      | none => rw [hl] at h; cases h
      | some l =>
        rw [hl] at h
        injection h with h; subst h
        exact Or.inr (Or.inr (Or.inl ⟨_, _, rfl, hv2.1, loopR_good _ [] _ (fun x hx => by cases hx) hl⟩))
    split at h
    · cases h
    · injection h with h; subst h
      have : K = 1 ∨ K = 4 ∨ K = 5 := by omega
      rcases this with rfl | rfl | rfl
      · rw [hv2.2 rfl]; exact Or.inl rfl
      · exact Or.inr (Or.inr (Or.inr ⟨_, _, Or.inl rfl, rfl, hv2.1⟩))
      · exact Or.inr (Or.inr (Or.inr ⟨_, _, Or.inr rfl, rfl, hv2.1⟩))

theorem wordsO_cons {o : OpD} (h : Good o) : ∃ r, wordsO o = wordL o.1 :: r ∧ candA (wordL o.1) r = some o ∧ candB o.1 r = some o ∧ kindI (wordL o.1) + 1 = o.1 := by
  rcases h with rfl | ⟨h, a, n, rfl, h1, h2, h3⟩ | ⟨h, l, rfl, h1, hl⟩ | ⟨k, h, rfl | rfl, rfl, h1⟩
  · exact ⟨[], rfl, rfl, rfl, rfl⟩
  · refine ⟨[itoa h, itoa a, itoa n], rfl, ?_, ?_, rfl⟩
    · exact (candA_read (f := wordL 2) rfl).trans (by simp [candR, atoiIn_itoa h1, atoiIn_itoa h2, atoiIn_itoa h3])
    · simp [candB, headB, numT_itoa h1, numT_itoa h2, numT_itoa h3]
  · refine ⟨itoa h :: putW l, rfl, ?_, ?_, rfl⟩
    · exact (candA_write (f := wordL 3) rfl).trans (by simp [candW, atoiIn_itoa h1, loopW_putW l [] hl])
    · simp [candB, headB, numT_itoa h1, loopR_putW l [] hl]
  · refine ⟨[itoa h], rfl, ?_, ?_, rfl⟩
    · exact (candA_commit (f := wordL 4) rfl).trans (by simp [candC, atoiIn_itoa h1])
    · simp [candB, headB, numT_itoa h1]
  · refine ⟨[itoa h], rfl, ?_, ?_, rfl⟩
    · exact (candA_abort (f := wordL 5) rfl).trans (by simp [candC, atoiIn_itoa h1])
    · simp [candB, headB, numT_itoa h1]

theorem parseA_iff (s : List UInt8) (o : OpD) : parseA s = some o ↔ Good o ∧ textO o = s := by
  constructor
  · intro h
    unfold parseA at h
    split at h
    · cases h
    · split at h
      · rename_i hc
        split at h
        · rename_i ht
          injection h with h; subst h
          exact ⟨candA_good hc, ht⟩
        · cases h
      · cases h
  · rintro ⟨hg, rfl⟩
    obtain ⟨r, hw, hc, _⟩ := wordsO_cons hg
    rw [parse_cand ((good_words hg).trans hw), hc]
    simp
theorem kindI_range' (f : List UInt8) : kindI f + 1 = 0 ∨ kindI f + 1 = 1 ∨ kindI f + 1 = 2 ∨ kindI f + 1 = 3 ∨ kindI f + 1 = 4 ∨ kindI f + 1 = 5 := by
  have := kindI_range f
  omega
theorem parseB_iff (s : List UInt8) (o : OpD) : parseB s = some o ↔ Good o ∧ textO o = s := by
  constructor
  · intro h
    unfold parseB at h
    split at h
    · cases h
    · split at h
      · rename_i hc
        split at h
        · rename_i ht
          injection h with h; subst h
          exact ⟨candB_good (kindI_range' _) hc, ht⟩
        · cases h
      · cases h
  · rintro ⟨hg, rfl⟩
    obtain ⟨r, hw, _, hc, hk⟩ := wordsO_cons hg
    rw [parse_candB ((good_words hg).trans hw), hk, hc]
    simp
/-- both Parse read the same. -/
theorem parseA_eq (s : List UInt8) : parseA s = parseB s := by
  apply Option.ext
  intro o
  rw [parseA_iff, parseB_iff]

end Go.Proofs.YtfdkafmomkkapaaDoor
