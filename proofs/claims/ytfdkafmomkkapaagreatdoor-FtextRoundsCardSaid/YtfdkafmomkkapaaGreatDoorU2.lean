/- Plain: a number's text is read as it was written. No program in this text. -/
import Derived.Test.YtfdkafmomkkapaaGreatDoorV6
namespace Go.Proofs.YtfdkafmomkkapaaGreatDoor
open Go.Lib

theorem index_at (l r : List UInt8) (c : UInt8) (h : c ∉ l) : Lib.index (l ++ c :: r) [c] = l.length := by
  induction l with
  | nil => simp [Lib.index]
  | cons d l ih =>
    have h1 : ¬ c = d := fun e => h (by simp [e])
    have h2 : c ∉ l := fun e => h (by simp [e])
    have i : Lib.index (l.append (c :: r)) [c] = l.length := ih h2
    show (if ([c] : List UInt8).isPrefixOf (d :: (l ++ c :: r)) then (0 : Int) else _) = _
    rw [if_neg (by simp [List.isPrefixOf, h1]), i]
    simp
theorem index_no (l : List UInt8) (c : UInt8) (h : c ∉ l) : Lib.index l [c] = -1 := by
  induction l with
  | nil => rfl
  | cons d l ih =>
    have h1 : ¬ c = d := fun e => h (by simp [e])
    have i := ih (fun e => h (by simp [e]))
    show (if ([c] : List UInt8).isPrefixOf (d :: l) then (0 : Int) else _) = _
    rw [if_neg (by simp [List.isPrefixOf, h1]), i]
    rfl
theorem cut_at (l r : List UInt8) (c : UInt8) (h : c ∉ l) : Lib.cut (l ++ c :: r) [c] = (l, r, true) := by
  unfold Lib.cut
  rw [index_at l r c h, if_pos (by omega)]
  simp
theorem cut_no (l : List UInt8) (c : UInt8) (h : c ∉ l) : Lib.cut l [c] = (l, [], false) := by
  unfold Lib.cut
  rw [index_no l c h, if_neg (by omega)]

/-! digits -/
theorem val16_hexc {d : Nat} (h : d < 16) : val16 (hexc d).toNat = some d := by
  have key : ∀ y : Fin 16, val16 (hexc y.val).toNat = some y.val := by decide +kernel
  exact key ⟨d, h⟩
theorem hexc_not {d : Nat} (h : d < 16) : hexc d ≠ 112 ∧ hexc d ≠ 46 ∧ hexc d ≠ 43 ∧ hexc d ≠ 45 ∧ hexc d ≠ 32 := by
  have key : ∀ y : Fin 16, hexc y.val ≠ 112 ∧ hexc y.val ≠ 46 ∧ hexc y.val ≠ 43 ∧ hexc y.val ≠ 45 ∧ hexc y.val ≠ 32 := by decide +kernel
  exact key ⟨d, h⟩
theorem par16_app (l r : List UInt8) (n v : Nat) (h : par16 n l = some v) : par16 n (l ++ r) = par16 v r := by
  induction l generalizing n with
  | nil => simp only [par16] at h; injection h with h; subst h; rfl
  | cons c l ih =>
    simp only [par16, List.cons_append] at h ⊢
    cases hc : val16 c.toNat with
    | none => rw [hc] at h; cases h
    | some d => rw [hc] at h; simp only at h ⊢; exact ih _ h
theorem par16_low (k f : Nat) (h : f < 16 ^ k) : par16 0 (lowN k f) = some f := by
  induction k generalizing f with
  | zero => simp at h; subst h; rfl
  | succ k ih =>
    have e : lowN (k + 1) f = lowN k (f / 16) ++ [hexc (f % 16)] := rfl
    rw [e, par16_app _ _ 0 (f / 16) (ih _ (by rw [Nat.pow_succ] at h; omega))]
    simp only [par16]
    rw [val16_hexc (by omega)]
    simp only
    congr 1; omega
theorem mem_hexR (n f : Nat) (hf : f < 4503599627370496) : ∀ c ∈ hexR n f, ∃ d, d < 16 ∧ c = hexc d := by
  induction n generalizing f with
  | zero => intro c hc; simp [hexR] at hc
  | succ n ih =>
    intro c hc
    by_cases h : f = 0
    · simp [hexR, h] at hc
    · rw [hexR_succ h] at hc
      rcases List.mem_cons.1 hc with hc | hc
      · exact ⟨f / 281474976710656, by omega, hc⟩
      · exact ih _ (by omega) c hc
theorem hexF_no {f : Nat} (hf : f < 4503599627370496) : 112 ∉ hexF f ∧ 46 ∉ hexF f := by
  constructor <;>
  · intro h
    obtain ⟨d, hd, e⟩ := mem_hexR 13 f hf _ h
    have := hexc_not hd
    rw [← e] at this
    simp at this
theorem hexF_ne {f : Nat} (hf : f < 4503599627370496) (h0 : f ≠ 0) : hexF f ≠ [] := hexR_ne h0 (fits_top hf)

theorem bitsL_some {s : List UInt8} (h : 2 ≤ s.length) (hc : s.getD 0 0 = 48 ∨ s.getD 0 0 = 49) :
    bitsL s = bitsC (Lib.cut (Lib.cut s [112]).1 [46]).1 (Lib.cut (Lib.cut s [112]).1 [46]).2.1 (Lib.cut s [112]).2.1 (Lib.cut s [112]).2.2 := by
  unfold bitsL
  rw [if_neg (by rintro rfl; revert hc; decide), if_neg (by rintro rfl; revert hc; decide), if_neg (by rintro rfl; simp at h)]
theorem bitsL_frac {c : UInt8} {f : Nat} {v : Int} (hc : c = 48 ∨ c = 49) (hf : f < 4503599627370496) (h0 : f ≠ 0) (hv : -1022 ≤ v ∧ v ≤ 1023) :
    bitsL (c :: 46 :: (hexF f ++ 112 :: itoa v)) = finB [c] v f := by
  obtain ⟨h1, h2⟩ := hexF_no hf
  obtain ⟨p1, p2⟩ := hexF_pad hf
  have e1 : c :: 46 :: (hexF f ++ 112 :: itoa v) = (c :: 46 :: hexF f) ++ 112 :: itoa v := rfl
  have n1 : (112 : UInt8) ∉ c :: 46 :: hexF f := by rcases hc with rfl | rfl <;> simp [h1]
  have e2 : c :: 46 :: hexF f = [c] ++ 46 :: hexF f := rfl
  have n2 : (46 : UInt8) ∉ [c] := by rcases hc with rfl | rfl <;> simp
  rw [bitsL_some (by simp) (by simpa using hc), e1, cut_at _ _ _ n1]
  simp only
  rw [e2, cut_at _ _ _ n2]
  simp only
  rw [bitsC_some (atoiIn_itoa ⟨by omega, by omega⟩) hv (hexF_ne hf h0) p1, p2, par16_low 13 f hf]
theorem bitsL_one {c : UInt8} {v : Int} (hc : c = 48 ∨ c = 49) (hv : -1022 ≤ v ∧ v ≤ 1023) :
    bitsL (c :: 112 :: itoa v) = finB [c] v 0 := by
  have e1 : c :: 112 :: itoa v = [c] ++ 112 :: itoa v := rfl
  have n1 : (112 : UInt8) ∉ [c] := by rcases hc with rfl | rfl <;> simp
  have n2 : (46 : UInt8) ∉ [c] := by rcases hc with rfl | rfl <;> simp
  rw [bitsL_some (by simp) (by simpa using hc), e1, cut_at _ _ _ n1]
  simp only
  rw [cut_no _ _ n2]
  simp only
  rw [bitsC_nil (atoiIn_itoa ⟨by omega, by omega⟩) hv rfl]
/-- what was written is read as it was. -/
theorem bitsL_abs {e f : Nat} (h : e < 2047 ∧ f < 4503599627370496 ∨ e = 2047 ∧ f = 0) : bitsL (absT e f) = (e * 4503599627370496 + f, true) := by
  rcases h with ⟨he, hf⟩ | ⟨rfl, rfl⟩
  · by_cases e0 : e = 0
    · by_cases f0 : f = 0
      · rw [absT_zero e0 f0]; subst e0; subst f0; rfl
      · rw [absT_sub e0 f0, bitsL_frac (Or.inl rfl) hf f0 (by omega)]
        subst e0
        rw [finB_sub rfl (by decide)]; simp
    · by_cases f0 : f = 0
      · rw [absT_one e0 (by omega) f0, bitsL_one (Or.inr rfl) (by omega), finB_one (by decide)]
        subst f0
        exact congrArg (fun n => (n * 4503599627370496 + 0, true)) (by omega)
      · rw [absT_norm e0 (by omega) f0, bitsL_frac (Or.inr rfl) hf f0 (by omega), finB_one (by decide)]
        exact congrArg (fun n => (n * 4503599627370496 + f, true)) (by omega)
  · rfl

theorem finB_lt {O : List UInt8} {v : Int} {f : Nat} (h : v ≤ 1023) (hf : f < 4503599627370496) : (finB O v f).1 < 9223372036854775808 := by
  unfold finB
  split
  · show f < _; omega
  · show (v + 1023).toNat * 4503599627370496 + f < _; omega
theorem bitsC_lt (O R X : List UInt8) (ok : Bool) : (bitsC O R X ok).1 < 9223372036854775808 := by
  unfold bitsC
  split
  · split
    · rename_i h
      split
      · exact finB_lt h.2.2.2 (by decide)
      · split
        · rename_i hp
          have := par16_lt _ _ _ hp
          rw [List.length_append, List.length_replicate, show R.length + (13 - R.length) = 13 by omega] at this
          exact finB_lt h.2.2.2 (by simpa using this)
        · exact Nat.zero_lt_succ _
    · exact Nat.zero_lt_succ _
  · exact Nat.zero_lt_succ _
theorem bitsL_lt (s : List UInt8) : (bitsL s).1 < 9223372036854775808 := by
  unfold bitsL
  split
  · show nanB < _; decide
  · split
    · show infB < _; decide
    · split
      · show 0 < _; decide
      · exact bitsC_lt _ _ _ _

/-- the bits that a text is read as, NaN as the one. -/
def readF (s : List UInt8) : Nat := canB ((bitsL (Lib.trimPrefix s [45])).1 + if Lib.hasPrefix s [45] then 9223372036854775808 else 0)
def parseF (s : List UInt8) : Option Nat :=
  if (bitsL (Lib.trimPrefix s [45])).2 = true ∧ textF (readF s) = s then some (readF s) else none
theorem readF_can (s : List UInt8) : CanB (readF s) := by
  refine canB_can ?_
  have := bitsL_lt (Lib.trimPrefix s [45])
  split <;> omega
theorem expB_cut {b : Nat} (_h : b < 18446744073709551616) : magB b = expB b * 4503599627370496 + fracB b := by
  unfold expB fracB magB; omega
theorem expB_ok {b : Nat} (h : isNaNB b = false) : expB b < 2047 ∧ fracB b < 4503599627370496 ∨ expB b = 2047 ∧ fracB b = 0 := by
  unfold isNaNB at h
  have h1 : ¬ 9218868437227405312 < magB b := by simpa using h
  have h2 : fracB b = magB b % 4503599627370496 := by unfold fracB magB; omega
  have h3 : expB b = magB b / 4503599627370496 := rfl
  have h4 := fracB_lt b
  omega
theorem absT_head (e f : Nat) : ∃ c l, absT e f = c :: l ∧ (c = 105 ∨ c = 48 ∨ c = 49) := by
  unfold absT
  split
  · exact ⟨105, _, rfl, Or.inl rfl⟩
  · split
    · exact ⟨48, _, rfl, Or.inr (Or.inl rfl)⟩
    · split
      · exact ⟨48, _, rfl, Or.inr (Or.inl rfl)⟩
      · exact ⟨49, _, rfl, Or.inr (Or.inr rfl)⟩
theorem pre_neg (l : List UInt8) : Lib.hasPrefix (45 :: l) [45] = true ∧ Lib.trimPrefix (45 :: l) [45] = l := by
  simp [Lib.hasPrefix, Lib.trimPrefix, List.isPrefixOf]
theorem pre_pos (c : UInt8) (l : List UInt8) (h : c ≠ 45) : Lib.hasPrefix (c :: l) [45] = false ∧ Lib.trimPrefix (c :: l) [45] = c :: l := by
  have h2 : ¬ 45 = c := fun e => h e.symm
  simp [Lib.hasPrefix, Lib.trimPrefix, List.isPrefixOf, h2]
theorem sign_num {b : Nat} (h : b < 18446744073709551616) : b = magB b + if 9223372036854775808 ≤ b then 9223372036854775808 else 0 := by
  unfold magB; split <;> omega
/-- the text of a number, ahead of its sign's. -/
theorem read_text {b : Nat} (h : CanB b) : readF (textF b) = b ∧ (bitsL (Lib.trimPrefix (textF b) [45])).2 = true := by
  cases hn : isNaNB b with
  | true =>
    have := h.2 hn
    subst this
    exact ⟨by decide +kernel, by decide +kernel⟩
  | false =>
    have ht := textF_num hn
    have hb := bitsL_abs (expB_ok hn)
    rw [← expB_cut h.1] at hb
    have hc : canB b = b := if_neg (by rw [hn]; decide)
    have hs := sign_num h.1
    unfold readF
    by_cases hg : 9223372036854775808 ≤ b
    · rw [if_pos hg] at hs
      have e : textF b = 45 :: absT (expB b) (fracB b) := by rw [ht]; unfold signT; rw [if_pos hg]; rfl
      rw [e, (pre_neg _).1, (pre_neg _).2, hb]
      exact ⟨by simp only [if_true]; rw [← hs]; exact hc, rfl⟩
    · rw [if_neg hg] at hs
      have e : textF b = absT (expB b) (fracB b) := by rw [ht]; unfold signT; rw [if_neg hg]; rfl
      obtain ⟨c, l, hl, hcc⟩ := absT_head (expB b) (fracB b)
      have hne : c ≠ 45 := by rcases hcc with rfl | rfl | rfl <;> decide
      have p1 : Lib.hasPrefix (absT (expB b) (fracB b)) [45] = false := by rw [hl]; exact (pre_pos c l hne).1
      have p2 : Lib.trimPrefix (absT (expB b) (fracB b)) [45] = absT (expB b) (fracB b) := by rw [hl]; exact (pre_pos c l hne).2
      rw [e, p1, p2, hb]
      exact ⟨by simp only [Bool.false_eq_true, if_false]; rw [← hs]; exact hc, rfl⟩
theorem parseF_iff (s : List UInt8) (b : Nat) : parseF s = some b ↔ CanB b ∧ textF b = s := by
  constructor
  · intro h
    unfold parseF at h
    split at h
    · rename_i hc
      injection h with h
      subst h
      exact ⟨readF_can s, hc.2⟩
    · cases h
  · rintro ⟨h, rfl⟩
    obtain ⟨h1, h2⟩ := read_text h
    unfold parseF
    rw [h1, if_pos ⟨h2, rfl⟩]
theorem parseF_text {b : Nat} (h : CanB b) : parseF (textF b) = some b := (parseF_iff _ _).2 ⟨h, rfl⟩
theorem textF_inj {a b : Nat} (ha : CanB a) (hb : CanB b) : textF a = textF b ↔ a = b := by
  constructor
  · intro h
    have h1 := parseF_text ha
    rw [h, parseF_text hb] at h1
    injection h1 with h1
    exact h1.symm
  · rintro rfl; rfl
theorem textF_can (b : Nat) : textF (canB b) = textF b := by
  unfold canB
  split
  · rename_i h
    rw [show textF nanB = [110, 97, 110] from if_pos (by decide +kernel)]
    exact (if_pos h).symm
  · rfl
end Go.Proofs.YtfdkafmomkkapaaGreatDoor
