/- Plain: the reference's reading of a number; it reads what the program reads. No program in this text. -/
import Derived.Test.YtfdkafmomkkapaaDoorU3
namespace Go.Proofs.YtfdkafmomkkapaaDoor
open Go.Lib

/-- a hex digit as the reference reads it. -/
def hv (c : Nat) : Option Nat := if 48 ≤ c ∧ c ≤ 57 then some (c - 48) else if 97 ≤ c ∧ c ≤ 102 then some (c - 97 + 10) else none
def hexLoop : Nat → Nat → List UInt8 → Nat × List UInt8
  | 0, f, l => (f, l)
  | _ + 1, f, [] => (f, [])
  | n + 1, f, c :: l => match hv c.toNat with
    | some d => hexLoop n (f + d * 16 ^ n) l
    | none => (f, c :: l)
def decLoop : Nat → List UInt8 → Nat × List UInt8
  | e, [] => (e, [])
  | e, c :: l => if 48 ≤ c.toNat ∧ c.toNat ≤ 57 ∧ e < 10000 then decLoop (10 * e + (c.toNat - 48)) l else (e, c :: l)
/-- the exponent behind the p. -/
def refE (q : List UInt8) : Int :=
  match q with
  | [] => 0
  | c :: r => if c = 45 then -((decLoop 0 r).1 : Int) else (decLoop 0 (c :: r)).1
def refX (s : List UInt8) (b0 : Nat) (one : Bool) (f : Nat) (e : Int) : Option Nat :=
  if e < -1022 ∨ 1023 < e then none
  else if textF (canB (b0 + (if one then (e + 1023).toNat * 4503599627370496 else 0) + f)) = s then some (canB (b0 + (if one then (e + 1023).toNat * 4503599627370496 else 0) + f)) else none
def refP (s : List UInt8) (b0 : Nat) (one : Bool) (f : Nat) (r : List UInt8) : Option Nat :=
  match r with
  | [] => none
  | c :: q => if c = 112 then refX s b0 one f (refE q) else none
def refN (s : List UInt8) (b0 : Nat) (one : Bool) (r : List UInt8) : Option Nat :=
  match r with
  | [] => none
  | c :: r' => if c = 46 then refP s b0 one (hexLoop 13 0 r').1 (hexLoop 13 0 r').2 else refP s b0 one 0 (c :: r')
def refT (s : List UInt8) (b0 : Nat) (t : List UInt8) : Option Nat :=
  if t = [110, 97, 110] then (if b0 = 0 then some nanB else none)
  else if t = [105, 110, 102] then some (b0 + infB)
  else if t = [48] then some b0
  else match t with
    | [] => none
    | c :: r => if r.length < 2 ∨ (c ≠ 48 ∧ c ≠ 49) then none else refN s b0 (c == 49) r
def refR (s : List UInt8) : Option Nat :=
  match s with
  | [] => refT s 0 s
  | c :: t => if c = 45 then refT s signB t else refT s 0 s

/-! digits -/
theorem hv_hexc {d : Nat} (h : d < 16) : hv (hexc d).toNat = some d := by
  have key : ∀ y : Fin 16, hv (hexc y.val).toNat = some y.val := by decide +kernel
  exact key ⟨d, h⟩
theorem hexR_zero (n : Nat) : hexR n 0 = [] := by cases n <;> simp [hexR]
theorem hexLoop_hexR (n g F : Nat) (l : List UInt8) (hn : n ≤ 13) (hg : g < 16 ^ n) : hexLoop n F (hexR n (g * 16 ^ (13 - n)) ++ 112 :: l) = (F + g, 112 :: l) := by
  induction n generalizing g F with
  | zero => simp at hg; subst hg; rfl
  | succ n ih =>
    by_cases h0 : g = 0
    · subst h0
      rw [Nat.zero_mul, hexR_zero]
      rfl
    · have hp : 0 < 16 ^ n := Nat.pow_pos (by decide)
      have e12 : (281474976710656 : Nat) = 16 ^ n * 16 ^ (12 - n) := by rw [← Nat.pow_add, show n + (12 - n) = 12 by omega]
      have e0 : 13 - (n + 1) = 12 - n := by omega
      have hp2 : 0 < 16 ^ (12 - n) := Nat.pow_pos (by decide)
      have d1 : g * 16 ^ (12 - n) / 281474976710656 = g / 16 ^ n := by
        rw [e12, Nat.mul_div_mul_right _ _ hp2]
      have d2 : g * 16 ^ (12 - n) % 281474976710656 * 16 = g % 16 ^ n * 16 ^ (13 - n) := by
        rw [e12, Nat.mul_mod_mul_right, Nat.mul_assoc, ← Nat.pow_succ, show (12 - n).succ = 13 - n by omega]
      have hd : g / 16 ^ n < 16 := by
        rw [Nat.pow_succ] at hg
        exact Nat.div_lt_of_lt_mul hg
      rw [e0, hexR_succ (by intro h; rcases Nat.mul_eq_zero.1 h with h | h <;> omega), d1, d2]
      show (match hv (hexc (g / 16 ^ n)).toNat with
        | some d => hexLoop n (F + d * 16 ^ n) (hexR n (g % 16 ^ n * 16 ^ (13 - n)) ++ 112 :: l)
        | none => _) = _
      rw [hv_hexc hd]
      simp only
      rw [ih _ _ (by omega) (Nat.mod_lt _ hp)]
      have := Nat.div_add_mod g (16 ^ n)
      rw [Nat.mul_comm] at this
      congr 1; omega
theorem decLoop_app (l r : List UInt8) (a v : Nat) (h : decLoop a l = (v, [])) : decLoop a (l ++ r) = decLoop v r := by
  induction l generalizing a with
  | nil => simp only [decLoop] at h; injection h with h; subst h; rfl
  | cons c l ih =>
    simp only [decLoop, List.cons_append] at h ⊢
    split at h
    · rename_i hc
      rw [if_pos hc]; exact ih _ h
    · simp at h
theorem decLoop_dec (u : Nat) (h : u < 100000) : decLoop 0 (decDigits u) = (u, []) := by
  induction u using Nat.strongRecOn with
  | ind u ih =>
    by_cases h1 : u < 10
    · rw [decDigits_one h1]
      have e := ofNat_dig h1
      simp only [decLoop, e]
      rw [if_pos (by omega)]
      congr 1; omega
    · rw [decDigits_cut h1, decLoop_app _ _ 0 (u / 10) (ih _ (by omega) (by omega))]
      have e := ofNat_dig (n := u % 10) (by omega)
      simp only [decLoop, e]
      rw [if_pos (by omega)]
      congr 1; omega
theorem refE_itoa {v : Int} (h : -1022 ≤ v ∧ v ≤ 1023) : refE (itoa v) = v := by
  unfold itoa
  split
  · rename_i hn
    unfold refE
    simp only [if_true]
    rw [decLoop_dec _ (by omega)]
    omega
  · rename_i hn
    cases hd : decDigits v.toNat with
    | nil => exact absurd hd (decDigits_ne _)
    | cons c r =>
      have hc := decDigits_dig v.toNat c (by rw [hd]; simp)
      have hc45 : c ≠ 45 := by rintro rfl; simp at hc
      unfold refE
      simp only
      rw [if_neg hc45, ← hd, decLoop_dec _ (by omega)]
      show ((v.toNat : Nat) : Int) = v
      omega
theorem itoa_two (v : Int) : 1 ≤ (itoa v).length := by
  unfold itoa
  split
  · simp
  · have := decDigits_ne v.toNat
    cases h : decDigits v.toNat with
    | nil => exact absurd h this
    | cons c r => simp

/-- what was written is read. -/
theorem refX_ok {s : List UInt8} {b0 f : Nat} {one : Bool} {v : Int} {y : Nat} (hv : -1022 ≤ v ∧ v ≤ 1023) (hy : b0 + (if one then (v + 1023).toNat * 4503599627370496 else 0) + f = y) (hc : canB y = y) (ht : textF y = s) :
    refX s b0 one f v = some y := by
  unfold refX
  rw [if_neg (by omega), hy, hc, if_pos ht]
theorem refT_main {s : List UInt8} {b0 : Nat} (c : UInt8) (r : List UInt8) (hc : c = 48 ∨ c = 49) (hr : 2 ≤ r.length) : refT s b0 (c :: r) = refN s b0 (c == 49) r := by
  unfold refT
  rw [if_neg (by rintro h; injection h with h _; subst h; revert hc; decide), if_neg (by rintro h; injection h with h _; subst h; revert hc; decide),
    if_neg (by rintro h; injection h with _ h; subst h; simp at hr)]
  simp only
  rw [if_neg]
  rintro (h | ⟨h1, h2⟩)
  · omega
  · rcases hc with hc | hc <;> contradiction
theorem hexLoop_all {f : Nat} (hf : f < 4503599627370496) (l : List UInt8) : hexLoop 13 0 (hexF f ++ 112 :: l) = (f, 112 :: l) := by
  have := hexLoop_hexR 13 f 0 l (Nat.le_refl _) hf
  rw [Nat.zero_add, show f * 16 ^ (13 - 13) = f by simp] at this
  exact this
theorem refN_dot {s : List UInt8} {b0 : Nat} {one : Bool} {r l : List UInt8} {f : Nat} (h : hexLoop 13 0 r = (f, 112 :: l)) : refN s b0 one (46 :: r) = refX s b0 one f (refE l) := by
  unfold refN
  simp only [if_true]
  rw [h]
  unfold refP
  simp only [if_true]
theorem refN_p {s : List UInt8} {b0 : Nat} {one : Bool} {l : List UInt8} : refN s b0 one (112 :: l) = refX s b0 one 0 (refE l) := by
  unfold refN
  simp only
  rw [if_neg (by decide)]
  unfold refP
  simp only [if_true]
theorem refT_inf {s : List UInt8} {b0 : Nat} : refT s b0 [105, 110, 102] = some (b0 + infB) := by
  unfold refT
  rw [if_neg (by decide), if_pos rfl]
theorem refT_zero {s : List UInt8} {b0 : Nat} : refT s b0 [48] = some b0 := by
  unfold refT
  rw [if_neg (by decide), if_neg (by decide), if_pos rfl]
theorem refT_abs {s : List UInt8} {b0 e f y : Nat} (h : e < 2047 ∧ f < 4503599627370496 ∨ e = 2047 ∧ f = 0) (hy : b0 + e * 4503599627370496 + f = y) (hc : canB y = y) (ht : textF y = s) : refT s b0 (absT e f) = some y := by
  rcases h with ⟨he, hf⟩ | ⟨he, hf⟩
  · by_cases e0 : e = 0
    · by_cases f0 : f = 0
      · rw [absT_zero e0 f0, refT_zero]
        exact congrArg some (by omega)
      · rw [absT_sub e0 f0, refT_main 48 _ (Or.inl rfl) (by simp only [List.length_cons, List.length_append]; omega), refN_dot (hexLoop_all hf _), refE_itoa (by omega)]
        exact refX_ok (by omega) (by rw [if_neg (by decide)]; omega) hc ht
    · have i1 := itoa_two ((e : Int) - 1023)
      have ev : ((e : Int) - 1023 + 1023).toNat = e := by omega
      by_cases f0 : f = 0
      · rw [absT_one e0 (by omega) f0, refT_main 49 _ (Or.inr rfl) (by simp only [List.length_cons]; omega), refN_p, refE_itoa (by omega)]
        exact refX_ok (by omega) (by rw [if_pos (by decide), ev]; omega) hc ht
      · rw [absT_norm e0 (by omega) f0, refT_main 49 _ (Or.inr rfl) (by simp only [List.length_cons, List.length_append]; omega), refN_dot (hexLoop_all hf _), refE_itoa (by omega)]
        exact refX_ok (by omega) (by rw [if_pos (by decide), ev]; omega) hc ht
  · rw [absT_inf he, refT_inf]
    exact congrArg some (by unfold infB; omega)
theorem refR_text {y : Nat} (h : CanB y) : refR (textF y) = some y := by
  cases hn : isNaNB y with
  | true =>
    rw [textF_nan hn, h.2 hn]
    rfl
  | false =>
    have ht := textF_num hn
    have hc := canB_self h
    have hs := sign_num h.1
    rw [expB_cut h.1] at hs
    by_cases hg : 9223372036854775808 ≤ y
    · rw [if_pos hg] at hs
      have e : textF y = 45 :: absT (expB y) (fracB y) := by rw [ht]; unfold signT; rw [if_pos hg]; rfl
      rw [e]
      show refT (45 :: absT (expB y) (fracB y)) signB (absT (expB y) (fracB y)) = _
      exact refT_abs (expB_ok hn) (by unfold signB; omega) hc e
    · rw [if_neg hg] at hs
      have e : textF y = absT (expB y) (fracB y) := by rw [ht]; unfold signT; rw [if_neg hg]; rfl
      obtain ⟨c, l, hl, hcc⟩ := absT_head (expB y) (fracB y)
      have hne : c ≠ 45 := by rcases hcc with rfl | rfl | rfl <;> decide
      have hr : refR (textF y) = refT (textF y) 0 (textF y) := by
        rw [e, hl]; show (if c = 45 then _ else _) = _; rw [if_neg hne]
      rw [hr]
      conv => lhs; arg 3; rw [e]
      exact refT_abs (expB_ok hn) (by omega) hc rfl
theorem hv_lt {c d : Nat} (h : hv c = some d) : d < 16 := by
  unfold hv at h
  split at h
  · injection h with h; omega
  · split at h
    · injection h with h; omega
    · cases h
theorem hexLoop_lt (n F : Nat) (l : List UInt8) : (hexLoop n F l).1 < F + 16 ^ n := by
  induction n generalizing F l with
  | zero => simp [hexLoop]
  | succ n ih =>
    have hp : 0 < 16 ^ n := Nat.pow_pos (by decide)
    cases l with
    | nil => simp only [hexLoop]; rw [Nat.pow_succ]; omega
    | cons c l =>
      simp only [hexLoop]
      cases hc : hv c.toNat with
      | none => simp only; rw [Nat.pow_succ]; omega
      | some d =>
        simp only
        have h1 := ih (F + d * 16 ^ n) l
        have h2 := hv_lt hc
        have h3 : d * 16 ^ n ≤ 15 * 16 ^ n := Nat.mul_le_mul_right _ (by omega)
        rw [Nat.pow_succ]
        omega
theorem hexLoop_13 (l : List UInt8) : (hexLoop 13 0 l).1 < 4503599627370496 := by
  have := hexLoop_lt 13 0 l
  rw [Nat.zero_add] at this
  exact Nat.lt_of_lt_of_eq this (by decide)
theorem refX_sound {s : List UInt8} {b0 f : Nat} {one : Bool} {v : Int} {x : Nat} (hb : b0 ≤ 9223372036854775808) (hf : f < 4503599627370496) (h : refX s b0 one f v = some x) : CanB x ∧ textF x = s := by
  unfold refX at h
  by_cases hv : v < -1022 ∨ 1023 < v
  · rw [if_pos hv] at h; cases h
  · rw [if_neg hv] at h
    have hE : (if one then (v + 1023).toNat * 4503599627370496 else 0) ≤ 2046 * 4503599627370496 := by split <;> omega
    generalize (if one then (v + 1023).toNat * 4503599627370496 else 0) = E at *
    by_cases ht : textF (canB (b0 + E + f)) = s
    · rw [if_pos ht] at h
      injection h with h
      subst h
      exact ⟨canB_can (by omega), ht⟩
    · rw [if_neg ht] at h; cases h
theorem refP_sound {s r : List UInt8} {b0 f : Nat} {one : Bool} {x : Nat} (hb : b0 ≤ 9223372036854775808) (hf : f < 4503599627370496) (h : refP s b0 one f r = some x) : CanB x ∧ textF x = s := by
  cases r with
  | nil => cases h
  | cons c q =>
    have h : (if c = 112 then refX s b0 one f (refE q) else none) = some x := h
    by_cases hc : c = 112
    · rw [if_pos hc] at h; exact refX_sound hb hf h
    · rw [if_neg hc] at h; cases h
theorem refN_sound {s r : List UInt8} {b0 : Nat} {one : Bool} {x : Nat} (hb : b0 ≤ 9223372036854775808) (h : refN s b0 one r = some x) : CanB x ∧ textF x = s := by
  cases r with
  | nil => cases h
  | cons c q =>
    have h : (if c = 46 then refP s b0 one (hexLoop 13 0 q).1 (hexLoop 13 0 q).2 else refP s b0 one 0 (c :: q)) = some x := h
    by_cases hc : c = 46
    · rw [if_pos hc] at h; exact refP_sound hb (hexLoop_13 q) h
    · rw [if_neg hc] at h; exact refP_sound hb (by decide) h
theorem text_inf (sg : Bool) : textF ((if sg then 9223372036854775808 else 0) + infB) = (if sg then [45] else []) ++ [105, 110, 102] ∧ CanB ((if sg then 9223372036854775808 else 0) + infB) := by
  cases sg <;> exact ⟨by decide +kernel, by decide +kernel, fun h => absurd h (by decide +kernel)⟩
theorem text_nought (sg : Bool) : textF (if sg then 9223372036854775808 else 0) = (if sg then [45] else []) ++ [48] ∧ CanB (if sg then 9223372036854775808 else 0) := by
  cases sg <;> exact ⟨by decide +kernel, by decide +kernel, fun h => absurd h (by decide +kernel)⟩
theorem refT_sound {t : List UInt8} {sg : Bool} {x : Nat} (h : refT ((if sg then [45] else []) ++ t) (if sg then 9223372036854775808 else 0) t = some x) : CanB x ∧ textF x = (if sg then [45] else []) ++ t := by
  have hb : (if sg then 9223372036854775808 else 0 : Nat) ≤ 9223372036854775808 := by split <;> omega
  unfold refT at h
  by_cases h1 : t = [110, 97, 110]
  · rw [if_pos h1] at h
    cases sg with
    | true => rw [if_neg (by decide)] at h; cases h
    | false =>
      have h : some nanB = some x := h
      injection h with h
      subst h; subst h1
      exact ⟨⟨by decide, fun _ => rfl⟩, if_pos (by decide +kernel)⟩
  · rw [if_neg h1] at h
    by_cases h2 : t = [105, 110, 102]
    · rw [if_pos h2] at h
      injection h with h
      subst h; subst h2
      exact ⟨(text_inf sg).2, (text_inf sg).1⟩
    · rw [if_neg h2] at h
      by_cases h3 : t = [48]
      · rw [if_pos h3] at h
        injection h with h
        subst h; subst h3
        exact ⟨(text_nought sg).2, (text_nought sg).1⟩
      · rw [if_neg h3] at h
        cases t with
        | nil => cases h
        | cons c r =>
          simp only at h
          split at h
          · cases h
          · exact refN_sound hb h
theorem refR_sound {s : List UInt8} {x : Nat} (h : refR s = some x) : CanB x ∧ textF x = s := by
  cases s with
  | nil => exact refT_sound (sg := false) (t := []) h
  | cons c t =>
    have h : (if c = 45 then refT (c :: t) signB t else refT (c :: t) 0 (c :: t)) = some x := h
    by_cases hc : c = 45
    · rw [if_pos hc] at h
      subst hc
      exact refT_sound (sg := true) (t := t) h
    · rw [if_neg hc] at h
      exact refT_sound (sg := false) (t := c :: t) h
/-- both read alike. -/
theorem refR_parseF (s : List UInt8) : refR s = parseF s := by
  cases hp : parseF s with
  | some y =>
    obtain ⟨h1, h2⟩ := (parseF_iff _ _).1 hp
    rw [← h2]; exact refR_text h1
  | none =>
    cases hr : refR s with
    | none => rfl
    | some x =>
      rw [(parseF_iff _ _).2 (refR_sound hr)] at hp
      cases hp
end Go.Proofs.YtfdkafmomkkapaaDoor
