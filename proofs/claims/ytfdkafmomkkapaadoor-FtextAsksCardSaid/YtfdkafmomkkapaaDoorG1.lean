/- The plain law: numerals, hex digits and words are read as they were written. No program in this text. -/
import Derived.Test.YtfdkafmomkkapaaDoorPl4
import Derived.Test.YtfdkafmomkkapaaDoorF0
namespace Go.Proofs.YtfdkafmomkkapaaDoor
open Go.Lib

theorem decDigits_cut {u : Nat} (h : ¬ u < 10) : decDigits u = decDigits (u / 10) ++ [UInt8.ofNat (48 + u % 10)] := by
  rw [decDigits, dif_neg h]
theorem ofNat_dig {n : Nat} (h : n < 10) : (UInt8.ofNat (48 + n)).toNat = 48 + n := by
  rw [UInt8.toNat_ofNat']; omega
theorem decDigits_dig (u : Nat) : ∀ c ∈ decDigits u, 48 ≤ c.toNat ∧ c.toNat ≤ 57 := by
  induction u using Nat.strongRecOn with
  | ind u ih =>
    intro c hc
    by_cases h : u < 10
    · rw [decDigits_one h] at hc
      rw [List.mem_singleton.1 hc, ofNat_dig h]; omega
    · rw [decDigits_cut h] at hc
      rcases List.mem_append.1 hc with hc | hc
      · exact ih _ (by omega) c hc
      · rw [List.mem_singleton.1 hc, ofNat_dig (by omega)]; omega
theorem decDigits_ne (u : Nat) : decDigits u ≠ [] := by
  by_cases h : u < 10
  · rw [decDigits_one h]; simp
  · rw [decDigits_cut h]; simp

theorem parseUint10_app (acc : Nat) (l r : List UInt8) (v : Nat) (h : parseUint10 acc l = .ok v) : parseUint10 acc (l ++ r) = parseUint10 v r := by
  induction l generalizing acc with
  | nil => simp only [parseUint10] at h; injection h with h; subst h; rfl
  | cons c l ih =>
    simp only [parseUint10, List.cons_append] at h ⊢
    split at h
    · rename_i h1
      rw [if_pos h1]
      split at h
      · cases h
      · rename_i h2
        rw [if_neg h2]
        split at h
        · cases h
        · rename_i h3
          rw [if_neg h3]
          exact ih _ h
    · cases h
theorem parseUint10_dec (u : Nat) (h : u < 1844674407370955162) : parseUint10 0 (decDigits u) = .ok u := by
  induction u using Nat.strongRecOn with
  | ind u ih =>
    by_cases h1 : u < 10
    · rw [decDigits_one h1]
      have e := ofNat_dig h1
      simp only [parseUint10, e]
      rw [if_pos (by omega), if_neg (by omega), if_neg (by omega)]
      congr 1; omega
    · rw [decDigits_cut h1, parseUint10_app 0 _ _ (u / 10) (ih _ (by omega) (by omega))]
      have e := ofNat_dig (n := u % 10) (by omega)
      simp only [parseUint10, e]
      rw [if_pos (by omega), if_neg (by omega), if_neg (by omega)]
      congr 1; omega

/-- from -2^40 to 2^40. -/
def RR (v : Int) : Prop := -1099511627776 ≤ v ∧ v ≤ 1099511627776

theorem atoiIn_itoa {v : Int} (h : RR v) : atoiIn (itoa v) = some v := by
  obtain ⟨h0, h1⟩ := h
  have key : atoiAll (itoa v) = .ok v := by
    unfold itoa
    split
    · rename_i hn
      have hp := parseUint10_dec v.natAbs (by omega)
      unfold atoiAll
      simp only [show (45 : UInt8).toNat = 45 from rfl, or_true, if_true]
      unfold parseMag
      rw [if_neg (decDigits_ne _), hp]
      simp only
      rw [if_neg (by omega), if_neg (by omega)]
      congr 1; omega
    · rename_i hn
      have hp := parseUint10_dec v.toNat (by omega)
      cases hd : decDigits v.toNat with
      | nil => exact absurd hd (decDigits_ne _)
      | cons c r =>
        have hc := decDigits_dig v.toNat c (by rw [hd]; simp)
        unfold atoiAll
        simp only
        rw [if_neg (by omega)]
        unfold parseMag
        rw [if_neg (by simp), ← hd, hp]
        simp only
        rw [if_neg (by omega), if_neg (by omega), if_neg (by omega)]
        congr 1; omega
  unfold atoiIn
  rw [key]
  simp only
  rw [if_pos ⟨h0, h1⟩]
theorem atoiIn_RR {l : List UInt8} {v : Int} (h : atoiIn l = some v) : RR v := by
  unfold atoiIn at h
  split at h
  · split at h
    · rename_i hc; injection h with h; subst h; exact hc
    · cases h
  · cases h

theorem preN_app (l t : List UInt8) (neg : Bool) (k : Nat) (h : k ≤ l.length) : preN (l ++ t) neg k = preN l neg k := by
  induction k with
  | zero => rfl
  | succ k ih =>
    have e : (l ++ t).getD k 0 = l.getD k 0 := by
      rw [List.getD_eq_getElem?_getD, List.getD_eq_getElem?_getD, List.getElem?_append_left (by omega)]
    simp only [preN]
    rw [ih (by omega), e]
theorem preN_dec (u : Nat) (h : u ≤ 1099511627776) : preN (decDigits u) false (decDigits u).length = some u := by
  induction u using Nat.strongRecOn with
  | ind u ih =>
    by_cases h1 : u < 10
    · rw [decDigits_one h1]
      have e := ofNat_dig h1
      have hg : [UInt8.ofNat (48 + u)].getD 0 0 = UInt8.ofNat (48 + u) := rfl
      show preN _ false (0 + 1) = _
      rw [preN_succ _ _ 0 0 rfl, hg, e, if_neg (by simp), if_pos (by omega)]
      congr 1; omega
    · rw [decDigits_cut h1, List.length_append, List.length_singleton]
      have e := ofNat_dig (n := u % 10) (by omega)
      have hi := ih (u / 10) (by omega) (by omega)
      rw [← preN_app _ [UInt8.ofNat (48 + u % 10)] _ _ (Nat.le_refl _)] at hi
      have hg : (decDigits (u / 10) ++ [UInt8.ofNat (48 + u % 10)]).getD (decDigits (u / 10)).length 0 = UInt8.ofNat (48 + u % 10) := by
        rw [List.getD_eq_getElem?_getD, List.getElem?_append_right (Nat.le_refl _)]; simp
      rw [preN_succ _ _ _ _ hi, hg, e, if_neg (by simp), if_pos (by omega)]
      congr 1; omega
theorem preN_neg (l : List UInt8) (k : Nat) : preN (45 :: l) true (k + 1) = preN l false k := by
  induction k with
  | zero => rw [preN_succ _ _ 0 0 rfl, if_pos ⟨rfl, rfl⟩]; rfl
  | succ k ih =>
    have e : (45 :: l).getD (k + 1) 0 = l.getD k 0 := rfl
    rw [preN, ih]
    cases hp : preN l false k with
    | none => simp only; rw [preN, hp]
    | some n => rw [preN_succ _ _ _ _ hp, e]; simp
theorem numT_itoa {v : Int} (h : RR v) : numT (itoa v) = some v := by
  obtain ⟨h0, h1⟩ := h
  by_cases hn : v < 0
  · have e : itoa v = 45 :: decDigits v.natAbs := by unfold itoa; rw [if_pos hn]
    have hN : negN (itoa v) = true := by rw [e]; rfl
    have hp : preN (itoa v) true (itoa v).length = some v.natAbs := by
      rw [e, List.length_cons, preN_neg]; exact preN_dec _ (by omega)
    have hs : signN true v.natAbs = v := by unfold signN; rw [if_pos rfl]; omega
    unfold numT
    rw [hN, hp]
    simp only
    rw [hs, if_pos ⟨h1, h0, rfl⟩]
  · have e : itoa v = decDigits v.toNat := by unfold itoa; rw [if_neg hn]
    have hN : negN (itoa v) = false := by
      rw [e]
      unfold negN
      rw [decide_eq_false_iff_not]
      intro hh
      cases hd : decDigits v.toNat with
      | nil => exact decDigits_ne _ hd
      | cons c r =>
        have hc := decDigits_dig v.toNat c (by rw [hd]; simp)
        rw [hd] at hh
        simp at hh
        subst hh
        have : (45 : UInt8).toNat = 45 := rfl
        omega
    have hp : preN (itoa v) false (itoa v).length = some v.toNat := by rw [e]; exact preN_dec _ (by omega)
    have hs : signN false v.toNat = v := by unfold signN; rw [if_neg (by simp)]; omega
    unfold numT
    rw [hN, hp]
    simp only
    rw [hs, if_pos ⟨h1, h0, rfl⟩]

/-! hex digits -/
theorem dig_hexc {n : Nat} (h : n < 16) : dig ((hexc n).toNat : Int) = n := by
  have key : ∀ y : Fin 16, dig ((hexc y.val).toNat : Int) = y.val := by decide +kernel
  exact key ⟨n, h⟩
theorem hexs_cons (c : UInt8) (l : List UInt8) : hexs (c :: l) = hexc (c.toNat / 16) :: hexc (c.toNat % 16) :: hexs l := by simp [hexs, hex2]
theorem hexs_getD (l : List UInt8) (i : Nat) (h : i < l.length) : (hexs l).getD (2 * i) 0 = hexc (l[i].toNat / 16) ∧ (hexs l).getD (2 * i + 1) 0 = hexc (l[i].toNat % 16) := by
  induction l generalizing i with
  | nil => simp at h
  | cons c l ih =>
    rw [hexs_cons]
    cases i with
    | zero => exact ⟨rfl, rfl⟩
    | succ i =>
      have := ih i (by simpa using h)
      rw [show 2 * (i + 1) = 2 * i + 1 + 1 by omega]
      simpa using this
theorem keep_zero (l : List UInt8) (h : keep l = 0) : l = List.replicate l.length 0 := by
  induction l with
  | nil => rfl
  | cons c l ih =>
    simp only [keep] at h
    split at h
    · rename_i h0
      split at h
      · rename_i hc
        rw [List.length_cons, List.replicate_succ, ← ih h0, hc]
      · cases h
    · cases h
theorem keep_tail (l : List UInt8) : l = trim0 l ++ List.replicate (l.length - keep l) 0 := by
  induction l with
  | nil => rfl
  | cons c l ih =>
    unfold trim0
    by_cases h0 : keep l = 0
    · have e := keep_zero l h0
      by_cases hc : c = 0
      · have hk : keep (c :: l) = 0 := by simp [keep, h0, hc]
        rw [hk, List.take_zero, List.nil_append, Nat.sub_zero, List.length_cons, List.replicate_succ, ← e, hc]
      · have hk : keep (c :: l) = 1 := by simp [keep, h0, hc]
        rw [hk, List.take_succ_cons, List.take_zero, List.length_cons, Nat.add_sub_cancel, ← e]; rfl
    · have hk : keep (c :: l) = keep l + 1 := by simp [keep, h0]
      rw [hk, List.take_succ_cons, List.length_cons, Nat.add_sub_add_right, List.cons_append]
      exact congrArg (c :: ·) ih
theorem trim0_len (l : List UInt8) : (trim0 l).length = keep l := by unfold trim0; rw [List.length_take]; have := keep_le l; omega

theorem unbytesT_bytes {d : List UInt8} (h : d.length = 40) : unbytesT (bytesT d) = some d := by
  have hk := keep_le d
  by_cases h0 : keep d = 0
  · have e : bytesT d = [45] := by unfold bytesT; rw [if_pos h0]
    have := keep_zero d h0
    rw [e]
    unfold unbytesT
    rw [if_pos rfl, ← h, ← this]
  · have e : bytesT d = hexs (trim0 d) := by unfold bytesT; rw [if_neg h0]
    have hl : (bytesT d).length = 2 * keep d := by rw [e, hexs_length, trim0_len]
    have hget : ∀ i, i < keep d → hiD (bytesT d) i = (((trim0 d).getD i 0).toNat / 16 : Nat) ∧ loD (bytesT d) i = (((trim0 d).getD i 0).toNat % 16 : Nat) := by
      intro i hi
      have hi' : i < (trim0 d).length := by rw [trim0_len]; exact hi
      have hg := hexs_getD (trim0 d) i hi'
      have hb : (trim0 d).getD i 0 = (trim0 d)[i] := by rw [List.getD_eq_getElem?_getD, List.getElem?_eq_getElem hi']; rfl
      have hlt := (trim0 d)[i].toNat_lt
      unfold hiD loD
      rw [e, hg.1, hg.2, hb, dig_hexc (by omega), dig_hexc (by omega)]
      exact ⟨rfl, rfl⟩
    have hok : (List.range (keep d)).all (okD (bytesT d)) = true := by
      rw [List.all_eq_true]
      intro i hi
      have := hget i (List.mem_range.1 hi)
      exact okD_good (by rw [this.1, this.2]; omega)
    have hbyte : ∀ i, i < keep d → byteD (bytesT d) i = (trim0 d).getD i 0 := by
      intro i hi
      have hg := hget i hi
      have := byteD_toNat (s := bytesT d) (i := i) (by rw [hg.1, hg.2]; omega)
      rw [hg.1, hg.2] at this
      apply UInt8.toNat_inj.1
      omega
    have hf : fortyD (bytesT d) (keep d) = d := by
      have e2 : (List.range (keep d)).map (byteD (bytesT d)) = trim0 d := by
        apply List.ext_getElem
        · rw [List.length_map, List.length_range, trim0_len]
        · intro i h1 h2
          rw [List.getElem_map, List.getElem_range, hbyte i (by rw [trim0_len] at h2; exact h2), List.getD_eq_getElem?_getD, List.getElem?_eq_getElem h2]; rfl
      unfold fortyD
      rw [e2, ← h, ← keep_tail d]
    unfold unbytesT
    rw [if_neg (by intro hh; rw [hh] at hl; simp at hl; omega), if_neg (by rw [hl]; omega), hl, show 2 * keep d / 2 = keep d by omega]
    unfold unbytesN
    rw [if_pos hok, hf, if_pos rfl]
theorem unbytesT_len {s d : List UInt8} (h : unbytesT s = some d) : d.length = 40 := by
  unfold unbytesT at h
  split at h
  · injection h with h; subst h; simp
  · split at h
    · cases h
    · rename_i h2
      unfold unbytesN at h
      split at h
      · split at h
        · injection h with h; subst h; exact fortyD_length _ _ (by omega)
        · cases h
      · cases h

/-! words -/
theorem itoa_chars (v : Int) : ∀ c ∈ itoa v, c.toNat = 45 ∨ 48 ≤ c.toNat ∧ c.toNat ≤ 57 := by
  intro c hc
  unfold itoa at hc
  split at hc
  · rcases List.mem_cons.1 hc with rfl | hc
    · exact Or.inl rfl
    · exact Or.inr (decDigits_dig _ c hc)
  · exact Or.inr (decDigits_dig _ c hc)
theorem itoa_ne (v : Int) : itoa v ≠ [] := by
  unfold itoa
  split
  · simp
  · exact decDigits_ne _
theorem hexc_chars {n : Nat} (h : n < 16) : (48 ≤ (hexc n).toNat ∧ (hexc n).toNat ≤ 57) ∨ (97 ≤ (hexc n).toNat ∧ (hexc n).toNat ≤ 102) := by
  have key : ∀ y : Fin 16, (48 ≤ (hexc y.val).toNat ∧ (hexc y.val).toNat ≤ 57) ∨ (97 ≤ (hexc y.val).toNat ∧ (hexc y.val).toNat ≤ 102) := by decide +kernel
  exact key ⟨n, h⟩
theorem bytesT_chars (d : List UInt8) : ∀ c ∈ bytesT d, c.toNat = 45 ∨ (48 ≤ c.toNat ∧ c.toNat ≤ 57) ∨ (97 ≤ c.toNat ∧ c.toNat ≤ 102) := by
  intro c hc
  unfold bytesT at hc
  split at hc
  · rw [List.mem_singleton.1 hc]; exact Or.inl rfl
  · unfold hexs at hc
    obtain ⟨x, _, hx⟩ := List.mem_flatMap.1 hc
    have := x.toNat_lt
    unfold hex2 at hx
    rcases List.mem_cons.1 hx with rfl | hx
    · exact Or.inr (hexc_chars (by omega))
    · rw [List.mem_singleton.1 hx]; exact Or.inr (hexc_chars (by omega))
theorem bytesT_ne (d : List UInt8) : bytesT d ≠ [] := by
  unfold bytesT
  split
  · simp
  · rename_i h
    intro e
    have := congrArg List.length e
    rw [hexs_length, trim0_len] at this
    simp at this
    omega
theorem wordL_chars (k : Int) : ∀ c ∈ wordL k, c.toNat ≠ 32 ∧ c.toNat ≠ 120 ∧ c.toNat ≠ 10 := by
  intro c hc
  unfold wordL at hc
  repeat' split at hc
  all_goals revert c; decide

theorem words_join (ws : List (List UInt8)) (hne : ws ≠ []) (h : ∀ x ∈ ws, ∀ c ∈ x, c ≠ 32) : words (join ws [32]) = ws := by
  cases ws with
  | nil => exact absurd rfl hne
  | cons w r =>
    rw [join_cons]
    clear hne
    induction r generalizing w with
    | nil => simp [joinTail]; exact words_none w (h w (by simp))
    | cons v r ih =>
      have e : joinTail [32] (v :: r) = 32 :: (v ++ joinTail [32] r) := by simp [joinTail]
      rw [e, words_cut w _ (h w (by simp)), ih v fun x hx => h x (by simp [List.mem_cons.1 hx])]

end Go.Proofs.YtfdkafmomkkapaaDoor
