/- The plain laws of ScriptApart, ScriptForms, ScriptBack. No program in this text. -/
import Derived.Test.YtfdkafmomkkapaaDoorG3
namespace Go.Proofs.YtfdkafmomkkapaaDoor
open Go.Lib

/-! blocks -/
def pad40 (l : List UInt8) : List UInt8 := l ++ List.replicate (40 - l.length) 0
theorem pad40_length {l : List UInt8} (h : l.length ≤ 40) : (pad40 l).length = 40 := by unfold pad40; simp; omega
theorem keep_zeros (l : List UInt8) (k : Nat) : keep (l ++ List.replicate k 0) = keep l := by
  induction k with
  | zero => simp
  | succ k ih => rw [List.replicate_succ', ← List.append_assoc, keep_snoc_zero, ih]
theorem bytesT_zeros (l : List UInt8) (k : Nat) : bytesT (l ++ List.replicate k 0) = bytesT l := by
  have hk := keep_le l
  unfold bytesT trim0
  rw [keep_zeros, List.take_append_of_le_length hk]
theorem bytesT_pad (l : List UInt8) : bytesT (pad40 l) = bytesT l := bytesT_zeros l _
theorem bytesT_inj {x y : List UInt8} (hx : x.length = 40) (hy : y.length = 40) (h : bytesT x = bytesT y) : x = y := by
  have h1 := unbytesT_bytes hx
  rw [h, unbytesT_bytes hy] at h1
  injection h1 with h1
  exact h1.symm
theorem unbytesT_pad {l : List UInt8} (h : l.length ≤ 40) : unbytesT (bytesT l) = some (pad40 l) := by
  rw [← bytesT_pad]; exact unbytesT_bytes (pad40_length h)
theorem bytesT_same {a b : List UInt8} (ha : a.length ≤ 40) (hb : b.length ≤ 40) : (bytesT a == bytesT b) = (pad40 a == pad40 b) := by
  rw [Bool.eq_iff_iff, beq_iff_eq, beq_iff_eq]
  constructor
  · intro h
    exact bytesT_inj (pad40_length ha) (pad40_length hb) (by rw [bytesT_pad, bytesT_pad, h])
  · intro h
    rw [← bytesT_pad a, ← bytesT_pad b, h]
theorem bytesT_none {a : List UInt8} (h : keep a = 0) : bytesT a = [45] := by unfold bytesT; rw [if_pos h]
theorem bytesT_len {a : List UInt8} (h : keep a ≠ 0) : (bytesT a).length = 2 * keep a := by
  unfold bytesT; rw [if_neg h, hexs_length, trim0_len]
theorem keep_take_succ (l : List UInt8) (i : Nat) (h : i < l.length) : keep (l.take (i + 1)) = if l[i] = 0 then keep (l.take i) else i + 1 := by
  rw [List.take_succ_eq_append_getElem h]
  split
  · rename_i e; rw [e, keep_snoc_zero]
  · rename_i e; rw [keep_snoc _ _ e, List.length_take]; omega

/-! words of a text that is longer -/
theorem words_app : ∀ (a b : List UInt8), words (a ++ 32 :: b) = words a ++ words b
  | [], b => by simp [words]
  | c :: r, b => by
    have ih := words_app r b
    have hne := words_ne r
    by_cases hc : c = 32
    · rw [List.cons_append, words, if_pos hc, words, if_pos hc, ih]; rfl
    · rw [List.cons_append, words, if_neg hc, words, if_neg hc, ih]
      cases hw : words r with
      | nil => exact absurd hw hne
      | cons w ws => rfl
theorem mem_join {ws : List (List UInt8)} {c : UInt8} (h : c ∈ join ws [32]) : c = 32 ∨ ∃ x ∈ ws, c ∈ x := by
  cases ws with
  | nil => simp [join] at h
  | cons w r =>
    rw [join_cons] at h
    have key : ∀ r : List (List UInt8), c ∈ joinTail [32] r → c = 32 ∨ ∃ x ∈ r, c ∈ x := by
      intro r
      induction r with
      | nil => intro h; simp [joinTail] at h
      | cons v r ih =>
        intro h
        have e : joinTail [32] (v :: r) = 32 :: (v ++ joinTail [32] r) := by simp [joinTail]
        rw [e] at h
        rcases List.mem_cons.1 h with h | h
        · exact Or.inl h
        · rcases List.mem_append.1 h with h | h
          · exact Or.inr ⟨v, by simp, h⟩
          · rcases ih h with h | ⟨x, hx, h⟩
            · exact Or.inl h
            · exact Or.inr ⟨x, by simp [hx], h⟩
    rcases List.mem_append.1 h with h | h
    · exact Or.inr ⟨w, by simp, h⟩
    · rcases key r h with h | ⟨x, hx, h⟩
      · exact Or.inl h
      · exact Or.inr ⟨x, by simp [hx], h⟩

/-- an op that has a text: its kind is one of the five; a write's blocks have their size. -/
def Has (k : Int) (l : List (Int × List UInt8)) : Prop := (k = 1 ∨ k = 2 ∨ k = 3 ∨ k = 4 ∨ k = 5) ∧ (k = 3 → ∀ i (hi : i < l.length), l[i].2.length = 40)
theorem has_of {k h a n : Int} {l : List (Int × List UInt8)} (hne : textT k h a n l ≠ []) : Has k l := by
  refine ⟨?_, fun h3 i hi => ?_⟩
  · by_cases h1 : k = 1
    · exact Or.inl h1
    by_cases h2 : k = 2
    · exact Or.inr (Or.inl h2)
    by_cases h3 : k = 3
    · exact Or.inr (Or.inr (Or.inl h3))
    by_cases h4 : k = 4
    · exact Or.inr (Or.inr (Or.inr (Or.inl h4)))
    by_cases h5 : k = 5
    · exact Or.inr (Or.inr (Or.inr (Or.inr h5)))
    exact absurd (by unfold textT; rw [if_neg h1, if_neg h2, if_neg h3, if_neg h4, if_neg h5]) hne
  · by_cases hb : l[i].2.length = 40
    · exact hb
    · exact absurd (textT_bad h3 hi hb) hne
theorem has_text {k h a n : Int} {l : List (Int × List UInt8)} (H : Has k l) : textT k h a n l = join (opW k h a n l) [32] := (opW_text H.2).symm
theorem has_words {k h a n : Int} {l : List (Int × List UInt8)} (H : Has k l) : words (textT k h a n l) = opW k h a n l := by rw [has_text H, words_opW]
theorem opW_cons {k h a n : Int} {l : List (Int × List UInt8)} : ∃ r, opW k h a n l = wordL k :: r := by
  unfold opW
  repeat' split
  · exact ⟨_, rfl⟩
  · exact ⟨_, rfl⟩
  · exact ⟨_, rfl⟩
  · exact ⟨_, rfl⟩
theorem wordL_ne {k : Int} (h : k = 1 ∨ k = 2 ∨ k = 3 ∨ k = 4 ∨ k = 5) : wordL k ≠ [] := by
  rcases h with rfl | rfl | rfl | rfl | rfl <;> decide
theorem good_kind {o : OpD} (h : Good o) : o.1 = 1 ∨ o.1 = 2 ∨ o.1 = 3 ∨ o.1 = 4 ∨ o.1 = 5 := by
  rcases h with rfl | ⟨_, _, _, rfl, _⟩ | ⟨_, _, rfl, _⟩ | ⟨k, _, rfl | rfl, rfl, _⟩ <;> simp
theorem good_mem_ne {o : OpD} (h : Good o) : [] ∉ wordsO o := by
  intro hx
  rcases mem_opW hx with e | ⟨v, e⟩ | ⟨d, e⟩
  · exact wordL_ne (good_kind h) e.symm
  · exact itoa_ne v e.symm
  · exact bytesT_ne d e.symm
theorem wordL_inj {k k' : Int} (h : k = 1 ∨ k = 2 ∨ k = 3 ∨ k = 4 ∨ k = 5) (h' : k' = 1 ∨ k' = 2 ∨ k' = 3 ∨ k' = 4 ∨ k' = 5) (e : wordL k = wordL k') : k = k' := by
  rcases h with rfl | rfl | rfl | rfl | rfl <;> rcases h' with rfl | rfl | rfl | rfl | rfl <;> first | rfl | (exact absurd e (by decide))
theorem opW_length {k h a n : Int} {l : List (Int × List UInt8)} : (opW k h a n l).length = if k = 2 then 4 else if k = 3 then 2 + 2 * l.length else if k = 4 ∨ k = 5 then 2 else 1 := by
  unfold opW
  repeat' split
  · rfl
  · rw [List.length_append, putW_length]; rfl
  · rfl
  · rfl
theorem text_chars {o : OpD} (h : Good o) : ∀ c ∈ textO o, c.toNat ≠ 120 ∧ c.toNat ≠ 10 := by
  intro c hc
  rw [good_text h] at hc
  rcases mem_join hc with rfl | ⟨x, hx, hc⟩
  · decide
  · have := opW_chars x hx c hc; omega

/-- the texts that are no op's. -/
def formT (s : List UInt8) (j : Nat) : List UInt8 :=
  match j with
  | 0 => 32 :: s
  | 1 => s ++ [32]
  | 2 => s ++ [32, 49]
  | 3 => s ++ [120]
  | 4 => 48 :: s
  | 5 => s ++ [32, 32]
  | _ => s ++ [10]
theorem form_none {k h a n : Int} {l : List (Int × List UInt8)} (hne : textT k h a n l ≠ []) (j : Nat) : parseA (formT (textT k h a n l) j) = none := by
  have H := has_of hne
  have hw := has_words (h := h) (a := a) (n := n) H
  cases hp : parseA (formT (textT k h a n l) j) with
  | none => rfl
  | some o =>
    obtain ⟨hg, ht⟩ := (parseA_iff _ _).1 hp
    have hgw := good_words hg
    have hch := text_chars hg
    rw [ht] at hgw hch
    generalize hs : textT k h a n l = s at *
    exfalso
    match j with
    | 0 =>
      have e : words (formT s 0) = [] :: words s := by show words (32 :: s) = _; rw [words, if_pos rfl]
      exact good_mem_ne hg (by rw [← hgw, e]; simp)
    | 1 =>
      have e : words (formT s 1) = words s ++ [[]] := words_app s []
      exact good_mem_ne hg (by rw [← hgw, e]; simp)
    | 2 =>
      have e : words (formT s 2) = words s ++ [[49]] := words_app s [49]
      rw [e, hw] at hgw
      obtain ⟨r, hr⟩ := opW_cons (k := k) (h := h) (a := a) (n := n) (l := l)
      obtain ⟨r', hr'⟩ := opW_cons (k := o.1) (h := o.2.1) (a := o.2.2.1) (n := o.2.2.2.1) (l := o.2.2.2.2)
      have hk : k = o.1 := by
        have h1 := hgw
        unfold wordsO at h1
        rw [hr, hr', List.cons_append] at h1
        injection h1 with h1
        exact wordL_inj H.1 (good_kind hg) h1
      have hl := congrArg List.length hgw
      unfold wordsO at hl
      rw [List.length_append, opW_length, opW_length, ← hk] at hl
      simp only [List.length_singleton] at hl
      split at hl
      · omega
      · split at hl
        · omega
        · split at hl <;> omega
    | 3 => exact (hch 120 (by show _ ∈ s ++ [120]; simp)).1 rfl
    | 4 =>
      obtain ⟨r', hr'⟩ := opW_cons (k := o.1) (h := o.2.1) (a := o.2.2.1) (n := o.2.2.2.1) (l := o.2.2.2.2)
      have h1 := good_text hg
      unfold wordsO at h1
      rw [hr', join_cons, ht] at h1
      have h2 : (48 :: s : List UInt8).head? = some 48 := rfl
      have h3 : (48 :: s : List UInt8) = wordL o.1 ++ joinTail [32] r' := h1
      rw [h3] at h2
      rcases good_kind hg with e | e | e | e | e <;> rw [e] at h2 <;> exact absurd h2 (by simp [wordL])
    | 5 =>
      have e : words (formT s 5) = words s ++ words [32] := words_app s [32]
      exact good_mem_ne hg (by rw [← hgw, e]; simp [words])
    | (j + 6) => exact (hch 10 (by show _ ∈ s ++ [10]; simp)).2 rfl

/-! an op is read as it was -/
def valD (l : List UInt8) : Nat := l.foldl (fun v c => 10 * v + (c.toNat - 48)) 0
theorem valD_dec (u : Nat) : valD (decDigits u) = u := by
  induction u using Nat.strongRecOn with
  | ind u ih =>
    by_cases h1 : u < 10
    · rw [decDigits_one h1]
      have := ofNat_dig h1
      unfold valD
      simp only [List.foldl_cons, List.foldl_nil]
      omega
    · rw [decDigits_cut h1]
      have e := ofNat_dig (n := u % 10) (by omega)
      have hi := ih (u / 10) (by omega)
      unfold valD at hi ⊢
      rw [List.foldl_append, hi]
      simp only [List.foldl_cons, List.foldl_nil]
      omega
theorem itoa_inj {a b : Int} (h : itoa a = itoa b) : a = b := by
  have hd : ∀ u (r : List UInt8), decDigits u ≠ 45 :: r := by
    intro u r e
    have := decDigits_dig u 45 (by rw [e]; simp)
    have e45 : (45 : UInt8).toNat = 45 := rfl
    omega
  unfold itoa at h
  split at h
  · split at h
    · injection h with _ h
      have := congrArg valD h
      rw [valD_dec, valD_dec] at this
      omega
    · exact absurd h.symm (hd _ _)
  · split at h
    · exact absurd h (hd _ _)
    · have := congrArg valD h
      rw [valD_dec, valD_dec] at this
      omega
theorem putW_inj : ∀ (l l' : List (Int × List UInt8)), (∀ x ∈ l, x.2.length = 40) → (∀ x ∈ l', x.2.length = 40) → putW l = putW l' → l = l'
  | [], [], _, _, _ => rfl
  | [], (v, d) :: l, _, _, h => by simp [putW] at h
  | (v, d) :: l, [], _, _, h => by simp [putW] at h
  | (v, d) :: l, (v', d') :: l', h1, h2, h => by
    have e : ∀ (v : Int) (d : List UInt8) l, putW ((v, d) :: l) = itoa v :: bytesT d :: putW l := fun v d l => by simp [putW]
    rw [e, e] at h
    injection h with ha h
    injection h with hb h
    have r := putW_inj l l' (fun x hx => h1 x (by simp [hx])) (fun x hx => h2 x (by simp [hx])) h
    have a := itoa_inj ha
    have b := bytesT_inj (h1 (v, d) (by simp)) (h2 (v', d') (by simp)) hb
    rw [r, a, show d = d' from b]

/-- what the form of a kind names of an op. -/
def formO (k h a n : Int) (l : List (Int × List UInt8)) : OpD := (k, if k = 1 then 0 else h, if k = 2 then a else 0, if k = 2 then n else 0, if k = 3 then l else [])
def far1 (v : Int) : Bool := decide (v < -1099511627776) || decide (1099511627776 < v)
/-- is one of the numbers that the form names too far? -/
def farO (k h a n : Int) (l : List (Int × List UInt8)) : Bool :=
  if k = 1 then false else if k = 2 then far1 h || (far1 a || far1 n) else if k = 3 then far1 h || l.any fun p => far1 p.1 else far1 h
theorem far1_no {v : Int} : far1 v = false ↔ RR v := by
  unfold far1 RR
  rw [Bool.or_eq_false_iff, decide_eq_false_iff_not, decide_eq_false_iff_not]
  omega
theorem back_good {k h a n : Int} {l : List (Int × List UInt8)} (H : Has k l) (hf : farO k h a n l = false) : Good (formO k h a n l) := by
  unfold farO at hf
  have H2 := H.2
  rcases H.1 with rfl | rfl | rfl | rfl | rfl
  · exact Or.inl rfl
  · rw [if_neg (by decide), if_pos rfl, Bool.or_eq_false_iff, Bool.or_eq_false_iff, far1_no, far1_no, far1_no] at hf
    exact Or.inr (Or.inl ⟨h, a, n, rfl, hf.1, hf.2.1, hf.2.2⟩)
  · rw [if_neg (by decide), if_neg (by decide), if_pos rfl, Bool.or_eq_false_iff, far1_no, List.any_eq_false] at hf
    refine Or.inr (Or.inr (Or.inl ⟨h, l, rfl, hf.1, fun p hp => ⟨?_, ?_⟩⟩))
    · have := hf.2 p hp
      rw [Bool.not_eq_true] at this
      exact far1_no.1 this
    · obtain ⟨i, hi, rfl⟩ := List.getElem_of_mem hp
      exact H2 rfl i hi
  · rw [if_neg (by decide), if_neg (by decide), if_neg (by decide), far1_no] at hf
    exact Or.inr (Or.inr (Or.inr ⟨4, h, Or.inl rfl, rfl, hf⟩))
  · rw [if_neg (by decide), if_neg (by decide), if_neg (by decide), far1_no] at hf
    exact Or.inr (Or.inr (Or.inr ⟨5, h, Or.inr rfl, rfl, hf⟩))
theorem formO_text {k h a n : Int} {l : List (Int × List UInt8)} (H : Has k l) : textO (formO k h a n l) = textT k h a n l := by
  unfold textO formO
  rcases H.1 with rfl | rfl | rfl | rfl | rfl <;> simp [textT]
theorem back_yes {k h a n : Int} {l : List (Int × List UInt8)} (H : Has k l) (hf : farO k h a n l = false) : parseA (textT k h a n l) = some (formO k h a n l) :=
  (parseA_iff _ _).2 ⟨back_good H hf, formO_text H⟩
theorem back_no {k h a n : Int} {l : List (Int × List UInt8)} (H : Has k l) (hf : farO k h a n l = true) : parseA (textT k h a n l) = none := by
  cases hp : parseA (textT k h a n l) with
  | none => rfl
  | some o =>
    exfalso
    obtain ⟨hg, ht⟩ := (parseA_iff _ _).1 hp
    have hw := good_words hg
    rw [ht, has_words H] at hw
    have hk : k = o.1 := by
      obtain ⟨r, hr⟩ := opW_cons (k := k) (h := h) (a := a) (n := n) (l := l)
      obtain ⟨r', hr'⟩ := opW_cons (k := o.1) (h := o.2.1) (a := o.2.2.1) (n := o.2.2.2.1) (l := o.2.2.2.2)
      have h1 := hw
      unfold wordsO at h1
      rw [hr, hr'] at h1
      injection h1 with h1
      exact wordL_inj H.1 (good_kind hg) h1
    have hno : farO k h a n l = false := by
      have H2 := H.2
      rcases hg with rfl | ⟨h', a', n', rfl, r1, r2, r3⟩ | ⟨h', l', rfl, r1, rl⟩ | ⟨k', h', e, rfl, r1⟩
      · obtain rfl : k = 1 := hk
        rfl
      · obtain rfl : k = 2 := hk
        unfold wordsO opW at hw
        simp only [if_true] at hw
        injection hw with _ hw
        injection hw with e1 hw
        injection hw with e2 hw
        injection hw with e3 hw
        rw [itoa_inj e1, itoa_inj e2, itoa_inj e3]
        unfold farO
        rw [if_neg (by decide), if_pos rfl, far1_no.2 r1, far1_no.2 r2, far1_no.2 r3]; rfl
      · obtain rfl : k = 3 := hk
        have hw2 : ([wordL 3, itoa h] ++ putW l : List (List UInt8)) = [wordL 3, itoa h'] ++ putW l' := hw
        injection hw2 with _ hw2
        injection hw2 with e1 e2
        have el := putW_inj l l' (fun x hx => by obtain ⟨i, hi, rfl⟩ := List.getElem_of_mem hx; exact H2 rfl i hi) (fun x hx => (rl x hx).2) e2
        rw [itoa_inj e1, el]
        unfold farO
        rw [if_neg (by decide), if_neg (by decide), if_pos rfl, far1_no.2 r1, Bool.false_or, List.any_eq_false]
        intro p hp
        rw [far1_no.2 (rl p hp).1]
        decide
      · have hk' : k = k' := hk
        subst hk'
        have hw2 : opW k h a n l = opW k h' 0 0 [] := hw
        have e2 : opW k h a n l = [wordL k, itoa h] := by unfold opW; rcases e with rfl | rfl <;> rfl
        have e3 : opW k h' 0 0 [] = [wordL k, itoa h'] := by unfold opW; rcases e with rfl | rfl <;> rfl
        rw [e2, e3] at hw2
        injection hw2 with _ hw2
        injection hw2 with e1 _
        rw [itoa_inj e1]
        unfold farO
        rcases e with rfl | rfl
        · rw [if_neg (by decide), if_neg (by decide), if_neg (by decide)]; exact far1_no.2 r1
        · rw [if_neg (by decide), if_neg (by decide), if_neg (by decide)]; exact far1_no.2 r1
    rw [hno] at hf
    cases hf
end Go.Proofs.YtfdkafmomkkapaaDoor
