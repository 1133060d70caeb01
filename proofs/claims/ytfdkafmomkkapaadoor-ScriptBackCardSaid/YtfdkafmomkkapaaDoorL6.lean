/- Law ScriptForms: the walk. -/
import Derived.Test.YtfdkafmomkkapaaDoorH4
import Derived.Test.YtfdkafmomkkapaaDoorG4
namespace Go.Proofs.YtfdkafmomkkapaaDoor
open Go.RowKit Go.Lib

theorem textT_short {k h a n : Int} {l : List (Int × List UInt8)} (hl : l.length ≤ 3000) (hP : ∀ i (hi : i < l.length), -9223372036854775808 ≤ l[i].1 ∧ l[i].1 ≤ 9223372036854775807) (hh : -9223372036854775808 ≤ h ∧ h ≤ 9223372036854775807) (ha : -9223372036854775808 ≤ a ∧ a ≤ 9223372036854775807) (hn : -9223372036854775808 ≤ n ∧ n ≤ 9223372036854775807) :
    (textT k h a n l).length ≤ 400000 := by
  have h1 := itoa_length hh.1 hh.2
  have h2 := itoa_length ha.1 ha.2
  have h3 := itoa_length hn.1 hn.2
  unfold textT
  repeat' split
  · decide
  · simp; omega
  · rename_i hall
    have := putsT_length l fun j hj => by
      rw [List.all_eq_true] at hall
      have := hall _ (List.getElem_mem hj)
      simp only [beq_iff_eq] at this
      exact ⟨this, hP j hj⟩
    simp; omega
  · decide
  · simp; omega
  · simp; omega
  · decide

theorem words_count (l : List UInt8) : (words l).length = l.count 32 + 1 := by
  induction l with
  | nil => rfl
  | cons c r ih =>
    have hne := words_ne r
    by_cases hc : c = 32
    · rw [words, if_pos hc, List.length_cons, ih, hc, List.count_cons_self]
    · rw [words, if_neg hc, List.count_cons_of_ne hc]
      cases hw : words r with
      | nil => exact absurd hw hne
      | cons w ws => rw [hw] at ih; exact ih
theorem words_form (s : List UInt8) (j : Nat) : (words (formT s j)).length ≤ (words s).length + 2 := by
  rw [words_count, words_count]
  match j with
  | 0 => show (32 :: s).count 32 + 1 ≤ _; rw [List.count_cons_self]; omega
  | 1 => show (s ++ [32]).count 32 + 1 ≤ _; rw [List.count_append, show ([32] : List UInt8).count 32 = 1 from rfl]; omega
  | 2 => show (s ++ [32, 49]).count 32 + 1 ≤ _; rw [List.count_append, show ([32, 49] : List UInt8).count 32 = 1 from rfl]; omega
  | 3 => show (s ++ [120]).count 32 + 1 ≤ _; rw [List.count_append, show ([120] : List UInt8).count 32 = 0 from rfl]; omega
  | 4 => show (48 :: s).count 32 + 1 ≤ _; rw [List.count_cons_of_ne (by decide)]; omega
  | 5 => show (s ++ [32, 32]).count 32 + 1 ≤ _; rw [List.count_append, show ([32, 32] : List UInt8).count 32 = 2 from rfl]; omega
  | (j + 6) => show (s ++ [10]).count 32 + 1 ≤ _; rw [List.count_append, show ([10] : List UInt8).count 32 = 0 from rfl]; omega
theorem form_length (s : List UInt8) (j : Nat) : (formT s j).length ≤ s.length + 2 := by
  match j with
  | 0 | 1 | 2 | 3 | 4 | 5 => simp [formT]
  | (j + 6) => simp [formT]
theorem ps_bounds {w : World} {pa : Option Addr} {l : List (Int × List UInt8)} (hP : Ps w pa l) : ∀ i (_ : i < l.length), -9223372036854775808 ≤ l[i].1 ∧ l[i].1 ≤ 9223372036854775807 := by
  intro i hi
  rcases hP with rfl | ⟨b, off, _, hc⟩
  · cases hi
  · exact ⟨(hc i hi).2.1, (hc i hi).2.2.1⟩
/-- a text that is no op's is refused. -/
theorem parse_form {k h a n : Int} {l : List (Int × List UInt8)} {s : List UInt8} (hs : Hid (textT k h a n l = s)) (hne : s ≠ []) (hl : s.length ≤ 400000) (hw : (words s).length ≤ 10000) (j : Nat) (b : ByteArray) (hb : b.data.toList = formT s j) (w : World) (hG : Gl w) :
    Calls Tryd.prog 16 #[.string b] w fun e w' => e = .returned (.tuple #[.agg #[.int .i64 0, .int .i64 0, .int .i64 0, .int .i64 0, .slice none 0 0], .int .i64 13]) ∧ Below w.heap.size w w' := by
  have h1 := form_length s j
  have h2 := words_form s j
  have h3 : b.data.toList.length = b.size := by simp
  have h4 : parseA b.data.toList = none := by rw [hb, ← hs.out]; exact form_none (by rw [hs.out]; exact hne) j
  rw [hb] at h3
  refine (parse_any b w hG (by omega) (by rw [hb]; omega)).mono fun e w' hr => ?_
  rw [h4] at hr
  exact ⟨hr.2, hr.1⟩

set_option maxRecDepth 100000 in
set_option maxHeartbeats 2000000 in
theorem law6_any (k h a n : Int) (pa : Option Addr) (m c : Nat) (l : List (Int × List UInt8)) (x : Int) (w : World) (hG : Gl w) (hm : l.length = m) (hmx : m ≤ maxLen) (_hc : m ≤ c) (hP : Ps w pa l)
    (_hk : -9223372036854775808 ≤ k ∧ k ≤ 9223372036854775807) (hh : -9223372036854775808 ≤ h ∧ h ≤ 9223372036854775807) (ha : -9223372036854775808 ≤ a ∧ a ≤ 9223372036854775807) (hn : -9223372036854775808 ≤ n ∧ n ≤ 9223372036854775807)
    (hx : -9223372036854775808 ≤ x ∧ x ≤ 9223372036854775807) :
    Calls Tryd.prog 6 #[.agg #[.int .i64 k, .int .i64 h, .int .i64 a, .int .i64 n, .slice pa m c], .int .i64 x] w fun e w' => e = .returned (.bool true) ∧ Below w.heap.size w w' := by
  have hB := Below.of_alloc w (.cells #[.int .i64 k, .int .i64 h, .int .i64 a, .int .i64 n, .slice pa m c] 24)
  have hP1 := hP.keep hB
  have hM := Lib.hid hm
  clear hm hP
  go_enter Tryd.func6, Tryd.ntmps6
  go_wp2_with fail
  refine (puts_any pa m c l 3000 _ hM.out hP1 (by omega) (by omega) hmx).mono ?_
  rintro e w1 ⟨r, rfl, hr0, hr1, hb1⟩
  have HR := Lib.hid hr1
  clear hr1
  by_cases hr : 3000 < r
  · go_wp2_with fail
    refine (awake_any _ ((hG.keep hB).keep hb1)).mono ?_
    rintro e w2 ⟨rfl, hb2⟩
    go_wp2_with fail
    go_ret
    exact ⟨rfl, below_on hb2 (below_on hb1 hB (by simp)) (by simp)⟩
  · have hbk : m ≤ 3000 := by have := HR.out (by omega); have := bulk_big l; have := hM.out; omega
    have hG1 := (hG.keep hB).keep hb1
    have hrow := below_heap hb1 (hp_new w (.cells #[.int .i64 k, .int .i64 h, .int .i64 a, .int .i64 n, .slice pa m c] 24))
    have hPa := hP1.keep hb1
    have hB1 := below_on hb1 hB (by simp)
    obtain ⟨⟨c0, c1, c2, c3, c4⟩, -⟩ := row_five hrow
    clear hG hP1 HR hB hb1 hrow
    go_wp2_with fail
    refine (text_any k h a n pa m c l _ hG1 hM.out hh.1 hh.2 ha.1 ha.2 hn.1 hn.2 hPa (fun _ => by omega)).mono ?_
    rintro e w2 ⟨rfl, hb2⟩
    have hB2 := below_on hb2 hB1 (Nat.le_refl _)
    have hG2 := hG1.on hb2
    clear hG1 hB1 hb2 c0 c1 c2 c3 c4
    by_cases he : textT k h a n l = []
    · rw [he]
      go_wp2_with fail
      refine (awake_any _ hG2).mono ?_
      rintro e w3 ⟨rfl, hb3⟩
      go_wp2_with fail
      go_ret
      exact ⟨rfl, below_on hb3 hB2 (Nat.le_refl _)⟩
    · have hsl := textT_short (k := k) (l := l) (by have := hM.out; omega) (ps_bounds hPa) hh ha hn
      have H := has_of he
      have hws : (words (textT k h a n l)).length ≤ 10000 := by
        rw [has_words H, opW_length]
        have := hM.out
        repeat' split
        all_goals omega
      clear H
      obtain ⟨s, hs⟩ : ∃ s, textT k h a n l = s := ⟨_, rfl⟩
      have HS := Lib.hid hs
      rw [hs] at hsl hws he ⊢
      clear hs
      have hne : s.isEmpty = false := by cases h : s with | nil => exact absurd h he | cons _ _ => rfl
      have HE := Lib.hid he
      clear he
      have f1 : ¬ 9223372036854775807 < 1 + s.length := by omega
      have f2 : ¬ 9223372036854775807 < s.length + 1 := by omega
      have f3 : ¬ 9223372036854775807 < s.length + 2 := by omega
      by_cases hx1 : 0 ≤ x
      · by_cases hx2 : x < 7
        · obtain rfl | rfl | rfl | rfl | rfl | rfl | rfl : x = 0 ∨ x = 1 ∨ x = 2 ∨ x = 3 ∨ x = 4 ∨ x = 5 ∨ x = 6 := by omega
          · go_wp2_with fail
            refine (parse_form HS HE.out hsl hws 0 _ (by rw [app_mk]; rfl) _ (hG2.keep (Below.of_alloc _ _))).mono ?_
            rintro e w4 ⟨rfl, hb4⟩
            have hB4 := below_on hb4 (below_on (Below.of_alloc _ _) hB2 (Nat.le_refl _)) (by simp)
            have hG4 := (hG2.keep (Below.of_alloc _ _)).on hb4
            clear hb4
            go_wp2_with fail
            refine (awake_any _ (hG4.keep (Below.of_alloc _ _))).mono ?_
            rintro e w5 ⟨rfl, hb5⟩
            go_wp2_with fail
            go_ret
            exact ⟨rfl, below_on hb5 (below_on (Below.of_alloc _ _) hB4 (Nat.le_refl _)) (by simp)⟩
          · go_wp2_with fail
            refine (parse_form HS HE.out hsl hws 1 _ (by rw [app_mk]; rfl) _ (hG2.keep (Below.of_alloc _ _))).mono ?_
            rintro e w4 ⟨rfl, hb4⟩
            have hB4 := below_on hb4 (below_on (Below.of_alloc _ _) hB2 (Nat.le_refl _)) (by simp)
            have hG4 := (hG2.keep (Below.of_alloc _ _)).on hb4
            clear hb4
            go_wp2_with fail
            refine (awake_any _ (hG4.keep (Below.of_alloc _ _))).mono ?_
            rintro e w5 ⟨rfl, hb5⟩
            go_wp2_with fail
            go_ret
            exact ⟨rfl, below_on hb5 (below_on (Below.of_alloc _ _) hB4 (Nat.le_refl _)) (by simp)⟩
          · go_wp2_with fail
            refine (parse_form HS HE.out hsl hws 2 _ (by rw [app_mk]; rfl) _ (hG2.keep (Below.of_alloc _ _))).mono ?_
            rintro e w4 ⟨rfl, hb4⟩
            have hB4 := below_on hb4 (below_on (Below.of_alloc _ _) hB2 (Nat.le_refl _)) (by simp)
            have hG4 := (hG2.keep (Below.of_alloc _ _)).on hb4
            clear hb4
            go_wp2_with fail
            refine (awake_any _ (hG4.keep (Below.of_alloc _ _))).mono ?_
            rintro e w5 ⟨rfl, hb5⟩
            go_wp2_with fail
            go_ret
            exact ⟨rfl, below_on hb5 (below_on (Below.of_alloc _ _) hB4 (Nat.le_refl _)) (by simp)⟩
          · go_wp2_with fail
            refine (parse_form HS HE.out hsl hws 3 _ (by rw [app_mk]; rfl) _ (hG2.keep (Below.of_alloc _ _))).mono ?_
            rintro e w4 ⟨rfl, hb4⟩
            have hB4 := below_on hb4 (below_on (Below.of_alloc _ _) hB2 (Nat.le_refl _)) (by simp)
            have hG4 := (hG2.keep (Below.of_alloc _ _)).on hb4
            clear hb4
            go_wp2_with fail
            refine (awake_any _ (hG4.keep (Below.of_alloc _ _))).mono ?_
            rintro e w5 ⟨rfl, hb5⟩
            go_wp2_with fail
            go_ret
            exact ⟨rfl, below_on hb5 (below_on (Below.of_alloc _ _) hB4 (Nat.le_refl _)) (by simp)⟩
          · go_wp2_with fail
            refine (parse_form HS HE.out hsl hws 4 _ (by rw [app_mk]; rfl) _ (hG2.keep (Below.of_alloc _ _))).mono ?_
            rintro e w4 ⟨rfl, hb4⟩
            have hB4 := below_on hb4 (below_on (Below.of_alloc _ _) hB2 (Nat.le_refl _)) (by simp)
            have hG4 := (hG2.keep (Below.of_alloc _ _)).on hb4
            clear hb4
            go_wp2_with fail
            refine (awake_any _ (hG4.keep (Below.of_alloc _ _))).mono ?_
            rintro e w5 ⟨rfl, hb5⟩
            go_wp2_with fail
            go_ret
            exact ⟨rfl, below_on hb5 (below_on (Below.of_alloc _ _) hB4 (Nat.le_refl _)) (by simp)⟩
          · go_wp2_with fail
            refine (parse_form HS HE.out hsl hws 5 _ (by rw [app_mk]; rfl) _ (hG2.keep (Below.of_alloc _ _))).mono ?_
            rintro e w4 ⟨rfl, hb4⟩
            have hB4 := below_on hb4 (below_on (Below.of_alloc _ _) hB2 (Nat.le_refl _)) (by simp)
            have hG4 := (hG2.keep (Below.of_alloc _ _)).on hb4
            clear hb4
            go_wp2_with fail
            refine (awake_any _ (hG4.keep (Below.of_alloc _ _))).mono ?_
            rintro e w5 ⟨rfl, hb5⟩
            go_wp2_with fail
            go_ret
            exact ⟨rfl, below_on hb5 (below_on (Below.of_alloc _ _) hB4 (Nat.le_refl _)) (by simp)⟩
          · go_wp2_with fail
            refine (parse_form HS HE.out hsl hws 6 _ (by rw [app_mk]; rfl) _ (hG2.keep (Below.of_alloc _ _))).mono ?_
            rintro e w4 ⟨rfl, hb4⟩
            have hB4 := below_on hb4 (below_on (Below.of_alloc _ _) hB2 (Nat.le_refl _)) (by simp)
            have hG4 := (hG2.keep (Below.of_alloc _ _)).on hb4
            clear hb4
            go_wp2_with fail
            refine (awake_any _ (hG4.keep (Below.of_alloc _ _))).mono ?_
            rintro e w5 ⟨rfl, hb5⟩
            go_wp2_with fail
            go_ret
            exact ⟨rfl, below_on hb5 (below_on (Below.of_alloc _ _) hB4 (Nat.le_refl _)) (by simp)⟩
        · go_wp2_with fail
          refine (awake_any _ (hG2.keep (Below.of_alloc _ _))).mono ?_
          rintro e w3 ⟨rfl, hb3⟩
          go_wp2_with fail
          go_ret
          exact ⟨rfl, below_on hb3 (below_on (Below.of_alloc _ _) hB2 (Nat.le_refl _)) (by simp)⟩
      · go_wp2_with fail
        refine (awake_any _ (hG2.keep (Below.of_alloc _ _))).mono ?_
        rintro e w3 ⟨rfl, hb3⟩
        go_wp2_with fail
        go_ret
        exact ⟨rfl, below_on hb3 (below_on (Below.of_alloc _ _) hB2 (Nat.le_refl _)) (by simp)⟩
end Go.Proofs.YtfdkafmomkkapaaDoor
