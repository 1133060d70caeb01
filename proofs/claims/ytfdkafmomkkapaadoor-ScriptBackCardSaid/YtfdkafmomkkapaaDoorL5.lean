/- Law ScriptBack: the walk. -/
import Derived.Test.YtfdkafmomkkapaaDoorL6
import Derived.Test.YtfdkafmomkkapaaDoorTk3
import Derived.Deep.DeepCutAuto
namespace Go.Proofs.YtfdkafmomkkapaaDoor
open Go.RowKit Go.Lib

theorem far1_lo {v : Int} (h : v < -1099511627776) : far1 v = true := by unfold far1; rw [decide_eq_true h]; rfl
theorem far1_hi {v : Int} (h : 1099511627776 < v) : far1 v = true := by unfold far1; rw [decide_eq_true h, Bool.or_true]
theorem far1_in {v : Int} (h1 : ¬ v < -1099511627776) (h2 : ¬ 1099511627776 < v) : far1 v = false := far1_no.2 ⟨by omega, by omega⟩

/-- the numbers that the form of a kind names. -/
structure Named (k h a n : Int) (pa : Option Addr) (m c : Nat) (l : List (Int × List UInt8)) (h' a' n' : Int) (px : Option Addr) (mx cx : Nat) (lx : List (Int × List UInt8)) : Prop where
  form : formO k h a n l = (k, h', a', n', lx)
  one : k = 1 → h' = 0
  one' : k ≠ 1 → h' = h
  two : k = 2 → a' = a ∧ n' = n
  two' : k ≠ 2 → a' = 0 ∧ n' = 0
  three : k = 3 → px = pa ∧ mx = m ∧ cx = c ∧ lx = l
  three' : k ≠ 3 → px = none ∧ mx = 0 ∧ cx = 0 ∧ lx = []
theorem named_of (k h a n : Int) (pa : Option Addr) (m c : Nat) (l : List (Int × List UInt8)) : ∃ h' a' n' px mx cx lx, Named k h a n pa m c l h' a' n' px mx cx lx :=
  ⟨if k = 1 then 0 else h, if k = 2 then a else 0, if k = 2 then n else 0, if k = 3 then pa else none, if k = 3 then m else 0, if k = 3 then c else 0, if k = 3 then l else [],
    ⟨rfl, fun e => if_pos e, fun e => if_neg e, fun e => ⟨if_pos e, if_pos e⟩, fun e => ⟨if_neg e, if_neg e⟩, fun e => ⟨if_pos e, if_pos e, if_pos e, if_pos e⟩, fun e => ⟨if_neg e, if_neg e, if_neg e, if_neg e⟩⟩⟩
theorem far_two {k h a n : Int} {l : List (Int × List UInt8)} {f f0 : Bool} (hf : Hid (f = farO k h a n l)) (hf0 : Hid (f0 = (decide (k ≠ 1) && far1 h))) (hk : k = 2) : f = (f0 || (far1 a || far1 n)) := by
  rw [hf.out, hf0.out, hk]; unfold farO; simp
theorem far_three {k h a n : Int} {l : List (Int × List UInt8)} {f f0 : Bool} (hf : Hid (f = farO k h a n l)) (hf0 : Hid (f0 = (decide (k ≠ 1) && far1 h))) (hk : k = 3) : f = (f0 || l.any fun p => far1 p.1) := by
  rw [hf.out, hf0.out, hk]; unfold farO; simp
theorem far_else {k h a n : Int} {l : List (Int × List UInt8)} {f f0 : Bool} (hf : Hid (f = farO k h a n l)) (hf0 : Hid (f0 = (decide (k ≠ 1) && far1 h))) (h2 : k ≠ 2) (h3 : k ≠ 3) : f = f0 := by
  rw [hf.out, hf0.out]; unfold farO; rw [if_neg h2, if_neg h3]; by_cases h1 : k = 1 <;> simp [h1]
theorem any_take_succ (l : List (Int × List UInt8)) (i : Nat) (h : i < l.length) : ((l.take (i + 1)).any fun p => far1 p.1) = ((l.take i).any (fun p => far1 p.1) || far1 l[i].1) := by
  rw [List.take_succ_eq_append_getElem h, List.any_append]; simp

theorem ty3 : Tryd.prog.underlying 3 = some (.int .i64) := by kernel_rfl
theorem named_far {k h a n : Int} {pa : Option Addr} {m c : Nat} {l : List (Int × List UInt8)} {h' a' n' : Int} {px : Option Addr} {mx cx : Nat} {lx : List (Int × List UInt8)} (H : Named k h a n pa m c l h' a' n' px mx cx lx) : farO k h' a' n' lx = farO k h a n l := by
  unfold farO
  by_cases h1 : k = 1
  · rw [if_pos h1, if_pos h1]
  rw [if_neg h1, if_neg h1, H.one' h1]
  by_cases h2 : k = 2
  · rw [if_pos h2, if_pos h2, (H.two h2).1, (H.two h2).2]
  rw [if_neg h2, if_neg h2]
  by_cases h3 : k = 3
  · rw [if_pos h3, if_pos h3, (H.three h3).2.2.2]
  rw [if_neg h3, if_neg h3]
theorem named_form {k h a n : Int} {pa : Option Addr} {m c : Nat} {l : List (Int × List UInt8)} {h' a' n' : Int} {px : Option Addr} {mx cx : Nat} {lx : List (Int × List UInt8)} (H : Named k h a n pa m c l h' a' n' px mx cx lx) : formO k h' a' n' lx = (k, h', a', n', lx) := by
  unfold formO
  have e1 : (if k = 1 then 0 else h') = h' := by split <;> first | (rename_i e; exact (H.one e).symm) | rfl
  have e2 : (if k = 2 then a' else 0) = a' := by split <;> first | rfl | (rename_i e; exact (H.two' e).1.symm)
  have e3 : (if k = 2 then n' else 0) = n' := by split <;> first | rfl | (rename_i e; exact (H.two' e).2.symm)
  have e4 : (if k = 3 then lx else []) = lx := by split <;> first | rfl | (rename_i e; exact (H.three' e).2.2.2.symm)
  rw [e1, e2, e3, e4]
theorem named_nums {k h a n : Int} {pa : Option Addr} {m c : Nat} {l : List (Int × List UInt8)} {h' a' n' : Int} {px : Option Addr} {mx cx : Nat} {lx : List (Int × List UInt8)} (H : Named k h a n pa m c l h' a' n' px mx cx lx)
    (hh : -9223372036854775808 ≤ h ∧ h ≤ 9223372036854775807) (ha : -9223372036854775808 ≤ a ∧ a ≤ 9223372036854775807) (hn : -9223372036854775808 ≤ n ∧ n ≤ 9223372036854775807) :
    (-9223372036854775808 ≤ h' ∧ h' ≤ 9223372036854775807) ∧ (-9223372036854775808 ≤ a' ∧ a' ≤ 9223372036854775807) ∧ (-9223372036854775808 ≤ n' ∧ n' ≤ 9223372036854775807) := by
  refine ⟨?_, ?_, ?_⟩
  · by_cases h1 : k = 1
    · rw [H.one h1]; decide
    · rw [H.one' h1]; exact hh
  · by_cases h1 : k = 2
    · rw [(H.two h1).1]; exact ha
    · rw [(H.two' h1).1]; decide
  · by_cases h1 : k = 2
    · rw [(H.two h1).2]; exact hn
    · rw [(H.two' h1).2]; decide
theorem named_puts {k h a n : Int} {pa : Option Addr} {m c : Nat} {l : List (Int × List UInt8)} {h' a' n' : Int} {px : Option Addr} {mx cx : Nat} {lx : List (Int × List UInt8)} (H : Named k h a n pa m c l h' a' n' px mx cx lx)
    {w : World} (hm : l.length = m) (hm3 : m ≤ 3000) (hc : m ≤ c) (hP : Ps w pa l) : lx.length = mx ∧ mx ≤ 3000 ∧ mx ≤ cx ∧ Ps w px lx := by
  by_cases h3 : k = 3
  · obtain ⟨rfl, rfl, rfl, rfl⟩ := H.three h3
    exact ⟨hm, hm3, hc, hP⟩
  · obtain ⟨rfl, rfl, rfl, rfl⟩ := H.three' h3
    exact ⟨rfl, Nat.zero_le _, Nat.le_refl _, Or.inl rfl⟩
/-- the text of an op is read. -/
theorem parse_text {k h a n : Int} {l : List (Int × List UInt8)} {s : List UInt8} (hs : Hid (textT k h a n l = s)) (hne : s ≠ []) (hl : l.length ≤ 3000) (hP : ∀ i (hi : i < l.length), -9223372036854775808 ≤ l[i].1 ∧ l[i].1 ≤ 9223372036854775807)
    (hh : -9223372036854775808 ≤ h ∧ h ≤ 9223372036854775807) (ha : -9223372036854775808 ≤ a ∧ a ≤ 9223372036854775807) (hn : -9223372036854775808 ≤ n ∧ n ≤ 9223372036854775807) (w : World) (hG : Gl w) :
    Calls Tryd.prog 16 #[.string ⟨s.toArray⟩] w (ParseR w (parseA s)) := by
  have hsl := textT_short (k := k) (l := l) hl hP hh ha hn
  have H := has_of (by rw [hs.out]; exact hne : textT k h a n l ≠ [])
  have hws : (words (textT k h a n l)).length ≤ 10000 := by
    rw [has_words H, opW_length]
    repeat' split
    all_goals omega
  rw [hs.out] at hsl hws
  exact parse_any ⟨s.toArray⟩ w hG (by show s.toArray.size ≤ _; simp; omega) (by show (words s.toArray.toList).length ≤ _; simp; omega)
theorem parse_back_no {k h a n : Int} {l : List (Int × List UInt8)} {s : List UInt8} (hs : Hid (textT k h a n l = s)) (hne : s ≠ []) (hf : farO k h a n l = true) (hl : l.length ≤ 3000) (hP : ∀ i (hi : i < l.length), -9223372036854775808 ≤ l[i].1 ∧ l[i].1 ≤ 9223372036854775807)
    (hh : -9223372036854775808 ≤ h ∧ h ≤ 9223372036854775807) (ha : -9223372036854775808 ≤ a ∧ a ≤ 9223372036854775807) (hn : -9223372036854775808 ≤ n ∧ n ≤ 9223372036854775807) (w : World) (hG : Gl w) :
    Calls Tryd.prog 16 #[.string ⟨s.toArray⟩] w fun e w' => e = .returned (.tuple #[.agg #[.int .i64 0, .int .i64 0, .int .i64 0, .int .i64 0, .slice none 0 0], .int .i64 13]) ∧ Below w.heap.size w w' := by
  refine (parse_text hs hne hl hP hh ha hn w hG).mono fun e w' hr => ?_
  rw [show parseA s = none by rw [← hs.out]; exact back_no (has_of (by rw [hs.out]; exact hne)) hf] at hr
  exact ⟨hr.2, hr.1⟩
theorem parse_back_yes {k h a n : Int} {l : List (Int × List UInt8)} {s : List UInt8} (hs : Hid (textT k h a n l = s)) (hne : s ≠ []) (hf : farO k h a n l = false) (ho : formO k h a n l = (k, h, a, n, l)) (hl : l.length ≤ 3000) (hP : ∀ i (hi : i < l.length), -9223372036854775808 ≤ l[i].1 ∧ l[i].1 ≤ 9223372036854775807)
    (hh : -9223372036854775808 ≤ h ∧ h ≤ 9223372036854775807) (ha : -9223372036854775808 ≤ a ∧ a ≤ 9223372036854775807) (hn : -9223372036854775808 ≤ n ∧ n ≤ 9223372036854775807) (w : World) (hG : Gl w) :
    Calls Tryd.prog 16 #[.string ⟨s.toArray⟩] w fun e w' => ∃ pa m c, e = .returned (.tuple #[.agg #[.int .i64 k, .int .i64 h, .int .i64 a, .int .i64 n, .slice pa m c], .int .i64 0]) ∧ Below w.heap.size w w' ∧ l.length = m ∧ m ≤ c ∧ Ps w' pa l := by
  refine (parse_text hs hne hl hP hh ha hn w hG).mono fun e w' hr => ?_
  rw [show parseA s = some (k, h, a, n, l) by rw [← hs.out, ← ho]; exact back_yes (has_of (by rw [hs.out]; exact hne)) hf] at hr
  obtain ⟨hb, pa, m, c, he, h1, h2, h3⟩ := hr
  exact ⟨pa, m, c, he, hb, h1, h2, h3⟩

set_option maxRecDepth 100000 in
set_option maxHeartbeats 4000000 in
theorem law5_small (k h a n : Int) (pa : Option Addr) (m c : Nat) (l : List (Int × List UInt8)) (b : List UInt8) (pb : Option Addr) (mb cb : Nat) (w : World) (hG : Gl w) (hm : l.length = m) (hmx : m ≤ maxLen) (hc : m ≤ c) (hP : Ps w pa l)
    (hh : -9223372036854775808 ≤ h ∧ h ≤ 9223372036854775807) (ha : -9223372036854775808 ≤ a ∧ a ≤ 9223372036854775807) (hn : -9223372036854775808 ≤ n ∧ n ≤ 9223372036854775807)
    (hmb : b.length = mb) (hmb40 : mb ≤ 40) (hcb : mb ≤ cb) (hb : Bs w pb b) :
    Calls Tryd.prog 5 #[.agg #[.int .i64 k, .int .i64 h, .int .i64 a, .int .i64 n, .slice pa m c], .slice pb mb cb] w fun e w' => e = .returned (.bool true) ∧ Below w.heap.size w w' := by
  obtain ⟨h', a', n', px, mx, cx, lx, HN0⟩ := named_of k h a n pa m c l
  obtain ⟨f0, hf0⟩ : ∃ f0 : Bool, f0 = (decide (k ≠ 1) && far1 h) := ⟨_, rfl⟩
  obtain ⟨f, hf⟩ : ∃ f : Bool, f = farO k h a n l := ⟨_, rfl⟩
  have HN := Lib.hid HN0
  have HF0 := Lib.hid hf0
  have HF := Lib.hid hf
  have hB := Below.of_alloc w (.cells #[.int .i64 k, .int .i64 h, .int .i64 a, .int .i64 n, .slice pa m c] 24)
  have hP1 := hP.keep hB
  have hb1 := hb.keep hB
  have hM := Lib.hid hm
  have hMb := Lib.hid hmb
  have HP := Lib.hid hP1
  have HB := Lib.hid hb1
  clear hm hP hmb hb hP1 hb1 hf hf0 HN0
  go_enter Tryd.func5, Tryd.ntmps5
  go_wp2_with fail
  refine (puts_any pa m c l 3000 _ hM.out HP.out (by omega) (by omega) hmx).mono ?_
  rintro e w1 ⟨r, rfl, hr0, hr1, hb1⟩
  have HR := Lib.hid hr1
  clear hr1
  by_cases hr : 3000 < r
  · go_wp2_with fail
    refine (awake_any _ ((hG.keep hB).keep hb1)).mono ?_
    rintro e w2 ⟨rfl, hb2⟩
    go_wp2_with fail
    go_ret
    exact ⟨rfl, below_on hb2 (below_on hb1 hB (by simp)) (by simp)⟩
  · have hbk : m ≤ 3000 := by have := HR.out (by omega); have := bulk_big l; have := hM.out; omega
    have hG1 := (hG.keep hB).keep hb1
    have hrow := below_heap hb1 (hp_new w (.cells #[.int .i64 k, .int .i64 h, .int .i64 a, .int .i64 n, .slice pa m c] 24))
    have hPa := HP.out.keep hb1
    have hBa := HB.out.keep hb1
    have hB1 := below_on hb1 hB (by simp)
    have HPa := Lib.hid hPa
    have HBa := Lib.hid hBa
    obtain ⟨⟨c0, c1, c2, c3, c4⟩, -⟩ := row_five hrow
    have hsz : w.heap.size < w1.heap.size := (Array.getElem?_eq_some_iff.1 hrow).1
    clear hG HP HB HR hB hb1 hPa hBa hrow
    go_upto_if 29 with fail
    go_cut [6] (fun s6 wx => s6 = .bool f0 ∧ wx = w1.alloc (.cells #[.int .i64 k, .int .i64 h', .int .i64 0, .int .i64 0, .slice none 0 0] 24))
    case first =>
      by_cases hk1 : k = 1
      · have q : (k != 1) = false := by simpa using hk1
        have e1 := HN.out.one hk1
        have F0 : f0 = false := by rw [HF0.out, hk1]; simp
        clear hk1
        go_wp2_with fail
        go_meet
        exact ⟨by rw [F0], by rw [e1]⟩
      · have q : (k != 1) = true := by simpa using hk1
        have e1 := HN.out.one' hk1
        have F0 : f0 = far1 h := by rw [HF0.out]; simp [hk1]
        have E1 := Lib.hid e1
        have G0 := Lib.hid F0
        clear hk1 e1 F0
        by_cases x1 : h < -1099511627776
        · have F := far1_lo x1
          go_wp2_with fail
          go_meet
          exact ⟨by rw [G0.out, F], by rw [E1.out]⟩
        · by_cases x2 : 1099511627776 < h
          · have F := far1_hi x2
            go_wp2_with fail
            go_meet
            exact ⟨by rw [G0.out, F], by rw [E1.out]⟩
          · have F := far1_in x1 x2
            go_wp2_with fail
            go_meet
            exact ⟨by rw [G0.out, F], by rw [E1.out]⟩
    case rest =>
      obtain ⟨rfl, rfl⟩ := hcut
      go_upto_block 0 with fail
      go_cut [6] (fun s6 wx => s6 = .bool f ∧ wx = w1.alloc (.cells #[.int .i64 k, .int .i64 h', .int .i64 a', .int .i64 n', .slice px mx cx] 24))
      case first =>
        by_cases hk2 : k = 2
        · have q2 : (k == 2) = true := by simpa using hk2
          have E2 := Lib.hid (HN.out.two hk2)
          have E3 := Lib.hid (HN.out.three' (by omega))
          have G := Lib.hid (far_two HF HF0 hk2)
          clear hk2
          cases hf0 : f0 with
          | true =>
            go_wp2_with fail
            go_meet
            exact ⟨by rw [G.out, hf0]; rfl, by rw [E2.out.1, E2.out.2, E3.out.1, E3.out.2.1, E3.out.2.2.1]⟩
          | false =>
            by_cases x1 : a < -1099511627776
            · have F := far1_lo x1
              go_wp2_with fail
              go_meet
              exact ⟨by rw [G.out, hf0, F]; rfl, by rw [E2.out.1, E2.out.2, E3.out.1, E3.out.2.1, E3.out.2.2.1]⟩
            · by_cases x2 : 1099511627776 < a
              · have F := far1_hi x2
                go_wp2_with fail
                go_meet
                exact ⟨by rw [G.out, hf0, F]; rfl, by rw [E2.out.1, E2.out.2, E3.out.1, E3.out.2.1, E3.out.2.2.1]⟩
              · have F := far1_in x1 x2
                by_cases x3 : n < -1099511627776
                · have F2 := far1_lo x3
                  go_wp2_with fail
                  go_meet
                  exact ⟨by rw [G.out, hf0, F, F2]; rfl, by rw [E2.out.1, E2.out.2, E3.out.1, E3.out.2.1, E3.out.2.2.1]⟩
                · by_cases x4 : 1099511627776 < n
                  · have F2 := far1_hi x4
                    go_wp2_with fail
                    go_meet
                    exact ⟨by rw [G.out, hf0, F, F2]; rfl, by rw [E2.out.1, E2.out.2, E3.out.1, E3.out.2.1, E3.out.2.2.1]⟩
                  · have F2 := far1_in x3 x4
                    go_wp2_with fail
                    go_meet
                    exact ⟨by rw [G.out, hf0, F, F2]; rfl, by rw [E2.out.1, E2.out.2, E3.out.1, E3.out.2.1, E3.out.2.2.1]⟩
        · by_cases hk3 : k = 3
          · have q2 : (k == 2) = false := by simpa using hk2
            have q3 : (k == 3) = true := by simpa using hk3
            have E2 := Lib.hid (HN.out.two' hk2)
            have E3 := Lib.hid (HN.out.three hk3)
            have G := Lib.hid (far_three HF HF0 hk3)
            clear hk2 hk3
            go_wp2_with fail
            go_loop [6, 7] (fun s i => ∃ (j : Nat) (g : Bool), j ≤ m ∧ i = .int .i64 j ∧ s = .bool g ∧ Hid (g = (f0 || (l.take j).any fun p => far1 p.1))) (fun _ i => m - (intOf i).toNat)
            case atStart => exact ⟨0, f0, Nat.zero_le _, rfl, rfl, Lib.hid (by simp)⟩
            case round =>
              obtain ⟨j, g, hj, rfl, rfl, hg⟩ := hrel
              by_cases hlt : j < m
              · obtain ⟨ba, oa, hpa, xa⟩ : ∃ ba oa, pa = some ⟨ba, oa, none⟩ ∧ w1.cell? ⟨ba, oa + j * 2, none⟩ = some (.int .i64 (l[j]'(by rw [hM.out]; exact hlt)).1) := by
                  rcases HPa.out with h0 | ⟨ba, oa, h1, h2⟩
                  · exfalso; have := hM.out; rw [h0] at this; simp at this; omega
                  · exact ⟨ba, oa, h1, (h2 j (by rw [hM.out]; exact hlt)).1⟩
                have hz := World.block_lt_of_cell? _ _ xa
                have hstep := any_take_succ l j (by rw [hM.out]; exact hlt)
                have HS := Lib.hid hstep
                subst hpa
                clear hstep
                cases hgv : g with
                | true =>
                  have HG := Lib.hid (hg.out.symm.trans hgv)
                  clear hgv
                  go_wp2
                  go_round
                  case rel => exact ⟨j + 1, true, by omega, by go_num, rfl, Lib.hid (by rw [HS.out, ← Bool.or_assoc, HG.out]; rfl)⟩
                  case measure => simp [intOf]; omega
                | false =>
                  have HG := Lib.hid (hg.out.symm.trans hgv)
                  clear hgv
                  by_cases x1 : (l[j]'(by rw [hM.out]; exact hlt)).1 < -1099511627776
                  · have F := Lib.hid (far1_lo x1)
                    go_wp2
                    go_round
                    case rel => exact ⟨j + 1, true, by omega, by go_num, rfl, Lib.hid (by rw [HS.out, ← Bool.or_assoc, HG.out, F.out]; rfl)⟩
                    case measure => simp [intOf]; omega
                  · by_cases x2 : 1099511627776 < (l[j]'(by rw [hM.out]; exact hlt)).1
                    · have F := Lib.hid (far1_hi x2)
                      go_wp2
                      go_round
                      case rel => exact ⟨j + 1, true, by omega, by go_num, rfl, Lib.hid (by rw [HS.out, ← Bool.or_assoc, HG.out, F.out]; rfl)⟩
                      case measure => simp [intOf]; omega
                    · have F := Lib.hid (far1_in x1 x2)
                      go_wp2
                      go_round
                      case rel => exact ⟨j + 1, false, by omega, by go_num, rfl, Lib.hid (by rw [HS.out, ← Bool.or_assoc, HG.out, F.out]; rfl)⟩
                      case measure => simp [intOf]; omega
              · obtain rfl : j = m := by omega
                have hkp : l.take j = l := List.take_of_length_le (by rw [hM.out]; exact Nat.le_refl _)
                have HK := Lib.hid hkp
                clear hkp
                go_wp2_with fail
                go_meet
                exact ⟨by rw [G.out, hg.out, HK.out], by rw [E2.out.1, E2.out.2, E3.out.1, E3.out.2.1, E3.out.2.2.1]⟩
          · have q2 : (k == 2) = false := by simpa using hk2
            have q3 : (k == 3) = false := by simpa using hk3
            have E2 := Lib.hid (HN.out.two' hk2)
            have E3 := Lib.hid (HN.out.three' hk3)
            have G := Lib.hid (far_else HF HF0 hk2 hk3)
            clear hk2 hk3
            go_wp2_with fail
            go_meet
            exact ⟨by rw [G.out], by rw [E2.out.1, E2.out.2, E3.out.1, E3.out.2.1, E3.out.2.2.1]⟩
      case rest =>
        obtain ⟨rfl, rfl⟩ := hcut
        have hb2 := Below.of_alloc w1 (.cells #[.int .i64 k, .int .i64 h', .int .i64 a', .int .i64 n', .slice px mx cx] 24)
        have hB2 := below_on hb2 hB1 (Nat.le_refl _)
        have hG2 := hG1.on hb2
        have hBb2 := HBa.out.keep hb2
        obtain ⟨nh, na, nn⟩ := named_nums HN.out hh ha hn
        obtain ⟨lm, lm3, lmc, lP⟩ := named_puts HN.out hM.out hbk hc (HPa.out.keep hb2)
        have hfar := (named_far HN.out).trans HF.out.symm
        have hform := named_form HN.out
        have hrow2 := hp_new w1 (.cells #[.int .i64 k, .int .i64 h', .int .i64 a', .int .i64 n', .slice px mx cx] 24)
        have LM := Lib.hid lm
        have HFAR := Lib.hid hfar
        have HFORM := Lib.hid hform
        clear hfar hform lm c0 c1 c2 c3 c4 hsz hB1 hG1 HPa HBa HN HF HF0 hh ha hn hc
        have sz2 : w1.heap.size < (w1.alloc (.cells #[.int .i64 k, .int .i64 h', .int .i64 a', .int .i64 n', .slice px mx cx] 24)).heap.size := by simp
        clear hb2
        go_wp2_with fail
        refine (text_any k h' a' n' px mx cx lx _ hG2 LM.out nh.1 nh.2 na.1 na.2 nn.1 nn.2 lP (fun _ => by omega)).mono ?_
        rintro e w3 ⟨rfl, hb3⟩
        have hB3 := below_on hb3 hB2 (Nat.le_refl _)
        have hG3 := hG2.on hb3
        have hBb3 := hBb2.keep hb3
        have hrow3 := below_heap hb3 hrow2
        have lP3 := lP.keep hb3
        clear hb3 hB2 hG2 hBb2 hrow2 lP sz2
        have HB3 := Lib.hid hBb3
        have HP3 := Lib.hid lP3
        clear hBb3 lP3
        obtain ⟨s, hs⟩ : ∃ s, textT k h' a' n' lx = s := ⟨_, rfl⟩
        have HS := Lib.hid hs
        rw [hs]
        clear hs
        go_upto_if 106 with fail
        go_cut [6, 8] (fun _ _ wx => Below w3.heap.size w3 wx)
        case first =>
          by_cases he : s = []
          · rw [he]
            go_wp2_with fail
            go_meet
            exact Below.refl _ _
          · have hne : s.isEmpty = false := by cases h : s with | nil => exact absurd h he | cons _ _ => rfl
            have hne2 : (!s.isEmpty) = true := by rw [hne]; rfl
            have HE := Lib.hid he
            clear he hne
            have hb := ps_bounds HP3.out
            have HBD := Lib.hid hb
            clear hb
            cases hfv : f with
            | true =>
              have HV := Lib.hid (HFAR.out.trans hfv)
              clear hfv
              go_wp2_with fail
              rotate_left
              · exact absurd (hne2.symm.trans (by assumption)) (by decide)
              refine (parse_back_no HS HE.out HV.out (by have := LM.out; omega) HBD.out nh na nn w3 hG3).mono ?_
              rintro e w4 ⟨rfl, hb4⟩
              go_wp2_with fail
              go_meet
              exact below_on (Below.of_alloc _ _) hb4 (Nat.le_refl _)
            | false =>
              have HV := Lib.hid (HFAR.out.trans hfv)
              clear hfv
              go_wp2_with fail
              rotate_left
              · exact absurd (hne2.symm.trans (by assumption)) (by decide)
              refine (parse_back_yes HS HE.out HV.out HFORM.out (by have := LM.out; omega) HBD.out nh na nn w3 hG3).mono ?_
              rintro e w4 ⟨py, my, cy, rfl, hb4, hly, hcy, hPy⟩
              have LY := Lib.hid hly
              clear hly
              have hrow4 := below_heap hb4 hrow3
              have hsz4 := (Array.getElem?_eq_some_iff.1 hrow4).1
              obtain ⟨⟨d0, d1, d2, d3, d4⟩, -⟩ := row_five hrow4
              have PX := Lib.hid ((HP3.out.keep hb4).keep (Below.of_alloc w4 (.cells #[.int .i64 k, .int .i64 h', .int .i64 a', .int .i64 n', .slice py my cy] 24)))
              have PY := Lib.hid (hPy.keep (Below.of_alloc w4 (.cells #[.int .i64 k, .int .i64 h', .int .i64 a', .int .i64 n', .slice py my cy] 24)))
              have q1 : (k == k && h' == h' && a' == a' && n' == n' && lx == lx) = true := by simp
              clear hrow3 hrow4 hPy
              go_wp2_with fail
              refine (same_any k h' a' n' k h' a' n' lx lx py px my mx cy cx _ LY.out LM.out PY.out PX.out (by have := LY.out; have := LM.out; unfold maxLen; omega) hcy lmc).mono ?_
              rintro e w5 ⟨rfl, hb5⟩
              rw [q1]
              go_wp2_with fail
              go_meet
              exact below_on hb5 (below_on (Below.of_alloc _ _) hb4 (Nat.le_refl _)) (Nat.le_refl _)
        case rest =>
          have hB6 := below_on hcut hB3 (Nat.le_refl _)
          have hG6 := hG3.on hcut
          have HB6 := Lib.hid (HB3.out.keep hcut)
          clear hB3 hG3 HB3 HP3 hrow3 hcut HFAR HFORM
          go_wp2_with (first | (at_builtin; refine wpList_append_bs rfl (.tmp 131) (.tmp 132) 35 5 rfl ty35 inf5 wc.heap.size _ 0 [] rfl (own_empty wc 5) pb mb cb b rfl hMb.out (HB6.out.keep (Below.of_alloc _ _)) (by omega) (by simp) ?_; intro v1 w7 h7; have hs7 : wc.heap.size ≤ w7.heap.size := Nat.le_trans (by simp) h7.2.1.size) | (at_builtin; refine wpList_append_zeros rfl (.tmp 133) (.tmp 136) 35 3 5 rfl ty35 .i64 ty3 inf5 wc.heap.size v1 (0 + mb) ([] ++ b) rfl h7.1 .i64 (40 - mb) (40 - (mb : Int)) (by omega) rfl (by omega) hs7 ?_; intro v2 w8 h8; have hs8 : wc.heap.size ≤ w8.heap.size := Nat.le_trans hs7 h8.2.1.size; obtain ⟨pd, cd, rfl, hcd⟩ := own_form h8.1; have hB8 : Below wc.heap.size wc w8 := ((Below.of_alloc wc (.cells #[] 5)).trans h7.2.1).trans h8.2.1))
          have hD : Bs w8 pd (pad40 b) := by
            have e : [] ++ b ++ List.replicate (40 - mb) 0 = pad40 b := by unfold pad40; rw [hMb.out]; rfl
            have := Bs.own h8.1
            rw [e] at this
            exact this
          have hcd' : 40 ≤ cd := by omega
          have hB9 := below_on hB8 hB6 (Nat.le_refl _)
          have hG9 := hG6.on hB8
          have HB9 := Lib.hid (HB6.out.keep hB8)
          have HD := Lib.hid hD
          have hu : unbytesT (bytesT b) = some (pad40 b) := unbytesT_pad (by rw [hMb.out]; exact hmb40)
          have HU := Lib.hid hu
          have hp40 := pad40_length (l := b) (by rw [hMb.out]; exact hmb40)
          have HP40 := Lib.hid hp40
          clear h7 h8 hs7 hs8 hB8 hcd hD hu hp40 HB6 hG6
          refine (bytes_any pb mb cb b w8 hMb.out HB9.out (by omega) hcb).mono ?_
          rintro e w9 ⟨rfl, hb9⟩
          go_wp2_with fail
          refine (unbytes_any ⟨(bytesT b).toArray⟩ w9).mono ?_
          rintro e w10 ⟨hb10, hr10⟩
          rw [show unbytesT (⟨(bytesT b).toArray⟩ : ByteArray).data.toList = some (pad40 b) from HU.out] at hr10
          obtain ⟨g, rfl, hg, hgb, -⟩ := hr10
          go_wp2_with fail
          have hdd : (pad40 b == pad40 b) = true := beq_self_eq_true _
          refine (alikeB_any (pad40 b) (pad40 b) (some ⟨g, 0, none⟩) pd 40 40 40 cd w10 HP40.out HP40.out (Bs.row hgb) ((HD.out.keep hb9).keep hb10) (by decide) (by decide) hcd').mono ?_
          rintro e w11 ⟨rfl, q, rfl⟩
          rw [hdd]
          have hB11 := (below_on hb10 (below_on hb9 hB9 (Nat.le_refl _)) (Nat.le_refl _)).drewN q
          go_wp2_with fail
          refine (awake_any _ (((hG9.on hb9).on hb10).drewN q)).mono ?_
          rintro e w12 ⟨rfl, hb12⟩
          go_wp2_with fail
          go_ret
          exact ⟨rfl, below_on hb12 hB11 (Nat.le_refl _)⟩

set_option maxRecDepth 100000 in
set_option maxHeartbeats 1000000 in
theorem law5_any (k h a n : Int) (pa : Option Addr) (m c : Nat) (l : List (Int × List UInt8)) (b : List UInt8) (pb : Option Addr) (mb cb : Nat) (w : World) (hG : Gl w) (hm : l.length = m) (hmx : m ≤ maxLen) (hc : m ≤ c) (hP : Ps w pa l)
    (_hk : -9223372036854775808 ≤ k ∧ k ≤ 9223372036854775807) (hh : -9223372036854775808 ≤ h ∧ h ≤ 9223372036854775807) (ha : -9223372036854775808 ≤ a ∧ a ≤ 9223372036854775807) (hn : -9223372036854775808 ≤ n ∧ n ≤ 9223372036854775807)
    (hmb : b.length = mb) (_hmbx : mb ≤ maxLen) (hcb : mb ≤ cb) (hb : Bs w pb b) :
    Calls Tryd.prog 5 #[.agg #[.int .i64 k, .int .i64 h, .int .i64 a, .int .i64 n, .slice pa m c], .slice pb mb cb] w fun e w' => e = .returned (.bool true) ∧ Below w.heap.size w w' := by
  by_cases h2 : mb ≤ 40
  · exact law5_small k h a n pa m c l b pb mb cb w hG hm hmx hc hP hh ha hn hmb h2 hcb hb
  · have h2' : (40 : Int) < (mb : Int) := by omega
    have hB := Below.of_alloc w (.cells #[.int .i64 k, .int .i64 h, .int .i64 a, .int .i64 n, .slice pa m c] 24)
    have hP1 := hP.keep hB
    have hM := Lib.hid hm
    clear hm hP hmb hb
    go_enter Tryd.func5, Tryd.ntmps5
    go_wp2_with fail
    refine (puts_any pa m c l 3000 _ hM.out hP1 (by omega) (by omega) hmx).mono ?_
    rintro e w1 ⟨r, rfl, hr0, hr1, hb1⟩
    have HR := Lib.hid hr1
    clear hr1
    by_cases hr : 3000 < r
    all_goals
      go_wp2_with fail
      refine (awake_any _ ((hG.keep hB).keep hb1)).mono ?_
      rintro e w2 ⟨rfl, hb2⟩
      go_wp2_with fail
      go_ret
      exact ⟨rfl, below_on hb2 (below_on hb1 hB (by simp)) (by simp)⟩
end Go.Proofs.YtfdkafmomkkapaaDoor
