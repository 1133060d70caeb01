/- Walks: the reference's text of an op. -/
import Derived.Test.YtfdkafmomkkapaaDoorA3
import Derived.Test.YtfdkafmomkkapaaDoorA6
import Derived.Test.YtfdkafmomkkapaaDoorTk2
import Derived.Deep.RegionHeld3
namespace Go.Proofs.YtfdkafmomkkapaaDoor
open Go.RowKit Go.Lib

set_option maxRecDepth 100000 in
set_option maxHeartbeats 1000000 in
theorem rtext_read (h a n : Int) (pv : Value) (w : World) (hh0 : -9223372036854775808 ≤ h) (hh1 : h ≤ 9223372036854775807) (ha0 : -9223372036854775808 ≤ a) (ha1 : a ≤ 9223372036854775807) (hn0 : -9223372036854775808 ≤ n) (hn1 : n ≤ 9223372036854775807) (hpv : ∃ p m c, pv = .slice p m c) :
    Calls Tryd.prog 19 #[.agg #[.int .i64 2, .int .i64 h, .int .i64 a, .int .i64 n, pv]] w (StrR w (textT 2 h a n [])) := by
  obtain ⟨p, m, c, rfl⟩ := hpv
  have lh := itoa_length hh0 hh1
  have la := itoa_length ha0 ha1
  have ln := itoa_length hn0 hn1
  have f1 : ¬ 9223372036854775807 < 5 + (itoa h).length := by omega
  have f2 : ¬ 9223372036854775807 < 5 + (itoa h).length + 1 := by omega
  have f3 : ¬ 9223372036854775807 < 5 + (itoa h).length + 1 + (itoa a).length := by omega
  have f4 : ¬ 9223372036854775807 < 5 + (itoa h).length + 1 + (itoa a).length + 1 := by omega
  have f5 : ¬ 9223372036854775807 < 5 + (itoa h).length + 1 + (itoa a).length + 1 + (itoa n).length := by omega
  clear lh la ln
  go_enter Tryd.func19, Tryd.ntmps19
  go_wp2_with fail
  go_region_held3 (fun wx => Below w.heap.size w wx ∧ wx.cell? ⟨w.heap.size, 1, none⟩ = some (.int .i64 h) ∧ wx.cell? ⟨w.heap.size, 2, none⟩ = some (.int .i64 a) ∧ wx.cell? ⟨w.heap.size, 3, none⟩ = some (.int .i64 n))
    (first
      | (exact ⟨(Below.of_alloc _ _).drew, by simp, by simp, by simp⟩)
      | (go_split_ands; exact ⟨below_step (by assumption) (Nat.le_refl _) hb2, below_keep hb2 (by assumption), below_keep hb2 (by assumption), below_keep hb2 (by assumption)⟩))
    (first | (go_at_call 50; refine (decimal_any _ _ (by omega) (by omega)).mono ?_; rintro e w2 ⟨rfl, hb2⟩))
  go_wp2
  go_ret
  go_split_ands
  exact ⟨str_eq (by simp [textT]), by assumption⟩

set_option maxRecDepth 100000 in
set_option maxHeartbeats 1000000 in
theorem rtext_commit (h a n : Int) (pv : Value) (w : World) (hh0 : -9223372036854775808 ≤ h) (hh1 : h ≤ 9223372036854775807) (hpv : ∃ p m c, pv = .slice p m c) :
    Calls Tryd.prog 19 #[.agg #[.int .i64 4, .int .i64 h, .int .i64 a, .int .i64 n, pv]] w (StrR w (textT 4 h a n [])) := by
  obtain ⟨p, m, c, rfl⟩ := hpv
  have lh := itoa_length hh0 hh1
  have f1 : ¬ 9223372036854775807 < 7 + (itoa h).length := by omega
  go_enter Tryd.func19, Tryd.ntmps19
  go_wp2_with (go_at_call 50; refine (decimal_any _ _ (by omega) (by omega)).mono ?_; rintro e w2 ⟨rfl, hb2⟩)
  go_ret
  exact ⟨str_eq (by simp [textT]), below_step (Below.of_alloc _ _) (Nat.le_refl _) hb2⟩

set_option maxRecDepth 100000 in
set_option maxHeartbeats 1000000 in
theorem rtext_abort (h a n : Int) (pv : Value) (w : World) (hh0 : -9223372036854775808 ≤ h) (hh1 : h ≤ 9223372036854775807) (hpv : ∃ p m c, pv = .slice p m c) :
    Calls Tryd.prog 19 #[.agg #[.int .i64 5, .int .i64 h, .int .i64 a, .int .i64 n, pv]] w (StrR w (textT 5 h a n [])) := by
  obtain ⟨p, m, c, rfl⟩ := hpv
  have lh := itoa_length hh0 hh1
  have f1 : ¬ 9223372036854775807 < 6 + (itoa h).length := by omega
  go_enter Tryd.func19, Tryd.ntmps19
  go_wp2_with (go_at_call 50; refine (decimal_any _ _ (by omega) (by omega)).mono ?_; rintro e w2 ⟨rfl, hb2⟩)
  go_ret
  exact ⟨str_eq (by simp [textT]), below_step (Below.of_alloc _ _) (Nat.le_refl _) hb2⟩

set_option maxRecDepth 100000 in
set_option maxHeartbeats 1000000 in
theorem rtext_begin (h a n : Int) (pv : Value) (w : World) (hpv : ∃ p m c, pv = .slice p m c) :
    Calls Tryd.prog 19 #[.agg #[.int .i64 1, .int .i64 h, .int .i64 a, .int .i64 n, pv]] w (StrR w (textT 1 h a n [])) := by
  obtain ⟨p, m, c, rfl⟩ := hpv
  go_enter Tryd.func19, Tryd.ntmps19
  go_wp2
  go_ret
  exact ⟨str_eq (by simp [textT]), Below.of_alloc _ _⟩

set_option maxRecDepth 100000 in
set_option maxHeartbeats 1000000 in
theorem rtext_other (k h a n : Int) (pv : Value) (w : World) (hk : k < 1 ∨ 5 < k) (hpv : ∃ p m c, pv = .slice p m c) :
    Calls Tryd.prog 19 #[.agg #[.int .i64 k, .int .i64 h, .int .i64 a, .int .i64 n, pv]] w (StrR w []) := by
  obtain ⟨p, m, c, rfl⟩ := hpv
  have k1 : (k == 1) = false := by rw [beq_eq_false_iff_ne]; omega
  have k2 : (k == 2) = false := by rw [beq_eq_false_iff_ne]; omega
  have k3 : (k == 3) = false := by rw [beq_eq_false_iff_ne]; omega
  have k4 : (k == 4) = false := by rw [beq_eq_false_iff_ne]; omega
  have k5 : (k == 5) = false := by rw [beq_eq_false_iff_ne]; omega
  go_enter Tryd.func19, Tryd.ntmps19
  go_wp2
  go_ret
  exact ⟨rfl, Below.of_alloc _ _⟩

/-- what is written ahead of the puts. -/
def writeT (h : Int) (l : List (Int × List UInt8)) : List UInt8 := [119, 114, 105, 116, 101, 32] ++ Lib.itoa h ++ putsT l

set_option maxRecDepth 100000 in
set_option maxHeartbeats 2000000 in
theorem rtext_write (h a n : Int) (pa : Option Addr) (c : Nat) (l : List (Int × List UInt8)) (w : World) (hh0 : -9223372036854775808 ≤ h) (hh1 : h ≤ 9223372036854775807) (hP : Ps w pa l) (hl : l.length ≤ 100000) :
    Calls Tryd.prog 19 #[.agg #[.int .i64 3, .int .i64 h, .int .i64 a, .int .i64 n, .slice pa l.length c]] w (StrR w (textT 3 h a n l)) := by
  have lh := itoa_length hh0 hh1
  have f1 : ¬ 9223372036854775807 < 6 + (itoa h).length := by omega
  go_enter Tryd.func19, Tryd.ntmps19
  go_wp2_with fail
  have c1 : (w.alloc (.cells #[.int .i64 3, .int .i64 h, .int .i64 a, .int .i64 n, .slice pa l.length c] 24)).cell? ⟨w.heap.size, 1, none⟩ = some (.int .i64 h) := by simp
  have c4 : (w.alloc (.cells #[.int .i64 3, .int .i64 h, .int .i64 a, .int .i64 n, .slice pa l.length c] 24)).cell? ⟨w.heap.size, 4, none⟩ = some (.slice pa l.length c) := by simp
  have hP1 := hP.keep (Below.of_alloc w (.cells #[.int .i64 3, .int .i64 h, .int .i64 a, .int .i64 n, .slice pa l.length c] 24))
  have hB1 := Below.of_alloc w (.cells #[.int .i64 3, .int .i64 h, .int .i64 a, .int .i64 n, .slice pa l.length c] 24)
  generalize w.alloc (.cells #[.int .i64 3, .int .i64 h, .int .i64 a, .int .i64 n, .slice pa l.length c] 24) = W1 at *
  refine (decimal_any _ _ hh0 hh1).mono ?_
  rintro e w2 ⟨rfl, hb2⟩
  go_wp2
  go_loopw [3, 4] (fun s i wr => ∃ k : Nat, k ≤ l.length ∧ i = .int .i64 k ∧ s = .string ⟨(writeT h (l.take k)).toArray⟩ ∧ (∀ j (hj : j < l.length), j < k → l[j].2.length = 40) ∧ Below W1.heap.size W1 wr) (fun _ i _ => l.length - (intOf i).toNat)
  case atStart => exact ⟨0, Nat.zero_le _, rfl, by rw [show (⟨#[119, 114, 105, 116, 101, 32]⟩ : ByteArray) = ⟨([119, 114, 105, 116, 101, 32] : List UInt8).toArray⟩ from rfl, app_mk]; simp [writeT, putsT], fun j hj h => by omega, hb2⟩
  case round =>
    obtain ⟨k, hk, rfl, rfl, h40, hbel⟩ := hrel
    have H40 := Lib.hid h40
    have d4 := below_keep hbel c4
    clear h40 hb2
    by_cases hlt : k < l.length
    · rcases hP1 with h0 | ⟨b, off, rfl, hc⟩
      · subst h0; simp at hlt
      have hp := (hc k hlt).keep hbel
      have hpx : ∀ j (hj : j < (l.take k).length), (l.take k)[j].2.length = 40 ∧ -9223372036854775808 ≤ (l.take k)[j].1 ∧ (l.take k)[j].1 ≤ 9223372036854775807 := fun j hj => by
        have hj' : j < k := by simp at hj; omega
        have hj2 : j < l.length := by omega
        have := hc j hj2
        rw [List.getElem_take]
        exact ⟨H40.out j hj2 hj', this.2.1, this.2.2.1⟩
      have hpl := putsT_length _ hpx
      rw [List.length_take] at hpl
      obtain ⟨x1, x2, x3, da, dc, x4, x5, x6, x7⟩ := hp
      have X6 := Lib.hid x6
      clear hpx x6 hc
      have hwl : (writeT h (l.take k)).length ≤ 26 + 104 * k := by
        unfold writeT; rw [List.length_append, List.length_append]
        have : ([119, 114, 105, 116, 101, 32] : List UInt8).length = 6 := rfl
        omega
      have hil := itoa_length x2 x3
      have hbl := bytesT_length l[k].2
      by_cases hd : l[k].2.length = 40
      · rw [hd] at x4 x5 hbl
        have g1 : ¬ 9223372036854775807 < (writeT h (l.take k)).length + 1 := by omega
        have g2 : ¬ 9223372036854775807 < (writeT h (l.take k)).length + 1 + (Lib.itoa l[k].1).length := by omega
        have g3 : ¬ 9223372036854775807 < (writeT h (l.take k)).length + 1 + (Lib.itoa l[k].1).length + 1 := by omega
        have g4 : ¬ 9223372036854775807 < (writeT h (l.take k)).length + 1 + (Lib.itoa l[k].1).length + 1 + (bytesT l[k].2).length := by omega
        have hnx : writeT h (l.take (k + 1)) = writeT h (l.take k) ++ (32 :: (Lib.itoa l[k].1 ++ 32 :: bytesT l[k].2)) := by
          unfold writeT; rw [List.take_succ_eq_append_getElem hlt, putsT_snoc]; simp
        have HNX := Lib.hid hnx
        have HD := Lib.hid hd
        clear hwl hil hbl hpl hnx hd lh
        go_wp2
        go_region_held3 (fun wx => Below W1.heap.size W1 wx ∧ wx.cell? ⟨w.heap.size, 4, none⟩ = some (.slice (some ⟨b, off, none⟩) l.length c) ∧ wx.cell? ⟨b, off + k * 2, none⟩ = some (.int .i64 l[k].1) ∧ wx.cell? ⟨b, off + k * 2 + 1, none⟩ = some (.slice da 40 dc) ∧ Bs wx da l[k].2)
          (first
            | (exact ⟨hbel.drew, d4, x1, x4, x7⟩)
            | (go_split_ands; exact ⟨below_step (by assumption) (Nat.le_refl _) hb3, below_keep hb3 (by assumption), below_keep hb3 (by assumption), below_keep hb3 (by assumption), Bs.keep (by assumption) hb3⟩))
          (first
            | (go_at_call 50; refine (decimal_any _ _ x2 x3).mono ?_; rintro e w3 ⟨rfl, hb3⟩)
            | (go_at_call 24; go_split_ands; refine (rbytes_any _ _ _ l[k].2 _ HD.out (by assumption) (by omega)).mono ?_; rintro e w3 ⟨rfl, hb3⟩))
        go_wp2
        go_split_ands
        go_roundw
        case rel => exact ⟨k + 1, by omega, by go_num, str_val (by rw [HNX.out]; simp), fun j hj hjk => (by
          rcases Nat.lt_or_ge j k with h1 | h1
          · exact H40.out j hj h1
          · obtain rfl : j = k := by omega
            exact HD.out), by assumption⟩
        case measure => simp [intOf]; omega
      · have hne : ((l[k].2.length : Int) == 40) = false := by rw [beq_eq_false_iff_ne]; omega
        have hbad := textT_bad (h := h) (a := a) (n := n) (k := 3) rfl hlt hd
        have HB := Lib.hid hbad
        clear hbad hd hwl hil hbl hpl lh
        go_wp2
        go_ret
        exact ⟨by rw [HB.out]; rfl, hB1.trans (hbel.mono (by have := hB1.size; omega))⟩
    · obtain rfl : k = l.length := by omega
      have hall := textT_write (h := h) (a := a) (n := n) (k := 3) (puts := l) rfl (fun i hi => H40.out i hi hi)
      have HA := Lib.hid hall
      clear hall lh
      go_wp2
      go_ret
      exact ⟨by rw [HA.out, List.take_length]; rfl, hB1.trans (hbel.mono (by have := hB1.size; omega))⟩

theorem textT_puts {k h a n : Int} (l : List (Int × List UInt8)) (hk : k ≠ 3) : textT k h a n l = textT k h a n [] := by
  unfold textT
  rw [if_neg hk, if_neg hk]

/-- scarpref28.Text. -/
theorem rtext_any (k h a n : Int) (pa : Option Addr) (m c : Nat) (l : List (Int × List UInt8)) (w : World) (hm : l.length = m) (hh0 : -9223372036854775808 ≤ h) (hh1 : h ≤ 9223372036854775807) (ha0 : -9223372036854775808 ≤ a) (ha1 : a ≤ 9223372036854775807) (hn0 : -9223372036854775808 ≤ n) (hn1 : n ≤ 9223372036854775807) (hP : Ps w pa l) (hl : k = 3 → m ≤ 100000) :
    Calls Tryd.prog 19 #[.agg #[.int .i64 k, .int .i64 h, .int .i64 a, .int .i64 n, .slice pa m c]] w (StrR w (textT k h a n l)) := by
  by_cases h3 : k = 3
  · subst h3; subst hm; exact rtext_write h a n pa c l w hh0 hh1 hP (hl rfl)
  rw [textT_puts l h3]
  by_cases h1 : k = 1
  · subst h1; exact rtext_begin h a n _ w ⟨_, _, _, rfl⟩
  by_cases h2 : k = 2
  · subst h2; exact rtext_read h a n _ w hh0 hh1 ha0 ha1 hn0 hn1 ⟨_, _, _, rfl⟩
  by_cases h4 : k = 4
  · subst h4; exact rtext_commit h a n _ w hh0 hh1 ⟨_, _, _, rfl⟩
  by_cases h5 : k = 5
  · subst h5; exact rtext_abort h a n _ w hh0 hh1 ⟨_, _, _, rfl⟩
  have e : textT k h a n [] = [] := by unfold textT; simp [h1, h2, h3, h4, h5]
  rw [e]
  exact rtext_other k h a n _ w (by omega) ⟨_, _, _, rfl⟩

end Go.Proofs.YtfdkafmomkkapaaDoor
