/- Walks: the program's text of a write. -/
import Derived.Test.YtfdkafmomkkapaaDoorC2
namespace Go.Proofs.YtfdkafmomkkapaaDoor
open Go.RowKit Go.Lib

set_option maxRecDepth 100000 in
set_option maxHeartbeats 2000000 in
theorem text_write (h a n : Int) (pa : Option Addr) (c : Nat) (l : List (Int × List UInt8)) (w : World) (hG : Gl w) (hh0 : -9223372036854775808 ≤ h) (hh1 : h ≤ 9223372036854775807) (hP : Ps w pa l) (hl : l.length ≤ 100000) :
    Calls Tryd.prog 18 #[.agg #[.int .i64 3, .int .i64 h, .int .i64 a, .int .i64 n, .slice pa l.length c]] w (StrR w (textT 3 h a n l)) := by
  go_enter Tryd.func18, Tryd.ntmps18
  go_wp2_with (go_at_call 42; refine (word_any _ _).mono ?_; rintro e w1 ⟨rfl, rfl⟩)
  have hO := own_litV (w := w.alloc (.cells #[.int .i64 3, .int .i64 h, .int .i64 a, .int .i64 n, .slice pa l.length c] 24)) (base := w.heap.size + 1) (e := 9) (C := #[.string ⟨(wordL 3).toArray⟩]) (strCells [wordL 3]) rfl (by simp) (by simp [strCells, maxLen])
  have hB := (Below.of_alloc w (.cells #[.int .i64 3, .int .i64 h, .int .i64 a, .int .i64 n, .slice pa l.length c] 24)).alloc (by simp) (.cells #[.string ⟨(wordL 3).toArray⟩] 9)
  have c4 : ((w.alloc (.cells #[.int .i64 3, .int .i64 h, .int .i64 a, .int .i64 n, .slice pa l.length c] 24)).alloc (.cells #[.string ⟨(wordL 3).toArray⟩] 9)).cell? ⟨w.heap.size, 4, none⟩ = some (.slice pa l.length c) := by simp
  have hGW := hG.keep hB
  have hPW := hP.keep hB
  have hsz : w.heap.size + 1 ≤ ((w.alloc (.cells #[.int .i64 3, .int .i64 h, .int .i64 a, .int .i64 n, .slice pa l.length c] 24)).alloc (.cells #[.string ⟨(wordL 3).toArray⟩] 9)).heap.size := by simp
  simp only [World.size_alloc] at hO
  generalize ((w.alloc (.cells #[.int .i64 3, .int .i64 h, .int .i64 a, .int .i64 n, .slice pa l.length c] 24)).alloc (.cells #[.string ⟨(wordL 3).toArray⟩] 9)) = W2 at *
  refine (itoa_any _ _ hh0 hh1 hGW).mono ?_
  rintro e w3 ⟨rfl, hb3⟩
  replace hO := own_on hb3 hO
  replace hB := below_on hb3 hB (Nat.le_refl _)
  replace hsz := size_on hb3 hsz
  replace hGW := Gl.on hb3 hGW
  replace hPW := Ps.keep hPW hb3
  replace c4 := below_keep hb3 c4
  clear hb3
  go_wp2_with (at_builtin; refine wpList_append_lit rfl (.tmp 42) (.tmp 46) 44 9 rfl ty44 inf9 rfl (by decide) (w.heap.size + 1) _ (strCells [Lib.itoa h]) 1 rfl _ 1 _ rfl hO (by omega) (by decide) hsz (k := 0) rfl (strCells_one _) rfl 1 rfl ?_; intro v' w' hap; have c5 := cell_in hap.2.1 c4 (by simp))
  have hO2 := hap.1
  have hB2 := below_in hap.2.1 hB (by omega)
  have hsz2 := Nat.le_trans hsz hap.2.1.size
  rw [← strCells_app] at hO2
  clear hap hO hB c4 c5 hsz hGW hPW
  go_loopw [3, 51] (fun v i wr => ∃ k : Nat, k ≤ l.length ∧ i = .int .i64 k ∧ wr.ownsRow (w.heap.size + 1) 9 1 v (2 + 2 * k) (strCells ([wordL 3, Lib.itoa h] ++ putW (l.take k))) ∧ (∀ j (hj : j < l.length), j < k → l[j].2.length = 40) ∧ Below w.heap.size w wr ∧ w.heap.size + 1 ≤ wr.heap.size) (fun _ i _ => l.length - (intOf i).toNat)
  case atStart => exact ⟨0, Nat.zero_le _, rfl, hO2, fun j hj hjk => by omega, hB2, hsz2⟩
  case round =>
    obtain ⟨k, hk, rfl, hown, h40, hbel, hszr⟩ := hrel
    have H40 := Lib.hid h40
    clear h40
    by_cases hlt : k < l.length
    · have hPr := hP.keep hbel
      have hGr := hG.keep hbel
      rcases hPr with h0 | ⟨b, off, rfl, hc⟩
      · subst h0; simp at hlt
      obtain ⟨x1, x2, x3, da, dc, x4, x5, x6, x7⟩ := hc k hlt
      have hne := own_ne hown (Nat.le_refl _)
      clear hc x6
      by_cases hd : l[k].2.length = 40
      · rw [hd] at x4 x5
        have HD := Lib.hid hd
        clear hd
        go_wp2
        have e0 : (wr.alloc (.cells #[.int .i64 l[k].1, .slice da 40 dc] 42)).cell? ⟨wr.heap.size, 0, none⟩ = some (.int .i64 l[k].1) := by simp
        have e1 : (wr.alloc (.cells #[.int .i64 l[k].1, .slice da 40 dc] 42)).cell? ⟨wr.heap.size, 1, none⟩ = some (.slice da 40 dc) := by simp
        have hA := Below.of_alloc wr (.cells #[.int .i64 l[k].1, .slice da 40 dc] 42)
        have hBw := (below_on hA hbel (by omega)).drew
        have hO3 := own_on hA hown
        have hG3 := Gl.on hA hGr
        have hBs := Bs.keep x7 hA
        have hsz3 := size_on hA hszr
        clear hA x1 x4 x7 hGr hown hbel
        generalize wr.alloc (.cells #[.int .i64 l[k].1, .slice da 40 dc] 42) = W3 at *
        go_region_held3 (fun wx => Below w.heap.size w wx ∧ wx.cell? ⟨wr.heap.size, 0, none⟩ = some (.int .i64 l[k].1) ∧ wx.cell? ⟨wr.heap.size, 1, none⟩ = some (.slice da 40 dc))
          (first
            | (exact ⟨hBw, e0, e1⟩)
            | (exact ⟨below_on (Below.of_alloc _ _) hBw (Nat.le_refl _), below_keep (Below.of_alloc _ _) e0, below_keep (Below.of_alloc _ _) e1⟩)
            | (exact ⟨below_in hap.2.1 hBw (by omega), hap.2.2.cell e0 hne, hap.2.2.cell e1 hne⟩))
          (first
            | (go_at_call 48; refine (itoa_any _ _ x2 x3 ?_).mono ?_; exact hG3; rintro e w4 ⟨rfl, hb3⟩; replace hG3 := Gl.on hb3 hG3; replace e0 := below_keep hb3 e0; replace e1 := below_keep hb3 e1; replace hO3 := own_on hb3 hO3; replace hBs := Bs.on hb3 hBs; replace hBw := below_on hb3 hBw (Nat.le_refl _); replace hsz3 := size_on hb3 hsz3)
            | (go_at_call 23; refine (bytes_any _ _ _ l[k].2 _ HD.out hBs (by omega) x5).mono ?_; rintro e w4 ⟨rfl, hb3⟩; replace hG3 := Gl.on hb3 hG3; replace e0 := below_keep hb3 e0; replace e1 := below_keep hb3 e1; replace hO3 := own_on hb3 hO3; replace hBw := below_on hb3 hBw (Nat.le_refl _); replace hsz3 := size_on hb3 hsz3)
            | (refine step_append_lit rfl (.tmp 59) (.tmp 66) 44 9 rfl ty44 inf9 rfl (by decide) (w.heap.size + 1) _ (strCells [Lib.itoa l[k].1, bytesT l[k].2]) 2 rfl _ (2 + 2 * k) _ rfl hO3 (by omega) (by decide) hsz3 (k := 0) rfl (strCells_one _) rfl 2 rfl ?_; intro v' w' hap))
        have hO4 := hap.1
        have hB4 := below_in hap.2.1 hBw (by omega)
        have hsz4 := Nat.le_trans hsz3 hap.2.1.size
        rw [← strCells_app, List.append_assoc, ← putW_snoc, ← List.take_succ_eq_append_getElem hlt] at hO4
        clear hap hO3 hBw hsz3 e0 e1 hG3
        go_wp2
        go_roundw
        case rel => exact ⟨k + 1, by omega, by go_num, by rw [show 2 + 2 * (k + 1) = 2 + 2 * k + 2 by omega]; exact hO4, fun j hj hjk => (by
          rcases Nat.lt_or_ge j k with h1 | h1
          · exact H40.out j hj h1
          · obtain rfl : j = k := by omega
            exact HD.out), hB4, hsz4⟩
        case measure => simp [intOf]; omega
      · have hne : ((l[k].2.length : Int) == 40) = false := by rw [beq_eq_false_iff_ne]; omega
        have hbad := textT_bad (h := h) (a := a) (n := n) (k := 3) rfl hlt hd
        have HB := Lib.hid hbad
        clear hbad hd
        go_wp2
        go_ret
        exact ⟨by rw [HB.out]; rfl, hbel.alloc hbel.size _⟩
    · obtain rfl : k = l.length := by omega
      have hall := textT_write (h := h) (a := a) (n := n) (k := 3) (puts := l) rfl (fun i hi => H40.out i hi hi)
      have ht : Lib.join ([wordL 3, Lib.itoa h] ++ putW l) [32] = textT 3 h a n l := opW_text (k := 3) (l := l) (a := a) (n := n) (fun _ i hi => H40.out i hi hi)
      have hpx : ∀ j (hj : j < l.length), l[j].2.length = 40 ∧ -9223372036854775808 ≤ l[j].1 ∧ l[j].1 ≤ 9223372036854775807 := fun j hj => by
        rcases hP with h0 | ⟨b, off, rfl, hc⟩
        · subst h0; simp at hj
        · have := hc j hj
          exact ⟨H40.out j hj hj, this.2.1, this.2.2.1⟩
      have hpl := putsT_length _ hpx
      have lh := itoa_length hh0 hh1
      have hlen : (textT 3 h a n l).length ≤ 100000000 := by
        rw [hall, List.length_append, List.length_append]
        have : ([119, 114, 105, 116, 101, 32] : List UInt8).length = 6 := rfl
        omega
      have HT := Lib.hid ht
      clear hall ht hpx hpl lh
      rw [List.take_length] at hown
      go_wp2_with (go_at_call 49; refine (join_any hown (by simp) (by omega) (by rw [HT.out]; omega)).mono ?_; rintro e w4 ⟨rfl, hb4⟩)
      go_ret
      exact ⟨ret_str HT.out, below_on hb4 hbel (by omega)⟩

theorem textT_puts' {k h a n : Int} (l : List (Int × List UInt8)) (hk : k ≠ 3) : textT k h a n l = textT k h a n [] := by
  unfold textT
  rw [if_neg hk, if_neg hk]

/-- script.Text. -/
theorem text_any (k h a n : Int) (pa : Option Addr) (m c : Nat) (l : List (Int × List UInt8)) (w : World) (hG : Gl w) (hm : l.length = m) (hh0 : -9223372036854775808 ≤ h) (hh1 : h ≤ 9223372036854775807) (ha0 : -9223372036854775808 ≤ a) (ha1 : a ≤ 9223372036854775807) (hn0 : -9223372036854775808 ≤ n) (hn1 : n ≤ 9223372036854775807) (hP : Ps w pa l) (hl : k = 3 → m ≤ 100000) :
    Calls Tryd.prog 18 #[.agg #[.int .i64 k, .int .i64 h, .int .i64 a, .int .i64 n, .slice pa m c]] w (StrR w (textT k h a n l)) := by
  by_cases h3 : k = 3
  · subst h3; subst hm; exact text_write h a n pa c l w hG hh0 hh1 hP (hl rfl)
  rw [textT_puts' l h3]
  by_cases h1 : k = 1
  · subst h1; exact text_begin h a n _ w ⟨_, _, _, rfl⟩
  by_cases h2 : k = 2
  · subst h2; exact text_read h a n _ w hG hh0 hh1 ha0 ha1 hn0 hn1 ⟨_, _, _, rfl⟩
  by_cases h4 : k = 4
  · subst h4; exact text_commit h a n _ w hG hh0 hh1 ⟨_, _, _, rfl⟩
  by_cases h5 : k = 5
  · subst h5; exact text_abort h a n _ w hG hh0 hh1 ⟨_, _, _, rfl⟩
  have e : textT k h a n [] = [] := by unfold textT; simp [h1, h2, h3, h4, h5]
  rw [e]
  exact text_other k h a n _ w (by omega) ⟨_, _, _, rfl⟩

end Go.Proofs.YtfdkafmomkkapaaDoor
