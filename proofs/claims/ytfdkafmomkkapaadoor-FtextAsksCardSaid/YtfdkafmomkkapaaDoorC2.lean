/- Walks: the program's text of an op. -/
import Derived.Test.YtfdkafmomkkapaaDoorC1
import Derived.Test.YtfdkafmomkkapaaDoorA1
import Derived.Test.YtfdkafmomkkapaaDoorA2
import Derived.Test.YtfdkafmomkkapaaDoorA7
import Derived.Deep.RegionLaw
import Derived.Deep.RegionHeld3
namespace Go.Proofs.YtfdkafmomkkapaaDoor
open Go.RowKit Go.Lib

/-- strings.Join of words by blanks. -/
theorem join_any {base n : Nat} {v : Value} {ws : List (List UInt8)} {w : World} (hown : w.ownsRow base 9 1 v n (strCells ws)) (hne : ws ≠ []) (hn : n ≤ 1000000000) (hlen : (Lib.join ws [32]).length ≤ 140737488355328) :
    Calls Tryd.prog 49 #[v, .string ⟨#[32]⟩] w (StrR w (Lib.join ws [32])) := by
  have hwn : ws.length = n := by have := hown.1; rw [strCells_length] at this; simpa using this
  rcases hown.2 with ⟨_, h0⟩ | ⟨g, cap, cur, rfl, _, hg, hc1, _, _, htk⟩
  · exfalso; apply hne; apply List.eq_nil_of_length_eq_zero; omega
  · have e : (ws.map fun l => (⟨l.toArray⟩ : ByteArray)).map (·.data.toList) = ws := by simp [Function.comp_def]
    have hl : (ws.map fun l => (⟨l.toArray⟩ : ByteArray)).length = n := by simpa using hwn
    have hj := Tryd.strings_Join g 0 cap (ws.map fun l => (⟨l.toArray⟩ : ByteArray)) ⟨#[32]⟩ w (fun j x hx => by
      rw [cell_of_row _ _ _ _ _ _ hg, Nat.zero_add]
      have hj : j < n := by rw [← hl]; exact (List.getElem?_eq_some_iff.1 hx).1
      have h2 : (strCells ws)[j]? = some (.string x) := by
        simp only [strCells, List.getElem?_map] at hx ⊢
        cases hq : ws[j]? with
        | none => rw [hq] at hx; cases hx
        | some y => rw [hq] at hx; simp only [Option.map_some, Option.some.injEq] at hx ⊢; rw [← hx]
      rw [← htk, List.getElem?_take, if_pos (by omega)] at h2
      simpa using h2) (Array.getElem?_eq_some_iff.1 hg).1 (by rw [hl]; omega) (by rw [hl]; exact hc1) (by rw [e]; exact hlen)
    rw [hl, e] at hj
    exact hj

set_option maxRecDepth 100000 in
set_option maxHeartbeats 2000000 in
theorem text_read (h a n : Int) (pv : Value) (w : World) (hG : Gl w) (hh0 : -9223372036854775808 ≤ h) (hh1 : h ≤ 9223372036854775807) (ha0 : -9223372036854775808 ≤ a) (ha1 : a ≤ 9223372036854775807) (hn0 : -9223372036854775808 ≤ n) (hn1 : n ≤ 9223372036854775807) (hpv : ∃ p m c, pv = .slice p m c) :
    Calls Tryd.prog 18 #[.agg #[.int .i64 2, .int .i64 h, .int .i64 a, .int .i64 n, pv]] w (StrR w (textT 2 h a n [])) := by
  obtain ⟨p, m, c, rfl⟩ := hpv
  go_enter Tryd.func18, Tryd.ntmps18
  go_wp2_with (go_at_call 42; refine (word_any _ _).mono ?_; rintro e w1 ⟨rfl, rfl⟩)
  have c1 : ((w.alloc (.cells #[.int .i64 2, .int .i64 h, .int .i64 a, .int .i64 n, .slice p m c] 24)).alloc (.cells #[.string ⟨(wordL 2).toArray⟩] 9)).cell? ⟨w.heap.size, 1, none⟩ = some (.int .i64 h) := by simp
  have c2 : ((w.alloc (.cells #[.int .i64 2, .int .i64 h, .int .i64 a, .int .i64 n, .slice p m c] 24)).alloc (.cells #[.string ⟨(wordL 2).toArray⟩] 9)).cell? ⟨w.heap.size, 2, none⟩ = some (.int .i64 a) := by simp
  have c3 : ((w.alloc (.cells #[.int .i64 2, .int .i64 h, .int .i64 a, .int .i64 n, .slice p m c] 24)).alloc (.cells #[.string ⟨(wordL 2).toArray⟩] 9)).cell? ⟨w.heap.size, 3, none⟩ = some (.int .i64 n) := by simp
  have hO := own_litV (w := w.alloc (.cells #[.int .i64 2, .int .i64 h, .int .i64 a, .int .i64 n, .slice p m c] 24)) (base := w.heap.size + 1) (e := 9) (C := #[.string ⟨(wordL 2).toArray⟩]) (strCells [wordL 2]) rfl (by simp) (by simp [strCells, maxLen])
  have hB := (Below.of_alloc w (.cells #[.int .i64 2, .int .i64 h, .int .i64 a, .int .i64 n, .slice p m c] 24)).alloc (by simp) (.cells #[.string ⟨(wordL 2).toArray⟩] 9)
  have hGW := hG.keep hB
  have hsz : w.heap.size + 1 ≤ ((w.alloc (.cells #[.int .i64 2, .int .i64 h, .int .i64 a, .int .i64 n, .slice p m c] 24)).alloc (.cells #[.string ⟨(wordL 2).toArray⟩] 9)).heap.size := by simp
  simp only [World.size_alloc] at hO
  generalize ((w.alloc (.cells #[.int .i64 2, .int .i64 h, .int .i64 a, .int .i64 n, .slice p m c] 24)).alloc (.cells #[.string ⟨(wordL 2).toArray⟩] 9)) = W2 at *
  replace hB := hB.drew
  go_region_held3 (fun wx => Below w.heap.size w wx ∧ wx.cell? ⟨w.heap.size, 1, none⟩ = some (.int .i64 h) ∧ wx.cell? ⟨w.heap.size, 2, none⟩ = some (.int .i64 a) ∧ wx.cell? ⟨w.heap.size, 3, none⟩ = some (.int .i64 n))
    (first
      | (exact ⟨hB, c1, c2, c3⟩)
      | (exact ⟨below_on (Below.of_alloc _ _) hB (Nat.le_refl _), below_keep (Below.of_alloc _ _) c1, below_keep (Below.of_alloc _ _) c2, below_keep (Below.of_alloc _ _) c3⟩)
      | (exact ⟨below_in hap.2.1 hB (by omega), cell_in hap.2.1 c1 (by simp), cell_in hap.2.1 c2 (by simp), cell_in hap.2.1 c3 (by simp)⟩))
    (first
      | (go_at_call 48; refine (itoa_any _ _ ?_ ?_ ?_).mono ?_; assumption; assumption; exact hGW; rintro e w3 ⟨rfl, hb3⟩; replace hGW := Gl.on hb3 hGW; replace c1 := below_keep hb3 c1; replace c2 := below_keep hb3 c2; replace c3 := below_keep hb3 c3; replace hO := own_on hb3 hO; replace hB := below_on hb3 hB (Nat.le_refl _); replace hsz := size_on hb3 hsz)
      | (refine step_append_lit rfl (.tmp 19) (.tmp 29) 44 9 rfl ty44 inf9 rfl (by decide) (w.heap.size + 1) _ (strCells [Lib.itoa h, Lib.itoa a, Lib.itoa n]) 3 rfl _ 1 _ rfl hO (by omega) (by decide) hsz (k := 0) rfl (strCells_one _) rfl 3 rfl ?_; intro v' w' hap))
  have hO2 := hap.1
  have hB2 := below_in hap.2.1 hB (by omega)
  clear hap
  rw [← strCells_app] at hO2
  have hne : [wordL 2] ++ [Lib.itoa h, Lib.itoa a, Lib.itoa n] ≠ [] := by simp
  have lh := itoa_length hh0 hh1
  have la := itoa_length ha0 ha1
  have ln := itoa_length hn0 hn1
  have ht : Lib.join ([wordL 2] ++ [Lib.itoa h, Lib.itoa a, Lib.itoa n]) [32] = textT 2 h a n [] := opW_text (k := 2) (l := []) (by intro hk; omega)
  have hl : (textT 2 h a n []).length ≤ 100 := by simp [textT]; omega
  have HT := Lib.hid ht
  clear ht lh la ln
  go_wp2_with (go_at_call 49; refine (join_any hO2 hne (by omega) (by rw [HT.out]; omega)).mono ?_; rintro e w4 ⟨rfl, hb4⟩)
  go_ret
  exact ⟨ret_str HT.out, below_on hb4 hB2 (by omega)⟩

set_option maxRecDepth 100000 in
set_option maxHeartbeats 2000000 in
theorem text_commit (h a n : Int) (pv : Value) (w : World) (hG : Gl w) (hh0 : -9223372036854775808 ≤ h) (hh1 : h ≤ 9223372036854775807) (hpv : ∃ p m c, pv = .slice p m c) :
    Calls Tryd.prog 18 #[.agg #[.int .i64 4, .int .i64 h, .int .i64 a, .int .i64 n, pv]] w (StrR w (textT 4 h a n [])) := by
  obtain ⟨p, m, c, rfl⟩ := hpv
  have lh := itoa_length hh0 hh1
  have ht : Lib.join ([wordL 4] ++ [Lib.itoa h]) [32] = textT 4 h a n [] := opW_text (k := 4) (l := []) (a := a) (n := n) (by intro hk; omega)
  have hl : (textT 4 h a n []).length ≤ 100 := by simp [textT]; omega
  have hne : [wordL 4] ++ [Lib.itoa h] ≠ [] := by simp
  have HT := Lib.hid ht
  clear ht lh
  go_enter Tryd.func18, Tryd.ntmps18
  go_wp2_with (go_at_call 42; refine (word_any _ _).mono ?_; rintro e w1 ⟨rfl, rfl⟩)
  have hO := own_litV (w := w.alloc (.cells #[.int .i64 4, .int .i64 h, .int .i64 a, .int .i64 n, .slice p m c] 24)) (base := w.heap.size + 1) (e := 9) (C := #[.string ⟨(wordL 4).toArray⟩]) (strCells [wordL 4]) rfl (by simp) (by simp [strCells, maxLen])
  have hB := (Below.of_alloc w (.cells #[.int .i64 4, .int .i64 h, .int .i64 a, .int .i64 n, .slice p m c] 24)).alloc (by simp) (.cells #[.string ⟨(wordL 4).toArray⟩] 9)
  have hGW := hG.keep hB
  have hsz : w.heap.size + 1 ≤ ((w.alloc (.cells #[.int .i64 4, .int .i64 h, .int .i64 a, .int .i64 n, .slice p m c] 24)).alloc (.cells #[.string ⟨(wordL 4).toArray⟩] 9)).heap.size := by simp
  simp only [World.size_alloc] at hO
  generalize ((w.alloc (.cells #[.int .i64 4, .int .i64 h, .int .i64 a, .int .i64 n, .slice p m c] 24)).alloc (.cells #[.string ⟨(wordL 4).toArray⟩] 9)) = W2 at *
  refine (itoa_any _ _ hh0 hh1 hGW).mono ?_
  rintro e w3 ⟨rfl, hb3⟩
  replace hO := own_on hb3 hO
  replace hB := below_on hb3 hB (Nat.le_refl _)
  replace hsz := size_on hb3 hsz
  go_wp2_with (at_builtin; refine wpList_append_lit rfl (.tmp 34) (.tmp 38) 44 9 rfl ty44 inf9 rfl (by decide) (w.heap.size + 1) _ (strCells [Lib.itoa h]) 1 rfl _ 1 _ rfl hO (by omega) (by decide) hsz (k := 0) rfl (strCells_one _) rfl 1 rfl ?_; intro v' w' hap)
  have hO2 := hap.1
  have hB2 := below_in hap.2.1 hB (by omega)
  clear hap
  rw [← strCells_app] at hO2
  refine (join_any hO2 hne (by omega) (by rw [HT.out]; omega)).mono ?_
  rintro e w4 ⟨rfl, hb4⟩
  go_wp2
  go_ret
  exact ⟨ret_str HT.out, below_on hb4 hB2 (by omega)⟩

set_option maxRecDepth 100000 in
set_option maxHeartbeats 2000000 in
theorem text_abort (h a n : Int) (pv : Value) (w : World) (hG : Gl w) (hh0 : -9223372036854775808 ≤ h) (hh1 : h ≤ 9223372036854775807) (hpv : ∃ p m c, pv = .slice p m c) :
    Calls Tryd.prog 18 #[.agg #[.int .i64 5, .int .i64 h, .int .i64 a, .int .i64 n, pv]] w (StrR w (textT 5 h a n [])) := by
  obtain ⟨p, m, c, rfl⟩ := hpv
  have lh := itoa_length hh0 hh1
  have ht : Lib.join ([wordL 5] ++ [Lib.itoa h]) [32] = textT 5 h a n [] := opW_text (k := 5) (l := []) (a := a) (n := n) (by intro hk; omega)
  have hl : (textT 5 h a n []).length ≤ 100 := by simp [textT]; omega
  have hne : [wordL 5] ++ [Lib.itoa h] ≠ [] := by simp
  have HT := Lib.hid ht
  clear ht lh
  go_enter Tryd.func18, Tryd.ntmps18
  go_wp2_with (go_at_call 42; refine (word_any _ _).mono ?_; rintro e w1 ⟨rfl, rfl⟩)
  have hO := own_litV (w := w.alloc (.cells #[.int .i64 5, .int .i64 h, .int .i64 a, .int .i64 n, .slice p m c] 24)) (base := w.heap.size + 1) (e := 9) (C := #[.string ⟨(wordL 5).toArray⟩]) (strCells [wordL 5]) rfl (by simp) (by simp [strCells, maxLen])
  have hB := (Below.of_alloc w (.cells #[.int .i64 5, .int .i64 h, .int .i64 a, .int .i64 n, .slice p m c] 24)).alloc (by simp) (.cells #[.string ⟨(wordL 5).toArray⟩] 9)
  have hGW := hG.keep hB
  have hsz : w.heap.size + 1 ≤ ((w.alloc (.cells #[.int .i64 5, .int .i64 h, .int .i64 a, .int .i64 n, .slice p m c] 24)).alloc (.cells #[.string ⟨(wordL 5).toArray⟩] 9)).heap.size := by simp
  simp only [World.size_alloc] at hO
  generalize ((w.alloc (.cells #[.int .i64 5, .int .i64 h, .int .i64 a, .int .i64 n, .slice p m c] 24)).alloc (.cells #[.string ⟨(wordL 5).toArray⟩] 9)) = W2 at *
  refine (itoa_any _ _ hh0 hh1 hGW).mono ?_
  rintro e w3 ⟨rfl, hb3⟩
  replace hO := own_on hb3 hO
  replace hB := below_on hb3 hB (Nat.le_refl _)
  replace hsz := size_on hb3 hsz
  go_wp2_with (at_builtin; refine wpList_append_lit rfl (.tmp 34) (.tmp 38) 44 9 rfl ty44 inf9 rfl (by decide) (w.heap.size + 1) _ (strCells [Lib.itoa h]) 1 rfl _ 1 _ rfl hO (by omega) (by decide) hsz (k := 0) rfl (strCells_one _) rfl 1 rfl ?_; intro v' w' hap)
  have hO2 := hap.1
  have hB2 := below_in hap.2.1 hB (by omega)
  clear hap
  rw [← strCells_app] at hO2
  refine (join_any hO2 hne (by omega) (by rw [HT.out]; omega)).mono ?_
  rintro e w4 ⟨rfl, hb4⟩
  go_wp2
  go_ret
  exact ⟨ret_str HT.out, below_on hb4 hB2 (by omega)⟩

set_option maxRecDepth 100000 in
set_option maxHeartbeats 2000000 in
theorem text_begin (h a n : Int) (pv : Value) (w : World) (hpv : ∃ p m c, pv = .slice p m c) :
    Calls Tryd.prog 18 #[.agg #[.int .i64 1, .int .i64 h, .int .i64 a, .int .i64 n, pv]] w (StrR w (textT 1 h a n [])) := by
  obtain ⟨p, m, c, rfl⟩ := hpv
  go_enter Tryd.func18, Tryd.ntmps18
  go_wp2_with (go_at_call 42; refine (word_any _ _).mono ?_; rintro e w1 ⟨rfl, rfl⟩)
  go_ret
  exact ⟨rfl, (Below.of_alloc _ _).alloc (by simp) _⟩

set_option maxRecDepth 100000 in
set_option maxHeartbeats 2000000 in
theorem text_other (k h a n : Int) (pv : Value) (w : World) (hk : k < 1 ∨ 6 ≤ k) (hpv : ∃ p m c, pv = .slice p m c) :
    Calls Tryd.prog 18 #[.agg #[.int .i64 k, .int .i64 h, .int .i64 a, .int .i64 n, pv]] w (StrR w []) := by
  obtain ⟨p, m, c, rfl⟩ := hpv
  have k1 : (k == 1) = false := by rw [beq_eq_false_iff_ne]; omega
  have k2 : (k == 2) = false := by rw [beq_eq_false_iff_ne]; omega
  have k3 : (k == 3) = false := by rw [beq_eq_false_iff_ne]; omega
  have k4 : (k == 4) = false := by rw [beq_eq_false_iff_ne]; omega
  have k5 : (k == 5) = false := by rw [beq_eq_false_iff_ne]; omega
  have hw := wordL_none hk
  have HW := Lib.hid hw
  clear hw
  go_enter Tryd.func18, Tryd.ntmps18
  go_wp2_with (go_at_call 42; refine (word_any _ _).mono ?_; rintro e w1 ⟨rfl, rfl⟩)
  have hO := own_litV (w := w.alloc (.cells #[.int .i64 k, .int .i64 h, .int .i64 a, .int .i64 n, .slice p m c] 24)) (base := w.heap.size + 1) (e := 9) (C := #[.string ⟨(wordL k).toArray⟩]) (strCells [wordL k]) rfl (by simp) (by simp [strCells, maxLen])
  have hB := (Below.of_alloc w (.cells #[.int .i64 k, .int .i64 h, .int .i64 a, .int .i64 n, .slice p m c] 24)).alloc (by simp) (.cells #[.string ⟨(wordL k).toArray⟩] 9)
  simp only [World.size_alloc] at hO
  refine (join_any hO (by simp) (by simp [strCells]) (by rw [HW.out]; simp [Lib.join_one])).mono ?_
  rintro e w4 ⟨rfl, hb4⟩
  go_wp2
  go_ret
  exact ⟨ret_str (by rw [HW.out, Lib.join_one]), below_on hb4 hB (by omega)⟩

end Go.Proofs.YtfdkafmomkkapaaDoor
