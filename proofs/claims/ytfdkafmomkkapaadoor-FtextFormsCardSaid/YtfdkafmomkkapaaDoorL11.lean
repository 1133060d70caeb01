/- Walks: law 11 (FtextForms). -/
import Derived.Test.YtfdkafmomkkapaaDoorL12
namespace Go.Proofs.YtfdkafmomkkapaaDoor
open Go.RowKit Go.Lib

theorem forms_pick (S : List UInt8) (hS : S.length ≤ 61) (j : Nat) (hj : j < 8) : ∃ L : List UInt8, L.length ≤ 70 ∧ L ≠ S ∧
    ([.string (⟨#[43]⟩ ++ ⟨S.toArray⟩), .string (⟨#[32]⟩ ++ ⟨S.toArray⟩), .string (⟨S.toArray⟩ ++ ⟨#[32]⟩), .string (⟨S.toArray⟩ ++ ⟨#[48]⟩), .string (⟨#[48]⟩ ++ ⟨S.toArray⟩),
      .string (⟨S.toArray⟩ ++ ⟨#[112, 48]⟩), .string (⟨#[45, 45]⟩ ++ ⟨S.toArray⟩), .string (⟨S.toArray⟩ ++ ⟨#[46]⟩)] : List Value)[j]? = some (.string ⟨L.toArray⟩) := by
  have pre : ∀ a : List UInt8, a ≠ [] → a.length ≤ 2 → ∃ L : List UInt8, L.length ≤ 70 ∧ L ≠ S ∧ Value.string (⟨a.toArray⟩ ++ ⟨S.toArray⟩) = .string ⟨L.toArray⟩ := by
    intro a ha hl
    refine ⟨a ++ S, by rw [List.length_append]; omega, fun h => ?_, by rw [app_mk]⟩
    have := congrArg List.length h
    rw [List.length_append] at this
    exact ha (List.length_eq_zero_iff.1 (by omega))
  have suf : ∀ a : List UInt8, a ≠ [] → a.length ≤ 2 → ∃ L : List UInt8, L.length ≤ 70 ∧ L ≠ S ∧ Value.string (⟨S.toArray⟩ ++ ⟨a.toArray⟩) = .string ⟨L.toArray⟩ := by
    intro a ha hl
    refine ⟨S ++ a, by rw [List.length_append]; omega, fun h => ?_, by rw [app_mk]⟩
    have := congrArg List.length h
    rw [List.length_append] at this
    exact ha (List.length_eq_zero_iff.1 (by omega))
  have lift : ∀ {v : Value}, (∃ L : List UInt8, L.length ≤ 70 ∧ L ≠ S ∧ v = .string ⟨L.toArray⟩) → ∃ L : List UInt8, L.length ≤ 70 ∧ L ≠ S ∧ some v = some (.string ⟨L.toArray⟩) := by
    rintro v ⟨L, h1, h2, rfl⟩; exact ⟨L, h1, h2, rfl⟩
  match j, hj with
  | 0, _ => exact lift (pre [43] (by simp) (by simp))
  | 1, _ => exact lift (pre [32] (by simp) (by simp))
  | 2, _ => exact lift (suf [32] (by simp) (by simp))
  | 3, _ => exact lift (suf [48] (by simp) (by simp))
  | 4, _ => exact lift (pre [48] (by simp) (by simp))
  | 5, _ => exact lift (suf [112, 48] (by simp) (by simp))
  | 6, _ => exact lift (pre [45, 45] (by simp) (by simp))
  | 7, _ => exact lift (suf [46] (by simp) (by simp))

set_option maxRecDepth 100000 in
set_option maxHeartbeats 2000000 in
theorem law11_any (v : Nat) (how : Int) (w : World) (hG : Gz w) (hv : v < 18446744073709551616) : Calls Tryd.prog 11 #[.int .u64 v, .int .i64 how] w fun e w' => e = .returned (.bool true) ∧ Below w.heap.size w w' := by
  have h1 := canB_can hv
  have hl := textF_length (canB v)
  have HV := Lib.hid (fun w => rfrom_any v w hv)
  have HK := Lib.hid (forms_pick (textF (canB v)) hl)
  have E1 := Lib.hid (canB_self h1)
  generalize canB v = b at *
  obtain ⟨S, hS⟩ : ∃ S, textF b = S := ⟨_, rfl⟩
  rw [hS] at hl HK
  have HS := Lib.hid hS
  clear hS
  go_enter Tryd.func11, Tryd.ntmps11
  go_wp2_with fail
  refine (HV.out w).mono ?_
  rintro e w1 ⟨rfl, rfl⟩
  go_wp2_with fail
  refine (ftext_any b w hG h1.1).mono ?_
  rintro e w1 ⟨rfl, hb1⟩
  rw [HS.out]
  go_wp2_with fail
  · have hB2 := below_on (Below.of_alloc w1 (.cells (List.toArray [.string (⟨#[43]⟩ ++ ⟨S.toArray⟩), .string (⟨#[32]⟩ ++ ⟨S.toArray⟩), .string (⟨S.toArray⟩ ++ ⟨#[32]⟩), .string (⟨S.toArray⟩ ++ ⟨#[48]⟩), .string (⟨#[48]⟩ ++ ⟨S.toArray⟩),
      .string (⟨S.toArray⟩ ++ ⟨#[112, 48]⟩), .string (⟨#[45, 45]⟩ ++ ⟨S.toArray⟩), .string (⟨S.toArray⟩ ++ ⟨#[46]⟩)]) 9)) hb1 (Nat.le_refl _)
    refine (awake3_any _ (hG.on hB2)).mono ?_
    rintro e w9 ⟨rfl, hb9⟩
    go_wp2_with fail
    go_ret
    exact ⟨rfl, below_on hb9 hB2 (by simp)⟩
  · obtain ⟨L, hLl, hLn, hLe⟩ := HK.out how.toNat (by omega)
    obtain ⟨_, hLe2⟩ := List.getElem?_eq_some_iff.1 hLe
    have hB2 := below_on (Below.of_alloc w1 (.cells (List.toArray [.string (⟨#[43]⟩ ++ ⟨S.toArray⟩), .string (⟨#[32]⟩ ++ ⟨S.toArray⟩), .string (⟨S.toArray⟩ ++ ⟨#[32]⟩), .string (⟨S.toArray⟩ ++ ⟨#[48]⟩), .string (⟨#[48]⟩ ++ ⟨S.toArray⟩),
      .string (⟨S.toArray⟩ ++ ⟨#[112, 48]⟩), .string (⟨#[45, 45]⟩ ++ ⟨S.toArray⟩), .string (⟨S.toArray⟩ ++ ⟨#[46]⟩)]) 9)) hb1 (Nat.le_refl _)
    have hc2 : (w1.alloc (.cells (List.toArray [.string (⟨#[43]⟩ ++ ⟨S.toArray⟩), .string (⟨#[32]⟩ ++ ⟨S.toArray⟩), .string (⟨S.toArray⟩ ++ ⟨#[32]⟩), .string (⟨S.toArray⟩ ++ ⟨#[48]⟩), .string (⟨#[48]⟩ ++ ⟨S.toArray⟩),
      .string (⟨S.toArray⟩ ++ ⟨#[112, 48]⟩), .string (⟨#[45, 45]⟩ ++ ⟨S.toArray⟩), .string (⟨S.toArray⟩ ++ ⟨#[46]⟩)]) 9)).cell? ⟨w1.heap.size, how.toNat, none⟩ = some (.string ⟨L.toArray⟩) := by
      rw [cell_of_row _ _ _ _ _ _ (hp_new _ _), List.getElem?_toArray]
      exact hLe
    rw [hLe2]
    refine (parse_walk L _ (hG.on hB2) (Nat.le_trans hLl (by decide))).mono ?_
    rintro e w2 ⟨hb2, rfl⟩
    have hc3 := below_keep hb2 hc2
    have hB3 := below_on hb2 hB2 (by simp)
    clear hLe hLe2 hc2 hb2 hB2 HK
    cases hp : parseF L with
    | some y =>
      obtain ⟨hyc, hyt⟩ := (parseF_iff _ _).1 hp
      have hyn : ((canB y : Int) == (canB b : Int)) = false ∧ ((canB b : Int) == (canB y : Int)) = false := by
        rw [E1.out, canB_self hyc, beq_eq_false_iff_ne, beq_eq_false_iff_ne]
        have : y ≠ b := fun h => by subst h; exact hLn (hyt.symm.trans HS.out)
        omega
      have HY := Lib.hid hyt
      have HYc := Lib.hid hyc
      obtain ⟨hy1, hy2⟩ := hyn
      clear hp hyt hyc
      go_wp2_with fail
      have hB4 := hB3.drew
      have hc4 : w2.drew.cell? ⟨w1.heap.size, how.toNat, none⟩ = some (.string ⟨L.toArray⟩) := hc3
      clear hB3 hc3
      go_region_law
        (first
          | (go_simp; go_at_call 31; refine (ftext_any y _ (hG.on hB4) HYc.out.1).mono ?_; rintro e w5 ⟨rfl, hb5⟩; rw [HY.out]; replace hc4 := below_keep hb5 hc4; replace hB4 := below_on hb5 hB4 (Nat.le_refl _); clear hb5)
          | (go_simp; go_at_call 33; refine (same_any' b y _).mono ?_; rintro e w6 ⟨rfl, rfl⟩; rw [hy2])
          | (go_simp; go_at_call 28; refine (awake3_any _ (hG.on hB4)).mono ?_; rintro e w7 ⟨rfl, hb7⟩; replace hB4 := below_on hb7 hB4 (Nat.le_refl _); clear hb7))
      all_goals
        go_wp2_with fail
        go_ret
        exact ⟨rfl, hB4⟩
    | none =>
      clear hp
      go_wp2_with fail
      refine (same_any' 0 0 w2).mono ?_
      rintro e w6 ⟨rfl, rfl⟩
      go_wp2_with fail
      refine (awake3_any _ (hG.on hB3)).mono ?_
      rintro e w9 ⟨rfl, hb9⟩
      go_wp2_with fail
      go_ret
      exact ⟨rfl, below_on hb9 hB3 (Nat.le_refl _)⟩
  · have hB2 := below_on (Below.of_alloc w1 (.cells (List.toArray [.string (⟨#[43]⟩ ++ ⟨S.toArray⟩), .string (⟨#[32]⟩ ++ ⟨S.toArray⟩), .string (⟨S.toArray⟩ ++ ⟨#[32]⟩), .string (⟨S.toArray⟩ ++ ⟨#[48]⟩), .string (⟨#[48]⟩ ++ ⟨S.toArray⟩),
      .string (⟨S.toArray⟩ ++ ⟨#[112, 48]⟩), .string (⟨#[45, 45]⟩ ++ ⟨S.toArray⟩), .string (⟨S.toArray⟩ ++ ⟨#[46]⟩)]) 9)) hb1 (Nat.le_refl _)
    refine (awake3_any _ (hG.on hB2)).mono ?_
    rintro e w9 ⟨rfl, hb9⟩
    go_wp2_with fail
    go_ret
    exact ⟨rfl, below_on hb9 hB2 (by simp)⟩
end Go.Proofs.YtfdkafmomkkapaaDoor
