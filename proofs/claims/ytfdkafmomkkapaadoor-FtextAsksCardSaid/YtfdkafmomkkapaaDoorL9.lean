/- Walks: law 9 (FtextAsks). -/
import Derived.Test.YtfdkafmomkkapaaDoorX2
import Derived.Test.YtfdkafmomkkapaaDoorV8
namespace Go.Proofs.YtfdkafmomkkapaaDoor
open Go.RowKit Go.Lib

theorem same_one (b : Nat) (w : World) : Calls Tryd.prog 33 #[.float .f64 b, .float .f64 b] w fun e w' => e = .returned (.bool true) ∧ w = w' :=
  (same_any' b b w).mono fun e w' ⟨he, hw⟩ => ⟨by rw [he]; simp, hw⟩
set_option maxRecDepth 100000 in
set_option maxHeartbeats 2000000 in
theorem law9_any (x : Nat) (s : ByteArray) (w : World) (hG : Gz w) (hx : x < 18446744073709551616) : Calls Tryd.prog 9 #[.float .f64 x, .string s] w fun e w' => e = .returned (.bool true) ∧ Below w.heap.size w w' := by
  by_cases hl : 500 < s.size
  · go_enter Tryd.func9, Tryd.ntmps9
    go_wp2_with fail
    refine (awake3_any w hG).mono ?_
    rintro e w9 ⟨rfl, hb9⟩
    go_wp2_with fail
    go_ret
    exact ⟨rfl, hb9⟩
  · obtain ⟨l, rfl⟩ : ∃ l : List UInt8, s = ⟨l.toArray⟩ := ⟨s.data.toList, rfl⟩
    have hl2 : l.length ≤ 1000 := by
      have : (⟨l.toArray⟩ : ByteArray).size = l.length := by show l.toArray.size = _; simp
      omega
    have hl3 : ¬ 500 < l.length := by
      have : (⟨l.toArray⟩ : ByteArray).size = l.length := by show l.toArray.size = _; simp
      omega
    clear hl
    have HP := Lib.hid (fun w hG => parse_walk l w hG hl2)
    have HQ := Lib.hid (fun w => rp_walk l w hl2)
    have HT := Lib.hid (fun w hG => ftext_any x w hG hx)
    have HU := Lib.hid (fun w => rftext_any x w hx)
    rw [refR_parseF] at HQ
    generalize parseF l = o at *
    generalize textF x = t at *
    cases o with
    | none =>
      go_enter Tryd.func9, Tryd.ntmps9
      go_wp2_with fail
      refine (HP.out w hG).mono ?_
      rintro e w1 ⟨hb1, rfl⟩
      go_wp2_with fail
      refine (HQ.out w1).mono ?_
      rintro e w2 ⟨hb2, rfl⟩
      have hB2 := below_on hb2 hb1 (Nat.le_refl _)
      clear hb1 hb2
      go_wp2_with fail
      refine (HT.out w2 (hG.on hB2)).mono ?_
      rintro e w3 ⟨rfl, hb3⟩
      have hB3 := below_on hb3 hB2 (Nat.le_refl _)
      clear hb3
      go_wp2_with fail
      refine (HU.out w3).mono ?_
      rintro e w4 ⟨rfl, hb4⟩
      have hB4 := below_on hb4 hB3 (Nat.le_refl _)
      clear hb4
      go_wp2_with fail
      refine (same_one _ w4).mono ?_
      rintro e w5 ⟨rfl, rfl⟩
      go_wp2_with fail
      refine (awake3_any w4 (hG.on hB4)).mono ?_
      rintro e w9 ⟨rfl, hb9⟩
      go_wp2_with fail
      go_ret
      exact ⟨rfl, below_on hb9 hB4 (Nat.le_refl _)⟩
    | some b =>
      go_enter Tryd.func9, Tryd.ntmps9
      go_wp2_with fail
      refine (HP.out w hG).mono ?_
      rintro e w1 ⟨hb1, rfl⟩
      go_wp2_with fail
      refine (HQ.out w1).mono ?_
      rintro e w2 ⟨hb2, rfl⟩
      have hB2 := below_on hb2 hb1 (Nat.le_refl _)
      clear hb1 hb2
      go_wp2_with fail
      refine (HT.out w2 (hG.on hB2)).mono ?_
      rintro e w3 ⟨rfl, hb3⟩
      have hB3 := below_on hb3 hB2 (Nat.le_refl _)
      clear hb3
      go_wp2_with fail
      refine (HU.out w3).mono ?_
      rintro e w4 ⟨rfl, hb4⟩
      have hB4 := below_on hb4 hB3 (Nat.le_refl _)
      clear hb4
      go_wp2_with fail
      refine (same_one _ w4).mono ?_
      rintro e w5 ⟨rfl, rfl⟩
      go_wp2_with fail
      refine (awake3_any w4 (hG.on hB4)).mono ?_
      rintro e w9 ⟨rfl, hb9⟩
      go_wp2_with fail
      go_ret
      exact ⟨rfl, below_on hb9 hB4 (Nat.le_refl _)⟩
end Go.Proofs.YtfdkafmomkkapaaDoor
