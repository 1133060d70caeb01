/- Walks: law 12 (FtextSigns), law 10 (FtextBack). -/
import Derived.Test.YtfdkafmomkkapaaDoorV8
import Derived.Test.YtfdkafmomkkapaaDoorU3
namespace Go.Proofs.YtfdkafmomkkapaaDoor
open Go.RowKit Go.Lib

theorem app45 (l : List UInt8) : ((⟨#[45]⟩ : ByteArray) ++ (⟨l.toArray⟩ : ByteArray)).toList = 45 :: l := by rw [ByteArray.toList_eq]; simp

set_option maxRecDepth 100000 in
set_option maxHeartbeats 2000000 in
theorem law10_any (v u : Nat) (w : World) (hG : Gz w) (hv : v < 18446744073709551616) (hu : u < 18446744073709551616) : Calls Tryd.prog 10 #[.int .u64 v, .int .u64 u] w fun e w' => e = .returned (.bool true) ∧ Below w.heap.size w w' := by
  have h1 := canB_can hv
  have h2 := canB_can hu
  have e1 := canB_self h1
  have e2 := canB_self h2
  have hp := parseF_text h1
  have hi := textF_inj h1 h2
  have hl : (textF (canB v)).length ≤ 1000 := Nat.le_trans (textF_length _) (by decide)
  have HV := Lib.hid (fun w => rfrom_any v w hv)
  have HU := Lib.hid (fun w => rfrom_any u w hu)
  have H1 := Lib.hid h1
  have H2 := Lib.hid h2
  have HI := Lib.hid hi
  have HP := Lib.hid hp
  have E1 := Lib.hid e1
  have E2 := Lib.hid e2
  clear h1 h2 hi hp e1 e2
  generalize canB v = a at *
  generalize canB u = b at *
  go_enter Tryd.func10, Tryd.ntmps10
  go_wp2_with fail
  refine (HV.out w).mono ?_
  rintro e w1 ⟨rfl, rfl⟩
  go_wp2_with fail
  refine (HU.out w).mono ?_
  rintro e w1 ⟨rfl, rfl⟩
  go_wp2_with fail
  refine (ftext_any a w hG H1.out.1).mono ?_
  rintro e w1 ⟨rfl, hb1⟩
  go_wp2_with fail
  refine (parse_walk (textF a) w1 (hG.on hb1) hl).mono ?_
  rintro e w2 ⟨hb2, rfl⟩
  rw [HP.out]
  have hB2 := below_on hb2 hb1 (Nat.le_refl _)
  clear hb1 hb2
  go_wp2_with fail
  refine (same_any' a a w2).mono ?_
  rintro e w3 ⟨rfl, rfl⟩
  go_wp2_with fail
  refine (ftext_any a w2 (hG.on hB2) H1.out.1).mono ?_
  rintro e w3 ⟨rfl, hb3⟩
  have hB3 := below_on hb3 hB2 (Nat.le_refl _)
  clear hb3
  go_wp2_with fail
  refine (ftext_any b w3 (hG.on hB3) H2.out.1).mono ?_
  rintro e w4 ⟨rfl, hb4⟩
  have hB4 := below_on hb4 hB3 (Nat.le_refl _)
  clear hb4
  go_wp2_with fail
  refine (same_any' a b w4).mono ?_
  rintro e w5 ⟨rfl, rfl⟩
  rw [E1.out, E2.out]
  have hq : (textF a == textF b) = ((a : Int) == (b : Int)) := by
    by_cases h : a = b
    · subst h; simp
    · rw [beq_eq_false_iff_ne.2 (fun e => h (HI.out.1 e)), beq_eq_false_iff_ne.2 (by omega)]
  go_wp2_with fail
  refine (awake3_any w4 (hG.on hB4)).mono ?_
  rintro e w9 ⟨rfl, hb9⟩
  go_wp2_with fail
  go_ret
  exact ⟨rfl, below_on hb9 hB4 (Nat.le_refl _)⟩

set_option maxRecDepth 100000 in
set_option maxHeartbeats 2000000 in
theorem law12_any (v : Nat) (w : World) (hG : Gz w) (hv : v < 18446744073709551616) : Calls Tryd.prog 12 #[.int .u64 v] w fun e w' => e = .returned (.bool true) ∧ Below w.heap.size w w' := by
  have h1 := canB_can hv
  have hneg : ∀ b w, (Op.unary .neg (.float .f64 b)).run Tryd.prog w = .ok (.float .f64 (negF b)) w := fun _ _ => rfl
  have HV := Lib.hid (fun w => rfrom_any v w hv)
  have ho := order_fmt (canB v)
  generalize canB v = b at *
  cases hn : isNaNB b with
  | true =>
    rw [hn] at ho
    have HT := Lib.hid (textF_nan hn)
    have HT2 := Lib.hid (textF_nan (negF_nan h1.1 hn))
    clear hn
    go_enter Tryd.func12, Tryd.ntmps12
    go_wp2_with fail
    refine (HV.out w).mono ?_
    rintro e w1 ⟨rfl, rfl⟩
    go_wp2_with fail
    refine (ftext_any b w hG h1.1).mono ?_
    rintro e w1 ⟨rfl, hb1⟩
    rw [HT.out]
    go_wp2_with fail
    refine (ftext_any (negF b) w1 (hG.on hb1) (negF_lt h1.1)).mono ?_
    rintro e w2 ⟨rfl, hb2⟩
    rw [HT2.out]
    have hB2 := below_on hb2 hb1 (Nat.le_refl _)
    go_wp2_with fail
    refine (awake3_any w2 (hG.on hB2)).mono ?_
    rintro e w9 ⟨rfl, hb9⟩
    go_wp2_with fail
    go_ret
    exact ⟨rfl, below_on hb9 hB2 (Nat.le_refl _)⟩
  | false =>
    rw [hn] at ho
    obtain ⟨k1, k2⟩ := negF_text h1.1 hn
    have K1 := Lib.hid k1
    have K2 := Lib.hid k2
    have L1 := textF_length b
    have L2 := textF_length (negF b)
    clear hn k1 k2
    go_enter Tryd.func12, Tryd.ntmps12
    go_wp2_with fail
    refine (HV.out w).mono ?_
    rintro e w1 ⟨rfl, rfl⟩
    go_wp2_with fail
    refine (ftext_any b w hG h1.1).mono ?_
    rintro e w1 ⟨rfl, hb1⟩
    go_wp2_with fail
    refine (ftext_any (negF b) w1 (hG.on hb1) (negF_lt h1.1)).mono ?_
    rintro e w2 ⟨rfl, hb2⟩
    have hB2 := below_on hb2 hb1 (Nat.le_refl _)
    go_wp2_with fail
    · refine (awake3_any w2 (hG.on hB2)).mono ?_
      rintro e w9 ⟨rfl, hb9⟩
      go_wp2_with fail
      go_ret
      exact ⟨rfl, below_on hb9 hB2 (Nat.le_refl _)⟩
    · refine (awake3_any w2 (hG.on hB2)).mono ?_
      rintro e w9 ⟨rfl, hb9⟩
      go_wp2_with fail
      go_ret
      exact ⟨rfl, below_on hb9 hB2 (Nat.le_refl _)⟩
    · exfalso
      rcases Nat.lt_or_ge b 9223372036854775808 with h | h
      · exact (by assumption : ¬ textF (negF b) = _) ((K1.out h).trans (app45 _).symm)
      · exact (by assumption : ¬ textF b = _) ((K2.out h).trans (app45 _).symm)
end Go.Proofs.YtfdkafmomkkapaaDoor
