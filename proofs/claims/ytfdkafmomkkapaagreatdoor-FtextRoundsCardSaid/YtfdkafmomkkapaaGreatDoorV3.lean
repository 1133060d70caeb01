/- Walks: a fraction's digits; the program's text of a number. -/
import Derived.Test.YtfdkafmomkkapaaGreatDoorV2
import Derived.Laws.FloatArith
namespace Go.Proofs.YtfdkafmomkkapaaGreatDoor
open Go.RowKit Go.Lib

theorem fmtI_any (u : Nat) (w : World) (hG : w.cell? ⟨6, 15, none⟩ = some (.int .u8 4)) (hu : u < 4503599627370496) :
    Calls Tryz.prog 53 #[.int .u64 u, .int .i64 16] w (StrR w (hxD u)) := by
  go_enter Tryz.func53, Tryz.ntmps53
  go_wp2_with fail
  refine (fmt16_any u w hG hu).mono ?_
  rintro e w1 ⟨rfl, hb⟩
  go_wp2_with fail
  go_ret
  exact ⟨rfl, hb⟩
theorem fmtU_any (u : Nat) (w : World) (hG : w.cell? ⟨6, 15, none⟩ = some (.int .u8 4)) (hu : u < 4503599627370496) :
    Calls Tryz.prog 39 #[.int .u64 u, .int .i64 16] w (StrR w (hxD u)) := by
  go_enter Tryz.func39, Tryz.ntmps39
  go_wp2_with fail
  refine (fmtI_any u w hG hu).mono ?_
  rintro e w1 ⟨rfl, hb⟩
  go_wp2_with fail
  go_ret
  exact ⟨rfl, hb⟩

theorem repeat_nought (k : Nat) (w : World) (hk : k ≤ 13) : Calls Tryz.prog 38 #[.string ⟨#[48]⟩, .int .i64 k] w (StrR w (List.replicate k 48)) := by
  have e : ∀ k, Lib.repeatL [48] k = List.replicate k 48 := by
    intro k
    induction k with
    | zero => rfl
    | succ k ih => rw [List.replicate_succ]; show [48] ++ Lib.repeatL [48] k = _; rw [ih]; rfl
  refine (Tryz.strings_Repeat ⟨#[48]⟩ k w (by omega) (by show 1 * k ≤ _; omega)).mono fun e' w' ⟨he, hb⟩ => ⟨?_, hb⟩
  rw [he]
  show Ending.returned (.string ⟨(Lib.repeatL [48] k).toArray⟩) = _
  rw [e]

theorem trim_nought (l : List UInt8) (w : World) (hl : l.length ≤ 1000) : Calls Tryz.prog 40 #[.string ⟨l.toArray⟩, .string ⟨#[48]⟩] w fun e w' => e = .returned (.string ⟨(trimRightB l 48).toArray⟩) ∧ w = w' :=
  (Tryz.strings_TrimRight_one ⟨l.toArray⟩ 48 (by decide) w (by show l.toArray.size ≤ _; simp; omega)).mono fun _ _ ⟨he, hw⟩ => ⟨he, hw.symm⟩

set_option maxRecDepth 100000 in
theorem hex_any (f : Nat) (w : World) (hG : w.cell? ⟨6, 15, none⟩ = some (.int .u8 4)) (hf : f < 4503599627370496) (h0 : f ≠ 0) : Calls Tryz.prog 27 #[.int .u64 f] w (StrR w (hexF f)) := by
  have hl := (lowN_pad 12 f hf).1
  have ht := hexF_trim hf h0
  have hr := fun w => repeat_nought (13 - (hxD f).length) w (by omega)
  have hfm := fun w hG => fmtU_any f w hG hf
  obtain ⟨D, hD⟩ : ∃ D, hxD f = D := ⟨_, rfl⟩
  rw [hD] at hl ht hr hfm
  obtain ⟨n, hn⟩ : ∃ n, 13 - D.length = n := ⟨_, rfl⟩
  rw [hn] at ht hr
  obtain ⟨R, hR⟩ : ∃ R, List.replicate n (48 : UInt8) = R := ⟨_, rfl⟩
  have hRl : R.length = n := by rw [← hR]; simp
  rw [hR] at ht hr
  have ek : (13 : Int) - (D.length : Int) = (n : Int) := by omega
  have f1 : ¬ 9223372036854775807 < R.length + D.length := by omega
  have hRD : (R ++ D).length ≤ 1000 := by rw [List.length_append]; omega
  have HT := Lib.hid ht
  have HR := Lib.hid hr
  have HF := Lib.hid hfm
  have HE := Lib.hid ek
  have HL := Lib.hid hRD
  clear ht hr hfm hD hn hR hRl ek hRD h0 hl
  go_enter Tryz.func27, Tryz.ntmps27
  go_wp2_with fail
  refine (HF.out w hG).mono ?_
  rintro e w1 ⟨rfl, hb1⟩
  go_wp2_with fail
  rw [HE.out]
  refine (HR.out w1).mono ?_
  rintro e w2 ⟨rfl, hb2⟩
  have hB2 := below_on hb2 hb1 (Nat.le_refl _)
  clear hb1 hb2
  go_wp2_with fail
  rw [app_mk]
  refine (trim_nought (R ++ D) w2 HL.out).mono ?_
  rintro e w3 ⟨rfl, rfl⟩
  rw [HT.out]
  go_wp2_with fail
  go_ret
  exact ⟨rfl, hB2⟩

theorem ofInt_i64' (a : Nat) (ha : a < 9223372036854775808) : (BitVec.ofInt 64 (a : Int)).toNat = a := by
  rw [BitVec.ofInt_natCast, BitVec.toNat_ofNat]; exact Nat.mod_eq_of_lt (by omega)
theorem exp_and {b : Nat} (h : b < 18446744073709551616) : bits .and .i64 ((b : Int) / 4503599627370496) 2047 = ((expB b : Nat) : Int) := by
  have e : (b : Int) / 4503599627370496 = ((b / 4503599627370496 : Nat) : Int) := by omega
  have hx : b / 4503599627370496 &&& 2047 = b / 4503599627370496 % 2048 := Nat.and_two_pow_sub_one_eq_mod _ 11
  have he : b / 4503599627370496 % 2048 = expB b := by unfold expB magB; omega
  rw [e]
  show IntKind.i64.wrap ((BitVec.ofInt 64 ((b / 4503599627370496 : Nat) : Int) &&& BitVec.ofInt 64 ((2047 : Nat) : Int)).toNat : Int) = _
  rw [BitVec.toNat_and, ofInt_i64' _ (by omega), ofInt_i64' 2047 (by decide), IntKind.wrap_i64, hx, he]
  have : expB b < 2048 := by unfold expB magB; omega
  omega
theorem expB_lt (b : Nat) : expB b < 2048 := by unfold expB magB; omega
theorem fracB_lt (b : Nat) : fracB b < 4503599627370496 := by unfold fracB; omega
/-- the sign's text. -/
def signT (b : Nat) : List UInt8 := if 9223372036854775808 ≤ b then [45] else []
theorem textF_num {b : Nat} (h : isNaNB b = false) : textF b = signT b ++ absT (expB b) (fracB b) := by
  unfold textF; rw [h]; rfl

theorem and52_u64 {v : Nat} (h : v < 18446744073709551616) : bits .and .u64 (v : Int) 4503599627370495 = ((fracB v : Nat) : Int) := by
  have := u64_and_nat v 4503599627370495 h (by decide)
  rw [show v &&& 4503599627370495 = fracB v from Nat.and_two_pow_sub_one_eq_mod v 52] at this
  exact this

theorem absT_inf {e f : Nat} (h : e = 2047) : absT e f = [105, 110, 102] := if_pos h
theorem absT_zero {e f : Nat} (h : e = 0) (h2 : f = 0) : absT e f = [48] := by unfold absT; rw [if_neg (by omega), if_pos ⟨h, h2⟩]
theorem absT_sub {e f : Nat} (h : e = 0) (h2 : f ≠ 0) : absT e f = 48 :: 46 :: (hexF f ++ 112 :: itoa (-1022)) := by
  unfold absT; rw [if_neg (by omega), if_neg (by omega), if_pos h, if_neg h2, h]; rfl
theorem absT_one {e f : Nat} (h : e ≠ 0) (h1 : e ≠ 2047) (h2 : f = 0) : absT e f = 49 :: 112 :: itoa ((e : Int) - 1023) := by
  unfold absT expT; rw [if_neg h1, if_neg (by omega), if_neg h, if_pos h2, if_neg h]; rfl
theorem absT_norm {e f : Nat} (h : e ≠ 0) (h1 : e ≠ 2047) (h2 : f ≠ 0) : absT e f = 49 :: 46 :: (hexF f ++ 112 :: itoa ((e : Int) - 1023)) := by
  unfold absT expT; rw [if_neg h1, if_neg (by omega), if_neg h, if_neg h2, if_neg h]; rfl

set_option maxRecDepth 100000 in
set_option maxHeartbeats 2000000 in
theorem text_num (b : Nat) (w : World) (hG : Gz w) (hb : b < 18446744073709551616) (hn : isNaNB b = false) (S : List UInt8) (hS : signT b = S) (sg : Bool) (hsg : ((b : Int) / 9223372036854775808 != 0) = sg) (hSs : S = if sg then [45] else []) : Calls Tryz.prog 18 #[.float .f64 b] w (StrR w (textF b)) := by
  have ho := order_fmt b
  rw [hn] at ho
  have hc : canB b = b := if_neg (by rw [hn]; decide)
  have hf := and52_u64 hb
  have hx := exp_and hb
  have hxl := expB_lt b
  have hfl := fracB_lt b
  have ht := textF_num hn
  rw [hS] at ht
  have HT := Lib.hid ht
  have HC := Lib.hid hc
  have HS := Lib.hid hSs
  have hhl := (hexF_pad hfl).1
  clear hn hc ht hS hSs
  generalize expB b = e at *
  generalize fracB b = f at *
  by_cases e1 : e = 2047
  · have HA := Lib.hid (absT_inf (f := f) e1)
    subst e1
    cases sg
    all_goals
      go_enter Tryz.func18, Tryz.ntmps18
      go_wp2_with fail
      refine (fbits_any b w).mono ?_
      rintro e w1 ⟨rfl, rfl⟩
      rw [HC.out]
      go_wp2_with fail
      go_ret
      exact ⟨by rw [HT.out, HA.out, HS.out]; exact str_eq (by simp), Below.refl _ _⟩
  · have q1 : ((e : Int) == 2047) = false := by rw [beq_eq_false_iff_ne]; omega
    by_cases e0 : e = 0
    · by_cases f0 : f = 0
      · have HA := Lib.hid (absT_zero e0 f0)
        subst e0; subst f0
        cases sg
        all_goals
          go_enter Tryz.func18, Tryz.ntmps18
          go_wp2_with fail
          refine (fbits_any b w).mono ?_
          rintro e w1 ⟨rfl, rfl⟩
          rw [HC.out]
          go_wp2_with fail
          go_ret
          exact ⟨by rw [HT.out, HA.out, HS.out]; exact str_eq (by simp), Below.refl _ _⟩
      · have HA := Lib.hid (absT_sub e0 f0)
        have q2 : ((f : Int) == 0) = false := by rw [beq_eq_false_iff_ne]; omega
        have q3 : ((f : Int) != 0) = true := by rw [bne_iff_ne]; omega
        have g1 : ¬ 9223372036854775807 < 1 + (hexF f).length := by omega
        have g2 : ¬ 9223372036854775807 < 1 + (1 + (hexF f).length) := by omega
        have g3 : ¬ 9223372036854775807 < 1 + (1 + (1 + (hexF f).length)) := by omega
        subst e0
        cases sg
        all_goals
          go_enter Tryz.func18, Tryz.ntmps18
          go_wp2_with fail
          refine (fbits_any b w).mono ?_
          rintro e w1 ⟨rfl, rfl⟩
          rw [HC.out]
          go_wp2_with fail
          refine (hex_any f w hG.2 hfl f0).mono ?_
          rintro e w2 ⟨rfl, hb2⟩
          go_wp2_with fail
          refine (itoa_any (-1022) w2 (by decide) (by decide) (hG.1.on hb2)).mono ?_
          rintro e w3 ⟨rfl, hb3⟩
          have li := itoa_length (n := -1022) (by decide) (by decide)
          generalize itoa (-1022) = T at *
          go_wp2_with fail
          go_ret
          exact ⟨by rw [HT.out, HA.out, HS.out]; exact str_eq (by simp), below_on hb3 hb2 (Nat.le_refl _)⟩
    · by_cases f0 : f = 0
      · have HA := Lib.hid (absT_one e0 e1 f0)
        have q2 : ((e : Int) == 0) = false := by rw [beq_eq_false_iff_ne]; omega
        subst f0
        cases sg
        all_goals
          go_enter Tryz.func18, Tryz.ntmps18
          go_wp2_with fail
          refine (fbits_any b w).mono ?_
          rintro e w1 ⟨rfl, rfl⟩
          rw [HC.out]
          go_wp2_with fail
          refine (itoa_any ((e : Int) - 1023) w (by omega) (by omega) hG.1).mono ?_
          rintro e' w3 ⟨rfl, hb3⟩
          have li := itoa_length (n := (e : Int) - 1023) (by omega) (by omega)
          generalize itoa ((e : Int) - 1023) = T at *
          go_wp2_with fail
          go_ret
          exact ⟨by rw [HT.out, HA.out, HS.out]; exact str_eq (by simp), hb3⟩
      · have HA := Lib.hid (absT_norm e0 e1 f0)
        have q0 : ((e : Int) == 0) = false := by rw [beq_eq_false_iff_ne]; omega
        have q2 : ((f : Int) == 0) = false := by rw [beq_eq_false_iff_ne]; omega
        have q3 : ((f : Int) != 0) = true := by rw [bne_iff_ne]; omega
        cases sg
        all_goals
          go_enter Tryz.func18, Tryz.ntmps18
          go_wp2_with fail
          refine (fbits_any b w).mono ?_
          rintro e w1 ⟨rfl, rfl⟩
          rw [HC.out]
          go_wp2_with fail
          refine (hex_any f w hG.2 hfl f0).mono ?_
          rintro e' w2 ⟨rfl, hb2⟩
          go_wp2_with fail
          refine (itoa_any ((e : Int) - 1023) w2 (by omega) (by omega) (hG.1.on hb2)).mono ?_
          rintro e' w3 ⟨rfl, hb3⟩
          have li := itoa_length (n := (e : Int) - 1023) (by omega) (by omega)
          generalize itoa ((e : Int) - 1023) = T at *
          go_wp2_with fail
          go_ret
          exact ⟨by rw [HT.out, HA.out, HS.out]; exact str_eq (by simp), below_on hb3 hb2 (Nat.le_refl _)⟩

set_option maxRecDepth 100000 in
set_option maxHeartbeats 1000000 in
theorem text_nan (b : Nat) (w : World) (hn : isNaNB b = true) : Calls Tryz.prog 18 #[.float .f64 b] w (StrR w [110, 97, 110]) := by
  have ho := order_fmt b
  rw [hn] at ho
  have hc : canB b = nanB := if_pos hn
  have HC := Lib.hid hc
  clear hn hc
  go_enter Tryz.func18, Tryz.ntmps18
  go_wp2_with fail
  refine (fbits_any b w).mono ?_
  rintro e w1 ⟨rfl, rfl⟩
  rw [HC.out]
  go_wp2_with fail
  all_goals
    go_ret
    exact ⟨rfl, Below.refl _ _⟩
/-- ftext.Text. -/
theorem ftext_any (b : Nat) (w : World) (hG : Gz w) (hb : b < 18446744073709551616) : Calls Tryz.prog 18 #[.float .f64 b] w (StrR w (textF b)) := by
  cases hn : isNaNB b with
  | true =>
    have := text_nan b w hn
    rw [show textF b = [110, 97, 110] by unfold textF; rw [hn]; rfl]
    exact this
  | false =>
    refine text_num b w hG hb hn (signT b) rfl _ rfl ?_
    unfold signT
    by_cases hs : 9223372036854775808 ≤ b
    · rw [if_pos hs, if_pos (by rw [bne_iff_ne]; omega)]
    · rw [if_neg hs, if_neg (by rw [Bool.not_eq_true, bne_eq_false_iff_eq]; omega)]
end Go.Proofs.YtfdkafmomkkapaaGreatDoor
