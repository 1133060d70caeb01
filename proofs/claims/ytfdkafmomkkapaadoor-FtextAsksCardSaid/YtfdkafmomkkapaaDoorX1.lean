/- Walks: the reference's text of a number. PRINTED by wip/mkX1.py. -/
import Derived.Test.YtfdkafmomkkapaaDoorU3
import Derived.Test.YtfdkafmomkkapaaDoorA6
import Derived.Test.YtfdkafmomkkapaaDoorE0
import Derived.Test.YtfdkafmomkkapaaDoorV3
namespace Go.Proofs.YtfdkafmomkkapaaDoor
open Go.RowKit Go.Lib

def strOf : Value → Nat | .string b => b.size | _ => 0
theorem hexL_eq {p : List UInt8} {n q : Nat} {P : List UInt8} (hn : q ≠ 0) (h : p ++ hexR (n + 1) q = P) : (p ++ [hexc (q / 281474976710656)]) ++ hexR n (q % 281474976710656 * 16) = P := by
  rw [hexR_succ hn] at h; rw [← h]; simp
theorem str_v (p : List UInt8) (x : UInt8) : Value.string (⟨p.toArray⟩ ++ ⟨#[x]⟩) = .string ⟨(p ++ [x]).toArray⟩ := by rw [app_mk p [x]]
theorem str_m {p : List UInt8} {x : UInt8} (h : p.length ≤ 20) : 40 - strOf (.string (⟨p.toArray⟩ ++ ⟨#[x]⟩)) < 40 - strOf (.string ⟨p.toArray⟩) := by
  rw [app_mk p [x]]
  show 40 - (p ++ [x]).toArray.size < 40 - p.toArray.size
  simp; omega
theorem shl_and' {q : Nat} (h : q < 4503599627370496) : bits .and .u64 ((q : Int) * 16) 4503599627370495 = (q : Int) % 281474976710656 * 16 := by
  have e : (q : Int) * 16 = ((q * 16 : Nat) : Int) := by omega
  rw [e, and52_u64 (by omega)]
  unfold fracB; omega

set_option maxRecDepth 100000 in
set_option maxHeartbeats 2000000 in
theorem rt_inf1 (b : Nat) (w : World) (hc : canB b = b) (hs : bits .and .u64 (b : Int) 9223372036854775808 = 9223372036854775808) (hm : bits .andNot .u64 (b : Int) 9223372036854775808 = 9218868437227405312) : Calls Tryd.prog 32 #[.float .f64 b] w (StrR w ([45, 105, 110, 102])) := by
  have HC := Lib.hid hc
  clear hc
  go_enter Tryd.func32, Tryd.ntmps32
  go_wp2_with fail
  refine (rbits_any b w).mono ?_
  rintro e' w1 ⟨rfl, rfl⟩
  rw [HC.out]
  go_wp2_with fail
  go_ret
  exact ⟨rfl, Below.refl _ _⟩
set_option maxRecDepth 100000 in
set_option maxHeartbeats 2000000 in
theorem rt_zero1 (b : Nat) (w : World) (hc : canB b = b) (hs : bits .and .u64 (b : Int) 9223372036854775808 = 9223372036854775808) (hm : bits .andNot .u64 (b : Int) 9223372036854775808 = 0) : Calls Tryd.prog 32 #[.float .f64 b] w (StrR w ([45, 48])) := by
  have HC := Lib.hid hc
  clear hc
  go_enter Tryd.func32, Tryd.ntmps32
  go_wp2_with fail
  refine (rbits_any b w).mono ?_
  rintro e' w1 ⟨rfl, rfl⟩
  rw [HC.out]
  go_wp2_with fail
  go_ret
  exact ⟨rfl, Below.refl _ _⟩
set_option maxRecDepth 100000 in
set_option maxHeartbeats 2000000 in
theorem rt_sub1 (b : Nat) (m e f : Nat) (w : World) (hc : canB b = b) (hs : bits .and .u64 (b : Int) 9223372036854775808 = 9223372036854775808) (hm : bits .andNot .u64 (b : Int) 9223372036854775808 = (m : Int)) (hm1 : m < 9218868437227405312) (hx : (m : Int) / 4503599627370496 = (e : Int)) (he : e = 0) (hmf : bits .and .u64 (m : Int) 4503599627370495 = (f : Int)) (hf : f ≠ 0) (hf1 : f < 4503599627370496) : Calls Tryd.prog 32 #[.float .f64 b] w (StrR w ([45, 48, 46] ++ hexR 13 f ++ 112 :: itoa (-1022))) := by
  have q1 : ((m : Int) == 9218868437227405312) = false := by rw [beq_eq_false_iff_ne]; omega
  have q2 : ((m : Int) == 0) = false := by rw [beq_eq_false_iff_ne]; intro h; rw [h] at hmf; rw [show bits .and .u64 0 4503599627370495 = 0 by decide +kernel] at hmf; omega
  subst he
  have q4 : ((f : Int) != 0) = true := by rw [bne_iff_ne]; omega
  have hft := Lib.hid (fits_top hf1)
  have HC := Lib.hid hc
  clear hc
  go_enter Tryd.func32, Tryd.ntmps32
  go_wp2_with fail
  refine (rbits_any b w).mono ?_
  rintro e' w1 ⟨rfl, rfl⟩
  rw [HC.out]
  go_wp2_with fail
  go_loopw [5, 7] (fun s g wr => ∃ (n q : Nat) (p : List UInt8), n ≤ 13 ∧ Hid (Fits n q) ∧ g = .int .u64 q ∧ s = .string ⟨p.toArray⟩ ∧ Hid (p.length + n = 16) ∧ Hid (p ++ hexR n q = [45, 48, 46] ++ hexR 13 f) ∧ Below w.heap.size w wr) (fun s _ _ => 40 - strOf s)
  case atStart => exact ⟨13, f, [45, 48, 46], Nat.le_refl _, hft, rfl, rfl, Lib.hid rfl, Lib.hid rfl, Below.refl _ _⟩
  case round =>
    obtain ⟨n, q, p, hn, HF, rfl, rfl, HL, HP, hbel⟩ := hrel
    by_cases hq : q = 0
    · subst hq
      have HE := Lib.hid (show p = [45, 48, 46] ++ hexR 13 f by have := HP.out; rwa [show hexR n 0 = [] by cases n <;> simp [hexR], List.append_nil] at this)
      have hpl : p.length ≤ 20 := by have := HL.out; omega
      clear HP HF HL hft
      go_wp2_with fail
      refine (decimal_any (-1022) wr (by omega) (by omega)).mono ?_
      rintro e' w3 ⟨rfl, hb3⟩
      have li := itoa_length (n := (-1022)) (by omega) (by omega)
      have hB3 := below_on hb3 hbel (Nat.le_refl _)
      clear hb3 hbel
      generalize itoa (-1022) = T at *
      go_wp2_with fail
      go_ret
      exact ⟨by rw [HE.out]; exact str_eq (by simp), hB3⟩
    · obtain ⟨n, rfl⟩ : ∃ k, n = k + 1 := ⟨n - 1, by cases n with | zero => exact absurd (fits_zero HF.out) hq | succ n => omega⟩
      have hF2 := Lib.hid (fits_next (by omega) HF.out)
      have hP2 := Lib.hid (hexL_eq hq HP.out)
      have hq1 := HF.out.1
      have hsa := shl_and' hq1
      have HL2 := Lib.hid (show (p ++ [hexc (q / 281474976710656)]).length + n = 16 by have := HL.out; rw [List.length_append]; simp only [List.length_singleton]; omega)
      have hqn : ((q : Int) != 0) = true := by rw [bne_iff_ne]; omega
      have b1 : 0 ≤ (q : Int) / 281474976710656 := by omega
      have b2 : (q : Int) / 281474976710656 < 16 := by omega
      have e1 : ((q : Int) / 281474976710656).toNat = q / 281474976710656 := by omega
      have hd16 : q / 281474976710656 < 16 := by omega
      have hpl : p.length ≤ 20 := by have := HL.out; omega
      clear HF HP HL
      have hcc : ∀ x : UInt8, (convert 35 9 (.slice (some ⟨wr.heap.size, 0, none⟩) 1 1)).run Tryd.prog (wr.alloc (.cells #[.int .u8 x.toNat] 5)) = .ok (.string ⟨#[x]⟩) (wr.alloc (.cells #[.int .u8 x.toNat] 5)) :=
        fun x => conv_cells (w := wr.alloc (.cells #[.int .u8 x.toNat] 5)) (N := wr.heap.size) (j := 0) (l := [x]) (hp_new _ _) rfl 1 1 rfl
      have hB2 := below_on (Below.of_alloc wr (.cells #[.int .u8 (hexc (q / 281474976710656)).toNat] 5)) hbel (Nat.le_refl _)
      clear hbel
      go_wp2_with fail
      simp only [hexTab]
      generalize hexc (q / 281474976710656) = x at *
      go_roundw
      case rel => exact ⟨n, q % 281474976710656 * 16, p ++ [x], by omega, hF2, congrArg (Value.int .u64) (by omega), str_v _ _, HL2, hP2, hB2⟩
      case measure => exact str_m hpl

set_option maxRecDepth 100000 in
set_option maxHeartbeats 2000000 in
theorem rt_one1 (b : Nat) (m e f : Nat) (w : World) (hc : canB b = b) (hs : bits .and .u64 (b : Int) 9223372036854775808 = 9223372036854775808) (hm : bits .andNot .u64 (b : Int) 9223372036854775808 = (m : Int)) (hm1 : m < 9218868437227405312) (hx : (m : Int) / 4503599627370496 = (e : Int)) (he : e ≠ 0) (hmf : bits .and .u64 (m : Int) 4503599627370495 = (f : Int)) (hf : f = 0) (hf1 : f < 4503599627370496) : Calls Tryd.prog 32 #[.float .f64 b] w (StrR w ([45, 49] ++ 112 :: itoa ((e : Int) - 1023))) := by
  have q1 : ((m : Int) == 9218868437227405312) = false := by rw [beq_eq_false_iff_ne]; omega
  have q2 : ((m : Int) == 0) = false := by rw [beq_eq_false_iff_ne]; intro h; rw [h] at hx; omega
  have q3 : ((e : Int) - 1023 == -1023) = false := by rw [beq_eq_false_iff_ne]; omega
  subst hf
  have hft := Lib.hid (fits_top hf1)
  have HC := Lib.hid hc
  clear hc
  go_enter Tryd.func32, Tryd.ntmps32
  go_wp2_with fail
  refine (rbits_any b w).mono ?_
  rintro e' w1 ⟨rfl, rfl⟩
  rw [HC.out]
  go_wp2_with fail
  go_loopw [5, 7] (fun s g wr => ∃ (n q : Nat) (p : List UInt8), n ≤ 13 ∧ Hid (Fits n q) ∧ g = .int .u64 q ∧ s = .string ⟨p.toArray⟩ ∧ Hid (p.length + n = 15) ∧ Hid (p ++ hexR n q = [45, 49]) ∧ Below w.heap.size w wr) (fun s _ _ => 40 - strOf s)
  case atStart => exact ⟨13, 0, [45, 49], Nat.le_refl _, hft, rfl, rfl, Lib.hid rfl, Lib.hid rfl, Below.refl _ _⟩
  case round =>
    obtain ⟨n, q, p, hn, HF, rfl, rfl, HL, HP, hbel⟩ := hrel
    by_cases hq : q = 0
    · subst hq
      have HE := Lib.hid (show p = [45, 49] by have := HP.out; rwa [show hexR n 0 = [] by cases n <;> simp [hexR], List.append_nil] at this)
      have hpl : p.length ≤ 20 := by have := HL.out; omega
      clear HP HF HL hft
      go_wp2_with fail
      refine (decimal_any ((e : Int) - 1023) wr (by omega) (by omega)).mono ?_
      rintro e' w3 ⟨rfl, hb3⟩
      have li := itoa_length (n := ((e : Int) - 1023)) (by omega) (by omega)
      have hB3 := below_on hb3 hbel (Nat.le_refl _)
      clear hb3 hbel
      generalize itoa ((e : Int) - 1023) = T at *
      go_wp2_with fail
      go_ret
      exact ⟨by rw [HE.out]; exact str_eq (by simp), hB3⟩
    · obtain ⟨n, rfl⟩ : ∃ k, n = k + 1 := ⟨n - 1, by cases n with | zero => exact absurd (fits_zero HF.out) hq | succ n => omega⟩
      have hF2 := Lib.hid (fits_next (by omega) HF.out)
      have hP2 := Lib.hid (hexL_eq hq HP.out)
      have hq1 := HF.out.1
      have hsa := shl_and' hq1
      have HL2 := Lib.hid (show (p ++ [hexc (q / 281474976710656)]).length + n = 15 by have := HL.out; rw [List.length_append]; simp only [List.length_singleton]; omega)
      have hqn : ((q : Int) != 0) = true := by rw [bne_iff_ne]; omega
      have b1 : 0 ≤ (q : Int) / 281474976710656 := by omega
      have b2 : (q : Int) / 281474976710656 < 16 := by omega
      have e1 : ((q : Int) / 281474976710656).toNat = q / 281474976710656 := by omega
      have hd16 : q / 281474976710656 < 16 := by omega
      have hpl : p.length ≤ 20 := by have := HL.out; omega
      clear HF HP HL
      have hcc : ∀ x : UInt8, (convert 35 9 (.slice (some ⟨wr.heap.size, 0, none⟩) 1 1)).run Tryd.prog (wr.alloc (.cells #[.int .u8 x.toNat] 5)) = .ok (.string ⟨#[x]⟩) (wr.alloc (.cells #[.int .u8 x.toNat] 5)) :=
        fun x => conv_cells (w := wr.alloc (.cells #[.int .u8 x.toNat] 5)) (N := wr.heap.size) (j := 0) (l := [x]) (hp_new _ _) rfl 1 1 rfl
      have hB2 := below_on (Below.of_alloc wr (.cells #[.int .u8 (hexc (q / 281474976710656)).toNat] 5)) hbel (Nat.le_refl _)
      clear hbel
      go_wp2_with fail
      simp only [hexTab]
      generalize hexc (q / 281474976710656) = x at *
      go_roundw
      case rel => exact ⟨n, q % 281474976710656 * 16, p ++ [x], by omega, hF2, congrArg (Value.int .u64) (by omega), str_v _ _, HL2, hP2, hB2⟩
      case measure => exact str_m hpl

set_option maxRecDepth 100000 in
set_option maxHeartbeats 2000000 in
theorem rt_norm1 (b : Nat) (m e f : Nat) (w : World) (hc : canB b = b) (hs : bits .and .u64 (b : Int) 9223372036854775808 = 9223372036854775808) (hm : bits .andNot .u64 (b : Int) 9223372036854775808 = (m : Int)) (hm1 : m < 9218868437227405312) (hx : (m : Int) / 4503599627370496 = (e : Int)) (he : e ≠ 0) (hmf : bits .and .u64 (m : Int) 4503599627370495 = (f : Int)) (hf : f ≠ 0) (hf1 : f < 4503599627370496) : Calls Tryd.prog 32 #[.float .f64 b] w (StrR w ([45, 49, 46] ++ hexR 13 f ++ 112 :: itoa ((e : Int) - 1023))) := by
  have q1 : ((m : Int) == 9218868437227405312) = false := by rw [beq_eq_false_iff_ne]; omega
  have q2 : ((m : Int) == 0) = false := by rw [beq_eq_false_iff_ne]; intro h; rw [h] at hmf; rw [show bits .and .u64 0 4503599627370495 = 0 by decide +kernel] at hmf; omega
  have q3 : ((e : Int) - 1023 == -1023) = false := by rw [beq_eq_false_iff_ne]; omega
  have q4 : ((f : Int) != 0) = true := by rw [bne_iff_ne]; omega
  have hft := Lib.hid (fits_top hf1)
  have HC := Lib.hid hc
  clear hc
  go_enter Tryd.func32, Tryd.ntmps32
  go_wp2_with fail
  refine (rbits_any b w).mono ?_
  rintro e' w1 ⟨rfl, rfl⟩
  rw [HC.out]
  go_wp2_with fail
  go_loopw [5, 7] (fun s g wr => ∃ (n q : Nat) (p : List UInt8), n ≤ 13 ∧ Hid (Fits n q) ∧ g = .int .u64 q ∧ s = .string ⟨p.toArray⟩ ∧ Hid (p.length + n = 16) ∧ Hid (p ++ hexR n q = [45, 49, 46] ++ hexR 13 f) ∧ Below w.heap.size w wr) (fun s _ _ => 40 - strOf s)
  case atStart => exact ⟨13, f, [45, 49, 46], Nat.le_refl _, hft, rfl, rfl, Lib.hid rfl, Lib.hid rfl, Below.refl _ _⟩
  case round =>
    obtain ⟨n, q, p, hn, HF, rfl, rfl, HL, HP, hbel⟩ := hrel
    by_cases hq : q = 0
    · subst hq
      have HE := Lib.hid (show p = [45, 49, 46] ++ hexR 13 f by have := HP.out; rwa [show hexR n 0 = [] by cases n <;> simp [hexR], List.append_nil] at this)
      have hpl : p.length ≤ 20 := by have := HL.out; omega
      clear HP HF HL hft
      go_wp2_with fail
      refine (decimal_any ((e : Int) - 1023) wr (by omega) (by omega)).mono ?_
      rintro e' w3 ⟨rfl, hb3⟩
      have li := itoa_length (n := ((e : Int) - 1023)) (by omega) (by omega)
      have hB3 := below_on hb3 hbel (Nat.le_refl _)
      clear hb3 hbel
      generalize itoa ((e : Int) - 1023) = T at *
      go_wp2_with fail
      go_ret
      exact ⟨by rw [HE.out]; exact str_eq (by simp), hB3⟩
    · obtain ⟨n, rfl⟩ : ∃ k, n = k + 1 := ⟨n - 1, by cases n with | zero => exact absurd (fits_zero HF.out) hq | succ n => omega⟩
      have hF2 := Lib.hid (fits_next (by omega) HF.out)
      have hP2 := Lib.hid (hexL_eq hq HP.out)
      have hq1 := HF.out.1
      have hsa := shl_and' hq1
      have HL2 := Lib.hid (show (p ++ [hexc (q / 281474976710656)]).length + n = 16 by have := HL.out; rw [List.length_append]; simp only [List.length_singleton]; omega)
      have hqn : ((q : Int) != 0) = true := by rw [bne_iff_ne]; omega
      have b1 : 0 ≤ (q : Int) / 281474976710656 := by omega
      have b2 : (q : Int) / 281474976710656 < 16 := by omega
      have e1 : ((q : Int) / 281474976710656).toNat = q / 281474976710656 := by omega
      have hd16 : q / 281474976710656 < 16 := by omega
      have hpl : p.length ≤ 20 := by have := HL.out; omega
      clear HF HP HL
      have hcc : ∀ x : UInt8, (convert 35 9 (.slice (some ⟨wr.heap.size, 0, none⟩) 1 1)).run Tryd.prog (wr.alloc (.cells #[.int .u8 x.toNat] 5)) = .ok (.string ⟨#[x]⟩) (wr.alloc (.cells #[.int .u8 x.toNat] 5)) :=
        fun x => conv_cells (w := wr.alloc (.cells #[.int .u8 x.toNat] 5)) (N := wr.heap.size) (j := 0) (l := [x]) (hp_new _ _) rfl 1 1 rfl
      have hB2 := below_on (Below.of_alloc wr (.cells #[.int .u8 (hexc (q / 281474976710656)).toNat] 5)) hbel (Nat.le_refl _)
      clear hbel
      go_wp2_with fail
      simp only [hexTab]
      generalize hexc (q / 281474976710656) = x at *
      go_roundw
      case rel => exact ⟨n, q % 281474976710656 * 16, p ++ [x], by omega, hF2, congrArg (Value.int .u64) (by omega), str_v _ _, HL2, hP2, hB2⟩
      case measure => exact str_m hpl

set_option maxRecDepth 100000 in
set_option maxHeartbeats 2000000 in
theorem rt_inf0 (b : Nat) (w : World) (hc : canB b = b) (hs : bits .and .u64 (b : Int) 9223372036854775808 = 0) (hm : bits .andNot .u64 (b : Int) 9223372036854775808 = 9218868437227405312) : Calls Tryd.prog 32 #[.float .f64 b] w (StrR w ([105, 110, 102])) := by
  have HC := Lib.hid hc
  clear hc
  go_enter Tryd.func32, Tryd.ntmps32
  go_wp2_with fail
  refine (rbits_any b w).mono ?_
  rintro e' w1 ⟨rfl, rfl⟩
  rw [HC.out]
  go_wp2_with fail
  go_ret
  exact ⟨rfl, Below.refl _ _⟩
set_option maxRecDepth 100000 in
set_option maxHeartbeats 2000000 in
theorem rt_zero0 (b : Nat) (w : World) (hc : canB b = b) (hs : bits .and .u64 (b : Int) 9223372036854775808 = 0) (hm : bits .andNot .u64 (b : Int) 9223372036854775808 = 0) : Calls Tryd.prog 32 #[.float .f64 b] w (StrR w ([48])) := by
  have HC := Lib.hid hc
  clear hc
  go_enter Tryd.func32, Tryd.ntmps32
  go_wp2_with fail
  refine (rbits_any b w).mono ?_
  rintro e' w1 ⟨rfl, rfl⟩
  rw [HC.out]
  go_wp2_with fail
  go_ret
  exact ⟨rfl, Below.refl _ _⟩
set_option maxRecDepth 100000 in
set_option maxHeartbeats 2000000 in
theorem rt_sub0 (b : Nat) (m e f : Nat) (w : World) (hc : canB b = b) (hs : bits .and .u64 (b : Int) 9223372036854775808 = 0) (hm : bits .andNot .u64 (b : Int) 9223372036854775808 = (m : Int)) (hm1 : m < 9218868437227405312) (hx : (m : Int) / 4503599627370496 = (e : Int)) (he : e = 0) (hmf : bits .and .u64 (m : Int) 4503599627370495 = (f : Int)) (hf : f ≠ 0) (hf1 : f < 4503599627370496) : Calls Tryd.prog 32 #[.float .f64 b] w (StrR w ([48, 46] ++ hexR 13 f ++ 112 :: itoa (-1022))) := by
  have q1 : ((m : Int) == 9218868437227405312) = false := by rw [beq_eq_false_iff_ne]; omega
  have q2 : ((m : Int) == 0) = false := by rw [beq_eq_false_iff_ne]; intro h; rw [h] at hmf; rw [show bits .and .u64 0 4503599627370495 = 0 by decide +kernel] at hmf; omega
  subst he
  have q4 : ((f : Int) != 0) = true := by rw [bne_iff_ne]; omega
  have hft := Lib.hid (fits_top hf1)
  have HC := Lib.hid hc
  clear hc
  go_enter Tryd.func32, Tryd.ntmps32
  go_wp2_with fail
  refine (rbits_any b w).mono ?_
  rintro e' w1 ⟨rfl, rfl⟩
  rw [HC.out]
  go_wp2_with fail
  go_loopw [5, 7] (fun s g wr => ∃ (n q : Nat) (p : List UInt8), n ≤ 13 ∧ Hid (Fits n q) ∧ g = .int .u64 q ∧ s = .string ⟨p.toArray⟩ ∧ Hid (p.length + n = 15) ∧ Hid (p ++ hexR n q = [48, 46] ++ hexR 13 f) ∧ Below w.heap.size w wr) (fun s _ _ => 40 - strOf s)
  case atStart => exact ⟨13, f, [48, 46], Nat.le_refl _, hft, rfl, rfl, Lib.hid rfl, Lib.hid rfl, Below.refl _ _⟩
  case round =>
    obtain ⟨n, q, p, hn, HF, rfl, rfl, HL, HP, hbel⟩ := hrel
    by_cases hq : q = 0
    · subst hq
      have HE := Lib.hid (show p = [48, 46] ++ hexR 13 f by have := HP.out; rwa [show hexR n 0 = [] by cases n <;> simp [hexR], List.append_nil] at this)
      have hpl : p.length ≤ 20 := by have := HL.out; omega
      clear HP HF HL hft
      go_wp2_with fail
      refine (decimal_any (-1022) wr (by omega) (by omega)).mono ?_
      rintro e' w3 ⟨rfl, hb3⟩
      have li := itoa_length (n := (-1022)) (by omega) (by omega)
      have hB3 := below_on hb3 hbel (Nat.le_refl _)
      clear hb3 hbel
      generalize itoa (-1022) = T at *
      go_wp2_with fail
      go_ret
      exact ⟨by rw [HE.out]; exact str_eq (by simp), hB3⟩
    · obtain ⟨n, rfl⟩ : ∃ k, n = k + 1 := ⟨n - 1, by cases n with | zero => exact absurd (fits_zero HF.out) hq | succ n => omega⟩
      have hF2 := Lib.hid (fits_next (by omega) HF.out)
      have hP2 := Lib.hid (hexL_eq hq HP.out)
      have hq1 := HF.out.1
      have hsa := shl_and' hq1
      have HL2 := Lib.hid (show (p ++ [hexc (q / 281474976710656)]).length + n = 15 by have := HL.out; rw [List.length_append]; simp only [List.length_singleton]; omega)
      have hqn : ((q : Int) != 0) = true := by rw [bne_iff_ne]; omega
      have b1 : 0 ≤ (q : Int) / 281474976710656 := by omega
      have b2 : (q : Int) / 281474976710656 < 16 := by omega
      have e1 : ((q : Int) / 281474976710656).toNat = q / 281474976710656 := by omega
      have hd16 : q / 281474976710656 < 16 := by omega
      have hpl : p.length ≤ 20 := by have := HL.out; omega
      clear HF HP HL
      have hcc : ∀ x : UInt8, (convert 35 9 (.slice (some ⟨wr.heap.size, 0, none⟩) 1 1)).run Tryd.prog (wr.alloc (.cells #[.int .u8 x.toNat] 5)) = .ok (.string ⟨#[x]⟩) (wr.alloc (.cells #[.int .u8 x.toNat] 5)) :=
        fun x => conv_cells (w := wr.alloc (.cells #[.int .u8 x.toNat] 5)) (N := wr.heap.size) (j := 0) (l := [x]) (hp_new _ _) rfl 1 1 rfl
      have hB2 := below_on (Below.of_alloc wr (.cells #[.int .u8 (hexc (q / 281474976710656)).toNat] 5)) hbel (Nat.le_refl _)
      clear hbel
      go_wp2_with fail
      simp only [hexTab]
      generalize hexc (q / 281474976710656) = x at *
      go_roundw
      case rel => exact ⟨n, q % 281474976710656 * 16, p ++ [x], by omega, hF2, congrArg (Value.int .u64) (by omega), str_v _ _, HL2, hP2, hB2⟩
      case measure => exact str_m hpl

set_option maxRecDepth 100000 in
set_option maxHeartbeats 2000000 in
theorem rt_one0 (b : Nat) (m e f : Nat) (w : World) (hc : canB b = b) (hs : bits .and .u64 (b : Int) 9223372036854775808 = 0) (hm : bits .andNot .u64 (b : Int) 9223372036854775808 = (m : Int)) (hm1 : m < 9218868437227405312) (hx : (m : Int) / 4503599627370496 = (e : Int)) (he : e ≠ 0) (hmf : bits .and .u64 (m : Int) 4503599627370495 = (f : Int)) (hf : f = 0) (hf1 : f < 4503599627370496) : Calls Tryd.prog 32 #[.float .f64 b] w (StrR w ([49] ++ 112 :: itoa ((e : Int) - 1023))) := by
  have q1 : ((m : Int) == 9218868437227405312) = false := by rw [beq_eq_false_iff_ne]; omega
  have q2 : ((m : Int) == 0) = false := by rw [beq_eq_false_iff_ne]; intro h; rw [h] at hx; omega
  have q3 : ((e : Int) - 1023 == -1023) = false := by rw [beq_eq_false_iff_ne]; omega
  subst hf
  have hft := Lib.hid (fits_top hf1)
  have HC := Lib.hid hc
  clear hc
  go_enter Tryd.func32, Tryd.ntmps32
  go_wp2_with fail
  refine (rbits_any b w).mono ?_
  rintro e' w1 ⟨rfl, rfl⟩
  rw [HC.out]
  go_wp2_with fail
  go_loopw [5, 7] (fun s g wr => ∃ (n q : Nat) (p : List UInt8), n ≤ 13 ∧ Hid (Fits n q) ∧ g = .int .u64 q ∧ s = .string ⟨p.toArray⟩ ∧ Hid (p.length + n = 14) ∧ Hid (p ++ hexR n q = [49]) ∧ Below w.heap.size w wr) (fun s _ _ => 40 - strOf s)
  case atStart => exact ⟨13, 0, [49], Nat.le_refl _, hft, rfl, rfl, Lib.hid rfl, Lib.hid rfl, Below.refl _ _⟩
  case round =>
    obtain ⟨n, q, p, hn, HF, rfl, rfl, HL, HP, hbel⟩ := hrel
    by_cases hq : q = 0
    · subst hq
      have HE := Lib.hid (show p = [49] by have := HP.out; rwa [show hexR n 0 = [] by cases n <;> simp [hexR], List.append_nil] at this)
      have hpl : p.length ≤ 20 := by have := HL.out; omega
      clear HP HF HL hft
      go_wp2_with fail
      refine (decimal_any ((e : Int) - 1023) wr (by omega) (by omega)).mono ?_
      rintro e' w3 ⟨rfl, hb3⟩
      have li := itoa_length (n := ((e : Int) - 1023)) (by omega) (by omega)
      have hB3 := below_on hb3 hbel (Nat.le_refl _)
      clear hb3 hbel
      generalize itoa ((e : Int) - 1023) = T at *
      go_wp2_with fail
      go_ret
      exact ⟨by rw [HE.out]; exact str_eq (by simp), hB3⟩
    · obtain ⟨n, rfl⟩ : ∃ k, n = k + 1 := ⟨n - 1, by cases n with | zero => exact absurd (fits_zero HF.out) hq | succ n => omega⟩
      have hF2 := Lib.hid (fits_next (by omega) HF.out)
      have hP2 := Lib.hid (hexL_eq hq HP.out)
      have hq1 := HF.out.1
      have hsa := shl_and' hq1
      have HL2 := Lib.hid (show (p ++ [hexc (q / 281474976710656)]).length + n = 14 by have := HL.out; rw [List.length_append]; simp only [List.length_singleton]; omega)
      have hqn : ((q : Int) != 0) = true := by rw [bne_iff_ne]; omega
      have b1 : 0 ≤ (q : Int) / 281474976710656 := by omega
      have b2 : (q : Int) / 281474976710656 < 16 := by omega
      have e1 : ((q : Int) / 281474976710656).toNat = q / 281474976710656 := by omega
      have hd16 : q / 281474976710656 < 16 := by omega
      have hpl : p.length ≤ 20 := by have := HL.out; omega
      clear HF HP HL
      have hcc : ∀ x : UInt8, (convert 35 9 (.slice (some ⟨wr.heap.size, 0, none⟩) 1 1)).run Tryd.prog (wr.alloc (.cells #[.int .u8 x.toNat] 5)) = .ok (.string ⟨#[x]⟩) (wr.alloc (.cells #[.int .u8 x.toNat] 5)) :=
        fun x => conv_cells (w := wr.alloc (.cells #[.int .u8 x.toNat] 5)) (N := wr.heap.size) (j := 0) (l := [x]) (hp_new _ _) rfl 1 1 rfl
      have hB2 := below_on (Below.of_alloc wr (.cells #[.int .u8 (hexc (q / 281474976710656)).toNat] 5)) hbel (Nat.le_refl _)
      clear hbel
      go_wp2_with fail
      simp only [hexTab]
      generalize hexc (q / 281474976710656) = x at *
      go_roundw
      case rel => exact ⟨n, q % 281474976710656 * 16, p ++ [x], by omega, hF2, congrArg (Value.int .u64) (by omega), str_v _ _, HL2, hP2, hB2⟩
      case measure => exact str_m hpl

set_option maxRecDepth 100000 in
set_option maxHeartbeats 2000000 in
theorem rt_norm0 (b : Nat) (m e f : Nat) (w : World) (hc : canB b = b) (hs : bits .and .u64 (b : Int) 9223372036854775808 = 0) (hm : bits .andNot .u64 (b : Int) 9223372036854775808 = (m : Int)) (hm1 : m < 9218868437227405312) (hx : (m : Int) / 4503599627370496 = (e : Int)) (he : e ≠ 0) (hmf : bits .and .u64 (m : Int) 4503599627370495 = (f : Int)) (hf : f ≠ 0) (hf1 : f < 4503599627370496) : Calls Tryd.prog 32 #[.float .f64 b] w (StrR w ([49, 46] ++ hexR 13 f ++ 112 :: itoa ((e : Int) - 1023))) := by
  have q1 : ((m : Int) == 9218868437227405312) = false := by rw [beq_eq_false_iff_ne]; omega
  have q2 : ((m : Int) == 0) = false := by rw [beq_eq_false_iff_ne]; intro h; rw [h] at hmf; rw [show bits .and .u64 0 4503599627370495 = 0 by decide +kernel] at hmf; omega
  have q3 : ((e : Int) - 1023 == -1023) = false := by rw [beq_eq_false_iff_ne]; omega
  have q4 : ((f : Int) != 0) = true := by rw [bne_iff_ne]; omega
  have hft := Lib.hid (fits_top hf1)
  have HC := Lib.hid hc
  clear hc
  go_enter Tryd.func32, Tryd.ntmps32
  go_wp2_with fail
  refine (rbits_any b w).mono ?_
  rintro e' w1 ⟨rfl, rfl⟩
  rw [HC.out]
  go_wp2_with fail
  go_loopw [5, 7] (fun s g wr => ∃ (n q : Nat) (p : List UInt8), n ≤ 13 ∧ Hid (Fits n q) ∧ g = .int .u64 q ∧ s = .string ⟨p.toArray⟩ ∧ Hid (p.length + n = 15) ∧ Hid (p ++ hexR n q = [49, 46] ++ hexR 13 f) ∧ Below w.heap.size w wr) (fun s _ _ => 40 - strOf s)
  case atStart => exact ⟨13, f, [49, 46], Nat.le_refl _, hft, rfl, rfl, Lib.hid rfl, Lib.hid rfl, Below.refl _ _⟩
  case round =>
    obtain ⟨n, q, p, hn, HF, rfl, rfl, HL, HP, hbel⟩ := hrel
    by_cases hq : q = 0
    · subst hq
      have HE := Lib.hid (show p = [49, 46] ++ hexR 13 f by have := HP.out; rwa [show hexR n 0 = [] by cases n <;> simp [hexR], List.append_nil] at this)
      have hpl : p.length ≤ 20 := by have := HL.out; omega
      clear HP HF HL hft
      go_wp2_with fail
      refine (decimal_any ((e : Int) - 1023) wr (by omega) (by omega)).mono ?_
      rintro e' w3 ⟨rfl, hb3⟩
      have li := itoa_length (n := ((e : Int) - 1023)) (by omega) (by omega)
      have hB3 := below_on hb3 hbel (Nat.le_refl _)
      clear hb3 hbel
      generalize itoa ((e : Int) - 1023) = T at *
      go_wp2_with fail
      go_ret
      exact ⟨by rw [HE.out]; exact str_eq (by simp), hB3⟩
    · obtain ⟨n, rfl⟩ : ∃ k, n = k + 1 := ⟨n - 1, by cases n with | zero => exact absurd (fits_zero HF.out) hq | succ n => omega⟩
      have hF2 := Lib.hid (fits_next (by omega) HF.out)
      have hP2 := Lib.hid (hexL_eq hq HP.out)
      have hq1 := HF.out.1
      have hsa := shl_and' hq1
      have HL2 := Lib.hid (show (p ++ [hexc (q / 281474976710656)]).length + n = 15 by have := HL.out; rw [List.length_append]; simp only [List.length_singleton]; omega)
      have hqn : ((q : Int) != 0) = true := by rw [bne_iff_ne]; omega
      have b1 : 0 ≤ (q : Int) / 281474976710656 := by omega
      have b2 : (q : Int) / 281474976710656 < 16 := by omega
      have e1 : ((q : Int) / 281474976710656).toNat = q / 281474976710656 := by omega
      have hd16 : q / 281474976710656 < 16 := by omega
      have hpl : p.length ≤ 20 := by have := HL.out; omega
      clear HF HP HL
      have hcc : ∀ x : UInt8, (convert 35 9 (.slice (some ⟨wr.heap.size, 0, none⟩) 1 1)).run Tryd.prog (wr.alloc (.cells #[.int .u8 x.toNat] 5)) = .ok (.string ⟨#[x]⟩) (wr.alloc (.cells #[.int .u8 x.toNat] 5)) :=
        fun x => conv_cells (w := wr.alloc (.cells #[.int .u8 x.toNat] 5)) (N := wr.heap.size) (j := 0) (l := [x]) (hp_new _ _) rfl 1 1 rfl
      have hB2 := below_on (Below.of_alloc wr (.cells #[.int .u8 (hexc (q / 281474976710656)).toNat] 5)) hbel (Nat.le_refl _)
      clear hbel
      go_wp2_with fail
      simp only [hexTab]
      generalize hexc (q / 281474976710656) = x at *
      go_roundw
      case rel => exact ⟨n, q % 281474976710656 * 16, p ++ [x], by omega, hF2, congrArg (Value.int .u64) (by omega), str_v _ _, HL2, hP2, hB2⟩
      case measure => exact str_m hpl


theorem and_sign {b : Nat} (h : b < 18446744073709551616) : bits .and .u64 (b : Int) 9223372036854775808 = if 9223372036854775808 ≤ b then 9223372036854775808 else 0 := by
  have := u64_and_nat b 9223372036854775808 h (by decide)
  have e : b &&& 9223372036854775808 = if 9223372036854775808 ≤ b then 9223372036854775808 else 0 := by
    have e64 : (2 : Nat) ^ 63 = 9223372036854775808 := by decide
    apply Nat.eq_of_testBit_eq
    intro i
    rw [← e64, Nat.testBit_and, Nat.testBit_two_pow]
    by_cases hi : 63 = i
    · subst hi
      by_cases hb : 2 ^ 63 ≤ b
      · rw [if_pos hb, Nat.testBit_two_pow, Nat.testBit_eq_decide_div_mod_eq, decide_eq_true (by omega : b / 2 ^ 63 % 2 = 1)]; rfl
      · rw [if_neg hb, Nat.zero_testBit, Nat.testBit_lt_two_pow (by omega)]; rfl
    · rw [decide_eq_false hi, Bool.and_false]
      split
      · rw [Nat.testBit_two_pow, decide_eq_false hi]
      · rw [Nat.zero_testBit]
  rw [e] at this
  rw [show ((9223372036854775808 : Nat) : Int) = 9223372036854775808 from rfl] at this
  rw [this]
  split <;> rfl
set_option maxRecDepth 100000 in
theorem rt_nan (b : Nat) (w : World) (N : Nat) (hc : canB b = N) (hm : bits .andNot .u64 (N : Int) 9223372036854775808 = 9221120237041090560) : Calls Tryd.prog 32 #[.float .f64 b] w (StrR w [110, 97, 110]) := by
  have HC := Lib.hid hc
  clear hc
  go_enter Tryd.func32, Tryd.ntmps32
  go_wp2_with fail
  refine (rbits_any b w).mono ?_
  rintro e' w1 ⟨rfl, rfl⟩
  rw [HC.out]
  go_wp2_with fail
  all_goals
    go_ret
    exact ⟨rfl, Below.refl _ _⟩
/-- the reference's Text. -/
theorem rftext_any (b : Nat) (w : World) (hb : b < 18446744073709551616) : Calls Tryd.prog 32 #[.float .f64 b] w (StrR w (textF b)) := by
  cases hn : isNaNB b with
  | true =>
    rw [textF_nan hn]
    exact rt_nan b w nanB (if_pos hn) (by decide +kernel)
  | false =>
    have hc : canB b = b := if_neg (by rw [hn]; decide)
    have hm := andNot_sign hb
    have hs := and_sign hb
    have hcut := expB_cut hb
    have ht := textF_num hn
    have hfl := fracB_lt b
    have hxl := expB_lt b
    have hok := expB_ok hn
    have hmf := and52_u64 (v := magB b) (by unfold magB; omega)
    rw [show fracB (magB b) = fracB b by unfold fracB magB; omega] at hmf
    rw [ht]
    unfold signT
    generalize magB b = m at *
    generalize expB b = e at *
    generalize fracB b = f at *
    have hx : (m : Int) / 4503599627370496 = (e : Int) := by omega
    by_cases hsg : 9223372036854775808 ≤ b
    · rw [if_pos hsg] at hs ⊢
      by_cases e1 : e = 2047
      · rw [absT_inf e1]
        exact rt_inf1 b w hc hs (by rw [hm]; omega)
      · by_cases e0 : e = 0
        · by_cases f0 : f = 0
          · rw [absT_zero e0 f0]
            exact rt_zero1 b w hc hs (by rw [hm]; omega)
          · rw [absT_sub e0 f0]
            exact rt_sub1 b m e f w hc hs hm (by omega) hx e0 hmf f0 hfl
        · by_cases f0 : f = 0
          · rw [absT_one e0 e1 f0]
            exact rt_one1 b m e f w hc hs hm (by omega) hx e0 hmf f0 hfl
          · rw [absT_norm e0 e1 f0]
            exact rt_norm1 b m e f w hc hs hm (by omega) hx e0 hmf f0 hfl
    · rw [if_neg hsg] at hs ⊢
      by_cases e1 : e = 2047
      · rw [absT_inf e1]
        exact rt_inf0 b w hc hs (by rw [hm]; omega)
      · by_cases e0 : e = 0
        · by_cases f0 : f = 0
          · rw [absT_zero e0 f0]
            exact rt_zero0 b w hc hs (by rw [hm]; omega)
          · rw [absT_sub e0 f0]
            exact rt_sub0 b m e f w hc hs hm (by omega) hx e0 hmf f0 hfl
        · by_cases f0 : f = 0
          · rw [absT_one e0 e1 f0]
            exact rt_one0 b m e f w hc hs hm (by omega) hx e0 hmf f0 hfl
          · rw [absT_norm e0 e1 f0]
            exact rt_norm0 b m e f w hc hs hm (by omega) hx e0 hmf f0 hfl

end Go.Proofs.YtfdkafmomkkapaaDoor
