/- Walks: the reference's Parse. -/
import Derived.Test.YtfdkafmomkkapaaDoorX1
import Derived.Test.YtfdkafmomkkapaaDoorU4
import Derived.Test.YtfdkafmomkkapaaDoorV7
namespace Go.Proofs.YtfdkafmomkkapaaDoor
open Go.RowKit Go.Lib

/-- a hex digit's number, or -1. -/
def hvI (c : Nat) : Int := match hv c with | some d => (d : Int) | none => -1
theorem hvI_dig {c : Nat} (h : 48 ≤ c ∧ c ≤ 57) : hvI c = (c : Int) - 48 := by unfold hvI hv; rw [if_pos h]; simp only; omega
theorem hvI_let {c : Nat} (h0 : ¬ (48 ≤ c ∧ c ≤ 57)) (h : 97 ≤ c ∧ c ≤ 102) : hvI c = (c : Int) - 97 + 10 := by unfold hvI hv; rw [if_neg h0, if_pos h]; simp only; omega
theorem hvI_no {c : Nat} (h0 : ¬ (48 ≤ c ∧ c ≤ 57)) (h : ¬ (97 ≤ c ∧ c ≤ 102)) : hvI c = -1 := by unfold hvI hv; rw [if_neg h0, if_neg h]
set_option maxRecDepth 100000 in
/-- the reference's hexOf. -/
theorem rhex_any (c : Nat) (w : World) (hc : c < 256) : Calls Tryd.prog 57 #[.int .u8 c] w fun e w' => e = .returned (.int .i64 (hvI c)) ∧ w = w' := by
  by_cases h1 : 48 ≤ c ∧ c ≤ 57
  · rw [hvI_dig h1]
    obtain ⟨h1, h2⟩ := h1
    go_enter Tryd.func57, Tryd.ntmps57
    go_wp2_with fail
    go_ret
    exact ⟨rfl, rfl⟩
  · by_cases h2 : 97 ≤ c ∧ c ≤ 102
    · rw [hvI_let h1 h2]
      obtain ⟨h2, h3⟩ := h2
      have h4 : ¬ c ≤ 57 := by omega
      go_enter Tryd.func57, Tryd.ntmps57
      go_wp2_with fail
      go_ret
      exact ⟨rfl, rfl⟩
    · rw [hvI_no h1 h2]
      go_enter Tryd.func57, Tryd.ntmps57
      go_wp2_with fail
      all_goals first
        | (go_ret; exact ⟨rfl, rfl⟩)
        | (exfalso; omega)

theorem head45 {c : UInt8} (h : (((c.toNat : Nat) : Int) == 45) = true) : c = 45 := by
  apply UInt8.toNat_inj.1
  have := beq_iff_eq.1 h
  show c.toNat = 45
  omega
theorem head45' {c : UInt8} (h : (((c.toNat : Nat) : Int) == 45) = false) : ¬ c = 45 := by
  rintro rfl; exact absurd h (by decide)
theorem dropS (S : ByteArray) (i : Nat) (h : i < S.size) : S.data.toList.drop i = S[i] :: S.data.toList.drop (i + 1) := by
  have h2 : i < S.data.toList.length := by simpa using h
  rw [List.drop_eq_getElem_cons h2]
  rfl
theorem dropS_nil (S : ByteArray) (i : Nat) (h : ¬ i < S.size) : S.data.toList.drop i = [] := by
  apply List.drop_eq_nil_of_le
  have : S.data.toList.length = S.size := by simp
  omega
theorem hv_some {c d : Nat} (h : hv c = some d) : hvI c = (d : Int) := by unfold hvI; rw [h]
theorem hv_none {c : Nat} (h : hv c = none) : hvI c = -1 := by unfold hvI; rw [h]
theorem or_dig {F d m : Nat} (hd : d < 16) (hm : m < 13) (hF : F % 16 ^ (m + 1) = 0) (hF2 : F + 16 ^ (m + 1) ≤ 4503599627370496) :
    bits .or .u64 (F : Int) (IntKind.u64.wrap ((d : Int) * 2 ^ (4 * (m + 1) - 4))) = ((F + d * 16 ^ m : Nat) : Int) := by
  have e : 4 * (m + 1) - 4 = 4 * m := by omega
  rw [e]
  have e2 : (2 : Nat) ^ (4 * m) = 16 ^ m := by rw [Nat.pow_mul]
  have e3 : (d : Int) * 2 ^ (4 * m) = ((d * 16 ^ m : Nat) : Int) := by rw [← e2]; simp
  rw [e3]
  have hp : d * 16 ^ m < 16 ^ (m + 1) := by
    rw [Nat.pow_succ, Nat.mul_comm]
    exact Nat.mul_lt_mul_of_pos_left hd (Nat.pow_pos (by decide))
  have hlt : d * 16 ^ m < 4503599627370496 := by omega
  have hw : IntKind.u64.wrap ((d * 16 ^ m : Nat) : Int) = ((d * 16 ^ m : Nat) : Int) := by
    generalize d * 16 ^ m = q at *
    simp [IntKind.wrap, IntKind.bits, IntKind.signed]; omega
  rw [hw, u64_or_nat _ _ (by omega) (by omega)]
  have : F ||| d * 16 ^ m = F + d * 16 ^ m := by
    have hdm := Nat.div_add_mod F (16 ^ (m + 1))
    rw [hF, Nat.add_zero] at hdm
    have e4 : (16 : Nat) ^ (m + 1) = 2 ^ (4 * (m + 1)) := by rw [Nat.pow_mul]
    rw [e4] at hdm hp
    have := Nat.two_pow_add_eq_or_of_lt hp (F / 2 ^ (4 * (m + 1)))
    rw [hdm] at this
    rw [this]
  rw [this]
theorem or_inf {b0 : Nat} (h : b0 = 0 ∨ b0 = 9223372036854775808) : bits .or .u64 (b0 : Int) 9218868437227405312 = ((b0 + 9218868437227405312 : Nat) : Int) := by
  rcases h with rfl | rfl <;> decide +kernel
theorem can_inf {b0 : Nat} (h : b0 = 0 ∨ b0 = 9223372036854775808) : canB (b0 + 9218868437227405312) = b0 + 9218868437227405312 := by
  rcases h with rfl | rfl <;> decide +kernel
theorem can_zero {b0 : Nat} (h : b0 = 0 ∨ b0 = 9223372036854775808) : canB b0 = b0 := by
  rcases h with rfl | rfl <;> decide +kernel
theorem bytes_of {S : ByteArray} {l : List UInt8} (h : S.data.toList = l) : S = ⟨l.toArray⟩ := by
  cases S with | mk d => cases d with | mk k => exact congrArg (fun x => (⟨⟨x⟩⟩ : ByteArray)) h
theorem or_frac {b0 F : Nat} (h : b0 = 0 ∨ b0 = 9223372036854775808) (hF : F < 4503599627370496) : bits .or .u64 (b0 : Int) (F : Int) = ((b0 + F : Nat) : Int) := by
  rw [u64_or_nat _ _ (by omega) (by omega)]
  rcases h with rfl | rfl
  · simp
  · rw [nat_join63 _ _ (by decide) (by omega)]
theorem or_ex {b0 : Nat} {v : Int} (h : b0 = 0 ∨ b0 = 9223372036854775808) (g1 : -1022 ≤ v) (g2 : v ≤ 1023) : bits .or .u64 (b0 : Int) ((v + 1023) * 4503599627370496) = ((b0 + (v + 1023).toNat * 4503599627370496 : Nat) : Int) := by
  obtain ⟨k, hk⟩ : ∃ k : Nat, v + 1023 = k := ⟨(v + 1023).toNat, by omega⟩
  rw [hk, Int.toNat_natCast, show ((k : Int) * 4503599627370496) = ((k * 4503599627370496 : Nat) : Int) by omega, u64_or_nat _ _ (by omega) (by omega)]
  rcases h with rfl | rfl
  · simp
  · rw [nat_join63 _ _ (by decide) (by omega)]
theorem or_exf {b0 F : Nat} {v : Int} (h : b0 = 0 ∨ b0 = 9223372036854775808) (g1 : -1022 ≤ v) (g2 : v ≤ 1023) (hF : F < 4503599627370496) : bits .or .u64 ((b0 + (v + 1023).toNat * 4503599627370496 : Nat) : Int) (F : Int) = ((b0 + (v + 1023).toNat * 4503599627370496 + F : Nat) : Int) := by
  obtain ⟨k, hk⟩ : ∃ k : Nat, v + 1023 = k := ⟨(v + 1023).toNat, by omega⟩
  rw [hk, Int.toNat_natCast, u64_or_nat _ _ (by omega) (by omega)]
  rcases h with rfl | rfl
  · rw [Nat.zero_add, nat_join52 _ _ (by omega) hF]
  · rw [show 9223372036854775808 + k * 4503599627370496 = (2048 + k) * 4503599627370496 by omega, nat_join52 _ _ (by omega) hF]
theorem refT_no {s : List UInt8} {b0 : Nat} {S : ByteArray} (h1 : S.data.toList ≠ [110, 97, 110]) (h2 : S.data.toList ≠ [105, 110, 102]) (h3 : S.data.toList ≠ [48]) (hl : S.size < 3) : refT s b0 S.data.toList = none := by
  have hz : S.data.toList.length = S.size := by simp
  unfold refT
  rw [if_neg h1, if_neg h2, if_neg h3]
  generalize S.data.toList = l at *
  cases l with
  | nil => rfl
  | cons c r =>
    simp only
    rw [if_pos (Or.inl (by simp only [List.length_cons] at hz; omega))]
theorem refT_rest {s : List UInt8} {b0 : Nat} {S : ByteArray} (h1 : S.data.toList ≠ [110, 97, 110]) (h2 : S.data.toList ≠ [105, 110, 102]) (h3 : S.data.toList ≠ [48]) (hl : 3 ≤ S.size) :
    refT s b0 S.data.toList = if S[0] ≠ 48 ∧ S[0] ≠ 49 then none else refN s b0 (S[0] == 49) (S.data.toList.drop 1) := by
  have hz : S.data.toList.length = S.size := by simp
  have hd := dropS S 0 (by omega)
  rw [List.drop_zero] at hd
  unfold refT
  rw [if_neg h1, if_neg h2, if_neg h3]
  rw [hd] at hz
  rw [hd]
  simp only [Nat.zero_add] at hz ⊢
  by_cases hc : S[0] ≠ 48 ∧ S[0] ≠ 49
  · rw [if_pos (Or.inr hc), if_pos hc]
  · rw [if_neg hc, if_neg (by
      rintro (h | h)
      · simp only [List.length_cons] at hz; omega
      · exact hc h)]
    rfl
theorem ne48 {c : UInt8} (h : c ≠ 48) : (((c.toNat : Nat) : Int) == 48) = false := by
  rw [beq_eq_false_iff_ne]; intro e; apply h; apply UInt8.toNat_inj.1; show c.toNat = 48; omega
theorem refN_at {s : List UInt8} {b0 : Nat} {one : Bool} {S : ByteArray} (h : 1 < S.size) : refN s b0 one (S.data.toList.drop 1) = if S[1] = 46 then refP s b0 one (hexLoop 13 0 (S.data.toList.drop 2)).1 (hexLoop 13 0 (S.data.toList.drop 2)).2 else refP s b0 one 0 (S.data.toList.drop 1) := by
  have hd := dropS S 1 h
  rw [hd]
  rfl
theorem hex_none {S : ByteArray} {n m F : Nat} (h : n < S.size) (hv0 : hv S[n].toNat = none) : hexLoop m F (S.data.toList.drop n) = (F, S.data.toList.drop n) := by
  rw [dropS S n h]
  cases m with
  | zero => rfl
  | succ m => show (match hv S[n].toNat with | some d => _ | none => _) = _; rw [hv0]
theorem hex_end {S : ByteArray} {n m F : Nat} (h : ¬ n < S.size) : hexLoop m F (S.data.toList.drop n) = (F, S.data.toList.drop n) := by
  rw [dropS_nil S n h]
  cases m <;> rfl
theorem hex_step {S : ByteArray} {n m F d : Nat} (h : n < S.size) (hv0 : hv S[n].toNat = some d) : hexLoop (m + 1) F (S.data.toList.drop n) = hexLoop m (F + d * 16 ^ m) (S.data.toList.drop (n + 1)) := by
  rw [dropS S n h]
  show (match hv S[n].toNat with | some d => _ | none => _) = _
  rw [hv0]
theorem fits_dig {F d m : Nat} (hd : d < 16) (h : F % 16 ^ (m + 1) = 0 ∧ F + 16 ^ (m + 1) ≤ 4503599627370496) : (F + d * 16 ^ m) % 16 ^ m = 0 ∧ F + d * 16 ^ m + 16 ^ m ≤ 4503599627370496 := by
  have e : (16 : Nat) ^ (m + 1) = 16 ^ m * 16 := Nat.pow_succ 16 m
  refine ⟨?_, ?_⟩
  · rw [Nat.add_mul_mod_self_right]
    have := Nat.mod_mod_of_dvd F (show 16 ^ m ∣ 16 ^ (m + 1) from ⟨16, e⟩)
    rw [h.1, Nat.zero_mod] at this
    exact this.symm
  · have := Nat.mul_le_mul_right (16 ^ m) (show d + 1 ≤ 16 by omega)
    rw [Nat.add_mul, Nat.one_mul] at this
    have := h.2
    omega
theorem refP_no {s : List UInt8} {b0 F n : Nat} {one : Bool} {S : ByteArray} (h : ¬ n < S.size) : refP s b0 one F (S.data.toList.drop n) = none := by rw [dropS_nil S n h]; rfl
theorem refP_at {s : List UInt8} {b0 F n : Nat} {one : Bool} {S : ByteArray} (h : n < S.size) : refP s b0 one F (S.data.toList.drop n) = if S[n] = 112 then refX s b0 one F (refE (S.data.toList.drop (n + 1))) else none := by rw [dropS S n h]; rfl
theorem refE_no {S : ByteArray} {n : Nat} (h : ¬ n < S.size) : refE (S.data.toList.drop n) = ((decLoop 0 (S.data.toList.drop n)).1 : Int) := by rw [dropS_nil S n h]; rfl
theorem refE_at {S : ByteArray} {n : Nat} (h : n < S.size) : refE (S.data.toList.drop n) = if S[n] = 45 then -((decLoop 0 (S.data.toList.drop (n + 1))).1 : Int) else ((decLoop 0 (S.data.toList.drop n)).1 : Int) := by
  rw [dropS S n h]
  rfl
theorem dec_end {S : ByteArray} {n a : Nat} (h : ¬ n < S.size) : (decLoop a (S.data.toList.drop n)).1 = a := by rw [dropS_nil S n h]; rfl
theorem dec_stop {S : ByteArray} {n a : Nat} (h : n < S.size) (hc : ¬ (48 ≤ S[n].toNat ∧ S[n].toNat ≤ 57 ∧ a < 10000)) : (decLoop a (S.data.toList.drop n)).1 = a := by
  rw [dropS S n h]
  show (if 48 ≤ S[n].toNat ∧ S[n].toNat ≤ 57 ∧ a < 10000 then _ else _ : Nat × List UInt8).1 = a
  rw [if_neg hc]
theorem dec_step {S : ByteArray} {n a : Nat} (h : n < S.size) (hc : 48 ≤ S[n].toNat ∧ S[n].toNat ≤ 57 ∧ a < 10000) : decLoop a (S.data.toList.drop n) = decLoop (10 * a + (S[n].toNat - 48)) (S.data.toList.drop (n + 1)) := by
  rw [dropS S n h]
  show (if 48 ≤ S[n].toNat ∧ S[n].toNat ≤ 57 ∧ a < 10000 then _ else _) = _
  rw [if_pos hc]
theorem byte_is {S : ByteArray} {n k : Nat} (h : n < S.size) (e : S[n] = UInt8.ofNat k) (hk : k < 256) : ((S[n].toNat : Nat) : Int) = k := by rw [e, UInt8.toNat_ofNat']; omega
theorem byte_not {S : ByteArray} {n k : Nat} (h : n < S.size) (e : ¬ S[n] = UInt8.ofNat k) (hk : k < 256) : ¬ ((S[n].toNat : Nat) : Int) = k := by
  intro g; apply e; apply UInt8.toNat_inj.1; rw [UInt8.toNat_ofNat']; omega
theorem neU {c k : UInt8} (h : c ≠ k) : c.toNat ≠ k.toNat := fun e => h (UInt8.toNat_inj.1 e)
/-- what is left of a sequence behind its first statements. -/
def dropC : Nat → Code → Code
  | 0, c => c
  | n + 1, .seq _ b => dropC n b
  | _ + 1, c => c
noncomputable def tail30 : Code := dropC 10 (Tryd.f30.body.getD .skip)
def HexRel (S : ByteArray) (i f k : Value) : Prop := ∃ (n F m : Nat), i = .int .i64 n ∧ f = .int .u64 F ∧ k = .int .i64 (4 * (m : Int) - 4) ∧ m ≤ 13 ∧ 1 ≤ n ∧ n ≤ S.size ∧ Hid (F % 16 ^ m = 0 ∧ F + 16 ^ m ≤ 4503599627370496) ∧ Hid (hexLoop m F (S.data.toList.drop n) = hexLoop 13 0 (S.data.toList.drop 2))
def DecRel (S : ByteArray) (q : Nat) (i e : Value) : Prop := ∃ (j a : Nat), i = .int .i64 j ∧ e = .int .i64 a ∧ j ≤ S.size ∧ a ≤ 100009 ∧ Hid (decLoop a (S.data.toList.drop j) = decLoop 0 (S.data.toList.drop q))
set_option maxRecDepth 1000000 in
set_option maxHeartbeats 4000000 in
theorem rp_tail (s : List UInt8) (hs : s.length ≤ 1000) (S : ByteArray) (hSs : S.size ≤ 1000) (b0 n F : Nat) (one : Bool) (hb0 : b0 = 0 ∨ b0 = 9223372036854775808) (hn1 : 1 ≤ n) (hn : n ≤ S.size) (hF : F < 4503599627370496) (res : Option Nat) (hP : Hid (res = refP s b0 one F (S.data.toList.drop n))) (wc : World) (c1 c9 c10 c11 c12 c13 c14 c15 c16 c17 c18 c19 c20 c21 c22 c23 c24 c25 c26 c27 c28 c29 c30 c31 c32 c33 c34 c35 c36 c37 c38 c39 c40 c41 c42 c43 c44 c45 c46 c47 c48 c49 c50 c51 c52 c53 c54 c55 c56 c57 c58 c59 c60 c61 c62 c63 c64 c65 c66 c67 c68 c69 c70 c71 c72 c73 c74 c75 c76 c77 c78 c79 c80 c81 c82 c83 c84 c85 c86 c87 c88 c89 c90 c91 c92 c93 c94 c95 c96 c97 c98 c99 c100 c101 c102 c103 c104 c105 c106 c107 c108 c109 c110 c111 c112 c113 c114 c115 c116 c117 c118 c119 c120 c121 c122 c123 c124 c125 c126 c127 c128 c129 c130 c131 c132 c133 c134 c135 c136 c137 c138 c139 c140 c141 c142 c143 c144 c145 c146 c147 c148 c149 c150 c151 c152 c153 c154 c155 c156 c157 c158 c159 c160 c161 c162 c163 c164 c165 c166 c167 c168 : Value) :
    Code.wp Tryd.prog tail30 (bodyPost Tryd.prog Tryd.f30 (ParF wc res)) ⟨#[.string ⟨s.toArray⟩, c1, .float .f64 0, .int .i64 0, .string S, .int .u64 (b0 : Int), .bool one, .int .i64 (n : Int), .int .u64 (F : Int), c9, c10, c11, c12, c13, c14, c15, c16, c17, c18, c19, c20, c21, c22, c23, c24, c25, c26, c27, c28, c29, c30, c31, c32, c33, c34, c35, c36, c37, c38, c39, c40, c41, c42, c43, c44, c45, c46, c47, c48, c49, c50, c51, c52, c53, c54, c55, c56, c57, c58, c59, c60, c61, c62, c63, c64, c65, c66, c67, c68, c69, c70, c71, c72, c73, c74, c75, c76, c77, c78, c79, c80, c81, c82, c83, c84, c85, c86, c87, c88, c89, c90, c91, c92, c93, c94, c95, c96, c97, c98, c99, c100, c101, c102, c103, c104, c105, c106, c107, c108, c109, c110, c111, c112, c113, c114, c115, c116, c117, c118, c119, c120, c121, c122, c123, c124, c125, c126, c127, c128, c129, c130, c131, c132, c133, c134, c135, c136, c137, c138, c139, c140, c141, c142, c143, c144, c145, c146, c147, c148, c149, c150, c151, c152, c153, c154, c155, c156, c157, c158, c159, c160, c161, c162, c163, c164, c165, c166, c167, c168], []⟩ wc := by
  conv => arg 2; whnf
  by_cases p1 : n < S.size
  · have hP2 := Lib.hid (hP.out.trans (refP_at p1))
    clear hP
    by_cases p2 : S[n] = 112
    · have k2 : ((S[n].toNat : Nat) : Int) = 112 := byte_is (k := 112) p1 p2 (by decide)
      have hP3 := Lib.hid (hP2.out.trans (if_pos p2))
      clear hP2 p2
      go_upto_region 30 with fail
      go_cut [10] (fun g wx => ∃ neg : Bool, g = .bool neg ∧ Hid ((neg = true → n + 1 < S.size) ∧ refE (S.data.toList.drop (n + 1)) = if neg then -((decLoop 0 (S.data.toList.drop (n + 2))).1 : Int) else ((decLoop 0 (S.data.toList.drop (n + 1))).1 : Int)) ∧ wx = wc)
      case first =>
        by_cases p3 : n + 1 < S.size
        · have hE := Lib.hid (refE_at p3)
          by_cases p4 : S[n + 1] = 45
          · have k3 : ((S[n + 1].toNat : Nat) : Int) = 45 := byte_is (k := 45) p3 p4 (by decide)
            have hE2 := Lib.hid (hE.out.trans (if_pos p4))
            clear hE p4
            go_wp2_with fail
            go_meet
            exact ⟨true, congrArg Value.bool (by first | rfl | exact beq_iff_eq.2 k3), Lib.hid ⟨fun _ => p3, hE2.out⟩, rfl⟩
          · have k3 : ¬ ((S[n + 1].toNat : Nat) : Int) = 45 := byte_not (k := 45) p3 p4 (by decide)
            have hE2 := Lib.hid (hE.out.trans (if_neg p4))
            clear hE p4
            go_wp2_with fail
            go_meet
            exact ⟨false, congrArg Value.bool (by first | rfl | exact beq_eq_false_iff_ne.2 k3 | exact decide_eq_false (by omega)), Lib.hid ⟨(fun h => Bool.noConfusion h), hE2.out⟩, rfl⟩
        · have hE2 := Lib.hid (refE_no p3)
          go_wp2_with fail
          go_meet
          exact ⟨false, congrArg Value.bool (by first | rfl | exact beq_eq_false_iff_ne.2 k3 | exact decide_eq_false (by omega)), Lib.hid ⟨(fun h => Bool.noConfusion h), hE2.out⟩, rfl⟩
      case rest =>
        obtain ⟨neg, rfl, hE, rfl⟩ := hcut
        go_upto_if 111 with fail
        go_cut [7] (fun i wx => ∃ q : Nat, i = .int .i64 q ∧ q ≤ S.size ∧ Hid (refE (S.data.toList.drop (n + 1)) = if neg then -((decLoop 0 (S.data.toList.drop q)).1 : Int) else ((decLoop 0 (S.data.toList.drop q)).1 : Int)) ∧ wx = wc)
        case first =>
          cases neg
          · have h1 := Lib.hid hE.out.2
            clear hE
            go_wp2_with fail
            go_meet
            exact ⟨n + 1, by go_num, by omega, h1, rfl⟩
          · have h0 := hE.out.1 rfl
            have h1 := Lib.hid hE.out.2
            clear hE
            go_wp2_with fail
            go_meet
            exact ⟨n + 2, by go_num, by omega, h1, rfl⟩
        case rest =>
          obtain ⟨q, rfl, hq, hE2, rfl⟩ := hcut
          clear hE
          go_upto_block 3 with fail
          go_cut [11] (fun e wx => ∃ a : Nat, e = .int .i64 a ∧ a ≤ 100009 ∧ Hid ((decLoop 0 (S.data.toList.drop q)).1 = a) ∧ wx = wc)
          case first =>
            go_wp2_with fail
            go_loop [7, 11] (DecRel S q) (fun i _ => S.size - (intOf i).toNat)
            case atStart => exact ⟨q, 0, rfl, rfl, hq, by omega, Lib.hid rfl⟩
            case round =>
              obtain ⟨j, a, rfl, rfl, hj, ha, hD⟩ := hrel
              by_cases hlt : j < S.size
              · have hb : S[j].toNat < 256 := S[j].toNat_lt
                by_cases hd : 48 ≤ S[j].toNat ∧ S[j].toNat ≤ 57 ∧ a < 10000
                · have hD2 := Lib.hid ((dec_step hlt hd).symm.trans hD.out)
                  obtain ⟨d1, d2, d3⟩ := hd
                  clear hD
                  go_wp2_with fail
                  go_round
                  case rel => first | exact ⟨j + 1, 10 * a + (S[j].toNat - 48), by go_num, by go_num, by omega, by omega, hD2⟩ | ((repeat apply Exists.intro); exact ⟨⟨j + 1, 10 * a + (S[j].toNat - 48), by go_num, by go_num, by omega, by omega, hD2⟩, rfl⟩)
                  case measure => simp [intOf]; omega
                · have hfin := Lib.hid ((congrArg Prod.fst hD.out).symm.trans (dec_stop hlt hd))
                  clear hD
                  by_cases e1 : S[j].toNat < 48
                  · go_wp2_with fail
                    all_goals
                      go_meet
                      exact ⟨a, rfl, ha, hfin, rfl⟩
                  · by_cases e2 : 57 < S[j].toNat
                    · go_wp2_with fail
                      all_goals
                        go_meet
                        exact ⟨a, rfl, ha, hfin, rfl⟩
                    · have e3 : 10000 ≤ a := by omega
                      go_wp2_with fail
                      all_goals
                        go_meet
                        exact ⟨a, rfl, ha, hfin, rfl⟩
              · have hfin := Lib.hid ((congrArg Prod.fst hD.out).symm.trans (dec_end hlt))
                clear hD
                go_wp2_with fail
                go_meet
                exact ⟨a, rfl, ha, hfin, rfl⟩
          case rest =>
            obtain ⟨a, rfl, ha, hA, rfl⟩ := hcut
            go_upto_if 144 with fail
            go_cut [11] (fun e wx => ∃ v : Int, e = .int .i64 v ∧ -100009 ≤ v ∧ v ≤ 100009 ∧ Hid (refE (S.data.toList.drop (n + 1)) = v) ∧ wx = wc)
            case first =>
              have hE3 := Lib.hid (hE2.out)
              rw [hA.out] at hE3
              clear hE2
              cases neg
              · have h1 := Lib.hid (show refE (S.data.toList.drop (n + 1)) = (a : Int) from hE3.out)
                clear hE3
                go_wp2_with fail
                go_meet
                exact ⟨a, rfl, by omega, by omega, h1, rfl⟩
              · have h1 := Lib.hid (show refE (S.data.toList.drop (n + 1)) = -(a : Int) from hE3.out)
                clear hE3
                go_wp2_with fail
                go_meet
                exact ⟨-(a : Int), rfl, by omega, by omega, h1, rfl⟩
            case rest =>
              obtain ⟨v, rfl, hv1, hv2, hV, rfl⟩ := hcut
              have hX := Lib.hid (show res = refX s b0 one F v by rw [hP3.out, hV.out])
              clear hP3 hV hE2 hA
              by_cases g1 : -1022 ≤ v ∧ v ≤ 1023
              · obtain ⟨g1, g2⟩ := g1
                go_upto_if 153 with fail
                go_cut [5] (fun b wx => ∃ B : Nat, b = .int .u64 B ∧ Hid (b0 + (if one then (v + 1023).toNat * 4503599627370496 else 0) = B) ∧ B ≤ 18442240474082181120 ∧ Hid (bits .or .u64 (B : Int) (F : Int) = ((B + F : Nat) : Int)) ∧ wx = wc)
                case first =>
                  cases one
                  · go_wp2_with fail
                    go_meet
                    exact ⟨b0, rfl, Lib.hid (by simp), by omega, Lib.hid (or_frac hb0 hF), rfl⟩
                  · go_wp2_with fail
                    have hoe := or_ex hb0 g1 g2
                    rw [hoe]
                    go_meet
                    exact ⟨b0 + (v + 1023).toNat * 4503599627370496, rfl, Lib.hid (by simp), by omega, Lib.hid (or_exf hb0 g1 g2 hF), rfl⟩
                case rest =>
                  obtain ⟨B, rfl, hB, hBl, hBo, rfl⟩ := hcut
                  have hlt : B + F < 18446744073709551616 := by omega
                  have hX2 := Lib.hid (show res = if textF (canB (B + F)) = s then some (canB (B + F)) else none by rw [hX.out, ← hB.out]; exact if_neg (by omega))
                  have hcl := (canB_can hlt).1
                  clear hX hB
                  go_wp2_with fail
                  rw [hBo.out]
                  refine (rfrom_any _ wc hlt).mono ?_
                  rintro e w1 ⟨rfl, rfl⟩
                  go_wp2_with fail
                  refine (rftext_any _ wc hcl).mono ?_
                  rintro e w2 ⟨rfl, hb2⟩
                  by_cases ht : textF (canB (B + F)) = s
                  · have hr := Lib.hid (hX2.out.trans (if_pos ht))
                    generalize canB (B + F) = x at *
                    generalize textF x = t at *
                    subst ht
                    go_wp2_with fail
                    go_ret2
                    exact parF_some hr.out hb2 rfl
                  · have hr := Lib.hid (hX2.out.trans (if_neg ht))
                    generalize canB (B + F) = x at *
                    generalize textF x = t at *
                    have ht2 : (t == s) = false := by simpa using ht
                    go_wp2_with fail
                    go_ret2
                    exact parF_none hr.out hb2 rfl
              · have hr := Lib.hid (show res = none by rw [hX.out]; exact if_pos (by omega))
                clear hX
                by_cases g2 : v < -1022
                · go_wp2_with fail
                  all_goals
                    go_ret2
                    exact parF_none hr.out (Below.refl _ _) rfl
                · have g3 : 1023 < v := by omega
                  go_wp2_with fail
                  all_goals
                    go_ret2
                    exact parF_none hr.out (Below.refl _ _) rfl
    · have k2 : (((S[n].toNat : Nat) : Int) != 112) = true := bne_iff_ne.2 (byte_not (k := 112) p1 p2 (by decide))
      have hr := Lib.hid (hP2.out.trans (if_neg p2))
      clear hP2 p2
      go_wp2_with fail
      go_ret2
      exact parF_none hr.out (Below.refl _ _) rfl
  · have hr := Lib.hid (hP.out.trans (refP_no p1))
    clear hP
    go_wp2_with fail
    go_ret2
    exact parF_none hr.out (Below.refl _ _) rfl
set_option maxRecDepth 100000 in
set_option maxHeartbeats 4000000 in
theorem rp_walk (s : List UInt8) (w : World) (hs : s.length ≤ 1000) : Calls Tryd.prog 30 #[.string ⟨s.toArray⟩] w (ParF w (refR s)) := by
  by_cases hne : s = []
  · subst hne
    go_enter Tryd.func30, Tryd.ntmps30
    go_wp2_with fail
    go_ret2
    exact parF_none rfl (Below.refl _ _) rfl
  · have hpos : 0 < s.length := List.length_pos_iff.2 hne
    go_enter Tryd.func30, Tryd.ntmps30
    go_upto_if 21 with fail
    go_cut [4, 5] (fun t b wx => ∃ (S : ByteArray) (b0 : Nat), Hid (refR s = refT s b0 S.data.toList) ∧ (b0 = 0 ∨ b0 = 9223372036854775808) ∧ S.size ≤ s.length ∧ t = .string S ∧ b = .int .u64 b0 ∧ wx = w)
    case first =>
      obtain ⟨c, t, rfl⟩ : ∃ c t, s = c :: t := by cases s with | nil => exact absurd rfl hne | cons c t => exact ⟨c, t, rfl⟩
      have hx : (⟨(c :: t).toArray⟩ : ByteArray).extract 1 (t.length + 1) = ⟨t.toArray⟩ := by
        apply ByteArray.ext; simp
      go_wp2_with fail
      · go_meet
        have hc : c = 45 := head45 (by assumption)
        exact ⟨⟨t.toArray⟩, 9223372036854775808, Lib.hid (if_pos hc), Or.inr rfl, by show t.toArray.size ≤ _; simp, rfl, rfl, rfl⟩
      · go_meet
        have hc : ¬ c = 45 := head45' (by assumption)
        exact ⟨⟨(c :: t).toArray⟩, 0, Lib.hid (if_neg hc), Or.inl rfl, by show (c :: t).toArray.size ≤ _; simp, rfl, rfl, rfl⟩
    case rest =>
      obtain ⟨S, b0, hR, hb0, hSl, rfl, rfl, rfl⟩ := hcut
      have hSs : S.size ≤ 1000 := Nat.le_trans hSl hs
      generalize refR s = res at *
      by_cases h1 : S.data.toList = [110, 97, 110]
      · have hS : S = ⟨#[110, 97, 110]⟩ := bytes_of h1
        subst hS
        rcases hb0 with rfl | rfl
        · have hr := Lib.hid (show res = some nanB from hR.out)
          clear hR
          go_wp2_with fail
          refine (rfrom_any 9221120237041090560 wc (by decide)).mono ?_
          rintro e w1 ⟨rfl, rfl⟩
          go_wp2_with fail
          go_ret2
          exact parF_some hr.out (Below.refl _ _) rfl
        · have hr := Lib.hid (show res = none from hR.out)
          clear hR
          go_wp2_with fail
          go_ret2
          exact parF_none hr.out (Below.refl _ _) rfl
      · by_cases h2 : S.data.toList = [105, 110, 102]
        · have hS : S = ⟨#[105, 110, 102]⟩ := bytes_of h2
          subst hS
          have hr := Lib.hid (show res = some (b0 + 9218868437227405312) from hR.out.trans refT_inf)
          have ho := Lib.hid (or_inf hb0)
          have hc := Lib.hid (can_inf hb0)
          have hlt : b0 + 9218868437227405312 < 18446744073709551616 := by omega
          clear hR hb0 h1 h2
          go_wp2_with fail
          rw [ho.out]
          refine (rfrom_any _ wc hlt).mono ?_
          rintro e w1 ⟨rfl, rfl⟩
          rw [hc.out]
          go_wp2_with fail
          go_ret2
          exact parF_some hr.out (Below.refl _ _) rfl
        · by_cases h3 : S.data.toList = [48]
          · have hS : S = ⟨#[48]⟩ := bytes_of h3
            subst hS
            have hr := Lib.hid (show res = some b0 from hR.out.trans refT_zero)
            have hc := Lib.hid (can_zero hb0)
            have hlt : b0 < 18446744073709551616 := by omega
            clear hR hb0 h1 h2 h3
            go_wp2_with fail
            refine (rfrom_any _ wc hlt).mono ?_
            rintro e w1 ⟨rfl, rfl⟩
            rw [hc.out]
            go_wp2_with fail
            go_ret2
            exact parF_some hr.out (Below.refl _ _) rfl
          · have e1 : (S.toList == [110, 97, 110]) = false := by rw [toList_data]; simpa using h1
            have e2 : (S.toList == [105, 110, 102]) = false := by rw [toList_data]; simpa using h2
            have e3 : (S.toList == [48]) = false := by rw [toList_data]; simpa using h3
            by_cases h4 : S.size < 3
            · have hr := Lib.hid (hR.out.trans (refT_no h1 h2 h3 h4))
              clear hR h1 h2 h3
              go_wp2_with fail
              go_ret2
              exact parF_none hr.out (Below.refl _ _) rfl
            · have hR2 := Lib.hid (hR.out.trans (refT_rest h1 h2 h3 (by omega)))
              have hSz := h4
              clear hR h1 h2 h3
              go_upto_region 15 with fail
              go_cut [51] (fun g wx => (∃ x : Bool, g = .bool x ∧ Hid (res = if x then none else refN s b0 (S[0] == 49) (S.data.toList.drop 1))) ∧ wx = wc)
              case first =>
                by_cases h5 : S[0] ≠ 48 ∧ S[0] ≠ 49
                · have hr := Lib.hid (hR2.out.trans (if_pos h5))
                  have k1 : ¬ ((S[0].toNat : Nat) : Int) = 48 := by intro e; exact h5.1 (UInt8.toNat_inj.1 (by show S[0].toNat = 48; omega))
                  have k2 : ¬ ((S[0].toNat : Nat) : Int) = 49 := by intro e; exact h5.2 (UInt8.toNat_inj.1 (by show S[0].toNat = 49; omega))
                  clear hR2 h5
                  go_wp2_with fail
                  go_meet
                  exact ⟨⟨true, congrArg Value.bool (by rw [bne_iff_ne.2 k1, bne_iff_ne.2 k2]; simp), Lib.hid hr.out⟩, rfl⟩
                · have hR3 := Lib.hid (hR2.out.trans (if_neg h5))
                  by_cases h6 : S[0] = 48
                  · have k1 : ((S[0].toNat : Nat) : Int) = 48 := by rw [h6]; rfl
                    clear hR2 h5 h6
                    go_wp2_with fail
                    go_meet
                    exact ⟨⟨false, congrArg Value.bool (decide_eq_false (by omega)), Lib.hid hR3.out⟩, rfl⟩
                  · have h7 : S[0] = 49 := by
                      apply Classical.byContradiction; intro h8; exact h5 ⟨h6, h8⟩
                    have k1 : ((S[0].toNat : Nat) : Int) = 49 := by rw [h7]; rfl
                    clear hR2 h5 h6 h7
                    go_wp2_with fail
                    go_meet
                    exact ⟨⟨false, congrArg Value.bool (decide_eq_false (by omega)), Lib.hid hR3.out⟩, rfl⟩
              case rest =>
                obtain ⟨⟨x, rfl, hR4⟩, rfl⟩ := hcut
                clear hR2
                cases x
                case true =>
                  go_wp2_with fail
                  go_ret2
                  exact parF_none hR4.out (Below.refl _ _) rfl
                case false =>
                  have hR5 := Lib.hid (show res = refN s b0 (S[0] == 49) (S.data.toList.drop 1) from hR4.out)
                  clear hR4
                  have hS1 : 1 < S.size := by omega
                  have hR6 := Lib.hid (hR5.out.trans (refN_at hS1))
                  clear hR5
                  go_upto_if 58 with fail
                  go_cut [6, 7, 8] (fun g i f wx => ∃ (one : Bool) (n F : Nat), g = .bool one ∧ i = .int .i64 n ∧ f = .int .u64 F ∧ 1 ≤ n ∧ n ≤ S.size ∧ F < 4503599627370496 ∧ wx = wc ∧ Hid (res = refP s b0 one F (S.data.toList.drop n)))
                  case first =>
                    have hone : (((S[0].toNat : Nat) : Int) == 49) = (S[0] == 49) := by
                      by_cases g : S[0] = 49
                      · rw [g]; rfl
                      · rw [beq_eq_false_iff_ne.2 g, beq_eq_false_iff_ne]; intro e; exact g (UInt8.toNat_inj.1 (by show S[0].toNat = 49; omega))
                    have HO := Lib.hid hone
                    clear hone
                    by_cases hd : S[1] = 46
                    · have hR7 := Lib.hid (hR6.out.trans (if_pos hd))
                      have k1 : ((S[1].toNat : Nat) : Int) = 46 := byte_is (k := 46) hS1 hd (by decide)
                      clear hR6 hd
                      go_wp2_with fail
                      rename_i hx1
                      clear hx1 k1
                      go_loop [7, 8, 9] (HexRel S) (fun i _ _ => S.size - (intOf i).toNat)
                      case atStart => exact ⟨2, 0, 13, rfl, rfl, rfl, by omega, by omega, by omega, Lib.hid ⟨by decide, by decide⟩, Lib.hid rfl⟩
                      case round =>
                        obtain ⟨n, F, m, rfl, rfl, rfl, hm, hn1, hn, hF, hH⟩ := hrel
                        have hF2 : F < 4503599627370496 := by have := hF.out.2; have h16 : 0 < 16 ^ m := Nat.pow_pos (by decide); omega
                        by_cases hlt : n < S.size
                        · have hb : S[n].toNat < 256 := S[n].toNat_lt
                          cases hv' : hv S[n].toNat with
                          | none =>
                            have hq := hv_none hv'
                            have hfin := Lib.hid ((hH.out.symm.trans (hex_none hlt hv')))
                            have hR8 := Lib.hid (show res = refP s b0 (S[0] == 49) F (S.data.toList.drop n) by rw [hR7.out, hfin.out])
                            clear hR7 hH hfin hF hv'
                            go_wp2_with fail
                            refine (rhex_any _ wc hb).mono ?_
                            rintro e w1 ⟨rfl, rfl⟩
                            rw [hq]
                            clear hq
                            go_wp2_with fail
                            go_meet
                            exact ⟨S[0] == 49, n, F, congrArg Value.bool HO.out, rfl, rfl, hn1, hn, hF2, rfl, hR8⟩
                          | some d =>
                            have hq := hv_some hv'
                            have hd16 := hv_lt hv'
                            by_cases hm0 : m = 0
                            · subst hm0
                              have hfin := Lib.hid (hH.out.symm.trans (show hexLoop 0 F (S.data.toList.drop n) = (F, S.data.toList.drop n) from by cases S.data.toList.drop n <;> rfl))
                              have hR8 := Lib.hid (show res = refP s b0 (S[0] == 49) F (S.data.toList.drop n) by rw [hR7.out, hfin.out])
                              clear hR7 hH hfin hF hv'
                              go_wp2_with fail
                              refine (rhex_any _ wc hb).mono ?_
                              rintro e w1 ⟨rfl, rfl⟩
                              rw [hq]
                              clear hq
                              go_wp2_with fail
                              go_meet
                              exact ⟨S[0] == 49, n, F, congrArg Value.bool HO.out, rfl, rfl, hn1, hn, hF2, rfl, hR8⟩
                            · obtain ⟨m, rfl⟩ : ∃ k, m = k + 1 := ⟨m - 1, by omega⟩
                              have hH2 := Lib.hid ((hex_step hlt hv').symm.trans hH.out)
                              have hor := Lib.hid (or_dig hd16 (by omega) hF.out.1 hF.out.2)
                              have hF3 := Lib.hid (fits_dig hd16 hF.out)
                              clear hR7 hH hF hv'
                              go_wp2_with fail
                              refine (rhex_any _ wc hb).mono ?_
                              rintro e w1 ⟨rfl, rfl⟩
                              rw [hq]
                              go_wp2_with fail
                              refine (rhex_any _ wc hb).mono ?_
                              rintro e w1 ⟨rfl, rfl⟩
                              rw [hq]
                              clear hq
                              go_wp2_with fail
                              go_round
                              case rel => exact ⟨n + 1, F + d * 16 ^ m, m, by go_num, congrArg (Value.int .u64) hor.out, congrArg (Value.int .i64) (by omega), by omega, by omega, by omega, hF3, hH2⟩
                              case measure => simp [intOf]; omega
                        · have hfin := Lib.hid ((hH.out.symm.trans (hex_end hlt)))
                          have hR8 := Lib.hid (show res = refP s b0 (S[0] == 49) F (S.data.toList.drop n) by rw [hR7.out, hfin.out])
                          clear hR7 hH hfin hF
                          go_wp2_with fail
                          go_meet
                          exact ⟨S[0] == 49, n, F, congrArg Value.bool HO.out, rfl, rfl, hn1, hn, hF2, rfl, hR8⟩
                    · have hR7 := Lib.hid (hR6.out.trans (if_neg hd))
                      have k1 : ¬ ((S[1].toNat : Nat) : Int) = 46 := byte_not (k := 46) hS1 hd (by decide)
                      clear hR6 hd
                      go_wp2_with fail
                      go_meet
                      exact ⟨S[0] == 49, 1, 0, congrArg Value.bool HO.out, rfl, rfl, by omega, by omega, by omega, rfl, hR7⟩
                  case rest =>
                    obtain ⟨one, n, F, rfl, rfl, rfl, hn1, hn, hF, rfl, hP⟩ := hcut
                    (first | apply (by assumption : ∀ a w', Code.wp Tryd.prog _ _ a w' → _) | skip)
                    exact rp_tail s hs S hSs b0 n F one hb0 hn1 hn hF res hP wc _ _ _ _ _ _ _ _ _ _ _ _ _ _ _ _ _ _ _ _ _ _ _ _ _ _ _ _ _ _ _ _ _ _ _ _ _ _ _ _ _ _ _ _ _ _ _ _ _ _ _ _ _ _ _ _ _ _ _ _ _ _ _ _ _ _ _ _ _ _ _ _ _ _ _ _ _ _ _ _ _ _ _ _ _ _ _ _ _ _ _ _ _ _ _ _ _ _ _ _ _ _ _ _ _ _ _ _ _ _ _ _ _ _ _ _ _ _ _ _ _ _ _ _ _ _ _ _ _ _ _ _ _ _ _ _ _ _ _ _ _ _ _ _ _ _ _ _ _ _ _ _ _ _ _ _ _ _ _ _ _
end Go.Proofs.YtfdkafmomkkapaaDoor
