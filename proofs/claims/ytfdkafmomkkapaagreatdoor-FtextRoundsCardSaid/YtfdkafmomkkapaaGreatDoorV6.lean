/- Walks: ftext.bits. -/
import Derived.Test.YtfdkafmomkkapaaGreatDoorV5
import Derived.Test.YtfdkafmomkkapaaGreatDoorG1
namespace Go.Proofs.YtfdkafmomkkapaaGreatDoor
open Go.RowKit Go.Lib

def finB (O : List UInt8) (e : Int) (f : Nat) : Nat × Bool :=
  if O = [48] ∧ e = -1022 then (f, true) else ((e + 1023).toNat * 4503599627370496 + f, decide (O = [49]))
def bitsC (O R X : List UInt8) (ok : Bool) : Nat × Bool :=
  match atoiIn X with
  | some e => if ok = true ∧ R.length ≤ 13 ∧ -1022 ≤ e ∧ e ≤ 1023 then
      if R = [] then finB O e 0 else match par16 0 (R ++ List.replicate (13 - R.length) 48) with
        | some f => finB O e f
        | none => (0, false)
    else (0, false)
  | none => (0, false)
def bitsL (s : List UInt8) : Nat × Bool :=
  if s = [110, 97, 110] then (nanB, true) else if s = [105, 110, 102] then (infB, true) else if s = [48] then (0, true)
  else bitsC (Lib.cut (Lib.cut s [112]).1 [46]).1 (Lib.cut (Lib.cut s [112]).1 [46]).2.1 (Lib.cut s [112]).2.1 (Lib.cut s [112]).2.2
def BitR (w : World) (r : Nat × Bool) (e : Ending) (w' : World) : Prop :=
  Below w.heap.size w w' ∧ e = .returned (.tuple #[.int .u64 r.1, .bool r.2])

theorem cut_len (s sep : List UInt8) : (Lib.cut s sep).1.length ≤ s.length ∧ (Lib.cut s sep).2.1.length ≤ s.length := by
  unfold Lib.cut
  split
  · simp only [List.length_take, List.length_drop]; omega
  · simp
theorem bitsL_cut {s : List UInt8} (h1 : (s == [110, 97, 110]) = false) (h2 : (s == [105, 110, 102]) = false) (h3 : (s == [48]) = false) :
    bitsL s = bitsC (Lib.cut (Lib.cut s [112]).1 [46]).1 (Lib.cut (Lib.cut s [112]).1 [46]).2.1 (Lib.cut s [112]).2.1 (Lib.cut s [112]).2.2 := by
  unfold bitsL
  rw [if_neg (by simpa using h1), if_neg (by simpa using h2), if_neg (by simpa using h3)]
theorem bitR_of {w w' : World} {r : Nat × Bool} {n : Nat} {b : Bool} {e : Ending} (hb : Below w.heap.size w w') (he : e = .returned (.tuple #[.int .u64 n, .bool b])) (h : r = (n, b)) : BitR w r e w' := by
  subst h; exact ⟨hb, he⟩

theorem bitR_or {w w' : World} {r : Nat × Bool} {m : Int} {n : Nat} {b : Bool} {e : Ending} (hb : Below w.heap.size w w') (hm : m = n) (he : e = .returned (.tuple #[.int .u64 m, .bool b])) (h : r = (n, b)) : BitR w r e w' := by
  subst h; subst hm; exact ⟨hb, he⟩
theorem bitsC_no {O R X : List UInt8} {ok : Bool} (h : ok = false) : bitsC O R X ok = (0, false) := by
  subst h; unfold bitsC; split <;> simp
theorem bitsC_long {O R X : List UInt8} {ok : Bool} (h : 13 < R.length) : bitsC O R X ok = (0, false) := by
  unfold bitsC; split
  · rw [if_neg (by omega)]
  · rfl
theorem bitsC_far {O R X : List UInt8} {v : Int} {ok : Bool} (hv : Lib.atoiAll X = .ok v) (h : ¬ (-1022 ≤ v ∧ v ≤ 1023)) : bitsC O R X ok = (0, false) := by
  unfold bitsC
  by_cases g : -1099511627776 ≤ v ∧ v ≤ 1099511627776
  · rw [atoiIn_ok hv g]; exact if_neg (by omega)
  · rw [atoiIn_far hv g]
theorem bitsC_nil {O R X : List UInt8} {v : Int} (hv : atoiIn X = some v) (h : -1022 ≤ v ∧ v ≤ 1023) (hR : R = []) : bitsC O R X true = finB O v 0 := by
  subst hR
  unfold bitsC; rw [hv]; simp only; rw [if_pos ⟨trivial, by simp, h⟩, if_pos trivial]
theorem bitsC_some {O R X : List UInt8} {v : Int} (hv : atoiIn X = some v) (h : -1022 ≤ v ∧ v ≤ 1023) (hR : R ≠ []) (hl : R.length ≤ 13) :
    bitsC O R X true = match par16 0 (R ++ List.replicate (13 - R.length) 48) with | some f => finB O v f | none => (0, false) := by
  unfold bitsC; rw [hv]; simp only; rw [if_pos ⟨trivial, hl, h⟩, if_neg hR]
theorem below_drewN' {w w' : World} {n : Nat} (h : Below (w.drewN n).heap.size (w.drewN n) w') : Below w.heap.size w w' := by
  have h0 : Below w.heap.size w (w.drewN n) := below_drewN (Below.refl _ _) n
  exact below_on h h0 (Nat.le_refl _)
theorem par16_lt (l : List UInt8) (n v : Nat) (h : par16 n l = some v) : v < (n + 1) * 16 ^ l.length := by
  induction l generalizing n with
  | nil => simp only [par16] at h; injection h with h; subst h; simp
  | cons c l ih =>
    simp only [par16] at h
    cases hc : val16 c.toNat with
    | none => rw [hc] at h; cases h
    | some d =>
      rw [hc] at h
      have h1 := ih _ h
      have h2 := val16_lt hc
      have h3 : (16 * n + d + 1) * 16 ^ l.length ≤ ((n + 1) * 16) * 16 ^ l.length := Nat.mul_le_mul_right _ (by omega)
      rw [List.length_cons, Nat.pow_succ, Nat.mul_comm (16 ^ l.length) 16, ← Nat.mul_assoc]
      omega
theorem or_exp {v : Int} {f : Nat} (h : -1022 ≤ v ∧ v ≤ 1023) (hf : f < 4503599627370496) :
    bits .or .u64 ((v + 1023) * 4503599627370496) (f : Int) = (((v + 1023).toNat * 4503599627370496 + f : Nat) : Int) := by
  obtain ⟨k, hk⟩ : ∃ k : Nat, v + 1023 = k := ⟨(v + 1023).toNat, by omega⟩
  rw [hk]
  have hk2 : k ≤ 2046 := by omega
  have := u64_or_nat (k * 4503599627370496) f (by omega) (by omega)
  rw [Int.toNat_natCast]
  rw [show ((k : Int) * 4503599627370496) = ((k * 4503599627370496 : Nat) : Int) by omega, this]
  rw [nat_join52 _ _ (by omega) hf]
theorem or_exp0 {v : Int} (h : -1022 ≤ v ∧ v ≤ 1023) :
    bits .or .u64 ((v + 1023) * 4503599627370496) 0 = (((v + 1023).toNat * 4503599627370496 + 0 : Nat) : Int) := or_exp (f := 0) h (by decide)
theorem finB_sub {O : List UInt8} {v : Int} {f : Nat} (hO : O = [48]) (hv : (v == -1022) = true) : finB O v f = (f, true) := if_pos ⟨hO, by simpa using hv⟩
theorem finB_far {O : List UInt8} {v : Int} {f : Nat} (hO : O = [48]) (hv : (v == -1022) = false) : finB O v f = ((v + 1023).toNat * 4503599627370496 + f, false) := by
  unfold finB; rw [if_neg (fun h => by rw [h.2] at hv; exact absurd hv (by decide)), hO]; rfl
theorem finB_one {O : List UInt8} {v : Int} {f : Nat} (hO : ¬ O = [48]) : finB O v f = ((v + 1023).toNat * 4503599627370496 + f, O == [49]) := by
  unfold finB; rw [if_neg (by rintro ⟨h, _⟩; exact hO h)]; congr 1; by_cases h : O = [49]
  · subst h; rfl
  · rw [decide_eq_false h]; symm; simpa using h

set_option maxRecDepth 100000 in
set_option maxHeartbeats 2000000 in
theorem bits_walk (s : List UInt8) (w : World) (hG : Gl w) (hs : s.length ≤ 1000) : Calls Tryz.prog 26 #[.string ⟨s.toArray⟩] w (BitR w (bitsL s)) := by
  obtain ⟨hl1, hl2⟩ := cut_len s [112]
  obtain ⟨hl3, hl4⟩ := cut_len (Lib.cut s [112]).1 [46]
  have hB := @bitsL_cut s
  have hr1 : (s == [110, 97, 110]) = true → bitsL s = (nanB, true) := fun h => if_pos (by simpa using h)
  have hr2 : (s == [110, 97, 110]) = false → (s == [105, 110, 102]) = true → bitsL s = (infB, true) := fun h h2 => by
    unfold bitsL; rw [if_neg (by simpa using h), if_pos (by simpa using h2)]
  have hr3 : (s == [110, 97, 110]) = false → (s == [105, 110, 102]) = false → (s == [48]) = true → bitsL s = (0, true) := fun h h2 h3 => by
    unfold bitsL; rw [if_neg (by simpa using h), if_neg (by simpa using h2), if_pos (by simpa using h3)]
  generalize bitsL s = r at *
  have HBB := Lib.hid hB
  clear hB
  have HC := Lib.hid (fun w hG => cut_any s 112 w hG (by omega))
  have HD := Lib.hid (fun w hG => cut_any (Lib.cut s [112]).1 46 w hG (by omega))
  generalize (Lib.cut (Lib.cut s [112]).1 [46]).2.2 = ok2 at *
  generalize (Lib.cut (Lib.cut s [112]).1 [46]).2.1 = R at *
  generalize (Lib.cut (Lib.cut s [112]).1 [46]).1 = O at *
  generalize (Lib.cut s [112]).2.2 = ok at *
  generalize (Lib.cut s [112]).2.1 = X at *
  generalize (Lib.cut s [112]).1 = H at *
  go_enter Tryz.func26, Tryz.ntmps26
  go_wp2_with fail
  · go_ret2
    exact bitR_of (Below.refl _ _) rfl (hr1 (by assumption))
  · go_ret2
    exact bitR_of (Below.refl _ _) rfl (hr2 (by assumption) (by assumption))
  · go_ret2
    exact bitR_of (Below.refl _ _) rfl (hr3 (by assumption) (by assumption) (by assumption))
  have HR := Lib.hid (HBB.out (by assumption) (by assumption) (by assumption))
  clear HBB hr1 hr2 hr3
  refine (HC.out w hG).mono ?_
  rintro e w1 ⟨rfl, n1, rfl⟩
  go_wp2_with fail
  refine (HD.out _ (hG.drewN n1)).mono ?_
  rintro e w2 ⟨rfl, n2, rfl⟩
  go_wp2_with fail
  refine (atoi_any ⟨X.toArray⟩ _ (by show X.toArray.size ≤ _; simp; omega) (hG.drewN (n1 + n2))).mono ?_
  rintro e w3 ⟨hb3, ⟨v, hv, rfl⟩ | ⟨hno, n, t, p, h0, h1, rfl⟩⟩
  · have hbv := atoiAll_bd hv
    have hb3' := below_drewN' hb3
    cases ok
    · have hr := Lib.hid (show r = (0, false) by rw [HR.out]; exact bitsC_no rfl)
      go_wp2_with fail
      all_goals
        go_ret2
        exact bitR_of hb3' rfl hr.out
    · by_cases g1 : 13 < R.length
      · have hr := Lib.hid (show r = (0, false) by rw [HR.out]; exact bitsC_long g1)
        go_wp2_with fail
        go_ret2
        exact bitR_of hb3' rfl hr.out
      · by_cases g2 : -1022 ≤ v ∧ v ≤ 1023
        · have hX : atoiIn X = some v := atoiIn_ok hv (by omega)
          by_cases g3 : R = []
          · have hr := Lib.hid (show r = finB O v 0 by rw [HR.out]; exact bitsC_nil hX g2 g3)
            subst g3
            go_wp2_with fail
            · go_ret2
              exact bitR_of hb3' rfl (hr.out.trans (finB_sub (by assumption) (by assumption)))
            · go_ret2
              exact bitR_or hb3' (or_exp0 g2) rfl (hr.out.trans (finB_far (by assumption) (by assumption)))
            · go_ret2
              exact bitR_or hb3' (or_exp0 g2) rfl (hr.out.trans (finB_one (by assumption)))
          · have hr : ∀ o, par16 0 (R ++ List.replicate (13 - R.length) 48) = o → r = (match o with | some f => finB O v f | none => (0, false)) := by
              intro o ho; rw [HR.out, ← ho]; exact bitsC_some hX g2 g3 (by omega)
            have he : R.isEmpty = false := by simp [g3]
            obtain ⟨n, hn⟩ : ∃ n, 13 - R.length = n := ⟨_, rfl⟩
            have en : (13 : Int) - (R.length : Int) = (n : Int) := by omega
            have HE := Lib.hid en
            rw [hn] at hr
            have hTl : (List.replicate n (48 : UInt8)).length = n := by simp
            have HN := Lib.hid (fun w => repeat_nought n w (by omega))
            generalize List.replicate n (48 : UInt8) = T at *
            have f1 : ¬ 9223372036854775807 < R.length + T.length := by omega
            have hRT : (R ++ T).length = 13 := by rw [List.length_append]; omega
            have hr' := Lib.hid hr
            have hp := Lib.hid (fun w hG => pu_any (R ++ T) w hG hRT)
            have hpl := Lib.hid (fun f (h : par16 0 (R ++ T) = some f) => (by have := par16_lt _ _ _ h; rw [hRT] at this; simpa using this : f < 4503599627370496))
            clear hr hRT en hn
            go_wp2_with fail
            rw [HE.out]
            refine (HN.out w3).mono ?_
            rintro e w4 ⟨rfl, hb4⟩
            have hB4 := below_on hb4 hb3' (Nat.le_refl _)
            go_wp2_with fail
            rw [app_mk]
            refine (hp.out w4 (hG.on hB4)).mono ?_
            rintro e w5 ⟨hb5, hP⟩
            have hB5 := below_on hb5 hB4 (Nat.le_refl _)
            cases ho : par16 0 (R ++ T) with
            | some f =>
              have hq := Lib.hid (hr'.out _ ho)
              have hf := hpl.out f ho
              rw [ho] at hP
              subst hP
              clear ho
              go_wp2_with fail
              · go_ret2
                exact bitR_of hB5 rfl (hq.out.trans (finB_sub (by assumption) (by assumption)))
              · go_ret2
                exact bitR_or hB5 (or_exp g2 hf) rfl (hq.out.trans (finB_far (by assumption) (by assumption)))
              · go_ret2
                exact bitR_or hB5 (or_exp g2 hf) rfl (hq.out.trans (finB_one (by assumption)))
            | none =>
              have hq := Lib.hid (hr'.out _ ho)
              rw [ho] at hP
              obtain ⟨t, p, rfl⟩ := hP
              clear ho
              go_wp2_with fail
              go_ret2
              exact bitR_of hB5 rfl hq.out
        · have hr := Lib.hid (show r = (0, false) by rw [HR.out]; exact bitsC_far hv g2)
          by_cases g4 : v < -1022
          · go_wp2_with fail
            all_goals
              go_ret2
              exact bitR_of hb3' rfl hr.out
          · have g5 : 1023 < v := by omega
            go_wp2_with fail
            all_goals
              go_ret2
              exact bitR_of hb3' rfl hr.out
  · have hX : atoiIn X = none := atoiIn_bad hno
    have hb3' := below_drewN' hb3
    have hr := Lib.hid (show r = (0, false) by rw [HR.out]; unfold bitsC; rw [hX])
    cases ok
    · go_wp2_with fail
      go_ret2
      exact bitR_of hb3' rfl hr.out
    · go_wp2_with fail
      go_ret2
      exact bitR_of hb3' rfl hr.out
end Go.Proofs.YtfdkafmomkkapaaGreatDoor
