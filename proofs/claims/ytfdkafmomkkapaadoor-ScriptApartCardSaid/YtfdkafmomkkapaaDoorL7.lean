/- Law ScriptApart: the walk. -/
import Derived.Test.YtfdkafmomkkapaaDoorH1
import Derived.Test.YtfdkafmomkkapaaDoorH2
import Derived.Test.YtfdkafmomkkapaaDoorG4
import Derived.Test.YtfdkafmomkkapaaDoorTk3
namespace Go.Proofs.YtfdkafmomkkapaaDoor
open Go.RowKit Go.Lib
theorem apart_dead {a : List UInt8} {x : Int} (h0 : ¬ keep a = 0) (hx : x = wrap64 (2 * (keep a : Int))) (hl : a.length ≤ 40) (h : (((bytesT a).length : Int) != x) = true) : False := by
  have h1 := bytesT_len h0
  have h2 := keep_le a
  have h3 : wrap64 (2 * (keep a : Int)) = 2 * (keep a : Int) := by unfold wrap64; omega
  rw [bne_iff_ne, hx, h3, h1] at h
  exact h (by omega)
theorem ty3 : Tryd.prog.underlying 3 = some (.int .i64) := by kernel_rfl

set_option maxRecDepth 100000 in
set_option maxHeartbeats 2000000 in
theorem law7_small (a : List UInt8) (pa : Option Addr) (m c : Nat) (b : List UInt8) (pb : Option Addr) (mb cb : Nat) (w : World) (hG : Gl w) (hm : a.length = m) (hm40 : m ≤ 40) (hc : m ≤ c) (ha : Bs w pa a) (hmb : b.length = mb) (hmb40 : mb ≤ 40) (hcb : mb ≤ cb) (hb : Bs w pb b) :
    Calls Tryd.prog 7 #[.slice pa m c, .slice pb mb cb] w fun e w' => e = .returned (.bool true) ∧ Below w.heap.size w w' := by
  have hM := Lib.hid hm
  have hMb := Lib.hid hmb
  have HA := Lib.hid ha
  have HB := Lib.hid hb
  clear hm hmb ha hb
  go_enter Tryd.func7, Tryd.ntmps7
  go_wp2_with (first | (at_builtin; refine wpList_append_bs rfl (.tmp 19) (.tmp 20) 35 5 rfl ty35 inf5 w.heap.size _ 0 [] rfl (own_empty w 5) pa m c a rfl hM.out (HA.out.keep (Below.of_alloc _ _)) (by omega) (by simp) ?_; intro v1 w1 h1; have hs1 : w.heap.size ≤ w1.heap.size := Nat.le_trans (by simp) h1.2.1.size) | (at_builtin; refine wpList_append_zeros rfl (.tmp 21) (.tmp 24) 35 3 5 rfl ty35 .i64 ty3 inf5 w.heap.size v1 (0 + m) ([] ++ a) rfl h1.1 .i64 (40 - m) (40 - (m : Int)) (by omega) rfl (by omega) hs1 ?_; intro v2 w2 h2; have hs2 : w.heap.size ≤ w2.heap.size := Nat.le_trans hs1 h2.2.1.size; obtain ⟨px, cx, rfl, hcx⟩ := own_form h2.1; have hB2 : Below w.heap.size w w2 := ((Below.of_alloc w (.cells #[] 5)).trans h1.2.1).trans h2.2.1) | (at_builtin; refine wpList_append_bs rfl (.tmp 26) (.tmp 27) 35 5 rfl ty35 inf5 w2.heap.size _ 0 [] rfl (own_empty w2 5) pb mb cb b rfl hMb.out (HB.out.below (hB2.trans ((Below.of_alloc w2 _).mono hs2)) (Nat.le_refl _)) (by omega) (by simp) ?_; intro v3 w3 h3; have hs3 : w2.heap.size ≤ w3.heap.size := Nat.le_trans (by simp) h3.2.1.size) | (at_builtin; refine wpList_append_zeros rfl (.tmp 28) (.tmp 31) 35 3 5 rfl ty35 .i64 ty3 inf5 w2.heap.size v3 (0 + mb) ([] ++ b) rfl h3.1 .i64 (40 - mb) (40 - (mb : Int)) (by omega) rfl (by omega) hs3 ?_; intro v4 w4 h4; have hs4 : w2.heap.size ≤ w4.heap.size := Nat.le_trans hs3 h4.2.1.size; obtain ⟨py, cy, rfl, hcy⟩ := own_form h4.1; have hB4 : Below w2.heap.size w2 w4 := ((Below.of_alloc w2 (.cells #[] 5)).trans h3.2.1).trans h4.2.1))
  have hX : Bs w4 px (pad40 a) := by
    have e : [] ++ a ++ List.replicate (40 - m) 0 = pad40 a := by unfold pad40; rw [hM.out]; rfl
    have := Bs.own h2.1
    rw [e] at this
    exact this.below hB4 (Nat.le_refl _)
  have hY : Bs w4 py (pad40 b) := by
    have e : [] ++ b ++ List.replicate (40 - mb) 0 = pad40 b := by unfold pad40; rw [hMb.out]; rfl
    have := Bs.own h4.1
    rw [e] at this
    exact this
  have hcx' : 40 ≤ cx := by omega
  have hcy' : 40 ≤ cy := by omega
  have hB5 : Below w.heap.size w w4 := hB2.trans (hB4.mono hs2)
  have hA5 : Bs w4 pa a := HA.out.below hB5 (Nat.le_refl _)
  have hBb : Bs w4 pb b := HB.out.below hB5 (Nat.le_refl _)
  have hG5 : Gl w4 := hG.keep hB5
  have HX := Lib.hid hX
  have HY := Lib.hid hY
  have HA5 := Lib.hid hA5
  have HB5 := Lib.hid hBb
  clear h1 h2 h3 h4 hs1 hs2 hs3 hs4 hB2 hB4 hcx hcy hX hY hA5 hBb hG HA HB
  go_loop [7, 8] (fun n i => ∃ k : Nat, k ≤ m ∧ i = .int .i64 k ∧ n = .int .i64 (keep (a.take k) : Nat)) (fun _ i => m - (intOf i).toNat)
  case atStart => exact ⟨0, Nat.zero_le _, rfl, rfl⟩
  case round =>
    obtain ⟨k, hk, rfl, rfl⟩ := hrel
    by_cases hlt : k < m
    · obtain ⟨ba, oa, hpa, xa⟩ : ∃ ba oa, pa = some ⟨ba, oa, none⟩ ∧ w4.cell? ⟨ba, oa + k, none⟩ = some (.int .u8 (a[k]'(by rw [hM.out]; exact hlt)).toNat) := by
        rcases HA5.out with h0 | ⟨ba, oa, h1, _, h2⟩
        · exfalso; have := hM.out; rw [h0] at this; simp at this; omega
        · exact ⟨ba, oa, h1, h2 k (by rw [hM.out]; exact hlt)⟩
      have hstep := keep_take_succ a k (by rw [hM.out]; exact hlt)
      subst hpa
      by_cases hz : (a[k]'(by rw [hM.out]; exact hlt)) = 0
      · have hzb : (((a[k]'(by rw [hM.out]; exact hlt)).toNat : Int) != 0) = false := by rw [hz]; rfl
        rw [if_pos hz] at hstep
        have HS := Lib.hid hstep
        clear hstep hz
        go_wp2
        go_round
        case rel => exact ⟨k + 1, by omega, by go_num, by rw [HS.out]⟩
        case measure => simp [intOf]; omega
      · have hzb : (((a[k]'(by rw [hM.out]; exact hlt)).toNat : Int) != 0) = true := by
          rw [bne_iff_ne]; intro e; exact hz (UInt8.toNat_inj.1 (by have : (0 : UInt8).toNat = 0 := rfl; omega))
        rw [if_neg hz] at hstep
        have HS := Lib.hid hstep
        clear hstep hz
        go_wp2
        go_round
        case rel => exact ⟨k + 1, by omega, by go_num, by rw [HS.out]; go_num⟩
        case measure => simp [intOf]; omega
    · obtain rfl : k = m := by omega
      have hkp : keep (a.take k) = keep a := by rw [List.take_of_length_le (by rw [hM.out]; exact Nat.le_refl _)]
      rw [hkp]
      clear hkp
      go_wp2_with fail
      refine (bytes_any pa k c a w4 hM.out HA5.out (by omega) hc).mono ?_
      rintro e w5 ⟨rfl, hb5⟩
      go_wp2_with fail
      rotate_left
      · exact absurd (bytesT_none (by assumption)) (by assumption)
      · exact (apart_dead (by assumption) rfl (by rw [hM.out]; exact hm40) (by assumption)).elim
      all_goals
        have hE : ((bytesT a == bytesT b) == (pad40 a == pad40 b)) = true := by rw [bytesT_same (by rw [hM.out]; exact hm40) (by rw [hMb.out]; exact hmb40)]; simp
        try (rw [show bytesT a = [45] from by assumption] at hE)
        have hx40 := pad40_length (l := a) (by rw [hM.out]; exact hm40)
        have hy40 := pad40_length (l := b) (by rw [hMb.out]; exact hmb40)
        have HX40 := Lib.hid hx40
        have HY40 := Lib.hid hy40
        clear hx40 hy40
        refine (bytes_any pb mb cb b w5 hMb.out (HB5.out.keep hb5) (by omega) hcb).mono ?_
        rintro e w6 ⟨rfl, hb6⟩
        go_wp2_with fail
        refine (alikeB_any (pad40 a) (pad40 b) px py 40 40 cx cy w6 HX40.out HY40.out ((HX.out.keep hb5).keep hb6) ((HY.out.keep hb5).keep hb6) (by decide) hcx' hcy').mono ?_
        rintro e w7 ⟨rfl, q, rfl⟩
        have hB6 := below_on hb6 (below_on hb5 hB5 (Nat.le_refl _)) (Nat.le_refl _)
        go_wp2_with fail
        refine (bytes_any px 40 cx (pad40 a) (w6.drewN q) HX40.out (((HX.out.keep hb5).keep hb6).below ((Below.refl _ w6).drewN q) (Nat.le_refl _)) (by omega) hcx').mono ?_
        rintro e w8 ⟨rfl, hb8⟩
        rw [bytesT_pad]
        have hB8 := below_on hb8 (hB6.drewN q) (Nat.le_refl _)
        go_wp2_with fail
        refine (awake_any _ ((((hG5.on hb5).on hb6).drewN q).on hb8)).mono ?_
        rintro e w9 ⟨rfl, hb9⟩
        go_wp2_with fail
        go_ret
        exact ⟨rfl, below_on hb9 hB8 (Nat.le_refl _)⟩

set_option maxRecDepth 100000 in
set_option maxHeartbeats 1000000 in
theorem law7_any (a : List UInt8) (pa : Option Addr) (m c : Nat) (b : List UInt8) (pb : Option Addr) (mb cb : Nat) (w : World) (hG : Gl w) (hm : a.length = m) (_hmx : m ≤ maxLen) (hc : m ≤ c) (ha : Bs w pa a) (hmb : b.length = mb) (_hmbx : mb ≤ maxLen) (hcb : mb ≤ cb) (hb : Bs w pb b) :
    Calls Tryd.prog 7 #[.slice pa m c, .slice pb mb cb] w fun e w' => e = .returned (.bool true) ∧ Below w.heap.size w w' := by
  by_cases h1 : m ≤ 40
  · by_cases h2 : mb ≤ 40
    · exact law7_small a pa m c b pb mb cb w hG hm h1 hc ha hmb h2 hcb hb
    · have h2' : (40 : Int) < (mb : Int) := by omega
      clear hm hmb ha hb
      go_enter Tryd.func7, Tryd.ntmps7
      go_wp2_with fail
      all_goals
        refine (awake_any _ hG).mono ?_
        rintro e w1 ⟨rfl, hb1⟩
        go_wp2_with fail
        go_ret
        exact ⟨rfl, hb1⟩
  · have h1' : (40 : Int) < (m : Int) := by omega
    clear hm hmb ha hb
    go_enter Tryd.func7, Tryd.ntmps7
    go_wp2_with fail
    all_goals
      refine (awake_any _ hG).mono ?_
      rintro e w1 ⟨rfl, hb1⟩
      go_wp2_with fail
      go_ret
      exact ⟨rfl, hb1⟩
end Go.Proofs.YtfdkafmomkkapaaDoor
