/- Law ScriptBytes: the walk. -/
import Derived.Test.YtfdkafmomkkapaaDoorH1
import Derived.Test.YtfdkafmomkkapaaDoorH2
import Derived.Test.YtfdkafmomkkapaaDoorA5
import Derived.Test.YtfdkafmomkkapaaDoorA3
namespace Go.Proofs.YtfdkafmomkkapaaDoor
open Go.RowKit Go.Lib

set_option maxRecDepth 100000 in
set_option maxHeartbeats 1000000 in
theorem law4_any (a : List UInt8) (pa : Option Addr) (m c : Nat) (s : ByteArray) (w : World) (hG : Gl w) (hm : a.length = m) (hmx : m ≤ maxLen) (hc : m ≤ c) (ha : Bs w pa a) :
    Calls Tryd.prog 4 #[.slice pa m c, .string s] w fun e w' => e = .returned (.bool true) ∧ Below w.heap.size w w' := by
  have hmx' : m ≤ 9223372036854775807 := hmx
  by_cases h1 : (300 : Int) < (m : Int)
  · go_enter Tryd.func4, Tryd.ntmps4
    go_wp2_with fail
    all_goals
      refine (awake_any _ hG).mono ?_
      rintro e w1 ⟨rfl, hb1⟩
      go_wp2_with fail
      go_ret
      exact ⟨rfl, hb1⟩
  by_cases h2 : (300 : Int) < (s.size : Int)
  · go_enter Tryd.func4, Tryd.ntmps4
    go_wp2_with fail
    all_goals
      refine (awake_any _ hG).mono ?_
      rintro e w1 ⟨rfl, hb1⟩
      go_wp2_with fail
      go_ret
      exact ⟨rfl, hb1⟩
  go_enter Tryd.func4, Tryd.ntmps4
  go_wp2_with fail
  refine (unbytes_any s w).mono ?_
  rintro e w1 ⟨hb1, hr1⟩
  generalize hu : unbytesT s.data.toList = u at hr1
  have HU := Lib.hid hu
  clear hu
  cases u with
  | none =>
    obtain rfl := hr1
    go_wp2_with fail
    refine (runbytes_any s w1).mono ?_
    rintro e w2 ⟨hb2, hr2⟩
    rw [HU.out] at hr2
    obtain rfl := hr2
    go_wp2_with fail
    refine (bytes_any pa m c a w2 hm ((ha.keep hb1).keep hb2) (by omega) hc).mono ?_
    rintro e w3 ⟨rfl, hb3⟩
    go_wp2_with fail
    refine (rbytes_any pa m c a w3 hm (((ha.keep hb1).keep hb2).keep hb3) (by omega)).mono ?_
    rintro e w4 ⟨rfl, hb4⟩
    have hB := below_on hb4 (below_on hb3 (below_on hb2 hb1 (Nat.le_refl _)) (Nat.le_refl _)) (Nat.le_refl _)
    go_wp2_with fail
    refine (alikeB_any [] [] none none 0 0 0 0 w4 rfl rfl (Or.inl rfl) (Or.inl rfl) (by decide) (by decide) (by decide)).mono ?_
    rintro e w5 ⟨rfl, q, rfl⟩
    go_wp2_with fail
    refine (awake_any _ (hG.keep (hB.drewN q))).mono ?_
    rintro e w6 ⟨rfl, hb6⟩
    go_wp2_with fail
    go_ret
    exact ⟨rfl, below_on hb6 (hB.drewN q) (Nat.le_refl _)⟩
  | some d =>
    obtain ⟨g1, rfl, hg1, hgb1, hd1⟩ := hr1
    go_wp2_with fail
    refine (runbytes_any s w1).mono ?_
    rintro e w2 ⟨hb2, hr2⟩
    rw [HU.out] at hr2
    obtain ⟨g2, rfl, hg2, hgb2, hd2⟩ := hr2
    have HD := Lib.hid hd1
    have x1 := below_heap hb2 hgb1
    clear hd1 hd2 hgb1
    go_wp2_with fail
    refine (bytes_any pa m c a w2 hm ((ha.keep hb1).keep hb2) (by omega) hc).mono ?_
    rintro e w3 ⟨rfl, hb3⟩
    go_wp2_with fail
    refine (rbytes_any pa m c a w3 hm (((ha.keep hb1).keep hb2).keep hb3) (by omega)).mono ?_
    rintro e w4 ⟨rfl, hb4⟩
    have hB := below_on hb4 (below_on hb3 (below_on hb2 hb1 (Nat.le_refl _)) (Nat.le_refl _)) (Nat.le_refl _)
    go_wp2_with fail
    have hdd : (d == d) = true := beq_self_eq_true d
    refine (alikeB_any d d (some ⟨g1, 0, none⟩) (some ⟨g2, 0, none⟩) 40 40 40 40 w4 HD.out HD.out (Bs.row (below_heap hb4 (below_heap hb3 x1))) (Bs.row (below_heap hb4 (below_heap hb3 hgb2))) (by decide) (by decide) (by decide)).mono ?_
    rintro e w5 ⟨rfl, q, rfl⟩
    go_wp2_with fail
    refine (awake_any _ (hG.keep (hB.drewN q))).mono ?_
    rintro e w6 ⟨rfl, hb6⟩
    go_wp2_with fail
    go_ret
    exact ⟨rfl, below_on hb6 (hB.drewN q) (Nat.le_refl _)⟩
end Go.Proofs.YtfdkafmomkkapaaDoor
