/- Walks: two runs of bytes, two runs of puts, two ops: are they alike? -/
import Derived.Test.YtfdkafmomkkapaaDoorTk2
import Derived.Test.YtfdkafmomkkapaaDoorProg
import Derived.WalkLawsBesides
import Derived.Deep.QuietTactic
namespace Go.Proofs.YtfdkafmomkkapaaDoor
open Go.RowKit Go.Lib

set_option maxRecDepth 100000 in
set_option maxHeartbeats 1000000 in
theorem alikeB_go (a b : List UInt8) (ba oa ca bb ob cb : Nat) (w : World) (hl : a.length = b.length) (hm : a.length ≤ maxLen)
    (ha : ∀ j (h : j < a.length), w.cell? ⟨ba, oa + j, none⟩ = some (.int .u8 a[j].toNat)) (hb : ∀ j (h : j < b.length), w.cell? ⟨bb, ob + j, none⟩ = some (.int .u8 b[j].toNat)) (_hca : a.length ≤ ca) (_hcb : a.length ≤ cb) :
    Calls Tryd.prog 25 #[.slice (some ⟨ba, oa, none⟩) a.length ca, .slice (some ⟨bb, ob, none⟩) a.length cb] w fun e w' => e = .returned (.bool (a == b)) ∧ ∃ n, w' = w.drewN n := by
  have hm' : a.length ≤ 9223372036854775807 := hm
  have HL := Lib.hid hl
  clear hm hl
  go_enter Tryd.func25, Tryd.ntmps25
  go_wp2
  go_loopw [5] (fun i wr => ∃ (k n : Nat), k ≤ a.length ∧ i = .int .i64 k ∧ Hid (a.take k = b.take k) ∧ wr = w.drewN n) (fun i _ => a.length - (intOf i).toNat)
  case atStart => exact ⟨0, 0, by omega, rfl, Lib.hid rfl, rfl⟩
  case round =>
    obtain ⟨k, n, hk, rfl, hT, rfl⟩ := hrel
    by_cases hlt : k < a.length
    · have hltb : k < b.length := by rw [← HL.out]; exact hlt
      have xa : (w.drewN n).cell? ⟨ba, oa + k, none⟩ = some (.int .u8 a[k].toNat) := ha k hlt
      have xb : (w.drewN n).cell? ⟨bb, ob + k, none⟩ = some (.int .u8 b[k].toNat) := hb k hltb
      by_cases hq : a[k] = b[k]
      · have hqb : ((a[k].toNat : Int) != (b[k].toNat : Int)) = false := by rw [hq]; simp
        have hT2 : Hid (a.take (k + 1) = b.take (k + 1)) := Lib.hid (by rw [List.take_succ_eq_append_getElem hlt, List.take_succ_eq_append_getElem hltb, hT.out, hq])
        clear hq hT
        go_wp2
        go_quiet (fail)
        go_wp2
        go_roundw
        case rel => exact ⟨k + 1, n + nq, by omega, by go_num, hT2, rfl⟩
        case measure => simp [intOf]; omega
      · have hqb : ((a[k].toNat : Int) != (b[k].toNat : Int)) = true := by rw [bne_iff_ne]; intro e; exact hq (UInt8.toNat_inj.1 (by omega))
        have hab : Hid ((a == b) = false) := Lib.hid (by rw [beq_eq_false_iff_ne]; intro e; subst e; exact hq rfl)
        clear hq hT
        go_wp2
        go_quiet (fail)
        go_wp2
        go_ret
        exact ⟨by rw [hab.out]; rfl, n + nq, World.drewN_drewN _ _ _⟩
    · have hab : Hid ((a == b) = true) := Lib.hid (by
        obtain rfl : k = a.length := by omega
        have := hT.out
        rw [List.take_length, HL.out, List.take_length] at this
        rw [this]; exact beq_self_eq_true _)
      go_wp2
      all_goals
        go_ret
        exact ⟨by rw [hab.out]; rfl, n, rfl⟩

set_option maxRecDepth 100000 in
set_option maxHeartbeats 1000000 in
theorem alikeB_len (a b : Option Addr) (m n ca cb : Nat) (w : World) (hmn : m ≠ n) :
    Calls Tryd.prog 25 #[.slice a m ca, .slice b n cb] w fun e w' => e = .returned (.bool false) ∧ ∃ n, w' = w.drewN n := by
  have h : ((m : Int) == (n : Int)) = false := by rw [beq_eq_false_iff_ne]; omega
  go_enter Tryd.func25, Tryd.ntmps25
  go_wp2
  go_ret
  exact ⟨rfl, 0, rfl⟩

set_option maxRecDepth 100000 in
set_option maxHeartbeats 1000000 in
theorem alikeB_nil (a b : Option Addr) (ca cb : Nat) (w : World) :
    Calls Tryd.prog 25 #[.slice a 0 ca, .slice b 0 cb] w fun e w' => e = .returned (.bool true) ∧ ∃ n, w' = w.drewN n := by
  go_enter Tryd.func25, Tryd.ntmps25
  go_wp2
  refine wp_loop_rounds 1 ?_
  rw [rounds_succ]
  go_wp2
  go_ret
  exact ⟨rfl, 0, rfl⟩

/-- scarpalike.Bytes. -/
theorem alikeB_any (a b : List UInt8) (pa pb : Option Addr) (m n ca cb : Nat) (w : World) (hm : a.length = m) (hn : b.length = n) (ha : Bs w pa a) (hb : Bs w pb b) (hmx : m ≤ maxLen) (hca : m ≤ ca) (hcb : n ≤ cb) :
    Calls Tryd.prog 25 #[.slice pa m ca, .slice pb n cb] w fun e w' => e = .returned (.bool (a == b)) ∧ ∃ n, w' = w.drewN n := by
  by_cases hl : m = n
  · subst hl
    rcases ha with rfl | ⟨ba, oa, rfl, _, ha⟩
    · have : b = [] := List.eq_nil_of_length_eq_zero (by rw [hn, ← hm]; rfl)
      subst this
      obtain rfl : 0 = m := hm
      exact alikeB_nil _ _ _ _ w
    · rcases hb with rfl | ⟨bb, ob, rfl, _, hb⟩
      · have : a = [] := List.eq_nil_of_length_eq_zero (by rw [hm, ← hn]; rfl)
        subst this
        obtain rfl : 0 = m := hm
        exact alikeB_nil _ _ _ _ w
      · subst hm
        exact alikeB_go a b ba oa ca bb ob cb w hn.symm hmx ha hb hca hcb
  · have : (a == b) = false := by rw [beq_eq_false_iff_ne]; intro e; subst e; omega
    rw [this]
    exact alikeB_len _ _ _ _ _ _ w hl

end Go.Proofs.YtfdkafmomkkapaaDoor
