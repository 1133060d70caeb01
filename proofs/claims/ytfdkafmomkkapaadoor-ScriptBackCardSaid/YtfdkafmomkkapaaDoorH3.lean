/- Walks: two runs of puts, two ops: are they alike? -/
import Derived.Test.YtfdkafmomkkapaaDoorH2
import Derived.Test.YtfdkafmomkkapaaDoorB1
import Derived.BigQuiet
namespace Go.Proofs.YtfdkafmomkkapaaDoor
open Go.RowKit Go.Lib

/-- the string of bytes in memory. -/
theorem convert_bs {w : World} {da : Option Addr} {d : List UInt8} {m c : Nat} (h : Bs w da d) (hm : d.length = m) : (convert 35 9 (.slice da m c)).run Tryd.prog w = .ok (.string ⟨d.toArray⟩) w := by
  subst hm
  cases da with
  | none =>
    have : d = [] := by
      rcases h with h | ⟨_, _, e, _⟩
      · exact h
      · cases e
    subst this
    exact run_convert_nil_bytes w 35 9 5 c ty35 ty5 ty9
  | some a =>
    refine run_convert_bytes_back w 35 9 5 a c d ty35 ty5 ty9 fun j hj => ?_
    rcases h with h | ⟨b, off, e, _, hc⟩
    · subst h; simp at hj
    · cases e
      have : (⟨b, off, none⟩ : Addr).add j = ⟨b, off + j, none⟩ := by unfold Addr.add; split <;> simp_all
      rw [this]
      exact hc j hj

set_option maxRecDepth 100000 in
set_option maxHeartbeats 1000000 in
theorem samePuts_go (a b : List (Int × List UInt8)) (ba oa ca bb ob cb : Nat) (w : World) (hl : a.length = b.length) (hm : a.length ≤ maxLen)
    (ha : ∀ j (h : j < a.length), Put1 w ba (oa + j * 2) a[j]) (hb : ∀ j (h : j < b.length), Put1 w bb (ob + j * 2) b[j]) (_hca : a.length ≤ ca) (_hcb : a.length ≤ cb) :
    Calls Tryd.prog 51 #[.slice (some ⟨ba, oa, none⟩) a.length ca, .slice (some ⟨bb, ob, none⟩) a.length cb] w fun e w' => e = .returned (.bool (a == b)) ∧ ∃ n, w' = w.drewN n := by
  have hm' : a.length ≤ 9223372036854775807 := hm
  have HL := Lib.hid hl
  clear hm hl
  go_enter Tryd.func51, Tryd.ntmps51
  go_wp2
  go_loopw [5] (fun i wr => ∃ (k n : Nat), k ≤ a.length ∧ i = .int .i64 k ∧ Hid (a.take k = b.take k) ∧ wr = w.drewN n) (fun i _ => a.length - (intOf i).toNat)
  case atStart => exact ⟨0, 0, by omega, rfl, Lib.hid rfl, rfl⟩
  case round =>
    obtain ⟨k, n, hk, rfl, hT, rfl⟩ := hrel
    by_cases hlt : k < a.length
    · have hltb : k < b.length := by rw [← HL.out]; exact hlt
      obtain ⟨xa0, -, -, da, dca, xa1, xa2, xa3, xa4⟩ := ha k hlt
      obtain ⟨xb0, -, -, db, dcb, xb1, xb2, xb3, xb4⟩ := hb k hltb
      have hcva := fun (c q : Nat) => convert_bs (c := c) (w := w.drewN q) (show Bs (w.drewN q) da a[k].2 from xa4) rfl
      have hcvb := fun (c q : Nat) => convert_bs (c := c) (w := w.drewN q) (show Bs (w.drewN q) db b[k].2 from xb4) rfl
      clear ha hb xa4 xb4
      by_cases hq : a[k].1 = b[k].1
      · have hq1 : (a[k].1 != b[k].1) = false := by rw [hq]; simp
        by_cases hr : a[k].2 = b[k].2
        · have hq2 : (!a[k].2 == b[k].2) = false := by rw [hr]; simp
          have hT2 : Hid (a.take (k + 1) = b.take (k + 1)) := Lib.hid (by rw [List.take_succ_eq_append_getElem hlt, List.take_succ_eq_append_getElem hltb, hT.out, Prod.ext hq hr])
          clear hq hr hT
          go_wp2
          go_quiet (fail)
          go_wp2
          go_roundw
          case rel => exact ⟨k + 1, n + nq, by omega, by go_num, hT2, rfl⟩
          case measure => simp [intOf]; omega
        · have hq2 : (!a[k].2 == b[k].2) = true := by simpa using hr
          have hab : Hid ((a == b) = false) := Lib.hid (by rw [beq_eq_false_iff_ne]; intro e; subst e; exact hr rfl)
          clear hq hr hT
          go_wp2
          go_quiet (fail)
          go_wp2
          go_ret
          exact ⟨by rw [hab.out]; rfl, n + nq, World.drewN_drewN _ _ _⟩
      · have hq1 : (a[k].1 != b[k].1) = true := by rw [bne_iff_ne]; exact hq
        have hab : Hid ((a == b) = false) := Lib.hid (by rw [beq_eq_false_iff_ne]; intro e; subst e; exact hq rfl)
        clear hq hT
        go_wp2
        go_quiet (fail)
        go_wp2
        go_ret
        exact ⟨by rw [hab.out]; rfl, n + nq, World.drewN_drewN _ _ _⟩
    · have hab : Hid ((a == b) = true) := Lib.hid (by
        obtain rfl : k = a.length := by omega
        have := hT.out
        rw [List.take_length, HL.out, List.take_length] at this
        rw [this]; exact beq_self_eq_true _)
      clear ha hb
      go_wp2
      all_goals
        go_ret
        exact ⟨by rw [hab.out]; rfl, n, rfl⟩

set_option maxRecDepth 100000 in
set_option maxHeartbeats 1000000 in
theorem samePuts_len (a b : Option Addr) (m n ca cb : Nat) (w : World) (hmn : m ≠ n) :
    Calls Tryd.prog 51 #[.slice a m ca, .slice b n cb] w fun e w' => e = .returned (.bool false) ∧ ∃ n, w' = w.drewN n := by
  have h : ((m : Int) == (n : Int)) = false := by rw [beq_eq_false_iff_ne]; omega
  go_enter Tryd.func51, Tryd.ntmps51
  go_wp2
  go_ret
  exact ⟨rfl, 0, rfl⟩

set_option maxRecDepth 100000 in
set_option maxHeartbeats 1000000 in
theorem samePuts_nil (a b : Option Addr) (ca cb : Nat) (w : World) :
    Calls Tryd.prog 51 #[.slice a 0 ca, .slice b 0 cb] w fun e w' => e = .returned (.bool true) ∧ ∃ n, w' = w.drewN n := by
  go_enter Tryd.func51, Tryd.ntmps51
  go_wp2
  refine wp_loop_rounds 1 ?_
  rw [rounds_succ]
  go_wp2
  go_ret
  exact ⟨rfl, 0, rfl⟩

/-- scarpref11.SamePuts. -/
theorem samePuts_any (a b : List (Int × List UInt8)) (pa pb : Option Addr) (m n ca cb : Nat) (w : World) (hm : a.length = m) (hn : b.length = n) (ha : Ps w pa a) (hb : Ps w pb b) (hmx : m ≤ maxLen) (hca : m ≤ ca) (hcb : n ≤ cb) :
    Calls Tryd.prog 51 #[.slice pa m ca, .slice pb n cb] w fun e w' => e = .returned (.bool (a == b)) ∧ ∃ n, w' = w.drewN n := by
  by_cases hl : m = n
  · subst hl
    rcases ha with rfl | ⟨ba, oa, rfl, ha⟩
    · have : b = [] := List.eq_nil_of_length_eq_zero (by rw [hn, ← hm]; rfl)
      subst this
      obtain rfl : 0 = m := hm
      exact samePuts_nil _ _ _ _ w
    · rcases hb with rfl | ⟨bb, ob, rfl, hb⟩
      · have : a = [] := List.eq_nil_of_length_eq_zero (by rw [hm, ← hn]; rfl)
        subst this
        obtain rfl : 0 = m := hm
        exact samePuts_nil _ _ _ _ w
      · subst hm
        exact samePuts_go a b ba oa ca bb ob cb w hn.symm hmx ha hb hca hcb
  · have : (a == b) = false := by rw [beq_eq_false_iff_ne]; intro e; subst e; omega
    rw [this]
    exact samePuts_len _ _ _ _ _ _ w hl

/-- an op in memory, as the walk lays it. -/
def opV (k h x n : Int) (pa : Option Addr) (m c : Nat) : Value := .agg #[.int .i64 k, .int .i64 h, .int .i64 x, .int .i64 n, .slice pa m c]

set_option maxRecDepth 100000 in
set_option maxHeartbeats 1000000 in
/-- law 29's same. -/
theorem same_any (k h x n k' h' x' n' : Int) (a b : List (Int × List UInt8)) (pa pb : Option Addr) (ma mb ca cb : Nat) (w : World) (hma : a.length = ma) (hmb : b.length = mb) (ha : Ps w pa a) (hb : Ps w pb b) (hmx : ma ≤ maxLen) (hca : ma ≤ ca) (hcb : mb ≤ cb) :
    Calls Tryd.prog 20 #[.agg #[.int .i64 k, .int .i64 h, .int .i64 x, .int .i64 n, .slice pa ma ca], .agg #[.int .i64 k', .int .i64 h', .int .i64 x', .int .i64 n', .slice pb mb cb]] w
      fun e w' => e = .returned (.bool (k == k' && h == h' && x == x' && n == n' && a == b)) ∧ Below w.heap.size w w' := by
  have hB := ((Below.of_alloc w (.cells #[.int .i64 k, .int .i64 h, .int .i64 x, .int .i64 n, .slice pa ma ca] 24)).alloc (by simp) (.cells #[.int .i64 k', .int .i64 h', .int .i64 x', .int .i64 n', .slice pb mb cb] 24))
  have ha2 := ha.keep hB
  have hb2 := hb.keep hB
  have HA := Lib.hid ha2
  have HB := Lib.hid hb2
  have HMA := Lib.hid hma
  have HMB := Lib.hid hmb
  clear ha2 hb2 ha hb hma hmb
  have fin : ∀ (c : Bool), (k == k' && h == h' && x == x' && n == n' && a == b) = c → Hid (Ending.returned (.bool (k == k' && h == h' && x == x' && n == n' && a == b)) = .returned (.bool c)) := fun c e => Lib.hid (by rw [e])
  by_cases e1 : k = k'
  · by_cases e2 : h = h'
    · by_cases e3 : x = x'
      · by_cases e4 : n = n'
        · have q1 : (k == k') = true := by simpa using e1
          have q2 : (h == h') = true := by simpa using e2
          have q3 : (x == x') = true := by simpa using e3
          have q4 : (n == n') = true := by simpa using e4
          have F := fin (a == b) (by rw [q1, q2, q3, q4]; simp)
          clear fin e1 e2 e3 e4
          go_enter Tryd.func20, Tryd.ntmps20
          go_wp2_with (go_at_call 51; refine (samePuts_any a b _ _ _ _ _ _ _ HMA.out HMB.out HA.out HB.out hmx hca hcb).mono ?_; rintro e w2 ⟨rfl, q, rfl⟩)
          go_ret
          exact ⟨Eq.trans rfl F.out.symm, hB.drewN q⟩
        · have q1 : (k == k') = true := by simpa using e1
          have q2 : (h == h') = true := by simpa using e2
          have q3 : (x == x') = true := by simpa using e3
          have q4 : (n == n') = false := by simpa using e4
          have F := fin false (by rw [q4]; simp)
          clear fin e1 e2 e3 e4
          go_enter Tryd.func20, Tryd.ntmps20
          go_wp2_with fail
          go_ret
          exact ⟨Eq.trans rfl F.out.symm, hB⟩
      · have q1 : (k == k') = true := by simpa using e1
        have q2 : (h == h') = true := by simpa using e2
        have q3 : (x == x') = false := by simpa using e3
        have F := fin false (by rw [q3]; simp)
        clear fin e1 e2 e3
        go_enter Tryd.func20, Tryd.ntmps20
        go_wp2_with fail
        go_ret
        exact ⟨Eq.trans rfl F.out.symm, hB⟩
    · have q1 : (k == k') = true := by simpa using e1
      have q2 : (h == h') = false := by simpa using e2
      have F := fin false (by rw [q2]; simp)
      clear fin e1 e2
      go_enter Tryd.func20, Tryd.ntmps20
      go_wp2_with fail
      go_ret
      exact ⟨Eq.trans rfl F.out.symm, hB⟩
  · have q1 : (k == k') = false := by simpa using e1
    have F := fin false (by rw [q1]; simp)
    clear fin e1
    go_enter Tryd.func20, Tryd.ntmps20
    go_wp2_with fail
    go_ret
    exact ⟨Eq.trans rfl F.out.symm, hB⟩
end Go.Proofs.YtfdkafmomkkapaaDoor
