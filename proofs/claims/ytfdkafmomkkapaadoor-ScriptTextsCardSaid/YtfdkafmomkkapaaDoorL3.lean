/- Law ScriptTexts: the walk. -/
import Derived.Test.YtfdkafmomkkapaaDoorH4
namespace Go.Proofs.YtfdkafmomkkapaaDoor
open Go.RowKit Go.Lib

set_option maxRecDepth 100000 in
set_option maxHeartbeats 1000000 in
theorem law3_big (k h a n : Int) (pa : Option Addr) (m c : Nat) (l : List (Int × List UInt8)) (s : ByteArray) (w : World) (hG : Gl w) (hm : l.length = m) (hmx : m ≤ maxLen) (_hc : m ≤ c) (hP : Ps w pa l) (hs : (3000 : Int) < (s.size : Int)) :
    Calls Tryd.prog 3 #[.agg #[.int .i64 k, .int .i64 h, .int .i64 a, .int .i64 n, .slice pa m c], .string s] w fun e w' => e = .returned (.bool true) ∧ Below w.heap.size w w' := by
  have hB := Below.of_alloc w (.cells #[.int .i64 k, .int .i64 h, .int .i64 a, .int .i64 n, .slice pa m c] 24)
  have hP1 := hP.keep hB
  have hM := Lib.hid hm
  clear hm hP
  go_enter Tryd.func3, Tryd.ntmps3
  go_wp2_with fail
  refine (puts_any pa m c l 3000 _ hM.out hP1 (by omega) (by omega) hmx).mono ?_
  rintro e w1 ⟨r, rfl, hr0, hr1, hb1⟩
  have HR := Lib.hid hr1
  clear hr1
  by_cases hr : 3000 < r
  all_goals
    go_wp2_with fail
    refine (awake_any _ ((hG.keep hB).keep hb1)).mono ?_
    rintro e w2 ⟨rfl, hb2⟩
    go_wp2_with fail
    go_ret
    exact ⟨rfl, below_on hb2 (below_on hb1 hB (by simp)) (by simp)⟩

set_option maxRecDepth 100000 in
set_option maxHeartbeats 2000000 in
theorem law3_small (k h a n : Int) (pa : Option Addr) (m c : Nat) (l : List (Int × List UInt8)) (s : ByteArray) (w : World) (hG : Gl w) (hm : l.length = m) (hmx : m ≤ maxLen) (_hc : m ≤ c) (hP : Ps w pa l) (hs : s.size ≤ 3000)
    (hh : -9223372036854775808 ≤ h ∧ h ≤ 9223372036854775807) (ha : -9223372036854775808 ≤ a ∧ a ≤ 9223372036854775807) (hn : -9223372036854775808 ≤ n ∧ n ≤ 9223372036854775807) :
    Calls Tryd.prog 3 #[.agg #[.int .i64 k, .int .i64 h, .int .i64 a, .int .i64 n, .slice pa m c], .string s] w fun e w' => e = .returned (.bool true) ∧ Below w.heap.size w w' := by
  have hB := Below.of_alloc w (.cells #[.int .i64 k, .int .i64 h, .int .i64 a, .int .i64 n, .slice pa m c] 24)
  have hP1 := hP.keep hB
  have hM := Lib.hid hm
  have hs' : (s.size : Int) ≤ 3000 := by omega
  clear hm hP
  go_enter Tryd.func3, Tryd.ntmps3
  go_wp2_with fail
  refine (puts_any pa m c l 3000 _ hM.out hP1 (by omega) (by omega) hmx).mono ?_
  rintro e w1 ⟨r, rfl, hr0, hr1, hb1⟩
  have HR := Lib.hid hr1
  clear hr1
  by_cases hr : 3000 < r
  · go_wp2_with fail
    refine (awake_any _ ((hG.keep hB).keep hb1)).mono ?_
    rintro e w2 ⟨rfl, hb2⟩
    go_wp2_with fail
    go_ret
    exact ⟨rfl, below_on hb2 (below_on hb1 hB (by simp)) (by simp)⟩
  · have hbk : m ≤ 3000 := by have := HR.out (by omega); have := bulk_big l; have := hM.out; omega
    have hG1 := (hG.keep hB).keep hb1
    have hrow := below_heap hb1 (hp_new w (.cells #[.int .i64 k, .int .i64 h, .int .i64 a, .int .i64 n, .slice pa m c] 24))
    have hPa := hP1.keep hb1
    have hB1 := below_on hb1 hB (by simp)
    clear hG hP1 HR hB hb1
    have hpl := resO_puts s.data.toList
    obtain ⟨k', h', a', n', l', hO⟩ : ∃ k' h' a' n' l', resO (parseA s.data.toList) = (k', h', a', n', l') := ⟨_, _, _, _, _, rfl⟩
    rw [hO] at hpl
    have hlm : l'.length ≤ 3001 := Nat.le_trans hpl (by have e : s.data.toList.length = s.size := (by simp); omega)
    have HO := Lib.hid hO
    obtain ⟨z, hZ⟩ : ∃ z, codeO (parseA s.data.toList) = z := ⟨_, rfl⟩
    have HZ := Lib.hid hZ
    clear hpl hO hZ
    go_wp2_with fail
    refine (parse_out s w1 hG1 (by omega) HO.out HZ.out).mono ?_
    rintro e w2 ⟨hb2, pa2, m2, c2, rfl, hl2, hc2, hP2⟩
    have HL2 := Lib.hid hl2
    have hB2 := below_on hb2 hB1 (Nat.le_refl _)
    have hrow2 := below_heap hb2 hrow
    have hPa2 := hPa.keep hb2
    have hG2 := hG1.keep hb2
    clear hrow hPa hG1 hB1 hb2 hl2
    go_wp2_with fail
    have hb3 := Below.of_alloc w2 (.cells #[.int .i64 k', .int .i64 h', .int .i64 a', .int .i64 n', .slice pa2 m2 c2] 24)
    refine (rparse_out s _ (by omega) HO.out HZ.out).mono ?_
    rintro e w4 ⟨hb4, pa4, m4, c4, rfl, hl4, hc4, hP4⟩
    have HL4 := Lib.hid hl4
    have hB4 := below_on hb4 (below_on hb3 hB2 (Nat.le_refl _)) (by simp)
    have hrow4 := below_heap hb4 (below_heap hb3 hrow2)
    have hrow5 := below_heap hb4 (hp_new w2 (.cells #[.int .i64 k', .int .i64 h', .int .i64 a', .int .i64 n', .slice pa2 m2 c2] 24))
    have hPa4 := (hPa2.keep hb3).keep hb4
    have hPb4 := (hP2.keep hb3).keep hb4
    have hG4 := (hG2.keep hb3).keep hb4
    clear hrow2 hPa2 hP2 hG2 hB2 hb3 hb4 hl4
    go_wp2_with fail
    have hb5 := Below.of_alloc w4 (.cells #[.int .i64 k', .int .i64 h', .int .i64 a', .int .i64 n', .slice pa4 m4 c4] 24)
    have hB5 := below_on hb5 hB4 (Nat.le_refl _)
    have F1 := Five.on hb5 hrow4
    have F2 := Five.on hb5 hrow5
    have F3 : Five (w4.alloc (.cells #[.int .i64 k', .int .i64 h', .int .i64 a', .int .i64 n', .slice pa4 m4 c4] 24)) w4.heap.size _ _ _ _ _ := hp_new w4 _
    have P1 := hPa4.keep hb5
    have P2 := hPb4.keep hb5
    have P3 := hP4.keep hb5
    have hG5 := hG4.keep hb5
    have q1 : (k' == k' && h' == h' && a' == a' && n' == n' && l' == l') = true := by simp
    clear hrow4 hrow5 hPa4 hPb4 hP4 hG4 hB4 hb5
    generalize w4.alloc (.cells #[.int .i64 k', .int .i64 h', .int .i64 a', .int .i64 n', .slice pa4 m4 c4] 24) = w5 at *
    have hd := (Below.refl w5.heap.size w5).drew
    have hB6 := below_on hd hB5 (Nat.le_refl _)
    replace F1 := F1.on hd
    replace F2 := F2.on hd
    replace F3 := F3.on hd
    replace P1 := P1.on hd
    replace P2 := P2.on hd
    replace P3 := P3.on hd
    replace hG5 := hG5.on hd
    clear hd hB5
    go_region_held3 (fun wx => wx.cell? ⟨w.heap.size, 0, none⟩ = some (.int .i64 k) ∧ wx.cell? ⟨w.heap.size, 1, none⟩ = some (.int .i64 h) ∧ wx.cell? ⟨w.heap.size, 2, none⟩ = some (.int .i64 a) ∧ wx.cell? ⟨w.heap.size, 3, none⟩ = some (.int .i64 n) ∧ wx.cell? ⟨w.heap.size, 4, none⟩ = some (.slice pa m c) ∧ wx.cell? ⟨w2.heap.size, 0, none⟩ = some (.int .i64 k') ∧ wx.cell? ⟨w2.heap.size, 1, none⟩ = some (.int .i64 h') ∧ wx.cell? ⟨w2.heap.size, 2, none⟩ = some (.int .i64 a') ∧ wx.cell? ⟨w2.heap.size, 3, none⟩ = some (.int .i64 n') ∧ wx.cell? ⟨w2.heap.size, 4, none⟩ = some (.slice pa2 m2 c2) ∧ wx.cell? ⟨w4.heap.size, 0, none⟩ = some (.int .i64 k') ∧ wx.cell? ⟨w4.heap.size, 1, none⟩ = some (.int .i64 h') ∧ wx.cell? ⟨w4.heap.size, 2, none⟩ = some (.int .i64 a') ∧ wx.cell? ⟨w4.heap.size, 3, none⟩ = some (.int .i64 n') ∧ wx.cell? ⟨w4.heap.size, 4, none⟩ = some (.slice pa4 m4 c4))
      (first | (exact ⟨F1.cells.1, F1.cells.2.1, F1.cells.2.2.1, F1.cells.2.2.2.1, F1.cells.2.2.2.2, F2.cells.1, F2.cells.2.1, F2.cells.2.2.1, F2.cells.2.2.2.1, F2.cells.2.2.2.2, F3.cells.1, F3.cells.2.1, F3.cells.2.2.1, F3.cells.2.2.2.1, F3.cells.2.2.2.2⟩))
      (first
        | (go_at_call 18; refine (text_any k h a n pa m c l _ hG5 hM.out hh.1 hh.2 ha.1 ha.2 hn.1 hn.2 P1 (fun _ => by omega)).mono ?_; rintro e w6 ⟨rfl, hb6⟩; replace F1 := F1.on hb6; replace F2 := F2.on hb6; replace F3 := F3.on hb6; replace P1 := P1.on hb6; replace P2 := P2.on hb6; replace P3 := P3.on hb6; replace hG5 := hG5.on hb6; replace hB6 := below_on hb6 hB6 (Nat.le_refl _))
        | (go_at_call 19; refine (rtext_any k h a n pa m c l _ hM.out hh.1 hh.2 ha.1 ha.2 hn.1 hn.2 P1 (fun _ => by omega)).mono ?_; rintro e w7 ⟨rfl, hb7⟩; replace F1 := F1.on hb7; replace F2 := F2.on hb7; replace F3 := F3.on hb7; replace P1 := P1.on hb7; replace P2 := P2.on hb7; replace P3 := P3.on hb7; replace hG5 := hG5.on hb7; replace hB6 := below_on hb7 hB6 (Nat.le_refl _))
        | (go_at_call 20; refine (same_any k' h' a' n' k' h' a' n' l' l' pa2 pa4 m2 m4 c2 c4 _ HL2.out HL4.out P2 P3 (by have := HL2.out; unfold maxLen; omega) hc2 hc4).mono ?_; rintro e w8 ⟨rfl, hb8⟩; rw [q1]; replace F1 := F1.on hb8; replace F2 := F2.on hb8; replace F3 := F3.on hb8; replace hG5 := hG5.on hb8; replace hB6 := below_on hb8 hB6 (Nat.le_refl _))
        | (go_at_call 15; refine (awake_any _ hG5).mono ?_; rintro e w9 ⟨rfl, hb9⟩; replace F1 := F1.on hb9; replace F2 := F2.on hb9; replace F3 := F3.on hb9; replace hB6 := below_on hb9 hB6 (Nat.le_refl _)))
    go_wp2_with fail
    go_ret
    exact ⟨rfl, hB6⟩

theorem law3_any (k h a n : Int) (pa : Option Addr) (m c : Nat) (l : List (Int × List UInt8)) (s : ByteArray) (w : World) (hG : Gl w) (hm : l.length = m) (hmx : m ≤ maxLen) (hc : m ≤ c) (hP : Ps w pa l)
    (_hk : -9223372036854775808 ≤ k ∧ k ≤ 9223372036854775807) (hh : -9223372036854775808 ≤ h ∧ h ≤ 9223372036854775807) (ha : -9223372036854775808 ≤ a ∧ a ≤ 9223372036854775807) (hn : -9223372036854775808 ≤ n ∧ n ≤ 9223372036854775807) :
    Calls Tryd.prog 3 #[.agg #[.int .i64 k, .int .i64 h, .int .i64 a, .int .i64 n, .slice pa m c], .string s] w fun e w' => e = .returned (.bool true) ∧ Below w.heap.size w w' := by
  by_cases hs : s.size ≤ 3000
  · exact law3_small k h a n pa m c l s w hG hm hmx hc hP hs hh ha hn
  · exact law3_big k h a n pa m c l s w hG hm hmx hc hP (by omega)
end Go.Proofs.YtfdkafmomkkapaaDoor

