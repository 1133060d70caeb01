/- Walks: the reference's text as a block's bytes. -/
import Derived.Test.YtfdkafmomkkapaaDoorA1
import Derived.Test.YtfdkafmomkkapaaDoorA4
import Derived.StillTailTactics
namespace Go.Proofs.YtfdkafmomkkapaaDoor
open Go.RowKit Go.Lib

theorem digit_any' (c : Int) (h0 : 0 ≤ c) (h1 : c < 256) (w : World) :
    Calls Tryd.prog 53 #[.int .u8 c] w fun e w' => e = .returned (.int .i64 (dig c)) ∧ w' = w :=
  (digit_any c h0 h1 w).mono fun _e _w' ⟨he, hw⟩ => ⟨he, hw.symm⟩

set_option maxRecDepth 100000 in
set_option maxHeartbeats 400000 in
theorem runbytes_go (s : ByteArray) (w : World) (n : Nat) (h45 : (s.toList == [45]) = false) (hn1 : s.size ≤ 2 * n) (hn2 : 2 * n ≤ s.size) (hm : s.size ≤ 80) :
    Calls Tryd.prog 22 #[.string s] w (UnB w (unbytesN s.data.toList n)) := by
  have hmk := make40
  have he : s.size % 2 = 0 := by omega
  go_enter Tryd.func22, Tryd.ntmps22
  go_wp2
  go_loopw [5] (fun t wr => ∃ i : Nat, i ≤ n ∧ t = .int .i64 (2 * i) ∧ (List.range i).all (okD s.data.toList) = true ∧ wr.heap[w.heap.size]? = some (.cells (byteCells (fortyD s.data.toList i)).toArray 5 (0, 0)) ∧ Below w.heap.size w wr) (fun t _ => 2 * n - (intOf t).toNat)
  case atStart => exact ⟨0, Nat.zero_le _, rfl, rfl, by rw [← zero40_fortyD]; exact heap_alloc_new w _, (Below.refl _ _).alloc (Nat.le_refl _) _⟩
  case round =>
    obtain ⟨i, hi, rfl, hok, hblk, hbel⟩ := hrel
    have HOK := Lib.hid hok
    clear hok
    by_cases hlt : i < n
    · have k1 : 2 * i < s.size := by omega
      have k2 : 2 * i + 1 < s.size := by omega
      have HH : hiD s.data.toList i = dig (s[2 * i]).toNat := by unfold hiD; rw [getD_data s _ k1]
      have HL : loD s.data.toList i = dig (s[2 * i + 1]).toNat := by unfold loD; rw [getD_data s _ k2]
      have b1 : (s[2 * i]).toNat < 256 := (s[2 * i]).toNat_lt
      have b2 : (s[2 * i + 1]).toNat < 256 := (s[2 * i + 1]).toNat_lt
      have d1 := dig_le (s[2 * i]).toNat
      have d2 := dig_le (s[2 * i + 1]).toNat
      have e1 : (2 * (i : Int)).toNat = 2 * i := by omega
      have e2 : (2 * (i : Int) + 1).toNat = 2 * i + 1 := by omega
      have w1 : IntKind.i64.wrap (2 * (i : Int)) = 2 * (i : Int) := IntWalk.i64_in _ (by omega)
      have w2 : IntKind.i64.wrap (2 * (i : Int) + 1) = 2 * (i : Int) + 1 := IntWalk.i64_in _ (by omega)
      have l1 : 2 * (i : Int) < (s.size : Int) := by omega
      have l2 : 2 * (i : Int) + 1 < (s.size : Int) := by omega
      have l0 : 0 ≤ 2 * (i : Int) := by omega
      have l00 : 0 ≤ 2 * (i : Int) + 1 := by omega
      have HHH := Lib.hid HH
      have HLL := Lib.hid HL
      clear HH HL
      by_cases hg : 0 ≤ dig (s[2 * i]).toNat ∧ 0 ≤ dig (s[2 * i + 1]).toNat
      · obtain ⟨g1, g2⟩ := hg
        have hcell : wr.cell? ⟨w.heap.size, i, none⟩ = some (.int .u8 ((fortyD s.data.toList i)[i]'(by rw [fortyD_length _ _ (by omega)]; omega)).toNat) := by
          rw [cell_of_row _ _ _ _ _ _ hblk]; exact byteCells_at _ _ _
        have hfr : wr.frozen? ⟨w.heap.size, i, none⟩ = false := frozen_of_row _ _ _ _ _ hblk
        have i40 : i < 40 := by omega
        have i41 : (i : Int) < 40 := by omega
        have m0 : IntKind.i64.wrap (i : Int) = (i : Int) := IntWalk.i64_in _ (by omega)
        have m1 : IntKind.i64.wrap (dig (s[2 * i]).toNat * 16) = dig (s[2 * i]).toNat * 16 := IntWalk.i64_in _ (by omega)
        have m2 : IntKind.i64.wrap (dig (s[2 * i]).toNat * 16 + dig (s[2 * i + 1]).toNat) = dig (s[2 * i]).toNat * 16 + dig (s[2 * i + 1]).toNat := IntWalk.i64_in _ (by omega)
        have m3 : IntKind.u8.wrap (dig (s[2 * i]).toNat * 16 + dig (s[2 * i + 1]).toNat) = dig (s[2 * i]).toNat * 16 + dig (s[2 * i + 1]).toNat := IntWalk.u8_in _ (by omega)
        have q1 : (2 * (i : Int)) / 2 = (i : Int) := by omega
        go_wp2_with (go_at_call 53; refine (digit_any _ (by omega) (by omega) _).mono ?_; rintro e w' ⟨rfl, rfl⟩)
        refine wp_region_still_tail 16 (by kernel_rfl) (by kernel_rfl) ?_
        simp only [List.take_succ_cons, List.take_zero, List.drop_succ_cons, List.drop_zero]
        repeat still_step
        still_call (digit_any' _ (by omega) (by omega) _)
        repeat still_step
        still_call (digit_any' _ (by omega) (by omega) _)
        repeat still_step
        refine wpStill_nil ?_
        change wpList _ _ _ _ _ wr.drew
        go_wp2
        go_roundw
        case rel =>
          have hg' : 0 ≤ hiD s.data.toList i ∧ 0 ≤ loD s.data.toList i := by rw [HHH.out, HLL.out]; exact ⟨g1, g2⟩
          refine ⟨i + 1, by omega, by go_num, okD_succ HOK.out (okD_good hg'), ?_, (hbel.setCell (Nat.le_refl _) _).drew⟩
          refine (Lib.heap_setCell_same (w := wr) hblk _).trans ?_
          rw [← HHH.out, ← HLL.out, ← byteD_toNat hg', ← fortyD_succ _ _ i40]
          simp [byteCells]
        case measure => simp [intOf]; omega
      · go_wp2_with (go_at_call 53; refine (digit_any _ (by omega) (by omega) _).mono ?_; rintro e w' ⟨rfl, rfl⟩)
        all_goals
          go_ret2
          exact ⟨hbel, by rw [unbytesN_bad hlt (okD_bad (by rw [HHH.out, HLL.out]; exact hg))]; rfl⟩
    · obtain rfl : i = n := by omega
      clear he
      have hf := fortyD_length s.data.toList i (by omega)
      have HF := Lib.hid hf
      clear hf
      go_wp2_with fail
      refine (rbytes_any _ _ _ _ _ HF.out (Bs.row hblk) (by omega)).mono ?_
      rintro e w1 ⟨rfl, hb1⟩
      have hbel1 := hbel.trans (hb1.mono hbel.size)
      have hblk1 := (hb1.block w.heap.size (by have := hblk; exact (Array.getElem?_eq_some_iff.1 this).1)).trans hblk
      clear hb1 hblk hbel
      go_wp2
      · go_ret2
        exact unB_no hbel1 ‹_›
      · go_ret2
        exact unB_yes hbel1 HOK.out ‹_› (Nat.le_refl _) hblk1 HF.out

set_option maxRecDepth 100000 in
set_option maxHeartbeats 400000 in
theorem runbytes_dash (s : ByteArray) (w : World) (h45 : (s.toList == [45]) = true) :
    Calls Tryd.prog 22 #[.string s] w (UnB w (some (List.replicate 40 0))) := by
  have hmk := make40
  go_enter Tryd.func22, Tryd.ntmps22
  go_wp2
  go_ret2
  exact ⟨(Below.refl _ _).alloc (Nat.le_refl _) _, w.heap.size, rfl, Nat.le_refl _, heap_alloc_new w _, by simp⟩

set_option maxRecDepth 100000 in
set_option maxHeartbeats 400000 in
theorem runbytes_odd (s : ByteArray) (w : World) (h45 : (s.toList == [45]) = false) (h : s.size % 2 = 1) :
    Calls Tryd.prog 22 #[.string s] w (UnB w none) := by
  have hmk := make40
  go_enter Tryd.func22, Tryd.ntmps22
  go_wp2
  go_ret2
  exact ⟨(Below.refl _ _).alloc (Nat.le_refl _) _, rfl⟩

set_option maxRecDepth 100000 in
set_option maxHeartbeats 400000 in
theorem runbytes_long (s : ByteArray) (w : World) (h45 : (s.toList == [45]) = false) (h : s.size % 2 = 0) (hl : 80 < s.size) :
    Calls Tryd.prog 22 #[.string s] w (UnB w none) := by
  have hmk := make40
  go_enter Tryd.func22, Tryd.ntmps22
  go_wp2
  go_ret2
  exact ⟨(Below.refl _ _).alloc (Nat.le_refl _) _, rfl⟩

/-- scarpref28.Unbytes. -/
theorem runbytes_any (s : ByteArray) (w : World) : Calls Tryd.prog 22 #[.string s] w (UnB w (unbytesT s.data.toList)) :=
  unbytes_cases s w (runbytes_dash s w) (runbytes_odd s w) (runbytes_long s w) (runbytes_go s w)

end Go.Proofs.YtfdkafmomkkapaaDoor
