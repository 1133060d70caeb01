/- Walks: decimal numerals. -/
import Derived.Test.YtfdkafmomkkapaaDoorA2
import Derived.IntWalk
namespace Go.Proofs.YtfdkafmomkkapaaDoor
open Go.RowKit Go.Lib

/-- the cell of a digit. -/
theorem digit_cell (u : Nat) : #[Value.int IntKind.u8 (48 + (u : Int) % 10)] = (byteCells [UInt8.ofNat (48 + u % 10)]).toArray := by
  have h : ((UInt8.ofNat (48 + u % 10)).toNat : Int) = 48 + (u : Int) % 10 := by
    rw [UInt8.toNat_ofNat']; omega
  simp only [byteCells, List.map_cons, List.map_nil, h]

set_option maxRecDepth 100000 in
set_option maxHeartbeats 400000 in
theorem decimal_zero (w : World) :
    Calls Tryd.prog 50 #[.int .i64 0] w fun e w' => e = .returned (.string ⟨(Lib.itoa 0).toArray⟩) ∧ Below w.heap.size w w' := by
  have h0 : Lib.itoa 0 = [48] := by decide +kernel
  have H0 := Lib.hid h0
  clear h0
  go_enter Tryd.func50, Tryd.ntmps50
  go_wp2
  go_ret
  exact ⟨by rw [H0.out]; rfl, Below.refl _ _⟩

set_option maxRecDepth 100000 in
set_option maxHeartbeats 400000 in
theorem decimal_pos (n : Nat) (w : World) (h0 : 0 < n) (h1 : n ≤ 9223372036854775807) :
    Calls Tryd.prog 50 #[.int .i64 n] w fun e w' => e = .returned (.string ⟨(decD n).toArray⟩) ∧ Below w.heap.size w w' := by
  have hz : ((n : Int) == 0) = false := by rw [beq_eq_false_iff_ne]; omega
  have hw : IntKind.u64.wrap (n : Int) = (n : Int) := by rw [IntKind.wrap_u64]; omega
  have hlen := decD_length n 20 (by omega)
  go_enter Tryd.func50, Tryd.ntmps50
  go_wp2
  go_loopw [3, 4] (fun us v wr => ∃ (u : Nat) (l : List UInt8), u ≤ n ∧ decD n = decD u ++ l ∧ us = .int .u64 u ∧ wr.ownsRow w.heap.size 5 1 v l.length (byteCells l) ∧ Below w.heap.size w wr) (fun us _ _ => (intOf us).toNat)
  case atStart => exact ⟨n, [], Nat.le_refl _, by simp, rfl, World.ownsRow_nil _ _ _ _, Below.refl _ _⟩
  case round =>
    obtain ⟨u, l, hu, hd, rfl, hown, hbel⟩ := hrel
    have HD := Lib.hid hd
    have hll : l.length ≤ 20 := by rw [hd, List.length_append] at hlen; omega
    clear hd
    have hsz := hbel.size
    by_cases hu0 : 0 < u
    · go_wp2_with (at_builtin; refine wpList_append_row rfl (.tmp 19) (.tmp 20) 35 5 rfl ty35 inf5 w.heap.size _ 1 [UInt8.ofNat (48 + u % 10)] rfl (own_lit _ (digit_cell u) hsz (by simp [maxLen])) w.heap.size _ l.length l rfl (hown.alloc _) ?_ ?_ ?_; omega; (simp; omega); intro v' w' hap)
      have hd2 := decD_step hu0 HD.out
      have HD2 := Lib.hid hd2
      have hown2 := hap.1
      have hbel2 := (hbel.alloc hsz _).trans hap.2.1
      clear hd2 hap hown HD hbel
      go_wp2
      go_roundw
      case rel => exact ⟨u / 10, UInt8.ofNat (48 + u % 10) :: l, by omega, HD2.out, by go_num, by rw [List.length_cons, Nat.add_comm]; exact hown2, hbel2⟩
      case measure => simp [intOf]; omega
    · obtain rfl : u = 0 := by omega
      have hcv := fun (w : World) (h : wr.heap = w.heap) => own_convert (P := Tryd.prog) (w := w) (src := 35) (dst := 9) (e := 5) ty35 ty5 ty9 (by unfold World.ownsRow at hown ⊢; rw [← h]; exact hown)
      go_wp2
      go_ret
      exact ⟨by rw [HD.out, decD_zero]; rfl, hbel⟩

set_option maxRecDepth 100000 in
set_option maxHeartbeats 400000 in
theorem decimal_neg (n : Int) (N : Nat) (w : World) (h0 : n < 0) (hN : -n ≤ N) (hN' : N ≤ -n) (h1 : -9223372036854775808 ≤ n) :
    Calls Tryd.prog 50 #[.int .i64 n] w fun e w' => e = .returned (.string ⟨(45 :: decD N).toArray⟩) ∧ Below w.heap.size w w' := by
  have hz : (n == 0) = false := by rw [beq_eq_false_iff_ne]; omega
  have hw : IntKind.u64.wrap (-IntKind.u64.wrap n) = (N : Int) := by rw [IntKind.wrap_u64, IntKind.wrap_u64]; omega
  have hlen := decD_length N 20 (by omega)
  have hNp : 0 < N := by omega
  have hNb : N ≤ 9223372036854775808 := by omega
  clear hN hN'
  go_enter Tryd.func50, Tryd.ntmps50
  go_wp2
  go_loopw [3, 4] (fun us v wr => ∃ (u : Nat) (l : List UInt8), u ≤ N ∧ decD N = decD u ++ l ∧ us = .int .u64 u ∧ wr.ownsRow w.heap.size 5 1 v l.length (byteCells l) ∧ Below w.heap.size w wr) (fun us _ _ => (intOf us).toNat)
  case atStart => exact ⟨N, [], Nat.le_refl _, by simp, rfl, World.ownsRow_nil _ _ _ _, Below.refl _ _⟩
  case round =>
    obtain ⟨u, l, hu, hd, rfl, hown, hbel⟩ := hrel
    have HD := Lib.hid hd
    have hll : l.length ≤ 20 := by rw [hd, List.length_append] at hlen; omega
    clear hd
    have hsz := hbel.size
    by_cases hu0 : 0 < u
    · go_wp2_with (at_builtin; refine wpList_append_row rfl (.tmp 19) (.tmp 20) 35 5 rfl ty35 inf5 w.heap.size _ 1 [UInt8.ofNat (48 + u % 10)] rfl (own_lit _ (digit_cell u) hsz (by simp [maxLen])) w.heap.size _ l.length l rfl (hown.alloc _) ?_ ?_ ?_; omega; (simp; omega); intro v' w' hap)
      have hd2 := decD_step hu0 HD.out
      have HD2 := Lib.hid hd2
      have hown2 := hap.1
      have hbel2 := (hbel.alloc hsz _).trans hap.2.1
      clear hd2 hap hown HD hbel
      go_wp2
      go_roundw
      case rel => exact ⟨u / 10, UInt8.ofNat (48 + u % 10) :: l, by omega, HD2.out, by go_num, by rw [List.length_cons, Nat.add_comm]; exact hown2, hbel2⟩
      case measure => simp [intOf]; omega
    · obtain rfl : u = 0 := by omega
      go_wp2_with (at_builtin; refine wpList_append_row rfl (.tmp 26) (.tmp 27) 35 5 rfl ty35 inf5 w.heap.size _ 1 [45] rfl (own_lit _ rfl hsz (by simp [maxLen])) w.heap.size _ l.length l rfl (hown.alloc _) ?_ ?_ ?_; omega; (simp; omega); intro v' w' hap; have hcv := own_convert (P := Tryd.prog) (src := 35) (dst := 9) ty35 ty5 ty9 hap.1)
      have hown2 := hap.1
      have hbel2 := (hbel.alloc hsz _).trans hap.2.1
      clear hcv hap hown hbel
      go_ret
      exact ⟨by rw [HD.out, decD_zero]; rfl, hbel2⟩

/-- scarpref1.Decimal: the numeral that strconv.Itoa writes. -/
theorem decimal_any (n : Int) (w : World) (h0 : -9223372036854775808 ≤ n) (h1 : n ≤ 9223372036854775807) :
    Calls Tryd.prog 50 #[.int .i64 n] w fun e w' => e = .returned (.string ⟨(Lib.itoa n).toArray⟩) ∧ Below w.heap.size w w' := by
  by_cases hz : n = 0
  · subst hz; exact decimal_zero w
  by_cases hp : 0 < n
  · obtain ⟨m, rfl⟩ := Int.eq_ofNat_of_zero_le (Int.le_of_lt hp)
    have e : Lib.itoa (m : Int) = decD m := by unfold Lib.itoa; rw [if_neg (by omega), decD_eq m (by omega)]; rfl
    rw [e]
    exact decimal_pos m w (by omega) (by omega)
  · have e : Lib.itoa n = 45 :: decD n.natAbs := by unfold Lib.itoa; rw [if_pos (by omega), decD_eq _ (by omega)]
    rw [e]
    exact decimal_neg n n.natAbs w (by omega) (by omega) (by omega) h0

end Go.Proofs.YtfdkafmomkkapaaDoor
