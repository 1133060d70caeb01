/- Walks: numbers at base 16. -/
import Derived.Test.YtfdkafmomkkapaaGreatDoorV1
import Derived.Test.YtfdkafmomkkapaaGreatDoorU1
import Derived.Test.YtfdkafmomkkapaaGreatDoorC1
namespace Go.Proofs.YtfdkafmomkkapaaGreatDoor
open Go.RowKit Go.Lib

/-- the library's variables that numbers' texts need. -/
def Gz (w : World) : Prop := Gl w ∧ w.cell? ⟨6, 15, none⟩ = some (.int .u8 4)
theorem Gz.on {w w' : World} (hb : Below w.heap.size w w') (h : Gz w) : Gz w' := ⟨h.1.on hb, below_keep hb h.2⟩
theorem Gz.drewN {w : World} (h : Gz w) (n : Nat) : Gz (w.drewN n) := h

theorem pow2_any (w : World) : Calls Tryz.prog 89 #[.int .i64 16] w fun e w' => e = .returned (.bool true) ∧ w = w' := by
  have h : bits .and .i64 16 15 = 0 := by decide +kernel
  go_enter Tryz.func89, Tryz.ntmps89
  go_wp2
  go_ret
  exact ⟨rfl, rfl⟩

theorem tz16 : IntKind.u64.wrap (bits BinOp.and IntKind.u64 16 (IntKind.u64.wrap (-16)) * 285870213051353865) / 288230376151711744 = 15 := by decide +kernel
set_option maxRecDepth 100000 in
theorem tz64_any (w : World) (h : w.cell? ⟨6, 15, none⟩ = some (.int .u8 4)) : Calls Tryz.prog 97 #[.int .u64 16] w fun e w' => e = .returned (.int .i64 4) ∧ w = w' := by
  have e := tz16
  go_enter Tryz.func97, Tryz.ntmps97
  go_wp2
  go_ret
  exact ⟨rfl, rfl⟩
theorem tz_any (w : World) (h : w.cell? ⟨6, 15, none⟩ = some (.int .u8 4)) : Calls Tryz.prog 90 #[.int .u64 16] w fun e w' => e = .returned (.int .i64 4) ∧ w = w' := by
  go_enter Tryz.func90, Tryz.ntmps90
  go_wp2_with fail
  refine (tz64_any w h).mono ?_
  rintro e w' ⟨rfl, rfl⟩
  go_wp2_with fail
  go_ret
  exact ⟨rfl, rfl⟩

theorem hxD_small {u : Nat} (h : u < 16) : hxD u = [hexc u] := by rw [hxD, dif_pos h]
theorem hxD_big {u : Nat} (h : ¬ u < 16) : hxD u = hxD (u / 16) ++ [hexc (u % 16)] := by rw [hxD, dif_neg h]
theorem hxD_length (u : Nat) : ∀ k, u < 16 ^ (k + 1) → (hxD u).length ≤ k + 1 := by
  induction u using Nat.strongRecOn with
  | ind u ih =>
    intro k hk
    by_cases h : u < 16
    · rw [hxD_small h]; simp
    · rw [hxD_big h, List.length_append]
      cases k with
      | zero => omega
      | succ k =>
        have := ih (u / 16) (by omega) k (by rw [Nat.pow_succ] at hk; omega)
        simp; omega
theorem digs36 (i : Nat) (h : i < 16) (hs : i < (ByteArray.mk #[48, 49, 50, 51, 52, 53, 54, 55, 56, 57, 97, 98, 99, 100, 101, 102, 103, 104, 105, 106, 107, 108, 109, 110, 111, 112, 113, 114, 115, 116, 117, 118, 119, 120, 121, 122]).size) :
    (ByteArray.mk #[48, 49, 50, 51, 52, 53, 54, 55, 56, 57, 97, 98, 99, 100, 101, 102, 103, 104, 105, 106, 107, 108, 109, 110, 111, 112, 113, 114, 115, 116, 117, 118, 119, 120, 121, 122])[i]'hs = hexc i := by
  have key : ∀ y : Fin 16, (ByteArray.mk #[48, 49, 50, 51, 52, 53, 54, 55, 56, 57, 97, 98, 99, 100, 101, 102, 103, 104, 105, 106, 107, 108, 109, 110, 111, 112, 113, 114, 115, 116, 117, 118, 119, 120, 121, 122])[y.val]'(Nat.lt_trans y.isLt (by decide)) = hexc y.val := by decide +kernel
  exact key ⟨i, h⟩

/-- where formatBits stands: its number v, its place j + 1, its array. -/
def FmtR (w : World) (U : Nat) (wr : World) (v j : Nat) (C : Array Value) (ds : List UInt8) : Prop :=
  j + 1 + ds.length = 65 ∧ ds.length ≤ 12 ∧ v < 16 ^ (13 - ds.length) ∧ hxD U = hxD v ++ ds ∧ wr.heap[w.heap.size]? = some (.cells C 114 (0, 0)) ∧ C.size = 65 ∧ C.toList.drop (j + 1) = Lib.byteCells ds ∧ Below w.heap.size w wr
theorem fmtR_step {w : World} {U : Nat} {wr : World} {v j : Nat} {C : Array Value} {ds : List UInt8} (h : FmtR w U wr v j C ds) (hv : 16 ≤ v) :
    ∃ j', j = j' + 1 ∧ FmtR w U (wr.setCell ⟨w.heap.size, j, none⟩ (.int .u8 (hexc (v % 16)).toNat)) (v / 16) j' (C.setIfInBounds j (.int .u8 (hexc (v % 16)).toNat)) (hexc (v % 16) :: ds) := by
  obtain ⟨h1, h2, h3, h4, h5, h6, h7, h8⟩ := h
  have hl : ds.length ≤ 11 := by
    rcases Nat.lt_or_ge ds.length 12 with h | h
    · omega
    · have : ds.length = 12 := by omega
      rw [this] at h3
      omega
  refine ⟨j - 1, by omega, by simp; omega, by simp; omega, ?_, ?_, ?_, ?_, ?_, h8.setCell (Nat.le_refl _) _⟩
  · have e : 13 - ds.length = (13 - (hexc (v % 16) :: ds).length) + 1 := by simp; omega
    rw [e, Nat.pow_succ] at h3
    omega
  · rw [h4, hxD_big (by omega), List.append_assoc]; rfl
  · rw [Lib.heap_setCell_same h5]
  · simp [h6]
  · have hj : j < C.toList.length := by simp [h6]; omega
    have e : j - 1 + 1 = j := by omega
    rw [e, Array.toList_setIfInBounds, List.drop_set, if_neg (by omega)]
    simp only [Nat.sub_self]
    rw [List.drop_eq_getElem_cons hj, h7]
    rfl
theorem fmtR_cell {w : World} {U : Nat} {wr : World} {v j : Nat} {C : Array Value} {ds : List UInt8} (h : FmtR w U wr v j C ds) : (∃ x, wr.cell? ⟨w.heap.size, j, none⟩ = some x) ∧ wr.frozen? ⟨w.heap.size, j, none⟩ = false := by
  obtain ⟨h1, h2, h3, h4, h5, h6, h7, h8⟩ := h
  refine ⟨?_, frozen_of_row _ _ _ _ _ h5⟩
  rw [cell_of_row _ _ _ _ _ _ h5]
  exact ⟨_, Array.getElem?_eq_getElem (by omega)⟩
theorem fmtR_bd {w : World} {U : Nat} {wr : World} {v j : Nat} {C : Array Value} {ds : List UInt8} (h : FmtR w U wr v j C ds) : v < 4503599627370496 ∧ j ≤ 64 := by
  obtain ⟨h1, h2, h3, -⟩ := h
  have : 16 ^ (13 - ds.length) ≤ 16 ^ 13 := Nat.pow_le_pow_right (by decide) (by omega)
  have e : (16 : Nat) ^ 13 = 4503599627370496 := by decide
  omega
theorem and15_u64 {v : Nat} (h : v < 18446744073709551616) : bits .and .u64 (v : Int) 15 = ((v % 16 : Nat) : Int) := by
  have := u64_and_nat v 15 h (by decide)
  rw [nat_mask4] at this
  exact this

theorem slice65 (N j : Nat) (hj : j ≤ 64) (w : World) : (Instr.sliceAt 114 (.pointer (some ⟨N, 0, none⟩)) (some (.int .i64 (j : Int))) none none).run Tryz.prog w = .ok (.slice (some ⟨N, j, none⟩) (65 - j) (65 - j)) w := by
  have e1 : Tryz.prog.arrayLen 114 = 65 := by kernel_rfl
  have e2 : Tryz.prog.elem 114 = 5 := by kernel_rfl
  have e3 : (sizeOf 5).run Tryz.prog w = .ok 1 w := by kernel_rfl
  have h := run_sliceAt_array_l (P := Tryz.prog) w 114 ⟨N, 0, none⟩ (by rw [e1, e2]; exact Tryz.underlying114) .i64 (j : Int) (by omega) (by rw [e1]; omega)
  rw [h, e1, e2, e3]
  have hne : ¬ (65 : Nat) = j := by omega
  simp only [Result.andThen_ok, slicedAt, Int.toNat_natCast, Nat.mul_one, if_neg hne]
  have ha : (⟨N, 0, none⟩ : Addr).add j = ⟨N, j, none⟩ := by unfold Addr.add; split <;> simp_all
  rw [ha]
theorem conv_cells {w : World} {N j : Nat} {l : List UInt8} {C : Array Value} {t : TypeId} (hb : w.heap[N]? = some (.cells C t (0, 0))) (hC : C.toList.drop j = Lib.byteCells l) (n c : Nat) (hn : l.length = n) :
    (convert 65 9 (.slice (some ⟨N, j, none⟩) n c)).run Tryz.prog w = .ok (.string ⟨l.toArray⟩) w := by
  subst hn
  refine run_convert_bytes_back w 65 9 5 ⟨N, j, none⟩ c l (by kernel_rfl) (by kernel_rfl) (by kernel_rfl) fun i hi => ?_
  have ha : (⟨N, j, none⟩ : Addr).add i = ⟨N, j + i, none⟩ := by unfold Addr.add; split <;> simp_all
  rw [ha, cell_of_row _ _ _ _ _ _ hb, ← Array.getElem?_toList, ← List.getElem?_drop, hC]
  simp [Lib.byteCells, hi]
theorem fmtR_last {w : World} {U : Nat} {wr : World} {v j : Nat} {C : Array Value} {ds : List UInt8} (h : FmtR w U wr v j C ds) (hv : v < 16) (n c : Nat) (hn : n = 65 - j) :
    (convert 65 9 (.slice (some ⟨w.heap.size, j, none⟩) n c)).run Tryz.prog (wr.setCell ⟨w.heap.size, j, none⟩ (.int .u8 (hexc v).toNat)) = .ok (.string ⟨(hxD U).toArray⟩) (wr.setCell ⟨w.heap.size, j, none⟩ (.int .u8 (hexc v).toNat)) := by
  obtain ⟨h1, h2, h3, h4, h5, h6, h7, h8⟩ := h
  have hj : j < C.toList.length := by simp [h6]; omega
  refine conv_cells (l := hxD U) (by rw [Lib.heap_setCell_same h5]) ?_ n c ?_
  · rw [Array.toList_setIfInBounds, List.drop_set, if_neg (by omega)]
    simp only [Nat.sub_self]
    rw [List.drop_eq_getElem_cons hj, h7, h4, hxD_small hv]
    rfl
  · rw [h4, hxD_small hv]; simp; omega

set_option maxRecDepth 100000 in
set_option maxHeartbeats 2000000 in
theorem fmt16_any (u : Nat) (w : World) (hG : w.cell? ⟨6, 15, none⟩ = some (.int .u8 4)) (hu : u < 4503599627370496) :
    Calls Tryz.prog 74 #[.slice none 0 0, .int .u64 u, .int .i64 16, .bool false, .bool false] w fun e w' => e = .returned (.tuple #[.slice none 0 0, .string ⟨(hxD u).toArray⟩]) ∧ Below w.heap.size w w' := by
  go_enter Tryz.func74, Tryz.ntmps74
  go_wp2_with fail
  refine (pow2_any _).mono ?_
  rintro e w1 ⟨rfl, rfl⟩
  go_wp2_with fail
  refine (tz_any _ (below_keep (Below.of_alloc _ _) hG)).mono ?_
  rintro e w1 ⟨rfl, rfl⟩
  go_wp2_with fail
  go_loopw [1, 13] (fun a i wr => ∃ (v j : Nat) (C : Array Value) (ds : List UInt8), a = .int .u64 v ∧ i = .int .i64 ((j + 1 : Nat) : Int) ∧ FmtR w u wr v j C ds) (fun a _ _ => (intOf a).toNat)
  case atStart =>
    refine ⟨u, 64, Tryz.zeroCells114, [], rfl, rfl, rfl, by decide, ?_, by simp, heap_alloc_new w _, by kernel_rfl, ?_, Below.of_alloc _ _⟩
    · show u < 16 ^ 13; omega
    · have e : Tryz.zeroCells114.size = 65 := by kernel_rfl
      show Tryz.zeroCells114.toList.drop 65 = _
      rw [List.drop_eq_nil_of_le (by rw [Array.length_toList, e]; exact Nat.le_refl _)]; rfl
  case round =>
    obtain ⟨v, j, C, ds, rfl, rfl, hF⟩ := hrel
    obtain ⟨hvb, hj⟩ := fmtR_bd hF
    by_cases hv : 16 ≤ v
    · have hb := and15_u64 (v := v) (by omega)
      obtain ⟨⟨x, hx⟩, hfz⟩ := fmtR_cell hF
      obtain ⟨j', hjj, hF2⟩ := fmtR_step hF hv
      have HJ := Lib.hid hjj
      have HF2 := Lib.hid hF2
      clear hF hjj hF2
      go_wp2_with fail
      go_roundw
      case rel => exact ⟨v / 16, j', _, _, by go_num, by rw [← HJ.out], by rw [digs36 (v % 16) (by omega)]; exact HF2.out⟩
      case measure => simp [intOf]; omega
    · obtain ⟨⟨x, hx⟩, hfz⟩ := fmtR_cell hF
      have hsl := slice65 w.heap.size j hj
      have hcv := fmtR_last hF (by omega) (65 - j) (65 - j) rfl
      rw [← digs36 v (by omega) (Nat.lt_trans (by omega : v < 16) (by decide))] at hcv
      have hBz := hF.2.2.2.2.2.2.2
      clear hF
      have HB := Lib.hid hBz
      clear hBz
      go_wp2_with fail
      go_ret2
      exact ⟨rfl, HB.out.setCell (Nat.le_refl _) _⟩
end Go.Proofs.YtfdkafmomkkapaaGreatDoor
