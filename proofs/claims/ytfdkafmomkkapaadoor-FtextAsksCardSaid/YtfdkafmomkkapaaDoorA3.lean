/- Walks: bytes as hex digits. -/
import Derived.Test.YtfdkafmomkkapaaDoorProg
import Derived.Test.YtfdkafmomkkapaaDoorPl
import Derived.Test.YtfdkafmomkkapaaDoorTk
import Derived.WalkKit
import Derived.WalkSpells
import Derived.WalkLawsBesides
import Derived.Deep.RegionLaw
import Derived.BigRegion
import Derived.Test.YtfdkafmomkkapaaDoorA2
import Derived.Lib.Hide
namespace Go.Proofs.YtfdkafmomkkapaaDoor
open Go.RowKit Go.Lib

set_option maxRecDepth 100000 in
set_option maxHeartbeats 400000 in
theorem rbytes_one (b off c : Nat) (l : List UInt8) (w : World) (hm : l.length ≤ 1000000)
    (hb : b < w.heap.size) (hc : ∀ j (h : j < l.length), w.cell? ⟨b, off + j, none⟩ = some (.int .u8 l[j].toNat)) :
    Calls Tryd.prog 24 #[.slice (some ⟨b, off, none⟩) l.length c] w fun e w' => e = .returned (.string ⟨(bytesT l).toArray⟩) ∧ Below w.heap.size w w' := by
  obtain ⟨i0, hi, hz0, hz1, hz2⟩ := info_parts inf5
  go_enter Tryd.func24, Tryd.ntmps24
  go_wp2
  go_loop [3] (fun s => ∃ k : Nat, k ≤ l.length ∧ keep (l.take k) = keep l ∧ s = .int .i64 k) (fun s => (intOf s).toNat)
  case atStart => exact ⟨l.length, Nat.le_refl _, by rw [List.take_length], rfl⟩
  case round =>
    obtain ⟨k, hk, hkeep, rfl⟩ := hrel
    have HK := Lib.hid hkeep
    clear hkeep
    by_cases h0 : 0 < k
    · have hx : ((k : Int) - 1).toNat = k - 1 := by omega
      have hcell := hc (k - 1) (by omega)
      by_cases hz : l[k - 1]'(by omega) = 0
      · have hz' : (l[k - 1]'(by omega)).toNat = 0 := by rw [hz]; rfl
        have hcell : w.cell? ⟨b, off + (k - 1), none⟩ = some (.int .u8 0) := by rw [hcell, hz']; rfl
        go_wp2
        go_round
        case rel =>
          refine ⟨k - 1, by omega, ?_, by congr 1; omega⟩
          rw [← HK.out, show k = k - 1 + 1 by omega, List.take_succ_eq_append_getElem (by omega), hz, keep_snoc_zero]
          rfl
        case measure => simp [intOf]; omega
      · have hz' : (((l[k - 1]'(by omega)).toNat : Int) == 0) = false := by
          rw [beq_eq_false_iff_ne]; intro e; exact hz (UInt8.toNat_inj.1 (by simpa using e))
        have hkk : keep l = k := by
          rw [← HK.out, show k = k - 1 + 1 by omega, List.take_succ_eq_append_getElem (by omega), keep_snoc _ _ hz]
          simp; omega
        have HKK := Lib.hid hkk
        clear hkk HK
        go_wp2
        clear hz' hcell hx hz
        go_loopw [4, 5] (fun v i wr => ∃ n : Nat, n ≤ k ∧ i = .int .i64 n ∧ wr.ownsRow w.heap.size 5 1 v (2 * n) (byteCells (hexs (l.take n))) ∧ Below w.heap.size w wr) (fun _ i _ => k - (intOf i).toNat)
        case atStart => exact ⟨0, Nat.zero_le _, rfl, World.ownsRow_nil _ _ _ _, Below.refl _ _⟩
        case round =>
          obtain ⟨n, hn, rfl, hown, hbel⟩ := hrel
          by_cases hlt : n < k
          · have hcell : wr.cell? ⟨b, off + n, none⟩ = some (.int .u8 (l[n]'(by omega)).toNat) := (hbel.cell hb).trans (hc n (by omega))
            have hbd : (l[n]'(by omega)).toNat < 256 := (l[n]'(by omega)).toNat_lt
            generalize hx : (l[n]'(by omega)).toNat = x at *
            go_wp2
            have e15 := and15 x hbd
            have b1 : 0 ≤ (x : Int) / 16 := by omega
            have b2 : (x : Int) / 16 < 16 := by omega
            have b3 : 0 ≤ (x : Int) % 16 := by omega
            have b4 : (x : Int) % 16 < 16 := by omega
            have e1 : ((x : Int) / 16).toNat = x / 16 := by omega
            have e2 : ((x : Int) % 16).toNat = x % 16 := by omega
            have hsz := hbel.size
            have hnl : n < l.length := by omega
            go_region_law (refine step_append_new rfl _ _ 35 5 rfl ty35 inf5 w.heap.size wr [hexc (x / 16), hexc (x % 16)] _ (2 * n) (hexs (l.take n)) rfl hown ?_ ?_ ?_ (k := 1) rfl 2 rfl ?_; (simp; omega); omega; exact hexNew _ _ _ _; intro v' w' hap)
            all_goals
              have HX := Lib.hid hx
              have hap2 : w'.ownsRow w.heap.size 5 1 v' (2 * (n + 1)) (byteCells (hexs (l.take (n + 1)))) := by
                have := hap.1
                rw [List.take_succ_eq_append_getElem (by omega), hexs_snoc, hex2, HX.out]
                exact this
              have hb2 := hbel.trans hap.2.1
              clear hap
              clear hx hcell hown
              go_wp2
              go_roundw
              case rel => exact ⟨n + 1, by omega, by go_num, hap2, hb2⟩
              case measure => simp [intOf]; omega
          · obtain rfl : n = k := by omega
            have hcv := fun (w : World) (h : wr.heap = w.heap) => own_convert (P := Tryd.prog) (w := w) (src := 35) (dst := 9) (e := 5) ty35 ty5 ty9 (by unfold World.ownsRow at hown ⊢; rw [← h]; exact hown)
            go_wp2
            go_ret
            exact ⟨by simp [bytesT, HKK.out, trim0]; omega, hbel⟩
    · obtain rfl : k = 0 := by omega
      have hk0 : keep l = 0 := by rw [← HK.out]; rfl
      have HK0 := Lib.hid hk0
      clear hk0
      go_wp2
      go_ret
      exact ⟨by simp [bytesT, HK0.out], Below.refl _ _⟩
set_option maxRecDepth 100000 in
set_option maxHeartbeats 400000 in
theorem rbytes_none (a : Option Addr) (c : Nat) (w : World) :
    Calls Tryd.prog 24 #[.slice a 0 c] w fun e w' => e = .returned (.string ⟨#[45]⟩) ∧ w = w' := by
  go_enter Tryd.func24, Tryd.ntmps24
  go_wp2
  refine wp_loop_rounds 1 ?_
  rw [rounds_succ]
  go_wp2
  go_ret
  exact ⟨rfl, rfl⟩

/-- scarpref28.Bytes. -/
theorem rbytes_any (a : Option Addr) (n c : Nat) (l : List UInt8) (w : World) (hn : l.length = n) (h : Bs w a l) (hm : n ≤ 1000000) :
    Calls Tryd.prog 24 #[.slice a n c] w fun e w' => e = .returned (.string ⟨(bytesT l).toArray⟩) ∧ Below w.heap.size w w' := by
  subst hn
  rcases h with rfl | ⟨b, off, rfl, hb, hc⟩
  · exact (rbytes_none a c w).mono fun e w' ⟨he, hw⟩ => ⟨he, hw ▸ Below.refl _ _⟩
  · exact rbytes_one b off c l w hm hb hc

end Go.Proofs.YtfdkafmomkkapaaDoor
