/- Walks: the reference's Answer. -/
import Derived.Test.YtfdkafmomkkapaaDoorB1
import Derived.Test.YtfdkafmomkkapaaDoorG5
import Derived.Deep.DeepCutAuto
namespace Go.Proofs.YtfdkafmomkkapaaDoor
open Go.RowKit Go.Lib

theorem bs_piece {w : World} {b off : Nat} {d : List UInt8} (hb : b < w.heap.size) (hc : ∀ j (h : j < d.length), w.cell? ⟨b, off + j, none⟩ = some (.int .u8 d[j].toNat)) (j : Nat) : Bs w (some ⟨b, off + 40 * j, none⟩) (piece d j) := by
  refine Or.inr ⟨b, off + 40 * j, rfl, hb, fun i hi => ?_⟩
  have hl := piece_length d j
  have h1 : 40 * j + i < d.length := by omega
  have h2 := hc (40 * j + i) h1
  rw [← Nat.add_assoc] at h2
  rw [h2]
  have e : (piece d j)[i]? = d[40 * j + i]? := by unfold piece; rw [List.getElem?_take_of_lt (by omega), List.getElem?_drop]
  rw [List.getElem?_eq_getElem hi, List.getElem?_eq_getElem h1] at e
  injection e with e
  rw [e]

set_option maxRecDepth 100000 in
set_option maxHeartbeats 2000000 in
theorem rans_any (k z h t : Int) (pa : Option Addr) (m c : Nat) (d : List UInt8) (w : World) (hm : d.length = m) (hm3 : m ≤ 3000) (hc : m ≤ c) (hB : Bs w pa d)
    (hz0 : -9223372036854775808 ≤ z) (hz1 : z ≤ 9223372036854775807) (hh0 : -9223372036854775808 ≤ h) (hh1 : h ≤ 9223372036854775807) (ht0 : -9223372036854775808 ≤ t) (ht1 : t ≤ 9223372036854775807) :
    Calls Tryd.prog 27 #[.agg #[.int .i64 k, .int .i64 z, .int .i64 h, .int .i64 t, .slice pa m c]] w (StrR w (ansT k z h t d)) := by
  have hbl := Below.of_alloc w (.cells #[.int .i64 k, .int .i64 z, .int .i64 h, .int .i64 t, .slice pa m c] 47)
  have HD := Lib.hid (hB.keep hbl)
  have HM := Lib.hid hm
  clear hm hB
  go_enter Tryd.func27, Tryd.ntmps27
  go_upto_region 1 with fail
  have c0 : (w.alloc (.cells #[.int .i64 k, .int .i64 z, .int .i64 h, .int .i64 t, .slice pa m c] 47)).cell? ⟨w.heap.size, 0, none⟩ = some (.int .i64 k) := by simp
  have c1 : (w.alloc (.cells #[.int .i64 k, .int .i64 z, .int .i64 h, .int .i64 t, .slice pa m c] 47)).cell? ⟨w.heap.size, 1, none⟩ = some (.int .i64 z) := by simp
  have c2 : (w.alloc (.cells #[.int .i64 k, .int .i64 z, .int .i64 h, .int .i64 t, .slice pa m c] 47)).cell? ⟨w.heap.size, 2, none⟩ = some (.int .i64 h) := by simp
  have c3 : (w.alloc (.cells #[.int .i64 k, .int .i64 z, .int .i64 h, .int .i64 t, .slice pa m c] 47)).cell? ⟨w.heap.size, 3, none⟩ = some (.int .i64 t) := by simp
  have c4 : (w.alloc (.cells #[.int .i64 k, .int .i64 z, .int .i64 h, .int .i64 t, .slice pa m c] 47)).cell? ⟨w.heap.size, 4, none⟩ = some (.slice pa m c) := by simp
  generalize w.alloc (.cells #[.int .i64 k, .int .i64 z, .int .i64 h, .int .i64 t, .slice pa m c] 47) = W1 at *
  go_wp2_with fail
  refine (rword_any k W1).mono ?_
  rintro e w2 ⟨rfl, hb2⟩
  go_upto_if 9 with fail
  go_cut [3] (fun s wx => s = .string ⟨(opWord k).toArray⟩ ∧ wx = w2)
  case first =>
    by_cases hw : wordL k = []
    · have ho := opWord_none hw
      have hne : (wordL k).isEmpty = true := by rw [hw]; rfl
      clear hw
      go_wp2_with fail
      all_goals first | (exact absurd (hne.symm.trans (by assumption)) (by decide)) | (go_meet; exact ⟨by rw [ho], rfl⟩)
    · have ho := opWord_some hw
      have hne : (wordL k).isEmpty = false := by cases h : wordL k with | nil => exact absurd h hw | cons _ _ => rfl
      clear hw
      go_wp2_with fail
      all_goals first | (exact absurd (hne.symm.trans (by assumption)) (by decide)) | (go_meet; exact ⟨by rw [ho], rfl⟩)
  case rest =>
    obtain ⟨rfl, rfl⟩ := hcut
    replace c0 := below_keep hb2 c0
    replace c1 := below_keep hb2 c1
    replace c2 := below_keep hb2 c2
    replace c3 := below_keep hb2 c3
    replace c4 := below_keep hb2 c4
    have hB2 := below_on hb2 hbl (Nat.le_refl _)
    have HD2 := Lib.hid (HD.out.keep hb2)
    clear hb2 HD hbl
    have lh := itoa_length hh0 hh1
    have lz := itoa_length hz0 hz1
    have lt := itoa_length ht0 ht1
    have lo := opWord_length k
    have f1 : ¬ 9223372036854775807 < (opWord k).length + 1 := by omega
    have f2 : ¬ 9223372036854775807 < (opWord k).length + 1 + (itoa h).length := by omega
    have f3 : ¬ 9223372036854775807 < (opWord k).length + 1 + (itoa h).length + 7 := by omega
    have f4 : ¬ 9223372036854775807 < (opWord k).length + 1 + (itoa h).length + 7 + (itoa z).length := by omega
    have f5 : ¬ 9223372036854775807 < (opWord k).length + 1 + (itoa h).length + 3 := by omega
    have f6 : ¬ 9223372036854775807 < (opWord k).length + 1 + (itoa h).length + 3 + 4 := by omega
    have f7 : ¬ 9223372036854775807 < (opWord k).length + 1 + (itoa h).length + 3 + 4 + (itoa t).length := by omega
    clear lh lz lt lo
    go_wp2_with fail
    refine (decimal_any _ _ hh0 hh1).mono ?_
    rintro e w3 ⟨rfl, hb3⟩
    replace c0 := below_keep hb3 c0
    replace c1 := below_keep hb3 c1
    replace c3 := below_keep hb3 c3
    replace c4 := below_keep hb3 c4
    have hB3 := below_on hb3 hB2 (by simp)
    have HD3 := Lib.hid (HD2.out.keep hb3)
    clear hb3 HD2 hB2 c2
    by_cases hz : z = 0
    · have qz : (z != 0) = false := by simpa using hz
      by_cases h14 : k = 1 ∨ k = 4
      · have ht := ansT_at (z := z) (h := h) (t := t) (d := d) hz h14
        have HT := Lib.hid ht
        clear ht hz
        rcases h14 with rfl | rfl
        all_goals
          go_wp2_with fail
          refine (decimal_any _ _ ht0 ht1).mono ?_
          rintro e w4 ⟨rfl, hb4⟩
          go_wp2_with fail
          go_ret
          exact ⟨by rw [HT.out]; exact str_eq (by simp), below_on hb4 hB3 (by simp)⟩
      · by_cases h2 : k = 2
        · have ht := ansT_read (z := z) (h := h) (t := t) (d := d) hz h2
          have HT := Lib.hid ht
          subst h2
          have hrl := fun j => readT_length 2 h d j hh0 hh1
          have HRL := Lib.hid hrl
          clear ht hz h14 hrl f3 f4 f6 f7
          go_wp2_with fail
          go_loopw [3, 4] (fun s i wr => ∃ j : Nat, 40 * j < m + 40 ∧ i = .int .i64 (40 * j : Nat) ∧ s = .string ⟨(readT 2 h d j).toArray⟩ ∧ Below w3.heap.size w3 wr) (fun _ i _ => m + 40 - (intOf i).toNat)
          case atStart => exact ⟨0, by omega, rfl, str_val (by rw [readT_zero]; simp), Below.refl _ _⟩
          case round =>
            obtain ⟨j, hj, rfl, rfl, hbel⟩ := hrel
            have d4 := below_keep hbel c4
            by_cases hlt : 40 * j < m
            · obtain ⟨b, off, hpa, hbz, hcc⟩ : ∃ b off, pa = some ⟨b, off, none⟩ ∧ b < w3.heap.size ∧ ∀ j (h : j < d.length), w3.cell? ⟨b, off + j, none⟩ = some (.int .u8 d[j].toNat) := by
                rcases HD3.out with h0 | ⟨b, off, h1, h2, h3⟩
                · exfalso; have := HM.out; rw [h0] at this; simp at this; omega
                · exact ⟨b, off, h1, h2, h3⟩
              have hpc := Lib.hid ((bs_piece hbz hcc j).keep hbel)
              have hpl := piece_length d j
              rw [HM.out] at hpl
              have hrl := HRL.out j
              have hbl := bytesT_length (piece d j)
              have g1 : ¬ 9223372036854775807 < (readT 2 h d j).length + 1 := by omega
              have g2 : ¬ 9223372036854775807 < (readT 2 h d j).length + 1 + (bytesT (piece d j)).length := by omega
              subst hpa
              clear hcc hbz hrl hbl
              have hlen : (piece d j).length = (min (40 * (j : Int) + 40) (m : Int)).toNat - 40 * j := by omega
              have HLEN := Lib.hid hlen
              clear hlen hpl
              go_wp2_with fail
              refine (rbytes_any (some ⟨b, off + 40 * j, none⟩) _ _ (piece d j) wr HLEN.out hpc.out (by omega)).mono ?_
              rintro e w4 ⟨rfl, hb4⟩
              have hB4 := below_on hb4 hbel (Nat.le_refl _)
              have hnx := readT_succ 2 h d j
              have HNX := Lib.hid hnx
              clear hnx hb4
              go_wp2_with fail
              go_roundw
              case rel => exact ⟨j + 1, by omega, by go_num, str_val (by rw [HNX.out]; simp), hB4⟩
              case measure => simp [intOf]; omega
            · have hend := nPc_end (d := d) (j := j) (by rw [HM.out]; omega) (by rw [HM.out]; omega)
              have HE := Lib.hid hend
              clear hend
              go_wp2_with fail
              go_ret
              exact ⟨by rw [HT.out, ← HE.out]; rfl, hB3.trans (hbel.mono hB3.size)⟩
        · have ht := ansT_else (z := z) (h := h) (t := t) (d := d) hz ⟨fun e => h14 (Or.inl e), fun e => h14 (Or.inr e), h2⟩
          have HT := Lib.hid ht
          have q1 : (k == 1) = false := by simpa using fun e => h14 (Or.inl e)
          have q2 : (k == 2) = false := by simpa using h2
          have q4 : (k == 4) = false := by simpa using fun e => h14 (Or.inr e)
          clear ht hz h14 h2
          go_wp2_with fail
          go_ret
          exact ⟨by rw [HT.out]; exact str_eq (by simp), hB3⟩
    · have qz : (z != 0) = true := by simpa using hz
      have ht := ansT_err (k := k) (h := h) (t := t) (d := d) hz
      have HT := Lib.hid ht
      clear ht hz
      go_wp2_with fail
      refine (decimal_any _ _ hz0 hz1).mono ?_
      rintro e w4 ⟨rfl, hb4⟩
      go_wp2_with fail
      go_ret
      exact ⟨by rw [HT.out]; exact str_eq (by simp), below_on hb4 hB3 (by simp)⟩
end Go.Proofs.YtfdkafmomkkapaaDoor
