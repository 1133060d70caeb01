/- Lemmas and walks: Walks: the program's Answer. Walks: strings.Cut. -/
import Derived.Test.YtgagcbgbjkjghaaGreatDoorXc
import Derived.Test.YtgagcbgbjkjghaaGreatDoorXd
namespace Go.Proofs.YtgagcbgbjkjghaaGreatDoor.Scr
open Go.RowKit Go.Lib

theorem own_three {w : World} {N : Nat} {a b c : List UInt8} (h : w.heap[N]? = some (.cells #[.string ⟨a.toArray⟩, .string ⟨b.toArray⟩, .string ⟨c.toArray⟩] 9 (0, 0))) :
    w.ownsRow N 9 1 (.slice (some ⟨N, 0, none⟩) 3 3) 3 (strCells [a, b, c]) :=
  ⟨rfl, .inr ⟨N, 3, _, rfl, Nat.le_refl _, h, Nat.le_refl _, by decide, rfl, rfl⟩⟩
theorem three_cells {w : World} {N : Nat} {u0 u1 u2 : Value} (h : w.heap[N]? = some (.cells #[u0, u1, u2] 9 (0, 0))) :
    (w.cell? ⟨N, 0, none⟩ = some u0 ∧ w.cell? ⟨N, 1, none⟩ = some u1 ∧ w.cell? ⟨N, 2, none⟩ = some u2) ∧ ∀ i, w.frozen? ⟨N, i, none⟩ = false := by
  refine ⟨⟨?_, ?_, ?_⟩, fun i => frozen_of_row _ _ _ _ _ h⟩ <;> rw [cell_of_row _ _ _ _ _ _ h] <;> rfl
theorem ansW_length {k z h t : Int} {d : List UInt8} (hd : d.length ≤ 3000) (hz0 : -9223372036854775808 ≤ z) (hz1 : z ≤ 9223372036854775807) (hh0 : -9223372036854775808 ≤ h) (hh1 : h ≤ 9223372036854775807) (ht0 : -9223372036854775808 ≤ t) (ht1 : t ≤ 9223372036854775807) :
    (join (ansW k z h t d) [32]).length ≤ 1000000 := by
  have a := opWord_length k
  have b := itoa_length hz0 hz1
  have c := itoa_length hh0 hh1
  have e := itoa_length ht0 ht1
  by_cases hz : z = 0
  · by_cases h14 : k = 1 ∨ k = 4
    · have := ansT_at (z := z) (h := h) (t := t) (d := d) hz h14
      unfold ansT at this
      rw [this]; simp; omega
    · by_cases h2 : k = 2
      · have := ansT_read (z := z) (h := h) (t := t) (d := d) hz h2
        unfold ansT at this
        have l := readT_length k h d (nPc d) hh0 hh1
        have n : nPc d ≤ 76 := by unfold nPc; omega
        rw [this]; omega
      · have := ansT_else (z := z) (h := h) (t := t) (d := d) hz ⟨fun e => h14 (Or.inl e), fun e => h14 (Or.inr e), h2⟩
        unfold ansT at this
        rw [this]; simp; omega
  · have := ansT_err (k := k) (z := z) (h := h) (t := t) (d := d) hz
    unfold ansT at this
    rw [this]; simp; omega
theorem ansW_ne (k z h t : Int) (d : List UInt8) : ansW k z h t d ≠ [] := by
  unfold ansW
  repeat' split
  all_goals simp

set_option maxRecDepth 100000 in
set_option maxHeartbeats 4000000 in
theorem ans_any (k z h t : Int) (pa : Option Addr) (m c : Nat) (d : List UInt8) (w : World) (hG : Gl w) (hm : d.length = m) (hm3 : m ≤ 3000) (hc : m ≤ c) (hB : Bs w pa d)
    (hz0 : -9223372036854775808 ≤ z) (hz1 : z ≤ 9223372036854775807) (hh0 : -9223372036854775808 ≤ h) (hh1 : h ≤ 9223372036854775807) (ht0 : -9223372036854775808 ≤ t) (ht1 : t ≤ 9223372036854775807) :
    Calls Tryz.prog 139 #[.agg #[.int .i64 k, .int .i64 z, .int .i64 h, .int .i64 t, .slice pa m c]] w (StrR w (ansT k z h t d)) := by
  have hW1 := hp_new w (.cells #[.int .i64 k, .int .i64 z, .int .i64 h, .int .i64 t, .slice pa m c] 208)
  have hbl := Below.of_alloc w (.cells #[.int .i64 k, .int .i64 z, .int .i64 h, .int .i64 t, .slice pa m c] 208)
  have HD := Lib.hid (hB.keep hbl)
  have HM := Lib.hid hm
  have hGW := hG.keep hbl
  have hln := ansW_length (k := k) (z := z) (h := h) (t := t) (d := d) (by omega) hz0 hz1 hh0 hh1 ht0 ht1
  have hne := ansW_ne k z h t d
  have HL := Lib.hid hln
  have HNE := Lib.hid hne
  clear hm hB hG hln hne
  go_enter Tryz.func139, Tryz.ntmps139
  go_upto_region 1 with fail
  have c0 : (w.alloc (.cells #[.int .i64 k, .int .i64 z, .int .i64 h, .int .i64 t, .slice pa m c] 208)).cell? ⟨w.heap.size, 0, none⟩ = some (.int .i64 k) := by simp
  have c1 : (w.alloc (.cells #[.int .i64 k, .int .i64 z, .int .i64 h, .int .i64 t, .slice pa m c] 208)).cell? ⟨w.heap.size, 1, none⟩ = some (.int .i64 z) := by simp
  have c2 : (w.alloc (.cells #[.int .i64 k, .int .i64 z, .int .i64 h, .int .i64 t, .slice pa m c] 208)).cell? ⟨w.heap.size, 2, none⟩ = some (.int .i64 h) := by simp
  have c3 : (w.alloc (.cells #[.int .i64 k, .int .i64 z, .int .i64 h, .int .i64 t, .slice pa m c] 208)).cell? ⟨w.heap.size, 3, none⟩ = some (.int .i64 t) := by simp
  have c4 : (w.alloc (.cells #[.int .i64 k, .int .i64 z, .int .i64 h, .int .i64 t, .slice pa m c] 208)).cell? ⟨w.heap.size, 4, none⟩ = some (.slice pa m c) := by simp
  generalize w.alloc (.cells #[.int .i64 k, .int .i64 z, .int .i64 h, .int .i64 t, .slice pa m c] 208) = W1 at *
  go_cut [3] (fun s wx => ∃ N, s = .slice (some ⟨N, 0, none⟩) 3 3 ∧ wx.heap[N]? = some (.cells #[.string ⟨(wordL k).toArray⟩, .string ⟨(itoa h).toArray⟩, .string ⟨#[111, 107]⟩] 9 (0, 0)) ∧ W1.heap.size ≤ N ∧ Below W1.heap.size W1 wx)
  case first =>
    have hd := (Below.refl W1.heap.size W1).drew
    have e0 := below_keep hd c0
    have e2 := below_keep hd c2
    have hGd := hGW.keep hd
    clear c0 c1 c2 c3 c4 HD
    go_region_held3 (fun wx => wx.cell? ⟨w.heap.size, 0, none⟩ = some (.int .i64 k) ∧ wx.cell? ⟨w.heap.size, 2, none⟩ = some (.int .i64 h))
      (first | (exact ⟨e0, e2⟩) | (exact ⟨below_keep (Below.of_alloc _ _) e0, below_keep (Below.of_alloc _ _) e2⟩))
      (first
        | (go_at_call 113; refine (word_any _ _).mono ?_; rintro e w2 ⟨rfl, rfl⟩)
        | (go_at_call 57; refine (itoa_any _ _ hh0 hh1 ?_).mono ?_; exact hGd; rintro e w3 ⟨rfl, hb3⟩; replace hGd := Gl.on hb3 hGd; replace e0 := below_keep hb3 e0; replace e2 := below_keep hb3 e2; replace hd := below_on hb3 hd (Nat.le_refl _)))
    go_wp2_with fail
    go_meet
    exact ⟨_, rfl, hp_new _ _, hd.size, below_on (Below.of_alloc _ _) hd (Nat.le_refl _)⟩
  case rest =>
    obtain ⟨N, rfl, hN, hN1, hb1⟩ := hcut
    obtain ⟨⟨n0, n1, n2⟩, nf⟩ := three_cells hN
    have nf0 := nf 0
    have hNz := (Array.getElem?_eq_some_iff.1 hN).1
    clear nf
    go_upto_if 15 with fail
    go_cut [] (fun wx => wx.heap[N]? = some (.cells #[.string ⟨(opWord k).toArray⟩, .string ⟨(itoa h).toArray⟩, .string ⟨#[111, 107]⟩] 9 (0, 0)) ∧ Below W1.heap.size W1 wx)
    case first =>
      by_cases hw : wordL k = []
      · have ho := opWord_none hw
        have hne : (wordL k).isEmpty = true := by rw [hw]; rfl
        clear hw
        go_wp2_with fail
        all_goals first | (exact absurd (hne.symm.trans (by assumption)) (by decide)) | (go_meet; exact ⟨by rw [Lib.heap_setCell_same hN, ho]; rfl, hb1.setCell hN1 _⟩)
      · have ho := opWord_some hw
        have hne : (wordL k).isEmpty = false := by cases h : wordL k with | nil => exact absurd h hw | cons _ _ => rfl
        clear hw
        go_wp2_with fail
        all_goals first | (exact absurd (hne.symm.trans (by assumption)) (by decide)) | (go_meet; exact ⟨by rw [ho]; exact hN, hb1⟩)
    case rest =>
      obtain ⟨hN2, hb2⟩ := hcut
      clear hN n0 n1 n2 nf0 hNz hb1
      have d0 := below_keep hb2 c0
      have d1 := below_keep hb2 c1
      have d3 := below_keep hb2 c3
      have d4 := below_keep hb2 c4
      have hG2 := hGW.on hb2
      have hB2 := below_on hb2 hbl (Nat.le_refl _)
      have HD2 := Lib.hid (HD.out.keep hb2)
      have hNz := (Array.getElem?_eq_some_iff.1 hN2).1
      have hb2z := hb2.size
      have hbW := hb2
      clear c0 c1 c2 c3 hb2
      by_cases hz : z = 0
      · have qz : (z != 0) = false := by simpa using hz
        by_cases h14 : k = 1 ∨ k = 4
        · have hT : ansW k z h t d = [opWord k, itoa h, [111, 107]] ++ [[97, 116], itoa t] := by unfold ansW; rw [if_neg (by omega), if_pos h14]; rfl
          have HT := Lib.hid hT
          clear hT hz
          rcases h14 with rfl | rfl
          all_goals
            go_wp2_with fail
            refine (itoa_any t wc ht0 ht1 hG2).mono ?_
            rintro e w3 ⟨rfl, hb3⟩
            have hN3 := below_heap hb3 hN2
            have hO := own_three hN3
            have hB3 := below_on hb3 hB2 (Nat.le_refl _)
            have hz3 := hb3.size
            clear hb3 d0 d1 d3 d4
            go_wp2_with (at_builtin; refine wpList_append_lit rfl (.tmp 37) (.tmp 41) 27 9 rfl ty44 inf9 rfl (by decide) N _ (strCells [[97, 116], itoa t]) 2 rfl _ 3 _ rfl hO (by omega) (by decide) (by omega) (k := 0) rfl (strCells_one _) rfl 2 rfl ?_; intro v' w' hap)
            have hO2 := hap.1
            rw [← strCells_app, ← HT.out] at hO2
            have hB4 := below_in hap.2.1 hB3 (Nat.le_trans hbl.size hN1)
            clear hap hO
            refine (join_any hO2 HNE.out (by omega) (by have := HL.out; omega)).mono ?_
            rintro e w5 ⟨rfl, hb5⟩
            go_wp2_with fail
            go_ret
            exact ⟨rfl, below_on hb5 hB4 (Nat.le_refl _)⟩
        · by_cases h2 : k = 2
          · have hT : ansW k z h t d = [opWord k, itoa h, [111, 107]] ++ pieceW d (nPc d) := by unfold ansW; rw [if_neg (by omega), if_neg h14, if_pos h2]
            have HT := Lib.hid hT
            subst h2
            have hO : wc.ownsRow N 9 1 (.slice (some ⟨N, 0, none⟩) 3 3) (3 + 0) (strCells ([opWord 2, itoa h, [111, 107]] ++ pieceW d 0)) := own_three hN2
            clear hT hz h14 d3 hG2 HD2 hB2
            go_wp2_with fail
            clear d0 d1 d4
            go_loopw [3, 4] (fun v i wr => ∃ j : Nat, 40 * j < m + 40 ∧ i = .int .i64 (40 * j : Nat) ∧ wr.ownsRow N 9 1 v (3 + j) (strCells ([opWord 2, itoa h, [111, 107]] ++ pieceW d j)) ∧ Below W1.heap.size W1 wr ∧ N ≤ wr.heap.size) (fun _ i _ => m + 40 - (intOf i).toNat)
            case atStart => exact ⟨0, by omega, rfl, hO, hbW, by omega⟩
            case round =>
              obtain ⟨j, hj, rfl, hown, hbel, hszr⟩ := hrel
              have d4 := below_keep hbel c4
              by_cases hlt : 40 * j < m
              · obtain ⟨b, off, hpa, hbz, hcc⟩ : ∃ b off, pa = some ⟨b, off, none⟩ ∧ b < W1.heap.size ∧ ∀ j (h : j < d.length), W1.cell? ⟨b, off + j, none⟩ = some (.int .u8 d[j].toNat) := by
                  rcases HD.out with h0 | ⟨b, off, h1, h2, h3⟩
                  · exfalso; have := HM.out; rw [h0] at this; simp at this; omega
                  · exact ⟨b, off, h1, h2, h3⟩
                have hpc := Lib.hid ((bs_piece hbz hcc j).keep hbel)
                have hpl := piece_length d j
                rw [HM.out] at hpl
                subst hpa
                clear hcc hbz
                have hlen : (piece d j).length = (min (40 * (j : Int) + 40) (m : Int)).toNat - 40 * j := by omega
                have HLEN := Lib.hid hlen
                clear hlen hpl
                go_wp2_with fail
                refine (bytes_any (some ⟨b, off + 40 * j, none⟩) _ _ (piece d j) wr HLEN.out hpc.out (by omega) (by omega)).mono ?_
                rintro e w4 ⟨rfl, hb4⟩
                have hown4 := own_on hb4 hown
                have hB4 := below_on hb4 hbel (Nat.le_refl _)
                have hsz4 : N ≤ w4.heap.size := Nat.le_trans hszr hb4.size
                clear hb4 hown
                go_wp2_with (at_builtin; refine wpList_append_lit rfl (.tmp 54) (.tmp 66) 27 9 rfl ty44 inf9 rfl (by decide) N _ (strCells [bytesT (piece d j)]) 1 rfl _ (3 + j) _ rfl hown4 (by omega) (by decide) hsz4 (k := 0) rfl (strCells_one _) rfl 1 rfl ?_; intro v' w' hap)
                have hO2 := hap.1
                rw [← strCells_app, List.append_assoc, ← pieceW_succ] at hO2
                have hB5 := below_in hap.2.1 hB4 hN1
                have hsz5 := Nat.le_trans hsz4 hap.2.1.size
                clear hap hown4
                go_roundw
                case rel => exact ⟨j + 1, by omega, by go_num, hO2, hB5, hsz5⟩
                case measure => simp [intOf]; omega
              · have hend := nPc_end (d := d) (j := j) (by rw [HM.out]; omega) (by rw [HM.out]; omega)
                have HE := Lib.hid hend
                rw [hend, ← HT.out] at hown
                clear hend
                have hjj : j ≤ 1000 := by omega
                go_wp2_with fail
                refine (join_any hown HNE.out (by have := HE.out; omega) (by have := HL.out; omega)).mono ?_
                rintro e w5 ⟨rfl, hb5⟩
                go_wp2_with fail
                go_ret
                exact ⟨rfl, below_on hb5 (hbl.trans (hbel.mono hbl.size)) (Nat.le_refl _)⟩
          · have hT : ansW k z h t d = [opWord k, itoa h, [111, 107]] := by unfold ansW; rw [if_neg (by omega), if_neg h14, if_neg h2]
            have HT := Lib.hid hT
            have q1 : (k == 1) = false := by simpa using fun e => h14 (Or.inl e)
            have q2 : (k == 2) = false := by simpa using h2
            have q4 : (k == 4) = false := by simpa using fun e => h14 (Or.inr e)
            have hO := own_three hN2
            rw [← HT.out] at hO
            clear hT hz h14 h2
            go_wp2_with fail
            refine (join_any hO HNE.out (by omega) (by have := HL.out; omega)).mono ?_
            rintro e w5 ⟨rfl, hb5⟩
            go_wp2_with fail
            go_ret
            exact ⟨rfl, below_on hb5 hB2 (Nat.le_refl _)⟩
      · have qz : (z != 0) = true := by simpa using hz
        have hT : ansW k z h t d = [opWord k, itoa h, [101, 114, 114, 111, 114, 32] ++ itoa z] := by unfold ansW; rw [if_pos hz]
        have HT := Lib.hid hT
        have lz := itoa_length hz0 hz1
        have f1 : ¬ 9223372036854775807 < 6 + (itoa z).length := by omega
        clear hT hz lz
        go_wp2_with fail
        refine (itoa_any z wc hz0 hz1 hG2).mono ?_
        rintro e w3 ⟨rfl, hb3⟩
        have hN3 := below_heap hb3 hN2
        obtain ⟨⟨n0, n1, n2⟩, nf⟩ := three_cells hN3
        have nf2 := nf 2
        have hB3 := below_on hb3 hB2 (Nat.le_refl _)
        have hz3 := hb3.size
        clear hb3 d0 d1 d3 d4 nf
        go_wp2_with fail
        have ev : (⟨#[101, 114, 114, 111, 114, 32]⟩ : ByteArray) ++ ⟨(itoa z).toArray⟩ = ⟨([101, 114, 114, 111, 114, 32] ++ itoa z).toArray⟩ := app_mk _ _
        rw [ev]
        have hN4 : (w3.setCell ⟨N, 2, none⟩ (.string ⟨([101, 114, 114, 111, 114, 32] ++ itoa z).toArray⟩)).heap[N]? = some (.cells #[.string ⟨(opWord k).toArray⟩, .string ⟨(itoa h).toArray⟩, .string ⟨([101, 114, 114, 111, 114, 32] ++ itoa z).toArray⟩] 9 (0, 0)) := by
          rw [Lib.heap_setCell_same hN3]; rfl
        have hO := own_three hN4
        rw [← HT.out] at hO
        have hB4 := hB3.setCell (p := ⟨N, 2, none⟩) (Nat.le_trans hbl.size hN1) (.string ⟨([101, 114, 114, 111, 114, 32] ++ itoa z).toArray⟩)
        clear hN4 hN3 ev
        refine (join_any hO HNE.out (by omega) (by have := HL.out; omega)).mono ?_
        rintro e w5 ⟨rfl, hb5⟩
        go_wp2_with fail
        go_ret
        exact ⟨rfl, below_on hb5 hB4 (Nat.le_refl _)⟩
end Go.Proofs.YtgagcbgbjkjghaaGreatDoor.Scr
namespace Go.Proofs.YtgagcbgbjkjghaaGreatDoor.Scr
open Go.RowKit Go.Lib

theorem cut_any (l : List UInt8) (c : UInt8) (w : World) (hG : Gl w) (hl : l.length ≤ 100000) :
    Calls Tryz.prog 14 #[.string ⟨l.toArray⟩, .string ⟨#[c]⟩] w fun e w' => e = .returned (.tuple #[.string ⟨(Lib.cut l [c]).1.toArray⟩, .string ⟨(Lib.cut l [c]).2.1.toArray⟩, .bool (Lib.cut l [c]).2.2]) ∧ ∃ n, w' = w.drewN n := by
  obtain ⟨_, ⟨m, hm⟩, _⟩ := hG
  exact Tryz.strings_Cut ⟨l.toArray⟩ ⟨#[c]⟩ m w (by show l.toArray.size < _; simp; omega) hm
end Go.Proofs.YtgagcbgbjkjghaaGreatDoor.Scr
