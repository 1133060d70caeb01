/- Walks: the reference's reading of an op. Printed by mkF1.py. -/
import Derived.Test.YtfdkafmomkkapaaDoorF1
import Derived.Deep.RegionHeld3
namespace Go.Proofs.YtfdkafmomkkapaaDoor
open Go.RowKit Go.Lib

set_option maxRecDepth 100000 in
set_option maxHeartbeats 2000000 in
theorem rparse_commit (s : ByteArray) (f : List UInt8) (rest : List (List UInt8)) (w : World) (hs : s.size ≤ 1000000) (hw : Hid (words s.data.toList = f :: rest)) (hm : (f :: rest).length ≤ 100000) (hx : ∀ x ∈ f :: rest, x.length ≤ 1000000) (hk : Hid (kindI f + 1 = 4)) :
    Calls Tryd.prog 17 #[.string s] w (ParseR w (parseB s.data.toList)) := by
  have hA := parse_candB hw.out
  rw [hk.out] at hA
  have HA := Lib.hid hA
  clear hA
  have HX := Lib.hid hx
  clear hx
  go_enter Tryd.func17, Tryd.ntmps17
  go_wp2_with fail
  refine (rsplit_any s _ hs).mono ?_
  rintro e w1 ⟨v1, rfl, hown1, hb1⟩
  rw [hw.out] at hown1
  obtain ⟨lb, lc, rfl, hlc, hlb, hL⟩ := own_words hown1
  have hR1 := rs_start hb1 hL hlb
  clear hown1 hb1 hL
  obtain ⟨og, hog⟩ : ∃ og, og = w1.heap.size := ⟨_, rfl⟩
  go_wp2_with fail
  rw [← hog] at hR1 ⊢
  clear hog
  generalize w1.alloc (.cells #[.int .i64 0, .int .i64 0, .int .i64 0, .int .i64 0, .slice none 0 0] 24) = w2 at *
  have hrl : rest.length < 100000 := by rw [List.length_cons] at hm; omega
  go_loopw [6] (fun i wr => ∃ (m : Nat) (kk : Int), 1 ≤ m ∧ m ≤ 6 ∧ i = .int .i64 m ∧ kk = (if (4 : Int) < m then 4 else 0) ∧ RS w wr lb og (f :: rest) kk 0 0 0 (.slice none 0 0)) (fun i _ => 6 - (intOf i).toNat)
  case atStart => exact ⟨1, 0, by omega, by omega, rfl, by decide, hR1⟩
  case round =>
    obtain ⟨m, kk, hm1, hm6, rfl, hkk, hSa⟩ := hrel
    have HKK := Lib.hid hkk
    clear hkk hR1
    by_cases hlt : m ≤ 5
    · have e0 : wr.cell? ⟨lb, 0, none⟩ = some (.string ⟨f.toArray⟩) := by have := hSa.2.2.2.1 0 (by simp); simpa using this
      go_wp2_with fail
      have hSd := hSa.below ((Below.refl _ wr).drew)
      have e0d : wr.drew.cell? ⟨lb, 0, none⟩ = some (.string ⟨f.toArray⟩) := e0
      have el : (0 : Int) < (rest.length : Int) + 1 := by omega
      have hkt := kind_test hk.out hm1 hlt
      clear hSa e0
      by_cases hK : (4 : Int) = m
      · rw [decide_eq_true hK] at hkt
        have HK := Lib.hid hK
        clear hK
        go_region_held3 (fun wx => wx.cell? ⟨lb, 0, none⟩ = some (.string ⟨f.toArray⟩)) (exact e0d)
          (first
            | (go_at_call 46; refine (rword_any _ _).mono ?_; rintro e w3 ⟨rfl, hb3⟩; replace hSd := hSd.below hb3; replace e0d := below_keep hb3 e0d; obtain ⟨⟨eo0, -⟩, fo⟩ := row_five hSd.2.2.2.2.2.1; have fo0 := fo 0; clear fo))
        have hS2 := hSd.cells 0 (.int .i64 m) (k' := m) (h' := 0) (a' := 0) (n' := 0) rfl ⟨_, _, _, rfl⟩
        clear hSd hb3 e0d
        go_wp2_with fail
        go_roundw
        case rel => exact ⟨m + 1, m, by omega, by omega, by go_num, by have := HK.out; rw [if_pos (by omega)]; exact this.symm, hS2⟩
        case measure => simp [intOf]; omega
      · rw [decide_eq_false hK] at hkt
        go_region_held3 (fun wx => wx.cell? ⟨lb, 0, none⟩ = some (.string ⟨f.toArray⟩)) (exact e0d)
          (first
            | (go_at_call 46; refine (rword_any _ _).mono ?_; rintro e w3 ⟨rfl, hb3⟩; replace hSd := hSd.below hb3; replace e0d := below_keep hb3 e0d))
        clear hb3 e0d
        go_wp2_with fail
        go_roundw
        case rel => exact ⟨m + 1, kk, by omega, by omega, by go_num, by rw [HKK.out]; split <;> split <;> omega, hSd⟩
        case measure => simp [intOf]; omega
    · obtain rfl : m = 6 := by omega
      obtain rfl : kk = 4 := by rw [HKK.out]; rfl
      have hn1 : og ≠ w.heap.size := by have := hSa.2.1; have := hSa.2.2.1; omega
      have hn2 : w.heap.size ≠ og := fun e => hn1 e.symm
      have hn3 : og ≠ lb := by have := hSa.2.2.1; omega
      have hn4 : lb ≠ og := fun e => hn3 e.symm
      clear HKK hlt hm1 hm6
      cases rest with
      | nil =>
        have hA1 : Hid (parseB s.data.toList = if textO (4, 0, 0, 0, []) = s.data.toList then some (4, 0, 0, 0, []) else none) := Lib.hid (HA.out.trans (by rw [show candB 4 ([]) = some (4, 0, 0, 0, []) from by rfl]))
        clear HA
        obtain ⟨hb3, -, -, -, hr3, ho3, -⟩ := id hSa
        obtain ⟨⟨eo0, eo1, eo2, eo3, eo4⟩, fo⟩ := row_five ho3
        obtain ⟨⟨er0, er1, er2, er3, er4⟩, fr⟩ := row_five hr3
        have fr0 := fr 0
        have fr1 := fr 1
        have fr2 := fr 2
        have fr3 := fr 3
        have fr4 := fr 4
        clear ho3 hr3 fr fo
        go_wp2_with fail
        refine wp_loop_rounds 1 ?_
        rw [rounds_succ]
        go_wp2_with fail
        all_goals
          have hS3 := hSa
          clear hb3
          have hb3 := hS3.1
          generalize wr = w3 at *
          refine (rtext_any 4 0 0 0 none 0 0 [] w3 rfl (by omega) (by omega) (by omega) (by omega) (by omega) (by omega) (Or.inl rfl) (by decide)).mono ?_
          rintro e w4 ⟨rfl, hb4⟩
          have hS4 := hS3.below hb4
          clear hS3 hb4
          clear hb3 er0 er1 er2 er3 er4 fr0 fr1 fr2 fr3 fr4 eo0 eo1 eo2 eo3 eo4
          obtain ⟨hb3, -, -, -, hr3, ho3, -⟩ := id hS4
          obtain ⟨⟨eo0, eo1, eo2, eo3, eo4⟩, fo⟩ := row_five ho3
          obtain ⟨⟨er0, er1, er2, er3, er4⟩, fr⟩ := row_five hr3
          have fr0 := fr 0
          have fr1 := fr 1
          have fr2 := fr 2
          have fr3 := fr 3
          have fr4 := fr 4
          clear ho3 hr3 fr fo
          go_wp2_with fail
          · rename_i hne
            refine bodyPost_ret (v := .tuple #[.agg #[.int .i64 0, .int .i64 0, .int .i64 0, .int .i64 0, .slice none 0 0], .int .i64 13]) (by simp [results, Tryd.results17, go_sem, er0, er1, er2, er3, er4]) rfl ?_
            have h := hA1.out
            rw [toList_data] at hne
            exact parseR_none (h.trans (if_neg (by intro e; rw [show textT 4 0 0 0 [] = s.data.toList from e] at hne; simp at hne))) (hb3.grown (set5_grown w4 w.heap.size _ _ _ _ _) hb3.size (fun x hx => by injection hx; omega)) rfl
          · rename_i hne
            refine bodyPost_ret (v := .tuple #[.agg #[.int .i64 4, .int .i64 0, .int .i64 0, .int .i64 0, .slice none 0 0], .int .i64 0]) (by simp [results, Tryd.results17, go_sem, er0, er1, er2, er3, er4]) rfl ?_
            have h := hA1.out
            rw [toList_data] at hne
            exact parseR_some (h.trans (if_pos (by simp at hne; exact hne))) (hb3.grown (set5_grown w4 w.heap.size _ _ _ _ _) hb3.size (fun x hx => by injection hx; omega)) rfl rfl (Nat.le_refl _) (Or.inl rfl)
      | cons x r =>
        simp only [List.length_cons] at hlc hrl
        cases hv5 : numT x with
        | none =>
          have hA1 : Hid (parseB s.data.toList = none) := Lib.hid (HA.out.trans (by rw [show candB 4 (x :: r) = none from by simp [candB, headB, hv5]]))
          clear HA
          have el1 : (1 : Int) < (r.length : Int) + 1 + 1 := by omega
          have el0 : (0 : Int) < (r.length : Int) + 1 := by omega
          have e1 : wr.cell? ⟨lb, 1, none⟩ = some (.string ⟨x.toArray⟩) := by have := hSa.2.2.2.1 1 (by simp); simpa using this
          obtain ⟨hb3, -, -, -, hr3, ho3, -⟩ := id hSa
          obtain ⟨⟨eo0, eo1, eo2, eo3, eo4⟩, fo⟩ := row_five ho3
          obtain ⟨⟨er0, er1, er2, er3, er4⟩, fr⟩ := row_five hr3
          have fr0 := fr 0
          have fr1 := fr 1
          have fr2 := fr 2
          have fr3 := fr 3
          have fr4 := fr 4
          have fo0 := fo 0
          have fo1 := fo 1
          clear ho3 hr3 fr fo
          go_wp2_with fail
          refine (num_word x none _ (HX.out _ (by simp)) hv5).mono ?_
          rintro e w5 ⟨hb5, he5⟩
          obtain rfl := he5
          have hSb := hSa.below hb5
          clear hSa hb5 e1
          clear hb3 er0 er1 er2 er3 er4 fr0 fr1 fr2 fr3 fr4 eo0 eo1 eo2 eo3 eo4 fo0 fo1
          obtain ⟨hb3, -, -, -, hr3, ho3, -⟩ := id hSb
          obtain ⟨⟨eo0, eo1, eo2, eo3, eo4⟩, fo⟩ := row_five ho3
          obtain ⟨⟨er0, er1, er2, er3, er4⟩, fr⟩ := row_five hr3
          have fr0 := fr 0
          have fr1 := fr 1
          have fr2 := fr 2
          have fr3 := fr 3
          have fr4 := fr 4
          have fo0 := fo 0
          have fo1 := fo 1
          clear ho3 hr3 fr fo
          go_wp2_with fail
          all_goals
            refine bodyPost_ret (v := .tuple #[.agg #[.int .i64 0, .int .i64 0, .int .i64 0, .int .i64 0, .slice none 0 0], .int .i64 13]) (by simp [results, Tryd.results17, go_sem, er0, er1, er2, er3, er4]) rfl ?_
            exact parseR_none hA1.out (hb3.grown (set5_grown _ w.heap.size _ _ _ _ _) hb3.size (fun x hx => by injection hx; omega)) rfl
        | some v =>
          have hvb := numT_bd hv5
          have hv0 := hvb.1
          have hv1 := hvb.2.1
          clear hvb
          have el1 : (1 : Int) < (r.length : Int) + 1 + 1 := by omega
          have el0 : (0 : Int) < (r.length : Int) + 1 := by omega
          have e1 : wr.cell? ⟨lb, 1, none⟩ = some (.string ⟨x.toArray⟩) := by have := hSa.2.2.2.1 1 (by simp); simpa using this
          obtain ⟨hb3, -, -, -, hr3, ho3, -⟩ := id hSa
          obtain ⟨⟨eo0, eo1, eo2, eo3, eo4⟩, fo⟩ := row_five ho3
          obtain ⟨⟨er0, er1, er2, er3, er4⟩, fr⟩ := row_five hr3
          have fr0 := fr 0
          have fr1 := fr 1
          have fr2 := fr 2
          have fr3 := fr 3
          have fr4 := fr 4
          have fo0 := fo 0
          have fo1 := fo 1
          clear ho3 hr3 fr fo
          go_wp2_with fail
          refine (num_word x (some v) _ (HX.out _ (by simp)) hv5).mono ?_
          rintro e w5 ⟨hb5, he5⟩
          obtain rfl := he5
          have hSb := hSa.below hb5
          clear hSa hb5 e1
          clear hb3 er0 er1 er2 er3 er4 fr0 fr1 fr2 fr3 fr4 eo0 eo1 eo2 eo3 eo4 fo0 fo1
          have hA1 : Hid (parseB s.data.toList = if textO (4, v, 0, 0, []) = s.data.toList then some (4, v, 0, 0, []) else none) := Lib.hid (HA.out.trans (by rw [show candB 4 (x :: r) = some (4, v, 0, 0, []) from by simp [candB, headB, hv5]]))
          clear HA
          obtain ⟨hb3, -, -, -, hr3, ho3, -⟩ := id hSb
          obtain ⟨⟨eo0, eo1, eo2, eo3, eo4⟩, fo⟩ := row_five ho3
          obtain ⟨⟨er0, er1, er2, er3, er4⟩, fr⟩ := row_five hr3
          have fr0 := fr 0
          have fr1 := fr 1
          have fr2 := fr 2
          have fr3 := fr 3
          have fr4 := fr 4
          have fo0 := fo 0
          have fo1 := fo 1
          clear ho3 hr3 fr fo
          go_wp2_with fail
          refine wp_loop_rounds 1 ?_
          rw [rounds_succ]
          go_wp2_with fail
          all_goals
            have hS3 := hSb.cells 1 (.int .i64 v) (k' := 4) (h' := v) (a' := 0) (n' := 0) rfl ⟨_, _, _, rfl⟩
            clear hb3
            have hb3 := hS3.1
            generalize w5.setCell ⟨og, 1, none⟩ (.int .i64 v) = w3 at *
            refine (rtext_any 4 v 0 0 none 0 0 [] w3 rfl (by omega) (by omega) (by omega) (by omega) (by omega) (by omega) (Or.inl rfl) (by decide)).mono ?_
            rintro e w4 ⟨rfl, hb4⟩
            have hS4 := hS3.below hb4
            clear hS3 hb4
            clear hb3 er0 er1 er2 er3 er4 fr0 fr1 fr2 fr3 fr4 eo0 eo1 eo2 eo3 eo4 fo0 fo1
            obtain ⟨hb3, -, -, -, hr3, ho3, -⟩ := id hS4
            obtain ⟨⟨eo0, eo1, eo2, eo3, eo4⟩, fo⟩ := row_five ho3
            obtain ⟨⟨er0, er1, er2, er3, er4⟩, fr⟩ := row_five hr3
            have fr0 := fr 0
            have fr1 := fr 1
            have fr2 := fr 2
            have fr3 := fr 3
            have fr4 := fr 4
            clear ho3 hr3 fr fo
            go_wp2_with fail
            · rename_i hne
              refine bodyPost_ret (v := .tuple #[.agg #[.int .i64 0, .int .i64 0, .int .i64 0, .int .i64 0, .slice none 0 0], .int .i64 13]) (by simp [results, Tryd.results17, go_sem, er0, er1, er2, er3, er4]) rfl ?_
              have h := hA1.out
              rw [toList_data] at hne
              exact parseR_none (h.trans (if_neg (by intro e; rw [show textT 4 v 0 0 [] = s.data.toList from e] at hne; simp at hne))) (hb3.grown (set5_grown w4 w.heap.size _ _ _ _ _) hb3.size (fun x hx => by injection hx; omega)) rfl
            · rename_i hne
              refine bodyPost_ret (v := .tuple #[.agg #[.int .i64 4, .int .i64 v, .int .i64 0, .int .i64 0, .slice none 0 0], .int .i64 0]) (by simp [results, Tryd.results17, go_sem, er0, er1, er2, er3, er4]) rfl ?_
              have h := hA1.out
              rw [toList_data] at hne
              exact parseR_some (h.trans (if_pos (by simp at hne; exact hne))) (hb3.grown (set5_grown w4 w.heap.size _ _ _ _ _) hb3.size (fun x hx => by injection hx; omega)) rfl rfl (Nat.le_refl _) (Or.inl rfl)

set_option maxRecDepth 100000 in
set_option maxHeartbeats 2000000 in
theorem rparse_abort (s : ByteArray) (f : List UInt8) (rest : List (List UInt8)) (w : World) (hs : s.size ≤ 1000000) (hw : Hid (words s.data.toList = f :: rest)) (hm : (f :: rest).length ≤ 100000) (hx : ∀ x ∈ f :: rest, x.length ≤ 1000000) (hk : Hid (kindI f + 1 = 5)) :
    Calls Tryd.prog 17 #[.string s] w (ParseR w (parseB s.data.toList)) := by
  have hA := parse_candB hw.out
  rw [hk.out] at hA
  have HA := Lib.hid hA
  clear hA
  have HX := Lib.hid hx
  clear hx
  go_enter Tryd.func17, Tryd.ntmps17
  go_wp2_with fail
  refine (rsplit_any s _ hs).mono ?_
  rintro e w1 ⟨v1, rfl, hown1, hb1⟩
  rw [hw.out] at hown1
  obtain ⟨lb, lc, rfl, hlc, hlb, hL⟩ := own_words hown1
  have hR1 := rs_start hb1 hL hlb
  clear hown1 hb1 hL
  obtain ⟨og, hog⟩ : ∃ og, og = w1.heap.size := ⟨_, rfl⟩
  go_wp2_with fail
  rw [← hog] at hR1 ⊢
  clear hog
  generalize w1.alloc (.cells #[.int .i64 0, .int .i64 0, .int .i64 0, .int .i64 0, .slice none 0 0] 24) = w2 at *
  have hrl : rest.length < 100000 := by rw [List.length_cons] at hm; omega
  go_loopw [6] (fun i wr => ∃ (m : Nat) (kk : Int), 1 ≤ m ∧ m ≤ 6 ∧ i = .int .i64 m ∧ kk = (if (5 : Int) < m then 5 else 0) ∧ RS w wr lb og (f :: rest) kk 0 0 0 (.slice none 0 0)) (fun i _ => 6 - (intOf i).toNat)
  case atStart => exact ⟨1, 0, by omega, by omega, rfl, by decide, hR1⟩
  case round =>
    obtain ⟨m, kk, hm1, hm6, rfl, hkk, hSa⟩ := hrel
    have HKK := Lib.hid hkk
    clear hkk hR1
    by_cases hlt : m ≤ 5
    · have e0 : wr.cell? ⟨lb, 0, none⟩ = some (.string ⟨f.toArray⟩) := by have := hSa.2.2.2.1 0 (by simp); simpa using this
      go_wp2_with fail
      have hSd := hSa.below ((Below.refl _ wr).drew)
      have e0d : wr.drew.cell? ⟨lb, 0, none⟩ = some (.string ⟨f.toArray⟩) := e0
      have el : (0 : Int) < (rest.length : Int) + 1 := by omega
      have hkt := kind_test hk.out hm1 hlt
      clear hSa e0
      by_cases hK : (5 : Int) = m
      · rw [decide_eq_true hK] at hkt
        have HK := Lib.hid hK
        clear hK
        go_region_held3 (fun wx => wx.cell? ⟨lb, 0, none⟩ = some (.string ⟨f.toArray⟩)) (exact e0d)
          (first
            | (go_at_call 46; refine (rword_any _ _).mono ?_; rintro e w3 ⟨rfl, hb3⟩; replace hSd := hSd.below hb3; replace e0d := below_keep hb3 e0d; obtain ⟨⟨eo0, -⟩, fo⟩ := row_five hSd.2.2.2.2.2.1; have fo0 := fo 0; clear fo))
        have hS2 := hSd.cells 0 (.int .i64 m) (k' := m) (h' := 0) (a' := 0) (n' := 0) rfl ⟨_, _, _, rfl⟩
        clear hSd hb3 e0d
        go_wp2_with fail
        go_roundw
        case rel => exact ⟨m + 1, m, by omega, by omega, by go_num, by have := HK.out; rw [if_pos (by omega)]; exact this.symm, hS2⟩
        case measure => simp [intOf]; omega
      · rw [decide_eq_false hK] at hkt
        go_region_held3 (fun wx => wx.cell? ⟨lb, 0, none⟩ = some (.string ⟨f.toArray⟩)) (exact e0d)
          (first
            | (go_at_call 46; refine (rword_any _ _).mono ?_; rintro e w3 ⟨rfl, hb3⟩; replace hSd := hSd.below hb3; replace e0d := below_keep hb3 e0d))
        clear hb3 e0d
        go_wp2_with fail
        go_roundw
        case rel => exact ⟨m + 1, kk, by omega, by omega, by go_num, by rw [HKK.out]; split <;> split <;> omega, hSd⟩
        case measure => simp [intOf]; omega
    · obtain rfl : m = 6 := by omega
      obtain rfl : kk = 5 := by rw [HKK.out]; rfl
      have hn1 : og ≠ w.heap.size := by have := hSa.2.1; have := hSa.2.2.1; omega
      have hn2 : w.heap.size ≠ og := fun e => hn1 e.symm
      have hn3 : og ≠ lb := by have := hSa.2.2.1; omega
      have hn4 : lb ≠ og := fun e => hn3 e.symm
      clear HKK hlt hm1 hm6
      cases rest with
      | nil =>
        have hA1 : Hid (parseB s.data.toList = if textO (5, 0, 0, 0, []) = s.data.toList then some (5, 0, 0, 0, []) else none) := Lib.hid (HA.out.trans (by rw [show candB 5 ([]) = some (5, 0, 0, 0, []) from by rfl]))
        clear HA
        obtain ⟨hb3, -, -, -, hr3, ho3, -⟩ := id hSa
        obtain ⟨⟨eo0, eo1, eo2, eo3, eo4⟩, fo⟩ := row_five ho3
        obtain ⟨⟨er0, er1, er2, er3, er4⟩, fr⟩ := row_five hr3
        have fr0 := fr 0
        have fr1 := fr 1
        have fr2 := fr 2
        have fr3 := fr 3
        have fr4 := fr 4
        clear ho3 hr3 fr fo
        go_wp2_with fail
        refine wp_loop_rounds 1 ?_
        rw [rounds_succ]
        go_wp2_with fail
        all_goals
          have hS3 := hSa
          clear hb3
          have hb3 := hS3.1
          generalize wr = w3 at *
          refine (rtext_any 5 0 0 0 none 0 0 [] w3 rfl (by omega) (by omega) (by omega) (by omega) (by omega) (by omega) (Or.inl rfl) (by decide)).mono ?_
          rintro e w4 ⟨rfl, hb4⟩
          have hS4 := hS3.below hb4
          clear hS3 hb4
          clear hb3 er0 er1 er2 er3 er4 fr0 fr1 fr2 fr3 fr4 eo0 eo1 eo2 eo3 eo4
          obtain ⟨hb3, -, -, -, hr3, ho3, -⟩ := id hS4
          obtain ⟨⟨eo0, eo1, eo2, eo3, eo4⟩, fo⟩ := row_five ho3
          obtain ⟨⟨er0, er1, er2, er3, er4⟩, fr⟩ := row_five hr3
          have fr0 := fr 0
          have fr1 := fr 1
          have fr2 := fr 2
          have fr3 := fr 3
          have fr4 := fr 4
          clear ho3 hr3 fr fo
          go_wp2_with fail
          · rename_i hne
            refine bodyPost_ret (v := .tuple #[.agg #[.int .i64 0, .int .i64 0, .int .i64 0, .int .i64 0, .slice none 0 0], .int .i64 13]) (by simp [results, Tryd.results17, go_sem, er0, er1, er2, er3, er4]) rfl ?_
            have h := hA1.out
            rw [toList_data] at hne
            exact parseR_none (h.trans (if_neg (by intro e; rw [show textT 5 0 0 0 [] = s.data.toList from e] at hne; simp at hne))) (hb3.grown (set5_grown w4 w.heap.size _ _ _ _ _) hb3.size (fun x hx => by injection hx; omega)) rfl
          · rename_i hne
            refine bodyPost_ret (v := .tuple #[.agg #[.int .i64 5, .int .i64 0, .int .i64 0, .int .i64 0, .slice none 0 0], .int .i64 0]) (by simp [results, Tryd.results17, go_sem, er0, er1, er2, er3, er4]) rfl ?_
            have h := hA1.out
            rw [toList_data] at hne
            exact parseR_some (h.trans (if_pos (by simp at hne; exact hne))) (hb3.grown (set5_grown w4 w.heap.size _ _ _ _ _) hb3.size (fun x hx => by injection hx; omega)) rfl rfl (Nat.le_refl _) (Or.inl rfl)
      | cons x r =>
        simp only [List.length_cons] at hlc hrl
        cases hv5 : numT x with
        | none =>
          have hA1 : Hid (parseB s.data.toList = none) := Lib.hid (HA.out.trans (by rw [show candB 5 (x :: r) = none from by simp [candB, headB, hv5]]))
          clear HA
          have el1 : (1 : Int) < (r.length : Int) + 1 + 1 := by omega
          have el0 : (0 : Int) < (r.length : Int) + 1 := by omega
          have e1 : wr.cell? ⟨lb, 1, none⟩ = some (.string ⟨x.toArray⟩) := by have := hSa.2.2.2.1 1 (by simp); simpa using this
          obtain ⟨hb3, -, -, -, hr3, ho3, -⟩ := id hSa
          obtain ⟨⟨eo0, eo1, eo2, eo3, eo4⟩, fo⟩ := row_five ho3
          obtain ⟨⟨er0, er1, er2, er3, er4⟩, fr⟩ := row_five hr3
          have fr0 := fr 0
          have fr1 := fr 1
          have fr2 := fr 2
          have fr3 := fr 3
          have fr4 := fr 4
          have fo0 := fo 0
          have fo1 := fo 1
          clear ho3 hr3 fr fo
          go_wp2_with fail
          refine (num_word x none _ (HX.out _ (by simp)) hv5).mono ?_
          rintro e w5 ⟨hb5, he5⟩
          obtain rfl := he5
          have hSb := hSa.below hb5
          clear hSa hb5 e1
          clear hb3 er0 er1 er2 er3 er4 fr0 fr1 fr2 fr3 fr4 eo0 eo1 eo2 eo3 eo4 fo0 fo1
          obtain ⟨hb3, -, -, -, hr3, ho3, -⟩ := id hSb
          obtain ⟨⟨eo0, eo1, eo2, eo3, eo4⟩, fo⟩ := row_five ho3
          obtain ⟨⟨er0, er1, er2, er3, er4⟩, fr⟩ := row_five hr3
          have fr0 := fr 0
          have fr1 := fr 1
          have fr2 := fr 2
          have fr3 := fr 3
          have fr4 := fr 4
          have fo0 := fo 0
          have fo1 := fo 1
          clear ho3 hr3 fr fo
          go_wp2_with fail
          all_goals
            refine bodyPost_ret (v := .tuple #[.agg #[.int .i64 0, .int .i64 0, .int .i64 0, .int .i64 0, .slice none 0 0], .int .i64 13]) (by simp [results, Tryd.results17, go_sem, er0, er1, er2, er3, er4]) rfl ?_
            exact parseR_none hA1.out (hb3.grown (set5_grown _ w.heap.size _ _ _ _ _) hb3.size (fun x hx => by injection hx; omega)) rfl
        | some v =>
          have hvb := numT_bd hv5
          have hv0 := hvb.1
          have hv1 := hvb.2.1
          clear hvb
          have el1 : (1 : Int) < (r.length : Int) + 1 + 1 := by omega
          have el0 : (0 : Int) < (r.length : Int) + 1 := by omega
          have e1 : wr.cell? ⟨lb, 1, none⟩ = some (.string ⟨x.toArray⟩) := by have := hSa.2.2.2.1 1 (by simp); simpa using this
          obtain ⟨hb3, -, -, -, hr3, ho3, -⟩ := id hSa
          obtain ⟨⟨eo0, eo1, eo2, eo3, eo4⟩, fo⟩ := row_five ho3
          obtain ⟨⟨er0, er1, er2, er3, er4⟩, fr⟩ := row_five hr3
          have fr0 := fr 0
          have fr1 := fr 1
          have fr2 := fr 2
          have fr3 := fr 3
          have fr4 := fr 4
          have fo0 := fo 0
          have fo1 := fo 1
          clear ho3 hr3 fr fo
          go_wp2_with fail
          refine (num_word x (some v) _ (HX.out _ (by simp)) hv5).mono ?_
          rintro e w5 ⟨hb5, he5⟩
          obtain rfl := he5
          have hSb := hSa.below hb5
          clear hSa hb5 e1
          clear hb3 er0 er1 er2 er3 er4 fr0 fr1 fr2 fr3 fr4 eo0 eo1 eo2 eo3 eo4 fo0 fo1
          have hA1 : Hid (parseB s.data.toList = if textO (5, v, 0, 0, []) = s.data.toList then some (5, v, 0, 0, []) else none) := Lib.hid (HA.out.trans (by rw [show candB 5 (x :: r) = some (5, v, 0, 0, []) from by simp [candB, headB, hv5]]))
          clear HA
          obtain ⟨hb3, -, -, -, hr3, ho3, -⟩ := id hSb
          obtain ⟨⟨eo0, eo1, eo2, eo3, eo4⟩, fo⟩ := row_five ho3
          obtain ⟨⟨er0, er1, er2, er3, er4⟩, fr⟩ := row_five hr3
          have fr0 := fr 0
          have fr1 := fr 1
          have fr2 := fr 2
          have fr3 := fr 3
          have fr4 := fr 4
          have fo0 := fo 0
          have fo1 := fo 1
          clear ho3 hr3 fr fo
          go_wp2_with fail
          refine wp_loop_rounds 1 ?_
          rw [rounds_succ]
          go_wp2_with fail
          all_goals
            have hS3 := hSb.cells 1 (.int .i64 v) (k' := 5) (h' := v) (a' := 0) (n' := 0) rfl ⟨_, _, _, rfl⟩
            clear hb3
            have hb3 := hS3.1
            generalize w5.setCell ⟨og, 1, none⟩ (.int .i64 v) = w3 at *
            refine (rtext_any 5 v 0 0 none 0 0 [] w3 rfl (by omega) (by omega) (by omega) (by omega) (by omega) (by omega) (Or.inl rfl) (by decide)).mono ?_
            rintro e w4 ⟨rfl, hb4⟩
            have hS4 := hS3.below hb4
            clear hS3 hb4
            clear hb3 er0 er1 er2 er3 er4 fr0 fr1 fr2 fr3 fr4 eo0 eo1 eo2 eo3 eo4 fo0 fo1
            obtain ⟨hb3, -, -, -, hr3, ho3, -⟩ := id hS4
            obtain ⟨⟨eo0, eo1, eo2, eo3, eo4⟩, fo⟩ := row_five ho3
            obtain ⟨⟨er0, er1, er2, er3, er4⟩, fr⟩ := row_five hr3
            have fr0 := fr 0
            have fr1 := fr 1
            have fr2 := fr 2
            have fr3 := fr 3
            have fr4 := fr 4
            clear ho3 hr3 fr fo
            go_wp2_with fail
            · rename_i hne
              refine bodyPost_ret (v := .tuple #[.agg #[.int .i64 0, .int .i64 0, .int .i64 0, .int .i64 0, .slice none 0 0], .int .i64 13]) (by simp [results, Tryd.results17, go_sem, er0, er1, er2, er3, er4]) rfl ?_
              have h := hA1.out
              rw [toList_data] at hne
              exact parseR_none (h.trans (if_neg (by intro e; rw [show textT 5 v 0 0 [] = s.data.toList from e] at hne; simp at hne))) (hb3.grown (set5_grown w4 w.heap.size _ _ _ _ _) hb3.size (fun x hx => by injection hx; omega)) rfl
            · rename_i hne
              refine bodyPost_ret (v := .tuple #[.agg #[.int .i64 5, .int .i64 v, .int .i64 0, .int .i64 0, .slice none 0 0], .int .i64 0]) (by simp [results, Tryd.results17, go_sem, er0, er1, er2, er3, er4]) rfl ?_
              have h := hA1.out
              rw [toList_data] at hne
              exact parseR_some (h.trans (if_pos (by simp at hne; exact hne))) (hb3.grown (set5_grown w4 w.heap.size _ _ _ _ _) hb3.size (fun x hx => by injection hx; omega)) rfl rfl (Nat.le_refl _) (Or.inl rfl)

end Go.Proofs.YtfdkafmomkkapaaDoor
