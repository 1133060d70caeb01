/- Walks: the reference's reading of an op. Printed by mkF1.py. -/
import Derived.Test.YtfdkafmomkkapaaDoorF1
import Derived.Deep.RegionHeld3
namespace Go.Proofs.YtfdkafmomkkapaaDoor
open Go.RowKit Go.Lib

theorem loopR_step' {r : List (List UInt8)} {p : Nat} {a b : List UInt8} (ha : r[p]? = some a) (hb : r[p + 1]? = some b) (q : List (Int × List UInt8)) :
    loopR (r.drop p) q = match numT a, unbytesT b with | some v, some d => loopR (r.drop (p + 2)) (q ++ [(v, d)]) | _, _ => none := by
  obtain ⟨h1, rfl⟩ := List.getElem?_eq_some_iff.1 ha
  obtain ⟨h2, rfl⟩ := List.getElem?_eq_some_iff.1 hb
  exact loopR_step h2 q

set_option maxRecDepth 100000 in
set_option maxHeartbeats 2000000 in
theorem rparse_write (s : ByteArray) (f : List UInt8) (rest : List (List UInt8)) (w : World) (hs : s.size ≤ 1000000) (hw : Hid (words s.data.toList = f :: rest)) (hm : (f :: rest).length ≤ 100000) (hx : ∀ x ∈ f :: rest, x.length ≤ 1000000) (hk : Hid (kindI f + 1 = 3)) :
    Calls Tryd.prog 17 #[.string s] w (ParseR w (parseB s.data.toList)) := by
  have hA := parse_candB hw.out
  rw [hk.out] at hA
  have HA := Lib.hid hA
  clear hA
  have HX := Lib.hid hx
  clear hx
  go_enter Tryd.func17, Tryd.ntmps17
  go_wp2_with fail
  refine (rsplit_any s _ hs).mono ?_
  rintro e w1 ⟨v1, rfl, hown1, hb1⟩
  rw [hw.out] at hown1
  obtain ⟨lb, lc, rfl, hlc, hlb, hL⟩ := own_words hown1
  have hR1 := rs_start hb1 hL hlb
  clear hown1 hb1 hL
  obtain ⟨og, hog⟩ : ∃ og, og = w1.heap.size := ⟨_, rfl⟩
  go_wp2_with fail
  rw [← hog] at hR1 ⊢
  clear hog
  generalize w1.alloc (.cells #[.int .i64 0, .int .i64 0, .int .i64 0, .int .i64 0, .slice none 0 0] 24) = w2 at *
  have hrl : rest.length < 100000 := by rw [List.length_cons] at hm; omega
  go_loopw [6] (fun i wr => ∃ (m : Nat) (kk : Int), 1 ≤ m ∧ m ≤ 6 ∧ i = .int .i64 m ∧ kk = (if (3 : Int) < m then 3 else 0) ∧ RS w wr lb og (f :: rest) kk 0 0 0 (.slice none 0 0)) (fun i _ => 6 - (intOf i).toNat)
  case atStart => exact ⟨1, 0, by omega, by omega, rfl, by decide, hR1⟩
  case round =>
    obtain ⟨m, kk, hm1, hm6, rfl, hkk, hSa⟩ := hrel
    have HKK := Lib.hid hkk
    clear hkk hR1
    by_cases hlt : m ≤ 5
    · have e0 : wr.cell? ⟨lb, 0, none⟩ = some (.string ⟨f.toArray⟩) := by have := hSa.2.2.2.1 0 (by simp); simpa using this
      go_wp2_with fail
      have hSd := hSa.below ((Below.refl _ wr).drew)
      have e0d : wr.drew.cell? ⟨lb, 0, none⟩ = some (.string ⟨f.toArray⟩) := e0
      have el : (0 : Int) < (rest.length : Int) + 1 := by omega
      have hkt := kind_test hk.out hm1 hlt
      clear hSa e0
      by_cases hK : (3 : Int) = m
      · rw [decide_eq_true hK] at hkt
        have HK := Lib.hid hK
        clear hK
        go_region_held3 (fun wx => wx.cell? ⟨lb, 0, none⟩ = some (.string ⟨f.toArray⟩)) (exact e0d)
          (first
            | (go_at_call 46; refine (rword_any _ _).mono ?_; rintro e w3 ⟨rfl, hb3⟩; replace hSd := hSd.below hb3; replace e0d := below_keep hb3 e0d; obtain ⟨⟨eo0, -⟩, fo⟩ := row_five hSd.2.2.2.2.2.1; have fo0 := fo 0; clear fo))
        have hS2 := hSd.cells 0 (.int .i64 m) (k' := m) (h' := 0) (a' := 0) (n' := 0) rfl ⟨_, _, _, rfl⟩
        clear hSd hb3 e0d
        go_wp2_with fail
        go_roundw
        case rel => exact ⟨m + 1, m, by omega, by omega, by go_num, by have := HK.out; rw [if_pos (by omega)]; exact this.symm, hS2⟩
        case measure => simp [intOf]; omega
      · rw [decide_eq_false hK] at hkt
        go_region_held3 (fun wx => wx.cell? ⟨lb, 0, none⟩ = some (.string ⟨f.toArray⟩)) (exact e0d)
          (first
            | (go_at_call 46; refine (rword_any _ _).mono ?_; rintro e w3 ⟨rfl, hb3⟩; replace hSd := hSd.below hb3; replace e0d := below_keep hb3 e0d))
        clear hb3 e0d
        go_wp2_with fail
        go_roundw
        case rel => exact ⟨m + 1, kk, by omega, by omega, by go_num, by rw [HKK.out]; split <;> split <;> omega, hSd⟩
        case measure => simp [intOf]; omega
    · obtain rfl : m = 6 := by omega
      obtain rfl : kk = 3 := by rw [HKK.out]; rfl
      have hn1 : og ≠ w.heap.size := by have := hSa.2.1; have := hSa.2.2.1; omega
      have hn2 : w.heap.size ≠ og := fun e => hn1 e.symm
      have hn0 : w.heap.size < og := by have := hSa.2.1; have := hSa.2.2.1; omega
      have hn3 : og ≠ lb := by have := hSa.2.2.1; omega
      have hn4 : lb ≠ og := fun e => hn3 e.symm
      clear HKK hlt hm1 hm6
      cases rest with
      | nil =>
        have hA1 : Hid (parseB s.data.toList = if textO (3, 0, 0, 0, []) = s.data.toList then some (3, 0, 0, 0, []) else none) := Lib.hid (HA.out.trans (by rw [show candB 3 ([]) = some (3, 0, 0, 0, []) from by rfl]))
        clear HA
        obtain ⟨hb3, -, -, -, hr3, ho3, -⟩ := id hSa
        obtain ⟨⟨eo0, eo1, eo2, eo3, eo4⟩, fo⟩ := row_five ho3
        obtain ⟨⟨er0, er1, er2, er3, er4⟩, fr⟩ := row_five hr3
        have fr0 := fr 0
        have fr1 := fr 1
        have fr2 := fr 2
        have fr3 := fr 3
        have fr4 := fr 4
        clear ho3 hr3 fr fo
        go_wp2_with fail
        refine wp_loop_rounds 1 ?_
        rw [rounds_succ]
        go_wp2_with fail
        all_goals
          have hS3 := hSa
          clear hb3
          have hb3 := hS3.1
          generalize wr = w3 at *
          refine (rtext_any 3 0 0 0 none 0 0 [] w3 rfl (by omega) (by omega) (by omega) (by omega) (by omega) (by omega) (Or.inl rfl) (by omega)).mono ?_
          rintro e w4 ⟨rfl, hb4⟩
          have hS4 := hS3.below hb4
          clear hS3 hb4
          clear hb3 er0 er1 er2 er3 er4 fr0 fr1 fr2 fr3 fr4 eo0 eo1 eo2 eo3 eo4
          obtain ⟨hb3, -, -, -, hr3, ho3, -⟩ := id hS4
          obtain ⟨⟨eo0, eo1, eo2, eo3, eo4⟩, fo⟩ := row_five ho3
          obtain ⟨⟨er0, er1, er2, er3, er4⟩, fr⟩ := row_five hr3
          have fr0 := fr 0
          have fr1 := fr 1
          have fr2 := fr 2
          have fr3 := fr 3
          have fr4 := fr 4
          clear ho3 hr3 fr fo
          go_wp2_with fail
          · rename_i hne
            refine bodyPost_ret (v := .tuple #[.agg #[.int .i64 0, .int .i64 0, .int .i64 0, .int .i64 0, .slice none 0 0], .int .i64 13]) (by simp [results, Tryd.results17, go_sem, er0, er1, er2, er3, er4]) rfl ?_
            have h := hA1.out
            rw [toList_data] at hne
            exact parseR_none (h.trans (if_neg (by intro e; rw [show textT 3 0 0 0 [] = s.data.toList from e] at hne; simp at hne))) (hb3.grown (set5_grown w4 w.heap.size _ _ _ _ _) hb3.size (fun x hx => by injection hx; omega)) rfl
          · rename_i hne
            refine bodyPost_ret (v := .tuple #[.agg #[.int .i64 3, .int .i64 0, .int .i64 0, .int .i64 0, .slice none 0 0], .int .i64 0]) (by simp [results, Tryd.results17, go_sem, er0, er1, er2, er3, er4]) rfl ?_
            have h := hA1.out
            rw [toList_data] at hne
            exact parseR_some (h.trans (if_pos (by simp at hne; exact hne))) (hb3.grown (set5_grown w4 w.heap.size _ _ _ _ _) hb3.size (fun x hx => by injection hx; omega)) rfl rfl (Nat.le_refl _) (Or.inl rfl)
      | cons x r =>
        simp only [List.length_cons] at hlc hrl
        cases hv5 : numT x with
        | none =>
          have hA1 : Hid (parseB s.data.toList = none) := Lib.hid (HA.out.trans (by rw [show candB 3 (x :: r) = none from by simp [candB, headB, hv5]]))
          clear HA
          have el1 : (1 : Int) < (r.length : Int) + 1 + 1 := by omega
          have el0 : (0 : Int) < (r.length : Int) + 1 := by omega
          have e1 : wr.cell? ⟨lb, 1, none⟩ = some (.string ⟨x.toArray⟩) := by have := hSa.2.2.2.1 1 (by simp); simpa using this
          obtain ⟨hb3, -, -, -, hr3, ho3, -⟩ := id hSa
          obtain ⟨⟨eo0, eo1, eo2, eo3, eo4⟩, fo⟩ := row_five ho3
          obtain ⟨⟨er0, er1, er2, er3, er4⟩, fr⟩ := row_five hr3
          have fr0 := fr 0
          have fr1 := fr 1
          have fr2 := fr 2
          have fr3 := fr 3
          have fr4 := fr 4
          have fo0 := fo 0
          have fo1 := fo 1
          clear ho3 hr3 fr fo
          go_wp2_with fail
          refine (num_word x none _ (HX.out _ (by simp)) hv5).mono ?_
          rintro e w5 ⟨hb5, he5⟩
          obtain rfl := he5
          have hSb := hSa.below hb5
          clear hSa hb5 e1
          clear hb3 er0 er1 er2 er3 er4 fr0 fr1 fr2 fr3 fr4 eo0 eo1 eo2 eo3 eo4 fo0 fo1
          obtain ⟨hb3, -, -, -, hr3, ho3, -⟩ := id hSb
          obtain ⟨⟨eo0, eo1, eo2, eo3, eo4⟩, fo⟩ := row_five ho3
          obtain ⟨⟨er0, er1, er2, er3, er4⟩, fr⟩ := row_five hr3
          have fr0 := fr 0
          have fr1 := fr 1
          have fr2 := fr 2
          have fr3 := fr 3
          have fr4 := fr 4
          have fo0 := fo 0
          have fo1 := fo 1
          clear ho3 hr3 fr fo
          go_wp2_with fail
          all_goals
            refine bodyPost_ret (v := .tuple #[.agg #[.int .i64 0, .int .i64 0, .int .i64 0, .int .i64 0, .slice none 0 0], .int .i64 13]) (by simp [results, Tryd.results17, go_sem, er0, er1, er2, er3, er4]) rfl ?_
            exact parseR_none hA1.out (hb3.grown (set5_grown _ w.heap.size _ _ _ _ _) hb3.size (fun x hx => by injection hx; omega)) rfl
        | some v =>
          have hvb := numT_bd hv5
          have hv0 := hvb.1
          have hv1 := hvb.2.1
          clear hvb
          have el1 : (1 : Int) < (r.length : Int) + 1 + 1 := by omega
          have el0 : (0 : Int) < (r.length : Int) + 1 := by omega
          have e1 : wr.cell? ⟨lb, 1, none⟩ = some (.string ⟨x.toArray⟩) := by have := hSa.2.2.2.1 1 (by simp); simpa using this
          obtain ⟨hb3, -, -, -, hr3, ho3, -⟩ := id hSa
          obtain ⟨⟨eo0, eo1, eo2, eo3, eo4⟩, fo⟩ := row_five ho3
          obtain ⟨⟨er0, er1, er2, er3, er4⟩, fr⟩ := row_five hr3
          have fr0 := fr 0
          have fr1 := fr 1
          have fr2 := fr 2
          have fr3 := fr 3
          have fr4 := fr 4
          have fo0 := fo 0
          have fo1 := fo 1
          clear ho3 hr3 fr fo
          go_wp2_with fail
          refine (num_word x (some v) _ (HX.out _ (by simp)) hv5).mono ?_
          rintro e w5 ⟨hb5, he5⟩
          obtain rfl := he5
          have hSb := hSa.below hb5
          clear hSa hb5 e1
          clear hb3 er0 er1 er2 er3 er4 fr0 fr1 fr2 fr3 fr4 eo0 eo1 eo2 eo3 eo4 fo0 fo1
          have HV5 := Lib.hid hv5
          clear hv5
          obtain ⟨hb3, -, -, -, hr3, ho3, -⟩ := id hSb
          obtain ⟨⟨eo0, eo1, eo2, eo3, eo4⟩, fo⟩ := row_five ho3
          obtain ⟨⟨er0, er1, er2, er3, er4⟩, fr⟩ := row_five hr3
          have fr0 := fr 0
          have fr1 := fr 1
          have fr2 := fr 2
          have fr3 := fr 3
          have fr4 := fr 4
          have fo0 := fo 0
          have fo1 := fo 1
          clear ho3 hr3 fr fo
          go_wp2_with fail
          have hSc := hSb.cells 1 (.int .i64 v) (k' := 3) (h' := v) (a' := 0) (n' := 0) rfl ⟨_, _, _, rfl⟩
          clear hSb el1 el0
          clear hb3 er0 er1 er2 er3 er4 fr0 fr1 fr2 fr3 fr4 eo0 eo1 eo2 eo3 eo4 fo0 fo1
          generalize w5.setCell ⟨og, 1, none⟩ (.int .i64 v) = w6 at *
          go_loopw [13] (fun i wr => ∃ (q : Nat) (puts : List (Int × List UInt8)) (pv : Value) (xs : List Value), q ≤ r.length + 1 ∧ i = .int .i64 ((q : Int) + 2) ∧ RS w wr lb og (f :: x :: r) 3 v 0 0 pv ∧ wr.ownsRow (og + 1) 42 2 pv puts.length xs ∧ PD wr (og + 1) puts xs ∧ Hid (loopR r [] = loopR (r.drop q) puts) ∧ puts.length * 2 = q) (fun i _ => r.length + 3 - (intOf i).toNat)
          case atStart => exact ⟨0, [], _, [], by omega, rfl, hSc, World.ownsRow_nil _ _ _ _, ⟨rfl, fun j hj => absurd hj (by simp)⟩, Lib.hid rfl, rfl⟩
          case round =>
            obtain ⟨q, puts, pv, xs, hq, rfl, hSr, hown, hPD, HLP, hpq⟩ := hrel
            clear hSc
            obtain ⟨pa, c, rfl, hmc, -, hps⟩ := hPD.ps hown
            by_cases hlt : q + 1 < r.length
            · have HQ := Lib.hid hlt
              have ea : wr.cell? ⟨lb, q + 2, none⟩ = some (.string ⟨r[q].toArray⟩) := hSr.2.2.2.1 (q + 2) (by simp only [List.length_cons]; omega)
              have eb : wr.cell? ⟨lb, q + 3, none⟩ = some (.string ⟨r[q + 1].toArray⟩) := hSr.2.2.2.1 (q + 1 + 2) (by simp only [List.length_cons]; omega)
              obtain ⟨a, hqa⟩ : ∃ a, r[q] = a := ⟨_, rfl⟩
              obtain ⟨b, hqb⟩ : ∃ b, r[q + 1] = b := ⟨_, rfl⟩
              rw [hqa] at ea
              rw [hqb] at eb
              have HAM := Lib.hid (show a ∈ f :: x :: r by rw [← hqa]; exact List.mem_cons_of_mem _ (List.mem_cons_of_mem _ (List.getElem_mem _)))
              have HQA := Lib.hid (show r[q]? = some a from (List.getElem?_eq_getElem (by omega)).trans (congrArg some hqa))
              have HQB := Lib.hid (show r[q + 1]? = some b from (List.getElem?_eq_getElem hlt).trans (congrArg some hqb))
              clear hqa hqb hps
              obtain ⟨hb3, -, -, -, hr3, ho3, -⟩ := id hSr
              obtain ⟨⟨eo0, eo1, eo2, eo3, eo4⟩, fo⟩ := row_five ho3
              obtain ⟨⟨er0, er1, er2, er3, er4⟩, fr⟩ := row_five hr3
              have fr0 := fr 0
              have fr1 := fr 1
              have fr2 := fr 2
              have fr3 := fr 3
              have fr4 := fr 4
              have fo4 := fo 4
              clear ho3 hr3 fr fo
              go_wp2_with fail
              cases hva : numT a with
              | none =>
                cases hvb : unbytesT b with
                | none =>
                  have hbl : loopR r [] = none := by rw [HLP.out, loopR_step' HQA.out HQB.out, hva, hvb]
                  have hA1 : Hid (parseB s.data.toList = none) := Lib.hid (HA.out.trans (by rw [show candB 3 (x :: r) = none from by simp [candB, headB, HV5.out, hbl]]))
                  clear hbl
                  clear HA
                  refine (num_word a none _ (HX.out _ HAM.out) hva).mono ?_
                  rintro e w7 ⟨hb7, he7⟩
                  obtain rfl := he7
                  have hSd := hSr.below hb7
                  replace hown := own_on hb7 hown
                  replace hPD := hPD.keep hb7
                  replace eb := below_keep hb7 eb
                  clear hSr hb7 ea
                  clear hb3 er0 er1 er2 er3 er4 fr0 fr1 fr2 fr3 fr4 eo0 eo1 eo2 eo3 eo4 fo4
                  obtain ⟨hb3, -, -, -, hr3, ho3, -⟩ := id hSd
                  obtain ⟨⟨eo0, eo1, eo2, eo3, eo4⟩, fo⟩ := row_five ho3
                  obtain ⟨⟨er0, er1, er2, er3, er4⟩, fr⟩ := row_five hr3
                  have fr0 := fr 0
                  have fr1 := fr 1
                  have fr2 := fr 2
                  have fr3 := fr 3
                  have fr4 := fr 4
                  have fo4 := fo 4
                  clear ho3 hr3 fr fo
                  go_wp2_with fail
                  refine (unb_word b none _ hvb).mono ?_
                  rintro e w8 ⟨hb8, rfl⟩
                  have hSe := hSd.below hb8
                  replace hown := own_on hb8 hown
                  replace hPD := hPD.keep hb8
                  clear hSd hb8 eb
                  clear hb3 er0 er1 er2 er3 er4 fr0 fr1 fr2 fr3 fr4 eo0 eo1 eo2 eo3 eo4 fo4
                  obtain ⟨hb3, -, -, -, hr3, ho3, -⟩ := id hSe
                  obtain ⟨⟨eo0, eo1, eo2, eo3, eo4⟩, fo⟩ := row_five ho3
                  obtain ⟨⟨er0, er1, er2, er3, er4⟩, fr⟩ := row_five hr3
                  have fr0 := fr 0
                  have fr1 := fr 1
                  have fr2 := fr 2
                  have fr3 := fr 3
                  have fr4 := fr 4
                  have fo4 := fo 4
                  clear ho3 hr3 fr fo
                  go_wp2_with fail
                  all_goals
                    refine bodyPost_ret (v := .tuple #[.agg #[.int .i64 0, .int .i64 0, .int .i64 0, .int .i64 0, .slice none 0 0], .int .i64 13]) (by simp [results, Tryd.results17, go_sem, er0, er1, er2, er3, er4]) rfl ?_
                    exact parseR_none hA1.out (hb3.grown (set5_grown _ w.heap.size _ _ _ _ _) hb3.size (fun x hx => by injection hx; omega)) rfl
                | some d =>
                  have hbl : loopR r [] = none := by rw [HLP.out, loopR_step' HQA.out HQB.out, hva, hvb]
                  have hA1 : Hid (parseB s.data.toList = none) := Lib.hid (HA.out.trans (by rw [show candB 3 (x :: r) = none from by simp [candB, headB, HV5.out, hbl]]))
                  clear hbl
                  clear HA
                  refine (num_word a none _ (HX.out _ HAM.out) hva).mono ?_
                  rintro e w7 ⟨hb7, he7⟩
                  obtain rfl := he7
                  have hSd := hSr.below hb7
                  replace hown := own_on hb7 hown
                  replace hPD := hPD.keep hb7
                  replace eb := below_keep hb7 eb
                  clear hSr hb7 ea
                  clear hb3 er0 er1 er2 er3 er4 fr0 fr1 fr2 fr3 fr4 eo0 eo1 eo2 eo3 eo4 fo4
                  obtain ⟨hb3, -, -, -, hr3, ho3, -⟩ := id hSd
                  obtain ⟨⟨eo0, eo1, eo2, eo3, eo4⟩, fo⟩ := row_five ho3
                  obtain ⟨⟨er0, er1, er2, er3, er4⟩, fr⟩ := row_five hr3
                  have fr0 := fr 0
                  have fr1 := fr 1
                  have fr2 := fr 2
                  have fr3 := fr 3
                  have fr4 := fr 4
                  have fo4 := fo 4
                  clear ho3 hr3 fr fo
                  go_wp2_with fail
                  refine (unb_word b (some d) _ hvb).mono ?_
                  rintro e w8 ⟨hb8, g8, rfl, hg8, hgb8, hd8⟩
                  have hSe := hSd.below hb8
                  replace hown := own_on hb8 hown
                  replace hPD := hPD.keep hb8
                  have hz8 := (Array.getElem?_eq_some_iff.1 hSd.2.2.2.2.2.1).1
                  clear hSd hb8 eb
                  clear hb3 er0 er1 er2 er3 er4 fr0 fr1 fr2 fr3 fr4 eo0 eo1 eo2 eo3 eo4 fo4
                  obtain ⟨hb3, -, -, -, hr3, ho3, -⟩ := id hSe
                  obtain ⟨⟨eo0, eo1, eo2, eo3, eo4⟩, fo⟩ := row_five ho3
                  obtain ⟨⟨er0, er1, er2, er3, er4⟩, fr⟩ := row_five hr3
                  have fr0 := fr 0
                  have fr1 := fr 1
                  have fr2 := fr 2
                  have fr3 := fr 3
                  have fr4 := fr 4
                  have fo4 := fo 4
                  clear ho3 hr3 fr fo
                  go_wp2_with fail
                  all_goals
                    refine bodyPost_ret (v := .tuple #[.agg #[.int .i64 0, .int .i64 0, .int .i64 0, .int .i64 0, .slice none 0 0], .int .i64 13]) (by simp [results, Tryd.results17, go_sem, er0, er1, er2, er3, er4]) rfl ?_
                    exact parseR_none hA1.out (hb3.grown (set5_grown _ w.heap.size _ _ _ _ _) hb3.size (fun x hx => by injection hx; omega)) rfl
              | some n5 =>
                cases hvb : unbytesT b with
                | none =>
                  have hbl : loopR r [] = none := by rw [HLP.out, loopR_step' HQA.out HQB.out, hva, hvb]
                  have hA1 : Hid (parseB s.data.toList = none) := Lib.hid (HA.out.trans (by rw [show candB 3 (x :: r) = none from by simp [candB, headB, HV5.out, hbl]]))
                  clear hbl
                  clear HA
                  refine (num_word a (some n5) _ (HX.out _ HAM.out) hva).mono ?_
                  rintro e w7 ⟨hb7, he7⟩
                  obtain rfl := he7
                  have hSd := hSr.below hb7
                  replace hown := own_on hb7 hown
                  replace hPD := hPD.keep hb7
                  replace eb := below_keep hb7 eb
                  clear hSr hb7 ea
                  clear hb3 er0 er1 er2 er3 er4 fr0 fr1 fr2 fr3 fr4 eo0 eo1 eo2 eo3 eo4 fo4
                  obtain ⟨hb3, -, -, -, hr3, ho3, -⟩ := id hSd
                  obtain ⟨⟨eo0, eo1, eo2, eo3, eo4⟩, fo⟩ := row_five ho3
                  obtain ⟨⟨er0, er1, er2, er3, er4⟩, fr⟩ := row_five hr3
                  have fr0 := fr 0
                  have fr1 := fr 1
                  have fr2 := fr 2
                  have fr3 := fr 3
                  have fr4 := fr 4
                  have fo4 := fo 4
                  clear ho3 hr3 fr fo
                  go_wp2_with fail
                  refine (unb_word b none _ hvb).mono ?_
                  rintro e w8 ⟨hb8, rfl⟩
                  have hSe := hSd.below hb8
                  replace hown := own_on hb8 hown
                  replace hPD := hPD.keep hb8
                  clear hSd hb8 eb
                  clear hb3 er0 er1 er2 er3 er4 fr0 fr1 fr2 fr3 fr4 eo0 eo1 eo2 eo3 eo4 fo4
                  obtain ⟨hb3, -, -, -, hr3, ho3, -⟩ := id hSe
                  obtain ⟨⟨eo0, eo1, eo2, eo3, eo4⟩, fo⟩ := row_five ho3
                  obtain ⟨⟨er0, er1, er2, er3, er4⟩, fr⟩ := row_five hr3
                  have fr0 := fr 0
                  have fr1 := fr 1
                  have fr2 := fr 2
                  have fr3 := fr 3
                  have fr4 := fr 4
                  have fo4 := fo 4
                  clear ho3 hr3 fr fo
                  go_wp2_with fail
                  all_goals
                    refine bodyPost_ret (v := .tuple #[.agg #[.int .i64 0, .int .i64 0, .int .i64 0, .int .i64 0, .slice none 0 0], .int .i64 13]) (by simp [results, Tryd.results17, go_sem, er0, er1, er2, er3, er4]) rfl ?_
                    exact parseR_none hA1.out (hb3.grown (set5_grown _ w.heap.size _ _ _ _ _) hb3.size (fun x hx => by injection hx; omega)) rfl
                | some d =>
                  have hy0 := (numT_bd hva).1
                  have hy1 := (numT_bd hva).2.1
                  have hy2 : -9223372036854775808 ≤ n5 := by omega
                  have hy3 : n5 ≤ 9223372036854775807 := by omega
                  have hlp2 : Hid (loopR r [] = loopR (r.drop (q + 2)) (puts ++ [(n5, d)])) := Lib.hid (by rw [HLP.out, loopR_step' HQA.out HQB.out, hva, hvb])
                  clear HLP HQA HQB
                  refine (num_word a (some n5) _ (HX.out _ HAM.out) hva).mono ?_
                  rintro e w7 ⟨hb7, he7⟩
                  obtain rfl := he7
                  have hSd := hSr.below hb7
                  replace hown := own_on hb7 hown
                  replace hPD := hPD.keep hb7
                  replace eb := below_keep hb7 eb
                  clear hSr hb7 ea
                  clear hb3 er0 er1 er2 er3 er4 fr0 fr1 fr2 fr3 fr4 eo0 eo1 eo2 eo3 eo4 fo4
                  obtain ⟨hb3, -, -, -, hr3, ho3, -⟩ := id hSd
                  obtain ⟨⟨eo0, eo1, eo2, eo3, eo4⟩, fo⟩ := row_five ho3
                  obtain ⟨⟨er0, er1, er2, er3, er4⟩, fr⟩ := row_five hr3
                  have fr0 := fr 0
                  have fr1 := fr 1
                  have fr2 := fr 2
                  have fr3 := fr 3
                  have fr4 := fr 4
                  have fo4 := fo 4
                  clear ho3 hr3 fr fo
                  go_wp2_with fail
                  refine (unb_word b (some d) _ hvb).mono ?_
                  rintro e w8 ⟨hb8, g8, rfl, hg8, hgb8, hd8⟩
                  have hSe := hSd.below hb8
                  replace hown := own_on hb8 hown
                  replace hPD := hPD.keep hb8
                  have hz8 := (Array.getElem?_eq_some_iff.1 hSd.2.2.2.2.2.1).1
                  clear hSd hb8 eb
                  clear hb3 er0 er1 er2 er3 er4 fr0 fr1 fr2 fr3 fr4 eo0 eo1 eo2 eo3 eo4 fo4
                  obtain ⟨hb3, -, -, -, hr3, ho3, -⟩ := id hSe
                  obtain ⟨⟨eo0, eo1, eo2, eo3, eo4⟩, fo⟩ := row_five ho3
                  obtain ⟨⟨er0, er1, er2, er3, er4⟩, fr⟩ := row_five hr3
                  have fr0 := fr 0
                  have fr1 := fr 1
                  have fr2 := fr 2
                  have fr3 := fr 3
                  have fr4 := fr 4
                  have fo4 := fo 4
                  clear ho3 hr3 fr fo
                  go_wp2_with (at_builtin; refine wpList_append_lit rfl (.tmp 122) (.tmp 126) 22 42 rfl ty22 inf42 rfl (by decide) (og + 1) w8 [.int .i64 n5, .slice (some ⟨g8, 0, none⟩) 40 40] 1 rfl _ puts.length _ rfl hown (by omega) (by decide) (by have := (Array.getElem?_eq_some_iff.1 hSe.2.2.2.2.2.1).1; omega) (k := 0) rfl (by simp [Value.oneCell']) rfl 1 rfl ?_; intro v' w' hap; obtain ⟨pa', c', rfl⟩ := own_slice hap.1; have hS7 := hSe.low hap.2.1; obtain ⟨⟨-, -, -, -, e7⟩, f7⟩ := row_five hS7.2.2.2.2.2.1; have f74 := f7 4; clear f7)
                  have hap : AppendedV (og + 1) 42 2 w8 (.slice pa puts.length c) (puts.length + 1) (xs ++ [.int .i64 n5, .slice (some ⟨g8, 0, none⟩) 40 40]) (.slice pa' (puts.length + 1) c') w' := hap
                  have hstep := rstep hS7 hown hPD hap (by omega) hgb8 hd8 hy2 hy3
                  clear hb3 er0 er1 er2 er3 er4 fr0 fr1 fr2 fr3 fr4 eo0 eo1 eo2 eo3 eo4 fo4
                  clear hS7 hap hown hPD hSe e7 f74 hgb8
                  generalize w'.setCell ⟨og, 4, none⟩ (.slice pa' (puts.length + 1) c') = w9 at *
                  go_roundw
                  case rel => exact ⟨q + 1 + 1, puts ++ [(n5, d)], _, _, by omega, by go_num, hstep.1, hstep.2.1, hstep.2.2, hlp2, by rw [List.length_append, List.length_singleton]; omega⟩
                  case measure => simp [intOf]; omega
            · have HP := Lib.hid hps
              have hAA := Lib.hid (show candB 3 (x :: r) = some (3, v, 0, 0, puts) by simp [candB, headB, HV5.out, HLP.out, loopR_end hlt])
              have hml : puts.length ≤ 100000 := by omega
              clear hps HLP hpq
              have hA1 : Hid (parseB s.data.toList = if textO (3, v, 0, 0, puts) = s.data.toList then some (3, v, 0, 0, puts) else none) := Lib.hid (HA.out.trans (by rw [show candB 3 (x :: r) = some (3, v, 0, 0, puts) from by exact hAA.out]))
              clear HA
              clear hAA
              obtain ⟨hb3, -, -, -, hr3, ho3, -⟩ := id hSr
              obtain ⟨⟨eo0, eo1, eo2, eo3, eo4⟩, fo⟩ := row_five ho3
              obtain ⟨⟨er0, er1, er2, er3, er4⟩, fr⟩ := row_five hr3
              have fr0 := fr 0
              have fr1 := fr 1
              have fr2 := fr 2
              have fr3 := fr 3
              have fr4 := fr 4
              clear ho3 hr3 fr fo
              go_wp2_with fail
              all_goals
                have hS3 := hSr
                clear hb3
                have hb3 := hS3.1
                generalize wr = w3 at *
                refine (rtext_any 3 v 0 0 pa puts.length c puts w3 rfl (by omega) (by omega) (by omega) (by omega) (by omega) (by omega) HP.out (fun _ => hml)).mono ?_
                rintro e w4 ⟨rfl, hb4⟩
                have hown4 := own_on hb4 hown
                have hPD4 := hPD.keep hb4
                clear hown hPD HP
                have hS4 := hS3.below hb4
                clear hS3 hb4
                clear hb3 er0 er1 er2 er3 er4 fr0 fr1 fr2 fr3 fr4 eo0 eo1 eo2 eo3 eo4
                obtain ⟨hb3, -, -, -, hr3, ho3, -⟩ := id hS4
                obtain ⟨⟨eo0, eo1, eo2, eo3, eo4⟩, fo⟩ := row_five ho3
                obtain ⟨⟨er0, er1, er2, er3, er4⟩, fr⟩ := row_five hr3
                have fr0 := fr 0
                have fr1 := fr 1
                have fr2 := fr 2
                have fr3 := fr 3
                have fr4 := fr 4
                clear ho3 hr3 fr fo
                go_wp2_with fail
                · rename_i hne
                  refine bodyPost_ret (v := .tuple #[.agg #[.int .i64 0, .int .i64 0, .int .i64 0, .int .i64 0, .slice none 0 0], .int .i64 13]) (by simp [results, Tryd.results17, go_sem, er0, er1, er2, er3, er4]) rfl ?_
                  have h := hA1.out
                  rw [toList_data] at hne
                  exact parseR_none (h.trans (if_neg (by intro e; rw [show textT 3 v 0 0 puts = s.data.toList from e] at hne; simp at hne))) (hb3.grown (set5_grown w4 w.heap.size _ _ _ _ _) hb3.size (fun x hx => by injection hx; omega)) rfl
                · rename_i hne
                  refine bodyPost_ret (v := .tuple #[.agg #[.int .i64 3, .int .i64 v, .int .i64 0, .int .i64 0, .slice pa puts.length c], .int .i64 0]) (by simp [results, Tryd.results17, go_sem, er0, er1, er2, er3, er4]) rfl ?_
                  have h := hA1.out
                  rw [toList_data] at hne
                  exact parseR_some (h.trans (if_pos (by simp at hne; exact hne))) (hb3.grown (set5_grown w4 w.heap.size _ _ _ _ _) hb3.size (fun x hx => by injection hx; omega)) rfl rfl hmc (PD.ps' (hPD4.low (set5_grown _ _ _ _ _ _ _) (by omega)) (own_other hown4 (set5_grown _ _ _ _ _ _ _) (by omega)))

end Go.Proofs.YtfdkafmomkkapaaDoor
