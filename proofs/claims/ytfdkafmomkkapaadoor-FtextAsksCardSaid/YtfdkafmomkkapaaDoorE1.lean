/- Walks: the program's reading of an op. Printed by mkE1.py. -/
import Derived.Test.YtfdkafmomkkapaaDoorE0
import Derived.Test.YtfdkafmomkkapaaDoorPl4
namespace Go.Proofs.YtfdkafmomkkapaaDoor
open Go.RowKit Go.Lib

set_option maxRecDepth 100000 in
set_option maxHeartbeats 2000000 in
theorem parse_begin (s : ByteArray) (f : List UInt8) (rest : List (List UInt8)) (w : World) (hG : Gl w) (hs : s.size ≤ 1000000) (hw : Hid (words s.data.toList = f :: rest)) (hm : (f :: rest).length ≤ 100000) (hx : ∀ x ∈ f :: rest, x.length ≤ 1000000) (hk : Hid (kindI f = 0)) :
    Calls Tryd.prog 16 #[.string s] w (ParseR w (parseA s.data.toList)) := by
  have hA := parse_cand hw.out
  rw [candA_begin hk.out] at hA
  have hA1 := Lib.hid hA
  clear hA
  have HX := Lib.hid hx
  clear hx
  go_enter Tryd.func16, Tryd.ntmps16
  go_wp2_with fail
  go_step3
  go_wp2_with fail
  refine (split_any s _ (by omega) (hG.keep (Below.of_alloc _ _))).mono ?_
  rintro e w1 ⟨rfl, rfl⟩
  rw [hw.out]
  go_wp2_with fail
  have hS := st_start w (f :: rest)
  refine (next_any _ (f :: rest) false _ hS.2.1 (by omega)).mono ?_
  rintro e w1 ⟨rfl, hR1, hg1⟩
  have hS1 := hS.next _ hg1 hR1
  clear hS
  go_wp2_with fail
  refine (indexFunc_any _ _ (nextW (f :: rest) false) _ ?_ ?_).mono ?_
  · exact (cell_of_row _ _ _ _ _ _ (hp_old (hp_new _ _))).trans rfl
  · rw [← sz_alloc w1]; exact hp_new _ _
  rintro e w2 ⟨rfl, n, hn⟩
  have hS2 : St w w2 rest false 0 0 0 0 (.slice none 0 0) := by
    subst hn
    exact hS1.below (below_drewN (((Below.of_alloc _ _)).alloc (by simp) _) n)
  have hkk : kindI (nextW (f :: rest) false) = 0 := hk.out
  clear hS1 hR1 hg1 hn hk
  rw [hkk]
  obtain ⟨hb2, -, hr0, ho, -⟩ := id hS2
  obtain ⟨⟨eo0, eo1, eo2, eo3, eo4⟩, fo⟩ := row_five ho
  have fo0 := fo 0
  clear fo ho hr0
  have hrl : rest.length < 100000 := by rw [List.length_cons] at hm; omega
  go_wp2_with fail
  have hSa := hS2.cells 0 (.int .i64 1) (k' := 1) (h' := 0) (a' := 0) (n' := 0) rfl ⟨_, _, _, rfl⟩
  generalize w2.setCell ⟨w.heap.size + 1 + 1 + 1, 0, none⟩ (.int .i64 1) = w3 at *
  clear hS2 hb2 eo0 eo1 eo2 eo3 eo4 fo0 hkk
  obtain ⟨hb3, ⟨ra, rc, hrb, -, -, -⟩, hr3, ho3, -⟩ := id hSa
  obtain ⟨⟨eo0, eo1, eo2, eo3, eo4⟩, fo⟩ := row_five ho3
  obtain ⟨⟨er0, er1, er2, er3, er4⟩, fr⟩ := row_five hr3
  have fr0 := fr 0
  have fr1 := fr 1
  have fr2 := fr 2
  have fr3 := fr 3
  have fr4 := fr 4
  have eb : w3.cell? ⟨w.heap.size + 1 + 1, 1, none⟩ = some (.bool false) := by rw [cell_of_row _ _ _ _ _ _ hrb]; rfl
  have fb : w3.frozen? ⟨w.heap.size + 1 + 1, 1, none⟩ = false := frozen_of_row _ _ _ _ _ hrb
  clear hrb ho3 hr3 fr fo
  go_step3
  go_wp2_with fail
  have hS3 := hSa
  clear hSa hb3
  have hb3 := hS3.1
  generalize w3 = w3 at *
  refine (text_any 1 0 0 0 none 0 0 [] w3 (hG.keep hb3) rfl (by omega) (by omega) (by omega) (by omega) (by omega) (by omega) (Or.inl rfl) (by decide)).mono ?_
  rintro e w4 ⟨rfl, hb4⟩
  have hS4 := hS3.below hb4
  clear hS3 hb3 er0 er1 er2 er3 er4 fr0 fr1 fr2 fr3 fr4 eb fb eo0 eo1 eo2 eo3 eo4 hb4
  obtain ⟨hb3, -, hr3, ho3, -⟩ := id hS4
  obtain ⟨⟨eo0, eo1, eo2, eo3, eo4⟩, -⟩ := row_five ho3
  obtain ⟨⟨er0, er1, er2, er3, er4⟩, fr⟩ := row_five hr3
  have fr0 := fr 0
  have fr1 := fr 1
  have fr2 := fr 2
  have fr3 := fr 3
  have fr4 := fr 4
  clear ho3 hr3 fr
  go_wp2_with fail
  · rename_i hne
    rw [Exit.noGoto_ret]
    refine bodyPost_ret (v := .tuple #[.agg #[.int .i64 0, .int .i64 0, .int .i64 0, .int .i64 0, .slice none 0 0], .int .i64 13]) (by simp [results, Tryd.results16, go_sem, er0, er1, er2, er3, er4]) rfl ?_
    have h := hA1.out
    rw [toList_data] at hne
    exact parseR_none (h.trans (if_neg (by intro e; rw [show textT 1 0 0 0 [] = s.data.toList from e] at hne; simp at hne))) (hb3.grown (set5_grown w4 w.heap.size _ _ _ _ _) hb3.size (fun x hx => by injection hx; omega)) rfl
  · rename_i hne
    rw [Exit.noGoto_ret]
    refine bodyPost_ret (v := .tuple #[.agg #[.int .i64 1, .int .i64 0, .int .i64 0, .int .i64 0, .slice none 0 0], .int .i64 0]) (by simp [results, Tryd.results16, go_sem, er0, er1, er2, er3, er4]) rfl ?_
    have h := hA1.out
    rw [toList_data] at hne
    exact parseR_some (h.trans (if_pos (by simp at hne; exact hne))) (hb3.grown (set5_grown w4 w.heap.size _ _ _ _ _) hb3.size (fun x hx => by injection hx; omega)) rfl rfl (Nat.le_refl _) (Or.inl rfl)

set_option maxRecDepth 100000 in
set_option maxHeartbeats 2000000 in
theorem parse_other (s : ByteArray) (f : List UInt8) (rest : List (List UInt8)) (w : World) (hG : Gl w) (hs : s.size ≤ 1000000) (hw : Hid (words s.data.toList = f :: rest)) (hm : (f :: rest).length ≤ 100000) (hx : ∀ x ∈ f :: rest, x.length ≤ 1000000) (hk : Hid (kindI f = -1)) :
    Calls Tryd.prog 16 #[.string s] w (ParseR w (parseA s.data.toList)) := by
  have hA := parse_cand hw.out
  rw [candA_other hk.out] at hA
  have hA1 := Lib.hid hA
  clear hA
  have HX := Lib.hid hx
  clear hx
  go_enter Tryd.func16, Tryd.ntmps16
  go_wp2_with fail
  go_step3
  go_wp2_with fail
  refine (split_any s _ (by omega) (hG.keep (Below.of_alloc _ _))).mono ?_
  rintro e w1 ⟨rfl, rfl⟩
  rw [hw.out]
  go_wp2_with fail
  have hS := st_start w (f :: rest)
  refine (next_any _ (f :: rest) false _ hS.2.1 (by omega)).mono ?_
  rintro e w1 ⟨rfl, hR1, hg1⟩
  have hS1 := hS.next _ hg1 hR1
  clear hS
  go_wp2_with fail
  refine (indexFunc_any _ _ (nextW (f :: rest) false) _ ?_ ?_).mono ?_
  · exact (cell_of_row _ _ _ _ _ _ (hp_old (hp_new _ _))).trans rfl
  · rw [← sz_alloc w1]; exact hp_new _ _
  rintro e w2 ⟨rfl, n, hn⟩
  have hS2 : St w w2 rest false 0 0 0 0 (.slice none 0 0) := by
    subst hn
    exact hS1.below (below_drewN (((Below.of_alloc _ _)).alloc (by simp) _) n)
  have hkk : kindI (nextW (f :: rest) false) = -1 := hk.out
  clear hS1 hR1 hg1 hn hk
  rw [hkk]
  obtain ⟨hb2, -, hr0, ho, -⟩ := id hS2
  obtain ⟨⟨eo0, eo1, eo2, eo3, eo4⟩, fo⟩ := row_five ho
  have fo0 := fo 0
  clear fo ho hr0
  have hrl : rest.length < 100000 := by rw [List.length_cons] at hm; omega
  go_wp2_with fail
  have hSa := hS2.cells 0 (.int .i64 0) (k' := 0) (h' := 0) (a' := 0) (n' := 0) rfl ⟨_, _, _, rfl⟩
  generalize w2.setCell ⟨w.heap.size + 1 + 1 + 1, 0, none⟩ (.int .i64 0) = w3 at *
  clear hS2 hb2 eo0 eo1 eo2 eo3 eo4 fo0 hkk
  obtain ⟨hb3, ⟨ra, rc, hrb, -, -, -⟩, hr3, ho3, -⟩ := id hSa
  obtain ⟨⟨eo0, eo1, eo2, eo3, eo4⟩, fo⟩ := row_five ho3
  obtain ⟨⟨er0, er1, er2, er3, er4⟩, fr⟩ := row_five hr3
  have fr0 := fr 0
  have fr1 := fr 1
  have fr2 := fr 2
  have fr3 := fr 3
  have fr4 := fr 4
  have eb : w3.cell? ⟨w.heap.size + 1 + 1, 1, none⟩ = some (.bool false) := by rw [cell_of_row _ _ _ _ _ _ hrb]; rfl
  have fb : w3.frozen? ⟨w.heap.size + 1 + 1, 1, none⟩ = false := frozen_of_row _ _ _ _ _ hrb
  clear hrb ho3 hr3 fr fo
  go_step3
  go_wp2_with fail
  have hS3 := hSa.bad true
  clear hb3
  have hb3 := hS3.1
  all_goals
    rw [Exit.noGoto_ret]
    refine bodyPost_ret (v := .tuple #[.agg #[.int .i64 0, .int .i64 0, .int .i64 0, .int .i64 0, .slice none 0 0], .int .i64 13]) (by simp [results, Tryd.results16, go_sem, er0, er1, er2, er3, er4]) rfl ?_
    exact parseR_none hA1.out (hb3.grown (set5_grown _ w.heap.size _ _ _ _ _) hb3.size (fun x hx => by injection hx; omega)) rfl

set_option maxRecDepth 100000 in
set_option maxHeartbeats 2000000 in
theorem parse_commit (s : ByteArray) (f : List UInt8) (rest : List (List UInt8)) (w : World) (hG : Gl w) (hs : s.size ≤ 1000000) (hw : Hid (words s.data.toList = f :: rest)) (hm : (f :: rest).length ≤ 100000) (hx : ∀ x ∈ f :: rest, x.length ≤ 1000000) (hk : Hid (kindI f = 3)) :
    Calls Tryd.prog 16 #[.string s] w (ParseR w (parseA s.data.toList)) := by
  have hA := parse_cand hw.out
  rw [candA_commit hk.out] at hA
  have hA1 := Lib.hid hA
  clear hA
  have HX := Lib.hid hx
  clear hx
  go_enter Tryd.func16, Tryd.ntmps16
  go_wp2_with fail
  go_step3
  go_wp2_with fail
  refine (split_any s _ (by omega) (hG.keep (Below.of_alloc _ _))).mono ?_
  rintro e w1 ⟨rfl, rfl⟩
  rw [hw.out]
  go_wp2_with fail
  have hS := st_start w (f :: rest)
  refine (next_any _ (f :: rest) false _ hS.2.1 (by omega)).mono ?_
  rintro e w1 ⟨rfl, hR1, hg1⟩
  have hS1 := hS.next _ hg1 hR1
  clear hS
  go_wp2_with fail
  refine (indexFunc_any _ _ (nextW (f :: rest) false) _ ?_ ?_).mono ?_
  · exact (cell_of_row _ _ _ _ _ _ (hp_old (hp_new _ _))).trans rfl
  · rw [← sz_alloc w1]; exact hp_new _ _
  rintro e w2 ⟨rfl, n, hn⟩
  have hS2 : St w w2 rest false 0 0 0 0 (.slice none 0 0) := by
    subst hn
    exact hS1.below (below_drewN (((Below.of_alloc _ _)).alloc (by simp) _) n)
  have hkk : kindI (nextW (f :: rest) false) = 3 := hk.out
  clear hS1 hR1 hg1 hn hk
  rw [hkk]
  obtain ⟨hb2, -, hr0, ho, -⟩ := id hS2
  obtain ⟨⟨eo0, eo1, eo2, eo3, eo4⟩, fo⟩ := row_five ho
  have fo0 := fo 0
  clear fo ho hr0
  have hrl : rest.length < 100000 := by rw [List.length_cons] at hm; omega
  go_wp2_with fail
  have hSa := hS2.cells 0 (.int .i64 4) (k' := 4) (h' := 0) (a' := 0) (n' := 0) rfl ⟨_, _, _, rfl⟩
  generalize w2.setCell ⟨w.heap.size + 1 + 1 + 1, 0, none⟩ (.int .i64 4) = w3 at *
  clear hS2 hb2 eo0 eo1 eo2 eo3 eo4 fo0 hkk
  obtain ⟨-, -, -, ho, -⟩ := id hSa
  obtain ⟨⟨ek, -⟩, -⟩ := row_five ho
  clear ho
  go_step3
  have hla := Nat.le_refl rest.length
  have hma : ∀ x ∈ rest, x ∈ f :: rest := fun x hx => List.mem_cons_of_mem _ hx
  have HA := Lib.hid hA1
  clear hA1
  go_wp2_with fail
  refine (rnum_any _ rest false _ w hG hSa.1 (by omega) hSa.2.1 (by have := hla; omega) (fun x hx => HX.out x (hma x hx))).mono ?_
  rintro e w4 ⟨n4, rfl, n4a, n4b, hR4, hv4, hg4⟩
  have hv4 := Lib.hid hv4
  replace hSa := hSa.next _ hg4 hR4
  try clear ek
  replace hla := Nat.le_trans (nextS_length rest false) hla
  replace hma := fun x hx => hma x (nextS_mem rest false x hx)
  clear hR4 hg4
  have hc := candC_num 4 rest n4 _ rfl hv4.out
  clear hla hma hv4
  generalize (nextB rest false || (atoiIn (nextW rest false)).isNone) = b4 at *
  generalize nextS rest false = ws4 at *
  cases b4
  · have hA1 := Lib.hid (HA.out.trans (by rw [hc.1 rfl]))
    clear hc HA
    obtain ⟨hb3, ⟨ra, rc, hrb, -, -, -⟩, hr3, ho3, -⟩ := id hSa
    obtain ⟨⟨eo0, eo1, eo2, eo3, eo4⟩, fo⟩ := row_five ho3
    obtain ⟨⟨er0, er1, er2, er3, er4⟩, fr⟩ := row_five hr3
    have fr0 := fr 0
    have fr1 := fr 1
    have fr2 := fr 2
    have fr3 := fr 3
    have fr4 := fr 4
    have fo1 := fo 1
    have eb : w4.cell? ⟨w.heap.size + 1 + 1, 1, none⟩ = some (.bool false) := by rw [cell_of_row _ _ _ _ _ _ hrb]; rfl
    have fb : w4.frozen? ⟨w.heap.size + 1 + 1, 1, none⟩ = false := frozen_of_row _ _ _ _ _ hrb
    clear hrb ho3 hr3 fr fo
    go_wp2_with fail
    have hS3 := hSa.cells 1 (.int .i64 n4) (k' := 4) (h' := n4) (a' := 0) (n' := 0) rfl ⟨_, _, _, rfl⟩
    clear hSa hb3
    have hb3 := hS3.1
    generalize w4.setCell ⟨w.heap.size + 1 + 1 + 1, 1, none⟩ (.int .i64 n4) = w3 at *
    refine (text_any 4 n4 0 0 none 0 0 [] w3 (hG.keep hb3) rfl (by omega) (by omega) (by omega) (by omega) (by omega) (by omega) (Or.inl rfl) (by decide)).mono ?_
    rintro e w4 ⟨rfl, hb4⟩
    have hS4 := hS3.below hb4
    clear hS3 hb3 er0 er1 er2 er3 er4 fr0 fr1 fr2 fr3 fr4 eb fb eo0 eo1 eo2 eo3 eo4 hb4
    obtain ⟨hb3, -, hr3, ho3, -⟩ := id hS4
    obtain ⟨⟨eo0, eo1, eo2, eo3, eo4⟩, -⟩ := row_five ho3
    obtain ⟨⟨er0, er1, er2, er3, er4⟩, fr⟩ := row_five hr3
    have fr0 := fr 0
    have fr1 := fr 1
    have fr2 := fr 2
    have fr3 := fr 3
    have fr4 := fr 4
    clear ho3 hr3 fr
    go_wp2_with fail
    · rename_i hne
      rw [Exit.noGoto_ret]
      refine bodyPost_ret (v := .tuple #[.agg #[.int .i64 0, .int .i64 0, .int .i64 0, .int .i64 0, .slice none 0 0], .int .i64 13]) (by simp [results, Tryd.results16, go_sem, er0, er1, er2, er3, er4]) rfl ?_
      have h := hA1.out
      rw [toList_data] at hne
      exact parseR_none (h.trans (if_neg (by intro e; rw [show textT 4 n4 0 0 [] = s.data.toList from e] at hne; simp at hne))) (hb3.grown (set5_grown w4 w.heap.size _ _ _ _ _) hb3.size (fun x hx => by injection hx; omega)) rfl
    · rename_i hne
      rw [Exit.noGoto_ret]
      refine bodyPost_ret (v := .tuple #[.agg #[.int .i64 4, .int .i64 n4, .int .i64 0, .int .i64 0, .slice none 0 0], .int .i64 0]) (by simp [results, Tryd.results16, go_sem, er0, er1, er2, er3, er4]) rfl ?_
      have h := hA1.out
      rw [toList_data] at hne
      exact parseR_some (h.trans (if_pos (by simp at hne; exact hne))) (hb3.grown (set5_grown w4 w.heap.size _ _ _ _ _) hb3.size (fun x hx => by injection hx; omega)) rfl rfl (Nat.le_refl _) (Or.inl rfl)
  · have hA1 : Hid (parseA s.data.toList = none) := Lib.hid (HA.out.trans (by rw [hc.2 rfl]))
    clear hc HA
    obtain ⟨hb3, ⟨ra, rc, hrb, -, -, -⟩, hr3, ho3, -⟩ := id hSa
    obtain ⟨⟨eo0, eo1, eo2, eo3, eo4⟩, fo⟩ := row_five ho3
    obtain ⟨⟨er0, er1, er2, er3, er4⟩, fr⟩ := row_five hr3
    have fr0 := fr 0
    have fr1 := fr 1
    have fr2 := fr 2
    have fr3 := fr 3
    have fr4 := fr 4
    have fo1 := fo 1
    have eb : w4.cell? ⟨w.heap.size + 1 + 1, 1, none⟩ = some (.bool true) := by rw [cell_of_row _ _ _ _ _ _ hrb]; rfl
    clear hrb ho3 hr3 fr fo
    go_wp2_with fail
    have hS3 := hSa.cells 1 (.int .i64 n4) (k' := 4) (h' := n4) (a' := 0) (n' := 0) rfl ⟨_, _, _, rfl⟩
    clear hb3
    have hb3 := hS3.1
    all_goals
      rw [Exit.noGoto_ret]
      refine bodyPost_ret (v := .tuple #[.agg #[.int .i64 0, .int .i64 0, .int .i64 0, .int .i64 0, .slice none 0 0], .int .i64 13]) (by simp [results, Tryd.results16, go_sem, er0, er1, er2, er3, er4]) rfl ?_
      exact parseR_none hA1.out (hb3.grown (set5_grown _ w.heap.size _ _ _ _ _) hb3.size (fun x hx => by injection hx; omega)) rfl

set_option maxRecDepth 100000 in
set_option maxHeartbeats 2000000 in
theorem parse_abort (s : ByteArray) (f : List UInt8) (rest : List (List UInt8)) (w : World) (hG : Gl w) (hs : s.size ≤ 1000000) (hw : Hid (words s.data.toList = f :: rest)) (hm : (f :: rest).length ≤ 100000) (hx : ∀ x ∈ f :: rest, x.length ≤ 1000000) (hk : Hid (kindI f = 4)) :
    Calls Tryd.prog 16 #[.string s] w (ParseR w (parseA s.data.toList)) := by
  have hA := parse_cand hw.out
  rw [candA_abort hk.out] at hA
  have hA1 := Lib.hid hA
  clear hA
  have HX := Lib.hid hx
  clear hx
  go_enter Tryd.func16, Tryd.ntmps16
  go_wp2_with fail
  go_step3
  go_wp2_with fail
  refine (split_any s _ (by omega) (hG.keep (Below.of_alloc _ _))).mono ?_
  rintro e w1 ⟨rfl, rfl⟩
  rw [hw.out]
  go_wp2_with fail
  have hS := st_start w (f :: rest)
  refine (next_any _ (f :: rest) false _ hS.2.1 (by omega)).mono ?_
  rintro e w1 ⟨rfl, hR1, hg1⟩
  have hS1 := hS.next _ hg1 hR1
  clear hS
  go_wp2_with fail
  refine (indexFunc_any _ _ (nextW (f :: rest) false) _ ?_ ?_).mono ?_
  · exact (cell_of_row _ _ _ _ _ _ (hp_old (hp_new _ _))).trans rfl
  · rw [← sz_alloc w1]; exact hp_new _ _
  rintro e w2 ⟨rfl, n, hn⟩
  have hS2 : St w w2 rest false 0 0 0 0 (.slice none 0 0) := by
    subst hn
    exact hS1.below (below_drewN (((Below.of_alloc _ _)).alloc (by simp) _) n)
  have hkk : kindI (nextW (f :: rest) false) = 4 := hk.out
  clear hS1 hR1 hg1 hn hk
  rw [hkk]
  obtain ⟨hb2, -, hr0, ho, -⟩ := id hS2
  obtain ⟨⟨eo0, eo1, eo2, eo3, eo4⟩, fo⟩ := row_five ho
  have fo0 := fo 0
  clear fo ho hr0
  have hrl : rest.length < 100000 := by rw [List.length_cons] at hm; omega
  go_wp2_with fail
  have hSa := hS2.cells 0 (.int .i64 5) (k' := 5) (h' := 0) (a' := 0) (n' := 0) rfl ⟨_, _, _, rfl⟩
  generalize w2.setCell ⟨w.heap.size + 1 + 1 + 1, 0, none⟩ (.int .i64 5) = w3 at *
  clear hS2 hb2 eo0 eo1 eo2 eo3 eo4 fo0 hkk
  obtain ⟨-, -, -, ho, -⟩ := id hSa
  obtain ⟨⟨ek, -⟩, -⟩ := row_five ho
  clear ho
  go_step3
  have hla := Nat.le_refl rest.length
  have hma : ∀ x ∈ rest, x ∈ f :: rest := fun x hx => List.mem_cons_of_mem _ hx
  have HA := Lib.hid hA1
  clear hA1
  go_wp2_with fail
  refine (rnum_any _ rest false _ w hG hSa.1 (by omega) hSa.2.1 (by have := hla; omega) (fun x hx => HX.out x (hma x hx))).mono ?_
  rintro e w4 ⟨n4, rfl, n4a, n4b, hR4, hv4, hg4⟩
  have hv4 := Lib.hid hv4
  replace hSa := hSa.next _ hg4 hR4
  try clear ek
  replace hla := Nat.le_trans (nextS_length rest false) hla
  replace hma := fun x hx => hma x (nextS_mem rest false x hx)
  clear hR4 hg4
  have hc := candC_num 5 rest n4 _ rfl hv4.out
  clear hla hma hv4
  generalize (nextB rest false || (atoiIn (nextW rest false)).isNone) = b4 at *
  generalize nextS rest false = ws4 at *
  cases b4
  · have hA1 := Lib.hid (HA.out.trans (by rw [hc.1 rfl]))
    clear hc HA
    obtain ⟨hb3, ⟨ra, rc, hrb, -, -, -⟩, hr3, ho3, -⟩ := id hSa
    obtain ⟨⟨eo0, eo1, eo2, eo3, eo4⟩, fo⟩ := row_five ho3
    obtain ⟨⟨er0, er1, er2, er3, er4⟩, fr⟩ := row_five hr3
    have fr0 := fr 0
    have fr1 := fr 1
    have fr2 := fr 2
    have fr3 := fr 3
    have fr4 := fr 4
    have fo1 := fo 1
    have eb : w4.cell? ⟨w.heap.size + 1 + 1, 1, none⟩ = some (.bool false) := by rw [cell_of_row _ _ _ _ _ _ hrb]; rfl
    have fb : w4.frozen? ⟨w.heap.size + 1 + 1, 1, none⟩ = false := frozen_of_row _ _ _ _ _ hrb
    clear hrb ho3 hr3 fr fo
    go_wp2_with fail
    have hS3 := hSa.cells 1 (.int .i64 n4) (k' := 5) (h' := n4) (a' := 0) (n' := 0) rfl ⟨_, _, _, rfl⟩
    clear hSa hb3
    have hb3 := hS3.1
    generalize w4.setCell ⟨w.heap.size + 1 + 1 + 1, 1, none⟩ (.int .i64 n4) = w3 at *
    refine (text_any 5 n4 0 0 none 0 0 [] w3 (hG.keep hb3) rfl (by omega) (by omega) (by omega) (by omega) (by omega) (by omega) (Or.inl rfl) (by decide)).mono ?_
    rintro e w4 ⟨rfl, hb4⟩
    have hS4 := hS3.below hb4
    clear hS3 hb3 er0 er1 er2 er3 er4 fr0 fr1 fr2 fr3 fr4 eb fb eo0 eo1 eo2 eo3 eo4 hb4
    obtain ⟨hb3, -, hr3, ho3, -⟩ := id hS4
    obtain ⟨⟨eo0, eo1, eo2, eo3, eo4⟩, -⟩ := row_five ho3
    obtain ⟨⟨er0, er1, er2, er3, er4⟩, fr⟩ := row_five hr3
    have fr0 := fr 0
    have fr1 := fr 1
    have fr2 := fr 2
    have fr3 := fr 3
    have fr4 := fr 4
    clear ho3 hr3 fr
    go_wp2_with fail
    · rename_i hne
      rw [Exit.noGoto_ret]
      refine bodyPost_ret (v := .tuple #[.agg #[.int .i64 0, .int .i64 0, .int .i64 0, .int .i64 0, .slice none 0 0], .int .i64 13]) (by simp [results, Tryd.results16, go_sem, er0, er1, er2, er3, er4]) rfl ?_
      have h := hA1.out
      rw [toList_data] at hne
      exact parseR_none (h.trans (if_neg (by intro e; rw [show textT 5 n4 0 0 [] = s.data.toList from e] at hne; simp at hne))) (hb3.grown (set5_grown w4 w.heap.size _ _ _ _ _) hb3.size (fun x hx => by injection hx; omega)) rfl
    · rename_i hne
      rw [Exit.noGoto_ret]
      refine bodyPost_ret (v := .tuple #[.agg #[.int .i64 5, .int .i64 n4, .int .i64 0, .int .i64 0, .slice none 0 0], .int .i64 0]) (by simp [results, Tryd.results16, go_sem, er0, er1, er2, er3, er4]) rfl ?_
      have h := hA1.out
      rw [toList_data] at hne
      exact parseR_some (h.trans (if_pos (by simp at hne; exact hne))) (hb3.grown (set5_grown w4 w.heap.size _ _ _ _ _) hb3.size (fun x hx => by injection hx; omega)) rfl rfl (Nat.le_refl _) (Or.inl rfl)
  · have hA1 : Hid (parseA s.data.toList = none) := Lib.hid (HA.out.trans (by rw [hc.2 rfl]))
    clear hc HA
    obtain ⟨hb3, ⟨ra, rc, hrb, -, -, -⟩, hr3, ho3, -⟩ := id hSa
    obtain ⟨⟨eo0, eo1, eo2, eo3, eo4⟩, fo⟩ := row_five ho3
    obtain ⟨⟨er0, er1, er2, er3, er4⟩, fr⟩ := row_five hr3
    have fr0 := fr 0
    have fr1 := fr 1
    have fr2 := fr 2
    have fr3 := fr 3
    have fr4 := fr 4
    have fo1 := fo 1
    have eb : w4.cell? ⟨w.heap.size + 1 + 1, 1, none⟩ = some (.bool true) := by rw [cell_of_row _ _ _ _ _ _ hrb]; rfl
    clear hrb ho3 hr3 fr fo
    go_wp2_with fail
    have hS3 := hSa.cells 1 (.int .i64 n4) (k' := 5) (h' := n4) (a' := 0) (n' := 0) rfl ⟨_, _, _, rfl⟩
    clear hb3
    have hb3 := hS3.1
    all_goals
      rw [Exit.noGoto_ret]
      refine bodyPost_ret (v := .tuple #[.agg #[.int .i64 0, .int .i64 0, .int .i64 0, .int .i64 0, .slice none 0 0], .int .i64 13]) (by simp [results, Tryd.results16, go_sem, er0, er1, er2, er3, er4]) rfl ?_
      exact parseR_none hA1.out (hb3.grown (set5_grown _ w.heap.size _ _ _ _ _) hb3.size (fun x hx => by injection hx; omega)) rfl

set_option maxRecDepth 100000 in
set_option maxHeartbeats 2000000 in
theorem parse_read (s : ByteArray) (f : List UInt8) (rest : List (List UInt8)) (w : World) (hG : Gl w) (hs : s.size ≤ 1000000) (hw : Hid (words s.data.toList = f :: rest)) (hm : (f :: rest).length ≤ 100000) (hx : ∀ x ∈ f :: rest, x.length ≤ 1000000) (hk : Hid (kindI f = 1)) :
    Calls Tryd.prog 16 #[.string s] w (ParseR w (parseA s.data.toList)) := by
  have hA := parse_cand hw.out
  rw [candA_read hk.out] at hA
  have hA1 := Lib.hid hA
  clear hA
  have HX := Lib.hid hx
  clear hx
  go_enter Tryd.func16, Tryd.ntmps16
  go_wp2_with fail
  go_step3
  go_wp2_with fail
  refine (split_any s _ (by omega) (hG.keep (Below.of_alloc _ _))).mono ?_
  rintro e w1 ⟨rfl, rfl⟩
  rw [hw.out]
  go_wp2_with fail
  have hS := st_start w (f :: rest)
  refine (next_any _ (f :: rest) false _ hS.2.1 (by omega)).mono ?_
  rintro e w1 ⟨rfl, hR1, hg1⟩
  have hS1 := hS.next _ hg1 hR1
  clear hS
  go_wp2_with fail
  refine (indexFunc_any _ _ (nextW (f :: rest) false) _ ?_ ?_).mono ?_
  · exact (cell_of_row _ _ _ _ _ _ (hp_old (hp_new _ _))).trans rfl
  · rw [← sz_alloc w1]; exact hp_new _ _
  rintro e w2 ⟨rfl, n, hn⟩
  have hS2 : St w w2 rest false 0 0 0 0 (.slice none 0 0) := by
    subst hn
    exact hS1.below (below_drewN (((Below.of_alloc _ _)).alloc (by simp) _) n)
  have hkk : kindI (nextW (f :: rest) false) = 1 := hk.out
  clear hS1 hR1 hg1 hn hk
  rw [hkk]
  obtain ⟨hb2, -, hr0, ho, -⟩ := id hS2
  obtain ⟨⟨eo0, eo1, eo2, eo3, eo4⟩, fo⟩ := row_five ho
  have fo0 := fo 0
  clear fo ho hr0
  have hrl : rest.length < 100000 := by rw [List.length_cons] at hm; omega
  go_wp2_with fail
  have hSa := hS2.cells 0 (.int .i64 2) (k' := 2) (h' := 0) (a' := 0) (n' := 0) rfl ⟨_, _, _, rfl⟩
  generalize w2.setCell ⟨w.heap.size + 1 + 1 + 1, 0, none⟩ (.int .i64 2) = w3 at *
  clear hS2 hb2 eo0 eo1 eo2 eo3 eo4 fo0 hkk
  obtain ⟨-, -, -, ho, -⟩ := id hSa
  obtain ⟨⟨ek, -⟩, -⟩ := row_five ho
  clear ho
  go_step3
  have hla := Nat.le_refl rest.length
  have hma : ∀ x ∈ rest, x ∈ f :: rest := fun x hx => List.mem_cons_of_mem _ hx
  have HA := Lib.hid hA1
  clear hA1
  go_wp2_with fail
  refine (rnum_any _ rest false _ w hG hSa.1 (by omega) hSa.2.1 (by have := hla; omega) (fun x hx => HX.out x (hma x hx))).mono ?_
  rintro e w4 ⟨n4, rfl, n4a, n4b, hR4, hv4, hg4⟩
  have hv4 := Lib.hid hv4
  replace hSa := hSa.next _ hg4 hR4
  try clear ek
  replace hla := Nat.le_trans (nextS_length rest false) hla
  replace hma := fun x hx => hma x (nextS_mem rest false x hx)
  clear hR4 hg4
  generalize hb4 : (nextB rest false || (atoiIn (nextW rest false)).isNone) = b4 at hSa
  generalize hws4 : nextS rest false = ws4 at hSa hla hma
  have hb4 := Lib.hid hb4
  have hws4 := Lib.hid hws4
  go_wp2_with fail
  refine (rnum_any _ ws4 b4 _ w hG hSa.1 (by omega) hSa.2.1 (by have := hla; omega) (fun x hx => HX.out x (hma x hx))).mono ?_
  rintro e w5 ⟨n5, rfl, n5a, n5b, hR5, hv5, hg5⟩
  have hv5 := Lib.hid hv5
  replace hSa := hSa.next _ hg5 hR5
  try clear ek
  replace hla := Nat.le_trans (nextS_length ws4 b4) hla
  replace hma := fun x hx => hma x (nextS_mem ws4 b4 x hx)
  clear hR5 hg5
  generalize hb5 : (nextB ws4 b4 || (atoiIn (nextW ws4 b4)).isNone) = b5 at hSa
  generalize hws5 : nextS ws4 b4 = ws5 at hSa hla hma
  have hb5 := Lib.hid hb5
  have hws5 := Lib.hid hws5
  go_wp2_with fail
  refine (rnum_any _ ws5 b5 _ w hG hSa.1 (by omega) hSa.2.1 (by have := hla; omega) (fun x hx => HX.out x (hma x hx))).mono ?_
  rintro e w6 ⟨n6, rfl, n6a, n6b, hR6, hv6, hg6⟩
  have hv6 := Lib.hid hv6
  replace hSa := hSa.next _ hg6 hR6
  try clear ek
  replace hla := Nat.le_trans (nextS_length ws5 b5) hla
  replace hma := fun x hx => hma x (nextS_mem ws5 b5 x hx)
  clear hR6 hg6
  generalize hb6 : (nextB ws5 b5 || (atoiIn (nextW ws5 b5)).isNone) = b6 at hSa
  generalize hws6 : nextS ws5 b5 = ws6 at hSa hla hma
  have hb6 := Lib.hid hb6
  have hc := Lib.hid (candR_num rest n4 n5 n6 b4 b5 b6 ws4 ws5 hb4.out hws4.out hb5.out hws5.out hb6.out hv4.out hv5.out hv6.out)
  clear hb4 hb5 hb6 hws4 hws5 hv4 hv5 hv6 hws6
  clear hla hma
  cases b6
  · have hA1 := Lib.hid (HA.out.trans (by rw [hc.out.1 rfl]))
    clear hc HA
    obtain ⟨hb3, ⟨ra, rc, hrb, -, -, -⟩, hr3, ho3, -⟩ := id hSa
    obtain ⟨⟨eo0, eo1, eo2, eo3, eo4⟩, fo⟩ := row_five ho3
    obtain ⟨⟨er0, er1, er2, er3, er4⟩, fr⟩ := row_five hr3
    have fr0 := fr 0
    have fr1 := fr 1
    have fr2 := fr 2
    have fr3 := fr 3
    have fr4 := fr 4
    have fo1 := fo 1
    have fo2 := fo 2
    have fo3 := fo 3
    have eb : w6.cell? ⟨w.heap.size + 1 + 1, 1, none⟩ = some (.bool false) := by rw [cell_of_row _ _ _ _ _ _ hrb]; rfl
    have fb : w6.frozen? ⟨w.heap.size + 1 + 1, 1, none⟩ = false := frozen_of_row _ _ _ _ _ hrb
    clear hrb ho3 hr3 fr fo
    go_wp2_with fail
    have hS3 := ((hSa.cells 1 (.int .i64 n4) (k' := 2) (h' := n4) (a' := 0) (n' := 0) rfl ⟨_, _, _, rfl⟩).cells 2 (.int .i64 n5) (k' := 2) (h' := n4) (a' := n5) (n' := 0) rfl ⟨_, _, _, rfl⟩).cells 3 (.int .i64 n6) (k' := 2) (h' := n4) (a' := n5) (n' := n6) rfl ⟨_, _, _, rfl⟩
    clear hSa hb3
    have hb3 := hS3.1
    generalize ((w6.setCell ⟨w.heap.size + 1 + 1 + 1, 1, none⟩ (.int .i64 n4)).setCell ⟨w.heap.size + 1 + 1 + 1, 2, none⟩ (.int .i64 n5)).setCell ⟨w.heap.size + 1 + 1 + 1, 3, none⟩ (.int .i64 n6) = w3 at *
    refine (text_any 2 n4 n5 n6 none 0 0 [] w3 (hG.keep hb3) rfl (by omega) (by omega) (by omega) (by omega) (by omega) (by omega) (Or.inl rfl) (by decide)).mono ?_
    rintro e w4 ⟨rfl, hb4⟩
    have hS4 := hS3.below hb4
    clear hS3 hb3 er0 er1 er2 er3 er4 fr0 fr1 fr2 fr3 fr4 eb fb eo0 eo1 eo2 eo3 eo4 hb4
    obtain ⟨hb3, -, hr3, ho3, -⟩ := id hS4
    obtain ⟨⟨eo0, eo1, eo2, eo3, eo4⟩, -⟩ := row_five ho3
    obtain ⟨⟨er0, er1, er2, er3, er4⟩, fr⟩ := row_five hr3
    have fr0 := fr 0
    have fr1 := fr 1
    have fr2 := fr 2
    have fr3 := fr 3
    have fr4 := fr 4
    clear ho3 hr3 fr
    go_wp2_with fail
    · rename_i hne
      rw [Exit.noGoto_ret]
      refine bodyPost_ret (v := .tuple #[.agg #[.int .i64 0, .int .i64 0, .int .i64 0, .int .i64 0, .slice none 0 0], .int .i64 13]) (by simp [results, Tryd.results16, go_sem, er0, er1, er2, er3, er4]) rfl ?_
      have h := hA1.out
      rw [toList_data] at hne
      exact parseR_none (h.trans (if_neg (by intro e; rw [show textT 2 n4 n5 n6 [] = s.data.toList from e] at hne; simp at hne))) (hb3.grown (set5_grown w4 w.heap.size _ _ _ _ _) hb3.size (fun x hx => by injection hx; omega)) rfl
    · rename_i hne
      rw [Exit.noGoto_ret]
      refine bodyPost_ret (v := .tuple #[.agg #[.int .i64 2, .int .i64 n4, .int .i64 n5, .int .i64 n6, .slice none 0 0], .int .i64 0]) (by simp [results, Tryd.results16, go_sem, er0, er1, er2, er3, er4]) rfl ?_
      have h := hA1.out
      rw [toList_data] at hne
      exact parseR_some (h.trans (if_pos (by simp at hne; exact hne))) (hb3.grown (set5_grown w4 w.heap.size _ _ _ _ _) hb3.size (fun x hx => by injection hx; omega)) rfl rfl (Nat.le_refl _) (Or.inl rfl)
  · have hA1 : Hid (parseA s.data.toList = none) := Lib.hid (HA.out.trans (by rw [hc.out.2 rfl]))
    clear hc HA
    obtain ⟨hb3, ⟨ra, rc, hrb, -, -, -⟩, hr3, ho3, -⟩ := id hSa
    obtain ⟨⟨eo0, eo1, eo2, eo3, eo4⟩, fo⟩ := row_five ho3
    obtain ⟨⟨er0, er1, er2, er3, er4⟩, fr⟩ := row_five hr3
    have fr0 := fr 0
    have fr1 := fr 1
    have fr2 := fr 2
    have fr3 := fr 3
    have fr4 := fr 4
    have fo1 := fo 1
    have fo2 := fo 2
    have fo3 := fo 3
    have eb : w6.cell? ⟨w.heap.size + 1 + 1, 1, none⟩ = some (.bool true) := by rw [cell_of_row _ _ _ _ _ _ hrb]; rfl
    clear hrb ho3 hr3 fr fo
    go_wp2_with fail
    have hS3 := ((hSa.cells 1 (.int .i64 n4) (k' := 2) (h' := n4) (a' := 0) (n' := 0) rfl ⟨_, _, _, rfl⟩).cells 2 (.int .i64 n5) (k' := 2) (h' := n4) (a' := n5) (n' := 0) rfl ⟨_, _, _, rfl⟩).cells 3 (.int .i64 n6) (k' := 2) (h' := n4) (a' := n5) (n' := n6) rfl ⟨_, _, _, rfl⟩
    clear hb3
    have hb3 := hS3.1
    all_goals
      rw [Exit.noGoto_ret]
      refine bodyPost_ret (v := .tuple #[.agg #[.int .i64 0, .int .i64 0, .int .i64 0, .int .i64 0, .slice none 0 0], .int .i64 13]) (by simp [results, Tryd.results16, go_sem, er0, er1, er2, er3, er4]) rfl ?_
      exact parseR_none hA1.out (hb3.grown (set5_grown _ w.heap.size _ _ _ _ _) hb3.size (fun x hx => by injection hx; omega)) rfl

end Go.Proofs.YtfdkafmomkkapaaDoor
