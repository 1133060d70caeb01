/- Walks: the program's reading of a write. Printed by mkE1.py. -/
import Derived.Test.YtfdkafmomkkapaaDoorE1
import Derived.Deep.RegionHeld3
namespace Go.Proofs.YtfdkafmomkkapaaDoor
open Go.RowKit Go.Lib

theorem ty22 : Tryd.prog.underlying 22 = some (.slice 42) := by kernel_rfl
theorem inf42 : (Tryd.prog.info? 42).map (fun i => (i.zero, i.size, i.bytes)) = some (some (.agg #[.int .i64 0, .slice none 0 0]), 2, 32) := by kernel_rfl

/-- where the loop over puts stands. -/
def WInv (w : World) (rest : List (List UInt8)) (h : Int) (wr : World) (ws : List (List UInt8)) (bad : Bool) (puts : List (Int × List UInt8)) (pv : Value) (xs : List Value) : Prop :=
  St w wr ws bad 3 h 0 0 pv ∧ (bad = true → candW rest = none) ∧ (bad = false → candW rest = (loopW ws puts).map fun l => (3, h, 0, 0, l)) ∧
  (bad = false → wr.ownsRow (w.heap.size + 1 + 1 + 1 + 1) 42 2 pv puts.length xs ∧ PD wr (w.heap.size + 1 + 1 + 1 + 1) puts xs) ∧ puts.length + ws.length ≤ rest.length ∧ (∀ x ∈ ws, x ∈ rest)

/-- how many words a reader still has. -/
def restOf (w : World) (g : Nat) : Nat := match w.cell? ⟨g, 0, none⟩ with | some (.slice _ n _) => n | _ => 0
theorem restOf_rd {w : World} {g : Nat} {ws : List (List UInt8)} {bad : Bool} (h : Rd w g ws bad) : restOf w g = ws.length := by
  obtain ⟨a, c, hg, _⟩ := h
  unfold restOf
  rw [cell_of_row _ _ _ _ _ _ hg]
  rfl

theorem PD.ps' {w : World} {B n c : Nat} {l : List (Int × List UInt8)} {xs : List Value} {pa : Option Addr} (h : PD w B l xs) (ho : w.ownsRow B 42 2 (.slice pa n c) n xs) : Ps w pa l := by
  obtain ⟨pa', c', e, _, _, hp⟩ := h.ps ho
  cases e
  exact hp

theorem own_slice {w : World} {base e size n : Nat} {v : Value} {xs : List Value} (h : w.ownsRow base e size v n xs) : ∃ pa c, v = .slice pa n c := by
  rcases h.2 with ⟨rfl, rfl⟩ | ⟨g, cap, cur, rfl, _⟩
  · exact ⟨_, _, rfl⟩
  · exact ⟨_, _, rfl⟩

theorem own_other {w w' : World} {base e size n x : Nat} {v : Value} {xs : List Value} (h : w.ownsRow base e size v n xs) (hg : w.grownBy w' (some x)) (hx : x < base) : w'.ownsRow base e size v n xs :=
  h.kept hg (by
    cases hv : v.ownBlock with
    | none => exact Or.inl rfl
    | some g => exact Or.inr (by intro e; injection e with e; have := (h.lt g hv).1; omega))

theorem candW_num (rest : List (List UInt8)) (n : Int) (b : Bool) (hb : (nextB rest false || (atoiIn (nextW rest false)).isNone) = b) (hv : ∀ v, atoiIn (nextW rest false) = some v → n = v) :
    (b = true → candW rest = none) ∧ (b = false → candW rest = (loopW (nextS rest false) []).map fun l => (3, n, 0, 0, l)) := by
  subst hb
  cases rest with
  | nil => simp [nextB, candW]
  | cons x r =>
    have e : nextW (x :: r) false = x := rfl
    have e2 : nextS (x :: r) false = r := rfl
    rw [e] at *
    rw [e2]
    cases h : atoiIn x with
    | none => simp [nextB, candW, h]
    | some v =>
      obtain rfl := hv v h
      simp only [nextB, candW, h]
      cases loopW r [] <;> simp

theorem WInv.step {w w5 w6 w' : World} {rest r : List (List UInt8)} {a : List UInt8} {h n5 : Int} {puts : List (Int × List UInt8)} {pv : Value} {xs : List Value} {da pa' : Option Addr} {dm dc c' : Nat} {b1 : Bool} {ws1 : List (List UInt8)}
    (hl : puts.length + (r.length + 1) ≤ rest.length) (hM : ∀ x ∈ a :: r, x ∈ rest) (hA : candW rest = (loopW (a :: r) puts).map fun l => (3, h, 0, 0, l))
    (hb1 : (nextB (a :: r) false || (atoiIn (nextW (a :: r) false)).isNone) = b1) (hw1 : nextS (a :: r) false = ws1) (hv : ∀ v, atoiIn (nextW (a :: r) false) = some v → n5 = v) (h0 : -9223372036854775808 ≤ n5) (h1 : n5 ≤ 9223372036854775807)
    (hd : ∀ d, unbytesT (nextW ws1 b1) = some d → Forty w5 w6 (.slice da dm dc) d) (h5 : w.heap.size + 1 + 1 + 1 + 1 ≤ w5.heap.size) (hPD : PD w6 (w.heap.size + 1 + 1 + 1 + 1) puts xs) (hown : w6.ownsRow (w.heap.size + 1 + 1 + 1 + 1) 42 2 pv puts.length xs)
    (hap : AppendedV (w.heap.size + 1 + 1 + 1 + 1) 42 2 w6 pv (puts.length + 1) (xs ++ [.int .i64 n5, .slice da dm dc]) (.slice pa' (puts.length + 1) c') w') {ws2 : List (List UInt8)} {b2 : Bool}
    (hS : St w w' ws2 b2 3 h 0 0 pv) (hw2 : ws2 = nextS ws1 b1) (hb2 : b2 = (nextB ws1 b1 || (unbytesT (nextW ws1 b1)).isNone)) :
    (∃ ws bad q pv ys, WInv w rest h (w'.setCell ⟨w.heap.size + 1 + 1 + 1, 4, none⟩ (.slice pa' (puts.length + 1) c')) ws bad q pv ys) ∧ restOf (w'.setCell ⟨w.heap.size + 1 + 1 + 1, 4, none⟩ (.slice pa' (puts.length + 1) c')) (w.heap.size + 1 + 1) ≤ r.length := by
  have hS8 := hS.cells 4 (.slice pa' (puts.length + 1) c') (k' := 3) (h' := h) (a' := 0) (n' := 0) rfl ⟨_, _, _, rfl⟩
  have hl1 : ws1.length ≤ r.length := by rw [← hw1]; exact Nat.le_refl _
  have hl2 : ws2.length ≤ r.length := by rw [hw2]; exact Nat.le_trans (nextS_length _ _) hl1
  have hm2 : ∀ x ∈ ws2, x ∈ rest := fun x hx => hM x (List.mem_cons_of_mem _ (by rw [hw2] at hx; have := nextS_mem _ _ x hx; rw [← hw1] at this; exact this))
  have hst := loopW_num a r puts n5 b1 b2 ws1 hb1 hw1 hb2.symm hv
  refine ⟨?_, by rw [restOf_rd hS8.2.1]; exact hl2⟩
  have hset := grown_set w' (w.heap.size + 1 + 1 + 1) 4 (.slice pa' (puts.length + 1) c')
  cases b2 with
  | true => exact ⟨_, _, [], _, [], hS8, fun _ => by rw [hA, hst.1 rfl]; rfl, fun e => (by cases e), fun e => (by cases e), by simp; omega, hm2⟩
  | false =>
    obtain ⟨d, hd1, hd2⟩ := hst.2 rfl
    obtain ⟨g, e, hg, hgb, hgd⟩ := hd d hd1
    cases e
    have hP7 := (hPD.own hown hap.2.2)
    have hne : some g ≠ pv.ownBlock := by
      intro e
      rcases hown.2 with ⟨rfl, _⟩ | ⟨g', cap, cur, rfl, _, hh, _⟩
      · cases e
      · obtain rfl : g = g' := by injection e
        rw [hgb] at hh
        injection hh with hh
        injection hh with e1 e2
        cases e2
    have hgb7 := (hap.2.2.block g (Array.getElem?_eq_some_iff.1 hgb).1 hne).trans hgb
    have hP8 := hP7.snoc (n := n5) (d := d) (g := g) (by omega) hgb7 hgd h0 h1
    refine ⟨_, _, puts ++ [(n5, d)], _, _, hS8, fun e => (by cases e), fun _ => by rw [hA, hd2, hw2], fun _ => ⟨?_, hP8.low hset (by omega)⟩, by rw [List.length_append, List.length_singleton]; omega, hm2⟩
    rw [List.length_append, List.length_singleton]
    exact own_other hap.1 hset (by omega)

set_option maxRecDepth 100000 in
set_option maxHeartbeats 2000000 in
theorem parse_write (s : ByteArray) (f : List UInt8) (rest : List (List UInt8)) (w : World) (hG : Gl w) (hs : s.size ≤ 1000000) (hw : Hid (words s.data.toList = f :: rest)) (hm : (f :: rest).length ≤ 100000) (hx : ∀ x ∈ f :: rest, x.length ≤ 1000000) (hk : Hid (kindI f = 2)) :
    Calls Tryd.prog 16 #[.string s] w (ParseR w (parseA s.data.toList)) := by
  have hA := parse_cand hw.out
  rw [candA_write hk.out] at hA
  have hA1 := Lib.hid hA
  clear hA
  have HX := Lib.hid hx
  clear hx
  go_enter Tryd.func16, Tryd.ntmps16
  go_wp2_with fail
  go_step3
  go_wp2_with fail
  refine (split_any s _ (by omega) (hG.keep (Below.of_alloc _ _))).mono ?_
  rintro e w1 ⟨rfl, rfl⟩
  rw [hw.out]
  go_wp2_with fail
  have hS := st_start w (f :: rest)
  refine (next_any _ (f :: rest) false _ hS.2.1 (by omega)).mono ?_
  rintro e w1 ⟨rfl, hR1, hg1⟩
  have hS1 := hS.next _ hg1 hR1
  clear hS
  go_wp2_with fail
  refine (indexFunc_any _ _ (nextW (f :: rest) false) _ ?_ ?_).mono ?_
  · exact (cell_of_row _ _ _ _ _ _ (hp_old (hp_new _ _))).trans rfl
  · rw [← sz_alloc w1]; exact hp_new _ _
  rintro e w2 ⟨rfl, n, hn⟩
  have hS2 : St w w2 rest false 0 0 0 0 (.slice none 0 0) := by
    subst hn
    exact hS1.below (below_drewN (((Below.of_alloc _ _)).alloc (by simp) _) n)
  have hkk : kindI (nextW (f :: rest) false) = 2 := hk.out
  clear hS1 hR1 hg1 hn hk
  rw [hkk]
  obtain ⟨hb2, -, hr0, ho, -⟩ := id hS2
  obtain ⟨⟨eo0, eo1, eo2, eo3, eo4⟩, fo⟩ := row_five ho
  have fo0 := fo 0
  clear fo ho hr0
  have hrl : rest.length < 100000 := by rw [List.length_cons] at hm; omega
  go_wp2_with fail
  have hSa := hS2.cells 0 (.int .i64 3) (k' := 3) (h' := 0) (a' := 0) (n' := 0) rfl ⟨_, _, _, rfl⟩
  generalize w2.setCell ⟨w.heap.size + 1 + 1 + 1, 0, none⟩ (.int .i64 3) = w3 at *
  clear hS2 hb2 eo0 eo1 eo2 eo3 eo4 fo0 hkk
  obtain ⟨-, -, -, ho, -⟩ := id hSa
  obtain ⟨⟨ek, -⟩, -⟩ := row_five ho
  clear ho
  go_step3
  have hla := Nat.le_refl rest.length
  have hma : ∀ x ∈ rest, x ∈ f :: rest := fun x hx => List.mem_cons_of_mem _ hx
  have HA := Lib.hid hA1
  clear hA1
  go_wp2_with fail
  refine (rnum_any _ rest false _ w hG hSa.1 (by omega) hSa.2.1 (by have := hla; omega) (fun x hx => HX.out x (hma x hx))).mono ?_
  rintro e w4 ⟨n4, rfl, n4a, n4b, hR4, hv4, hg4⟩
  have hv4 := Lib.hid hv4
  replace hSa := hSa.next _ hg4 hR4
  try clear ek
  replace hla := Nat.le_trans (nextS_length rest false) hla
  replace hma := fun x hx => hma x (nextS_mem rest false x hx)
  clear hR4 hg4
  have hc := candW_num rest n4 _ rfl hv4.out
  have hns := fun x => nextS_mem rest false x
  have hnl := nextS_length rest false
  clear hla hma hv4
  generalize (nextB rest false || (atoiIn (nextW rest false)).isNone) = b4 at *
  generalize nextS rest false = ws4 at *
  obtain ⟨-, -, -, ho, -⟩ := id hSa
  obtain ⟨⟨eo0, eo1, eo2, eo3, eo4⟩, fo⟩ := row_five ho
  have fo1 := fo 1
  clear fo ho
  go_wp2_with fail
  have hW : WInv w rest n4 (w4.setCell ⟨w.heap.size + 1 + 1 + 1, 1, none⟩ (.int .i64 n4)) ws4 b4 [] (.slice none 0 0) [] :=
    ⟨hSa.cells 1 (.int .i64 n4) (k' := 3) (h' := n4) (a' := 0) (n' := 0) rfl ⟨_, _, _, rfl⟩, hc.1, hc.2, fun _ => ⟨World.ownsRow_nil _ _ _ _, rfl, fun j hj => absurd hj (by simp)⟩, by simpa using hnl, fun x hx => hns x hx⟩
  clear hSa hc hns hnl eo0 eo1 eo2 eo3 eo4 fo1
  go_loopw [] (fun wr => ∃ ws bad puts pv xs, WInv w rest n4 wr ws bad puts pv xs) (fun wr => restOf wr (w.heap.size + 1 + 1))
  case atStart => exact ⟨_, _, _, _, _, hW⟩
  case round =>
    obtain ⟨ws, bad, puts, pv, xs, hSa, hA0, hA2, hO, hl, hmem⟩ := hrel
    have HA0 := Lib.hid hA0
    have HA2 := Lib.hid hA2
    have HM := Lib.hid hmem
    clear hA0 hA2 hmem
    cases bad with
    | true =>
      have hA1 : Hid (parseA s.data.toList = none) := Lib.hid (HA.out.trans (by rw [HA0.out rfl]))
      clear HA HA0 HA2 HM
      obtain ⟨hb3, ⟨ra, rc, hrb, -, -, -⟩, hr3, ho3, -⟩ := id hSa
      obtain ⟨⟨eo0, eo1, eo2, eo3, eo4⟩, fo⟩ := row_five ho3
      obtain ⟨⟨er0, er1, er2, er3, er4⟩, fr⟩ := row_five hr3
      have fr0 := fr 0
      have fr1 := fr 1
      have fr2 := fr 2
      have fr3 := fr 3
      have fr4 := fr 4
      have eb : wr.cell? ⟨w.heap.size + 1 + 1, 1, none⟩ = some (.bool true) := by rw [cell_of_row _ _ _ _ _ _ hrb]; rfl
      have el : wr.cell? ⟨w.heap.size + 1 + 1, 0, none⟩ = some (.slice ra ws.length rc) := by rw [cell_of_row _ _ _ _ _ _ hrb]; rfl
      clear hrb ho3 hr3 fr fo
      go_wp2_with fail
      have hS3 := hSa
      clear hb3
      have hb3 := hS3.1
      all_goals
        rw [Exit.noGoto_ret]
        refine bodyPost_ret (v := .tuple #[.agg #[.int .i64 0, .int .i64 0, .int .i64 0, .int .i64 0, .slice none 0 0], .int .i64 13]) (by simp [results, Tryd.results16, go_sem, er0, er1, er2, er3, er4]) rfl ?_
        exact parseR_none hA1.out (hb3.grown (set5_grown _ w.heap.size _ _ _ _ _) hb3.size (fun x hx => by injection hx; omega)) rfl
    | false =>
      obtain ⟨hown, hPD⟩ := hO rfl
      clear hO
      cases ws with
      | nil =>
        have hA1 : Hid (parseA s.data.toList = if textO (3, n4, 0, 0, puts) = s.data.toList then some (3, n4, 0, 0, puts) else none) := Lib.hid (HA.out.trans (by rw [HA2.out rfl]; rfl))
        obtain ⟨pa, c, rfl, hmc, -, hps⟩ := hPD.ps hown
        clear HA HA0 HA2 HM
        have HP := Lib.hid hps
        clear hps
        obtain ⟨hb3, ⟨ra, rc, hrb, -, -, -⟩, hr3, ho3, -⟩ := id hSa
        obtain ⟨⟨eo0, eo1, eo2, eo3, eo4⟩, fo⟩ := row_five ho3
        obtain ⟨⟨er0, er1, er2, er3, er4⟩, fr⟩ := row_five hr3
        have fr0 := fr 0
        have fr1 := fr 1
        have fr2 := fr 2
        have fr3 := fr 3
        have fr4 := fr 4
        have eb : wr.cell? ⟨w.heap.size + 1 + 1, 1, none⟩ = some (.bool false) := by rw [cell_of_row _ _ _ _ _ _ hrb]; rfl
        have fb : wr.frozen? ⟨w.heap.size + 1 + 1, 1, none⟩ = false := frozen_of_row _ _ _ _ _ hrb
        have el : wr.cell? ⟨w.heap.size + 1 + 1, 0, none⟩ = some (.slice ra 0 rc) := by rw [cell_of_row _ _ _ _ _ _ hrb]; rfl
        clear hrb ho3 hr3 fr fo
        go_wp2_with fail
        have hS3 := hSa
        clear hSa hb3
        have hb3 := hS3.1
        generalize wr = w3 at *
        refine (text_any 3 n4 0 0 pa puts.length c puts w3 (hG.keep hb3) rfl (by omega) (by omega) (by omega) (by omega) (by omega) (by omega) HP.out (fun _ => by omega)).mono ?_
        rintro e w4 ⟨rfl, hb4⟩
        have hown4 := own_on hb4 hown
        have hPD4 := hPD.keep hb4
        clear hown hPD HP
        have hS4 := hS3.below hb4
        clear hS3 hb3 er0 er1 er2 er3 er4 fr0 fr1 fr2 fr3 fr4 eb fb eo0 eo1 eo2 eo3 eo4 hb4
        obtain ⟨hb3, -, hr3, ho3, -⟩ := id hS4
        obtain ⟨⟨eo0, eo1, eo2, eo3, eo4⟩, -⟩ := row_five ho3
        obtain ⟨⟨er0, er1, er2, er3, er4⟩, fr⟩ := row_five hr3
        have fr0 := fr 0
        have fr1 := fr 1
        have fr2 := fr 2
        have fr3 := fr 3
        have fr4 := fr 4
        clear ho3 hr3 fr
        go_wp2_with fail
        · rename_i hne
          rw [Exit.noGoto_ret]
          refine bodyPost_ret (v := .tuple #[.agg #[.int .i64 0, .int .i64 0, .int .i64 0, .int .i64 0, .slice none 0 0], .int .i64 13]) (by simp [results, Tryd.results16, go_sem, er0, er1, er2, er3, er4]) rfl ?_
          have h := hA1.out
          rw [toList_data] at hne
          exact parseR_none (h.trans (if_neg (by intro e; rw [show textT 3 n4 0 0 puts = s.data.toList from e] at hne; simp at hne))) (hb3.grown (set5_grown w4 w.heap.size _ _ _ _ _) hb3.size (fun x hx => by injection hx; omega)) rfl
        · rename_i hne
          rw [Exit.noGoto_ret]
          refine bodyPost_ret (v := .tuple #[.agg #[.int .i64 3, .int .i64 n4, .int .i64 0, .int .i64 0, .slice pa puts.length c], .int .i64 0]) (by simp [results, Tryd.results16, go_sem, er0, er1, er2, er3, er4]) rfl ?_
          have h := hA1.out
          rw [toList_data] at hne
          exact parseR_some (h.trans (if_pos (by simp at hne; exact hne))) (hb3.grown (set5_grown w4 w.heap.size _ _ _ _ _) hb3.size (fun x hx => by injection hx; omega)) rfl rfl hmc (PD.ps' (hPD4.low (set5_grown _ _ _ _ _ _ _) (by omega)) (own_other hown4 (set5_grown _ _ _ _ _ _ _) (by omega)))
      | cons a r =>
        obtain ⟨hb3, ⟨ra, rc, hrb, -, -, -⟩, hr3, ho3, -⟩ := id hSa
        obtain ⟨⟨eo0, eo1, eo2, eo3, eo4⟩, fo⟩ := row_five ho3
        obtain ⟨⟨er0, er1, er2, er3, er4⟩, fr⟩ := row_five hr3
        have fr0 := fr 0
        have fr1 := fr 1
        have fr2 := fr 2
        have fr3 := fr 3
        have fr4 := fr 4
        have fo4 := fo 4
        have eb : wr.cell? ⟨w.heap.size + 1 + 1, 1, none⟩ = some (.bool false) := by rw [cell_of_row _ _ _ _ _ _ hrb]; rfl
        have fb : wr.frozen? ⟨w.heap.size + 1 + 1, 1, none⟩ = false := frozen_of_row _ _ _ _ _ hrb
        have el : wr.cell? ⟨w.heap.size + 1 + 1, 0, none⟩ = some (.slice ra (r.length + 1) rc) := by rw [cell_of_row _ _ _ _ _ _ hrb]; rfl
        clear hrb ho3 hr3 fr fo
        clear hb3 er0 er1 er2 er3 er4 fr0 fr1 fr2 fr3 fr4 eo0 eo1 eo2 eo3
        simp only [List.length_cons] at hl
        go_wp2_with fail
        have hSd := hSa.below ((Below.refl _ wr).drew)
        have hownd := own_on ((Below.refl _ wr).drew) hown
        have hPDd := hPD.keep ((Below.refl _ wr).drew)
        have e4 : wr.drew.cell? ⟨w.heap.size + 1 + 1 + 1, 4, none⟩ = some pv := eo4
        clear el eb fb eo4 fo4
        go_region_law
          (first
            | (go_simp; go_at_call 43; refine (rnum_any _ (a :: r) false _ w hG hSd.1 (by omega) hSd.2.1 (by have := hl; simp only [List.length_cons]; omega) (fun x hx => HX.out x (List.mem_cons_of_mem _ (HM.out x hx)))).mono ?_; rintro e w5 ⟨n5, rfl, n5a, n5b, hR5, hv5, hg5⟩; have HV5 := Lib.hid hv5; clear hv5; replace hSd := hSd.next _ hg5 hR5; replace hownd := own_other hownd hg5 (by omega); replace hPDd := hPDd.low hg5 (by omega); replace e4 := hg5.cell e4 (by simp); have hz5 : w.heap.size + 1 + 1 + 1 + 1 ≤ w5.heap.size := (by have := (Array.getElem?_eq_some_iff.1 hSd.2.2.2.1).1; omega); clear hR5 hg5)
            | (go_simp; go_at_call 44; refine (rdata_any _ _ _ _ hSd.2.1 (by have := nextS_length (a :: r) false; simp only [List.length_cons] at this; omega)).mono ?_; rintro e w6 ⟨v6, rfl, ⟨da, dm, dc, rfl⟩, hR6, hd6, hg6⟩; have HD6 := Lib.hid hd6; clear hd6; replace hSd := hSd.next _ hg6 hR6; replace hownd := own_other hownd hg6 (by omega); replace hPDd := hPDd.low hg6 (by omega); replace e4 := hg6.cell e4 (by simp); have e4a : ∀ o, (w6.alloc o).cell? ⟨w.heap.size + 1 + 1 + 1, 4, none⟩ = some pv := (fun o => below_keep (Below.of_alloc _ _) e4); clear hR6 hg6)
            | (refine step_append_lit rfl (.tmp 61) (.tmp 67) 22 42 rfl ty22 inf42 rfl (by decide) (w.heap.size + 1 + 1 + 1 + 1) _ [.int .i64 n5, .slice da dm dc] 1 rfl _ puts.length _ rfl hownd (by omega) (by decide) (by have := (Array.getElem?_eq_some_iff.1 hSd.2.2.2.1).1; omega) (k := 0) rfl (by simp [Value.oneCell']) rfl 1 rfl ?_; intro v' w' hap; obtain ⟨pa', c', rfl⟩ := own_slice hap.1; have hS7 := hSd.low hap.2.1; obtain ⟨⟨-, -, -, -, e7⟩, f7⟩ := row_five hS7.2.2.2.1; have f74 := f7 4; clear f7))
        all_goals
          have hap : AppendedV (w.heap.size + 1 + 1 + 1 + 1) 42 2 w6 pv (puts.length + 1) (xs ++ [.int .i64 n5, .slice da dm dc]) (.slice pa' (puts.length + 1) c') w' := hap
          have hstep := WInv.step hl HM.out (HA2.out (by simp)) rfl rfl HV5.out n5a n5b HD6.out hz5 hPDd hownd hap hS7 rfl rfl
          have hr0 := restOf_rd hSa.2.1
          clear hS7 hap HD6 HV5 HA2 HA0 HM hSd hPDd hownd e7 f74 e4 e4a
          generalize w'.setCell ⟨w.heap.size + 1 + 1 + 1, 4, none⟩ (.slice pa' (puts.length + 1) c') = w8 at *
          go_roundw
          case rel => exact ⟨_, _, _, _, _, _, _, _, _, _, _, _, _, _, _, _, _, _, _, _, _, _, _, hstep.1, rfl⟩
          case measure => rw [hr0]; have := hstep.2; simp only [List.length_cons]; omega
end Go.Proofs.YtfdkafmomkkapaaDoor
