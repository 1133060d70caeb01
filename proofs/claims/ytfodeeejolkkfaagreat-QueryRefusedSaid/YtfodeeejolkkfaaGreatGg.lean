/- The statement QueryRefused: a question for too many cells, or for some that are none, is refused, and reads nothing; for every input that can be read. -/
import Derived.Test.YtfodeeejolkkfaaGreatRows
import Derived.ProofKit
import Derived.OpenShut
import Derived.Lib.SlBytesRowKit
import Derived.Lib.SmallJoins
import Derived.Deep.Slices
import Derived.Deep.Fields
import Derived.ChangeMaps5
import Derived.Test.YtfodeeejolkkfaaGreatGf
namespace Go.Proofs.YtfodeeejolkkfaaGreat
open Go.RowKit Go.Lib

set_option maxRecDepth 100000 in
set_option maxHeartbeats 4000000 in
theorem qcells_two (w : World) {base : Nat} {d : Ids} {m f n : Nat} {l : List (Int × Int)} (h : Sz w base d m l) (hn : 0 < n) (hf : f + n ≤ 1290) :
    Calls Tryz.prog 32 #[.pointer (some ⟨d.P, 0, none⟩), .int .i64 2, .int .i64 f, .int .i64 n] w fun e w' => e = .returned (.tuple #[.slice none 0 0, .int .i64 5]) ∧ Chg [] w w' := by
  obtain ⟨ops, hdev⟩ := h.sta.dev
  have HC := Lib.hid (ccount_any w h.sta.store hdev)
  clear hdev
  have c1 : ¬ ((n : Int) < 0) := by omega
  have c2 : ¬ ((n : Int) > 2000) := by omega
  have c3 : ¬ ((f : Int) < 0) := by omega
  have hw : IntKind.i64.wrap (1290 - (n : Int)) = 1290 - n := by rw [IntKind.wrap_i64]; omega
  have c4 : ¬ ((f : Int) > 1290 - n) := by omega
  have c5 : (n : Int) ≠ 0 := by omega
  go_enter Tryz.func32, Tryz.ntmps32
  go_wp2_with fail
  go_step3
  go_wp2_with fail
  refine HC.out.mono ?_
  rintro e w1 ⟨rfl, k1⟩
  have h1 := h.keep k1
  clear h HC
  go_wp2_with fail
  obtain ⟨F, hF⟩ : ∃ F, f / 5 = F := ⟨_, rfl⟩
  obtain ⟨L, hL⟩ : ∃ L, (f + n - 1) / 5 = L := ⟨_, rfl⟩
  have eF : (f : Int) / 5 = (F : Int) := by omega
  have eL : ((f : Int) + n - 1) / 5 = (L : Int) := by omega
  simp only [eF, eL]
  have hFL : (F : Int) ≤ L := by omega
  clear eF eL hF hL c1 c2 c3 c4 c5 hw hf hn
  go_step3
  go_wp2_with fail
  go_loopw [13, 14, 15, 16, 17, 18, 19] (fun _ i _ _ _ _ _ wr => i = .int .i64 F ∧ w1 = wr) (fun _ _ _ _ _ _ _ _ => 0)
  case atStart => exact ⟨rfl, rfl⟩
  case round =>
    obtain ⟨rfl, rfl⟩ := hrel
    go_wp2_with fail
    refine (sread_two w1 h1).mono ?_
    rintro e w2 ⟨rfl, k2⟩
    have HK := Lib.hid (k1.trans k2 (fun x hx => by cases hx))
    clear h1 k1 k2
    go_wp2_with fail
    simp only [Exit.noGoto]
    go_ret2
    exact ⟨rfl, HK.out⟩
set_option maxRecDepth 100000 in
set_option maxHeartbeats 2000000 in
theorem qof_two (w : World) {base : Nat} {d : Ids} {m f n : Nat} {l : List (Int × Int)} (h : Sz w base d m l) (hn : 0 < n) (hf : f + n ≤ 1290) :
    Calls Tryz.prog 70 #[.pointer (some ⟨d.P, 0, none⟩), .int .i64 2, .int .i64 f, .int .i64 n, .func (.func 71) #[] #[]] w fun e w' => e = .returned (.tuple #[.float .f64 0, .int .i64 5]) ∧ Chg [] w w' := by
  have HQ := Lib.hid (qcells_two w h hn hf)
  clear h
  go_enter Tryz.func70, Tryz.ntmps70
  go_wp2_with fail
  refine HQ.out.mono ?_
  rintro e w1 ⟨rfl, k1⟩
  clear HQ
  go_wp2_with fail
  go_ret2
  exact ⟨rfl, k1⟩
set_option maxRecDepth 100000 in
theorem qsum_two (w : World) {base : Nat} {d : Ids} {m f n : Nat} {l : List (Int × Int)} (h : Sz w base d m l) (hn : 0 < n) (hf : f + n ≤ 1290) :
    Calls Tryz.prog 33 #[.pointer (some ⟨d.P, 0, none⟩), .int .i64 2, .int .i64 f, .int .i64 n] w fun e w' => e = .returned (.tuple #[.float .f64 0, .int .i64 5]) ∧ Chg [] w w' := by
  have HQ := Lib.hid (qof_two w h hn hf)
  clear h
  go_enter Tryz.func33, Tryz.ntmps33
  go_wp2_with fail
  refine HQ.out.mono ?_
  rintro e w1 ⟨rfl, k1⟩
  go_wp2_with fail
  go_ret2
  exact ⟨rfl, k1⟩
end Go.Proofs.YtfodeeejolkkfaaGreat
namespace Go.Proofs.YtfodeeejolkkfaaGreat
open Go.RowKit Go.Lib

set_option maxRecDepth 100000 in
theorem smgr_any (w : World) {base : Nat} {d : Ids} {m : Nat} {l : List (Int × Int)} (h : Sz w base d m l) : Calls Tryz.prog 73 #[.pointer (some ⟨d.P, 0, none⟩)] w fun e w' => e = .returned (.pointer (some ⟨d.M, 0, none⟩)) ∧ w = w' := by
  have t5 : w.cell? ⟨d.P, 5, none⟩ = some (.pointer (some ⟨d.M, 0, none⟩)) := cell_is h.sta.store 5 rfl
  clear h
  go_enter Tryz.func73, Tryz.ntmps73
  go_wp2_with fail
  go_ret
  exact ⟨rfl, rfl⟩
set_option maxRecDepth 100000 in
set_option maxHeartbeats 1000000 in
theorem vreads_none (w : World) {base Q X rx W rw V : Nat} {l : List (Int × Int)} (h : Vz w base Q X rx W rw V 0 l) : Calls Tryz.prog 135 #[.pointer (some ⟨Q, 0, none⟩)] w fun e w' => e = .returned (.slice none 0 0) ∧ w = w' := by
  obtain ⟨s, m, xs, q, hm, ho⟩ := h.vw
  obtain rfl : m = 0 := by omega
  obtain ⟨pa, c, rfl, _⟩ := own_form ho
  have q4 : w.cell? ⟨Q, 4, none⟩ = some (.slice pa 0 c) := cell_is q 4 rfl
  clear h ho q
  go_enter Tryz.func135, Tryz.ntmps135
  go_wp2_with fail
  go_loopw [2, 12] (fun v i wr => i = .int .i64 0 ∧ w = wr ∧ v = .slice none 0 0) (fun _ _ _ => 0)
  case atStart => exact ⟨rfl, rfl, rfl⟩
  case round =>
    obtain ⟨rfl, rfl, rfl⟩ := hrel
    go_wp2_with fail
    go_ret
    exact ⟨rfl, rfl⟩
set_option maxRecDepth 100000 in
set_option maxHeartbeats 1000000 in
theorem bputs_none (w : World) {W rw : Nat} (h : BufAt w W rw []) : Calls Tryz.prog 136 #[.pointer (some ⟨W, 0, none⟩)] w fun e w' => e = .returned (.slice none 0 0) ∧ Chg [] w w' := by
  have c2 : w.cell? ⟨W, 2, none⟩ = some (.map (some rw)) := cell_is h.1 2 rfl
  have HS := Lib.hid (sortedA_none w h.2)
  clear h
  go_enter Tryz.func136, Tryz.ntmps136
  go_wp2_with (first
    | (go_at_call 151; refine (keysA_any (some rw) _).mono ?_; rintro e w1 ⟨rfl, rfl⟩)
    | (go_at_call 150; refine HS.out.mono ?_; rintro e w2 ⟨rfl, k2⟩))
  go_loopw [2, 14] (fun v i wr => i = .int .i64 0 ∧ w2 = wr ∧ v = .slice none 0 0) (fun _ _ _ => 0)
  case atStart => exact ⟨rfl, rfl, rfl⟩
  case round =>
    obtain ⟨rfl, rfl, rfl⟩ := hrel
    go_wp2_with fail
    go_ret
    exact ⟨rfl, k2⟩
end Go.Proofs.YtfodeeejolkkfaaGreat
namespace Go.Proofs.YtfodeeejolkkfaaGreat
open Go.RowKit Go.Lib

set_option maxRecDepth 100000 in
set_option maxHeartbeats 4000000 in
theorem thist_one (w : World) {base : Nat} {d : Ids} {l : List (Int × Int)} (h : Sz w base d 0 l) : Calls Tryz.prog 74 #[.pointer (some ⟨d.M, 0, none⟩), .int .i64 1] w fun e w' => e = .returned (.agg #[.int .i64 1, .int .i64 0, .int .i64 0, .int .i64 0, .int .i64 0, .slice none 0 0, .slice none 0 0]) ∧ Chg [] w w' := by
  have k0 : Chg [] w (w.alloc (.cells #[.int .i64 0, .int .i64 0, .int .i64 0, .int .i64 0, .int .i64 0, .slice none 0 0, .slice none 0 0] 71)) := Chg.alloc w _
  have K0 := heap_new w (.cells #[.int .i64 0, .int .i64 0, .int .i64 0, .int .i64 0, .int .i64 0, .slice none 0 0, .slice none 0 0] 71)
  have hR0 : w.heap.size ≤ w.heap.size := Nat.le_refl _
  have h2 := h.keep k0
  have HG := Lib.hid (tgone_any _ h2.sta.mg.mgr)
  clear h
  go_enter Tryz.func74, Tryz.ntmps74
  go_wp2_with fail
  generalize w.alloc (.cells #[.int .i64 0, .int .i64 0, .int .i64 0, .int .i64 0, .int .i64 0, .slice none 0 0, .slice none 0 0] 71) = w1 at *
  generalize hR : w.heap.size = R at hR0 K0 ⊢
  refine HG.out.mono ?_
  rintro e w2 ⟨rfl, rfl⟩
  have c2 := h2.sta.mg.cells.2.2.1
  have hl : (Instr.lookup 178 (.map (some d.r)) (.int .i64 1) true).run Tryz.prog w1 = .ok (.tuple #[.pointer (some ⟨d.T, 0, none⟩), .bool true]) w1 := lookup178 h2.sta.mg.map 1 true
  go_wp2_with fail
  have h3 := h2.keep (Chg.refl [] w1).drew
  have K1 := ((Chg.refl [] w1).drew).heap K0 (by simp)
  have fA : w1.drew.cell? ⟨d.T, 0, none⟩ = some (.int .i64 1) ∧ w1.drew.cell? ⟨d.T, 1, none⟩ = some (.int .i64 0) ∧ w1.drew.cell? ⟨d.T, 3, none⟩ = some (.int .i64 0) ∧ w1.drew.cell? ⟨d.T, 5, none⟩ = some (.pointer (some ⟨d.Q, 0, none⟩)) ∧ w1.drew.cell? ⟨d.T, 4, none⟩ = some (.pointer (some ⟨d.W, 0, none⟩)) := ⟨cell_is h3.tx 0 rfl, cell_is h3.tx 1 rfl, cell_is h3.tx 3 rfl, cell_is h3.tx 5 rfl, cell_is h3.tx 4 rfl⟩
  go_region_held3 (fun wx => wx.cell? ⟨d.T, 0, none⟩ = some (.int .i64 1) ∧ wx.cell? ⟨d.T, 1, none⟩ = some (.int .i64 0) ∧ wx.cell? ⟨d.T, 3, none⟩ = some (.int .i64 0) ∧ wx.cell? ⟨d.T, 5, none⟩ = some (.pointer (some ⟨d.Q, 0, none⟩)) ∧ wx.cell? ⟨d.T, 4, none⟩ = some (.pointer (some ⟨d.W, 0, none⟩)))
    (first | (with_reducible exact fA) | (with_reducible exact f6) | (with_reducible exact fS _ _ _ _ _ _ _))
    (first
      | (go_at_call 136; refine (bputs_none w1.drew h3.vz.buf).mono ?_; rintro e w6 ⟨rfl, k6⟩; have h6 := h3.keep k6; have K6 := k6.heap K1 (by simp)
         have f6 : w6.cell? ⟨d.T, 0, none⟩ = some (.int .i64 1) ∧ w6.cell? ⟨d.T, 1, none⟩ = some (.int .i64 0) ∧ w6.cell? ⟨d.T, 3, none⟩ = some (.int .i64 0) ∧ w6.cell? ⟨d.T, 5, none⟩ = some (.pointer (some ⟨d.Q, 0, none⟩)) ∧ w6.cell? ⟨d.T, 4, none⟩ = some (.pointer (some ⟨d.W, 0, none⟩)) := ⟨cell_is h6.tx 0 rfl, cell_is h6.tx 1 rfl, cell_is h6.tx 3 rfl, cell_is h6.tx 5 rfl, cell_is h6.tx 4 rfl⟩
         have r0 : w6.cell? ⟨R, 0, none⟩ = some (.int .i64 0) := cell_is K6 0 rfl
         have z0 : w6.frozen? ⟨R, 0, none⟩ = false := unfrozen K6 0
         have r1 : w6.cell? ⟨R, 1, none⟩ = some (.int .i64 0) := cell_is K6 1 rfl
         have z1 : w6.frozen? ⟨R, 1, none⟩ = false := unfrozen K6 1
         have r2 : w6.cell? ⟨R, 2, none⟩ = some (.int .i64 0) := cell_is K6 2 rfl
         have z2 : w6.frozen? ⟨R, 2, none⟩ = false := unfrozen K6 2
         have r3 : w6.cell? ⟨R, 3, none⟩ = some (.int .i64 0) := cell_is K6 3 rfl
         have z3 : w6.frozen? ⟨R, 3, none⟩ = false := unfrozen K6 3
         have r4 : w6.cell? ⟨R, 4, none⟩ = some (.int .i64 0) := cell_is K6 4 rfl
         have z4 : w6.frozen? ⟨R, 4, none⟩ = false := unfrozen K6 4
         have r5 : w6.cell? ⟨R, 5, none⟩ = some (.slice none 0 0) := cell_is K6 5 rfl
         have z5 : w6.frozen? ⟨R, 5, none⟩ = false := unfrozen K6 5
         have r6 : w6.cell? ⟨R, 6, none⟩ = some (.slice none 0 0) := cell_is K6 6 rfl
         have z6 : w6.frozen? ⟨R, 6, none⟩ = false := unfrozen K6 6
         have hTR : d.T ∉ [R] := by
           intro hm
           rw [List.mem_singleton] at hm
           have e := h6.tx
           unfold TxAt at e
           rw [hm, K6] at e
           cases e
         have kS : ∀ a b c x y p q, Chg [R] w6 (((((((w6.setCell ⟨R, 0, none⟩ a).setCell ⟨R, 1, none⟩ b).setCell ⟨R, 2, none⟩ c).setCell ⟨R, 3, none⟩ x).setCell ⟨R, 4, none⟩ y).setCell ⟨R, 5, none⟩ p).setCell ⟨R, 6, none⟩ q) := fun a b c x y p q => (((((((Chg.refl [R] w6).then_set (fun _ => by simp) 0 a).then_set (fun _ => by simp) 1 b).then_set (fun _ => by simp) 2 c).then_set (fun _ => by simp) 3 x).then_set (fun _ => by simp) 4 y).then_set (fun _ => by simp) 5 p).then_set (fun _ => by simp) 6 q
         have fS : ∀ a b c x y p q, (((((((w6.setCell ⟨R, 0, none⟩ a).setCell ⟨R, 1, none⟩ b).setCell ⟨R, 2, none⟩ c).setCell ⟨R, 3, none⟩ x).setCell ⟨R, 4, none⟩ y).setCell ⟨R, 5, none⟩ p).setCell ⟨R, 6, none⟩ q).cell? ⟨d.T, 0, none⟩ = some (.int .i64 1) ∧ (((((((w6.setCell ⟨R, 0, none⟩ a).setCell ⟨R, 1, none⟩ b).setCell ⟨R, 2, none⟩ c).setCell ⟨R, 3, none⟩ x).setCell ⟨R, 4, none⟩ y).setCell ⟨R, 5, none⟩ p).setCell ⟨R, 6, none⟩ q).cell? ⟨d.T, 1, none⟩ = some (.int .i64 0) ∧ (((((((w6.setCell ⟨R, 0, none⟩ a).setCell ⟨R, 1, none⟩ b).setCell ⟨R, 2, none⟩ c).setCell ⟨R, 3, none⟩ x).setCell ⟨R, 4, none⟩ y).setCell ⟨R, 5, none⟩ p).setCell ⟨R, 6, none⟩ q).cell? ⟨d.T, 3, none⟩ = some (.int .i64 0) ∧ (((((((w6.setCell ⟨R, 0, none⟩ a).setCell ⟨R, 1, none⟩ b).setCell ⟨R, 2, none⟩ c).setCell ⟨R, 3, none⟩ x).setCell ⟨R, 4, none⟩ y).setCell ⟨R, 5, none⟩ p).setCell ⟨R, 6, none⟩ q).cell? ⟨d.T, 5, none⟩ = some (.pointer (some ⟨d.Q, 0, none⟩)) ∧ (((((((w6.setCell ⟨R, 0, none⟩ a).setCell ⟨R, 1, none⟩ b).setCell ⟨R, 2, none⟩ c).setCell ⟨R, 3, none⟩ x).setCell ⟨R, 4, none⟩ y).setCell ⟨R, 5, none⟩ p).setCell ⟨R, 6, none⟩ q).cell? ⟨d.T, 4, none⟩ = some (.pointer (some ⟨d.W, 0, none⟩)) := fun a b c x y p q => ⟨(kS a b c x y p q).cell (cell_is h6.tx 0 rfl) hTR, (kS a b c x y p q).cell (cell_is h6.tx 1 rfl) hTR, (kS a b c x y p q).cell (cell_is h6.tx 3 rfl) hTR, (kS a b c x y p q).cell (cell_is h6.tx 5 rfl) hTR, (kS a b c x y p q).cell (cell_is h6.tx 4 rfl) hTR⟩)
      | (go_at_call 135; refine (vreads_none w1.drew h3.vz).mono ?_; rintro e w7 ⟨rfl, rfl⟩)
      | (go_at_call 135; refine (vreads_none w6 h6.vz).mono ?_; rintro e w7 ⟨rfl, rfl⟩))
  all_goals
    have kF : Chg [] w w6 := (k0.then (Chg.refl [] w1).drew).then k6
    have hRl : w.heap.size ≤ R := by omega
    clear kS fS fA f6 K6 K1 K0 h3 h6 h2 k6 k0 hTR
    go_wp2_with fail
    refine bodyPost_ret (v := .agg #[.int .i64 1, .int .i64 0, .int .i64 0, .int .i64 0, .int .i64 0, .slice none 0 0, .slice none 0 0]) (by simp [results, Tryz.results74, go_sem, r0, r1, r2, r3, r4, r5, r6]) rfl ?_
    exact ⟨rfl, ((((((kF.new_set hRl _ _).new_set hRl _ _).new_set hRl _ _).new_set hRl _ _).new_set hRl _ _).new_set hRl _ _).new_set hRl _ _⟩
end Go.Proofs.YtfodeeejolkkfaaGreat
namespace Go.Proofs.YtfodeeejolkkfaaGreat
open Go.RowKit Go.Lib

set_option maxRecDepth 100000 in
set_option maxHeartbeats 4000000 in
theorem shist_one (w : World) {base : Nat} {d : Ids} {l : List (Int × Int)} (h : Sz w base d 0 l) : Calls Tryz.prog 34 #[.pointer (some ⟨d.P, 0, none⟩), .int .i64 1] w fun e w' => e = .returned (.agg #[.int .i64 1, .int .i64 0, .int .i64 0, .int .i64 0, .int .i64 0, .slice none 0 0, .slice none 0 0]) ∧ Chg [] w w' := by
  have k0 : Chg [] w (w.alloc (.cells #[.int .i64 0, .int .i64 0, .int .i64 0, .int .i64 0, .int .i64 0, .slice none 0 0, .slice none 0 0] 71)) := Chg.alloc w _
  have K0 := heap_new w (.cells #[.int .i64 0, .int .i64 0, .int .i64 0, .int .i64 0, .int .i64 0, .slice none 0 0, .slice none 0 0] 71)
  have hR0 : w.heap.size ≤ w.heap.size := Nat.le_refl _
  have h2 := h.keep k0
  clear h
  go_enter Tryz.func34, Tryz.ntmps34
  go_wp2_with fail
  generalize w.alloc (.cells #[.int .i64 0, .int .i64 0, .int .i64 0, .int .i64 0, .int .i64 0, .slice none 0 0, .slice none 0 0] 71) = w1 at *
  generalize hR : w.heap.size = R at hR0 K0 ⊢
  refine (smgr_any w1 h2).mono ?_
  rintro e w2 ⟨rfl, rfl⟩
  go_wp2_with fail
  refine (thist_one w1 h2).mono ?_
  rintro e w2 ⟨rfl, k2⟩
  have K2 := k2.heap K0 (by simp)
  have c0 : w2.cell? ⟨R, 0, none⟩ = some (.int .i64 0) := cell_is K2 0 rfl
  have c1 : w2.cell? ⟨R, 1, none⟩ = some (.int .i64 0) := cell_is K2 1 rfl
  have c2 : w2.cell? ⟨R, 2, none⟩ = some (.int .i64 0) := cell_is K2 2 rfl
  have c3 : w2.cell? ⟨R, 3, none⟩ = some (.int .i64 0) := cell_is K2 3 rfl
  have c4 : w2.cell? ⟨R, 4, none⟩ = some (.int .i64 0) := cell_is K2 4 rfl
  have c5 : w2.cell? ⟨R, 5, none⟩ = some (.slice none 0 0) := cell_is K2 5 rfl
  have c6 : w2.cell? ⟨R, 6, none⟩ = some (.slice none 0 0) := cell_is K2 6 rfl
  have f0 := unfrozen K2 0
  have f1 := unfrozen K2 1
  have f2 := unfrozen K2 2
  have f3 := unfrozen K2 3
  have f4 := unfrozen K2 4
  have f5 := unfrozen K2 5
  have f6 := unfrozen K2 6
  go_wp2_with fail
  have kF : Chg [] w w2 := k0.then k2
  have hRl : w.heap.size ≤ R := by omega
  refine bodyPost_ret (v := .agg #[.int .i64 1, .int .i64 0, .int .i64 0, .int .i64 0, .int .i64 0, .slice none 0 0, .slice none 0 0]) (by simp [results, Tryz.results34, go_sem, c0, c1, c2, c3, c4, c5, c6]) rfl ?_
  exact ⟨rfl, ((((((kF.new_set hRl _ _).new_set hRl _ _).new_set hRl _ _).new_set hRl _ _).new_set hRl _ _).new_set hRl _ _).new_set hRl _ _⟩
end Go.Proofs.YtfodeeejolkkfaaGreat
namespace Go.Proofs.YtfodeeejolkkfaaGreat
open Go.RowKit Go.Lib

theorem q_cases (f n : Int) : (qErr f n = 1 ∧ n < 0) ∨ (qErr f n = 7 ∧ ¬ n < 0 ∧ 2000 < n) ∨ (qErr f n = 2 ∧ ¬ n < 0 ∧ ¬ 2000 < n ∧ f < 0) ∨ (qErr f n = 2 ∧ ¬ n < 0 ∧ ¬ 2000 < n ∧ ¬ f < 0 ∧ 1290 - n < f)
    ∨ (qErr f n = 0 ∧ n = 0 ∧ ¬ f < 0 ∧ ¬ 1290 < f) ∨ (qErr f n = 0 ∧ ¬ n < 0 ∧ ¬ 2000 < n ∧ ¬ f < 0 ∧ ¬ 1290 - n < f ∧ n ≠ 0) := by
  unfold qErr
  split
  · exact Or.inl ⟨rfl, by assumption⟩
  · split
    · exact Or.inr (Or.inl ⟨rfl, by assumption, by omega⟩)
    · split
      · by_cases h : f < 0
        · exact Or.inr (Or.inr (Or.inl ⟨rfl, by assumption, by omega, h⟩))
        · exact Or.inr (Or.inr (Or.inr (Or.inl ⟨rfl, by assumption, by omega, h, by omega⟩)))
      · by_cases h : n = 0
        · exact Or.inr (Or.inr (Or.inr (Or.inr (Or.inl ⟨rfl, h, by omega, by omega⟩))))
        · exact Or.inr (Or.inr (Or.inr (Or.inr (Or.inr ⟨rfl, by assumption, by omega, by omega, by omega, h⟩))))
theorem field_hist (w : World) : (Instr.field 71 (.agg #[.int .i64 1, .int .i64 0, .int .i64 0, .int .i64 0, .int .i64 0, .slice none 0 0, .slice none 0 0]) 5).run Tryz.prog w = .ok (.slice none 0 0) w := by kernel_rfl
set_option maxRecDepth 100000 in
set_option maxHeartbeats 8000000 in
theorem law8_neg (f n : Int) (w : World) (h : qErr f n = 1) (_hn : n < 0) :
    Calls Tryz.prog 8 #[.int .i64 f, .int .i64 n] w fun e w' => e = .returned (.bool true) ∧ Chg [] w w' := by
  have hne := Lib.hid (show qErr f n ≠ 0 ∨ n = 0 from Or.inl (by rw [h]; decide))
  have hfl := field_hist
  go_enter Tryz.func8, Tryz.ntmps8
  go_wp2_with fail
  refine (fresh27_nil w).mono ?_
  rintro e w1 ⟨base, d, G, rfl, k1, hz, hb⟩
  go_wp2_with fail
  refine (qcells_err w1 hz hne.out).mono ?_
  rw [h]
  rintro e w2 ⟨rfl, k2⟩
  have h2 := hz.keep k2
  clear hz
  go_wp2_with fail
  refine (qsum_err w2 h2 hne.out).mono ?_
  rw [h]
  rintro e w3 ⟨rfl, k3⟩
  have h3 := h2.keep k3
  clear h2
  go_wp2_with fail
  refine (shist_one w3 h3).mono ?_
  rintro e w4 ⟨rfl, k4⟩
  go_wp2_with fail
  refine (awake27 w4).mono ?_
  rintro e w5 ⟨rfl, k5⟩
  go_wp2_with fail
  go_ret
  exact ⟨rfl, (((k1.then k2).then k3).then k4).then k5⟩
set_option maxRecDepth 100000 in
set_option maxHeartbeats 8000000 in
theorem law8_big (f n : Int) (w : World) (h : qErr f n = 7) (hn : ¬ n < 0) (hm : 2000 < n) :
    Calls Tryz.prog 8 #[.int .i64 f, .int .i64 n] w fun e w' => e = .returned (.bool true) ∧ Chg [] w w' := by
  have hne := Lib.hid (show qErr f n ≠ 0 ∨ n = 0 from Or.inl (by rw [h]; decide))
  have hfl := field_hist
  go_enter Tryz.func8, Tryz.ntmps8
  go_wp2_with fail
  refine (fresh27_nil w).mono ?_
  rintro e w1 ⟨base, d, G, rfl, k1, hz, hb⟩
  go_wp2_with fail
  refine (qcells_err w1 hz hne.out).mono ?_
  rw [h]
  rintro e w2 ⟨rfl, k2⟩
  have h2 := hz.keep k2
  clear hz
  go_wp2_with fail
  refine (qsum_err w2 h2 hne.out).mono ?_
  rw [h]
  rintro e w3 ⟨rfl, k3⟩
  have h3 := h2.keep k3
  clear h2
  go_wp2_with fail
  refine (shist_one w3 h3).mono ?_
  rintro e w4 ⟨rfl, k4⟩
  go_wp2_with fail
  refine (awake27 w4).mono ?_
  rintro e w5 ⟨rfl, k5⟩
  go_wp2_with fail
  go_ret
  exact ⟨rfl, (((k1.then k2).then k3).then k4).then k5⟩
set_option maxRecDepth 100000 in
set_option maxHeartbeats 8000000 in
theorem law8_low (f n : Int) (w : World) (h : qErr f n = 2) (hn : ¬ n < 0) (hm : ¬ 2000 < n) (hz0 : ¬ n = 0) (hf : f < 0) :
    Calls Tryz.prog 8 #[.int .i64 f, .int .i64 n] w fun e w' => e = .returned (.bool true) ∧ Chg [] w w' := by
  have hne := Lib.hid (show qErr f n ≠ 0 ∨ n = 0 from Or.inl (by rw [h]; decide))
  have hfl := field_hist
  go_enter Tryz.func8, Tryz.ntmps8
  go_wp2_with fail
  refine (fresh27_nil w).mono ?_
  rintro e w1 ⟨base, d, G, rfl, k1, hz, hb⟩
  go_wp2_with fail
  refine (qcells_err w1 hz hne.out).mono ?_
  rw [h]
  rintro e w2 ⟨rfl, k2⟩
  have h2 := hz.keep k2
  clear hz
  go_wp2_with fail
  refine (qsum_err w2 h2 hne.out).mono ?_
  rw [h]
  rintro e w3 ⟨rfl, k3⟩
  have h3 := h2.keep k3
  clear h2
  go_wp2_with fail
  refine (shist_one w3 h3).mono ?_
  rintro e w4 ⟨rfl, k4⟩
  go_wp2_with fail
  refine (awake27 w4).mono ?_
  rintro e w5 ⟨rfl, k5⟩
  go_wp2_with fail
  go_ret
  exact ⟨rfl, (((k1.then k2).then k3).then k4).then k5⟩
set_option maxRecDepth 100000 in
set_option maxHeartbeats 8000000 in
theorem law8_low0 (f : Int) (w : World) (h : qErr f 0 = 2) (hf : f < 0) :
    Calls Tryz.prog 8 #[.int .i64 f, .int .i64 0] w fun e w' => e = .returned (.bool true) ∧ Chg [] w w' := by
  have hfl := field_hist
  go_enter Tryz.func8, Tryz.ntmps8
  go_wp2_with fail
  refine (fresh27_nil w).mono ?_
  rintro e w1 ⟨base, d, G, rfl, k1, hz, hb⟩
  go_wp2_with fail
  refine (qcells_err w1 hz (Or.inr rfl)).mono ?_
  rw [h]
  rintro e w2 ⟨rfl, k2⟩
  have h2 := hz.keep k2
  clear hz
  go_wp2_with fail
  refine (qsum_err w2 h2 (Or.inr rfl)).mono ?_
  rw [h]
  rintro e w3 ⟨rfl, k3⟩
  have h3 := h2.keep k3
  clear h2
  go_wp2_with fail
  refine (shist_one w3 h3).mono ?_
  rintro e w4 ⟨rfl, k4⟩
  go_wp2_with fail
  refine (awake27 w4).mono ?_
  rintro e w5 ⟨rfl, k5⟩
  go_wp2_with fail
  go_ret
  exact ⟨rfl, (((k1.then k2).then k3).then k4).then k5⟩
set_option maxRecDepth 100000 in
set_option maxHeartbeats 8000000 in
theorem law8_high (f n : Int) (w : World) (h : qErr f n = 2) (hn : ¬ n < 0) (hm : ¬ 2000 < n) (hz0 : ¬ n = 0) (hf : ¬ f < 0) (hg : 1290 - n < f) :
    Calls Tryz.prog 8 #[.int .i64 f, .int .i64 n] w fun e w' => e = .returned (.bool true) ∧ Chg [] w w' := by
  have hne := Lib.hid (show qErr f n ≠ 0 ∨ n = 0 from Or.inl (by rw [h]; decide))
  have hfl := field_hist
  go_enter Tryz.func8, Tryz.ntmps8
  go_wp2_with fail
  refine (fresh27_nil w).mono ?_
  rintro e w1 ⟨base, d, G, rfl, k1, hz, hb⟩
  go_wp2_with fail
  refine (qcells_err w1 hz hne.out).mono ?_
  rw [h]
  rintro e w2 ⟨rfl, k2⟩
  have h2 := hz.keep k2
  clear hz
  go_wp2_with fail
  refine (qsum_err w2 h2 hne.out).mono ?_
  rw [h]
  rintro e w3 ⟨rfl, k3⟩
  have h3 := h2.keep k3
  clear h2
  go_wp2_with fail
  refine (shist_one w3 h3).mono ?_
  rintro e w4 ⟨rfl, k4⟩
  go_wp2_with fail
  refine (awake27 w4).mono ?_
  rintro e w5 ⟨rfl, k5⟩
  go_wp2_with fail
  go_ret
  exact ⟨rfl, (((k1.then k2).then k3).then k4).then k5⟩
set_option maxRecDepth 100000 in
set_option maxHeartbeats 8000000 in
theorem law8_high0 (f : Int) (w : World) (h : qErr f 0 = 2) (hf : ¬ f < 0) (hg : 1290 < f) :
    Calls Tryz.prog 8 #[.int .i64 f, .int .i64 0] w fun e w' => e = .returned (.bool true) ∧ Chg [] w w' := by
  have hfl := field_hist
  go_enter Tryz.func8, Tryz.ntmps8
  go_wp2_with fail
  refine (fresh27_nil w).mono ?_
  rintro e w1 ⟨base, d, G, rfl, k1, hz, hb⟩
  go_wp2_with fail
  refine (qcells_err w1 hz (Or.inr rfl)).mono ?_
  rw [h]
  rintro e w2 ⟨rfl, k2⟩
  have h2 := hz.keep k2
  clear hz
  go_wp2_with fail
  refine (qsum_err w2 h2 (Or.inr rfl)).mono ?_
  rw [h]
  rintro e w3 ⟨rfl, k3⟩
  have h3 := h2.keep k3
  clear h2
  go_wp2_with fail
  refine (shist_one w3 h3).mono ?_
  rintro e w4 ⟨rfl, k4⟩
  go_wp2_with fail
  refine (awake27 w4).mono ?_
  rintro e w5 ⟨rfl, k5⟩
  go_wp2_with fail
  go_ret
  exact ⟨rfl, (((k1.then k2).then k3).then k4).then k5⟩
set_option maxRecDepth 100000 in
set_option maxHeartbeats 8000000 in
theorem law8_none (f : Int) (w : World) (h : qErr f 0 = 0) (hf : ¬ f < 0) (hg : ¬ 1290 < f) :
    Calls Tryz.prog 8 #[.int .i64 f, .int .i64 0] w fun e w' => e = .returned (.bool true) ∧ Chg [] w w' := by
  go_enter Tryz.func8, Tryz.ntmps8
  go_wp2_with fail
  refine (fresh27_nil w).mono ?_
  rintro e w1 ⟨base, d, G, rfl, k1, hz, hb⟩
  go_wp2_with fail
  refine (qcells_err w1 hz (Or.inr rfl)).mono ?_
  rw [h]
  rintro e w2 ⟨rfl, k2⟩
  have h2 := hz.keep k2
  clear hz
  go_wp2_with fail
  refine (qsum_err w2 h2 (Or.inr rfl)).mono ?_
  rw [h]
  rintro e w3 ⟨rfl, k3⟩
  have h3 := h2.keep k3
  clear h2
  go_wp2_with fail
  refine (qsum_err w3 h3 (Or.inr rfl)).mono ?_
  rw [h]
  rintro e w4 ⟨rfl, k4⟩
  go_wp2_with fail
  refine (awake27 w4).mono ?_
  rintro e w5 ⟨rfl, k5⟩
  go_wp2_with fail
  go_ret
  exact ⟨rfl, (((k1.then k2).then k3).then k4).then k5⟩
set_option maxRecDepth 100000 in
set_option maxHeartbeats 8000000 in
theorem law8_some (f n : Nat) (w : World) (hn : 0 < n) (hm : n ≤ 2000) (hf : f + n ≤ 1290) :
    Calls Tryz.prog 8 #[.int .i64 f, .int .i64 n] w fun e w' => e = .returned (.bool true) ∧ Chg [] w w' := by
  have HN := Lib.hid hn
  have HF := Lib.hid hf
  have a1 : ¬ (n : Int) < 0 := by omega
  have a2 : ¬ 2000 < (n : Int) := by omega
  have a3 : ¬ (f : Int) < 0 := by omega
  have a4 : ¬ 1290 - (n : Int) < (f : Int) := by omega
  clear hn hf hm
  go_enter Tryz.func8, Tryz.ntmps8
  go_wp2_with fail
  refine (fresh27_nil w).mono ?_
  rintro e w1 ⟨base, d, G, rfl, k1, hz, hb⟩
  go_wp2_with fail
  refine (qcells_ok w1 hz (Or.inl rfl) (by omega) HN.out HF.out).mono ?_
  rintro e w2 ⟨g, o, c, m2, l2, rfl, hc, o2, fl2, h2, x2, b2⟩
  clear hz fl2
  go_wp2_with fail
  refine (qsum_ok w2 h2 x2 (by omega) HN.out HF.out).mono ?_
  rintro e w3 ⟨m3, l3, rfl, o3, h3, x3, b3⟩
  clear h2 x2
  go_wp2_with fail
  refine (qsum_two w3 h3 HN.out HF.out).mono ?_
  rintro e w4 ⟨rfl, k4⟩
  go_wp2_with fail
  refine (awake27 w4).mono ?_
  rintro e w5 ⟨rfl, k5⟩
  go_wp2_with fail
  go_ret
  obtain ⟨T, c23, hT⟩ := o2.trans o3
  exact ⟨rfl, ((k1.trans c23 (fun x hx hlt => by have := (hT x hx).1; omega)).then k4).then k5⟩
theorem law8_any (f n : Int) (w : World) (_hf0 : -9223372036854775808 ≤ f) (_hf1 : f < 9223372036854775808) (_hn0 : -9223372036854775808 ≤ n) (_hn1 : n < 9223372036854775808) :
    Calls Tryz.prog 8 #[.int .i64 f, .int .i64 n] w fun e w' => e = .returned (.bool true) ∧ Chg [] w w' := by
  rcases q_cases f n with ⟨h, h1⟩ | ⟨h, h1, h2⟩ | ⟨h, h1, h2, h3⟩ | ⟨h, h1, h2, h3, h4⟩ | ⟨h, rfl, h1, h2⟩ | ⟨h, h1, h2, h3, h4, h5⟩
  · exact law8_neg f n w h h1
  · exact law8_big f n w h h1 h2
  · by_cases e : n = 0
    · subst e
      exact law8_low0 f w h h3
    · exact law8_low f n w h h1 h2 e h3
  · by_cases e : n = 0
    · subst e
      exact law8_high0 f w h h3 (by omega)
    · exact law8_high f n w h h1 h2 e h3 h4
  · exact law8_none f w h h1 h2
  · obtain ⟨F, rfl⟩ : ∃ k : Nat, f = k := ⟨f.toNat, by omega⟩
    obtain ⟨N, rfl⟩ : ∃ k : Nat, n = k := ⟨n.toNat, by omega⟩
    exact law8_some F N w (by omega) (by omega) (by omega)
end Go.Proofs.YtfodeeejolkkfaaGreat
namespace Go.Proofs.YtfodeeejolkkfaaGreat
open Go.ChangeShapes Go.WideShapes Go.ChangeAt Go.RowKit Go.Deep Go.Joins
set_option maxRecDepth 100000

theorem ownk : ownKnob Tryz.prog.godebug = none := by kernel_rfl
theorem laidOut0 : laidOutB Tryz.prog = true := by kernel_rfl
theorem read22 : Tryz.prog.readableRec 22 = true := by kernel_rfl
theorem read23 : Tryz.prog.readableRec 23 = true := by kernel_rfl
theorem typesN : 100 < Tryz.prog.types.size := by have h : decide (100 < Tryz.prog.types.size) = true := by kernel_rfl
                                                  exact of_decide_eq_true h
theorem cells5 : Tryz.prog.cellsOf 5 = 1 := by kernel_rfl
theorem cells42 : Tryz.prog.cellsOf 42 = 1 := by kernel_rfl

/-- what a contract with 'Below' gives of a row's sentence. -/
theorem post_below {H : Type} {enc : TypeId × Value → H} {f : Func} {s : ChangeSpec} {W W' : World} {args : Array Value} {v : Value} {ds gs : List (DataW H)} {before pa pv : List MemPlace} (hb : Below W.heap.size W W')
    (hW : DataW.Whole enc Tryz.prog f.params.toList s.vars false W args.toList ds gs before)
    (hres : DataW.TrodAll enc Tryz.prog W' W.heap.size (fun _ => false) false f.resultTypes.toList (v.resultList f.resultTypes.size) (s.fn H (ds ++ gs)).results [])
    (hargs : DataW.TrodAll enc Tryz.prog W' 0 (fun b => decide (b < W.heap.size)) true f.params.toList args.toList (s.fn H (ds ++ gs)).args pa)
    (hvars : DataW.TrodVars enc Tryz.prog W' (fun b => decide (b < W.heap.size)) s.vars (s.fn H (ds ++ gs)).vars pv) :
    s.post enc Tryz.prog f false true false false W args v W' :=
  ⟨ds, gs, before, [], pa, pv, hW, hres, hargs, hvars, hb.frame _, fun h => by cases h⟩

section
variable {H : Type} {enc : TypeId × Value → H} {W : World}
theorem bytes_trod {fuel : Nat} {v : Value} {y : DataW H × List MemPlace} (hf : DataW.trod enc Tryz.prog W 0 (fun _ => true) true fuel 23 [v] = some y) :
    ∃ (a0 : Option Addr) (m c : Nat) (l : List UInt8), v = .slice a0 m c ∧ l.length = m ∧ m ≤ c ∧ c ≤ maxLen ∧ Bs W a0 l := by
  rcases open_ints Tryz.underlying23 Tryz.underlying5 cells5 hf with ⟨hcs, hx⟩ | ⟨a, len, cap, zs, hcs, _, hl, hm, hz, hx, hcell, hwz⟩
  · simp only [List.cons.injEq, and_true] at hcs
    exact ⟨none, 0, 0, [], hcs, rfl, Nat.le_refl _, Nat.zero_le _, Or.inl rfl⟩
  · simp only [List.cons.injEq, and_true] at hcs
    simp only [if_true] at hz
    have hlen : ((zs.take len).map fun n => UInt8.ofNat n.toNat).length = len := by simp; omega
    refine ⟨some a, len, cap, (zs.take len).map fun n => UInt8.ofNat n.toNat, hcs, hlen, by omega, hm, ?_⟩
    by_cases h0 : len = 0
    · left; apply List.eq_nil_of_length_eq_zero; rw [hlen, h0]
    obtain ⟨b, off, sp⟩ := a
    have hsp : sp = none := by
      have := World.cell?_spot (hcell 0 (by omega))
      simpa [Addr.add] using this
    subst hsp
    refine Or.inr ⟨b, off, rfl, ?_, fun j hj => ?_⟩
    · have := World.block_lt_of_cell? _ _ (hcell 0 (by omega))
      rw [add_lit] at this; exact this
    · have hj' : j < len := by rw [hlen] at hj; exact hj
      have h2 := hcell j (by omega)
      rw [add_lit] at h2
      rw [h2]
      have hr := byte_of_wf (hwz (zs.getD j 0) (by rw [List.getD_eq_getElem?_getD, List.getElem?_eq_getElem (by omega)]; exact List.getElem_mem _))
      have hg : zs.getD j 0 = zs[j]'(by omega) := by rw [List.getD_eq_getElem?_getD, List.getElem?_eq_getElem (by omega)]; rfl
      rw [hg] at hr ⊢
      simp only [List.getElem_map, List.getElem_take]
      rw [UInt8.toNat_ofNat']
      congr 2
      omega
/-- an argument of type []byte, opened. -/
theorem open_bytes {base : Nat} {v1 : Value} {d1 : DataW H} {p1 : List MemPlace} (hval : Value.okWide Tryz.prog W .any base 23 v1) (h1 : DataW.Trod enc Tryz.prog W 0 (fun _ => true) true 23 v1 d1 p1) :
    ∃ (a0 : Option Addr) (m c : Nat) (l : List UInt8), v1 = .slice a0 m c ∧ l.length = m ∧ m ≤ c ∧ c ≤ maxLen ∧ Bs W a0 l := by
  obtain ⟨a1, len, cap, rfl⟩ := okWide_slice Tryz.underlying23 hval
  obtain ⟨fuel, hf⟩ := h1
  exact bytes_trod (y := (d1, p1)) (by simpa [Value.cells] using hf)
theorem float_cell {fuel : Nat} {v : Value} {x : DataW H × List MemPlace} (hf : DataW.trod enc Tryz.prog W 0 (fun _ => true) true fuel 42 [v] = some x) : ∃ b, v = .float .f64 b ∧ b < 18446744073709551616 := by
  cases fuel with
  | zero => simp [DataW.trod] at hf
  | succ n =>
    simp only [DataW.trod, Tryz.underlying42] at hf
    cases v with
    | float k' b =>
      by_cases hw : k' = FloatKind.f64 ∧ (Lit.float FloatKind.f64 b).wf = true
      · obtain ⟨rfl, hw⟩ := hw
        exact ⟨b, rfl, by simpa [Lit.wf] using hw⟩
      · simp only [] at hf
        by_cases hk : k' = FloatKind.f64
        · subst hk
          rw [if_neg hw] at hf
          cases hf
        · rw [if_neg (fun h => hk h.1)] at hf
          cases hf
    | _ => simp at hf
/-- an argument of type []float64, opened. -/
theorem open_floats {base : Nat} {v1 : Value} {d1 : DataW H} {p1 : List MemPlace} (hval : Value.okWide Tryz.prog W .any base 22 v1) (h1 : DataW.Trod enc Tryz.prog W 0 (fun _ => true) true 22 v1 d1 p1) :
    ∃ (a0 : Option Addr) (m c : Nat) (l : List Nat), v1 = .slice a0 m c ∧ l.length = m ∧ m ≤ c ∧ c ≤ maxLen ∧ Fl W a0 l ∧ ∀ x ∈ l, x < 18446744073709551616 := by
  obtain ⟨a1, len, cap, rfl⟩ := okWide_slice Tryz.underlying22 hval
  obtain ⟨fuel, hf⟩ := h1
  rcases open_slice1 Tryz.underlying22 cells42 (show DataW.trod enc Tryz.prog W 0 (fun _ => true) true fuel 22 [.slice a1 len cap] = some (d1, p1) by simpa [Value.cells] using hf) with ⟨hcs, hx⟩ | ⟨a, len', cap', m, n, V, D, Pl, hcs, _, hl, hm, hmm, hx, hcell⟩
  · simp only [List.cons.injEq, and_true] at hcs
    exact ⟨none, 0, 0, [], hcs, rfl, Nat.le_refl _, Nat.zero_le _, Or.inl rfl, fun x hx => by cases hx⟩
  · simp only [List.cons.injEq, and_true] at hcs
    simp only [if_true] at hmm
    have hk : ∀ i : Nat, ∃ b, i < len' → (W.cell? (a.add i) = some (.float .f64 b) ∧ b < 18446744073709551616) := by
      intro i
      by_cases hi : i < len'
      · obtain ⟨hc, ht⟩ := hcell i (by omega)
        obtain ⟨b, hb, hlt⟩ := float_cell ht
        exact ⟨b, fun _ => ⟨by rw [hc, hb], hlt⟩⟩
      · exact ⟨0, fun h => absurd h hi⟩
    obtain ⟨f, hf⟩ := Classical.axiomOfChoice hk
    refine ⟨some a, len', cap', (List.range len').map f, hcs, by simp, hl, hm, ?_, ?_⟩
    · by_cases h0 : len' = 0
      · left; rw [h0]; rfl
      · obtain ⟨b, off, sp⟩ := a
        have hsp : sp = none := by
          have := World.cell?_spot (hf 0 (by omega)).1
          simpa [Addr.add] using this
        subst hsp
        refine Or.inr ⟨b, off, rfl, fun j hj => ?_⟩
        have hj' : j < len' := by simpa using hj
        have := (hf j hj').1
        rw [add_lit] at this
        rw [this]
        simp
    · intro x hx
      simp only [List.mem_map, List.mem_range] at hx
      obtain ⟨i, hi, rfl⟩ := hx
      exact (hf i hi).2
end
end Go.Proofs.YtfodeeejolkkfaaGreat
namespace Go.Proofs.YtfodeeejolkkfaaGreat
open Go.ChangeShapes Go.WideShapes Go.ChangeAt Go.RowKit Go.Deep Go.Joins
set_option maxRecDepth 100000
namespace Law8
theorem contract (H : Type) (enc : TypeId × Value → H) (W : World) (base : Nat) (args : Array Value) (ds gs : List (DataW H)) (before : List MemPlace)
    (hval : ∀ (j : Nat) t v, Tryz.f8.params[j]? = some t → args[j]? = some v → Value.okWide Tryz.prog W .any base t v)
    (hW : DataW.Whole enc Tryz.prog Tryz.f8.params.toList Rows.queryRefusedSpec.vars false W args.toList ds gs before) :
    Calls Tryz.prog 8 args W fun e W' => ∃ v, e = .returned v ∧ Rows.queryRefusedSpec.post enc Tryz.prog Tryz.f8 false true false false W args v W' := by
  have hW' := hW
  obtain ⟨p, q, hA0, hV, rfl, hfz, hnd⟩ := hW
  have hA : DataW.TrodAll enc Tryz.prog W 0 (fun _ => true) true Tryz.f8.params.toList args.toList ds p := hA0
  rw [Tryz.params8] at hA hval
  obtain ⟨v0, vs0, d0, ds0, p0, q0, hargs, rfl, rfl, h0, r0⟩ := trodAll_cons hA
  obtain ⟨v1, vs1, d1, ds1, p1, q1, rfl, rfl, rfl, h1, r1⟩ := trodAll_cons r0
  obtain ⟨rfl, rfl, rfl⟩ := trodAll_nil r1
  obtain rfl : args = #[v0, v1] := by cases args; simp_all
  obtain ⟨rfl, rfl⟩ := trodVars_none hV
  obtain ⟨a0, rfl, rfl, rfl, w0⟩ := open_int Tryz.underlying3 (hval 0 3 v0 rfl rfl) h0
  obtain ⟨a1, rfl, rfl, rfl, w1⟩ := open_int Tryz.underlying3 (hval 1 3 v1 rfl rfl) h1
  have b0 := bounds_i64 w0
  have b1 := bounds_i64 w1
  refine (law8_any a0 a1 W (by omega) (by omega) (by omega) (by omega)).mono fun e W' ⟨he, hc⟩ => ?_
  subst he
  exact ⟨_, rfl, post_below hc.below0 hW' (trodAll_mk1 (shut_bool Tryz.underlying4 _)) (trodAll_cons_mk (shut_int Tryz.underlying3 w0) (trodAll_cons_mk (shut_int Tryz.underlying3 w1) trodAll_mk0)) rfl⟩
theorem lifted (os : Os) (started : os.Started) (H : Type) (enc : TypeId × Value → H) :
    ReturnsInHanded {} Tryz.checked os 8 .any (Rows.queryRefusedSpec.pre6 enc Tryz.prog Tryz.f8 Rows.queryRefusedRow.domain false) (Rows.queryRefusedSpec.post enc Tryz.prog Tryz.f8 false true false false) := by
  refine returnsInHanded_of_change (C := Tryz.checked) ownk started (by kernel_rfl) Tryz.func8
    (ChangeSpec.witness6 (enc := enc) (C := Tryz.checked) false ⟨#[], #[.int .i64 0, .int .i64 0], []⟩ 8 (by kernel_rfl) (by kernel_rfl) (by kernel_rfl) (by kernel_rfl)) ?_
  intro W base args ds gs before hval0 hW hcnd _
  exact contract H enc W base args ds gs before hval0 hW
theorem over : Rows.queryRefusedRow.holds Tryz.pinned (OpenSpec.ofChange Rows.queryRefusedSpec) :=
  OpenClaim.holds_of_wide 8 Tryz.f8 rfl rfl rfl rfl rfl rfl rfl ⟨rfl, rfl, rfl, rfl, rfl⟩ rfl rfl rfl rfl rfl (by kernel_rfl) Tryz.func8 (by kernel_rfl)
    (of_decide_eq_true (by kernel_rfl)) (by unfold Func.isWrapper; first | (rw [if_pos (by decide +kernel)]; kernel_rfl) | (rw [if_neg (by decide +kernel)]; exact ⟨rfl, rfl⟩))
    (fun os started H enc _ => lifted os started H enc)
theorem said : Rows.QueryRefusedSaid := over
end Law8
end Go.Proofs.YtfodeeejolkkfaaGreat
