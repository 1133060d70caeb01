/- Lemmas and walks. -/
import Derived.StillTailTactics
import Derived.BigQuiet
import Derived.Laws.BitsAllLaws
import Derived.Deep.CutBlock
import Derived.Maps.RangeRun
import Derived.Test.YtelakcjbknbehaaGreatEd
import Derived.Test.YtelakcjbknbehaaGreatEe
namespace Go.Proofs.YtelakcjbknbehaaGreat
open Go.RowKit Go.Lib

theorem TxOne.keepA {w w' : World} {T : List Nat} {lo : Nat} {v : Value} {k : Int} {l : List (Int × List UInt8)} (h : TxOne w lo v k l) (hc : Chg T w w') (hT : Av w T [185, 50, 5]) : TxOne w' lo v k l := by
 obtain ⟨g, c, cs, pv, h1, h2, h3, h4, h5, h6, h7⟩ := h
 refine ⟨g, c, cs, pv, h1, h2, h3, hc.heap h4 (hT.ne h4 (by simp)), h5, h6, h7.keep hc (fun x hx cs t fr hh ht => hT x hx cs t fr hh (by simp at ht; simp [ht])) (fun g hg => ?_)⟩
 obtain ⟨_, cs, hb⟩ := h7.block g hg
 exact hT.ne hb (by simp)
theorem TxOne.low {w : World} {lo lo' : Nat} {v : Value} {k : Int} {l : List (Int × List UInt8)} (h : TxOne w lo v k l) (hl : lo' ≤ lo) : TxOne w lo' v k l := by
 obtain ⟨g, c, cs, pv, h1, h2, h3, h4, h5, h6, xs, ho, hx⟩ := h
 exact ⟨g, c, cs, pv, h1, h2, by omega, h4, h5, h6, xs, own_base ho hl, hx⟩
theorem TxOne.open_ {w : World} {lo : Nat} {v : Value} {k : Int} {l : List (Int × List UInt8)} (h : TxOne w lo v k l) : ∃ g c pb cb, v = .slice (some ⟨g, 0, none⟩) 1 c ∧ 1 ≤ c ∧ lo ≤ g ∧ g < w.heap.size ∧ w.cell? ⟨g, 0, none⟩ = some (.int .i64 k) ∧ w.cell? ⟨g, 1, none⟩ = some (.slice pb l.length cb) ∧ l.length ≤ cb ∧ PutsAt w lo (.slice pb l.length cb) l := by
 obtain ⟨g, c, cs, pv, h1, h2, h3, h4, h5, h6, h7⟩ := h
 obtain ⟨pb, cb, rfl, hcb⟩ := own_form h7.choose_spec.1
 exact ⟨g, c, pb, cb, h1, h2, h3, heap_lt h4, cell_is h4 0 h5, cell_is h4 1 h6, hcb, h7⟩
set_option maxRecDepth 100000 in
set_option maxHeartbeats 1000000 in
theorem form_one (w : World) {lo : Nat} {v : Value} {k : Int} {l : List (Int × List UInt8)} (h : TxOne w lo v k l) (hl : l.length ≤ 32) : Calls Tryz.prog 134 #[v] w fun e w' => e = .returned (.int .i64 1) ∧ Chg [] w w' := by
 obtain ⟨g, c, pb, cb, rfl, -, -, -, c0, c1, hcb, -⟩ := h.open_
 clear h
 go_enter Tryz.func134, Tryz.ntmps134
 go_wp2_with fail
 go_loopw [2, 3, 5, 8] (fun n p _ i wr => (i = .int .i64 0 ∧ n = .int .i64 0 ∧ p = .int .i64 0 ∧ wr = w) ∨ (i = .int .i64 1 ∧ n = .int .i64 1 ∧ Chg [] w wr)) (fun _ _ _ i _ => 1 - (intOf i).toNat)
 case atStart => exact Or.inl ⟨rfl, rfl, rfl, rfl⟩
 case round =>
  rcases hrel with ⟨rfl, rfl, rfl, rfl⟩ | ⟨rfl, rfl, kr⟩
  ·have ka : Chg [] wr (wr.alloc (.cells #[.int .i64 k, .slice pb l.length cb] 185)) := Chg.alloc wr _
   go_wp2_with fail
   go_roundw
   case rel => exact Or.inr ⟨rfl, rfl, ka⟩
   case measure => decide
  ·go_wp2_with fail
   go_ret
   exact ⟨rfl, kr⟩
set_option maxRecDepth 100000 in
set_option maxHeartbeats 4000000 in
theorem tbatch_one (w : World) {M X B r cq gq : Nat} {num bas last given k : Int} {rd : Bool} {l : List (Int × List UInt8)} (hM : MgrG w M X B r (.slice (some ⟨gq, 0, none⟩) 1 cq) 0 num bas last given rd) (hl : l.length ≤ 32) (hn0 : 0 ≤ num) (hn1 : num ≤ 1000000000000)
  (hW : ∀ w1, Chg [] w w1 → Calls Tryz.prog 133 #[.pointer (some ⟨M, 0, none⟩)] w1 fun e w' => ∃ v, e = .returned v ∧ Chg [] w1 w' ∧ TxOne w' w1.heap.size v k l) :
  Calls Tryz.prog 61 #[.pointer (some ⟨M, 0, none⟩)] w fun e w' => ∃ g c, e = .returned (.tuple #[.agg #[.int .i64 (num + 1), .slice (some ⟨g, 0, none⟩) 1 c], .int .i64 0]) ∧ Chg [M] w w' ∧ MgrG w' M X B r (.slice (some ⟨gq, 0, none⟩) 1 cq) 1 num bas last given rd ∧ TxOne w' w.heap.size (.slice (some ⟨g, 0, none⟩) 1 c) k l := by
 have k0 : Chg [] w (w.alloc (.cells #[.int .i64 0, .slice none 0 0] 108)) := Chg.alloc w _
 have K0 := heap_new w (.cells #[.int .i64 0, .slice none 0 0] 108)
 have hM0 := k0.heap hM (by simp)
 have HW := Lib.hid (hW _ k0)
 have m0 : (w.alloc (.cells #[.int .i64 0, .slice none 0 0] 108)).cell? ⟨M, 0, none⟩ = some (.pointer (some ⟨X, 0, none⟩)) := cell_is hM0 0 rfl
 have m4 : (w.alloc (.cells #[.int .i64 0, .slice none 0 0] 108)).cell? ⟨M, 4, none⟩ = some (.int .i64 0) := cell_is hM0 4 rfl
 have m3 : (w.alloc (.cells #[.int .i64 0, .slice none 0 0] 108)).cell? ⟨M, 3, none⟩ = some (.slice (some ⟨gq, 0, none⟩) 1 cq) := cell_is hM0 3 rfl
 have hgone : ∀ w1 : World, w1.cell? ⟨M, 0, none⟩ = some (.pointer (some ⟨X, 0, none⟩)) → Calls Tryz.prog 113 #[.pointer (some ⟨M, 0, none⟩)] w1 fun e w' => e = .returned (.bool false) ∧ w1 = w' := by
  intro w1 c0
  clear hW HW hM hM0 m0 m4 m3 K0
  go_enter Tryz.func113, Tryz.ntmps113
  go_wp2_with fail
  go_ret
  exact ⟨rfl, rfl⟩
 have HG := Lib.hid (hgone _ m0)
 clear hW hM hgone
 go_enter Tryz.func61, Tryz.ntmps61
 go_wp2_with fail
 generalize w.alloc (.cells #[.int .i64 0, .slice none 0 0] 108) = w1 at *
 generalize hR : w.heap.size = R at *
 refine HG.out.mono ?_
 rintro e w2 ⟨rfl, rfl⟩
 go_wp2_with fail
 refine HW.out.mono ?_
 rintro e w2 ⟨v, rfl, k2, ht⟩
 have hM2 := k2.heap hM0 (by simp)
 have K2 := k2.heap K0 (by simp)
 have HF := Lib.hid (form_one w2 ht hl)
 have kk2 := k0.then k2
 obtain ⟨g, c, pb, cb, rfl, hc1, hlo, -, -, -, -, -⟩ := ht.open_
 have HT := Lib.hid ht
 clear m0 m4 m3 ht hM0 K0 HG HW
 go_wp2_with fail
 refine HF.out.mono ?_
 rintro e w3 ⟨rfl, k3⟩
 have hM3 := k3.heap hM2 (by simp)
 have K3 := k3.heap K2 (by simp)
 have HT3 := Lib.hid (HT.out.keep k3)
 have kk3 := kk2.then k3
 have m4 : w3.cell? ⟨M, 4, none⟩ = some (.int .i64 0) := cell_is hM3 4 rfl
 have f4 := unfrozen hM3 4
 clear hM2 K2 HF HT k3 kk2
 have hMR : M ≠ R := heap_ne hM3 K3 (by simp)
 have kS := Chg.set w3 M 4 (.int .i64 1)
 have hM4 : MgrG (w3.setCell ⟨M, 4, none⟩ (.int .i64 1)) M X B r (.slice (some ⟨gq, 0, none⟩) 1 cq) 1 num bas last given rd := heap_set hM3 4 _ rfl
 have K4 := heap_set_ne K3 hMR.symm 4 (.int .i64 1)
 have HT4 := Lib.hid (HT3.out.keepA kS (Av.row hM3 (by decide)))
 have kk4 : Chg [M] w (w3.setCell ⟨M, 4, none⟩ (.int .i64 1)) := (kk3.mono (fun x hx _ => by cases hx)).then kS
 go_upto_region 9 with fail
 clear kk3 K3 hM3 HT3 m4 f4 kS
 generalize w3.setCell ⟨M, 4, none⟩ (.int .i64 1) = w4 at *
 have n5 : w4.drew.cell? ⟨M, 5, none⟩ = some (.int .i64 num) := cell_is hM4 5 rfl
 have n4 : w4.drew.cell? ⟨M, 4, none⟩ = some (.int .i64 1) := cell_is hM4 4 rfl
 have r0 : w4.drew.cell? ⟨R, 0, none⟩ = some (.int .i64 0) := cell_is K4 0 rfl
 have r1 : w4.drew.cell? ⟨R, 1, none⟩ = some (.slice none 0 0) := cell_is K4 1 rfl
 have z0 : w4.drew.frozen? ⟨R, 0, none⟩ = false := unfrozen K4 0
 have z1 : w4.drew.frozen? ⟨R, 1, none⟩ = false := unfrozen K4 1
 have r0' : w4.cell? ⟨R, 0, none⟩ = some (.int .i64 0) := r0
 have r1' : w4.cell? ⟨R, 1, none⟩ = some (.slice none 0 0) := r1
 have z0' : w4.frozen? ⟨R, 0, none⟩ = false := z0
 have z1' : w4.frozen? ⟨R, 1, none⟩ = false := z1
 have hcl : (1 : Int) ≤ c := by omega
 have hnw : IntKind.i64.wrap (num + 1) = num + 1 := by rw [IntKind.wrap_i64]; omega
 have kR : ∀ a b, Chg [R] w4 ((w4.setCell ⟨R, 0, none⟩ a).setCell ⟨R, 1, none⟩ b).drew := fun a b => (((Chg.refl [R] w4).then_set (fun _ => by simp) 0 a).then_set (fun _ => by simp) 1 b).drew
 have fR : ∀ a b, ((w4.setCell ⟨R, 0, none⟩ a).setCell ⟨R, 1, none⟩ b).drew.cell? ⟨M, 5, none⟩ = some (.int .i64 num) ∧ ((w4.setCell ⟨R, 0, none⟩ a).setCell ⟨R, 1, none⟩ b).drew.cell? ⟨M, 4, none⟩ = some (.int .i64 1) := fun a b => ⟨(kR a b).cell n5 (by simpa using hMR), (kR a b).cell n4 (by simpa using hMR)⟩
 go_region_held3 (fun wx => wx.cell? ⟨M, 5, none⟩ = some (.int .i64 num) ∧ wx.cell? ⟨M, 4, none⟩ = some (.int .i64 1))
  (first | (with_reducible exact ⟨n5, n4⟩) | (with_reducible exact fR _ _))
  (first | (fail))
 all_goals
  have kF := kR (.int .i64 (num + 1)) (.slice (some ⟨g, 0, none⟩) 1 c)
  have K6 : ((w4.setCell ⟨R, 0, none⟩ (.int .i64 (num + 1))).setCell ⟨R, 1, none⟩ (.slice (some ⟨g, 0, none⟩) 1 c)).drew.heap[R]? = some (.cells #[.int .i64 (num + 1), .slice (some ⟨g, 0, none⟩) 1 c] 108 (0, 0)) := heap_set (heap_set K4 0 _ rfl) 1 _ rfl
  have hM6 := kF.heap hM4 (by simpa using hMR)
  have HT6 := Lib.hid (HT4.out.keepA kF (Av.row K4 (by decide)))
  have kk6 : Chg [M] w ((w4.setCell ⟨R, 0, none⟩ (.int .i64 (num + 1))).setCell ⟨R, 1, none⟩ (.slice (some ⟨g, 0, none⟩) 1 c)).drew := kk4.trans kF (fun x hx hlt => by rw [List.mem_singleton] at hx; omega)
  have c0 : ((w4.setCell ⟨R, 0, none⟩ (.int .i64 (num + 1))).setCell ⟨R, 1, none⟩ (.slice (some ⟨g, 0, none⟩) 1 c)).drew.cell? ⟨R, 0, none⟩ = some (.int .i64 (num + 1)) := cell_is K6 0 rfl
  have c1 : ((w4.setCell ⟨R, 0, none⟩ (.int .i64 (num + 1))).setCell ⟨R, 1, none⟩ (.slice (some ⟨g, 0, none⟩) 1 c)).drew.cell? ⟨R, 1, none⟩ = some (.slice (some ⟨g, 0, none⟩) 1 c) := cell_is K6 1 rfl
  clear kR fR HT4 r0 r1 z0 z1 r0' r1' z0' z1' n5 n4 K4
  go_wp2_with fail
  refine bodyPost_ret (v := .tuple #[.agg #[.int .i64 (num + 1), .slice (some ⟨g, 0, none⟩) 1 c], .int .i64 0]) (by simp [results, Tryz.results61, go_sem, c0, c1]) rfl ?_
  exact ⟨g, c, rfl, kk6, hM6, HT6.out.low (by rw [hR]; have := k0.size; omega)⟩
def Rise (l : List (Int × List UInt8)) : Prop := ∀ i (h : i + 1 < l.length), l[i].1 < l[i + 1].1
set_option maxRecDepth 100000 in
set_option maxHeartbeats 4000000 in
theorem order_one (w : World) {lo : Nat} {v : Value} {k : Int} {l : List (Int × List UInt8)} (h : TxOne w lo v k l) (hk0 : 1 ≤ k) (hk1 : k ≤ 1099511627776) (hl0 : 0 < l.length) (hl : l.length ≤ 1000) (hr : Rise l) : Calls Tryz.prog 233 #[v] w fun e w' => e = .returned (.bool true) ∧ Chg [] w w' := by
 obtain ⟨g, c, pb, cb, rfl, -, -, -, c0, c1, hcb, hp⟩ := h.open_
 have HP := Lib.hid hp
 have HR := Lib.hid hr
 have n0 : decide (k ≤ 0) = false := decide_eq_false (by omega)
 have n1 : decide (1099511627776 < k) = false := decide_eq_false (by omega)
 have n2 : ((l.length : Int) == 0) = false := beq_eq_false_iff_ne.2 (by omega)
 have hcbi : (l.length : Int) ≤ cb := by omega
 clear h hp hr
 go_enter Tryz.func233, Tryz.ntmps233
 go_wp2_with fail
 go_loopw [3, 5, 6, 9] (fun s _ _ i wr => (i = .int .i64 0 ∧ s = .int .i64 0 ∧ wr = w) ∨ (i = .int .i64 1 ∧ Chg [] w wr)) (fun _ _ _ i _ => 1 - (intOf i).toNat)
 case atStart => exact Or.inl ⟨rfl, rfl, rfl⟩
 case round =>
  rcases hrel with ⟨rfl, rfl, rfl⟩ | ⟨rfl, kr⟩
  ·have ka : Chg [] wr (wr.alloc (.cells #[.int .i64 k, .slice pb l.length cb] 185)) := Chg.alloc wr _
   have A0 := heap_new wr (.cells #[.int .i64 k, .slice pb l.length cb] 185)
   go_wp2_with fail
   generalize hzz : wr.heap.size = z at *
   generalize wr.alloc (.cells #[.int .i64 k, .slice pb l.length cb] 185) = w2 at *
   go_loopw [6] (fun i wz => ∃ j : Nat, 1 ≤ j ∧ j ≤ l.length ∧ i = .int .i64 j ∧ Chg [] w2 wz) (fun i _ => l.length - (intOf i).toNat)
   case atStart => exact ⟨1, by omega, by omega, rfl, Chg.refl _ _⟩
   case round =>
    obtain ⟨j, hj1, hj, rfl, kz⟩ := hrel
    rename World => wz
    have b1 : wz.cell? ⟨z, 1, none⟩ = some (.slice pb l.length cb) := cell_is (kz.heap A0 (by simp)) 1 rfl
    by_cases hlt : j < l.length
    ·obtain ⟨q, rfl⟩ : ∃ q, j = q + 1 := ⟨j - 1, by omega⟩
     have hP2 := (HP.out.keep0 ka).keep0 kz
     obtain ⟨gp, cap, gd, cd, hv, -, d1, -, -, -, -⟩ := hP2.get (q + 1) hlt
     obtain ⟨gp', cap', gd', cd', hv', -, d0, -, -, -, -⟩ := hP2.get q (by omega)
     cases hv
     cases hv'
     have hlt2 := HR.out q hlt
     have hnle : decide ((l[q + 1]).1 ≤ (l[q]'(by omega)).1) = false := decide_eq_false (by omega)
     have hwq : IntKind.i64.wrap (((q + 1 : Nat) : Int) - 1) = q := by rw [IntKind.wrap_i64]; omega
     have hqi : (q : Int) < l.length := by omega
     have hqi2 : ((q + 1 : Nat) : Int) < l.length := by omega
     clear hP2 HP HR hlt2
     generalize (l[q + 1]).1 = x at *
     generalize (l[q]'(by omega)).1 = y at *
     go_wp2_with fail
     go_quiet (fail)
     go_wp2_with fail
     exact ⟨⟨q + 2, by omega, by omega, by go_num, kz.drewN nq⟩, by simp [intOf]; omega⟩
    ·obtain rfl : j = l.length := by omega
     go_wp2_with fail
     exact ⟨Or.inr ⟨rfl, ka.then kz⟩, by decide⟩
  ·go_wp2_with fail
   go_ret
   exact ⟨rfl, kr⟩
set_option maxRecDepth 100000 in
set_option maxHeartbeats 1000000 in
theorem blocks_one (w : World) {lo : Nat} {v : Value} {k num : Int} {l : List (Int × List UInt8)} (h : TxOne w lo v k l) (hl : l.length ≤ 1000) : Calls Tryz.prog 234 #[.agg #[.int .i64 num, v]] w fun e w' => e = .returned (.int .i64 ((1 + l.length : Nat) : Int)) ∧ Chg [] w w' := by
 have k0 : Chg [] w (w.alloc (.cells #[.int .i64 num, v] 108)) := Chg.alloc w _
 have K0 := heap_new w (.cells #[.int .i64 num, v] 108)
 obtain ⟨g, c, pb, cb, rfl, -, -, -, c0, c1, hcb, -⟩ := (h.keep k0).open_
 have b1 : (w.alloc (.cells #[.int .i64 num, .slice (some ⟨g, 0, none⟩) 1 c] 108)).cell? ⟨w.heap.size, 1, none⟩ = some (.slice (some ⟨g, 0, none⟩) 1 c) := cell_is K0 1 rfl
 clear h K0
 go_enter Tryz.func234, Tryz.ntmps234
 go_wp2_with fail
 generalize w.alloc (.cells #[.int .i64 num, .slice (some ⟨g, 0, none⟩) 1 c] 108) = w1 at *
 go_loopw [3, 5, 9] (fun n _ i wr => (i = .int .i64 0 ∧ n = .int .i64 1 ∧ wr = w1) ∨ (i = .int .i64 1 ∧ n = .int .i64 ((1 + l.length : Nat) : Int) ∧ Chg [] w1 wr)) (fun _ _ i _ => 1 - (intOf i).toNat)
 case atStart => exact Or.inl ⟨rfl, rfl, rfl⟩
 case round =>
  rcases hrel with ⟨rfl, rfl, rfl⟩ | ⟨rfl, rfl, kr⟩
  ·have ka : Chg [] wr (wr.alloc (.cells #[.int .i64 k, .slice pb l.length cb] 185)) := Chg.alloc wr _
   go_wp2_with fail
   go_roundw
   case rel => exact Or.inr ⟨rfl, by go_num, ka⟩
   case measure => decide
  ·go_wp2_with fail
   go_ret
   exact ⟨rfl, k0.then kr⟩
set_option maxRecDepth 100000 in
theorem bput_ok (w : World) {b : Int} {pd : Option Addr} {cd : Nat} (h0 : 0 ≤ b) (h1 : b < 258) : Calls Tryz.prog 236 #[.agg #[.int .i64 b, .slice pd 40 cd]] w fun e w' => e = .returned (.bool true) ∧ Chg [] w w' := by
 have kc : Chg [] w (w.alloc (.cells #[.int .i64 b, .slice pd 40 cd] 50)) := Chg.alloc w _
 have n0 : decide (0 ≤ b) = true := decide_eq_true h0
 have n1 : decide (b ≤ 1048576) = true := decide_eq_true (by omega)
 go_enter Tryz.func236, Tryz.ntmps236
 go_wp2_with fail
 go_ret
 exact ⟨rfl, kc⟩
set_option maxRecDepth 100000 in
theorem bcheck1_ok (w : World) {b : Int} {pd : Option Addr} {cd : Nat} (h0 : 0 ≤ b) (h1 : b < 258) : Calls Tryz.prog 235 #[.agg #[.int .i64 b, .slice pd 40 cd]] w fun e w' => e = .returned (.bool false) ∧ Chg [] w w' := by
 have kc : Chg [] w (w.alloc (.cells #[.int .i64 b, .slice pd 40 cd] 50)) := Chg.alloc w _
 go_enter Tryz.func235, Tryz.ntmps235
 go_wp2_with fail
 refine (bput_ok _ h0 h1).mono ?_
 rintro e w2 ⟨rfl, k2⟩
 go_wp2_with fail
 go_ret
 exact ⟨rfl, kc.then k2⟩
set_option maxRecDepth 100000 in
theorem apply1_ok (w : World) {b : Int} {pd : Option Addr} {cd : Nat} : Calls Tryz.prog 199 #[.agg #[.int .i64 b, .slice pd 40 cd]] w fun e w' => e = .returned (.bool false) ∧ Chg [] w w' := by
 have kc : Chg [] w (w.alloc (.cells #[.int .i64 b, .slice pd 40 cd] 50)) := Chg.alloc w _
 go_enter Tryz.func199, Tryz.ntmps199
 go_wp2_with fail
 go_ret
 exact ⟨rfl, kc⟩
set_option maxRecDepth 100000 in
set_option maxHeartbeats 1000000 in
theorem idxputs_200 (w : World) {lo cb : Nat} {pb : Option Addr} {l : List (Int × List UInt8)} (hp : PutsAt w lo (.slice pb l.length cb) l) (hk : ∀ x ∈ l, 0 ≤ x.1 ∧ x.1 < 258) (hl : l.length ≤ 1000) : Calls Tryz.prog 223 #[.slice pb l.length cb, .func (.func 235) #[] #[]] w fun e w' => e = .returned (.int .i64 (-1)) ∧ Chg [] w w' := by
 have hG : ∀ (w1 : World) (b : Int) (pd : Option Addr) (cd : Nat), 0 ≤ b → b < 258 → Calls Tryz.prog 235 #[.agg #[.int .i64 b, .slice pd 40 cd]] w1 fun e w' => e = .returned (.bool false) ∧ Chg [] w1 w' := fun w1 b pd cd h0 h1 => bcheck1_ok w1 h0 h1
 have HG := Lib.hid hG
 have HP := Lib.hid hp
 have HK := Lib.hid hk
 have hcb : l.length ≤ cb := by obtain ⟨pa, c, e, h⟩ := own_form hp.choose_spec.1; cases e; exact h
 clear hG hp hk
 go_enter Tryz.func223, Tryz.ntmps223
 go_wp2_with fail
 go_loopw [5, 8] (fun _ i wr => ∃ j : Nat, j ≤ l.length ∧ i = .int .i64 j ∧ Chg [] w wr) (fun _ i _ => l.length - (intOf i).toNat)
 case atStart => exact ⟨0, by omega, rfl, Chg.refl _ _⟩
 case round =>
  obtain ⟨j, hj, rfl, kr⟩ := hrel
  by_cases hlt : j < l.length
  ·obtain ⟨g, cap, gd, cd, hv, -, d0, d1, -, -, -⟩ := (HP.out.keep0 kr).get j hlt
   cases hv
   have hb := HK.out l[j] (List.getElem_mem hlt)
   have HB := Lib.hid (HG.out wr l[j].1 (some ⟨gd, 0, none⟩) cd hb.1 hb.2)
   clear hb
   generalize (l[j]).1 = x at *
   go_wp2_with fail
   refine HB.out.mono ?_
   rintro e w2 ⟨rfl, k2⟩
   go_wp2_with fail
   go_roundw
   case rel => exact ⟨j + 1, by omega, by simp, kr.then k2⟩
   case measure => simp [intOf]; omega
  ·obtain rfl : j = l.length := by omega
   go_wp2_with fail
   go_ret
   exact ⟨rfl, kr⟩
set_option maxRecDepth 100000 in
theorem contputs_200 (w : World) {lo cb : Nat} {pb : Option Addr} {l : List (Int × List UInt8)} (hp : PutsAt w lo (.slice pb l.length cb) l) (hk : ∀ x ∈ l, 0 ≤ x.1 ∧ x.1 < 258) (hl : l.length ≤ 1000) : Calls Tryz.prog 182 #[.slice pb l.length cb, .func (.func 235) #[] #[]] w fun e w' => e = .returned (.bool false) ∧ Chg [] w w' := by
 have HI := Lib.hid (idxputs_200 w hp hk hl)
 clear hp hk
 go_enter Tryz.func182, Tryz.ntmps182
 go_wp2_with fail
 refine HI.out.mono ?_
 rintro e w2 ⟨rfl, k⟩
 go_wp2_with fail
 go_ret
 exact ⟨rfl, k⟩
set_option maxRecDepth 100000 in
set_option maxHeartbeats 1000000 in
theorem idxputs_164 (w : World) {lo cb : Nat} {pb : Option Addr} {l : List (Int × List UInt8)} (hp : PutsAt w lo (.slice pb l.length cb) l) (hk : ∀ x ∈ l, 0 ≤ x.1 ∧ x.1 < 258) (hl : l.length ≤ 1000) : Calls Tryz.prog 223 #[.slice pb l.length cb, .func (.func 199) #[] #[]] w fun e w' => e = .returned (.int .i64 (-1)) ∧ Chg [] w w' := by
 have hG : ∀ (w1 : World) (b : Int) (pd : Option Addr) (cd : Nat), 0 ≤ b → b < 258 → Calls Tryz.prog 199 #[.agg #[.int .i64 b, .slice pd 40 cd]] w1 fun e w' => e = .returned (.bool false) ∧ Chg [] w1 w' := fun w1 _ _ _ _ _ => apply1_ok w1
 have HG := Lib.hid hG
 have HP := Lib.hid hp
 have HK := Lib.hid hk
 have hcb : l.length ≤ cb := by obtain ⟨pa, c, e, h⟩ := own_form hp.choose_spec.1; cases e; exact h
 clear hG hp hk
 go_enter Tryz.func223, Tryz.ntmps223
 go_wp2_with fail
 go_loopw [5, 8] (fun _ i wr => ∃ j : Nat, j ≤ l.length ∧ i = .int .i64 j ∧ Chg [] w wr) (fun _ i _ => l.length - (intOf i).toNat)
 case atStart => exact ⟨0, by omega, rfl, Chg.refl _ _⟩
 case round =>
  obtain ⟨j, hj, rfl, kr⟩ := hrel
  by_cases hlt : j < l.length
  ·obtain ⟨g, cap, gd, cd, hv, -, d0, d1, -, -, -⟩ := (HP.out.keep0 kr).get j hlt
   cases hv
   have hb := HK.out l[j] (List.getElem_mem hlt)
   have HB := Lib.hid (HG.out wr l[j].1 (some ⟨gd, 0, none⟩) cd hb.1 hb.2)
   clear hb
   generalize (l[j]).1 = x at *
   go_wp2_with fail
   refine HB.out.mono ?_
   rintro e w2 ⟨rfl, k2⟩
   go_wp2_with fail
   go_roundw
   case rel => exact ⟨j + 1, by omega, by simp, kr.then k2⟩
   case measure => simp [intOf]; omega
  ·obtain rfl : j = l.length := by omega
   go_wp2_with fail
   go_ret
   exact ⟨rfl, kr⟩
set_option maxRecDepth 100000 in
theorem contputs_164 (w : World) {lo cb : Nat} {pb : Option Addr} {l : List (Int × List UInt8)} (hp : PutsAt w lo (.slice pb l.length cb) l) (hk : ∀ x ∈ l, 0 ≤ x.1 ∧ x.1 < 258) (hl : l.length ≤ 1000) : Calls Tryz.prog 182 #[.slice pb l.length cb, .func (.func 199) #[] #[]] w fun e w' => e = .returned (.bool false) ∧ Chg [] w w' := by
 have HI := Lib.hid (idxputs_164 w hp hk hl)
 clear hp hk
 go_enter Tryz.func182, Tryz.ntmps182
 go_wp2_with fail
 refine HI.out.mono ?_
 rintro e w2 ⟨rfl, k⟩
 go_wp2_with fail
 go_ret
 exact ⟨rfl, k⟩
set_option maxRecDepth 100000 in
set_option maxHeartbeats 1000000 in
theorem rise_ok (w : World) {lo cb : Nat} {pb : Option Addr} {l : List (Int × List UInt8)} (hp : PutsAt w lo (.slice pb l.length cb) l) (hr : Rise l) (hl0 : 0 < l.length) (hl : l.length ≤ 1000) : Calls Tryz.prog 197 #[.slice pb l.length cb] w fun e w' => e = .returned (.bool true) ∧ Chg [] w w' := by
 have HP := Lib.hid hp
 have HR := Lib.hid hr
 have n2 : decide (0 < (l.length : Int)) = true := decide_eq_true (by omega)
 clear hp hr
 go_enter Tryz.func197, Tryz.ntmps197
 go_wp2_with fail
 go_loopw [3] (fun i wz => ∃ j : Nat, 1 ≤ j ∧ j ≤ l.length ∧ i = .int .i64 j ∧ Chg [] w wz) (fun i _ => l.length - (intOf i).toNat)
 case atStart => exact ⟨1, by omega, by omega, rfl, Chg.refl _ _⟩
 case round =>
  obtain ⟨j, hj1, hj, rfl, kz⟩ := hrel
  rename World => wz
  by_cases hlt : j < l.length
  ·obtain ⟨q, rfl⟩ : ∃ q, j = q + 1 := ⟨j - 1, by omega⟩
   have hP2 := HP.out.keep0 kz
   obtain ⟨gp, cap, gd, cd, hv, hcap, d1, -, -, -, -⟩ := hP2.get (q + 1) hlt
   obtain ⟨gp', cap', gd', cd', hv', -, d0, -, -, -, -⟩ := hP2.get q (by omega)
   cases hv
   cases hv'
   have hlt2 := HR.out q hlt
   have hnle : decide ((l[q + 1]).1 ≤ (l[q]'(by omega)).1) = false := decide_eq_false (by omega)
   have hwq : IntKind.i64.wrap (((q + 1 : Nat) : Int) - 1) = q := by rw [IntKind.wrap_i64]; omega
   have hqi : (q : Int) < l.length := by omega
   have hqi2 : ((q + 1 : Nat) : Int) < l.length := by omega
   clear hP2 HP HR hlt2
   generalize (l[q + 1]).1 = x at *
   generalize (l[q]'(by omega)).1 = y at *
   go_wp2_with fail
   go_quiet (fail)
   go_wp2_with fail
   exact ⟨⟨q + 2, by omega, by omega, by go_num, kz.drewN nq⟩, by simp [intOf]; omega⟩
  ·obtain rfl : j = l.length := by omega
   go_wp2_with fail
   go_ret
   exact ⟨rfl, kz⟩
theorem ty265 : Tryz.prog.underlying 286 = some (.slice 288) := by kernel_rfl
theorem inf267 : (Tryz.prog.info? 288).map (fun i => (i.zero, i.size, i.bytes)) = some (some (.agg #[.int .i64 0, .slice none 0 0]), 2, 32) := by kernel_rfl
theorem step_append_ver {ops : Array Oper} {o : Oper} {a : Act} {w : World} {K : Act → World → Prop} {Q : Exit → Act → World → Prop} {E : Prop} (hgd : o.guard = none) (s x : Operand)
  (ho : o.op = .call { callee := .builtin .append, args := #[s, x], argTypes := #[286, 286] }) (base : Nat) (v : Value) (n : Nat) (xs : List Value) (hs : a.eval s = v) (hown : w.ownsRow base 288 2 v n xs) (b c : Nat) (u0 u1 : Value)
  (hx : a.eval x = .slice (some ⟨b, 0, none⟩) 1 c) (c0 : w.cell? ⟨b, 0, none⟩ = some u0) (c1 : w.cell? ⟨b, 1, none⟩ = some u1) (h1 : u0.oneCell' = true ∧ u1.oneCell' = true) (hn : n ≤ 1000000) (hbase : base ≤ w.heap.size)
  (h : ∀ g cap w', w'.ownsRow base 288 2 (.slice (some ⟨g, 0, none⟩) (n + 1) cap) (n + 1) (xs ++ [u0, u1]) → Chg v.ownBlock.toList w w' → (v.ownBlock = some g ∨ g = w.heap.size) → K (a.put o.dst (.slice (some ⟨g, 0, none⟩) (n + 1) cap)) w') :
  if Region.wanted o (yielded ops a.tmps) = true then Oper.wp Tryz.prog o a w K Q else E := by
 obtain ⟨i, hi0, hz, hz1, hz2⟩ := info_parts inf267
 refine step_append_lies w hgd s x 286 ho base 288 i _ 2 32 ty265 hi0 hz hz1 hz2 rfl (by decide) v n xs hs hown ⟨b, 0, none⟩ 1 c [u0, u1] hx rfl ?_ ?_ (by decide) (by unfold maxLen; omega) (by omega) hbase _ rfl ?_
 ·intro j u hu
  rw [add_lit, Nat.zero_add]
  match j with
  | 0 => cases hu; exact c0
  | 1 => cases hu; exact c1
  | j + 2 => simp at hu
 ·intro u hu
  simp at hu
  rcases hu with rfl | rfl
  ·exact h1.1
  ·exact h1.2
 ·intro g cap w' h2 h3 h4 _
  refine h g cap w' h2 ?_ h4
  cases hv : v.ownBlock with
  | none => rw [hv] at h3; exact Chg.of_grown0 h3
  | some k => rw [hv] at h3; exact Chg.of_grown h3
theorem VRow.push {w w' : World} {lo gb cb n : Nat} {v v' : Value} {l : List (Int × List UInt8)} {k : Int} {b : List UInt8} {xs : List Value} (hx : ∀ i (h : i < l.length), xs[i * 2]? = some (.int .i64 l[i].1) ∧ ∃ g c, xs[i * 2 + 1]? = some (.slice (some ⟨g, 0, none⟩) 40 c) ∧ Bs w (some ⟨g, 0, none⟩) l[i].2 ∧ l[i].2.length = 40 ∧ Bt w g)
  (hl : xs.length = l.length * 2) (hn : n = l.length) (hv : ∀ g, v.ownBlock = some g → ∃ cs, w.heap[g]? = some (.cells cs 288 (0, 0))) (ho : w'.ownsRow lo 288 2 v' (n + 1) (xs ++ [.int .i64 k, .slice (some ⟨gb, 0, none⟩) 40 cb])) (hc : Chg v.ownBlock.toList w w')
  (hb : Bs w (some ⟨gb, 0, none⟩) b) (hb4 : b.length = 40) (hbt : Bt w gb) : VRow w' lo v' (l ++ [(k, b)]) := by
 subst hn
 have hne : ∀ {g}, Bt w g → g ∉ v.ownBlock.toList := by
  rintro g ⟨cs2, h2⟩ hm
  obtain ⟨cs, h1⟩ := hv g (by simpa using hm)
  rw [h1] at h2
  cases h2
 have keepB : ∀ {g}, Bt w g → Bt w' g := fun {g} h => by
  obtain ⟨cs, h2⟩ := id h
  exact ⟨cs, hc.heap h2 (hne h)⟩
 refine ⟨_, by rw [List.length_append]; exact ho, fun i hi => ?_⟩
 by_cases h : i < l.length
 ·obtain ⟨h0, g, c, h1, h2, h3, h4⟩ := hx i h
  rw [List.getElem_append_left h]
  exact ⟨by rw [List.getElem?_append_left (by omega)]; exact h0, g, c, by rw [List.getElem?_append_left (by omega)]; exact h1, h2.chgT hc (hne h4), h3, keepB h4⟩
 ·have hi2 : i = l.length := by simp at hi; omega
  subst hi2
  have e : (l ++ [(k, b)])[l.length]'(by simp) = (k, b) := by simp
  rw [e]
  exact ⟨by rw [← hl]; simp, gb, cb, by rw [← hl, List.getElem?_append_right (by omega)]; simp, hb.chgT hc (hne hbt), hb4, keepB hbt⟩
theorem getL_memk {L : List (Int × Value)} {k : Int} {v : Value} (h : getL L k = some v) : (k, v) ∈ L := by
 induction L with
 | nil => cases h
 | cons p l ih =>
  simp only [getL] at h
  split at h
  ·rename_i hk
   injection h with h
   subst hk h
   exact List.mem_cons_self
  ·exact List.mem_cons_of_mem _ (ih h)
def ApL (L : List (Int × Value)) : Prop := ∀ b c v u g, b ≠ c → getL L b = some v → getL L c = some u → v.ownBlock = some g → u.ownBlock ≠ some g
def addV (vs : Int → List (Int × List UInt8)) (b : Int) (x : Int × List UInt8) : Int → List (Int × List UInt8) := fun k => if k = b then vs k ++ [x] else vs k
def applyV (vs : Int → List (Int × List UInt8)) (k : Int) (l : List (Int × List UInt8)) : Int → List (Int × List UInt8) := l.foldl (fun vs p => addV vs p.1 (k, p.2)) vs
theorem applyV_take (vs : Int → List (Int × List UInt8)) (k : Int) (l : List (Int × List UInt8)) (j : Nat) (h : j < l.length) : applyV vs k (l.take (j + 1)) = addV (applyV vs k (l.take j)) l[j].1 (k, l[j].2) := by
 unfold applyV
 rw [List.take_succ_eq_append_getElem h, List.foldl_append]
 rfl
theorem addV_len (vs : Int → List (Int × List UInt8)) (b : Int) (x : Int × List UInt8) (c : Int) : (addV vs b x c).length ≤ (vs c).length + 1 := by
 unfold addV
 split <;> simp
theorem applyV_len (vs : Int → List (Int × List UInt8)) (k : Int) (l : List (Int × List UInt8)) (c : Int) : (applyV vs k l c).length ≤ (vs c).length + l.length := by
 induction l generalizing vs with
 | nil => exact Nat.le_refl _
 | cons p l ih =>
  have h1 := ih (addV vs p.1 (k, p.2))
  have h2 := addV_len vs p.1 (k, p.2) c
  show (applyV (addV vs p.1 (k, p.2)) k l c).length ≤ _
  simp only [List.length_cons]
  omega
def Cv (lo X rx : Nat) (w w' : World) : Prop := ∃ T, Chg T w w' ∧ ∀ x ∈ T, x < w.heap.size → x = X ∨ x = rx ∨ (lo ≤ x ∧ ∃ cs, w.heap[x]? = some (.cells cs 288 (0, 0)))
theorem Cv.of_chg {lo X rx : Nat} {w w' : World} (h : Chg [] w w') : Cv lo X rx w w' := ⟨[], h, fun x hx => by cases hx⟩
theorem Cv.trans {lo X rx : Nat} {a b c : World} (h : Cv lo X rx a b) (k : Cv lo X rx b c) : Cv lo X rx a c := by
 obtain ⟨T, h1, h2⟩ := h
 obtain ⟨U, k1, k2⟩ := k
 refine ⟨T ++ U, (h1.mono (fun x hx _ => List.mem_append_left _ hx)).trans k1 (fun x hx _ => List.mem_append_right _ hx), fun x hx hlt => ?_⟩
 by_cases hT : x ∈ T
 ·exact h2 x hT hlt
 ·rcases List.mem_append.1 hx with h | h
  ·exact absurd h hT
  ·rcases k2 x h (Nat.lt_of_lt_of_le hlt h1.size) with e | e | ⟨e, cs, hh⟩
   ·exact Or.inl e
   ·exact Or.inr (Or.inl e)
   ·exact Or.inr (Or.inr ⟨e, cs, by rw [← h1.block x hlt hT]; exact hh⟩)
theorem Cv.then {lo X rx : Nat} {a b c : World} (h : Cv lo X rx a b) (k : Chg [] b c) : Cv lo X rx a c := h.trans (Cv.of_chg k)
theorem Cv.size {lo X rx : Nat} {w w' : World} (h : Cv lo X rx w w') : w.heap.size ≤ w'.heap.size := by obtain ⟨T, h1, _⟩ := h; exact h1.size
theorem Cv.av {lo X rx : Nat} {w : World} {T ts : List Nat} {csX : Array Value} {L : List (Int × Value)} (hT : ∀ x ∈ T, x < w.heap.size → x = X ∨ x = rx ∨ (lo ≤ x ∧ ∃ cs, w.heap[x]? = some (.cells cs 288 (0, 0)))) (hX : w.heap[X]? = some (.cells csX 270 (0, 0))) (hr : MapAt w rx L) (h1 : 270 ∉ ts) (h2 : 288 ∉ ts) : Av w T ts := by
 intro x hx cs t fr hh
 rcases hT x hx (heap_lt hh) with rfl | rfl | ⟨-, cs2, h3⟩
 ·rw [hX] at hh; cases hh; exact h1
 ·exact absurd rfl (map_cells hr hh)
 ·rw [h3] at hh; cases hh; exact h2
theorem Cv.map {lo X rx r : Nat} {w : World} {T : List Nat} {csX : Array Value} {L : List (Int × Value)} (hT : ∀ x ∈ T, x < w.heap.size → x = X ∨ x = rx ∨ (lo ≤ x ∧ ∃ cs, w.heap[x]? = some (.cells cs 288 (0, 0)))) (hX : w.heap[X]? = some (.cells csX 270 (0, 0))) (hr : MapAt w r L) (h : r ≠ rx) : r ∉ T := by
 intro hm
 rcases hT r hm hr.lt with e | e | ⟨-, cs2, h3⟩
 ·exact map_cells hr hX e
 ·exact h e
 ·exact map_cells hr h3 rfl
theorem VerG.added {wx wA wB : World} {lo X rx g cap gb cb n : Nat} {last b k : Int} {L : List (Int × Value)} {vs : Int → List (Int × List UInt8)} {v : Value} {d : List UInt8} {xs : List Value} (h : VerG wx lo X rx last L vs) (hap : ApL L) (hkeys : ∀ p ∈ L, 0 ≤ p.1 ∧ p.1 < 258) (hgl : getL L b = some v ∨ getL L b = none ∧ v = .slice none 0 0)
  (hown : wx.ownsRow lo 288 2 v n xs) (hx : ∀ i (h : i < (vs b).length), xs[i * 2]? = some (.int .i64 (vs b)[i].1) ∧ ∃ g c, xs[i * 2 + 1]? = some (.slice (some ⟨g, 0, none⟩) 40 c) ∧ Bs wx (some ⟨g, 0, none⟩) (vs b)[i].2 ∧ (vs b)[i].2.length = 40 ∧ Bt wx g) (hn : n = (vs b).length)
  (hA : wA.ownsRow lo 288 2 (.slice (some ⟨g, 0, none⟩) (n + 1) cap) (n + 1) (xs ++ [.int .i64 k, .slice (some ⟨gb, 0, none⟩) 40 cb])) (kA : Chg v.ownBlock.toList wx wA) (hg : v.ownBlock = some g ∨ g = wx.heap.size)
  (hB : Bs wx (some ⟨gb, 0, none⟩) d) (hd : d.length = 40) (hBt : Bt wx gb) (mB : MapAt wB rx (putL L b (.slice (some ⟨g, 0, none⟩) (n + 1) cap))) (kB : Chg [rx] wA wB) (hs : ∀ c, (vs c).length < 1000000) :
  VerG wB lo X rx last (putL L b (.slice (some ⟨g, 0, none⟩) (n + 1) cap)) (addV vs b (k, d)) ∧ ApL (putL L b (.slice (some ⟨g, 0, none⟩) (n + 1) cap)) ∧ Cv lo X rx wx wB := by
 have hvb : ∀ g, v.ownBlock = some g → lo ≤ g ∧ ∃ cs, wx.heap[g]? = some (.cells cs 288 (0, 0)) := fun g hg => by
  obtain ⟨h1, cs, h2⟩ := own_elem hown hg
  exact ⟨h1, cs, h2⟩
 have mA : MapAt wA rx L := h.m.keep kA (fun hm => by
  obtain ⟨-, cs, h2⟩ := hvb rx (by simpa using hm)
  exact map_cells h.m h2 rfl)
 have hXv : X ∉ v.ownBlock.toList := own_block_ne hown h.x (by decide)
 have hXA := kA.heap h.x hXv
 have avA : Av wx v.ownBlock.toList [5] := fun x hx cs t fr hh => by
  obtain ⟨-, cs2, h2⟩ := hvb x (by simpa using hx)
  rw [h2] at hh; cases hh; simp
 have avB : Av wA [rx] [5] := av_map mA _
 refine ⟨⟨kB.heap hXA (by simpa using (map_cells mA hXA).symm), mB, fun c c0 c1 => ?_, fun c => ?_⟩, ?_, ?_⟩
 ·rw [getL_put]
  by_cases hc : c = b
  ·subst hc
   rw [if_pos rfl]
   refine Or.inr ⟨_, rfl, ?_, by simp [addV]⟩
   have hr : VRow wA lo (.slice (some ⟨g, 0, none⟩) (n + 1) cap) (vs c ++ [(k, d)]) := VRow.push hx (by have := hown.1; omega) hn (fun g hg => (hvb g hg).2) hA kA hB hd hBt
   have hr2 := hr.keep kB avB (fun g' hg' hm => by
    obtain ⟨cs, h2⟩ := hr.block g' hg'
    rw [List.mem_singleton] at hm
    subst hm
    exact map_cells mA h2 rfl)
   simpa [addV] using hr2
  ·rw [if_neg hc]
   rcases h.row c c0 c1 with ⟨e1, e2⟩ | ⟨u, e1, e2, e3⟩
   ·exact Or.inl ⟨e1, by simp [addV, hc, e2]⟩
   ·refine Or.inr ⟨u, e1, ?_, by simp [addV, hc, e3]⟩
    have hr := e2.keep kA avA (fun g' hg' hm => by
     have hm' : v.ownBlock = some g' := by simpa using hm
     rcases hgl with e | ⟨-, rfl⟩
     ·exact hap c b u v g' hc e1 e hg' hm'
     ·cases hm')
    have hr2 := hr.keep kB avB (fun g' hg' hm => by
     obtain ⟨cs, h2⟩ := hr.block g' hg'
     rw [List.mem_singleton] at hm
     subst hm
     exact map_cells mA h2 rfl)
    simpa [addV, hc] using hr2
 ·have := addV_len vs b (k, d) c
  have := hs c
  omega
 ·intro c1 c2 v1 v2 gg hne h1 h2 e1 e2
  rw [getL_put] at h1 h2
  have key : ∀ c u gg, c ≠ b → getL L c = some u → u.ownBlock = some gg → g ≠ gg := by
   rintro c u gg hc hu hug rfl
   rcases hg with hg | hg
   ·rcases hgl with e | ⟨-, rfl⟩
    ·exact hap c b u v g hc hu e hug hg
    ·cases hg
   ·by_cases hr : 0 ≤ c ∧ c < 258
    ·rcases h.row c hr.1 hr.2 with ⟨x1, -⟩ | ⟨u', x1, x2, -⟩
     ·rw [x1] at hu; cases hu
     ·rw [x1] at hu; cases hu
      obtain ⟨cs, h5⟩ := x2.block g hug
      have := heap_lt h5
      omega
    ·exact absurd (hkeys _ (getL_memk hu)) hr
  by_cases hc1 : c1 = b
  ·rw [if_pos hc1] at h1
   cases h1
   have hc2 : c2 ≠ b := fun e => hne (hc1.trans e.symm)
   rw [if_neg hc2] at h2
   have e1' : g = gg := Option.some.inj e1
   exact key c2 v2 gg hc2 h2 e2 e1'
  ·rw [if_neg hc1] at h1
   by_cases hc2 : c2 = b
   ·rw [if_pos hc2] at h2
    cases h2
    have e2' : g = gg := Option.some.inj e2
    exact key c1 v1 gg hc1 h1 e1 e2'
   ·rw [if_neg hc2] at h2
    exact hap c1 c2 v1 v2 gg hne h1 h2 e1 e2
 ·refine ⟨v.ownBlock.toList ++ [rx], (kA.mono (fun x hx _ => List.mem_append_left _ hx)).trans kB (fun x hx _ => List.mem_append_right _ hx), fun x hx _ => ?_⟩
  rcases List.mem_append.1 hx with h | h
  ·exact Or.inr (Or.inr (hvb x (by simpa using h)))
  ·exact Or.inr (Or.inl (by simpa using h))
theorem still_of_quiet {P : Program} {ops : Array Oper} {w : World} {Q : Act → Prop} : ∀ (l : List Oper) (a : Act), wpQuiet P ops (fun w' => w' = w) Q l a → wpStill P ops w Q l a
 | [], _, h => h
 | o :: l, a, h => by
  unfold wpQuiet at h
  unfold wpStill
  by_cases hw : Region.wanted o (yielded ops a.tmps) = true
  ·rw [if_pos hw] at h ⊢
   obtain ⟨v, h1, h2⟩ := h
   have h3 := h1 w rfl
   unfold Oper.quietAt at h3
   unfold Oper.still
   generalize (execOp a.eval o).run P w = r at h3
   unfold Oper.quietUpon at h3
   unfold Oper.stillUpon
   split at h3
   ·obtain ⟨rfl, rfl⟩ := h3; exact ⟨rfl, still_of_quiet l _ h2⟩
   ·obtain ⟨rfl, rfl⟩ := h3; exact ⟨rfl, still_of_quiet l _ h2⟩
   ·obtain ⟨rfl, h4⟩ := h3; exact ⟨rfl, v, h4, still_of_quiet l _ h2⟩
   ·exact h3.elim
  ·rw [if_neg hw] at h ⊢
   exact still_of_quiet l _ h
theorem region_tail {P : Program} {id : Nat} {Q : Exit → Act → World → Prop} {a : Act} {w : World} {l : List Oper} (n : Nat) (hm : P.follows .mixedOrders = true) (hB : Region.lexTailB .any l.toArray n = true)
  (h : wpQuiet P l.toArray (fun w' => w' = w.drew) (fun a' => wpList P l.toArray Q (l.drop n) a' w.drew) (l.take n) a) : (Code.region id l.toArray true).wp P Q a w :=
 wp_region_still_tail n hm hB (still_of_quiet _ _ h)

set_option maxRecDepth 100000 in
set_option maxHeartbeats 4000000 in
theorem bcheck_one (w : World) {lo : Nat} {v : Value} {k num : Int} {l : List (Int × List UInt8)} (h : TxOne w lo v k l) (hn0 : 1 ≤ num) (hn1 : num ≤ 1099511627776) (hk0 : 1 ≤ k) (hk1 : k ≤ 1099511627776) (hl0 : 0 < l.length) (hl : l.length ≤ 16) (hr : Rise l) (hk : ∀ x ∈ l, 0 ≤ x.1 ∧ x.1 < 258) :
  Calls Tryz.prog 195 #[.agg #[.int .i64 num, v]] w fun e w' => e = .returned (.int .i64 0) ∧ Chg [] w w' := by
 have k0 : Chg [] w (w.alloc (.cells #[.int .i64 num, v] 108)) := Chg.alloc w _
 have K0 := heap_new w (.cells #[.int .i64 num, v] 108)
 have h1 := h.keep k0
 obtain ⟨g, c, pb, cb, rfl, hc1, -, -, c0, c1, hcb, hp⟩ := h1.open_
 have b0 : (w.alloc (.cells #[.int .i64 num, .slice (some ⟨g, 0, none⟩) 1 c] 108)).cell? ⟨w.heap.size, 0, none⟩ = some (.int .i64 num) := cell_is K0 0 rfl
 have b1 : (w.alloc (.cells #[.int .i64 num, .slice (some ⟨g, 0, none⟩) 1 c] 108)).cell? ⟨w.heap.size, 1, none⟩ = some (.slice (some ⟨g, 0, none⟩) 1 c) := cell_is K0 1 rfl
 have n0 : decide (num < 1) = false := decide_eq_false (by omega)
 have n1 : decide (1099511627776 < num) = false := decide_eq_false (by omega)
 have n2 : decide (16 < (l.length : Int)) = false := decide_eq_false (by omega)
 have n3 : decide (33 < ((1 + l.length : Nat) : Int)) = false := decide_eq_false (by omega)
 have n3' : decide (33 < 1 + (l.length : Int)) = false := decide_eq_false (by omega)
 have HO := Lib.hid (order_one _ h1 hk0 hk1 hl0 (by omega) hr)
 have HB := Lib.hid (fun w1 (kk : Chg [] (w.alloc (.cells #[.int .i64 num, .slice (some ⟨g, 0, none⟩) 1 c] 108)) w1) => blocks_one w1 (num := num) (h1.keep kk) (by omega))
 have HC := Lib.hid (fun w1 (kk : Chg [] (w.alloc (.cells #[.int .i64 num, .slice (some ⟨g, 0, none⟩) 1 c] 108)) w1) => contputs_200 w1 (hp.keep0 kk) hk (by omega))
 clear h h1 hp hr hk
 go_enter Tryz.func195, Tryz.ntmps195
 go_wp2_with fail
 generalize w.alloc (.cells #[.int .i64 num, .slice (some ⟨g, 0, none⟩) 1 c] 108) = w1 at *
 generalize hz : w.heap.size = z at *
 refine HO.out.mono ?_
 rintro e w2 ⟨rfl, k2⟩
 have b02 := k2.cell b0 (by simp)
 have b12 := k2.cell b1 (by simp)
 go_wp2_with fail
 refine (HB.out w2 k2).mono ?_
 rintro e w3 ⟨rfl, k3⟩
 have k23 := k2.then k3
 have b13 := k23.cell b1 (by simp)
 have c03 := k23.cell c0 (by simp)
 have c13 := k23.cell c1 (by simp)
 clear HO HB
 go_wp2_with fail
 go_loopw [3, 4, 39] (fun _ _ i wr => (i = .int .i64 0 ∧ wr = w3) ∨ (i = .int .i64 1 ∧ Chg [] w1 wr)) (fun _ _ i _ => 1 - (intOf i).toNat)
 case atStart => exact Or.inl ⟨rfl, rfl⟩
 case round =>
  rcases hrel with ⟨rfl, rfl⟩ | ⟨rfl, kr⟩
  ·have ka : Chg [] wr (wr.alloc (.cells #[.int .i64 k, .slice pb l.length cb] 185)) := Chg.alloc wr _
   have A0 := heap_new wr (.cells #[.int .i64 k, .slice pb l.length cb] 185)
   have HC4 := Lib.hid (HC.out _ ((k23.then ka).drew))
   go_wp2_with fail
   generalize wr.alloc (.cells #[.int .i64 k, .slice pb l.length cb] 185) = w4 at *
   generalize wr.heap.size = z4 at *
   have a1 : w4.cell? ⟨z4, 1, none⟩ = some (.slice pb l.length cb) := cell_is A0 1 rfl
   have a1d : w4.drew.cell? ⟨z4, 1, none⟩ = some (.slice pb l.length cb) := a1
   refine region_tail 24 (by kernel_rfl) (by kernel_rfl) ?_
   simp only [List.take_succ_cons, List.take_zero, List.drop_succ_cons, List.drop_zero]
   repeat (go_big_quiet_step (fail))
   refine wpQuiet_nil ?_
   go_wp2_with fail
   refine HC4.out.mono ?_
   rintro e w6 ⟨rfl, k6⟩
   have kf := ((k23.then ka).drew).then k6
   clear HC4 HC k6
   go_wp2_with fail
   go_roundw
   case rel => exact Or.inr ⟨rfl, kf⟩
   case measure => decide
  ·go_wp2_with fail
   go_ret
   exact ⟨rfl, k0.then kr⟩

def leB (v n : Nat) : List UInt8 := (List.range n).map fun i => UInt8.ofNat (v / 256 ^ i % 256)
theorem leB_length (v n : Nat) : (leB v n).length = n := by simp [leB]
def rowL (n v j : Nat) : Array Value := ((List.range n).map fun i => Value.int .u8 (if i < j then ((v / 256 ^ i % 256 : Nat) : Int) else 0)).toArray
theorem rowL_zero (n v u : Nat) : rowL n v 0 = rowL n u 0 := by simp [rowL]
theorem rowL_get (n v j i : Nat) (h : i < n) : (rowL n v j)[i]? = some (.int .u8 (if i < j then ((v / 256 ^ i % 256 : Nat) : Int) else 0)) := by simp [rowL, h]
theorem rowL_set (n v j : Nat) (_h : j < n) : (rowL n v j).setIfInBounds j (.int .u8 ((v / 256 ^ j % 256 : Nat) : Int)) = rowL n v (j + 1) := by
 apply Array.ext
 ·simp [rowL]
 ·intro i h1 h2
  have hi : i < n := by simpa [rowL] using h2
  by_cases e : j = i
  ·subst e
   simp [rowL]
  ·rw [Array.getElem_setIfInBounds (by simpa [rowL] using hi), if_neg e]
   have : (i < j + 1) = (i < j) := by simp; omega
   simp [rowL, this]
theorem rowL_full (n v : Nat) : rowL n v n = (Lib.byteCells (leB v n)).toArray := by
 apply Array.ext
 ·simp [rowL, Lib.byteCells, leB]
 ·intro i h1 h2
  have hi : i < n := by simpa [rowL] using h1
  simp [rowL, Lib.byteCells, leB, hi]
set_option maxRecDepth 100000 in
set_option maxHeartbeats 1000000 in
theorem bput_any (w : World) (v n : Nat) (hn : n ≤ 8) (_hv : v < 18446744073709551616)
  (hmk : ∀ w : World, (Instr.makeSlice 47 (.int .i64 n) (.int .i64 n)).run Tryz.prog w = .ok (.slice (some ⟨w.heap.size, 0, none⟩) n n) (w.alloc (.cells (rowL n 0 0) 5))) :
  Calls Tryz.prog 193 #[.int .u64 v, .int .i64 n] w fun e w' => ∃ g, e = .returned (.slice (some ⟨g, 0, none⟩) n n) ∧ Chg [] w w' ∧ w'.heap[g]? = some (.cells (rowL n v n) 5 (0, 0)) ∧ w.heap.size ≤ g := by
 go_enter Tryz.func193, Tryz.ntmps193
 have g0 : (w.alloc (.cells (rowL n 0 0) 5)).heap[w.heap.size]? = some (.cells (rowL n v 0) 5 (0, 0)) := by
  rw [rowL_zero n v 0]
  exact heap_new w _
 have k0 : Chg [] w (w.alloc (.cells (rowL n 0 0) 5)) := Chg.alloc w _
 go_wp2_with fail
 generalize w.alloc (.cells (rowL n 0 0) 5) = w1 at *
 generalize hz : w.heap.size = z at *
 go_loopw [11] (fun i wr => ∃ j : Nat, j ≤ n ∧ i = .int .i64 j ∧ Chg [] w wr ∧ wr.heap[z]? = some (.cells (rowL n v j) 5 (0, 0))) (fun i _ => n - (intOf i).toNat)
 case atStart => exact ⟨0, by omega, rfl, k0, g0⟩
 case round =>
  obtain ⟨j, hj, rfl, kc, gj⟩ := hrel
  by_cases hlt : j < n
  ·have cj : wr.cell? ⟨z, j, none⟩ = some (.int .u8 0) := by
    refine cell_is gj j ?_
    rw [rowL_get n v j j hlt, if_neg (Nat.lt_irrefl j)]
   have fj := unfrozen gj j
   clear g0 k0
   go_wp2_with fail
   have e : (v : Int) / 2 ^ (8 * j) % 256 = ((v / 256 ^ j % 256 : Nat) : Int) := by
    have h2 : (2 : Int) ^ (8 * j) = ((256 ^ j : Nat) : Int) := by
     rw [Int.pow_mul, Int.natCast_pow]
     rfl
    rw [h2]
    rfl
   refine ⟨⟨j + 1, by omega, by simp, kc.new_set (by omega) j _, ?_⟩, by simp [intOf]; omega⟩
   rw [e]
   exact heap_set gj j _ (rowL_set n v j hlt)
  ·obtain rfl : j = n := by omega
   go_wp2_with fail
   go_ret
   exact ⟨z, rfl, kc, gj, by omega⟩
theorem bput_bs (w : World) (v n : Nat) (hn : n ≤ 8) (hv : v < 18446744073709551616)
  (hmk : ∀ w : World, (Instr.makeSlice 47 (.int .i64 n) (.int .i64 n)).run Tryz.prog w = .ok (.slice (some ⟨w.heap.size, 0, none⟩) n n) (w.alloc (.cells (rowL n 0 0) 5))) :
  Calls Tryz.prog 193 #[.int .u64 v, .int .i64 n] w fun e w' => ∃ g, e = .returned (.slice (some ⟨g, 0, none⟩) n n) ∧ Chg [] w w' ∧ Bs w' (some ⟨g, 0, none⟩) (leB v n) ∧ w.heap.size ≤ g := by
 refine (bput_any w v n hn hv hmk).mono ?_
 rintro e w' ⟨g, rfl, hc, hg, hl⟩
 refine ⟨g, rfl, hc, ?_, hl⟩
 rw [rowL_full] at hg
 exact Bs.row hg
set_option maxRecDepth 100000 in
theorem put32_any (w : World) (v : Nat) (hv : v < 4294967296) : Calls Tryz.prog 130 #[.int .u32 v] w fun e w' => ∃ g, e = .returned (.slice (some ⟨g, 0, none⟩) 4 4) ∧ Chg [] w w' ∧ Bs w' (some ⟨g, 0, none⟩) (leB v 4) ∧ w.heap.size ≤ g := by
 have HP := Lib.hid (bput_bs w v 4 (by omega) (by omega) (fun w => by kernel_rfl))
 go_enter Tryz.func130, Tryz.ntmps130
 go_wp2_with fail
 refine HP.out.mono ?_
 rintro e w' ⟨g, rfl, h1, h2, h3⟩
 go_wp2_with fail
 go_ret
 exact ⟨g, rfl, h1, h2, h3⟩
set_option maxRecDepth 100000 in
theorem put64_any (w : World) (v : Nat) (hv : v < 18446744073709551616) : Calls Tryz.prog 127 #[.int .u64 v] w fun e w' => ∃ g, e = .returned (.slice (some ⟨g, 0, none⟩) 8 8) ∧ Chg [] w w' ∧ Bs w' (some ⟨g, 0, none⟩) (leB v 8) ∧ w.heap.size ≤ g := by
 have HP := Lib.hid (bput_bs w v 8 (by omega) hv (fun w => by kernel_rfl))
 go_enter Tryz.func127, Tryz.ntmps127
 go_wp2_with fail
 refine HP.out.mono ?_
 rintro e w' ⟨g, rfl, h1, h2, h3⟩
 go_wp2_with fail
 go_ret
 exact ⟨g, rfl, h1, h2, h3⟩
def crcBit (r : Int) : Int := bits .xor .u32 (r / 2) (bits .and .u32 2197175160 (-(bits .and .u32 r 1) % 4294967296))
def crcBits : Nat → Int → Int
 | 0, r => r
 | n + 1, r => crcBit (crcBits n r)
def crcByte (r : Int) (c : UInt8) : Int := crcBits 8 (bits .xor .u32 r (c.toNat : Int))
def crcRun (r : Int) (l : List UInt8) : Int := l.foldl crcByte r
def crcI (l : List UInt8) : Int := bits .xor .u32 IntKind.u32.max (crcRun (bits .xor .u32 IntKind.u32.max 0) l)
theorem wrap_u32 (n : Int) : 0 ≤ IntKind.u32.wrap n ∧ IntKind.u32.wrap n < 4294967296 := by
 have : IntKind.u32.wrap n = n % 4294967296 := by simp [IntKind.wrap, IntKind.signed, IntKind.bits]
 rw [this]; omega
theorem bits_u32 (op : BinOp) (x y : Int) : 0 ≤ bits op .u32 x y ∧ bits op .u32 x y < 4294967296 := wrap_u32 _
theorem crcI_ge (l : List UInt8) : 0 ≤ crcI l ∧ crcI l < 4294967296 := bits_u32 _ _ _
def crcN (l : List UInt8) : Nat := (crcI l).toNat
theorem crcN_lt (l : List UInt8) : crcN l < 4294967296 := by have := crcI_ge l; unfold crcN; omega
theorem crcN_eq (l : List UInt8) : ((crcN l : Nat) : Int) = crcI l := by have := crcI_ge l; unfold crcN; omega
set_option maxRecDepth 100000 in
set_option maxHeartbeats 2000000 in
theorem cadd_crc (w : World) {C : Nat} {pa : Option Addr} {m c : Nat} {l : List UInt8} (hC : w.heap[C]? = some (.cells #[.int .u32 0] 356 (0, 0))) (hb : Bs w pa l) (hl : l.length = m) (hm : m ≤ 1000000) :
  Calls Tryz.prog 255 #[.pointer (some ⟨C, 0, none⟩), .slice pa m c] w fun e w' => e = .returned (.pointer (some ⟨C, 0, none⟩)) ∧ Chg [C] w w' ∧ w'.heap[C]? = some (.cells #[.int .u32 (crcI l)] 356 (0, 0)) := by
 have c0 : w.cell? ⟨C, 0, none⟩ = some (.int .u32 0) := cell_is hC 0 rfl
 have f0 := unfrozen hC 0
 have HC := Lib.hid hC
 have HB := Lib.hid hb
 clear hC hb
 go_enter Tryz.func255, Tryz.ntmps255
 go_wp2_with fail
 go_loopw [5, 7, 17] (fun r _ i wr => ∃ j : Nat, j ≤ m ∧ i = .int .i64 j ∧ r = .int .u32 (crcRun (bits .xor .u32 IntKind.u32.max 0) (l.take j)) ∧ w = wr) (fun _ _ i _ => m - (intOf i).toNat)
 case atStart => exact ⟨0, by omega, rfl, rfl, rfl⟩
 case round =>
  obtain ⟨j, hj, rfl, rfl, rfl⟩ := hrel
  by_cases hlt : j < m
  ·obtain ⟨b, o, rfl, cj⟩ : ∃ b o, pa = some ⟨b, o, none⟩ ∧ w.cell? ⟨b, o + j, none⟩ = some (.int .u8 (l[j]'(by omega)).toNat) := by
    rcases HB.out with h | ⟨b, o, e, _, h⟩
    ·rw [h] at hl; simp at hl; omega
    ·exact ⟨b, o, e, h j (by omega)⟩
   have htk : l.take (j + 1) = l.take j ++ [l[j]'(by omega)] := by rw [List.take_succ_eq_append_getElem]
   have hrun : crcRun (bits .xor .u32 IntKind.u32.max 0) (l.take (j + 1)) = crcByte (crcRun (bits .xor .u32 IntKind.u32.max 0) (l.take j)) (l[j]'(by omega)) := by rw [htk]; unfold crcRun; rw [List.foldl_append]; rfl
   have HR := Lib.hid hrun
   clear hrun htk
   generalize l[j]'(by omega) = y at *
   generalize crcRun (bits .xor .u32 IntKind.u32.max 0) (l.take j) = r at *
   go_wp2_with fail
   go_loopw [5, 25] (fun q i wr => ∃ k : Nat, k ≤ 8 ∧ i = .int .i64 k ∧ q = .int .u32 (crcBits k (bits .xor .u32 r (y.toNat : Int))) ∧ w = wr) (fun _ i _ => 8 - (intOf i).toNat)
   case atStart =>
    have hy : (y.toNat : Int) % 4294967296 = y.toNat := by have := y.toNat_lt; omega
    exact ⟨0, by omega, rfl, by rw [hy]; rfl, rfl⟩
   case round =>
    obtain ⟨k, hk, rfl, rfl, rfl⟩ := hrel
    by_cases hlk : k < 8
    ·generalize hq : crcBits k (bits .xor .u32 r (y.toNat : Int)) = q at *
     go_wp2_with fail
     exact ⟨⟨k + 1, by omega, by simp, by rw [← hq]; rfl, trivial⟩, by simp [intOf]; omega⟩
    ·obtain rfl : k = 8 := by omega
     generalize hq : crcBits 8 (bits .xor .u32 r (y.toNat : Int)) = q at *
     go_wp2_with fail
     exact ⟨⟨j + 1, by omega, by simp, by rw [HR.out, ← hq]; rfl, trivial⟩, by simp [intOf]; omega⟩
  ·obtain rfl : j = m := by omega
   have ht : l.take j = l := List.take_of_length_le (by omega)
   rw [ht] at *
   go_wp2_with fail
   go_ret
   exact ⟨rfl, Chg.set w C 0 _, heap_set HC.out 0 _ rfl⟩
theorem cnew_crc (w : World) : Calls Tryz.prog 254 #[] w fun e w' => e = .returned (.pointer (some ⟨w.heap.size, 0, none⟩)) ∧ w' = w.alloc (.cells #[.int .u32 0] 356) := by
 go_enter Tryz.func254, Tryz.ntmps254
 go_wp2_with fail
 go_ret
 exact ⟨rfl, rfl⟩
theorem cval_crc (w : World) {C : Nat} {r : Int} (hC : w.heap[C]? = some (.cells #[.int .u32 r] 356 (0, 0))) : Calls Tryz.prog 256 #[.pointer (some ⟨C, 0, none⟩)] w fun e w' => e = .returned (.int .u32 r) ∧ w' = w := by
 have c0 : w.cell? ⟨C, 0, none⟩ = some (.int .u32 r) := cell_is hC 0 rfl
 clear hC
 go_enter Tryz.func256, Tryz.ntmps256
 go_wp2_with fail
 go_ret
 exact ⟨rfl, rfl⟩
set_option maxRecDepth 100000 in
theorem crc_of (w : World) {pa : Option Addr} {m c : Nat} {l : List UInt8} (hb : Bs w pa l) (hl : l.length = m) (hm : m ≤ 1000000) :
  Calls Tryz.prog 230 #[.slice pa m c] w fun e w' => e = .returned (.int .u32 (crcN l : Nat)) ∧ Chg [] w w' := by
 have HB := Lib.hid hb
 clear hb
 rw [crcN_eq]
 go_enter Tryz.func230, Tryz.ntmps230
 go_wp2_with fail
 refine (cnew_crc w).mono ?_
 rintro e w1 ⟨rfl, rfl⟩
 have k1 : Chg [] w (w.alloc (.cells #[.int .u32 0] 356)) := Chg.alloc w _
 have h1 := heap_new w (.cells #[.int .u32 0] 356)
 have HB1 := Lib.hid (HB.out.chg k1)
 generalize w.alloc (.cells #[.int .u32 0] 356) = w1 at *
 generalize hz : w.heap.size = C at *
 go_wp2_with fail
 refine (cadd_crc w1 h1 HB1.out hl hm).mono ?_
 rintro e w2 ⟨rfl, k2, h2⟩
 go_wp2_with fail
 refine (cval_crc w2 h2).mono ?_
 rintro e w3 ⟨rfl, rfl⟩
 go_wp2_with fail
 go_ret
 exact ⟨rfl, k1.trans k2 (fun x hx hlt => by simp at hx; omega)⟩
set_option maxRecDepth 100000 in
set_option maxHeartbeats 1000000 in
theorem bgrow_nil (w : World) {k : Nat} (h0 : 0 < k) (h1 : k ≤ 1000000) : Calls Tryz.prog 253 #[.slice none 0 0, .int .i64 k] w fun e w' => ∃ v, e = .returned v ∧ Chg [] w w' ∧ w'.ownsRow w.heap.size 5 1 v 0 (Lib.byteCells []) := by
 obtain ⟨i, hi0, hz, hz1, hz2⟩ := info_parts inf5c
 have hr := fun ty => run_append_nil_zeros (P := Tryz.prog) w 47 3 ty 5 i (.int .u8 0) .i64 .i64 ty23 (by kernel_rfl) hi0 hz k h0 (by omega) (by omega) (by rw [hz2]; omega)
 have hge := grownCap_ge w k 0 5
 have hle := grownCap_le_maxLen w k 0 5 (by unfold maxLen; omega)
 have hsz : (Builtin.zeroCells (Value.int .u8 0).cells k ++ Builtin.zeroCells (Value.int .u8 0).cells (grownCap w k 0 5 - k)).size = grownCap w k 0 5 * 1 := by
  simp only [Array.size_append, size_zeroCells, Value.cells]
  simp
  omega
 generalize (Builtin.zeroCells (Value.int .u8 0).cells k ++ Builtin.zeroCells (Value.int .u8 0).cells (grownCap w k 0 5 - k)) = Z at *
 generalize grownCap w k 0 5 = G at *
 clear hi0 hz hz1 hz2
 have hk : ¬ ((k : Int) < 0) := by omega
 have hk2 : (k : Int) > 0 := by omega
 have hG63 : G ≤ 9223372036854775807 := by unfold maxLen at hle; omega
 have hf : (w.drew.alloc (.cells Z 5)).ownsRow w.heap.size 5 1 (.slice (some ⟨w.heap.size, 0, none⟩) 0 G) 0 (Lib.byteCells []) := by
  refine ⟨rfl, Or.inr ⟨w.heap.size, G, Z, rfl, Nat.le_refl _, heap_new w.drew _, Nat.zero_le _, hle, hsz, by simp [Lib.byteCells]⟩⟩
 have kc : Chg [] w (w.drew.alloc (.cells Z 5)) := (Chg.refl [] w).drew.then_alloc _
 go_enter Tryz.func253, Tryz.ntmps253
 go_wp2_with (at_builtin; refine Lib.wpList_append_run (w := w) rfl (.tmp 20) (.tmp 21) 47 3 rfl (.slice none 0 0) (.int .i64 k) rfl rfl _ _ (hr _) ?_)
 go_ret
 exact ⟨_, rfl, kc, hf⟩
def Rws (w : World) (A o : Nat) (ls : List (List UInt8)) : Prop := ∀ i (h : i < ls.length), ∃ pa c, w.cell? ⟨A, o + i, none⟩ = some (.slice pa ls[i].length c) ∧ Bs w pa ls[i]
theorem Rws.keep {w w' : World} {A o : Nat} {ls : List (List UInt8)} (h : Rws w A o ls) (hc : Chg [] w w') : Rws w' A o ls := fun i hi => by
 obtain ⟨pa, c, h1, h2⟩ := h i hi
 exact ⟨pa, c, hc.cell h1 (by simp), h2.chg hc⟩
theorem flat_take {ls : List (List UInt8)} {j : Nat} (h : j < ls.length) : (ls.take (j + 1)).flatten = (ls.take j).flatten ++ ls[j] := by
 rw [List.take_succ_eq_append_getElem h, List.flatten_append]
 simp
theorem flat_le (ls : List (List UInt8)) (j : Nat) : (ls.take j).flatten.length ≤ ls.flatten.length := by
 conv => rhs; rw [← List.take_append_drop j ls, List.flatten_append, List.length_append]
 omega
def flatN (ls : List (List UInt8)) (j : Nat) : Nat := (ls.take j).flatten.length
theorem flatN_succ {ls : List (List UInt8)} {j : Nat} (h : j < ls.length) : flatN ls (j + 1) = flatN ls j + ls[j].length := by
 unfold flatN
 rw [flat_take h, List.length_append]
theorem flatN_le (ls : List (List UInt8)) (j : Nat) : flatN ls j ≤ flatN ls ls.length := by
 unfold flatN
 rw [List.take_of_length_le (Nat.le_refl ls.length)]
 exact flat_le ls j
set_option maxRecDepth 100000 in
set_option maxHeartbeats 2000000 in
theorem bconcat_any (w : World) {E o cp k n : Nat} {ls : List (List UInt8)} {F : List UInt8} (hs : Rws w E o ls) (hk : ls.length = k) (hk1 : k ≤ 1000) (hF : ls.flatten = F) (hn : F.length = n) (hm0 : 0 < n) (hm : n ≤ 100000) :
  Calls Tryz.prog 229 #[.slice (some ⟨E, o, none⟩) k cp] w fun e w' => ∃ v, e = .returned v ∧ Chg [] w w' ∧ w'.ownsRow w.heap.size 5 1 v n (Lib.byteCells F) := by
 have HS := Lib.hid hs
 have HM0 := Lib.hid hm0
 have HM := Lib.hid hm
 have hN : flatN ls k = n := by unfold flatN; rw [List.take_of_length_le (by omega), hF, hn]
 have HN := Lib.hid hN
 have HF := Lib.hid hF
 have HL := Lib.hid hn
 clear hs hm0 hm hF hn hN
 go_enter Tryz.func229, Tryz.ntmps229
 go_wp2_with fail
 go_loopw [3, 5, 11] (fun s _ i wr => ∃ j : Nat, j ≤ k ∧ i = .int .i64 j ∧ s = .int .i64 (flatN ls j : Nat) ∧ w = wr) (fun _ _ i _ => k - (intOf i).toNat)
 case atStart => exact ⟨0, by omega, rfl, rfl, rfl⟩
 case round =>
  obtain ⟨j, hj, rfl, rfl, rfl⟩ := hrel
  by_cases hlt : j < k
  ·obtain ⟨pa, c, c0, -⟩ := HS.out j (by omega)
   have e1 := flatN_succ (ls := ls) (j := j) (by omega)
   have hb := flatN_le ls (j + 1)
   rw [hk, HN.out] at hb
   have hM := HM.out
   have hwr : wrap64 ((flatN ls j : Int) + (ls[j]'(by omega)).length) = (flatN ls (j + 1) : Nat) := by unfold wrap64; omega
   have hge : ¬ (wrap64 ((flatN ls j : Int) + (ls[j]'(by omega)).length) < 0) := by omega
   have HW := Lib.hid hwr
   clear hwr e1 hb hM
   generalize (ls[j]'(by omega)).length = q at *
   generalize flatN ls j = p at *
   go_wp2_with fail
   exact ⟨⟨j + 1, by omega, by simp, by rw [HW.out], trivial⟩, by simp [intOf]; omega⟩
  ·obtain rfl : j = k := by omega
   rw [HN.out]
   have HG := Lib.hid (bgrow_nil w HM0.out (by have := HM.out; omega))
   go_wp2_with fail
   refine HG.out.mono ?_
   rintro e w1 ⟨v0, rfl, kc, ho0⟩
   have HA := Lib.hid (HS.out.keep kc)
   have hsz := kc.size
   have hn0 : flatN ls 0 = 0 := rfl
   have ho1 : w1.ownsRow w.heap.size 5 1 v0 (flatN ls 0) (Lib.byteCells (ls.take 0).flatten) := ho0
   go_wp2_with fail
   go_loopw [6, 8, 27] (fun v _ i wr => ∃ t : Nat, t ≤ j ∧ i = .int .i64 t ∧ Chg [] w wr ∧ wr.ownsRow w.heap.size 5 1 v (flatN ls t) (Lib.byteCells (ls.take t).flatten)) (fun _ _ i _ => j - (intOf i).toNat)
   case atStart => exact ⟨0, by omega, rfl, kc, ho1⟩
   case round =>
    obtain ⟨t, ht, rfl, k1, o1⟩ := hrel
    by_cases hlt : t < j
    ·obtain ⟨pa, c, c0, hbs⟩ := (HS.out.keep k1) t (by omega)
     have HB := Lib.hid hbs
     have e1 := flatN_succ (ls := ls) (j := t) (by omega)
     have hb := flatN_le ls (t + 1)
     rw [hk, HN.out] at hb
     have hM := HM.out
     have hsum : flatN ls t + (ls[t]'(by omega)).length ≤ 100000 := by omega
     have HSu := Lib.hid hsum
     have HE := Lib.hid e1
     have HT := Lib.hid (flat_take (ls := ls) (j := t) (by omega))
     have hsz1 := k1.size
     have HO := Lib.hid o1
     clear hbs e1 hb hM hsum o1
     generalize hq : ls[t]'(by omega) = q at *
     generalize flatN ls t = p at *
     generalize (ls.take t).flatten = G at *
     go_wp2_with (at_builtin; refine wpList_append_bs rfl (.tmp 31) (.tmp 32) 47 5 rfl ty23 inf5c w.heap.size _ p G rfl HO.out pa q.length c q rfl rfl HB.out (by have := HSu.out; omega) hsz1 ?_; intro v1 w2 h1)
     go_roundw
     case rel => exact ⟨t + 1, by omega, by simp, Chg.of_below (k1.below0.trans h1.2.1), by rw [HE.out, HT.out]; exact h1.1⟩
     case measure => simp [intOf]; omega
    ·obtain rfl : t = j := by omega
     go_wp2_with fail
     go_ret
     rw [HN.out, List.take_of_length_le (by omega), HF.out] at o1
     exact ⟨_, rfl, k1, o1⟩
set_option maxRecDepth 100000 in
theorem within_any (n lo hi : Int) (w : World) : Calls Tryz.prog 231 #[.int .i64 n, .int .i64 lo, .int .i64 hi] w fun e w' => e = .returned (.bool (decide (lo ≤ n) && decide (n ≤ hi))) ∧ w = w' := by
  by_cases h : lo ≤ n
  · have e1 : decide (lo ≤ n) = true := decide_eq_true h
    go_enter Tryz.func231, Tryz.ntmps231
    go_wp2_with fail
    go_ret
    exact ⟨by simp [h], rfl⟩
  · have e1 : decide (lo ≤ n) = false := decide_eq_false h
    go_enter Tryz.func231, Tryz.ntmps231
    go_wp2_with fail
    go_ret
    exact ⟨by simp, rfl⟩
theorem within_yes (n lo hi : Int) (w : World) (h0 : lo ≤ n) (h1 : n ≤ hi) : Calls Tryz.prog 231 #[.int .i64 n, .int .i64 lo, .int .i64 hi] w fun e w' => e = .returned (.bool true) ∧ w = w' := by
  refine (within_any n lo hi w).mono ?_
  rintro e w' ⟨rfl, rfl⟩
  exact ⟨by rw [decide_eq_true h0, decide_eq_true h1]; rfl, rfl⟩
def headF (kind epoch seq lba : Nat) (body : List UInt8) : List UInt8 := [[UInt8.ofNat kind, UInt8.ofNat body.length], leB epoch 4, leB seq 8, leB lba 4, body].flatten
def coverF (kind epoch seq lba : Nat) (body : List UInt8) : List UInt8 := headF kind epoch seq lba body ++ List.replicate (60 - (headF kind epoch seq lba body).length) 0
def encF (kind epoch seq lba : Nat) (body : List UInt8) : List UInt8 := coverF kind epoch seq lba body ++ leB (crcN (coverF kind epoch seq lba body)) 4
theorem headF_length (kind epoch seq lba : Nat) (body : List UInt8) : (headF kind epoch seq lba body).length = 18 + body.length := by
  simp [headF, leB_length]; omega
theorem coverF_length (kind epoch seq lba : Nat) (body : List UInt8) (h : body.length ≤ 40) : (coverF kind epoch seq lba body).length = 60 := by
  rw [coverF, List.length_append, List.length_replicate, headF_length]; omega
theorem encF_length (kind epoch seq lba : Nat) (body : List UInt8) (h : body.length ≤ 40) : (encF kind epoch seq lba body).length = 64 := by
  rw [encF, List.length_append, leB_length, coverF_length _ _ _ _ _ h]
theorem two_len (a b : UInt8) : [a, b].length = 2 := rfl
theorem small_bs {w : World} {g a b : Nat} {t : TypeId} (h : w.heap[g]? = some (.cells #[.int .u8 a, .int .u8 b] t (0, 0))) (ha : a < 256) (hb : b < 256) : Bs w (some ⟨g, 0, none⟩) [UInt8.ofNat a, UInt8.ofNat b] := by
  refine Bs.row (e := t) (fr := (0, 0)) ?_
  rw [h]
  have e1 : (UInt8.ofNat a).toNat = a := by simp; omega
  have e2 : (UInt8.ofNat b).toNat = b := by simp; omega
  simp [Lib.byteCells, e1, e2]
theorem rws_five {w : World} {E : Nat} {t : TypeId} {p0 p1 p2 p3 p4 : Option Addr} {n0 n1 n2 n3 n4 c0 c1 c2 c3 c4 : Nat} {l0 l1 l2 l3 l4 : List UInt8}
    (h : w.heap[E]? = some (.cells #[.slice p0 n0 c0, .slice p1 n1 c1, .slice p2 n2 c2, .slice p3 n3 c3, .slice p4 n4 c4] t (0, 0))) (b0 : Bs w p0 l0) (b1 : Bs w p1 l1) (b2 : Bs w p2 l2) (b3 : Bs w p3 l3) (b4 : Bs w p4 l4)
    (e0 : l0.length = n0) (e1 : l1.length = n1) (e2 : l2.length = n2) (e3 : l3.length = n3) (e4 : l4.length = n4) : Rws w E 0 [l0, l1, l2, l3, l4] := by
  subst e0 e1 e2 e3 e4
  intro i hi
  rcases (show i = 0 ∨ i = 1 ∨ i = 2 ∨ i = 3 ∨ i = 4 by simp at hi; omega) with rfl | rfl | rfl | rfl | rfl
  · exact ⟨p0, c0, cell_is h 0 rfl, b0⟩
  · exact ⟨p1, c1, cell_is h 1 rfl, b1⟩
  · exact ⟨p2, c2, cell_is h 2 rfl, b2⟩
  · exact ⟨p3, c3, cell_is h 3 rfl, b3⟩
  · exact ⟨p4, c4, cell_is h 4 rfl, b4⟩
set_option maxRecDepth 100000 in
set_option maxHeartbeats 8000000 in
theorem fencode_any (w : World) {kind epoch seq lba n c : Nat} {pa : Option Addr} {body : List UInt8} (h1 : 1 ≤ kind) (h2 : kind ≤ 4) (h3 : epoch < 4294967296) (h4 : seq ≤ 1099511627776) (h5 : lba ≤ 1048576) (hn : body.length = n) (h6 : n ≤ 40) (hb : Bs w pa body) :
    Calls Tryz.prog 192 #[.agg #[.int .i64 kind, .int .i64 epoch, .int .i64 seq, .int .i64 lba, .slice pa n c]] w fun e w' => ∃ g c', e = .returned (.tuple #[.slice (some ⟨g, 0, none⟩) 64 c', .int .i64 0]) ∧ Chg [] w w' ∧ w.heap.size ≤ g ∧ Bs w' (some ⟨g, 0, none⟩) (encF kind epoch seq lba body) ∧ Bt w' g := by
  have k1 : Chg [] w (w.alloc (.cells #[.int .i64 kind, .int .i64 epoch, .int .i64 seq, .int .i64 lba, .slice pa n c] 282)) := Chg.alloc w _
  have K1 := heap_new w (.cells #[.int .i64 kind, .int .i64 epoch, .int .i64 seq, .int .i64 lba, .slice pa n c] 282)
  have HK := Lib.hid (show (1 : Int) ≤ kind ∧ (kind : Int) ≤ 4 by omega)
  have HE := Lib.hid (show (0 : Int) ≤ epoch ∧ (epoch : Int) ≤ 4294967295 by omega)
  have HS := Lib.hid (show (0 : Int) ≤ seq ∧ (seq : Int) ≤ 1099511627776 by omega)
  have HL := Lib.hid (show (0 : Int) ≤ lba ∧ (lba : Int) ≤ 1048576 by omega)
  have e1 : IntKind.u32.wrap (epoch : Int) = epoch := by rw [IntKind.wrap_u32]; omega
  have e2 : IntKind.u64.wrap (seq : Int) = seq := by rw [IntKind.wrap_u64]; omega
  have e3 : IntKind.u32.wrap (lba : Int) = lba := by rw [IntKind.wrap_u32]; omega
  have e4 : IntKind.u8.wrap (kind : Int) = kind := by rw [IntKind.wrap_u8]; omega
  have e5 : IntKind.u8.wrap (n : Int) = n := by rw [IntKind.wrap_u8]; omega
  have e6 : ¬ ((n : Int) > 40) := by omega
  have H3 := Lib.hid h3
  have H4 := Lib.hid (show seq < 18446744073709551616 by omega)
  have H5 := Lib.hid (show lba < 4294967296 by omega)
  have HB := Lib.hid (hb.chg k1)
  have HN := Lib.hid hn
  clear hb h1 h2 h3 h4 h5
  go_enter Tryz.func192, Tryz.ntmps192
  go_upto_region 1 with fail
  generalize w.alloc (.cells #[.int .i64 kind, .int .i64 epoch, .int .i64 seq, .int .i64 lba, .slice pa n c] 282) = w1 at *
  generalize hz : w.heap.size = z at *
  have a0 : w1.cell? ⟨z, 0, none⟩ = some (.int .i64 kind) := cell_is K1 0 rfl
  have a1 : w1.cell? ⟨z, 1, none⟩ = some (.int .i64 epoch) := cell_is K1 1 rfl
  have a2 : w1.cell? ⟨z, 2, none⟩ = some (.int .i64 seq) := cell_is K1 2 rfl
  have a3 : w1.cell? ⟨z, 3, none⟩ = some (.int .i64 lba) := cell_is K1 3 rfl
  have a4 : w1.cell? ⟨z, 4, none⟩ = some (.slice pa n c) := cell_is K1 4 rfl
  go_wp2_with fail
  refine (within_yes _ _ _ _ HK.out.1 HK.out.2).mono ?_
  rintro e w2 ⟨rfl, rfl⟩
  go_wp2_with fail
  refine (within_yes _ _ _ _ HE.out.1 HE.out.2).mono ?_
  rintro e w2 ⟨rfl, rfl⟩
  go_wp2_with fail
  refine (within_yes _ _ _ _ HS.out.1 HS.out.2).mono ?_
  rintro e w2 ⟨rfl, rfl⟩
  go_wp2_with fail
  refine (within_yes _ _ _ _ HL.out.1 HL.out.2).mono ?_
  rintro e w2 ⟨rfl, rfl⟩
  go_upto_region 5 with fail
  have HK8 := Lib.hid (show kind < 256 by have := HK.out; omega)
  have HN8 := Lib.hid (show n < 256 by omega)
  have HH := Lib.hid (show (headF kind epoch seq lba body).length = 18 + n by rw [headF_length, HN.out])
  have kD0 := (Chg.refl [] w1).drew
  have hS : ∀ wx, Chg [] w1 wx → wx.cell? ⟨z, 0, none⟩ = some (.int .i64 kind) ∧ wx.cell? ⟨z, 1, none⟩ = some (.int .i64 epoch) ∧ wx.cell? ⟨z, 2, none⟩ = some (.int .i64 seq) ∧ wx.cell? ⟨z, 3, none⟩ = some (.int .i64 lba) ∧ wx.cell? ⟨z, 4, none⟩ = some (.slice pa n c) := fun wx k => ⟨k.cell a0 (by simp), k.cell a1 (by simp), k.cell a2 (by simp), k.cell a3 (by simp), k.cell a4 (by simp)⟩
  go_cut [4] from 5 (fun v wx => Chg [] w wx ∧ wx.ownsRow z 5 1 v (18 + n) (Lib.byteCells (headF kind epoch seq lba body)))
  case first =>
    go_region_held3 (fun wx => wx.cell? ⟨z, 0, none⟩ = some (.int .i64 kind) ∧ wx.cell? ⟨z, 1, none⟩ = some (.int .i64 epoch) ∧ wx.cell? ⟨z, 2, none⟩ = some (.int .i64 seq) ∧ wx.cell? ⟨z, 3, none⟩ = some (.int .i64 lba) ∧ wx.cell? ⟨z, 4, none⟩ = some (.slice pa n c))
      (first
        | (with_reducible exact hS _ kC1) | (with_reducible exact hS _ kB1) | (with_reducible exact hS _ kA1) | (with_reducible exact hS _ kD0) | (with_reducible exact hS _ kF1)
        | (with_reducible exact hS _ (kC1.then_alloc _)) | (with_reducible exact hS _ (kB1.then_alloc _)) | (with_reducible exact hS _ (kA1.then_alloc _)) | (with_reducible exact hS _ (kD0.then_alloc _))
        | (with_reducible exact hS _ ((kC1.then_alloc _).then_alloc _)) | (with_reducible exact hS _ (Chg.alloc w1 _)) | (with_reducible exact hS _ (Chg.alloc w1 _).drew))
      (first
        | (go_at_call 127; refine (put64_any _ seq H4.out).mono ?_; rintro e wB ⟨gB, rfl, kB, bB, lB⟩; have kB1 : Chg [] w1 wB := (by first | with_reducible exact kA1.then kB | with_reducible exact (kA1.then_alloc _).then kB))
        | (go_at_call 229
           refine Calls.mono (bconcat_any _ (n := 18 + n) (F := headF kind epoch seq lba body) (ls := [[UInt8.ofNat kind, UInt8.ofNat n], leB epoch 4, leB seq 8, leB lba 4, body]) ?_ rfl (by decide) (by rw [headF, HN.out]) HH.out (by omega) (by omega)) ?_
           · first
             | (with_reducible exact rws_five (heap_new _ _) (Bs.chg (Bs.chg (Bs.chg (Bs.chg (Bs.chg (small_bs (heap_new _ _) HK8.out HN8.out) (Chg.refl [] _).drew) kA) kB) kC) (Chg.alloc _ _)) (Bs.chg (Bs.chg (Bs.chg bA kB) kC) (Chg.alloc _ _)) (Bs.chg (Bs.chg bB kC) (Chg.alloc _ _)) (Bs.chg bC (Chg.alloc _ _)) (Bs.chg (Bs.chg HB.out kC1) (Chg.alloc _ _)) (two_len _ _) (leB_length _ _) (leB_length _ _) (leB_length _ _) HN.out)
             | (with_reducible exact rws_five (heap_new _ _) (Bs.chg (Bs.chg (Bs.chg (small_bs (heap_new _ _) HK8.out HN8.out) kB) kC) (Chg.alloc _ _)) (Bs.chg (Bs.chg (Bs.chg (Bs.chg bA (Chg.alloc _ _)) kB) kC) (Chg.alloc _ _)) (Bs.chg (Bs.chg bB kC) (Chg.alloc _ _)) (Bs.chg bC (Chg.alloc _ _)) (Bs.chg (Bs.chg HB.out kC1) (Chg.alloc _ _)) (two_len _ _) (leB_length _ _) (leB_length _ _) (leB_length _ _) HN.out)
             | (with_reducible exact rws_five (heap_new _ _) (Bs.chg (Bs.chg (small_bs (heap_new _ _) HK8.out HN8.out) kC) (Chg.alloc _ _)) (Bs.chg (Bs.chg (Bs.chg (Bs.chg bA kB) (Chg.alloc _ _)) kC) (Chg.alloc _ _)) (Bs.chg (Bs.chg (Bs.chg bB (Chg.alloc _ _)) kC) (Chg.alloc _ _)) (Bs.chg bC (Chg.alloc _ _)) (Bs.chg (Bs.chg HB.out kC1) (Chg.alloc _ _)) (two_len _ _) (leB_length _ _) (leB_length _ _) (leB_length _ _) HN.out)
             | (with_reducible exact rws_five ((two_new _ _ _).2) (small_bs (two_new _ _ _).1 HK8.out HN8.out) (Bs.chg (Bs.chg (Bs.chg (Bs.chg bA kB) kC) (Chg.alloc _ _)) (Chg.alloc _ _)) (Bs.chg (Bs.chg (Bs.chg bB kC) (Chg.alloc _ _)) (Chg.alloc _ _)) (Bs.chg (Bs.chg bC (Chg.alloc _ _)) (Chg.alloc _ _)) (Bs.chg (Bs.chg (Bs.chg HB.out kC1) (Chg.alloc _ _)) (Chg.alloc _ _)) (two_len _ _) (leB_length _ _) (leB_length _ _) (leB_length _ _) HN.out)
           rintro e wF ⟨vF, rfl, kF, oF⟩
           have kF1 : Chg [] w1 wF := (by first | with_reducible exact (kC1.then_alloc _).then kF | with_reducible exact ((kC1.then_alloc _).then_alloc _).then kF))
        | (go_at_call 130; with_reducible refine Calls.mono (put32_any _ epoch H3.out) ?_; rintro e wA ⟨gA, rfl, kA, bA, lA⟩; have kA1 : Chg [] w1 wA := (by first | with_reducible exact kD0.then kA | with_reducible exact ((Chg.alloc w1 _).drew).then kA | with_reducible exact (kD0.then_alloc _).then kA))
        | (go_at_call 130; with_reducible refine Calls.mono (put32_any _ lba H5.out) ?_; rintro e wC ⟨gC, rfl, kC, bC, lC⟩; have kC1 : Chg [] w1 wC := (by first | with_reducible exact kB1.then kC | with_reducible exact (kB1.then_alloc _).then kC)))
    all_goals
      have kw := k1.then kF1
      have oz := own_base (base' := z) oF (by first | exact hz ▸ (k1.then (kC1.then_alloc _)).size | exact hz ▸ (k1.then ((kC1.then_alloc _).then_alloc _)).size)
      clear kF oF hS
      go_wp2_with fail
      go_meet
      exact ⟨kw, oz⟩
  case rest =>
    obtain ⟨kw, oz⟩ := hcut
    obtain ⟨p4, c4, rfl, -⟩ := own_form oz
    have hzc : z ≤ wc.heap.size := hz ▸ kw.size
    have hk42 : (60 : Int) - ((18 + n : Nat) : Int) = ((42 - n : Nat) : Int) := by omega
    have HCo := Lib.hid (show headF kind epoch seq lba body ++ List.replicate (42 - n) 0 = coverF kind epoch seq lba body by rw [coverF, HH.out]; congr 2; omega)
    have HLc := Lib.hid (show (coverF kind epoch seq lba body).length = 18 + n + (42 - n) by rw [coverF_length _ _ _ _ _ (by rw [HN.out]; omega)]; omega)
    have h60 : 18 + n + (42 - n) = 60 := by omega
    have H60 := Lib.hid h60
    have HEn := Lib.hid (show encF kind epoch seq lba body = coverF kind epoch seq lba body ++ leB (crcN (coverF kind epoch seq lba body)) 4 from rfl)
    have HEl := Lib.hid (encF_length kind epoch seq lba body (by rw [HN.out]; omega))
    have OZ := Lib.hid oz
    clear oz hS kD0 K1 a0 a1 a2 a3 a4 e1 e2 e3 e4 e5 e6 h60 hk42 k1
    generalize headF kind epoch seq lba body = hf at *
    generalize coverF kind epoch seq lba body = cf at *
    have hwn : wrap64 (60 - ((18 + n : Nat) : Int)) = ((42 - n : Nat) : Int) := by unfold wrap64; omega
    go_wp2_with (at_builtin; refine wpList_append_zeros rfl (.tmp 57) (.tmp 60) 47 3 5 rfl ty23 .i64 (by kernel_rfl) inf5c z _ (18 + n) hf rfl OZ.out .i64 (42 - n) _ (by omega) rfl (by omega) hzc ?_; intro v5 w5 h5)
    have o5 := h5.1
    rw [HCo.out, H60.out] at o5
    have k5 : Chg [] w w5 := Chg.of_below (Below.trans kw.below0 (by rw [hz]; exact h5.2.1))
    obtain ⟨p5, c5, rfl, -⟩ := own_form o5
    have b5 := Bs.own o5
    have hl5 := HLc.out
    rw [H60.out] at hl5
    refine (crc_of w5 b5 hl5 (by omega)).mono ?_
    rintro e w6 ⟨rfl, k6⟩
    have O6 := Lib.hid (own_keep o5 k6.below0)
    have HCn := Lib.hid (crcN_lt cf)
    have k56 := k5.then k6
    clear h5 o5 b5 hl5 OZ HCo hzc
    have hz6 : z ≤ w6.heap.size := hz ▸ k56.size
    go_wp2_with fail
    refine (put32_any w6 (crcN cf) HCn.out).mono ?_
    rintro e w7 ⟨g7, rfl, k7, b7, l7⟩
    have O7 := Lib.hid (own_keep O6.out k7.below0)
    have B7 := Lib.hid b7
    have hz7 : z ≤ w7.heap.size := hz ▸ (k56.then k7).size
    clear b7
    go_wp2_with (at_builtin; refine wpList_append_bs rfl (.tmp 62) (.tmp 65) 47 5 rfl ty23 inf5c z _ 60 cf rfl O7.out _ 4 4 (leB (crcN cf) 4) rfl (leB_length _ _) B7.out (by omega) hz7 ?_; intro v8 w8 h8)
    go_ret2
    have o8 := h8.1
    rw [← HEn.out] at o8
    obtain ⟨g8, c8, rfl, hb8, hbt⟩ : ∃ g c, v8 = .slice (some ⟨g, 0, none⟩) 64 c ∧ z ≤ g ∧ Bt w8 g := by
      rcases o8.2 with ⟨_, h0⟩ | ⟨g, cap, cur, e, hA, hgt, -⟩
      · omega
      · exact ⟨g, cap, e, hA, cur, hgt⟩
    exact ⟨g8, c8, rfl, Chg.of_below (Below.trans (k56.then k7).below0 (by rw [hz]; exact h8.2.1)), by omega, Bs.own o8, hbt⟩
theorem nodup_new {w wr : World} {N : Nat} {Z : List Nat} {v : Value} (h : NewInv w wr N Z v) (hn : Z.Nodup) : (Z ++ [wr.heap.size]).Nodup := by
 rw [List.nodup_append]
 refine ⟨hn, by simp, fun a ha b hb => ?_⟩
 rw [List.mem_singleton] at hb
 subst hb
 have := heap_lt (h.2.2.2.2.2.2 a ha).2
 omega
def NewR2 (w : World) (e : Ending) (w' : World) : Prop :=
 ∃ N A c Z, e = .returned (.tuple #[.pointer (some ⟨N, 0, none⟩), .int .i64 0]) ∧ Chg [] w w' ∧ DevAt w' N A c 0 Z ∧ DevOk N A Z ∧ w.heap.size ≤ N ∧ w.heap.size ≤ A ∧ (∀ z ∈ Z, w.heap.size ≤ z) ∧ (∃ cs, w'.heap[A]? = some (.cells cs 129 (0, 0))) ∧ Z.Nodup
theorem NewInv.done2 {w wr : World} {N : Nat} {Z : List Nat} {v : Value} (h : NewInv w wr N Z v) (h8 : Z.length = 8) (hn : Z.Nodup) : NewR2 w (.returned (.tuple #[.pointer (some ⟨N, 0, none⟩), .int .i64 0])) wr := by
 obtain ⟨hc, hN, hN1, hv, hb, ho, hz⟩ := h
 rcases ho.2 with ⟨rfl, h0⟩ | ⟨A, c, cur, rfl, hA, hh, hle, _, hcs, htk⟩
 ·omega
 ·refine ⟨N, A, c, Z, rfl, hc, ⟨by rw [h8] at hb; exact hb, by omega, h8, ?_, fun j hj => (hz _ (List.getElem_mem hj)).2⟩, ⟨by omega, ?_, ?_⟩, hN, by omega, fun z hm => by have := (hz z hm).1; omega, ⟨_, hh⟩, hn⟩
  ·intro j hj
   refine cell_is hh j ?_
   have h1 : (cur.toList.take (Z.length * 1))[j]? = (ptrs Z)[j]? := by rw [htk]
   rw [List.getElem?_take_of_lt (by omega), Array.getElem?_toList] at h1
   rw [h1]
   simp [ptrs, hj]
  ·intro hm; have := (hz _ hm).1; omega
  ·intro hm
   have h2 := (hz _ hm).2
   rw [hh] at h2
   injection h2 with h2
   injection h2 with e1 e2
   cases e2
set_option maxRecDepth 100000 in
set_option maxHeartbeats 1000000 in
theorem new_any2 (w : World) : Calls Tryz.prog 32 #[.agg #[.int .i64 8, .int .i64 96]] w (NewR2 w) := by
 go_enter Tryz.func32, Tryz.ntmps32
 go_wp2_with fail
 have hI : NewInv w ((w.alloc (.cells #[.int .i64 8, .int .i64 96] 67)).alloc (.cells #[.int .i64 8, .int .i64 96, .slice none 0 0, .int .i64 0, .int .i64 0, .bool false, .int .i64 0, .bool false] 128)) (w.heap.size + 1) [] (.slice none 0 0) :=
  ⟨chg_two w _ _, by omega, by simp, ⟨_, _, _, rfl⟩, (two_new w _ _).2, World.ownsRow_nil _ _ _ _, fun z hz => by cases hz⟩
 go_loopw [28] (fun i wr => ∃ (j : Nat) (Z : List Nat) (v : Value), i = .int .i64 j ∧ Z.length = j ∧ j ≤ 8 ∧ NewInv w wr (w.heap.size + 1) Z v ∧ Z.Nodup) (fun i _ => 8 - (intOf i).toNat)
 case atStart => exact ⟨0, [], _, rfl, rfl, by omega, hI, List.nodup_nil⟩
 case round =>
  obtain ⟨j, Z, v, rfl, rfl, hj, hN, hnd⟩ := hrel
  clear hI
  by_cases hlt : Z.length < 8
  ·obtain ⟨p, m, c, rfl⟩ := hN.2.2.2.1
   have hb := hN.2.2.2.2.1
   have ho := hN.2.2.2.2.2.1
   have hsz := hN.2.2.1
   have e2 : wr.cell? ⟨w.heap.size + 1, 2, none⟩ = some (.slice p m c) := cell_is hb 2 rfl
   have HS := Lib.hid (fun v' w2 => NewInv.step (v' := v') (w2 := w2) hN rfl)
   have HK := Lib.hid (fun v' w2 n xs => NewInv.cell (v' := v') (w2 := w2) (n := n) (xs := xs) hN rfl)
   have hown := ho.alloc (.cells #[.slice none 0 0, .int .i64 0] 132)
   have hlt2 : w.heap.size + 1 + 1 ≤ (wr.alloc (.cells #[.slice none 0 0, .int .i64 0] 132)).heap.size := by simp; omega
   have hnd2 := Lib.hid (nodup_new hN hnd)
   clear hN hb ho
   go_wp2_with (at_builtin; refine wpList_append_lit rfl (.tmp 34) (.tmp 37) 126 129 rfl ty128 inf131 rfl (by decide) (w.heap.size + 1 + 1) _ [.pointer (some ⟨wr.heap.size, 0, none⟩)] 1 rfl _ Z.length (ptrs Z) rfl hown (by omega) (by decide) hlt2 (k := 0) rfl (by simp [Value.oneCell']) rfl 1 (by simp [go_sem]) ?_; intro v' w2 hap; obtain ⟨pa', c', rfl⟩ := own_slice hap.1; obtain ⟨k1, k2⟩ := HK.out _ _ _ _ hap)
   have hst := HS.out _ _ hap
   go_roundw
   case rel => exact ⟨Z.length + 1, Z ++ [wr.heap.size], _, by go_num, by simp, by omega, hst, hnd2.out⟩
   case measure => simp [intOf]; omega
  ·have hD := hN.done2 (by omega) hnd
   go_wp2_with fail
   go_ret2
   exact hD
def ExAt (w : World) (S N A : Nat) (Z : List Nat) : Prop := SlotAt w S N ∧ (∃ cs, w.heap[A]? = some (.cells cs 129 (0, 0))) ∧ Z.Nodup
theorem ty132 : Tryz.prog.underlying 130 = some (.slice 47) := by kernel_rfl
theorem inf23 : (Tryz.prog.info? 47).map (fun i => (i.zero, i.size, i.bytes)) = some (some (.slice none 0 0), 1, 24) := by kernel_rfl
theorem step_append_bk {ops : Array Oper} {o : Oper} {a : Act} {w : World} {K : Act → World → Prop} {Q : Exit → Act → World → Prop} {E : Prop} (hgd : o.guard = none) (s x : Operand)
  (ho : o.op = .call { callee := .builtin .append, args := #[s, x], argTypes := #[130, 130] }) (base : Nat) (v : Value) (n : Nat) (xs : List Value) (hs : a.eval s = v) (hown : w.ownsRow base 47 1 v n xs) (b c : Nat) (u0 : Value)
  (hx : a.eval x = .slice (some ⟨b, 0, none⟩) 1 c) (c0 : w.cell? ⟨b, 0, none⟩ = some u0) (h1 : u0.oneCell' = true) (hn : n ≤ 1000000) (hbase : base ≤ w.heap.size)
  (h : ∀ g cap w', w'.ownsRow base 47 1 (.slice (some ⟨g, 0, none⟩) (n + 1) cap) (n + 1) (xs ++ [u0]) → Chg v.ownBlock.toList w w' → (v.ownBlock = some g ∨ g = w.heap.size) → K (a.put o.dst (.slice (some ⟨g, 0, none⟩) (n + 1) cap)) w') :
  if Region.wanted o (yielded ops a.tmps) = true then Oper.wp Tryz.prog o a w K Q else E := by
 obtain ⟨i, hi0, hz, hz1, hz2⟩ := info_parts inf23
 refine step_append_lies w hgd s x 130 ho base 47 i _ 1 24 ty132 hi0 hz hz1 hz2 rfl (by decide) v n xs hs hown ⟨b, 0, none⟩ 1 c [u0] hx rfl ?_ ?_ (by decide) (by unfold maxLen; omega) (by omega) hbase _ rfl ?_
 ·intro j u hu
  rw [add_lit, Nat.zero_add]
  match j with
  | 0 => cases hu; exact c0
  | j + 1 => simp at hu
 ·intro u hu
  simp at hu
  rcases hu with rfl
  exact h1
 ·intro g cap w' h2 h3 h4 _
  refine h g cap w' h2 ?_ h4
  cases hv : v.ownBlock with
  | none => rw [hv] at h3; exact Chg.of_grown0 h3
  | some k => rw [hv] at h3; exact Chg.of_grown h3
def RowsAt (w : World) (base : Nat) (v : Value) (l : List (List UInt8)) : Prop :=
 ∃ xs, w.ownsRow base 47 1 v l.length xs ∧ ∀ i (h : i < l.length), ∃ g c, xs[i]? = some (.slice (some ⟨g, 0, none⟩) 64 c) ∧ Bs w (some ⟨g, 0, none⟩) l[i] ∧ l[i].length = 64 ∧ Bt w g
theorem Bt.keep {w w' : World} {T : List Nat} {g : Nat} (h : Bt w g) (hc : Chg T w w') (hg : g ∉ T) : Bt w' g := by
 obtain ⟨cs, h⟩ := h
 exact ⟨cs, hc.heap h hg⟩
theorem Bt.av {w : World} {T ts : List Nat} {g : Nat} (h : Bt w g) (hT : Av w T ts) (h5 : 5 ∈ ts) : g ∉ T := by
 obtain ⟨cs, h⟩ := h
 exact hT.ne h h5
theorem RowsAt.nil (w : World) (base : Nat) : RowsAt w base (.slice none 0 0) [] := ⟨[], World.ownsRow_nil _ _ _ _, fun i h => by simp at h⟩
theorem RowsAt.keep {w w' : World} {T : List Nat} {base : Nat} {v : Value} {l : List (List UInt8)} (h : RowsAt w base v l) (hc : Chg T w w') (hT : Av w T [5]) (hv : ∀ g, v.ownBlock = some g → g ∉ T) : RowsAt w' base v l := by
 obtain ⟨xs, ho, hx⟩ := h
 refine ⟨xs, ?_, fun i hi => ?_⟩
 ·refine ⟨ho.1, ?_⟩
  rcases ho.2 with hn | ⟨g, cap, cur, rfl, hb, hg, rest⟩
  ·exact Or.inl hn
  ·exact Or.inr ⟨g, cap, cur, rfl, hb, hc.heap hg (hv g rfl), rest⟩
 ·obtain ⟨g, c, h1, h2, h3, h4⟩ := hx i hi
  have hg := h4.av hT (by simp)
  exact ⟨g, c, h1, h2.chgT hc hg, h3, h4.keep hc hg⟩
theorem RowsAt.push {w w' : World} {base g gb cb cap : Nat} {v : Value} {l : List (List UInt8)} {b : List UInt8} {xs : List Value} (hx : ∀ i (h : i < l.length), ∃ g c, xs[i]? = some (.slice (some ⟨g, 0, none⟩) 64 c) ∧ Bs w (some ⟨g, 0, none⟩) l[i] ∧ l[i].length = 64 ∧ Bt w g)
  (hl : xs.length = l.length) (hv : ∀ g, v.ownBlock = some g → ∃ cs, w.heap[g]? = some (.cells cs 47 (0, 0))) (ho : w'.ownsRow base 47 1 (.slice (some ⟨g, 0, none⟩) (l.length + 1) cap) (l.length + 1) (xs ++ [.slice (some ⟨gb, 0, none⟩) 64 cb])) (hc : Chg v.ownBlock.toList w w')
  (hb : Bs w (some ⟨gb, 0, none⟩) b) (hb4 : b.length = 64) (hbt : Bt w gb) : RowsAt w' base (.slice (some ⟨g, 0, none⟩) (l.length + 1) cap) (l ++ [b]) := by
 have hne : ∀ {k}, Bt w k → k ∉ v.ownBlock.toList := by
  intro k hk hm
  have hm' : v.ownBlock = some k := by simpa using hm
  obtain ⟨cs, h1⟩ := hv k hm'
  obtain ⟨cs2, h2⟩ := hk
  rw [h1] at h2
  cases h2
 refine ⟨xs ++ [.slice (some ⟨gb, 0, none⟩) 64 cb], by rw [List.length_append]; exact ho, fun i hi => ?_⟩
 by_cases h : i < l.length
 ·obtain ⟨g, c, h1, h2, h3, h4⟩ := hx i h
  rw [List.getElem_append_left h]
  exact ⟨g, c, by rw [List.getElem?_append_left (by omega)]; exact h1, h2.chgT hc (hne h4), h3, h4.keep hc (hne h4)⟩
 ·have hi2 : i = l.length := by simp at hi; omega
  subst hi2
  refine ⟨gb, cb, by rw [← hl]; simp, ?_, ?_, hbt.keep hc (hne hbt)⟩
  ·rw [List.getElem_append_right (Nat.le_refl _)]
   simpa using hb.chgT hc (hne hbt)
  ·rw [List.getElem_append_right (Nat.le_refl _)]
   simpa using hb4
structure DevG (w : World) (base N A c : Nat) (ops : Int) (Z : List Nat) (vs : Nat → Value) (gs : Nat → Nat) (zs : Nat → List (List UInt8)) : Prop where
 hdr : w.heap[N]? = some (.cells #[.int .i64 8, .int .i64 96, .slice (some ⟨A, 0, none⟩) 8 c, .int .i64 ops, .int .i64 0, .bool false, .int .i64 0, .bool false] 128 (0, 0))
 cap : 8 ≤ c
 len : Z.length = 8
 tA : ∃ cs, w.heap[A]? = some (.cells cs 129 (0, 0))
 ptr : ∀ j (h : j < Z.length), w.cell? ⟨A, j, none⟩ = some (.pointer (some ⟨Z[j], 0, none⟩))
 zone : ∀ j (h : j < Z.length), w.heap[Z[j]]? = some (.cells #[vs j, .int .i64 (gs j : Nat)] 132 (0, 0))
 rows : ∀ j, j < 8 → RowsAt w base (vs j) (zs j)
 apart : ∀ i j g, i < 8 → j < 8 → i ≠ j → (vs i).ownBlock = some g → (vs j).ownBlock ≠ some g
 nodup : Z.Nodup
theorem DevAt.full {w : World} {S N A c : Nat} {ops : Int} {Z : List Nat} (h : DevAt w N A c ops Z) (hx : ExAt w S N A Z) (base : Nat) : DevG w base N A c ops Z (fun _ => .slice none 0 0) (fun _ => 0) (fun _ => []) :=
 ⟨h.1, h.2.1, h.2.2.1, hx.2.1, h.2.2.2.1, h.2.2.2.2, fun _ _ => RowsAt.nil w base, fun _ _ _ _ _ _ e => by simp [Value.ownBlock] at e, hx.2.2⟩
theorem RowsAt.block {w : World} {base : Nat} {v : Value} {l : List (List UInt8)} (h : RowsAt w base v l) : ∀ g, v.ownBlock = some g → ∃ cs, w.heap[g]? = some (.cells cs 47 (0, 0)) := by
 intro g hg
 obtain ⟨xs, ho, -⟩ := h
 exact (own_elem ho hg).2
theorem DevG.keep {w w' : World} {T : List Nat} {base N A c : Nat} {ops : Int} {Z : List Nat} {vs : Nat → Value} {gs : Nat → Nat} {zs : Nat → List (List UInt8)} (h : DevG w base N A c ops Z vs gs zs) (hc : Chg T w w') (hT : Av w T [128, 129, 132, 47, 5]) : DevG w' base N A c ops Z vs gs zs := by
 have hA : A ∉ T := by
  obtain ⟨cs, hA⟩ := h.tA
  exact hT.ne hA (by simp)
 refine ⟨hc.heap h.hdr (hT.ne h.hdr (by simp)), h.cap, h.len, ?_, fun j hj => hc.cell (h.ptr j hj) hA, fun j hj => hc.heap (h.zone j hj) (hT.ne (h.zone j hj) (by simp)), fun j hj => (h.rows j hj).keep hc (fun x hx cs t fr hh ht => hT x hx cs t fr hh (by simp at ht; simp [ht])) (fun g hg => ?_), h.apart, h.nodup⟩
 ·obtain ⟨cs, hA'⟩ := h.tA
  exact ⟨cs, hc.heap hA' hA⟩
 ·obtain ⟨cs, hb⟩ := (h.rows j hj).block g hg
  exact hT.ne hb (by simp)
set_option maxRecDepth 100000 in
theorem dgone_any (w : World) {base N A c : Nat} {ops : Int} {Z : List Nat} {vs : Nat → Value} {gs : Nat → Nat} {zs : Nat → List (List UInt8)} (h : DevG w base N A c ops Z vs gs zs) : Calls Tryz.prog 152 #[.pointer (some ⟨N, 0, none⟩)] w fun e w' => e = .returned (.bool false) ∧ w = w' := by
 have e2 : w.cell? ⟨N, 2, none⟩ = some (.slice (some ⟨A, 0, none⟩) 8 c) := cell_is h.hdr 2 rfl
 clear h
 go_enter Tryz.func152, Tryz.ntmps152
 go_wp2_with fail
 go_ret
 exact ⟨rfl, rfl⟩
set_option maxRecDepth 100000 in
theorem dat_any (w : World) {base N A c : Nat} {ops : Int} {Z : List Nat} {vs : Nat → Value} {gs : Nat → Nat} {zs : Nat → List (List UInt8)} (h : DevG w base N A c ops Z vs gs zs) (j : Nat) (hj : j < Z.length) : Calls Tryz.prog 131 #[.pointer (some ⟨N, 0, none⟩), .int .i64 j] w fun e w' => e = .returned (.pointer (some ⟨Z[j], 0, none⟩)) ∧ w = w' := by
 have HG := Lib.hid (dgone_any w h)
 have hc := h.cap
 have hz := h.len
 have e2 : w.cell? ⟨N, 2, none⟩ = some (.slice (some ⟨A, 0, none⟩) 8 c) := cell_is h.hdr 2 rfl
 have e3 := h.ptr j hj
 have hj8 : j < 8 := by omega
 clear h
 generalize Z[j] = z at *
 go_enter Tryz.func131, Tryz.ntmps131
 go_wp2_with fail
 refine HG.out.mono ?_
 rintro e w1 ⟨rfl, rfl⟩
 go_wp2_with fail
 go_ret
 exact ⟨rfl, rfl⟩
set_option maxRecDepth 100000 in
theorem dbegin_any (w : World) {base N A c : Nat} {ops : Int} {Z : List Nat} {vs : Nat → Value} {gs : Nat → Nat} {zs : Nat → List (List UInt8)} (h : DevG w base N A c ops Z vs gs zs) (h0 : 0 ≤ ops) (h1 : ops ≤ 1000000) : Calls Tryz.prog 132 #[.pointer (some ⟨N, 0, none⟩)] w fun e w' => e = .returned (.bool true) ∧ Chg [N] w w' ∧ DevG w' base N A c (ops + 1) Z vs gs zs := by
 have hfin : ∀ w', w' = (w.setCell ⟨N, 3, none⟩ (.int .i64 (ops + 1))).setCell ⟨N, 7, none⟩ (.bool false) → Chg [N] w w' ∧ DevG w' base N A c (ops + 1) Z vs gs zs := by
  rintro w' rfl
  have hc := (Chg.set w N 3 (.int .i64 (ops + 1))).then (Chg.set _ N 7 (.bool false))
  have hne : ∀ {g : Nat} {cs : Array Value} {t : TypeId}, w.heap[g]? = some (.cells cs t (0, 0)) → t ≠ 128 → g ∉ [N] := by
   intro g cs t hg ht hm
   rw [List.mem_singleton] at hm
   subst hm
   rw [h.hdr] at hg
   cases hg
   exact ht rfl
  obtain ⟨cA, hA⟩ := h.tA
  refine ⟨hc, heap_set (heap_set h.hdr 3 _ rfl) 7 _ rfl, h.cap, h.len, ⟨cA, hc.heap hA (hne hA (by decide))⟩, fun j hj => hc.cell (h.ptr j hj) (hne hA (by decide)), fun j hj => hc.heap (h.zone j hj) (hne (h.zone j hj) (by decide)), fun j hj => (h.rows j hj).keep hc (Av.row h.hdr (by simp)) (fun g hg => ?_), h.apart, h.nodup⟩
  obtain ⟨cs, hb⟩ := (h.rows j hj).block g hg
  exact hne hb (by decide)
 have e3 : w.cell? ⟨N, 3, none⟩ = some (.int .i64 ops) := cell_is h.hdr 3 rfl
 have e5 : w.cell? ⟨N, 5, none⟩ = some (.bool false) := cell_is h.hdr 5 rfl
 have e7 : w.cell? ⟨N, 7, none⟩ = some (.bool false) := cell_is h.hdr 7 rfl
 have f3 := unfrozen h.hdr 3
 have f7 := unfrozen h.hdr 7
 have HF := Lib.hid hfin
 clear h hfin
 go_enter Tryz.func132, Tryz.ntmps132
 go_wp2_with fail
 go_ret
 exact ⟨rfl, HF.out _ rfl⟩
theorem upd258 {w : World} {r : Nat} {L : List (Int × Value)} (hM : MapAt w r L) (k : Int) (v : Value) :
  (Instr.mapUpdate 268 (.map (some r)) (.int .i64 k) v).run Tryz.prog w = .ok () (updW w 268 r k v) ∧ MapAt (updW w 268 r k v) r (putL L k v) ∧ Chg [r] w (updW w 268 r k v) :=
 updW_is (mty := 268) (kt := 3) (et := 286) (by kernel_rfl) (by kernel_rfl) hM k v
theorem VerG.own {w : World} {lo X rx : Nat} {last : Int} {L : List (Int × Value)} {vs : Int → List (Int × List UInt8)} {b : Int} (h : VerG w lo X rx last L vs) (h0 : 0 ≤ b) (h1 : b < 258) : ∃ v xs, (getL L b).getD (.slice none 0 0) = v ∧ (getL L b = some v ∨ getL L b = none ∧ v = .slice none 0 0) ∧ w.ownsRow lo 288 2 v (vs b).length xs ∧
  ∀ i (h : i < (vs b).length), xs[i * 2]? = some (.int .i64 (vs b)[i].1) ∧ ∃ g c, xs[i * 2 + 1]? = some (.slice (some ⟨g, 0, none⟩) 40 c) ∧ Bs w (some ⟨g, 0, none⟩) (vs b)[i].2 ∧ (vs b)[i].2.length = 40 ∧ Bt w g := by
 rcases h.row b h0 h1 with ⟨e1, e2⟩ | ⟨u, e1, ⟨xs, e2, e3⟩, -⟩
 ·refine ⟨_, [], by rw [e1]; rfl, Or.inr ⟨e1, rfl⟩, ?_, fun i hi => ?_⟩
  ·rw [e2]; exact World.ownsRow_nil _ _ _ _
  ·rw [e2] at hi; simp at hi
 ·exact ⟨u, xs, by rw [e1]; rfl, Or.inl e1, e2, e3⟩
theorem VerG.timed {w : World} {lo X rx : Nat} {last : Int} {L : List (Int × Value)} {vs : Int → List (Int × List UInt8)} (h : VerG w lo X rx last L vs) (k : Int) : VerG (w.setCell ⟨X, 2, none⟩ (.int .i64 k)) lo X rx k L vs := by
 have kS := Chg.set w X 2 (.int .i64 k)
 refine ⟨heap_set h.x 2 _ rfl, h.m.keep kS (by simpa using map_cells h.m h.x), fun b h0 h1 => ?_, h.small⟩
 rcases h.row b h0 h1 with e | ⟨v, e1, e2, e3⟩
 ·exact Or.inl e
 ·refine Or.inr ⟨v, e1, e2.keep kS (Av.row h.x (by decide)) (fun g hg hm => ?_), e3⟩
  obtain ⟨cs, hh⟩ := e2.block g hg
  rw [List.mem_singleton] at hm
  subst hm
  rw [h.x] at hh
  cases hh
structure Ap (w wr : World) (lo X rx : Nat) (last k : Int) (vs : Int → List (Int × List UInt8)) (l : List (Int × List UInt8)) (j : Nat) : Prop where
 ver : ∃ L, VerG wr lo X rx last L (applyV vs k (l.take j)) ∧ ApL L ∧ ∀ p ∈ L, 0 ≤ p.1 ∧ p.1 < 258
 cv : Cv lo X rx w wr
theorem Ap.keep {w wr wz : World} {lo X rx : Nat} {last k : Int} {vs : Int → List (Int × List UInt8)} {l : List (Int × List UInt8)} {j : Nat} (h : Ap w wr lo X rx last k vs l j) (hc : Chg [] wr wz) : Ap w wz lo X rx last k vs l j := by
 obtain ⟨L, h1, h2, h3⟩ := h.ver
 exact ⟨⟨L, h1.keep hc, h2, h3⟩, h.cv.then hc⟩
set_option maxRecDepth 100000 in
set_option maxHeartbeats 8000000 in
theorem apply_ok (w : World) {lo X rx lp cb : Nat} {last k : Int} {pb : Option Addr} {Lv : List (Int × Value)} {vs : Int → List (Int × List UInt8)} {l : List (Int × List UInt8)} (hv : VerG w lo X rx last Lv vs) (hap : ApL Lv) (hkeys : ∀ p ∈ Lv, 0 ≤ p.1 ∧ p.1 < 258) (hlo : lo ≤ w.heap.size)
  (hp : PutsAt w lp (.slice pb l.length cb) l) (hk : ∀ x ∈ l, 0 ≤ x.1 ∧ x.1 < 258) (hr : Rise l) (hl0 : 0 < l.length) (hl : l.length ≤ 16) (hk0 : last < k) (hk1 : k ≤ 1099511627776) (hs : ∀ c, (vs c).length + 16 < 1000000) :
  Calls Tryz.prog 139 #[.pointer (some ⟨X, 0, none⟩), .agg #[.int .i64 k, .slice pb l.length cb]] w fun e w' => e = .returned (.int .i64 0) ∧ Cv lo X rx w w' ∧ ∃ Lv', VerG w' lo X rx k Lv' (applyV vs k l) ∧ ApL Lv' ∧ ∀ p ∈ Lv', 0 ≤ p.1 ∧ p.1 < 258 := by
 obtain ⟨gp, cap, gd0, cd0, hvv, hcap, -, -, -, -, -⟩ := hp.get 0 hl0
 cases hvv
 have k0 : Chg [] w (w.alloc (.cells #[.int .i64 k, .slice (some ⟨gp, 0, none⟩) l.length cb] 185)) := Chg.alloc w _
 have K0 := heap_new w (.cells #[.int .i64 k, .slice (some ⟨gp, 0, none⟩) l.length cb] 185)
 have hv0 := hv.keep k0
 have hp0 := hp.keep0 k0
 have hA0 : Ap w (w.alloc (.cells #[.int .i64 k, .slice (some ⟨gp, 0, none⟩) l.length cb] 185)) lo X rx last k vs l 0 := ⟨⟨Lv, hv0, hap, hkeys⟩, Cv.of_chg k0⟩
 have x0 : (w.alloc (.cells #[.int .i64 k, .slice (some ⟨gp, 0, none⟩) l.length cb] 185)).cell? ⟨X, 0, none⟩ = some (.int .i64 258) := cell_is hv0.x 0 rfl
 have x2 : (w.alloc (.cells #[.int .i64 k, .slice (some ⟨gp, 0, none⟩) l.length cb] 185)).cell? ⟨X, 2, none⟩ = some (.int .i64 last) := cell_is hv0.x 2 rfl
 have b0 : (w.alloc (.cells #[.int .i64 k, .slice (some ⟨gp, 0, none⟩) l.length cb] 185)).cell? ⟨w.heap.size, 0, none⟩ = some (.int .i64 k) := cell_is K0 0 rfl
 have b1 : (w.alloc (.cells #[.int .i64 k, .slice (some ⟨gp, 0, none⟩) l.length cb] 185)).cell? ⟨w.heap.size, 1, none⟩ = some (.slice (some ⟨gp, 0, none⟩) l.length cb) := cell_is K0 1 rfl
 have HG := Lib.hid (xgone_any _ x0)
 have n0 : decide (k ≤ last) = false := decide_eq_false (by omega)
 have n1 : decide (1099511627776 < k) = false := decide_eq_false (by omega)
 have HKB := Lib.hid (fun w1 (kk : Chg [] (w.alloc (.cells #[.int .i64 k, .slice (some ⟨gp, 0, none⟩) l.length cb] 185)) w1) b (h0 : 0 ≤ b) (h1 : b < 258) => gblock_any w1 (b := b) (hv0.keep kk) h0 h1)
 have HRs := Lib.hid (fun w1 (kk : Chg [] (w.alloc (.cells #[.int .i64 k, .slice (some ⟨gp, 0, none⟩) l.length cb] 185)) w1) => rise_ok w1 (hp0.keep0 kk) hr hl0 (by omega))
 have HCp := Lib.hid (fun w1 (kk : Chg [] (w.alloc (.cells #[.int .i64 k, .slice (some ⟨gp, 0, none⟩) l.length cb] 185)) w1) => contputs_164 w1 (hp0.keep0 kk) hk (by omega))
 have HP := Lib.hid hp0
 have HA := Lib.hid hA0
 have HK := Lib.hid hk
 have HS := Lib.hid hs
 have hl0i : (0 : Int) < l.length := by omega
 have hcapi : (l.length : Int) ≤ cb := by omega
 have hmn : l.length - 1 < l.length := by omega
 clear hv hap hkeys hv0 hp hp0 hr hA0 hk x0 hs
 go_enter Tryz.func139, Tryz.ntmps139
 go_wp2_with fail
 generalize w.alloc (.cells #[.int .i64 k, .slice (some ⟨gp, 0, none⟩) l.length cb] 185) = w1 at *
 generalize hz : w.heap.size = z at *
 refine HG.out.mono ?_
 rintro e w2 ⟨rfl, rfl⟩
 go_wp2_with fail
 go_quiet (fail)
 have b0' : (w1.drewN nq).cell? ⟨z, 0, none⟩ = some (.int .i64 k) := b0
 have b1' : (w1.drewN nq).cell? ⟨z, 1, none⟩ = some (.slice (some ⟨gp, 0, none⟩) l.length cb) := b1
 have kd : Chg [] w1 (w1.drewN nq) := (Chg.refl [] w1).drewN nq
 have HAd := Lib.hid (HA.out.keep kd)
 have K0d := kd.heap K0 (by simp)
 clear b0 b1 x2 n0 n1 HA K0 HG
 go_wp2_with fail
 refine (HRs.out _ kd).mono ?_
 rintro e w2 ⟨rfl, k2⟩
 have hp2 := HP.out.keep0 (kd.then k2)
 obtain ⟨gp1, cap1, gd1, cd1, hv1, -, d0, -, -, -, -⟩ := hp2.get 0 hl0
 obtain ⟨gp2, cap2, gd2, cd2, hv2, -, dm, -, -, -, -⟩ := hp2.get (l.length - 1) hmn
 cases hv1
 cases hv2
 have hk0b := HK.out _ (List.getElem_mem hl0)
 have hkmb := HK.out _ (List.getElem_mem (hmn))
 have b12 := k2.cell b1' (by simp)
 have HB0 := Lib.hid (HKB.out w2 (kd.then k2) _ hk0b.1 hk0b.2)
 have HBm := Lib.hid (HKB.out w2 (kd.then k2) _ hkmb.1 hkmb.2)
 have HA2 := Lib.hid (HAd.out.keep k2)
 have K2 := k2.heap K0d (by simp)
 clear HRs b1' hp2 HAd K0d hk0b hkmb
 generalize (l[0]'hl0).1 = y0 at *
 generalize (l[l.length - 1]'(hmn)).1 = ym at *
 go_wp2_with fail
 refine HB0.out.mono ?_
 rintro e w3 ⟨rfl, rfl⟩
 go_wp2_with fail
 refine HBm.out.mono ?_
 rintro e w3 ⟨rfl, rfl⟩
 go_wp2_with fail
 refine (HCp.out w2 (kd.then k2)).mono ?_
 rintro e w3 ⟨rfl, k3⟩
 have b13 := k3.cell b12 (by simp)
 have HA3 := Lib.hid (HA2.out.keep k3)
 have HP3 := Lib.hid (HP.out.keep0 ((kd.then k2).then k3))
 have K3 := k3.heap K2 (by simp)
 have hz3 : lo ≤ w3.heap.size := by have := HA3.out.cv.size; omega
 have hzlt := heap_lt K3
 clear HB0 HBm HCp HKB d0 dm b12 HA2 K2 HP k2 k3 kd
 clear hmn
 go_wp2_with fail
 go_loopw [6, 58] (fun _ i wr => ∃ j : Nat, j ≤ l.length ∧ i = .int .i64 j ∧ Ap w wr lo X rx last k vs l j ∧ PutsAt wr lp (.slice (some ⟨gp, 0, none⟩) l.length cb) l ∧ wr.heap[z]? = some (.cells #[.int .i64 k, .slice (some ⟨gp, 0, none⟩) l.length cb] 185 (0, 0)) ∧ lo ≤ wr.heap.size) (fun _ i _ => l.length - (intOf i).toNat)
 case atStart => exact ⟨0, by omega, rfl, HA3.out, HP3.out, K3, hz3⟩
 case round =>
  obtain ⟨j, hj, rfl, hAr, hPr, Kr, hlr⟩ := hrel
  rename World => wr
  clear HA3 HP3 K3 hz3 b13
  by_cases hlt : j < l.length
  ·obtain ⟨L, hver, hap, hkeys⟩ := hAr.ver
   obtain ⟨gp3, cap3, gd, cd, hv3, -, d0, d1, hbs, hbl, hbt⟩ := hPr.get j hlt
   cases hv3
   have hkj := HK.out _ (List.getElem_mem hlt)
   obtain ⟨v, xs, hgv, hgl, hown, hxs⟩ := hver.own hkj.1 hkj.2
   have HX := Lib.hid hxs
   have HO := Lib.hid hown
   have HV := Lib.hid hver
   have HAp := Lib.hid hap
   have HKs := Lib.hid hkeys
   have HGl := Lib.hid hgl
   have HPr := Lib.hid hPr
   have HAr := Lib.hid hAr
   have HBs := Lib.hid hbs
   have HBt := Lib.hid hbt
   have HKr := Lib.hid Kr
   have hlti : (j : Int) < l.length := by omega
   have kp : Chg [] wr (wr.alloc (.cells #[.int .i64 (l[j]'hlt).1, .slice (some ⟨gd, 0, none⟩) 40 cd] 50)) := Chg.alloc wr _
   have Kp := heap_new wr (.cells #[.int .i64 (l[j]'hlt).1, .slice (some ⟨gd, 0, none⟩) 40 cd] 50)
   have hlen : ((applyV vs k (l.take j)) (l[j]'hlt).1).length ≤ 1000000 := by
    have h1 := applyV_len vs k (l.take j) (l[j]'hlt).1
    have h2 := HS.out (l[j]'hlt).1
    simp only [List.length_take] at h1
    omega
   have HLn := Lib.hid hlen
   have HKj := Lib.hid hkj
   have HLr := Lib.hid hlr
   have HVl := Lib.hid (show ∀ c, ((applyV vs k (l.take j)) c).length < 1000000 from fun c => by
    have h1 := applyV_len vs k (l.take j) c
    have h2 := HS.out c
    simp only [List.length_take] at h1
    omega)
   have hd40 := Lib.hid hbl
   have HT := Lib.hid (applyV_take vs k l j hlt)
   clear hver hap hkeys hown hxs hgl hPr hAr hbs hbt hbl hkj hlen
   generalize hb' : (l[j]'hlt).1 = b at *
   generalize hd' : (l[j]'hlt).2 = d at *
   generalize applyV vs k (l.take j) = vj at *
   go_upto_block 2 with fail
   go_cut [6] from 60 to 83 (fun _ wx => Ap w wx lo X rx last k vs l (j + 1) ∧ PutsAt wx lp (.slice (some ⟨gp, 0, none⟩) l.length cb) l ∧ wx.heap[z]? = some (.cells #[.int .i64 k, .slice (some ⟨gp, 0, none⟩) l.length cb] 185 (0, 0)) ∧ lo ≤ wx.heap.size)
   case rest =>
    obtain ⟨q1, q2, q3, q4⟩ := hcut
    go_wp2_with fail
    exact ⟨⟨j + 1, by omega, by go_num, q1, q2, q3, q4⟩, by simp [intOf]; omega⟩
   go_wp2_with fail
   have hV5 := HV.out.keep kp
   have x1 : (wr.alloc (.cells #[.int .i64 b, .slice (some ⟨gd, 0, none⟩) 40 cd] 50)).cell? ⟨X, 1, none⟩ = some (.map (some rx)) := cell_is hV5.x 1 rfl
   have p0 : (wr.alloc (.cells #[.int .i64 b, .slice (some ⟨gd, 0, none⟩) 40 cd] 50)).cell? ⟨wr.heap.size, 0, none⟩ = some (.int .i64 b) := cell_is Kp 0 rfl
   have p1 : (wr.alloc (.cells #[.int .i64 b, .slice (some ⟨gd, 0, none⟩) 40 cd] 50)).cell? ⟨wr.heap.size, 1, none⟩ = some (.slice (some ⟨gd, 0, none⟩) 40 cd) := cell_is Kp 1 rfl
   have b0 : (wr.alloc (.cells #[.int .i64 b, .slice (some ⟨gd, 0, none⟩) 40 cd] 50)).cell? ⟨z, 0, none⟩ = some (.int .i64 k) := cell_is (kp.heap Kr (by simp)) 0 rfl
   have HLk := Lib.hid (fun wx (kx : Chg [] wr wx) => show (Instr.lookup 268 (.map (some rx)) (.int .i64 b) false).run Tryz.prog wx = .ok v wx from by
    have := lookup258g (HV.out.keep kx).m b
    rw [hgv] at this
    exact this)
   generalize hw5 : wr.alloc (.cells #[.int .i64 b, .slice (some ⟨gd, 0, none⟩) 40 cd] 50) = w5 at *
   have hzp : wr.heap.size ≤ w5.heap.size := kp.size
   have kd : Chg [] wr w5.drew := kp.drew
   have hXn : X ∉ v.ownBlock.toList := own_block_ne HO.out HV.out.x (by decide)
   have hrn : rx ∉ v.ownBlock.toList := fun hm => by
    obtain ⟨-, cs, hh⟩ := own_elem HO.out (show v.ownBlock = some rx by simpa using hm)
    exact map_cells HV.out.m hh rfl
   have hzn : wr.heap.size ∉ v.ownBlock.toList := own_block_ne (ownsRow_av HO.out kp (Av.nil _ _)) Kp (by decide)
   have HXn := Lib.hid hXn
   have HRn := Lib.hid hrn
   have HZn := Lib.hid hzn
   have HBn := Lib.hid (own_block_ne (ownsRow_av HO.out kp (Av.nil _ _)) (kp.heap HKr.out (by simp)) (by decide) : z ∉ v.ownBlock.toList)
   clear hXn hrn hzn
   have hl5 : lo ≤ w5.drew.heap.size := Nat.le_trans hlr hzp
   have hlk5 := HLk.out w5.drew kd
   have x1d : w5.drew.cell? ⟨X, 1, none⟩ = some (.map (some rx)) := x1
   have p0d : w5.drew.cell? ⟨wr.heap.size, 0, none⟩ = some (.int .i64 b) := p0
   have p1d : w5.drew.cell? ⟨wr.heap.size, 1, none⟩ = some (.slice (some ⟨gd, 0, none⟩) 40 cd) := p1
   have b0d : w5.drew.cell? ⟨z, 0, none⟩ = some (.int .i64 k) := b0
   clear hgv d0 d1 Kr
   generalize wr.heap.size = zp at *
   go_region_held3 (fun wx => wx.cell? ⟨X, 1, none⟩ = some (.map (some rx)) ∧ wx.cell? ⟨zp, 0, none⟩ = some (.int .i64 b) ∧ wx.cell? ⟨zp, 1, none⟩ = some (.slice (some ⟨gd, 0, none⟩) 40 cd) ∧ wx.cell? ⟨z, 0, none⟩ = some (.int .i64 k))
    (first
     | (exact ⟨x1d, p0d, p1d, b0d⟩)
     | (exact ⟨x16, p06, p16, b06⟩)
     | (exact ⟨x1y, p0y, p1y, b0y⟩)
     | (exact ⟨x17, p07, p17, b07⟩)
     | (exact ⟨k9.cell x17 (by simpa using cell_map m7 x17), k9.cell p07 (by simpa using cell_map m7 p07), k9.cell p17 (by simpa using cell_map m7 p17), k9.cell b07 (by simpa using cell_map m7 b07)⟩))
    (first
     | (go_simp; go_at_call 126; refine (clone_bt w5.drew (l := d) (m := 40) hd40.out (by decide) (by decide) (HBs.out.chg kd)).mono ?_; rintro e w6 ⟨g2, c2, rfl, k6, bs6, l6, bt6⟩; have k6r := kd.then k6; have x16 := k6.cell x1d (by simp); have p06 := k6.cell p0d (by simp); have p16 := k6.cell p1d (by simp); have b06 := k6.cell b0d (by simp); have hlk6 := HLk.out w6 k6r; have ky : Chg [] wr (w6.alloc (.cells #[.int .i64 k, .slice (some ⟨g2, 0, none⟩) 40 c2] 288)) := k6r.then_alloc _; have y0 := heap_new w6 (.cells #[.int .i64 k, .slice (some ⟨g2, 0, none⟩) 40 c2] 288); have kyy : Chg [] w6 (w6.alloc (.cells #[.int .i64 k, .slice (some ⟨g2, 0, none⟩) 40 c2] 288)) := Chg.alloc w6 _; have x1y := kyy.cell x16 (by simp); have p0y := kyy.cell p06 (by simp); have p1y := kyy.cell p16 (by simp); have b0y := kyy.cell b06 (by simp); have hlky := HLk.out _ ky; have oy := ownsRow_av HO.out ky (Av.nil _ _); have hby : lo ≤ (w6.alloc (.cells #[.int .i64 k, .slice (some ⟨g2, 0, none⟩) 40 c2] 288)).heap.size := (by have := k6.size; have := kyy.size; omega))
     | (refine step_append_ver rfl (.tmp 74) (.tmp 81) rfl lo _ _ xs rfl oy w6.heap.size 1 _ _ rfl (cell_is y0 0 rfl) (cell_is y0 1 rfl) ⟨rfl, rfl⟩ HLn.out hby ?_; intro g7 cp7 w7 o7 k7 i7; have x17 := k7.cell x1y HXn.out; have p07 := k7.cell p0y HZn.out; have p17 := k7.cell p1y HZn.out; have b07 := k7.cell b0y HBn.out; have m7 := (HV.out.keep ky).m.keep k7 HRn.out; obtain ⟨hmu, m8, k9⟩ := upd258 m7 b (.slice (some ⟨g7, 0, none⟩) ((vj b).length + 1) cp7)))
   all_goals
    obtain ⟨hvF, haF, hcF⟩ := VerG.added (d := d) (k := k) (HV.out.keep ky) HAp.out HKs.out HGl.out oy (fun i hi => by
     obtain ⟨e1, g', c', e2, e3, e4, e5⟩ := HX.out i hi
     exact ⟨e1, g', c', e2, e3.chg ky, e4, Bt.keep e5 ky (by simp)⟩) rfl o7 k7 i7 (bs6.chg kyy) hd40.out (Bt.keep bt6 kyy (by simp)) m8 k9 (fun c => by
     have := HVl.out c
     omega)
    have hkF : ∀ p ∈ putL L b (.slice (some ⟨g7, 0, none⟩) ((vj b).length + 1) cp7), 0 ≤ p.1 ∧ p.1 < 258 := putL_keys (P := fun x => 0 ≤ x ∧ x < 258) HKs.out HKj.out
    have hcC : Cv lo X rx wr (updW w7 268 rx b (.slice (some ⟨g7, 0, none⟩) ((vj b).length + 1) cp7)) := (Cv.of_chg ky).trans hcF
    have hA' := Lib.hid (Ap.mk (w := w) (last := last) (k := k) (vs := vs) (l := l) (j := j + 1) ⟨_, HT.out ▸ hvF, haF, hkF⟩ (HAr.out.cv.trans hcC))
    obtain ⟨TT, hT1, hT2⟩ := hcC
    have hXr := HV.out.x
    have hmr := HV.out.m
    have hP' := Lib.hid (HPr.out.keep hT1 (Cv.av hT2 hXr hmr (by decide) (by decide)) (fun g hg hm => by
     obtain ⟨-, cs, hh⟩ := HPr.out.block g hg
     exact (Cv.av (ts := [50]) hT2 hXr hmr (by decide) (by decide)).ne hh (by simp) hm))
    have hK' := Lib.hid (hT1.heap HKr.out ((Cv.av (ts := [185]) hT2 hXr hmr (by decide) (by decide)).ne HKr.out (by simp)))
    have hS' := Lib.hid (show lo ≤ (updW w7 268 rx b (.slice (some ⟨g7, 0, none⟩) ((vj b).length + 1) cp7)).heap.size from by
     have := k6.size
     have := kyy.size
     have := hcF.size
     omega)
    clear hvF haF hcF hkF hT1 hT2 hXr hmr hmu
    go_wp2_with fail
    go_meet
    exact ⟨hA'.out, hP'.out, hK'.out, hS'.out⟩
  ·obtain rfl : j = l.length := by omega
   obtain ⟨L, hver, hap, hkeys⟩ := hAr.ver
   rw [List.take_length] at hver
   have b13 : wr.cell? ⟨z, 0, none⟩ = some (.int .i64 k) := cell_is Kr 0 rfl
   have x2 : wr.cell? ⟨X, 2, none⟩ = some (.int .i64 last) := cell_is hver.x 2 rfl
   have f2 := unfrozen hver.x 2
   have HV := Lib.hid (hver.timed k)
   have HC := Lib.hid (hAr.cv.trans ⟨[X], Chg.set wr X 2 (.int .i64 k), fun x hx _ => Or.inl (by simpa using hx)⟩)
   clear hver hAr hPr Kr
   go_wp2_with fail
   go_ret
   exact ⟨rfl, HC.out, L, HV.out, hap, hkeys⟩
theorem getL_of_mem {L : List (Int × Value)} (hn : (L.map Prod.fst).Nodup) {p : Int × Value} (hp : p ∈ L) : getL L p.1 = some p.2 := by
 induction L with
 | nil => cases hp
 | cons a l ih =>
  rw [List.map_cons, List.nodup_cons] at hn
  simp only [getL]
  rcases List.mem_cons.1 hp with rfl | h
  ·rw [if_pos rfl]
  ·rw [if_neg (fun e => hn.1 (by rw [← e]; exact List.mem_map.2 ⟨p, h, rfl⟩))]
   exact ih hn.2 h
theorem MapAt.entries {w : World} {r : Nat} {L : List (Int × Value)} (h : MapAt w r L) : ∃ es clock, w.heap[r]? = some (.map es clock) ∧ MapKept.Stamped es clock ∧ ∀ e ∈ es.toList, ∃ k, e.key = .int .i64 k ∧ (k, e.val) ∈ L ∧ getL L k = some e.val := by
 have hn := h.nodup
 obtain ⟨es, clock, hb, hI, hS⟩ := h
 refine ⟨es, clock, hb, hS, fun e he => ?_⟩
 have h1 : (e.key, e.val) ∈ es.toList.map (fun e => (e.key, e.val)) := List.mem_map.2 ⟨e, he, rfl⟩
 rw [hI] at h1
 obtain ⟨p, hp, e1⟩ := List.mem_map.1 h1
 have e2 : e.key = .int .i64 p.1 := (congrArg Prod.fst e1).symm
 have e3 : e.val = p.2 := (congrArg Prod.snd e1).symm
 exact ⟨p.1, e2, by rw [e3]; exact hp, by rw [e3]; exact getL_of_mem hn hp⟩
def OldV (L : List (Int × Value)) (vs : Int → List (Int × List UInt8)) (t : Int) : Prop := (∀ p ∈ L, 0 ≤ p.1 ∧ p.1 < 258) ∧ ∀ b, ∀ x ∈ vs b, x.1 ≤ t
set_option maxRecDepth 100000 in
set_option maxHeartbeats 1000000 in
theorem written_old (w : World) {lo X rx : Nat} {last : Int} {L : List (Int × Value)} {vs : Int → List (Int × List UInt8)} (h : VerG w lo X rx last L vs) (b n t : Int) (ho : OldV L vs t) : Calls Tryz.prog 227 #[.pointer (some ⟨X, 0, none⟩), .agg #[.int .i64 b, .int .i64 n], .int .i64 t] w fun e w' => e = .returned (.bool false) ∧ Chg [] w w' := by
 have kA : Chg [] w (w.alloc (.cells #[.int .i64 b, .int .i64 n] 79)) := Chg.alloc w _
 have A0 := heap_new w (.cells #[.int .i64 b, .int .i64 n] 79)
 have h2 := h.keep kA
 have x0 : (w.alloc (.cells #[.int .i64 b, .int .i64 n] 79)).cell? ⟨X, 0, none⟩ = some (.int .i64 258) := cell_is h2.x 0 rfl
 have x1 : (w.alloc (.cells #[.int .i64 b, .int .i64 n] 79)).cell? ⟨X, 1, none⟩ = some (.map (some rx)) := cell_is h2.x 1 rfl
 have a0 : (w.alloc (.cells #[.int .i64 b, .int .i64 n] 79)).cell? ⟨w.heap.size, 0, none⟩ = some (.int .i64 b) := cell_is A0 0 rfl
 have a1 : (w.alloc (.cells #[.int .i64 b, .int .i64 n] 79)).cell? ⟨w.heap.size, 1, none⟩ = some (.int .i64 n) := cell_is A0 1 rfl
 have HG := Lib.hid (xgone_any _ x0)
 have H2 := Lib.hid h2
 clear h h2 A0
 go_enter Tryz.func227, Tryz.ntmps227
 go_upto_region 1 with fail
 generalize w.alloc (.cells #[.int .i64 b, .int .i64 n] 79) = w1 at *
 generalize hz : w.heap.size = z at *
 go_cut [38] from 7 (fun v wx => (∃ r : Bool, v = .bool r) ∧ wx = w1)
 case first =>
  go_wp2_with fail
  refine HG.out.mono ?_
  rintro e w2 ⟨rfl, rfl⟩
  go_wp2_with fail
  all_goals
   go_meet
   exact ⟨⟨_, rfl⟩, rfl⟩
 case rest =>
  obtain ⟨⟨r, rfl⟩, rfl⟩ := hcut
  rename World => wd
  cases r
  ·obtain ⟨es, clock, hm, hst, hen⟩ := H2.out.m.entries
   have hr1 := run_range_map (P := Tryz.prog) wd 268 3 286 rx es clock (by kernel_rfl) hm
   have HE := Lib.hid hen
   have HO := Lib.hid ho
   clear hen ho
   have kR : Chg [] wd (wd.alloc (.mapIter (some rx) clock #[] clock)) := Chg.alloc wd _
   have R0 := heap_new wd (.mapIter (some rx) clock #[] clock)
   go_wp2_with fail
   generalize hzR : wd.heap.size = R at *
   generalize wd.alloc (.mapIter (some rx) clock #[] clock) = w3 at *
   go_loopw [7, 8] (fun _ _ wr => ∃ seen, wr.heap[R]? = some (.mapIter (some rx) clock seen clock) ∧ Chg [] wd wr) (fun _ _ wr => (leftOf es (wr.iterSeen R)).size)
   case atStart => exact ⟨#[], R0, kR⟩
   case round =>
    obtain ⟨seen, hR, kr⟩ := hrel
    have hb1 : wr.heap[rx]? = some (.map es clock) := kr.heap hm (by simp)
    rcases run_next_at (P := Tryz.prog) wr 0 R rx clock clock seen es clock hR hb1 hst.1 (Nat.le_refl _) with ⟨h0, hrun⟩ | ⟨e, he, w2, hal2, hrun⟩
    ·have hnx : ∀ ty, (Instr.next (.pointer (some ⟨R, 0, none⟩)) false ty).run Tryz.prog wr = _ := fun _ => hrun
     have kF : Chg [] w wr := kA.then kr
     go_wp2_with fail
     go_ret
     exact ⟨rfl, kF⟩
    ·obtain ⟨k, hk, hL, hget⟩ := HE.out e (mem_left he).1
     obtain ⟨hk0, hk1⟩ := HO.out.1 _ hL
     have hk0' : 0 ≤ k := hk0
     have hk1' : k < 258 := hk1
     obtain ⟨v, hv, hrow, hne⟩ : ∃ v, e.val = v ∧ VRow wd lo v (vs k) ∧ vs k ≠ [] := by
      rcases H2.out.row k hk0' hk1' with ⟨e1, _⟩ | ⟨v, e1, e2, e3⟩
      ·rw [hget] at e1; cases e1
      ·rw [hget] at e1; cases e1; exact ⟨_, rfl, e2, e3⟩
     have h5 : ∃ w5, w5 = Go.ChangeMaps.setBlock w2 R (.mapIter (some rx) clock (seen.push e.born) clock) ∧ w5.heap[R]? = some (.mapIter (some rx) clock (seen.push e.born) clock) ∧ Chg [] wd w5 := by
      refine ⟨_, rfl, ?_, ?_⟩
      ·have hl : R < w2.heap.size := by rcases hal2 with rfl | rfl <;> exact heap_lt hR
       simp [Go.ChangeMaps.setBlock, hl]
      ·have kk : Chg [] wd w2 := by rcases hal2 with e | e <;> rw [e]; exact kr; exact kr.drew
       refine kk.trans (T := [R]) ⟨rfl, rfl, rfl, by simp [Go.ChangeMaps.setBlock], fun q _ hq => ?_⟩ (fun x hx hlt => by rw [List.mem_singleton] at hx; omega)
       have : R ≠ q := by intro e; exact hq (by rw [e]; simp)
       simp [Go.ChangeMaps.setBlock, this]
     obtain ⟨w5, e5, hR5, k5⟩ := h5
     rw [← e5] at hrun
     have hen := run_entry_at (P := Tryz.prog) w5 R rx clock seen es clock e hR5 (k5.heap hm (by simp)) (mem_left he).1 hst.2.1
     have HM := Lib.hid (left_shrinks es seen e he)
     obtain ⟨j, hj⟩ : ∃ j, (vs k).length = j + 1 := ⟨(vs k).length - 1, by have := List.length_pos_iff.2 hne; omega⟩
     obtain ⟨g, cap, gd, cd, rfl, hcap, d0, -, -, -, -⟩ := hrow.get j (by omega)
     have hsm := H2.out.small k
     have hold : ((vs k)[j]'(by omega)).1 ≤ t := HO.out.2 k _ (List.getElem_mem _)
     have d5 := k5.cell d0 (by simp)
     have y0 := k5.cell a0 (by simp)
     have y1 := k5.cell a1 (by simp)
     rw [hk, hv, hj] at hrun hen
     rw [hj] at hcap
     have kz : Chg [] w w5 := kA.then k5
     have hnx : ∀ ty, (Instr.next (.pointer (some ⟨R, 0, none⟩)) false ty).run Tryz.prog wr = _ := fun _ => hrun
     clear d0 hrow hL hget hk hv hne hal2 kr hb1 hrun e5
     generalize ((vs k)[j]'(by omega)).1 = tl at *
     go_upto_region 6 with fail
     have ej : wrap64 (((j + 1 : Nat) : Int) - 1) = j := by unfold wrap64; omega
     go_cut [72] from 44 (fun v wx => v = .bool false ∧ wx = w5)
     case first =>
      have hl1 : j < j + 1 := by omega
      have htl : decide (tl > t) = false := decide_eq_false (by omega)
      go_wp2_with fail
      all_goals
       go_meet
       exact ⟨by simp, rfl⟩
     case rest =>
      obtain ⟨rfl, rfl⟩ := hcut
      go_wp2_with fail
      go_roundw
      case rel => exact ⟨_, hR5, k5⟩
      case measure => simp only [World.iterSeen, hR5, hR]; exact HM.out
  ·go_wp2_with fail
   go_ret
   exact ⟨rfl, kA⟩
theorem BookAt.keepT {w w' : World} {T : List Nat} {B rb : Nat} {last : Int} {L : List (Int × Value)} (h : BookAt w B rb last L) (hc : Chg T w w') (h1 : B ∉ T) (h2 : rb ∉ T) : BookAt w' B rb last L := ⟨hc.heap h.1 h1, h.2.keep hc h2⟩
set_option maxRecDepth 100000 in
theorem bat_ok (w : World) {B rb : Nat} {last k t : Int} {L : List (Int × Value)} (h : BookAt w B rb last L) (hg : getL L k = some (.int .i64 t)) : Calls Tryz.prog 224 #[.pointer (some ⟨B, 0, none⟩), .int .i64 k] w fun e w' => e = .returned (.tuple #[.int .i64 t, .int .i64 0]) ∧ w = w' := by
 have c2 : w.cell? ⟨B, 2, none⟩ = some (.map (some rb)) := cell_is h.1 2 rfl
 have hl : (Instr.lookup 263 (.map (some rb)) (.int .i64 k) true).run Tryz.prog w = .ok (.tuple #[.int .i64 t, .bool true]) w := by
  have := lookup268 h.2 k true
  rw [hg] at this
  exact this
 clear h hg
 go_enter Tryz.func224, Tryz.ntmps224
 go_wp2_with fail
 go_ret2
 exact ⟨rfl, rfl⟩
set_option maxRecDepth 100000 in
theorem bclose_ok (w : World) {B rb : Nat} {last k t : Int} {L : List (Int × Value)} (h : BookAt w B rb last L) (hg : getL L k = some (.int .i64 t)) : Calls Tryz.prog 187 #[.pointer (some ⟨B, 0, none⟩), .int .i64 k] w fun e w' =>
  e = .returned (.int .i64 0) ∧ BookAt w' B rb last (delL L k) ∧ Chg [rb] w w' := by
 have HA := Lib.hid (bat_ok w h hg)
 have c2 : w.cell? ⟨B, 2, none⟩ = some (.map (some rb)) := cell_is h.1 2 rfl
 obtain ⟨w1, hd0, h1, h2, -⟩ := run_delete_im (P := Tryz.prog) (mty := 263) (kt := 3) (et := 3) (by kernel_rfl) (by kernel_rfl) h.2 k 0
 have hd : ∀ ty, (Builtin.delete_ #[263, 3] ty #[.map (some rb), .int .i64 k]).run Tryz.prog w = .ok (.tuple #[]) w1 := fun ty => hd0
 have hB1 : BookAt w1 B rb last (delL L k) := ⟨h2.heap h.1 (by simpa using (map_cells h.2 h.1).symm), h1⟩
 have HB := Lib.hid hB1
 clear h hg h1 hB1
 go_enter Tryz.func187, Tryz.ntmps187
 go_wp2_with fail
 refine HA.out.mono ?_
 rintro e w2 ⟨rfl, rfl⟩
 go_wp2_with fail
 go_ret
 exact ⟨rfl, HB.out, h2⟩
set_option maxRecDepth 100000 in
theorem tend_ok (w : World) {M X B r T W Q rb : Nat} {qv : Value} {out num bas last given bl h t0 : Int} {rd : Bool} {Lr Lb : List (Int × Value)} {s0 c0 k t : Int} (hM : MgrG w M X B r qv out num bas last given rd) (hr : MapAt w r Lr) (hg : getL Lr h = some (.pointer (some ⟨T, 0, none⟩)))
  (hT : w.heap[T]? = some (.cells #[.int .i64 s0, .int .i64 k, .int .i64 c0, .int .i64 t, .pointer (some ⟨W, 0, none⟩), .pointer (some ⟨Q, 0, none⟩)] 203 (0, 0))) (hB : BookAt w B rb bl Lb) (hb : getL Lb h = some (.int .i64 t0)) :
  Calls Tryz.prog 121 #[.pointer (some ⟨M, 0, none⟩), .int .i64 h, .int .i64 3, .int .i64 0] w fun e w' => e = .returned (.tuple #[]) ∧ Chg [T, rb] w w' ∧ BookAt w' B rb bl (delL Lb h) ∧
   w'.heap[T]? = some (.cells #[.int .i64 3, .int .i64 k, .int .i64 0, .int .i64 t, .pointer (some ⟨W, 0, none⟩), .pointer (some ⟨Q, 0, none⟩)] 203 (0, 0)) := by
 have m2 : w.cell? ⟨M, 2, none⟩ = some (.map (some r)) := cell_is hM 2 rfl
 have m1 : w.cell? ⟨M, 1, none⟩ = some (.pointer (some ⟨B, 0, none⟩)) := cell_is hM 1 rfl
 have hl : (Instr.lookup 193 (.map (some r)) (.int .i64 h) false).run Tryz.prog w = .ok (.pointer (some ⟨T, 0, none⟩)) w := by
  have := lookup178 hr h false
  rw [hg] at this
  exact this
 have t0' : w.cell? ⟨T, 0, none⟩ = some (.int .i64 s0) := cell_is hT 0 rfl
 have t2' : w.cell? ⟨T, 2, none⟩ = some (.int .i64 c0) := cell_is hT 2 rfl
 have f0 := unfrozen hT 0
 have f2 := unfrozen hT 2
 have hBT : B ≠ T := heap_ne hB.1 hT (by simp)
 have hrT : rb ≠ T := map_cells hB.2 hT
 have hMT : M ≠ T := heap_ne hM hT (by simp)
 have hTS := heap_set (heap_set hT 0 (.int .i64 3) rfl) 2 (.int .i64 0) rfl
 have kS : Chg [T] w ((w.setCell ⟨T, 0, none⟩ (.int .i64 3)).setCell ⟨T, 2, none⟩ (.int .i64 0)) := ((Chg.refl [T] w).then_set (fun _ => by simp) 0 _).then_set (fun _ => by simp) 2 _
 have hBS := hB.keepT kS (by simpa using hBT) (by simpa using hrT)
 have HC := Lib.hid (bclose_ok _ hBS hb)
 have m1S := kS.cell m1 (by simpa using hMT)
 have HTS := Lib.hid hTS
 clear hM hr hg hT hB hb hBS hTS
 go_enter Tryz.func121, Tryz.ntmps121
 go_wp2_with fail
 refine HC.out.mono ?_
 rintro e w2 ⟨rfl, h1, h2⟩
 go_wp2_with fail
 refine bodyPost_end (v := .tuple #[]) (by simp [results, Tryz.results121, go_sem]) rfl ?_
 exact ⟨rfl, (kS.mono (fun x hx _ => by simp at hx; simp [hx])).then (h2.mono (fun x hx _ => by simp at hx; simp [hx])), h1, h2.heap HTS.out (by simpa using hrT.symm)⟩
end Go.Proofs.YtelakcjbknbehaaGreat
