/- Lemmas and walks. -/
import Derived.Maps.AppendAt
import Derived.Deep.CutBlock
import Derived.Test.YtelakcjbknbehaaGreatEb
import Derived.Test.YtelakcjbknbehaaGreatEd
import Derived.Test.YtelakcjbknbehaaGreatEe
import Derived.Test.YtelakcjbknbehaaGreatEf
import Derived.Test.YtelakcjbknbehaaGreatEh
namespace Go.Proofs.YtelakcjbknbehaaGreat
open Go.RowKit Go.Lib

set_option maxRecDepth 100000 in
set_option maxHeartbeats 4000000 in
theorem check_old (w : World) {lo X rx lo1 U1 m1 n1 lo2 U2 m2 n2 cq : Nat} {pq : Option Addr} {last t : Int} {Lv : List (Int × Value)} {vs : Int → List (Int × List UInt8)} (h : VerG w lo X rx last Lv vs) (ho : OldV Lv vs t) (hr : SpW w lo1 U1 m1 n1) (hw : SpW w lo2 U2 m2 n2) (hn1 : n1 ≤ 1000) (hn2 : n2 ≤ 1000) :
  Calls Tryz.prog 188 #[.pointer (some ⟨X, 0, none⟩), .slice pq 0 cq, .int .i64 t, .pointer (some ⟨U1, 0, none⟩), .pointer (some ⟨U2, 0, none⟩)] w fun e w' => e = .returned (.int .i64 0) ∧ Chg [] w w' := by
 have HC := Lib.hid (count_any w hw hn2)
 have HV := Lib.hid h
 have HOl := Lib.hid ho
 have HR := Lib.hid hr
 have HW := Lib.hid hw
 clear h ho hr hw
 go_enter Tryz.func188, Tryz.ntmps188
 go_wp2_with fail
 go_step3
 go_wp2_with fail
 refine HC.out.mono ?_
 rintro e w1 ⟨⟨r, rfl⟩, k1⟩
 by_cases hr0 : r = 0
 ·subst hr0
  go_wp2_with fail
  simp only [Exit.noGoto]
  go_ret
  exact ⟨rfl, k1⟩
 ·go_wp2_with fail
  go_step3
  go_wp2_with fail
  have hrb : (r == 0) = false := by simpa using hr0
  rw [hrb]
  have hi0 : ∀ w, (Instr.index 307 (.agg #[.pointer (some ⟨U1, 0, none⟩), .pointer (some ⟨U2, 0, none⟩)]) (.int .i64 ((0 : Nat) : Int))).run Tryz.prog w = .ok (.pointer (some ⟨U1, 0, none⟩)) w := fun w => by kernel_rfl
  have hi1 : ∀ w, (Instr.index 307 (.agg #[.pointer (some ⟨U1, 0, none⟩), .pointer (some ⟨U2, 0, none⟩)]) (.int .i64 ((1 : Nat) : Int))).run Tryz.prog w = .ok (.pointer (some ⟨U2, 0, none⟩)) w := fun w => by kernel_rfl
  go_loopw [11, 13, 15, 17, 24] (fun e _ _ _ i wr => ∃ j : Nat, j ≤ 2 ∧ i = .int .i64 j ∧ e = .int .i64 0 ∧ Chg [] w1 wr) (fun _ _ _ _ i _ => 2 - (intOf i).toNat)
  case atStart => exact ⟨0, by omega, rfl, rfl, Chg.refl _ _⟩
  case round =>
   obtain ⟨j, hj, rfl, rfl, kr⟩ := hrel
   by_cases hj2 : j < 2
   ·obtain ⟨U, lo3, m3, n3, hi, hS, hn3⟩ : ∃ U lo3 m3 n3, (∀ w, (Instr.index 307 (.agg #[.pointer (some ⟨U1, 0, none⟩), .pointer (some ⟨U2, 0, none⟩)]) (.int .i64 (j : Int))).run Tryz.prog w = .ok (.pointer (some ⟨U, 0, none⟩)) w) ∧ SpW wr lo3 U m3 n3 ∧ n3 ≤ 1000 := by
     have kk := k1.then kr
     rcases (show j = 0 ∨ j = 1 by omega) with rfl | rfl
     ·exact ⟨U1, _, _, _, hi0, HR.out.keep0 kk, hn1⟩
     ·exact ⟨U2, _, _, _, hi1, HW.out.keep0 kk, hn2⟩
    have HE := Lib.hid (extents_any wr hS hn3)
    clear hi0 hi1 hS
    go_wp2_with fail
    refine HE.out.mono ?_
    rintro e w2 ⟨pb, m, cb, l, rfl, k2, hq, hl, hm⟩
    have HQ := Lib.hid hq
    clear hq
    go_wp2_with fail
    go_loopw [11, 15, 30] (fun e _ i wz => ∃ q : Nat, q ≤ m ∧ i = .int .i64 q ∧ e = .int .i64 0 ∧ Chg [] w2 wz) (fun _ _ i _ => m - (intOf i).toNat)
    case atStart => exact ⟨0, by omega, rfl, rfl, Chg.refl _ _⟩
    case round =>
     obtain ⟨q, hq, rfl, rfl, kz⟩ := hrel
     rename World => wz
     have kk : Chg [] w1 wz := (kr.then k2).then kz
     by_cases hqm : q < m
     ·obtain ⟨b, o, rfl, c0, c1⟩ := (HQ.out.keep kz).get q (by omega)
      generalize (l[q]'(by omega)).1 = x at *
      generalize (l[q]'(by omega)).2 = y at *
      have ka : Chg [] wz (wz.alloc (.cells #[.int .i64 x, .int .i64 y] 79)) := Chg.alloc wz _
      have HWr := Lib.hid (written_old (wz.alloc (.cells #[.int .i64 x, .int .i64 y] 79)) (HV.out.keep ((k1.then kk).then ka)) x y t HOl.out)
      go_wp2_with fail
      refine HWr.out.mono ?_
      rintro e w5 ⟨rfl, k5⟩
      go_wp2_with fail
      go_roundw
      case rel => exact ⟨q + 1, by omega, by simp, rfl, (kz.then ka).then k5⟩
      case measure => simp [intOf]; omega
     ·obtain rfl : q = m := by omega
      go_wp2_with fail
      go_loopw [11, 17, 41] (fun e _ i wy => i = .int .i64 0 ∧ e = .int .i64 0 ∧ wy = wz) (fun _ _ _ _ => 0)
      case atStart => exact ⟨rfl, rfl, rfl⟩
      case round =>
       obtain ⟨rfl, rfl, rfl⟩ := hrel
       go_wp2_with fail
       go_roundw
       case rel => exact ⟨j + 1, by omega, by simp, rfl, kk⟩
       case measure => simp [intOf]; omega
   ·obtain rfl : j = 2 := by omega
    go_wp2_with fail
    simp only [Exit.noGoto]
    go_ret
    exact ⟨rfl, k1.then kr⟩
set_option maxRecDepth 100000 in
set_option maxHeartbeats 4000000 in
theorem may_old (w : World) {M X B r cq lo rx T W rw Q V n base : Nat} {pq : Option Addr} {out num bas last given lastv t : Int} {Lv : List (Int × Value)} {vs : Int → List (Int × List UInt8)} {L : List (Int × Value)} {D : Int → List UInt8}
  (h : MgrG w M X B r (.slice pq 0 cq) out num bas last given false) (hg : given < 1099511627776) (hv : VerG w lo X rx lastv Lv vs) (ho : OldV Lv vs t) (hT : TxT w T W Q t) (hb : BufAt w W rw L) (hD : BufD w L D) (hk : ∀ x ∈ L, 0 ≤ x.1 ∧ x.1 < 258) (hl : L.length ≤ 16)
  (hV : VwT w base Q X W V t n) (hS : SpV w base V n) (hn : n ≤ 16) : Calls Tryz.prog 122 #[.pointer (some ⟨M, 0, none⟩), .pointer (some ⟨T, 0, none⟩)] w fun e w' => e = .returned (.int .i64 0) ∧ Chg [] w w' := by
 have m9 : w.cell? ⟨M, 9, none⟩ = some (.bool false) := cell_is h 9 rfl
 have m0 : w.cell? ⟨M, 0, none⟩ = some (.pointer (some ⟨X, 0, none⟩)) := cell_is h 0 rfl
 have m8 : w.cell? ⟨M, 8, none⟩ = some (.int .i64 given) := cell_is h 8 rfl
 have t3 : w.cell? ⟨T, 3, none⟩ = some (.int .i64 t) := cell_is hT 3 rfl
 have t4 : w.cell? ⟨T, 4, none⟩ = some (.pointer (some ⟨W, 0, none⟩)) := cell_is hT 4 rfl
 have t5 : w.cell? ⟨T, 5, none⟩ = some (.pointer (some ⟨Q, 0, none⟩)) := cell_is hT 5 rfl
 have kd : Chg [] w w.drew := (Chg.refl [] w).drew
 have HW := Lib.hid (waiting_none w.drew (kd.heap h (by simp)))
 have HV := Lib.hid (vset_any w.drew (hV.keep kd (Av.nil _ _)) (hS.keep0 kd) hn)
 have hS2 : ∀ wx, Chg [] w wx → wx.cell? ⟨M, 0, none⟩ = some (.pointer (some ⟨X, 0, none⟩)) ∧ wx.cell? ⟨T, 3, none⟩ = some (.int .i64 t) ∧ wx.cell? ⟨T, 4, none⟩ = some (.pointer (some ⟨W, 0, none⟩)) ∧ wx.cell? ⟨T, 5, none⟩ = some (.pointer (some ⟨Q, 0, none⟩)) :=
  fun wx k => ⟨k.cell m0 (by simp), k.cell t3 (by simp), k.cell t4 (by simp), k.cell t5 (by simp)⟩
 have HS2 := Lib.hid hS2
 have HBf := Lib.hid hb
 have HD := Lib.hid hD
 have HK := Lib.hid hk
 have HVr := Lib.hid hv
 have HOl := Lib.hid ho
 clear h hT hb hD hk hV hS hv ho hS2
 go_enter Tryz.func122, Tryz.ntmps122
 go_upto_region 3 with fail
 go_region_held3 (fun wx => wx.cell? ⟨M, 0, none⟩ = some (.pointer (some ⟨X, 0, none⟩)) ∧ wx.cell? ⟨T, 3, none⟩ = some (.int .i64 t) ∧ wx.cell? ⟨T, 4, none⟩ = some (.pointer (some ⟨W, 0, none⟩)) ∧ wx.cell? ⟨T, 5, none⟩ = some (.pointer (some ⟨Q, 0, none⟩)))
  (first
   | (with_reducible exact HS2.out _ kF) | (with_reducible exact HS2.out _ k3) | (with_reducible exact HS2.out _ k2) | (exact HS2.out _ kd))
  (first
   | (go_at_call 133; refine HW.out.mono ?_; rintro e w1 ⟨rfl, rfl⟩)
   | (go_at_call 189; refine HV.out.mono ?_; rintro e w2 ⟨U, loU, rfl, k2', hU, lU⟩; have k2 := kd.then k2')
   | (go_at_call 190; refine (bset_any w2 (HBf.out.keep k2 (by simp) (by simp)) (HD.out.keep k2) HK.out hl).mono ?_; rintro e w3 ⟨U2, loU2, most, rfl, k3', hU2, lU2⟩; have k3 := k2.then k3'; have hU3 := hU.keep0 k3')
   | (go_at_call 188; refine (check_old w3 (HVr.out.keep k3) HOl.out hU3 hU2 (by omega) (by omega)).mono ?_; rintro e w4 ⟨rfl, k4⟩; have kF := k3.then k4))
 all_goals
  have m84 := kF.cell m8 (by simp)
  have hng : ¬ (given ≥ 1099511627776) := by omega
  clear HW HV HS2 HBf HD HK HVr HOl hU hU2 hU3
  go_wp2_with fail
  go_ret
  exact ⟨rfl, kF⟩
set_option maxRecDepth 100000 in
set_option maxHeartbeats 4000000 in
theorem tcommit_old (w : World) {d : Ids} {p : Par} {cq n base loq : Nat} {pq : Option Addr} {out num bas last given : Int} {L : List (Int × Value)} {D : Int → List UInt8}
  (hN : Need w d p) (hv0 : OldV p.Lv p.vs p.t) (h : MgrG w d.M d.X d.B d.r (.slice pq 0 cq) out num bas last given false) (hg0 : 0 ≤ given) (hg : given < 1099511627776) (hq : w.ownsRow loq 3 1 (.slice pq 0 cq) 0 []) (hlq : loq ≤ w.heap.size) (hT : TxT w d.T d.W d.Q p.t) (hb : BufAt w d.W d.rw L) (hD : BufD w L D) (hk : ∀ x ∈ L, 0 ≤ x.1 ∧ x.1 < 258) (hl : L.length ≤ 16) (hl0 : 0 < L.length)
  (hV : VwT w base d.Q d.X d.W d.V p.t n) (hS : SpV w base d.V n) (hn : n ≤ 16) : Calls Tryz.prog 56 #[.pointer (some ⟨d.M, 0, none⟩), .int .i64 p.h] w fun e w' =>
  ∃ g c, e = .returned (.int .i64 0) ∧ Chg (d.M :: d.T :: (Value.slice pq 0 cq).ownBlock.toList) w w' ∧ MgrG w' d.M d.X d.B d.r (.slice (some ⟨g, 0, none⟩) 1 c) out num bas last (given + 1) false ∧ w'.ownsRow loq 3 1 (.slice (some ⟨g, 0, none⟩) 1 c) 1 [.int .i64 p.h] ∧ TxW w' d.T d.W d.Q (given + 1) p.t := by
 have HO := Lib.hid (topen_gen w hN hT)
 have t4 : w.cell? ⟨d.T, 4, none⟩ = some (.pointer (some ⟨d.W, 0, none⟩)) := cell_is hT 4 rfl
 have HLn := Lib.hid (blen_any w hb hD hk (by omega))
 have hver := hN.ver
 have HMy := Lib.hid (fun w1 (k : Chg [] w w1) => may_old w1 (k.heap h (by simp)) hg (hver.keep k) hv0 (k.heap hT (by simp)) (hb.keep k (by simp) (by simp)) (hD.keep k) hk hl (hV.keep k (Av.nil _ _)) (hS.keep0 k) hn)
 have hMT : d.M ≠ d.T := heap_ne h hT (by simp)
 have HM := Lib.hid h
 have HT := Lib.hid hT
 have HQ := Lib.hid hq
 have hl0i : ¬ (L.length : Int) = 0 := by omega
 have HL0 := Lib.hid hl0i
 clear hN hb hD hV hS hver h hT hq
 go_enter Tryz.func56, Tryz.ntmps56
 go_wp2_with fail
 refine HO.out.mono ?_
 rintro e w1 ⟨rfl, rfl⟩
 go_wp2_with fail
 refine HLn.out.mono ?_
 rintro e w1 ⟨rfl, k1⟩
 go_wp2_with fail
 refine (HMy.out w1 k1).mono ?_
 rintro e w2 ⟨rfl, k2'⟩
 have k2 := k1.then k2'
 have hM2 := k2.heap HM.out (by simp)
 have hT2 := k2.heap HT.out (by simp)
 have hq2 := ownsRow_av HQ.out k2 (Av.nil _ _)
 have hs2 := k2.size
 have m8 : w2.cell? ⟨d.M, 8, none⟩ = some (.int .i64 given) := cell_is hM2 8 rfl
 have f8 := unfrozen hM2 8
 have m3 : w2.cell? ⟨d.M, 3, none⟩ = some (.slice pq 0 cq) := cell_is hM2 3 rfl
 have f3 := unfrozen hM2 3
 have t0 : w2.cell? ⟨d.T, 0, none⟩ = some (.int .i64 1) := cell_is hT2 0 rfl
 have t1 : w2.cell? ⟨d.T, 1, none⟩ = some (.int .i64 0) := cell_is hT2 1 rfl
 have ft0 := unfrozen hT2 0
 have ft1 := unfrozen hT2 1
 have hgw : wrap64 (given + 1) = given + 1 := by unfold wrap64; omega
 have kS := ((((Chg.refl [] w2).mono (T := [d.M, d.T]) (fun x hx _ => by cases hx)).then_set (g := d.M) (fun _ => by simp) 8 (.int .i64 (given + 1))).then_set (g := d.T) (fun _ => by simp) 0 (.int .i64 2)).then_set (g := d.T) (fun _ => by simp) 1 (.int .i64 (given + 1))
 have hMS : MgrG (((w2.setCell ⟨d.M, 8, none⟩ (.int .i64 (given + 1))).setCell ⟨d.T, 0, none⟩ (.int .i64 2)).setCell ⟨d.T, 1, none⟩ (.int .i64 (given + 1))) d.M d.X d.B d.r (.slice pq 0 cq) out num bas last (given + 1) false :=
  heap_set_ne (heap_set_ne (heap_set hM2 8 _ rfl) hMT _ _) hMT _ _
 have hTS : TxW (((w2.setCell ⟨d.M, 8, none⟩ (.int .i64 (given + 1))).setCell ⟨d.T, 0, none⟩ (.int .i64 2)).setCell ⟨d.T, 1, none⟩ (.int .i64 (given + 1))) d.T d.W d.Q (given + 1) p.t :=
  heap_set (heap_set (heap_set_ne hT2 hMT.symm _ _) 0 _ rfl) 1 _ rfl
 have avS : Av w2 [d.M, d.T] [3] := fun x hx cs t fr hh => by
  simp at hx
  rcases hx with rfl | rfl
  ·rw [show w2.heap[d.M]? = _ from hM2] at hh; cases hh; simp
  ·rw [show w2.heap[d.T]? = _ from hT2] at hh; cases hh; simp
 have hqS := ownsRow_av hq2 kS avS
 clear HMy HLn HO k1 k2' t4
 go_upto_region 14 with fail
 have hsS : loq ≤ (((w2.setCell ⟨d.M, 8, none⟩ (.int .i64 (given + 1))).setCell ⟨d.T, 0, none⟩ (.int .i64 2)).setCell ⟨d.T, 1, none⟩ (.int .i64 (given + 1))).heap.size := by have := kS.size; omega
 clear m8 f8 m3 f3 t0 t1 ft0 ft1 avS hq2
 generalize ((w2.setCell ⟨d.M, 8, none⟩ (.int .i64 (given + 1))).setCell ⟨d.T, 0, none⟩ (.int .i64 2)).setCell ⟨d.T, 1, none⟩ (.int .i64 (given + 1)) = wS at *
 have m3 : wS.cell? ⟨d.M, 3, none⟩ = some (.slice pq 0 cq) := cell_is hMS 3 rfl
 go_wp2_with (at_builtin; refine wpList_append_lit rfl (.tmp 59) (.tmp 61) 115 3 rfl ty62 inf3 rfl (by decide) loq wS [.int .i64 p.h] 1 rfl (.slice pq 0 cq) 0 [] rfl hqS (by omega) (by decide) hsS (k := 0) rfl (by simp [Value.oneCell']) rfl 1 rfl ?_; intro v' w4 hap; obtain ⟨g4, c4, rfl⟩ := own_some hap.1 (by decide); have k4 : Chg (Value.slice pq 0 cq).ownBlock.toList wS w4 := Chg.own hap.2.2 (fun g hg _ => by have hg2 : (Value.slice pq 0 cq).ownBlock = some g := hg; simp [hg2]); have hM4 := k4.heap hMS (own_block_ne hqS hMS (by decide)); have m34 := cell_is hM4 3 rfl; have f34 := unfrozen hM4 3)
 have hT4 := k4.heap hTS (own_block_ne hqS hTS (by decide))
 have hset := Chg.set w4 d.M 3 (.slice (some ⟨g4, 0, none⟩) (0 + 1) c4)
 have hq4 := ownsRow_av hap.1 hset (Av.row hM4 (by decide))
 go_ret
 refine ⟨g4, c4, rfl, ?_, heap_set hM4 3 _ rfl, hq4, heap_set_ne hT4 hMT.symm _ _⟩
 refine (((k2.mono (fun x hx _ => by cases hx)).then (kS.mono ?_)).then (k4.mono ?_)).then (hset.mono ?_)
 ·intro x hx _; simp only [List.mem_cons, List.not_mem_nil, or_false] at hx; rcases hx with rfl | rfl <;> simp
 ·intro x hx _; exact List.mem_cons_of_mem _ (List.mem_cons_of_mem _ hx)
 ·intro x hx _; rw [List.mem_singleton] at hx; subst hx; exact List.mem_cons_self
def begS (s : Gs) (T : Nat) : Gs := { s with bl := s.bl + 1, Lb := [(s.bl + 1, .int .i64 s.last)], Lr := putL s.Lr (s.bl + 1) (.pointer (some ⟨T, 0, none⟩)) }
def begP (s : Gs) : Par := ⟨s.bl + 1, s.last, s.lo, s.lastv, s.Lv, s.vs⟩
def StoF (lw : Nat) (d : Ids) (s : Gs) (g : Gd) (w : World) : Prop := Sto w lw d s g
theorem fr_sto {lw base : Nat} {d : Ids} {s : Gs} {g : Gd} {p : Par} (hl : d.rx < base ∧ d.rb < base ∧ d.r < base) (hg : getL s.Lr p.h = some (.pointer (some ⟨d.T, 0, none⟩))) (e1 : p.lo = s.lo) (e2 : p.last = s.lastv) (e3 : p.Lv = s.Lv) (e4 : p.vs = s.vs) : Fr base d p (StoF lw d s g) := by
 refine ⟨fun w h => ?_, fun a b ho h => ?_⟩
 ·have h' : Sto w lw d s g := h
  exact ⟨cell_is h'.store 0 rfl, cell_is h'.store 5 rfl, cell_is h'.store 9 rfl, ⟨_, _, h'.dev.hdr⟩, h'.mx.cells.1, h'.mx.cells.2.2.1, ⟨_, h'.mx.map, hg⟩, by rw [e1, e2, e3, e4]; exact h'.mx.ver⟩
 ·have h' : Sto a lw d s g := h
  obtain ⟨T, h1, h2⟩ := ho
  refine h'.keepA h1 (fun x hx cs t fr hh ht => ?_) (fun hm => ?_) (fun hm => ?_) (fun hm => ?_)
  ·rcases (h2 x hx).2 cs t fr hh with rfl | rfl | rfl <;> simp at ht
  ·have := (h2 _ hm).1; omega
  ·have := (h2 _ hm).1; omega
  ·have := (h2 _ hm).1; omega
def BegT (w w' : World) (lw : Nat) (d : Ids) (s : Gs) (g : Gd) : Prop := ∃ T W rw Q V, Cs lw w w' ∧ w.heap.size ≤ T ∧
 Su w' w.heap.size { d with T := T, W := W, rw := rw, Q := Q, V := V } (begP s) (StoF lw { d with T := T, W := W, rw := rw, Q := Q, V := V } (begS s T) g) (fun b => bytT (s.vs b) s.last) [] 0
theorem Su.bufD {w : World} {base : Nat} {d : Ids} {p : Par} {F : World → Prop} {q : Int → List UInt8} {L : List (Int × Value)} {n : Nat} (h : Su w base d p F q L n) : BufD w L q := by
 intro k v hv
 have hk := h.keys (k, v) (getL_memk hv)
 rcases h.blk k hk.1 hk.2 with ⟨e, -⟩ | ⟨g, c, e, h1, h2, h3⟩
 ·rw [e] at hv; cases hv
 ·rw [e] at hv
  cases hv
  exact ⟨g, c, rfl, h1, h2, h3⟩
def comS (s : Gs) (g c : Nat) : Gs := { s with qv := .slice (some ⟨g, 0, none⟩) 1 c, given := s.given + 1 }
def Cq (lw c : Nat) (w w' : World) : Prop := ∃ U, Chg U w w' ∧ ∀ x ∈ U, x < w.heap.size → lw ≤ x ∧ ∀ cs t fr, w.heap[x]? = some (.cells cs t fr) → t = 195 ∨ t = 203 ∨ (t = 3 ∧ cs.size = c)
def ComR (w w' : World) (lw cq0 : Nat) (d : Ids) (s : Gs) (g : Gd) (p : Par) (L : List (Int × Value)) (q : Int → List UInt8) (k : Nat) : Prop :=
 ∃ gq cq, Sto w' lw d (comS s gq cq) g ∧ Wtx w' d (comS s gq cq) gq cq p.h k p.t p.t L q ∧ Cq lw cq0 w w'
set_option maxRecDepth 100000 in
theorem scommit_sto (w : World) {lw base loq n k : Nat} {d : Ids} {s : Gs} {g : Gd} {p : Par} {q : Int → List UInt8} {L : List (Int × Value)} {pq : Option Addr} {cq : Nat} (hf : Fr base d p (StoF lw d s g)) (h : Su w base d p (StoF lw d s g) q L n) (hqv : s.qv = .slice pq 0 cq) (hq : w.ownsRow loq 3 1 (.slice pq 0 cq) 0 []) (hlq : loq ≤ w.heap.size) (hlw : lw ≤ loq)
  (hrd : s.rd = false) (ho : OldV p.Lv p.vs p.t) (hg : s.given + 1 = (k : Nat)) (hg1 : s.given < 1099511627776) (hg0 : 0 ≤ s.given) (hl : L.length ≤ 16) (hl0 : 0 < L.length) (hn : n ≤ 16) (htab : getL s.Lr p.h = some (.pointer (some ⟨d.T, 0, none⟩))) (hbook : getL s.Lb p.h = some (.int .i64 p.t)) (hT : lw ≤ d.T) :
  Calls Tryz.prog 19 #[.pointer (some ⟨d.P, 0, none⟩), .int .i64 p.h] w fun e w' => e = .returned (.int .i64 0) ∧ ComR w w' lw cq d s g p L q k := by
 have hS : Sto w lw d s g := h.env
 have hN := hf.need w h.env
 have hm := hS.mx.mgr
 rw [hqv, hrd] at hm
 refine scommit_one w hN ((tcommit_old w hN ho hm hg0 hg1 hq hlq h.tx h.buf h.bufD h.keys hl hl0 h.vw h.sp hn).mono ?_)
 rintro e w' ⟨gq, c, rfl, k1, hm', ho', hT'⟩
 refine ⟨rfl, gq, c, ?_⟩
 have tp : Tp w (d.M :: d.T :: (Value.slice pq 0 cq).ownBlock.toList) [195, 203, 3] := fun x hx => by
  simp only [List.mem_cons] at hx
  rcases hx with rfl | rfl | hx
  ·exact ⟨_, _, hm, by simp⟩
  ·exact ⟨_, _, h.tx, by simp⟩
  ·obtain ⟨-, cs, hh⟩ := own_elem hq (show (Value.slice pq 0 cq).ownBlock = some x by simpa using hx)
   exact ⟨_, _, hh, by simp⟩
 have hbn := hS.bnd
 refine ⟨⟨k1.heap hS.store ((tp.av (ts' := [102]) (by decide)).ne hS.store (by simp)), k1.heap hS.slot ((tp.av (ts' := [210]) (by decide)).ne hS.slot (by simp)), hS.text.keep k1 (tp.av (by decide)), hS.dev.keep k1 (tp.av (by decide)),
  ⟨by show MgrG w' d.M d.X d.B d.r (.slice (some ⟨gq, 0, none⟩) 1 c) s.out s.num s.bas s.last (s.given + 1) s.rd; rw [hrd]; exact hm', hS.mx.ver.keepA k1 (tp.av (by decide)) (tp.map hS.mx.ver.m), ⟨k1.heap hS.mx.book.1 ((tp.av (ts' := [265]) (by decide)).ne hS.mx.book.1 (by simp)), hS.mx.book.2.keep k1 (tp.map hS.mx.book.2)⟩, hS.mx.map.keep k1 (tp.map hS.mx.map), hS.mx.n1, hS.mx.n2, hS.mx.n3⟩, hS.ap, hS.keys, hS.bnd, hS.bndZ, Nat.le_trans hS.slo k1.size, hS.dlo⟩, ?_, ⟨_, k1, fun x hx _ => ⟨?_, fun cs t fr hh => ?_⟩⟩⟩
 ·refine ⟨rfl, ?_, ?_, htab, by rw [← hg]; exact hT', h.buf.keep k1 ((tp.av (ts' := [267]) (by decide)).ne h.buf.1 (by simp)) (tp.map h.buf.2), h.bufD.keepA k1 (tp.av (by decide)), h.keys, hl0, by omega, hbook⟩
  ·obtain ⟨pz, cz', e, hle⟩ := own_form ho'
   cases e
   omega
  ·rcases ho'.2 with ⟨e, h0⟩ | ⟨g', cap', cur', e, -, hh, -, -, -, ht⟩
   ·omega
   ·cases e
    refine ⟨_, hh, ?_⟩
    have := congrArg (fun l => l[0]?) ht
    simpa [List.getElem?_take] using this
 ·simp only [List.mem_cons] at hx
  rcases hx with rfl | rfl | hx
  ·omega
  ·exact hT
  ·have := (own_elem hq (show (Value.slice pq 0 cq).ownBlock = some x by simpa using hx)).1
   omega
 ·simp only [List.mem_cons] at hx
  rcases hx with rfl | rfl | hx
  ·rw [hm] at hh; cases hh; exact Or.inl rfl
  ·rw [h.tx] at hh; cases hh; exact Or.inr (Or.inl rfl)
  ·rcases hq.2 with ⟨e, h0⟩ | ⟨g', cap', cur', e, -, hh', -, -, hz, -⟩
   ·cases e; cases hx
   ·cases e
    obtain rfl : x = g' := by simpa [Value.ownBlock] using hx
    rw [hh'] at hh
    cases hh
    exact Or.inr (Or.inr ⟨rfl, by omega⟩)
end Go.Proofs.YtelakcjbknbehaaGreat
namespace Go.Proofs.YtelakcjbknbehaaGreat
open Go.RowKit Go.Lib Go.Maps Go.Sort Go.Shelf

end Go.Proofs.YtelakcjbknbehaaGreat
namespace Go.Proofs.YtelakcjbknbehaaGreat
open Go.RowKit Go.Lib

def rputA : List (Int × Int) → Int → Int → Bool → List (Int × Int) → List (Int × Int)
 | [], f, e, d, out => if d then out else out ++ [(f, e - f)]
 | x :: l, f, e, d, out =>
  if x.1 + x.2 < f then rputA l f e d (out ++ [x])
  else if e < x.1 then rputA l f e true ((if d then out else out ++ [(f, e - f)]) ++ [x])
  else rputA l (min f x.1) (max e (x.1 + x.2)) d out
def rput (l : List (Int × Int)) (x : Int × Int) : List (Int × Int) := rputA l x.1 (x.1 + x.2) false []
def InE (l : List (Int × Int)) : Prop := ∀ p ∈ l, 0 ≤ p.1 ∧ 0 ≤ p.2 ∧ p.1 + p.2 ≤ 8589934592
theorem rputA_len : ∀ (l : List (Int × Int)) (f e : Int) (d : Bool) (out : List (Int × Int)), (rputA l f e d out).length ≤ l.length + out.length + (if d then 0 else 1)
 | [], f, e, d, out => by
  unfold rputA
  cases d <;> simp
 | x :: l, f, e, d, out => by
  unfold rputA
  split
  ·have := rputA_len l f e d (out ++ [x])
   simp only [List.length_append, List.length_cons, List.length_nil] at this ⊢
   omega
  ·split
   ·have := rputA_len l f e true ((if d then out else out ++ [(f, e - f)]) ++ [x])
    cases d
    ·simp only [List.length_append, List.length_cons, List.length_nil, if_true, Bool.false_eq_true, if_false] at this ⊢
     omega
    ·simp only [List.length_append, List.length_cons, List.length_nil, if_true] at this ⊢
     omega
   ·have := rputA_len l (min f x.1) (max e (x.1 + x.2)) d out
    simp only [List.length_cons]
    omega
theorem rputA_in : ∀ (l : List (Int × Int)) (f e : Int) (d : Bool) (out : List (Int × Int)), InE l → InE out → 0 ≤ f → f ≤ e → e ≤ 8589934592 → InE (rputA l f e d out)
 | [], f, e, d, out, _, ho, h0, h1, h2 => by
  unfold rputA
  cases d
  ·intro p hp
   rcases List.mem_append.1 hp with hp | hp
   ·exact ho p hp
   ·rw [List.mem_singleton] at hp
    rw [hp]
    exact ⟨h0, by show 0 ≤ e - f; omega, by show f + (e - f) ≤ _; omega⟩
  ·exact ho
 | x :: l, f, e, d, out, hl, ho, h0, h1, h2 => by
  have hx := hl x List.mem_cons_self
  have hl' : InE l := fun p hp => hl p (List.mem_cons_of_mem _ hp)
  have hoa : ∀ o, InE o → InE (o ++ [x]) := fun o h p hp => by
   rcases List.mem_append.1 hp with hp | hp
   ·exact h p hp
   ·rw [List.mem_singleton] at hp
    rw [hp]
    exact hx
  unfold rputA
  split
  ·exact rputA_in l f e d _ hl' (hoa _ ho) h0 h1 h2
  ·split
   ·refine rputA_in l f e true _ hl' (hoa _ ?_) h0 h1 h2
    cases d
    ·intro p hp
     rcases List.mem_append.1 hp with hp | hp
     ·exact ho p hp
     ·rw [List.mem_singleton] at hp
      rw [hp]
      exact ⟨h0, by show 0 ≤ e - f; omega, by show f + (e - f) ≤ _; omega⟩
    ·exact ho
   ·exact rputA_in l _ _ d out hl' ho (by omega) (by omega) (by omega)
theorem rput_len (l : List (Int × Int)) (x : Int × Int) : (rput l x).length ≤ l.length + 1 := by
 have := rputA_len l x.1 (x.1 + x.2) false []
 simpa [rput] using this
theorem rput_in {l : List (Int × Int)} {x : Int × Int} (hl : InE l) (hx : InE [x]) : InE (rput l x) := by
 have h := hx x (by simp)
 exact rputA_in l _ _ false [] hl (fun p hp => by cases hp) h.1 (by omega) h.2.2
def ExR (w : World) (v : Value) (l : List (Int × Int)) : Prop := ∃ pa c, v = .slice pa l.length c ∧ l.length ≤ c ∧ SpQ w pa l
theorem ExR.keep {w w' : World} {v : Value} {l : List (Int × Int)} (h : ExR w v l) (hc : Chg [] w w') : ExR w' v l := by
 obtain ⟨pa, c, e, h1, h2⟩ := h
 exact ⟨pa, c, e, h1, h2.keep hc⟩
theorem ex_at {w : World} {g o : Nat} {l : List (Int × Int)} (h : Sp w g o l) (i : Nat) (hi : i < l.length) : w.cell? ⟨g, o + i * 2, none⟩ = some (.int .i64 l[i].1) ∧ w.cell? ⟨g, o + i * 2 + 1, none⟩ = some (.int .i64 l[i].2) := by
 have key : ∀ (l : List (Int × Int)) (i : Nat) (hi : i < l.length), (spCells l)[i * 2]? = some (.int .i64 l[i].1) ∧ (spCells l)[i * 2 + 1]? = some (.int .i64 l[i].2) := by
  intro l
  induction l with
  | nil => intro i hi; cases hi
  | cons p l ih =>
   intro i hi
   cases i with
   | zero => exact ⟨rfl, rfl⟩
   | succ i =>
    have := ih i (by simpa using hi)
    rw [show (i + 1) * 2 = i * 2 + 2 by omega, show i * 2 + 2 + 1 = i * 2 + 1 + 2 by omega]
    exact this
 have h1 := key l i hi
 exact ⟨h _ _ h1.1, by have := h _ _ h1.2; rwa [← Nat.add_assoc] at this⟩
theorem own_kp {w w' : World} {S : List Nat} {base e size n : Nat} {v : Value} {xs : List Value} (h : w.ownsRow base e size v n xs) (hc : Chg S w w') (hS : ∀ g, v.ownBlock = some g → g ∉ S) : w'.ownsRow base e size v n xs := by
 refine ⟨h.1, ?_⟩
 rcases h.2 with ⟨e, h0⟩ | ⟨g, cap, cur, e, hA, hg, h3⟩
 ·exact Or.inl ⟨e, h0⟩
 ·exact Or.inr ⟨g, cap, cur, e, hA, hc.heap hg (hS g (by rw [e]; rfl)), h3⟩
theorem own_low {w : World} {b b' e size n : Nat} {v : Value} {xs : List Value} (h : w.ownsRow b e size v n xs) (hb : b' ≤ b) : w.ownsRow b' e size v n xs := by
 refine ⟨h.1, ?_⟩
 rcases h.2 with ⟨e, h0⟩ | ⟨g, cap, cur, e, hA, h3⟩
 ·exact Or.inl ⟨e, h0⟩
 ·exact Or.inr ⟨g, cap, cur, e, Nat.le_trans hb hA, h3⟩
theorem app_new {w0 w w' : World} {b e size n : Nat} {v v' : Value} {xs ys : List Value} {m : Nat} (k : Chg [] w0 w) (ho : w.ownsRow b e size v n xs) (hb : w0.heap.size ≤ b) (h : AppendedV b e size w v m ys v' w') : Chg [] w0 w' := by
 have kb : Chg v.ownBlock.toList w w' := Chg.own h.2.2 (fun g hg _ => by simp [hg])
 refine k.trans kb (fun z hz hlt => ?_)
 have := (own_elem ho (show v.ownBlock = some z by simpa using hz)).1
 omega
theorem spCells_app (a b : List (Int × Int)) : spCells (a ++ b) = spCells a ++ spCells b := by simp [spCells]
set_option maxRecDepth 100000 in
set_option maxHeartbeats 8000000 in
theorem rput_any (w : World) {v : Value} {l : List (Int × Int)} {a b : Int} (h : ExR w v l) (hl : l.length ≤ 100000) (hb : InE l) (hx : InE [(a, b)]) :
  Calls Tryz.prog 214 #[v, .agg #[.int .i64 a, .int .i64 b]] w fun e w' => ∃ v', e = .returned v' ∧ Chg [] w w' ∧ w'.ownsRow w.heap.size 79 2 v' (rput l (a, b)).length (spCells (rput l (a, b))) := by
 have hx1 := hx (a, b) (by simp)
 have ha0 : 0 ≤ a := hx1.1
 have hb0 : 0 ≤ b := hx1.2.1
 have hab : a + b ≤ 8589934592 := hx1.2.2
 have g0 := heap_new w (.cells #[.int .i64 a, .int .i64 b] 79)
 have k0 : Chg [] w (w.alloc (.cells #[.int .i64 a, .int .i64 b] 79)) := Chg.alloc w _
 have c0 : (w.alloc (.cells #[.int .i64 a, .int .i64 b] 79)).cell? ⟨w.heap.size, 0, none⟩ = some (.int .i64 a) := cell_is g0 0 rfl
 have c1 : (w.alloc (.cells #[.int .i64 a, .int .i64 b] 79)).cell? ⟨w.heap.size, 1, none⟩ = some (.int .i64 b) := cell_is g0 1 rfl
 have HE := Lib.hid (And.intro (h.keep k0) (And.intro k0 (And.intro hb hl)))
 obtain ⟨pa, c, rfl, hlc, -⟩ := h
 obtain ⟨n, hn⟩ : ∃ n, n = l.length := ⟨_, rfl⟩
 rw [← hn] at hlc hl ⊢
 have HN := Lib.hid hn
 clear hb hx hx1 k0 hn g0
 go_enter Tryz.func214, Tryz.ntmps214
 go_wp2_with fail
 have hs0 : w.heap.size ≤ (w.alloc (.cells #[.int .i64 a, .int .i64 b] 79)).heap.size := by simp
 obtain ⟨zb, hzb⟩ : ∃ zb, zb = (w.alloc (.cells #[.int .i64 a, .int .i64 b] 79)).heap.size := ⟨_, rfl⟩
 generalize w.alloc (.cells #[.int .i64 a, .int .i64 b] 79) = w1 at *
 generalize hz : w.heap.size = z at *
 go_loopw [5, 6, 7, 8, 9, 10] (fun fv ev ov dv iv _ wr => ∃ (i : Nat) (f e : Int) (d : Bool) (out : List (Int × Int)), fv = .int .i64 f ∧ ev = .int .i64 e ∧ dv = .bool d ∧ iv = .int .i64 i ∧ i ≤ n ∧ wr.ownsRow zb 79 2 ov out.length (spCells out) ∧ rputA (l.drop i) f e d out = rput l (a, b) ∧ (0 ≤ f ∧ f ≤ e ∧ e ≤ 8589934592) ∧ out.length ≤ 2 * i ∧ Chg [] w1 wr) (fun _ _ _ _ iv _ _ => n - (intOf iv).toNat)
 case atStart => exact ⟨0, a, a + b, false, [], rfl, by go_num, rfl, rfl, Nat.zero_le _, World.ownsRow_nil _ _ _ _, by simp [rput], ⟨ha0, by omega, hab⟩, Nat.zero_le _, Chg.refl _ _⟩
 case round =>
  obtain ⟨i, f, e, d, out, rfl, rfl, rfl, rfl, hi, ho, hr, ⟨hf0, hfe, he⟩, hol, kr⟩ := hrel
  by_cases hlt : i < n
  ·have hlti : (i : Int) < n := by omega
   have hil : i < l.length := by rw [← HN.out]; exact hlt
   obtain ⟨g, o, rfl, hsp⟩ : ∃ g o, pa = some ⟨g, o, none⟩ ∧ Sp w1 g o l := by
    obtain ⟨pa', c', e', -, h2⟩ := HE.out.1
    cases e'
    rcases h2 with ⟨h2, -⟩ | ⟨g, o, h2, h3⟩
    ·rw [h2] at hil; cases hil
    ·exact ⟨g, o, h2, h3⟩
   obtain ⟨d0, d1⟩ := ex_at (hsp.keep kr) i hil
   have hbx := HE.out.2.2.1 _ (List.getElem_mem hil)
   have hdr : l.drop i = l[i] :: l.drop (i + 1) := List.drop_eq_getElem_cons hil
   rw [hdr] at hr
   unfold rputA at hr
   obtain ⟨x, y, hxy⟩ : ∃ x y, l[i] = (x, y) := ⟨_, _, rfl⟩
   rw [hxy] at d0 d1 hbx hr
   have hx0 : 0 ≤ x := hbx.1
   have hy0 : 0 ≤ y := hbx.2.1
   have hxy1 : x + y ≤ 8589934592 := hbx.2.2
   simp only at d0 d1 hr
   have hio : i ≤ 100000 := by omega
   obtain ⟨pv, cv, rfl, hcv⟩ := own_form ho
   have HH := Lib.hid (And.intro ho (And.intro hr (And.intro kr hol)))
   have y0 := heap_new wr (.cells #[.int .i64 x, .int .i64 y] 79)
   have e0 : (wr.alloc (.cells #[.int .i64 x, .int .i64 y] 79)).cell? ⟨wr.heap.size, 0, none⟩ = some (.int .i64 x) := cell_is y0 0 rfl
   have e1 : (wr.alloc (.cells #[.int .i64 x, .int .i64 y] 79)).cell? ⟨wr.heap.size, 1, none⟩ = some (.int .i64 y) := cell_is y0 1 rfl
   clear ho hr kr hsp hbx hdr hxy hcv y0 hol
   obtain ⟨m, hm⟩ : ∃ m, m = out.length := ⟨_, rfl⟩
   rw [← hm] at HH ⊢
   have k2 : Chg [] wr (wr.alloc (.cells #[.int .i64 x, .int .i64 y] 79)) := Chg.alloc wr _
   have HO : Hid ((wr.alloc (.cells #[.int .i64 x, .int .i64 y] 79)).ownsRow zb 79 2 (.slice pv m cv) m (spCells out)) := Lib.hid (own_kp HH.out.1 k2 (fun g hg hm => by cases hm))
   have hz2 : zb ≤ (wr.alloc (.cells #[.int .i64 x, .int .i64 y] 79)).heap.size := by
    have h1 := HH.out.2.2.1.size
    have h2 := k2.size
    omega
   have HK2 := Lib.hid (HH.out.2.2.1.then k2)
   have hm2 : m ≤ 2 * i := by have := HH.out.2.2.2; omega
   have HM := Lib.hid hm
   have HZ : Hid (wr.heap.size ∉ (Value.slice pv m cv).ownBlock.toList) := Lib.hid (fun hmem => by
    obtain ⟨-, cs, hh⟩ := own_elem HH.out.1 (g := wr.heap.size) (by simpa using hmem)
    exact absurd (heap_lt hh) (Nat.lt_irrefl _))
   clear k2 hm
   go_upto_region 11 with fail
   generalize wr.alloc (.cells #[.int .i64 x, .int .i64 y] 79) = w2 at *
   generalize wr.heap.size = z2 at *
   by_cases hA : x + y < f
   ·have HR := Lib.hid ((if_pos hA).symm.trans HH.out.2.1)
    go_wp2_with (at_builtin; refine wpList_append_lit rfl (.tmp 47) (.tmp 49) 175 79 rfl ty217 inf117 rfl (by decide) zb w2 [.int .i64 x, .int .i64 y] 1 rfl (.slice pv m cv) m (spCells out) rfl HO.out (by omega) (by decide) hz2 (k := 0) rfl (by simp [Value.oneCell']) rfl 1 rfl ?_; intro v' w3 hap)
    have HAp := Lib.hid (And.intro hap (app_new HK2.out HO.out (Nat.le_of_eq hzb.symm) hap))
    clear hap
    go_wp2_with fail
    go_roundw
    case rel => exact ⟨i + 1, f, e, d, out ++ [(x, y)], rfl, rfl, rfl, by go_num, hlt, by rw [List.length_append, ← HM.out, spCells_app]; exact HAp.out.1.1, HR.out, ⟨hf0, hfe, he⟩, by rw [List.length_append, ← HM.out]; simp; omega, HAp.out.2⟩
    case measure => simp [intOf]; omega
   ·have dA : decide (x + y < f) = false := decide_eq_false hA
    by_cases hB : e < x
    ·have dB : decide (e < x) = true := decide_eq_true hB
     have HR := Lib.hid ((if_pos hB).symm.trans ((if_neg hA).symm.trans HH.out.2.1))
     cases d
     ·go_wp2_with (at_builtin; first
       | (refine wpList_append_lit rfl (.tmp 58) (.tmp 64) 175 79 rfl ty217 inf117 rfl (by decide) zb w2 [.int .i64 f, .int .i64 (e - f)] 1 rfl (.slice pv m cv) m (spCells out) rfl HO.out (by omega) (by decide) hz2 (k := 0) rfl (by simp [Value.oneCell']) rfl 1 rfl ?_; intro v' w3 hap3; have kb : Chg (Value.slice pv m cv).ownBlock.toList w2 w3 := Chg.own hap3.2.2 (fun g hg _ => by simp [hg]); have q0 := kb.cell e0 HZ.out; have q1 := kb.cell e1 HZ.out; have k3 := app_new HK2.out HO.out (Nat.le_of_eq hzb.symm) hap3; have hz3 : zb ≤ w3.heap.size := (by rw [hzb]; exact k3.size); have HO3 := Lib.hid hap3.1; have HK3 := Lib.hid k3; clear hap3 k3 kb)
       | (refine wpList_append_lit rfl (.tmp 66) (.tmp 68) 175 79 rfl ty217 inf117 rfl (by decide) zb w3 [.int .i64 x, .int .i64 y] 1 rfl v' (m + 1) _ rfl HO3.out (by omega) (by decide) hz3 (k := 0) rfl (by simp [Value.oneCell']) rfl 1 rfl ?_; intro v4 w4 hap))
      have HAp := Lib.hid (And.intro hap (app_new HK3.out HO3.out (Nat.le_of_eq hzb.symm) hap))
      clear hap
      go_wp2_with fail
      go_roundw
      case rel => exact ⟨i + 1, f, e, true, out ++ [(f, e - f)] ++ [(x, y)], rfl, rfl, rfl, by go_num, hlt, by rw [List.length_append, List.length_append, ← HM.out, spCells_app, spCells_app]; exact HAp.out.1.1, HR.out, ⟨hf0, hfe, he⟩, by rw [List.length_append, List.length_append, ← HM.out]; simp; omega, HAp.out.2⟩
      case measure => simp [intOf]; omega
     ·go_wp2_with (at_builtin; refine wpList_append_lit rfl (.tmp 66) (.tmp 68) 175 79 rfl ty217 inf117 rfl (by decide) zb w2 [.int .i64 x, .int .i64 y] 1 rfl (.slice pv m cv) m (spCells out) rfl HO.out (by omega) (by decide) hz2 (k := 0) rfl (by simp [Value.oneCell']) rfl 1 rfl ?_; intro v' w3 hap)
      have HAp := Lib.hid (And.intro hap (app_new HK2.out HO.out (Nat.le_of_eq hzb.symm) hap))
      clear hap
      go_wp2_with fail
      go_roundw
      case rel => exact ⟨i + 1, f, e, true, out ++ [(x, y)], rfl, rfl, rfl, by go_num, hlt, by rw [List.length_append, ← HM.out, spCells_app]; exact HAp.out.1.1, HR.out, ⟨hf0, hfe, he⟩, by rw [List.length_append, ← HM.out]; simp; omega, HAp.out.2⟩
      case measure => simp [intOf]; omega
    ·have dB : decide (e < x) = false := decide_eq_false hB
     have HR := Lib.hid ((if_neg hB).symm.trans ((if_neg hA).symm.trans HH.out.2.1))
     go_wp2_with fail
     go_roundw
     case rel => exact ⟨i + 1, min f x, max e (x + y), d, out, rfl, rfl, rfl, by go_num, hlt, by rw [← HM.out]; exact HO.out, HR.out, ⟨by omega, by omega, by omega⟩, by rw [← HM.out]; omega, HK2.out⟩
     case measure => simp [intOf]; omega
  ·obtain rfl : i = n := by omega
   have hdr : l.drop i = [] := by rw [HN.out]; exact List.drop_length
   rw [hdr] at hr
   unfold rputA at hr
   obtain ⟨m, hm⟩ : ∃ m, m = out.length := ⟨_, rfl⟩
   rw [← hm] at ho hol
   obtain ⟨pv, cv, rfl, hcv⟩ := own_form ho
   have hz3 : zb ≤ wr.heap.size := by have := kr.size; omega
   have hm2 : m ≤ 200000 := by omega
   have HH := Lib.hid (And.intro ho (And.intro kr hm))
   clear ho kr hcv hm hdr
   cases d
   ·have HR := Lib.hid hr
    clear hr
    go_wp2_with (at_builtin; refine wpList_append_lit rfl (.tmp 72) (.tmp 78) 175 79 rfl ty217 inf117 rfl (by decide) zb wr [.int .i64 f, .int .i64 (e - f)] 1 rfl (.slice pv m cv) m _ rfl HH.out.1 (by omega) (by decide) hz3 (k := 0) rfl (by simp [Value.oneCell']) rfl 1 rfl ?_; intro v' w3 hap)
    have HAp := Lib.hid (And.intro hap (app_new HH.out.2.1 HH.out.1 (Nat.le_of_eq hzb.symm) hap))
    clear hap
    go_wp2_with fail
    go_ret
    refine ⟨_, rfl, HE.out.2.1.then HAp.out.2, own_low (b := zb) ?_ (by omega)⟩
    rw [← HR.out]
    simp only [Bool.false_eq_true, if_false]
    rw [List.length_append, ← HH.out.2.2, spCells_app]
    exact HAp.out.1.1
   ·have HR := Lib.hid hr
    clear hr
    go_wp2_with fail
    go_ret
    refine ⟨_, rfl, HE.out.2.1.then HH.out.2.1, own_low (b := zb) ?_ (by omega)⟩
    rw [← HR.out]
    simp only [if_true]
    rw [← HH.out.2.2]
    exact HH.out.1
def MayE (a b : Int) : Prop := 0 ≤ a ∧ a ≤ 1048576 ∧ 1 ≤ b ∧ b ≤ 1048576 ∧ a ≤ 1048577 - b
instance (a b : Int) : Decidable (MayE a b) := by unfold MayE; infer_instance
set_option maxRecDepth 100000 in
set_option maxHeartbeats 2000000 in
theorem rmay_ext (w : World) {a b : Int} : Calls Tryz.prog 213 #[.agg #[.int .i64 a, .int .i64 b]] w fun e w' => e = .returned (.bool (decide (MayE a b))) ∧ Chg [] w w' := by
 have g0 := heap_new w (.cells #[.int .i64 a, .int .i64 b] 79)
 have k0 : Chg [] w (w.alloc (.cells #[.int .i64 a, .int .i64 b] 79)) := Chg.alloc w _
 have c0 : (w.alloc (.cells #[.int .i64 a, .int .i64 b] 79)).cell? ⟨w.heap.size, 0, none⟩ = some (.int .i64 a) := cell_is g0 0 rfl
 have c1 : (w.alloc (.cells #[.int .i64 a, .int .i64 b] 79)).cell? ⟨w.heap.size, 1, none⟩ = some (.int .i64 b) := cell_is g0 1 rfl
 have HK := Lib.hid k0
 clear k0 g0
 by_cases h1 : 0 ≤ a
 ·have d1 : decide (0 ≤ a) = true := decide_eq_true h1
  by_cases h2 : a ≤ 1048576
  ·have d2 : decide (a ≤ 1048576) = true := decide_eq_true h2
   by_cases h3 : 1 ≤ b
   ·have d3 : decide (1 ≤ b) = true := decide_eq_true h3
    by_cases h4 : b ≤ 1048576
    ·have d4 : decide (b ≤ 1048576) = true := decide_eq_true h4
     by_cases h5 : a ≤ 1048577 - b
     ·have d5 : decide (a ≤ 1048577 - b) = true := decide_eq_true h5
      go_enter Tryz.func213, Tryz.ntmps213
      go_wp2_with fail
      go_ret
      exact ⟨by rw [decide_eq_true (show MayE a b from ⟨h1, h2, h3, h4, h5⟩)]; rfl, HK.out⟩
     ·have d5 : decide (a ≤ 1048577 - b) = false := decide_eq_false h5
      go_enter Tryz.func213, Tryz.ntmps213
      go_wp2_with fail
      go_ret
      exact ⟨by rw [decide_eq_false (show ¬ MayE a b from fun h => by unfold MayE at h; omega)]; rfl, HK.out⟩
    ·have d4 : decide (b ≤ 1048576) = false := decide_eq_false h4
     go_enter Tryz.func213, Tryz.ntmps213
     go_wp2_with fail
     go_ret
     exact ⟨by rw [decide_eq_false (show ¬ MayE a b from fun h => by unfold MayE at h; omega)]; rfl, HK.out⟩
   ·have d3 : decide (1 ≤ b) = false := decide_eq_false h3
    go_enter Tryz.func213, Tryz.ntmps213
    go_wp2_with fail
    go_ret
    exact ⟨by rw [decide_eq_false (show ¬ MayE a b from fun h => by unfold MayE at h; omega)]; rfl, HK.out⟩
  ·have d2 : decide (a ≤ 1048576) = false := decide_eq_false h2
   go_enter Tryz.func213, Tryz.ntmps213
   go_wp2_with fail
   go_ret
   exact ⟨by rw [decide_eq_false (show ¬ MayE a b from fun h => by unfold MayE at h; omega)]; rfl, HK.out⟩
 ·have d1 : decide (0 ≤ a) = false := decide_eq_false h1
  go_enter Tryz.func213, Tryz.ntmps213
  go_wp2_with fail
  go_ret
  exact ⟨by rw [decide_eq_false (show ¬ MayE a b from fun h => by unfold MayE at h; omega)]; rfl, HK.out⟩
theorem own_e0 (w : World) (base z : Nat) (hb : base ≤ z) (hz : w.heap[z]? = some (.cells #[] 79 (0, 0))) : w.ownsRow base 79 2 (.slice (some ⟨z, 0, none⟩) 0 0) 0 (spCells []) :=
 ⟨rfl, Or.inr ⟨z, 0, #[], rfl, hb, hz, Nat.le_refl _, by unfold maxLen; omega, rfl, rfl⟩⟩
theorem ExR.own {w : World} {base n : Nat} {v : Value} {l : List (Int × Int)} (h : w.ownsRow base 79 2 v n (spCells l)) (hn : n = l.length) : ExR w v l := by
 subst hn
 obtain ⟨pa, c, rfl, hc⟩ := own_form h
 obtain ⟨pa', c', e, hq⟩ := own_spq h
 cases e
 exact ⟨pa, c, rfl, hc, hq⟩
set_option maxRecDepth 100000 in
set_option maxHeartbeats 4000000 in
theorem radd_one (w : World) {B o g c : Nat} {cs : Array Value} {t : TypeId} {v : Value} {most a b : Int} {l : List (Int × Int)} (hB : w.heap[B]? = some (.cells cs t (0, 0))) (h0 : cs[o]? = some (.int .i64 most)) (h1 : cs[o + 1]? = some v) (h : ExR w v l) (hl : l.length ≤ 1000) (hb : InE l) (hm : MayE a b)
  (hs : Sp w g 0 [(a, b)]) (hlen : ((rput l (a, b)).length : Int) ≤ most) :
  Calls Tryz.prog 167 #[.pointer (some ⟨B, o, none⟩), .slice (some ⟨g, 0, none⟩) 1 c] w fun e w' => e = .returned (.int .i64 0) ∧ ∃ v', w'.heap[B]? = some (.cells (cs.setIfInBounds (o + 1) v') t (0, 0)) ∧ Chg [B] w w' ∧ w'.ownsRow w.heap.size 79 2 v' (rput l (a, b)).length (spCells (rput l (a, b))) := by
 have e0 : w.cell? ⟨g, 0, none⟩ = some (.int .i64 a) := hs 0 _ rfl
 have e1 : w.cell? ⟨g, 1, none⟩ = some (.int .i64 b) := hs 1 _ rfl
 have hxb : InE [(a, b)] := fun p hp => by
  rw [List.mem_singleton] at hp
  rw [hp]
  unfold MayE at hm
  exact ⟨by show 0 ≤ a; omega, by show 0 ≤ b; omega, by show a + b ≤ _; omega⟩
 obtain ⟨pa, cp, rfl, hcp, hq⟩ := h
 obtain ⟨m, hm0⟩ : ∃ m, m = l.length := ⟨_, rfl⟩
 obtain ⟨n, hn0⟩ : ∃ n, n = (rput l (a, b)).length := ⟨_, rfl⟩
 rw [← hm0] at hcp h1 hl
 rw [← hn0] at hlen
 have hn1 : n ≤ m + 1 := by
  have := rput_len l (a, b)
  omega
 have hmost : ¬ most < n := by omega
 have hmost0 : 0 ≤ most := by omega
 have hng : decide (most < (n : Int)) = false := decide_eq_false hmost
 have hmx : max most 0 = most := by omega
 have HH := Lib.hid (And.intro hq (And.intro hb (And.intro hm (And.intro hxb (And.intro hB (And.intro h0 (And.intro h1 (And.intro hn0 hm0))))))))
 clear hq hb hm hxb hs hm0 hB h0 h1 hn0
 go_enter Tryz.func167, Tryz.ntmps167
 go_wp2_with fail
 go_loopw [5] (fun iv wr => (iv = .int .i64 0 ∨ iv = .int .i64 1) ∧ Chg [] w wr) (fun iv _ => 1 - (intOf iv).toNat)
 case atStart => exact ⟨Or.inl rfl, Chg.refl _ _⟩
 case round =>
  obtain ⟨rfl | rfl, kr⟩ := hrel
  ·have e0r := kr.cell e0 (by simp)
   have e1r := kr.cell e1 (by simp)
   have HK := Lib.hid kr
   clear kr
   go_wp2_with fail
   refine (rmay_ext wr).mono ?_
   rintro e w2 ⟨rfl, k2⟩
   rw [decide_eq_true HH.out.2.2.1]
   have HK2 := Lib.hid (HK.out.then k2)
   clear k2
   go_wp2_with fail
   go_roundw
   case rel => exact ⟨Or.inr rfl, HK2.out⟩
   case measure => simp [intOf]
  ·have k2 : Chg [] w (wr.alloc (.cells #[] 79)) := kr.then_alloc _
   have c1r : (wr.alloc (.cells #[] 79)).cell? ⟨B, o + 1, none⟩ = some (.slice pa m cp) := cell_is (k2.heap HH.out.2.2.2.2.1 (by simp)) (o + 1) HH.out.2.2.2.2.2.2.1
   have ho0 := own_e0 (wr.alloc (.cells #[] 79)) wr.heap.size wr.heap.size (Nat.le_refl _) (heap_new wr _)
   have hq0 : SpQ (wr.alloc (.cells #[] 79)) pa l := HH.out.1.keep k2
   have hz0 : wr.heap.size ≤ (wr.alloc (.cells #[] 79)).heap.size := by simp
   have hzw : w.heap.size ≤ wr.heap.size := kr.size
   have HQ := Lib.hid (And.intro ho0 (And.intro hq0 k2))
   have HE := Lib.hid (And.intro e0 e1)
   clear kr e0 e1 ho0 hq0 k2
   go_wp2_with (at_builtin; refine wpList_append_spq rfl (.tmp 20) (.tmp 24) rfl wr.heap.size (.slice (some ⟨wr.heap.size, 0, none⟩) 0 0) 0 [] l rfl HQ.out.1 pa m cp rfl HH.out.2.2.2.2.2.2.2.2.symm HQ.out.2.1 (by omega) hz0 ?_; intro v1 w2 hap)
   have k2 : Chg [] w w2 := app_new HQ.out.2.2 HQ.out.1 hzw hap
   have ho2 : w2.ownsRow wr.heap.size 79 2 v1 (0 + m) (spCells ([] ++ l)) := hap.1
   rw [Nat.zero_add, List.nil_append] at ho2
   have HO2 := Lib.hid (And.intro ho2 k2)
   clear hap ho2 k2 c1r HQ hz0
   go_wp2_with fail
   go_loopw [6, 7] (fun v iv wx => (iv = .int .i64 0 ∧ v = v1 ∧ wx = w2) ∨ (iv = .int .i64 1 ∧ ∃ pv cv, v = .slice pv n cv ∧ Chg [] w wx ∧ wx.ownsRow w.heap.size 79 2 v n (spCells (rput l (a, b))))) (fun _ iv _ => 1 - (intOf iv).toNat)
   case atStart => exact Or.inl ⟨rfl, rfl, rfl⟩
   case round =>
    rcases hrel with ⟨rfl, rfl, rfl⟩ | ⟨rfl, pv, cv, rfl, kx, hox⟩
    ·have e0 := HO2.out.2.cell HE.out.1 (by simp)
     have e1 := HO2.out.2.cell HE.out.2 (by simp)
     have HP := Lib.hid (rput_any _ (ExR.own HO2.out.1 HH.out.2.2.2.2.2.2.2.2) (by have := HH.out.2.2.2.2.2.2.2.2; omega) HH.out.2.1 HH.out.2.2.2.1)
     go_wp2_with fail
     refine HP.out.mono ?_
     rintro e w3 ⟨v3, rfl, k3, ho3⟩
     have HO3 := Lib.hid (And.intro (HO2.out.2.then k3) (own_low ho3 HO2.out.2.size))
     clear k3 ho3 HP e0 e1
     go_wp2_with fail
     go_roundw
     case rel =>
      obtain ⟨k3, ho3⟩ := HO3.out
      rw [← HH.out.2.2.2.2.2.2.2.1] at ho3
      obtain ⟨pv, cv, e, -⟩ := own_form ho3
      exact Or.inr ⟨rfl, pv, cv, e, k3, ho3⟩
     case measure => simp [intOf]
    ·have hB := kx.heap HH.out.2.2.2.2.1 (by simp)
     have d0 : wr.cell? ⟨B, o, none⟩ = some (.int .i64 most) := cell_is hB o HH.out.2.2.2.2.2.1
     have d1 : wr.cell? ⟨B, o + 1, none⟩ = some (.slice pa m cp) := cell_is hB (o + 1) HH.out.2.2.2.2.2.2.1
     have f1 := unfrozen hB (o + 1)
     have HX := Lib.hid (And.intro kx (And.intro hox hB))
     clear kx hox hB
     go_wp2_with fail
     go_ret
     obtain ⟨kx, hox, hB⟩ := HX.out
     have kB : Chg [B] wr (wr.setCell ⟨B, o + 1, none⟩ (.slice pv n cv)) := Chg.set wr B (o + 1) _
     refine ⟨rfl, _, heap_set hB (o + 1) _ rfl, (kx.mono (fun x hx _ => by cases hx)).then kB, ?_⟩
     rw [← HH.out.2.2.2.2.2.2.2.1]
     refine own_kp hox kB (fun g hg hm => ?_)
     have := (own_elem hox hg).1
     have := heap_lt HH.out.2.2.2.2.1
     rw [List.mem_singleton] at hm
     omega
def DatX (w : World) (v : Value) (l : List UInt8) : Prop := ∃ g o c, v = .slice (some ⟨g, o, none⟩) 40 c ∧ 40 ≤ c ∧ l.length = 40 ∧ Bs w (some ⟨g, o, none⟩) l ∧ Bt w g
def Ty (w : World) (g t : Nat) : Prop := ∃ cs, w.heap[g]? = some (.cells cs t (0, 0))
theorem Ty.keepA {w w' : World} {T ts : List Nat} {g t : Nat} (h : Ty w g t) (hc : Chg T w w') (hT : Av w T ts) (ht : t ∈ ts) : Ty w' g t := by
 obtain ⟨cs, h⟩ := h
 exact ⟨cs, hc.heap h (hT.ne h ht)⟩
theorem Ty.av {w : World} {T ts : List Nat} {g t : Nat} (h : Ty w g t) (hT : Av w T ts) (ht : t ∈ ts) : g ∉ T := by
 obtain ⟨cs, h⟩ := h
 exact hT.ne h ht
def PuX (w : World) (v : Value) (l : List (Int × List UInt8)) : Prop := ∃ pa c, v = .slice pa l.length c ∧ l.length ≤ c ∧ ∀ i (h : i < l.length), ∃ g o u, pa = some ⟨g, o, none⟩ ∧ Ty w g 50 ∧ w.cell? ⟨g, o + i * 2, none⟩ = some (.int .i64 l[i].1) ∧ w.cell? ⟨g, o + i * 2 + 1, none⟩ = some u ∧ DatX w u l[i].2
def VeX (w : World) (v : Value) (l : List (Int × Int × List UInt8)) : Prop := ∃ pa c, v = .slice pa l.length c ∧ l.length ≤ c ∧ ∀ i (h : i < l.length), ∃ g o u, pa = some ⟨g, o, none⟩ ∧ Ty w g 259 ∧ w.cell? ⟨g, o + i * 3, none⟩ = some (.int .i64 l[i].1) ∧ w.cell? ⟨g, o + i * 3 + 1, none⟩ = some (.int .i64 l[i].2.1) ∧ w.cell? ⟨g, o + i * 3 + 2, none⟩ = some u ∧ DatX w u l[i].2.2
theorem DatX.keepA {w w' : World} {T : List Nat} {v : Value} {l : List UInt8} (h : DatX w v l) (hc : Chg T w w') (hT : Av w T [5]) : DatX w' v l := by
 obtain ⟨g, o, c, h1, h2, h3, h4, h5⟩ := h
 have hg := h5.av hT (by simp)
 exact ⟨g, o, c, h1, h2, h3, h4.chgT hc hg, h5.keep hc hg⟩
theorem DatX.keep {w w' : World} {v : Value} {l : List UInt8} (h : DatX w v l) (hc : Chg [] w w') : DatX w' v l := h.keepA hc (Av.nil _ _)
theorem PuX.keepA {w w' : World} {T : List Nat} {v : Value} {l : List (Int × List UInt8)} (h : PuX w v l) (hc : Chg T w w') (hT : Av w T [5, 50]) : PuX w' v l := by
 obtain ⟨pa, c, h1, h2, h3⟩ := h
 refine ⟨pa, c, h1, h2, fun i hi => ?_⟩
 obtain ⟨g, o, u, k1, k0, k2, k3, k4⟩ := h3 i hi
 have hg := k0.av hT (by simp)
 exact ⟨g, o, u, k1, k0.keepA hc hT (by simp), hc.cell k2 hg, hc.cell k3 hg, k4.keepA hc (fun x hx cs t fr hh hm => hT x hx cs t fr hh (by simp at hm; simp [hm]))⟩
theorem PuX.keep {w w' : World} {v : Value} {l : List (Int × List UInt8)} (h : PuX w v l) (hc : Chg [] w w') : PuX w' v l := h.keepA hc (Av.nil _ _)
theorem VeX.keepA {w w' : World} {T : List Nat} {v : Value} {l : List (Int × Int × List UInt8)} (h : VeX w v l) (hc : Chg T w w') (hT : Av w T [5, 259]) : VeX w' v l := by
 obtain ⟨pa, c, h1, h2, h3⟩ := h
 refine ⟨pa, c, h1, h2, fun i hi => ?_⟩
 obtain ⟨g, o, u, k1, k0, k2, k3, k4, k5⟩ := h3 i hi
 have hg := k0.av hT (by simp)
 exact ⟨g, o, u, k1, k0.keepA hc hT (by simp), hc.cell k2 hg, hc.cell k3 hg, hc.cell k4 hg, k5.keepA hc (fun x hx cs t fr hh hm => hT x hx cs t fr hh (by simp at hm; simp [hm]))⟩
theorem VeX.keep {w w' : World} {v : Value} {l : List (Int × Int × List UInt8)} (h : VeX w v l) (hc : Chg [] w w') : VeX w' v l := h.keepA hc (Av.nil _ _)
def bufG (l : List (Int × List UInt8)) (b : Int) : Option (List UInt8) := (l.find? fun p => decide (p.1 = b)).map Prod.snd
def RbAt (w : World) (U : Nat) (l : List (Int × List UInt8)) : Prop := ∃ v, w.heap[U]? = some (.cells #[.int .i64 258, .int .i64 16, v] 173 (0, 0)) ∧ PuX w v l
theorem RbAt.keep {w w' : World} {U : Nat} {l : List (Int × List UInt8)} (h : RbAt w U l) (hc : Chg [] w w') : RbAt w' U l := by
 obtain ⟨v, h1, h2⟩ := h
 exact ⟨v, hc.heap h1 (by simp), h2.keep hc⟩
def RyAt (w : World) (Y : Nat) (l : List (Int × Int × List UInt8)) (t : Int) : Prop := ∃ v, w.heap[Y]? = some (.cells #[.int .i64 258, v, .int .i64 t] 247 (0, 0)) ∧ VeX w v l
theorem RyAt.keep {w w' : World} {Y : Nat} {l : List (Int × Int × List UInt8)} {t : Int} (h : RyAt w Y l t) (hc : Chg [] w w') : RyAt w' Y l t := by
 obtain ⟨v, h1, h2⟩ := h
 exact ⟨v, hc.heap h1 (by simp), h2.keep hc⟩
def verG (l : List (Int × Int × List UInt8)) (b at_ : Int) : List UInt8 × Int := l.foldl (fun r x => if x.1 = b ∧ x.2.1 ≤ at_ then (x.2.2, x.2.1) else r) (zeroB, 0)
theorem verG_take (l : List (Int × Int × List UInt8)) (b at_ : Int) (i : Nat) (h : i < l.length) : verG (l.take (i + 1)) b at_ = if l[i].1 = b ∧ l[i].2.1 ≤ at_ then (l[i].2.2, l[i].2.1) else verG (l.take i) b at_ := by
 unfold verG
 rw [List.take_succ_eq_append_getElem h, List.foldl_append]
 rfl
theorem make_z (w : World) : (Instr.makeSlice 47 (.int .i64 40) (.int .i64 40)).run Tryz.prog w = .ok (.slice (some ⟨w.heap.size, 0, none⟩) 40 40) (w.alloc (.cells (Lib.byteCells zeroB).toArray 5)) := by kernel_rfl
set_option maxRecDepth 100000 in
set_option maxHeartbeats 4000000 in
theorem rbuf_get (w : World) {U : Nat} {b : Int} {l : List (Int × List UInt8)} (h : RbAt w U l) (hl : l.length ≤ 1000) : Calls Tryz.prog 168 #[.pointer (some ⟨U, 0, none⟩), .int .i64 b] w fun e w' => w = w' ∧
  ((bufG l b = none ∧ e = .returned (.tuple #[.slice none 0 0, .bool false])) ∨ ∃ x v, bufG l b = some x ∧ DatX w v x ∧ e = .returned (.tuple #[v, .bool true])) := by
 obtain ⟨v, hU, pa, c, rfl, hc, hx⟩ := h
 obtain ⟨n, hn⟩ : ∃ n, n = l.length := ⟨_, rfl⟩
 rw [← hn] at hU hl hc
 have c2 : w.cell? ⟨U, 2, none⟩ = some (.slice pa n c) := cell_is hU 2 rfl
 have HH := Lib.hid (And.intro hx hn)
 clear hU hx hn
 go_enter Tryz.func168, Tryz.ntmps168
 go_wp2_with fail
 go_loopw [6] (fun iv wr => ∃ i : Nat, iv = .int .i64 i ∧ i ≤ n ∧ wr = w ∧ ∀ j (hj : j < l.length), j < i → l[j].1 ≠ b) (fun iv _ => n - (intOf iv).toNat)
 case atStart => exact ⟨0, rfl, Nat.zero_le _, (by first | trivial | rfl), fun j _ h => by omega⟩
 case round =>
  obtain ⟨i, rfl, hi, rfl, hno⟩ := hrel
  by_cases hlt : i < n
  ·have hlti : (i : Int) < n := by omega
   have hil : i < l.length := by have := HH.out.2; omega
   obtain ⟨g, o, u, rfl, -, d0, d1, hD⟩ := HH.out.1 i hil
   have HD := Lib.hid (And.intro hD hno)
   obtain ⟨k, hk⟩ : ∃ k, k = l[i].1 := ⟨_, rfl⟩
   rw [← hk] at d0
   have HK := Lib.hid hk
   clear hD hno hk
   by_cases hkb : k = b
   ·subst hkb
    have hfind : bufG l k = some l[i].2 := by
     unfold bufG
     rw [List.find?_eq_some_iff_getElem.2 ⟨by simp [HK.out], i, hil, rfl, fun j hj => by simpa using HD.out.2 j (by omega) hj⟩]
     rfl
    have HF := Lib.hid hfind
    clear hfind
    go_wp2_with fail
    go_ret2
    exact ⟨(by first | trivial | rfl), Or.inr ⟨_, _, HF.out, HD.out.1, rfl⟩⟩
   ·have hkd : decide (k = b) = false := decide_eq_false hkb
    have hkq : (k == b) = false := beq_eq_false_iff_ne.2 hkb
    go_wp2_with fail
    go_roundw
    case rel => exact ⟨i + 1, by go_num, hlt, trivial, fun j hj hji => by
     by_cases e : j = i
     ·subst e
      rw [← HK.out]
      exact hkb
     ·exact HD.out.2 j hj (by omega)⟩
    case measure => simp [intOf]; omega
  ·obtain rfl : i = n := by omega
   have hnone : bufG l b = none := by
    unfold bufG
    rw [List.find?_eq_none.2 (fun x hx => by
     obtain ⟨j, hj, rfl⟩ := List.getElem_of_mem hx
     simpa using hno j hj (by have := HH.out.2; omega))]
    rfl
   have HF := Lib.hid hnone
   clear hnone hno
   go_wp2_with fail
   go_ret2
   exact ⟨(by first | trivial | rfl), Or.inl ⟨HF.out, rfl⟩⟩
theorem zero_datx (w : World) : DatX (w.alloc (.cells (Lib.byteCells zeroB).toArray 5)) (.slice (some ⟨w.heap.size, 0, none⟩) 40 40) zeroB := by
 refine ⟨w.heap.size, 0, 40, rfl, Nat.le_refl _, rfl, ?_, ⟨_, heap_new w _⟩⟩
 have hh := heap_new w (.cells (Lib.byteCells zeroB).toArray 5)
 refine Or.inr ⟨_, _, rfl, heap_lt hh, fun j hj => ?_⟩
 rw [Nat.zero_add]
 exact cell_is hh j (by simp [Lib.byteCells, hj])
set_option maxRecDepth 100000 in
set_option maxHeartbeats 4000000 in
theorem rmap_get (w : World) {Y : Nat} {b t last : Int} {l : List (Int × Int × List UInt8)} (h : RyAt w Y l last) (hl : l.length ≤ 100000) (hb0 : 0 ≤ b) (hb1 : b < 258) : Calls Tryz.prog 169 #[.pointer (some ⟨Y, 0, none⟩), .int .i64 b, .int .i64 t] w fun e w' =>
  ∃ v, e = .returned (.tuple #[v, .int .i64 (verG l b t).2]) ∧ Chg [] w w' ∧ DatX w' v (verG l b t).1 := by
 have n0 : decide (b < 0) = false := decide_eq_false (by omega)
 have n1 : decide (258 ≤ b) = false := decide_eq_false (by omega)
 obtain ⟨v, hY, pa, c, rfl, hc, hx⟩ := h
 obtain ⟨n, hn⟩ : ∃ n, n = l.length := ⟨_, rfl⟩
 rw [← hn] at hY hl hc
 have c0 : w.cell? ⟨Y, 0, none⟩ = some (.int .i64 258) := cell_is hY 0 rfl
 have hV : VeX w (.slice pa n c) l := ⟨pa, c, by rw [hn], by omega, hx⟩
 have hmk := make_z
 have hz := zero_datx w
 have k1 : Chg [] w (w.alloc (.cells (Lib.byteCells zeroB).toArray 5)) := Chg.alloc w _
 generalize (Lib.byteCells zeroB).toArray = ZB at *
 have HH := Lib.hid (And.intro hV (And.intro hn (And.intro hY (And.intro hz k1))))
 clear hV hx hn hY hz k1
 go_enter Tryz.func169, Tryz.ntmps169
 go_wp2_with fail
 have d1 : (w.alloc (.cells ZB 5)).cell? ⟨Y, 1, none⟩ = some (.slice pa n c) := cell_is (HH.out.2.2.2.2.heap HH.out.2.2.1 (by simp)) 1 rfl
 go_loopw [8, 9, 10] (fun dv tv iv wr => ∃ i : Nat, iv = .int .i64 i ∧ i ≤ n ∧ tv = .int .i64 (verG (l.take i) b t).2 ∧ DatX wr dv (verG (l.take i) b t).1 ∧ wr = w.alloc (.cells ZB 5)) (fun _ _ iv _ => n - (intOf iv).toNat)
 case atStart => exact ⟨0, rfl, Nat.zero_le _, rfl, HH.out.2.2.2.1, (by first | trivial | rfl)⟩
 case round =>
  obtain ⟨i, rfl, hi, rfl, hD, rfl⟩ := hrel
  by_cases hlt : i < n
  ·have hlti : (i : Int) < n := by omega
   have hil : i < l.length := by have := HH.out.2.1; omega
   obtain ⟨pa', c', e, -, hx⟩ := HH.out.1.keep HH.out.2.2.2.2
   obtain ⟨g, o, u, hpa, -, q0, q1, q2, hD2⟩ := hx i hil
   cases e
   subst hpa
   have htk := verG_take l b t i hil
   obtain ⟨k, y, dat, hk⟩ : ∃ k y dat, l[i] = (k, y, dat) := ⟨_, _, _, rfl⟩
   rw [hk] at q0 q1 hD2 htk
   simp only at q0 q1 hD2 htk
   have HD := Lib.hid (And.intro hD (And.intro hD2 htk))
   clear hD hD2 htk hx hk
   obtain ⟨tm, htm⟩ : ∃ tm, tm = (verG (l.take i) b t).2 := ⟨_, rfl⟩
   rw [← htm]
   have HT : Hid (Value.int .i64 tm = .int .i64 (verG (l.take i) b t).2) := Lib.hid (by rw [htm])
   clear htm
   by_cases hkb : k = b
   ·subst hkb
    by_cases hty : y ≤ t
    ·have dy : decide (y ≤ t) = true := decide_eq_true hty
     go_wp2_with fail
     go_roundw
     case rel =>
      have e := HD.out.2.2
      rw [if_pos ⟨rfl, hty⟩] at e
      exact ⟨i + 1, by go_num, hlt, by rw [e], by rw [e]; exact HD.out.2.1, (by first | trivial | rfl)⟩
     case measure => simp [intOf]; omega
    ·have dy : decide (y ≤ t) = false := decide_eq_false hty
     go_wp2_with fail
     go_roundw
     case rel =>
      have e := HD.out.2.2
      rw [if_neg (fun h => hty h.2)] at e
      exact ⟨i + 1, by go_num, hlt, by rw [e]; exact HT.out, by rw [e]; exact HD.out.1, (by first | trivial | rfl)⟩
     case measure => simp [intOf]; omega
   ·have hkq : (k == b) = false := beq_eq_false_iff_ne.2 hkb
    have hkd : decide (k = b) = false := decide_eq_false hkb
    go_wp2_with fail
    go_roundw
    case rel =>
     have e := HD.out.2.2
     rw [if_neg (fun h => hkb h.1)] at e
     exact ⟨i + 1, by go_num, hlt, by rw [e]; exact HT.out, by rw [e]; exact HD.out.1, (by first | trivial | rfl)⟩
    case measure => simp [intOf]; omega
  ·obtain rfl : i = n := by omega
   have htk : l.take i = l := List.take_of_length_le (by have := HH.out.2.1; omega)
   rw [htk] at hD ⊢
   have HD := Lib.hid hD
   clear hD
   go_wp2_with fail
   go_ret2
   exact ⟨_, rfl, HH.out.2.2.2.2, HD.out⟩
theorem RyAt.c0 {w : World} {Y : Nat} {l : List (Int × Int × List UInt8)} {t : Int} (h : RyAt w Y l t) : w.cell? ⟨Y, 0, none⟩ = some (.int .i64 258) := by
 obtain ⟨v, h1, -⟩ := h
 exact cell_is h1 0 rfl
set_option maxRecDepth 100000 in
set_option maxHeartbeats 2000000 in
theorem rin_any (w : World) {Y : Nat} {a n last : Int} {l : List (Int × Int × List UInt8)} (h : RyAt w Y l last) (hm : MayE a n) (hn : a + n ≤ 258) : Calls Tryz.prog 166 #[.pointer (some ⟨Y, 0, none⟩), .agg #[.int .i64 a, .int .i64 n]] w fun e w' => e = .returned (.bool true) ∧ Chg [] w w' := by
 have g0 := heap_new w (.cells #[.int .i64 a, .int .i64 n] 79)
 have k0 : Chg [] w (w.alloc (.cells #[.int .i64 a, .int .i64 n] 79)) := Chg.alloc w _
 have c0 : (w.alloc (.cells #[.int .i64 a, .int .i64 n] 79)).cell? ⟨w.heap.size, 0, none⟩ = some (.int .i64 a) := cell_is g0 0 rfl
 have c1 : (w.alloc (.cells #[.int .i64 a, .int .i64 n] 79)).cell? ⟨w.heap.size, 1, none⟩ = some (.int .i64 n) := cell_is g0 1 rfl
 have y0 := (h.keep k0).c0
 have hm2 := hm
 unfold MayE at hm2
 have hs : IntKind.i64.wrap (a + n) = a + n := by rw [IntKind.wrap_i64]; omega
 have hd : decide (a + n ≤ 258) = true := decide_eq_true hn
 have HM := Lib.hid hm
 clear h hm hn g0
 go_enter Tryz.func166, Tryz.ntmps166
 go_wp2_with fail
 generalize w.alloc (.cells #[.int .i64 a, .int .i64 n] 79) = w1 at *
 generalize w.heap.size = z at *
 go_region_held3 (fun wx => wx.cell? ⟨z, 0, none⟩ = some (.int .i64 a) ∧ wx.cell? ⟨z, 1, none⟩ = some (.int .i64 n) ∧ wx.cell? ⟨Y, 0, none⟩ = some (.int .i64 258))
  (first | (exact ⟨c0, c1, y0⟩) | (exact ⟨k2.cell c0 (by simp), k2.cell c1 (by simp), k2.cell y0 (by simp)⟩))
  (first | (go_at_call 213; refine (rmay_ext w1.drew).mono ?_; rintro e w2 ⟨rfl, k2⟩; rw [decide_eq_true HM.out]))
 go_wp2_with fail
 go_ret
 exact ⟨rfl, k0.then ((Chg.refl [] w1).drew.then k2)⟩
theorem run_copy40 (w : World) {z : Nat} {v : Value} {l : List UInt8} (ty : TypeId) (hz : w.heap[z]? = some (.cells #[] 5 (0, 0))) (h : DatX w v l) :
  ∃ v' w', (Builtin.append_ #[47, 47] ty #[.slice (some ⟨z, 0, none⟩) 0 0, v]).run Tryz.prog w = .ok v' w' ∧ Chg [z] w w' ∧ DatX w' v' l := by
 obtain ⟨g, o, c, rfl, hc, hl, hb, -⟩ := h
 have ho : w.ownsRow z 5 1 (.slice (some ⟨z, 0, none⟩) 0 0) 0 (Lib.byteCells []) := ⟨rfl, Or.inr ⟨z, 0, #[], rfl, Nat.le_refl _, hz, Nat.le_refl _, by unfold maxLen; omega, rfl, rfl⟩⟩
 obtain ⟨v', w', h1, h2⟩ := append_bs_own (P := Tryz.prog) w 47 ty 5 ty23 inf5c z _ 0 [] ho (some ⟨g, o, none⟩) 40 c l hl hb (by omega) (Nat.le_of_lt (heap_lt hz))
 refine ⟨v', w', h1, Chg.of_grown h2.2.2, ?_⟩
 have h3 : w'.ownsRow z 5 1 v' 40 (Lib.byteCells l) := by simpa using h2.1
 obtain ⟨pa, c', rfl, hc'⟩ := own_form h3
 rcases h3.2 with ⟨e, h0⟩ | ⟨g', cap, cur, e, hA, hg, h4⟩
 ·omega
 ·cases e
  exact ⟨g', 0, _, rfl, hc', hl, Bs.own h3, ⟨_, hg⟩⟩
def RvAt (w : World) (lo V Y U : Nat) (t : Int) (S : List (Int × Int)) (n : Nat) : Prop :=
 ∃ sv rv xs, w.heap[V]? = some (.cells #[.pointer (some ⟨Y, 0, none⟩), .pointer (some ⟨U, 0, none⟩), .int .i64 t, .int .i64 64, sv, rv] 180 (0, 0)) ∧ w.ownsRow lo 79 2 sv S.length (spCells S) ∧ w.ownsRow lo 255 3 rv n xs
def RrX (w w' : World) (V : Nat) : Prop := ∃ rv rv' T, w.cell? ⟨V, 5, none⟩ = some rv ∧ w'.cell? ⟨V, 5, none⟩ = some rv' ∧ Chg T w w' ∧ (∀ x ∈ T, x < w.heap.size → x = V ∨ rv.ownBlock = some x) ∧ ∀ g, rv'.ownBlock = some g → g < w.heap.size → rv.ownBlock = some g
def viewG (P : List (Int × List UInt8)) (L : List (Int × Int × List UInt8)) (t b : Int) : List UInt8 := (bufG P b).getD (verG L b t).1
theorem RbAt.keepA {w w' : World} {T : List Nat} {U : Nat} {l : List (Int × List UInt8)} (h : RbAt w U l) (hc : Chg T w w') (hT : Av w T [173, 5, 50]) : RbAt w' U l := by
 obtain ⟨v, h1, h2⟩ := h
 exact ⟨v, hc.heap h1 (hT.ne h1 (by simp)), h2.keepA hc (fun x hx cs t fr hh hm => hT x hx cs t fr hh (by simp at hm; rcases hm with rfl | rfl <;> simp))⟩
theorem RyAt.keepA {w w' : World} {T : List Nat} {Y : Nat} {l : List (Int × Int × List UInt8)} {t : Int} (h : RyAt w Y l t) (hc : Chg T w w') (hT : Av w T [247, 5, 259]) : RyAt w' Y l t := by
 obtain ⟨v, h1, h2⟩ := h
 exact ⟨v, hc.heap h1 (hT.ne h1 (by simp)), h2.keepA hc (fun x hx cs t fr hh hm => hT x hx cs t fr hh (by simp at hm; rcases hm with rfl | rfl <;> simp))⟩
theorem rbuf_get1 (w : World) {U : Nat} {b : Int} {l : List (Int × List UInt8)} (h : RbAt w U l) (hl : l.length ≤ 1000) : Calls Tryz.prog 168 #[.pointer (some ⟨U, 0, none⟩), .int .i64 b] w fun e w' => ∃ v, e = .returned (.tuple #[v, .bool (bufG l b).isSome]) ∧ w = w' ∧ ∀ x, bufG l b = some x → DatX w v x := by
 refine (rbuf_get w h hl).mono ?_
 rintro e w' ⟨hw, ⟨h1, rfl⟩ | ⟨x, v, h1, h2, rfl⟩⟩
 ·exact ⟨_, by rw [h1]; rfl, hw, fun x hx => by rw [h1] at hx; cases hx⟩
 ·exact ⟨v, by rw [h1]; rfl, hw, fun y hy => by rw [h1] at hy; cases hy; exact h2⟩
theorem rbuf_get2 (w : World) {U : Nat} {b b' : Int} {l : List (Int × List UInt8)} (h : RbAt w U l) (hl : l.length ≤ 1000) (hb : b' = b) : Calls Tryz.prog 168 #[.pointer (some ⟨U, 0, none⟩), .int .i64 b'] w fun e w' => ∃ v, e = .returned (.tuple #[v, .bool (bufG l b).isSome]) ∧ w = w' ∧ ∀ x, bufG l b = some x → DatX w v x := by
 subst hb
 exact rbuf_get1 w h hl
theorem rmap_get2 (w : World) {Y : Nat} {b b' t last : Int} {l : List (Int × Int × List UInt8)} (h : RyAt w Y l last) (hl : l.length ≤ 100000) (hb0 : 0 ≤ b) (hb1 : b < 258) (hb : b' = b) : Calls Tryz.prog 169 #[.pointer (some ⟨Y, 0, none⟩), .int .i64 b', .int .i64 t] w fun e w' =>
  ∃ v, e = .returned (.tuple #[v, .int .i64 (verG l b t).2]) ∧ Chg [] w w' ∧ DatX w' v (verG l b t).1 := by
 subst hb
 exact rmap_get w h hl hb0 hb1
theorem tyRd : Tryz.prog.underlying 178 = some (.slice 255) := by kernel_rfl
theorem infRd : (Tryz.prog.info? 255).map (fun i => (i.zero, i.size, i.bytes)) = some (some (.agg #[.int .i64 0, .slice none 0 0, .bool false]), 3, 40) := by kernel_rfl
def RmS (w : World) (G Y : Nat) (hv tv Tv qv qhv : Value) (n num giv dn out : Int) : Prop :=
 w.heap[G]? = some (.cells #[.pointer (some ⟨Y, 0, none⟩), .int .i64 16, hv, tv, .int .i64 n, Tv, qv, qhv, .int .i64 out, .int .i64 num, .int .i64 giv, .int .i64 dn, .bool false, .int .i64 258, .int .i64 0] 120 (0, 0))
def Int1 (w : World) (v : Value) (x : Int) : Prop := ∃ g c, v = .slice (some ⟨g, 0, none⟩) 1 c ∧ 1 ≤ c ∧ ∃ cs : Array Value, w.heap[g]? = some (.cells cs 3 (0, 0)) ∧ cs[0]? = some (.int .i64 x) ∧ 0 < cs.size
theorem Int1.keepT {w w' : World} {T : List Nat} {v : Value} {x : Int} (h : Int1 w v x) (hc : Chg T w w') (hT : ∀ g ∈ T, ∀ cs fr, w.heap[g]? = some (.cells cs 3 fr) → cs.size = 0) : Int1 w' v x := by
 obtain ⟨g, c, e, h1, cs, h2, h3, h4⟩ := h
 exact ⟨g, c, e, h1, cs, hc.heap h2 (fun hm => by have := hT g hm cs _ h2; omega), h3, h4⟩
theorem Int1.own {w : World} {base g c : Nat} {x : Int} (h : w.ownsRow base 3 1 (.slice (some ⟨g, 0, none⟩) 1 c) 1 [.int .i64 x]) : Int1 w (.slice (some ⟨g, 0, none⟩) 1 c) x := by
 rcases h.2 with ⟨e, h0⟩ | ⟨g', cap, cur, e, hA, hg, h1, h2, h3, h4⟩
 ·omega
 ·cases e
  refine ⟨g, c, rfl, h1, cur, hg, ?_, by omega⟩
  have := congrArg (fun l => l[0]?) h4
  simpa [List.getElem?_take] using this
theorem step_append_i2 {ops : Array Oper} {o : Oper} {a : Act} {w : World} {K : Act → World → Prop} {Q : Exit → Act → World → Prop} {E : Prop} (hgd : o.guard = none) (s x : Operand)
  (ho : o.op = .call { callee := .builtin .append, args := #[s, x], argTypes := #[115, 115] }) (z b c : Nat) (k : Int) (hs : a.eval s = .slice (some ⟨z, 0, none⟩) 0 0) (hz : w.heap[z]? = some (.cells #[] 3 (0, 0)))
  (hx : a.eval x = .slice (some ⟨b, 0, none⟩) 1 c) (hb : w.cell? ⟨b, 0, none⟩ = some (.int .i64 k))
  (h : ∀ g cap w', Chg [z] w w' → w'.ownsRow 0 3 1 (.slice (some ⟨g, 0, none⟩) 1 cap) 1 [.int .i64 k] → K (a.put o.dst (.slice (some ⟨g, 0, none⟩) 1 cap)) w') :
  if Region.wanted o (yielded ops a.tmps) = true then Oper.wp Tryz.prog o a w K Q else E := by
 obtain ⟨i, hi0, hz0, hz1, hz2⟩ := info_parts inf3
 refine step_append_lies w hgd s x 115 ho 0 3 i _ 1 8 ty62 hi0 hz0 hz1 hz2 rfl (by decide) _ 0 [] hs (own0 w z hz) ⟨b, 0, none⟩ 1 c [.int .i64 k] hx rfl ?_ ?_ (by decide) (by unfold maxLen; omega) (by omega) (Nat.zero_le _) _ rfl ?_
 ·intro j u hu
  rw [add_lit, Nat.zero_add]
  match j with
  | 0 => cases hu; exact hb
  | j + 1 => simp at hu
 ·intro u hu
  simp at hu
  subst hu
  rfl
 ·intro g cap w' h2 h3 _ _
  exact h g cap w' (Chg.of_grown h3) h2
theorem wpList_append_i2 {ops : Array Oper} {rest : List Oper} {o : Oper} {a : Act} {w : World} {Q : Exit → Act → World → Prop} (hgd : o.guard = none) (s x : Operand)
  (ho : o.op = .call { callee := .builtin .append, args := #[s, x], argTypes := #[115, 115] }) (z b c : Nat) (k : Int) (hs : a.eval s = .slice (some ⟨z, 0, none⟩) 0 0) (hz : w.heap[z]? = some (.cells #[] 3 (0, 0)))
  (hx : a.eval x = .slice (some ⟨b, 0, none⟩) 1 c) (hb : w.cell? ⟨b, 0, none⟩ = some (.int .i64 k))
  (h : ∀ g cap w', Chg [z] w w' → w'.ownsRow 0 3 1 (.slice (some ⟨g, 0, none⟩) 1 cap) 1 [.int .i64 k] → wpList Tryz.prog ops Q rest (a.put o.dst (.slice (some ⟨g, 0, none⟩) 1 cap)) w') : wpList Tryz.prog ops Q (o :: rest) a w := by
 obtain ⟨i, hi0, hz0, hz1, hz2⟩ := info_parts inf3
 refine wpList_append_lies w hgd s x 115 ho 0 3 i _ 1 8 ty62 hi0 hz0 hz1 hz2 rfl (by decide) _ 0 [] hs (own0 w z hz) ⟨b, 0, none⟩ 1 c [.int .i64 k] hx rfl ?_ ?_ (by decide) (by unfold maxLen; omega) (by omega) (Nat.zero_le _) _ rfl ?_
 ·intro j u hu
  rw [add_lit, Nat.zero_add]
  match j with
  | 0 => cases hu; exact hb
  | j + 1 => simp at hu
 ·intro u hu
  simp at hu
  subst hu
  rfl
 ·intro g cap w' h2 h3 _ _
  exact h g cap w' (Chg.of_grown h3) h2
theorem own_setC {w : World} {base e t size n G i : Nat} {v u : Value} {xs : List Value} {cs : Array Value} (h : w.ownsRow base e size v n xs) (hG : w.heap[G]? = some (.cells cs t (0, 0))) (ht : t ≠ e) : (w.setCell ⟨G, i, none⟩ u).ownsRow base e size v n xs :=
 own_kp h (Chg.set w G i u) (fun g hg hm => by
  rw [List.mem_singleton] at hm
  subst hm
  obtain ⟨-, cs', hh⟩ := own_elem h hg
  rw [hG] at hh
  cases hh
  exact ht rfl)
set_option maxRecDepth 100000 in
set_option maxHeartbeats 4000000 in
theorem rbook_open2 (w : World) {G Y : Nat} {Tv qv qhv : Value} {n num giv dn at_ out : Int} (h : RmS w G Y (.slice none 0 0) (.slice none 0 0) Tv qv qhv n num giv dn out) (h0 : 0 ≤ at_) (h1 : at_ ≤ 1099511627776) (hn0 : 0 ≤ n) (hn1 : n ≤ 1000000) : Calls Tryz.prog 93 #[.pointer (some ⟨G, 1, none⟩), .int .i64 at_] w fun e w' =>
  ∃ a b, e = .returned (.tuple #[.int .i64 (n + 1), .int .i64 0]) ∧ Chg [G] w w' ∧ RmS w' G Y a b Tv qv qhv (n + 1) num giv dn out ∧ Int1 w' a (n + 1) ∧ Int1 w' b at_ := by
 have c1 : w.cell? ⟨G, 1, none⟩ = some (.int .i64 16) := cell_is h 1 rfl
 have c2 : w.cell? ⟨G, 2, none⟩ = some (.slice none 0 0) := cell_is h 2 rfl
 have c3 : w.cell? ⟨G, 3, none⟩ = some (.slice none 0 0) := cell_is h 3 rfl
 have c4 : w.cell? ⟨G, 4, none⟩ = some (.int .i64 n) := cell_is h 4 rfl
 have f4 := unfrozen h 4
 have d0 : decide (at_ < 0) = false := decide_eq_false (by omega)
 have d1 : decide (1099511627776 < at_) = false := decide_eq_false (by omega)
 go_enter Tryz.func93, Tryz.ntmps93
 go_wp2_with fail
 go_quiet (fail)
 go_upto_region 6 with fail
 have h1 : RmS ((w.drewN nq).setCell ⟨G, 4, none⟩ (.int .i64 (n + 1))) G Y (.slice none 0 0) (.slice none 0 0) Tv qv qhv (n + 1) num giv dn out := heap_set (show (w.drewN nq).heap[G]? = _ from h) 4 _ rfl
 have k1 : Chg [G] w ((w.drewN nq).setCell ⟨G, 4, none⟩ (.int .i64 (n + 1))) := ((Chg.refl [G] w).drewN nq).then (Chg.set _ G 4 _)
 generalize (w.drewN nq).setCell ⟨G, 4, none⟩ (.int .i64 (n + 1)) = w1 at *
 clear c1 c2 c3 c4 f4
 have hG := heap_lt h1
 have e2 : w1.cell? ⟨G, 2, none⟩ = some (.slice none 0 0) := cell_is h1 2 rfl
 have e4 : w1.cell? ⟨G, 4, none⟩ = some (.int .i64 (n + 1)) := cell_is h1 4 rfl
 have e2d : w1.drew.cell? ⟨G, 2, none⟩ = some (.slice none 0 0) := e2
 have e4d : w1.drew.cell? ⟨G, 4, none⟩ = some (.int .i64 (n + 1)) := e4
 have e2a : ∀ o, (w1.alloc o).cell? ⟨G, 2, none⟩ = some (.slice none 0 0) := fun o => cell_is (heap_old h1) 2 rfl
 have e4a : ∀ o, (w1.alloc o).cell? ⟨G, 4, none⟩ = some (.int .i64 (n + 1)) := fun o => cell_is (heap_old h1) 4 rfl
 have e2b : ∀ o p, ((w1.alloc o).alloc p).cell? ⟨G, 2, none⟩ = some (.slice none 0 0) := fun o p => cell_is (heap_old (heap_old h1)) 2 rfl
 have e4b : ∀ o p, ((w1.alloc o).alloc p).cell? ⟨G, 4, none⟩ = some (.int .i64 (n + 1)) := fun o p => cell_is (heap_old (heap_old h1)) 4 rfl
 obtain ⟨zA, bA⟩ := two_new w1 (.cells #[] 3) (.cells #[.int .i64 (n + 1)] 3)
 obtain ⟨bB, zB⟩ := two_new w1 (.cells #[.int .i64 (n + 1)] 3) (.cells #[] 3)
 have rA : RmS ((w1.alloc (.cells #[] 3)).alloc (.cells #[.int .i64 (n + 1)] 3)) G Y (.slice none 0 0) (.slice none 0 0) Tv qv qhv (n + 1) num giv dn out := heap_old (heap_old h1)
 have rB : RmS ((w1.alloc (.cells #[.int .i64 (n + 1)] 3)).alloc (.cells #[] 3)) G Y (.slice none 0 0) (.slice none 0 0) Tv qv qhv (n + 1) num giv dn out := heap_old (heap_old h1)
 have kA := (Chg.refl [G] w1).drew.then_alloc (.cells #[] 3) |>.then_alloc (.cells #[.int .i64 (n + 1)] 3)
 have kB := (Chg.refl [G] w1).drew.then_alloc (.cells #[.int .i64 (n + 1)] 3) |>.then_alloc (.cells #[] 3)
 have nA : G ∉ [w1.heap.size] := by simp; omega
 have nB : G ∉ [w1.heap.size + 1] := by simp; omega
 go_cut [5] from 29 (fun e wx => e = .int .i64 0 ∧ ∃ a, RmS wx G Y a (.slice none 0 0) Tv qv qhv (n + 1) num giv dn out ∧ Chg [G] w wx ∧ Int1 wx a (n + 1))
 case first =>
  go_region_law
   (first
    | (refine step_append_run rfl (.tmp 30) (.tmp 34) 115 115 rfl _ _ rfl rfl _ _ (append_none _ _ _) ?_)
    | (refine step_append_i2 rfl (.tmp 35) (.tmp 40) rfl w1.heap.size (w1.heap.size + 1) 1 _ rfl zA rfl (cell_is bA 0 rfl) ?_; intro g5 cp5 w5 k5 o5; have r5 := k5.heap rA nA; have c5 := cell_is r5 2 rfl; have f5 := unfrozen r5 2; have k6 : Chg [G] w1 w5 := kA.trans k5 (by intro x hx hlt; rw [List.mem_singleton] at hx; omega))
    | (refine step_append_i2 rfl (.tmp 35) (.tmp 40) rfl (w1.heap.size + 1) w1.heap.size 1 _ rfl zB rfl (cell_is bB 0 rfl) ?_; intro g5 cp5 w5 k5 o5; have r5 := k5.heap rB nB; have c5 := cell_is r5 2 rfl; have f5 := unfrozen r5 2; have k6 : Chg [G] w1 w5 := kB.trans k5 (by intro x hx hlt; rw [List.mem_singleton] at hx; omega)))
  all_goals
   have r6 : RmS (w5.setCell ⟨G, 2, none⟩ (.slice (some ⟨g5, 0, none⟩) 1 cp5)) G Y (.slice (some ⟨g5, 0, none⟩) 1 cp5) (.slice none 0 0) Tv qv qhv (n + 1) num giv dn out := heap_set r5 2 _ rfl
   have k7 := (k1.then k6).then (Chg.set w5 G 2 (.slice (some ⟨g5, 0, none⟩) 1 cp5))
   have i7 := Lib.hid (Int1.own (own_setC (G := G) (i := 2) (u := .slice (some ⟨g5, 0, none⟩) 1 cp5) o5 r5 (by decide)))
   clear k6 r5 c5 f5 o5
   go_wp2_with fail
   go_meet
   exact ⟨rfl, _, r6, k7, i7.out⟩
 case rest =>
  obtain ⟨rfl, a, h7, k7, i7⟩ := hcut
  clear k1 h1 e2 e4 e2d e4d e2a e4a e2b e4b zA bA zB bB rA rB kA kB nA nB hG h
  have hG := heap_lt h7
  have I7 := Lib.hid i7
  clear i7
  have c3 : wc.cell? ⟨G, 3, none⟩ = some (.slice none 0 0) := cell_is h7 3 rfl
  have c3a : ∀ o, (wc.alloc o).cell? ⟨G, 3, none⟩ = some (.slice none 0 0) := fun o => cell_is (heap_old h7) 3 rfl
  have c4 : wc.cell? ⟨G, 4, none⟩ = some (.int .i64 (n + 1)) := cell_is h7 4 rfl
  obtain ⟨zA, bA⟩ := two_new wc (.cells #[] 3) (.cells #[.int .i64 at_] 3)
  have rA : RmS ((wc.alloc (.cells #[] 3)).alloc (.cells #[.int .i64 at_] 3)) G Y a (.slice none 0 0) Tv qv qhv (n + 1) num giv dn out := heap_old (heap_old h7)
  have kA0 := (Chg.refl [] wc).then_alloc (.cells #[] 3) |>.then_alloc (.cells #[.int .i64 at_] 3)
  have kA : Chg [G] wc ((wc.alloc (.cells #[] 3)).alloc (.cells #[.int .i64 at_] 3)) := kA0.mono (fun x hx _ => by cases hx)
  have nA : G ∉ [wc.heap.size] := by simp; omega
  have HF := Lib.hid (fun (g5 cp5 : Nat) (w5 : World) (k5 : Chg [wc.heap.size] ((wc.alloc (.cells #[] 3)).alloc (.cells #[.int .i64 at_] 3)) w5) (o5 : w5.ownsRow 0 3 1 (.slice (some ⟨g5, 0, none⟩) 1 cp5) 1 [.int .i64 at_]) =>
   (show RmS (w5.setCell ⟨G, 3, none⟩ (.slice (some ⟨g5, 0, none⟩) 1 cp5)) G Y a (.slice (some ⟨g5, 0, none⟩) 1 cp5) Tv qv qhv (n + 1) num giv dn out ∧ Chg [G] w (w5.setCell ⟨G, 3, none⟩ (.slice (some ⟨g5, 0, none⟩) 1 cp5)) ∧ Int1 (w5.setCell ⟨G, 3, none⟩ (.slice (some ⟨g5, 0, none⟩) 1 cp5)) a (n + 1) ∧ Int1 (w5.setCell ⟨G, 3, none⟩ (.slice (some ⟨g5, 0, none⟩) 1 cp5)) (.slice (some ⟨g5, 0, none⟩) 1 cp5) at_ from
    ⟨heap_set (k5.heap rA nA) 3 _ rfl, (k7.then (kA.trans k5 (by intro x hx hlt; rw [List.mem_singleton] at hx; omega))).then (Chg.set w5 G 3 _),
     ((I7.out.keepT kA0 (fun g hg => by cases hg)).keepT k5 (fun g hg cs fr hh => by
      rw [List.mem_singleton] at hg
      subst hg
      rw [zA] at hh
      cases hh
      rfl)).keepT (Chg.set w5 G 3 _) (fun g hg cs fr hh => by
      rw [List.mem_singleton] at hg
      subst hg
      rw [k5.heap rA nA] at hh
      cases hh),
     Int1.own (own_setC (G := G) (i := 3) (u := .slice (some ⟨g5, 0, none⟩) 1 cp5) o5 (k5.heap rA nA) (by decide))⟩))
  go_wp2_with (at_builtin; first
   | (refine Lib.wpList_append_run _ rfl (.tmp 45) (.tmp 49) 115 115 rfl _ _ rfl rfl _ _ (append_none _ _ _) ?_)
   | (refine wpList_append_i2 rfl (.tmp 50) (.tmp 52) rfl wc.heap.size (wc.heap.size + 1) 1 _ rfl zA rfl (cell_is bA 0 rfl) ?_; intro g5 cp5 w5 k5 o5; have r5 := k5.heap rA nA; have c5 := cell_is r5 3 rfl; have f5 := unfrozen r5 3; have c6 : (w5.setCell ⟨G, 3, none⟩ (.slice (some ⟨g5, 0, none⟩) 1 cp5)).cell? ⟨G, 4, none⟩ = some (.int .i64 (n + 1)) := cell_is (heap_set r5 3 _ rfl) 4 rfl))
  have hf := Lib.hid (HF.out g5 cp5 w5 k5 o5)
  go_ret2
  exact ⟨_, _, rfl, hf.out.2.1, hf.out.1, hf.out.2.2.1, hf.out.2.2.2⟩
theorem puX_nil (w : World) : PuX w (.slice none 0 0) [] := ⟨none, 0, rfl, Nat.le_refl _, fun i h => by cases h⟩
set_option maxRecDepth 100000 in
theorem rbuf_new2 (w : World) : Calls Tryz.prog 94 #[.int .i64 258, .int .i64 16] w fun e w' => ∃ U, e = .returned (.tuple #[.pointer (some ⟨U, 0, none⟩), .int .i64 0]) ∧ Chg [] w w' ∧ w.heap.size ≤ U ∧ RbAt w' U [] := by
 go_enter Tryz.func94, Tryz.ntmps94
 go_wp2_with fail
 go_ret2
 exact ⟨_, rfl, Chg.alloc _ _, Nat.le_refl _, _, heap_new w _, puX_nil _⟩
set_option maxRecDepth 100000 in
theorem rview_new2 (w : World) (X B : Nat) (t : Int) : Calls Tryz.prog 95 #[.pointer (some ⟨X, 0, none⟩), .pointer (some ⟨B, 0, none⟩), .int .i64 t] w fun e w' => ∃ V, e = .returned (.pointer (some ⟨V, 0, none⟩)) ∧ Chg [] w w' ∧ w.heap.size ≤ V ∧ w'.heap[V]? = some (.cells #[.pointer (some ⟨X, 0, none⟩), .pointer (some ⟨B, 0, none⟩), .int .i64 t, .int .i64 64, .slice none 0 0, .slice none 0 0] 180 (0, 0)) := by
 go_enter Tryz.func95, Tryz.ntmps95
 go_wp2_with fail
 go_ret
 exact ⟨_, rfl, Chg.alloc _ _, Nat.le_refl _, heap_new w _⟩
theorem step_append_p2 {ops : Array Oper} {o : Oper} {a : Act} {w : World} {K : Act → World → Prop} {Q : Exit → Act → World → Prop} {E : Prop} (hgd : o.guard = none) (s x : Operand)
  (ho : o.op = .call { callee := .builtin .append, args := #[s, x], argTypes := #[118, 118] }) (base : Nat) (v : Value) (n : Nat) (xs : List Value) (hs : a.eval s = v) (hown : w.ownsRow base 163 1 v n xs) (b c : Nat) (k : Value)
  (hx : a.eval x = .slice (some ⟨b, 0, none⟩) 1 c) (hb : w.cell? ⟨b, 0, none⟩ = some k) (hk : k.oneCell' = true) (hn : n ≤ 1000000) (hbase : base ≤ w.heap.size)
  (h : ∀ g cap w', w'.ownsRow base 163 1 (.slice (some ⟨g, 0, none⟩) (n + 1) cap) (n + 1) (xs ++ [k]) → Chg v.ownBlock.toList w w' → (v.ownBlock = some g ∨ g = w.heap.size) → K (a.put o.dst (.slice (some ⟨g, 0, none⟩) (n + 1) cap)) w') :
  if Region.wanted o (yielded ops a.tmps) = true then Oper.wp Tryz.prog o a w K Q else E := by
 obtain ⟨i, hi0, hz0, hz1, hz2⟩ := info_parts inf206
 refine step_append_lies w hgd s x 118 ho base 163 i _ 1 8 ty161 hi0 hz0 hz1 hz2 rfl (by decide) v n xs hs hown ⟨b, 0, none⟩ 1 c [k] hx rfl ?_ ?_ (by decide) (by unfold maxLen; omega) (by omega) hbase _ rfl ?_
 ·intro j u hu
  rw [add_lit, Nat.zero_add]
  match j with
  | 0 => cases hu; exact hb
  | j + 1 => simp at hu
 ·intro u hu
  simp at hu
  subst hu
  exact hk
 ·intro g cap w' h2 h3 h4 _
  exact h g cap w' h2 (Chg.own h3 (fun g hg _ => by simp [hg])) h4
def RtAt (w : World) (D V U : Nat) (st tm cd : Int) : Prop := w.heap[D]? = some (.cells #[.int .i64 st, .int .i64 tm, .int .i64 cd, .pointer (some ⟨V, 0, none⟩), .pointer (some ⟨U, 0, none⟩)] 167 (0, 0))
def RbgR (w w' : World) (lo G Y : Nat) (Tv qv qhv : Value) (xs : List Value) (n : Nat) (num giv dn out : Int) : Prop :=
 ∃ a b Tv' D V U, RmS w' G Y a b Tv' qv qhv (n + 1 : Nat) num giv dn out ∧ Int1 w' a (n + 1 : Nat) ∧ Int1 w' b dn ∧ w'.ownsRow lo 163 1 Tv' (n + 1) (xs ++ [.pointer (some ⟨D, 0, none⟩)]) ∧ RtAt w' D V U 1 0 0 ∧ RvAt w' lo V Y U dn [] 0 ∧ w'.cell? ⟨V, 5, none⟩ = some (.slice none 0 0) ∧ RbAt w' U [] ∧
  (w.heap.size ≤ D ∧ w.heap.size ≤ V ∧ w.heap.size ≤ U) ∧ Chg (G :: Tv.ownBlock.toList) w w' ∧ ∀ g, Tv'.ownBlock = some g → Tv.ownBlock = some g ∨ w.heap.size ≤ g
set_option maxRecDepth 100000 in
set_option maxHeartbeats 8000000 in
theorem rbegin2 (w : World) {lo G Y n : Nat} {Tv qv qhv : Value} {xs : List Value} {num giv dn out : Int} (h : RmS w G Y (.slice none 0 0) (.slice none 0 0) Tv qv qhv n num giv dn out) (hT : w.ownsRow lo 163 1 Tv n xs) (hlo : lo ≤ w.heap.size) (h0 : 0 ≤ dn) (h1 : dn ≤ 1099511627776) (hn1 : n ≤ 100000) : Calls Tryz.prog 36 #[.pointer (some ⟨G, 0, none⟩)] w fun e w' =>
  e = .returned (.tuple #[.int .i64 (n + 1 : Nat), .int .i64 0]) ∧ RbgR w w' lo G Y Tv qv qhv xs n num giv dn out := by
 have c11 : w.cell? ⟨G, 11, none⟩ = some (.int .i64 dn) := cell_is h 11 rfl
 have HT := Lib.hid (And.intro hT hlo)
 have HB := Lib.hid (rbook_open2 w.drew (G := G) (Y := Y) h h0 h1 (by omega) (by omega))
 have hGT : Hid (∀ g, Tv.ownBlock = some g → g ≠ G) := Lib.hid (fun g hg e => by
  subst e
  obtain ⟨-, cs, hh⟩ := own_elem hT hg
  rw [h] at hh
  cases hh)
 clear hT hlo
 go_enter Tryz.func36, Tryz.ntmps36
 go_wp2_with fail
 go_region_held3 (fun wx => wx.cell? ⟨G, 11, none⟩ = some (.int .i64 dn)) (first | (exact c11) | (exact cell_is h2 11 rfl))
  (first | (go_at_call 93; refine HB.out.mono ?_; rintro e w2 ⟨a, b, rfl, k2, h2, i2, j2⟩))
 have k2' := (Chg.refl [G] w).drew.then k2
 have HI := Lib.hid (And.intro i2 j2)
 clear c11 k2 h i2 j2 HB
 have c13 : w2.cell? ⟨G, 13, none⟩ = some (.int .i64 258) := cell_is h2 13 rfl
 go_wp2_with fail
 refine (rbuf_new2 w2).mono ?_
 rintro e w3 ⟨U, rfl, k3, hU, hUb⟩
 have h3 : RmS w3 G Y a b Tv qv qhv ((n : Int) + 1) num giv dn out := k3.heap h2 (by simp)
 have k3' := k2'.then (k3.mono (T := [G]) (fun x hx _ => by cases hx))
 have HU := Lib.hid (And.intro (show w.heap.size ≤ U by have := k2'.size; omega) (And.intro hUb (And.intro (HI.out.1.keepT k3 (fun g hg => by cases hg)) (HI.out.2.keepT k3 (fun g hg => by cases hg)))))
 clear c13 h2 k2' k3 hU hUb HI
 go_wp2_with fail
 have e5 : w3.cell? ⟨G, 5, none⟩ = some Tv := cell_is h3 5 rfl
 have e0 : w3.cell? ⟨G, 0, none⟩ = some (.pointer (some ⟨Y, 0, none⟩)) := cell_is h3 0 rfl
 have e11 : w3.cell? ⟨G, 11, none⟩ = some (.int .i64 dn) := cell_is h3 11 rfl
 have e5d : w3.drew.cell? ⟨G, 5, none⟩ = some Tv := e5
 have e0d : w3.drew.cell? ⟨G, 0, none⟩ = some (.pointer (some ⟨Y, 0, none⟩)) := e0
 have e11d : w3.drew.cell? ⟨G, 11, none⟩ = some (.int .i64 dn) := e11
 have o3 : w3.ownsRow lo 163 1 Tv n xs := own_kp HT.out.1 k3' (fun g hg hm => hGT.out g hg (by simpa using hm))
 go_region_law
  (first
   | (go_simp; go_at_call 95; refine (rview_new2 w3.drew Y U dn).mono ?_; rintro e w4 ⟨V, rfl, k4, hV, hVh⟩; have h4 : RmS w4 G Y a b Tv qv qhv ((n : Int) + 1) num giv dn out := k4.heap h3 (by simp); have g5 := cell_is h4 5 rfl; have g5a : ∀ o, (w4.alloc o).cell? ⟨G, 5, none⟩ = some Tv := (fun o => cell_is (heap_old h4) 5 rfl); have g5b : ∀ o p, ((w4.alloc o).alloc p).cell? ⟨G, 5, none⟩ = some Tv := (fun o p => cell_is (heap_old (heap_old h4)) 5 rfl); have x1 := (two_new w4 (.cells #[.int .i64 1, .int .i64 0, .int .i64 0, .pointer (some ⟨V, 0, none⟩), .pointer (some ⟨U, 0, none⟩)] 167) (.cells #[.pointer (some ⟨w4.heap.size, 0, none⟩)] 163)); have k6 := ((k4.then_alloc (.cells #[.int .i64 1, .int .i64 0, .int .i64 0, .pointer (some ⟨V, 0, none⟩), .pointer (some ⟨U, 0, none⟩)] 167)).then_alloc (.cells #[.pointer (some ⟨w4.heap.size, 0, none⟩)] 163)); have h6 := k6.heap (show w3.drew.heap[G]? = _ from h3) (by simp); have o6 := own_kp (show w3.drew.ownsRow lo 163 1 Tv n xs from own_kp o3 (Chg.refl [] w3).drew (fun g hg hm => by cases hm)) k6 (fun g hg hm => by cases hm); have hlo6 : lo ≤ ((w4.alloc (.cells #[.int .i64 1, .int .i64 0, .int .i64 0, .pointer (some ⟨V, 0, none⟩), .pointer (some ⟨U, 0, none⟩)] 167)).alloc (.cells #[.pointer (some ⟨w4.heap.size, 0, none⟩)] 163)).heap.size := (by have h1 := k6.size; have h2 := k3'.size; have h3 := HT.out.2; have h4 : w3.drew.heap.size = w3.heap.size := rfl; omega))
   | (refine step_append_p2 rfl (.tmp 34) (.tmp 48) rfl lo Tv n xs rfl o6 (w4.heap.size + 1) 1 _ rfl (cell_is x1.2 0 rfl) rfl (by omega) hlo6 ?_; intro q5 cp5 w5 o7 k7 l7; have h7 := k7.heap h6 (fun hm => hGT.out G (by simpa using hm) rfl); have c7 := cell_is h7 5 rfl; have f7 := unfrozen h7 5))
 all_goals
  have hF : RbgR w (w5.setCell ⟨G, 5, none⟩ (.slice (some ⟨q5, 0, none⟩) (n + 1) cp5)) lo G Y Tv qv qhv xs n num giv dn out := by
   have kS := Chg.set w5 G 5 (.slice (some ⟨q5, 0, none⟩) (n + 1) cp5)
   have hTb : ∀ g, Tv.ownBlock = some g → ∃ cs, w3.heap[g]? = some (.cells cs 163 (0, 0)) := fun g hg => (own_elem o3 hg).2
   have nT : ∀ {x : Nat} {cs : Array Value} {t : TypeId}, w3.heap[x]? = some (.cells cs t (0, 0)) → t ≠ 163 → x ∉ Tv.ownBlock.toList := fun hh ht hm => by
    obtain ⟨cs', h'⟩ := hTb _ (by simpa using hm)
    rw [hh] at h'
    cases h'
    exact ht rfl
   have nT2 : ∀ {x : Nat}, w3.heap.size ≤ x → x ∉ Tv.ownBlock.toList := fun hh hm => by
    obtain ⟨cs', h'⟩ := hTb _ (by simpa using hm)
    have := heap_lt h'
    omega
   have hs3 : w3.drew.heap.size = w3.heap.size := rfl
   have hGl : G < w3.heap.size := heap_lt h3
   have hUl : U < w3.heap.size := (by obtain ⟨v, hh, -⟩ := HU.out.2.1; exact heap_lt hh)
   have hD : RtAt (w5.setCell ⟨G, 5, none⟩ (.slice (some ⟨q5, 0, none⟩) (n + 1) cp5)) w4.heap.size V U 1 0 0 := kS.heap (k7.heap x1.1 (nT2 (by have := k4.size; omega))) (by rw [List.mem_singleton]; have := k4.size; omega)
   have hV6 := ((Chg.alloc (S := []) w4 (.cells #[.int .i64 1, .int .i64 0, .int .i64 0, .pointer (some ⟨V, 0, none⟩), .pointer (some ⟨U, 0, none⟩)] 167)).then_alloc (.cells #[.pointer (some ⟨w4.heap.size, 0, none⟩)] 163)).heap hVh (by simp)
   have hV7 := kS.heap (k7.heap hV6 (nT2 (by omega))) (by rw [List.mem_singleton]; omega)
   have hB7 : RbAt (w5.setCell ⟨G, 5, none⟩ (.slice (some ⟨q5, 0, none⟩) (n + 1) cp5)) U [] := by
    obtain ⟨v, hh, hp⟩ := HU.out.2.1
    obtain ⟨pa, c, e, hc, -⟩ := hp
    exact ⟨v, kS.heap (k7.heap (k6.heap (show w3.drew.heap[U]? = _ from hh) (by simp)) (nT hh (by decide))) (by rw [List.mem_singleton]; intro e; rw [e] at hh; rw [h3] at hh; cases hh), pa, c, e, hc, fun i hi => by cases hi⟩
   have av5 : ∀ g ∈ Tv.ownBlock.toList, ∀ cs fr, ((w4.alloc (.cells #[.int .i64 1, .int .i64 0, .int .i64 0, .pointer (some ⟨V, 0, none⟩), .pointer (some ⟨U, 0, none⟩)] 167)).alloc (.cells #[.pointer (some ⟨w4.heap.size, 0, none⟩)] 163)).heap[g]? = some (.cells cs 3 fr) → cs.size = 0 := fun g hg cs fr hh => by
    obtain ⟨-, cs', h'⟩ := own_elem o6 (show Tv.ownBlock = some g by simpa using hg)
    rw [hh] at h'
    cases h'
   have avG : ∀ g ∈ [G], ∀ cs fr, w5.heap[g]? = some (.cells cs 3 fr) → cs.size = 0 := fun g hg cs fr hh => by
    rw [List.mem_singleton] at hg
    subst hg
    rw [h7] at hh
    cases hh
   have hi : ∀ {v : Value} {x : Int}, Int1 w3 v x → Int1 (w5.setCell ⟨G, 5, none⟩ (.slice (some ⟨q5, 0, none⟩) (n + 1) cp5)) v x := fun hv => (((hv.keepT (Chg.refl [] w3).drew (fun g hg => by cases hg)).keepT k6 (fun g hg => by cases hg)).keepT k7 av5).keepT kS avG
   have hkk : Chg (G :: Tv.ownBlock.toList) w (w5.setCell ⟨G, 5, none⟩ (.slice (some ⟨q5, 0, none⟩) (n + 1) cp5)) :=
    ((((k3'.mono (T := G :: Tv.ownBlock.toList) (fun x hx _ => by rw [List.mem_singleton] at hx; simp [hx])).drew.then (k6.mono (fun x hx _ => by cases hx))).then (k7.mono (fun x hx _ => List.mem_cons_of_mem _ hx))).then (kS.mono (fun x hx _ => by rw [List.mem_singleton] at hx; simp [hx])))
   have hw3 := k3'.size
   have hw4 := k4.size
   refine ⟨a, b, _, w4.heap.size, V, U, heap_set h7 5 _ rfl, hi HU.out.2.2.1, hi HU.out.2.2.2, own_kp o7 kS (fun g hg hm => ?_), hD, ⟨_, _, [], hV7, World.ownsRow_nil _ _ _ _, World.ownsRow_nil _ _ _ _⟩, cell_is hV7 5 rfl, hB7, ⟨by omega, by omega, HU.out.1⟩, hkk, fun g hg => ?_⟩
   ·obtain ⟨-, cs, hh⟩ := own_elem o7 hg
    rw [List.mem_singleton] at hm
    rw [hm, h7] at hh
    cases hh
   ·have e1 : q5 = g := by simpa [Value.ownBlock] using hg
    rcases l7 with h | h
    ·exact Or.inl (by rw [h, e1])
    ·have := k6.size
     exact Or.inr (by omega)
  have HF := Lib.hid hF
  clear h4 g5 g5a g5b x1 h6 h7 c7 f7 k4 k7 k6 o6 o7 l7 hF hV hVh hlo6
  go_wp2_with fail
  go_ret2
  exact ⟨by push_cast; rfl, HF.out⟩
set_option maxRecDepth 100000 in
set_option maxHeartbeats 8000000 in
theorem rview_read (w : World) {lo V Y U n m : Nat} {t last : Int} {a : Nat} {S : List (Int × Int)} {P : List (Int × List UInt8)} {L : List (Int × Int × List UInt8)} (h : RvAt w lo V Y U t S n) (hU : RbAt w U P) (hY : RyAt w Y L last) (hP : P.length ≤ 1000) (hL : L.length ≤ 100000) (hS : S.length ≤ 63) (hSi : InE S) (hn : n ≤ 10000)
  (hm0 : 1 ≤ m) (hm1 : m ≤ 16) (ha : a + m ≤ 258) (hlo : lo ≤ w.heap.size) :
  Calls Tryz.prog 97 #[.pointer (some ⟨V, 0, none⟩), .agg #[.int .i64 a, .int .i64 m]] w fun e w' => ∃ v, e = .returned (.tuple #[v, .int .i64 0]) ∧
   w'.ownsRow w.heap.size 5 1 v (40 * m) (Lib.byteCells ((List.range m).flatMap fun i => viewG P L t (a + i : Nat))) ∧ RvAt w' lo V Y U t (rput S (a, m)) (n + m) ∧ RrX w w' V := by
 have hme : MayE a m := by unfold MayE; omega
 have g0 := heap_new w (.cells #[.int .i64 a, .int .i64 m] 79)
 have k0 : Chg [] w (w.alloc (.cells #[.int .i64 a, .int .i64 m] 79)) := Chg.alloc w _
 obtain ⟨sv, rv, xs, hV, hE, hR⟩ := h
 have hV1 := k0.heap hV (by simp)
 have a0 : (w.alloc (.cells #[.int .i64 a, .int .i64 m] 79)).cell? ⟨w.heap.size, 0, none⟩ = some (.int .i64 a) := cell_is g0 0 rfl
 have a1 : (w.alloc (.cells #[.int .i64 a, .int .i64 m] 79)).cell? ⟨w.heap.size, 1, none⟩ = some (.int .i64 m) := cell_is g0 1 rfl
 have v0 : (w.alloc (.cells #[.int .i64 a, .int .i64 m] 79)).cell? ⟨V, 0, none⟩ = some (.pointer (some ⟨Y, 0, none⟩)) := cell_is hV1 0 rfl
 have HI := Lib.hid (rin_any (w.alloc (.cells #[.int .i64 a, .int .i64 m] 79)).drew ((hY.keep k0).keep (Chg.refl [] _).drew) hme (by omega))
 have HH := Lib.hid (And.intro hE (And.intro hR (And.intro hU (And.intro hY (And.intro hSi (And.intro k0 hV))))))
 have hm2 : ¬ (m : Int) < 1 := by omega
 have hm3 : ¬ (16 : Int) < m := by omega
 clear hE hR hU hY hSi k0 hV
 go_enter Tryz.func97, Tryz.ntmps97
 go_wp2_with fail
 generalize w.alloc (.cells #[.int .i64 a, .int .i64 m] 79) = w1 at *
 generalize hz : w.heap.size = z at *
 go_region_held3 (fun wx => wx.cell? ⟨z, 0, none⟩ = some (.int .i64 a) ∧ wx.cell? ⟨z, 1, none⟩ = some (.int .i64 m) ∧ wx.cell? ⟨V, 0, none⟩ = some (.pointer (some ⟨Y, 0, none⟩)))
  (first | (exact ⟨a0, a1, v0⟩) | (exact ⟨k2.cell a0 (by simp), k2.cell a1 (by simp), k2.cell v0 (by simp)⟩))
  (first | (go_at_call 166; refine HI.out.mono ?_; rintro e w2 ⟨rfl, k2⟩))
 have kk2 : Chg [] w1 w2 := (Chg.refl [] w1).drew.then k2
 have g2 := kk2.heap g0 (by simp)
 have hV2 := kk2.heap hV1 (by simp)
 have a0 : w2.cell? ⟨z, 0, none⟩ = some (.int .i64 a) := cell_is g2 0 rfl
 have a1 : w2.cell? ⟨z, 1, none⟩ = some (.int .i64 m) := cell_is g2 1 rfl
 have hk : Chg [] w w2 := HH.out.2.2.2.2.2.1.then kk2
 have kx : Chg [] w2 (w2.drew.alloc (.cells #[.int .i64 a, .int .i64 m] 79)) := (Chg.refl [] w2).drew.then_alloc _
 have kx0 := heap_new w2.drew (.cells #[.int .i64 a, .int .i64 m] 79)
 have hVz : V ≠ z := by
  intro e
  rw [e] at hV2
  rw [g2] at hV2
  cases hV2
 have hSp : Sp (w2.drew.alloc (.cells #[.int .i64 a, .int .i64 m] 79)) w2.drew.heap.size 0 [((a : Int), (m : Int))] := fun j u hu => by
  match j with
  | 0 => cases hu; exact cell_is kx0 0 rfl
  | 1 => cases hu; exact cell_is kx0 1 rfl
  | j + 2 => simp [spCells] at hu
 have hlen : ((rput S ((a : Int), (m : Int))).length : Int) ≤ 64 := by
  have := rput_len S ((a : Int), (m : Int))
  omega
 have HA := Lib.hid (radd_one (w2.drew.alloc (.cells #[.int .i64 a, .int .i64 m] 79)) (B := V) (o := 3) (c := 1) (kx.heap hV2 (by simp)) rfl rfl ((ExR.own HH.out.1 rfl).keep (hk.then kx)) (by omega) HH.out.2.2.2.2.1 hme hSp hlen)
 clear g0 hV1 v0 kk2 k2 kx0 hSp hlen
 go_wp2_with fail
 go_region_held3 (fun wx => wx.cell? ⟨z, 0, none⟩ = some (.int .i64 a) ∧ wx.cell? ⟨z, 1, none⟩ = some (.int .i64 m))
  (first | (exact ⟨a0, a1⟩) | (exact ⟨kx.cell a0 (by simp), kx.cell a1 (by simp)⟩) | (exact ⟨k3.cell (kx.cell a0 (by simp)) (by simpa using hVz.symm), k3.cell (kx.cell a1 (by simp)) (by simpa using hVz.symm)⟩))
  (first | (go_at_call 167; refine HA.out.mono ?_; rintro e w3 ⟨rfl, sv', hV3, k3, ho3⟩))
 have hk3 : Chg [V] w w3 := (((hk.then kx).mono (fun x hx _ => by cases hx)).then k3)
 have hV3' : w3.heap[V]? = some (.cells #[.pointer (some ⟨Y, 0, none⟩), .pointer (some ⟨U, 0, none⟩), .int .i64 t, .int .i64 64, sv', rv] 180 (0, 0)) := hV3
 have hE3 : w3.ownsRow lo 79 2 sv' (rput S ((a : Int), (m : Int))).length (spCells (rput S ((a : Int), (m : Int)))) := own_low ho3 (by have := (hk.then kx).size; omega)
 have H3 := Lib.hid (And.intro hV3' (And.intro hE3 hk3))
 have gz3 := k3.heap (kx.heap g2 (by simp)) (by simpa using hVz.symm)
 clear hV3 hV3' hE3 hk3 ho3 hk kx a0 a1 g2 hV2 HA HI k3
 go_wp2_with fail
 obtain ⟨zb, hzb⟩ : ∃ zb, zb = w3.heap.size := ⟨_, rfl⟩
 have hV3 := H3.out.1
 have hRo : w3.ownsRow lo 255 3 rv n xs := own_kp HH.out.2.1 H3.out.2.2 (fun g hg hm => by
  rw [List.mem_singleton] at hm
  obtain ⟨-, cs, hh⟩ := own_elem HH.out.2.1 hg
  rw [hm, HH.out.2.2.2.2.2.2] at hh
  cases hh)
 have hAv : ∀ T : List Nat, (∀ x ∈ T, x < w3.heap.size → x = V ∨ rv.ownBlock = some x) → Av w3 T [173, 5, 50, 247, 259, 79] := fun T hT x hx cs t fr hh => by
  rcases hT x hx (heap_lt hh) with rfl | hr
  ·rw [hV3] at hh
   cases hh
   decide
  ·obtain ⟨-, cs', hh'⟩ := own_elem hRo hr
   rw [hh] at hh'
   cases hh'
   decide
 have hU3 : RbAt w3 U P := HH.out.2.2.1.keepA H3.out.2.2 (Av.row HH.out.2.2.2.2.2.2 (by decide))
 have hY3 : RyAt w3 Y L last := HH.out.2.2.2.1.keepA H3.out.2.2 (Av.row HH.out.2.2.2.2.2.2 (by decide))
 have HL := Lib.hid (And.intro hRo (And.intro hAv (And.intro hU3 (And.intro hY3 gz3))))
 clear hV3 hRo hAv hU3 hY3 gz3
 go_loopw [6, 7, 8, 9] (fun ov iv _ _ wr => ∃ (i : Nat) (rv' : Value) (xs' : List Value) (T : List Nat), iv = .int .i64 i ∧ i ≤ m ∧ wr.ownsRow zb 5 1 ov (40 * i) (Lib.byteCells ((List.range i).flatMap fun i => viewG P L t (a + i : Nat))) ∧
  wr.heap[V]? = some (.cells #[.pointer (some ⟨Y, 0, none⟩), .pointer (some ⟨U, 0, none⟩), .int .i64 t, .int .i64 64, sv', rv'] 180 (0, 0)) ∧ wr.ownsRow lo 255 3 rv' (n + i) xs' ∧ Chg T w3 wr ∧ (∀ x ∈ T, x < w3.heap.size → x = V ∨ rv.ownBlock = some x) ∧ (∀ x, rv'.ownBlock = some x → x < w3.heap.size → rv.ownBlock = some x)) (fun _ iv _ _ _ => m - (intOf iv).toNat)
 case atStart => exact ⟨0, rv, xs, [], rfl, Nat.zero_le _, World.ownsRow_nil _ _ _ _, H3.out.1, HL.out.1, Chg.refl _ _, fun x hx => (by cases hx), fun x hx _ => hx⟩
 case round =>
  obtain ⟨i, rv', xs', T, rfl, hi, ho, hVr, hRr, kT, hT, hrb⟩ := hrel
  have hAT := HL.out.2.1 T hT
  have gzr := kT.heap HL.out.2.2.2.2 (hAT.ne HL.out.2.2.2.2 (by simp))
  have b0 : wr.cell? ⟨z, 0, none⟩ = some (.int .i64 a) := cell_is gzr 0 rfl
  have b1 : wr.cell? ⟨z, 1, none⟩ = some (.int .i64 m) := cell_is gzr 1 rfl
  clear gzr
  by_cases hlt : i < m
  ·have hlti : (i : Int) < m := by omega
   have v0 : wr.cell? ⟨V, 0, none⟩ = some (.pointer (some ⟨Y, 0, none⟩)) := cell_is hVr 0 rfl
   have v1 : wr.cell? ⟨V, 1, none⟩ = some (.pointer (some ⟨U, 0, none⟩)) := cell_is hVr 1 rfl
   have v2 : wr.cell? ⟨V, 2, none⟩ = some (.int .i64 t) := cell_is hVr 2 rfl
   have hUr := HL.out.2.2.1.keepA kT (fun x hx cs t fr hh hm => hAT x hx cs t fr hh (by simp at hm; rcases hm with rfl | rfl | rfl <;> simp))
   have hYr := HL.out.2.2.2.1.keepA kT (fun x hx cs t fr hh hm => hAT x hx cs t fr hh (by simp at hm; rcases hm with rfl | rfl | rfl <;> simp))
   have hw : IntKind.i64.wrap ((a : Int) + (i : Int)) = (a : Int) + (i : Int) := by rw [IntKind.wrap_i64]; omega
   have HB := Lib.hid (rbuf_get2 wr.drew (hUr.keep (Chg.refl [] wr).drew) hP hw)
   have HM := Lib.hid (fun wx (hx : Chg [] wr wx) => rmap_get2 wx (t := t) (hYr.keep hx) hL (by omega) (by omega) hw)
   have HX := Lib.hid (And.intro ho (And.intro hVr (And.intro hRr (And.intro kT (And.intro hT hrb)))))
   have HVr : Hid (V ∉ rv'.ownBlock.toList) := Lib.hid (fun hm => by
    obtain ⟨-, cs, hh⟩ := own_elem hRr (show rv'.ownBlock = some V by simpa using hm)
    rw [hVr] at hh
    cases hh)
   have HB0 := Lib.hid b0
   clear ho hVr hRr kT hT hrb hAT hUr hYr hw
   go_wp2_with fail
   go_region_held3 (fun wx => wx.cell? ⟨z, 0, none⟩ = some (.int .i64 a) ∧ wx.cell? ⟨V, 1, none⟩ = some (.pointer (some ⟨U, 0, none⟩)))
    (first | (exact ⟨b0, v1⟩))
    (first | (go_at_call 168; refine HB.out.mono ?_; rintro e w4 ⟨xv, rfl, rfl, hxv⟩))
   obtain ⟨r, hr⟩ : ∃ r, r = bufG P ((a : Int) + (i : Int)) := ⟨_, rfl⟩
   rw [← hr] at hxv ⊢
   have HR := Lib.hid (And.intro hr hxv)
   clear hr hxv HB
   go_upto_if 51 with fail
   go_cut [8] from 52 to 68 (fun xv wx => Chg [] wr wx ∧ DatX wx xv (viewG P L t ((a : Int) + (i : Int))))
   case first =>
    cases r with
    | none =>
     go_wp2_with fail
     have kd : Chg [] wr wr.drew := (Chg.refl [] wr).drew
     go_region_held3 (fun wx => wx.cell? ⟨z, 0, none⟩ = some (.int .i64 a) ∧ wx.cell? ⟨V, 0, none⟩ = some (.pointer (some ⟨Y, 0, none⟩)) ∧ wx.cell? ⟨V, 2, none⟩ = some (.int .i64 t))
      (first | (exact ⟨b0, v0, v2⟩) | (exact ⟨k5.cell b0 (by simp), k5.cell v0 (by simp), k5.cell v2 (by simp)⟩))
      (first | (go_at_call 169; refine (HM.out _ (by first | exact kd | exact kd.drew)).mono ?_; rintro e w5 ⟨v5, rfl, k5, hd5⟩))
     have K5 : Chg [] wr w5 := by first | exact kd.then k5 | exact kd.drew.then k5
     go_wp2_with fail
     go_meet
     exact ⟨K5, by unfold viewG; rw [← HR.out.1]; exact hd5⟩
    | some x =>
     go_wp2_with fail
     go_meet
     exact ⟨(Chg.refl [] wr).drew, by unfold viewG; rw [← HR.out.1]; exact HR.out.2 x rfl⟩
   case rest =>
    obtain ⟨K5, hd5⟩ := hcut
    have hV5 := K5.heap HX.out.2.1 (by simp)
    have b5 : wc.cell? ⟨z, 0, none⟩ = some (.int .i64 a) := K5.cell b0 (by simp)
    have v5r : wc.cell? ⟨V, 5, none⟩ = some rv' := cell_is hV5 5 rfl
    have b5d : wc.drew.cell? ⟨z, 0, none⟩ = some (.int .i64 a) := b5
    have v5d : wc.drew.cell? ⟨V, 5, none⟩ = some rv' := v5r
    have b5a : ∀ o, (wc.alloc o).cell? ⟨z, 0, none⟩ = some (.int .i64 a) := fun o => (Chg.alloc (S := []) wc o).cell b5 (by simp)
    have v5a : ∀ o, (wc.alloc o).cell? ⟨V, 5, none⟩ = some rv' := fun o => (Chg.alloc (S := []) wc o).cell v5r (by simp)
    clear b0 b1 v0 v1 v2
    go_wp2_with fail
    have hz5 : (wc.alloc (.cells #[] 5)).drew.heap[wc.heap.size]? = some (.cells #[] 5 (0, 0)) := heap_new wc _
    have ka : Chg [] wr (wc.alloc (.cells #[] 5)).drew := (K5.then_alloc _).drew
    obtain ⟨v6, w6, hrun, k6, hd6⟩ := run_copy40 _ 47 hz5 (hd5.keep ((Chg.refl [] wc).then_alloc (.cells #[] 5)).drew)
    have hd56 : DatX w6 u8 (viewG P L t ((a : Int) + (i : Int))) := by
     have h1 := hd5.keep ((Chg.refl [] wc).then_alloc (.cells #[] 5)).drew
     obtain ⟨g5, o5, c5, e5, q1, q2, q3, q4⟩ := h1
     have hne : g5 ∉ [wc.heap.size] := by
      obtain ⟨g5', o5', c5', e5', -, -, -, cs, hh⟩ := hd5
      rw [e5] at e5'
      cases e5'
      have := heap_lt hh
      simp
      omega
     exact ⟨g5, o5, c5, e5, q1, q2, q3.chgT k6 hne, q4.keep k6 hne⟩
    have hV6 := k6.heap (ka.heap HX.out.2.1 (by simp)) (by have := heap_lt hV5; simp; omega)
    have hR6 : w6.ownsRow lo 255 3 rv' (n + i) xs' := own_kp (own_kp HX.out.2.2.1 ka (fun g hg hm => by cases hm)) k6 (fun g hg hm => by
     obtain ⟨-, cs, hh⟩ := own_elem HX.out.2.2.1 hg
     have := heap_lt hh
     have := K5.size
     rw [List.mem_singleton] at hm
     omega)
    have hK6 : Chg [] wr w6 := ka.trans k6 (fun x hx hlt => by
     have := K5.size
     rw [List.mem_singleton] at hx
     omega)
    have hlo6 : lo ≤ w6.heap.size := by
     have h1 := hK6.size
     have h2 := HX.out.2.2.2.1.size
     have h3 := H3.out.2.2.size
     omega
    obtain ⟨g6, o6, c6, rfl, hd6⟩ := hd6
    have b6 : w6.cell? ⟨z, 0, none⟩ = some (.int .i64 a) := hK6.cell HB0.out (by simp)
    have r6 : w6.cell? ⟨V, 5, none⟩ = some rv' := cell_is hV6 5 rfl
    have r6a : ∀ o, (w6.alloc o).cell? ⟨V, 5, none⟩ = some rv' := fun o => (Chg.alloc (S := []) w6 o).cell r6 (by simp)
    obtain ⟨ii, hi0, hz0, hz1, hz2⟩ := info_parts infRd
    obtain ⟨E, hE⟩ : ∃ E : Array Value, E = #[.int .i64 (IntKind.i64.wrap ((a : Int) + (i : Int))), .slice (some ⟨g6, o6, none⟩) 40 c6, .bool r.isSome] := ⟨_, rfl⟩
    have hnew := heap_new w6 (.cells E 255)
    have hal : ∀ j u, E.toList[j]? = some u → (w6.alloc (.cells E 255)).cell? ((⟨w6.heap.size, 0, none⟩ : Addr).add j) = some u := fun j u hu => by
     rw [add_lit, Nat.zero_add]
     exact cell_is hnew j (by simpa using hu)
    obtain ⟨v7, w7, hrun7, ho7, hg7, -, hb7⟩ := run_append_own_at (P := Tryz.prog) (w6.alloc (.cells E 255)) lo 178 178 255 ii _ 3 40 tyRd hi0 hz0 hz1 hz2 rfl (by decide) rv' (n + i) xs' (hR6.alloc _) ⟨w6.heap.size, 0, none⟩ 1 1 E.toList (by rw [hE]; rfl) hal (by rw [hE]; simp [Value.oneCell']) (by unfold maxLen; omega) (by omega) (by have := (Chg.alloc (S := []) w6 (.cells E 255)).size; omega)
    have kb7 : Chg rv'.ownBlock.toList (w6.alloc (.cells E 255)) w7 := Chg.own hg7 (fun g hg _ => by simp [hg])
    have hV7 := kb7.heap ((Chg.alloc (S := []) w6 (.cells E 255)).heap hV6 (by simp)) HVr.out
    have c7 := cell_is hV7 5 rfl
    have f7 := unfrozen hV7 5
    obtain ⟨p7, q7, rfl, hq7⟩ := own_form ho7
    have H7 := Lib.hid (And.intro ho7 (And.intro hb7 (And.intro kb7 (And.intro hV7 (And.intro hK6 hd56)))))
    clear hal hnew ho7 hb7 hg7 kb7 hV7 hK6 hd6 hd56
    subst hE
    go_upto_region 14 with fail
    go_cut [] from 68 to 86 (fun wx => wx = w7.setCell ⟨V, 5, none⟩ (.slice p7 (n + i + 1) q7))
    case first =>
     go_region_law
      (first
       | (refine step_append_run rfl (.tmp 77) (.tmp 78) 47 47 rfl _ _ rfl rfl _ w6 hrun ?_)
       | (refine step_append_run rfl (.tmp 72) (.tmp 82) 178 178 rfl _ _ rfl rfl _ w7 hrun7 ?_))
     all_goals
      go_wp2_with fail
      go_meet
      rfl
    case rest =>
     obtain ⟨ho7, hb7, kb7, hV7, hK6, hd56⟩ := H7.out
     subst hcut
     have kV : Chg [V] w7 (w7.setCell ⟨V, 5, none⟩ (.slice p7 (n + i + 1) q7)) := Chg.set w7 V 5 _
     have ka6 : Chg [] w6 (w6.alloc (.cells #[.int .i64 (IntKind.i64.wrap ((a : Int) + (i : Int))), .slice (some ⟨g6, o6, none⟩) 40 c6, .bool r.isSome] 255)) := Chg.alloc w6 _
     have hV8 := heap_set hV7 5 (.slice p7 (n + i + 1) q7) rfl
     have hV6a := ka6.heap hV6 (by simp)
     have hR6a := own_kp hR6 ka6 (fun g hg hm => by cases hm)
     have av7 : Av (w6.alloc (.cells #[.int .i64 (IntKind.i64.wrap ((a : Int) + (i : Int))), .slice (some ⟨g6, o6, none⟩) 40 c6, .bool r.isSome] 255)) rv'.ownBlock.toList [5] := fun x hx cs t fr hh => by
      obtain ⟨-, cs', hh'⟩ := own_elem hR6a (show rv'.ownBlock = some x by simpa using hx)
      rw [hh] at hh'
      cases hh'
      decide
     have hd8 := ((hd56.keep ka6).keepA kb7 av7).keepA kV (Av.row hV7 (by decide))
     have ho8 : (w7.setCell ⟨V, 5, none⟩ (.slice p7 (n + i + 1) q7)).ownsRow zb 5 1 u6 (40 * i) (Lib.byteCells ((List.range i).flatMap fun i => viewG P L t (a + i : Nat))) := by
      refine own_kp (own_kp (own_kp (own_kp HX.out.1 hK6 (fun g hg hm => by cases hm)) ka6 (fun g hg hm => by cases hm)) kb7 (fun g hg hm => ?_)) kV (fun g hg hm => ?_)
      ·obtain ⟨-, cs, hh⟩ := own_elem (own_kp (own_kp HX.out.1 hK6 (fun g hg hm => by cases hm)) ka6 (fun g hg hm => by cases hm)) hg
       exact av7 g hm _ _ _ hh (by simp)
      ·obtain ⟨-, cs, hh⟩ := own_elem HX.out.1 hg
       rw [List.mem_singleton] at hm
       rw [hm, HX.out.2.1] at hh
       cases hh
     obtain ⟨gx, ox, cx, rfl, hcx, hlx, hbx, -⟩ := hd8
     have hR8 := own_kp ho7 kV (fun g hg hm => by
      obtain ⟨-, cs, hh⟩ := own_elem ho7 hg
      rw [List.mem_singleton] at hm
      rw [hm, hV7] at hh
      cases hh)
     have hzb8 : zb ≤ (w7.setCell ⟨V, 5, none⟩ (.slice p7 (n + i + 1) q7)).heap.size := by
      have h1 := HX.out.2.2.2.1.size
      have h2 := hK6.size
      have h3 := ka6.size
      have h4 := kb7.size
      have h5 := kV.size
      omega
     have H8 := Lib.hid (And.intro hV8 (And.intro hR8 (And.intro hlx (And.intro hbx (And.intro ka6 kV)))))
     have HO8 := Lib.hid ho8
     clear hV8 hR8 hV6a hR6a av7 ho8 hV7 ho7 hd56
     generalize hw8 : w7.setCell ⟨V, 5, none⟩ (.slice p7 (n + i + 1) q7) = w8 at *
     go_wp2_with (at_builtin; refine wpList_append_bs rfl (.tmp 86) (.tmp 87) 47 5 rfl ty23 inf5c zb u6 (40 * i) _ rfl HO8.out (some ⟨gx, ox, none⟩) 40 cx _ rfl H8.out.2.2.1 H8.out.2.2.2.1 (by omega) hzb8 ?_; intro v9 w9 hap9)
     have k9 : Chg u6.ownBlock.toList w8 w9 := Chg.own hap9.2.2 (fun g hg _ => by simp [hg])
     have H9 := Lib.hid (And.intro hap9.1 k9)
     clear hap9 k9
     go_wp2_with fail
     go_roundw
     case rel =>
      obtain ⟨ho9, k9⟩ := H9.out
      obtain ⟨hV8, hR8, -, -, ka6, kV⟩ := H8.out
      obtain ⟨ho, hVr, hRr, kT, hT, hrb⟩ := HX.out
      have hzr := kT.size
      have hz6 := hK6.size
      have hz7 := ka6.size
      have hu : ∀ g, u6.ownBlock = some g → w3.heap.size ≤ g ∧ ∃ cs, w8.heap[g]? = some (.cells cs 5 (0, 0)) := fun g hg => by
       obtain ⟨h1, cs, h2⟩ := own_elem HO8.out hg
       exact ⟨by omega, cs, h2⟩
      have hV9 := k9.heap hV8 (fun hm => by
       obtain ⟨-, cs, hh⟩ := hu V (by simpa using hm)
       rw [hV8] at hh
       cases hh)
      have hR9 := own_kp hR8 k9 (fun g hg hm => by
       obtain ⟨-, cs, hh⟩ := hu g (by simpa using hm)
       obtain ⟨-, cs', hh'⟩ := own_elem hR8 hg
       rw [hh] at hh'
       cases hh')
      have e1 : ((List.range (i + 1)).flatMap fun i => viewG P L t (a + i : Nat)) = ((List.range i).flatMap fun i => viewG P L t (a + i : Nat)) ++ viewG P L t ((a : Int) + (i : Int)) := by
       rw [List.range_succ, List.flatMap_append, List.flatMap_singleton]
       congr 2
      have e2 : 40 * (i + 1) = 40 * i + 40 := by omega
      refine ⟨i + 1, _, _, V :: (rv'.ownBlock.toList ++ (T ++ u6.ownBlock.toList)), by go_num, hlt, ?_, hV9, hR9, ?_, fun x hx hl => ?_, fun x hx hl => ?_⟩
      ·rw [e1, e2]
       exact ho9
      ·exact (((((kT.mono (fun x hx _ => by simp [hx])).then (hK6.mono (fun x hx _ => by cases hx))).then (ka6.mono (fun x hx _ => by cases hx))).then (kb7.mono (fun x hx _ => by simp only [List.mem_cons, List.mem_append]; exact Or.inr (Or.inl hx)))).then (kV.mono (fun x hx _ => by rw [List.mem_singleton] at hx; simp [hx]))).then (k9.mono (fun x hx _ => by simp only [List.mem_cons, List.mem_append]; exact Or.inr (Or.inr (Or.inr hx))))
      ·simp only [List.mem_cons, List.mem_append] at hx
       rcases hx with rfl | hx | hx | hx
       ·exact Or.inl rfl
       ·exact Or.inr (hrb x (by simpa using hx) hl)
       ·exact hT x hx hl
       ·have := (hu x (by simpa using hx)).1
        omega
      ·rcases hb7 with e | e
       ·exact hrb x (e.symm.trans hx) hl
       ·have e1 := e.symm.trans hx
        have e2 := Option.some.inj e1
        omega
     case measure => simp [intOf]; omega
  ·obtain rfl : i = m := by omega
   have hF : RvAt wr lo V Y U t (rput S ((a : Int), (i : Int))) (n + i) ∧ RrX w wr V := by
    have h3 := H3.out
    refine ⟨⟨sv', rv', xs', hVr, own_kp h3.2.1 kT (fun g hg hm => ?_), hRr⟩, rv, rv', V :: T, cell_is HH.out.2.2.2.2.2.2 5 rfl, cell_is hVr 5 rfl, (h3.2.2.mono (fun x hx _ => by rw [List.mem_singleton] at hx; simp [hx])).then (kT.mono (fun x hx _ => List.mem_cons_of_mem _ hx)), fun x hx hl => ?_, fun g hg hl => ?_⟩
    ·obtain ⟨-, cs, hh⟩ := own_elem h3.2.1 hg
     exact hAT g hm _ _ _ hh (by simp)
    ·rcases List.mem_cons.1 hx with e | hx
     ·exact Or.inl e
     ·exact hT x hx (Nat.lt_of_lt_of_le hl h3.2.2.size)
    ·exact hrb g hg (Nat.lt_of_lt_of_le hl h3.2.2.size)
   have HX := Lib.hid (And.intro ho (And.intro hF H3.out.2.2.size))
   clear ho hVr hRr kT hT hrb hAT hF
   go_wp2_with fail
   go_ret2
   exact ⟨_, rfl, own_low HX.out.1 (by have := HX.out.2.2; omega), HX.out.2.1.1, HX.out.2.1.2⟩
end Go.Proofs.YtelakcjbknbehaaGreat
-- Fh
namespace Go.Proofs.YtelakcjbknbehaaGreat
open Go.RowKit Go.Lib

theorem own_last {w : World} {base e n : Nat} {v k : Value} {xs : List Value} (h : w.ownsRow base e 1 v (n + 1) (xs ++ [k])) : ∃ g c, v = .slice (some ⟨g, 0, none⟩) (n + 1) c ∧ n + 1 ≤ c ∧ w.cell? ⟨g, n, none⟩ = some k := by
 have hx : xs.length = n := by have := h.1; simp at this; omega
 rcases h.2 with ⟨e, h0⟩ | ⟨g, cap, cur, e, hA, hg, h1, h2, h3, h4⟩
 ·omega
 ·refine ⟨g, cap, e, h1, ?_⟩
  have h5 := congrArg (fun l => l[n]?) h4
  simp only [List.getElem?_take] at h5
  rw [if_pos (by omega), List.getElem?_append_right (by omega), hx, Nat.sub_self] at h5
  unfold World.cell?
  rw [hg]
  simpa using h5
set_option maxRecDepth 100000 in
set_option maxHeartbeats 2000000 in
theorem ropen_last (w : World) {lo G Y D V U n : Nat} {hv tv Tv qv qhv : Value} {xs : List Value} {nn num giv dn out tm cd : Int} (h : RmS w G Y hv tv Tv qv qhv nn num giv dn out) (hT : w.ownsRow lo 163 1 Tv (n + 1) (xs ++ [.pointer (some ⟨D, 0, none⟩)])) (hD : RtAt w D V U 1 tm cd) (hn : n ≤ 100000) :
  Calls Tryz.prog 96 #[.pointer (some ⟨G, 0, none⟩), .int .i64 (n + 1 : Nat)] w fun e w' => e = .returned (.pointer (some ⟨D, 0, none⟩)) ∧ w = w' := by
 obtain ⟨g, c, rfl, hc, hk⟩ := own_last hT
 have c5 : w.cell? ⟨G, 5, none⟩ = some (.slice (some ⟨g, 0, none⟩) (n + 1) c) := cell_is h 5 rfl
 have d0 : w.cell? ⟨D, 0, none⟩ = some (.int .i64 1) := cell_is hD 0 rfl
 clear h hT hD
 have q0 : decide (((n + 1 : Nat) : Int) < 1) = false := decide_eq_false (by omega)
 go_enter Tryz.func96, Tryz.ntmps96
 go_wp2_with fail
 go_ret
 exact ⟨rfl, rfl⟩
end Go.Proofs.YtelakcjbknbehaaGreat
